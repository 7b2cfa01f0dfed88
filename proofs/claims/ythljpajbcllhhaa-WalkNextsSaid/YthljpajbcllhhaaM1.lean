/- Contracts and what they hang on, of several parts. No condition. -/
import Derived.WalkKit
import Derived.WalkSpells
import Derived.WalkLawsBesides
import Derived.Deep.Quiet
import Derived.OrdersHeld
import Derived.Laws.StructEq
import Derived.Maps.AppendAt
import Derived.Laws.MakeOwn
import Derived.Laws.IdiomStrings
import Derived.ProofKit
import Derived.OpenShut
import Derived.ShutString
import Derived.ChangeOld
import Derived.Carry
import Derived.Laws.Externs
import Derived.Lib.Bytealg
import Derived.SizedLaws
import Derived.JoinedCond
import Derived.Deep.CondSized
import Derived.Maps.Keyed
import Derived.DeepKeys3
import Derived.ChangeMaps4
namespace Go.Gx
open Go.RowKit
abbrev Env := List (Nat × Value)
def lk : Env → Nat → Option Value
 | [], _ => none
 | (k, v) :: r, x => match Nat.beq k x with
  | true => some v
  | false => lk r x
theorem lk_cons (k : Nat) (v : Value) (r : Env) (x : Nat) : lk ((k, v) :: r) x = if k = x then some v else lk r x := by
 show (match Nat.beq k x with | true => some v | false => lk r x) = _
 by_cases h : k = x
 ·subst h; simp
 ·have : Nat.beq k x = false := by
   cases hb : Nat.beq k x
   ·rfl
   ·exact absurd (Nat.eq_of_beq_eq_true hb) h
  simp [this, h]
structure Ag (n : Nat) (a : Act) (env : Env) : Prop where
 df : a.defers = []
 sz : a.tmps.size = n
 at_ : ∀ x v, lk env x = some v → a.tmps.getD x undef = v
theorem Ag.put {n : Nat} {a : Act} {env : Env} (h : Ag n a env) {d : Nat} (hd : d < n) (v : Value) : Ag n (a.put (some d) v) ((d, v) :: env) := by
 refine ⟨h.df, by simp [Act.put, h.sz], fun x u hx => ?_⟩
 rw [lk_cons] at hx
 by_cases hk : d = x
 ·subst hk
  simp only [if_true, Option.some.injEq] at hx
  subst hx
  simp [Act.put, h.sz, hd]
 ·rw [if_neg hk] at hx
  have := h.at_ x u hx
  simp only [Act.put, Array.getD_eq_getD_getElem?, Array.getElem?_setIfInBounds_ne hk] at this ⊢
  exact this
theorem Ag.sub {n : Nat} {a : Act} {env : Env} (h : Ag n a env) (env' : Env) (hs : ∀ p ∈ env', lk env p.1 = some p.2) : Ag n a env' := by
 refine ⟨h.df, h.sz, fun x v hx => h.at_ x v ?_⟩
 clear h
 induction env' with
 | nil => cases hx
 | cons p r ih =>
  obtain ⟨k, u⟩ := p
  rw [lk_cons] at hx
  by_cases hk : k = x
  ·subst hk
   simp only [if_true, Option.some.injEq] at hx
   subst hx
   exact hs (k, u) (by simp)
  ·rw [if_neg hk] at hx
   exact ih (fun q hq => hs q (List.mem_cons_of_mem _ hq)) hx
def evT (env : Env) : Operand → Value
 | .tmp t => (lk env t).getD undef
 | .const v => v
 | .global g => .pointer (some ⟨g, 0, none⟩)
 | .func f => .func (.func f) #[] #[]
def known (env : Env) : Operand → Bool
 | .tmp t => (lk env t).isSome
 | _ => true
theorem Ag.eval {n : Nat} {a : Act} {env : Env} (h : Ag n a env) {x : Operand} (hk : known env x = true) : a.eval x = evT env x := by
 cases x with
 | tmp t =>
  simp only [known] at hk
  obtain ⟨v, hv⟩ := Option.isSome_iff_exists.1 hk
  simp [Act.eval, evT, hv, h.at_ t v hv]
 | _ => rfl
def notSel : Op → Bool
 | .select .. => false
 | _ => true
def okOp (env : Env) (o : Oper) : Bool := notSel o.op && o.op.operands.toList.all (known env)
theorem Ag.exec {n : Nat} {a : Act} {env : Env} (h : Ag n a env) {o : Oper} (hk : okOp env o = true) : execOp a.eval o = execOp (evT env) o := by
 simp only [okOp, Bool.and_eq_true] at hk
 refine execOp_congr o (fun cs b e => ?_) fun x hx => h.eval ?_
 ·rw [e] at hk; simp [notSel] at hk
 ·have := List.all_eq_true.1 hk.2 x (by simpa using hx)
  exact this
structure Bx where
 b : Nat
 t : TypeId
 cs : List Value
def BxAt (w : World) (x : Bx) : Prop := w.heap[x.b]? = some (.cells x.cs.toArray x.t (0, 0))
structure Rw where
 v : Value
 e : TypeId
 size : Nat
 n : Nat
 xs : List Value
 own : Bool
abbrev Mem := Nat → Option Obj
def Mem.le (M M' : Mem) : Prop := ∀ b o, M b = some o → M' b = some o
def On (M : Mem) (w : World) : Prop := ∀ b o, M b = some o → w.heap[b]? = some o
theorem Mem.le.refl (M : Mem) : M.le M := fun _ _ h => h
theorem Mem.le.trans {A B C : Mem} (h : A.le B) (k : B.le C) : A.le C := fun b o q => k b o (h b o q)
theorem On.lt {M : Mem} {w : World} (h : On M w) {b : Nat} {o : Obj} (hb : M b = some o) : b < w.heap.size := (Array.getElem?_eq_some_iff.1 (h b o hb)).1
theorem On.noneAt {M : Mem} {w : World} (h : On M w) {b : Nat} (hb : w.heap.size ≤ b) : M b = none := by
 cases hm : M b with
 | none => rfl
 | some o => have := h.lt hm; omega
structure Pres (E : World) (bw : List Nat) (w : World) : Prop where
 os : w.os = E.os
 tape : w.tape = E.tape
 output : w.output = E.output
 size : E.heap.size ≤ w.heap.size
 block : ∀ k, k < E.heap.size → k ∉ bw → w.heap[k]? = E.heap[k]?
theorem Pres.refl (E : World) (bw : List Nat) : Pres E bw E := ⟨rfl, rfl, rfl, Nat.le_refl _, fun _ _ _ => rfl⟩
theorem Pres.below {E w : World} (h : Pres E [] w) : Below E.heap.size E w := ⟨h.os, h.tape, h.output, h.size, fun k hk => h.block k hk (by simp)⟩
structure Cx (M : Mem) (bs : List Bx) (rs : List Rw) (w : World) : Prop where
 on : On M w
 bx : ∀ x ∈ bs, BxAt w x
 rw : ∀ r ∈ rs, ∃ base, w.ownsRow base r.e r.size r.v r.n r.xs
structure Nd (bs : List Bx) (rs : List Rw) : Prop where
 b : (bs.map (·.b)).Nodup
 x : ∀ x ∈ bs, ∀ r ∈ rs, r.v.ownBlock ≠ some x.b
 r : rs.Pairwise fun r s => ∀ g, r.v.ownBlock = some g → s.v.ownBlock ≠ some g
theorem Nd.sub {bs bs' : List Bx} {rs rs' : List Rw} (h : Nd bs rs) (hb : bs'.Sublist bs) (hr : rs'.Sublist rs) : Nd bs' rs' :=
 ⟨h.b.sublist (hb.map _), fun x hx r hr' => h.x x (hb.subset hx) r (hr.subset hr'), h.r.sublist hr⟩
structure Sx (n : Nat) (E : World) (bw : List Nat) (M : Mem) (w : World) (a : Act) (env : Env) (bs : List Bx) (rs : List Rw) : Prop where
 ag : Ag n a env
 on : On M w
 pr : Pres E bw w
 bx : ∀ x ∈ bs, BxAt w x ∧ M x.b = none ∧ (E.heap.size ≤ x.b ∨ x.b ∈ bw)
 rw : ∀ r ∈ rs, w.ownsRow 0 r.e r.size r.v r.n r.xs ∧ ∀ g, r.v.ownBlock = some g → M g = none ∧ (E.heap.size ≤ g ∨ (r.own = false ∧ g ∈ bw))
 nd : Nd bs rs
theorem BxAt.lt {w : World} {x : Bx} (h : BxAt w x) : x.b < w.heap.size := by
 unfold BxAt at h
 rcases Nat.lt_or_ge x.b w.heap.size with h' | h'
 ·exact h'
 ·rw [Array.getElem?_eq_none h'] at h; cases h
theorem BxAt.cell {w : World} {x : Bx} (h : BxAt w x) (i : Nat) : w.cell? ⟨x.b, i, none⟩ = x.cs[i]? := by
 rw [cell_of_row w x.b i x.cs.toArray x.t (0, 0) h]; simp
theorem Sx.cx {n : Nat} {E : World} {bw : List Nat} {M : Mem} {w : World} {a : Act} {env : Env} {bs : List Bx} {rs : List Rw} (h : Sx n E bw M w a env bs rs) : Cx M bs rs w :=
 ⟨h.on, fun x hx => (h.bx x hx).1, fun r hr => ⟨_, (h.rw r hr).1⟩⟩
theorem Sx.act {n : Nat} {E : World} {bw : List Nat} {M : Mem} {w : World} {a a' : Act} {env env' : Env} {bs : List Bx} {rs : List Rw} (h : Sx n E bw M w a env bs rs) (hA : Ag n a' env') : Sx n E bw M w a' env' bs rs :=
 ⟨hA, h.on, h.pr, h.bx, h.rw, h.nd⟩
theorem Sx.sub {n : Nat} {E : World} {bw : List Nat} {M : Mem} {w : World} {a : Act} {env : Env} {bs : List Bx} {rs : List Rw} (h : Sx n E bw M w a env bs rs) (env' : Env) (hs : ∀ p ∈ env', lk env p.1 = some p.2) : Sx n E bw M w a env' bs rs :=
 h.act (h.ag.sub env' hs)
def Yl (P : Program) (env : Env) (M : Mem) (bs : List Bx) (rs : List Rw) (o : Oper) (v : Value) : Prop :=
 okOp env o = true ∧ ∀ w, Cx M bs rs w → (execOp (evT env) o).run P w = .ok (.value v) w
theorem Yl.pure {P : Program} {env : Env} {M : Mem} {bs : List Bx} {rs : List Rw} {o : Oper} {v : Value} (hk : okOp env o = true)
  (h : ∀ w, (execOp (evT env) o).run P w = .ok (.value v) w) : Yl P env M bs rs o v := ⟨hk, fun w _ => h w⟩
theorem Yl.eq {P : Program} {env : Env} {M : Mem} {bs : List Bx} {rs : List Rw} {o : Oper} {v v' : Value} (h : Yl P env M bs rs o v) (e : v = v') : Yl P env M bs rs o v' := e ▸ h
def lkX : List (Nat × (Act → World → Prop)) → Nat → Option (Act → World → Prop)
 | [], _ => none
 | (k, v) :: r, x => match Nat.beq k x with
  | true => some v
  | false => lkX r x
def QQ (N : Act → World → Prop) (X : List (Nat × (Act → World → Prop))) (R : Act → World → Prop) (Z : List PanicEntry → Act → World → Prop) : Exit → Act → World → Prop
 | .normal, a, w => N a w
 | .exit id, a, w => match lkX X id with
  | some K => K a w
  | none => False
 | .ret, a, w => R a w
 | .panic c, a, w => Z c a w
 | _, _, _ => False
def Wp (P : Program) (c : Code) (N : Act → World → Prop) (X : List (Nat × (Act → World → Prop))) (R : Act → World → Prop) (Z : List PanicEntry → Act → World → Prop) (a : Act) (w : World) : Prop :=
 Code.wp P c (QQ N X R Z) a w
section
variable {P : Program} {N J : Act → World → Prop} {X : List (Nat × (Act → World → Prop))} {R : Act → World → Prop} {Z : List PanicEntry → Act → World → Prop} {a : Act} {w : World}
theorem Wp.mono {c : Code} {N' : Act → World → Prop} (hN : ∀ a w, N a w → N' a w) (h : Wp P c N X R Z a w) : Wp P c N' X R Z a w :=
 Code.wp_mono (fun e a w q => by cases e <;> first | exact hN _ _ q | exact q) h
theorem Wp.seq {x y : Code} (h : Wp P x (fun a w => Wp P y N X R Z a w) X R Z a w) : Wp P (.seq x y) N X R Z a w :=
 wp_seq (Code.wp_mono (fun e a w q => by cases e <;> exact q) h)
theorem Wp.join {x y : Code} (J : Act → World → Prop) (h : Wp P x J X R Z a w) (hJ : ∀ a w, J a w → Wp P y N X R Z a w) : Wp P (.seq x y) N X R Z a w :=
 Wp.seq (Wp.mono hJ h)
theorem Wp.skip (h : N a w) : Wp P .skip N X R Z a w := wp_skip h
theorem Wp.ret (h : R a w) : Wp P .ret N X R Z a w := wp_ret h
theorem Wp.exit {id : Nat} {K : Act → World → Prop} (hx : lkX X id = some K) (h : K a w) : Wp P (.exit id) N X R Z a w :=
 wp_exit (by unfold QQ; simp only [hx]; exact h)
theorem Wp.block {id : Nat} {c : Code} (h : Wp P c N ((id, N) :: X) R Z a w) : Wp P (.block id c) N X R Z a w := by
 refine wp_block (Code.wp_mono (fun e a w q => ?_) h)
 cases e with
 | exit i =>
  simp only [QQ, lkX, Exit.inBlock] at q ⊢
  by_cases hi : i = id
  ·subst hi
   have : Nat.beq i i = true := by simp
   simp only [this] at q
   simpa using q
  ·have : Nat.beq id i = false := by
    cases hb : Nat.beq id i
    ·rfl
    ·exact absurd (Nat.eq_of_beq_eq_true hb).symm hi
   simp only [this] at q
   simp only [hi, if_false]
   exact q
 | _ => exact q
theorem Wp.loop {σ : Type} {c : Code} (I : σ → Act → World → Prop) (μ : σ → Nat) (s0 : σ) (h0 : I s0 a w)
  (round : ∀ s a w, I s a w → Wp P c (fun a' w' => ∃ s', I s' a' w' ∧ μ s' < μ s) X R Z a w) : Wp P (.loop c) N X R Z a w := by
 classical
 have least : ∀ m (a : Act) (w : World), (∃ s, I s a w ∧ μ s = m) → ∃ s, I s a w ∧ ∀ s', I s' a w → μ s ≤ μ s' := by
  intro m
  induction m using Nat.strongRecOn with
  | _ m ih =>
   intro a w ⟨s, hs, hm⟩
   by_cases hx : ∃ s', I s' a w ∧ μ s' < m
   ·obtain ⟨s', h1, h2⟩ := hx
    exact ih _ h2 a w ⟨s', h1, rfl⟩
   ·exact ⟨s, hs, fun s' h' => by
     rcases Nat.lt_or_ge (μ s') m with h2 | h2
     ·exact absurd ⟨s', h', h2⟩ hx
     ·omega⟩
 let M : Act → World → Nat := fun a w => if h : ∃ s, I s a w then μ (Classical.choose (least _ a w ⟨_, (Classical.choose_spec h), rfl⟩)) else 0
 have hM : ∀ s a w, I s a w → M a w ≤ μ s := by
  intro s a w hs
  have h : ∃ s, I s a w := ⟨s, hs⟩
  simp only [M, dif_pos h]
  exact (Classical.choose_spec (least _ a w ⟨_, (Classical.choose_spec h), rfl⟩)).2 s hs
 refine wp_loop (fun a w => ∃ s, I s a w) M ⟨s0, h0⟩ (fun a w hI => ?_)
 have hc := Classical.choose_spec (least _ a w ⟨_, (Classical.choose_spec hI), rfl⟩)
 have he : M a w = μ (Classical.choose (least _ a w ⟨_, (Classical.choose_spec hI), rfl⟩)) := by simp only [M, dif_pos hI]
 refine Code.wp_mono (fun e a' w' q => ?_) (round _ a w hc.1)
 cases e with
 | normal =>
  obtain ⟨s', h1, h2⟩ := q
  refine ⟨⟨s', h1⟩, ?_⟩
  rw [he]
  exact Nat.lt_of_le_of_lt (hM s' a' w' h1) h2
 | _ => exact q
theorem Wp.cond {n : Nat} {E : World} {bw : List Nat} {M : Mem} {env : Env} {bs : List Bx} {rs : List Rw} (hs : Sx n E bw M w a env bs rs) {c : Operand} {x y : Code} {b : Bool} {p : Prop}
  (hk : known env c = true) (hc : evT env c = .bool b) (hp : b = true ↔ p) (h1 : p → Wp P x N X R Z a w) (h2 : ¬ p → Wp P y N X R Z a w) : Wp P (.cond c x y) N X R Z a w := by
 refine wp_cond_split (t := b) ((hs.ag.eval hk).trans hc) (fun e => h1 (hp.1 e)) (fun e => h2 fun q => ?_)
 have := hp.2 q
 rw [e] at this
 cases this
theorem Wp.cond_f {n : Nat} {E : World} {bw : List Nat} {M : Mem} {env : Env} {bs : List Bx} {rs : List Rw} (hs : Sx n E bw M w a env bs rs) {c : Operand} {x y : Code}
  (hk : known env c = true) (hc : evT env c = .bool false) (h1 : Wp P y N X R Z a w) : Wp P (.cond c x y) N X R Z a w :=
 wp_cond_false ((hs.ag.eval hk).trans hc) h1
end
def OpW (P : Program) (ρ : Operand → Value) (o : Oper) (w : World) (K : Value → World → Prop) (Z : List PanicEntry → World → Prop) : Prop :=
 match (execOp ρ o).run P w with
 | .ok (.value v) w' => K v w'
 | .ok .skip w' => K undef w'
 | .ok (.enter f args) w' => Calls P f args w' fun
  | .returned v, w'' => K v w''
  | .panicked c, w'' => Z c w''
  | .outgrown, _ => False
 | .halt (.panic v) w' => Z [{ v, recovered := false }] w'
 | _ => False
theorem OpW.upon {P : Program} {o : Oper} {a : Act} {w : World} {next : Act → World → Prop} {Q : Exit → Act → World → Prop} {Z : List PanicEntry → World → Prop}
  (hZ : ∀ c w, Z c w → Q (.panic c) a w)
  (h : OpW P a.eval o w (fun v w' => next (a.put o.dst v) w') Z) : o.wp P a w next Q := by
 unfold OpW at h
 unfold Oper.wp
 generalize (execOp a.eval o).run P w = r at *
 cases r with
 | ok n w' =>
  cases n <;> simp only [Oper.upon] at h ⊢ <;> try exact h
  case enter f args =>
   refine Calls.mono h fun e w'' he => ?_
   cases e with
   | returned v => exact he
   | panicked c => exact hZ _ _ he
   | outgrown => exact he.elim
 | halt x w' => cases x <;> simp only [Oper.upon] at h ⊢ <;> first | exact hZ _ _ h | exact h
section
variable {P : Program} {ops : Array Oper} {Q : Exit → Act → World → Prop} {n : Nat} {E : World} {bw : List Nat} {M : Mem} {w : World} {a : Act} {env : Env} {bs : List Bx} {rs : List Rw} {rest : List Oper} {o : Oper}
theorem stepY (v : Value) {d : Nat} (hs : Sx n E bw M w a env bs rs) (hg : o.guard = none) (hd : o.dst = some d) (hdn : d < n) (hy : Yl P env M bs rs o v)
  (h : ∀ a', Sx n E bw M w a' ((d, v) :: env) bs rs → wpList P ops Q rest a' w) : wpList P ops Q (o :: rest) a w := by
 refine wpList_plain hg fun K hK => ?_
 have he : (execOp a.eval o).run P w = .ok (.value v) w := by rw [hs.ag.exec hy.1]; exact hy.2 w hs.cx
 unfold Oper.wp
 rw [he]
 refine hK _ _ ?_
 rw [hd]
 exact h _ (hs.act (hs.ag.put hdn v))
theorem yielded_of {j t : Nat} {b : Bool} (hs : Sx n E bw M w a env bs rs) (ht : (ops[j]?).bind (·.dst) = some t) (hl : lk env t = some (.bool b)) : yielded ops a.tmps j = some b := by
 have hlt : t < a.tmps.size := by
  rcases Nat.lt_or_ge t a.tmps.size with h' | h'
  ·exact h'
  ·have := hs.ag.at_ t _ hl
   simp [Array.getElem?_eq_none h', undef] at this
 have hat : a.tmps[t]? = some (.bool b) := by
  have := hs.ag.at_ t _ hl
  simp only [Array.getD_eq_getD_getElem?, Array.getElem?_eq_getElem hlt, Option.getD_some] at this ⊢
  rw [this]
 simp [yielded, ht, hat]
theorem step_yes {j t : Nat} {b : Bool} (hs : Sx n E bw M w a env bs rs) (hg : o.guard = some (j, b)) (ht : (ops[j]?).bind (·.dst) = some t) (hl : lk env t = some (.bool b))
  (h : wpList P ops Q ({ o with guard := none } :: rest) a w) : wpList P ops Q (o :: rest) a w := by
 have hw : Region.wanted o (yielded ops a.tmps) = true := by simp [Region.wanted, hg, yielded_of hs ht hl]
 unfold wpList at h ⊢
 rw [if_pos (by simp [Region.wanted])] at h
 rw [if_pos hw]
 exact h
theorem step_no {j t d : Nat} {b c : Bool} (hs : Sx n E bw M w a env bs rs) (hg : o.guard = some (j, b)) (ht : (ops[j]?).bind (·.dst) = some t) (hl : lk env t = some (.bool c)) (hne : (c == b) = false)
  (hd : o.dst = some d) (hdn : d < n) (h : ∀ a', Sx n E bw M w a' ((d, undef) :: env) bs rs → wpList P ops Q rest a' w) : wpList P ops Q (o :: rest) a w := by
 have hw : Region.wanted o (yielded ops a.tmps) = false := by
  simp [Region.wanted, hg, yielded_of hs ht hl]
  simpa using hne
 unfold wpList
 rw [if_neg (by simp [hw]), hd]
 exact h _ (hs.act (hs.ag.put hdn undef))
theorem step_nou {j t d : Nat} {b : Bool} (hs : Sx n E bw M w a env bs rs) (hg : o.guard = some (j, b)) (ht : (ops[j]?).bind (·.dst) = some t) (hl : lk env t = some undef)
  (hd : o.dst = some d) (hdn : d < n) (h : ∀ a', Sx n E bw M w a' ((d, undef) :: env) bs rs → wpList P ops Q rest a' w) : wpList P ops Q (o :: rest) a w := by
 have hy : yielded ops a.tmps j = none := by
  have := hs.ag.at_ t _ hl
  simp only [Array.getD_eq_getD_getElem?] at this
  cases hc : a.tmps[t]? with
  | none => simp [yielded, ht, hc]
  | some u => rw [hc] at this; simp only [Option.getD_some] at this; subst this; simp [yielded, ht, hc, undef]
 have hw : Region.wanted o (yielded ops a.tmps) = false := by simp [Region.wanted, hg, hy]
 unfold wpList
 rw [if_neg (by simp [hw]), hd]
 exact h _ (hs.act (hs.ag.put hdn undef))
theorem Sx.bt {d : Nat} {b : Bool} (hs : Sx n E bw M w a ((d, .bool b) :: env) bs rs) (h : b = true) : Sx n E bw M w a ((d, .bool true) :: env) bs rs := h ▸ hs
theorem Sx.bf {d : Nat} {b : Bool} (hs : Sx n E bw M w a ((d, .bool b) :: env) bs rs) (h : b = false) : Sx n E bw M w a ((d, .bool false) :: env) bs rs := h ▸ hs
end
theorem bsplit {G : Prop} (b : Bool) {p : Prop} (hp : b = true ↔ p) (h1 : b = true → p → G) (h2 : b = false → ¬ p → G) : G := by
 cases hb : b
 ·exact h2 hb fun q => by rw [hp.2 q] at hb; cases hb
 ·exact h1 hb (hp.1 hb)
section
variable {P : Program} {N : Act → World → Prop} {X : List (Nat × (Act → World → Prop))} {R : Act → World → Prop} {Z : List PanicEntry → Act → World → Prop} {a : Act} {w : World}
theorem Wp.region {id : Nat} {l : List Oper} (h : wpList P l.toArray (QQ N X R Z) l a w) : Wp P (.region id l.toArray false) N X R Z a w := wp_region_lit h
theorem Wr.nil {ops : Array Oper} (h : N a w) : wpList P ops (QQ N X R Z) [] a w := h
end
def argEnv : List Value → Nat → Env
 | [], _ => []
 | v :: r, i => (i, v) :: argEnv r (i + 1)
theorem lk_argEnv (l : List Value) : ∀ (i x : Nat) (v : Value), lk (argEnv l i) x = some v → i ≤ x ∧ l[x - i]? = some v := by
 induction l with
 | nil => intro i x v h; cases h
 | cons u r ih =>
  intro i x v h
  rw [argEnv, lk_cons] at h
  by_cases hx : i = x
  ·subst hx; simpa using h
  ·rw [if_neg hx] at h
   obtain ⟨h1, h2⟩ := ih (i + 1) x v h
   refine ⟨by omega, ?_⟩
   obtain ⟨k, rfl⟩ : ∃ k, x = i + 1 + k := ⟨x - (i + 1), by omega⟩
   rw [show i + 1 + k - i = k + 1 by omega]
   rw [show i + 1 + k - (i + 1) = k by omega] at h2
   simpa using h2
theorem enter {P : Program} {f : FuncId} {fn : Func} {c : Code} {l : List Value} {w : World} {Rf : Ending → World → Prop} {M : Mem}
  (hf : P.funcs[f]? = some fn) (hb : fn.body = some c) (n : Nat) (hn : fn.ntmps = n) (hl : l.length ≤ n) (hon : On M w) (lent : List Bx)
  (hlent : ∀ x ∈ lent, BxAt w x ∧ M x.b = none) (hnd : (lent.map (·.b)).Nodup)
  (h : ∀ a, Sx n w (lent.map (·.b)) M w a (argEnv l 0) lent [] → Wp P c (fun a w => bodyPost P fn Rf .normal a w) [] (fun a w => bodyPost P fn Rf .ret a w) (fun ch a w => bodyPost P fn Rf (.panic ch) a w) a w) :
  Calls P f l.toArray w Rf := by
 refine calls_of_wp hf hb ?_
 refine Code.wp_mono (fun e a w q => ?_) (h _ ⟨⟨rfl, ?_, fun x v hx => ?_⟩, hon, Pres.refl _ _, fun x hx => ⟨(hlent x hx).1, (hlent x hx).2, .inr (List.mem_map.2 ⟨x, hx, rfl⟩)⟩, (fun r hr => by cases hr), ⟨hnd, (fun _ _ r hr => by cases hr), List.Pairwise.nil⟩⟩)
 ·cases e <;> first | exact q | exact False.elim q
 ·simp [hn]; omega
 ·obtain ⟨_, h2⟩ := lk_argEnv l 0 x v hx
  simp only [Nat.sub_zero] at h2
  have hx' : x < l.length := by
   rcases Nat.lt_or_ge x l.length with h' | h'
   ·exact h'
   ·rw [List.getElem?_eq_none h'] at h2; cases h2
  simp only [Array.getD_eq_getD_getElem?]
  rw [Array.getElem?_append_left (by simpa using hx')]
  simp [h2]
def grow (M : Mem) (w w' : World) : Mem := fun b => if w.heap.size ≤ b then w'.heap[b]? else M b
theorem grow_le {M : Mem} {w w' : World} (h : On M w) : M.le (grow M w w') := by
 intro b o hb
 have := h.lt hb
 unfold grow
 rw [if_neg (by omega)]
 exact hb
theorem grow_on {M : Mem} {w w' : World} (h : On M w) (hb : ∀ k, k < w.heap.size → (M k).isSome = true → w'.heap[k]? = w.heap[k]?) : On (grow M w w') w' := by
 intro b o ho
 unfold grow at ho
 by_cases hk : w.heap.size ≤ b
 ·rw [if_pos hk] at ho; exact ho
 ·rw [if_neg hk] at ho
  rw [hb b (by omega) (by rw [ho]; rfl)]
  exact h b o ho
def CallE (P : Program) (f : FuncId) (args : Array Value) (M : Mem) (K : Value → Mem → Prop) : Prop :=
 ∀ w, On M w → Calls P f args w fun e w' => ∃ v, e = .returned v ∧ Below w.heap.size w w' ∧ K v (grow M w w')
theorem CallE.mono {P : Program} {f : FuncId} {args : Array Value} {M : Mem} {K K' : Value → Mem → Prop} (h : CallE P f args M K) (hK : ∀ v M', M.le M' → K v M' → K' v M') : CallE P f args M K' :=
 fun w hw => (h w hw).mono fun _ _ ⟨v, h1, h2, h3⟩ => ⟨v, h1, h2, hK v _ (grow_le hw) h3⟩
theorem enterE {P : Program} {f : FuncId} {fn : Func} {c : Code} {l : List Value} {M : Mem} {K : Value → Mem → Prop}
  (hf : P.funcs[f]? = some fn) (hb : fn.body = some c) (n : Nat) (hn : fn.ntmps = n) (hl : l.length ≤ n)
  (h : ∀ w a, Sx n w [] M w a (argEnv l 0) [] [] → Wp P c (fun a' w' => a'.defers = [] ∧ ∃ v, (results fn a'.tmps).run P w' = .ok v w' ∧ Below w.heap.size w w' ∧ K v (grow M w w')) []
   (fun a' w' => a'.defers = [] ∧ ∃ v, (results fn a'.tmps).run P w' = .ok v w' ∧ Below w.heap.size w w' ∧ K v (grow M w w')) (fun _ _ _ => False) a w) :
  CallE P f l.toArray M K := by
 intro w hw
 refine enter (Rf := fun e w' => ∃ v, e = .returned v ∧ Below w.heap.size w w' ∧ K v (grow M w w')) hf hb n hn hl hw [] (by simp) (by simp) (fun a hs => ?_)
 refine Code.wp_mono (fun e a' w' q => ?_) (h w a (by simpa using hs))
 cases e with
 | normal => obtain ⟨h1, v, h2, h3, h4⟩ := q; exact ⟨h1, v, h2, v, rfl, h3, h4⟩
 | ret => obtain ⟨h1, v, h2, h3, h4⟩ := q; exact ⟨h1, v, h2, v, rfl, h3, h4⟩
 | _ => exact q.elim
theorem leaveE {P : Program} {fn : Func} {n : Nat} {E : World} {M0 M : Mem} {w : World} {a : Act} {env : Env} {bs : List Bx} {rs : List Rw} {K : Value → Mem → Prop} {v : Value}
  (hs : Sx n E [] M w a env bs rs) (hr : (results fn a.tmps).run P w = .ok v w) (hM : ∀ b o, M b = some o → M0 b = some o ∨ E.heap.size ≤ b) (hK : ∀ M', M.le M' → K v M') :
  a.defers = [] ∧ ∃ v, (results fn a.tmps).run P w = .ok v w ∧ Below E.heap.size E w ∧ K v (grow M0 E w) := by
 refine ⟨hs.ag.df, v, hr, hs.pr.below, hK _ fun b o hb => ?_⟩
 unfold grow
 by_cases hk : E.heap.size ≤ b
 ·rw [if_pos hk]; exact hs.on b o hb
 ·rw [if_neg hk]
  rcases hM b o hb with h | h
  ·exact h
  ·omega
theorem resT {P : Program} {fn : Func} {n : Nat} {E : World} {bw : List Nat} {M : Mem} {w : World} {a : Act} {env : Env} {bs : List Bx} {rs : List Rw} {t : Nat} {v : Value} (hs : Sx n E bw M w a env bs rs) (hr : fn.results = #[.tmp t]) (hv : lk env t = some v) :
  (results fn a.tmps).run P w = .ok v w := by rw [results_tmp hr, hs.ag.at_ t v hv]
theorem res {P : Program} {fn : Func} {n : Nat} {E : World} {bw : List Nat} {M : Mem} {w : World} {a : Act} {env : Env} {bs : List Bx} {rs : List Rw} (_hs : Sx n E bw M w a env bs rs) (hr : fn.results = #[]) :
  (results fn a.tmps).run P w = .ok (.tuple #[]) w := results_none hr _ _ _
theorem resTT {P : Program} {fn : Func} {n : Nat} {E : World} {bw : List Nat} {M : Mem} {w : World} {a : Act} {env : Env} {bs : List Bx} {rs : List Rw} {t u : Nat} {v x : Value} (hs : Sx n E bw M w a env bs rs) (hr : fn.results = #[.tmp t, .tmp u]) (hv : lk env t = some v) (hx : lk env u = some x) :
  (results fn a.tmps).run P w = .ok (.tuple #[v, x]) w := by rw [results_tmp2 hr, hs.ag.at_ t v hv, hs.ag.at_ u x hx]
theorem add_lit (b o n : Nat) : (⟨b, o, none⟩ : Addr).add n = ⟨b, o + n, none⟩ := by unfold Addr.add; split <;> simp_all
theorem run_load_one {P : Program} {w : World} {a : Addr} {v : Value} {t : TypeId} {d : TypeDesc} (hu : P.underlying t = some d) (hd : (match d with | .struct _ | .array _ _ => true | _ => false) = false)
  (h : w.cell? a = some v) : (loadVar t a).run P w = .ok v w := by
 cases d <;> simp at hd <;> simp [loadVar, isAgg, run_underlying hu, h, go_sem]
theorem run_load_agg {P : Program} {w : World} {a : Addr} {vs : List Value} {t : TypeId} {d : TypeDesc} {n : Nat} (hu : P.underlying t = some d) (hd : (match d with | .struct _ | .array _ _ => true | _ => false) = true)
  (hn : (P.info? t).map (·.size) = some n) (hl : vs.length = n) (h : ∀ j v, vs[j]? = some v → w.cell? (a.add j) = some v) : (loadVar t a).run P w = .ok (.agg vs.toArray) w := by
 subst hl
 have hls := run_loadCells_list (P := P) w a vs h
 cases hi : P.info? t with
 | none => simp [hi] at hn
 | some i =>
  simp [hi] at hn
  rw [← hn] at hls
  cases d <;> simp at hd <;> simp [loadVar, isAgg, run_underlying hu, sizeOf, typeInfo, hi, hls]
def isAggD : Option TypeDesc → Bool
 | some (.struct _) | some (.array _ _) => true
 | _ => false
def Mem.cell (M : Mem) (b i : Nat) : Option Value := match M b with
 | some (.cells c _ _) => c[i]?
 | _ => none
theorem On.cell {M : Mem} {w : World} (h : On M w) {b i : Nat} {v : Value} (hc : M.cell b i = some v) : w.cell? ⟨b, i, none⟩ = some v := by
 unfold Mem.cell at hc
 split at hc
 ·rename_i c e f hm
  rw [cell_of_row w b i c e f (h _ _ hm)]
  exact hc
 ·cases hc
theorem Mem.le.cell {M M' : Mem} (h : M.le M') {b i : Nat} {v : Value} (hc : M.cell b i = some v) : M'.cell b i = some v := by
 unfold Mem.cell at hc ⊢
 split at hc
 ·rename_i c e f hm
  rw [h _ _ hm]
  exact hc
 ·cases hc
def At (M : Mem) (b o : Nat) (vs : List Value) : Prop := ∀ j v, vs[j]? = some v → M.cell b (o + j) = some v
theorem At.le {M M' : Mem} {b o : Nat} {vs : List Value} (h : At M b o vs) (hl : M.le M') : At M' b o vs := fun j v hj => hl.cell (h j v hj)
theorem At.part {M : Mem} {b o : Nat} {vs : List Value} (h : At M b o vs) (k : Nat) (us : List Value) (hk : (vs.drop k).take us.length = us) : At M b (o + k) us := by
 intro j u hj
 rw [Nat.add_assoc]
 refine h _ _ ?_
 have hjl : j < us.length := (List.getElem?_eq_some_iff.1 hj).1
 rw [← hk, List.getElem?_take, if_pos hjl, List.getElem?_drop] at hj
 exact hj
def ofCells (agg : Bool) (vs : List Value) : Value :=
 match agg, vs with
 | false, [v] => v
 | _, vs => .agg vs.toArray
theorem run_load_at {P : Program} {w : World} {b o : Nat} {vs : List Value} {t : TypeId} {g : Bool} (hg : isAggD (P.underlying t) = g) (hsome : (P.underlying t).isSome = true)
  (hn : (P.info? t).map (·.size) = some vs.length) (h1 : g = false → vs.length = 1) (h : ∀ j v, vs[j]? = some v → w.cell? ⟨b, o + j, none⟩ = some v) : (loadVar t ⟨b, o, none⟩).run P w = .ok (ofCells g vs) w := by
 cases hu : P.underlying t with
 | none => simp [hu] at hsome
 | some d =>
  rw [hu] at hg
  cases g with
  | true =>
   rw [run_load_agg (d := d) hu (by cases d <;> simp_all [isAggD]) hn rfl (fun j v hj => by rw [add_lit]; exact h j v hj)]
   cases vs with
   | nil => rfl
   | cons v r => rfl
  | false =>
   obtain ⟨v, rfl⟩ : ∃ v, vs = [v] := List.length_eq_one_iff.1 (h1 rfl)
   exact run_load_one (d := d) hu (by cases d <;> simp_all [isAggD]) (h 0 v rfl)
def tyOk (P : Program) (t : TypeId) (g : Bool) (k : Nat) : Bool := isAggD (P.underlying t) == g && (P.underlying t).isSome && ((P.info? t).map (·.size)) == some k && (g || k == 1)
theorem tyOk_spec {P : Program} {t : TypeId} {g : Bool} {k : Nat} (h : tyOk P t g k = true) : isAggD (P.underlying t) = g ∧ (P.underlying t).isSome = true ∧ (P.info? t).map (·.size) = some k ∧ (g = false → k = 1) := by
 simp only [tyOk, Bool.and_eq_true, beq_iff_eq, Bool.or_eq_true] at h
 obtain ⟨⟨⟨h1, h2⟩, h3⟩, h4⟩ := h
 exact ⟨h1, h2, h3, fun e => h4.elim (fun h4 => by rw [e] at h4; cases h4) fun h4 => h4⟩
section
variable {P : Program} {env : Env} {M : Mem} {bs : List Bx} {rs : List Rw} {o : Oper}
theorem Yl.loadV {d : Option Tmp} {t ty : TypeId} {x : Operand} {pos : String} {af : Array Edge} {gd : Option (Nat × Bool)} {b k : Nat} {vs : List Value} (g : Bool) (hk : known env x = true) (hx : evT env x = .pointer (some ⟨b, k, none⟩))
  (ht : tyOk P t g vs.length = true) (h : At M b k vs) :
  Yl P env M bs rs ⟨d, .load t x, ty, pos, af, gd⟩ (ofCells g vs) := by
 obtain ⟨h1, h2, h3, h4⟩ := tyOk_spec ht
 refine ⟨by simp [okOp, notSel, Op.operands, hk], fun w hc => ?_⟩
 have := run_load_at (P := P) h1 h2 h3 h4 (fun j v hj => hc.on.cell (h j v hj))
 simp [execOp, Instr.loadAt, hx, Instr.sureAddr, this]
theorem Yl.indexS {d : Option Tmp} {t e ty : TypeId} {x i : Operand} {pos : String} {af : Array Edge} {gd : Option (Nat × Bool)} {b k l c sz : Nat} {ik : IntKind} {n : Int} {ad : Option Addr} (hkx : known env x = true) (hki : known env i = true)
  (hx : evT env x = .slice ad l c) (hi : evT env i = .int ik n) (hu : P.underlying t = some (.slice e)) (hn : (P.info? e).map (·.size) = some sz) (had : ad = some ⟨b, k, none⟩) (h0 : 0 ≤ n) (hl : n < l) :
  Yl P env M bs rs ⟨d, .indexAddr t x i, ty, pos, af, gd⟩ (.pointer (some ⟨b, k + n.toNat * sz, none⟩)) := by
 subst had
 refine ⟨by simp [okOp, notSel, Op.operands, hkx, hki], fun w _ => ?_⟩
 cases hi' : P.info? e with
 | none => simp [hi'] at hn
 | some ti =>
  simp [hi'] at hn
  simp [execOp, Instr.indexAt, hx, hi, asIntOf, run_underlying hu, sizeOf, typeInfo, hi', h0, hl, go_sem, hn, add_lit]
end
section
variable {P : Program} {ops : Array Oper} {Q : Exit → Act → World → Prop} {n : Nat} {E : World} {bw : List Nat} {M : Mem} {w : World} {a : Act} {env : Env} {bs : List Bx} {rs : List Rw} {rest : List Oper} {o : Oper} {Z : List PanicEntry → World → Prop}
theorem stepK {d : Nat} (hs : Sx n E bw M w a env bs rs) (hZ : ∀ c w, Z c w → Q (.panic c) a w) (hg : o.guard = none) (hk : okOp env o = true) (hd : o.dst = some d) (hdn : d < n)
  (h : OpW P (evT env) o w (fun v w' => ∀ a', Ag n a' ((d, v) :: env) → wpList P ops Q rest a' w') Z) : wpList P ops Q (o :: rest) a w := by
 refine wpList_plain hg fun K hK => ?_
 refine OpW.upon (Z := Z) hZ ?_
 unfold OpW at h ⊢
 rw [hs.ag.exec hk]
 have key : ∀ v w', (∀ a', Ag n a' ((d, v) :: env) → wpList P ops Q rest a' w') → K (a.put o.dst v) w' := by
  intro v w' hh
  exact hK _ _ (hh _ (by rw [hd]; exact hs.ag.put hdn v))
 generalize (execOp (evT env) o).run P w = r at *
 cases r with
 | ok x w' =>
  cases x <;> simp only at h ⊢ <;> try exact key _ _ h
  case enter f args =>
   refine Calls.mono h fun e w'' he => ?_
   cases e with
   | returned v => exact key _ _ he
   | panicked c => exact he
   | outgrown => exact he
  all_goals exact h
 | halt x w' => cases x <;> simp only at h ⊢ <;> exact h
theorem stepK0 (hs : Sx n E bw M w a env bs rs) (hZ : ∀ c w, Z c w → Q (.panic c) a w) (hg : o.guard = none) (hk : okOp env o = true) (hd : o.dst = none)
  (h : OpW P (evT env) o w (fun _ w' => ∀ a', Ag n a' env → wpList P ops Q rest a' w') Z) : wpList P ops Q (o :: rest) a w := by
 refine wpList_plain hg fun K hK => ?_
 refine OpW.upon (Z := Z) hZ ?_
 unfold OpW at h ⊢
 rw [hs.ag.exec hk]
 have key : ∀ (v : Value) w', (∀ a', Ag n a' env → wpList P ops Q rest a' w') → K (a.put o.dst v) w' := by
  intro v w' hh
  exact hK _ _ (hh _ (by rw [hd]; exact hs.ag))
 generalize (execOp (evT env) o).run P w = r at *
 cases r with
 | ok x w' =>
  cases x <;> simp only at h ⊢ <;> try exact key _ _ h
  case enter f args =>
   refine Calls.mono h fun e w'' he => ?_
   cases e with
   | returned v => exact key v _ he
   | panicked c => exact he
   | outgrown => exact he
  all_goals exact h
 | halt x w' => cases x <;> simp only at h ⊢ <;> exact h
theorem OpW.of_run {ρ : Operand → Value} {w' : World} {v : Value} {K : Value → World → Prop}
  (h : (execOp ρ o).run P w = .ok (.value v) w') (hK : K v w') : OpW P ρ o w K Z := by unfold OpW; rw [h]; exact hK
theorem OpW.of_skip {ρ : Operand → Value} {w' : World} {K : Value → World → Prop}
  (h : (execOp ρ o).run P w = .ok .skip w') (hK : K undef w') : OpW P ρ o w K Z := by unfold OpW; rw [h]; exact hK
theorem Sx.later {w' : World} {M' : Mem} (hs : Sx n E bw M w a env bs rs) (hb : Below w.heap.size w w') (hon : On M' w') (hM : ∀ b, b < w.heap.size → M' b = M b) : Sx n E bw M' w' a env bs rs := by
 refine ⟨hs.ag, hon, ?_, fun x hx => ?_, fun r hr => ?_, hs.nd⟩
 ·obtain ⟨h1, h2, h3, h4, h5⟩ := hs.pr
  exact ⟨hb.os.trans h1, hb.tape.trans h2, hb.output.trans h3, Nat.le_trans h4 hb.size, fun k hk hn => (hb.block k (by omega)).trans (h5 k hk hn)⟩
 ·obtain ⟨h1, h2, h3⟩ := hs.bx x hx
  exact ⟨(hb.block _ h1.lt).trans h1, (hM _ h1.lt).trans h2, h3⟩
 ·obtain ⟨h1, h2⟩ := hs.rw r hr
  refine ⟨?_, fun g hg => ⟨(hM g (h1.lt g hg).2).trans (h2 g hg).1, (h2 g hg).2⟩⟩
  refine ⟨h1.1, ?_⟩
  rcases h1.2 with hn | ⟨g, cap, cur, hv, hbg, hgg, r3⟩
  ·exact .inl hn
  ·exact .inr ⟨g, cap, cur, hv, hbg, (hb.block g (Array.getElem?_eq_some_iff.1 hgg).1).trans hgg, r3⟩
theorem On.later {w' : World} (h : On M w) (hb : Below w.heap.size w w') : On M w' := fun b o q => (hb.block b (h.lt q)).trans (h b o q)
def putAt (cs : List Value) (k : Nat) (vs : List Value) : List Value := cs.take k ++ vs ++ cs.drop (k + vs.length)
theorem Sx.set (hs : Sx n E bw M w a env bs rs) (i : Nat) {x : Bx} (hi : bs[i]? = some x) (cs : List Value) {a' : Act} {env' : Env} (hA : Ag n a' env') : Sx n E bw M (w.setRow x.b cs.toArray) a' env' (bs.set i ⟨x.b, x.t, cs⟩) rs := by
 have hmap : (bs.set i ⟨x.b, x.t, cs⟩).map (·.b) = bs.map (·.b) := by
  rw [List.map_set]
  apply List.ext_getElem?
  intro j
  rw [List.getElem?_set]
  by_cases hij : i = j
  ·subst hij
   obtain ⟨hlt, hx⟩ := List.getElem?_eq_some_iff.1 hi
   simp [hlt, hx]
  ·simp [hij]
 obtain ⟨hx1, hx2, hx3⟩ := hs.bx x (List.mem_of_getElem? hi)
 have hother : ∀ k, k ≠ x.b → (w.setRow x.b cs.toArray).heap[k]? = w.heap[k]? := by
  intro k hk
  simp only [World.setRow, Array.getElem?_modify]
  rw [if_neg (by omega)]
 have hnd1 : (bs.map (·.b)).Nodup := hs.nd.b
 refine ⟨hA, fun b o hb => ?_, ?_, fun y hy => ?_, fun r hr => ?_, ?_⟩
 ·rw [hother b (by rintro rfl; rw [hx2] at hb; cases hb)]; exact hs.on b o hb
 ·obtain ⟨h1, h2, h3, h4, h5⟩ := hs.pr
  refine ⟨h1, h2, h3, by simpa [World.setRow] using h4, fun k hk hn => ?_⟩
  rw [hother k (by
   rintro rfl
   rcases hx3 with h | h
   ·omega
   ·exact hn h)]
  exact h5 k hk hn
 ·obtain ⟨j, hj⟩ := List.mem_iff_getElem?.1 hy
  rw [List.getElem?_set] at hj
  by_cases hij : i = j
  ·subst hij
   rw [if_pos rfl] at hj
   have hlt : i < bs.length := (List.getElem?_eq_some_iff.1 hi).1
   rw [if_pos hlt] at hj
   simp only [Option.some.injEq] at hj
   subst hj
   exact ⟨setRow_heap w x.b x.cs.toArray cs.toArray x.t (0, 0) hx1, hx2, hx3⟩
  ·rw [if_neg hij] at hj
   have hne : y.b ≠ x.b := by
    intro e
    have h1 : (bs.map (·.b))[i]? = some x.b := by simp [hi]
    have h2 : (bs.map (·.b))[j]? = some x.b := by simp [hj, e]
    have hl1 : i < (bs.map (·.b)).length := (List.getElem?_eq_some_iff.1 h1).1
    exact hij ((List.getElem?_inj hl1 hnd1).1 (h1.trans h2.symm))
   obtain ⟨g1, g2, g3⟩ := hs.bx y (List.mem_of_getElem? hj)
   exact ⟨(hother _ hne).trans g1, g2, g3⟩
 ·obtain ⟨g1, g2⟩ := hs.rw r hr
  refine ⟨⟨g1.1, ?_⟩, g2⟩
  rcases g1.2 with hn | ⟨g, cap, cur, hv, hbg, hgg, r3⟩
  ·exact .inl hn
  ·refine .inr ⟨g, cap, cur, hv, hbg, ?_, r3⟩
   rw [hother g ?_]; exact hgg
   rintro rfl
   exact hs.nd.x x (List.mem_of_getElem? hi) r hr (by rw [hv]; rfl)
 ·refine ⟨by rw [hmap]; exact hs.nd.b, fun y hy r hr => ?_, hs.nd.r⟩
  have hy' : y.b ∈ bs.map (·.b) := by rw [← hmap]; exact List.mem_map.2 ⟨y, hy, rfl⟩
  obtain ⟨z, hz, he⟩ := List.mem_map.1 hy'
  rw [← he]
  exact hs.nd.x z hz r hr
theorem run_call {d : Option Tmp} {f : Nat} {ty : TypeId} {c : Call} {pos : String} {af : Array Edge} {gd : Option (Nat × Bool)} {fn : Func} {first caps : Array Value} (args : List Value)
  (hcal : ∃ x, c.callee = .value x ∧ evT env x = .func (.func f) first caps) (hargs : first.toList ++ c.args.toList.map (evT env) ++ caps.toList = args) (hf : P.funcs[f]? = some fn) (hbody : fn.body.isNone = false) (hname : (fn.name == "runtime.NumGoroutine") = false) :
  (execOp (evT env) ⟨d, .call c, ty, pos, af, gd⟩).run P w = .ok (.enter f args.toArray) w := by
 obtain ⟨x, hcal, hx⟩ := hcal
 have ha : first ++ c.args.map (evT env) ++ caps = args.toArray := by rw [← hargs]; apply Array.ext'; simp
 have hname' : ¬ fn.name = "runtime.NumGoroutine" := beq_eq_false_iff_ne.1 hname
 have hbody' : ¬ fn.body = none := by intro e; rw [e] at hbody; cases hbody
 simp [execOp, resolve, hcal, hx, Deferred.ofValue, invoke, callFunc, hf, hbody', hname', ← ha]
theorem stepCallP {d f : Nat} {ty : TypeId} {c : Call} {pos : String} {af : Array Edge} {fn : Func} {K : Value → Prop} {first caps : Array Value} (args : List Value) (hs : Sx n E bw M w a env bs rs)
  (hk : okOp env ⟨some d, .call c, ty, pos, af, none⟩ = true) (hcal : ∃ x, c.callee = .value x ∧ evT env x = .func (.func f) first caps) (hargs : first.toList ++ c.args.toList.map (evT env) ++ caps.toList = args) (hf : P.funcs[f]? = some fn) (hbody : fn.body.isNone = false) (hname : (fn.name == "runtime.NumGoroutine") = false) (hdn : d < n)
  (hc : CallE P f args.toArray M fun v _ => K v)
  (h : ∀ a' w' v, K v → Sx n E bw M w' a' ((d, v) :: env) bs rs → wpList P ops Q rest a' w') : wpList P ops Q (⟨some d, .call c, ty, pos, af, none⟩ :: rest) a w := by
 refine stepK (Z := fun _ _ => False) (d := d) hs (fun _ _ h => h.elim) rfl hk rfl hdn ?_
 unfold OpW
 rw [run_call args hcal hargs hf hbody hname]
 refine (hc w hs.on).mono fun e w' ⟨v, he, hb, hK⟩ => ?_
 subst he
 intro a' hA
 exact h a' w' v hK ((hs.later hb (hs.on.later hb) (fun _ _ => rfl)).act hA)
end
def InI (x : Int) : Prop := -9223372036854775808 ≤ x ∧ x ≤ 9223372036854775807
theorem wrap_in {x : Int} (h : InI x) : IntKind.i64.wrap x = x := by
 exact IntWalk.i64_in x h
def SubE (env : Env) : Env → Prop
 | [] => True
 | p :: r => lk env p.1 = some p.2 ∧ SubE env r
theorem SubE.mem {env : Env} : ∀ {env' : Env}, SubE env env' → ∀ p ∈ env', lk env p.1 = some p.2
 | [], _, p, h => by cases h
 | q :: r, h, p, hp => by
  rcases List.mem_cons.1 hp with rfl | hp
  ·exact h.1
  ·exact SubE.mem h.2 p hp
section
variable {n : Nat} {E : World} {bw : List Nat} {M : Mem} {w : World} {a : Act} {env env' : Env} {bs bs' : List Bx} {rs rs' : List Rw}
theorem Sx.weak (hs : Sx n E bw M w a env bs rs) (hb : bs'.Sublist bs) (hr : rs'.Sublist rs) (he : SubE env env') : Sx n E bw M w a env' bs' rs' :=
 ⟨hs.ag.sub env' he.mem, hs.on, hs.pr, fun x hx => hs.bx x (hb.subset hx), fun r hx => hs.rw r (hr.subset hx),
  hs.nd.sub hb hr⟩
theorem Sx.wk (hs : Sx n E bw M w a env bs rs) (he : SubE env env') : Sx n E bw M w a env' bs rs := hs.weak (List.Sublist.refl _) (List.Sublist.refl _) he
end
def MM (M' M : Mem) (E : World) : Prop := ∀ b o, M' b = some o → M b = some o ∨ E.heap.size ≤ b
theorem MM.next {M'' M' M : Mem} {E : World} (h : MM M' M E) (k : ∀ b o, M'' b = some o → M' b = some o ∨ E.heap.size ≤ b) : MM M'' M E :=
 fun b o q => (k b o q).elim (h b o) .inr
def MX (M' M : Mem) (E : World) : Prop := M.le M' ∧ MM M' M E
theorem MX.refl (M : Mem) (E : World) : MX M M E := ⟨Mem.le.refl M, fun _ _ h => .inl h⟩
theorem MX.next {M'' M' M : Mem} {E : World} (h : MX M' M E) (hl : M'.le M'') (k : ∀ b o, M'' b = some o → M' b = some o ∨ E.heap.size ≤ b) : MX M'' M E := ⟨h.1.trans hl, h.2.next k⟩
def mkS (l : List UInt8) : ByteArray := ⟨⟨l⟩⟩
theorem mkS_toList (l : List UInt8) : (mkS l).toList = l := by
 rw [ByteArray.toList_eq]; rfl
theorem mkS_beq {a b : List UInt8} : ((mkS a).toList == (mkS b).toList) = true ↔ a = b := by rw [mkS_toList, mkS_toList]; exact beq_iff_eq
theorem mkS_bne {a b : List UInt8} : (!((mkS a).toList == (mkS b).toList)) = true ↔ a ≠ b := by rw [mkS_toList, mkS_toList]; simp
theorem bnot_iff {b : Bool} {p : Prop} (h : b = true ↔ p) : (!b) = true ↔ ¬ p := by rw [← h]; simp
def bShr (k : IntKind) (x y : Int) : Int := x.fdiv (2 ^ (min y.toNat k.bits))
section
variable {P : Program} {fn : Func} {n : Nat} {E : World} {bw : List Nat} {M : Mem} {w : World} {a : Act} {env : Env} {bs : List Bx} {rs : List Rw}
end
end Go.Gx

namespace Go.Gx
open Go.RowKit
def WpD (P : Program) (ops : Array Oper) (Q : Exit → Act → World → Prop) (C : World → Prop) (keep : List Bool) : Nat → Array Bool → Act → World → Prop
 | 0, listed, a, w => Region.ready .any ops listed = [] ∧ Q .normal a w
 | fuel + 1, listed, a, w =>
  (Region.ready .any ops listed = [] → Q .normal a w) ∧
  ∀ i ∈ Region.ready .any ops listed, wpOp P ops Q i (fun a' w' => (keep.getD i false = true → C w → C w') ∧ WpD P ops Q C keep fuel (listed.setIfInBounds i true) a' w') a w
section
variable {P : Program} {ops : Array Oper} {Q : Exit → Act → World → Prop} {C : World → Prop} {keep : List Bool}
theorem wpAny_of_WpD : ∀ (fuel : Nat) (listed : Array Bool) (a : Act) (w : World), WpD P ops Q C keep fuel listed a w → wpAny P .any ops Q fuel listed a w
 | 0, _, _, _, h => h
 | fuel + 1, _, _, _, h => ⟨h.1, fun i hi => wpOp_mono (fun a' w' h' => wpAny_of_WpD fuel _ a' w' h'.2) (h.2 i hi)⟩
def freeB (ops : Array Oper) (keep : List Bool) (listed : Array Bool) (i : Nat) (A : List Nat) (pure : Bool) : Bool :=
 match ops[i]? with
 | none => false
 | some oi => (A.all fun j => !listed.getD j true && j != i && (match ops[j]? with
   | none => false
   | some oj => oj.after.toList.any fun e => Region.binds .any e && (e.on == i || A.contains e.on))) &&
  (List.range ops.size).all fun j => j == i || listed.getD j true || A.contains j || (match ops[j]? with
   | none => true
   | some oj => oi.apart ops oj && (keep.getD j false || pure))
def HangA (ops : Array Oper) (listed : Array Bool) (i : Nat) (A : List Nat) : Prop :=
 ∀ j ∈ A, listed.getD j true = false ∧ j ≠ i ∧ ∃ oj e, ops[j]? = some oj ∧ e ∈ oj.after ∧ Region.binds .any e = true ∧ (e.on = i ∨ e.on ∈ A)
theorem freeB_spec {listed : Array Bool} {i : Nat} {oi : Oper} {A : List Nat} {pure : Bool} (hi : ops[i]? = some oi) (h : freeB ops keep listed i A pure = true) :
  HangA ops listed i A ∧ ∀ j oj, ops[j]? = some oj → j ≠ i → listed.getD j true = false → j ∉ A → oi.apart ops oj = true ∧ (keep.getD j false = true ∨ pure = true) := by
 unfold freeB at h
 rw [hi] at h
 simp only [Bool.and_eq_true] at h
 obtain ⟨hA, hB⟩ := h
 refine ⟨fun j hj => ?_, fun j oj hj hne hl hno => ?_⟩
 ·have h1 := List.all_eq_true.1 hA j hj
  simp only [Bool.and_eq_true, bne_iff_ne, Bool.not_eq_true'] at h1
  obtain ⟨⟨h1, h2⟩, h3⟩ := h1
  refine ⟨h1, h2, ?_⟩
  split at h3
  ·cases h3
  ·rename_i oj hoj
   obtain ⟨e, he, h4⟩ := List.any_eq_true.1 h3
   simp only [Bool.and_eq_true, Bool.or_eq_true, beq_iff_eq, List.contains_iff_mem] at h4
   exact ⟨oj, e, hoj, by simpa using he, h4.1, h4.2⟩
 ·have hjlt : j < ops.size := (Array.getElem?_eq_some_iff.1 hj).1
  have h1 := List.all_eq_true.1 hB j (List.mem_range.2 hjlt)
  have hno' : A.contains j = false := by simpa using hno
  simp only [hj, Bool.or_eq_true, beq_iff_eq, hl, hno', Bool.and_eq_true] at h1
  rcases h1 with ((h1 | h1) | h1) | h1
  ·exact absurd h1 hne
  ·cases h1
  ·cases h1
  ·exact h1
theorem WpD.first {i : Nat} {oi : Oper} {v : Value} {A : List Nat} {C1 : World → Prop} (hC1 : ∀ w, C1 w → (∀ w, C1 w) ∨ C w) (hC2 : ∀ w, C w → C1 w) (hi : ops[i]? = some oi) (hsel : ∀ (j : Nat) (o : Oper) cs b, ops[j]? = some o → o.op ≠ .select cs b)
  (hQ : ∀ c a w, Q (.panic c) (a.put oi.dst v) w → Q (.panic c) a w) :
  ∀ (fuel : Nat) (listed : Array Bool) (a : Act) (w : World), HangA ops listed i A →
   (∀ j oj, ops[j]? = some oj → j ≠ i → listed.getD j true = false → j ∉ A → oi.apart ops oj = true ∧ (keep.getD j false = true ∨ ∀ w, C1 w)) →
   i ∈ Region.ready .any ops listed → YieldsIf P ops C1 oi v a → C1 w →
   WpD P ops Q C keep fuel (listed.setIfInBounds i true) (a.put oi.dst v) w → WpD P ops Q C keep (fuel + 1) listed a w := by
 intro fuel
 induction fuel with
 | zero =>
  intro listed a w _ _ hr hy hS H
  refine ⟨fun h => (by rw [h] at hr; cases hr), fun j hj => ?_⟩
  by_cases hji : j = i
  ·subst hji; exact hy.wpOp hi hS ⟨fun _ h => h, H⟩
  ·have := ready_mono hj hji
   rw [H.1] at this
   cases this
 | succ fuel ih =>
  intro listed a w hang hfree hr hy hS H
  refine ⟨fun h => (by rw [h] at hr; cases hr), fun j hj => ?_⟩
  by_cases hji : j = i
  ·subst hji; exact hy.wpOp hi hS ⟨fun _ h => h, H⟩
  ·have h1 := H.2 j (ready_mono hj hji)
   obtain ⟨hjun, oj, hoj, hall⟩ := mem_ready.1 hj
   have hun : listed.getD i true = false := (mem_ready.1 hr).1
   have hjA : j ∉ A := fun hjA => by
    obtain ⟨_, _, oj', e, hoj', he, hbd, hon⟩ := hang j hjA
    rw [hoj] at hoj'
    cases hoj'
    have h1 := hall e he hbd
    have h0 : listed.getD e.on true = false := by
     rcases hon with rfl | hon
     ·exact hun
     ·exact (hang _ hon).1
    rcases Nat.lt_or_ge e.on listed.size with h' | h'
    ·simp [h'] at h0 h1; rw [h0] at h1; cases h1
    ·simp [Array.getElem?_eq_none h'] at h1
   have hfj := hfree j oj hoj hji hjun hjA
   have h2 := wpOp_putIf hoj hfj.1 (fun cs b => hsel i oi cs b hi) (fun cs b => hsel j oj cs b hoj) hQ hy h1
   refine wpOp_mono (fun a' w' h3 => ⟨h3.2.1, ih (listed.setIfInBounds j true) a' w' (fun k hk => ?_) (fun k ok hk hki hun hno => ?_) (ready_mono hr (Ne.symm hji)) h3.1 (by
    rcases hfj.2 with hk | hall
    ·rcases hC1 w hS with hall | hc
     ·exact hall w'
     ·exact hC2 _ (h3.2.1 hk hc)
    ·exact hall w') ?_⟩) h2
   ·obtain ⟨g1, g2, g3⟩ := hang k hk
    refine ⟨?_, g2, g3⟩
    rw [getD_set_ne true (by rintro rfl; exact hjA hk)]; exact g1
   ·refine hfree k ok hk hki ?_ hno
    by_cases hjk : j = k
    ·subst hjk; exact hjun
    ·rw [getD_set_ne true hjk] at hun; exact hun
   ·rw [Array.setIfInBounds_comm _ _ hji]
    exact h3.2.2
end
section
variable {P : Program} {ops : Array Oper} {Q : Exit → Act → World → Prop} {M0 : Mem} {bs0 : List Bx} {rs0 : List Rw} {keep : List Bool} {n : Nat} {E : World} {bw : List Nat} {M : Mem} {w : World} {a : Act} {env : Env} {bs : List Bx} {rs : List Rw} {o : Oper} {fuel : Nat} {listed : Array Bool}
def QZ (Q : Exit → Act → World → Prop) : Prop := ∀ c (a : Act) d v w, Q (.panic c) (a.put d v) w → Q (.panic c) a w
theorem QZ.no {N : Act → World → Prop} {X : List (Nat × (Act → World → Prop))} {R : Act → World → Prop} : QZ (QQ N X R (fun _ _ _ => False)) := fun _ _ _ _ _ h => h
theorem wanted_none (hg : o.guard = none) : Region.wanted o (yielded ops a.tmps) = true := by simp [Region.wanted, hg]
theorem wanted_yes {j t : Nat} {b : Bool} (hs : Sx n E bw M w a env bs rs) (hg : o.guard = some (j, b)) (ht : (ops[j]?).bind (·.dst) = some t) (hl : lk env t = some (.bool b)) : Region.wanted o (yielded ops a.tmps) = true := by
 simp [Region.wanted, hg, yielded_of hs ht hl]
theorem wanted_no {j t : Nat} {b c : Bool} (hs : Sx n E bw M w a env bs rs) (hg : o.guard = some (j, b)) (ht : (ops[j]?).bind (·.dst) = some t) (hl : lk env t = some (.bool c)) (hne : (c == b) = false) : Region.wanted o (yielded ops a.tmps) = false := by
 simp [Region.wanted, hg, yielded_of hs ht hl]
 simpa using hne
theorem stepDY (v : Value) (i : Nat) (A : List Nat) {d : Nat} (hs : Sx n E bw M w a env bs rs) (hC : Cx M0 bs0 rs0 w) (hQ : QZ Q) (ho : ops[i]? = some o) (hw : Region.wanted o (yielded ops a.tmps) = true) (hd : o.dst = some d) (hdn : d < n)
  (hsel : Region.noSelect ops = true) (hr : (Region.ready .any ops listed).contains i = true) (hf : freeB ops keep listed i A false = true) (hy : Yl P env M0 bs0 rs0 o v)
  (h : ∀ a', Sx n E bw M w a' ((d, v) :: env) bs rs → WpD P ops Q (Cx M0 bs0 rs0) keep fuel (listed.setIfInBounds i true) a' w) : WpD P ops Q (Cx M0 bs0 rs0) keep (fuel + 1) listed a w := by
 refine WpD.first (v := v) (C1 := Cx M0 bs0 rs0) (fun _ h => .inr h) (fun _ h => h) ho (Region.noSelect_spec hsel) (fun c a w h => hQ c a _ _ w h) fuel listed a w (freeB_spec ho hf).1 (fun j oj h1 h2 h3 h4 => ?_) (by simpa using hr) (.inl ⟨hw, fun w' hc => ?_⟩) hC ?_
 ·obtain ⟨g1, g2⟩ := (freeB_spec ho hf).2 j oj h1 h2 h3 h4
  exact ⟨g1, .inl (by simpa using g2)⟩
 ·rw [hs.ag.exec hy.1]; exact hy.2 w' hc
 ·rw [hd]; exact h _ (hs.act (hs.ag.put hdn v))
theorem Cx.none (w : World) : Cx (fun _ => Option.none) [] [] w := ⟨(fun _ _ h => by cases h), (fun _ h => by cases h), (fun _ h => by cases h)⟩
theorem stepDP (v : Value) (i : Nat) (A : List Nat) {d : Nat} (hs : Sx n E bw M w a env bs rs) (hQ : QZ Q) (ho : ops[i]? = some o) (hw : Region.wanted o (yielded ops a.tmps) = true) (hd : o.dst = some d) (hdn : d < n)
  (hsel : Region.noSelect ops = true) (hr : (Region.ready .any ops listed).contains i = true) (hf : freeB ops keep listed i A true = true) (hy : Yl P env (fun _ => Option.none) [] [] o v)
  (h : ∀ a', Sx n E bw M w a' ((d, v) :: env) bs rs → WpD P ops Q (Cx M0 bs0 rs0) keep fuel (listed.setIfInBounds i true) a' w) : WpD P ops Q (Cx M0 bs0 rs0) keep (fuel + 1) listed a w := by
 refine WpD.first (v := v) (C1 := fun _ => True) (fun _ _ => .inl fun _ => trivial) (fun _ _ => trivial) ho (Region.noSelect_spec hsel) (fun c a w h => hQ c a _ _ w h) fuel listed a w (freeB_spec ho hf).1 (fun j oj h1 h2 h3 h4 => ⟨((freeB_spec ho hf).2 j oj h1 h2 h3 h4).1, .inr fun _ => trivial⟩) (by simpa using hr) (.inl ⟨hw, fun w' _ => ?_⟩) trivial ?_
 ·rw [hs.ag.exec hy.1]; exact hy.2 w' (Cx.none w')
 ·rw [hd]; exact h _ (hs.act (hs.ag.put hdn v))
theorem stepDN (i : Nat) (A : List Nat) {d : Nat} (hs : Sx n E bw M w a env bs rs) (hQ : QZ Q) (ho : ops[i]? = some o) (hw : Region.wanted o (yielded ops a.tmps) = false) (hd : o.dst = some d) (hdn : d < n)
  (hsel : Region.noSelect ops = true) (hr : (Region.ready .any ops listed).contains i = true) (hf : freeB ops keep listed i A true = true)
  (h : ∀ a', Sx n E bw M w a' ((d, undef) :: env) bs rs → WpD P ops Q (Cx M0 bs0 rs0) keep fuel (listed.setIfInBounds i true) a' w) : WpD P ops Q (Cx M0 bs0 rs0) keep (fuel + 1) listed a w := by
 refine WpD.first (v := undef) (C1 := fun _ => True) (fun _ _ => .inl fun _ => trivial) (fun _ _ => trivial) ho (Region.noSelect_spec hsel) (fun c a w h => hQ c a _ _ w h) fuel listed a w (freeB_spec ho hf).1 (fun j oj h1 h2 h3 h4 => ⟨((freeB_spec ho hf).2 j oj h1 h2 h3 h4).1, .inr fun _ => trivial⟩) (by simpa using hr) (.inr ⟨hw, rfl⟩) trivial ?_
 rw [hd]; exact h _ (hs.act (hs.ag.put hdn undef))
theorem stepDE (i : Nat) (ho : ops[i]? = some o) (hw : Region.wanted o (yielded ops a.tmps) = true) (hr : Region.ready .any ops listed = [i]) (ops1 : Array Oper)
  (h : wpList P ops1 (fun e a' w' => match e with
   | .normal => (keep.getD i false = true → Cx M0 bs0 rs0 w → Cx M0 bs0 rs0 w') ∧ WpD P ops Q (Cx M0 bs0 rs0) keep fuel (listed.setIfInBounds i true) a' w'
   | .panic c => Q (.panic c) a' w'
   | _ => False) [{ o with guard := none }] a w) : WpD P ops Q (Cx M0 bs0 rs0) keep (fuel + 1) listed a w := by
 refine ⟨fun h0 => (by rw [hr] at h0; cases h0), fun j hj => ?_⟩
 rw [hr, List.mem_singleton] at hj
 subst hj
 unfold wpOp
 simp only [ho, hw, if_true]
 left
 unfold wpList at h
 rw [if_pos (by simp [Region.wanted])] at h
 rcases h with h | ⟨_, a0, w0, h0⟩
 ·unfold Oper.wp at h ⊢
  have he : execOp a.eval { o with guard := none } = execOp a.eval o := rfl
  rw [he] at h
  generalize (execOp a.eval o).run P w = r at *
  cases r with
  | ok x w' =>
   cases x <;> simp only [Oper.upon, wpList] at h ⊢ <;> try exact h
   case enter f args =>
    refine Calls.mono h fun e w'' he => ?_
    cases e with
    | returned v => exact he
    | panicked c => exact he
    | outgrown => obtain ⟨a0, w0, h0⟩ := he; exact h0.elim
  | halt x w' => cases x <;> simp only [Oper.upon] at h ⊢ <;> exact h
 ·exact h0.elim
theorem WpD.done (hr : Region.ready .any ops listed = []) (h : Q .normal a w) : ∀ fuel, WpD P ops Q (Cx M0 bs0 rs0) keep fuel listed a w
 | 0 => ⟨hr, h⟩
 | _ + 1 => ⟨fun _ => h, by rw [hr]; simp⟩
end
theorem Sx.drew {n : Nat} {E : World} {bw : List Nat} {M : Mem} {w : World} {a : Act} {env : Env} {bs : List Bx} {rs : List Rw} (hs : Sx n E bw M w a env bs rs) : Sx n E bw M w.drew a env bs rs :=
 hs.later ⟨rfl, rfl, rfl, Nat.le_refl _, fun _ _ => rfl⟩ hs.on (fun _ _ => rfl)
theorem Wp.regionD {P : Program} {N : Act → World → Prop} {X : List (Nat × (Act → World → Prop))} {R : Act → World → Prop} {Z : List PanicEntry → Act → World → Prop} {a : Act} {w : World} {n : Nat} {E : World} {bw : List Nat} {M : Mem} {env : Env} {bs : List Bx} {rs : List Rw}
  {id k : Nat} {l : List Oper} (keep : List Bool) (hs : Sx n E bw M w a env bs rs) (hm : P.follows .mixedOrders = true) (hk : l.length = k) (bs0 : List Bx) (hbs : ∀ x ∈ bs0, x ∈ bs) (rs0 : List Rw) (hrs : ∀ x ∈ rs0, x ∈ rs)
  (h : ∀ w, Sx n E bw M w a env bs rs → Cx M bs0 rs0 w → WpD P l.toArray (QQ N X R Z) (Cx M bs0 rs0) keep k (Array.replicate k false) a w) : Wp P (.region id l.toArray true) N X R Z a w := by
 subst hk
 exact wp_region_any hm (by simpa using wpAny_of_WpD _ _ _ _ (h w.drew hs.drew ⟨hs.drew.cx.on, fun x hx => hs.drew.cx.bx x (hbs x hx), fun x hx => hs.drew.cx.rw x (hrs x hx)⟩))
end Go.Gx

namespace Go.Gx
open Go.RowKit
section
variable {P : Program} {env : Env} {M : Mem} {bs : List Bx} {rs : List Rw} {d : Option Tmp} {ty : TypeId} {pos : String} {af : Array Edge} {gd : Option (Nat × Bool)}
theorem mkS_getElem? (l : List UInt8) (i : Nat) : (mkS l)[i]? = l[i]? := by
 by_cases h : i < l.length
 ·rw [List.getElem?_eq_getElem h, getElem?_pos (mkS l) i h]; rfl
 ·rw [List.getElem?_eq_none (by omega), getElem?_neg (mkS l) i h]
theorem mkS_eta (s : ByteArray) : s = mkS s.data.toList := by cases s; rfl
theorem Yl.indexStr {t : TypeId} {x i : Operand} {l : List UInt8} {k : IntKind} {n : Int} {c : UInt8} (hkx : known env x = true) (hki : known env i = true) (hx : evT env x = .string (mkS l)) (hi : evT env i = .int k n)
  (hu : P.underlying t = some .string) (h0 : 0 ≤ n) (hc : l[n.toNat]? = some c) : Yl P env M bs rs ⟨d, .index t x i, ty, pos, af, gd⟩ (.int .u8 (c.toNat : Int)) := by
 refine ⟨by simp [okOp, notSel, Op.operands, hkx, hki], fun w _ => ?_⟩
 have := mkS_getElem? l n.toNat
 rw [hc] at this
 simp [execOp, Instr.index, hx, hi, asIntOf, run_underlying hu, h0, this]
theorem run_sliceBound {k : IntKind} {n : Int} {y : Nat} {code : BoundsCode} (w : World) (h0 : 0 ≤ n) (h1 : n ≤ y) : (Instr.sliceBound (.int k n) y code).run P w = .ok n.toNat w := by
 simp [Instr.sliceBound, asIntOf, h0, h1]
def slA (a : Option Addr) (lo c size : Nat) : Option Addr := if c = lo then a else a.map (·.add (lo * size))
theorem Yl.sliceSL {t e : TypeId} {sz l c : Nat} {ad : Option Addr} {x lo : Operand} {k : IntKind} {a : Int} (hkx : known env x = true) (hka : known env lo = true) (hx : evT env x = .slice ad l c) (ha : evT env lo = .int k a)
  (hu : P.underlying t = some (.slice e)) (hn : (P.info? e).map (·.size) = some sz) (h0 : 0 ≤ a) (h1 : a ≤ (l : Int)) : Yl P env M bs rs ⟨d, .slice t x (some lo) none none, ty, pos, af, gd⟩ (.slice (slA ad a.toNat c sz) (l - a.toNat) (c - a.toNat)) := by
 refine ⟨by simp [okOp, notSel, Op.operands, hkx, hka], fun w _ => ?_⟩
 have e2 := run_sliceBound (P := P) (k := k) (n := a) (y := l) (code := .sliceB) w h0 h1
 cases hi' : P.info? e with
 | none => simp [hi'] at hn
 | some ti =>
  simp [hi'] at hn
  simp [execOp, Instr.sliceAt, Instr.slice, Instr.sliceBounds, hx, ha, run_underlying hu, e2, sizeOf, typeInfo, hi', hn, slA]
theorem Yl.sliceSH {t e : TypeId} {sz l c : Nat} {ad : Option Addr} {x hi : Operand} {k' : IntKind} {b : Int} (hkx : known env x = true) (hkb : known env hi = true) (hx : evT env x = .slice ad l c) (hb : evT env hi = .int k' b)
  (hu : P.underlying t = some (.slice e)) (hn : (P.info? e).map (·.size) = some sz) (h1 : 0 ≤ b) (h2 : b ≤ (c : Int)) : Yl P env M bs rs ⟨d, .slice t x none (some hi) none, ty, pos, af, gd⟩ (.slice ad b.toNat c) := by
 refine ⟨by simp [okOp, notSel, Op.operands, hkx, hkb], fun w _ => ?_⟩
 have e1 := run_sliceBound (P := P) (k := k') (n := b) (y := c) (code := .sliceAcap) w (by omega) h2
 cases hi' : P.info? e with
 | none => simp [hi'] at hn
 | some ti =>
  have : (Option.map (fun x : Addr => x.add 0) ad) = ad := by cases ad <;> simp [Addr.add]
  simp [execOp, Instr.sliceAt, Instr.slice, Instr.sliceBounds, hx, hb, run_underlying hu, e1, sizeOf, typeInfo, hi', this]
end
end Go.Gx

namespace Go.Gx
open Go.RowKit
section
variable {P : Program}
end
section
variable {P : Program} {env : Env} {M : Mem} {bs : List Bx} {rs : List Rw} {d : Option Tmp} {ty : TypeId} {pos : String} {af : Array Edge} {gd : Option (Nat × Bool)}
end
end Go.Gx

namespace Go.Gx
open Go.RowKit
def SlV (M : Mem) (a : Option Addr) (l c size : Nat) (xs : List Value) : Prop :=
 xs.length = l * size ∧ l ≤ c ∧ c ≤ maxLen ∧ (0 < l → ∃ b o, a = some ⟨b, o, none⟩ ∧ At M b o xs)
theorem SlV.le {M M' : Mem} {a : Option Addr} {l c size : Nat} {xs : List Value} (h : SlV M a l c size xs) (hl : M.le M') : SlV M' a l c size xs :=
 ⟨h.1, h.2.1, h.2.2.1, fun h0 => by obtain ⟨b, o, e, ha⟩ := h.2.2.2 h0; exact ⟨b, o, e, ha.le hl⟩⟩
section
variable {P : Program} {ops : Array Oper} {Q : Exit → Act → World → Prop} {n : Nat} {E : World} {bw : List Nat} {M : Mem} {w : World} {a : Act} {env : Env} {bs : List Bx} {rs : List Rw} {rest : List Oper}
theorem ownsRow_form {base : Nat} {e size n : Nat} {v : Value} {xs : List Value} (h : w.ownsRow base e size v n xs) :
  ∃ ad cap, v = .slice ad n cap ∧ n ≤ cap ∧ cap ≤ maxLen ∧ (ad = none ∧ n = 0 ∧ cap = 0 ∨ ∃ g, ad = some ⟨g, 0, none⟩) := by
 rcases h.2 with ⟨rfl, rfl⟩ | ⟨g, cap, cur, rfl, _, _, h1, h2, _, _⟩
 ·exact ⟨none, 0, rfl, Nat.le_refl _, Nat.zero_le _, .inl ⟨rfl, rfl, rfl⟩⟩
 ·exact ⟨_, cap, rfl, h1, h2, .inr ⟨g, rfl⟩⟩
theorem Sx.rowform (hs : Sx n E bw M w a env bs rs) (i : Nat) {r : Rw} (hi : rs[i]? = some r) : ∃ ad cap, r.v = .slice ad r.n cap ∧ r.n ≤ cap ∧ r.xs.length = r.n * r.size := by
 obtain ⟨h1, _⟩ := hs.rw r (List.mem_of_getElem? hi)
 obtain ⟨ad, cap, e, h2, _, _⟩ := ownsRow_form h1
 exact ⟨ad, cap, e, h2, h1.1⟩
theorem lenb {k bytes : Nat} (h : k * bytes ≤ 140737488355328) (h0 : 0 < bytes) : k ≤ maxLen := by
 have : k * 1 ≤ k * bytes := Nat.mul_le_mul_left k h0
 unfold maxLen
 omega
theorem Sx.newrow (hs : Sx n E bw M w a env bs rs) (cs : List Value) (e size k : Nat) (hl : cs.length = k * size) (hm : k ≤ maxLen) {a' : Act} {env' : Env} (hA : Ag n a' env') :
  Sx n E bw M (w.alloc (.cells cs.toArray e)) a' env' bs (⟨.slice (some ⟨w.heap.size, 0, none⟩) k k, e, size, k, cs, true⟩ :: rs) := by
 have hb : Below w.heap.size w (w.alloc (.cells cs.toArray e)) := (Below.refl _ w).alloc (Nat.le_refl _) _
 have h1 := (hs.later hb (hs.on.later hb) (fun _ _ => rfl)).act hA
 refine ⟨hA, h1.on, h1.pr, h1.bx, fun r hr => ?_, hs.nd.b, fun x hx r hr => ?_, List.Pairwise.cons (fun s hs' g hg => ?_) hs.nd.r⟩
 ·rcases List.mem_cons.1 hr with rfl | hr
  ·refine ⟨⟨hl, .inr ⟨w.heap.size, k, cs.toArray, rfl, Nat.zero_le _, heap_alloc_new w _, Nat.le_refl _, hm, by simpa using hl, by simp [← hl]⟩⟩, fun g hg => ?_⟩
   simp only [Value.ownBlock, Option.some.injEq] at hg
   subst hg
   exact ⟨hs.on.noneAt (Nat.le_refl _), .inl hs.pr.size⟩
  ·exact h1.rw r hr
 ·rcases List.mem_cons.1 hr with rfl | hr
  ·simp only [Value.ownBlock, ne_eq, Option.some.injEq]
   have := (hs.bx x hx).1.lt
   omega
  ·exact hs.nd.x x hx r hr
 ·simp only [Value.ownBlock, Option.some.injEq] at hg
  subst hg
  intro e'
  have := ((hs.rw s hs').1.lt _ e').2
  omega
theorem stepMake (cs : List Value) (e size k : Nat) {d : Nat} {o : Oper} (hs : Sx n E bw M w a env bs rs) (hk : okOp env o = true) (hg : o.guard = none) (hd : o.dst = some d)
  (hrun : ∀ w, (execOp (evT env) o).run P w = .ok (.value (.slice (some ⟨w.heap.size, 0, none⟩) k k)) (w.alloc (.cells cs.toArray e))) (hl : cs.length = k * size) (hm : k ≤ maxLen) (hdn : d < n)
  (h : ∀ a' w' v, Sx n E bw M w' a' ((d, v) :: env) bs (⟨v, e, size, k, cs, true⟩ :: rs) → wpList P ops Q rest a' w') : wpList P ops Q (o :: rest) a w := by
 refine stepK (Z := fun _ _ => False) (d := d) hs (fun _ _ h => h.elim) hg hk hd hdn ?_
 refine OpW.of_run (hrun w) ?_
 intro a' hA
 exact h a' _ _ (hs.newrow cs e size k hl hm hA)
def Src (w : World) (A : Option Addr) (m size : Nat) (news : List Value) : Prop :=
 news.length = m * size ∧ (∀ u ∈ news, u.oneCell' = true) ∧ (0 < m → ∃ ad, A = some ad ∧ ∀ j u, news[j]? = some u → w.cell? (ad.add j) = some u)
theorem run_call_append {d : Option Tmp} {ty : TypeId} {x y : Operand} {t : TypeId} {pos : String} {af : Array Edge} {gd : Option (Nat × Bool)} {vx vy : Value} (hx : evT env x = vx) (hy : evT env y = vy) :
  (execOp (evT env) ⟨d, .call { callee := .builtin .append, args := #[x, y], argTypes := #[t, t] }, ty, pos, af, gd⟩).run P w = ((Builtin.append_ #[t, t] ty #[vx, vy]).run P w).andThen fun v w' => .ok (.value v) w' := by
 simp [execOp, resolve, invoke, builtin, hx, hy]
theorem Sx.srcRow (hs : Sx n E bw M w a env bs rs) (j : Nat) {A : Option Addr} {m c : Nat} {e size : Nat} {news : List Value} {ow : Bool} (hj : rs[j]? = some ⟨.slice A m c, e, size, m, news, ow⟩) (h1 : news.all (·.oneCell') = true) : Src w A m size news := by
 obtain ⟨g1, _⟩ := hs.rw _ (List.mem_of_getElem? hj)
 refine ⟨g1.1, fun u hu => List.all_eq_true.1 h1 u hu, fun h0 => ?_⟩
 obtain ⟨ad, cap, he, _, _, h2⟩ := ownsRow_form g1
 simp only [Value.slice.injEq] at he
 obtain ⟨rfl, _, rfl⟩ := he
 rcases h2 with ⟨_, h3, _⟩ | ⟨g, rfl⟩
 ·simp only at h3; omega
 ·exact ⟨_, rfl, fun j u hu => g1.cells (g := g) rfl j u hu⟩
end
section
variable {P : Program} {env : Env} {M : Mem} {bs : List Bx} {rs : List Rw} {d : Option Tmp} {ty : TypeId} {pos : String} {af : Array Edge} {gd : Option (Nat × Bool)}
end
end Go.Gx

namespace Go.Gx
open Go.RowKit
def blk (lb : List Bx) (lr : List Rw) : List Nat := lb.map (·.b) ++ lr.filterMap (·.v.ownBlock)
theorem ownBlock_lt {w : World} {e size n : Nat} {v : Value} {xs : List Value} (h : w.ownsRow 0 e size v n xs) {g : Nat} (hg : v.ownBlock = some g) : g < w.heap.size := (h.lt g hg).2
theorem ownsRow_keep {w w' : World} {e size n : Nat} {v : Value} {xs : List Value} (h : w.ownsRow 0 e size v n xs) (hk : ∀ g, v.ownBlock = some g → w'.heap[g]? = w.heap[g]?) : w'.ownsRow 0 e size v n xs := by
 refine ⟨h.1, ?_⟩
 rcases h.2 with hn | ⟨g, cap, cur, hv, hb, hg, r3⟩
 ·exact .inl hn
 ·exact .inr ⟨g, cap, cur, hv, hb, (hk g (by rw [hv]; rfl)).trans hg, r3⟩
section
variable {P : Program} {ops : Array Oper} {Q : Exit → Act → World → Prop} {n : Nat} {E : World} {bw : List Nat} {M : Mem} {w : World} {a : Act} {env : Env} {rest : List Oper}
end
section
variable {n : Nat} {E : World} {bw : List Nat} {M : Mem} {w : World} {a : Act} {env : Env} {bs : List Bx} {rs : List Rw}
end
section
variable {P : Program} {ops : Array Oper} {Q : Exit → Act → World → Prop} {n : Nat} {E : World} {bw : List Nat} {M : Mem} {w : World} {a : Act} {env : Env} {bs : List Bx} {rs : List Rw} {rest : List Oper}
end
end Go.Gx

namespace Go.Gx
open Go.RowKit
def bytesV (l : List UInt8) : List Value := l.map fun c => Value.int .u8 (c.toNat : Int)
section
variable {P : Program} {ops : Array Oper} {Q : Exit → Act → World → Prop} {n : Nat} {E : World} {bw : List Nat} {M : Mem} {w : World} {a : Act} {env : Env} {bs : List Bx} {rs : List Rw} {rest : List Oper}
theorem stepBytes {d : Nat} {src dst e ty : TypeId} {x : Operand} {pos : String} {af : Array Edge} {l : List UInt8} (hs : Sx n E bw M w a env bs rs) (hkx : known env x = true) (hx : evT env x = .string (mkS l))
  (hsr : P.underlying src = some .string) (hd : P.underlying dst = some (.slice e)) (he : P.underlying e = some (.int .u8)) (hdn : d < n) (hm : l.length ≤ maxLen)
  (h : ∀ a' w' M' A c, M.le M' → SlV M' A l.length c 1 (bytesV l) → (∀ b o, M' b = some o → M b = some o ∨ E.heap.size ≤ b) → Sx n E bw M' w' a' ((d, .slice A l.length c) :: env) bs rs → wpList P ops Q rest a' w') : wpList P ops Q (⟨some d, .convert src dst x, ty, pos, af, none⟩ :: rest) a w := by
 refine stepK (Z := fun _ _ => False) (d := d) hs (fun _ _ h => h.elim) rfl (by simp [okOp, notSel, Op.operands, hkx]) rfl hdn ?_
 have hrun := run_bytes_of_string (P := P) w src dst e (mkS l) hsr hd he
 refine OpW.of_run (w' := _) (v := .slice (some ⟨w.heap.size, 0, none⟩) l.length (grownCap w l.length 0 e)) (by simp only [execOp, hx, Sem.run_bind, hrun, Result.andThen_ok]; rfl) ?_
 intro a' hA
 have hcap1 := grownCap_ge w l.length 0 e
 have hcap2 := grownCap_le_maxLen w l.length 0 e hm
 let cur := bytesRow (mkS l) (grownCap w (mkS l).size 0 e)
 let ob : Obj := .cells cur e (cur.size, cur.size + 1)
 have hb : Below w.heap.size w (w.drew.alloc ob) := ((Below.refl _ w).drew).alloc (Nat.le_refl _) _
 have hgo := grow_on (w' := w.drew.alloc ob) hs.on (fun k hk _ => hb.block k hk)
 have hnew : (w.drew.alloc ob).heap[w.heap.size]? = some ob := heap_alloc_new w.drew ob
 refine h a' (w.drew.alloc ob) (grow M w (w.drew.alloc ob)) (some ⟨w.heap.size, 0, none⟩) (grownCap w l.length 0 e) (grow_le hs.on) ⟨by simp [bytesV], hcap1, hcap2, fun _ => ⟨w.heap.size, 0, rfl, fun j v hj => ?_⟩⟩ (fun b o hbo => ?_) ((hs.later hb hgo (fun b hb => ?_)).act hA)
 ·unfold Mem.cell grow
  rw [if_pos (Nat.le_refl _), hnew]
  show cur[0 + j]? = some v
  rw [Nat.zero_add]
  have hjl : j < l.length := by have := (List.getElem?_eq_some_iff.1 hj).1; simpa [bytesV] using this
  have : (bytesV l)[j]? = some (.int .u8 ((l[j]'hjl).toNat : Int)) := by simp [bytesV, hjl]
  rw [this] at hj
  cases hj
  show (bytesRow (mkS l) _)[j]? = _
  unfold bytesRow
  rw [Array.getElem?_append_left (by simp [mkS, hjl])]
  simp [mkS, hjl]
 ·unfold grow at hbo
  by_cases hk : w.heap.size ≤ b
  ·exact .inr (Nat.le_trans hs.pr.size hk)
  ·rw [if_neg hk] at hbo; exact .inl hbo
 ·unfold grow
  rw [if_neg (by omega)]
end
section
variable {P : Program} {env : Env} {M : Mem} {bs : List Bx} {rs : List Rw} {d : Option Tmp} {ty : TypeId} {pos : String} {af : Array Edge} {gd : Option (Nat × Bool)}
theorem run_bytes_str {w : World} {src dst e : TypeId} {A : Option Addr} {c : Nat} {l : List UInt8} (hs : P.underlying src = some (.slice e)) (he : P.underlying e = some (.int .u8)) (hd : P.underlying dst = some .string)
  (hA : A = none → l = []) (hc : ∀ ad, A = some ad → ∀ j v, (bytesV l)[j]? = some v → w.cell? (ad.add j) = some v) : (convert src dst (.slice A l.length c)).run P w = .ok (.string (mkS l)) w := by
 cases A with
 | none =>
  have := hA rfl
  subst this
  rw [run_convert_bytes_string w src dst e none _ c hs he hd]
  rfl
 | some ad =>
  exact run_convert_bytes_back w src dst e ad c l hs he hd fun j hj => hc ad rfl j _ (by simp [bytesV, hj])
theorem Yl.bytesV {src dst e : TypeId} {x : Operand} {A : Option Addr} {k c : Nat} {l : List UInt8} (hk : known env x = true) (hx : evT env x = .slice A k c) (hs : P.underlying src = some (.slice e)) (he : P.underlying e = some (.int .u8)) (hd : P.underlying dst = some .string)
  (h : SlV M A k c 1 (bytesV l)) (hl : l.length = k) : Yl P env M bs rs ⟨d, .convert src dst x, ty, pos, af, gd⟩ (.string (mkS l)) := by
 subst hl
 refine ⟨by simp [okOp, notSel, Op.operands, hk], fun w hc => ?_⟩
 rcases Nat.eq_zero_or_pos l.length with h0 | h0
 ·have hl : l = [] := List.eq_nil_of_length_eq_zero h0
  subst hl
  have := run_bytes_str (P := P) (w := w) (A := A) (c := c) (l := []) hs he hd (fun _ => rfl) (fun ad _ j v hj => by simp [Gx.bytesV] at hj)
  simp only [execOp, hx, Sem.run_bind, this, Result.andThen_ok]; rfl
 ·obtain ⟨b, o, rfl, hat⟩ := h.2.2.2 h0
  have := run_bytes_str (P := P) (w := w) (A := some ⟨b, o, none⟩) (c := c) (l := l) hs he hd (fun h => by cases h) (fun ad had j v hj => by cases had; rw [add_lit]; exact hc.on.cell (hat j v hj))
  simp only [execOp, hx, Sem.run_bind, this, Result.andThen_ok]; rfl
end
theorem putAt_map {α : Type} (f : α → Value) (zs : List α) (k : Nat) (z : α) (h : k < zs.length) : putAt (zs.map f) k [f z] = (zs.set k z).map f := by
 unfold putAt
 rw [List.set_eq_take_append_cons_drop, if_pos h]
 simp [List.map_take, List.map_drop]
section
variable {P : Program} {ops : Array Oper} {Q : Exit → Act → World → Prop} {n : Nat} {E : World} {bw : List Nat} {M : Mem} {w : World} {a : Act} {env : Env} {bs : List Bx} {rs : List Rw} {rest : List Oper}
end
end Go.Gx

namespace Go.Gx
open Go.RowKit Go.ChangeShapes
def HM (w : World) : Mem := fun b => w.heap[b]?
theorem HM.on (w : World) : On (HM w) w := fun _ _ h => h
theorem HM.cell {w : World} {b i : Nat} {v : Value} (h : w.cell? ⟨b, i, none⟩ = some v) : (HM w).cell b i = some v := by
 unfold World.cell? at h
 unfold Mem.cell HM
 simp only at h ⊢
 split at h
 ·rename_i hq
  rw [hq]
  simpa using h
 ·cases h
section
variable {H : Type} {enc : TypeId × Value → H} {P : Program} {w : World}
theorem argInt {r : Reach} {b0 : Nat} {t : TypeId} {k : IntKind} {v : Value} {d : DataW H} {ps : List MemPlace} (ht : P.underlying t = some (.int k)) (hval : Value.okWide P w r b0 t v) (hd : DataW.Trod enc P w 0 (fun _ => true) true t v d ps) :
  ∃ z, v = .int k z ∧ (Lit.int k z).wf = true := by
 obtain ⟨n, h1, _, _, h2⟩ := open_int ht hval hd
 exact ⟨n, h1, h2⟩
theorem trodAll_below (hl : laidOutB P = true) {W W' : World} (hb : Below W.heap.size W W') : ∀ {ts : List TypeId} {vs : List Value} {ds : List (DataW H)} {ps : List MemPlace}, (ts.all fun t => P.readableRec t && decide (t < P.types.size)) = true →
  DataW.TrodAll enc P W 0 (fun _ => true) true ts vs ds ps → DataW.TrodAll enc P W' 0 (fun b => decide (b < W.heap.size)) true ts vs ds ps
 | [], _, _, _, _, h => by
  obtain ⟨rfl, rfl, rfl⟩ := trodAll_nil h
  exact trodAll_mk0
 | t :: ts, _, _, _, hr, h => by
  simp only [List.all_cons, Bool.and_eq_true, decide_eq_true_eq] at hr
  obtain ⟨v, vs, d, ds, p, q, rfl, rfl, rfl, h1, h2⟩ := trodAll_cons h
  have hlt : ∀ x ∈ p, x.block < W.heap.size := by
   obtain ⟨m, hm⟩ := h1
   exact DataW.trod_lt m _ _ _ hm
  exact trodAll_cons_mk (Below.trod hl hr.1.1 hr.1.2 h1 hb hlt) (trodAll_below hl hb (by simpa using hr.2) h2)
end
theorem flat_part {α : Type} {f : α → List Value} {sz : Nat} : ∀ (es : List α) (_ : ∀ e ∈ es, (f e).length = sz) (i : Nat) (e : α), es[i]? = some e → (((es.map f).flatten).drop (i * sz)).take (f e).length = f e
 | [], _, i, e, h => by simp at h
 | a :: r, hf, 0, e, h => by
  simp only [List.getElem?_cons_zero, Option.some.injEq] at h; subst h
  simp
 | a :: r, hf, i + 1, e, h => by
  simp only [List.getElem?_cons_succ] at h
  have ha := hf a (by simp)
  have := flat_part r (fun e he => hf e (by simp [he])) i e h
  simp only [List.map_cons, List.flatten_cons]
  rw [Nat.succ_mul, List.drop_append, List.drop_of_length_le (by omega), List.nil_append, ha, Nat.add_sub_cancel]
  exact this
theorem SlV.elem {α : Type} {f : α → List Value} {M : Mem} {A : Option Addr} {l c sz : Nat} {es : List α} (h : SlV M A l c sz ((es.map f).flatten)) (hl : es.length = l) (hf : ∀ e ∈ es, (f e).length = sz) {i : Nat} {e : α} (he : es[i]? = some e) :
  ∃ b o, A = some ⟨b, o, none⟩ ∧ At M b (o + i * sz) (f e) := by
 have hi : i < es.length := (List.getElem?_eq_some_iff.1 he).1
 obtain ⟨b, o, ha, hat⟩ := h.2.2.2 (by omega)
 exact ⟨b, o, ha, hat.part (i * sz) (f e) (flat_part es hf i e he)⟩
end Go.Gx

namespace Go.Gx
open Go.RowKit
def cl {α : Type} (f : α → List Value) (xs : List α) : List Value := (xs.map f).flatten
section
variable {α : Type} {f : α → List Value}
theorem cl_cons (x : α) (xs : List α) : cl f (x :: xs) = f x ++ cl f xs := by simp [cl]
theorem cl_length {sz : Nat} (hf : ∀ x, (f x).length = sz) : ∀ xs : List α, (cl f xs).length = xs.length * sz
 | [] => by simp [cl]
 | x :: r => by rw [cl_cons, List.length_append, hf, cl_length hf r, List.length_cons, Nat.succ_mul]; omega
theorem SlV.at {M : Mem} {A : Option Addr} {l c sz : Nat} {xs : List α} (h : SlV M A l c sz (cl f xs)) (hf : ∀ x, (f x).length = sz) (hl : xs.length = l) {i : Nat} {x : α} (hx : xs[i]? = some x) : ∃ b o, A = some ⟨b, o, none⟩ ∧ At M b (o + i * sz) (f x) :=
 SlV.elem h hl (fun x _ => hf x) hx
theorem SlV.len {M : Mem} {A : Option Addr} {l c sz : Nat} {xs : List α} (h : SlV M A l c sz (cl f xs)) (hf : ∀ x, (f x).length = sz) (h0 : 0 < sz) : xs.length = l := by
 have := h.1
 rw [cl_length hf] at this
 exact Nat.eq_of_mul_eq_mul_right h0 this
theorem SlV.max {M : Mem} {A : Option Addr} {l c sz : Nat} {xs : List Value} (h : SlV M A l c sz xs) : l ≤ 9223372036854775807 := by
 have h1 := h.2.1
 have h2 := h.2.2.1
 unfold maxLen at h2
 omega
theorem SlV.rest {M : Mem} {A : Option Addr} {l c sz : Nat} {xs : List Value} (h : SlV M A l c sz xs) (k : Nat) (hk : k ≤ l) : SlV M (slA A k c sz) (l - k) (c - k) sz (xs.drop (k * sz)) := by
 obtain ⟨h1, h2, h3, h4⟩ := h
 refine ⟨by rw [List.length_drop, h1, Nat.sub_mul], by omega, by omega, fun h0 => ?_⟩
 obtain ⟨b, o, rfl, ha⟩ := h4 (by omega)
 refine ⟨b, o + k * sz, ?_, ?_⟩
 ·unfold slA
  rw [if_neg (by omega)]
  simp [add_lit]
 ·intro j v hj
  rw [List.getElem?_drop] at hj
  have := ha _ _ hj
  rw [← Nat.add_assoc] at this
  exact this
theorem SlV.first {M : Mem} {A : Option Addr} {l c sz : Nat} {xs : List Value} (h : SlV M A l c sz xs) (k : Nat) (hk : k ≤ l) : SlV M A k c sz (xs.take (k * sz)) := by
 obtain ⟨h1, h2, h3, h4⟩ := h
 have hle : k * sz ≤ l * sz := Nat.mul_le_mul_right _ hk
 refine ⟨by rw [List.length_take, h1]; omega, by omega, by omega, fun h0 => ?_⟩
 obtain ⟨b, o, rfl, ha⟩ := h4 (by omega)
 refine ⟨b, o, rfl, fun j v hj => ha j v ?_⟩
 rw [List.getElem?_take] at hj
 split at hj
 ·exact hj
 ·cases hj
end
section
variable {α β : Type} {R : α → β → Prop}
end
section
variable {P : Program} {ops : Array Oper} {Q : Exit → Act → World → Prop} {n : Nat} {E : World} {bw : List Nat} {M : Mem} {w : World} {a : Act} {env : Env} {bs : List Bx} {rs : List Rw} {rest : List Oper} {o : Oper}
theorem sP (v : Value) {d : Nat} (hs : Sx n E bw M w a env bs rs) (h : ∀ a', Sx n E bw M w a' ((d, v) :: env) bs rs → wpList P ops Q rest a' w)
  (hg : o.guard = none := by rfl) (hd : o.dst = some d := by rfl) (hdn : d < n := by decide) (hk : okOp env o = true := by rfl) (hr : ∀ w, (execOp (evT env) o).run P w = .ok (.value v) w := by intro _; kernel_rfl) : wpList P ops Q (o :: rest) a w :=
 stepY v hs hg hd hdn (Yl.pure hk hr) h
theorem sY (v : Value) {d : Nat} (hs : Sx n E bw M w a env bs rs) (hy : Yl P env M bs rs o v) (h : ∀ a', Sx n E bw M w a' ((d, v) :: env) bs rs → wpList P ops Q rest a' w)
  (hg : o.guard = none := by rfl) (hd : o.dst = some d := by rfl) (hdn : d < n := by decide) : wpList P ops Q (o :: rest) a w :=
 stepY v hs hg hd hdn hy h
theorem sNo {j t d : Nat} {b c : Bool} (hs : Sx n E bw M w a env bs rs) (h : ∀ a', Sx n E bw M w a' ((d, undef) :: env) bs rs → wpList P ops Q rest a' w) (hg : o.guard = some (j, b) := by rfl) (ht : (ops[j]?).bind (·.dst) = some t := by rfl) (hl : lk env t = some (.bool c) := by rfl) (hne : (c == b) = false := by rfl)
  (hd : o.dst = some d := by rfl) (hdn : d < n := by decide) : wpList P ops Q (o :: rest) a w := step_no hs hg ht hl hne hd hdn h
theorem sNu {j t d : Nat} {b : Bool} (hs : Sx n E bw M w a env bs rs) (h : ∀ a', Sx n E bw M w a' ((d, undef) :: env) bs rs → wpList P ops Q rest a' w) (hg : o.guard = some (j, b) := by rfl) (ht : (ops[j]?).bind (·.dst) = some t := by rfl) (hl : lk env t = some undef := by rfl)
  (hd : o.dst = some d := by rfl) (hdn : d < n := by decide) : wpList P ops Q (o :: rest) a w := step_nou hs hg ht hl hd hdn h
theorem sYe {j t : Nat} {b : Bool} (hs : Sx n E bw M w a env bs rs) (h : wpList P ops Q ({ o with guard := none } :: rest) a w) (hg : o.guard = some (j, b) := by rfl) (ht : (ops[j]?).bind (·.dst) = some t := by rfl) (hl : lk env t = some (.bool b) := by rfl) : wpList P ops Q (o :: rest) a w := step_yes hs hg ht hl h
end
section
variable {P : Program} {ops : Array Oper} {Q : Exit → Act → World → Prop} {M0 : Mem} {bs0 : List Bx} {rs0 : List Rw} {keep : List Bool} {n : Nat} {E : World} {bw : List Nat} {M : Mem} {w : World} {a : Act} {env : Env} {bs : List Bx} {rs : List Rw} {o : Oper} {fuel : Nat} {listed : Array Bool}
theorem dP (v : Value) (i : Nat) (A : List Nat) {d : Nat} (hs : Sx n E bw M w a env bs rs) (hQ : QZ Q) (hw : Region.wanted o (yielded ops a.tmps) = true) (h : ∀ a', Sx n E bw M w a' ((d, v) :: env) bs rs → WpD P ops Q (Cx M0 bs0 rs0) keep fuel (listed.setIfInBounds i true) a' w)
  (ho : ops[i]? = some o := by rfl) (hd : o.dst = some d := by rfl) (hdn : d < n := by decide) (hsel : Region.noSelect ops = true := by kernel_rfl) (hr : (Region.ready .any ops listed).contains i = true := by kernel_rfl) (hf : freeB ops keep listed i A true = true := by kernel_rfl)
  (hk : okOp env o = true := by rfl) (hy : ∀ w, (execOp (evT env) o).run P w = .ok (.value v) w := by intro _; kernel_rfl) : WpD P ops Q (Cx M0 bs0 rs0) keep (fuel + 1) listed a w :=
 stepDP v i A hs hQ ho hw hd hdn hsel hr hf (Yl.pure hk hy) h
theorem dN (i : Nat) (A : List Nat) {d : Nat} (hs : Sx n E bw M w a env bs rs) (hQ : QZ Q) (hw : Region.wanted o (yielded ops a.tmps) = false) (h : ∀ a', Sx n E bw M w a' ((d, undef) :: env) bs rs → WpD P ops Q (Cx M0 bs0 rs0) keep fuel (listed.setIfInBounds i true) a' w)
  (ho : ops[i]? = some o := by rfl) (hd : o.dst = some d := by rfl) (hdn : d < n := by decide) (hsel : Region.noSelect ops = true := by kernel_rfl) (hr : (Region.ready .any ops listed).contains i = true := by kernel_rfl) (hf : freeB ops keep listed i A true = true := by kernel_rfl) : WpD P ops Q (Cx M0 bs0 rs0) keep (fuel + 1) listed a w :=
 stepDN i A hs hQ ho hw hd hdn hsel hr hf h
end
section
variable {P : Program} {ops : Array Oper} {Q : Exit → Act → World → Prop} {n : Nat} {E : World} {bw : List Nat} {M : Mem} {w : World} {a : Act} {env : Env} {bs : List Bx} {rs : List Rw} {rest : List Oper}
abbrev iv (x : Int) : Value := .int .i64 x
theorem lvE (K : Value → Prop) {fn : Func} {M0 : Mem} {v : Value} (hs : Sx n E [] M w a env bs rs) (hr : (results fn a.tmps).run P w = .ok v w) (hM : ∀ b o, M b = some o → M0 b = some o ∨ E.heap.size ≤ b) (hK : K v) :
  a.defers = [] ∧ ∃ v, (results fn a.tmps).run P w = .ok v w ∧ Below E.heap.size E w ∧ K v := leaveE (K := fun v _ => K v) hs hr hM fun _ _ => hK
end
theorem bsS {n : Nat} {E : World} {bw : List Nat} {M : Mem} {w : World} {a : Act} {env : Env} {bs : List Bx} {rs : List Rw} {d : Nat} {b : Bool} {p A B G : Prop} (hp : b = true ↔ p) (hs : Sx n E bw M w a ((d, .bool b) :: env) bs rs) (hS : (p → A) ∧ (¬ p → B)) (h1 : Sx n E bw M w a ((d, .bool true) :: env) bs rs → A → G) (h2 : Sx n E bw M w a ((d, .bool false) :: env) bs rs → B → G) : G :=
 bsplit b hp (fun hb hc => h1 (hs.bt hb) (hS.1 hc)) (fun hb hc => h2 (hs.bf hb) (hS.2 hc))
theorem Wp.cS {P : Program} {N : Act → World → Prop} {X : List (Nat × (Act → World → Prop))} {R : Act → World → Prop} {Z : List PanicEntry → Act → World → Prop} {a : Act} {w : World} {n : Nat} {E : World} {bw : List Nat} {M : Mem} {env : Env} {bs : List Bx} {rs : List Rw} {c : Operand} {x y : Code} {b : Bool} {p A B : Prop} (hs : Sx n E bw M w a env bs rs)
  (hp : b = true ↔ p) (hS : (p → A) ∧ (¬ p → B)) (h1 : A → Wp P x N X R Z a w) (h2 : B → Wp P y N X R Z a w) (hk : known env c = true := by rfl) (hc : evT env c = .bool b := by rfl) : Wp P (.cond c x y) N X R Z a w :=
 Wp.cond hs hk hc hp (fun hc => h1 (hS.1 hc)) (fun hc => h2 (hS.2 hc))
section
variable {P : Program} {ops : Array Oper} {Q : Exit → Act → World → Prop} {M0 : Mem} {bs0 : List Bx} {rs0 : List Rw} {keep : List Bool} {w : World} {a : Act} {o : Oper} {fuel : Nat} {listed : Array Bool}
theorem sE (i : Nat)
  (h : wpList P #[] (fun e a' w' => match e with
   | .normal => (keep.getD i false = true → Cx M0 bs0 rs0 w → Cx M0 bs0 rs0 w') ∧ WpD P ops Q (Cx M0 bs0 rs0) keep fuel (listed.setIfInBounds i true) a' w'
   | .panic c => Q (.panic c) a' w'
   | _ => False) [{ o with guard := none }] a w) (ho : ops[i]? = some o := by rfl) (hw : Region.wanted o (yielded ops a.tmps) = true := by exact wanted_none rfl) (hr : Region.ready .any ops listed = [i] := by kernel_rfl) : WpD P ops Q (Cx M0 bs0 rs0) keep (fuel + 1) listed a w :=
 stepDE i ho hw hr #[] h
end
section
variable {P : Program} {ops : Array Oper} {Q : Exit → Act → World → Prop} {n : Nat} {E : World} {bw : List Nat} {M : Mem} {w : World} {a : Act} {env : Env} {bs : List Bx} {rs : List Rw} {rest : List Oper}
theorem Yl.wr {o : Oper} {z : Int} (hI : InI z) (hk : okOp env o = true := by rfl) (hr : ∀ w, (execOp (evT env) o).run P w = .ok (.value (Value.int .i64 (IntKind.wrap .i64 z))) w := by intro _; kernel_rfl) : Yl P env M bs rs o (.int .i64 z) :=
 Yl.eq (Yl.pure hk hr) (congrArg (Value.int .i64) (wrap_in hI))
theorem Yl.lV (vs : List Value) (g : Bool) {d : Option Tmp} {t ty : TypeId} {x : Operand} {pos : String} {af : Array Edge} {gd : Option (Nat × Bool)} {b k : Nat} (h : At M b k vs) (hk : known env x = true := by rfl) (hx : evT env x = .pointer (some ⟨b, k, none⟩) := by rfl)
  (ht : tyOk P t g vs.length = true := by kernel_rfl) : Yl P env M bs rs ⟨d, .load t x, ty, pos, af, gd⟩ (ofCells g vs) := Yl.loadV g hk hx ht h
theorem Yl.iS (e sz : Nat) {d : Option Tmp} {t ty : TypeId} {x i : Operand} {pos : String} {af : Array Edge} {gd : Option (Nat × Bool)} {b k l c : Nat} {ik : IntKind} {n : Int} {ad : Option Addr} (had : ad = some ⟨b, k, none⟩) (h0 : 0 ≤ n) (hl : n < l) (hkx : known env x = true := by rfl) (hki : known env i = true := by rfl)
  (hx : evT env x = .slice ad l c := by rfl) (hi : evT env i = .int ik n := by rfl) (hu : P.underlying t = some (.slice e) := by kernel_rfl) (hn : (P.info? e).map (·.size) = some sz := by kernel_rfl) :
  Yl P env M bs rs ⟨d, .indexAddr t x i, ty, pos, af, gd⟩ (.pointer (some ⟨b, k + n.toNat * sz, none⟩)) := Yl.indexS hkx hki hx hi hu hn had h0 hl
theorem cP (args : List Value) {d f : Nat} {ty : TypeId} {c : Call} {pos : String} {af : Array Edge} {fn : Func} {K : Value → Prop} {first caps : Array Value} (hs : Sx n E bw M w a env bs rs) (hf : P.funcs[f]? = some fn) (hc : CallE P f args.toArray M fun v _ => K v)
  (h : ∀ a' w' v, K v → Sx n E bw M w' a' ((d, v) :: env) bs rs → wpList P ops Q rest a' w') (hk : okOp env ⟨some d, .call c, ty, pos, af, none⟩ = true := by rfl) (hcal : ∃ x, c.callee = .value x ∧ evT env x = .func (.func f) first caps := by exact ⟨_, rfl, rfl⟩) (hargs : first.toList ++ c.args.toList.map (evT env) ++ caps.toList = args := by rfl)
  (hbody : fn.body.isNone = false := by rfl) (hname : (fn.name == "runtime.NumGoroutine") = false := by kernel_rfl) (hdn : d < n := by decide) : wpList P ops Q (⟨some d, .call c, ty, pos, af, none⟩ :: rest) a w := stepCallP args hs hk hcal hargs hf hbody hname hdn hc h
end
section
variable {P : Program} {ops ops1 : Array Oper} {Q : Exit → Act → World → Prop} {M0 : Mem} {bs0 : List Bx} {rs0 : List Rw} {keep : List Bool} {n j : Nat} {E : World} {bw : List Nat} {M : Mem} {w : World} {a : Act} {env : Env} {bs : List Bx} {rs : List Rw} {o : Oper} {fuel : Nat} {listed : Array Bool}
theorem wN (h : WpD P ops Q (Cx M0 bs0 rs0) keep fuel listed a w) : wpList P ops1 (fun e a' w' => match e with
   | .normal => (keep.getD j false = true → Cx M0 bs0 rs0 w → Cx M0 bs0 rs0 w') ∧ WpD P ops Q (Cx M0 bs0 rs0) keep fuel listed a' w'
   | .panic c => Q (.panic c) a' w'
   | _ => False) [] a w := wpList_nil ⟨fun _ h => h, h⟩
theorem wF {w0 : World} (h : WpD P ops Q (Cx M0 bs0 rs0) keep fuel listed a w) (hk : keep.getD j false = false := by decide) : wpList P ops1 (fun e a' w' => match e with
   | .normal => (keep.getD j false = true → Cx M0 bs0 rs0 w0 → Cx M0 bs0 rs0 w') ∧ WpD P ops Q (Cx M0 bs0 rs0) keep fuel listed a' w'
   | .panic c => Q (.panic c) a' w'
   | _ => False) [] a w := wpList_nil ⟨fun h => (by rw [hk] at h; cases h), h⟩
theorem nE (i : Nat) (h : wpList P #[] (fun e a' w' => match e with
   | .normal => (keep.getD i false = true → Cx M0 bs0 rs0 w → Cx M0 bs0 rs0 w') ∧ WpD P ops Q (Cx M0 bs0 rs0) keep fuel (listed.setIfInBounds i true) a' w'
   | .panic c => Q (.panic c) a' w'
   | _ => False) [{ o with guard := none }] a w) (ho : ops[i]? = some o := by rfl) (hw : Region.wanted o (yielded ops a.tmps) = true := by exact wanted_none rfl) (hr : Region.ready .any ops listed = [i] := by kernel_rfl) : wpList P ops1 (fun e a' w' => match e with
   | .normal => (keep.getD j false = true → Cx M0 bs0 rs0 w → Cx M0 bs0 rs0 w') ∧ WpD P ops Q (Cx M0 bs0 rs0) keep (fuel + 1) listed a' w'
   | .panic c => Q (.panic c) a' w'
   | _ => False) [] a w := wN (sE i h ho hw hr)
theorem fE {w0 : World} (i : Nat) (h : wpList P #[] (fun e a' w' => match e with
   | .normal => (keep.getD i false = true → Cx M0 bs0 rs0 w → Cx M0 bs0 rs0 w') ∧ WpD P ops Q (Cx M0 bs0 rs0) keep fuel (listed.setIfInBounds i true) a' w'
   | .panic c => Q (.panic c) a' w'
   | _ => False) [{ o with guard := none }] a w) (hk : keep.getD j false = false := by decide) (ho : ops[i]? = some o := by rfl) (hw : Region.wanted o (yielded ops a.tmps) = true := by exact wanted_none rfl) (hr : Region.ready .any ops listed = [i] := by kernel_rfl) : wpList P ops1 (fun e a' w' => match e with
   | .normal => (keep.getD j false = true → Cx M0 bs0 rs0 w0 → Cx M0 bs0 rs0 w') ∧ WpD P ops Q (Cx M0 bs0 rs0) keep (fuel + 1) listed a' w'
   | .panic c => Q (.panic c) a' w'
   | _ => False) [] a w := wF (sE i h ho hw hr) hk
theorem sEy {i j t : Nat} {b : Bool} (hs : Sx n E bw M w a env bs rs) (h : wpList P #[] (fun e a' w' => match e with
   | .normal => (keep.getD i false = true → Cx M0 bs0 rs0 w → Cx M0 bs0 rs0 w') ∧ WpD P ops Q (Cx M0 bs0 rs0) keep fuel (listed.setIfInBounds i true) a' w'
   | .panic c => Q (.panic c) a' w'
   | _ => False) [{ o with guard := none }] a w) (hr : Region.ready .any ops listed = [i] := by kernel_rfl) (ho : ops[i]? = some o := by rfl) (hg : o.guard = some (j, b) := by rfl) (ht : (ops[j]?).bind (·.dst) = some t := by rfl) (hl : lk env t = some (.bool b) := by rfl) : WpD P ops Q (Cx M0 bs0 rs0) keep (fuel + 1) listed a w :=
 stepDE i ho (wanted_yes hs hg ht hl) hr #[] h
theorem dD (h : Q .normal a w) (hr : Region.ready .any ops listed = [] := by kernel_rfl) : WpD P ops Q (Cx M0 bs0 rs0) keep fuel listed a w := WpD.done hr h fuel
theorem dFy (v : Value) (i : Nat) (A : List Nat) {d j t : Nat} {b : Bool} (hs : Sx n E bw M w a env bs rs) (ho : ops[i]? = some o) (hy : Yl P env (fun _ => Option.none) [] [] o v) (h : ∀ a', Sx n E bw M w a' ((d, v) :: env) bs rs → WpD P ops Q (Cx M0 bs0 rs0) keep fuel (listed.setIfInBounds i true) a' w)
  (hQ : QZ Q := by exact QZ.no) (hg : o.guard = some (j, b) := by rfl) (ht : (ops[j]?).bind (·.dst) = some t := by rfl) (hl : lk env t = some (.bool b) := by rfl) (hd : o.dst = some d := by rfl) (hdn : d < n := by decide) (hsel : Region.noSelect ops = true := by kernel_rfl) (hr : (Region.ready .any ops listed).contains i = true := by kernel_rfl) (hf : freeB ops keep listed i A true = true := by kernel_rfl) : WpD P ops Q (Cx M0 bs0 rs0) keep (fuel + 1) listed a w :=
 stepDP v i A hs hQ ho (wanted_yes hs hg ht hl) hd hdn hsel hr hf hy h
theorem dCy (v : Value) (i : Nat) (A : List Nat) {d j t : Nat} {b : Bool} (hs : Sx n E bw M w a env bs rs) (hC : Cx M0 bs0 rs0 w) (ho : ops[i]? = some o) (hy : Yl P env M0 bs0 rs0 o v) (h : ∀ a', Sx n E bw M w a' ((d, v) :: env) bs rs → WpD P ops Q (Cx M0 bs0 rs0) keep fuel (listed.setIfInBounds i true) a' w)
  (hQ : QZ Q := by exact QZ.no) (hg : o.guard = some (j, b) := by rfl) (ht : (ops[j]?).bind (·.dst) = some t := by rfl) (hl : lk env t = some (.bool b) := by rfl) (hd : o.dst = some d := by rfl) (hdn : d < n := by decide) (hsel : Region.noSelect ops = true := by kernel_rfl) (hr : (Region.ready .any ops listed).contains i = true := by kernel_rfl) (hf : freeB ops keep listed i A false = true := by kernel_rfl) : WpD P ops Q (Cx M0 bs0 rs0) keep (fuel + 1) listed a w :=
 stepDY v i A hs hC hQ ho (wanted_yes hs hg ht hl) hd hdn hsel hr hf hy h
theorem dA (v : Value) (i : Nat) (A : List Nat) {d : Nat} (hs : Sx n E bw M w a env bs rs) (h : ∀ a', Sx n E bw M w a' ((d, v) :: env) bs rs → WpD P ops Q (Cx M0 bs0 rs0) keep fuel (listed.setIfInBounds i true) a' w)
  (hQ : QZ Q := by exact QZ.no) (ho : ops[i]? = some o := by rfl) (hg : o.guard = none := by rfl) (hd : o.dst = some d := by rfl) (hdn : d < n := by decide) (hsel : Region.noSelect ops = true := by kernel_rfl) (hr : (Region.ready .any ops listed).contains i = true := by kernel_rfl) (hf : freeB ops keep listed i A true = true := by kernel_rfl)
  (hk : okOp env o = true := by rfl) (hy : ∀ w, (execOp (evT env) o).run P w = .ok (.value v) w := by intro _; kernel_rfl) : WpD P ops Q (Cx M0 bs0 rs0) keep (fuel + 1) listed a w :=
 stepDP v i A hs hQ ho (wanted_none hg) hd hdn hsel hr hf (Yl.pure hk hy) h
theorem dF (v : Value) (i : Nat) (A : List Nat) {d : Nat} (hs : Sx n E bw M w a env bs rs) (ho : ops[i]? = some o) (hy : Yl P env (fun _ => Option.none) [] [] o v) (h : ∀ a', Sx n E bw M w a' ((d, v) :: env) bs rs → WpD P ops Q (Cx M0 bs0 rs0) keep fuel (listed.setIfInBounds i true) a' w)
  (hQ : QZ Q := by exact QZ.no) (hg : o.guard = none := by rfl) (hd : o.dst = some d := by rfl) (hdn : d < n := by decide) (hsel : Region.noSelect ops = true := by kernel_rfl) (hr : (Region.ready .any ops listed).contains i = true := by kernel_rfl) (hf : freeB ops keep listed i A true = true := by kernel_rfl) : WpD P ops Q (Cx M0 bs0 rs0) keep (fuel + 1) listed a w :=
 stepDP v i A hs hQ ho (wanted_none hg) hd hdn hsel hr hf hy h
theorem dC (v : Value) (i : Nat) (A : List Nat) {d : Nat} (hs : Sx n E bw M w a env bs rs) (hC : Cx M0 bs0 rs0 w) (ho : ops[i]? = some o) (hy : Yl P env M0 bs0 rs0 o v) (h : ∀ a', Sx n E bw M w a' ((d, v) :: env) bs rs → WpD P ops Q (Cx M0 bs0 rs0) keep fuel (listed.setIfInBounds i true) a' w)
  (hQ : QZ Q := by exact QZ.no) (hg : o.guard = none := by rfl) (hd : o.dst = some d := by rfl) (hdn : d < n := by decide) (hsel : Region.noSelect ops = true := by kernel_rfl) (hr : (Region.ready .any ops listed).contains i = true := by kernel_rfl) (hf : freeB ops keep listed i A false = true := by kernel_rfl) : WpD P ops Q (Cx M0 bs0 rs0) keep (fuel + 1) listed a w :=
 stepDY v i A hs hC hQ ho (wanted_none hg) hd hdn hsel hr hf hy h
end
end Go.Gx

namespace Go.Gx
open Go.RowKit
def idxB (s : List UInt8) (c : Int) : Int := match s.findIdx? (· == c.toNat.toUInt8) with
 | some i => i
 | none => -1
theorem find_same {p q : Nat → Bool} : ∀ {l : List Nat}, (∀ i ∈ l, p i = q i) → l.find? p = l.find? q
 | [], _ => rfl
 | a :: r, h => by rw [List.find?_cons, List.find?_cons, h a (by simp), find_same fun i hi => h i (by simp [hi])]
theorem find_range (l : List UInt8) (c : UInt8) : (List.range l.length).find? (fun i => l.getD i 0 == c) = l.findIdx? (· == c) := by
 cases h : l.findIdx? (· == c) with
 | none =>
  rw [List.findIdx?_eq_none_iff] at h
  rw [List.find?_eq_none]
  intro i hi
  have hl := List.mem_range.1 hi
  have := h l[i] (List.getElem_mem hl)
  simpa [List.getD, List.getElem?_eq_getElem hl] using this
 | some i =>
  rw [List.findIdx?_eq_some_iff_getElem] at h
  obtain ⟨hl, hi, hlt⟩ := h
  rw [List.find?_range_eq_some]
  refine ⟨by simpa [List.getD, List.getElem?_eq_getElem hl] using hi, List.mem_range.2 hl, fun j hj => ?_⟩
  have := hlt j hj
  simpa [List.getD, List.getElem?_eq_getElem (Nat.lt_trans hj hl)] using this
theorem firstIdx_is (l : List UInt8) (c : Int) : firstIdx (mkS l) c.toNat.toUInt8 = idxB l c := by
 unfold firstIdx idxB
 have e : (List.range (mkS l).size).find? (fun i => (mkS l)[i]! == c.toNat.toUInt8) = (List.range l.length).find? (fun i => l.getD i 0 == c.toNat.toUInt8) := by
  have hsz : (mkS l).size = l.length := rfl
  rw [hsz]
  refine find_same fun i hi => ?_
  have hl := List.mem_range.1 hi
  have h1 : (mkS l)[i]! = l[i] := getElem!_pos (mkS l) i hl
  rw [h1]
  simp [List.getD, List.getElem?_eq_getElem hl]
 rw [e, find_range]
 cases l.findIdx? (· == c.toNat.toUInt8) <;> rfl
theorem idxB_cases (s : List UInt8) (c : UInt8) : (idxB s c.toNat = -1 ∧ ∀ (i : Nat) x, s[i]? = some x → x ≠ c) ∨ ∃ i : Nat, idxB s c.toNat = i ∧ s[i]? = some c ∧ ∀ (j : Nat) x, j < i → s[j]? = some x → x ≠ c := by
 have hc : (c.toNat : Int).toNat.toUInt8 = c := by simp
 unfold idxB
 rw [hc]
 cases h : s.findIdx? (· == c) with
 | none =>
  left
  rw [List.findIdx?_eq_none_iff] at h
  refine ⟨rfl, fun i x hx => ?_⟩
  have := h x (List.mem_of_getElem? hx)
  simpa using this
 | some i =>
  right
  rw [List.findIdx?_eq_some_iff_getElem] at h
  obtain ⟨hl, hi, hlt⟩ := h
  refine ⟨i, rfl, by rw [List.getElem?_eq_getElem hl]; simpa using hi, fun j x hj hx => ?_⟩
  have := hlt j hj
  obtain ⟨_, rfl⟩ := List.getElem?_eq_some_iff.1 hx
  simpa using this
section
variable {P : Program} {env : Env} {M : Mem} {bs : List Bx} {rs : List Rw} {d : Option Tmp} {ty : TypeId} {pos : String} {af : Array Edge} {gd : Option (Nat × Bool)}
theorem Yl.ext {f : Nat} {c : Call} {fn : Func} {e : Array Value → Sem Value} {v : Value} (args : List Value) (hk : okOp env ⟨d, .call c, ty, pos, af, gd⟩ = true) (hcal : ∃ x, c.callee = .value x ∧ evT env x = .func (.func f) #[] #[]) (hargs : c.args.toList.map (evT env) = args)
  (hf : P.funcs[f]? = some fn) (hbody : fn.body.isNone = true) (hname : (fn.name == "runtime.NumGoroutine") = false) (hn : (Extern.findNext fn).isNone = true) (he : Extern.find fn = some e) (hr : ∀ w, (e args.toArray).run P w = .ok v w) : Yl P env M bs rs ⟨d, .call c, ty, pos, af, gd⟩ v := by
 refine ⟨hk, fun w _ => ?_⟩
 obtain ⟨x, hcal, hx⟩ := hcal
 have ha : c.args.map (evT env) = args.toArray := by rw [← hargs]; apply Array.ext'; simp
 have hname' : ¬ fn.name = "runtime.NumGoroutine" := beq_eq_false_iff_ne.1 hname
 have hbody' : fn.body = none := by simpa using hbody
 have hn' : Extern.findNext fn = none := by simpa using hn
 simp [execOp, resolve, hcal, hx, Deferred.ofValue, invoke, callFunc, hf, hbody', hname', hn', he, ha, hr]
theorem Yl.idxByte {f : Nat} {c : Call} {fn : Func} {l : List UInt8} {z : Int} (hk : okOp env ⟨d, .call c, ty, pos, af, gd⟩ = true) (hcal : ∃ x, c.callee = .value x ∧ evT env x = .func (.func f) #[] #[]) (hargs : c.args.toList.map (evT env) = [.string (mkS l), .int .u8 z])
  (hf : P.funcs[f]? = some fn) (hbody : fn.body.isNone = true) (hname : (fn.name == "runtime.NumGoroutine") = false) (hn : (Extern.findNext fn).isNone = true) (he : Extern.find fn = some Extern.BytealgIndexByte.indexByte) : Yl P env M bs rs ⟨d, .call c, ty, pos, af, gd⟩ (.int .i64 (idxB l z)) :=
 Yl.ext _ hk hcal hargs hf hbody hname hn he fun w => by rw [← firstIdx_is]; exact run_indexByte_string _ _ _
end
end Go.Gx

namespace Go.Gx
open Go.RowKit
section
variable {P : Program} {ops : Array Oper} {Q : Exit → Act → World → Prop} {n : Nat} {E : World} {bw : List Nat} {M : Mem} {w : World} {a : Act} {env : Env} {bs : List Bx} {rs : List Rw} {rest : List Oper}
theorem On.hm (h : On M w) : M.le (HM w) := fun b o hb => h b o hb
theorem Sx.srcRowA (hs : Sx n E bw M w a env bs rs) (j : Nat) {A : Option Addr} {m c : Nat} {e size : Nat} {news : List Value} {ow : Bool} (hj : rs[j]? = some ⟨.slice A m c, e, size, m, news, ow⟩) (h1 : ∀ u ∈ news, u.oneCell' = true) : Src w A m size news :=
 hs.srcRow j hj (List.all_eq_true.2 h1)
end
end Go.Gx

namespace Go.Gx
open Go.RowKit Go.ChangeShapes
mutual
def dBulk {H : Type} : DataW H → Nat
 | .lit (.string bytes) => bytes.length + 1
 | .lit _ => 1
 | .nil => 1
 | .ptr d => dBulk d + 1
 | .slice elems spare => dBulks elems + dBulks spare + 1
 | .agg parts => dBulks parts + 1
 | .iface _ d => dBulk d + 1
 | .map entries => dBulkEs entries + 1
 | .held _ => 1
def dBulks {H : Type} : List (DataW H) → Nat
 | [] => 0
 | d :: r => dBulk d + dBulks r
def dBulkEs {H : Type} : List (Lit × DataW H) → Nat
 | [] => 0
 | x :: r => dBulkE x + dBulkEs r
def dBulkE {H : Type} : Lit × DataW H → Nat
 | (.string bytes, d) => bytes.length + dBulk d + 1
 | (_, d) => dBulk d + 1
end
section
variable {H : Type} {enc : TypeId × Value → H} {P : Program} {w : World}
theorem argStrB {r : Reach} {b0 : Nat} {t : TypeId} {v : Value} {d : DataW H} {ps : List MemPlace} (ht : P.underlying t = some .string) (hval : Value.okWide P w r b0 t v) (hd : DataW.Trod enc P w 0 (fun _ => true) true t v d ps) :
  ∃ l, v = .string (mkS l) ∧ d = .lit (.string l) ∧ l.length + 1 = dBulk d := by
 obtain ⟨s, rfl⟩ := WideShapes.okWide_string ht hval
 obtain ⟨fuel, hf⟩ := hd
 obtain ⟨s', h, hx, hs⟩ := DataW.trod_string ht hf
 simp [Value.cells] at h
 subst h
 simp only [Prod.mk.injEq] at hx
 obtain ⟨rfl, _⟩ := hx
 exact ⟨s.data.toList, by rw [← mkS_eta], rfl, by simp [dBulk]⟩
end
end Go.Gx

namespace Go.Gx
open Go.RowKit
def Mem.put (M : Mem) (b o : Nat) (vs : List Value) : Mem := fun x => if x = b then (match M b with
 | some (.cells c t f) => some (.cells (putAt c.toList o vs).toArray t f)
 | r => r) else M x
def Mem.add (M : Mem) (b : Nat) (o : Obj) : Mem := fun x => if x = b then some o else M x
theorem Mem.put_ne {M : Mem} {b o x : Nat} {vs : List Value} (h : x ≠ b) : M.put b o vs x = M x := by unfold Mem.put; rw [if_neg h]
theorem Mem.put_eq {M : Mem} {b o : Nat} {vs : List Value} {c : Array Value} {t : TypeId} {f : Nat × Nat} (h : M b = some (.cells c t f)) : M.put b o vs b = some (.cells (putAt c.toList o vs).toArray t f) := by
 unfold Mem.put; rw [if_pos rfl, h]
theorem Mem.add_ne {M : Mem} {b x : Nat} {o : Obj} (h : x ≠ b) : M.add b o x = M x := by unfold Mem.add; rw [if_neg h]
theorem Mem.add_eq {M : Mem} {b : Nat} {o : Obj} : M.add b o b = some o := by unfold Mem.add; rw [if_pos rfl]
theorem Mem.put_some {M : Mem} {b o x : Nat} {vs : List Value} : (M.put b o vs x).isSome = (M x).isSome := by
 by_cases h : x = b
 ·subst h
  unfold Mem.put
  rw [if_pos rfl]
  split <;> simp_all
 ·rw [Mem.put_ne h]
structure WX (M M0 : Mem) (E : World) : Prop where
 old : ∀ b o, M b = some o → (M0 b).isSome = true ∨ E.heap.size ≤ b
 dom : ∀ b, (M0 b).isSome = true → (M b).isSome = true
theorem WX.refl (M : Mem) (E : World) : WX M M E := ⟨fun b o h => .inl (by rw [h]; rfl), fun _ h => h⟩
theorem WX.next {M'' M' M : Mem} {E : World} (h : WX M' M E) (hl : M'.le M'') (k : ∀ b o, M'' b = some o → M' b = some o ∨ E.heap.size ≤ b) : WX M'' M E :=
 ⟨fun b o hb => (k b o hb).elim (fun h' => h.old b o h') .inr, fun b hb => by
  obtain ⟨o, ho⟩ := Option.isSome_iff_exists.1 (h.dom b hb)
  rw [hl b o ho]; rfl⟩
theorem WX.put {M M0 : Mem} {E : World} (h : WX M M0 E) (b o : Nat) (vs : List Value) : WX (M.put b o vs) M0 E :=
 ⟨fun x q hx => by
  have : (M x).isSome = true := by rw [← Mem.put_some (b := b) (o := o) (vs := vs), hx]; rfl
  obtain ⟨r, hr⟩ := Option.isSome_iff_exists.1 this
  exact h.old x r hr, fun x hx => by rw [Mem.put_some]; exact h.dom x hx⟩
noncomputable def bwW (E : World) (M0 : Mem) (L : Nat → Prop) : List Nat := (List.range E.heap.size).filter fun k => @decide (L k ∧ (M0 k).isSome = true) (Classical.propDecidable _)
theorem mem_bwW {E : World} {M0 : Mem} {L : Nat → Prop} {k : Nat} : k ∈ bwW E M0 L ↔ k < E.heap.size ∧ L k ∧ (M0 k).isSome = true := by
 unfold bwW
 rw [List.mem_filter, List.mem_range]
 simp
def growW (M : Mem) (w w' : World) : Mem := fun b => if w.heap.size ≤ b ∨ (M b).isSome = true then w'.heap[b]? else none
theorem growW_on {M : Mem} {w w' : World} : On (growW M w w') w' := by
 intro b o hb
 unfold growW at hb
 split at hb
 ·exact hb
 ·cases hb
structure LeW (M : Mem) (L : Nat → Prop) (M' : Mem) : Prop where
 keep : ∀ b o, M b = some o → ¬ L b → M' b = some o
 dom : ∀ b, (M b).isSome = true → (M' b).isSome = true
abbrev Wr (L : Nat → Prop) (M : Mem) : Nat → Prop := fun b => L b ∨ M b = none
def CallW (P : Program) (f : FuncId) (args : Array Value) (M : Mem) (L : Nat → Prop) (K : Value → Mem → Prop) : Prop :=
 ∀ w, On M w → Calls P f args w fun e w' => ∃ v, e = .returned v ∧ Pres w (bwW w M L) w' ∧ K v (growW M w w')
theorem growW_le {M : Mem} {L : Nat → Prop} {w w' : World} (hon : On M w) (hp : Pres w (bwW w M L) w') : LeW M L (growW M w w') := by
 refine ⟨fun b o hb hL => ?_, fun b hb => ?_⟩
 ·unfold growW
  rw [if_pos (.inr (by rw [hb]; rfl)), hp.block b (hon.lt hb) (fun h => hL (mem_bwW.1 h).2.1)]
  exact hon b o hb
 ·obtain ⟨o, ho⟩ := Option.isSome_iff_exists.1 hb
  have := hon.lt ho
  have hs := hp.size
  unfold growW
  rw [if_pos (.inr hb), Array.getElem?_eq_getElem (by omega)]
  rfl
theorem Pres.wider {E w : World} {M : Mem} {L L' : Nat → Prop} (h : Pres E (bwW E M L) w) (hl : ∀ b, L b → L' b) : Pres E (bwW E M L') w :=
 ⟨h.os, h.tape, h.output, h.size, fun k hk hn => h.block k hk fun hm => hn (by obtain ⟨h1, h2, h3⟩ := mem_bwW.1 hm; exact mem_bwW.2 ⟨h1, hl k h2, h3⟩)⟩
theorem CallW.mono {P : Program} {f : FuncId} {args : Array Value} {M : Mem} {L L' : Nat → Prop} {K K' : Value → Mem → Prop} (h : CallW P f args M L K) (hl : ∀ b, L b → L' b) (hK : ∀ v M', LeW M L M' → K v M' → K' v M') : CallW P f args M L' K' :=
 fun w hw => (h w hw).mono fun _ _ ⟨v, h1, h2, h3⟩ => ⟨v, h1, h2.wider hl, hK v _ (growW_le hw h2) h3⟩
theorem grow_same {M : Mem} {w w' : World} (hon : On M w) (hb : Below w.heap.size w w') : grow M w w' = growW M w w' := by
 funext b
 unfold grow growW
 by_cases h : w.heap.size ≤ b
 ·rw [if_pos h, if_pos (.inl h)]
 ·rw [if_neg h]
  cases hm : M b with
  | none => rw [if_neg (by simp; omega)]
  | some o => rw [if_pos (.inr rfl), hb.block b (by omega)]; exact (hon b o hm).symm
theorem CallW.toE {P : Program} {f : FuncId} {args : Array Value} {M : Mem} {K : Value → Mem → Prop} (h : CallW P f args M (fun _ => False) K) : CallE P f args M K :=
 fun w hw => (h w hw).mono fun _ w' ⟨v, h1, h2, h3⟩ => by
  have hb : Below w.heap.size w w' := ⟨h2.os, h2.tape, h2.output, h2.size, fun k hk => h2.block k hk fun hm => (mem_bwW.1 hm).2.1⟩
  exact ⟨v, h1, hb, by rw [grow_same hw hb]; exact h3⟩
theorem enterW {P : Program} {f : FuncId} {fn : Func} {c : Code} {l : List Value} {M : Mem} {L : Nat → Prop} {K : Value → Mem → Prop}
  (hf : P.funcs[f]? = some fn) (hb : fn.body = some c) (n : Nat) (hn : fn.ntmps = n) (hl : l.length ≤ n)
  (h : ∀ w a, Sx n w (bwW w M L) M w a (argEnv l 0) [] [] → Wp P c (fun a' w' => a'.defers = [] ∧ ∃ v, (results fn a'.tmps).run P w' = .ok v w' ∧ Pres w (bwW w M L) w' ∧ K v (growW M w w')) []
   (fun a' w' => a'.defers = [] ∧ ∃ v, (results fn a'.tmps).run P w' = .ok v w' ∧ Pres w (bwW w M L) w' ∧ K v (growW M w w')) (fun _ _ _ => False) a w) :
  CallW P f l.toArray M L K := by
 intro w hw
 refine calls_of_wp hf hb ?_
 refine Code.wp_mono (fun e a' w' q => ?_) (h w _ ⟨⟨rfl, ?_, fun x v hx => ?_⟩, hw, Pres.refl _ _, (fun x hx => by cases hx), (fun r hr => by cases hr), ⟨List.nodup_nil, (fun x hx => by cases hx), List.Pairwise.nil⟩⟩)
 ·cases e with
  | normal => obtain ⟨h1, v, h2, h3, h4⟩ := q; exact ⟨h1, v, h2, v, rfl, h3, h4⟩
  | ret => obtain ⟨h1, v, h2, h3, h4⟩ := q; exact ⟨h1, v, h2, v, rfl, h3, h4⟩
  | _ => exact q.elim
 ·simp [hn]; omega
 ·obtain ⟨_, h2⟩ := lk_argEnv l 0 x v hx
  simp only [Nat.sub_zero] at h2
  have hx' : x < l.length := by
   rcases Nat.lt_or_ge x l.length with h' | h'
   ·exact h'
   ·rw [List.getElem?_eq_none h'] at h2; cases h2
  simp only [Array.getD_eq_getD_getElem?]
  rw [Array.getElem?_append_left (by simpa using hx')]
  simp [h2]
theorem leaveW {P : Program} {fn : Func} {n : Nat} {E : World} {M0 M : Mem} {L : Nat → Prop} {w : World} {a : Act} {env : Env} {bs : List Bx} {rs : List Rw} {K : Value → Mem → Prop} {v : Value}
  (hs : Sx n E (bwW E M0 L) M w a env bs rs) (hr : (results fn a.tmps).run P w = .ok v w) (hM : WX M M0 E) (hK : ∀ M', M.le M' → K v M') :
  a.defers = [] ∧ ∃ v, (results fn a.tmps).run P w = .ok v w ∧ Pres E (bwW E M0 L) w ∧ K v (growW M0 E w) := by
 refine ⟨hs.ag.df, v, hr, hs.pr, hK _ fun b o hb => ?_⟩
 unfold growW
 rw [if_pos ((hM.old b o hb).symm)]
 exact hs.on b o hb
section
variable {P : Program} {ops : Array Oper} {Q : Exit → Act → World → Prop} {n : Nat} {E : World} {M M0 : Mem} {L : Nat → Prop} {w : World} {a : Act} {env : Env} {bs : List Bx} {rs : List Rw} {rest : List Oper}
theorem Sx.backW {w' : World} (hs : Sx n E (bwW E M0 L) M w a env bs rs) (hM : WX M M0 E) (hp : Pres w (bwW w M fun b => L b ∨ M0 b = none) w') {a' : Act} {env' : Env} (hA : Ag n a' env') :
  Sx n E (bwW E M0 L) (growW M w w') w' a' env' bs rs := by
 have hsz := hs.pr.size
 have hhid : ∀ x, x < w.heap.size → M x = none → w'.heap[x]? = w.heap[x]? := fun x hx hm => hp.block x hx fun h => by have := (mem_bwW.1 h).2.2; rw [hm] at this; cases this
 have hnone : ∀ x, x < w.heap.size → M x = none → growW M w w' x = none := fun x hx hm => by
  unfold growW; rw [if_neg]; rw [hm]; simp; omega
 refine ⟨hA, growW_on, ?_, fun x hx => ?_, fun r hr => ?_, hs.nd⟩
 ·obtain ⟨h1, h2, h3, h4, h5⟩ := hs.pr
  refine ⟨hp.os.trans h1, hp.tape.trans h2, hp.output.trans h3, Nat.le_trans h4 hp.size, fun k hk hn => ?_⟩
  rw [hp.block k (by omega) (fun hm => ?_)]
  ·exact h5 k hk hn
  ·obtain ⟨_, g2, g3⟩ := mem_bwW.1 hm
   obtain ⟨o, ho⟩ := Option.isSome_iff_exists.1 g3
   rcases hM.old k o ho with h | h
   ·refine hn (mem_bwW.2 ⟨hk, ?_, h⟩)
    rcases g2 with g | g
    ·exact g
    ·rw [g] at h; cases h
   ·omega
 ·obtain ⟨h1, h2, h3⟩ := hs.bx x hx
  exact ⟨(hhid _ h1.lt h2).trans h1, hnone _ h1.lt h2, h3⟩
 ·obtain ⟨h1, h2⟩ := hs.rw r hr
  exact ⟨ownsRow_keep h1 fun g hg => hhid g (ownBlock_lt h1 hg) (h2 g hg).1, fun g hg => ⟨hnone g (ownBlock_lt h1 hg) (h2 g hg).1, (h2 g hg).2⟩⟩
theorem WX.grow {w' : World} (hs : Sx n E (bwW E M0 L) M w a env bs rs) (hM : WX M M0 E) {L' : Nat → Prop} (hp : Pres w (bwW w M L') w') : WX (growW M w w') M0 E := by
 have hsz := hs.pr.size
 refine ⟨fun b o hb => ?_, fun b hb => (growW_le hs.on hp).dom b (hM.dom b hb)⟩
 unfold growW at hb
 split at hb
 ·rename_i h
  rcases h with h | h
  ·exact .inr (by omega)
  ·obtain ⟨q, hq⟩ := Option.isSome_iff_exists.1 h
   exact hM.old b q hq
 ·cases hb
theorem stepCallW {d f : Nat} {ty : TypeId} {c : Call} {pos : String} {af : Array Edge} {fn : Func} {K : Value → Mem → Prop} {first caps : Array Value} (args : List Value) (hs : Sx n E (bwW E M0 L) M w a env bs rs) (hM : WX M M0 E)
  (hk : okOp env ⟨some d, .call c, ty, pos, af, none⟩ = true) (hcal : ∃ x, c.callee = .value x ∧ evT env x = .func (.func f) first caps) (hargs : first.toList ++ c.args.toList.map (evT env) ++ caps.toList = args) (hf : P.funcs[f]? = some fn) (hbody : fn.body.isNone = false) (hname : (fn.name == "runtime.NumGoroutine") = false) (hdn : d < n)
  (hc : CallW P f args.toArray M (fun b => L b ∨ M0 b = none) K)
  (h : ∀ a' w' M' v, WX M' M0 E → K v M' → Sx n E (bwW E M0 L) M' w' a' ((d, v) :: env) bs rs → wpList P ops Q rest a' w') : wpList P ops Q (⟨some d, .call c, ty, pos, af, none⟩ :: rest) a w := by
 refine stepK (Z := fun _ _ => False) (d := d) hs (fun _ _ h => h.elim) rfl hk rfl hdn ?_
 unfold OpW
 rw [run_call args hcal hargs hf hbody hname]
 refine (hc w hs.on).mono fun e w' ⟨v, he, hp, hK⟩ => ?_
 subst he
 intro a' hA
 exact h a' w' _ v (hM.grow hs hp) hK (hs.backW hM hp hA)
end
section
variable {P : Program} {env : Env} {M : Mem} {bs : List Bx} {rs : List Rw} {d : Option Tmp} {ty : TypeId} {pos : String} {af : Array Edge} {gd : Option (Nat × Bool)}
end
theorem take_putAt (cur : List Value) (a L : Nat) (vs : List Value) (h1 : a + vs.length ≤ L) (h2 : L ≤ cur.length) : (putAt cur a vs).take L = putAt (cur.take L) a vs := by
 unfold putAt
 rw [List.take_append, List.take_take, Nat.min_eq_left (show a ≤ L by omega), List.length_append, List.length_take, Nat.min_eq_left (show a ≤ cur.length by omega), List.take_of_length_le (by simp; omega), List.drop_take]
theorem cW {P : Program} {ops : Array Oper} {Q : Exit → Act → World → Prop} {n : Nat} {E : World} {M0 M : Mem} {L : Nat → Prop} {w : World} {a : Act} {env : Env} {bs : List Bx} {rs : List Rw} {rest : List Oper} (args : List Value) {d f : Nat} {ty : TypeId} {c : Call} {pos : String} {af : Array Edge} {fn : Func} {K : Value → Mem → Prop} {first caps : Array Value} (hs : Sx n E (bwW E M0 L) M w a env bs rs) (hM : WX M M0 E) (hf : P.funcs[f]? = some fn) (hc : CallW P f args.toArray M (fun b => L b ∨ M0 b = none) K)
  (h : ∀ a' w' M' v, WX M' M0 E → K v M' → Sx n E (bwW E M0 L) M' w' a' ((d, v) :: env) bs rs → wpList P ops Q rest a' w') (hk : okOp env ⟨some d, .call c, ty, pos, af, none⟩ = true := by rfl) (hcal : ∃ x, c.callee = .value x ∧ evT env x = .func (.func f) first caps := by exact ⟨_, rfl, rfl⟩)
  (hargs : first.toList ++ c.args.toList.map (evT env) ++ caps.toList = args := by rfl) (hbody : fn.body.isNone = false := by rfl) (hname : (fn.name == "runtime.NumGoroutine") = false := by kernel_rfl) (hdn : d < n := by decide) : wpList P ops Q (⟨some d, .call c, ty, pos, af, none⟩ :: rest) a w := stepCallW args hs hM hk hcal hargs hf hbody hname hdn hc h
end Go.Gx

namespace Go.Gx
open Go.RowKit Go.Maps Go.WideMaps
section
variable {P : Program} {ops : Array Oper} {Q : Exit → Act → World → Prop} {n : Nat} {E : World} {M M0 : Mem} {L : Nat → Prop} {w : World} {a : Act} {env : Env} {bs : List Bx} {rs : List Rw} {rest : List Oper}
variable {d : Option Tmp} {ty : TypeId} {pos : String} {af : Array Edge} {gd : Option (Nat × Bool)}
theorem WX.set (h : WX M M0 E) {r : Nat} {o : Obj} (hr : (M r).isSome = true) : WX (M.add r o) M0 E :=
 ⟨fun x q hx => by
  by_cases hxr : x = r
  ·subst hxr
   obtain ⟨q', hq'⟩ := Option.isSome_iff_exists.1 hr
   exact h.old x q' hq'
  ·rw [Mem.add_ne hxr] at hx; exact h.old x q hx, fun x hx => by
  by_cases hxr : x = r
  ·subst hxr; rw [Mem.add_eq]; rfl
  ·rw [Mem.add_ne hxr]; exact h.dom x hx⟩
end
section
variable {P : Program} {fn : Func} {n : Nat} {E : World} {bw : List Nat} {M : Mem} {w : World} {a : Act} {env : Env} {bs : List Bx} {rs : List Rw}
end
end Go.Gx

namespace Go.Gx
open Go.RowKit
def HasM (M : Mem) (b o k : Nat) : Prop := ∃ c t f, M b = some (.cells c t f) ∧ o + k ≤ c.size ∧ (f = (0, 0) ∨ c.size ≤ f.1)
theorem run_storeM (P : Program) (g o : Nat) (t : TypeId) (f : Nat × Nat) : ∀ (vs : List Value) (i : Nat) (cur : Array Value) (w : World), w.heap[g]? = some (.cells cur t f) → (f = (0, 0) ∨ cur.size ≤ f.1) → o + i + vs.length ≤ cur.size → (∀ v ∈ vs, v.oneCell' = true) →
  (storeCells ⟨g, o, none⟩ vs i).run P w = .ok () (w.setRow g (cur.toList.take (o + i) ++ vs ++ cur.toList.drop (o + i + vs.length)).toArray)
 | [], i, cur, w, hg, _, _, _ => by
  have e : (cur.toList.take (o + i) ++ [] ++ cur.toList.drop (o + i + ([] : List Value).length)).toArray = cur := by simp
  rw [e, setRow_self w g cur t f hg]
  rfl
 | v :: rest, i, cur, w, hg, hf, hl, h1 => by
  have hi : o + i < cur.size := by simp at hl; omega
  have hst : (store ((⟨g, o, none⟩ : Addr).add i) v).run P w = .ok () (w.setRow g (cur.setIfInBounds (o + i) v)) := by
   have hadd : (⟨g, o, none⟩ : Addr).add i = ⟨g, o + i, none⟩ := by unfold Addr.add; split <;> simp_all
   have hfro : w.frozen? ⟨g, o + i, none⟩ = false := by
    obtain ⟨lo, hi'⟩ := f
    rcases hf with h | h
    ·cases h; simp [World.frozen?, hg]
    ·simp only at h
     simp only [World.frozen?, hg, Bool.and_eq_false_iff, decide_eq_false_iff_not]
     exact .inl (by omega)
   have hcell : w.cell? ⟨g, o + i, none⟩ = some cur[o + i] := by simp [World.cell?, hg, hi]
   rw [hadd, run_store P w _ v _ (h1 v (by simp)), hcell]
   simp [hfro, setCell_eq_setRow w g (o + i) cur t f v hg]
  have ih := run_storeM P g o t f rest (i + 1) (cur.setIfInBounds (o + i) v) (w.setRow g (cur.setIfInBounds (o + i) v)) (setRow_heap w g cur _ t _ hg) (by simpa using hf) (by simp at hl ⊢; omega) (fun x hx => h1 x (by simp [hx]))
  simp only [storeCells, Sem.run_bind, hst, Result.andThen_ok, ih, setRow_setRow]
  congr 3
  have e := list_seg_step cur.toList (o + i) v rest (by simp at hl ⊢; omega)
  simpa [Array.toList_setIfInBounds, Nat.add_assoc] using e
def NewB (M M2 : Mem) (ad : Option Addr) (c : Nat) (l : List UInt8) : Prop :=
 M.le M2 ∧ l.length ≤ c ∧ c ≤ maxLen ∧ ∃ g cur t f, ad = some ⟨g, 0, none⟩ ∧ M g = none ∧ M2 g = some (.cells cur t f) ∧ cur.size = c ∧ (f = (0, 0) ∨ cur.size ≤ f.1) ∧ cur.toList.take l.length = bytesV l
section
variable {P : Program} {ops : Array Oper} {Q : Exit → Act → World → Prop} {n : Nat} {E : World} {M M0 : Mem} {L : Nat → Prop} {w : World} {a : Act} {env : Env} {bs : List Bx} {rs : List Rw} {rest : List Oper}
theorem Sx.putM (hs : Sx n E (bwW E M0 L) M w a env bs rs) (hM : WX M M0 E) {b k : Nat} {vs : List Value} {c : Array Value} {t : TypeId} {f : Nat × Nat} (hc : M b = some (.cells c t f)) (hw : L b ∨ M0 b = none) {a' : Act} {env' : Env} (hA : Ag n a' env') :
  Sx n E (bwW E M0 L) (M.put b k vs) (w.setRow b (putAt c.toList k vs).toArray) a' env' bs rs := by
 have hb := hs.on b _ hc
 have hother : ∀ x, x ≠ b → (w.setRow b (putAt c.toList k vs).toArray).heap[x]? = w.heap[x]? := by
  intro x hx
  simp only [World.setRow, Array.getElem?_modify]
  rw [if_neg (by omega)]
 refine ⟨hA, fun x o hx => ?_, ?_, fun x hx => ?_, fun r hr => ?_, hs.nd⟩
 ·by_cases hxb : x = b
  ·subst hxb
   rw [Mem.put_eq hc] at hx
   rw [← hx]
   exact setRow_heap w x c (putAt c.toList k vs).toArray t f hb
  ·rw [Mem.put_ne hxb] at hx
   rw [hother x hxb]; exact hs.on x o hx
 ·obtain ⟨h1, h2, h3, h4, h5⟩ := hs.pr
  refine ⟨h1, h2, h3, by simpa [World.setRow] using h4, fun x hx hn => ?_⟩
  rw [hother x (by
   rintro rfl
   rcases hM.old _ _ hc with h | h
   ·refine hn (mem_bwW.2 ⟨hx, ?_, h⟩)
    rcases hw with h' | h'
    ·exact h'
    ·rw [h'] at h; cases h
   ·omega)]
  exact h5 x hx hn
 ·obtain ⟨h1, h2, h3⟩ := hs.bx x hx
  have hne : x.b ≠ b := by rintro rfl; rw [h2] at hc; cases hc
  exact ⟨(hother _ hne).trans h1, by rw [Mem.put_ne hne]; exact h2, h3⟩
 ·obtain ⟨h1, h2⟩ := hs.rw r hr
  have hne : ∀ g, r.v.ownBlock = some g → g ≠ b := fun g hg => by rintro rfl; rw [(h2 g hg).1] at hc; cases hc
  exact ⟨ownsRow_keep h1 fun g hg => hother g (hne g hg), fun g hg => ⟨by rw [Mem.put_ne (hne g hg)]; exact (h2 g hg).1, (h2 g hg).2⟩⟩
theorem stepStoreM {t ty : TypeId} {p x : Operand} {pos : String} {af : Array Edge} {b k : Nat} {vs : List Value} {v : Value} (hs : Sx n E (bwW E M0 L) M w a env bs rs) (hM : WX M M0 E) (hkp : known env p = true) (hkx : known env x = true)
  (hp : evT env p = .pointer (some ⟨b, k, none⟩)) (hx : evT env x = v) (hc : v.cells = vs.toArray) (hn : (P.info? t).map (·.size) = some vs.length) (h1 : vs.all (·.oneCell') = true) (hfit : HasM M b k vs.length) (hw : L b ∨ M0 b = none)
  (h : ∀ a' w' M2, M2 = M.put b k vs → WX M2 M0 E → Sx n E (bwW E M0 L) M2 w' a' env bs rs → wpList P ops Q rest a' w') : wpList P ops Q (⟨none, .store t p x, ty, pos, af, none⟩ :: rest) a w := by
 refine stepK0 (Z := fun _ _ => False) hs (fun _ _ h => h.elim) rfl (by simp [okOp, notSel, Op.operands, hkp, hkx]) rfl ?_
 obtain ⟨c, bt, f, hb, hfit, hf⟩ := hfit
 have hbw := hs.on b _ hb
 have hst := run_storeM P b k bt f vs 0 c w hbw hf (by simpa using hfit) (fun u hu => List.all_eq_true.1 h1 u hu)
 refine OpW.of_skip (w' := w.setRow b (putAt c.toList k vs).toArray) ?_ ?_
 ·cases hin : P.info? t with
  | none => simp [hin] at hn
  | some ti =>
   simp [hin] at hn
   have e : (c.toList.take (k + 0) ++ vs ++ c.toList.drop (k + 0 + vs.length)).toArray = (putAt c.toList k vs).toArray := by simp [putAt]
   rw [e] at hst
   simp [execOp, Instr.storeAt, hp, hx, Instr.sureAddr, storeVar, hc, sizeOf, typeInfo, hin, hn, hst]
 ·intro a' hA
  exact h a' _ _ rfl (hM.put b k vs) (hs.putM hM hb hw hA)
theorem stepClearM {P : Program} {ops : Array Oper} {Q : Exit → Act → World → Prop} {n : Nat} {E : World} {M0 M : Mem} {L : Nat → Prop} {w : World} {a : Act} {env : Env} {bs : List Bx} {rs : List Rw} {rest : List Oper} {t e ty : TypeId} {x : Operand} {pos : String} {af : Array Edge} {b k l c : Nat} {ad : Option Addr} (z : Value) (hs : Sx n E (bwW E M0 L) M w a env bs rs) (hM : WX M M0 E)
  (had : ad = some ⟨b, k, none⟩) (hl : 0 < l) (hfit : HasM M b k l) (hw : L b ∨ M0 b = none) (h : ∀ a' w' M2, M2 = M.put b k (List.replicate l z) → WX M2 M0 E → Sx n E (bwW E M0 L) M2 w' a' env bs rs → wpList P ops Q rest a' w')
  (hkx : known env x = true := by rfl) (hx : evT env x = .slice ad l c := by rfl) (ht : P.underlying t = some (.slice e) := by kernel_rfl) (hz : (P.info? e).bind (·.zero) = some z := by kernel_rfl) (hzc : z.cells = #[z] := by rfl) (h1 : z.oneCell' = true := by rfl) :
  wpList P ops Q (⟨none, .call { callee := .builtin .clear, args := #[x], argTypes := #[t] }, ty, pos, af, none⟩ :: rest) a w := by
 subst had
 refine stepK0 (Z := fun _ _ => False) hs (fun _ _ h => h.elim) rfl (by simp [okOp, notSel, Op.operands, Call.operands, hkx]) rfl ?_
 obtain ⟨cs, bt, f, hb, hfit, hf⟩ := hfit
 have hbw := hs.on b _ hb
 have hst := run_storeM P b k bt f (List.replicate l z) 0 cs w hbw hf (by simpa using hfit) (fun u hu => by rw [List.eq_of_mem_replicate hu]; exact h1)
 have e1 : (cs.toList.take (k + 0) ++ List.replicate l z ++ cs.toList.drop (k + 0 + (List.replicate l z).length)).toArray = (putAt cs.toList k (List.replicate l z)).toArray := by simp [putAt]
 rw [e1] at hst
 have hzs : (Builtin.zeroCells z.cells l).toList = List.replicate l z := by
  rw [hzc]
  simp [Builtin.zeroCells]
  apply List.ext_getElem
  ·simp
  ·intro i h1 h2
   simp [Nat.mod_one]
 obtain ⟨m, rfl⟩ : ∃ m, l = m + 1 := ⟨l - 1, by omega⟩
 refine OpW.of_run (v := .tuple #[]) (w' := w.setRow b (putAt cs.toList k (List.replicate (m + 1) z)).toArray) ?_ fun a' hA => h a' _ _ rfl (hM.put b k _) (hs.putM hM hb hw hA)
 cases hi : P.info? e with
 | none => simp [hi] at hz
 | some ti =>
  simp [hi] at hz
  simp [execOp, resolve, invoke, builtin, hx, Builtin.clear_, run_underlying ht, zeroValue, typeInfo, hi, hz, hzs, hst, Result.andThen]
theorem stepBytesW {d : Nat} {src dst e ty : TypeId} {x : Operand} {pos : String} {af : Array Edge} {l : List UInt8} (hs : Sx n E (bwW E M0 L) M w a env bs rs) (hMM : WX M M0 E) (hm : l.length ≤ maxLen)
  (h : ∀ a' w' M' A c, NewB M M' A c l → WX M' M0 E → Sx n E (bwW E M0 L) M' w' a' ((d, .slice A l.length c) :: env) bs rs → wpList P ops Q rest a' w')
  (hkx : known env x = true := by rfl) (hx : evT env x = .string (mkS l) := by rfl) (hsr : P.underlying src = some .string := by kernel_rfl) (hd : P.underlying dst = some (.slice e) := by kernel_rfl) (he : P.underlying e = some (.int .u8) := by kernel_rfl) (hdn : d < n := by decide) : wpList P ops Q (⟨some d, .convert src dst x, ty, pos, af, none⟩ :: rest) a w := by
 refine stepK (Z := fun _ _ => False) (d := d) hs (fun _ _ h => h.elim) rfl (by simp [okOp, notSel, Op.operands, hkx]) rfl hdn ?_
 have hrun := run_bytes_of_string (P := P) w src dst e (mkS l) hsr hd he
 refine OpW.of_run (w' := _) (v := .slice (some ⟨w.heap.size, 0, none⟩) l.length (grownCap w l.length 0 e)) (by simp only [execOp, hx, Sem.run_bind, hrun, Result.andThen_ok]; rfl) ?_
 intro a' hA
 have hcap1 := grownCap_ge w l.length 0 e
 have hcap2 := grownCap_le_maxLen w l.length 0 e hm
 let cur := bytesRow (mkS l) (grownCap w (mkS l).size 0 e)
 let ob : Obj := .cells cur e (cur.size, cur.size + 1)
 have hb : Below w.heap.size w (w.drew.alloc ob) := ((Below.refl _ w).drew).alloc (Nat.le_refl _) _
 have hgo := grow_on (w' := w.drew.alloc ob) hs.on (fun k hk _ => hb.block k hk)
 have hnew : (w.drew.alloc ob).heap[w.heap.size]? = some ob := heap_alloc_new w.drew ob
 have hle := grow_le (w' := w.drew.alloc ob) hs.on
 have hsz : cur.size = grownCap w l.length 0 e := by
  show (bytesRow (mkS l) (grownCap w (mkS l).size 0 e)).size = _
  have e2 : (mkS l).size = l.length := rfl
  have e3 : ∀ c : Nat, l.length ≤ c → (bytesRow (mkS l) c).size = c := fun c hc => by
   unfold bytesRow
   have e4 : (mkS l).data.size = l.length := rfl
   simp [e2, e4]
   omega
  rw [e2]
  exact e3 _ hcap1
 refine h a' (w.drew.alloc ob) (grow M w (w.drew.alloc ob)) (some ⟨w.heap.size, 0, none⟩) (grownCap w l.length 0 e) ⟨hle, hcap1, hcap2, w.heap.size, cur, e, (cur.size, cur.size + 1), rfl, hs.on.noneAt (Nat.le_refl _), ?_, hsz, .inr (Nat.le_refl _), ?_⟩ (hMM.next hle fun b o hbo => ?_) ((hs.later hb hgo (fun b hb => ?_)).act hA)
 ·unfold grow
  rw [if_pos (Nat.le_refl _), hnew]
 ·apply List.ext_getElem?
  intro j
  rw [List.getElem?_take]
  split
  ·rename_i hj
   have h1 : (bytesV l)[j]? = some (.int .u8 ((l[j]'hj).toNat : Int)) := by simp [bytesV, hj]
   rw [h1]
   show (bytesRow (mkS l) _).toList[j]? = _
   unfold bytesRow
   rw [Array.getElem?_toList, Array.getElem?_append_left (by simp [mkS, hj])]
   simp [mkS, hj]
  ·rw [List.getElem?_eq_none (by simp [bytesV]; omega)]
 ·unfold grow at hbo
  by_cases hk : w.heap.size ≤ b
  ·exact .inr (Nat.le_trans hs.pr.size hk)
  ·rw [if_neg hk] at hbo; exact .inl hbo
 ·unfold grow
  rw [if_neg (by omega)]
end
def RowM (M : Mem) (e size : Nat) (ad : Option Addr) (n cap : Nat) (xs : List Value) : Prop :=
 xs.length = n * size ∧ n ≤ cap ∧ cap ≤ maxLen ∧ ∃ g cur t f, ad = some ⟨g, 0, none⟩ ∧ M g = some (.cells cur t f) ∧ cur.size = cap * size ∧ (f = (0, 0) ∨ cur.size ≤ f.1) ∧ cur.toList.take (n * size) = xs
structure AppM (M M2 : Mem) (e size : Nat) (ad ad2 : Option Addr) (l2 cap2 : Nat) (xs2 : List Value) : Prop where
 slv : SlV M2 ad2 l2 cap2 size xs2
 keep : ∀ b o, M b = some o → (∀ g, ad = some ⟨g, 0, none⟩ → b ≠ g) → M2 b = some o
 dom : ∀ b, (M b).isSome = true → (M2 b).isSome = true
theorem run_appendM {P : Program} {w : World} {t ty e : TypeId} {size bytes : Nat} (ht : P.underlying t = some (.slice e)) (hi : (P.info? e).map (fun i => (i.size, i.bytes, i.zero.map (·.cells.size))) = some (size, bytes, some size))
  {g n cap : Nat} {cur : Array Value} {bt : TypeId} {f : Nat × Nat} {xs : List Value} (hg : w.heap[g]? = some (.cells cur bt f)) (hcs : cur.size = cap * size) (hf : f = (0, 0) ∨ cur.size ≤ f.1) (hnc : n ≤ cap) (hcm : cap ≤ maxLen) (hxl : xs.length = n * size) (htk : cur.toList.take (n * size) = xs)
  {A : Option Addr} {m c : Nat} {news : List Value} (hr : Src w A m size news) (hm0 : 0 < m) (h63 : n + m ≤ maxLen) (hbytes : (n + m) * bytes ≤ 140737488355328) :
  ∃ (g2 cap2 : Nat) (w' : World) (c2 : Array Value) (t2 : TypeId) (f2 : Nat × Nat), (Builtin.append_ #[t, t] ty #[.slice (some ⟨g, 0, none⟩) n cap, .slice A m c]).run P w = .ok (.slice (some ⟨g2, 0, none⟩) (n + m) cap2) w' ∧ n + m ≤ cap2 ∧ cap2 ≤ maxLen ∧ w'.heap[g2]? = some (.cells c2 t2 f2) ∧ (∀ (j : Nat) (u : Value), (xs ++ news)[j]? = some u → c2[j]? = some u) ∧ w.grownBy w' (some g) ∧ (g2 = g ∨ g2 = w.heap.size) := by
 have hsmall : n + m ≤ 9223372036854775807 := by simp only [maxLen] at h63; omega
 cases hinf : P.info? e with
 | none => simp [hinf] at hi
 | some i =>
  simp only [hinf, Option.map_some, Option.some.injEq, Prod.mk.injEq] at hi
  obtain ⟨rfl, rfl, h3⟩ := hi
  cases hz : i.zero with
  | none => simp [hz] at h3
  | some z =>
   simp only [hz, Option.map_some, Option.some.injEq] at h3
   obtain ⟨hl, h1, hA⟩ := hr
   obtain ⟨ad, rfl, hnews⟩ := hA hm0
   by_cases hroom : n + m ≤ cap
   ·have hfit : n * i.size + news.length ≤ cur.size := by rw [hl, hcs, ← Nat.add_mul]; exact Nat.mul_le_mul_right _ hroom
    have hfc := run_firstCells_some (P := P) w i.size m ad m c news hl hnews
    have hst := run_storeM P g (n * i.size) bt f news 0 cur w hg hf (by simpa using hfit) h1
    simp only [Nat.add_zero] at hst
    have hrun : (Builtin.append_ #[t, t] ty #[.slice (some ⟨g, 0, none⟩) n cap, .slice (some ad) m c]).run P w = .ok (.slice (some ⟨g, 0, none⟩) (n + m) cap) (w.setRow g (cur.toList.take (n * i.size) ++ news ++ cur.toList.drop (n * i.size + news.length)).toArray) := by
     simp [Builtin.append_, run_underlying ht, sizeOf, typeInfo, hinf, Builtin.lenOf, hroom, hfc, Addr.add_lit, hst]
    refine ⟨g, cap, _, _, bt, f, hrun, hroom, hcm, setRow_heap w g cur _ bt f hg, fun j u hj => ?_, ⟨rfl, rfl, rfl, by simp, fun k _ hk => setRow_other w g k _ (fun e => hk (by rw [e]))⟩, .inl rfl⟩
    rw [htk]
    have hlt := (List.getElem?_eq_some_iff.1 hj).1
    simp only [List.getElem?_toArray]
    rw [List.getElem?_append_left hlt]; exact hj
   ·have holds : ∀ j u, xs[j]? = some u → w.cell? ((⟨g, 0, none⟩ : Addr).add j) = some u := fun j u hj => by
     rw [← htk, List.getElem?_take] at hj
     split at hj
     ·have e : (⟨g, 0, none⟩ : Addr).add j = ⟨g, j, none⟩ := by unfold Addr.add; split <;> simp_all
      rw [e]
      simp only [World.cell?, hg]
      simpa using hj
     ·cases hj
    have hr := run_append_grow (P := P) (ty := ty) w t e i z ht hinf hz ⟨g, 0, none⟩ n cap xs hxl holds ad m c news hl hnews (by omega) (by omega) (growslice_fits (by omega) hbytes)
    refine ⟨w.heap.size, _, _, _, e, (0, 0), hr, grownCap_ge w (n + m) cap e, grownCap_le_maxLen w (n + m) cap e h63, heap_alloc_new w.drew _, fun j u hj => ?_, ⟨rfl, rfl, rfl, by simp, fun k hk _ => heap_alloc_old w.drew _ hk⟩, .inr rfl⟩
    have hlt := (List.getElem?_eq_some_iff.1 hj).1
    rw [Array.getElem?_append_left (by simpa using hlt)]
    simpa using hj
section
variable {P : Program} {ops : Array Oper} {Q : Exit → Act → World → Prop} {n : Nat} {E : World} {M M0 : Mem} {L : Nat → Prop} {w : World} {a : Act} {env : Env} {bs : List Bx} {rs : List Rw} {rest : List Oper}
theorem stepAppendM {d : Nat} {ty : TypeId} {x y : Operand} {t e : TypeId} {size bytes : Nat} {pos : String} {af : Array Edge} {ad : Option Addr} {k cap : Nat} {xs : List Value} {A : Option Addr} {m c : Nat} (news : List Value)
  (hs : Sx n E (bwW E M0 L) M w a env bs rs) (hM : WX M M0 E) (hkx : known env x = true) (hky : known env y = true) (hx : evT env x = .slice ad k cap) (hy : evT env y = .slice A m c)
  (ht : P.underlying t = some (.slice e)) (hinf : (P.info? e).map (fun i => (i.size, i.bytes, i.zero.map (·.cells.size))) = some (size, bytes, some size)) (hsz : 0 < size) (hdn : d < n)
  (hr : Src w A m size news) (hrow : RowM M e size ad k cap xs) (hw : ∀ g, ad = some ⟨g, 0, none⟩ → Wr L M0 g) (h63 : k + m ≤ maxLen) (hbytes : (k + m) * bytes ≤ 140737488355328)
  (h : ∀ a' w' M2 ad2 cap2, AppM M M2 e size ad ad2 (k + m) cap2 (xs ++ news) → WX M2 M0 E → Sx n E (bwW E M0 L) M2 w' a' ((d, .slice ad2 (k + m) cap2) :: env) bs rs → wpList P ops Q rest a' w') (hm0 : 0 < m := by decide) :
  wpList P ops Q (⟨some d, .call { callee := .builtin .append, args := #[x, y], argTypes := #[t, t] }, ty, pos, af, none⟩ :: rest) a w := by
 refine stepK (Z := fun _ _ => False) (d := d) hs (fun _ _ h => h.elim) rfl (by simp [okOp, notSel, Op.operands, Call.operands, hkx, hky]) rfl hdn ?_
 obtain ⟨hxl, hnc, hcm, g, cur, bt, f, rfl, hg, hcs, hf, htk⟩ := hrow
 obtain ⟨g2, cap2, w', c2, t2, f2, hrun, q1, q2, q3, q4, h2, h3⟩ := run_appendM (P := P) (ty := ty) (c := c) ht hinf (hs.on g _ hg) hcs hf hnc hcm hxl htk hr hm0 h63 hbytes
 refine OpW.of_run (w' := w') (v := .slice (some ⟨g2, 0, none⟩) (k + m) cap2) (by rw [run_call_append hx hy, hrun]; rfl) ?_
 intro a' hA
 have hp : Pres w (bwW w M (Wr L M0)) w' := by
  refine ⟨h2.os, h2.tape, h2.output, h2.size, fun b hb hn => h2.block b hb fun e => hn ?_⟩
  have e := Option.some.inj e
  exact mem_bwW.2 ⟨hb, hw b (by rw [e]), by rw [e, hg]; rfl⟩
 have hg2 : growW M w w' g2 = some (.cells c2 t2 f2) := by
  unfold growW
  rw [if_pos, q3]
  rcases h3 with rfl | rfl
  ·exact .inr (by rw [hg]; rfl)
  ·exact .inl (Nat.le_refl _)
 refine h a' w' (growW M w w') (some ⟨g2, 0, none⟩) cap2 ⟨⟨by rw [List.length_append, hxl, hr.1, Nat.add_mul], q1, q2, fun _ => ⟨g2, 0, rfl, fun j v hj => ?_⟩⟩, fun b o hb hne => ?_, (growW_le hs.on hp).dom⟩ (hM.grow hs hp) (hs.backW hM hp hA)
 ·unfold Mem.cell
  rw [hg2, Nat.zero_add]
  exact q4 j v hj
 ·unfold growW
  rw [if_pos (.inr (by rw [hb]; rfl)), h2.block b (hs.on.lt hb) (fun e => hne g rfl (Option.some.inj e))]
  exact hs.on b o hb
end
end Go.Gx

