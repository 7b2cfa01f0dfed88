/-
  The outermost frame, over any program: an argument's reading opened to typed Lean data in the visible memory, and the arguments' readings carried behind the call.
-/
import Derived.Test.YtifkffmecfgpeaaGxR
import Derived.ProofKit
import Derived.OpenShut
import Derived.ShutString
import Derived.ChangeOld
import Derived.Carry
namespace Go.Gx
open Go.RowKit Go.ChangeShapes

/-- All that stands in a world. -/
def HM (w : World) : Mem := fun b => w.heap[b]?
theorem HM.on (w : World) : On (HM w) w := fun _ _ h => h
theorem HM.cell {w : World} {b i : Nat} {v : Value} (h : w.cell? ⟨b, i, none⟩ = some v) : (HM w).cell b i = some v := by
  unfold World.cell? at h
  unfold Mem.cell HM
  simp only at h ⊢
  split at h
  · rename_i hq
    rw [hq]
    simpa using h
  · cases h

theorem cell_spot {w : World} {a : Addr} {v : Value} (h : w.cell? a = some v) : a = ⟨a.block, a.off, none⟩ := by
  unfold World.cell? at h
  split at h
  · split at h
    · cases h
    · rename_i hs
      obtain ⟨b, o, s⟩ := a
      cases s <;> simp_all
  · cases h

/-! ### One by one -/

def All2 {α β : Type} (R : α → β → Prop) : List α → List β → Prop
  | [], cs => cs = []
  | a :: as, cs => ∃ b bs, cs = b :: bs ∧ R a b ∧ All2 R as bs

theorem All2.append {α β : Type} {R : α → β → Prop} : ∀ {as as' : List α} {bs bs' : List β}, All2 R as bs → All2 R as' bs' → All2 R (as ++ as') (bs ++ bs')
  | [], _, _, _, h, k => by cases h; exact k
  | _ :: _, _, _, _, ⟨b, bs, h1, h2, h3⟩, k => by subst h1; exact ⟨b, _, rfl, h2, h3.append k⟩

theorem All2.length {α β : Type} {R : α → β → Prop} : ∀ {as : List α} {bs : List β}, All2 R as bs → bs.length = as.length
  | [], _, h => by cases h; rfl
  | _ :: _, _, ⟨_, _, h1, _, h3⟩ => by subst h1; simp [h3.length]

theorem All2.mono {α β : Type} {R R' : α → β → Prop} (hR : ∀ a b, R a b → R' a b) : ∀ {as : List α} {bs : List β}, All2 R as bs → All2 R' as bs
  | [], _, h => h
  | _ :: _, _, ⟨b, bs, h1, h2, h3⟩ => ⟨b, bs, h1, hR _ _ h2, h3.mono hR⟩

/-! ### A type's cells -/

inductive Leaf
  | int (k : IntKind)
  | bool
  | str
  | ptr (t e : TypeId)
  | sl (t e : TypeId)

def catF (P : Program) (g : TypeId → Option (List Leaf)) : Nat → List Field → Option (List Leaf)
  | _, [] => some []
  | o, f :: r => if f.offset = o then (g f.type).bind fun m => if m.length = P.cellsOf f.type then (catF P g (o + m.length) r).map (m ++ ·) else none else none

def leaves (P : Program) : Nat → TypeId → Option (List Leaf)
  | 0, _ => none
  | n + 1, t => match P.underlying t with
    | some .bool => some [.bool]
    | some (.int k) => some [.int k]
    | some .string => some [.str]
    | some (.pointer e) => some [.ptr t e]
    | some (.slice e) => some [.sl t e]
    | some (.struct fs) => (catF P (leaves P n) 0 fs.toList).bind fun l => if l.length = P.cellsOf t then some l else none
    | some (.array k e) => (leaves P n e).bind fun m => if m.length = P.cellsOf e ∧ k * m.length = P.cellsOf t then some (List.replicate k m).flatten else none
    | _ => none

section
variable {H : Type} {enc : TypeId × Value → H} {P : Program} {w : World}

theorem cells_at {a : Addr} {n : Nat} {cs : List Value} (h : w.cells? 0 a n = some cs) (hn : 0 < n) : a = ⟨a.block, a.off, none⟩ ∧ ∀ j v, cs[j]? = some v → (HM w).cell a.block (a.off + j) = some v := by
  obtain ⟨_, hl, hc⟩ := World.cells?_some h
  have h0 := hc 0 hn
  have hs : a = ⟨a.block, a.off, none⟩ := by
    rw [Addr.add, if_pos rfl, List.getElem?_eq_getElem (by omega)] at h0
    exact cell_spot h0
  refine ⟨hs, fun j v hj => HM.cell ?_⟩
  have := hc j (by have := (List.getElem?_eq_some_iff.1 hj).1; omega)
  rw [hj, hs, add_lit] at this
  exact this

/-! ### The arguments -/

theorem argInt {r : Reach} {b0 : Nat} {t : TypeId} {k : IntKind} {v : Value} {d : DataW H} {ps : List MemPlace} (ht : P.underlying t = some (.int k)) (hval : Value.okWide P w r b0 t v) (hd : DataW.Trod enc P w 0 (fun _ => true) true t v d ps) :
    ∃ z, v = .int k z ∧ (Lit.int k z).wf = true := by
  obtain ⟨n, h1, _, _, h2⟩ := open_int ht hval hd
  exact ⟨n, h1, h2⟩

theorem trodAll_below (hl : laidOutB P = true) {W W' : World} (hb : Below W.heap.size W W') : ∀ {ts : List TypeId} {vs : List Value} {ds : List (DataW H)} {ps : List MemPlace}, (ts.all fun t => P.readableRec t && decide (t < P.types.size)) = true →
    DataW.TrodAll enc P W 0 (fun _ => true) true ts vs ds ps → DataW.TrodAll enc P W' 0 (fun b => decide (b < W.heap.size)) true ts vs ds ps
  | [], _, _, _, _, h => by
    obtain ⟨rfl, rfl, rfl⟩ := trodAll_nil h
    exact trodAll_mk0
  | t :: ts, _, _, _, hr, h => by
    simp only [List.all_cons, Bool.and_eq_true, decide_eq_true_eq] at hr
    obtain ⟨v, vs, d, ds, p, q, rfl, rfl, rfl, h1, h2⟩ := trodAll_cons h
    have hlt : ∀ x ∈ p, x.block < W.heap.size := by
      obtain ⟨m, hm⟩ := h1
      exact DataW.trod_lt m _ _ _ hm
    exact trodAll_cons_mk (Below.trod hl hr.1.1 hr.1.2 h1 hb hlt) (trodAll_below hl hb (by simpa using hr.2) h2)
end

/-- One element of a slice. -/
theorem flat_part {α : Type} {f : α → List Value} {sz : Nat} : ∀ (es : List α) (_ : ∀ e ∈ es, (f e).length = sz) (i : Nat) (e : α), es[i]? = some e → (((es.map f).flatten).drop (i * sz)).take (f e).length = f e
  | [], _, i, e, h => by simp at h
  | a :: r, hf, 0, e, h => by
    simp only [List.getElem?_cons_zero, Option.some.injEq] at h; subst h
    simp
  | a :: r, hf, i + 1, e, h => by
    simp only [List.getElem?_cons_succ] at h
    have ha := hf a (by simp)
    have := flat_part r (fun e he => hf e (by simp [he])) i e h
    simp only [List.map_cons, List.flatten_cons]
    rw [Nat.succ_mul, List.drop_append, List.drop_of_length_le (by omega), List.nil_append, ha, Nat.add_sub_cancel]
    exact this

theorem SlV.elem {α : Type} {f : α → List Value} {M : Mem} {A : Option Addr} {l c sz : Nat} {es : List α} (h : SlV M A l c sz ((es.map f).flatten)) (hl : es.length = l) (hf : ∀ e ∈ es, (f e).length = sz) {i : Nat} {e : α} (he : es[i]? = some e) :
    ∃ b o, A = some ⟨b, o, none⟩ ∧ At M b (o + i * sz) (f e) := by
  have hi : i < es.length := (List.getElem?_eq_some_iff.1 he).1
  obtain ⟨b, o, ha, hat⟩ := h.2.2.2 (by omega)
  exact ⟨b, o, ha, hat.part (i * sz) (f e) (flat_part es hf i e he)⟩

end Go.Gx
