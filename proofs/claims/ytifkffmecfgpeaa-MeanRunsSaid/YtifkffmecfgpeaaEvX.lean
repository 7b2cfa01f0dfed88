/- Contracts of functions: what each answers at every input that its caller may hand it. No condition. -/
import Derived.Test.YtifkffmecfgpeaaFill4X
namespace Go.Proofs.Ytifkffmecfgpeaa.core
open Go.Gx Go.RowKit Go.ChangeShapes Go.WideShapes Go.ChangeAt
/-! ### Step by step, and how many steps -/

abbrev Rc := Option (Int × Nat)
def seqV (f : Ex → Int → Rc) : List Ex → Int → Rc
  | [], p => some (p, 0)
  | k :: ks, p => (f k p).bind fun x => if x.1 < 0 then some x else (seqV f ks x.1).map fun y => (y.1, x.2 + y.2)
def altV (f : Ex → Int → Rc) : List Ex → Int → Rc
  | [], _ => some (-1, 0)
  | k :: ks, p => (f k p).bind fun x => if x.1 ≠ -1 then some x else (altV f ks p).map fun y => (y.1, x.2 + y.2)
def staV (f : Int → Rc) (q : Bool) : Nat → Int → Bool → Rc
  | 0, _, _ => none
  | m + 1, p, fi => (f p).bind fun x => if x.1 < 0 then some (if (fi && q) = true then x.1 else p, x.2) else (staV f q m x.1 false).map fun y => (y.1, x.2 + y.2)
def hdV (f : Ex → Int → Rc) : List Ex → Int → Rc
  | [], _ => none
  | k :: _, p => f k p
def ev (rs : List Ru) (s : List UInt8) : Nat → Ex → Int → Rc
  | 0, _, _ => none
  | m + 1, e, p => (if e.kind = 1 then some (p, 0) else if e.kind = 2 then some (setE e.set s p, 0) else if e.kind = 3 then some (litE e.text s p, 0)
    else if e.kind = 4 then (rs[(findR e.text rs 0).toNat]?).bind fun r => ev rs s m r.body p
    else if e.kind = 5 then seqV (ev rs s m) e.kids p else if e.kind = 6 then altV (ev rs s m) e.kids p
    else if e.kind = 7 ∨ e.kind = 8 then staV (hdV (ev rs s m) e.kids) (decide (e.kind = 8)) (s.length + 2) p true
    else (hdV (ev rs s m) e.kids p).map fun x => (oneE e.kind p x.1, x.2)).map fun x => (x.1, x.2 + 1)

def Below2 (f g : Ex → Int → Rc) : Prop := ∀ e p x, f e p = some x → g e p = some x
theorem seqV_mono {f g : Ex → Int → Rc} (h : Below2 f g) : ∀ (ks : List Ex) p x, seqV f ks p = some x → seqV g ks p = some x
  | [], _, _, h' => h'
  | k :: ks, p, x, h' => by
    rw [seqV] at h' ⊢
    cases hf : f k p with
    | none => rw [hf] at h'; cases h'
    | some y =>
      rw [hf] at h'
      rw [h k p y hf]
      simp only [Option.bind_some] at h' ⊢
      split at h'
      · rename_i h0; rw [if_pos h0]; exact h'
      · rename_i h0
        rw [if_neg h0]
        cases hz : seqV f ks y.1 with
        | none => rw [hz] at h'; cases h'
        | some z => rw [hz] at h'; rw [seqV_mono h ks _ z hz]; exact h'
theorem altV_mono {f g : Ex → Int → Rc} (h : Below2 f g) : ∀ (ks : List Ex) p x, altV f ks p = some x → altV g ks p = some x
  | [], _, _, h' => h'
  | k :: ks, p, x, h' => by
    rw [altV] at h' ⊢
    cases hf : f k p with
    | none => rw [hf] at h'; cases h'
    | some y =>
      rw [hf] at h'
      rw [h k p y hf]
      simp only [Option.bind_some] at h' ⊢
      split at h'
      · rename_i h0; rw [if_pos h0]; exact h'
      · rename_i h0
        rw [if_neg h0]
        cases hz : altV f ks p with
        | none => rw [hz] at h'; cases h'
        | some z => rw [hz] at h'; rw [altV_mono h ks _ z hz]; exact h'
theorem hdV_mono {f g : Ex → Int → Rc} (h : Below2 f g) : ∀ (ks : List Ex) p x, hdV f ks p = some x → hdV g ks p = some x
  | [], _, _, h' => h'
  | k :: _, p, x, h' => by rw [hdV] at h' ⊢; exact h k p x h'
theorem staV_mono {f g : Int → Rc} (h : ∀ p x, f p = some x → g p = some x) {q : Bool} : ∀ (m : Nat) p fi x, staV f q m p fi = some x → staV g q m p fi = some x
  | 0, _, _, _, h' => h'
  | m + 1, p, fi, x, h' => by
    rw [staV] at h' ⊢
    cases hf : f p with
    | none => rw [hf] at h'; cases h'
    | some y =>
      rw [hf] at h'
      rw [h p y hf]
      simp only [Option.bind_some] at h' ⊢
      split at h'
      · rename_i h0; rw [if_pos h0]; exact h'
      · rename_i h0
        rw [if_neg h0]
        cases hz : staV f q m y.1 false with
        | none => rw [hz] at h'; cases h'
        | some z => rw [hz] at h'; rw [staV_mono h m _ _ z hz]; exact h'

theorem ev_step {rs : List Ru} {s : List UInt8} : ∀ m, Below2 (ev rs s m) (ev rs s (m + 1))
  | 0, e, p, x, h => by rw [ev] at h; cases h
  | m + 1, e, p, x, h => by
    have ih := ev_step (rs := rs) (s := s) m
    rw [ev] at h ⊢
    obtain ⟨y, hy, rfl⟩ := Option.map_eq_some_iff.1 h
    refine Option.map_eq_some_iff.2 ⟨y, ?_, rfl⟩
    by_cases h1 : e.kind = 1
    · rw [if_pos h1] at hy ⊢; exact hy
    rw [if_neg h1] at hy ⊢
    by_cases h2 : e.kind = 2
    · rw [if_pos h2] at hy ⊢; exact hy
    rw [if_neg h2] at hy ⊢
    by_cases h3 : e.kind = 3
    · rw [if_pos h3] at hy ⊢; exact hy
    rw [if_neg h3] at hy ⊢
    by_cases h4 : e.kind = 4
    · rw [if_pos h4] at hy ⊢
      obtain ⟨r, hr, hy⟩ := Option.bind_eq_some_iff.1 hy
      exact Option.bind_eq_some_iff.2 ⟨r, hr, ih _ _ _ hy⟩
    rw [if_neg h4] at hy ⊢
    by_cases h5 : e.kind = 5
    · rw [if_pos h5] at hy ⊢; exact seqV_mono ih _ _ _ hy
    rw [if_neg h5] at hy ⊢
    by_cases h6 : e.kind = 6
    · rw [if_pos h6] at hy ⊢; exact altV_mono ih _ _ _ hy
    rw [if_neg h6] at hy ⊢
    by_cases h7 : e.kind = 7 ∨ e.kind = 8
    · rw [if_pos h7] at hy ⊢; exact staV_mono (hdV_mono ih _) _ _ _ _ hy
    rw [if_neg h7] at hy ⊢
    obtain ⟨z, hz, he⟩ := Option.map_eq_some_iff.1 hy
    exact Option.map_eq_some_iff.2 ⟨z, hdV_mono ih _ _ _ hz, he⟩
theorem ev_more {rs : List Ru} {s : List UInt8} {m n : Nat} (h : m ≤ n) : Below2 (ev rs s m) (ev rs s n) := by
  induction h with
  | refl => exact fun _ _ _ h => h
  | step _ ih => exact fun e p x hx => ev_step _ e p x (ih e p x hx)
theorem ev_same {rs : List Ru} {s : List UInt8} {m n : Nat} {e : Ex} {p : Int} {x y : Int × Nat} (h : ev rs s m e p = some x) (k : ev rs s n e p = some y) : x = y := by
  have h1 := ev_more (Nat.le_max_left m n) e p x h
  have h2 := ev_more (Nat.le_max_right m n) e p y k
  rw [h1] at h2; exact Option.some.inj h2
end Go.Proofs.Ytifkffmecfgpeaa.core
