/-
  Equality of structs whose cells are known, over any program.
-/
import Derived.Test.YtifkffmecfgpeaaGxO
import Derived.Laws.StructEq
namespace Go.Gx
open Go.RowKit

def intsOf (k : IntKind) : List Value → Option (List Int)
  | [] => some []
  | .int k' a :: r => if k' = k then (intsOf k r).map (a :: ·) else none
  | _ => none

theorem intsOf_spec {k : IntKind} : ∀ {vs : List Value} {zs : List Int}, intsOf k vs = some zs → vs = zs.map (Value.int k)
  | [], zs, h => by simp only [intsOf, Option.some.injEq] at h; subst h; rfl
  | v :: r, zs, h => by
    cases v with
    | int k' a =>
      simp only [intsOf] at h
      split at h
      · rename_i e
        subst e
        simp only [Option.map_eq_some_iff] at h
        obtain ⟨l, h1, rfl⟩ := h
        rw [intsOf_spec h1]; rfl
      · cases h
    | _ => simp [intsOf] at h

def eqFs (P : Program) (g : TypeId → List Value → List Value → Option Bool) (xs ys : List Value) : List Field → Option Bool
  | [] => some true
  | [f] => if f.name ≠ "_" then (if f.offset + P.cellsOf f.type ≤ xs.length ∧ f.offset + P.cellsOf f.type ≤ ys.length then g f.type ((xs.drop f.offset).take (P.cellsOf f.type)) ((ys.drop f.offset).take (P.cellsOf f.type)) else none) else some true
  | f :: r => if f.name ≠ "_" then (if f.offset + P.cellsOf f.type ≤ xs.length ∧ f.offset + P.cellsOf f.type ≤ ys.length then (g f.type ((xs.drop f.offset).take (P.cellsOf f.type)) ((ys.drop f.offset).take (P.cellsOf f.type))).bind fun b => (eqFs P g xs ys r).map (b && ·) else none) else eqFs P g xs ys r

def eqAt (P : Program) : Nat → TypeId → List Value → List Value → Option Bool
  | 0, _, _, _ => none
  | n + 1, t, xs, ys => match P.underlying t with
    | some .bool => match xs, ys with
      | [.bool a], [.bool b] => some (a == b)
      | _, _ => none
    | some (.int _) => match xs, ys with
      | [.int k a], [.int k' b] => if k = k' then some (a == b) else none
      | _, _ => none
    | some .string => match xs, ys with
      | [.string a], [.string b] => some (a.toList == b.toList)
      | _, _ => none
    | some (.struct fs) => if P.stoodInHeld t = false ∧ (P.info? t).isSome = true then eqFs P (eqAt P n) xs ys fs.toList else none
    | some (.array l e) => match P.underlying e with
      | some (.int k) => if P.cellsOf e = 1 ∧ (P.info? e).isSome = true ∧ 0 < n then (intsOf k xs).bind fun a => (intsOf k ys).bind fun b => if a.length = l ∧ b.length = l then some (cellsEq a b) else none else none
      | _ => none
    | _ => none

/-- What a type makes of its cells. -/
def valOf (P : Program) (t : TypeId) (cs : List Value) : Value := ofCells (isAggD (P.underlying t)) cs

section
variable {P : Program}

theorem run_partOf {t : TypeId} {cs : List Value} {off : Nat} (w : World) (hu : (P.underlying t).isSome = true) (hi : (P.info? t).isSome = true) (hl : off + P.cellsOf t ≤ cs.length) (h1 : isAggD (P.underlying t) = false → P.cellsOf t = 1) :
    (part t cs.toArray off).run P w = .ok (valOf P t ((cs.drop off).take (P.cellsOf t))) w := by
  cases hd : P.underlying t with
  | none => simp [hd] at hu
  | some d =>
    obtain ⟨i, hi⟩ := Option.isSome_iff_exists.1 hi
    have hc : P.cellsOf t = i.size := by simp [Program.cellsOf, hi]
    cases hg : isAggD (P.underlying t) with
    | true =>
      have : (isAgg t).run P w = .ok true w := by
        rw [hd] at hg
        cases d <;> simp [isAggD] at hg <;> simp [isAgg, run_underlying hd]
      simp only [part, Sem.run_bind, this, Result.andThen_ok, if_true, sizeOf, typeInfo]
      simp only [valOf, hg, ofCells]
      have e : (cs.toArray.extract off (off + i.size)) = ((cs.drop off).take (P.cellsOf t)).toArray := by
        rw [hc]; apply Array.ext'; simp only [Array.toList_extract, List.extract, Nat.add_sub_cancel_left]
      simp only [Sem.run_pure, run_program, hi, Result.andThen_ok, e]
    | false =>
      have : (isAgg t).run P w = .ok false w := by
        rw [hd] at hg
        cases d <;> simp [isAggD] at hg <;> simp [isAgg, run_underlying hd]
      have h1 := h1 hg
      have hlt : off < cs.length := by omega
      simp only [part, Sem.run_bind, this, Result.andThen_ok]
      rw [h1]
      have e2 : (cs.drop off).take 1 = [cs[off]] := by
        rw [List.drop_eq_getElem_cons hlt]; rfl
      simp [valOf, hg, ofCells, hlt, e2]

theorem run_eqAt : ∀ (n d : Nat) (t : TypeId) (xs ys : List Value) (b : Bool), eqAt P n t xs ys = some b → (P.underlying t).isSome = true ∧ (isAggD (P.underlying t) = false → xs.length = 1 ∧ ys.length = 1) ∧ ∀ w, (Op.equalIn (d + n) t (valOf P t xs) (valOf P t ys)).run P w = .ok b w
  | 0, d, t, xs, ys, b, h => by cases h
  | n + 1, d, t, xs, ys, b, h => by
    unfold eqAt at h
    split at h
    · rename_i hu
      split at h
      · simp only [Option.some.injEq] at h; subst h
        refine ⟨by simp [hu], fun _ => ⟨rfl, rfl⟩, fun w => ?_⟩
        simp only [valOf, hu, isAggD, ofCells]
        exact run_equalIn_bool w _ _ _ _ hu
      · cases h
    · rename_i q hu
      split at h
      · split at h
        · rename_i k a k' b' e
          subst e
          simp only [Option.some.injEq] at h; subst h
          refine ⟨by simp [hu], fun _ => ⟨rfl, rfl⟩, fun w => ?_⟩
          simp only [valOf, hu, isAggD, ofCells]
          exact run_equalIn_int w _ _ _ _ _ _ hu
        · cases h
      · cases h
    · rename_i hu
      split at h
      · simp only [Option.some.injEq] at h; subst h
        refine ⟨by simp [hu], fun _ => ⟨rfl, rfl⟩, fun w => ?_⟩
        simp only [valOf, hu, isAggD, ofCells]
        exact run_equalIn_string w _ _ _ _ hu
      · cases h
    · rename_i fs hu
      split at h
      · rename_i hc
        obtain ⟨hst, _⟩ := hc
        have hfs : fs = P.fieldsOf t := by simp [Program.fieldsOf, hu]
        refine ⟨by simp [hu], fun hf => by simp [hu, isAggD] at hf, fun w => ?_⟩
        have hv : ∀ zs, valOf P t zs = .agg zs.toArray := by
          intro zs; simp only [valOf, hu, isAggD]; cases zs <;> rfl
        rw [hv, hv]
        have := run_equalIn_struct w (d + n) t xs.toArray ys.toArray (by rw [← hfs]; exact hu) hst
        rw [show d + (n + 1) = d + n + 1 by omega, this, ← hfs]
        clear this hu hfs
        generalize fs.toList = l at h
        have hone : ∀ (f : Field) (b : Bool), f.offset + P.cellsOf f.type ≤ xs.length → f.offset + P.cellsOf f.type ≤ ys.length → eqAt P n f.type ((xs.drop f.offset).take (P.cellsOf f.type)) ((ys.drop f.offset).take (P.cellsOf f.type)) = some b →
            (part f.type xs.toArray f.offset).run P w = .ok (valOf P f.type ((xs.drop f.offset).take (P.cellsOf f.type))) w ∧ (part f.type ys.toArray f.offset).run P w = .ok (valOf P f.type ((ys.drop f.offset).take (P.cellsOf f.type))) w ∧
              (Op.equalIn (d + n) f.type (valOf P f.type ((xs.drop f.offset).take (P.cellsOf f.type))) (valOf P f.type ((ys.drop f.offset).take (P.cellsOf f.type)))).run P w = .ok b w := by
          intro f b l1 l2 hb
          obtain ⟨g1, g2, g3⟩ := run_eqAt n d f.type _ _ b hb
          have hinf : (P.info? f.type).isSome = true := by
            cases hi : P.info? f.type with
            | some _ => rfl
            | none => simp [Program.underlying, hi] at g1
          have hsz : isAggD (P.underlying f.type) = false → P.cellsOf f.type = 1 := by
            intro hg
            have := (g2 hg).1
            simp only [List.length_take, List.length_drop] at this
            omega
          exact ⟨run_partOf w g1 hinf l1 hsz, run_partOf w g1 hinf l2 hsz, g3 w⟩
        have key : ∀ (l : List Field) (b : Bool), eqFs P (eqAt P n) xs ys l = some b → (Op.eqFields (d + n) xs.toArray ys.toArray l).run P w = .ok b w := by
          intro l
          induction l with
          | nil => intro b h; simp only [eqFs, Option.some.injEq] at h; subst h; rfl
          | cons f r ih =>
            intro b h
            unfold Op.eqFields
            cases r with
            | nil =>
              simp only [eqFs] at h
              split at h
              · rename_i hn
                split at h
                · rename_i hl
                  obtain ⟨e1, e2, e3⟩ := hone f b hl.1 hl.2 h
                  simp only [hn, Sem.run_bind, e1, e2, e3, Result.andThen_ok, ne_eq, not_false_eq_true, if_true]
                  cases b <;> simp [Op.eqFields]
                · cases h
              · rename_i hn
                simp only [Option.some.injEq] at h; subst h
                simp only [hn, if_false, Op.eqFields]
                rfl
            | cons f2 r2 =>
              simp only [eqFs] at h ih
              split at h
              · rename_i hn
                split at h
                · rename_i hl
                  simp only [Option.bind_eq_some_iff, Option.map_eq_some_iff] at h
                  obtain ⟨b1, h1, b2, h2, rfl⟩ := h
                  obtain ⟨e1, e2, e3⟩ := hone f b1 hl.1 hl.2 h1
                  simp only [hn, Sem.run_bind, e1, e2, e3, Result.andThen_ok, ne_eq, not_false_eq_true, if_true]
                  cases b1
                  · simp
                  · simpa using ih b2 h2
                · cases h
              · rename_i hn
                simp only [hn, if_false]
                exact ih b h
        exact key l b h
      · cases h
    · rename_i l e hu
      split at h
      · rename_i k he
        split at h
        · rename_i hc
          simp only [Option.bind_eq_some_iff] at h
          obtain ⟨as, h1, bs, h2, h⟩ := h
          split at h
          · rename_i hl
            simp only [Option.some.injEq] at h; subst h
            refine ⟨by simp [hu], fun hf => by simp [hu, isAggD] at hf, fun w => ?_⟩
            have hv : ∀ zs, valOf P t zs = .agg zs.toArray := by
              intro zs; simp only [valOf, hu, isAggD]; cases zs <;> rfl
            rw [hv, hv, intsOf_spec h1, intsOf_spec h2]
            obtain ⟨m, rfl⟩ : ∃ m, n = m + 1 := ⟨n - 1, by omega⟩
            obtain ⟨i, hi⟩ := Option.isSome_iff_exists.1 hc.2.1
            have hs : (P.info? e).map (·.size) = some 1 := by
              have := hc.1
              simp only [Program.cellsOf, hi, Option.map_some, Option.getD_some] at this
              simp [hi, this]
            exact run_equalIn_array (d + (m + 1)) l t e k hu he hs (fun a b w => run_equalIn_int w (d + m) e k k a b he) as bs hl.1 hl.2 w
          · cases h
        · cases h
      · cases h
    · cases h
end

section
variable {P : Program} {env : Env} {M : Mem} {bs : List Bx} {rs : List Rw} {d : Option Tmp} {ty : TypeId} {pos : String} {af : Array Edge} {gd : Option (Nat × Bool)}

theorem Yl.eqlC {t u : TypeId} {x y : Operand} {b : Bool} (xs ys : List Value) (hk : okOp env ⟨d, .binOp .eql t x y u, ty, pos, af, gd⟩ = true) (hm : P.eqGuardType P.depth t = false) (hg : isAggD (P.underlying t) = true) (hx : evT env x = .agg xs.toArray) (hy : evT env y = .agg ys.toArray)
    (h : eqAt P 8 t xs ys = some b) : Yl P env M bs rs ⟨d, .binOp .eql t x y u, ty, pos, af, gd⟩ (.bool b) := by
  have hv : ∀ zs, valOf P t zs = .agg zs.toArray := by
    intro zs; simp only [valOf, hg]; cases zs <;> rfl
  refine Yl.eqlS hk hm hx hy fun w => ?_
  have := (run_eqAt 8 9992 t xs ys b h).2.2 w
  rw [hv, hv] at this
  exact this
theorem Yl.neqC {t u : TypeId} {x y : Operand} {b : Bool} (xs ys : List Value) (hk : okOp env ⟨d, .binOp .neq t x y u, ty, pos, af, gd⟩ = true) (hm : P.eqGuardType P.depth t = false) (hg : isAggD (P.underlying t) = true) (hx : evT env x = .agg xs.toArray) (hy : evT env y = .agg ys.toArray)
    (h : eqAt P 8 t xs ys = some b) : Yl P env M bs rs ⟨d, .binOp .neq t x y u, ty, pos, af, gd⟩ (.bool (!b)) := by
  have hv : ∀ zs, valOf P t zs = .agg zs.toArray := by
    intro zs; simp only [valOf, hg]; cases zs <;> rfl
  refine Yl.neqS hk hm hx hy fun w => ?_
  have := (run_eqAt 8 9992 t xs ys b h).2.2 w
  rw [hv, hv] at this
  exact this
end

theorem band_iff {a b : Bool} {p q : Prop} (h1 : a = true ↔ p) (h2 : b = true ↔ q) : (a && b) = true ↔ p ∧ q := by rw [Bool.and_eq_true, h1, h2]
end Go.Gx
