/-
  More operations, over any program.
-/
import Derived.Test.YtifkffmecfgpeaaGx
namespace Go.Gx
open Go.RowKit

section
variable {P : Program} {env : Env} {M : Mem} {bs : List Bx} {rs : List Rw} {d : Option Tmp} {ty : TypeId} {pos : String} {af : Array Edge} {gd : Option (Nat × Bool)}

theorem Yl.nilck {x : Operand} {p : Option Addr} {b o : Nat} (hk : known env x = true) (hx : evT env x = .pointer p) (hp : p = some ⟨b, o, none⟩) :
    Yl P env M bs rs ⟨d, .nilCheck x, ty, pos, af, gd⟩ (.pointer (some ⟨b, o, none⟩)) := by
  subst hp
  exact ⟨by simp [okOp, notSel, Op.operands, hk], fun w _ => by simp [execOp, hx]⟩

theorem mkS_size (l : List UInt8) : (mkS l).size = l.length := rfl
theorem mkS_getElem? (l : List UInt8) (i : Nat) : (mkS l)[i]? = l[i]? := by
  by_cases h : i < l.length
  · rw [List.getElem?_eq_getElem h, getElem?_pos (mkS l) i h]; rfl
  · rw [List.getElem?_eq_none (by omega), getElem?_neg (mkS l) i h]
theorem mkS_eta (s : ByteArray) : s = mkS s.data.toList := by cases s; rfl
theorem Yl.indexStr {t : TypeId} {x i : Operand} {l : List UInt8} {k : IntKind} {n : Int} {c : UInt8} (hkx : known env x = true) (hki : known env i = true) (hx : evT env x = .string (mkS l)) (hi : evT env i = .int k n)
    (hu : P.underlying t = some .string) (h0 : 0 ≤ n) (hc : l[n.toNat]? = some c) : Yl P env M bs rs ⟨d, .index t x i, ty, pos, af, gd⟩ (.int .u8 (c.toNat : Int)) := by
  refine ⟨by simp [okOp, notSel, Op.operands, hkx, hki], fun w _ => ?_⟩
  have := mkS_getElem? l n.toNat
  rw [hc] at this
  simp [execOp, Instr.index, hx, hi, asIntOf, run_underlying hu, h0, this]

theorem mkS_extract (l : List UInt8) (a b : Nat) : (mkS l).extract a b = mkS ((l.take b).drop a) := by
  rw [mkS_eta ((mkS l).extract a b)]
  congr 1
  simp [ByteArray.data_extract, mkS, List.extract, List.take_drop]
  rw [List.drop_take, List.drop_take, show a + (b - a) - a = b - a by omega]

theorem run_sliceBound {k : IntKind} {n : Int} {y : Nat} {code : BoundsCode} (w : World) (h0 : 0 ≤ n) (h1 : n ≤ y) : (Instr.sliceBound (.int k n) y code).run P w = .ok n.toNat w := by
  simp [Instr.sliceBound, asIntOf, h0, h1]

theorem Yl.sliceStrLH {t : TypeId} {x lo hi : Operand} {l : List UInt8} {k k' : IntKind} {a b : Int} (hkx : known env x = true) (hka : known env lo = true) (hkb : known env hi = true) (hx : evT env x = .string (mkS l)) (ha : evT env lo = .int k a) (hb : evT env hi = .int k' b)
    (hu : P.underlying t = some .string) (h0 : 0 ≤ a) (h1 : a ≤ b) (h2 : b ≤ (l.length : Int)) : Yl P env M bs rs ⟨d, .slice t x (some lo) (some hi) none, ty, pos, af, gd⟩ (.string (mkS ((l.take b.toNat).drop a.toNat))) := by
  refine ⟨by simp [okOp, notSel, Op.operands, hkx, hka, hkb], fun w _ => ?_⟩
  have e1 := run_sliceBound (P := P) (k := k') (n := b) (y := l.length) (code := .sliceAlen) w (by omega) h2
  have e2 := run_sliceBound (P := P) (k := k) (n := a) (y := b.toNat) (code := .sliceB) w h0 (by omega)
  simp [execOp, Instr.sliceAt, Instr.slice, Instr.sliceBounds, hx, ha, hb, run_underlying hu, mkS_size, e1, e2, mkS_extract]

theorem Yl.sliceStrL {t : TypeId} {x lo : Operand} {l : List UInt8} {k : IntKind} {a : Int} (hkx : known env x = true) (hka : known env lo = true) (hx : evT env x = .string (mkS l)) (ha : evT env lo = .int k a)
    (hu : P.underlying t = some .string) (h0 : 0 ≤ a) (h1 : a ≤ (l.length : Int)) (_h2 : ((l.length : Nat) : Int) ≤ ((l.length : Nat) : Int)) : Yl P env M bs rs ⟨d, .slice t x (some lo) none none, ty, pos, af, gd⟩ (.string (mkS ((l.take ((l.length : Nat) : Int).toNat).drop a.toNat))) := by
  refine ⟨by simp [okOp, notSel, Op.operands, hkx, hka], fun w _ => ?_⟩
  have e2 := run_sliceBound (P := P) (k := k) (n := a) (y := l.length) (code := .sliceB) w h0 h1
  simp [execOp, Instr.sliceAt, Instr.slice, Instr.sliceBounds, hx, ha, run_underlying hu, mkS_size, e2, mkS_extract]

theorem Yl.sliceStrH {t : TypeId} {x hi : Operand} {l : List UInt8} {k' : IntKind} {b : Int} (hkx : known env x = true) (hkb : known env hi = true) (hx : evT env x = .string (mkS l)) (hb : evT env hi = .int k' b)
    (hu : P.underlying t = some .string) (_h0 : (0 : Int) ≤ 0) (h1 : (0 : Int) ≤ b) (h2 : b ≤ (l.length : Int)) : Yl P env M bs rs ⟨d, .slice t x none (some hi) none, ty, pos, af, gd⟩ (.string (mkS ((l.take b.toNat).drop (0 : Int).toNat))) := by
  refine ⟨by simp [okOp, notSel, Op.operands, hkx, hkb], fun w _ => ?_⟩
  have e1 := run_sliceBound (P := P) (k := k') (n := b) (y := l.length) (code := .sliceAlen) w (by omega) h2
  simp [execOp, Instr.sliceAt, Instr.slice, Instr.sliceBounds, hx, hb, run_underlying hu, mkS_size, e1, mkS_extract]

theorem Yl.shr {t u : TypeId} {x y : Operand} {k k' : IntKind} {a b : Int} (hkx : known env x = true) (hky : known env y = true) (hx : evT env x = .int k a) (hy : evT env y = .int k' b) (h0 : 0 ≤ b) :
    Yl P env M bs rs ⟨d, .binOp .shr t x y u, ty, pos, af, gd⟩ (.int k (bShr k a b)) := by
  refine ⟨by simp [okOp, notSel, Op.operands, hkx, hky], fun w _ => ?_⟩
  have hn : ¬ b < 0 := by omega
  simp [execOp, eqGuard, hx, hy, binOp, Op.shift, hn, bShr]

theorem Yl.eqlB {t u : TypeId} {x y : Operand} {a b : Bool} (hkx : known env x = true) (hky : known env y = true) (hx : evT env x = .bool a) (hy : evT env y = .bool b) (hu : P.underlying t = some .bool) :
    Yl P env M bs rs ⟨d, .binOp .eql t x y u, ty, pos, af, gd⟩ (.bool (a == b)) := by
  refine ⟨by simp [okOp, notSel, Op.operands, hkx, hky], fun w _ => ?_⟩
  have := run_equalIn_bool (P := P) w 9999 t a b hu
  simp [execOp, eqGuard, hx, hy, binOp, Op.equal, Op.maxDepth, this]

theorem Yl.neqB {t u : TypeId} {x y : Operand} {a b : Bool} (hkx : known env x = true) (hky : known env y = true) (hx : evT env x = .bool a) (hy : evT env y = .bool b) (hu : P.underlying t = some .bool) :
    Yl P env M bs rs ⟨d, .binOp .neq t x y u, ty, pos, af, gd⟩ (.bool (!(a == b))) := by
  refine ⟨by simp [okOp, notSel, Op.operands, hkx, hky], fun w _ => ?_⟩
  have := run_equalIn_bool (P := P) w 9999 t a b hu
  simp [execOp, eqGuard, hx, hy, binOp, Op.equal, Op.maxDepth, this]

theorem run_equalIn_array {P : Program} (d n : Nat) (t e : TypeId) (k : IntKind) (ht : P.underlying t = some (.array n e)) (he : P.underlying e = some (.int k)) (hs : (P.info? e).map (·.size) = some 1)
    (heq : ∀ a b w, (Op.equalIn d e (.int k a) (.int k b)).run P w = .ok (a == b) w)
    (xs ys : List Int) (hx : xs.length = n) (hy : ys.length = n) (w : World) :
    (Op.equalIn (d + 1) t (.agg (xs.map (Value.int k)).toArray) (.agg (ys.map (Value.int k)).toArray)).run P w = .ok (xs == ys) w := by
  have hsz : (sizeOf e).run P w = .ok 1 w := by
    cases hi : P.info? e with
    | none => simp [hi] at hs
    | some i => simp [hi] at hs; simp [sizeOf, typeInfo, hi, hs]
  have hag : (isAgg e).run P w = .ok false w := by simp [isAgg, run_underlying he]
  have hpart : ∀ (zs : List Int) (i : Nat) (h : i < zs.length), (part e (zs.map (Value.int k)).toArray (i * 1)).run P w = .ok (.int k zs[i]) w := by
    intro zs i h
    simp only [part, Sem.run_bind, hag, Result.andThen_ok]
    simp [h]
  have key : ∀ (m j : Nat), j + m = n → 
      ((forIn (List.range' j m) ((none, ()) : Option Bool × PUnit) fun i _ => (do
        let a ← part e (xs.map (Value.int k)).toArray (i * 1)
        let b ← part e (ys.map (Value.int k)).toArray (i * 1)
        let c ← Op.equalIn d e a b
        if (!c) = true then pure (ForInStep.done (some false, ())) else pure (ForInStep.yield (none, ())) : Sem (ForInStep (Option Bool × PUnit)))).run P w) = .ok (if xs.drop j == ys.drop j then (none, ()) else (some false, ())) w := by
    intro m
    induction m with
    | zero => intro j hj; simp [List.drop_of_length_le (show xs.length ≤ j by omega), List.drop_of_length_le (show ys.length ≤ j by omega)]
    | succ m ih =>
      intro j hj
      have h1 : j < xs.length := by omega
      have h2 : j < ys.length := by omega
      rw [List.range'_succ, List.forIn_cons]
      have e' : (xs.drop j == ys.drop j) = (xs[j] == ys[j] && (xs.drop (j+1) == ys.drop (j+1))) := by
        rw [List.drop_eq_getElem_cons h1, List.drop_eq_getElem_cons h2]; rfl
      simp only [Sem.run_bind, hpart xs j h1, hpart ys j h2, Result.andThen_ok, heq]
      rw [e']
      cases hb : (xs[j] == ys[j])
      · simp only [Bool.not_false, if_true, Sem.run_pure, Result.andThen_ok, Bool.false_and, Bool.false_eq_true, if_false]
      · simp only [Bool.not_true, Bool.false_eq_true, if_false, Sem.run_pure, Result.andThen_ok, Bool.true_and]
        exact ih (j + 1) (by omega)
  simp only [Op.equalIn, Sem.run_bind, run_underlying ht, Result.andThen_ok, hsz]
  have := key n 0 (by omega)
  simp only [List.drop_zero] at this
  simp only [Std.Legacy.Range.forIn_eq_forIn_range', Std.Legacy.Range.size, Nat.sub_zero, Nat.add_sub_cancel, Nat.div_one]
  rw [this]
  cases hb : (xs == ys) <;> simp

def cellsEq (xs ys : List Int) : Bool := xs == ys

theorem run_eqlA {n : Nat} {t e : TypeId} {k : IntKind} (ht : P.underlying t = some (.array n e)) (he : P.underlying e = some (.int k)) (hs : (P.info? e).map (·.size) = some 1) (xs ys : List Int) (hx : xs.length = n) (hy : ys.length = n) (w : World) :
    (Op.equal t (.agg (xs.map (Value.int k)).toArray) (.agg (ys.map (Value.int k)).toArray)).run P w = .ok (cellsEq xs ys) w :=
  run_equalIn_array 9999 n t e k ht he hs (fun a b w => run_equalIn_int w 9998 e k k a b he) xs ys hx hy w

/-- Two arrays of integers, or what holds nothing else. -/
theorem Yl.eqlA {n : Nat} {t e u : TypeId} {k : IntKind} {x y : Operand} {xs ys : List Int} {vx vy : Value} (hk : okOp env ⟨d, .binOp .eql t x y u, ty, pos, af, gd⟩ = true) (hm : P.eqGuardType P.depth t = false) (ht : P.underlying t = some (.array n e)) (he : P.underlying e = some (.int k)) (hs : (P.info? e).map (·.size) = some 1)
    (hvx : evT env x = vx) (hvy : evT env y = vy) (hx : vx = .agg (xs.map (Value.int k)).toArray) (hy : vy = .agg (ys.map (Value.int k)).toArray) (hlx : xs.length = n) (hly : ys.length = n) :
    Yl P env M bs rs ⟨d, .binOp .eql t x y u, ty, pos, af, gd⟩ (.bool (cellsEq xs ys)) := by
  refine ⟨hk, fun w _ => ?_⟩
  have h1 := run_eqlA ht he hs xs ys hlx hly w
  have h2 := run_eqGuard_agg (P := P) w .eql t x y (xs.map (Value.int k)).toArray (ys.map (Value.int k)).toArray hm
  simp only [execOp, hvx, hvy, hx, hy, Sem.run_bind, h2, Result.andThen_ok, binOp, h1]
  rfl

theorem Yl.neqA {n : Nat} {t e u : TypeId} {k : IntKind} {x y : Operand} {xs ys : List Int} {vx vy : Value} (hk : okOp env ⟨d, .binOp .neq t x y u, ty, pos, af, gd⟩ = true) (hm : P.eqGuardType P.depth t = false) (ht : P.underlying t = some (.array n e)) (he : P.underlying e = some (.int k)) (hs : (P.info? e).map (·.size) = some 1)
    (hvx : evT env x = vx) (hvy : evT env y = vy) (hx : vx = .agg (xs.map (Value.int k)).toArray) (hy : vy = .agg (ys.map (Value.int k)).toArray) (hlx : xs.length = n) (hly : ys.length = n) :
    Yl P env M bs rs ⟨d, .binOp .neq t x y u, ty, pos, af, gd⟩ (.bool (!(cellsEq xs ys))) := by
  refine ⟨hk, fun w _ => ?_⟩
  have h1 := run_eqlA ht he hs xs ys hlx hly w
  have h2 := run_eqGuard_agg (P := P) w .neq t x y (xs.map (Value.int k)).toArray (ys.map (Value.int k)).toArray hm
  simp only [execOp, hvx, hvy, hx, hy, Sem.run_bind, h2, Result.andThen_ok, binOp, h1]
  rfl

/-- Structs: the equation on the run is laid by type. -/
theorem Yl.eqlS {t u : TypeId} {x y : Operand} {xs ys : Array Value} {b : Bool} (hk : okOp env ⟨d, .binOp .eql t x y u, ty, pos, af, gd⟩ = true) (hm : P.eqGuardType P.depth t = false) (hvx : evT env x = .agg xs) (hvy : evT env y = .agg ys)
    (h : ∀ w, (Op.equal t (.agg xs) (.agg ys)).run P w = .ok b w) : Yl P env M bs rs ⟨d, .binOp .eql t x y u, ty, pos, af, gd⟩ (.bool b) := by
  refine ⟨hk, fun w _ => ?_⟩
  have h2 := run_eqGuard_agg (P := P) w .eql t x y xs ys hm
  simp only [execOp, hvx, hvy, Sem.run_bind, h2, Result.andThen_ok, binOp, h]
  rfl
theorem Yl.neqS {t u : TypeId} {x y : Operand} {xs ys : Array Value} {b : Bool} (hk : okOp env ⟨d, .binOp .neq t x y u, ty, pos, af, gd⟩ = true) (hm : P.eqGuardType P.depth t = false) (hvx : evT env x = .agg xs) (hvy : evT env y = .agg ys)
    (h : ∀ w, (Op.equal t (.agg xs) (.agg ys)).run P w = .ok b w) : Yl P env M bs rs ⟨d, .binOp .neq t x y u, ty, pos, af, gd⟩ (.bool (!b)) := by
  refine ⟨hk, fun w _ => ?_⟩
  have h2 := run_eqGuard_agg (P := P) w .neq t x y xs ys hm
  simp only [execOp, hvx, hvy, Sem.run_bind, h2, Result.andThen_ok, binOp, h]
  rfl

theorem Yl.slNil {t e u : TypeId} {x y : Operand} {A : Option Addr} {l c : Nat} (hk : okOp env ⟨d, .binOp .eql t x y u, ty, pos, af, gd⟩ = true) (ht : P.underlying t = some (.slice e)) (hx : evT env x = .slice A l c) (hy : evT env y = .slice none 0 0) :
    Yl P env M bs rs ⟨d, .binOp .eql t x y u, ty, pos, af, gd⟩ (.bool A.isNone) := by
  refine ⟨hk, fun w _ => ?_⟩
  have : (Op.equalIn (9999 + 1) t (.slice A l c) (.slice none 0 0)).run P w = .ok A.isNone w := by
    generalize 9999 = q
    cases A <;> simp [Op.equalIn, run_underlying ht]
  simp [execOp, eqGuard, hx, hy, binOp, Op.equal, Op.maxDepth, this]
/-- Where a slice of a slice begins. -/
def slA (a : Option Addr) (lo c size : Nat) : Option Addr := if c = lo then a else a.map (·.add (lo * size))

theorem Yl.sliceSL {t e : TypeId} {sz l c : Nat} {ad : Option Addr} {x lo : Operand} {k : IntKind} {a : Int} (hkx : known env x = true) (hka : known env lo = true) (hx : evT env x = .slice ad l c) (ha : evT env lo = .int k a)
    (hu : P.underlying t = some (.slice e)) (hn : (P.info? e).map (·.size) = some sz) (h0 : 0 ≤ a) (h1 : a ≤ (l : Int)) : Yl P env M bs rs ⟨d, .slice t x (some lo) none none, ty, pos, af, gd⟩ (.slice (slA ad a.toNat c sz) (l - a.toNat) (c - a.toNat)) := by
  refine ⟨by simp [okOp, notSel, Op.operands, hkx, hka], fun w _ => ?_⟩
  have e2 := run_sliceBound (P := P) (k := k) (n := a) (y := l) (code := .sliceB) w h0 h1
  cases hi' : P.info? e with
  | none => simp [hi'] at hn
  | some ti =>
    simp [hi'] at hn
    simp [execOp, Instr.sliceAt, Instr.slice, Instr.sliceBounds, hx, ha, run_underlying hu, e2, sizeOf, typeInfo, hi', hn, slA]

/-- An element of an array of integers in a box. -/
theorem Yl.loadBD {t : TypeId} {x : Operand} {b k : Nat} {q : IntKind} {zs : List Int} {z : Int} (i : Nat) {bt : TypeId} (hi : bs[i]? = some ⟨b, bt, zs.map (Value.int q)⟩) (hk : known env x = true) (hx : evT env x = .pointer (some ⟨b, k, none⟩))
    (ht : tyOk P t false 1 = true) (hz : zs[k]? = some z) : Yl P env M bs rs ⟨d, .load t x, ty, pos, af, gd⟩ (.int q z) := by
  have hlt : k < zs.length := (List.getElem?_eq_some_iff.1 hz).1
  refine Yl.loadB (vs := [.int q z]) false i hi hk hx ht ?_
  apply List.ext_getElem?
  intro j
  rw [List.getElem?_take, List.getElem?_drop]
  match j with
  | 0 => simp [hz]
  | j + 1 => simp
end
end Go.Gx
