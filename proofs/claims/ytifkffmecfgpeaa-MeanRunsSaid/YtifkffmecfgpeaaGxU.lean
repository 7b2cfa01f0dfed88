/-
  Lists of typed elements in slices and rows, over any program.
-/
import Derived.Test.YtifkffmecfgpeaaGxD
import Derived.Test.YtifkffmecfgpeaaGxS
import Derived.Test.YtifkffmecfgpeaaGxT
namespace Go.Gx
open Go.RowKit

/-- The cells of elements, one behind the other. -/
def cl {α : Type} (f : α → List Value) (xs : List α) : List Value := (xs.map f).flatten

section
variable {α : Type} {f : α → List Value}
theorem cl_one (x : α) : cl f [x] = f x := by simp [cl]
theorem cl_cons (x : α) (xs : List α) : cl f (x :: xs) = f x ++ cl f xs := by simp [cl]
theorem cl_append (xs ys : List α) : cl f (xs ++ ys) = cl f xs ++ cl f ys := by simp [cl]
theorem cl_snoc (xs : List α) (x : α) : cl f xs ++ f x = cl f (xs ++ [x]) := by simp [cl]
theorem cl_length {sz : Nat} (hf : ∀ x, (f x).length = sz) : ∀ xs : List α, (cl f xs).length = xs.length * sz
  | [] => by simp [cl]
  | x :: r => by rw [cl_cons, List.length_append, hf, cl_length hf r, List.length_cons, Nat.succ_mul]; omega
theorem cl_drop {sz : Nat} (hf : ∀ x, (f x).length = sz) : ∀ (k : Nat) (xs : List α), (cl f xs).drop (k * sz) = cl f (xs.drop k)
  | 0, xs => by simp
  | k + 1, [] => by simp [cl]
  | k + 1, x :: r => by
    rw [cl_cons, List.drop_succ_cons, ← cl_drop hf k r, Nat.succ_mul, Nat.add_comm, ← List.drop_drop]
    congr 1
    rw [← hf x]; simp
theorem cl_one' (hf : ∀ x, ∀ u ∈ f x, u.oneCell' = true) (xs : List α) : ∀ u ∈ cl f xs, u.oneCell' = true := by
  intro u hu
  simp only [cl, List.mem_flatten, List.mem_map] at hu
  obtain ⟨l, ⟨x, _, rfl⟩, hu⟩ := hu
  exact hf x u hu
theorem cl_Cs {sz : Nat} (hf : ∀ x, (f x).length = sz) {xs : List α} {i : Nat} {x : α} (h : xs[i]? = some x) : Cs (cl f xs) (0 + i * sz) (f x) := by
  unfold Cs
  rw [Nat.zero_add]
  exact flat_part xs (fun x _ => hf x) i x h
theorem cl_put {sz : Nat} (hf : ∀ x, (f x).length = sz) : ∀ {xs : List α} {i : Nat} (x : α), i < xs.length → putAt (cl f xs) (0 + i * sz) (f x) = cl f (xs.set i x)
  | [], _, _, h => by simp at h
  | y :: r, 0, x, _ => by
    have h1 : List.drop sz (f y) = [] := List.drop_eq_nil_of_le (by rw [hf]; omega)
    simp only [putAt, cl_cons, List.set_cons_zero, hf, Nat.zero_mul, Nat.add_zero, List.take_zero, List.nil_append, Nat.zero_add, List.drop_append, Nat.sub_self, List.drop_zero, h1]
  | y :: r, i + 1, x, h => by
    have ih := cl_put hf (xs := r) (i := i) x (by simpa using h)
    rw [List.set_cons_succ, cl_cons y (r.set i x), ← ih, cl_cons]
    have h1 : 0 + (i + 1) * sz = (f y).length + (0 + i * sz) := by rw [hf, Nat.succ_mul]; omega
    unfold putAt
    rw [h1, List.take_length_add_append, Nat.add_assoc, List.drop_length_add_append]
    simp only [List.append_assoc]

/-- An element of a slice. -/
theorem SlV.at {M : Mem} {A : Option Addr} {l c sz : Nat} {xs : List α} (h : SlV M A l c sz (cl f xs)) (hf : ∀ x, (f x).length = sz) (hl : xs.length = l) {i : Nat} {x : α} (hx : xs[i]? = some x) : ∃ b o, A = some ⟨b, o, none⟩ ∧ At M b (o + i * sz) (f x) :=
  SlV.elem h hl (fun x _ => hf x) hx
theorem SlV.len {M : Mem} {A : Option Addr} {l c sz : Nat} {xs : List α} (h : SlV M A l c sz (cl f xs)) (hf : ∀ x, (f x).length = sz) (h0 : 0 < sz) : xs.length = l := by
  have := h.1
  rw [cl_length hf] at this
  exact Nat.eq_of_mul_eq_mul_right h0 this
theorem SlV.max {M : Mem} {A : Option Addr} {l c sz : Nat} {xs : List Value} (h : SlV M A l c sz xs) : l ≤ 9223372036854775807 := by
  have h1 := h.2.1
  have h2 := h.2.2.1
  unfold maxLen at h2
  omega

/-- What is left behind the first k elements. -/
theorem SlV.rest {M : Mem} {A : Option Addr} {l c sz : Nat} {xs : List Value} (h : SlV M A l c sz xs) (k : Nat) (hk : k ≤ l) : SlV M (slA A k c sz) (l - k) (c - k) sz (xs.drop (k * sz)) := by
  obtain ⟨h1, h2, h3, h4⟩ := h
  refine ⟨by rw [List.length_drop, h1, Nat.sub_mul], by omega, by omega, fun h0 => ?_⟩
  obtain ⟨b, o, rfl, ha⟩ := h4 (by omega)
  refine ⟨b, o + k * sz, ?_, ?_⟩
  · unfold slA
    rw [if_neg (by omega)]
    simp [add_lit]
  · intro j v hj
    rw [List.getElem?_drop] at hj
    have := ha _ _ hj
    rw [← Nat.add_assoc] at this
    exact this

/-- The first k elements. -/
theorem SlV.first {M : Mem} {A : Option Addr} {l c sz : Nat} {xs : List Value} (h : SlV M A l c sz xs) (k : Nat) (hk : k ≤ l) : SlV M A k c sz (xs.take (k * sz)) := by
  obtain ⟨h1, h2, h3, h4⟩ := h
  have hle : k * sz ≤ l * sz := Nat.mul_le_mul_right _ hk
  refine ⟨by rw [List.length_take, h1]; omega, by omega, by omega, fun h0 => ?_⟩
  obtain ⟨b, o, rfl, ha⟩ := h4 (by omega)
  refine ⟨b, o, rfl, fun j v hj => ha j v ?_⟩
  rw [List.getElem?_take] at hj
  split at hj
  · exact hj
  · cases hj
end

section
variable {α β : Type} {R : α → β → Prop}
theorem All2.get : ∀ {as : List α} {bs : List β}, All2 R as bs → ∀ {i : Nat} {a : α}, as[i]? = some a → ∃ b, bs[i]? = some b ∧ R a b
  | [], _, _, i, a, h => by simp at h
  | _ :: _, _, ⟨b, bs, h1, h2, h3⟩, 0, a, h => by simp at h; subst h; subst h1; exact ⟨b, rfl, h2⟩
  | _ :: _, _, ⟨b, bs, h1, h2, h3⟩, i + 1, a, h => by
    subst h1
    obtain ⟨c, hc, hr⟩ := h3.get (by simpa using h)
    exact ⟨c, by simpa using hc, hr⟩
theorem All2.get' {as : List α} {bs : List β} (h : All2 R as bs) {i : Nat} {a : α} {b : β} (ha : as[i]? = some a) (hb : bs[i]? = some b) : R a b := by
  obtain ⟨c, hc, hr⟩ := h.get ha
  rw [hb] at hc; cases hc; exact hr
theorem All2.of : ∀ {as : List α} {bs : List β}, bs.length = as.length → (∀ (i : Nat) a b, as[i]? = some a → bs[i]? = some b → R a b) → All2 R as bs
  | [], bs, hl, _ => List.eq_nil_of_length_eq_zero (by simpa using hl)
  | a :: as, [], hl, _ => by simp at hl
  | a :: as, b :: bs, hl, h => ⟨b, bs, rfl, h 0 a b rfl rfl, All2.of (by simpa using hl) fun i x y hx hy => h (i + 1) x y (by simpa using hx) (by simpa using hy)⟩
theorem All2.drop {as : List α} {bs : List β} (h : All2 R as bs) (k : Nat) : All2 R (as.drop k) (bs.drop k) :=
  All2.of (by simp [h.length]) fun i a b ha hb => h.get' (i := k + i) (by simpa using ha) (by simpa using hb)
theorem All2.take {as : List α} {bs : List β} (h : All2 R as bs) (k : Nat) : All2 R (as.take k) (bs.take k) :=
  All2.of (by simp [h.length]) fun i a b ha hb => by
    rw [List.getElem?_take] at ha hb
    split at ha
    · rename_i hk; rw [if_pos hk] at hb; exact h.get' ha hb
    · cases ha
theorem All2.snoc {as : List α} {bs : List β} (h : All2 R as bs) {a : α} {b : β} (hr : R a b) : All2 R (as ++ [a]) (bs ++ [b]) := h.append ⟨b, [], rfl, hr, rfl⟩
/-- Of each element there is one that fits. -/
theorem All2.choose {R : α → β → Prop} : ∀ (bs : List β), (∀ b ∈ bs, ∃ a, R a b) → ∃ as, All2 R as bs
  | [], _ => ⟨[], rfl⟩
  | b :: bs, h => by
    obtain ⟨a, ha⟩ := h b (by simp)
    obtain ⟨as, has⟩ := All2.choose bs fun x hx => h x (by simp [hx])
    exact ⟨a :: as, b, bs, rfl, ha, has⟩
end

theorem getI {α : Type} {l : List α} {i : Int} (h0 : 0 ≤ i) (h1 : i < (l.length : Int)) : ∃ x, l[i.toNat]? = some x := ⟨l[i.toNat]'(by omega), List.getElem?_eq_getElem _⟩
theorem getN {α : Type} {l : List α} {i : Nat} (h1 : i < l.length) : ∃ x, l[i]? = some x := ⟨l[i]'(by omega), List.getElem?_eq_getElem _⟩
theorem drop_get {α : Type} {l : List α} {i : Nat} {x : α} (h : l[i]? = some x) : l.drop i = x :: l.drop (i + 1) := by
  obtain ⟨hl, hx⟩ := List.getElem?_eq_some_iff.1 h
  rw [List.drop_eq_getElem_cons hl, hx]
theorem take_get {α : Type} {l : List α} {i : Nat} {x : α} (h : l[i]? = some x) : l.take (i + 1) = l.take i ++ [x] := by
  obtain ⟨hl, hx⟩ := List.getElem?_eq_some_iff.1 h
  rw [List.take_succ_eq_append_getElem hl, hx]

/-- Ints of a slice. -/
abbrev iC (z : Int) : List Value := [.int .i64 z]
abbrev bC (b : Bool) : List Value := [.bool b]
structure Sl3 where
  a : Option Addr
  l : Nat
  c : Nat
/-! ### Short words for the printed proofs -/
section
variable {P : Program} {ops : Array Oper} {Q : Exit → Act → World → Prop} {n : Nat} {E : World} {bw : List Nat} {M : Mem} {w : World} {a : Act} {env : Env} {bs : List Bx} {rs : List Rw} {rest : List Oper} {o : Oper}

/-- An operation that looks at nothing but slots. -/
theorem sP (v : Value) {d : Nat} (hs : Sx n E bw M w a env bs rs) (h : ∀ a', Sx n E bw M w a' ((d, v) :: env) bs rs → wpList P ops Q rest a' w)
    (hg : o.guard = none := by rfl) (hd : o.dst = some d := by rfl) (hdn : d < n := by decide) (hk : okOp env o = true := by rfl) (hr : ∀ w, (execOp (evT env) o).run P w = .ok (.value v) w := by intro _; kernel_rfl) : wpList P ops Q (o :: rest) a w :=
  stepY v hs hg hd hdn (Yl.pure hk hr) h
theorem sY (v : Value) {d : Nat} (hs : Sx n E bw M w a env bs rs) (hy : Yl P env M bs rs o v) (h : ∀ a', Sx n E bw M w a' ((d, v) :: env) bs rs → wpList P ops Q rest a' w)
    (hg : o.guard = none := by rfl) (hd : o.dst = some d := by rfl) (hdn : d < n := by decide) : wpList P ops Q (o :: rest) a w :=
  stepY v hs hg hd hdn hy h
theorem sNo {j t d : Nat} {b c : Bool} (hs : Sx n E bw M w a env bs rs) (h : ∀ a', Sx n E bw M w a' ((d, undef) :: env) bs rs → wpList P ops Q rest a' w) (hg : o.guard = some (j, b) := by rfl) (ht : (ops[j]?).bind (·.dst) = some t := by rfl) (hl : lk env t = some (.bool c) := by rfl) (hne : (c == b) = false := by rfl)
    (hd : o.dst = some d := by rfl) (hdn : d < n := by decide) : wpList P ops Q (o :: rest) a w := step_no hs hg ht hl hne hd hdn h
theorem sNu {j t d : Nat} {b : Bool} (hs : Sx n E bw M w a env bs rs) (h : ∀ a', Sx n E bw M w a' ((d, undef) :: env) bs rs → wpList P ops Q rest a' w) (hg : o.guard = some (j, b) := by rfl) (ht : (ops[j]?).bind (·.dst) = some t := by rfl) (hl : lk env t = some undef := by rfl)
    (hd : o.dst = some d := by rfl) (hdn : d < n := by decide) : wpList P ops Q (o :: rest) a w := step_nou hs hg ht hl hd hdn h
theorem sYe {j t : Nat} {b : Bool} (hs : Sx n E bw M w a env bs rs) (h : wpList P ops Q ({ o with guard := none } :: rest) a w) (hg : o.guard = some (j, b) := by rfl) (ht : (ops[j]?).bind (·.dst) = some t := by rfl) (hl : lk env t = some (.bool b) := by rfl) : wpList P ops Q (o :: rest) a w := step_yes hs hg ht hl h
end
section
variable {P : Program} {ops : Array Oper} {Q : Exit → Act → World → Prop} {M0 : Mem} {bs0 : List Bx} {rs0 : List Rw} {keep : List Bool} {n : Nat} {E : World} {bw : List Nat} {M : Mem} {w : World} {a : Act} {env : Env} {bs : List Bx} {rs : List Rw} {o : Oper} {fuel : Nat} {listed : Array Bool}
theorem dP (v : Value) (i : Nat) (A : List Nat) {d : Nat} (hs : Sx n E bw M w a env bs rs) (hQ : QZ Q) (hw : Region.wanted o (yielded ops a.tmps) = true) (h : ∀ a', Sx n E bw M w a' ((d, v) :: env) bs rs → WpD P ops Q (Cx M0 bs0 rs0) keep fuel (listed.setIfInBounds i true) a' w)
    (ho : ops[i]? = some o := by rfl) (hd : o.dst = some d := by rfl) (hdn : d < n := by decide) (hsel : Region.noSelect ops = true := by kernel_rfl) (hr : (Region.ready .any ops listed).contains i = true := by kernel_rfl) (hf : freeB ops keep listed i A true = true := by kernel_rfl)
    (hk : okOp env o = true := by rfl) (hy : ∀ w, (execOp (evT env) o).run P w = .ok (.value v) w := by intro _; kernel_rfl) : WpD P ops Q (Cx M0 bs0 rs0) keep (fuel + 1) listed a w :=
  stepDP v i A hs hQ ho hw hd hdn hsel hr hf (Yl.pure hk hy) h
theorem dN (i : Nat) (A : List Nat) {d : Nat} (hs : Sx n E bw M w a env bs rs) (hQ : QZ Q) (hw : Region.wanted o (yielded ops a.tmps) = false) (h : ∀ a', Sx n E bw M w a' ((d, undef) :: env) bs rs → WpD P ops Q (Cx M0 bs0 rs0) keep fuel (listed.setIfInBounds i true) a' w)
    (ho : ops[i]? = some o := by rfl) (hd : o.dst = some d := by rfl) (hdn : d < n := by decide) (hsel : Region.noSelect ops = true := by kernel_rfl) (hr : (Region.ready .any ops listed).contains i = true := by kernel_rfl) (hf : freeB ops keep listed i A true = true := by kernel_rfl) : WpD P ops Q (Cx M0 bs0 rs0) keep (fuel + 1) listed a w :=
  stepDN i A hs hQ ho hw hd hdn hsel hr hf h
end

section
variable {P : Program} {ops : Array Oper} {Q : Exit → Act → World → Prop} {n : Nat} {E : World} {bw : List Nat} {M : Mem} {w : World} {a : Act} {env : Env} {bs : List Bx} {rs : List Rw} {rest : List Oper}
abbrev pt (b k : Nat) : Value := .pointer (some ⟨b, k, none⟩)
abbrev iv (x : Int) : Value := .int .i64 x
theorem Yl.lB (vs : List Value) (g : Bool) (i : Nat) {d : Option Tmp} {t ty : TypeId} {x : Operand} {pos : String} {af : Array Edge} {gd : Option (Nat × Bool)} {b k : Nat} {cs : List Value} {bt : TypeId} (hi : bs[i]? = some ⟨b, bt, cs⟩ := by rfl) (hk : known env x = true := by rfl) (hx : evT env x = .pointer (some ⟨b, k, none⟩) := by rfl)
    (ht : tyOk P t g vs.length = true := by kernel_rfl) (hvs : (cs.drop k).take vs.length = vs := by rfl) : Yl P env M bs rs ⟨d, .load t x, ty, pos, af, gd⟩ (ofCells g vs) := Yl.loadB g i hi hk hx ht hvs
theorem stB (i : Nat) (vs : List Value) (bs' : List Bx) {t ty : TypeId} {p x : Operand} {pos : String} {af : Array Edge} {b k : Nat} {bt : TypeId} {cs : List Value} {v : Value} (hs : Sx n E bw M w a env bs rs)
    (h : ∀ a' w', Sx n E bw M w' a' env bs' rs → wpList P ops Q rest a' w') (hi : bs[i]? = some ⟨b, bt, cs⟩ := by rfl) (hkp : known env p = true := by rfl) (hkx : known env x = true := by rfl)
    (hp : evT env p = .pointer (some ⟨b, k, none⟩) := by rfl) (hx : evT env x = v := by rfl) (hc : v.cells = vs.toArray := by rfl) (hn : (P.info? t).map (·.size) = some vs.length := by kernel_rfl) (hfit : k + vs.length ≤ cs.length := by exact Nat.le_of_ble_eq_true rfl) (h1 : vs.all (·.oneCell') = true := by rfl)
    (hb : bs.set i ⟨b, bt, putAt cs k vs⟩ = bs' := by rfl) : wpList P ops Q (⟨none, .store t p x, ty, pos, af, none⟩ :: rest) a w :=
  stepStoreB i hs hi hkp hkx hp hx hc hn hfit h1 fun a' w' hs' => h a' w' (hs'.chbx hb)
theorem lvE (K : Value → Prop) {fn : Func} {M0 : Mem} {v : Value} (hs : Sx n E [] M w a env bs rs) (hr : (results fn a.tmps).run P w = .ok v w) (hM : ∀ b o, M b = some o → M0 b = some o ∨ E.heap.size ≤ b) (hK : K v) :
    a.defers = [] ∧ ∃ v, (results fn a.tmps).run P w = .ok v w ∧ Below E.heap.size E w ∧ K v := leaveE (K := fun v _ => K v) hs hr hM fun _ _ => hK
end
section
variable {P : Program} {ops : Array Oper} {Q : Exit → Act → World → Prop} {M0 : Mem} {bs0 : List Bx} {rs0 : List Rw} {keep : List Bool} {w : World} {a : Act} {o : Oper} {fuel : Nat} {listed : Array Bool}
theorem sE (i : Nat)
    (h : wpList P #[] (fun e a' w' => match e with
      | .normal => (keep.getD i false = true → Cx M0 bs0 rs0 w → Cx M0 bs0 rs0 w') ∧ WpD P ops Q (Cx M0 bs0 rs0) keep fuel (listed.setIfInBounds i true) a' w'
      | .panic c => Q (.panic c) a' w'
      | _ => False) [{ o with guard := none }] a w) (ho : ops[i]? = some o := by rfl) (hw : Region.wanted o (yielded ops a.tmps) = true := by exact wanted_none rfl) (hr : Region.ready .any ops listed = [i] := by kernel_rfl) : WpD P ops Q (Cx M0 bs0 rs0) keep (fuel + 1) listed a w :=
  stepDE i ho hw hr #[] h
end

end Go.Gx
