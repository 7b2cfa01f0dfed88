/- Contracts of functions: what each answers at every input that its caller may hand it. No condition. -/
import Derived.Test.YtifkffmecfgpeaaWell8X
import Derived.Test.YtifkffmecfgpeaaSetMX
namespace Go.Proofs.Ytifkffmecfgpeaa.core
open Go.Gx Go.RowKit Go.ChangeShapes Go.WideShapes Go.ChangeAt
/-! ### What an expression matches, by a table of the rules -/

def strE (f : Int → Int) (q : Bool) : Nat → Int → Bool → Int
  | 0, p, _ => p
  | m + 1, p, fi => if f p = -2 ∨ (f p < 0 ∧ fi = true ∧ q = true) then f p else if f p < 0 then p else strE f q m (f p) false
def oneE (k p r : Int) : Int := if r = -2 then -2 else if k = 9 ∧ 0 ≤ r then r else if (k = 10 ∧ r < 0) ∨ (k = 11 ∧ 0 ≤ r) then -1 else p
def setE (t : X_api_Set) (s : List UInt8) (p : Int) : Int := match s[p.toNat]? with
  | some c => if bitS t c.toNat then p + 1 else -1
  | none => -1
def litE (x s : List UInt8) (p : Int) : Int := if p + (x.length : Nat) ≤ (s.length : Nat) ∧ (s.take (p + (x.length : Nat)).toNat).drop p.toNat = x then p + (x.length : Nat) else -1
mutual
def endE (rs : List Ru) (s : List UInt8) (E : Nat → Nat → Int) : Ex → Int → Int
  | .mk k t x ks, p => if k = 1 then p else if k = 2 then setE t s p else if k = 3 then litE x s p else if k = 4 then E p.toNat (findR x rs 0).toNat
    else if k = 5 then seqE rs s E ks p else if k = 6 then altE rs s E ks p else if k = 7 ∨ k = 8 then strE (hdE rs s E ks) (decide (k = 8)) (s.length + 2) p true
    else oneE k p (hdE rs s E ks p)
def seqE (rs : List Ru) (s : List UInt8) (E : Nat → Nat → Int) : List Ex → Int → Int
  | [], p => p
  | k :: ks, p => if endE rs s E k p < 0 then endE rs s E k p else seqE rs s E ks (endE rs s E k p)
def altE (rs : List Ru) (s : List UInt8) (E : Nat → Nat → Int) : List Ex → Int → Int
  | [], _ => -1
  | k :: ks, p => if endE rs s E k p ≠ -1 then endE rs s E k p else altE rs s E ks p
def hdE (rs : List Ru) (s : List UInt8) (E : Nat → Nat → Int) : List Ex → Int → Int
  | [], _ => -1
  | k :: _, p => endE rs s E k p
end
theorem endE_eq (rs : List Ru) (s : List UInt8) (E : Nat → Nat → Int) (e : Ex) (p : Int) : endE rs s E e p = if e.kind = 1 then p else if e.kind = 2 then setE e.set s p else if e.kind = 3 then litE e.text s p else if e.kind = 4 then E p.toNat (findR e.text rs 0).toNat
    else if e.kind = 5 then seqE rs s E e.kids p else if e.kind = 6 then altE rs s E e.kids p else if e.kind = 7 ∨ e.kind = 8 then strE (hdE rs s E e.kids) (decide (e.kind = 8)) (s.length + 2) p true
    else oneE e.kind p (hdE rs s E e.kids p) := by
  cases e; rw [endE]; rfl

/-- What may come of one of such facts, tried at p. -/
def Val (n : Nat) (f : Fa) (p r : Int) : Prop := r = -2 ∨ (r = -1 ∧ f.Fails = true) ∨ (r = p ∧ f.Empty = true) ∨ (p < r ∧ r ≤ n ∧ f.Eats = true)
theorem Val.pos {n : Nat} {f : Fa} {p r : Int} (h : Val n f p r) (hp : 0 ≤ p) (hn : p ≤ n) : r = -2 ∨ r = -1 ∨ (p ≤ r ∧ r ≤ n) := by
  rcases h with h | h | h | h <;> omega

structure TabOk (rs : List Ru) (n : Nat) (E : Nat → Nat → Int) : Prop where
  val : ∀ (p i : Nat) f, p ≤ n → (knOf rs)[i]? = some f → Val n f p (E p i)

theorem then_val {n : Nat} {a b : Fa} {p q r : Int} (hp : 0 ≤ p) (h1 : Val n a p q) (hq : 0 ≤ q) (h2 : Val n b q r) : Val n (faThen a b) p r := by
  unfold Val at *
  simp only [faThen, Bool.or_eq_true, Bool.and_eq_true]
  rcases h1 with h1 | ⟨h1, _⟩ | ⟨h1, e1⟩ | ⟨h1, h1', e1⟩
  · omega
  · omega
  · rcases h2 with h2 | ⟨h2, e2⟩ | ⟨h2, e2⟩ | ⟨h2, h2', e2⟩
    · exact .inl h2
    · exact .inr (.inl ⟨h2, .inr ⟨.inl e1, e2⟩⟩)
    · exact .inr (.inr (.inl ⟨by omega, e1, e2⟩))
    · exact .inr (.inr (.inr ⟨by omega, h2', .inr ⟨e1, e2⟩⟩))
  · rcases h2 with h2 | ⟨h2, e2⟩ | ⟨h2, e2⟩ | ⟨h2, h2', e2⟩
    · exact .inl h2
    · exact .inr (.inl ⟨h2, .inr ⟨.inr e1, e2⟩⟩)
    · exact .inr (.inr (.inr ⟨by omega, by omega, .inl ⟨e1, .inl e2⟩⟩))
    · exact .inr (.inr (.inr ⟨by omega, h2', .inl ⟨e1, .inr e2⟩⟩))
theorem then_neg {n : Nat} {a b : Fa} {p q : Int} (hp : 0 ≤ p) (h1 : Val n a p q) (hq : q < 0) : Val n (faThen a b) p q := by
  unfold Val at *
  simp only [faThen, Bool.or_eq_true, Bool.and_eq_true]
  rcases h1 with h1 | ⟨h1, e1⟩ | ⟨h1, _⟩ | ⟨h1, _, _⟩
  · exact .inl h1
  · exact .inr (.inl ⟨h1, .inl e1⟩)
  · omega
  · omega
theorem or_left {n : Nat} {a b : Fa} {p q : Int} (h1 : Val n a p q) (hq : q ≠ -1) : Val n (faOr a b) p q := by
  unfold Val at *
  simp only [faOr, Bool.or_eq_true, Bool.and_eq_true]
  rcases h1 with h1 | ⟨h1, _⟩ | ⟨h1, e1⟩ | ⟨h1, h2, e1⟩
  · exact .inl h1
  · exact absurd h1 hq
  · exact .inr (.inr (.inl ⟨h1, .inl e1⟩))
  · exact .inr (.inr (.inr ⟨h1, h2, .inl e1⟩))
theorem or_right {n : Nat} {a b : Fa} {p r : Int} (hp : 0 ≤ p) (h1 : Val n a p (-1)) (h2 : Val n b p r) : Val n (faOr a b) p r := by
  unfold Val at *
  simp only [faOr, Bool.or_eq_true, Bool.and_eq_true]
  have e1 : a.Fails = true := by
    rcases h1 with h1 | ⟨_, e1⟩ | ⟨h1, _⟩ | ⟨h1, _, _⟩
    · omega
    · exact e1
    · omega
    · omega
  rcases h2 with h2 | ⟨h2, e2⟩ | ⟨h2, e2⟩ | ⟨h2, h2', e2⟩
  · exact .inl h2
  · exact .inr (.inl ⟨h2, e1, e2⟩)
  · exact .inr (.inr (.inl ⟨h2, .inr ⟨e1, e2⟩⟩))
  · exact .inr (.inr (.inr ⟨h2, h2', .inr ⟨e1, e2⟩⟩))
/-- Again and again from q on; q is where it began, or behind it. -/
theorem star_val {n : Nat} {a : Fa} {f : Int → Int} {b : Bool} (he : a.Empty = false) (hf : ∀ p : Int, 0 ≤ p → p ≤ n → Val n a p (f p)) : ∀ (m : Nat) (p q : Int), 0 ≤ p → p ≤ q → q ≤ n → n + 1 ≤ q + m → (p < q → a.Eats = true) → Val n (faStar a) p (strE f b m q false)
  | 0, p, q, hp, hpq, hq, hm, _ => by omega
  | m + 1, p, q, hp, hpq, hq, hm, hE => by
    have hv := hf q (by omega) hq
    rw [strE]
    have key : f q = -1 → Val n (faStar a) p q := fun h1 => by
      have e1 : a.Fails = true := by
        rcases hv with h | ⟨_, e⟩ | ⟨h, _⟩ | ⟨h, _, _⟩
        · omega
        · exact e
        · omega
        · omega
      by_cases hlt : p < q
      · exact .inr (.inr (.inr ⟨hlt, hq, hE hlt⟩))
      · exact .inr (.inr (.inl ⟨by omega, e1⟩))
    split
    · rename_i h
      rcases h with h | ⟨_, h, _⟩
      · exact .inl h
      · cases h
    · rename_i h
      split
      · exact key (by rcases hv with h' | ⟨h', _⟩ | ⟨h', _⟩ | ⟨h', _, _⟩ <;> omega)
      · have hgt : q < f q ∧ f q ≤ n ∧ a.Eats = true := by
          rcases hv with h' | ⟨h', _⟩ | ⟨h', e'⟩ | h'
          · omega
          · omega
          · rw [he] at e'; cases e'
          · exact h'
        exact star_val he hf m p (f q) hp (by omega) hgt.2.1 (by omega) (fun _ => hgt.2.2)
theorem star_first {n : Nat} {a : Fa} {f : Int → Int} (he : a.Empty = false) (hf : ∀ p : Int, 0 ≤ p → p ≤ n → Val n a p (f p)) {m : Nat} {p : Int} (hp : 0 ≤ p) (hn : p ≤ n) (hm : n + 2 ≤ m) : Val n (faStar a) p (strE f false m p true) := by
  have := star_val (b := false) he hf m p p hp (Int.le_refl _) hn (by omega) (fun h => absurd h (by omega))
  cases m with
  | zero => omega
  | succ m => rw [strE] at this ⊢; simpa using this
theorem plus_first {n : Nat} {a : Fa} {f : Int → Int} (he : a.Empty = false) (hf : ∀ p : Int, 0 ≤ p → p ≤ n → Val n a p (f p)) {m : Nat} {p : Int} (hp : 0 ≤ p) (hn : p ≤ n) (hm : n + 2 ≤ m) : Val n (faThen a (faStar a)) p (strE f true m p true) := by
  cases m with
  | zero => omega
  | succ m =>
    have hv := hf p hp hn
    rw [strE]
    by_cases h0 : f p < 0
    · rw [if_pos (.inr ⟨h0, rfl, rfl⟩)]
      exact then_neg hp hv h0
    · rw [if_neg (by rintro (h | ⟨h, _⟩) <;> omega), if_neg h0]
      have hge : p ≤ f p ∧ f p ≤ n := by rcases hv.pos hp hn with h | h | h <;> omega
      exact then_val hp hv (by omega) (star_val he hf m (f p) (f p) (by omega) (Int.le_refl _) hge.2 (by omega) (fun h => absurd h (by omega)))
theorem one_val {n : Nat} {a : Fa} {k p r : Int} (hk : k = 9 ∨ k = 10 ∨ k = 11) (hp : 0 ≤ p) (hv : Val n a p r) : Val n (if k = 9 then faOr a ⟨true, false, false⟩ else if k = 10 then faAnd a else faNot a) p (oneE k p r) := by
  unfold oneE
  unfold Val at *
  by_cases h2 : r = -2
  · rw [if_pos h2]; exact .inl rfl
  rw [if_neg h2]
  rcases hv with h | ⟨h, e⟩ | ⟨h, e⟩ | ⟨h, h', e⟩
  · exact absurd h h2
  all_goals
    rcases hk with rfl | rfl | rfl
    all_goals simp only [faOr, faAnd, faNot, e]
  all_goals first | (split <;> simp_all <;> omega) | skip

theorem zs_false {t : X_api_Set} {c : Nat} (hc : c < 256) (h : bitS t c = true) : zs t = false := by
  by_cases hz : zs t = true
  · exfalso
    unfold zs at hz
    have : t = ⟨0, 0, 0, 0⟩ := by
      obtain ⟨a, b, d, e⟩ := t
      simp only [cellsEq, beq_iff_eq] at hz
      obtain ⟨rfl, rfl, rfl, rfl⟩ := hz
      rfl
    subst this
    have h0 : (⟨0, 0, 0, 0⟩ : X_api_Set) = Us fun _ => false := rfl
    rw [h0, bit_Us hc] at h; cases h
  · simpa using hz

theorem set_val {t : X_api_Set} {s : List UInt8} {p : Int} (hp : 0 ≤ p) : Val s.length ⟨false, !zs t, true⟩ p (setE t s p) := by
  unfold setE
  split
  · rename_i c hc
    have hlt := (List.getElem?_eq_some_iff.1 hc).1
    split
    · rename_i hb
      exact .inr (.inr (.inr ⟨by omega, by omega, by rw [zs_false c.toNat_lt hb]; rfl⟩))
    · exact .inr (.inl ⟨rfl, rfl⟩)
  · exact .inr (.inl ⟨rfl, rfl⟩)
theorem lit_val {x s : List UInt8} {p : Int} (hx : x ≠ []) (hp : 0 ≤ p) : Val s.length ⟨false, true, true⟩ p (litE x s p) := by
  unfold litE
  have : 0 < x.length := List.length_pos_iff.2 hx
  split
  · exact .inr (.inr (.inr ⟨by omega, by omega, rfl⟩))
  · exact .inr (.inl ⟨rfl, rfl⟩)

structure PegOk (rs : List Ru) (e : Ex) : Prop where
  good : GoodE rs e
  loop : loopB rs (knOf rs) e = false
theorem PegOk.kid {rs : List Ru} {e k : Ex} (h : PegOk rs e) (hk : k ∈ e.kids) : PegOk rs k := by
  refine ⟨h.good.kid k hk, ?_⟩
  have := h.loop
  rw [loopB_eq, Bool.or_eq_false_iff, List.any_eq_false] at this
  simpa using this.2 k hk
theorem PegOk.star {rs : List Ru} {e k : Ex} (h : PegOk rs e) (hk : e.kids = [k]) (h7 : e.kind = 7 ∨ e.kind = 8) : (ofE rs (knOf rs) k).Empty = false := by
  have := h.loop
  rw [loopB_eq, Bool.or_eq_false_iff] at this
  have := this.1
  unfold ndB at this
  rw [decide_eq_true h7, hk] at this
  simpa [hdF] using this

theorem seq_val {rs : List Ru} {s : List UInt8} {E : Nat → Nat → Int} : ∀ (ks : List Ex), ks ≠ [] → (∀ k ∈ ks, ∀ p : Int, 0 ≤ p → p ≤ s.length → Val s.length (ofE rs (knOf rs) k) p (endE rs s E k p)) → ∀ p : Int, 0 ≤ p → p ≤ s.length → Val s.length (thenR (ks.map (ofE rs (knOf rs)))) p (seqE rs s E ks p)
  | [], h, _, _, _, _ => absurd rfl h
  | [k], _, hk, p, hp, hn => by
    have := hk k (by simp) p hp hn
    rw [seqE]
    split
    · exact this
    · rw [seqE]; exact this
  | k :: k2 :: r, _, hk, p, hp, hn => by
    have hv := hk k (by simp) p hp hn
    rw [seqE]
    show Val _ (faThen (ofE rs (knOf rs) k) (thenR ((k2 :: r).map (ofE rs (knOf rs))))) _ _
    split
    · rename_i h0; exact then_neg hp hv h0
    · rename_i h0
      have hge : p ≤ endE rs s E k p ∧ endE rs s E k p ≤ s.length := by rcases hv.pos hp hn with h | h | h <;> omega
      exact then_val hp hv (by omega) (seq_val (k2 :: r) (by simp) (fun k' hk' => hk k' (by simp [hk'])) _ (by omega) hge.2)
theorem alt_val {rs : List Ru} {s : List UInt8} {E : Nat → Nat → Int} {p : Int} (hp : 0 ≤ p) : ∀ (ks : List Ex), ks ≠ [] → (∀ k ∈ ks, Val s.length (ofE rs (knOf rs) k) p (endE rs s E k p)) → Val s.length (orL (ks.map (ofE rs (knOf rs)))) p (altE rs s E ks p)
  | [], h, _ => absurd rfl h
  | [k], _, hk => by
    have := hk k (by simp)
    rw [altE]
    split
    · exact this
    · rename_i h; rw [altE]; rw [Decidable.not_not.1 h] at this; exact this
  | k :: k2 :: r, _, hk => by
    have hv := hk k (by simp)
    rw [altE]
    show Val _ (faOr (ofE rs (knOf rs) k) (orL ((k2 :: r).map (ofE rs (knOf rs))))) _ _
    split
    · rename_i h0; exact or_left hv h0
    · rename_i h0
      rw [Decidable.not_not.1 h0] at hv
      exact or_right hp hv (alt_val hp (k2 :: r) (by simp) fun k' hk' => hk k' (by simp [hk']))

theorem end_val {rs : List Ru} {s : List UInt8} {E : Nat → Nat → Int} (hT : TabOk rs s.length E) : ∀ (n : Nat) (e : Ex), SizeOf.sizeOf e < n → PegOk rs e → ∀ p : Int, 0 ≤ p → p ≤ s.length → Val s.length (ofE rs (knOf rs) e) p (endE rs s E e p) := by
  intro n
  induction n with
  | zero => intro e h; omega
  | succ n ih =>
    intro e hn hok p hp hl
    obtain ⟨g1, g2, g3, g4, g5, g6, g7, g8⟩ := fitE_kinds hok.good.fit
    have hkid : ∀ k ∈ e.kids, ∀ p : Int, 0 ≤ p → p ≤ s.length → Val s.length (ofE rs (knOf rs) k) p (endE rs s E k p) := fun k hk => ih k (by have := Ex.kid_lt hk; omega) (hok.kid hk)
    rw [endE_eq, ofE_eq, opF]
    by_cases h1 : e.kind = 1
    · rw [if_pos h1, if_pos h1]; exact .inr (.inr (.inl ⟨rfl, rfl⟩))
    rw [if_neg h1, if_neg h1]
    by_cases h2 : e.kind = 2
    · rw [if_pos h2, if_pos h2]; exact set_val hp
    rw [if_neg h2, if_neg h2]
    by_cases h3 : e.kind = 3
    · rw [if_pos h3, if_pos h3]; exact lit_val (g6 h3).1 hp
    rw [if_neg h3, if_neg h3]
    by_cases h4 : e.kind = 4
    · rw [if_pos h4, if_pos h4]
      obtain ⟨hlt, hlt'⟩ := findR_lt (hok.good.ref h4)
      obtain ⟨f, hf⟩ := getN (l := knOf rs) (i := (findR e.text rs 0).toNat) (by rw [knOf_len]; omega)
      have := hT.val p.toNat _ f (by omega) hf
      unfold refF
      rw [hf, Option.getD_some]
      rw [show ((p.toNat : Nat) : Int) = p by omega] at this
      exact this
    rw [if_neg h4, if_neg h4]
    by_cases h5 : e.kind = 5
    · rw [if_pos h5, if_pos h5, thenL_R]
      exact seq_val e.kids (by intro h; have := (g4 (.inl h5)).1; rw [h] at this; simp at this) hkid p hp hl
    rw [if_neg h5, if_neg h5]
    by_cases h6 : e.kind = 6
    · rw [if_pos h6, if_pos h6]
      exact alt_val hp e.kids (by intro h; have := (g4 (.inr h6)).1; rw [h] at this; simp at this) fun k hk => hkid k hk p hp hl
    rw [if_neg h6, if_neg h6]
    obtain ⟨k, hk⟩ := List.length_eq_one_iff.1 (g5 (by omega))
    have hkv := hkid k (by rw [hk]; simp)
    have hhd : hdE rs s E e.kids = endE rs s E k := by rw [hk]; funext q; rw [hdE]
    have hdf : hdF (e.kids.map (ofE rs (knOf rs))) = ofE rs (knOf rs) k := by rw [hk]; rfl
    rw [hhd, hdf]
    by_cases h7 : e.kind = 7
    · rw [if_pos h7, if_pos (.inl h7), show decide (e.kind = 8) = false by rw [h7]; rfl]
      exact star_first (hok.star hk (.inl h7)) hkv hp hl (Nat.le_refl _)
    rw [if_neg h7]
    by_cases h8 : e.kind = 8
    · rw [if_pos h8, if_pos (.inr h8), show decide (e.kind = 8) = true by rw [h8]; rfl]
      exact plus_first (hok.star hk (.inr h8)) hkv hp hl (Nat.le_refl _)
    rw [if_neg h8, if_neg (show ¬ (e.kind = 7 ∨ e.kind = 8) by omega)]
    exact one_val (k := e.kind) (by omega) hp (hkv p hp hl)
end Go.Proofs.Ytifkffmecfgpeaa.core
