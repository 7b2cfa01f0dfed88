/- Contracts of functions: what each answers at every input that its caller may hand it. No condition. -/
import Derived.Test.YtifkffmecfgpeaaWellG
import Derived.Test.YtifkffmecfgpeaaGoodX
import Derived.Test.YtifkffmecfgpeaaFixX
namespace Go.Proofs.Ytifkffmecfgpeaa.core
open Go.Gx Go.RowKit Go.ChangeShapes Go.WideShapes Go.ChangeAt
/-! ### What may come of an expression -/

abbrev Fa := X_api_Facts
def fa0 : Fa := ⟨false, false, false⟩
def faThen (a b : Fa) : Fa := ⟨a.Empty && b.Empty, (a.Eats && (b.Empty || b.Eats)) || (a.Empty && b.Eats), a.Fails || ((a.Empty || a.Eats) && b.Fails)⟩
def faOr (a b : Fa) : Fa := ⟨a.Empty || (a.Fails && b.Empty), a.Eats || (a.Fails && b.Eats), a.Fails && b.Fails⟩
def faStar (f : Fa) : Fa := ⟨f.Fails, f.Eats, false⟩
def faAnd (f : Fa) : Fa := ⟨f.Empty || f.Eats, false, f.Fails⟩
def faNot (f : Fa) : Fa := ⟨f.Fails, false, f.Empty || f.Eats⟩
def faUni (a b : Fa) : Fa := ⟨a.Empty || b.Empty, a.Eats || b.Eats, a.Fails || b.Fails⟩

def thenL : List Fa → Fa
  | [] => fa0
  | a :: l => l.foldl faThen a
def thenR : List Fa → Fa
  | [] => fa0
  | [a] => a
  | a :: l => faThen a (thenR l)
def orL : List Fa → Fa
  | [] => fa0
  | [a] => a
  | a :: l => faOr a (orL l)
def hdF (l : List Fa) : Fa := l.headD fa0

theorem then_assoc : ∀ a b c : Fa, faThen (faThen a b) c = faThen a (faThen b c) := by
  rintro ⟨_ | _, _ | _, _ | _⟩ ⟨_ | _, _ | _, _ | _⟩ ⟨_ | _, _ | _, _ | _⟩ <;> rfl
theorem thenL_snoc {l : List Fa} (h : l ≠ []) (a : Fa) : thenL (l ++ [a]) = faThen (thenL l) a := by
  cases l with
  | nil => exact absurd rfl h
  | cons b r => simp [thenL]
theorem fold_then (a b : Fa) : ∀ l : List Fa, l.foldl faThen (faThen a b) = faThen a (l.foldl faThen b)
  | [] => rfl
  | c :: l => by rw [List.foldl_cons, List.foldl_cons, then_assoc, fold_then a (faThen b c) l]
theorem thenL_R : ∀ l : List Fa, thenL l = thenR l
  | [] => rfl
  | [a] => rfl
  | a :: b :: l => by
    have := thenL_R (b :: l)
    rw [thenR, ← this, thenL, thenL, List.foldl_cons, fold_then]
    simp

def opF (k : Int) (s : X_api_Set) (r : Fa) (l : List Fa) : Fa :=
  if k = 1 then ⟨true, false, false⟩ else if k = 2 then ⟨false, !zs s, true⟩ else if k = 3 then ⟨false, true, true⟩ else if k = 4 then r
  else if k = 5 then thenL l else if k = 6 then orL l else if k = 7 then faStar (hdF l) else if k = 8 then faThen (hdF l) (faStar (hdF l))
  else if k = 9 then faOr (hdF l) ⟨true, false, false⟩ else if k = 10 then faAnd (hdF l) else faNot (hdF l)
def refF (rs : List Ru) (kn : List Fa) (s : List UInt8) : Fa := (kn[(findR s rs 0).toNat]?).getD fa0

mutual
def ofE (rs : List Ru) (kn : List Fa) : Ex → Fa
  | .mk k s t ks => opF k s (refF rs kn t) (ofEs rs kn ks)
def ofEs (rs : List Ru) (kn : List Fa) : List Ex → List Fa
  | [] => []
  | k :: ks => ofE rs kn k :: ofEs rs kn ks
end
theorem ofEs_map (rs : List Ru) (kn : List Fa) : ∀ ks, ofEs rs kn ks = ks.map (ofE rs kn)
  | [] => by rw [ofEs]; rfl
  | k :: ks => by rw [ofEs, ofEs_map rs kn ks]; rfl
theorem ofE_eq (rs : List Ru) (kn : List Fa) (e : Ex) : ofE rs kn e = opF e.kind e.set (refF rs kn e.text) (e.kids.map (ofE rs kn)) := by
  cases e; rw [ofE, ofEs_map]; rfl

/-! ### The order of facts -/

def faLe (a b : Fa) : Prop := (a.Empty = true → b.Empty = true) ∧ (a.Eats = true → b.Eats = true) ∧ (a.Fails = true → b.Fails = true)
def bit (b : Bool) : Nat := if b then 1 else 0
def faWt (a : Fa) : Nat := bit a.Empty + bit a.Eats + bit a.Fails
theorem faLat : Lat faLe faUni faWt 3 where
  refl := fun a => ⟨id, id, id⟩
  trans := fun h k => ⟨k.1 ∘ h.1, k.2.1 ∘ h.2.1, k.2.2 ∘ h.2.2⟩
  anti := by rintro ⟨_ | _, _ | _, _ | _⟩ ⟨_ | _, _ | _, _ | _⟩ <;> simp [faLe]
  left := by rintro ⟨_ | _, _ | _, _ | _⟩ ⟨_ | _, _ | _, _ | _⟩ <;> simp [faLe, faUni]
  right := by rintro ⟨_ | _, _ | _, _ | _⟩ ⟨_ | _, _ | _, _ | _⟩ <;> simp [faLe, faUni]
  least := by rintro ⟨_ | _, _ | _, _ | _⟩ ⟨_ | _, _ | _, _ | _⟩ ⟨_ | _, _ | _, _ | _⟩ <;> simp [faLe, faUni]
  mono := by rintro ⟨_ | _, _ | _, _ | _⟩ ⟨_ | _, _ | _, _ | _⟩ <;> simp [faLe, faWt, bit]
  strict := by rintro ⟨_ | _, _ | _, _ | _⟩ ⟨_ | _, _ | _, _ | _⟩ <;> simp [faLe, faWt, bit]
  bound := by rintro ⟨_ | _, _ | _, _ | _⟩ <;> simp [faWt, bit]

theorem then_mono : ∀ {a b c d : Fa}, faLe a c → faLe b d → faLe (faThen a b) (faThen c d) := by
  intro a b c d h k
  obtain ⟨h1, h2, h3⟩ := h
  obtain ⟨k1, k2, k3⟩ := k
  refine ⟨?_, ?_, ?_⟩ <;> simp only [faThen, Bool.and_eq_true, Bool.or_eq_true]
  · exact fun ⟨p, q⟩ => ⟨h1 p, k1 q⟩
  · rintro (⟨p, q⟩ | ⟨p, q⟩)
    · exact .inl ⟨h2 p, q.imp k1 k2⟩
    · exact .inr ⟨h1 p, k2 q⟩
  · rintro (p | ⟨p, q⟩)
    · exact .inl (h3 p)
    · exact .inr ⟨p.imp h1 h2, k3 q⟩
theorem or_mono : ∀ {a b c d : Fa}, faLe a c → faLe b d → faLe (faOr a b) (faOr c d) := by
  intro a b c d h k
  obtain ⟨h1, h2, h3⟩ := h
  obtain ⟨k1, k2, k3⟩ := k
  refine ⟨?_, ?_, ?_⟩ <;> simp only [faOr, Bool.and_eq_true, Bool.or_eq_true]
  · exact fun p => p.imp h1 fun ⟨p, q⟩ => ⟨h3 p, k1 q⟩
  · exact fun p => p.imp h2 fun ⟨p, q⟩ => ⟨h3 p, k2 q⟩
  · exact fun ⟨p, q⟩ => ⟨h3 p, k3 q⟩
theorem star_mono : ∀ {a c : Fa}, faLe a c → faLe (faStar a) (faStar c) := fun h => ⟨h.2.2, h.2.1, id⟩
theorem and_mono : ∀ {a c : Fa}, faLe a c → faLe (faAnd a) (faAnd c) := fun h => ⟨by simp only [faAnd, Bool.or_eq_true]; exact fun p => p.imp h.1 h.2.1, id, h.2.2⟩
theorem not_mono : ∀ {a c : Fa}, faLe a c → faLe (faNot a) (faNot c) := fun h => ⟨h.2.2, id, by simp only [faNot, Bool.or_eq_true]; exact fun p => p.imp h.1 h.2.1⟩
theorem thenR_mono : ∀ {l k : List Fa}, leL faLe l k → faLe (thenR l) (thenR k)
  | [], k, h => by have := h.1; have : k = [] := List.eq_nil_of_length_eq_zero (by simpa using this.symm); subst this; exact faLat.refl _
  | [a], k, h => by
    obtain ⟨b, rfl⟩ : ∃ b, k = [b] := List.length_eq_one_iff.1 (by simpa using h.1.symm)
    exact h.2 0 a b rfl rfl
  | a :: x :: l, k, h => by
    obtain ⟨b, k, rfl⟩ : ∃ b k', k = b :: k' := by cases k with | nil => have := h.1; simp at this | cons b k => exact ⟨b, k, rfl⟩
    have ht : leL faLe (x :: l) k := ⟨by simpa using h.1, fun i p q hp hq => h.2 (i + 1) p q (by simpa using hp) (by simpa using hq)⟩
    cases k with
    | nil => have := ht.1; simp at this
    | cons y k =>
      simp only [thenR]
      exact then_mono (h.2 0 a b rfl rfl) (thenR_mono ht)
theorem orL_mono : ∀ {l k : List Fa}, leL faLe l k → faLe (orL l) (orL k)
  | [], k, h => by have := h.1; have : k = [] := List.eq_nil_of_length_eq_zero (by simpa using this.symm); subst this; exact faLat.refl _
  | [a], k, h => by
    obtain ⟨b, rfl⟩ : ∃ b, k = [b] := List.length_eq_one_iff.1 (by simpa using h.1.symm)
    exact h.2 0 a b rfl rfl
  | a :: x :: l, k, h => by
    obtain ⟨b, k, rfl⟩ : ∃ b k', k = b :: k' := by cases k with | nil => have := h.1; simp at this | cons b k => exact ⟨b, k, rfl⟩
    have ht : leL faLe (x :: l) k := ⟨by simpa using h.1, fun i p q hp hq => h.2 (i + 1) p q (by simpa using hp) (by simpa using hq)⟩
    cases k with
    | nil => have := ht.1; simp at this
    | cons y k =>
      simp only [orL]
      exact or_mono (h.2 0 a b rfl rfl) (orL_mono ht)
theorem hdF_mono {l k : List Fa} (h : leL faLe l k) : faLe (hdF l) (hdF k) := by
  cases l with
  | nil => have := h.1; have : k = [] := List.eq_nil_of_length_eq_zero (by simpa using this.symm); subst this; exact faLat.refl _
  | cons a l => cases k with
    | nil => have := h.1; simp at this
    | cons b k => exact h.2 0 a b rfl rfl
theorem opF_mono {k : Int} {s : X_api_Set} {r r' : Fa} {l l' : List Fa} (hr : faLe r r') (hl : leL faLe l l') : faLe (opF k s r l) (opF k s r' l') := by
  have h1 := hdF_mono hl
  unfold opF
  split; · exact faLat.refl _
  split; · exact faLat.refl _
  split; · exact faLat.refl _
  split; · exact hr
  split; · rw [thenL_R, thenL_R]; exact thenR_mono hl
  split; · exact orL_mono hl
  split; · exact star_mono h1
  split; · exact then_mono h1 (star_mono h1)
  split; · exact or_mono h1 (faLat.refl _)
  split; · exact and_mono h1
  exact not_mono h1

theorem refF_mono {rs : List Ru} {kn z : List Fa} (h : leL faLe kn z) (s : List UInt8) : faLe (refF rs kn s) (refF rs z s) := by
  unfold refF
  by_cases hi : (findR s rs 0).toNat < kn.length
  · obtain ⟨a, ha⟩ := getN hi
    obtain ⟨b, hb⟩ := getN (l := z) (i := (findR s rs 0).toNat) (by have := h.1; omega)
    rw [ha, hb]; exact h.2 _ _ _ ha hb
  · rw [List.getElem?_eq_none (by omega), List.getElem?_eq_none (by have := h.1; omega)]; exact faLat.refl _

theorem ofE_mono {rs : List Ru} {kn z : List Fa} (h : leL faLe kn z) (e : Ex) : faLe (ofE rs kn e) (ofE rs z e) := by
  induction hn : SizeOf.sizeOf e using Nat.strongRecOn generalizing e with
  | _ n ih =>
    subst hn
    rw [ofE_eq, ofE_eq]
    refine opF_mono (refF_mono h _) ⟨by simp, fun i a b ha hb => ?_⟩
    rw [List.getElem?_map] at ha hb
    cases hk : e.kids[i]? with
    | none => rw [hk] at ha; cases ha
    | some k =>
      rw [hk] at ha hb
      simp only [Option.map_some, Option.some.injEq] at ha hb
      subst ha hb
      exact ih _ (Ex.kid_lt (List.mem_of_getElem? hk)) k rfl

/-- One rule's facts, out of what is known. -/
def Fof (rs : List Ru) (kn : List Fa) (i : Nat) : Fa := match rs[i]? with
  | some r => ofE rs kn r.body
  | none => fa0
theorem Fof_mono (rs : List Ru) (n : Nat) : MonoF faLe (Fof rs) n := fun kn z i _ _ h => by
  unfold Fof
  split
  · exact ofE_mono h _
  · exact faLat.refl _

/-! ### The program's -/

theorem Xf_len (x : Fa) : x.cells.length = 3 := rfl
set_option maxHeartbeats 1000000 in
theorem then_is (a b : Fa) (M : Mem) (K : Value → Prop) (h : K (faThen a b).val) : S_well_then a b M K := by
  obtain ⟨a1, a2, a3⟩ := a
  obtain ⟨b1, b2, b3⟩ := b
  cases a1 <;> cases a2 <;> cases a3 <;> cases b1 <;> cases b2 <;> cases b3 <;> simp only [S_well_then, faThen, Bool.and_true, Bool.and_false, Bool.true_and, Bool.false_and, Bool.or_true, Bool.or_false, Bool.true_or, Bool.false_or, true_implies, not_true_eq_false, not_false_eq_true, false_implies, reduceCtorEq, and_true, true_and, and_self] at h ⊢ <;> exact h
set_option maxHeartbeats 1000000 in
theorem or_is (a b : Fa) (M : Mem) (K : Value → Prop) (h : K (faOr a b).val) : S_well_or a b M K := by
  obtain ⟨a1, a2, a3⟩ := a
  obtain ⟨b1, b2, b3⟩ := b
  cases a1 <;> cases a2 <;> cases a3 <;> cases b1 <;> cases b2 <;> cases b3 <;> simp only [S_well_or, faOr, Bool.and_true, Bool.and_false, Bool.true_and, Bool.false_and, Bool.or_true, Bool.or_false, Bool.true_or, Bool.false_or, true_implies, not_true_eq_false, not_false_eq_true, false_implies, reduceCtorEq, and_true, true_and, and_self] at h ⊢ <;> exact h
end Go.Proofs.Ytifkffmecfgpeaa.core
