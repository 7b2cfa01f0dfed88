/- Contracts of functions: what each answers at every input that its caller may hand it. No condition. -/
import Derived.Test.YtifkffmecfgpeaaCostX
namespace Go.Proofs.Ytifkffmecfgpeaa.core
open Go.Gx Go.RowKit Go.ChangeShapes Go.WideShapes Go.ChangeAt
/-! ### Steps -/

def cap (c : Nat) : Int := if (c : Int) < 2097152 then c else 2097152
/-- What the map holds: the costs of rules at places. -/
def KnownI (rs : List Ru) (s : List UInt8) (M : Mem) (r : Nat) : Prop := ∃ f, MapF M r f ∧ ∀ (i p : Int) v, f i p = some v → ∃ rr, 0 ≤ i ∧ 0 ≤ p ∧ p ≤ s.length ∧ rs[i.toNat]? = some rr ∧ v = .int .i64 (cap (costOf rs s rr.body p))
theorem KnownI.le {rs : List Ru} {s : List UInt8} {M M' : Mem} {r : Nat} (h : KnownI rs s M r) (hl : M.le M') : KnownI rs s M' r := by
  obtain ⟨f, h1, h2⟩ := h; exact ⟨f, h1.le hl, h2⟩
theorem KnownI.new (rs : List Ru) (s : List UInt8) (M : Mem) (r : Nat) : KnownI rs s (M.add r (.map #[] 0)) r := ⟨_, MapF.new M r, fun i p v h => by cases h⟩
theorem KnownI.set {rs : List Ru} {s : List UInt8} {M M' : Mem} {r : Nat} {i p : Int} {rr : Ru} (h : KnownI rs s M r) (hi : 0 ≤ i) (hp : 0 ≤ p) (hl : p ≤ s.length) (hr : rs[i.toNat]? = some rr) (hS : MapS M r i p (.int .i64 (cap (costOf rs s rr.body p))) M') : KnownI rs s M' r := by
  obtain ⟨f, h1, h2⟩ := h
  obtain ⟨o, _, _, h3⟩ := hS
  refine ⟨fun a b => if a = i ∧ b = p then some (.int .i64 (cap (costOf rs s rr.body p))) else f a b, h3 f _ h1 (by simp) (fun c d hcd => by rw [if_neg hcd]), fun a b v hv => ?_⟩
  dsimp only at hv
  split at hv
  · rename_i hab
    obtain ⟨rfl, rfl⟩ := hab
    cases hv
    exact ⟨rr, hi, hp, hl, hr, rfl⟩
  · exact h2 a b v hv
theorem cap_pos {a : Nat} (h : 1 ≤ a) : 0 < cap a ∧ cap a ≤ 2097152 := by unfold cap; split <;> omega
theorem cap_in (a : Nat) : 0 ≤ cap a ∧ cap a ≤ 2097152 := by unfold cap; split <;> omega

/-- Every kid that is tried comes ahead in the order. -/
theorem kid_all {rs : List Ru} {s : List UInt8} {E : Nat → Nat → Int} (hT : Tab rs s E) {e : Ex} (hok : PegOk rs e) {p : Int} (hp : 0 ≤ p) (hl : p ≤ s.length) : ∀ t ∈ kidK rs s E e p, 0 ≤ t.Kid ∧ t.At ≤ s.length ∧ ∃ k, e.kids[t.Kid.toNat]? = some k ∧ Tries rs e k p t.At := by
  obtain ⟨g1, g2, g3, g4, g5, g6, g7, g8⟩ := fitE_kinds hok.good.fit
  intro t ht
  unfold kidK at ht
  by_cases h5 : e.kind = 5
  · rw [if_pos h5] at ht
    have key : ∀ (ks : List Ex) (i : Nat) (q : Int), ks = e.kids.drop i → p ≤ q → q ≤ s.length → (q = p → ∀ j ∈ needsQ rs (knOf rs) (e.kids.drop i), j ∈ needsE rs (knOf rs) e) → ∀ t ∈ seqK (endE rs s E) ks i q, 0 ≤ t.Kid ∧ t.At ≤ s.length ∧ ∃ k, e.kids[t.Kid.toNat]? = some k ∧ Tries rs e k p t.At := by
      intro ks
      induction ks with
      | nil => intro i q _ _ _ _ t ht; rw [seqK] at ht; cases ht
      | cons k ks ih =>
        intro i q hks hq hql hn t ht
        have hi : e.kids[i]? = some k := by have := congrArg (fun l => l[0]?) hks; simpa using this.symm
        have hks' : ks = e.kids.drop (i + 1) := by rw [drop_get hi] at hks; exact (List.cons.inj hks).2
        obtain ⟨t1, t2⟩ := seq_tries hT hok h5 hp hl i q k hq hql hn hi
        rw [seqK] at ht
        rcases List.mem_cons.1 ht with rfl | ht
        · exact ⟨by simp, hql, k, by simpa using hi, t1⟩
        · split at ht
          · cases ht
          · obtain ⟨u1, u2, u3⟩ := t2 (by omega)
            exact ih (i + 1) _ hks' u1 u2 u3 t (by rw [show ((i + 1 : Nat) : Int) = (i : Int) + 1 by omega]; exact ht)
    exact key e.kids 0 p (by rw [List.drop_zero]) (Int.le_refl _) hl (fun _ j hj => by rw [needsE_eq, if_neg (by omega), if_pos h5]; exact hj) t ht
  rw [if_neg h5] at ht
  by_cases h6 : e.kind = 6
  · rw [if_pos h6] at ht
    have key : ∀ (ks : List Ex) (i : Nat), ks = e.kids.drop i → ∀ t ∈ altK (endE rs s E) ks i p, 0 ≤ t.Kid ∧ t.At ≤ s.length ∧ ∃ k, e.kids[t.Kid.toNat]? = some k ∧ Tries rs e k p t.At := by
      intro ks
      induction ks with
      | nil => intro i _ t ht; rw [altK] at ht; cases ht
      | cons k ks ih =>
        intro i hks t ht
        have hi : e.kids[i]? = some k := by have := congrArg (fun l => l[0]?) hks; simpa using this.symm
        have hks' : ks = e.kids.drop (i + 1) := by rw [drop_get hi] at hks; exact (List.cons.inj hks).2
        rw [altK] at ht
        rcases List.mem_cons.1 ht with rfl | ht
        · exact ⟨by simp, hl, k, by simpa using hi, kid_tries (List.mem_of_getElem? hi) (by omega) h5 (Int.le_refl _)⟩
        · split at ht
          · exact ih (i + 1) hks' t (by rw [show ((i + 1 : Nat) : Int) = (i : Int) + 1 by omega]; exact ht)
          · cases ht
    exact key e.kids 0 (by rw [List.drop_zero]) t ht
  rw [if_neg h6] at ht
  by_cases h7 : e.kind = 7 ∨ e.kind = 8
  · rw [if_pos h7] at ht
    obtain ⟨k, hk1⟩ := List.length_eq_one_iff.1 (g5 (by omega))
    have hkm : k ∈ e.kids := by rw [hk1]; simp
    have hhd : hdE rs s E e.kids = endE rs s E k := by rw [hk1]; funext q; rw [hdE]
    rw [hhd] at ht
    have key : ∀ (m : Nat) (q : Int), q < 0 ∨ (p ≤ q ∧ q ≤ s.length) → ∀ t ∈ staK (endE rs s E k) m q, 0 ≤ t.Kid ∧ t.At ≤ s.length ∧ ∃ k, e.kids[t.Kid.toNat]? = some k ∧ Tries rs e k p t.At := by
      intro m
      induction m with
      | zero => intro q _ t ht; rw [staK] at ht; cases ht
      | succ m ih =>
        intro q hq t ht
        rw [staK] at ht
        split at ht
        · cases ht
        · rcases List.mem_cons.1 ht with rfl | ht
          · exact ⟨by simp, by dsimp only; omega, k, by rw [hk1]; rfl, kid_tries hkm (by omega) h5 (by dsimp only; omega)⟩
          · exact ih _ (by rcases hT.res (hok.kid hkm) (p := q) (by omega) (by omega) with h | h <;> omega) t ht
    exact key _ p (.inr ⟨Int.le_refl _, hl⟩) t ht
  rw [if_neg h7] at ht
  split at ht
  · simp only [List.mem_singleton] at ht
    subst ht
    obtain ⟨k, hk1⟩ := List.length_eq_one_iff.1 (g5 (by omega))
    exact ⟨by simp, hl, k, by rw [hk1]; rfl, kid_tries (by rw [hk1]; simp) (by omega) h5 (Int.le_refl _)⟩
  · cases ht
end Go.Proofs.Ytifkffmecfgpeaa.core
