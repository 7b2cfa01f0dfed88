/- Contracts of functions: what each answers at every input that its caller may hand it. No condition. -/
import Derived.Test.YtifkffmecfgpeaaPegX
namespace Go.Proofs.Ytifkffmecfgpeaa.core
open Go.Gx Go.RowKit Go.ChangeShapes Go.WideShapes Go.ChangeAt
/-! ### More of the table is known, and no less is matched -/

def TabLe (E E' : Nat → Nat → Int) : Prop := ∀ p i, E p i = -2 ∨ E' p i = E p i

theorem strE_mono {f g : Int → Int} (h : ∀ p, f p ≠ -2 → g p = f p) {q : Bool} : ∀ (m : Nat) (p : Int) (fi : Bool), strE f q m p fi ≠ -2 → strE g q m p fi = strE f q m p fi
  | 0, _, _, _ => rfl
  | m + 1, p, fi, hne => by
    rw [strE] at hne
    by_cases h2 : f p = -2
    · rw [if_pos (.inl h2)] at hne; exact absurd h2 hne
    · rw [strE, strE, h p h2]
      split
      · rfl
      · rename_i h1
        rw [if_neg h1] at hne
        split
        · rfl
        · rename_i h3
          rw [if_neg h3] at hne
          exact strE_mono h m _ _ hne

mutual
theorem end_mono {rs : List Ru} {s : List UInt8} {E E' : Nat → Nat → Int} (h : TabLe E E') : ∀ (e : Ex) (p : Int), endE rs s E e p ≠ -2 → endE rs s E' e p = endE rs s E e p
  | .mk k t x ks, p => by
    rw [endE, endE]
    intro hne
    by_cases h1 : k = 1
    · rw [if_pos h1, if_pos h1]
    rw [if_neg h1] at hne
    rw [if_neg h1, if_neg h1]
    by_cases h2 : k = 2
    · rw [if_pos h2, if_pos h2]
    rw [if_neg h2] at hne
    rw [if_neg h2, if_neg h2]
    by_cases h3 : k = 3
    · rw [if_pos h3, if_pos h3]
    rw [if_neg h3] at hne
    rw [if_neg h3, if_neg h3]
    by_cases h4 : k = 4
    · rw [if_pos h4] at hne
      rw [if_pos h4, if_pos h4]
      rcases h p.toNat (findR x rs 0).toNat with h' | h'
      · exact absurd h' hne
      · exact h'
    rw [if_neg h4] at hne
    rw [if_neg h4, if_neg h4]
    by_cases h5 : k = 5
    · rw [if_pos h5] at hne
      rw [if_pos h5, if_pos h5]; exact seq_mono h ks p hne
    rw [if_neg h5] at hne
    rw [if_neg h5, if_neg h5]
    by_cases h6 : k = 6
    · rw [if_pos h6] at hne
      rw [if_pos h6, if_pos h6]; exact alt_mono h ks p hne
    rw [if_neg h6] at hne
    rw [if_neg h6, if_neg h6]
    by_cases h7 : k = 7 ∨ k = 8
    · rw [if_pos h7] at hne
      rw [if_pos h7, if_pos h7]; exact strE_mono (fun q hq => hd_mono h ks q hq) _ _ _ hne
    rw [if_neg h7] at hne
    rw [if_neg h7, if_neg h7]
    by_cases h8 : hdE rs s E ks p = -2
    · rw [h8] at hne; exact absurd (by simp [oneE]) hne
    · rw [hd_mono h ks p h8]
theorem seq_mono {rs : List Ru} {s : List UInt8} {E E' : Nat → Nat → Int} (h : TabLe E E') : ∀ (ks : List Ex) (p : Int), seqE rs s E ks p ≠ -2 → seqE rs s E' ks p = seqE rs s E ks p
  | [], _, _ => rfl
  | k :: ks, p, hne => by
    rw [seqE] at hne
    have hk : endE rs s E k p ≠ -2 := fun e => by rw [e] at hne; exact hne (by simp)
    rw [seqE, seqE, end_mono h k p hk]
    split
    · rfl
    · rename_i h1
      rw [if_neg h1] at hne
      exact seq_mono h ks _ hne
theorem alt_mono {rs : List Ru} {s : List UInt8} {E E' : Nat → Nat → Int} (h : TabLe E E') : ∀ (ks : List Ex) (p : Int), altE rs s E ks p ≠ -2 → altE rs s E' ks p = altE rs s E ks p
  | [], _, _ => rfl
  | k :: ks, p, hne => by
    rw [altE] at hne
    have hk : endE rs s E k p ≠ -2 := fun e => by rw [e] at hne; exact hne (by simp)
    rw [altE, altE, end_mono h k p hk]
    split
    · rfl
    · rename_i h1
      rw [if_neg h1] at hne
      exact alt_mono h ks _ hne
theorem hd_mono {rs : List Ru} {s : List UInt8} {E E' : Nat → Nat → Int} (h : TabLe E E') : ∀ (ks : List Ex) (p : Int), hdE rs s E ks p ≠ -2 → hdE rs s E' ks p = hdE rs s E ks p
  | [], _, _ => by rw [hdE, hdE]
  | k :: ks, p, hne => by
    rw [hdE] at hne
    rw [hdE, hdE]; exact end_mono h k p hne
end

/-! #### What must be known -/

/-- All rules are known at the places behind p. -/
def Behind (rs : List Ru) (n : Nat) (E : Nat → Nat → Int) (p : Int) : Prop := ∀ q : Nat, p < q → q ≤ n → ∀ i, i < rs.length → E q i ≠ -2
theorem Behind.more {rs : List Ru} {n : Nat} {E : Nat → Nat → Int} {p q : Int} (h : Behind rs n E p) (hq : p ≤ q) : Behind rs n E q := fun x hx => h x (by omega)

theorem str_known {n : Nat} {a : Fa} {f : Int → Int} {b : Bool} (he : a.Empty = false) : ∀ (m : Nat) (p : Int) (fi : Bool), 0 ≤ p → p ≤ n → n + 1 ≤ p + m → (∀ q : Int, p ≤ q → q ≤ n → Val n a q (f q) ∧ f q ≠ -2) → strE f b m p fi ≠ -2
  | 0, p, fi, hp, hn, hm, _ => by omega
  | m + 1, p, fi, hp, hn, hm, h => by
    obtain ⟨hv, h2⟩ := h p (Int.le_refl _) hn
    rw [strE]
    split
    · exact h2
    · split
      · omega
      · have hgt : p < f p ∧ f p ≤ n := by
          rcases hv with h' | ⟨h', _⟩ | ⟨_, e'⟩ | h'
          · omega
          · omega
          · rw [he] at e'; cases e'
          · exact ⟨h'.1, h'.2.1⟩
        exact str_known he m (f p) false (by omega) hgt.2 (by omega) fun q hq hqn => h q (by omega) hqn

theorem end_known {rs : List Ru} {s : List UInt8} {E : Nat → Nat → Int} (hT : TabOk rs s.length E) : ∀ (n : Nat) (e : Ex), SizeOf.sizeOf e < n → PegOk rs e → ∀ p : Int, 0 ≤ p → p ≤ s.length → Behind rs s.length E p → (∀ j ∈ needsE rs (knOf rs) e, E p.toNat j ≠ -2) → endE rs s E e p ≠ -2 := by
  intro n
  induction n with
  | zero => intro e h; omega
  | succ n ih =>
    intro e hn hok p hp hl hB hN
    obtain ⟨g1, g2, g3, g4, g5, g6, g7, g8⟩ := fitE_kinds hok.good.fit
    have hval : ∀ k ∈ e.kids, ∀ p : Int, 0 ≤ p → p ≤ s.length → Val s.length (ofE rs (knOf rs) k) p (endE rs s E k p) := fun k hk => end_val hT _ k (Nat.lt_succ_self _) (hok.kid hk)
    have hlater : ∀ k ∈ e.kids, ∀ q : Int, p < q → q ≤ s.length → endE rs s E k q ≠ -2 := fun k hk q hq hql => ih k (by have := Ex.kid_lt hk; omega) (hok.kid hk) q (by omega) hql (hB.more (by omega)) fun j hj => hB q.toNat (by omega) (by omega) j (needsE_lt _ _ (hok.kid hk).good j hj)
    have hnow : ∀ k ∈ e.kids, (∀ j ∈ needsE rs (knOf rs) k, E p.toNat j ≠ -2) → endE rs s E k p ≠ -2 := fun k hk hj => ih k (by have := Ex.kid_lt hk; omega) (hok.kid hk) p hp hl hB hj
    rw [needsE_eq] at hN
    rw [endE_eq]
    by_cases h1 : e.kind = 1
    · rw [if_pos h1]; omega
    rw [if_neg h1]
    by_cases h2 : e.kind = 2
    · rw [if_pos h2]
      have := set_val (t := e.set) (s := s) hp
      rcases this.pos hp hl with h | h | h
      · unfold setE at h; split at h <;> (try split at h) <;> omega
      · omega
      · omega
    rw [if_neg h2]
    by_cases h3 : e.kind = 3
    · rw [if_pos h3]; unfold litE; split <;> omega
    rw [if_neg h3]
    by_cases h4 : e.kind = 4
    · rw [if_pos h4]
      rw [if_pos h4] at hN
      exact hN _ (by simp)
    rw [if_neg h4]
    rw [if_neg h4] at hN
    by_cases h5 : e.kind = 5
    · rw [if_pos h5]
      rw [if_pos h5] at hN
      have key : ∀ ks : List Ex, (∀ k ∈ ks, k ∈ e.kids) → ∀ q : Int, p ≤ q → q ≤ s.length → (q = p → ∀ j ∈ needsQ rs (knOf rs) ks, E p.toNat j ≠ -2) → seqE rs s E ks q ≠ -2 := by
        intro ks
        induction ks with
        | nil => intro _ q hq _ _; rw [seqE]; omega
        | cons k ks ihk =>
          intro hm q hq hql hj
          rw [seqE]
          have hkm := hm k (by simp)
          have hne : endE rs s E k q ≠ -2 := by
            by_cases hqp : q = p
            · subst hqp
              exact hnow k hkm fun j hjk => hj rfl j (by rw [needsQ]; exact List.mem_append_left _ hjk)
            · exact hlater k hkm q (by omega) hql
          have hv := hval k hkm q (by omega) hql
          split
          · exact hne
          · rename_i h0
            have hge : q ≤ endE rs s E k q ∧ endE rs s E k q ≤ s.length := by rcases hv.pos (by omega) hql with h | h | h <;> omega
            refine ihk (fun k' hk' => hm k' (by simp [hk'])) _ (by omega) hge.2 fun hep j hjk => ?_
            have hqp : q = p := by omega
            subst hqp
            have hem : (ofE rs (knOf rs) k).Empty = true := by
              rcases hv with h | ⟨h, _⟩ | ⟨_, h⟩ | ⟨h, _, _⟩
              · omega
              · omega
              · exact h
              · omega
            exact hj rfl j (by rw [needsQ, if_pos hem]; exact List.mem_append_right _ hjk)
      exact key e.kids (fun _ h => h) p (Int.le_refl _) hl fun _ => hN
    rw [if_neg h5]
    rw [if_neg h5] at hN
    by_cases h6 : e.kind = 6
    · rw [if_pos h6]
      have key : ∀ ks : List Ex, (∀ k ∈ ks, k ∈ e.kids) → (∀ j ∈ needsA rs (knOf rs) ks, E p.toNat j ≠ -2) → altE rs s E ks p ≠ -2 := by
        intro ks
        induction ks with
        | nil => intro _ _; rw [altE]; omega
        | cons k ks ihk =>
          intro hm hj
          rw [altE]
          split
          · exact hnow k (hm k (by simp)) fun j hjk => hj j (by rw [needsA]; exact List.mem_append_left _ hjk)
          · exact ihk (fun k' hk' => hm k' (by simp [hk'])) fun j hjk => hj j (by rw [needsA]; exact List.mem_append_right _ hjk)
      exact key e.kids (fun _ h => h) hN
    rw [if_neg h6]
    obtain ⟨k, hk⟩ := List.length_eq_one_iff.1 (g5 (by omega))
    have hkm : k ∈ e.kids := by rw [hk]; simp
    have hhd : hdE rs s E e.kids = endE rs s E k := by rw [hk]; funext q; rw [hdE]
    have hk1 : endE rs s E k p ≠ -2 := hnow k hkm fun j hjk => hN j (by rw [hk, needsA]; exact List.mem_append_left _ hjk)
    rw [hhd]
    by_cases h7 : e.kind = 7 ∨ e.kind = 8
    · rw [if_pos h7]
      refine str_known (hok.star hk h7) _ p true hp hl (by omega) fun q hq hql => ⟨hval k hkm q (by omega) hql, ?_⟩
      by_cases hqp : q = p
      · subst hqp; exact hk1
      · exact hlater k hkm q (by omega) hql
    · rw [if_neg h7]
      unfold oneE
      rw [if_neg hk1]
      split
      · exact hk1
      · split <;> omega
end Go.Proofs.Ytifkffmecfgpeaa.core
