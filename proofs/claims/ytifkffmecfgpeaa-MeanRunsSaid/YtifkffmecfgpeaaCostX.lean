/- Contracts of functions: what each answers at every input that its caller may hand it. No condition. -/
import Derived.Test.YtifkffmecfgpeaaKidsX
namespace Go.Proofs.Ytifkffmecfgpeaa.core
open Go.Gx Go.RowKit Go.ChangeShapes Go.WideShapes Go.ChangeAt
/-! ### What an expression costs -/

/-- The steps of e at p. -/
noncomputable def costOf (rs : List Ru) (s : List UInt8) (e : Ex) (p : Int) : Nat := @dite _ (∃ m x, ev rs s m e p = some x) (Classical.propDecidable _) (fun h => (Classical.choose (Classical.choose_spec h)).2) fun _ => 0
theorem cost_eq {rs : List Ru} {s : List UInt8} {m : Nat} {e : Ex} {p : Int} {x : Int × Nat} (h : ev rs s m e p = some x) : costOf rs s e p = x.2 := by
  have hex : ∃ m x, ev rs s m e p = some x := ⟨m, x, h⟩
  unfold costOf
  rw [dif_pos hex]
  exact congrArg Prod.snd (ev_same (Classical.choose_spec (Classical.choose_spec hex)) h)
noncomputable def trC (rs : List Ru) (s : List UInt8) (L : List Ex) (t : Tr) : Nat := match L[t.Kid.toNat]? with
  | some k => costOf rs s k t.At
  | none => 0
noncomputable def sumK (rs : List Ru) (s : List UInt8) (L : List Ex) (l : List Tr) : Nat := (l.map (trC rs s L)).sum
theorem trC_at {rs : List Ru} {s : List UInt8} {L : List Ex} {i : Nat} {k : Ex} {q : Int} (h : L[i]? = some k) : trC rs s L ⟨i, q⟩ = costOf rs s k q := by
  unfold trC
  rw [Int.toNat_natCast, h]

section
variable {rs : List Ru} {s : List UInt8} {E : Nat → Nat → Int} {m : Nat}
theorem seq_cost {L : List Ex} (hf : ∀ k ∈ L, ∀ (q : Int) y, 0 ≤ q → q ≤ s.length → ev rs s m k q = some y → y.1 = endE rs s E k q ∧ (y.1 < 0 ∨ y.1 ≤ s.length)) : ∀ (ks : List Ex) (i : Nat) (q : Int) x, ks = L.drop i → 0 ≤ q → q ≤ s.length → seqV (ev rs s m) ks q = some x → x.2 = sumK rs s L (seqK (endE rs s E) ks i q)
  | [], _, _, _, _, _, _, h => by rw [seqV] at h; cases h; rw [seqK]; rfl
  | k :: ks, i, q, x, hks, hq, hl, h => by
    have hi : L[i]? = some k := by have := congrArg (fun l => l[0]?) hks; simpa using this.symm
    have hks' : ks = L.drop (i + 1) := by rw [drop_get hi] at hks; exact (List.cons.inj hks).2
    rw [seqV] at h
    obtain ⟨y, hy, h⟩ := Option.bind_eq_some_iff.1 h
    obtain ⟨h1, h2⟩ := hf k (List.mem_of_getElem? hi) q y hq hl hy
    rw [seqK, ← h1]
    unfold sumK
    rw [List.map_cons, List.sum_cons, trC_at hi, cost_eq hy]
    split at h
    · rename_i h0; cases h; rw [if_pos h0]; simp
    · rename_i h0
      rw [if_neg h0]
      obtain ⟨z, hz, rfl⟩ := Option.map_eq_some_iff.1 h
      have := seq_cost hf ks (i + 1) y.1 z hks' (by omega) (by omega) hz
      unfold sumK at this
      rw [show ((i : Int) + 1) = ((i + 1 : Nat) : Int) by omega, ← this]
theorem alt_cost {L : List Ex} {q : Int} (hf : ∀ k ∈ L, ∀ y, ev rs s m k q = some y → y.1 = endE rs s E k q ∧ (y.1 = -1 ∨ 0 ≤ y.1)) : ∀ (ks : List Ex) (i : Nat) x, ks = L.drop i → altV (ev rs s m) ks q = some x → x.2 = sumK rs s L (altK (endE rs s E) ks i q)
  | [], _, _, _, h => by rw [altV] at h; cases h; rw [altK]; rfl
  | k :: ks, i, x, hks, h => by
    have hi : L[i]? = some k := by have := congrArg (fun l => l[0]?) hks; simpa using this.symm
    have hks' : ks = L.drop (i + 1) := by rw [drop_get hi] at hks; exact (List.cons.inj hks).2
    rw [altV] at h
    obtain ⟨y, hy, h⟩ := Option.bind_eq_some_iff.1 h
    obtain ⟨h1, h2⟩ := hf k (List.mem_of_getElem? hi) y hy
    rw [altK, ← h1]
    unfold sumK
    rw [List.map_cons, List.sum_cons, trC_at hi, cost_eq hy]
    split at h
    · rename_i h0; cases h; rw [if_neg (by omega)]; simp
    · rename_i h0
      rw [if_pos (by omega)]
      obtain ⟨z, hz, rfl⟩ := Option.map_eq_some_iff.1 h
      have := alt_cost hf ks (i + 1) z hks' hz
      unfold sumK at this
      rw [show ((i : Int) + 1) = ((i + 1 : Nat) : Int) by omega, ← this]
theorem sta_cost {L : List Ex} {k : Ex} (hL : L[0]? = some k) {b : Bool} (hf : ∀ (q : Int) y, 0 ≤ q → q ≤ s.length → ev rs s m k q = some y → y.1 = endE rs s E k q ∧ (y.1 < 0 ∨ y.1 ≤ s.length)) : ∀ (n n' : Nat) (q : Int) fi x, 0 ≤ q → q ≤ s.length → n + 1 ≤ n' → staV (ev rs s m k) b n q fi = some x → x.2 = sumK rs s L (staK (endE rs s E k) n' q)
  | 0, _, _, _, _, _, _, _, h => by rw [staV] at h; cases h
  | n + 1, 0, _, _, _, _, _, h, _ => by omega
  | n + 1, n' + 1, q, fi, x, hq, hl, hn, h => by
    rw [staV] at h
    obtain ⟨y, hy, h⟩ := Option.bind_eq_some_iff.1 h
    obtain ⟨h1, h2⟩ := hf q y hq hl hy
    rw [staK, if_neg (by omega), ← h1]
    unfold sumK
    rw [List.map_cons, List.sum_cons]
    have h0' : trC rs s L ⟨0, q⟩ = y.2 := by
      have := trC_at (rs := rs) (s := s) (q := q) hL
      rw [← cost_eq hy]; exact this
    rw [h0']
    split at h
    · rename_i h0
      cases h
      have : staK (endE rs s E k) n' y.1 = [] := by
        cases n' with
        | zero => rfl
        | succ n' => rw [staK, if_pos h0]
      rw [this]; simp
    · rename_i h0
      obtain ⟨z, hz, rfl⟩ := Option.map_eq_some_iff.1 h
      have := sta_cost hL hf n n' y.1 false z (by omega) (by omega) (by omega) hz
      unfold sumK at this
      rw [← this]

/-- What e costs at p: one, what it refers to, and its kids. -/
theorem cost_is (hw : WellOk rs) (hT : Tab rs s E) {e : Ex} {p : Int} (hok : PegOk rs e) (hp : 0 ≤ p) (hl : p ≤ s.length) :
    costOf rs s e p = 1 + (if e.kind = 4 then (match rs[(findR e.text rs 0).toNat]? with | some r => costOf rs s r.body p | none => 0) else 0) + sumK rs s e.kids (kidK rs s E e p) := by
  obtain ⟨m, x, hx⟩ := ev_ex hw hT e p hok hp hl
  rw [cost_eq hx]
  cases m with
  | zero => rw [ev] at hx; cases hx
  | succ m =>
    rw [ev] at hx
    obtain ⟨y, hy, rfl⟩ := Option.map_eq_some_iff.1 hx
    obtain ⟨g1, g2, g3, g4, g5, g6, g7, g8⟩ := fitE_kinds hok.good.fit
    have hf : ∀ k ∈ e.kids, ∀ (q : Int) y, 0 ≤ q → q ≤ s.length → ev rs s m k q = some y → y.1 = endE rs s E k q ∧ (y.1 = -1 ∨ (0 ≤ y.1 ∧ y.1 ≤ s.length)) := fun k hk q y h1 h2 h3 => by
      have h4 := ev_res hw hT m k q y (hok.kid hk) h1 h2 h3
      refine ⟨h4, ?_⟩
      rw [h4]
      rcases hT.res (hok.kid hk) h1 h2 with h | h <;> omega
    show y.2 + 1 = _
    unfold kidK
    by_cases h4 : e.kind = 4
    · rw [if_pos h4, if_neg (by omega), if_neg (by omega), if_neg (show ¬ (e.kind = 7 ∨ e.kind = 8) by omega), if_neg (by omega)]
      rw [if_neg (by omega), if_neg (by omega), if_neg (by omega), if_pos h4] at hy
      obtain ⟨r, hr, hy⟩ := Option.bind_eq_some_iff.1 hy
      rw [hr]
      simp only [cost_eq hy, sumK, List.map_nil, List.sum_nil]; omega
    rw [if_neg h4]
    by_cases hs : e.kind ≤ 3
    · rw [if_neg (by omega), if_neg (by omega), if_neg (show ¬ (e.kind = 7 ∨ e.kind = 8) by omega), if_neg (by omega)]
      have : y.2 = 0 := by
        split at hy
        · cases hy; rfl
        · split at hy
          · cases hy; rfl
          · rw [if_pos (by omega)] at hy; cases hy; rfl
      rw [this]; rfl
    rw [if_neg (by omega), if_neg (by omega), if_neg (by omega), if_neg h4] at hy
    by_cases h5 : e.kind = 5
    · rw [if_pos h5] at hy ⊢
      have := seq_cost (i := 0) (fun k hk q y h1 h2 h3 => ⟨(hf k hk q y h1 h2 h3).1, by rcases (hf k hk q y h1 h2 h3).2 with h | h <;> omega⟩) e.kids p y (by rw [List.drop_zero]) hp hl hy
      rw [this]; simp; omega
    rw [if_neg h5] at hy ⊢
    by_cases h6 : e.kind = 6
    · rw [if_pos h6] at hy ⊢
      have := alt_cost (i := 0) (fun k hk y h3 => ⟨(hf k hk p y hp hl h3).1, by rcases (hf k hk p y hp hl h3).2 with h | h <;> omega⟩) e.kids y (by rw [List.drop_zero]) hy
      rw [this]; simp; omega
    rw [if_neg h6] at hy ⊢
    obtain ⟨k, hk1⟩ := List.length_eq_one_iff.1 (g5 (by omega))
    have hk : e.kids[0]? = some k := by rw [hk1]; rfl
    have hkm : k ∈ e.kids := by rw [hk1]; simp
    have hhd : hdE rs s E e.kids = endE rs s E k := by rw [hk1]; funext q; rw [hdE]
    have hhv : hdV (ev rs s m) e.kids = ev rs s m k := by rw [hk1]; funext q; rw [hdV]
    rw [hhv] at hy
    by_cases h7 : e.kind = 7 ∨ e.kind = 8
    · rw [if_pos h7] at hy ⊢
      rw [hhd]
      have := sta_cost (L := e.kids) hk (fun q y h1 h2 h3 => ⟨(hf k hkm q y h1 h2 h3).1, by rcases (hf k hkm q y h1 h2 h3).2 with h | h <;> omega⟩) (s.length + 2) (s.length + 3) p true y hp hl (by omega) hy
      rw [this]; omega
    rw [if_neg h7] at hy ⊢
    obtain ⟨z, hz, rfl⟩ := Option.map_eq_some_iff.1 hy
    rw [if_pos (by omega)]
    have h0' : trC rs s e.kids ⟨0, p⟩ = z.2 := by
      have := trC_at (rs := rs) (s := s) (q := p) hk
      rw [← cost_eq hz]; exact this
    simp only [sumK, List.map_cons, List.map_nil, List.sum_cons, List.sum_nil, h0']; omega
end
end Go.Proofs.Ytifkffmecfgpeaa.core
