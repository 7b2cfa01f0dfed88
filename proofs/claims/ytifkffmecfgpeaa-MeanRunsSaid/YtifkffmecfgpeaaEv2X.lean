/- Contracts of functions: what each answers at every input that its caller may hand it. No condition. -/
import Derived.Test.YtifkffmecfgpeaaEvX
namespace Go.Proofs.Ytifkffmecfgpeaa.core
open Go.Gx Go.RowKit Go.ChangeShapes Go.WideShapes Go.ChangeAt
/-! ### The steps end where the table says -/

section
variable {rs : List Ru} {s : List UInt8} {E : Nat → Nat → Int}

theorem seqV_res {f : Ex → Int → Rc} : ∀ (ks : List Ex) (p : Int) x, (∀ k ∈ ks, ∀ (q : Int) y, 0 ≤ q → q ≤ s.length → f k q = some y → y.1 = endE rs s E k q ∧ (y.1 < 0 ∨ y.1 ≤ s.length)) → 0 ≤ p → p ≤ s.length → seqV f ks p = some x → x.1 = seqE rs s E ks p
  | [], _, _, _, _, _, h => by rw [seqV] at h; cases h; rw [seqE]
  | k :: ks, p, x, hf, hp, hl, h => by
    rw [seqV] at h
    obtain ⟨y, hy, h⟩ := Option.bind_eq_some_iff.1 h
    obtain ⟨h1, h2⟩ := hf k (by simp) p y hp hl hy
    rw [seqE, ← h1]
    split at h
    · rename_i h0; cases h; rw [if_pos h0]
    · rename_i h0
      rw [if_neg h0]
      obtain ⟨z, hz, rfl⟩ := Option.map_eq_some_iff.1 h
      exact seqV_res ks y.1 z (fun k' hk' => hf k' (by simp [hk'])) (by omega) (by omega) hz
theorem altV_res {f : Ex → Int → Rc} {p : Int} : ∀ (ks : List Ex) x, (∀ k ∈ ks, ∀ y, f k p = some y → y.1 = endE rs s E k p) → altV f ks p = some x → x.1 = altE rs s E ks p
  | [], _, _, h => by rw [altV] at h; cases h; rw [altE]
  | k :: ks, x, hf, h => by
    rw [altV] at h
    obtain ⟨y, hy, h⟩ := Option.bind_eq_some_iff.1 h
    have h1 := hf k (by simp) y hy
    rw [altE, ← h1]
    split at h
    · rename_i h0; cases h; rw [if_pos h0]
    · rename_i h0
      rw [if_neg h0]
      obtain ⟨z, hz, rfl⟩ := Option.map_eq_some_iff.1 h
      exact altV_res ks z (fun k' hk' => hf k' (by simp [hk'])) hz
theorem staV_res {f : Int → Rc} {g : Int → Int} {q : Bool} : ∀ (m : Nat) (p : Int) fi x, (∀ (r : Int) y, 0 ≤ r → r ≤ s.length → f r = some y → y.1 = g r ∧ g r ≠ -2 ∧ (y.1 < 0 ∨ y.1 ≤ s.length)) → 0 ≤ p → p ≤ s.length → staV f q m p fi = some x → x.1 = strE g q m p fi
  | 0, _, _, _, _, _, _, h => by rw [staV] at h; cases h
  | m + 1, p, fi, x, hf, hp, hl, h => by
    rw [staV] at h
    obtain ⟨y, hy, h⟩ := Option.bind_eq_some_iff.1 h
    obtain ⟨h1, h2, h3⟩ := hf p y hp hl hy
    rw [strE, ← h1]
    rw [← h1] at h2
    split at h
    · rename_i h0
      cases h
      by_cases hq : (fi && q) = true
      · rw [if_pos hq, if_pos (.inr ⟨h0, by simpa using hq⟩)]
      · rw [if_neg hq, if_neg (fun h => h.elim h2 fun h => hq (by simp [h.2.1, h.2.2])), if_pos h0]
    · rename_i h0
      rw [if_neg (fun h => h.elim h2 fun h => h0 h.1), if_neg h0]
      obtain ⟨z, hz, rfl⟩ := Option.map_eq_some_iff.1 h
      exact staV_res m y.1 false z hf (by omega) (by omega) hz

theorem ev_res (hw : WellOk rs) (hT : Tab rs s E) : ∀ (m : Nat) (e : Ex) (p : Int) x, PegOk rs e → 0 ≤ p → p ≤ s.length → ev rs s m e p = some x → x.1 = endE rs s E e p
  | 0, e, p, x, _, _, _, h => by rw [ev] at h; cases h
  | m + 1, e, p, x, hok, hp, hl, h => by
    have ih := ev_res hw hT m
    have hk : ∀ k ∈ e.kids, ∀ (q : Int) y, 0 ≤ q → q ≤ s.length → ev rs s m k q = some y → y.1 = endE rs s E k q ∧ (y.1 < 0 ∨ y.1 ≤ s.length) := fun k hk q y hq hql hy => by
      have h1 := ih k q y (hok.kid hk) hq hql hy
      refine ⟨h1, ?_⟩
      rw [h1]
      rcases hT.res (hok.kid hk) hq hql with h' | h' <;> omega
    rw [ev] at h
    obtain ⟨y, hy, rfl⟩ := Option.map_eq_some_iff.1 h
    rw [endE_eq]
    show y.1 = _
    by_cases h1 : e.kind = 1
    · rw [if_pos h1] at hy ⊢; cases hy; rfl
    rw [if_neg h1] at hy ⊢
    by_cases h2 : e.kind = 2
    · rw [if_pos h2] at hy ⊢; cases hy; rfl
    rw [if_neg h2] at hy ⊢
    by_cases h3 : e.kind = 3
    · rw [if_pos h3] at hy ⊢; cases hy; rfl
    rw [if_neg h3] at hy ⊢
    by_cases h4 : e.kind = 4
    · rw [if_pos h4] at hy ⊢
      obtain ⟨r, hr, hy⟩ := Option.bind_eq_some_iff.1 hy
      rw [ih r.body p y (hw.peg (List.mem_of_getElem? hr)) hp hl hy]
      have := hT.fix p.toNat _ r (by omega) hr
      rw [this, show ((p.toNat : Nat) : Int) = p by omega]
    rw [if_neg h4] at hy ⊢
    by_cases h5 : e.kind = 5
    · rw [if_pos h5] at hy ⊢; exact seqV_res _ _ _ hk hp hl hy
    rw [if_neg h5] at hy ⊢
    by_cases h6 : e.kind = 6
    · rw [if_pos h6] at hy ⊢; exact altV_res _ _ (fun k hkm y hy => (hk k hkm p y hp hl hy).1) hy
    rw [if_neg h6] at hy ⊢
    obtain ⟨g1, g2, g3, g4, g5, g6, g7, g8⟩ := fitE_kinds hok.good.fit
    obtain ⟨k, hk1⟩ := List.length_eq_one_iff.1 (g5 (by omega))
    have hkm : k ∈ e.kids := by rw [hk1]; simp
    have hhd : hdE rs s E e.kids = endE rs s E k := by rw [hk1]; funext q; rw [hdE]
    have hhv : hdV (ev rs s m) e.kids = ev rs s m k := by rw [hk1]; funext q; rw [hdV]
    rw [hhd]
    rw [hhv] at hy
    by_cases h7 : e.kind = 7 ∨ e.kind = 8
    · rw [if_pos h7] at hy ⊢
      exact staV_res _ _ _ _ (fun r z hr hrl hz => ⟨(hk k hkm r z hr hrl hz).1, hT.knows (hok.kid hkm) hr hrl, (hk k hkm r z hr hrl hz).2⟩) hp hl hy
    rw [if_neg h7] at hy ⊢
    obtain ⟨z, hz, rfl⟩ := Option.map_eq_some_iff.1 hy
    show oneE e.kind p z.1 = _
    rw [(hk k hkm p z hp hl hz).1]

theorem ev_ex (hw : WellOk rs) (hT : Tab rs s E) : ∀ (e : Ex) (p : Int), PegOk rs e → 0 ≤ p → p ≤ s.length → ∃ m x, ev rs s m e p = some x := by
  refine peg_ind hw s.length (fun e p => ∃ m x, ev rs s m e p = some x) fun e p hok hp hl hk hr => ?_
  have up : ∀ {m : Nat} {y : Int × Nat}, (if e.kind = 1 then some (p, 0) else if e.kind = 2 then some (setE e.set s p, 0) else if e.kind = 3 then some (litE e.text s p, 0)
    else if e.kind = 4 then (rs[(findR e.text rs 0).toNat]?).bind fun r => ev rs s m r.body p
    else if e.kind = 5 then seqV (ev rs s m) e.kids p else if e.kind = 6 then altV (ev rs s m) e.kids p
    else if e.kind = 7 ∨ e.kind = 8 then staV (hdV (ev rs s m) e.kids) (decide (e.kind = 8)) (s.length + 2) p true
    else (hdV (ev rs s m) e.kids p).map fun x => (oneE e.kind p x.1, x.2)) = some y → ∃ m x, ev rs s m e p = some x := fun {m y} h => ⟨m + 1, (y.1, y.2 + 1), by rw [ev, h]; rfl⟩
  by_cases h1 : e.kind = 1
  · exact up (m := 0) (if_pos h1)
  by_cases h2 : e.kind = 2
  · exact up (m := 0) (by rw [if_neg h1, if_pos h2])
  by_cases h3 : e.kind = 3
  · exact up (m := 0) (by rw [if_neg h1, if_neg h2, if_pos h3])
  by_cases h4 : e.kind = 4
  · obtain ⟨hlt, _⟩ := findR_lt (hok.good.ref h4)
    obtain ⟨r, hrr⟩ := getN (l := rs) hlt
    obtain ⟨m, x, hx⟩ := hr h4 r hrr
    exact up (m := m) (by rw [if_neg h1, if_neg h2, if_neg h3, if_pos h4, hrr]; exact hx)
  by_cases h5 : e.kind = 5
  · have key : ∀ (d i : Nat) (q : Int), e.kids.length - i < d → p ≤ q → q ≤ s.length → (q = p → ∀ j ∈ needsQ rs (knOf rs) (e.kids.drop i), j ∈ needsE rs (knOf rs) e) → ∃ m x, seqV (ev rs s m) (e.kids.drop i) q = some x := by
      intro d
      induction d with
      | zero => intro i q h; omega
      | succ d ih =>
        intro i q hd hq hql hn
        by_cases hi : i < e.kids.length
        · obtain ⟨k, hki⟩ := getN (l := e.kids) hi
          obtain ⟨t1, t2⟩ := seq_tries hT hok h5 hp hl i q k hq hql hn hki
          obtain ⟨m1, x, hx⟩ := hk k q t1 hql
          have hxe := ev_res hw hT m1 k q x (hok.kid t1.1) (by omega) hql hx
          rw [drop_get hki]
          by_cases h0 : x.1 < 0
          · exact ⟨m1, x, by rw [seqV, hx, Option.bind_some, if_pos h0]⟩
          · obtain ⟨u1, u2, u3⟩ := t2 (by omega)
            rw [← hxe] at u1 u2 u3
            obtain ⟨m2, y, hy⟩ := ih (i + 1) x.1 (by omega) u1 u2 u3
            refine ⟨max m1 m2, (y.1, x.2 + y.2), ?_⟩
            rw [seqV, ev_more (Nat.le_max_left m1 m2) _ _ _ hx, Option.bind_some, if_neg h0, seqV_mono (ev_more (Nat.le_max_right m1 m2)) _ _ _ hy]
            rfl
        · exact ⟨0, (q, 0), by rw [List.drop_of_length_le (by omega), seqV]⟩
    obtain ⟨m, x, hx⟩ := key (e.kids.length + 1) 0 p (by omega) (Int.le_refl _) hl fun _ j hj => by rw [needsE_eq, if_neg h4, if_pos h5]; exact hj
    exact up (m := m) (by rw [if_neg h1, if_neg h2, if_neg h3, if_neg h4, if_pos h5]; exact hx)
  by_cases h6 : e.kind = 6
  · have key : ∀ ks : List Ex, (∀ k ∈ ks, k ∈ e.kids) → ∃ m x, altV (ev rs s m) ks p = some x := by
      intro ks
      induction ks with
      | nil => intro _; exact ⟨0, (-1, 0), by rw [altV]⟩
      | cons k ks ih =>
        intro hm
        obtain ⟨m1, x, hx⟩ := hk k p (kid_tries (hm k (by simp)) h4 h5 (Int.le_refl _)) hl
        by_cases h0 : x.1 ≠ -1
        · exact ⟨m1, x, by rw [altV, hx, Option.bind_some, if_pos h0]⟩
        · obtain ⟨m2, y, hy⟩ := ih fun k' hk' => hm k' (by simp [hk'])
          refine ⟨max m1 m2, (y.1, x.2 + y.2), ?_⟩
          rw [altV, ev_more (Nat.le_max_left m1 m2) _ _ _ hx, Option.bind_some, if_neg h0, altV_mono (ev_more (Nat.le_max_right m1 m2)) _ _ _ hy]
          rfl
    obtain ⟨m, x, hx⟩ := key e.kids fun _ h => h
    exact up (m := m) (by rw [if_neg h1, if_neg h2, if_neg h3, if_neg h4, if_neg h5, if_pos h6]; exact hx)
  obtain ⟨g1, g2, g3, g4, g5, g6, g7, g8⟩ := fitE_kinds hok.good.fit
  obtain ⟨k, hk1⟩ := List.length_eq_one_iff.1 (g5 (by omega))
  have hkm : k ∈ e.kids := by rw [hk1]; simp
  have hhv : ∀ m, hdV (ev rs s m) e.kids = ev rs s m k := fun m => by rw [hk1]; funext q; rw [hdV]
  by_cases h7 : e.kind = 7 ∨ e.kind = 8
  · have hem := hok.star hk1 h7
    have key : ∀ (m : Nat) (q : Int) (fi : Bool), p ≤ q → q ≤ s.length → s.length + 1 ≤ q.toNat + m → ∃ n x, staV (ev rs s n k) (decide (e.kind = 8)) m q fi = some x := by
      intro m
      induction m with
      | zero => intro q fi hq hql hm; omega
      | succ m ih =>
        intro q fi hq hql hm
        obtain ⟨m1, x, hx⟩ := hk k q (kid_tries hkm h4 h5 hq) hql
        have hxe := ev_res hw hT m1 k q x (hok.kid hkm) (by omega) hql hx
        by_cases h0 : x.1 < 0
        · exact ⟨m1, (if (fi && decide (e.kind = 8)) = true then x.1 else q, x.2), by rw [staV, hx, Option.bind_some, if_pos h0]⟩
        · have hgt : q < x.1 ∧ x.1 ≤ s.length := by
            rw [hxe] at h0 ⊢
            rcases hT.res (hok.kid hkm) (p := q) (by omega) hql with h | ⟨h, h'⟩
            · omega
            · by_cases he : endE rs s E k q = q
              · rw [hT.empty (hok.kid hkm) (by omega) hql he] at hem; cases hem
              · omega
          obtain ⟨m2, y, hy⟩ := ih x.1 false (by omega) hgt.2 (by omega)
          refine ⟨max m1 m2, (y.1, x.2 + y.2), ?_⟩
          rw [staV, ev_more (Nat.le_max_left m1 m2) _ _ _ hx, Option.bind_some, if_neg h0, staV_mono (fun q z => ev_more (Nat.le_max_right m1 m2) k q z) _ _ _ _ hy]
          rfl
    obtain ⟨m, x, hx⟩ := key (s.length + 2) p true (Int.le_refl _) hl (by omega)
    exact up (m := m) (by rw [if_neg h1, if_neg h2, if_neg h3, if_neg h4, if_neg h5, if_neg h6, if_pos h7, hhv]; exact hx)
  · obtain ⟨m, x, hx⟩ := hk k p (kid_tries hkm h4 h5 (Int.le_refl _)) hl
    exact up (m := m) (by rw [if_neg h1, if_neg h2, if_neg h3, if_neg h4, if_neg h5, if_neg h6, if_neg h7, hhv, hx]; rfl)
end
end Go.Proofs.Ytifkffmecfgpeaa.core
