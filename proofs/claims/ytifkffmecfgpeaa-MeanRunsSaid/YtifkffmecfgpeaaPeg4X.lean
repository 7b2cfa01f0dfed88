/- Contracts of functions: what each answers at every input that its caller may hand it. No condition. -/
import Derived.Test.YtifkffmecfgpeaaPeg3X
namespace Go.Proofs.Ytifkffmecfgpeaa.core
open Go.Gx Go.RowKit Go.ChangeShapes Go.WideShapes Go.ChangeAt
/-! ### The whole table, and the order in which all that is tried can be gone through -/

structure Tab (rs : List Ru) (s : List UInt8) (E : Nat → Nat → Int) : Prop where
  ok : TabOk rs s.length E
  known : ∀ p i : Nat, p ≤ s.length → i < rs.length → E p i ≠ -2
  fix : ∀ (p i : Nat) r, p ≤ s.length → rs[i]? = some r → E p i = endE rs s E r.body p

theorem Tab.knows {rs : List Ru} {s : List UInt8} {E : Nat → Nat → Int} (h : Tab rs s E) {e : Ex} (he : PegOk rs e) {p : Int} (hp : 0 ≤ p) (hl : p ≤ s.length) : endE rs s E e p ≠ -2 :=
  end_known h.ok _ e (Nat.lt_succ_self _) he p hp hl (fun q _ hq i hi => h.known q i hq hi) fun j hj => h.known _ j (by omega) (needsE_lt _ _ he.good j hj)
theorem Tab.res {rs : List Ru} {s : List UInt8} {E : Nat → Nat → Int} (h : Tab rs s E) {e : Ex} (he : PegOk rs e) {p : Int} (hp : 0 ≤ p) (hl : p ≤ s.length) : endE rs s E e p = -1 ∨ (p ≤ endE rs s E e p ∧ endE rs s E e p ≤ s.length) := by
  rcases (end_val h.ok _ e (Nat.lt_succ_self _) he p hp hl).pos hp hl with h' | h'
  · exact absurd h' (h.knows he hp hl)
  · exact h'
/-- What ends where it began may be empty. -/
theorem Tab.empty {rs : List Ru} {s : List UInt8} {E : Nat → Nat → Int} (h : Tab rs s E) {e : Ex} (he : PegOk rs e) {p : Int} (hp : 0 ≤ p) (hl : p ≤ s.length) (hq : endE rs s E e p = p) : (ofE rs (knOf rs) e).Empty = true := by
  rcases end_val h.ok _ e (Nat.lt_succ_self _) he p hp hl with h' | ⟨h', _⟩ | ⟨_, h'⟩ | ⟨h', _⟩
  · omega
  · omega
  · exact h'
  · omega

/-- Kid k of e, tried at q, when e is tried at p. -/
def Tries (rs : List Ru) (e k : Ex) (p q : Int) : Prop := k ∈ e.kids ∧ p ≤ q ∧ (q = p → ∀ j ∈ needsE rs (knOf rs) k, j ∈ needsE rs (knOf rs) e)

theorem peg_ind {rs : List Ru} (hw : WellOk rs) (n : Nat) (P : Ex → Int → Prop)
    (h : ∀ (e : Ex) (p : Int), PegOk rs e → 0 ≤ p → p ≤ n → (∀ (k : Ex) (q : Int), Tries rs e k p q → q ≤ n → P k q) → (e.kind = 4 → ∀ r, rs[(findR e.text rs 0).toNat]? = some r → P r.body p) → P e p) :
    ∀ (e : Ex) (p : Int), PegOk rs e → 0 ≤ p → p ≤ n → P e p := by
  obtain ⟨st, hst, hord⟩ := hw.stage
  have h10 := hw.ok.ten
  -- a place, the highest stage that is needed, a size
  have key : ∀ (a b c : Nat) (e : Ex) (p : Int), PegOk rs e → 0 ≤ p → p ≤ n → n - p.toNat < a → (∀ j ∈ needsE rs (knOf rs) e, st j < b) → SizeOf.sizeOf e < c → P e p := by
    intro a
    induction a with
    | zero => intro b c e p _ _ _ h; omega
    | succ a iha =>
      intro b
      induction b with
      | zero =>
        intro c
        induction c with
        | zero => intro e p _ _ _ _ _ h; omega
        | succ c ihc =>
          intro e p he hp hl ha hb hc
          refine h e p he hp hl (fun k q ⟨hk, hq, hn⟩ hql => ?_) fun h4 r hr => ?_
          · by_cases hqp : q = p
            · exact ihc k q (he.kid hk) (by omega) hql (by omega) (fun j hj => hb j (hn hqp j hj)) (by have := Ex.kid_lt hk; omega)
            · exact iha (rs.length + 1) _ k q (he.kid hk) (by omega) hql (by omega) (fun j hj => by have := (hst j (needsE_lt _ _ (he.kid hk).good j hj)).2; omega) (Nat.lt_succ_self _)
          · have := hb (findR e.text rs 0).toNat (by rw [needsE_eq, if_pos h4]; simp)
            omega
      | succ b ihb =>
        intro c
        induction c with
        | zero => intro e p _ _ _ _ _ h; omega
        | succ c ihc =>
          intro e p he hp hl ha hb hc
          refine h e p he hp hl (fun k q ⟨hk, hq, hn⟩ hql => ?_) fun h4 r hr => ?_
          · by_cases hqp : q = p
            · exact ihc k q (he.kid hk) (by omega) hql (by omega) (fun j hj => hb j (hn hqp j hj)) (by have := Ex.kid_lt hk; omega)
            · exact iha (rs.length + 1) _ k q (he.kid hk) (by omega) hql (by omega) (fun j hj => by have := (hst j (needsE_lt _ _ (he.kid hk).good j hj)).2; omega) (Nat.lt_succ_self _)
          · have := hb (findR e.text rs 0).toNat (by rw [needsE_eq, if_pos h4]; simp)
            exact ihb _ r.body p (hw.peg (List.mem_of_getElem? hr)) hp hl ha (fun j hj => by have := hord _ r hr j hj; omega) (Nat.lt_succ_self _)
  exact fun e p he hp hl => key (n + 1) (rs.length + 1) _ e p he hp hl (by omega) (fun j hj => by have := (hst j (needsE_lt _ _ he.good j hj)).2; omega) (Nat.lt_succ_self _)

/-- The kids of a sequence. -/
theorem seq_tries {rs : List Ru} {s : List UInt8} {E : Nat → Nat → Int} (hT : Tab rs s E) {e : Ex} (he : PegOk rs e) (h5 : e.kind = 5) {p : Int} (hp : 0 ≤ p) (hl : p ≤ s.length) : ∀ (i : Nat) (q : Int) k, p ≤ q → q ≤ s.length → (q = p → ∀ j ∈ needsQ rs (knOf rs) (e.kids.drop i), j ∈ needsE rs (knOf rs) e) → e.kids[i]? = some k →
    Tries rs e k p q ∧ (0 ≤ endE rs s E k q → p ≤ endE rs s E k q ∧ endE rs s E k q ≤ s.length ∧ (endE rs s E k q = p → ∀ j ∈ needsQ rs (knOf rs) (e.kids.drop (i + 1)), j ∈ needsE rs (knOf rs) e)) := by
  intro i q k hq hql hn hk
  have hkm := List.mem_of_getElem? hk
  rw [drop_get hk] at hn
  refine ⟨⟨hkm, hq, fun hqp j hj => hn hqp j (by rw [needsQ]; exact List.mem_append_left _ hj)⟩, fun h0 => ?_⟩
  rcases hT.res (he.kid hkm) (by omega) hql with h | ⟨h1, h2⟩
  · omega
  · refine ⟨by omega, h2, fun hep j hj => ?_⟩
    have hqp : q = p := by omega
    have hem := hT.empty (he.kid hkm) (by omega) hql (by omega)
    exact hn hqp j (by rw [needsQ, if_pos hem]; exact List.mem_append_right _ hj)
theorem needsA_kid {rs : List Ru} {kn : List Fa} : ∀ {ks : List Ex} {k : Ex}, k ∈ ks → ∀ j ∈ needsE rs kn k, j ∈ needsA rs kn ks
  | a :: ks, k, h, j, hj => by
    rw [needsA]
    rcases List.mem_cons.1 h with rfl | h
    · exact List.mem_append_left _ hj
    · exact List.mem_append_right _ (needsA_kid h j hj)
/-- The kids of anything else. -/
theorem kid_tries {rs : List Ru} {e k : Ex} (hk : k ∈ e.kids) (h4 : e.kind ≠ 4) (h5 : e.kind ≠ 5) {p q : Int} (hq : p ≤ q) : Tries rs e k p q :=
  ⟨hk, hq, fun _ j hj => by rw [needsE_eq, if_neg h4, if_neg h5]; exact needsA_kid hk j hj⟩
end Go.Proofs.Ytifkffmecfgpeaa.core
