/- Contracts of functions: what each answers at every input that its caller may hand it. No condition. -/
import Derived.Test.YtifkffmecfgpeaaFillG
import Derived.Test.YtifkffmecfgpeaaPeg4X
namespace Go.Proofs.Ytifkffmecfgpeaa.core
open Go.Gx Go.RowKit Go.ChangeShapes Go.WideShapes Go.ChangeAt
/-! ### The reference's table -/

theorem u8wF (c : UInt8) : IntKind.wrap .i64 (c.toNat : Int) = (c.toNat : Int) := by
  have := c.toNat_lt
  exact wrap_in (by unfold InI; omega)
abbrev iC (z : Int) : List Value := [.int .i64 z]
theorem iC_len (z : Int) : (iC z).length = 1 := rfl
/-- What is known at a place, rule by rule. -/
def rowE (E : Nat → Nat → Int) (m q : Nat) : List Int := (List.range m).map (E q)
theorem rowE_len (E : Nat → Nat → Int) (m q : Nat) : (rowE E m q).length = m := by simp [rowE]
theorem rowE_get {E : Nat → Nat → Int} {m q i : Nat} (h : i < m) : (rowE E m q)[i]? = some (E q i) := by
  unfold rowE; rw [List.getElem?_map, List.getElem?_range h]; rfl

/-- A table in the memory; of the places below lo nothing is said. -/
structure TabR (M : Mem) (rs : List Ru) (s : List UInt8) (E : Nat → Nat → Int) (lo : Int) (b : Nat) (ga ea : Option Addr) (gl gc ec eb : Nat) : Prop where
  gm : At M b 0 [Value.slice ga gl gc]
  tx : At M b 1 [Value.string (mkS s)]
  en : At M b 2 [Value.slice ea (s.length + 1) ec]
  gr : GrR M rs ga gl gc
  ea : ea = some ⟨eb, 0, none⟩
  row : ∀ q : Nat, lo ≤ q → q ≤ s.length → ∃ ra rc, At M eb q [Value.slice ra rs.length rc] ∧ SlV M ra rs.length rc 1 (cl iC (rowE E rs.length q))
theorem TabR.le {M M' : Mem} {rs : List Ru} {s : List UInt8} {E : Nat → Nat → Int} {lo : Int} {b : Nat} {ga ea : Option Addr} {gl gc ec eb : Nat} (h : TabR M rs s E lo b ga ea gl gc ec eb) (hl : M.le M') : TabR M' rs s E lo b ga ea gl gc ec eb :=
  ⟨h.gm.le hl, h.tx.le hl, h.en.le hl, h.gr.le hl, h.ea, fun q h1 h2 => by obtain ⟨ra, rc, h3, h4⟩ := h.row q h1 h2; exact ⟨ra, rc, h3.le hl, h4.le hl⟩⟩

theorem inI_small {z : Int} (h1 : -1000000 ≤ z) (h2 : z ≤ 1000000) : InI z := by unfold InI; omega

theorem end_is {rs : List Ru} {s : List UInt8} {E : Nat → Nat → Int} {lo : Int} {b : Nat} {ga ea : Option Addr} {gl gc ec eb : Nat} (hs60 : s.length ≤ 60) (h10 : rs.length ≤ 10) (hT : TabOk rs s.length E) : ∀ (n : Nat) (e : Ex), SizeOf.sizeOf e < n → PegOk rs e → ∀ {M : Mem} {x : X_api_Expr} {p : Int} {K : Value → Prop}, ExR M e x → TabR M rs s E lo b ga ea gl gc ec eb → lo ≤ p → 0 ≤ p → p ≤ s.length →
    K (.int .i64 (endE rs s E e p)) → S_chaffref_Table_End (some ⟨b, 0, none⟩) x p M K := by
  intro n
  induction n with
  | zero => intro e h; omega
  | succ n ih =>
    intro e hn hok M x p K hR hM hlo hp hl hK
    obtain ⟨xs, hx⟩ := hR.open
    obtain ⟨g1, g2, g3, g4, g5, g6, g7, g8⟩ := fitE_kinds hok.good.fit
    have hl8 := kids8 hok.good
    rw [endE_eq] at hK
    have hval : ∀ k ∈ e.kids, ∀ p : Int, 0 ≤ p → p ≤ s.length → Val s.length (ofE rs (knOf rs) k) p (endE rs s E k p) := fun k hk => end_val hT _ k (Nat.lt_succ_self _) (hok.kid hk)
    have hrec : ∀ (i : Nat) (k : Ex) (p : Int) (K : Value → Prop), e.kids[i]? = some k → lo ≤ p → 0 ≤ p → p ≤ s.length → K (.int .i64 (endE rs s E k p)) → ∃ (b1 o1 : Nat), x.Kids_a = some ⟨b1, o1, none⟩ ∧ ∃ y : X_api_Expr, At M b1 (o1 + i * 7) y.cells ∧ CallE Try.prog 53 #[Value.pointer (some ⟨b, 0, none⟩), y.val, .int .i64 p] M (fun v _ => K v) := fun i k p K hk h1 h2 h3 h4 => by
      obtain ⟨b1, o1, y, ha, hat, hy, _⟩ := hx.kid hk
      have hkm := List.mem_of_getElem? hk
      exact ⟨b1, o1, ha, y, hat, s_chaffref_Table_End _ _ _ _ _ (ih k (by have := Ex.kid_lt hkm; omega) (hok.kid hkm) hy hM h1 h2 h3 h4)⟩
    unfold S_chaffref_Table_End
    rw [hx.kind]
    refine ⟨fun h1 => by rw [if_pos h1] at hK; exact hK, fun n1 => ?_⟩
    rw [if_neg n1] at hK
    refine ⟨fun h2 => ?_, fun n2 => ?_⟩
    · rw [if_pos h2] at hK
      unfold setE at hK
      refine ⟨b, 0, rfl, s, hM.tx, fun hlt => ?_, fun hge => ?_⟩
      · obtain ⟨c, hc⟩ := getI (l := s) hp hlt
        rw [hc] at hK
        refine ⟨b, 0, rfl, s, hM.tx, c, hp, hc, ?_⟩
        rw [u8wF, hx.set]
        refine s_chaffref_Has _ _ _ _ (rhas_is hx.hs (by have := c.toNat_lt; omega) _ ⟨_, rfl, ?_⟩)
        unfold S_chaffref_Table_End_J1
        refine ⟨fun ht => ⟨inI_small (by omega) (by omega), ?_⟩, fun hf => ?_⟩
        · simp only [ht, if_true] at hK; exact hK
        · simp only [hf, if_false] at hK; exact hK
      · rw [List.getElem?_eq_none (by omega)] at hK
        exact ⟨fun h => (by cases h), fun _ => hK⟩
    rw [if_neg n2] at hK
    refine ⟨fun h3 => ?_, fun n3 => ?_⟩
    · rw [if_pos h3] at hK
      have h12 := (g6 h3).2
      rw [hx.text]
      unfold litE at hK
      have hin : InI (p + ((e.text.length : Nat) : Int)) := inI_small (by omega) (by omega)
      refine ⟨hin, b, 0, rfl, s, hM.tx, fun hle => ⟨b, 0, rfl, s, hM.tx, hin, hp, by omega, hle, ?_⟩, fun hgt => ?_⟩
      · unfold S_chaffref_Table_End_J2
        rw [hx.text]
        refine ⟨fun ht => ⟨hin, ?_⟩, fun hf => ?_⟩
        · rw [if_pos ⟨hle, mkS_beq.1 ht⟩] at hK; exact hK
        · rw [if_neg (fun h => hf (mkS_beq.2 h.2))] at hK; exact hK
      · rw [if_neg (fun h => hgt h.1)] at hK
        exact ⟨fun h => (by cases h), fun _ => hK⟩
    rw [if_neg n3] at hK
    refine ⟨fun h4 => ?_, fun n4 => ?_⟩
    · rw [if_pos h4] at hK
      obtain ⟨hlt, hlt'⟩ := findR_lt (hok.good.ref h4)
      have hr0 := hok.good.ref h4
      rw [hx.text]
      obtain ⟨ra, rc, hra, hrow⟩ := hM.row p.toNat (by omega) (by omega)
      obtain ⟨b3, o3, hb3, hat3⟩ := hrow.at iC_len (rowE_len E rs.length p.toNat) (rowE_get hlt)
      refine ⟨b, 0, rfl, _, _, _, hM.en, eb, 0, hM.ea, hp, by omega, ra, _, rc, by rw [Nat.zero_add, Nat.mul_one]; exact hra, b, 0, rfl, _, _, _, hM.gm, ?_⟩
      exact s_chaffref_Find _ _ _ _ _ _ (rfind_is hM.gr e.text _ ⟨_, rfl, b3, o3, hb3, hr0, by omega, _, hat3, hK⟩)
    rw [if_neg n4] at hK
    refine ⟨fun h5 => ?_, fun n5 => ?_⟩
    · rw [if_pos h5] at hK
      refine ⟨fun q i => 0 ≤ i ∧ i ≤ e.kids.length ∧ p ≤ q ∧ q ≤ s.length ∧ seqE rs s E (e.kids.drop i.toNat) q = seqE rs s E e.kids p, fun _ i => e.kids.length - i.toNat, ⟨by omega, by omega, by omega, hl, rfl⟩, fun q i ⟨i0, i1, hq, hql, hse⟩ => ⟨fun hlt => ?_, fun hge => ?_⟩⟩
      · rw [hx.len] at hlt
        obtain ⟨k, hk⟩ := getI (l := e.kids) i0 hlt
        have hkm := List.mem_of_getElem? hk
        rw [drop_get hk, seqE] at hse
        obtain ⟨b1, o1, ha, y, hat, hcall⟩ := hrec i.toNat k q (fun v => ∃ x55 : Int, v = .int .i64 x55 ∧ ((x55 < 0 → K (.int .i64 x55)) ∧ (¬ x55 < 0 → (InI (i + 1) ∧ (0 ≤ i + 1 ∧ i + 1 ≤ e.kids.length ∧ p ≤ x55 ∧ x55 ≤ s.length ∧ seqE rs s E (e.kids.drop (i + 1).toNat) x55 = seqE rs s E e.kids p) ∧ e.kids.length - (i + 1).toNat < e.kids.length - i.toNat)))) hk (by omega) (by omega) hql (by
          refine ⟨_, rfl, fun hneg => ?_, fun hpos => ?_⟩
          · rw [if_pos hneg] at hse; rw [hse]; exact hK
          · rw [if_neg hpos] at hse
            have := (hval k hkm q (by omega) hql).pos (by omega) hql
            exact ⟨inI_small (by omega) (by omega), ⟨by omega, by omega, by omega, by omega, by rw [show (i + 1).toNat = i.toNat + 1 by omega]; exact hse⟩, by omega⟩)
        exact ⟨b1, o1, ha, i0, by rw [hx.len]; exact hlt, y, hat, hcall⟩
      · rw [hx.len] at hge
        rw [List.drop_of_length_le (by omega), seqE] at hse
        rw [hse]; exact hK
    rw [if_neg n5] at hK
    refine ⟨fun h6 => ?_, fun n6 => ?_⟩
    · rw [if_pos h6] at hK
      refine ⟨fun i => 0 ≤ i ∧ i ≤ e.kids.length ∧ altE rs s E (e.kids.drop i.toNat) p = altE rs s E e.kids p, fun i => e.kids.length - i.toNat, ⟨by omega, by omega, rfl⟩, fun i ⟨i0, i1, hse⟩ => ⟨fun hlt => ?_, fun hge => ?_⟩⟩
      · rw [hx.len] at hlt
        obtain ⟨k, hk⟩ := getI (l := e.kids) i0 hlt
        rw [drop_get hk, altE] at hse
        obtain ⟨b1, o1, ha, y, hat, hcall⟩ := hrec i.toNat k p (fun v => ∃ x69 : Int, v = .int .i64 x69 ∧ ((x69 ≠ -1 → K (.int .i64 x69)) ∧ (¬ x69 ≠ -1 → (InI (i + 1) ∧ (0 ≤ i + 1 ∧ i + 1 ≤ e.kids.length ∧ altE rs s E (e.kids.drop (i + 1).toNat) p = altE rs s E e.kids p) ∧ e.kids.length - (i + 1).toNat < e.kids.length - i.toNat)))) hk hlo hp hl (by
          refine ⟨_, rfl, fun hneg => ?_, fun hpos => ?_⟩
          · rw [if_pos hneg] at hse; rw [hse]; exact hK
          · rw [if_neg hpos] at hse
            exact ⟨inI_small (by omega) (by omega), ⟨by omega, by omega, by rw [show (i + 1).toNat = i.toNat + 1 by omega]; exact hse⟩, by omega⟩)
        exact ⟨b1, o1, ha, i0, by rw [hx.len]; exact hlt, y, hat, hcall⟩
      · rw [hx.len] at hge
        rw [List.drop_of_length_le (by omega), altE] at hse
        rw [hse]; exact hK
    rw [if_neg n6] at hK
    obtain ⟨k, hk1⟩ := List.length_eq_one_iff.1 (g5 (by omega))
    have hk : e.kids[0]? = some k := by rw [hk1]; rfl
    have hkm : k ∈ e.kids := by rw [hk1]; simp
    have hhd : hdE rs s E e.kids = endE rs s E k := by rw [hk1]; funext q; rw [hdE]
    have hpos0 : (0 : Int) < ((x.Kids_l : Nat) : Int) := by rw [hx.len, hk1]; simp
    rw [hhd] at hK
    have j3 : ∀ v : Bool, v = decide (e.kind = 7 ∨ e.kind = 8) → S_chaffref_Table_End_J3 (some ⟨b, 0, none⟩) x p M v K := by
      intro v hv
      unfold S_chaffref_Table_End_J3
      refine ⟨fun ht => ?_, fun hf => ?_⟩
      · have h78 : e.kind = 7 ∨ e.kind = 8 := by rw [ht] at hv; exact of_decide_eq_true hv.symm
        rw [if_pos h78] at hK
        let I : Int → Int → Prop := fun q i => p ≤ q ∧ q ≤ s.length ∧ 0 ≤ i ∧ i ≤ q ∧ ∃ m, s.length + 1 ≤ q.toNat + m ∧ strE (endE rs s E k) (decide (e.kind = 8)) m q (decide (i = 0)) = strE (endE rs s E k) (decide (e.kind = 8)) (s.length + 2) p true
        let mu : Int → Int → Nat := fun q _ => s.length + 1 - q.toNat
        refine ⟨I, mu, ⟨by omega, hl, by omega, by omega, _, by omega, rfl⟩, fun q i ⟨hq, hql, i0, i1, m, hm, hse⟩ => ?_⟩
        have hv1 := hval k hkm q (by omega) hql
        have hv2 := hv1.pos (by omega) hql
        have hem := hok.star hk1 h78
        obtain ⟨b1, o1, ha, y, hat, hcall⟩ := hrec 0 k q (fun v => ∃ x85 : Int, v = .int .i64 x85 ∧ ((x85 = -2 → S_chaffref_Table_End_J4 q i I mu x85 true K) ∧ (¬ x85 = -2 → ((x85 < 0 → ((i = 0 → S_chaffref_Table_End_J4 q i I mu x85 (x.Kind == (8 : Int)) K) ∧ (¬ i = 0 → S_chaffref_Table_End_J4 q i I mu x85 false K))) ∧ (¬ x85 < 0 → S_chaffref_Table_End_J4 q i I mu x85 false K))))) hk (by omega) (by omega) hql (by
          cases m with
          | zero => omega
          | succ m =>
            rw [strE] at hse
            have hgo : ¬ endE rs s E k q < 0 → p ≤ endE rs s E k q ∧ endE rs s E k q ≤ s.length ∧ 0 ≤ i + 1 ∧ i + 1 ≤ endE rs s E k q ∧ q < endE rs s E k q := fun h0 => by
              have : q < endE rs s E k q := by
                rcases hv1 with h' | ⟨h', _⟩ | ⟨_, e'⟩ | h'
                · omega
                · omega
                · rw [hem] at e'; cases e'
                · exact h'.1
              exact ⟨by omega, by omega, by omega, by omega, this⟩
            refine ⟨_, rfl, fun h2 => ?_, fun h2 => ⟨fun h0 => ⟨fun hi => ?_, fun hi => ?_⟩, fun h0 => ?_⟩⟩
            · rw [if_pos (.inl h2)] at hse
              exact ⟨fun _ => by rw [hse]; exact hK, fun h => absurd rfl h⟩
            · refine ⟨fun h8 => ?_, fun h8 => ⟨fun _ => ?_, fun h => absurd h0 h⟩⟩
              · rw [hx.kind] at h8
                rw [if_pos (.inr ⟨h0, decide_eq_true hi, decide_eq_true (by simpa using h8)⟩)] at hse
                rw [hse]; exact hK
              · rw [hx.kind] at h8
                rw [if_neg (fun h => h.elim h2 fun h => h8 (by simpa using h.2.2)), if_pos h0] at hse
                rw [hse]; exact hK
            · refine ⟨fun h => (by cases h), fun _ => ⟨fun _ => ?_, fun h => absurd h0 h⟩⟩
              rw [if_neg (fun h => h.elim h2 fun h => hi (by simpa using h.2.1)), if_pos h0] at hse
              rw [hse]; exact hK
            · refine ⟨fun h => (by cases h), fun _ => ⟨fun h => absurd h h0, fun _ => ?_⟩⟩
              obtain ⟨g1, g2, g3, g4, g5⟩ := hgo h0
              rw [if_neg (fun h => h.elim h2 fun h => h0 h.1), if_neg h0] at hse
              refine ⟨inI_small (by omega) (by omega), ⟨g1, g2, g3, g4, m, by omega, ?_⟩, by simp only [mu]; omega⟩
              rw [show decide (i + 1 = 0) = false from decide_eq_false (by omega)]
              exact hse)
        exact ⟨b1, o1, ha, by omega, hpos0, y, hat, hcall⟩
      · have h78 : ¬ (e.kind = 7 ∨ e.kind = 8) := by intro h; rw [decide_eq_true h] at hv; exact hf hv
        rw [if_neg h78] at hK
        obtain ⟨b1, o1, ha, y, hat, hcall⟩ := hrec 0 k p (fun v => ∃ x90 : Int, v = .int .i64 x90 ∧ ((x90 = -2 → K (.int .i64 (-2))) ∧ (¬ x90 = -2 → ((x.Kind = 9 → S_chaffref_Table_End_J5 x p x90 (decide (x90 ≥ 0)) K) ∧ (¬ x.Kind = 9 → S_chaffref_Table_End_J5 x p x90 false K))))) hk hlo hp hl (by
          unfold oneE at hK
          refine ⟨_, rfl, fun h2 => by rw [if_pos h2] at hK; exact hK, fun h2 => ?_⟩
          rw [if_neg h2] at hK
          have h9 : e.kind = 9 ∨ e.kind = 10 ∨ e.kind = 11 := by omega
          have j6 : ∀ v : Bool, v = decide ((e.kind = 10 ∧ endE rs s E k p < 0) ∨ (e.kind = 11 ∧ 0 ≤ endE rs s E k p)) → ¬ (e.kind = 9 ∧ 0 ≤ endE rs s E k p) → S_chaffref_Table_End_J6 p v K := by
            intro v hv' hno
            rw [if_neg hno] at hK
            refine ⟨fun ht => ?_, fun hf => ?_⟩
            · rw [ht] at hv'; rw [if_pos (of_decide_eq_true hv'.symm)] at hK; exact hK
            · rw [if_neg (fun h => hf (by rw [hv', decide_eq_true h]))] at hK; exact hK
          have j5 : ∀ v : Bool, v = decide (e.kind = 9 ∧ 0 ≤ endE rs s E k p) → S_chaffref_Table_End_J5 x p (endE rs s E k p) v K := by
            intro v hv'
            unfold S_chaffref_Table_End_J5
            rw [hx.kind]
            refine ⟨fun ht => ?_, fun hf => ?_⟩
            · rw [ht] at hv'; rw [if_pos (of_decide_eq_true hv'.symm)] at hK; exact hK
            · have hno : ¬ (e.kind = 9 ∧ 0 ≤ endE rs s E k p) := fun h => hf (by rw [hv', decide_eq_true h])
              refine ⟨fun h10 => ⟨fun h0 => j6 _ (by symm; exact decide_eq_true (.inl ⟨h10, h0⟩)) hno, fun h0 => ⟨fun h11 => by omega, fun _ => j6 _ (by symm; exact decide_eq_false (by omega)) hno⟩⟩, fun n10 => ⟨fun h11 => j6 _ (by rw [decide_eq_decide]; omega) hno, fun n11 => j6 _ (by symm; exact decide_eq_false (by omega)) hno⟩⟩
          rw [hx.kind]
          exact ⟨fun h => j5 _ (by rw [decide_eq_decide]; omega), fun h => j5 _ (by symm; exact decide_eq_false (by omega))⟩)
        exact ⟨b1, o1, ha, by omega, hpos0, y, hat, hcall⟩
    refine ⟨fun h7 => j3 _ ?_, fun n7 => j3 _ ?_⟩
    · rw [h7]; rfl
    · rw [Bool.eq_iff_iff]; simp [n7]
end Go.Proofs.Ytifkffmecfgpeaa.core
