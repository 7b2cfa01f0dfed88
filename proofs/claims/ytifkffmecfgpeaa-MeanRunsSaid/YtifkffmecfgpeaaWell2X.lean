/- Contracts of functions: what each answers at every input that its caller may hand it. No condition. -/
import Derived.Test.YtifkffmecfgpeaaWellX
namespace Go.Proofs.Ytifkffmecfgpeaa.core
open Go.Gx Go.RowKit Go.ChangeShapes Go.WideShapes Go.ChangeAt
/-! ### well.of and its like -/

theorem kid_is {rs : List Ru} {kn : List Fa} {e : Ex} {ga ra : Option Addr} {gl gc rc : Nat} {x : X_api_Expr} {M M' : Mem} {b2 b3 b4 : Nat}
    (hon : ∀ (k : Ex) (y : X_api_Expr) (K : Value → Prop), k ∈ e.kids → ExR M' k y → K (ofE rs kn k).val → S_well_of ga gl gc ra kn.length rc y M' K)
    (hR : ExR M e x) (hle : M.le M') (h2 : At M' b2 0 [Value.slice ga gl gc]) (h3 : At M' b3 0 [Value.slice ra kn.length rc]) (h4 : At M' b4 0 x.cells)
    (i : Int) (h0 : 0 ≤ i) (k : Ex) (hk : e.kids[i.toNat]? = some k) (K : Value → Prop) (hK : K (ofE rs kn k).val) : S_well_of_1 i b2 b3 b4 M' K := by
  obtain ⟨xs, hx⟩ := (hR.le hle).open
  obtain ⟨b, o, y, ha, hat, hy, _⟩ := hx.kid hk
  have hlt := (List.getElem?_eq_some_iff.1 hk).1
  unfold S_well_of_1
  refine ⟨_, _, _, h2, _, _, _, h3, _, _, _, (h4.part 6 [Value.slice x.Kids_a x.Kids_l x.Kids_c] rfl), b, o, ha, h0, by rw [hx.len]; omega, y, hat, ?_⟩
  exact s_well_of _ _ _ _ _ _ _ _ _ (hon k y _ (List.mem_of_getElem? hk) hy ⟨_, rfl, hK⟩)

theorem star_is (a : Fa) (M : Mem) (K : Value → Prop) (h : K (faStar a).val) : S_well_star a M K := h

theorem of_is {rs : List Ru} {kn : List Fa} {ga ra : Option Addr} {gl gc rc : Nat} (hlen : kn.length = rs.length) : ∀ (n : Nat) (e : Ex), SizeOf.sizeOf e < n → ∀ {M : Mem} {x : X_api_Expr} {K : Value → Prop}, ExR M e x → GrR M rs ga gl gc →
    SlV M ra kn.length rc 3 (cl X_api_Facts.cells kn) → GoodE rs e → K (ofE rs kn e).val → S_well_of ga gl gc ra kn.length rc x M K := by
  intro n
  induction n with
  | zero => intro e h; omega
  | succ n ih =>
    intro e hn M x K hR hg hkn hgood hK
    obtain ⟨xs, hx⟩ := hR.open
    obtain ⟨g1, g2, g3, g4, g5, g6, g7, g8⟩ := fitE_kinds hgood.fit
    have hon : ∀ M', M.le M' → ∀ (k : Ex) (y : X_api_Expr) (K : Value → Prop), k ∈ e.kids → ExR M' k y → K (ofE rs kn k).val → S_well_of ga gl gc ra kn.length rc y M' K := fun M' hle k y K hk hy hK =>
      ih k (by have := Ex.kid_lt hk; omega) hy (hg.le hle) (hkn.le hle) (hgood.kid k hk) hK
    have kid := fun {M' b2 b3 b4} (hle : M.le M') => kid_is (e := e) (M := M) (M' := M') (b2 := b2) (b3 := b3) (b4 := b4) (hon M' hle) hR hle
    rw [ofE_eq] at hK
    have hL : ∀ (i : Nat) k, e.kids[i]? = some k → (e.kids.map (ofE rs kn))[i]? = some (ofE rs kn k) := fun i k hk => by rw [List.getElem?_map, hk]; rfl
    generalize hLd : e.kids.map (ofE rs kn) = l at hK hL
    have hll : l.length = e.kids.length := by rw [← hLd]; simp
    have hat3 : ∀ {M : Mem} {b : Nat}, At M b 0 [Value.int .i64 e.kind, Value.int .u64 x.Set.w0, Value.int .u64 x.Set.w1, Value.int .u64 x.Set.w2, Value.int .u64 x.Set.w3, Value.string (mkS x.Text), Value.slice x.Kids_a x.Kids_l x.Kids_c] → At M b 0 x.cells := fun h => by rw [← hx.kind] at h; exact h
    have one : 7 ≤ e.kind → ∃ k, e.kids[(0 : Int).toNat]? = some k ∧ hdF l = ofE rs kn k := fun h7 => by
      obtain ⟨k, hk⟩ := getN (l := e.kids) (i := 0) (by have := g5 h7; omega)
      refine ⟨k, hk, ?_⟩
      have := hL 0 k hk
      cases l with
      | nil => simp at this
      | cons a r => simp at this; exact this
    unfold opF at hK
    unfold S_well_of
    rw [hx.kind]
    refine ⟨fun h => ?_, fun n1 => ⟨fun h => ?_, fun n2 => ⟨fun h => ?_, fun n3 => ⟨fun h => ?_, fun n4 => ⟨fun h => ?_, fun n5 => ⟨fun h => ?_, fun n6 => ⟨fun h => ?_, fun n7 => ⟨fun h => ?_, fun n8 => ⟨fun h => ?_, fun n9 => ?_⟩⟩⟩⟩⟩⟩⟩⟩⟩
    · rw [if_pos h] at hK; exact hK
    · rw [if_neg n1, if_pos h, ← hx.set] at hK; exact hK
    · rw [if_neg n1, if_neg n2, if_pos h] at hK; exact hK
    · rw [if_neg n1, if_neg n2, if_neg n3, if_pos h] at hK
      have hr := hgood.ref h
      obtain ⟨hlt, hlt'⟩ := findR_lt hr
      obtain ⟨a, ha⟩ := getN (l := kn) (i := (findR e.text rs 0).toNat) (by omega)
      obtain ⟨b, o, hb, hat⟩ := hkn.at Xf_len rfl ha
      rw [hx.text]
      refine s_gram_Find _ _ _ _ _ _ (find_is hg e.text _ ⟨_, rfl, b, o, hb, hr, by omega, a, hat, ?_⟩)
      rw [refF, ha] at hK; exact hK
    · rw [if_neg n1, if_neg n2, if_neg n3, if_neg n4, if_pos h] at hK
      obtain ⟨q1, q2⟩ := g4 (.inl h)
      obtain ⟨k0, hk0⟩ := getN (l := e.kids) (i := 0) (by omega)
      intro M1 b8 hl1 hb8 M2 b9 hl2 hb9 M3 b10 hl3 hb10
      have hle := (hl1.trans hl2).trans hl3
      refine s_well_of_1 _ _ _ _ _ _ (kid hle (hb8.le (hl2.trans hl3)) (hb9.le hl3) (hat3 hb10) 0 (by omega) k0 hk0 _ ⟨_, rfl, ?_⟩)
      refine ⟨fun i a b c => 1 ≤ i ∧ i ≤ l.length ∧ (⟨a, b, c⟩ : Fa) = thenL (l.take i.toNat), fun i _ _ _ => l.length - i.toNat, ⟨by omega, by omega, ?_⟩, fun i a b c ⟨i1, i2, i3⟩ => ?_⟩
      · have := hL 0 k0 hk0
        cases l with
        | nil => simp at this
        | cons y r => simp at this; subst this; rfl
      · refine ⟨_, _, _, (hat3 hb10).part 6 [Value.slice x.Kids_a x.Kids_l x.Kids_c] rfl, fun hlt => ?_, fun hge => ?_⟩
        · rw [hx.len] at hlt
          obtain ⟨k, hk⟩ := getI (l := e.kids) (i := i) (by omega) (by omega)
          refine s_well_of_1 _ _ _ _ _ _ (kid hle (hb8.le (hl2.trans hl3)) (hb9.le hl3) (hat3 hb10) i (by omega) k hk _ ⟨_, rfl, s_well_then _ _ _ _ (then_is _ _ _ _ ⟨_, rfl, by unfold InI; omega, ⟨by omega, by omega, ?_⟩, by dsimp only; omega⟩)⟩)
          rw [i3, show (i + 1).toNat = i.toNat + 1 by omega, take_get (hL _ k hk), thenL_snoc]
          intro h0
          have := congrArg List.length h0
          rw [List.length_take, List.length_nil] at this; omega
        · rw [hx.len] at hge
          rw [List.take_of_length_le (by omega)] at i3
          rw [← i3] at hK; exact hK
    · rw [if_neg n1, if_neg n2, if_neg n3, if_neg n4, if_neg n5, if_pos h] at hK
      obtain ⟨q1, q2⟩ := g4 (.inr h)
      have hxl := hx.len
      refine ⟨by unfold InI; omega, fun M1 b8 hl1 hb8 M2 b9 hl2 hb9 M3 b10 hl3 hb10 => ?_⟩
      have hle := (hl1.trans hl2).trans hl3
      obtain ⟨k0, hk0⟩ := getI (l := e.kids) (i := (x.Kids_l : Int) - 1) (by omega) (by omega)
      refine s_well_of_1 _ _ _ _ _ _ (kid hle (hb8.le (hl2.trans hl3)) (hb9.le hl3) (hat3 hb10) _ (by omega) k0 hk0 _ ⟨_, rfl, ?_⟩)
      refine ⟨_, _, _, (hat3 hb10).part 6 [Value.slice x.Kids_a x.Kids_l x.Kids_c] rfl, by unfold InI; omega, ?_⟩
      refine ⟨fun i a b c => -1 ≤ i ∧ i ≤ (l.length : Int) - 2 ∧ (⟨a, b, c⟩ : Fa) = orL (l.drop (i + 1).toNat), fun i _ _ _ => (i + 1).toNat, ⟨by omega, by omega, ?_⟩, fun i a b c ⟨i1, i2, i3⟩ => ⟨fun hge => ?_, fun hlt => ?_⟩⟩
      · have h1 := hL _ k0 hk0
        rw [show ((x.Kids_l : Int) - 2 + 1).toNat = ((x.Kids_l : Int) - 1).toNat by omega, drop_get h1, List.drop_of_length_le (by omega)]; rfl
      · obtain ⟨k, hk⟩ := getI (l := e.kids) (i := i) (by omega) (by omega)
        refine s_well_of_1 _ _ _ _ _ _ (kid hle (hb8.le (hl2.trans hl3)) (hb9.le hl3) (hat3 hb10) i (by omega) k hk _ ⟨_, rfl, s_well_or _ _ _ _ (or_is _ _ _ _ ⟨_, rfl, by unfold InI; omega, ⟨by omega, by omega, ?_⟩, by dsimp only; omega⟩)⟩)
        rw [i3, show (i - 1 + 1).toNat = i.toNat by omega, drop_get (hL _ k hk), show (i + 1).toNat = i.toNat + 1 by omega]
        cases hd : l.drop (i.toNat + 1) with
        | nil => have := congrArg List.length hd; simp at this; omega
        | cons y r => rfl
      · rw [show (i + 1).toNat = 0 by omega, List.drop_zero] at i3
        rw [← i3] at hK; exact hK
    · rw [if_neg n1, if_neg n2, if_neg n3, if_neg n4, if_neg n5, if_neg n6, if_pos h] at hK
      obtain ⟨k0, hk0, hhd⟩ := one (by omega)
      rw [hhd] at hK
      intro M1 b8 hl1 hb8 M2 b9 hl2 hb9 M3 b10 hl3 hb10
      have hle := (hl1.trans hl2).trans hl3
      exact s_well_of_1 _ _ _ _ _ _ (kid hle (hb8.le (hl2.trans hl3)) (hb9.le hl3) (hat3 hb10) 0 (by omega) k0 hk0 _ ⟨_, rfl, s_well_star _ _ _ (star_is _ _ _ ⟨_, rfl, hK⟩)⟩)
    · rw [if_neg n1, if_neg n2, if_neg n3, if_neg n4, if_neg n5, if_neg n6, if_neg n7, if_pos h] at hK
      obtain ⟨k0, hk0, hhd⟩ := one (by omega)
      rw [hhd] at hK
      intro M1 b8 hl1 hb8 M2 b9 hl2 hb9 M3 b10 hl3 hb10
      have hle := (hl1.trans hl2).trans hl3
      have kk := fun K hK => s_well_of_1 _ _ _ _ _ _ (kid hle (hb8.le (hl2.trans hl3)) (hb9.le hl3) (hat3 hb10) 0 (by omega) k0 hk0 K hK)
      exact kk _ ⟨_, rfl, kk _ ⟨_, rfl, s_well_star _ _ _ (star_is _ _ _ ⟨_, rfl, s_well_then _ _ _ _ (then_is _ _ _ _ ⟨_, rfl, hK⟩)⟩)⟩⟩
    · rw [if_neg n1, if_neg n2, if_neg n3, if_neg n4, if_neg n5, if_neg n6, if_neg n7, if_neg n8, if_pos h] at hK
      obtain ⟨k0, hk0, hhd⟩ := one (by omega)
      rw [hhd] at hK
      intro M1 b8 hl1 hb8 M2 b9 hl2 hb9 M3 b10 hl3 hb10
      have hle := (hl1.trans hl2).trans hl3
      exact s_well_of_1 _ _ _ _ _ _ (kid hle (hb8.le (hl2.trans hl3)) (hb9.le hl3) (hat3 hb10) 0 (by omega) k0 hk0 _ ⟨_, rfl, s_well_or _ _ _ _ (or_is _ _ _ _ ⟨_, rfl, hK⟩)⟩)
    · rw [if_neg n1, if_neg n2, if_neg n3, if_neg n4, if_neg n5, if_neg n6, if_neg n7, if_neg n8, if_neg n9] at hK
      obtain ⟨k0, hk0, hhd⟩ := one (by omega)
      rw [hhd] at hK
      intro M1 b8 hl1 hb8 M2 b9 hl2 hb9 M3 b10 hl3 hb10
      have hle := (hl1.trans hl2).trans hl3
      have j1 : ∀ b : Bool, b = ((ofE rs kn k0).Empty || (ofE rs kn k0).Eats) → S_well_of_J1 b10 M3 (ofE rs kn k0) b K := by
        rintro b rfl
        unfold S_well_of_J1
        refine ⟨_, (hat3 hb10).part 0 [Value.int .i64 x.Kind] rfl, fun h => ?_, fun h => ?_⟩
        · rw [hx.kind] at h; rw [if_pos h] at hK; exact hK
        · rw [hx.kind] at h; rw [if_neg h] at hK; exact hK
      refine s_well_of_1 _ _ _ _ _ _ (kid hle (hb8.le (hl2.trans hl3)) (hb9.le hl3) (hat3 hb10) 0 (by omega) k0 hk0 _ ⟨_, rfl, fun h => j1 _ (by simp [h]), fun h => j1 _ (by simp [h])⟩)

/-- The closure that a rule's facts are asked of. -/
theorem facts1_is {rs : List Ru} {kn : List Fa} {ga ra : Option Addr} {gl gc rc b5 : Nat} {M : Mem} (hok : GramOk rs) (hlen : kn.length = rs.length) (hg : GrR M rs ga gl gc) (hkn : SlV M ra kn.length rc 3 (cl X_api_Facts.cells kn)) (h5 : At M b5 0 [Value.slice ga gl gc])
    (i : Int) (h0 : 0 ≤ i) (h1 : i < rs.length) (K : Value → Prop) (hK : K (Fof rs kn i.toNat).val) : S_well_facts_1 ra kn.length rc i b5 M K := by
  obtain ⟨r, x, b, o, hr, ha, hat, hrr⟩ := hg.at h0 (by rw [hg.len]; exact h1)
  unfold S_well_facts_1
  refine ⟨_, _, _, h5, _, _, _, h5, b, o, ha, h0, by rw [hg.len]; exact h1, x.Body, hat.part 1 x.Body.cells rfl, s_well_of _ _ _ _ _ _ _ _ _ (of_is hlen _ r.body (Nat.lt_succ_self _) hrr.2.2 hg hkn (hok.good r (List.mem_of_getElem? hr)) ⟨_, rfl, ?_⟩)⟩
  rw [Fof, hr] at hK
  exact hK
end Go.Proofs.Ytifkffmecfgpeaa.core
