/- Contracts of functions: what each answers at every input that its caller may hand it. No condition. -/
import Derived.Test.YtifkffmecfgpeaaWell5X
namespace Go.Proofs.Ytifkffmecfgpeaa.core
open Go.Gx Go.RowKit Go.ChangeShapes Go.WideShapes Go.ChangeAt
/-! ### The facts of a right grammar, as a function of it -/

def knOf (rs : List Ru) : List Fa := jacN faUni (Fof rs) (3 * rs.length + 1) (List.replicate rs.length fa0)
theorem fa0_le (a : Fa) : faLe fa0 a := ⟨fun h => (by cases h), fun h => (by cases h), fun h => (by cases h)⟩
theorem knOf_lfp (rs : List Ru) : Lfp faLe (Fof rs) rs.length (knOf rs) := jac_lfp faLat (Fof_mono rs _) fa0 fa0_le _ (by omega)
theorem knOf_len (rs : List Ru) : (knOf rs).length = rs.length := (knOf_lfp rs).len
theorem knOf_eq {rs : List Ru} {kn : List Fa} (h : Lfp faLe (Fof rs) rs.length kn) : kn = knOf rs := h.same faLat (knOf_lfp rs)

theorem pfacts_is {rs : List Ru} {ga : Option Addr} {gl gc : Nat} {M : Mem} (hok : GramOk rs) (hg : GrR M rs ga gl gc) (K : Value → Mem → Prop)
    (hK : ∀ M' ad cap, M.le M' → SlV M' ad rs.length cap 3 (cl X_api_Facts.cells (knOf rs)) → K (.slice ad rs.length cap) M') : S_well_facts ga gl gc M K :=
  facts_is hok hg K fun M' ad cap kn hle hsl hlfp => by rw [knOf_eq hlfp] at hsl; exact hK M' ad cap hle hsl
theorem pmays_is {rs : List Ru} {ga : Option Addr} {gl gc : Nat} {M : Mem} (hok : GramOk rs) (hg : GrR M rs ga gl gc) (K : Value → Mem → Prop)
    (hK : ∀ M' ad cap, M.le M' → SlV M' ad rs.length cap 1 (cl encC (knOf rs)) → K (.slice ad rs.length cap) M') : S_chaffref_Mays ga gl gc M K :=
  mays_is hok hg K fun M' ad cap kn hle hsl hlfp => by rw [knOf_eq hlfp] at hsl; exact hK M' ad cap hle hsl

/-! ### Loops -/

def ndB (rs : List Ru) (kn : List Fa) (x : Ex) : Bool := decide (x.kind = 7 ∨ x.kind = 8) && (hdF (x.kids.map (ofE rs kn))).Empty
def loopB (rs : List Ru) (kn : List Fa) (e : Ex) : Bool := (flatE e).any (ndB rs kn)
theorem flatEs_any (p : Ex → Bool) : ∀ ks : List Ex, (flatEs ks).any p = ks.any fun k => (flatE k).any p
  | [] => by rw [flatEs]; rfl
  | k :: ks => by rw [flatEs, List.any_append, flatEs_any p ks]; rfl
theorem flatE_eq (e : Ex) : flatE e = e :: flatEs e.kids := by cases e; rw [flatE]; rfl
theorem loopB_eq (rs : List Ru) (kn : List Fa) (e : Ex) : loopB rs kn e = (ndB rs kn e || e.kids.any (loopB rs kn)) := by
  unfold loopB
  rw [flatE_eq, List.any_cons, flatEs_any]

theorem loops_is {rs : List Ru} {kn : List Fa} {ga ra : Option Addr} {gl gc rc : Nat} (hlen : kn.length = rs.length) : ∀ (n : Nat) (e : Ex), SizeOf.sizeOf e < n → ∀ {M : Mem} {x : X_api_Expr} {K : Value → Prop}, ExR M e x → GrR M rs ga gl gc →
    SlV M ra kn.length rc 3 (cl X_api_Facts.cells kn) → GoodE rs e → K (.bool (loopB rs kn e)) → S_well_loops ga gl gc ra kn.length rc x M K := by
  intro n
  induction n with
  | zero => intro e h; omega
  | succ n ih =>
    intro e hn M x K hR hg hkn hgood hK
    obtain ⟨xs, hx⟩ := hR.open
    obtain ⟨g1, g2, g3, g4, g5, g6, g7, g8⟩ := fitE_kinds hgood.fit
    rw [loopB_eq] at hK
    have hl8 : e.kids.length ≤ 8 := by
      by_cases h4 : e.kind ≤ 4
      · rw [g3 h4]; simp
      · by_cases h7 : 7 ≤ e.kind
        · have := g5 h7; omega
        · exact (g4 (by omega)).2
    have j1 : ∀ b : Bool, b = ndB rs kn e → S_well_loops_J1 ga gl gc ra kn.length rc x M b K := by
      intro b hb
      unfold S_well_loops_J1
      rw [← hb] at hK
      refine ⟨fun h => by rw [h, Bool.true_or] at hK; exact hK, fun h => ?_⟩
      have h : b = false := by simpa using h
      rw [h, Bool.false_or] at hK
      refine ⟨fun i => 0 ≤ i ∧ i ≤ e.kids.length ∧ (e.kids.drop i.toNat).any (loopB rs kn) = e.kids.any (loopB rs kn), fun i => e.kids.length - i.toNat, ⟨by omega, by omega, rfl⟩, fun i ⟨i0, i1, heq⟩ => ⟨fun hlt => ?_, fun hge => ?_⟩⟩
      · rw [hx.len] at hlt
        obtain ⟨k, hk⟩ := getI (l := e.kids) i0 hlt
        obtain ⟨b, o, y, ha, hat, hy, _⟩ := hx.kid hk
        have hmem := List.mem_of_getElem? hk
        rw [drop_get hk, List.any_cons] at heq
        refine ⟨b, o, ha, i0, by rw [hx.len]; exact hlt, y, hat, s_well_loops _ _ _ _ _ _ _ _ _ (ih k (by have := Ex.kid_lt hmem; omega) hy hg hkn (hgood.kid k hmem) ⟨_, rfl, fun ht => ?_, fun hf => ⟨by unfold InI; omega, ⟨by omega, by omega, ?_⟩, by dsimp only; omega⟩⟩)⟩
        · rw [ht, Bool.true_or] at heq; rw [← heq] at hK; exact hK
        · have hf : loopB rs kn k = false := by simpa using hf
          rw [hf, Bool.false_or] at heq
          rw [show (i + 1).toNat = i.toNat + 1 by omega]; exact heq
      · rw [hx.len] at hge
        rw [List.drop_of_length_le (by omega), List.any_nil] at heq
        rw [← heq] at hK; exact hK
    have kid0 : 7 ≤ e.kind → ∃ k b o y, e.kids = [k] ∧ x.Kids_a = some ⟨b, o, none⟩ ∧ At M b (o + (0 : Int).toNat * 7) y.cells ∧ ExR M k y ∧ k ∈ e.kids := fun h7 => by
      obtain ⟨k, hk⟩ : ∃ k, e.kids = [k] := List.length_eq_one_iff.1 (g5 h7)
      obtain ⟨b, o, y, ha, hat, hy, _⟩ := hx.kid (i := 0) (k := k) (by rw [hk]; rfl)
      exact ⟨k, b, o, y, hk, ha, hat, hy, by rw [hk]; simp⟩
    unfold S_well_loops
    rw [hx.kind]
    have hx1 : 7 ≤ e.kind → (0 : Int) < ((x.Kids_l : Nat) : Int) := fun h7 => by rw [hx.len, g5 h7]; omega
    refine ⟨fun h7 => ?_, fun n7 => ⟨fun h8 => ?_, fun n8 => j1 _ (by simp [ndB, n7, n8])⟩⟩
    · obtain ⟨k, b, o, y, hk, ha, hat, hy, hmem⟩ := kid0 (by omega)
      refine ⟨b, o, ha, by omega, hx1 (by omega), y, hat, s_well_of _ _ _ _ _ _ _ _ _ (of_is hlen _ k (Nat.lt_succ_self _) hy hg hkn (hgood.kid k hmem) ⟨_, rfl, j1 _ ?_⟩)⟩
      simp [ndB, h7, hk, hdF]
    · obtain ⟨k, b, o, y, hk, ha, hat, hy, hmem⟩ := kid0 (by omega)
      refine ⟨b, o, ha, by omega, hx1 (by omega), y, hat, s_well_of _ _ _ _ _ _ _ _ _ (of_is hlen _ k (Nat.lt_succ_self _) hy hg hkn (hgood.kid k hmem) ⟨_, rfl, j1 _ ?_⟩)⟩
      simp [ndB, h8, hk, hdF]

/-! ### What an expression needs -/

mutual
def needsE (rs : List Ru) (kn : List Fa) : Ex → List Nat
  | .mk k s t ks => if k = 4 then [(findR t rs 0).toNat] else if k = 5 then needsQ rs kn ks else needsA rs kn ks
def needsQ (rs : List Ru) (kn : List Fa) : List Ex → List Nat
  | [] => []
  | k :: ks => needsE rs kn k ++ (if (ofE rs kn k).Empty then needsQ rs kn ks else [])
def needsA (rs : List Ru) (kn : List Fa) : List Ex → List Nat
  | [] => []
  | k :: ks => needsE rs kn k ++ needsA rs kn ks
end
theorem needsE_eq (rs : List Ru) (kn : List Fa) (e : Ex) : needsE rs kn e = if e.kind = 4 then [(findR e.text rs 0).toNat] else if e.kind = 5 then needsQ rs kn e.kids else needsA rs kn e.kids := by
  cases e; rw [needsE]; rfl
mutual
theorem needsE_len (rs : List Ru) (kn : List Fa) : ∀ e : Ex, (needsE rs kn e).length ≤ (flatE e).length
  | .mk k s t ks => by
    rw [needsE, flatE]
    split
    · simp
    · split
      · have := needsQ_len rs kn ks; simp; omega
      · have := needsA_len rs kn ks; simp; omega
theorem needsQ_len (rs : List Ru) (kn : List Fa) : ∀ ks : List Ex, (needsQ rs kn ks).length ≤ (flatEs ks).length
  | [] => by simp [needsQ]
  | k :: ks => by
    have h1 := needsE_len rs kn k
    have h2 := needsQ_len rs kn ks
    rw [needsQ, flatEs, List.length_append, List.length_append]
    split
    · omega
    · simp; omega
theorem needsA_len (rs : List Ru) (kn : List Fa) : ∀ ks : List Ex, (needsA rs kn ks).length ≤ (flatEs ks).length
  | [] => by simp [needsA]
  | k :: ks => by
    have h1 := needsE_len rs kn k
    have h2 := needsA_len rs kn ks
    rw [needsA, flatEs, List.length_append, List.length_append]
    omega
end
mutual
theorem needsE_lt {rs : List Ru} (kn : List Fa) : ∀ e : Ex, GoodE rs e → ∀ i ∈ needsE rs kn e, i < rs.length
  | .mk k s t ks, h, i, hi => by
    rw [needsE] at hi
    split at hi
    · rename_i h4
      simp at hi; subst hi
      exact (findR_lt (h.ref h4)).1
    · split at hi
      · exact needsQ_lt kn ks (fun k hk => h.kid k hk) i hi
      · exact needsA_lt kn ks (fun k hk => h.kid k hk) i hi
theorem needsQ_lt {rs : List Ru} (kn : List Fa) : ∀ ks : List Ex, (∀ k ∈ ks, GoodE rs k) → ∀ i ∈ needsQ rs kn ks, i < rs.length
  | [], _, i, hi => by simp [needsQ] at hi
  | k :: ks, h, i, hi => by
    rw [needsQ] at hi
    rcases List.mem_append.1 hi with hi | hi
    · exact needsE_lt kn k (h k (by simp)) i hi
    · split at hi
      · exact needsQ_lt kn ks (fun k hk => h k (by simp [hk])) i hi
      · cases hi
theorem needsA_lt {rs : List Ru} (kn : List Fa) : ∀ ks : List Ex, (∀ k ∈ ks, GoodE rs k) → ∀ i ∈ needsA rs kn ks, i < rs.length
  | [], _, i, hi => by simp [needsA] at hi
  | k :: ks, h, i, hi => by
    rw [needsA] at hi
    rcases List.mem_append.1 hi with hi | hi
    · exact needsE_lt kn k (h k (by simp)) i hi
    · exact needsA_lt kn ks (fun k hk => h k (by simp [hk])) i hi
end

def wkB (wk : List Bool) (i : Nat) : Bool := (wk[i]?).getD false
def soundB (rs : List Ru) (kn : List Fa) (wk : List Bool) (e : Ex) : Bool := (needsE rs kn e).all (wkB wk)

theorem sound_is {rs : List Ru} {kn : List Fa} {wk : List Bool} {ga ra wa : Option Addr} {gl gc rc wc : Nat} (hlen : kn.length = rs.length) (hwl : wk.length = rs.length) : ∀ (n : Nat) (e : Ex), SizeOf.sizeOf e < n → ∀ {M : Mem} {x : X_api_Expr} {K : Value → Prop}, ExR M e x → GrR M rs ga gl gc →
    SlV M ra kn.length rc 3 (cl X_api_Facts.cells kn) → SlV M wa wk.length wc 1 (cl bC wk) → GoodE rs e → K (.bool (soundB rs kn wk e)) → S_well_sound ga gl gc ra kn.length rc wa wk.length wc x M K := by
  intro n
  induction n with
  | zero => intro e h; omega
  | succ n ih =>
    intro e hn M x K hR hg hkn hwk hgood hK
    obtain ⟨xs, hx⟩ := hR.open
    obtain ⟨g1, g2, g3, g4, g5, g6, g7, g8⟩ := fitE_kinds hgood.fit
    have hl8 : e.kids.length ≤ 8 := by
      by_cases h4 : e.kind ≤ 4
      · rw [g3 h4]; simp
      · by_cases h7 : 7 ≤ e.kind
        · have := g5 h7; omega
        · exact (g4 (by omega)).2
    rw [soundB, needsE_eq] at hK
    unfold S_well_sound
    rw [hx.kind]
    refine ⟨fun h4 => ?_, fun n4 => ⟨fun h5 => ?_, fun n5 => ?_⟩⟩
    · rw [if_pos h4] at hK
      have hr := hgood.ref h4
      obtain ⟨hlt, hlt'⟩ := findR_lt hr
      obtain ⟨a, ha⟩ := getN (l := wk) (i := (findR e.text rs 0).toNat) (by omega)
      obtain ⟨b, o, hb, hat⟩ := hwk.at (f := bC) (fun _ => rfl) rfl ha
      rw [hx.text]
      refine s_gram_Find _ _ _ _ _ _ (find_is hg e.text _ ⟨_, rfl, b, o, hb, hr, by omega, a, hat, ?_⟩)
      simp only [List.all_cons, List.all_nil, Bool.and_true, wkB, ha, Option.getD_some] at hK
      exact hK
    · rw [if_neg n4, if_pos h5] at hK
      refine ⟨fun i => 0 ≤ i ∧ i ≤ e.kids.length ∧ (needsQ rs kn (e.kids.drop i.toNat)).all (wkB wk) = (needsQ rs kn e.kids).all (wkB wk), fun i => e.kids.length - i.toNat, ⟨by omega, by omega, rfl⟩, fun i ⟨i0, i1, heq⟩ => ⟨fun hlt => ?_, fun hge => ?_⟩⟩
      · rw [hx.len] at hlt
        obtain ⟨k, hk⟩ := getI (l := e.kids) i0 hlt
        obtain ⟨b, o, y, ha, hat, hy, _⟩ := hx.kid hk
        have hmem := List.mem_of_getElem? hk
        rw [drop_get hk, needsQ, List.all_append] at heq
        refine ⟨b, o, ha, i0, by rw [hx.len]; exact hlt, y, hat, s_well_sound _ _ _ _ _ _ _ _ _ _ _ _ (ih k (by have := Ex.kid_lt hmem; omega) hy hg hkn hwk (hgood.kid k hmem) ⟨_, rfl, fun hf => ?_, fun ht => ?_⟩)⟩
        · have hf : (needsE rs kn k).all (wkB wk) = false := by simpa [soundB] using hf
          rw [hf, Bool.false_and] at heq; rw [← heq] at hK; exact hK
        · have ht : (needsE rs kn k).all (wkB wk) = true := by simpa [soundB] using ht
          rw [ht, Bool.true_and] at heq
          refine s_well_of _ _ _ _ _ _ _ _ _ (of_is hlen _ k (Nat.lt_succ_self _) hy hg hkn (hgood.kid k hmem) ⟨_, rfl, fun hf => ?_, fun ht2 => ⟨by unfold InI; omega, ⟨by omega, by omega, ?_⟩, by dsimp only; omega⟩⟩)
          · have hf : (ofE rs kn k).Empty = false := by simpa using hf
            rw [hf] at heq
            simp only [Bool.false_eq_true, if_false, List.all_nil] at heq
            rw [← heq] at hK; exact hK
          · have ht2 : (ofE rs kn k).Empty = true := by simpa using ht2
            rw [ht2, if_pos rfl] at heq
            rw [show (i + 1).toNat = i.toNat + 1 by omega]; exact heq
      · rw [hx.len] at hge
        rw [List.drop_of_length_le (by omega), needsQ, List.all_nil] at heq
        rw [← heq] at hK; exact hK
    · rw [if_neg n4, if_neg n5] at hK
      refine ⟨fun i => 0 ≤ i ∧ i ≤ e.kids.length ∧ (needsA rs kn (e.kids.drop i.toNat)).all (wkB wk) = (needsA rs kn e.kids).all (wkB wk), fun i => e.kids.length - i.toNat, ⟨by omega, by omega, rfl⟩, fun i ⟨i0, i1, heq⟩ => ⟨fun hlt => ?_, fun hge => ?_⟩⟩
      · rw [hx.len] at hlt
        obtain ⟨k, hk⟩ := getI (l := e.kids) i0 hlt
        obtain ⟨b, o, y, ha, hat, hy, _⟩ := hx.kid hk
        have hmem := List.mem_of_getElem? hk
        rw [drop_get hk, needsA, List.all_append] at heq
        refine ⟨b, o, ha, i0, by rw [hx.len]; exact hlt, y, hat, s_well_sound _ _ _ _ _ _ _ _ _ _ _ _ (ih k (by have := Ex.kid_lt hmem; omega) hy hg hkn hwk (hgood.kid k hmem) ⟨_, rfl, fun hf => ?_, fun ht => ⟨by unfold InI; omega, ⟨by omega, by omega, ?_⟩, by dsimp only; omega⟩⟩)⟩
        · have hf : (needsE rs kn k).all (wkB wk) = false := by simpa [soundB] using hf
          rw [hf, Bool.false_and] at heq; rw [← heq] at hK; exact hK
        · have ht : (needsE rs kn k).all (wkB wk) = true := by simpa [soundB] using ht
          rw [ht, Bool.true_and] at heq
          rw [show (i + 1).toNat = i.toNat + 1 by omega]; exact heq
      · rw [hx.len] at hge
        rw [List.drop_of_length_le (by omega), needsA, List.all_nil] at heq
        rw [← heq] at hK; exact hK

/-! ### Which rules are well -/

def bLe (a b : Bool) : Prop := a = true → b = true
theorem bLat : Lat bLe (· || ·) bit 1 where
  refl := fun a => id
  trans := fun h k => k ∘ h
  anti := by rintro (_ | _) (_ | _) <;> simp [bLe]
  left := by rintro (_ | _) (_ | _) <;> simp [bLe]
  right := by rintro (_ | _) (_ | _) <;> simp [bLe]
  least := by rintro (_ | _) (_ | _) (_ | _) <;> simp [bLe]
  mono := by rintro (_ | _) (_ | _) <;> simp [bLe, bit]
  strict := by rintro (_ | _) (_ | _) <;> simp [bLe, bit]
  bound := by rintro (_ | _) <;> simp [bit]

def Gof (rs : List Ru) (kn : List Fa) (wk : List Bool) (i : Nat) : Bool := match rs[i]? with
  | some r => soundB rs kn wk r.body
  | none => false
theorem Gof_mono (rs : List Ru) (kn : List Fa) (n : Nat) : MonoF bLe (Gof rs kn) n := fun a z i _ _ h => by
  unfold Gof
  split
  · intro hs
    rw [soundB, List.all_eq_true] at hs ⊢
    intro j hj
    have := hs j hj
    unfold wkB at this ⊢
    cases ha : a[j]? with
    | none => rw [ha] at this; cases this
    | some x =>
      rw [ha] at this
      obtain ⟨y, hy⟩ := getN (l := z) (i := j) (by have := (List.getElem?_eq_some_iff.1 ha).1; have := h.1; omega)
      rw [hy]; exact h.2 j x y ha hy this
  · exact id

def wkOf (rs : List Ru) : List Bool := jacN (· || ·) (Gof rs (knOf rs)) (rs.length + 1) (List.replicate rs.length false)
theorem wkOf_lfp (rs : List Ru) : Lfp bLe (Gof rs (knOf rs)) rs.length (wkOf rs) := jac_lfp bLat (Gof_mono rs _ _) false (fun a h => (by cases h)) _ (by omega)
theorem wkOf_eq {rs : List Ru} {wk : List Bool} (h : Lfp bLe (Gof rs (knOf rs)) rs.length wk) : wk = wkOf rs := h.same bLat (wkOf_lfp rs)
end Go.Proofs.Ytifkffmecfgpeaa.core
