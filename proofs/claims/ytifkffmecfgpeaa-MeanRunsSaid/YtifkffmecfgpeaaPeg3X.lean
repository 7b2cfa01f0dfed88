/- Contracts of functions: what each answers at every input that its caller may hand it. No condition. -/
import Derived.Test.YtifkffmecfgpeaaPeg2X
namespace Go.Proofs.Ytifkffmecfgpeaa.core
open Go.Gx Go.RowKit Go.ChangeShapes Go.WideShapes Go.ChangeAt
/-! ### A grammar that is well: in what order its rules become known -/

theorem least {P : Nat → Prop} : ∀ k, P k → ∃ m, m ≤ k ∧ P m ∧ ∀ j, j < m → ¬ P j := by
  intro k
  induction k using Nat.strongRecOn with
  | _ k ih =>
    intro h
    by_cases hj : ∃ j, j < k ∧ P j
    · obtain ⟨j, hjk, hp⟩ := hj
      obtain ⟨m, h1, h2⟩ := ih j hjk hp
      exact ⟨m, by omega, h2⟩
    · exact ⟨k, Nat.le_refl _, h, fun j hjk hp => hj ⟨j, hjk, hp⟩⟩

structure WellOk (rs : List Ru) : Prop where
  ok : GramOk rs
  loop : ∀ r ∈ rs, loopB rs (knOf rs) r.body = false
  wk : ∀ i, i < rs.length → wkB (wkOf rs) i = true

theorem fstB_none : ∀ (l : List Bool) (i : Int), 0 ≤ i → fstB l i = -1 → ∀ b ∈ l, b = false
  | [], _, _, _, b, hb => by cases hb
  | a :: l, i, hi, h, b, hb => by
    rw [fstB] at h
    split at h
    · omega
    · rename_i ha
      rcases List.mem_cons.1 hb with rfl | hb
      · simpa using ha
      · exact fstB_none l (i + 1) (by omega) h b hb

theorem well_ok {rs : List Ru} (h : (wellP rs).2 = 0) : WellOk rs := by
  unfold wellP at h
  split at h
  · exact absurd h (by assumption)
  · rename_i h0
    split at h
    · cases h
    · rename_i h1
      split at h
      · cases h
      · rename_i h2
        refine ⟨gram_ok (Decidable.not_not.1 h0), fun r hr => ?_, fun i hi => ?_⟩
        · exact fstB_none _ 0 (by omega) (Decidable.not_not.1 h1) _ (List.mem_map.2 ⟨r, hr, rfl⟩)
        · obtain ⟨b, hb⟩ := getN (l := wkOf rs) (i := i) (by rw [(wkOf_lfp rs).len]; exact hi)
          have := fstB_none _ 0 (by omega) (Decidable.not_not.1 h2) _ (List.mem_map.2 ⟨b, List.mem_of_getElem? hb, rfl⟩)
          unfold wkB; rw [hb]; simpa using this

theorem WellOk.peg {rs : List Ru} (h : WellOk rs) {r : Ru} (hr : r ∈ rs) : PegOk rs r.body := ⟨h.ok.good r hr, h.loop r hr⟩

/-- The round in which a rule becomes known. -/
theorem WellOk.stage {rs : List Ru} (h : WellOk rs) : ∃ st : Nat → Nat, (∀ i, i < rs.length → 1 ≤ st i ∧ st i ≤ rs.length) ∧ ∀ (i : Nat) r, rs[i]? = some r → ∀ j ∈ needsE rs (knOf rs) r.body, st j < st i := by
  let n := rs.length
  let F := Gof rs (knOf rs)
  let W : Nat → List Bool := fun k => jacN (· || ·) F k (List.replicate n false)
  have hWl : ∀ k, (W k).length = n := fun k => by show (jacN _ _ _ _).length = n; rw [jacN_len]; simp
  have hall : ∀ i, i < n → wkB (W n) i = true := fun i hi => by
    have hN : W (n + 1) = wkOf rs := rfl
    rcases jacN_stab (F := F) bLat (List.replicate n false) n with hs | hs
    · have : W (n + 1) = W n := hs
      rw [← this, hN]; exact h.wk i hi
    · have h0 := wS_all (wt := bit) (m := 1) (List.replicate n false)
      rw [List.length_replicate] at h0
      have hz : wS bit 1 (W n) = 0 := by show wS bit 1 (jacN _ F n _) = 0; omega
      obtain ⟨b, hb⟩ := getN (l := W n) (i := i) (by rw [hWl]; exact hi)
      unfold wkB; rw [hb]
      cases b with
      | true => rfl
      | false =>
        have := wS_set bLat (le := bLe) (b := true) hb (fun h => (by cases h)) (by simp)
        omega
  have hex : ∀ i, ∃ m, i < n → (m ≤ n ∧ wkB (W m) i = true ∧ ∀ j, j < m → ¬ wkB (W j) i = true) := fun i => by
    by_cases hi : i < n
    · obtain ⟨m, hm⟩ := least (P := fun k => wkB (W k) i = true) n (hall i hi)
      exact ⟨m, fun _ => hm⟩
    · exact ⟨0, fun h => absurd h hi⟩
  refine ⟨fun i => Classical.choose (hex i), fun i hi => ?_, fun i r hr j hj => ?_⟩
  · obtain ⟨h1, h2, h3⟩ := Classical.choose_spec (hex i) hi
    refine ⟨?_, h1⟩
    rcases Nat.eq_zero_or_pos (Classical.choose (hex i)) with h0 | h0
    · rw [h0] at h2
      have : wkB (List.replicate n false) i = true := h2
      unfold wkB at this
      rw [List.getElem?_replicate, if_pos hi] at this
      cases this
    · exact h0
  · have hi : i < n := (List.getElem?_eq_some_iff.1 hr).1
    have hjn : j < n := needsE_lt _ _ (h.ok.good r (List.mem_of_getElem? hr)) j hj
    obtain ⟨h1, h2, h3⟩ := Classical.choose_spec (hex i) hi
    obtain ⟨k1, k2, k3⟩ := Classical.choose_spec (hex j) hjn
    show Classical.choose (hex j) < Classical.choose (hex i)
    generalize Classical.choose (hex i) = a at h1 h2 h3
    generalize Classical.choose (hex j) = b at k1 k2 k3
    cases a with
    | zero =>
      have : wkB (List.replicate n false) i = true := h2
      unfold wkB at this
      rw [List.getElem?_replicate, if_pos hi] at this
      cases this
    | succ a =>
      have hno := h3 a (by omega)
      obtain ⟨c, hc⟩ := getN (l := W a) (i := i) (by rw [hWl]; exact hi)
      have hcf : c = false := by
        cases c with
        | false => rfl
        | true => exact absurd (by unfold wkB; rw [hc]; rfl) hno
      subst hcf
      have : (W (a + 1))[i]? = some (false || F (W a) i) := jac_get hc
      unfold wkB at h2
      rw [this] at h2
      have hF : F (W a) i = true := by simpa using h2
      have hF' : Gof rs (knOf rs) (W a) i = true := hF
      unfold Gof at hF'
      simp only [hr] at hF'
      unfold soundB at hF'
      rw [List.all_eq_true] at hF'
      have hja := hF' j hj
      rcases Nat.lt_or_ge b (a + 1) with h' | h'
      · exact h'
      · exact absurd hja (k3 a (by omega))
end Go.Proofs.Ytifkffmecfgpeaa.core
