/- Contracts of functions: what each answers at every input that its caller may hand it. No condition. -/
import Derived.Test.YtaljnkggjadonaaReachX
namespace Go.Proofs.Ytaljnkggjadonaa.core
open Go.Gx Go.RowKit Go.ChangeShapes Go.WideShapes Go.ChangeAt
/-! ### The reference's Reach -/

theorem wkB_lt {v : List Bool} {j : Nat} (h : wkB v j = true) : j < v.length := by
  unfold wkB at h
  rcases Nat.lt_or_ge j v.length with h' | h'
  · exact h'
  · rw [List.getElem?_eq_none h'] at h; cases h
theorem sc_lt {rs : List Ru} (hok : GramOk rs) {j m : Nat} (h : m ∈ sc rs j) : m < rs.length := by
  unfold sc at h
  split at h
  · rename_i r hr
    obtain ⟨s, hs, rfl⟩ := List.mem_map.1 h
    exact (findR_lt (refs_lt hok (List.mem_of_getElem? hr) s hs)).1
  · cases h

theorem set_true_cases {v : List Bool} {m : Nat} (hm : m < v.length) : (wkB v m = true ∧ v.set m true = v) ∨ wS bit 1 (v.set m true) < wS bit 1 v := by
  obtain ⟨a, ha⟩ := getN hm
  cases a with
  | true => exact .inl ⟨by rw [wkB, ha]; rfl, set_same ha⟩
  | false => exact .inr (wS_set bLat ha (fun h => (by cases h)) (by decide))

theorem rreach_is {rs : List Ru} {ga : Option Addr} {gl gc : Nat} {M : Mem} (hok : GramOk rs) (hg : GrR M rs ga gl gc) (K : Value → Mem → Prop)
    (hK : ∀ M' ad cap v, M.le M' → SlV M' ad rs.length cap 1 (cl bC v) → v.length = rs.length → wkB v 0 = true → Shut rs v → (∀ z, z.length = rs.length → Shut rs z → wkB z 0 = true → leL bLe v z) → K (.slice ad rs.length cap) M') : S_chaffref_Reach ga gl gc M K := by
  have h1 := hok.one
  have h10 := hok.ten
  have hgl := hg.len
  have L := bLat
  unfold S_chaffref_Reach
  rw [hgl]
  simp only [Int.toNat_natCast]
  let n := rs.length
  have hlow0 : ∀ z : List Bool, z.length = n → Shut rs z → wkB z 0 = true → leL bLe ((List.replicate n false).set 0 true) z := fun z hz _ hz0 =>
    le_set (by simp [n]; omega) ⟨by simp [hz], fun i a b ha _ h => by rw [(List.mem_replicate.1 (List.mem_of_getElem? ha)).2] at h; cases h⟩ hz0
  have hput0 : putAt (repl rs.length [Value.bool false]) (0 + (0 : Int).toNat * 1) [Value.bool true] = cl bC ((List.replicate n false).set 0 true) := by
    rw [show repl rs.length [Value.bool false] = cl bC (List.replicate n false) from (cl_replicate bC _ false).symm]
    exact cl_put bC_len true (by simp [n]; omega)
  refine ⟨by omega, by omega, by omega, by omega, by omega, ?_⟩
  refine ⟨fun k rn rx M1 => 0 ≤ k ∧ k ≤ n ∧ M.le M1 ∧ rn = n ∧ ∃ v : List Bool, rx = cl bC v ∧ v.length = n ∧ wkB v 0 = true ∧ (∀ z, z.length = n → Shut rs z → wkB z 0 = true → leL bLe v z) ∧ (Shut rs v ∨ wS bit 1 v + k ≤ n), fun k _ _ => n - k.toNat, ⟨by omega, by simp only [n]; omega, Mem.le.refl M, rfl, _, hput0, by simp, by rw [wkB_set (by simp [n]; omega)]; simp, hlow0, .inr ?_⟩, fun k rn rx M1 ⟨k0, k1, hM1, hrn, v, hrx, hvl, hv0, hlow, hst⟩ => ⟨fun hlt => ?_, fun hge => ?_⟩⟩
  · have := wS_all (wt := bit) (m := 1) ((List.replicate n false).set 0 true)
    simp only [List.length_set, List.length_replicate] at this
    omega
  · subst hrn hrx
    refine ⟨fun i rn rx M2 => 0 ≤ i ∧ i ≤ n ∧ M.le M2 ∧ rn = n ∧ ∃ v2 : List Bool, rx = cl bC v2 ∧ v2.length = n ∧ wkB v2 0 = true ∧ (∀ z, z.length = n → Shut rs z → wkB z 0 = true → leL bLe v2 z) ∧ leL bLe v v2 ∧ ((v2 = v ∧ ∀ j : Nat, (j : Int) < i → wkB v j = true → ∀ m ∈ sc rs j, wkB v m = true) ∨ wS bit 1 v2 < wS bit 1 v), fun i _ _ => n - i.toNat, ⟨by omega, by simp only [n]; omega, hM1, rfl, v, rfl, hvl, hv0, hlow, leL.refl L v, .inl ⟨rfl, fun j h => by omega⟩⟩, fun i rn rx M2 ⟨i0, i1, hM2, hrn, v2, hrx, hv2l, hv20, hlow2, hle2, hst2⟩ => ⟨fun hlt2 => ?_, fun hge2 => ?_⟩⟩
    · subst hrn hrx
      obtain ⟨iN, rfl⟩ := Int.eq_ofNat_of_zero_le i0
      have hiN : iN < n := by simp only [n]; omega
      obtain ⟨r, x, b, o, hr, ha, hat, hrr⟩ := (hg.le hM2).at (i := (iN : Int)) i0 (by rw [hgl]; exact hlt2)
      rw [Int.toNat_natCast] at hr
      have hrm := List.mem_of_getElem? hr
      have hsc : sc rs iN = (refsE r.body).map fun s => (findR s rs 0).toNat := by unfold sc; simp only [hr]
      have hrl := refs_lt hok hrm
      refine ⟨b, o, ha, i0, hlt2, x, hat, s_chaffref_Refs _ _ _ (rrefs_is r.body x.Body _ _ hrr.2.2 (hok.err r hrm) fun M3 A3 c3 hle3 hsl3 => ⟨_, _, _, rfl, ?_⟩)⟩
      have hmx3 := hsl3.max
      have hg3 : GrR M3 rs ga rs.length gc := by have h := hg.le (hM2.trans hle3); rw [hgl] at h; exact h
      refine ⟨fun x rn rx => 0 ≤ x ∧ x ≤ (refsE r.body).length ∧ rn = n ∧ ∃ v3 : List Bool, rx = cl bC v3 ∧ v3.length = n ∧ wkB v3 0 = true ∧ (∀ z, z.length = n → Shut rs z → wkB z 0 = true → leL bLe v3 z) ∧ leL bLe v v3 ∧ ((v3 = v ∧ (∀ j : Nat, (j : Int) < iN → wkB v j = true → ∀ m ∈ sc rs j, wkB v m = true) ∧ (wkB v iN = true → ∀ s ∈ (refsE r.body).take x.toNat, wkB v (findR s rs 0).toNat = true)) ∨ wS bit 1 v3 < wS bit 1 v), fun x _ _ => (refsE r.body).length - x.toNat, ⟨by omega, by omega, rfl, v2, rfl, hv2l, hv20, hlow2, hle2, hst2.imp (fun ⟨e1, e2⟩ => ⟨e1, e2, fun _ s hs => by simp at hs⟩) id⟩, fun x5 rn rx ⟨x0, x1, hrn, v3, hrx, hv3l, hv30, hlow3, hle3', hst3⟩ => ⟨fun hlt3 => ?_, fun hge3 => ?_⟩⟩
      · subst hrn hrx
        obtain ⟨s, hs⟩ := getI (l := refsE r.body) x0 hlt3
        have hpos := hrl s (List.mem_of_getElem? hs)
        obtain ⟨hflt, hflt'⟩ := findR_lt hpos
        obtain ⟨b6, o6, ha6, hat6⟩ := SlV1 hsl3 rfl hs
        obtain ⟨a, haa⟩ := getN (l := v3) (i := iN) (by omega)
        have htk : (refsE r.body).take (x5 + 1).toNat = (refsE r.body).take x5.toNat ++ [s] := by rw [show (x5 + 1).toNat = x5.toNat + 1 by omega, take_get hs]
        refine ⟨b6, o6, ha6, x0, hlt3, s, hat6, i0, hlt2, a, ?_, fun ht => ?_, fun hf => ?_⟩
        · rw [Int.toNat_natCast]; exact cl_Cs bC_len haa
        · have hi3 : wkB v3 iN = true := by rw [wkB, haa]; exact ht
          refine s_chaffref_Find _ _ _ _ _ _ (rfind_is hg3 s _ ⟨_, rfl, hpos, by simp only [n]; omega, ?_⟩)
          refine ⟨by unfold InI; omega, ⟨by omega, by omega, rfl, v3.set (findR s rs 0).toNat true, cl_put bC_len true (by omega), by simp [hv3l], ?_, fun z hz hsz hz0 => ?_, ?_, ?_⟩, by dsimp only; omega⟩
          · rw [wkB_set (by omega), hv30, Bool.or_true]
          · have h5 := hlow3 z hz hsz hz0
            exact le_set (by omega) h5 (hsz iN _ (wkB_le h5 hi3) (by rw [hsc]; exact List.mem_map.2 ⟨s, List.mem_of_getElem? hs, rfl⟩))
          · obtain ⟨q, hq⟩ := getN (l := v3) (i := (findR s rs 0).toNat) (by omega)
            exact hle3'.trans L (leL.set L hq (fun _ => rfl))
          · rcases set_true_cases (v := v3) (m := (findR s rs 0).toNat) (by omega) with ⟨e1, e2⟩ | hw
            · rw [e2]
              refine hst3.imp (fun ⟨f1, f2, f3⟩ => ⟨f1, f2, fun hvi s' hs' => ?_⟩) id
              rw [htk] at hs'
              rcases List.mem_append.1 hs' with hs' | hs'
              · exact f3 hvi s' hs'
              · simp at hs'; rw [hs', ← f1]; exact e1
            · right
              have := (wS_le L hle3').1
              omega
        · have hi3 : wkB v3 iN = false := by rw [wkB, haa]; simpa using hf
          refine ⟨by unfold InI; omega, ⟨by omega, by omega, rfl, v3, rfl, hv3l, hv30, hlow3, hle3', hst3.imp (fun ⟨f1, f2, f3⟩ => ⟨f1, f2, fun hvi => ?_⟩) id⟩, by dsimp only; omega⟩
          rw [f1] at hi3; rw [hi3] at hvi; cases hvi
      · subst hrn hrx
        refine ⟨by unfold InI; omega, ⟨by omega, by omega, hM2.trans hle3, rfl, v3, rfl, hv3l, hv30, hlow3, hle3', hst3.imp (fun ⟨f1, f2, f3⟩ => ⟨f1, fun j hj hvj m hm => ?_⟩) id⟩, by dsimp only; omega⟩
        rw [List.take_of_length_le (by omega)] at f3
        by_cases hji : j = iN
        · subst hji
          rw [hsc] at hm
          obtain ⟨s, hs, rfl⟩ := List.mem_map.1 hm
          exact f3 hvj s hs
        · exact f2 j (by omega) hvj m hm
    · subst hrn hrx
      refine ⟨by unfold InI; omega, ⟨by omega, by omega, hM2, rfl, v2, rfl, hv2l, hv20, hlow2, ?_⟩, by dsimp only; omega⟩
      rcases hst2 with ⟨e1, e2⟩ | hw
      · left
        rw [e1]
        exact fun j m hj hm => e2 j (by have := wkB_lt hj; omega) hj m hm
      · right
        rcases hst with hs | hs
        · exfalso
          have := (wS_le L (hlow2 v hvl hs hv0)).1
          omega
        · omega
  · subst hrn hrx
    intro M2 ad cap hle2 hsl2 M3 hle3
    refine hK M3 ad cap v ((hM1.trans hle2).trans hle3) (hsl2.le hle3) hvl hv0 ?_ hlow
    rcases hst with hs | hs
    · exact hs
    · have hz : wS bit 1 v = 0 := by simp only [n] at hs ⊢; omega
      intro j m _ hm
      have hml := sc_lt hok hm
      obtain ⟨a, ha⟩ := getN (l := v) (i := m) (by omega)
      cases a with
      | true => rw [wkB, ha]; rfl
      | false =>
        have := wS_set L ha (show bLe false true from fun h => (by cases h)) (by decide)
        omega
end Go.Proofs.Ytaljnkggjadonaa.core
