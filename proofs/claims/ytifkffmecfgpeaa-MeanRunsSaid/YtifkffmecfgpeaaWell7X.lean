/- Contracts of functions: what each answers at every input that its caller may hand it. No condition. -/
import Derived.Test.YtifkffmecfgpeaaWell6X
namespace Go.Proofs.Ytifkffmecfgpeaa.core
open Go.Gx Go.RowKit Go.ChangeShapes Go.WideShapes Go.ChangeAt
/-! ### grow over bools, and Well -/

theorem bC_len (b : Bool) : (bC b).length = 1 := rfl
theorem grow_bool {F : List Bool → Nat → Bool} {n : Nat} (hF : MonoF bLe F n) (hn : n ≤ 10) (next : Value) (M : Mem) (K : Value → Mem → Prop)
    (hnext : ∀ M' ad cap kn, M.le M' → SlV M' ad n cap 1 (cl bC kn) → kn.length = n → ∀ i : Int, 0 ≤ i → i < n → CallF Try.prog next [.slice ad n cap, .int .i64 i] M' (fun v _ => v = .bool (F kn i.toNat)))
    (hK : ∀ M' ad cap kn, M.le M' → SlV M' ad n cap 1 (cl bC kn) → Lfp bLe F n kn → K (.slice ad n cap) M') : S_well_grow_bool (n : Int) next M (fun _ => False) K := by
  unfold S_well_grow_bool
  simp only [Int.toNat_natCast]
  refine ⟨by omega, by omega, by omega, fun M6 ad cap hnr => ?_⟩
  have h6 := GrowI.make hnr
  rw [show repl n [Value.bool false] = cl bC (List.replicate n false) from (cl_replicate bC n false).symm] at h6
  have L := bLat
  refine ⟨List Bool, fun kn more M' => GrowI M M' _ 1 ad n cap (cl bC kn) ∧ Pre bLe F n kn ∧ (more = false → ∀ (i : Nat) a, kn[i]? = some a → F kn i = a), fun kn more => 2 * wS bit 1 kn + (if more then 1 else 0), List.replicate n false, ⟨h6, pre_bot false (fun a h => (by cases h)) n, fun h => (by cases h)⟩, fun kn more M' ⟨hg, hp, hfix⟩ => ⟨fun hmore => ?_, fun hmore => ?_⟩⟩
  · refine ⟨List Bool, fun k2 more2 i M2 => 0 ≤ i ∧ i ≤ n ∧ GrowI M M2 _ 1 ad n cap (cl bC k2) ∧ Pre bLe F n k2 ∧ leL bLe kn k2 ∧ (more2 = true → kn ≠ k2) ∧ (more2 = false → k2 = kn ∧ ∀ (j : Nat) a, (j : Int) < i → kn[j]? = some a → F kn j = a), fun _ _ i => n - i.toNat, kn, ⟨by omega, by omega, hg, hp, leL.refl L kn, fun h => (by cases h), fun _ => ⟨rfl, fun j a h => by omega⟩⟩, fun k2 more2 i M2 ⟨h0, h1, hg2, hp2, hl2, ht2, hf2⟩ => ⟨fun hlt => ?_, fun hge => ?_⟩⟩
    · have hkl := hp2.len
      obtain ⟨a, ha⟩ := getI (l := k2) h0 (by omega)
      have hsl := hg2.row.slv
      refine ((hnext M2 ad cap k2 hg2.le hsl hkl i h0 hlt).mono (K' := fun v M' => M2.le M' ∧ v = .bool (F k2 i.toNat)) fun v M' hle hv => ⟨hle, hv⟩).toW.mono (fun _ h => h) fun v M3 _ ⟨hle3, hv⟩ => ⟨_, hv, ?_⟩
      have hg3 := hg2.more hle3
      obtain ⟨b, o, had, hat⟩ := hg3.row.slv.at bC_len hkl ha
      refine ⟨b, o, had, h0, hlt, a, hat, fun hne => ?_, fun hne => ?_⟩
      · obtain ⟨q1, q2, q3⟩ := hg3.put bC_len hkl (i := i.toNat) (by omega) had (F k2 i.toNat)
        have hne' : a ≠ F k2 i.toNat := fun e => hne e.symm
        obtain ⟨s1, s2⟩ := hp2.step L hF ha
        have hw := wS_set L ha (hp2.up _ _ ha) hne'
        refine ⟨b, o, had, h0, hlt, q1, .inr q2, fun M4 hM4 => ?_⟩
        subst hM4
        refine ⟨by unfold InI; omega, k2.set i.toNat (F k2 i.toNat), ⟨by omega, by omega, q3, s1, hl2.trans L s2, fun _ e => ?_, fun h => (by cases h)⟩, by dsimp only; omega⟩
        rw [← e] at hw
        have := (wS_le L hl2).1
        omega
      · have hsame : F k2 i.toNat = a := Classical.not_not.1 hne
        refine ⟨by unfold InI; omega, k2, ⟨by omega, by omega, hg3, hp2, hl2, ht2, fun hm => ?_⟩, by dsimp only; omega⟩
        obtain ⟨f1, f2⟩ := hf2 hm
        subst f1
        refine ⟨rfl, fun j x hj hx => ?_⟩
        by_cases e : (j : Int) = i
        · have : i.toNat = j := by omega
          rw [this] at ha hsame
          rw [ha] at hx; cases hx; exact hsame
        · exact f2 j x (by omega) hx
    · have hkl := hp.len
      cases more2 with
      | true =>
        refine ⟨k2, ⟨hg2, hp2, fun h => (by cases h)⟩, ?_⟩
        have := (wS_le L hl2).2 (ht2 rfl)
        rw [hmore]; dsimp only; omega
      | false =>
        obtain ⟨f1, f2⟩ := hf2 rfl
        subst f1
        refine ⟨k2, ⟨hg2, hp2, fun _ j x hx => f2 j x (by have := (List.getElem?_eq_some_iff.1 hx).1; omega) hx⟩, ?_⟩
        rw [hmore]; dsimp only; simp
  · intro M7 hle7
    have hm : more = false := by simpa using hmore
    exact hK M7 ad cap kn (hg.le.trans hle7) (hg.row.slv.le hle7) (hp.lfp L (hfix hm))

/-- Where the first true stands. -/
def fstB : List Bool → Int → Int
  | [], _ => -1
  | b :: t, i => if b then i else fstB t (i + 1)
def wellP (rs : List Ru) : Int × Int :=
  if gramErr rs ≠ 0 then (0, gramErr rs)
  else if fstB (rs.map fun r => loopB rs (knOf rs) r.body) 0 ≠ -1 then (fstB (rs.map fun r => loopB rs (knOf rs) r.body) 0, 9)
  else if fstB ((wkOf rs).map (!·)) 0 ≠ -1 then (fstB ((wkOf rs).map (!·)) 0, 8) else (0, 0)

theorem fstB_hit {l : List Bool} {i : Int} (h0 : 0 ≤ i) {t : List Bool} (hd : l.drop i.toNat = true :: t) (heq : fstB (l.drop i.toNat) i = fstB l 0) : fstB l 0 = i ∧ fstB l 0 ≠ -1 := by
  rw [hd, fstB, if_pos rfl] at heq
  exact ⟨heq.symm, by omega⟩
theorem fstB_miss {l : List Bool} {i : Int} (h0 : 0 ≤ i) {t : List Bool} (hd : l.drop i.toNat = false :: t) (heq : fstB (l.drop i.toNat) i = fstB l 0) : fstB (l.drop (i + 1).toNat) (i + 1) = fstB l 0 := by
  rw [show (i + 1).toNat = i.toNat + 1 by omega, ← List.drop_drop, hd, List.drop_succ_cons, List.drop_zero]
  rw [hd, fstB] at heq
  simpa using heq

theorem wwell_is {rs : List Ru} {ga : Option Addr} {gl gc : Nat} {M : Mem} (hg : GrR M rs ga gl gc) (K : Value → Prop) (hK : K (.tuple #[.int .i64 (wellP rs).1, .int .i64 (wellP rs).2])) : S_well_Well ga gl gc M K := by
  unfold S_well_Well
  unfold wellP at hK
  refine s_gram_Check _ _ _ _ _ (gcheck_is hg _ ⟨_, rfl, fun h => ?_, fun h => ?_⟩)
  · rw [if_pos h] at hK; exact hK
  rw [if_neg h] at hK
  have h0 : gramErr rs = 0 := by simpa using h
  have hok := gram_ok h0
  have h10 := hok.ten
  have hgl := hg.len
  have hkl := knOf_len rs
  have hwl := (wkOf_lfp rs).len
  refine s_well_facts _ _ _ _ _ (pfacts_is hok hg _ fun M1 ad cap hle hsl => ⟨_, _, _, rfl, ?_⟩)
  generalize hll : (rs.map fun r => loopB rs (knOf rs) r.body) = ll at hK
  have hlll : ll.length = rs.length := by rw [← hll]; simp
  have hlg : ∀ (i : Nat) r, rs[i]? = some r → ll[i]? = some (loopB rs (knOf rs) r.body) := fun i r hr => by rw [← hll, List.getElem?_map, hr]; rfl
  refine ⟨fun i => 0 ≤ i ∧ i ≤ rs.length ∧ fstB (ll.drop i.toNat) i = fstB ll 0, fun i => rs.length - i.toNat, ⟨by omega, by omega, rfl⟩, fun i ⟨i0, i1, heq⟩ => ⟨fun hlt => ?_, fun hge => ?_⟩⟩
  · obtain ⟨r, x, b, o, hr, ha, hat, hrr⟩ := (hg.le hle).at i0 hlt
    rw [← hkl] at hsl ⊢
    refine ⟨b, o, ha, i0, hlt, x, hat, s_well_loops _ _ _ _ _ _ _ _ _ (loops_is hkl _ r.body (Nat.lt_succ_self _) hrr.2.2 (hg.le hle) hsl (hok.good r (List.mem_of_getElem? hr)) ⟨_, rfl, fun ht => ?_, fun hf => ⟨by unfold InI; omega, ⟨by omega, by omega, ?_⟩, by dsimp only; omega⟩⟩)⟩
    · have hd := drop_get (hlg _ r hr)
      rw [ht] at hd
      obtain ⟨e1, e2⟩ := fstB_hit i0 hd heq
      rw [if_pos e2, e1] at hK; exact hK
    · have hd := drop_get (hlg _ r hr)
      rw [show loopB rs (knOf rs) r.body = false by simpa using hf] at hd
      exact fstB_miss i0 hd heq
  rw [List.drop_of_length_le (by omega), fstB] at heq
  rw [if_neg (by rw [← heq]; simp)] at hK
  intro M2 b4 hle2 h4 M3 b10 hle3 hb10
  rw [hgl]
  refine e_well_grow_bool _ _ _ _ (grow_bool (Gof_mono rs (knOf rs) _) h10 _ _ _ (fun M' ad2 cap2 wk hle' hsl2 hwk2 i i0 i1 => ?_) fun M' ad2 cap2 wk hle' hsl2 hlfp => ⟨_, _, _, rfl, ?_⟩)
  · have hle4 := ((hle.trans hle2).trans hle3).trans hle'
    rw [← hwk2] at hsl2 ⊢
    obtain ⟨r, x, b, o, hr, ha, hat, hrr⟩ := (hg.le hle4).at (i := i) i0 (by omega)
    refine f_well_Well_1 _ _ _ _ _ _ _ (fun v => v = .bool (Gof rs (knOf rs) wk i.toNat)) ?_
    unfold S_well_Well_1
    have h4' := h4.le (hle3.trans hle')
    refine ⟨_, _, _, h4', _, _, _, hb10.le hle', _, _, _, h4', b, o, ha, i0, by omega, x.Body, hat.part 1 x.Body.cells rfl, ?_⟩
    have hsl3 := hsl.le ((hle2.trans hle3).trans hle')
    rw [← hkl] at hsl3 ⊢
    refine s_well_sound _ _ _ _ _ _ _ _ _ _ _ _ (sound_is hkl hwk2 _ r.body (Nat.lt_succ_self _) hrr.2.2 (hg.le hle4) hsl3 hsl2 (hok.good r (List.mem_of_getElem? hr)) ⟨_, rfl, ?_⟩)
    rw [Gof, hr]
  · rw [wkOf_eq hlfp] at hsl2
    generalize hwd : (wkOf rs).map (!·) = wd at hK
    have hwdl : wd.length = rs.length := by rw [← hwd]; simp [hwl]
    refine ⟨fun i => 0 ≤ i ∧ i ≤ rs.length ∧ fstB (wd.drop i.toNat) i = fstB wd 0, fun i => rs.length - i.toNat, ⟨by omega, by omega, rfl⟩, fun i ⟨i0, i1, heq⟩ => ⟨fun hlt => ?_, fun hge => ?_⟩⟩
    · obtain ⟨a, ha⟩ := getN (l := wkOf rs) (i := i.toNat) (by omega)
      obtain ⟨b, o, hb, hat⟩ := hsl2.at bC_len hwl ha
      have hwg : wd[i.toNat]? = some (!a) := by rw [← hwd, List.getElem?_map, ha]; rfl
      have hd := drop_get hwg
      refine ⟨b, o, hb, i0, hlt, a, hat, fun hf => ?_, fun ht => ⟨by unfold InI; omega, ⟨by omega, by omega, ?_⟩, by dsimp only; omega⟩⟩
      · rw [show a = false by simpa using hf] at hd
        obtain ⟨e1, e2⟩ := fstB_hit i0 hd heq
        rw [if_pos e2, e1] at hK; exact hK
      · rw [show a = true by simpa using ht] at hd
        exact fstB_miss i0 hd heq
    · rw [List.drop_of_length_le (by omega), fstB] at heq
      rw [if_neg (by rw [← heq]; simp)] at hK; exact hK
end Go.Proofs.Ytifkffmecfgpeaa.core
