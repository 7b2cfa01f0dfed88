/- Contracts of functions: what each answers at every input that its caller may hand it. No condition. -/
import Derived.Test.YtifkffmecfgpeaaMeanX
namespace Go.Proofs.Ytifkffmecfgpeaa.core
open Go.Gx Go.RowKit Go.ChangeShapes Go.WideShapes Go.ChangeAt
/-! ### run -/

theorem prefix_is (a b : List UInt8) {M : Mem} (K : Value → Prop) (hK : K (.bool (decide (b.length ≤ a.length ∧ a.take b.length = b)))) : S_strings_HasPrefix a b M K := by
  unfold S_strings_HasPrefix
  refine s_internal_stringslite_HasPrefix _ _ _ _ ?_
  unfold S_internal_stringslite_HasPrefix
  refine ⟨fun h => ⟨by omega, by omega, by omega, _, rfl, ?_⟩, fun h => ⟨_, rfl, ?_⟩⟩
  · have : ((mkS ((a.take ((b.length : Nat) : Int).toNat).drop (0 : Int).toNat)).toList == (mkS b).toList) = decide (b.length ≤ a.length ∧ a.take b.length = b) := by
      rw [Bool.eq_iff_iff, mkS_beq, decide_eq_true_iff]
      simp only [Int.toNat_natCast, Int.toNat_zero, List.drop_zero]
      exact ⟨fun h' => ⟨by omega, h'⟩, fun h' => h'.2⟩
    rw [this]; exact hK
  · rw [show decide (b.length ≤ a.length ∧ a.take b.length = b) = false from decide_eq_false (fun h' => h (by omega))] at hK
    exact hK

theorem staV_ge {f : Int → Rc} {q : Bool} : ∀ (m : Nat) (p : Int) fi x, (fi && q) = false → 0 ≤ p → staV f q m p fi = some x → 0 ≤ x.1
  | 0, _, _, _, _, _, h => by rw [staV] at h; cases h
  | m + 1, p, fi, x, hq, hp, h => by
    rw [staV] at h
    obtain ⟨y, hy, h⟩ := Option.bind_eq_some_iff.1 h
    split at h
    · rw [hq] at h; cases h; exact hp
    · obtain ⟨z, hz, rfl⟩ := Option.map_eq_some_iff.1 h
      exact staV_ge m y.1 false z rfl (by omega) hz

theorem run_is {rs : List Ru} {s : List UInt8} {E : Nat → Nat → Int} {ga : Option Addr} {gl gc : Nat} (hw : WellOk rs) (hT : Tab rs s E) (hs : s.length ≤ 60) : ∀ m, RunOk rs s ga gl gc m
  | 0 => fun e p left r c M x K _ h => by rw [ev] at h; cases h
  | m + 1 => fun e p left r c M x K hok hev hR hg hp hl h0 h1 hK => by
    have ih := run_is (ga := ga) (gl := gl) (gc := gc) hw hT hs m
    obtain ⟨xs, hx⟩ := hR.open
    obtain ⟨g1, g2, g3, g4, g5, g6, g7, g8⟩ := fitE_kinds hok.good.fit
    have hl8 := kids8 hok.good
    have hpos := ev_pos hev
    have hgl := hg.len
    refine s_mean_runner_run _ _ _ _ _ _ _ _ _ _ ?_
    unfold S_mean_runner_run
    refine ⟨fun hz => ?_, fun hnz => ?_⟩
    · subst hz
      unfold S_mean_runner_run_J1
      exact ⟨fun _ => hK.2 (by simp only at hpos; omega) M 0 (Mem.le.refl M), fun h => absurd rfl h⟩
    unfold S_mean_runner_run_J1
    refine ⟨fun h => (by cases h), fun _ => ⟨by unfold InI; omega, ?_⟩⟩
    rw [ev] at hev
    obtain ⟨⟨r', c'⟩, hy, he⟩ := Option.map_eq_some_iff.1 hev
    simp only [Prod.mk.injEq] at he
    obtain ⟨rfl, rfl⟩ := he
    have hK' : RunK K M (left - 1) r' c' := ⟨fun h M' t h2 h3 => by
      have := hK.1 (by omega) M' t h2 h3
      rw [show left - ((c' + 1 : Nat) : Int) = left - 1 - (c' : Int) by omega] at this; exact this, fun h M' t h2 => hK.2 (by omega) M' t h2⟩
    clear hK hev hpos
    -- what ends at once
    have once : ∀ (t : Int) (b : Bool), c' = 0 → (b = decide (0 ≤ r')) → (0 ≤ r' → t = r') → K (.tuple #[.int .i64 t, .bool b]) (left - 1) false M := fun t b hc hb ht => by
      have := hK'.1 (by omega) M t (Mem.le.refl M) ht
      rw [hc] at this
      rw [hb]; simpa using this
    rw [hx.kind]
    refine ⟨fun k1 => ?_, fun n1 => ?_⟩
    · rw [if_pos k1] at hy
      simp only [Option.some.injEq, Prod.mk.injEq] at hy
      obtain ⟨rfl, rfl⟩ := hy
      exact once p true rfl (decide_eq_true hp).symm fun _ => rfl
    rw [if_neg n1] at hy
    refine ⟨fun k2 => ?_, fun n2 => ?_⟩
    · rw [if_pos k2] at hy
      simp only [Option.some.injEq, Prod.mk.injEq] at hy
      obtain ⟨hr, rfl⟩ := hy
      unfold setE at hr
      refine ⟨inI_small (by omega) (by omega), fun hlt => ?_, fun hge => ?_⟩
      · obtain ⟨d, hd⟩ := getI (l := s) hp hlt
        rw [hd] at hr
        refine ⟨d, hp, hd, ?_⟩
        rw [hx.set]
        refine s_set_Has _ _ _ _ (has_is hx.hs d _ ⟨_, rfl, once _ _ rfl ?_ fun h => ?_⟩)
        · simp only at hr
          split at hr
          · rename_i hb; rw [hb]; exact (decide_eq_true (by omega)).symm
          · rename_i hb; rw [Bool.eq_false_iff.2 hb]; exact (decide_eq_false (by omega)).symm
        · simp only at hr
          split at hr <;> omega
      · rw [List.getElem?_eq_none (by omega)] at hr
        simp only at hr
        exact once _ _ rfl (decide_eq_false (by omega)).symm fun h => by omega
    rw [if_neg n2] at hy
    refine ⟨fun k3 => ?_, fun n3 => ?_⟩
    · rw [if_pos k3] at hy
      simp only [Option.some.injEq, Prod.mk.injEq] at hy
      obtain ⟨hr, rfl⟩ := hy
      have h12 := (g6 k3).2
      rw [hx.text]
      unfold litE at hr
      have hcond : (p + ((e.text.length : Nat) : Int) ≤ ((s.length : Nat) : Int) ∧ (s.take (p + ((e.text.length : Nat) : Int)).toNat).drop p.toNat = e.text) ↔ (e.text.length ≤ ((s.take ((s.length : Nat) : Int).toNat).drop p.toNat).length ∧ ((s.take ((s.length : Nat) : Int).toNat).drop p.toNat).take e.text.length = e.text) := by
        rw [Int.toNat_natCast, List.take_length, List.length_drop, List.drop_take, show (p + ((e.text.length : Nat) : Int)).toNat - p.toNat = e.text.length by omega]
        refine ⟨fun ⟨h, h'⟩ => ⟨by omega, ?_⟩, fun ⟨h, h'⟩ => ⟨by omega, ?_⟩⟩
        · exact h'
        · exact h'
      refine ⟨inI_small (by omega) (by omega), hp, hl, by omega, s_strings_HasPrefix _ _ _ _ (prefix_is _ _ _ ⟨_, rfl, once _ _ rfl ?_ fun h => ?_⟩)⟩
      · rw [decide_eq_decide, ← hcond, ← hr]
        split <;> rename_i h <;> simp [h] <;> omega
      · rw [← hr] at h ⊢
        split at h
        · rw [if_pos (by assumption)]
        · omega
    rw [if_neg n3] at hy
    refine ⟨fun k4 => ?_, fun n4 => ?_⟩
    · rw [if_pos k4] at hy
      obtain ⟨rr, hrr, hy⟩ := Option.bind_eq_some_iff.1 hy
      have hr0 := hok.good.ref k4
      obtain ⟨hlt, _⟩ := findR_lt hr0
      rw [hx.text]
      refine s_gram_Find _ _ _ _ _ _ (find_is hg e.text _ ⟨_, rfl, ?_⟩)
      obtain ⟨r2, x2, b2, o2, hr2, ha2, hat2, hrr2⟩ := hg.at hr0 (by omega)
      rw [hrr] at hr2; cases hr2
      refine ⟨b2, o2, ha2, hr0, by omega, x2.Body, hat2.part 1 x2.Body.cells rfl, ?_⟩
      exact ih rr.body p (left - 1) r' c' M x2.Body _ (hw.peg (List.mem_of_getElem? hrr)) hy hrr2.2.2 hg hp hl (by omega) (by omega) ⟨fun h M' t h2 h3 => ⟨_, _, rfl, hK'.1 h M' t h2 h3⟩, fun h M' t h2 => ⟨_, _, rfl, hK'.2 h M' t h2⟩⟩
    rw [if_neg n4] at hy
    have hkid : ∀ {M' : Mem} {i : Int} {k : Ex}, M.le M' → 0 ≤ i → e.kids[i.toNat]? = some k → ∃ b o, x.Kids_a = some ⟨b, o, none⟩ ∧ 0 ≤ i ∧ i < ((x.Kids_l : Nat) : Int) ∧ ∃ y : X_api_Expr, At M' b (o + i.toNat * 7) y.cells ∧ ExR M' k y := fun {M' i k} hle i0 hk => by
      obtain ⟨xs', hx'⟩ := (hR.le hle).open
      obtain ⟨b, o, y, ha, hat, hy, _⟩ := hx'.kid hk
      exact ⟨b, o, ha, i0, by rw [hx'.len]; have := (List.getElem?_eq_some_iff.1 hk).1; omega, y, hat, hy⟩
    refine ⟨fun k5 => ?_, fun n5 => ?_⟩
    · rw [if_pos k5] at hy
      let I : Int → Bool → Int → Int → Bool → Mem → Prop := fun q ok i l ov M' => M.le M' ∧ 0 ≤ i ∧ i ≤ e.kids.length ∧ ((ok = true ∧ ov = false ∧ 0 ≤ l ∧ l ≤ 1048576 ∧ 0 ≤ q ∧ q ≤ s.length ∧ ∃ c'' : Nat, seqV (ev rs s m) (e.kids.drop i.toNat) q = some (r', c'') ∧ l - c'' = left - 1 - c') ∨ (ok = false ∧ ov = false ∧ r' < 0 ∧ l = left - 1 - c' ∧ c' ≤ left - 1) ∨ (ok = false ∧ ov = true ∧ l = 0 ∧ left - 1 < c'))
      let mu : Int → Bool → Int → Int → Bool → Nat := fun _ _ i _ _ => e.kids.length - i.toNat
      have hfin : ∀ q ok i l ov M', I q ok i l ov M' → (ok = false ∨ (e.kids.length : Int) ≤ i) → K (.tuple #[.int .i64 q, .bool ok]) l ov M' := by
        intro q ok i l ov M' ⟨hle, i0, i1, h⟩ hend
        rcases h with ⟨rfl, rfl, l0, l1, q0, q1, c'', hsq, hl'⟩ | ⟨rfl, rfl, hneg, rfl, hc⟩ | ⟨rfl, rfl, rfl, hc⟩
        · have hi : (e.kids.length : Int) ≤ i := hend.resolve_left (by simp)
          rw [List.drop_of_length_le (by omega), seqV] at hsq
          simp only [Option.some.injEq, Prod.mk.injEq] at hsq
          obtain ⟨rfl, rfl⟩ := hsq
          have := hK'.1 (by omega) M' q hle fun _ => rfl
          rw [decide_eq_true q0] at this
          rw [show l = left - 1 - (c' : Int) by omega]; exact this
        · have := hK'.1 hc M' q hle fun h => by omega
          rw [decide_eq_false (by omega)] at this; exact this
        · exact hK'.2 hc M' q hle
      refine ⟨I, mu, ⟨Mem.le.refl M, by omega, by omega, .inl ⟨rfl, rfl, by omega, by omega, hp, hl, c', hy, rfl⟩⟩, fun q ok i l ov M' hI => ⟨fun hlt => ?_, fun hge => ?_⟩⟩
      · unfold S_mean_runner_run_J2
        refine ⟨fun hok' => ?_, fun hno => hfin _ _ _ _ _ _ hI (.inl (by simpa using hno))⟩
        subst hok'
        obtain ⟨hle, i0, i1, h⟩ := hI
        rcases h with ⟨_, rfl, l0, l1, q0, q1, c'', hsq, hl'⟩ | ⟨h, _⟩ | ⟨h, _⟩
        · rw [hx.len] at hlt
          obtain ⟨k, hk⟩ := getI (l := e.kids) i0 hlt
          have hkm := List.mem_of_getElem? hk
          obtain ⟨b, o, ha, _, hi2, y, hat, hyr⟩ := hkid hle i0 hk
          rw [drop_get hk, seqV] at hsq
          obtain ⟨z, hz, hsq⟩ := Option.bind_eq_some_iff.1 hsq
          have hzr := ev_res hw hT m k q z (hok.kid hkm) q0 q1 hz
          have hrr := hT.res (hok.kid hkm) q0 q1
          refine ⟨b, o, ha, i0, hi2, y, hat, ih k q l z.1 z.2 M' y _ (hok.kid hkm) hz hyr (hg.le hle) q0 q1 l0 l1 ⟨fun hc M2 t hl2 ht => ⟨t, _, rfl, by unfold InI; omega, ⟨hle.trans hl2, by omega, by omega, ?_⟩, by simp only [mu]; omega⟩, fun hc M2 t hl2 => ⟨t, _, rfl, by unfold InI; omega, ⟨hle.trans hl2, by omega, by omega, .inr (.inr ⟨rfl, rfl, rfl, ?_⟩)⟩, by simp only [mu]; omega⟩⟩⟩
          · split at hsq
            · rename_i hneg
              simp only [Option.some.injEq, Prod.mk.injEq] at hsq
              have e1 : z.1 = r' := by rw [hsq]
              have e2 : z.2 = c'' := by rw [hsq]
              exact .inr (.inl ⟨decide_eq_false (by omega), rfl, by omega, by omega, by omega⟩)
            · rename_i hge
              obtain ⟨w, hw', he⟩ := Option.map_eq_some_iff.1 hsq
              simp only [Prod.mk.injEq] at he
              obtain ⟨rfl, rfl⟩ := he
              have ht := ht (by omega)
              subst ht
              refine .inl ⟨decide_eq_true (by omega), rfl, by omega, by omega, by omega, by omega, w.2, ?_, by omega⟩
              rw [show (i + 1).toNat = i.toNat + 1 by omega]; exact hw'
          · split at hsq
            · have e2 : z.2 = c'' := by rw [Option.some.inj hsq]
              omega
            · obtain ⟨w, hw', he⟩ := Option.map_eq_some_iff.1 hsq
              simp only [Prod.mk.injEq] at he
              omega
        · cases h
        · cases h
      · unfold S_mean_runner_run_J2
        rw [hx.len] at hge
        exact ⟨fun h => (by cases h), fun _ => hfin _ _ _ _ _ _ hI (.inr (by omega))⟩
    rw [if_neg n5] at hy
    refine ⟨fun k6 => ?_, fun n6 => ?_⟩
    · rw [if_pos k6] at hy
      let I : Int → Int → Bool → Mem → Prop := fun i l ov M' => M.le M' ∧ 0 ≤ i ∧ i ≤ e.kids.length ∧ ov = false ∧ 0 ≤ l ∧ l ≤ 1048576 ∧ ∃ c'' : Nat, altV (ev rs s m) (e.kids.drop i.toNat) p = some (r', c'') ∧ l - c'' = left - 1 - c'
      let mu : Int → Int → Bool → Nat := fun i _ _ => e.kids.length - i.toNat
      refine ⟨I, mu, ⟨Mem.le.refl M, by omega, by omega, rfl, by omega, by omega, c', hy, rfl⟩, fun i l ov M' ⟨hle, i0, i1, hov, l0, l1, c'', hal, hl'⟩ => ⟨fun hlt => ?_, fun hge => ?_⟩⟩
      · subst hov
        rw [hx.len] at hlt
        obtain ⟨k, hk⟩ := getI (l := e.kids) i0 hlt
        have hkm := List.mem_of_getElem? hk
        obtain ⟨b, o, ha, _, hi2, y, hat, hyr⟩ := hkid hle i0 hk
        rw [drop_get hk, altV] at hal
        obtain ⟨z, hz, hal⟩ := Option.bind_eq_some_iff.1 hal
        have hzr := ev_res hw hT m k p z (hok.kid hkm) hp hl hz
        have hrr := hT.res (hok.kid hkm) hp hl
        refine ⟨b, o, ha, i0, hi2, y, hat, ih k p l z.1 z.2 M' y _ (hok.kid hkm) hz hyr (hg.le hle) hp hl l0 l1 ⟨fun hc M2 t hl2 ht => ⟨t, _, rfl, fun hyes => ?_, fun hno => ?_⟩, fun hc M2 t hl2 => ⟨t, _, rfl, fun h => (by cases h), fun _ => ⟨fun _ => hK'.2 ?_ M2 t (hle.trans hl2), fun h => absurd rfl h⟩⟩⟩⟩
        · have h0 : 0 ≤ z.1 := by simpa using hyes
          rw [if_pos (by omega)] at hal
          have e1 : z.1 = r' := by rw [Option.some.inj hal]
          have e2 : z.2 = c'' := by rw [Option.some.inj hal]
          refine ⟨fun _ => ?_, fun h => absurd rfl h⟩
          have := hK'.1 (by omega) M2 t (hle.trans hl2) fun _ => by rw [ht h0, e1]
          rw [e1, show l - (z.2 : Int) = left - 1 - (c' : Int) by omega]; exact this
        · have h0 : z.1 < 0 := by simpa using hno
          rw [if_neg (by omega)] at hal
          obtain ⟨w, hw', he⟩ := Option.map_eq_some_iff.1 hal
          simp only [Prod.mk.injEq] at he
          obtain ⟨rfl, rfl⟩ := he
          refine ⟨fun h => (by cases h), fun _ => ⟨by unfold InI; omega, ⟨hle.trans hl2, by omega, by omega, rfl, by omega, by omega, w.2, ?_, by omega⟩, by simp only [mu]; omega⟩⟩
          rw [show (i + 1).toNat = i.toNat + 1 by omega]; exact hw'
        · split at hal
          · have e2 : z.2 = c'' := by rw [Option.some.inj hal]
            omega
          · obtain ⟨w, hw', he⟩ := Option.map_eq_some_iff.1 hal
            simp only [Prod.mk.injEq] at he
            omega
      · subst hov
        rw [hx.len] at hge
        rw [List.drop_of_length_le (by omega), altV] at hal
        simp only [Option.some.injEq, Prod.mk.injEq] at hal
        obtain ⟨rfl, rfl⟩ := hal
        have := hK'.1 (by omega) M' 0 hle fun h => absurd h (by omega)
        rw [show l = left - 1 - (c' : Int) by omega]; exact this
    rw [if_neg n6] at hy
    obtain ⟨k, hk1⟩ := List.length_eq_one_iff.1 (g5 (by omega))
    have hk : e.kids[(0 : Int).toNat]? = some k := by rw [hk1]; rfl
    have hkm : k ∈ e.kids := by rw [hk1]; simp
    have hhv : hdV (ev rs s m) e.kids = ev rs s m k := by rw [hk1]; funext q; rw [hdV]
    rw [hhv] at hy
    refine ⟨fun k8 => ?_, fun n8 => ?_⟩
    · rw [if_pos (.inr k8), decide_eq_true k8, staV] at hy
      obtain ⟨z, hz, hy⟩ := Option.bind_eq_some_iff.1 hy
      have hzr := ev_res hw hT m k p z (hok.kid hkm) hp hl hz
      have hrr := hT.res (hok.kid hkm) hp hl
      obtain ⟨b, o, ha, _, hi2, y, hat, hyr⟩ := hkid (Mem.le.refl M) (Int.le_refl 0) hk
      refine ⟨b, o, ha, by omega, hi2, y, hat, ih k p (left - 1) z.1 z.2 M y _ (hok.kid hkm) hz hyr hg hp hl (by omega) (by omega) ⟨fun hc M2 t hl2 ht => ⟨t, _, rfl, fun hno => ?_, fun hyes => ?_⟩, fun hc M2 t hl2 => ⟨t, _, rfl, fun _ => hK'.2 ?_ M2 0 hl2, fun h => absurd (by simp) h⟩⟩⟩
      · have h0 : z.1 < 0 := by simpa using hno
        rw [if_pos h0] at hy
        simp only [Option.some.injEq, Prod.mk.injEq, Bool.and_self, if_true] at hy
        obtain ⟨rfl, rfl⟩ := hy
        have := hK'.1 hc M2 0 hl2 fun h => by omega
        rw [decide_eq_false (by omega)] at this; exact this
      · have h0 : 0 ≤ z.1 := by simpa using hyes
        rw [if_neg (by omega)] at hy
        obtain ⟨w, hw', he⟩ := Option.map_eq_some_iff.1 hy
        simp only [Prod.mk.injEq] at he
        obtain ⟨rfl, rfl⟩ := he
        have ht := ht h0
        subst ht
        have hge := staV_ge _ _ _ _ rfl h0 hw'
        obtain ⟨b2, o2, ha2, _, hi3, y2, hat2, hyr2⟩ := hkid hl2 (Int.le_refl 0) hk
        refine ⟨b2, o2, ha2, by omega, hi3, y2, hat2, again_is hw hT ih (hok.kid hkm) (n := s.length + 1) (r := w.1) (c := w.2) (by rw [staV_flag (q := false) (q' := true) (s.length + 1) z.1 true false rfl]; exact hw') hyr2 (hg.le hl2) h0 (by omega) (by omega) (by omega) ⟨fun hc2 M3 hl3 => ⟨_, rfl, ?_⟩, fun hc2 M3 t hl3 => ⟨_, rfl, hK'.2 (by omega) M3 t (hl2.trans hl3)⟩⟩⟩
        have := hK'.1 (by omega) M3 w.1 (hl2.trans hl3) fun _ => rfl
        rw [decide_eq_true hge] at this
        rw [show left - 1 - (z.2 : Int) - (w.2 : Int) = left - 1 - ((z.2 + w.2 : Nat) : Int) by omega]; exact this
      · split at hy
        · have e2 : z.2 = c' := by have := Option.some.inj hy; simp only [Prod.mk.injEq] at this; exact this.2
          omega
        · obtain ⟨w, hw', he⟩ := Option.map_eq_some_iff.1 hy
          simp only [Prod.mk.injEq] at he
          omega
    refine ⟨fun k7 => ?_, fun n7 => ?_⟩
    · rw [if_pos (.inl k7), decide_eq_false n8] at hy
      have hge := staV_ge _ _ _ _ (by rfl) hp hy
      obtain ⟨b2, o2, ha2, _, hi3, y2, hat2, hyr2⟩ := hkid (Mem.le.refl M) (Int.le_refl 0) hk
      refine ⟨b2, o2, ha2, by omega, hi3, y2, hat2, again_is hw hT ih (hok.kid hkm) hy hyr2 hg hp hl (by omega) (by omega) ⟨fun hc2 M3 hl3 => ⟨_, rfl, ?_⟩, fun hc2 M3 t hl3 => ⟨_, rfl, hK'.2 hc2 M3 t hl3⟩⟩⟩
      have := hK'.1 hc2 M3 r' hl3 fun _ => rfl
      rw [decide_eq_true hge] at this; exact this
    rw [if_neg (show ¬ (e.kind = 7 ∨ e.kind = 8) by omega)] at hy
    obtain ⟨z, hz, he⟩ := Option.map_eq_some_iff.1 hy
    simp only [Prod.mk.injEq] at he
    obtain ⟨he1, he2⟩ := he
    have hzr := ev_res hw hT m k p z (hok.kid hkm) hp hl hz
    have hrr := hT.res (hok.kid hkm) hp hl
    unfold oneE at he1
    rw [if_neg (by omega)] at he1
    obtain ⟨b, o, ha, _, hi2, y, hat, hyr⟩ := hkid (Mem.le.refl M) (Int.le_refl 0) hk
    have fin : ∀ (M2 : Mem) (t : Int) (b : Bool), z.2 ≤ left - 1 → M.le M2 → b = decide (0 ≤ r') → (0 ≤ r' → t = r') → K (.tuple #[.int .i64 t, .bool b]) (left - 1 - (z.2 : Int)) false M2 := fun M2 t b hc hl2 hb ht => by
      have := hK'.1 (by omega) M2 t hl2 ht
      rw [hb, he2]; exact this
    refine ⟨b, o, ha, by omega, hi2, y, hat, ih k p (left - 1) z.1 z.2 M y _ (hok.kid hkm) hz hyr hg hp hl (by omega) (by omega) ⟨fun hc M2 t hl2 ht => ⟨t, _, rfl, fun k10 => ?_, fun n10 => ⟨fun k11 => ⟨fun hno => ?_, fun hyes => ?_⟩, fun n11 => ⟨fun hno => ?_, fun hyes => ?_⟩⟩⟩, fun hc M2 t hl2 => ⟨t, _, rfl, fun k10 => hK'.2 (by omega) M2 p hl2, fun n10 => ⟨fun k11 => ⟨fun _ => hK'.2 (by omega) M2 p hl2, fun h => absurd (by simp) h⟩, fun n11 => ⟨fun _ => hK'.2 (by omega) M2 p hl2, fun h => absurd (by simp) h⟩⟩⟩⟩⟩
    · rw [if_neg (by omega)] at he1
      refine fin M2 p _ hc hl2 (by rw [decide_eq_decide]; split at he1 <;> omega) fun h => by split at he1 <;> omega
    · have h0 : z.1 < 0 := by simpa using hno
      rw [if_neg (by omega), if_neg (by omega)] at he1
      exact fin M2 p _ hc hl2 (by symm; exact decide_eq_true (by omega)) fun _ => he1
    · have h0 : 0 ≤ z.1 := by simpa using hyes
      rw [if_neg (by omega), if_pos (by omega)] at he1
      exact fin M2 p _ hc hl2 (by symm; exact decide_eq_false (by omega)) fun h => by omega
    · have h0 : z.1 < 0 := by simpa using hno
      rw [if_neg (by omega), if_neg (by omega)] at he1
      exact fin M2 p _ hc hl2 (by symm; exact decide_eq_true (by omega)) fun _ => he1
    · have h0 : 0 ≤ z.1 := by simpa using hyes
      rw [if_pos (by omega)] at he1
      exact fin M2 t _ hc hl2 (by symm; exact decide_eq_true (by omega)) fun _ => by rw [ht h0, he1]
end Go.Proofs.Ytifkffmecfgpeaa.core
