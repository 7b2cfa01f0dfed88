/- Contracts of functions: what each answers at every input that its caller may hand it. No condition. -/
import Derived.Test.YtifkffmecfgpeaaFill2X
namespace Go.Proofs.Ytifkffmecfgpeaa.core
open Go.Gx Go.RowKit Go.ChangeShapes Go.WideShapes Go.ChangeAt
/-! ### Fill -/

theorem At.ofAddP {M : Mem} {b : Nat} {vs : List Value} {t : TypeId} {f : Nat × Nat} : At (M.add b (.cells vs.toArray t f)) b 0 vs := by
  intro j v hj
  unfold Mem.cell
  rw [Mem.add_eq, Nat.zero_add]
  simpa using hj
abbrev vC (v : Value) : List Value := [v]
theorem vC_len (v : Value) : (vC v).length = 1 := rfl
theorem rowE_upd {E : Nat → Nat → Int} {p m : Nat} {row : List Int} (h : row.length = m) : rowE (upd E p row) m p = row := by
  apply List.ext_getElem?
  intro i
  by_cases hi : i < m
  · obtain ⟨z, hz⟩ := getN (l := row) (i := i) (by omega)
    rw [rowE_get hi, hz, upd_eq hz]
  · rw [List.getElem?_eq_none (by rw [rowE_len]; omega), List.getElem?_eq_none (by omega)]
theorem rowE_ne {E : Nat → Nat → Int} {p q m : Nat} {row : List Int} (h : q ≠ p) : rowE (upd E p row) m q = rowE E m q := by
  unfold rowE
  exact List.map_congr_left fun i _ => upd_ne h
/-- All but one block. -/
def but (M : Mem) (g : Nat) : Mem := fun x => if x = g then none else M x
theorem but_eq (M : Mem) (g : Nat) : but M g g = none := by simp [but]
theorem but_ne {M : Mem} {g x : Nat} (h : x ≠ g) : but M g x = M x := by simp [but, h]
theorem but_le (M : Mem) (g : Nat) : (but M g).le M := fun x o hx => by
  unfold but at hx
  split at hx
  · cases hx
  · exact hx
theorem le_but {V M : Mem} {g : Nat} (h : V.le M) (hg : V g = none) : V.le (but M g) := fun x o hx => by
  rw [but_ne (by rintro rfl; rw [hg] at hx; cases hx)]
  exact h x o hx

theorem fill_is {rs : List Ru} {ga : Option Addr} {gl gc : Nat} {M : Mem} {s : List UInt8} (hw : WellOk rs) (hs : s.length ≤ 60) (hg : GrR M rs ga gl gc) (K : Value → Mem → Prop)
    (hK : ∀ (M' : Mem) b ea ec eb E, M.le M' → Tab rs s E → TabR M' rs s E 0 b ga ea gl gc ec eb → K (.pointer (some ⟨b, 0, none⟩)) M') : S_chaffref_Fill ga gl gc s M (fun _ => False) K := by
  unfold S_chaffref_Fill
  have hgl := hg.len
  subst hgl
  have h10 := hw.ok.ten
  have h1 := hw.ok.one
  have e1 : (((s.length : Nat) : Int) + 1).toNat = s.length + 1 := by omega
  simp only [e1, Int.toNat_natCast]
  obtain ⟨st, hst, hord⟩ := hw.stage
  refine ⟨inI_small (by omega) (by omega), by omega, by omega, by omega, fun M9 ad7 cap8 hnr b10 M11 hb10 hM11 => ?_⟩
  have hgr0 := GrowI.make hnr
  rw [← cl_replicate vC (s.length + 1) (Value.slice none 0 0)] at hgr0
  obtain ⟨_, _, _, ⟨_, hbad, _⟩ | ⟨eb, cur, had7, hMeb, _, _, hM9⟩⟩ := hnr
  · omega
  have h9eb : M9 eb = some (.cells cur 64 (0, 0)) := by rw [hM9]; exact Mem.add_eq
  have hbe : b10 ≠ eb := by rintro rfl; rw [hb10] at h9eb; cases h9eb
  have hle11 : M9.le M11 := by rw [hM11]; exact Mem.add_le hb10
  let I : (Nat → Nat → Int) → Int → Mem → Prop := fun E p M' => -1 ≤ p ∧ p ≤ s.length ∧ EOk rs s E p ∧ ∃ (V : Mem) (ends : List Value), GrowI V M' 64 1 ad7 (s.length + 1) cap8 (cl vC ends) ∧ ends.length = s.length + 1 ∧ M.le V ∧ At V b10 0 [Value.slice ga rs.length gc] ∧ At V b10 1 [Value.string (mkS s)] ∧ At V b10 2 [Value.slice ad7 (s.length + 1) cap8] ∧
    ∀ q : Nat, p < q → q ≤ s.length → ∃ ra rc, ends[q]? = some (Value.slice ra rs.length rc) ∧ SlV V ra rs.length rc 1 (cl iC (rowE E rs.length q))
  have hI0 : I (fun _ _ => -2) s.length M11 := by
    have hVeb := but_eq M11 eb
    have hb : At M11 b10 0 [Value.slice ga rs.length gc, Value.string (mkS s), Value.slice ad7 (s.length + 1) cap8] := by rw [hM11]; exact At.ofAddP
    have hb : At (but M11 eb) b10 0 [Value.slice ga rs.length gc, Value.string (mkS s), Value.slice ad7 (s.length + 1) cap8] := fun j v hj => by
      have := hb j v hj
      unfold Mem.cell at this ⊢
      rw [but_ne hbe]; exact this
    exact ⟨by omega, by omega, EOk.init rs s, but M11 eb, List.replicate (s.length + 1) (.slice none 0 0), ⟨but_le _ _, hgr0.row.le hle11, fun g o hg' => by rw [had7] at hg'; cases hg'; exact hVeb⟩, by simp, le_but (hgr0.le.trans hle11) hMeb, hb.part 0 [Value.slice ga rs.length gc] rfl, hb.part 1 [Value.string (mkS s)] rfl, hb.part 2 [Value.slice ad7 (s.length + 1) cap8] rfl, fun q h1 h2 => by omega⟩
  refine ⟨_, I, fun _ p => (p + 1).toNat, _, hI0, fun E p M706 ⟨p0, p1, hE, V, ends, hgr, hel, hleV, a0, a1, a2, hrows⟩ => ⟨fun hge => ?_, fun hlt => ?_⟩⟩
  · obtain ⟨m, rfl⟩ := Int.eq_ofNat_of_zero_le hge
    refine ⟨_, _, _, a2.le hgr.le, by omega, by omega, by omega, fun M718 ad716 cap717 hnr2 => ?_⟩
    have hgr2 := GrowI.make hnr2
    rw [← cl_replicate iC rs.length 0] at hgr2
    obtain ⟨_, _, _, ⟨_, hbad, _⟩ | ⟨g, cur2, had2, hMg, _, _, hM718⟩⟩ := hnr2
    · omega
    have hgeb : g ≠ eb := by
      rintro rfl
      obtain ⟨_, _, _, ⟨h, _⟩ | ⟨g', c', h, hg', _⟩⟩ := hgr.row
      · rw [had7] at h; cases h
      · rw [had7] at h; cases h; rw [hMg] at hg'; cases hg'
    obtain ⟨q1, hVeb, q3⟩ := (hgr.more hgr2.le).put vC_len hel (i := m) (by omega) had7 (.slice ad716 rs.length cap717)
    refine ⟨eb, 0, had7, hge, by omega, q1, .inr hMeb, fun M721 hM721 => ?_⟩
    have hM721' : M721 = M718.put eb (0 + m * 1) (vC (.slice ad716 rs.length cap717)) := hM721
    rw [← hM721'] at q3
    have hVg : V g = none := by
      cases hv : V g with
      | none => rfl
      | some o => rw [hgr.le _ _ hv] at hMg; cases hMg
    have hV2 : V.le (but M721 g) := le_but q3.le hVg
    have hgrow : GrowI (but M721 g) M721 3 1 ad716 rs.length cap717 (cl iC (List.replicate rs.length 0)) := ⟨but_le _ _, hgr2.row.same fun g' o hg' ho => by
      rw [had2] at hg'; cases hg'
      rw [hM721, Mem.put_ne hgeb]; exact ho, fun g' o hg' => by rw [had2] at hg'; cases hg'; exact but_eq _ _⟩
    have hends : RowW (but M721 g) 64 1 ad7 (s.length + 1) cap8 (cl vC (ends.set m (.slice ad716 rs.length cap717))) := q3.row.same fun g' o hg' ho => by
      rw [had7] at hg'; cases hg'
      rw [but_ne (fun h => hgeb h.symm)]; exact ho
    have hel' : (ends.set m (Value.slice ad716 rs.length cap717)).length = s.length + 1 := by rw [List.length_set]; exact hel
    generalize hV2d : but M721 g = V2 at hV2 hgrow hends
    have hV2g : V2 g = none := by rw [← hV2d]; exact but_eq _ _
    have hMg0 : M g = none := by
      cases hv : M g with
      | none => rfl
      | some o => rw [hleV _ _ hv] at hVg; cases hVg
    have hAt : ∀ {M' : Mem} {q : Nat} {v : Value}, V2.le M' → (ends.set m (Value.slice ad716 rs.length cap717))[q]? = some v → At M' eb (0 + q * 1) [v] := fun hl hq => by
      obtain ⟨b, o, hb, hat⟩ := hends.slv.at vC_len hel' hq
      rw [had7] at hb; cases hb
      exact hat.le hl
    have hnow : (ends.set m (Value.slice ad716 rs.length cap717))[m]? = some (.slice ad716 rs.length cap717) := by rw [List.getElem?_set, if_pos rfl, if_pos (by omega)]
    -- the row of unknowns
    refine ⟨List Int, fun row x M' => 0 ≤ x ∧ x ≤ rs.length ∧ row.length = rs.length ∧ GrowI V2 M' 3 1 ad716 rs.length cap717 (cl iC row) ∧ ∀ (j : Nat) z, (j : Int) < x → row[j]? = some z → z = -2, fun _ x => rs.length - x.toNat, _, ⟨by omega, by omega, by simp, hgrow, fun j z h => by omega⟩, fun row x M748 ⟨x0, x1, hrl, hgx, hun⟩ => ⟨fun hltx => ?_, fun hgex => ?_⟩⟩
    · obtain ⟨u1, u2, u3⟩ := hgx.put iC_len hrl (i := x.toNat) (by omega) had2 (-2)
      refine ⟨_, _, _, a2.le (hV2.trans hgx.le), eb, 0, had7, hge, by omega, _, _, _, hAt hgx.le (by rw [Int.toNat_natCast]; exact hnow), g, 0, had2, x0, hltx, u1, .inr hMg0, fun M764 hM764 => ⟨inI_small (by omega) (by omega), row.set x.toNat (-2), ⟨by omega, by omega, by rw [List.length_set]; exact hrl, by rw [hM764]; exact u3, fun j z hj hz => ?_⟩, by dsimp only; omega⟩⟩
      rw [List.getElem?_set] at hz
      by_cases hxj : x.toNat = j
      · rw [if_pos hxj, if_pos (by omega)] at hz; simpa using hz.symm
      · rw [if_neg hxj] at hz; exact hun j z (by omega) hz
    -- the rounds
    have hR0 : RowOk rs s E m row := RowOk.init hE hrl fun i z hz => hun i z (by have := (List.getElem?_eq_some_iff.1 hz).1; omega) hz
    refine ⟨List Int, fun row k M' => 0 ≤ k ∧ k ≤ rs.length ∧ RowOk rs s E m row ∧ GrowI V2 M' 3 1 ad716 rs.length cap717 (cl iC row) ∧ ∀ (i : Nat) z, (st i : Int) ≤ k → row[i]? = some z → z ≠ -2, fun _ k => rs.length - k.toNat, row, ⟨by omega, by omega, hR0, hgx, fun i z hi hz => ?_⟩, fun row k M957 ⟨k0, k1, hR, hgk, hkn⟩ => ⟨fun hltk => ?_, fun hgek => ?_⟩⟩
    · have := (hst i (by have := (List.getElem?_eq_some_iff.1 hz).1; omega)).1
      omega
    · refine ⟨List Int, fun row i M' => 0 ≤ i ∧ i ≤ rs.length ∧ RowOk rs s E m row ∧ GrowI V2 M' 3 1 ad716 rs.length cap717 (cl iC row) ∧ (∀ (j : Nat) z, (st j : Int) ≤ k → row[j]? = some z → z ≠ -2) ∧ ∀ (j : Nat) z, (j : Int) < i → (st j : Int) ≤ k + 1 → row[j]? = some z → z ≠ -2, fun _ i => rs.length - i.toNat, row, ⟨by omega, by omega, hR, hgk, hkn, fun j z h => by omega⟩, fun row i M1023 ⟨i0, i1, hR, hgi, hkn, hki⟩ => ⟨fun hlti => ?_, fun hgei => ?_⟩⟩
      · obtain ⟨r, x, b, o, hr, ha, hat, hrr⟩ := (hg.le (hleV.trans (hV2.trans hgi.le))).at i0 hlti
        have hrm := List.mem_of_getElem? hr
        obtain ⟨z, hz⟩ := getN (l := row) (i := i.toNat) (by rw [hR.len]; omega)
        obtain ⟨b4, o4, hb4, hat4⟩ := hgi.row.slv.at iC_len hR.len hz
        rw [had2] at hb4; cases hb4
        have a2' := a2.le (hV2.trans hgi.le)
        have hse := hAt hgi.le hnow
        refine ⟨b, o, ha, i0, hlti, x, hat, _, _, _, a2', eb, 0, had7, hge, by omega, _, _, _, by rw [Int.toNat_natCast]; exact hse, g, 0, had2, i0, hlti, z, hat4, fun h2 => ?_, fun h2 => ?_⟩
        · subst h2
          have hT : TabR M1023 rs s (upd E m row) m b10 ga ad7 rs.length gc cap8 eb := by
            refine ⟨a0.le (hV2.trans hgi.le), a1.le (hV2.trans hgi.le), a2', hg.le (hleV.trans (hV2.trans hgi.le)), had7, fun q hq hql => ?_⟩
            by_cases hqm : q = m
            · subst hqm
              refine ⟨ad716, cap717, by have := hse; rw [Nat.zero_add, Nat.mul_one] at this; exact this, ?_⟩
              rw [rowE_upd hR.len]; exact hgi.row.slv
            · obtain ⟨ra, rc, h3, h4⟩ := hrows q (by omega) hql
              refine ⟨ra, rc, by have := hAt hgi.le (q := q) (v := Value.slice ra rs.length rc) (by rw [List.getElem?_set, if_neg (fun h => hqm h.symm)]; exact h3); rw [Nat.zero_add, Nat.mul_one] at this; exact this, ?_⟩
              rw [rowE_ne hqm]; exact h4.le (hV2.trans hgi.le)
          refine ⟨_, _, _, a2', eb, 0, had7, hge, by omega, _, _, _, by rw [Int.toNat_natCast]; exact hse, ?_⟩
          refine s_chaffref_Table_End _ _ _ _ _ (end_is hs h10 hR.ok _ r.body (Nat.lt_succ_self _) (hw.peg hrm) hrr.2.2 hT (Int.le_refl _) hge (by omega) ⟨_, rfl, ?_⟩)
          obtain ⟨u1, u2, u3⟩ := hgi.put iC_len hR.len (i := i.toNat) (by omega) had2 (endE rs s (upd E m row) r.body m)
          refine ⟨g, 0, had2, i0, hlti, u1, .inr hMg0, fun M1055 hM1055 => ?_⟩
          have hset : ∀ (j : Nat) y, (row.set i.toNat (endE rs s (upd E m row) r.body m))[j]? = some y → (j = i.toNat ∧ y = endE rs s (upd E m row) r.body m) ∨ (j ≠ i.toNat ∧ row[j]? = some y) := fun j y hy => by
            rw [List.getElem?_set] at hy
            by_cases hij : i.toNat = j
            · rw [if_pos hij, if_pos (by rw [hR.len]; omega)] at hy; exact .inl ⟨hij.symm, by simpa using hy.symm⟩
            · rw [if_neg hij] at hy; exact .inr ⟨fun h => hij h.symm, hy⟩
          have hhit : (st i.toNat : Int) ≤ k + 1 → endE rs s (upd E m row) r.body m ≠ -2 := fun hsti => hR.hit hw hE (by omega) hrm fun j hj z hz => hkn j z (by have := hord _ r hr j hj; omega) hz
          refine ⟨inI_small (by omega) (by omega), _, ⟨by omega, by omega, hR.step hw (by omega) hz hr, by rw [hM1055]; exact u3, fun j y hj hy => ?_, fun j y hj hj2 hy => ?_⟩, by dsimp only; omega⟩
          · rcases hset j y hy with ⟨rfl, rfl⟩ | ⟨_, hy⟩
            · exact hhit (by omega)
            · exact hkn j y hj hy
          · rcases hset j y hy with ⟨rfl, rfl⟩ | ⟨hne, hy⟩
            · exact hhit hj2
            · exact hki j y (by omega) hj2 hy
        · refine ⟨inI_small (by omega) (by omega), row, ⟨by omega, by omega, hR, hgi, hkn, fun j y hj hj2 hy => ?_⟩, by dsimp only; omega⟩
          by_cases hji : j = i.toNat
          · subst hji; rw [hz] at hy; cases hy; exact h2
          · exact hki j y (by omega) hj2 hy
      · exact ⟨inI_small (by omega) (by omega), row, ⟨by omega, by omega, hR, hgi, fun j y hj hy => hki j y (by have := (List.getElem?_eq_some_iff.1 hy).1; rw [hR.len] at this; omega) hj hy⟩, by dsimp only; omega⟩
    · -- the place is done
      have hall : ∀ (i : Nat) z, row[i]? = some z → z ≠ -2 := fun i z hz => hkn i z (by have := (List.getElem?_eq_some_iff.1 hz).1; rw [hR.len] at this; have := (hst i this).2; omega) hz
      have hV2e : V.le (but M957 eb) := le_but (hV2.trans hgk.le) hVeb
      refine ⟨inI_small (by omega) (by omega), upd E m row, ⟨by omega, by omega, hR.done hE hall, but M957 eb, ends.set m (.slice ad716 rs.length cap717), ⟨but_le _ _, hends.le hgk.le, fun g' o hg' => by rw [had7] at hg'; cases hg'; exact but_eq _ _⟩, hel', hleV.trans hV2e, a0.le hV2e, a1.le hV2e, a2.le hV2e, fun q hq hql => ?_⟩, by dsimp only; omega⟩
      by_cases hqm : q = m
      · subst hqm
        refine ⟨ad716, cap717, hnow, ?_⟩
        rw [rowE_upd hR.len]
        exact (hgk.row.same fun g' o hg' ho => by rw [had2] at hg'; cases hg'; rw [but_ne hgeb]; exact ho).slv
      · obtain ⟨ra, rc, h3, h4⟩ := hrows q (by omega) hql
        refine ⟨ra, rc, by rw [List.getElem?_set, if_neg (fun h => hqm h.symm)]; exact h3, ?_⟩
        rw [rowE_ne hqm]; exact h4.le hV2e
  · intro M' hle'
    refine hK M' b10 ad7 cap8 eb E (hleV.trans (hgr.le.trans hle')) (hE.tab (by omega)) ⟨a0.le (hgr.le.trans hle'), a1.le (hgr.le.trans hle'), a2.le (hgr.le.trans hle'), hg.le (hleV.trans (hgr.le.trans hle')), had7, fun q hq hql => ?_⟩
    obtain ⟨ra, rc, h3, h4⟩ := hrows q (by omega) hql
    obtain ⟨b, o, hb, hat⟩ := hgr.row.slv.at vC_len hel h3
    rw [had7] at hb; cases hb
    refine ⟨ra, rc, ?_, h4.le (hgr.le.trans hle')⟩
    have := hat.le hle'
    rw [Nat.zero_add, Nat.mul_one] at this; exact this
end Go.Proofs.Ytifkffmecfgpeaa.core
