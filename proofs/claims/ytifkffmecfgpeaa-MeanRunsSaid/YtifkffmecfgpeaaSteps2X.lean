/- Contracts of functions: what each answers at every input that its caller may hand it. No condition. -/
import Derived.Test.YtifkffmecfgpeaaStepsX
namespace Go.Proofs.Ytifkffmecfgpeaa.core
open Go.Gx Go.RowKit Go.ChangeShapes Go.WideShapes Go.ChangeAt
/-! ### The walk of steps -/

theorem At.off {M : Mem} {b o r : Nat} {vs : List Value} (h : At M b o vs) (hr : ∀ j, M.cell r j = none) : At (but M r) b o vs := fun j v hj => by
  have h1 := h j v hj
  by_cases hb : b = r
  · subst hb; rw [hr] at h1; cases h1
  · unfold Mem.cell at h1 ⊢
    rw [but_ne hb]; exact h1
theorem SlV.off {M : Mem} {a : Option Addr} {l c size r : Nat} {xs : List Value} (h : SlV M a l c size xs) (hr : ∀ j, M.cell r j = none) : SlV (but M r) a l c size xs :=
  ⟨h.1, h.2.1, h.2.2.1, fun h0 => by obtain ⟨b, o, e, ha⟩ := h.2.2.2 h0; exact ⟨b, o, e, At.off ha hr⟩⟩
theorem MapF.nocell {M : Mem} {r : Nat} {f : Int → Int → Option Value} (h : MapF M r f) (j : Nat) : M.cell r j = none := by
  obtain ⟨es, clk, h1, _⟩ := h
  unfold Mem.cell
  rw [h1]
theorem cap_next {n : Int} {a c : Nat} (h0 : 0 ≤ n) (hn : (if n < 2097152 then n else 2097152) = cap a) : (if (if n + cap c < 2097152 then n + cap c else 2097152) < 2097152 then (if n + cap c < 2097152 then n + cap c else 2097152) else 2097152) = cap (a + c) := by
  unfold cap at hn ⊢
  push_cast
  (repeat' split at hn) <;> (repeat' split) <;> omega

theorem cap_in2 {n : Int} (a : Nat) (h0 : 0 ≤ n) (h1 : n ≤ 2097153) : InI (n + cap a) ∧ 0 ≤ n + cap a ∧ 0 ≤ (if n + cap a < 2097152 then n + cap a else 2097152) ∧ (if n + cap a < 2097152 then n + cap a else 2097152) ≤ 2097153 := by
  have := cap_in a
  unfold InI
  split <;> omega
theorem cap_in1 (a : Nat) : InI (1 + cap a) ∧ 0 ≤ 1 + cap a ∧ 1 + cap a ≤ 2097153 ∧ (if 1 + cap a < 2097152 then 1 + cap a else 2097152) = cap (1 + a) := by
  have := cap_in a
  unfold InI
  refine ⟨by omega, by omega, by omega, ?_⟩
  unfold cap
  (repeat' split) <;> omega

section
variable {rs : List Ru} {s : List UInt8} {E : Nat → Nat → Int} {b r : Nat} {ga ea : Option Addr} {gl gc ec eb : Nat}
/-- What steps answers for e at p, whatever is known. -/
def StepsOk (rs : List Ru) (s : List UInt8) (E : Nat → Nat → Int) (b r : Nat) (ga ea : Option Addr) (gl gc ec eb : Nat) (e : Ex) (p : Int) : Prop :=
  ∀ (M : Mem) (x : X_api_Expr) (K : Value → Mem → Prop), ExR (but M r) e x → TabR (but M r) rs s E 0 b ga ea gl gc ec eb → KnownI rs s M r → (∀ M', (but M r).le M' → KnownI rs s M' r → K (.int .i64 (cap (costOf rs s e p))) M') →
    S_chaffref_Table_steps (some ⟨b, 0, none⟩) x p (some r) M (fun g => g = r) K

theorem rsteps_is (hw : WellOk rs) (hT : Tab rs s E) (hs60 : s.length ≤ 60) {i p : Int} {rr : Ru} (hi : 0 ≤ i) (hr : rs[i.toNat]? = some rr) (hp : 0 ≤ p) (hl : p ≤ s.length) (hP : StepsOk rs s E b r ga ea gl gc ec eb rr.body p) {M : Mem} {K : Value → Mem → Prop}
    (hM : TabR (but M r) rs s E 0 b ga ea gl gc ec eb) (hI : KnownI rs s M r) (hK : ∀ M', (but M r).le M' → KnownI rs s M' r → K (.int .i64 (cap (costOf rs s rr.body p))) M') : S_chaffref_Table_Steps (some ⟨b, 0, none⟩) i p (some r) M (fun g => g = r) K := by
  have hlt := (List.getElem?_eq_some_iff.1 hr).1
  have h10 := hw.ok.ten
  have hgl := hM.gr.len
  have hpos := (cap_pos (a := costOf rs s rr.body p) (by rw [cost_is hw hT (hw.peg (List.mem_of_getElem? hr)) hp hl]; omega)).1
  unfold S_chaffref_Table_Steps
  obtain ⟨f, hf, hv⟩ := id hI
  refine ⟨r, f, rfl, hf, inI_small (by omega) (by omega), inI_small (by omega) (by omega), ?_⟩
  cases hfi : f i p with
  | some v =>
    obtain ⟨rr', _, _, _, hr', rfl⟩ := hv i p v hfi
    rw [hr] at hr'; cases hr'
    exact ⟨_, rfl, fun _ M' hle => hK M' ((but_le M r).trans hle) (hI.le hle), fun hn => absurd hpos hn⟩
  | none =>
    obtain ⟨r2, x2, b2, o2, hr2, ha2, hat2, hrr2⟩ := hM.gr.at hi (by omega)
    rw [hr] at hr2; cases hr2
    refine ⟨0, rfl, fun h => absurd h (by omega), fun _ => ⟨b, 0, rfl, _, _, _, hM.gm.le (but_le M r), b2, o2, ha2, hi, by omega, x2.Body, (hat2.part 1 x2.Body.cells rfl).le (but_le M r), ?_⟩⟩
    refine (s_chaffref_Table_steps _ _ _ _ _ _ _ (hP M x2.Body _ hrr2.2.2 hM hI fun M' hle hI' => ?_)).mono (fun g h => .inl h) (fun v M' _ h => h)
    obtain ⟨f', hf', _⟩ := id hI'
    refine ⟨_, rfl, r, f', rfl, hf', inI_small (by omega) (by omega), inI_small (by omega) (by omega), .inl rfl, fun M21 hS M2 hle2 => hK M2 ?_ ((hI'.set hi hp hl hr hS).le hle2)⟩
    refine Mem.le.trans (fun g o hg => ?_) hle2
    have hgr : g ≠ r := by rintro rfl; rw [but_eq] at hg; cases hg
    rw [hS.ne hgr]; exact hle g o hg

theorem steps_is (hw : WellOk rs) (hT : Tab rs s E) (hs60 : s.length ≤ 60) : ∀ (e : Ex) (p : Int), PegOk rs e → 0 ≤ p → p ≤ s.length → StepsOk rs s E b r ga ea gl gc ec eb e p := by
  have h10 := hw.ok.ten
  refine peg_ind hw s.length _ fun e p hok hp hl ihk ihr => ?_
  intro M x K hR hM hI hK
  obtain ⟨xs, hx⟩ := hR.open
  have hc := cost_is hw hT hok hp hl
  have hkids := kid_all hT hok hp hl
  have hl8 := kids8 hok.good
  have j1 : ∀ (n : Int) (M15 : Mem) (c0 : Nat), (but M r).le M15 → KnownI rs s M15 r → 0 ≤ n → n ≤ 2097153 → (if n < 2097152 then n else 2097152) = cap c0 → costOf rs s e p = c0 + sumK rs s e.kids (kidK rs s E e p) → S_chaffref_Table_steps_J1 (some ⟨b, 0, none⟩) x p (some r) M (fun g => g = r) n M15 K := by
    intro n M15 c0 hle hI15 hn0 hn1 hnc hcost
    unfold S_chaffref_Table_steps_J1
    refine s_chaffref_Table_Kids _ _ _ _ _ (kids_is hs60 h10 hT hok (hR.le hle) (hM.le hle) hp hl fun M19 ad cap' hle19 hsl => ⟨ad, _, cap', rfl, ?_⟩)
    obtain ⟨f0, hf0, _⟩ := id (hI15.le hle19)
    have hsl' := SlV.off hsl (MapF.nocell hf0)
    have hmax := hsl.max
    generalize hL : kidK rs s E e p = l at *
    have hle0 : (but M r).le (but M19 r) := le_but (hle.trans hle19) (but_eq M r)
    refine ⟨Unit, fun _ n i M' => 0 ≤ i ∧ i ≤ l.length ∧ 0 ≤ n ∧ n ≤ 2097153 ∧ (but M19 r).le M' ∧ KnownI rs s M' r ∧ (if n < 2097152 then n else 2097152) = cap (c0 + sumK rs s e.kids (l.take i.toNat)), fun _ _ i => l.length - i.toNat, (), ⟨by omega, by omega, hn0, hn1, but_le _ _, hI15.le hle19, by rw [hnc]; rfl⟩, fun _ n i M' ⟨i0, i1, n0, n1, hle', hI', hnc'⟩ => ⟨fun hlt => ?_, fun hge => ?_⟩⟩
    · obtain ⟨t, ht⟩ := getI (l := l) i0 hlt
      obtain ⟨bt, ot, hbt, hat⟩ := hsl'.at Tr_len rfl ht
      obtain ⟨t0, t1, k, hk, htr⟩ := hkids t (List.mem_of_getElem? ht)
      obtain ⟨bk, ok, y, hbk, haty, hyr, _⟩ := hx.kid hk
      have hle1 : (but M r).le (but M' r) := le_but (hle0.trans hle') (but_eq M r)
      obtain ⟨u1, _, u2, u3⟩ := cap_in2 (costOf rs s k t.At) n0 n1
      have hi1 : InI (i + 1) := by unfold InI; clear hnc hnc' hcost hc; omega
      refine ⟨bt, ot, hbt, i0, hlt, t, hat.le hle', bk, ok, hbk, t0, by rw [hx.len]; have := (List.getElem?_eq_some_iff.1 hk).1; omega, y, haty.le (hle0.trans hle'), ?_⟩
      refine (s_chaffref_Table_steps _ _ _ _ _ _ _ (ihk k t.At htr t1 M' y _ (hyr.le hle1) (hM.le hle1) hI' fun M2 hle2 hI2 => ⟨_, rfl, u1, hi1, (), ⟨by omega, by omega, u2, u3, (le_but hle' (but_eq M19 r)).trans hle2, hI2, ?_⟩, ?_⟩)).mono (fun g h => .inl h) (fun v M' _ h => h)
      · rw [cap_next n0 hnc', show (i + 1).toNat = i.toNat + 1 by omega, List.take_add_one, ht]
        unfold sumK
        rw [List.map_append, List.sum_append]
        congr 1
        rw [Nat.add_assoc]
        congr 2
        simp only [Option.toList_some, List.map_cons, List.map_nil, List.sum_cons, List.sum_nil, Nat.add_zero, trC, hk]
      · show l.length - (i + 1).toNat < l.length - i.toNat
        clear hnc hnc' hcost hc
        omega
    · intro M2 hle2
      rw [hnc', List.take_of_length_le (by omega), ← hcost]
      exact hK M2 ((hle0.trans hle').trans hle2) (hI'.le hle2)
  unfold S_chaffref_Table_steps
  rw [hx.kind]
  refine ⟨fun h4 => ?_, fun n4 => j1 1 M 1 (but_le M r) hI (by omega) (by omega) (by decide) (by rw [hc, if_neg n4])⟩
  have hf0 := hok.good.ref h4
  obtain ⟨hf1, hf2⟩ := findR_lt hf0
  obtain ⟨rr, hrr⟩ := getN (l := rs) hf1
  obtain ⟨u1, u2, u3, u4⟩ := cap_in1 (costOf rs s rr.body p)
  refine ⟨b, 0, rfl, _, _, _, hM.gm.le (but_le M r), ?_⟩
  rw [hx.text]
  refine s_chaffref_Find _ _ _ _ _ _ (rfind_is (hM.gr.le (but_le M r)) e.text _ ⟨_, rfl, ?_⟩)
  refine (s_chaffref_Table_Steps _ _ _ _ _ _ _ (rsteps_is hw hT hs60 hf0 hrr hp hl (ihr h4 rr hrr) hM hI fun M' hle hI' => ⟨_, rfl, u1, j1 _ M' (1 + costOf rs s rr.body p) hle hI' u2 u3 u4 ?_⟩)).mono (fun g h => .inl h) (fun v M' _ h => h)
  rw [hc, if_pos h4, hrr]
end
end Go.Proofs.Ytifkffmecfgpeaa.core
