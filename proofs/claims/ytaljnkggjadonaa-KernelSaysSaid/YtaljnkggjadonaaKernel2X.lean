/- Contracts of functions: what each answers at every input that its caller may hand it. No condition. -/
import Derived.Test.YtaljnkggjadonaaKernelX
namespace Go.Proofs.Ytaljnkggjadonaa.core
open Go.Gx Go.RowKit Go.ChangeShapes Go.WideShapes Go.ChangeAt
/-! ### Kernels of grammars -/

def keR (r : Ru) : Ru := ⟨r.name, keE r.body⟩
def kzR (rs : List Ru) : Nat := (rs.map fun r => ksz r.body).sum
def kcR (rs : List Ru) : Nat := (rs.map fun r => min (ksz r.body) 401).sum
theorem kc_kz : ∀ rs : List Ru, kcR rs ≤ kzR rs ∧ (kcR rs ≤ 400 → kcR rs = kzR rs)
  | [] => by simp [kcR, kzR]
  | r :: t => by
    have := kc_kz t
    simp only [kcR, kzR, List.map_cons, List.sum_cons] at this ⊢
    omega
theorem kzR_take {rs : List Ru} {i : Nat} {r : Ru} (h : rs[i]? = some r) : kzR (rs.take (i + 1)) = kzR (rs.take i) + ksz r.body := by
  rw [take_get h]; simp [kzR]
theorem kcR_take {rs : List Ru} {i : Nat} {r : Ru} (h : rs[i]? = some r) : kcR (rs.take (i + 1)) = kcR (rs.take i) + min (ksz r.body) 401 := by
  rw [take_get h]; simp [kcR]
theorem kcR_le (rs : List Ru) : kcR rs ≤ 401 * rs.length := by
  induction rs with
  | nil => simp [kcR]
  | cons r t ih => simp only [kcR, List.map_cons, List.sum_cons, List.length_cons] at ih ⊢; omega
theorem kzR_le {rs : List Ru} (h : ∀ r ∈ rs, exErr r.body = 0) : kzR rs ≤ 491520 * rs.length := by
  induction rs with
  | nil => simp [kzR]
  | cons r t ih =>
    have := ih fun r hr => h r (by simp [hr])
    have := ksz_max (h r (by simp))
    simp only [kzR, List.map_cons, List.sum_cons, List.length_cons] at *
    omega

theorem RuAll.le {M M' : Mem} {ks : List Ru} {xs : List X_api_Rule} (h : All2 (RuR M) ks xs) (hl : M.le M') : All2 (RuR M') ks xs := h.mono fun _ _ h => h.le hl

def kerErr (rs : List Ru) : Int := if gramErr rs ≠ 0 then gramErr rs else if 400 < kzR rs then 2 else 0

theorem kker_is {rs : List Ru} {ga : Option Addr} {gl gc : Nat} {M : Mem} (hg : GrR M rs ga gl gc) (K : Value → Mem → Prop)
    (h1 : kerErr rs ≠ 0 → ∀ M', M.le M' → K (.tuple #[.agg #[.slice none 0 0], .int .i64 (kerErr rs)]) M')
    (h2 : kerErr rs = 0 → ∀ M' A l c, M.le M' → GrR M' (rs.map keR) A l c → K (.tuple #[.agg #[.slice A l c], .int .i64 0]) M') : S_kernel_Kernel ga gl gc M K := by
  unfold S_kernel_Kernel
  unfold kerErr at h1 h2
  refine s_gram_Check _ _ _ _ _ (gcheck_is hg _ ⟨_, rfl, fun h => fun M1 hle1 _ M2 hle2 => ?_, fun h => ?_⟩)
  · rw [if_pos h] at h1; exact h1 h M2 (hle1.trans hle2)
  rw [if_neg h] at h1 h2
  have h0 : gramErr rs = 0 := by simpa using h
  have hok := gram_ok h0
  have h10 := hok.ten
  have hgl := hg.len
  rw [hgl]
  refine ⟨fun c i => 0 ≤ i ∧ i ≤ rs.length ∧ c = (kcR (rs.take i.toNat) : Nat), fun _ i => rs.length - i.toNat, ⟨by omega, by omega, by simp [kcR]⟩, fun c i ⟨i0, i1, hc⟩ => ⟨fun hlt => ?_, fun hge => ?_⟩⟩
  · obtain ⟨r, x, b, o, hr, ha, hat, hrr⟩ := hg.at i0 (by rw [hgl]; exact hlt)
    have hmem := List.mem_of_getElem? hr
    have hcl := kcR_le (rs.take i.toNat)
    rw [List.length_take] at hcl
    refine ⟨b, o, ha, i0, hlt, x, hat, s_kernel_count _ _ _ (count_is _ r.body (Nat.lt_succ_self _) (hok.good r hmem) (ksz_max (hok.err r hmem)) hrr.2.2 ⟨_, rfl, by unfold InI; omega, by unfold InI; omega, ⟨by omega, by omega, ?_⟩, by dsimp only; omega⟩)⟩
    rw [show (i + 1).toNat = i.toNat + 1 by omega, kcR_take hr, hc]; omega
  rw [List.take_of_length_le (by omega)] at hc
  have hkc := kc_kz rs
  refine ⟨fun hbig M1 hle1 _ M2 hle2 => ?_, fun hsmall => ?_⟩
  · rw [if_pos (by omega)] at h1; exact h1 (by omega) M2 (hle1.trans hle2)
  rw [if_neg (by omega)] at h2
  have h2 := h2 rfl
  refine ⟨fun i rn rx M1 => 0 ≤ i ∧ i ≤ rs.length ∧ M.le M1 ∧ rn = i.toNat ∧ ∃ xs, rx = cl X_api_Rule.cells xs ∧ All2 (RuR M1) ((rs.map keR).take i.toNat) xs, fun i _ _ => rs.length - i.toNat, ⟨by omega, by omega, Mem.le.refl M, rfl, [], rfl, rfl⟩, fun i rn rx M1 ⟨i0, i1, hM1, hrn, xs, hrx, hxs⟩ => ⟨fun hlt => ?_, fun hge => ?_⟩⟩
  · subst hrn hrx
    obtain ⟨r, x, b, o, hr, ha, hat, hrr⟩ := (hg.le hM1).at i0 (by rw [hgl]; exact hlt)
    have hmem := List.mem_of_getElem? hr
    have hrm : (rs.map keR)[i.toNat]? = some (keR r) := by rw [List.getElem?_map, hr]; rfl
    refine ⟨b, o, ha, i0, hlt, x, hat, s_kernel_of _ _ _ (kof_is _ r.body (Nat.lt_succ_self _) (hok.good r hmem) hrr.2.2 fun M2 y2 hle2 hy2 => ⟨_, rfl, by omega, by unfold InI; omega, ⟨by omega, by omega, hM1.trans hle2, by omega, xs ++ [⟨x.Name, y2⟩], cl_snoc xs _, ?_⟩, by dsimp only; omega⟩)⟩
    rw [show (i + 1).toNat = i.toNat + 1 by omega, take_get hrm]
    exact (RuAll.le hxs hle2).snoc ⟨hrr.1, hrr.2.1, hy2⟩
  · subst hrn hrx
    intro M2 ad cap hle2 hsl2 M3 hle3
    rw [List.take_of_length_le (by simp; omega)] at hxs
    refine h2 M3 ad _ cap ((hM1.trans hle2).trans hle3) ⟨xs, hsl2.le hle3, RuAll.le hxs (hle2.trans hle3), ?_⟩
    simp; omega

/-! The reference counts as it goes. -/
theorem rker_is {rs : List Ru} : ∀ (n : Nat) (e : Ex), SizeOf.sizeOf e < n → GoodE rs e → ksz e ≤ 491520 → ∀ {M : Mem} {x : X_api_Expr} {n3 : Int} {K : Value → Int → Mem → Prop}, 0 ≤ n3 → n3 ≤ 10000000 → ExR M e x →
    (∀ M' y c, M.le M' → n3 ≤ c → (n3 + ksz e ≤ 400 ∧ ExR M' (keE e) y ∧ c = n3 + ksz e ∨ 400 < n3 + ksz e ∧ 400 < c ∧ c ≤ n3 + ksz e) → K y.val c M') → S_chaffref_Kernel x n3 M K := by
  intro n
  induction n with
  | zero => intro e h; omega
  | succ n ih =>
    intro e hn hgood hbig M x n3 K hn0 hn1 hR hK
    obtain ⟨xs0, hx⟩ := hR.open
    have hl8 := kids8 hgood
    obtain ⟨g1, g2, g3, g4, g5, g6, g7, g8⟩ := fitE_kinds hgood.fit
    have hmaxLen : (0 : Nat) ≤ maxLen := Nat.zero_le _
    have hpos : 0 < ksz e := by
      rw [ksz_eq]; unfold kz
      split
      · omega
      · split <;> omega
    unfold S_chaffref_Kernel
    refine ⟨fun h4 M1 hle1 _ => hK M1 _ n3 hle1 (Int.le_refl _) (.inr ⟨by omega, by omega, by omega⟩), fun hn4 => ⟨by unfold InI; omega, ?_⟩⟩
    rw [hx.kind]
    have one : 7 ≤ e.kind → ∃ k, e.kids = [k] ∧ k ∈ e.kids := fun h7 => by
      obtain ⟨k, hk⟩ : ∃ k, e.kids = [k] := List.length_eq_one_iff.1 (g5 h7)
      exact ⟨k, hk, by rw [hk]; simp⟩
    have kat : ∀ {M' : Mem} {k : Ex}, M.le M' → e.kids = [k] → ∃ b o y, x.Kids_a = some ⟨b, o, none⟩ ∧ At M' b (o + (0 : Int).toNat * 7) y.cells ∧ ExR M' k y := fun {M' k} hle hk => by
      obtain ⟨xs1, hx1⟩ := (hR.le hle).open
      obtain ⟨b, o, y, ha, hat, hy, _⟩ := hx1.kid (i := 0) (k := k) (by rw [hk]; rfl)
      exact ⟨b, o, y, ha, hat, hy⟩
    have hl1 : 7 ≤ e.kind → (0 : Int) < ((x.Kids_l : Nat) : Int) := fun h7 => by rw [hx.len, g5 h7]; omega
    refine ⟨fun h8 => ?_, fun n8 => ⟨fun h9 => ?_, fun n9 => ⟨fun h10 => ?_, fun n10 => ?_⟩⟩⟩
    · obtain ⟨k, hk, hmem⟩ := one (by omega)
      have hks : ksz e = 2 * ksz k + 2 := by rw [ksz_eq, kz, if_pos h8, hk, kszs_one]
      have hlt := Ex.kid_lt hmem
      obtain ⟨b, o, y, ha, hat, hy⟩ := kat (Mem.le.refl M) hk
      refine ⟨b, o, ha, by omega, hl1 (by omega), y, hat, s_chaffref_Kernel _ _ _ _ (ih k (by omega) (hgood.kid k hmem) (by omega) (by omega) (by omega) hy fun M1 y1 c1 hle1 hc1 hd1 => ⟨_, rfl, by unfold InI; omega, ?_⟩)⟩
      obtain ⟨b2, o2, y2, ha2, hat2, hy2⟩ := kat hle1 hk
      refine ⟨b2, o2, ha2, by omega, hl1 (by omega), y2, hat2, s_chaffref_Kernel _ _ _ _ (ih k (by omega) (hgood.kid k hmem) (by omega) (by omega) (by omega) hy2 fun M2 y3 c2 hle2 hc2 hd2 => ⟨_, rfl, fun M3 ad3 cap3 hle3 hsl3 M4 ad4 cap4 hle4 hsl4 => ?_⟩)⟩
      refine hK M4 _ c2 (((hle1.trans hle2).trans hle3).trans hle4) (by omega) ?_
      rcases hd1 with ⟨q1, q2, q3⟩ | ⟨q1, q2, q3⟩
      · rcases hd2 with ⟨p1, p2, p3⟩ | ⟨p1, p2, p3⟩
        · left
          refine ⟨by omega, ?_, by omega⟩
          rw [keE_eq, if_pos h8, hk]
          have hA := ExR.make (M := M4) (k := 7) (s := z4) (t := []) (ks := [keE k]) (xs := [y3]) (wf_kind (by omega)) wf_z4 hmaxLen ((show SlV M3 ad3 1 cap3 7 (cl X_api_Expr.cells [y3]) by rw [cl_one]; exact hsl3).le hle4) ⟨y3, [], rfl, (p2.le hle3).le hle4, rfl⟩
          exact ExR.make (k := 5) (s := z4) (t := []) (xs := [y1, ⟨7, z4, [], ad3, 1, cap3⟩]) (wf_kind (by omega)) wf_z4 hmaxLen hsl4 ⟨y1, [⟨7, z4, [], ad3, 1, cap3⟩], rfl, (((q2.le hle2).le hle3).le hle4), ⟨_, [], rfl, hA, rfl⟩⟩
        · right; omega
      · right; rcases hd2 with ⟨p1, p2, p3⟩ | ⟨p1, p2, p3⟩ <;> omega
    · obtain ⟨k, hk, hmem⟩ := one (by omega)
      have hks : ksz e = ksz k + 2 := by rw [ksz_eq, kz, if_neg n8, if_pos (.inl h9), hk, kszs_one]
      have hlt := Ex.kid_lt hmem
      obtain ⟨b, o, y, ha, hat, hy⟩ := kat (Mem.le.refl M) hk
      refine ⟨b, o, ha, by omega, hl1 (by omega), y, hat, s_chaffref_Kernel _ _ _ _ (ih k (by omega) (hgood.kid k hmem) (by omega) (by omega) (by omega) hy fun M1 y1 c1 hle1 hc1 hd1 => ⟨_, rfl, by unfold InI; omega, fun M3 ad3 cap3 hle3 hsl3 => ?_⟩)⟩
      refine hK M3 _ (c1 + 1) (hle1.trans hle3) (by omega) ?_
      rcases hd1 with ⟨q1, q2, q3⟩ | ⟨q1, q2, q3⟩
      · by_cases hc : n3 + ksz e ≤ 400
        · left
          refine ⟨hc, ?_, by omega⟩
          rw [keE_eq, if_neg n8, if_pos h9, hk]
          have hA : ExR M3 (.mk 1 z4 [] []) ⟨1, z4, [], none, 0, 0⟩ := ExR.make (xs := []) (wf_kind (by omega)) wf_z4 hmaxLen ⟨rfl, Nat.le_refl _, Nat.zero_le _, fun h => by omega⟩ rfl
          exact ExR.make (k := 6) (s := z4) (t := []) (xs := [y1, ⟨1, z4, [], none, 0, 0⟩]) (wf_kind (by omega)) wf_z4 hmaxLen hsl3 ⟨y1, _, rfl, q2.le hle3, ⟨_, [], rfl, hA, rfl⟩⟩
        · right; omega
      · right; omega
    · obtain ⟨k, hk, hmem⟩ := one (by omega)
      have hks : ksz e = ksz k + 2 := by rw [ksz_eq, kz, if_neg n8, if_pos (.inr h10), hk, kszs_one]
      have hlt := Ex.kid_lt hmem
      obtain ⟨b, o, y, ha, hat, hy⟩ := kat (Mem.le.refl M) hk
      refine ⟨by unfold InI; omega, b, o, ha, by omega, hl1 (by omega), y, hat, s_chaffref_Kernel _ _ _ _ (ih k (by omega) (hgood.kid k hmem) (by omega) (by omega) (by omega) hy fun M1 y1 c1 hle1 hc1 hd1 => ⟨_, rfl, fun M3 ad3 cap3 hle3 hsl3 M4 ad4 cap4 hle4 hsl4 => ?_⟩)⟩
      refine hK M4 _ c1 ((hle1.trans hle3).trans hle4) (by omega) ?_
      rcases hd1 with ⟨q1, q2, q3⟩ | ⟨q1, q2, q3⟩
      · left
        refine ⟨by omega, ?_, by omega⟩
        rw [keE_eq, if_neg n8, if_neg n9, if_pos h10, hk]
        have hA := ExR.make (M := M4) (k := 11) (s := z4) (t := []) (ks := [keE k]) (xs := [y1]) (wf_kind (by omega)) wf_z4 hmaxLen ((show SlV M3 ad3 1 cap3 7 (cl X_api_Expr.cells [y1]) by rw [cl_one]; exact hsl3).le hle4) ⟨y1, [], rfl, (q2.le hle3).le hle4, rfl⟩
        exact ExR.make (k := 11) (s := z4) (t := []) (xs := [⟨11, z4, [], ad3, 1, cap3⟩]) (wf_kind (by omega)) wf_z4 hmaxLen (show SlV M4 ad4 1 cap4 7 (cl X_api_Expr.cells [⟨11, z4, [], ad3, 1, cap3⟩]) by rw [cl_one]; exact hsl4) ⟨_, [], rfl, hA, rfl⟩
      · right; omega
    · have hks : ksz e = kszs e.kids + 1 := by rw [ksz_eq, kz, if_neg n8, if_neg (by omega)]
      refine ⟨fun i c rn rx M1 => 0 ≤ i ∧ i ≤ e.kids.length ∧ M.le M1 ∧ rn = i.toNat ∧ n3 + 1 ≤ c ∧ (n3 + 1 + kszs (e.kids.take i.toNat) ≤ 400 ∧ c = n3 + 1 + kszs (e.kids.take i.toNat) ∧ (∃ xs, rx = cl X_api_Expr.cells xs ∧ All2 (ExR M1) ((e.kids.map keE).take i.toNat) xs) ∨ 400 < n3 + 1 + kszs (e.kids.take i.toNat) ∧ 400 < c ∧ c ≤ n3 + 1 + kszs (e.kids.take i.toNat)), fun i _ _ _ => e.kids.length - i.toNat, ⟨by omega, by omega, Mem.le.refl M, rfl, by omega, ?_⟩, fun i c rn rx M1 ⟨i0, i1, hM1, hrn, hc, hd⟩ => ⟨fun hlt => ?_, fun hge => ?_⟩⟩
      · by_cases h : n3 + 1 ≤ 400
        · left; exact ⟨by simp [kszs]; omega, by simp [kszs], [], rfl, rfl⟩
        · right; simp [kszs]; omega
      · rw [hx.len] at hlt
        subst hrn
        obtain ⟨k, hk⟩ := getI (l := e.kids) i0 hlt
        obtain ⟨xs1, hx1⟩ := (hR.le hM1).open
        obtain ⟨b, o, y, ha, hat, hy, _⟩ := hx1.kid hk
        have hmem := List.mem_of_getElem? hk
        have hkm : (e.kids.map keE)[i.toNat]? = some (keE k) := by rw [List.getElem?_map, hk]; rfl
        have hkk := ksz_kid hmem
        have htk := kszs_take hk
        have hle' := kszs_le e.kids i.toNat
        refine ⟨b, o, ha, i0, by rw [hx.len]; exact hlt, y, hat, s_chaffref_Kernel _ _ _ _ (ih k (by have := Ex.kid_lt hmem; omega) (hgood.kid k hmem) (by omega) (by omega) (by rcases hd with hd | hd <;> omega) hy fun M2 y2 c2 hle2 hc2 hd2 => ⟨_, rfl, by omega, ?_⟩)⟩
        refine ⟨by unfold InI; omega, ⟨by omega, by omega, hM1.trans hle2, by omega, by omega, ?_⟩, by dsimp only; omega⟩
        rw [show (i + 1).toNat = i.toNat + 1 by omega, htk]
        rcases hd with ⟨d1, d2, xs, rfl, hxs⟩ | ⟨d1, d2, d3⟩
        · rcases hd2 with ⟨p1, p2, p3⟩ | ⟨p1, p2, p3⟩
          · left
            refine ⟨by omega, by omega, xs ++ [y2], cl_snoc xs y2, ?_⟩
            rw [take_get hkm]
            exact (All2.le hxs hle2).snoc p2
          · right; omega
        · right; rcases hd2 with ⟨p1, p2, p3⟩ | ⟨p1, p2, p3⟩ <;> omega
      · rw [hx.len] at hge
        subst hrn
        rw [List.take_of_length_le (by omega)] at hd
        intro M2 ad cap hle2 hsl2
        refine hK M2 _ c (hM1.trans hle2) (by omega) ?_
        rcases hd with ⟨d1, d2, xs, rfl, hxs⟩ | ⟨d1, d2, d3⟩
        · left
          refine ⟨by omega, ?_, by omega⟩
          rw [List.take_of_length_le (by simp; omega)] at hxs
          rw [keE_eq, if_neg n8, if_neg n9, if_neg n10, hx.set, hx.text]
          exact ExR.make hx.hk hx.hs hx.ht hsl2 (All2.le hxs hle2)
        · right; omega

theorem rkerOf_is {rs : List Ru} {ga : Option Addr} {gl gc : Nat} {M : Mem} (hg : GrR M rs ga gl gc) (K : Value → Mem → Prop)
    (h1 : kerErr rs ≠ 0 → ∀ M', M.le M' → K (.tuple #[.agg #[.slice none 0 0], .int .i64 (kerErr rs)]) M')
    (h2 : kerErr rs = 0 → ∀ M' A l c, M.le M' → GrR M' (rs.map keR) A l c → K (.tuple #[.agg #[.slice A l c], .int .i64 0]) M') : S_chaffref_KernelOf ga gl gc M K := by
  unfold S_chaffref_KernelOf
  unfold kerErr at h1 h2
  refine s_chaffref_Gram _ _ _ _ _ (rgram_is hg _ ⟨_, rfl, fun h => fun M1 hle1 _ M2 hle2 => ?_, fun h => ?_⟩)
  · rw [if_pos h] at h1; exact h1 h M2 (hle1.trans hle2)
  rw [if_neg h] at h1 h2
  have h0 : gramErr rs = 0 := by simpa using h
  have hok := gram_ok h0
  have h10 := hok.ten
  have hgl := hg.len
  rw [hgl]
  refine ⟨fun i c rn rx M1 => 0 ≤ i ∧ i ≤ rs.length ∧ M.le M1 ∧ rn = i.toNat ∧ 0 ≤ c ∧ ((kzR (rs.take i.toNat) : Int) ≤ 400 ∧ c = kzR (rs.take i.toNat) ∧ (∃ xs, rx = cl X_api_Rule.cells xs ∧ All2 (RuR M1) ((rs.map keR).take i.toNat) xs) ∨ 400 < (kzR (rs.take i.toNat) : Int) ∧ 400 < c ∧ c ≤ kzR (rs.take i.toNat)), fun i _ _ _ => rs.length - i.toNat, ⟨by omega, by omega, Mem.le.refl M, rfl, by omega, .inl ⟨by simp [kzR], by simp [kzR], [], rfl, rfl⟩⟩, fun i c rn rx M1 ⟨i0, i1, hM1, hrn, hc, hd⟩ => ⟨fun hlt => ?_, fun hge => ?_⟩⟩
  · subst hrn
    obtain ⟨r, x, b, o, hr, ha, hat, hrr⟩ := (hg.le hM1).at i0 (by rw [hgl]; exact hlt)
    have hmem := List.mem_of_getElem? hr
    have hrm : (rs.map keR)[i.toNat]? = some (keR r) := by rw [List.getElem?_map, hr]; rfl
    have htk := kzR_take hr
    have hzl := kzR_le (rs := rs.take i.toNat) fun r hr => hok.err r (List.mem_of_mem_take hr)
    rw [List.length_take] at hzl
    have hkm := ksz_max (hok.err r hmem)
    refine ⟨b, o, ha, i0, hlt, x, hat, s_chaffref_Kernel _ _ _ _ (rker_is _ r.body (Nat.lt_succ_self _) (hok.good r hmem) hkm hc (by rcases hd with hd | hd <;> omega) hrr.2.2 fun M2 y2 c2 hle2 hc2 hd2 => ⟨_, rfl, by omega, ?_⟩)⟩
    refine ⟨by unfold InI; omega, ⟨by omega, by omega, hM1.trans hle2, by omega, by omega, ?_⟩, by dsimp only; omega⟩
    rw [show (i + 1).toNat = i.toNat + 1 by omega, htk]
    rcases hd with ⟨d1, d2, xs, rfl, hxs⟩ | ⟨d1, d2, d3⟩
    · rcases hd2 with ⟨p1, p2, p3⟩ | ⟨p1, p2, p3⟩
      · left
        refine ⟨by omega, by omega, xs ++ [⟨x.Name, y2⟩], cl_snoc xs _, ?_⟩
        rw [take_get hrm]
        exact (RuAll.le hxs hle2).snoc ⟨hrr.1, hrr.2.1, p2⟩
      · right; omega
    · right; rcases hd2 with ⟨p1, p2, p3⟩ | ⟨p1, p2, p3⟩ <;> omega
  · subst hrn
    rw [List.take_of_length_le (by omega)] at hd
    refine ⟨fun hbig M2 hle2 _ M3 hle3 => ?_, fun hsmall M2 ad cap hle2 hsl2 M3 hle3 => ?_⟩
    · have : 400 < kzR rs := by rcases hd with hd | hd <;> omega
      rw [if_pos this] at h1; exact h1 (by omega) M3 ((hM1.trans hle2).trans hle3)
    · rcases hd with ⟨d1, d2, xs, rfl, hxs⟩ | ⟨d1, d2, d3⟩
      · rw [if_neg (by omega)] at h2
        rw [List.take_of_length_le (by simp; omega)] at hxs
        refine h2 rfl M3 ad _ cap ((hM1.trans hle2).trans hle3) ⟨xs, hsl2.le hle3, RuAll.le hxs (hle2.trans hle3), ?_⟩
        simp; omega
      · omega

/-! ### Same -/

theorem same_is : ∀ (n : Nat) (e : Ex), SizeOf.sizeOf e < n → ∀ {M : Mem} {x y : X_api_Expr} {K : Value → Prop}, ExR M e x → ExR M e y → K (.bool true) → S_chaffref_Same x y M K := by
  intro n
  induction n with
  | zero => intro e h; omega
  | succ n ih =>
    intro e hn M x y K hR hR' hK
    obtain ⟨xs, hx⟩ := hR.open
    obtain ⟨ys, hy⟩ := hR'.open
    unfold S_chaffref_Same
    rw [hx.kind, hy.kind, hx.set, hy.set, hx.text, hy.text]
    refine ⟨fun _ => ⟨fun _ => ⟨fun _ => ?_, fun h => absurd rfl h⟩, fun h => absurd (by simp [cellsEq]) h⟩, fun h => absurd rfl h⟩
    refine s_slices_EqualFunc_Expr _ _ _ _ _ _ _ _ _ ?_
    unfold S_slices_EqualFunc_Expr
    rw [hx.len, hy.len]
    have hmx := hx.sl.max
    rw [hx.len] at hmx
    refine ⟨fun h => absurd rfl h, fun _ => ?_⟩
    refine ⟨fun i => 0 ≤ i ∧ i ≤ e.kids.length, fun i => e.kids.length - i.toNat, ⟨by omega, by omega⟩, fun i ⟨i0, i1⟩ => ⟨fun hlt => ?_, fun hge => ⟨_, rfl, hK⟩⟩⟩
    obtain ⟨k, hk⟩ := getI (l := e.kids) i0 hlt
    obtain ⟨b, o, p, ha, hat, hp, _⟩ := hx.kid hk
    obtain ⟨b2, o2, q, ha2, hat2, hq, _⟩ := hy.kid hk
    have hmem := List.mem_of_getElem? hk
    exact ⟨b, o, ha, i0, hlt, p, hat, b2, o2, ha2, i0, hlt, q, hat2, f_chaffref_Same _ _ _ _ (ih k (by have := Ex.kid_lt hmem; omega) hp hq ⟨_, rfl, fun h => absurd rfl h, fun _ => ⟨by unfold InI; omega, ⟨by omega, by omega⟩, by dsimp only; omega⟩⟩)⟩

theorem samegr_is {rs : List Ru} {ga ha : Option Addr} {gl gc hl hc : Nat} {M : Mem} (hg : GrR M rs ga gl gc) (hh : GrR M rs ha hl hc) (K : Value → Prop) (hK : K (.bool true)) : S_chaffref_SameGrammar ga gl gc ha hl hc M K := by
  have h1 := hg.max
  have h2 := hh.max
  unfold S_chaffref_SameGrammar
  refine s_slices_EqualFunc_Rule _ _ _ _ _ _ _ _ _ ?_
  unfold S_slices_EqualFunc_Rule
  refine ⟨fun h => absurd (by omega) h, fun _ => ?_⟩
  refine ⟨fun i => 0 ≤ i ∧ i ≤ gl, fun i => gl - i.toNat, ⟨by omega, by omega⟩, fun i ⟨i0, i1⟩ => ⟨fun hlt => ?_, fun hge => ⟨_, rfl, hK⟩⟩⟩
  obtain ⟨r, x, b, o, hr, hb, hat, hrr⟩ := hg.at i0 hlt
  obtain ⟨r2, y, b2, o2, hr2, hb2, hat2, hrr2⟩ := hh.at (i := i) i0 (by omega)
  rw [hr] at hr2; cases hr2
  refine ⟨b, o, hb, i0, hlt, x, hat, b2, o2, hb2, i0, by omega, y, hat2, f_chaffref_SameGrammar_1 _ _ _ _ ?_⟩
  unfold S_chaffref_SameGrammar_1
  refine ⟨fun _ => s_chaffref_Same _ _ _ _ (same_is _ r.body (Nat.lt_succ_self _) hrr.2.2 hrr2.2.2 ⟨_, rfl, _, rfl, fun h => absurd rfl h, fun _ => ⟨by unfold InI; omega, ⟨by omega, by omega⟩, by dsimp only; omega⟩⟩), fun h => absurd (by rw [hrr.1, hrr2.1]) h⟩

theorem gr_nil (M : Mem) : GrR M [] none 0 0 := ⟨[], ⟨rfl, Nat.le_refl _, Nat.zero_le _, fun h => by omega⟩, rfl, rfl⟩
end Go.Proofs.Ytaljnkggjadonaa.core
