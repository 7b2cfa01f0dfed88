/- Contracts of functions: what each answers at every input that its caller may hand it. No condition. -/
import Derived.Test.YtaljnkggjadonaaFirstX
namespace Go.Proofs.Ytaljnkggjadonaa.core
open Go.Gx Go.RowKit Go.ChangeShapes Go.WideShapes Go.ChangeAt
/-! ### First -/


theorem first_is {rs : List Ru} {ga : Option Addr} {gl gc : Nat} {M : Mem} (hg : GrR M rs ga gl gc) (K : Value → Mem → Prop) (h1 : gramErr rs ≠ 0 → ∀ M', M.le M' → K (.tuple #[.slice none 0 0, .int .i64 (gramErr rs)]) M')
    (h2 : gramErr rs = 0 → ∀ M' ad cap, M.le M' → SlV M' ad rs.length cap 4 (cl X_api_Set.cells (fsOf rs)) → K (.tuple #[.slice ad rs.length cap, .int .i64 0]) M') : S_first_First ga gl gc M (fun _ => False) K := by
  unfold S_first_First
  refine s_well_Facts _ _ _ _ _ (wfacts_is hg _ (fun h M1 hle1 => ⟨_, _, _, _, rfl, fun _ M2 hle2 => h1 h M2 (hle1.trans hle2), fun h' => absurd h h'⟩) fun h M1 adf capf kn hle1 hslf hlfp => ⟨_, _, _, _, rfl, fun h' => absurd rfl h', fun _ => ?_⟩)
  have h2 := h2 h
  have hok := gram_ok h
  have h10 := hok.ten
  have h11 := hok.one
  have hgl := hg.len
  rw [knOf_eq hlfp] at hslf
  have hgl' := hgl
  subst hgl'
  refine ⟨by omega, by omega, by omega, ?_⟩
  unfold S_first_First_J1
  simp only [Int.toNat_natCast]
  have L := sLat
  let n := rs.length
  let F := FsS rs (knOf rs)
  have hF : MonoF sLe F n := FsS_mono rs _ _
  let bot : SS := ⟨Us fun _ => false, Us_wf _⟩
  have hbot : ∀ a : SS, sLe bot a := fun a x hx h => by
    have h : bitS (Us fun _ => false) x = true := h
    rw [bit_Us hx] at h; cases h
  intro M18 ad cap hnr b14 M19 hb14 hM19
  have hgrow := GrowI.make hnr
  rw [show repl rs.length [Value.int .u64 0, Value.int .u64 0, Value.int .u64 0, Value.int .u64 0] = cl ssC (List.replicate n bot) from (cl_replicate ssC n bot).symm] at hgrow
  obtain ⟨_, _, _, ⟨_, hbad, _⟩ | ⟨g, cur, had, hMg, _, _, hM18⟩⟩ := hnr
  · omega
  have hg18 : M18 g = some (.cells cur 55 (0, 0)) := by rw [hM18]; exact Mem.add_eq
  have hbg : b14 ≠ g := by rintro rfl; rw [hb14] at hg18; cases hg18
  have hle19 : M18.le M19 := by rw [hM19]; exact Mem.add_le hb14
  -- what stays
  let V : Mem := fun x => if x = g then none else M19 x
  have hVg : V g = none := by simp only [V, if_true]
  have hVle : V.le M19 := fun x o hx => by
    simp only [V] at hx
    split at hx
    · cases hx
    · exact hx
  have hMV : M1.le V := fun x o hx => by
    have hxg : x ≠ g := by rintro rfl; rw [hMg] at hx; cases hx
    simp only [V, if_neg hxg]
    exact hle19 _ _ (hgrow.le _ _ hx)
  have a14 : At V b14 0 [Value.slice ga rs.length gc, Value.slice adf rs.length capf, Value.slice ad rs.length cap] := fun j v hj => by
    have hb : At M19 b14 0 [Value.slice ga rs.length gc, Value.slice adf rs.length capf, Value.slice ad rs.length cap] := by rw [hM19]; exact At.ofAddF
    have := hb j v hj
    unfold Mem.cell at this ⊢
    simp only [V, if_neg hbg]; exact this
  have hgV := (hg.le hle1).le hMV
  have hfV := hslf.le hMV
  have hgr0 : GrowI V M19 55 4 ad rs.length cap (cl ssC (List.replicate n bot)) := ⟨hVle, hgrow.row.le hle19, fun g' o hg' => by
    rw [had] at hg'
    simp only [Option.some.injEq, Addr.mk.injEq, and_true] at hg'
    rw [← hg'.1]; exact hVg⟩
  have hfin : ∀ {M' : Mem} {sk : List SS}, GrowI V M' 55 4 ad rs.length cap (cl ssC sk) → FinR M' rs b14 ga adf ad rs.length gc rs.length capf rs.length cap sk := fun h =>
    ⟨(a14.part 0 [Value.slice ga rs.length gc] rfl).le h.le, (a14.part 1 [Value.slice adf rs.length capf] rfl).le h.le, (a14.part 2 [Value.slice ad rs.length cap] rfl).le h.le, hgV.le h.le, hfV.le h.le, h.row.slv⟩
  refine ⟨List SS, fun sk more M2 => GrowI V M2 55 4 ad rs.length cap (cl ssC sk) ∧ Pre sLe F n sk ∧ (more = false → ∀ (i : Nat) a, sk[i]? = some a → F sk i = a), fun sk more => 2 * wS sWt 256 sk + (if more then 1 else 0), List.replicate n bot, ⟨hgr0, pre_bot bot hbot n, fun h => (by cases h)⟩, fun sk more M2 ⟨hgr, hp, hfix⟩ => ⟨fun hmore => ?_, fun hmore => ?_⟩⟩
  · refine ⟨List SS, fun k2 more2 i M3 => 0 ≤ i ∧ i ≤ n ∧ GrowI V M3 55 4 ad rs.length cap (cl ssC k2) ∧ Pre sLe F n k2 ∧ leL sLe sk k2 ∧ (more2 = true → sk ≠ k2) ∧ (more2 = false → k2 = sk ∧ ∀ (j : Nat) a, (j : Int) < i → sk[j]? = some a → F sk j = a), fun _ _ i => n - i.toNat, sk, ⟨by omega, by simp only [n]; omega, hgr, hp, leL.refl L sk, fun h => (by cases h), fun _ => ⟨rfl, fun j a h => by omega⟩⟩, fun k2 more2 i M3 ⟨i0, i1, hgr2, hp2, hl2, ht2, hf2⟩ => ⟨fun hlt => ?_, fun hge => ?_⟩⟩
    · have hkl := hp2.len
      obtain ⟨a, ha⟩ := getI (l := k2) i0 (by omega)
      obtain ⟨r, x, b1, o1, hr, ha1, hat1, hrr⟩ := (hgV.le hgr2.le).at i0 hlt
      refine ⟨b1, o1, ha1, i0, hlt, x, hat1, s_first_finder_of _ _ _ _ _ (fof_is hkl _ r.body (Nat.lt_succ_self _) hrr.2.2 (hfin hgr2) (hok.good r (List.mem_of_getElem? hr)) fun M4 hle4 => ⟨_, rfl, ?_⟩)⟩
      have hFi : (F k2 i.toNat).1 = Us fun c => bgE rs (knOf rs) (colB k2 c) c r.body := by
        show (Us fun b => Gbg rs (knOf rs) b (colB k2 b) i.toNat) = _
        refine Us_congr fun c _ => ?_
        unfold Gbg; simp only [hr]
      rw [← hFi]
      have hgr4 := hgr2.more hle4
      have hfr4 := hfin hgr4
      obtain ⟨b2, o2, hb2, hat2⟩ := hgr4.row.slv.at ssC_len hkl ha
      refine ⟨_, _, _, hfr4.k, b2, o2, hb2, i0, hlt, a.1, hat2, fun hne => ?_, fun hne => ?_⟩
      · obtain ⟨q1, q2, q3⟩ := hgr4.put ssC_len hkl (i := i.toNat) (by omega) hb2 (F k2 i.toNat)
        have hne' : a ≠ F k2 i.toNat := fun e => hne (by rw [← e]; unfold cellsEq; simp)
        obtain ⟨s1, s2⟩ := hp2.step L hF ha
        have hw := wS_set L ha (hp2.up _ _ ha) hne'
        refine ⟨_, _, _, hfr4.k, b2, o2, hb2, i0, hlt, q1, .inr ?_, fun M5 hM5 => ?_⟩
        · have hob := hb2
          rw [had] at hob
          simp only [Option.some.injEq, Addr.mk.injEq, and_true] at hob
          rw [← hob.1]
          cases hm : M g with
          | none => rfl
          | some o => have := hle1 _ _ hm; rw [hMg] at this; cases this
        · have hM5' : M5 = M4.put b2 (o2 + i.toNat * 4) (ssC (F k2 i.toNat)) := hM5
          subst hM5'
          refine ⟨by unfold InI; omega, k2.set i.toNat (F k2 i.toNat), ⟨by omega, by omega, q3, s1, hl2.trans L s2, fun _ e => ?_, fun h => (by cases h)⟩, by dsimp only; omega⟩
          rw [← e] at hw
          have := (wS_le L hl2).1
          omega
      · have hsame : F k2 i.toNat = a := by
          have hne := Classical.not_not.1 hne
          refine Subtype.ext ?_
          generalize (F k2 i.toNat).1 = z at hne ⊢
          obtain ⟨z0, z1, z2, z3⟩ := z
          obtain ⟨⟨a0, a1, a2, a3⟩, hwf⟩ := a
          unfold cellsEq at hne
          simp only [beq_iff_eq, List.cons.injEq, and_true] at hne
          obtain ⟨rfl, rfl, rfl, rfl⟩ := hne
          rfl
        refine ⟨by unfold InI; omega, k2, ⟨by omega, by omega, hgr4, hp2, hl2, ht2, fun hm => ?_⟩, by dsimp only; omega⟩
        obtain ⟨f1, f2⟩ := hf2 hm
        subst f1
        refine ⟨rfl, fun j x hj hx => ?_⟩
        by_cases e : (j : Int) = i
        · have : i.toNat = j := by omega
          rw [this] at ha hsame
          rw [ha] at hx; cases hx; exact hsame
        · exact f2 j x (by omega) hx
    · have hkl := hp.len
      cases more2 with
      | true =>
        refine ⟨k2, ⟨hgr2, hp2, fun h => (by cases h)⟩, ?_⟩
        have := (wS_le L hl2).2 (ht2 rfl)
        rw [hmore]; dsimp only; omega
      | false =>
        obtain ⟨f1, f2⟩ := hf2 rfl
        subst f1
        refine ⟨k2, ⟨hgr2, hp2, fun _ j x hx => f2 j x (by have := (List.getElem?_eq_some_iff.1 hx).1; omega) hx⟩, ?_⟩
        rw [hmore]; dsimp only; simp
  · have hm : more = false := by simpa using hmore
    refine ⟨_, _, _, (hfin hgr).k, fun M' hle' => ?_⟩
    have hlf := hp.lfp L (hfix hm)
    have := (hgr.row.slv.le hle')
    rw [ssC_map, fs_eq hlf] at this
    exact h2 M' ad cap ((hle1.trans hMV).trans (hgr.le.trans hle')) this

theorem begins_is {rs : List Ru} {v : List Bool} {ga ra va : Option Addr} {gl gc rc vc : Nat} {c : Nat} (hc : c < 256) (hvl : v.length = rs.length) : ∀ (n : Nat) (e : Ex), SizeOf.sizeOf e < n → ∀ {M : Mem} {x : X_api_Expr} {K : Value → Prop}, ExR M e x → GrR M rs ga gl gc →
    SlV M ra (knOf rs).length rc 1 (cl encC (knOf rs)) → SlV M va v.length vc 1 (cl bC v) → GoodE rs e → K (.bool (bgE rs (knOf rs) v c e)) → S_chaffref_begins ga gl gc ra (knOf rs).length rc va v.length vc x (c : Int) M K := by
  intro n
  induction n with
  | zero => intro e h; omega
  | succ n ih =>
    intro e hn M x K hR hg hkn hv hgood hK
    obtain ⟨xs, hx⟩ := hR.open
    obtain ⟨g1, g2, g3, g4, g5, g6, g7, g8⟩ := fitE_kinds hgood.fit
    have hl8 := kids8 hgood
    have hkl := knOf_len rs
    rw [bgE_eq] at hK
    unfold S_chaffref_begins
    rw [hx.kind]
    refine ⟨fun h2 => ?_, fun n2 => ⟨fun h3 => ?_, fun n3 => ⟨fun h4 => ?_, fun n4 => ⟨fun h10 => ?_, fun n10 => ?_⟩⟩⟩⟩
    · rw [if_pos h2] at hK
      rw [hx.set]
      exact s_chaffref_Has _ _ _ _ (rhas_is hx.hs hc _ ⟨_, rfl, hK⟩)
    · rw [if_neg n2, if_pos h3] at hK
      obtain ⟨hne, _⟩ := g6 h3
      rw [hx.text]
      cases htx : e.text with
      | nil => exact absurd htx hne
      | cons d t =>
        refine ⟨d, by omega, rfl, ?_⟩
        rw [u8w]
        rw [htx] at hK
        simp only [fstC] at hK
        rw [show ((d.toNat : Int) == (c : Int)) = decide (d.toNat = c) by rw [Bool.eq_iff_iff, beq_iff_eq, decide_eq_true_iff]; omega]
        exact hK
    · rw [if_neg n2, if_neg n3, if_pos h4] at hK
      have hr := hgood.ref h4
      obtain ⟨hlt, hlt'⟩ := findR_lt hr
      obtain ⟨a, ha⟩ := getN (l := v) (i := (findR e.text rs 0).toNat) (by omega)
      obtain ⟨b, o, hb, hat⟩ := hv.at bC_len rfl ha
      rw [hx.text]
      refine s_chaffref_Find _ _ _ _ _ _ (rfind_is hg e.text _ ⟨_, rfl, b, o, hb, hr, by omega, a, hat, ?_⟩)
      rw [wkB, ha] at hK; exact hK
    · rw [if_neg n2, if_neg n3, if_neg n4, if_pos h10] at hK; exact hK
    · rw [if_neg n2, if_neg n3, if_neg n4, if_neg n10] at hK
      refine ⟨fun i => 0 ≤ i ∧ i ≤ e.kids.length ∧ bgK rs (knOf rs) v c (decide (e.kind = 5)) (e.kids.drop i.toNat) = bgK rs (knOf rs) v c (decide (e.kind = 5)) e.kids, fun i => e.kids.length - i.toNat, ⟨by omega, by omega, rfl⟩, fun i ⟨i0, i1, heq⟩ => ⟨fun hlt => ?_, fun hge => ?_⟩⟩
      · rw [hx.len] at hlt
        obtain ⟨k, hk⟩ := getI (l := e.kids) i0 hlt
        obtain ⟨b, o, y, ha, hat, hy, _⟩ := hx.kid hk
        have hmem := List.mem_of_getElem? hk
        have hgk := hgood.kid k hmem
        rw [drop_get hk, bgK] at heq
        have j1 : ∀ t : Bool, bgE rs (knOf rs) v c k = false → t = (decide (e.kind = 5) && !(ofE rs (knOf rs) k).Empty) → S_chaffref_begins_J1 i (fun i => 0 ≤ i ∧ i ≤ e.kids.length ∧ bgK rs (knOf rs) v c (decide (e.kind = 5)) (e.kids.drop i.toNat) = bgK rs (knOf rs) v c (decide (e.kind = 5)) e.kids) (fun i => e.kids.length - i.toNat) t K := by
          intro t hf ht
          rw [hf, Bool.false_or, ← ht] at heq
          refine ⟨fun h => ?_, fun h => ⟨by unfold InI; omega, ⟨by omega, by omega, ?_⟩, by dsimp only; omega⟩⟩
          · rw [if_pos h] at heq; rw [← heq] at hK; exact hK
          · rw [if_neg h] at heq
            rw [show (i + 1).toNat = i.toNat + 1 by omega]; exact heq
        refine ⟨b, o, ha, i0, by rw [hx.len]; exact hlt, y, hat, s_chaffref_begins _ _ _ _ _ _ _ _ _ _ _ _ _ (ih k (by have := Ex.kid_lt hmem; omega) hy hg hkn hv hgk ⟨_, rfl, fun ht => ?_, fun hf => ?_⟩)⟩
        · rw [ht, Bool.true_or] at heq; rw [← heq] at hK; exact hK
        · have hf : bgE rs (knOf rs) v c k = false := by simpa using hf
          refine ⟨fun h5 => ?_, fun n5 => j1 _ hf (by simp [n5])⟩
          refine s_chaffref_May _ _ _ _ _ _ _ _ _ (may_is hkl _ k (Nat.lt_succ_self _) hy hg hkn hgk ⟨_, rfl, j1 _ hf ?_⟩)
          have hz : ∀ f : Fa, ((bAnd .i64 (enc f) 1 : Int) == (0 : Int)) = !f.Empty := by rintro ⟨_ | _, _ | _, _ | _⟩ <;> decide
          rw [hz]; simp [h5]
      · rw [hx.len] at hge
        rw [List.drop_of_length_le (by omega), bgK] at heq
        rw [← heq] at hK; exact hK

theorem sets_equal {A B : Option Addr} {n m c d : Nat} {xs : List X_api_Set} {M : Mem} (h : SlV M A n c 4 (cl X_api_Set.cells xs)) (k : SlV M B m d 4 (cl X_api_Set.cells xs)) (K : Value → Prop) (hK : K (.bool true)) : S_slices_Equal_Set A n c B m d M K := by
  have hn := h.len Xs_len (by omega)
  have hm := k.len Xs_len (by omega)
  have hmx := h.max
  unfold S_slices_Equal_Set
  refine ⟨fun hne => absurd (by omega) hne, fun he => ?_⟩
  refine ⟨fun i => 0 ≤ i ∧ i ≤ n, fun i => n - i.toNat, ⟨by omega, by omega⟩, fun i ⟨i0, i1⟩ => ⟨fun hlt => ?_, fun hge => hK⟩⟩
  obtain ⟨a, ha⟩ := getI (l := xs) i0 (by omega)
  obtain ⟨b1, o1, ha1, hat1⟩ := h.at Xs_len hn ha
  obtain ⟨b2, o2, ha2, hat2⟩ := k.at Xs_len hm ha
  exact ⟨b1, o1, ha1, i0, hlt, a, hat1, b2, o2, ha2, i0, by omega, a, hat2, fun hne => absurd (by unfold cellsEq; simp) hne, fun _ => ⟨by unfold InI; omega, ⟨by omega, by omega⟩, by dsimp only; omega⟩⟩
end Go.Proofs.Ytaljnkggjadonaa.core
