/- For every input BookRuns answers true and leaves its arguments as they were. No condition. -/
import Derived.Test.YtifkffmecfgpeaaM3
import Derived.Test.YtifkffmecfgpeaaBookRunsT
import Derived.Test.YtifkffmecfgpeaaM5
namespace Go.Proofs.Ytifkffmecfgpeaa.lawBookRuns
open Go.Gx Go.RowKit Go.ChangeShapes Go.WideShapes Go.ChangeAt
open core
set_option linter.unusedVariables false
theorem ex_of {H : Type} {enc : TypeId × Value → H} {w : World} : ∀ (n B : Nat) (x : X_api_Expr), In_api_Expr enc w n B x → ∃ e, ExR (HM w) e x := by
 intro n
 induction n using Nat.strongRecOn with
 | _ n ih =>
  intro B x hx
  obtain ⟨b6, h1, h2, h3, h4, h5, h6, h7, _⟩ := hx
  obtain ⟨xs, bs, hsl, hl, hm, hall, _⟩ := open_L_Expr h7
  obtain ⟨es, hes⟩ := All2.choose (R := ExR (HM w)) xs fun y hy => by
   obtain ⟨b, k, hk, hin⟩ := hall.left y hy
   exact ih k hk b y hin
  have hle := hes.length
  obtain ⟨k, s, t, A, l, c⟩ := x
  have : l = es.length := by rw [← hle]; exact hl.symm
  subst this
  exact ⟨.mk k s t es, .mk h1 ⟨h2, h3, h4, h5⟩ h6 hsl hle fun i e x he hx => hes.get' he hx⟩
theorem gr_of {H : Type} {enc : TypeId × Value → H} {w : World} {n B : Nat} {A : Option Addr} {l c : Nat} (h : In_L_Rule enc w n B ⟨A, l, c⟩) : ∃ rs, GrR (HM w) rs A l c := by
 obtain ⟨xs, bs, hsl, hl, hm, hall, _⟩ := open_L_Rule h
 obtain ⟨rs, hrs⟩ := All2.choose (R := RuR (HM w)) xs fun y hy => by
  obtain ⟨b, k, hk, hin⟩ := hall.left y hy
  obtain ⟨b7, h1, h2, h3, h4, h5, h6, h7, h8, _⟩ := hin
  obtain ⟨e, he⟩ := ex_of k _ y.Body ⟨b7, h2, h3, h4, h5, h6, h7, h8, Nat.le_refl _⟩
  exact ⟨⟨y.Name, e⟩, rfl, h1, he⟩
 have := hrs.length
 simp only at hl
 exact ⟨rs, xs, hsl, hrs, by omega⟩
abbrev Cs := X_api_Case
theorem Cs_len (x : Cs) : (X_api_Case.cells x).length = 3 := rfl
def caseE (c : Cs) : Int := if (60 : Int) < c.Text.length then 2 else if c.Kind = 1 ∨ c.Kind = 2 then (if c.N = 0 then 0 else 1) else if c.Kind = 4 then (if 0 ≤ c.N ∧ c.N ≤ c.Text.length then 0 else 1) else 1
def casesE : List Cs → Int
 | [] => 0
 | c :: l => if caseE c ≠ 0 then caseE c else casesE l
def bookE (l : List Cs) : Int := if (40 : Int) < l.length then 2 else casesE l
theorem casesE_all : ∀ {l : List Cs}, casesE l = 0 → ∀ c ∈ l, caseE c = 0
 | [], _, c, hc => by cases hc
 | d :: l, h, c, hc => by
  rw [casesE] at h
  split at h
  ·rename_i h1; exact absurd h h1
  ·rename_i h1
   rcases List.mem_cons.1 hc with rfl | hc
   ·exact Decidable.not_not.1 h1
   ·exact casesE_all h c hc
noncomputable def endP (rs : List Ru) (s : List UInt8) : Int := @dite _ (∃ E, Tab rs s E) (Classical.propDecidable _) (fun h => Classical.choose h 0 0) fun _ => -1
theorem end_eq {rs : List Ru} {s : List UInt8} {E : Nat → Nat → Int} (hw : WellOk rs) (hT : Tab rs s E) : endP rs s = E 0 0 := by
 have h : ∃ E, Tab rs s E := ⟨E, hT⟩
 unfold endP
 rw [dif_pos h]
 exact tab_same hw (Classical.choose_spec h) hT (by omega) hw.ok.one
noncomputable def passP (rs : List Ru) (c : Cs) : Bool := if c.Kind = 1 then decide (endP rs c.Text = (c.Text.length : Int)) else if c.Kind = 2 then !decide (endP rs c.Text = (c.Text.length : Int)) else decide (endP rs c.Text = c.N)
section
variable {rs : List Ru} {M : Mem} {ga la : Option Addr} {gl gc ll lc : Nat} {cs : List Cs}
theorem fit_is {c : Cs} {K : Value → Prop} (hK : K (.int .i64 (caseE c))) : S_book_fit c M K := by
 unfold caseE at hK
 unfold S_book_fit
 refine ⟨fun h => by rw [if_pos (by omega)] at hK; exact hK, fun h => ?_⟩
 rw [if_neg (by omega)] at hK
 have j1 : ∀ v : Bool, v = decide (c.Kind = 1 ∨ c.Kind = 2) → S_book_fit_J1 c v K := by
  intro v hv
  unfold S_book_fit_J1
  refine ⟨fun ht => ?_, fun hf => ?_⟩
  ·rw [if_pos (of_decide_eq_true (by rw [← hv, ht]))] at hK
   exact ⟨fun hn => by rw [if_neg hn] at hK; exact hK, fun hn => by rw [if_pos (Decidable.not_not.1 hn)] at hK; exact hK⟩
  ·rw [if_neg (fun h => hf (by rw [hv, decide_eq_true h]))] at hK
   refine ⟨fun k4 => ?_, fun n4 => by rw [if_neg n4] at hK; exact hK⟩
   rw [if_pos k4] at hK
   have j2 : ∀ v : Bool, v = decide (¬ (0 ≤ c.N ∧ c.N ≤ c.Text.length)) → S_book_fit_J2 v K := by
    intro v hv
    unfold S_book_fit_J2
    exact ⟨fun ht => by rw [if_neg (of_decide_eq_true (by rw [← hv, ht]))] at hK; exact hK, fun hf => by rw [if_pos (Decidable.not_not.1 fun h => hf (by rw [hv, decide_eq_true h]))] at hK; exact hK⟩
   exact ⟨fun hlt => j2 _ (by symm; exact decide_eq_true (by omega)), fun hge => j2 _ (by rw [decide_eq_decide]; omega)⟩
 exact ⟨fun k1 => j1 _ (by rw [k1]; rfl), fun n1 => j1 _ (by rw [Bool.eq_iff_iff, decide_eq_true_iff, beq_iff_eq]; omega)⟩
theorem rcase_is {c : Cs} {K : Value → Prop} (hK : K (.int .i64 (caseE c))) : S_chaffref_Case c M K := by
 unfold caseE at hK
 unfold S_chaffref_Case
 refine ⟨fun h => by rw [if_pos (by omega)] at hK; exact hK, fun h => ?_⟩
 rw [if_neg (by omega)] at hK
 have j1 : ∀ v : Bool, v = decide (c.Kind = 4 ∧ 0 ≤ c.N ∧ c.N ≤ c.Text.length) → S_chaffref_Case_J1 c v K := by
  intro v hv
  unfold S_chaffref_Case_J1
  have j2 : ∀ w : Bool, (w = true → (if c.Kind = 1 ∨ c.Kind = 2 then (if c.N = 0 then (0 : Int) else 1) else if c.Kind = 4 then (if 0 ≤ c.N ∧ c.N ≤ c.Text.length then 0 else 1) else 1) = 0) → (w = false → (if c.Kind = 1 ∨ c.Kind = 2 then (if c.N = 0 then (0 : Int) else 1) else if c.Kind = 4 then (if 0 ≤ c.N ∧ c.N ≤ c.Text.length then 0 else 1) else 1) = 1) → S_chaffref_Case_J2 w K := by
   intro w h1 h2
   unfold S_chaffref_Case_J2
   exact ⟨fun ht => by rw [h1 ht] at hK; exact hK, fun hf => by rw [h2 (by simpa using hf)] at hK; exact hK⟩
  refine ⟨fun ht => ?_, fun hf => ⟨fun k1 => j2 _ (fun h => ?_) fun h => ?_, fun n1 => ⟨fun k2 => j2 _ (fun h => ?_) fun h => ?_, fun n2 => j2 _ (fun h => (by cases h)) fun _ => ?_⟩⟩⟩
  ·obtain ⟨a1, a2⟩ := of_decide_eq_true (by rw [← hv, ht] : decide (c.Kind = 4 ∧ 0 ≤ c.N ∧ c.N ≤ c.Text.length) = true)
   rw [if_neg (by omega), if_pos a1, if_pos a2] at hK; exact hK
  ·rw [if_pos (.inl k1), if_pos (by simpa using h)]
  ·rw [if_pos (.inl k1), if_neg (by simpa using h)]
  ·rw [if_pos (.inr k2), if_pos (by simpa using h)]
  ·rw [if_pos (.inr k2), if_neg (by simpa using h)]
  ·rw [if_neg (by omega)]
   by_cases k4 : c.Kind = 4
   ·rw [if_pos k4, if_neg (fun h => hf (by rw [hv, decide_eq_true ⟨k4, h⟩]))]
   ·rw [if_neg k4]
 exact ⟨fun k4 => ⟨fun hge => j1 _ (by rw [decide_eq_decide]; omega), fun hlt => j1 _ (by symm; exact decide_eq_false (by omega))⟩, fun n4 => j1 _ (by symm; exact decide_eq_false (by omega))⟩
theorem bcheck_is {K : Value → Prop} (hl : SlV M la ll lc 3 (cl X_api_Case.cells cs)) (hK : K (.int .i64 (bookE cs))) : S_book_Check la ll lc M K := by
 have hn := hl.len Cs_len (by omega)
 subst hn
 unfold bookE at hK
 unfold S_book_Check
 refine ⟨fun h => by rw [if_pos (by omega)] at hK; exact hK, fun h => ?_⟩
 rw [if_neg (by omega)] at hK
 refine ⟨fun i => 0 ≤ i ∧ i ≤ cs.length ∧ casesE (cs.drop i.toNat) = casesE cs, fun i => cs.length - i.toNat, ⟨by omega, by omega, rfl⟩, fun i ⟨i0, i1, he⟩ => ⟨fun hlt => ?_, fun hge => ?_⟩⟩
 ·obtain ⟨x, hx⟩ := core.getI (l := cs) i0 hlt
  obtain ⟨b, o, ha, hat⟩ := hl.at Cs_len rfl hx
  rw [drop_get hx, casesE] at he
  refine ⟨b, o, ha, i0, hlt, x, hat, s_book_fit _ _ _ (fit_is ⟨_, rfl, fun hne => ?_, fun h0 => ⟨by unfold InI; omega, ⟨by omega, by omega, ?_⟩, by dsimp only; omega⟩⟩)⟩
  ·rw [if_pos hne] at he; rw [he]; exact hK
  ·rw [if_neg h0] at he; rw [show (i + 1).toNat = i.toNat + 1 by omega]; exact he
 ·rw [List.drop_of_length_le (by omega), casesE] at he
  rw [← he] at hK; exact hK
theorem rcases_is {K : Value → Prop} (hl : SlV M la ll lc 3 (cl X_api_Case.cells cs)) (hK : K (.int .i64 (bookE cs))) : S_chaffref_Cases la ll lc M K := by
 have hn := hl.len Cs_len (by omega)
 subst hn
 unfold bookE at hK
 unfold S_chaffref_Cases
 refine ⟨fun h => by rw [if_pos (by omega)] at hK; exact hK, fun h => ?_⟩
 rw [if_neg (by omega)] at hK
 refine ⟨fun i => 0 ≤ i ∧ i ≤ cs.length ∧ casesE (cs.drop i.toNat) = casesE cs, fun i => cs.length - i.toNat, ⟨by omega, by omega, rfl⟩, fun i ⟨i0, i1, he⟩ => ⟨fun hlt => ?_, fun hge => ?_⟩⟩
 ·obtain ⟨x, hx⟩ := core.getI (l := cs) i0 hlt
  obtain ⟨b, o, ha, hat⟩ := hl.at Cs_len rfl hx
  rw [drop_get hx, casesE] at he
  refine ⟨b, o, ha, i0, hlt, x, hat, s_chaffref_Case _ _ _ (rcase_is ⟨_, rfl, fun hne => ?_, fun h0 => ⟨by unfold InI; omega, ⟨by omega, by omega, ?_⟩, by dsimp only; omega⟩⟩)⟩
  ·rw [if_pos hne] at he; rw [he]; exact hK
  ·rw [if_neg h0] at he; rw [show (i + 1).toNat = i.toNat + 1 by omega]; exact he
 ·rw [List.drop_of_length_le (by omega), casesE] at he
  rw [← he] at hK; exact hK
theorem brun_is {K : Value → Mem → Prop} (hg : GrR M rs ga gl gc) (hl : SlV M la ll lc 3 (cl X_api_Case.cells cs)) (h1 : (wellP rs).2 ≠ 0 → ∀ M', M.le M' → K (.tuple #[.slice none 0 0, .int .i64 (wellP rs).2]) M') (h2 : (wellP rs).2 = 0 → bookE cs ≠ 0 → ∀ M', M.le M' → K (.tuple #[.slice none 0 0, .int .i64 (bookE cs)]) M')
  (h3 : (wellP rs).2 = 0 → bookE cs = 0 → ∀ M' ad cap, M.le M' → SlV M' ad cs.length cap 1 (cl bC (cs.map (passP rs))) → K (.tuple #[.slice ad cs.length cap, .int .i64 0]) M') : S_book_Run ga gl gc la ll lc M K := by
 have hn := hl.len Cs_len (by omega)
 subst hn
 unfold S_book_Run
 refine s_well_Well _ _ _ _ _ (wwell_is hg _ ⟨_, _, rfl, fun h => h1 h, fun h => ?_⟩)
 have hwp := Decidable.not_not.1 h
 have hw := well_ok hwp
 refine s_book_Check _ _ _ _ _ (bcheck_is hl ⟨_, rfl, fun h => h2 hwp h, fun h => ?_⟩)
 have hb := Decidable.not_not.1 h
 have h40 : cs.length ≤ 40 := by
  unfold bookE at hb
  split at hb
  ·cases hb
  ·omega
 have hall : ∀ c ∈ cs, caseE c = 0 := casesE_all (by
  unfold bookE at hb
  split at hb
  ·cases hb
  ·exact hb)
 refine ⟨fun i rn rx M' => 0 ≤ i ∧ i ≤ cs.length ∧ rn = i.toNat ∧ rx = cl bC ((cs.take i.toNat).map (passP rs)) ∧ M.le M', fun i _ _ => cs.length - i.toNat, ⟨by omega, by omega, rfl, rfl, Mem.le.refl M⟩, fun i rn rx M' ⟨i0, i1, hrn, hrx, hle⟩ => ⟨fun hlt => ?_, fun hge => ?_⟩⟩
 ·obtain ⟨x, hx⟩ := core.getI (l := cs) i0 hlt
  obtain ⟨b, o, ha, hat⟩ := hl.at Cs_len rfl hx
  have hc := hall x (List.mem_of_getElem? hx)
  have h60 : x.Text.length ≤ 60 := by
   unfold caseE at hc
   split at hc
   ·cases hc
   ·omega
  have hlook : lookP rs x.Text = 0 := by
   unfold lookP
   rw [if_neg (fun h => h hwp), if_neg (by omega)]
  obtain ⟨E, hT⟩ := tab_ex (s := x.Text) hw
  have hend := end_eq hw hT
  have j1 : ∀ (v : Bool) (M2 : Mem), M'.le M2 → (v == ((x.Kind : Int) != (2 : Int))) = passP rs x → S_book_Run_J1 i rn rx (fun i rn rx M' => 0 ≤ i ∧ i ≤ cs.length ∧ rn = i.toNat ∧ rx = cl bC ((cs.take i.toNat).map (passP rs)) ∧ M.le M') (fun i _ _ => cs.length - i.toNat) x v M2 K := by
   intro v M2 hle2 hv
   unfold S_book_Run_J1
   rw [hv]
   refine ⟨by omega, by unfold InI; omega, ⟨by omega, by omega, by omega, ?_, hle.trans hle2⟩, by show cs.length - (i + 1).toNat < cs.length - i.toNat; omega⟩
   rw [hrx, show (i + 1).toNat = i.toNat + 1 by omega, take_get hx, List.map_append]
   exact cl_snoc _ _
  refine ⟨b, o, ha, i0, hlt, x, hat.le hle, s_list_Accepts _ _ _ _ _ _ (laccepts_is (hg.le hle) (fun h => absurd hlook h) fun _ => ⟨_, _, rfl, fun k4 => ?_, fun n4 => ?_⟩)⟩
  ·refine e_pack_Run _ _ _ _ _ _ (prun_is (hg.le hle) (fun h => absurd hlook h) fun _ E' hT' t _ M2 la2 lc2 hle2 _ => ⟨_, _, _, _, _, rfl, j1 _ M2 hle2 ?_⟩)
   have hend' := end_eq hw hT'
   unfold caseE at hc
   rw [if_neg (by omega), if_neg (by omega), if_pos k4] at hc
   have hN : 0 ≤ x.N := by
    split at hc
    ·rename_i h; exact h.1
    ·cases hc
   unfold passP
   rw [if_neg (show ¬ x.Kind = 1 by omega), if_neg (show ¬ x.Kind = 2 by omega), hend', k4]
   unfold outE
   by_cases h0 : 0 ≤ E' 0 0
   ·rw [if_pos h0]
    simp only [Int.sub_zero]
    rw [Bool.eq_iff_iff]
    simp
   ·rw [if_neg h0, decide_eq_false (by omega)]; rfl
  ·refine j1 _ M' (Mem.le.refl _) ?_
   rw [acc_eq hw hT]
   unfold passP
   rw [hend]
   unfold caseE at hc
   rw [if_neg (by omega), if_neg n4] at hc
   have hk : x.Kind = 1 ∨ x.Kind = 2 := by
    split at hc
    ·rename_i h; exact h
    ·cases hc
   rcases hk with k | k
   ·rw [if_pos k, k, Bool.eq_iff_iff]; simp
   ·rw [if_neg (by omega), if_pos k, k]
    cases decide (E 0 0 = (x.Text.length : Int)) <;> rfl
 ·have hi : i.toNat = cs.length := by omega
  rw [hrn, hrx, hi, List.take_of_length_le (Nat.le_refl _)]
  exact fun M83 ad cap hle2 hsl M3 hle3 => h3 hwp hb M3 ad cap (hle.trans (hle2.trans hle3)) (hsl.le hle3)
theorem passes_is {K : Value → Prop} {c : Cs} (hw : WellOk rs) (h60 : c.Text.length ≤ 60) (hg : GrR M rs ga gl gc) (hK : K (.bool (passP rs c))) : S_chaffref_Passes ga gl gc c M K := by
 have h11 := hw.ok.one
 unfold S_chaffref_Passes
 refine e_chaffref_Fill _ _ _ _ _ _ (fill_is hw h60 hg _ fun M7 b ea ec eb E hle hT hTab => ⟨_, rfl, b, 0, rfl, _, _, _, hTab.en, eb, 0, hTab.ea, by omega, by omega, ?_⟩)
 obtain ⟨ra, rc, hra, hrow⟩ := hTab.row 0 (by omega) (by omega)
 obtain ⟨b3, o3, hb3, hat3⟩ := hrow.at iC_len (rowE_len E rs.length 0) (rowE_get (i := 0) h11)
 unfold passP at hK
 rw [end_eq hw hT] at hK
 refine ⟨ra, _, rc, hra, b3, o3, hb3, by omega, by omega, _, hat3, fun k1 => by rw [if_pos k1] at hK; exact hK, fun n1 => ⟨fun k2 => by rw [if_neg n1, if_pos k2] at hK; exact hK, fun n2 => by rw [if_neg n1, if_neg n2] at hK; exact hK⟩⟩
end
theorem walk : WalkGoal := by
 intro H enc W x n B hx ⟨la, ll, lc⟩ n2 B2 hy
 obtain ⟨rs, hg⟩ := gr_of (A := x.a) (l := x.l) (c := x.c) hx
 obtain ⟨cs, bs, hsl, hl, hm, hall, _⟩ := open_L_Case hy
 try simp only at hsl hl hm
 refine s_chafflaw_BookRuns _ _ _ _ _ _ _ _ ?_
 unfold S_chafflaw_BookRuns
 generalize HM W = M at *
 subst hl
 refine s_book_Run _ _ _ _ _ _ _ _ (brun_is hg hsl (fun h M' hle => ⟨_, _, _, _, rfl, ?_⟩) (fun h hb M' hle => ⟨_, _, _, _, rfl, ?_⟩) fun h hb M' ad cap hle hsl2 => ⟨_, _, _, _, rfl, ?_⟩)
 ·refine s_chaffref_Well _ _ _ _ _ (rwell_is (hg.le hle) _ ⟨_, _, rfl, fun h0 => absurd h0 h, fun _ => ?_⟩)
  unfold S_chafflaw_BookRuns_J1
  exact ⟨fun _ => ⟨fun _ => rfl, fun hn => absurd rfl hn⟩, fun hn => absurd h hn⟩
 ·refine s_chaffref_Well _ _ _ _ _ (rwell_is (hg.le hle) _ ⟨_, _, rfl, fun _ => s_chaffref_Cases _ _ _ _ _ (rcases_is (hsl.le hle) ⟨_, rfl, ?_⟩), fun h0 => absurd h h0⟩)
  unfold S_chafflaw_BookRuns_J1
  exact ⟨fun _ => ⟨fun _ => rfl, fun hn => absurd rfl hn⟩, fun hn => absurd hb hn⟩
 ·refine s_chaffref_Well _ _ _ _ _ (rwell_is (hg.le hle) _ ⟨_, _, rfl, fun _ => s_chaffref_Cases _ _ _ _ _ (rcases_is (hsl.le hle) ⟨_, rfl, ?_⟩), fun h0 => absurd h h0⟩)
  have hw := well_ok h
  have h40 := hsl.max
  have hcs : ∀ c ∈ cs, caseE c = 0 := casesE_all (by
   unfold bookE at hb
   split at hb
   ·cases hb
   ·exact hb)
  unfold S_chafflaw_BookRuns_J1
  refine ⟨fun hn => absurd hb hn, fun _ => ⟨fun hn => absurd rfl hn, fun _ => ?_⟩⟩
  unfold S_chafflaw_BookRuns_J2
  refine ⟨fun ht => by simp at ht, fun _ => ⟨fun i => 0 ≤ i ∧ i ≤ (cs.length : Int), fun i => cs.length - i.toNat, ⟨by omega, by omega⟩, fun i ⟨i0, i1⟩ => ⟨fun hlt => ?_, fun _ => rfl⟩⟩⟩
  have hlt : i < ((cs.length : Nat) : Int) := hlt
  have h40 : cs.length ≤ 9223372036854775807 := h40
  obtain ⟨c, hc⟩ := core.getI (l := cs) i0 hlt
  obtain ⟨b, o, ha, hat⟩ := hsl.at Cs_len rfl hc
  obtain ⟨b2, o2, ha2, hat2⟩ := hsl2.at bC_len (by simp) (x := passP rs c) (by rw [List.getElem?_map, hc]; rfl)
  have h0 := hcs c (List.mem_of_getElem? hc)
  have h60 : c.Text.length ≤ 60 := by
   unfold caseE at h0
   split at h0
   ·cases h0
   ·omega
  exact ⟨b, o, ha, i0, hlt, c, hat.le hle, b2, o2, ha2, i0, hlt, _, hat2, s_chaffref_Passes _ _ _ _ _ _ (passes_is hw h60 (hg.le hle) ⟨_, rfl, fun hn => absurd rfl hn, fun _ => ⟨by unfold InI; omega, ⟨by omega, by omega⟩, by dsimp only; omega⟩⟩)⟩
theorem holds : Rows.BookRunsSaid := top walk
#print axioms holds
end Go.Proofs.Ytifkffmecfgpeaa.lawBookRuns
