/- Contracts of functions: what each answers at every input that its caller may hand it. No condition. -/
import Derived.Test.YtifkffmecfgpeaaMean3X
namespace Go.Proofs.Ytifkffmecfgpeaa.core
open Go.Gx Go.RowKit Go.ChangeShapes Go.WideShapes Go.ChangeAt
/-! ### The kids that are tried -/

abbrev Tr := X_chaffref_Tried
theorem Tr_len (x : Tr) : (X_chaffref_Tried.cells x).length = 2 := rfl
def seqK (f : Ex → Int → Int) : List Ex → Int → Int → List Tr
  | [], _, _ => []
  | k :: ks, i, p => ⟨i, p⟩ :: (if f k p < 0 then [] else seqK f ks (i + 1) (f k p))
def altK (f : Ex → Int → Int) : List Ex → Int → Int → List Tr
  | [], _, _ => []
  | k :: ks, i, p => ⟨i, p⟩ :: (if f k p < 0 then altK f ks (i + 1) p else [])
def staK (f : Int → Int) : Nat → Int → List Tr
  | 0, _ => []
  | m + 1, p => if p < 0 then [] else ⟨0, p⟩ :: staK f m (f p)
def kidK (rs : List Ru) (s : List UInt8) (E : Nat → Nat → Int) (e : Ex) (p : Int) : List Tr :=
  if e.kind = 5 then seqK (endE rs s E) e.kids 0 p else if e.kind = 6 then altK (endE rs s E) e.kids 0 p
  else if e.kind = 7 ∨ e.kind = 8 then staK (hdE rs s E e.kids) (s.length + 3) p else if 9 ≤ e.kind then [⟨0, p⟩] else []

theorem kids_is {rs : List Ru} {s : List UInt8} {E : Nat → Nat → Int} {b : Nat} {ga ea : Option Addr} {gl gc ec eb : Nat} (hs60 : s.length ≤ 60) (h10 : rs.length ≤ 10) (hT : Tab rs s E) {e : Ex} (hok : PegOk rs e) {M : Mem} {x : X_api_Expr} {p : Int} {K : Value → Mem → Prop} (hR : ExR M e x) (hM : TabR M rs s E 0 b ga ea gl gc ec eb) (hp : 0 ≤ p) (hl : p ≤ s.length)
    (hK : ∀ M' ad cap, M.le M' → SlV M' ad (kidK rs s E e p).length cap 2 (cl X_chaffref_Tried.cells (kidK rs s E e p)) → K (.slice ad (kidK rs s E e p).length cap) M') : S_chaffref_Table_Kids (some ⟨b, 0, none⟩) x p M K := by
  obtain ⟨xs, hx⟩ := hR.open
  obtain ⟨g1, g2, g3, g4, g5, g6, g7, g8⟩ := fitE_kinds hok.good.fit
  have hl8 := kids8 hok.good
  have hres : ∀ k ∈ e.kids, ∀ q : Int, 0 ≤ q → q ≤ s.length → endE rs s E k q = -1 ∨ (q ≤ endE rs s E k q ∧ endE rs s E k q ≤ s.length) := fun k hk q h1 h2 => hT.res (hok.kid hk) h1 h2
  have hrec : ∀ (i : Nat) (k : Ex) (p : Int) (K : Value → Prop), e.kids[i]? = some k → 0 ≤ p → p ≤ s.length → K (.int .i64 (endE rs s E k p)) → ∃ (b1 o1 : Nat), x.Kids_a = some ⟨b1, o1, none⟩ ∧ ∃ y : X_api_Expr, At M b1 (o1 + i * 7) y.cells ∧ CallE Try.prog 53 #[Value.pointer (some ⟨b, 0, none⟩), y.val, .int .i64 p] M (fun v _ => K v) := fun i k p K hk h2 h3 h4 => by
    obtain ⟨b1, o1, y, ha, hat, hy, _⟩ := hx.kid hk
    exact ⟨b1, o1, ha, y, hat, s_chaffref_Table_End _ _ _ _ _ (end_is hs60 h10 hT.ok _ k (Nat.lt_succ_self _) (hok.kid (List.mem_of_getElem? hk)) hy hM h2 h2 h3 h4)⟩
  have hend : ∀ (l : List Tr), l = kidK rs s E e p → ∀ (M2 : Mem) ad n cap, n = l.length → M.le M2 → SlV M2 ad n cap 2 (cl X_chaffref_Tried.cells l) → ∀ M', M2.le M' → K (.slice ad n cap) M' := by
    rintro l rfl M2 ad n cap rfl hle hsl M' hle'
    exact hK M' ad cap (hle.trans hle') (hsl.le hle')
  have snoc : ∀ (l : List Tr) (i q : Int), cl X_chaffref_Tried.cells l ++ (X_chaffref_Tried.mk i q).cells = cl X_chaffref_Tried.cells (l ++ [⟨i, q⟩]) := fun l i q => cl_snoc _ _
  unfold S_chaffref_Table_Kids
  rw [hx.kind]
  have j1 : ∀ v : Bool, v = decide (e.kind = 5 ∨ e.kind = 6) → S_chaffref_Table_Kids_J1 (some ⟨b, 0, none⟩) x p M v K := by
    intro v hv
    unfold S_chaffref_Table_Kids_J1
    rw [hx.kind]
    refine ⟨fun ht => ?_, fun hf => ?_⟩
    · have h56 : e.kind = 5 ∨ e.kind = 6 := by rw [ht] at hv; exact of_decide_eq_true hv.symm
      let rest : Int → Int → List Tr := fun i q => if e.kind = 5 then seqK (endE rs s E) (e.kids.drop i.toNat) i q else altK (endE rs s E) (e.kids.drop i.toNat) i q
      have hrest : rest 0 p = kidK rs s E e p := by
        simp only [rest, kidK, Int.toNat_zero, List.drop_zero]
        split
        · rfl
        · rw [if_pos (by omega)]
      let I : Int → Int → Nat → List Value → Prop := fun q i rn rx => 0 ≤ i ∧ i ≤ e.kids.length ∧ 0 ≤ q ∧ q ≤ s.length ∧ ∃ pre : List Tr, rn = pre.length ∧ rx = cl X_chaffref_Tried.cells pre ∧ (pre.length : Int) ≤ i ∧ pre ++ rest i q = kidK rs s E e p
      let mu : Int → Int → Nat → List Value → Nat := fun _ i _ _ => e.kids.length - i.toNat
      refine ⟨I, mu, ⟨by omega, by omega, hp, hl, [], rfl, rfl, by simp, by simpa using hrest⟩, fun q i rn rx ⟨i0, i1, q0, q1, pre, hrn, hrx, hpl, htot⟩ => ⟨fun hlt => ?_, fun hge => ?_⟩⟩
      · subst hrn hrx
        rw [hx.len] at hlt
        obtain ⟨k, hk⟩ := getI (l := e.kids) i0 hlt
        have hkr := hres k (List.mem_of_getElem? hk) q q0 q1
        obtain ⟨b1, o1, ha, y, hat, hcall⟩ := hrec i.toNat k q (fun v => ∃ x50 : Int, v = .int .i64 x50 ∧ ((decide (x50 < 0) = (e.kind == (5 : Int)) → ∀ (M99 : Mem) (ad97 : Option Addr) (cap98 : Nat), M.le M99 → SlV M99 ad97 (pre.length + 1) cap98 2 (cl X_chaffref_Tried.cells pre ++ (X_chaffref_Tried.mk i q).cells) → ∀ M', M99.le M' → K (.slice ad97 (pre.length + 1) cap98) M') ∧ (¬ decide (x50 < 0) = (e.kind == (5 : Int)) → ((e.kind = 5 → S_chaffref_Table_Kids_J2 q i pre.length (cl X_chaffref_Tried.cells pre) I mu x50 K) ∧ (¬ e.kind = 5 → S_chaffref_Table_Kids_J2 q i pre.length (cl X_chaffref_Tried.cells pre) I mu q K))))) hk q0 q1 (by
          have hnext : ∀ q' : Int, 0 ≤ q' → q' ≤ s.length → (pre ++ [⟨i, q⟩]) ++ rest (i + 1) q' = kidK rs s E e p → S_chaffref_Table_Kids_J2 q i pre.length (cl X_chaffref_Tried.cells pre) I mu q' K := fun q' h1 h2 h3 => by
            unfold S_chaffref_Table_Kids_J2
            rw [snoc]
            exact ⟨by unfold InI; omega, ⟨by omega, by omega, h1, h2, pre ++ [⟨i, q⟩], by simp, rfl, by simp; omega, h3⟩, by simp only [mu]; omega⟩
          have hn1 : (i + 1).toNat = i.toNat + 1 := by omega
          refine ⟨_, rfl, fun hstop M99 ad97 cap98 hle hsl => ?_, fun hgo => ⟨fun k5 => ?_, fun n5 => ?_⟩⟩
          · rw [snoc] at hsl
            refine hend (pre ++ [⟨i, q⟩]) ?_ M99 ad97 _ cap98 (by simp) hle hsl
            rw [← htot]
            congr 1
            simp only [rest]
            rw [drop_get hk]
            rcases h56 with k5 | k6
            · have : endE rs s E k q < 0 := by rw [k5] at hstop; simpa using hstop
              rw [if_pos k5, seqK, if_pos this]
            · have : ¬ endE rs s E k q < 0 := by rw [k6] at hstop; simpa using hstop
              rw [if_neg (by omega), altK, if_neg this]
          · have hge : ¬ endE rs s E k q < 0 := by rw [k5] at hgo; simpa using hgo
            refine hnext _ (by omega) (by omega) ?_
            rw [← htot, List.append_assoc]
            congr 1
            simp only [rest]
            rw [if_pos k5, if_pos k5, drop_get hk, seqK, if_neg hge, hn1]; rfl
          · have hneg : endE rs s E k q < 0 := by
              have : e.kind = 6 := by omega
              rw [this] at hgo; simpa using hgo
            refine hnext q q0 q1 ?_
            rw [← htot, List.append_assoc]
            congr 1
            simp only [rest]
            rw [if_neg n5, if_neg n5, drop_get hk, altK, if_pos hneg, hn1]; rfl)
        exact ⟨b1, o1, ha, i0, by rw [hx.len]; exact hlt, y, hat, by omega, hcall⟩
      · subst hrn hrx
        rw [hx.len] at hge
        refine fun M96 ad94 cap95 hle hsl => hend pre ?_ M96 ad94 _ cap95 rfl hle hsl
        rw [← htot]
        simp only [rest]
        rw [List.drop_of_length_le (by omega)]
        split <;> simp [seqK, altK]
    · have h56 : ¬ (e.kind = 5 ∨ e.kind = 6) := fun h => hf (by rw [hv, decide_eq_true h])
      have j4 : ∀ v : Bool, v = decide (9 ≤ e.kind) → ¬ (e.kind = 7 ∨ e.kind = 8) → S_chaffref_Table_Kids_J4 p M v K := by
        intro v hv' h78
        unfold S_chaffref_Table_Kids_J4
        have hkk : kidK rs s E e p = if 9 ≤ e.kind then [⟨0, p⟩] else [] := by unfold kidK; rw [if_neg (fun h => h56 (.inl h)), if_neg (fun h => h56 (.inr h)), if_neg h78]
        refine ⟨fun ht => ⟨by omega, fun M105 ad cap hle hsl => ?_⟩, fun hf' M106 hle hsl => ?_⟩
        · rw [ht] at hv'
          have h9 : 9 ≤ e.kind := of_decide_eq_true hv'.symm
          rw [if_pos h9] at hkk
          exact hend [⟨0, p⟩] hkk.symm M105 ad _ cap (by simp) hle (by simpa [cl] using hsl)
        · have h9 : ¬ 9 ≤ e.kind := fun h => hf' (by rw [hv', decide_eq_true h])
          rw [if_neg h9] at hkk
          exact hend [] hkk.symm M106 none 0 0 rfl hle (by simpa [cl] using hsl)
      have j3 : ∀ v : Bool, v = decide (e.kind = 7 ∨ e.kind = 8) → S_chaffref_Table_Kids_J3 (some ⟨b, 0, none⟩) x p M v K := by
        intro v hv'
        unfold S_chaffref_Table_Kids_J3
        rw [hx.kind]
        refine ⟨fun ht => ?_, fun hf' => ?_⟩
        · have h78 : e.kind = 7 ∨ e.kind = 8 := by rw [ht] at hv'; exact of_decide_eq_true hv'.symm
          obtain ⟨k, hk1⟩ := List.length_eq_one_iff.1 (g5 (by omega))
          have hk : e.kids[0]? = some k := by rw [hk1]; rfl
          have hkm : k ∈ e.kids := by rw [hk1]; simp
          have hem := hok.star hk1 h78
          have hkk : kidK rs s E e p = staK (endE rs s E k) (s.length + 3) p := by
            unfold kidK
            rw [if_neg (fun h => h56 (.inl h)), if_neg (fun h => h56 (.inr h)), if_pos h78]
            congr 1
            rw [hk1]; funext q; rw [hdE]
          let I : Int → Nat → List Value → Prop := fun q rn rx => -1 ≤ q ∧ q ≤ s.length ∧ ∃ (pre : List Tr) (mm : Nat), rn = pre.length ∧ rx = cl X_chaffref_Tried.cells pre ∧ pre ++ staK (endE rs s E k) mm q = kidK rs s E e p ∧ (0 ≤ q → (s.length : Int) + 2 ≤ q + mm ∧ (pre.length : Int) ≤ q)
          let mu : Int → Nat → List Value → Nat := fun q _ _ => if q < 0 then 0 else (s.length + 1 - q).toNat
          refine ⟨I, mu, ⟨by omega, hl, [], s.length + 3, rfl, rfl, by rw [hkk]; rfl, fun _ => ⟨by push_cast; omega, by simpa using hp⟩⟩, fun q rn rx ⟨q0, q1, pre, mm, hrn, hrx, htot, hq⟩ => ⟨fun hge => ?_, fun hlt => ?_⟩⟩
          · subst hrn hrx
            obtain ⟨hq1, hq2⟩ := hq hge
            have hkr := hres k hkm q hge q1
            have hprog : endE rs s E k q ≠ q := fun h => by rw [hT.empty (hok.kid hkm) hge q1 h] at hem; cases hem
            obtain ⟨b1, o1, ha, y, hat, hcall⟩ := hrec 0 k q (fun v => ∃ x88 : Int, v = .int .i64 x88 ∧ I x88 (pre.length + 1) (cl X_chaffref_Tried.cells pre ++ (X_chaffref_Tried.mk 0 q).cells) ∧ mu x88 (pre.length + 1) (cl X_chaffref_Tried.cells pre ++ (X_chaffref_Tried.mk 0 q).cells) < mu q pre.length (cl X_chaffref_Tried.cells pre)) hk hge q1 (by
              cases mm with
              | zero => omega
              | succ mm =>
                rw [staK, if_neg (by omega)] at htot
                by_cases hneg : endE rs s E k q = -1
                · refine ⟨_, rfl, ⟨by omega, by omega, pre ++ [⟨0, q⟩], mm, by simp, snoc _ _ _, by rw [List.append_assoc]; exact htot, fun h => by omega⟩, ?_⟩
                  simp only [mu]
                  rw [hneg, if_pos (by omega), if_neg (by omega)]
                  omega
                · refine ⟨_, rfl, ⟨by omega, by omega, pre ++ [⟨0, q⟩], mm, by simp, snoc _ _ _, by rw [List.append_assoc]; exact htot, fun h => ⟨by push_cast at hq1; omega, by simp; omega⟩⟩, ?_⟩
                  simp only [mu]
                  rw [if_neg (by omega), if_neg (by omega)]
                  omega)
            exact ⟨by omega, b1, o1, ha, by omega, by rw [hx.len, hk1]; simp, y, hat, hcall⟩
          · subst hrn hrx
            refine fun M102 ad cap hle hsl => hend pre ?_ M102 ad _ cap rfl hle hsl
            rw [← htot]
            have : staK (endE rs s E k) mm q = [] := by
              cases mm with
              | zero => rfl
              | succ mm => rw [staK, if_pos (by omega)]
            rw [this, List.append_nil]
        · have h78 : ¬ (e.kind = 7 ∨ e.kind = 8) := fun h => hf' (by rw [hv', decide_eq_true h])
          exact ⟨fun k9 => j4 _ (by rw [k9]; rfl) h78, fun n9 => ⟨fun k10 => j4 _ (by rw [k10]; rfl) h78, fun n10 => j4 _ (by rw [Bool.eq_iff_iff]; simp; omega) h78⟩⟩
      exact ⟨fun k7 => j3 _ (by rw [k7]; rfl), fun n7 => j3 _ (by rw [Bool.eq_iff_iff]; simp [n7])⟩
  refine ⟨fun h5 => j1 _ (by rw [h5]; rfl), fun n5 => j1 _ (by rw [Bool.eq_iff_iff]; simp [n5])⟩
end Go.Proofs.Ytifkffmecfgpeaa.core
