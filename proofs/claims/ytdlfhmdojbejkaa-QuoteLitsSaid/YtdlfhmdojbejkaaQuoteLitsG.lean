/- What the code that QuoteLits reaches computes, function for function, as shallow propositions; printed by program. -/
import Derived.Test.YtdlfhmdojbejkaaRows
import Derived.Test.YtdlfhmdojbejkaaGxD
import Derived.Test.YtdlfhmdojbejkaaGxE
import Derived.Test.YtdlfhmdojbejkaaGxS
import Derived.Test.YtdlfhmdojbejkaaGxY
import Derived.Test.YtdlfhmdojbejkaaGxB
namespace Go.Proofs.Ytdlfhmdojbejkaa.lawQuoteLits
open Go.Gx Go.RowKit Go.ChangeShapes Go.WideShapes Go.ChangeAt
set_option linter.unusedVariables false in
def S_internal_stringslite_IndexByte (s1 : List UInt8) (c2 : Int) (M : Mem) (K : Value → Prop) : Prop :=
  K (Value.int .i64 (idxB s1 c2))
set_option linter.unusedVariables false in
set_option maxRecDepth 100000 in
theorem s_internal_stringslite_IndexByte (s1 : List UInt8) (c2 : Int) (M : Mem) (K : Value → Prop) (hS : S_internal_stringslite_IndexByte s1 c2 M K) : CallE Try.prog 104 #[(Value.string (mkS s1)), (Value.int .u8 c2)] M (fun v _ => K v) := by
  refine enterE Try.func104 rfl 8 rfl (Nat.le_of_ble_eq_true rfl) (fun E a hs => ?_)
  unfold S_internal_stringslite_IndexByte at hS
  have hMM := MX.refl M E
  change Sx 8 E [] M E a [(0, (Value.string (mkS s1))), (1, (Value.int .u8 c2))] [] [] at hs
  refine Wp.seq (Wp.region (sP (Value.int .i64 0) hs fun _ hs => ?_))
  refine wpList_nil (Wp.seq (Wp.region (sP (Value.string (mkS s1)) hs fun _ hs => ?_)))
  refine sP (Value.int .u8 c2) hs fun _ hs => ?_
  refine sY (Value.int .i64 (idxB s1 c2)) hs (Yl.idxByte rfl ⟨_, rfl, rfl⟩ rfl Try.func106 rfl (by kernel_rfl) (by kernel_rfl) (by kernel_rfl)) fun _ hs => ?_
  refine sP (Value.int .i64 (idxB s1 c2)) hs fun _ hs => ?_
  exact wpList_nil (Wp.ret (leaveE (K := fun v _ => K v) hs (resT hs rfl rfl) hMM.2 (fun _ _ => hS)))
set_option linter.unusedVariables false in
def S_strings_IndexByte (s1 : List UInt8) (c2 : Int) (M : Mem) (K : Value → Prop) : Prop :=
  (CallE Try.prog 104 #[(Value.string (mkS s1)), (Value.int .u8 c2)] M (fun v _ => ∃ (x3 : Int), v = (Value.int .i64 x3) ∧ K (Value.int .i64 x3)))
set_option linter.unusedVariables false in
set_option maxRecDepth 100000 in
theorem s_strings_IndexByte (s1 : List UInt8) (c2 : Int) (M : Mem) (K : Value → Prop) (hS : S_strings_IndexByte s1 c2 M K) : CallE Try.prog 96 #[(Value.string (mkS s1)), (Value.int .u8 c2)] M (fun v _ => K v) := by
  refine enterE Try.func96 rfl 8 rfl (Nat.le_of_ble_eq_true rfl) (fun E a hs => ?_)
  unfold S_strings_IndexByte at hS
  have hMM := MX.refl M E
  change Sx 8 E [] M E a [(0, (Value.string (mkS s1))), (1, (Value.int .u8 c2))] [] [] at hs
  refine Wp.seq (Wp.region (sP (Value.int .i64 0) hs fun _ hs => ?_))
  refine wpList_nil (Wp.seq (Wp.region (sP (Value.string (mkS s1)) hs fun _ hs => ?_)))
  refine sP (Value.int .u8 c2) hs fun _ hs => ?_
  refine stepCallP [(Value.string (mkS s1)), (Value.int .u8 c2)] hs rfl ⟨_, rfl, rfl⟩ rfl Try.func104 rfl (by kernel_rfl) (by decide) hS (fun _ _ v hS hs => ?_)
  obtain ⟨x3, hv, hS⟩ := hS
  subst hv
  refine sP (Value.int .i64 x3) hs fun _ hs => ?_
  exact wpList_nil (Wp.ret (leaveE (K := fun v _ => K v) hs (resT hs rfl rfl) hMM.2 (fun _ _ => hS)))
set_option linter.unusedVariables false in
def S_quote_next_J2 (x11 : Int) (x12 : Int) (x13 : Bool) (K : Value → Prop) : Prop :=
  ((x13 = true → K (Value.tuple #[(Value.int .u8 (IntKind.wrap .u8 (bOr .i64 (bShl .i64 x11 4) x12))), (Value.int .i64 4)])) ∧ (¬ (x13 = true) → K (Value.tuple #[(Value.int .u8 0), (Value.int .i64 0)])))
set_option linter.unusedVariables false in
def S_quote_next_J1 (s1 : List UInt8) (M : Mem) (x8 : Bool) (K : Value → Prop) : Prop :=
  ((x8 = true → (∃ c9 : UInt8, (0 : Int) ≤ 2 ∧ s1[(2 : Int).toNat]? = some c9 ∧ (∃ c10 : UInt8, (0 : Int) ≤ 3 ∧ s1[(3 : Int).toNat]? = some c10 ∧ (CallE Try.prog 96 #[(Value.string (mkS ([48, 49, 50, 51, 52, 53, 54, 55, 56, 57, 97, 98, 99, 100, 101, 102] : List UInt8))), (Value.int .u8 (c9.toNat : Int))] M (fun v _ => ∃ (x11 : Int), v = (Value.int .i64 x11) ∧ (CallE Try.prog 96 #[(Value.string (mkS ([48, 49, 50, 51, 52, 53, 54, 55, 56, 57, 97, 98, 99, 100, 101, 102] : List UInt8))), (Value.int .u8 (c10.toNat : Int))] M (fun v _ => ∃ (x12 : Int), v = (Value.int .i64 x12) ∧ ((x11 ≥ 0 → (S_quote_next_J2 x11 x12 (decide (x12 ≥ 0)) K)) ∧ (¬ (x11 ≥ 0) → (S_quote_next_J2 x11 x12 false K)))))))))) ∧ (¬ (x8 = true) → K (Value.tuple #[(Value.int .u8 0), (Value.int .i64 0)])))
set_option linter.unusedVariables false in
def S_quote_next (s1 : List UInt8) (signs2 : List UInt8) (M : Mem) (K : Value → Prop) : Prop :=
  (∃ c3 : UInt8, (0 : Int) ≤ 0 ∧ s1[(0 : Int).toNat]? = some c3 ∧ (((c3.toNat : Int) ≠ 92 → (∃ c4 : UInt8, (0 : Int) ≤ 0 ∧ s1[(0 : Int).toNat]? = some c4 ∧ (((c4.toNat : Int) = 10 → K (Value.tuple #[(Value.int .u8 0), (Value.int .i64 0)])) ∧ (¬ ((c4.toNat : Int) = 10) → (∃ c5 : UInt8, (0 : Int) ≤ 0 ∧ s1[(0 : Int).toNat]? = some c5 ∧ K (Value.tuple #[(Value.int .u8 (c5.toNat : Int)), (Value.int .i64 1)])))))) ∧ (¬ ((c3.toNat : Int) ≠ 92) → ((((s1.length : Nat) : Int) < 2 → K (Value.tuple #[(Value.int .u8 0), (Value.int .i64 0)])) ∧ (¬ (((s1.length : Nat) : Int) < 2) → (∃ c6 : UInt8, (0 : Int) ≤ 1 ∧ s1[(1 : Int).toNat]? = some c6 ∧ (((c6.toNat : Int) = 110 → K (Value.tuple #[(Value.int .u8 10), (Value.int .i64 2)])) ∧ (¬ ((c6.toNat : Int) = 110) → (((c6.toNat : Int) = 116 → K (Value.tuple #[(Value.int .u8 9), (Value.int .i64 2)])) ∧ (¬ ((c6.toNat : Int) = 116) → (CallE Try.prog 96 #[(Value.string (mkS signs2)), (Value.int .u8 (c6.toNat : Int))] M (fun v _ => ∃ (x7 : Int), v = (Value.int .i64 x7) ∧ ((x7 ≥ 0 → K (Value.tuple #[(Value.int .u8 (c6.toNat : Int)), (Value.int .i64 2)])) ∧ (¬ (x7 ≥ 0) → (((c6.toNat : Int) = 120 → (S_quote_next_J1 s1 M (decide (((s1.length : Nat) : Int) ≥ 4)) K)) ∧ (¬ ((c6.toNat : Int) = 120) → (S_quote_next_J1 s1 M false K)))))))))))))))))
set_option linter.unusedVariables false in
set_option maxRecDepth 100000 in
theorem s_quote_next (s1 : List UInt8) (signs2 : List UInt8) (M : Mem) (K : Value → Prop) (hS : S_quote_next s1 signs2 M K) : CallE Try.prog 78 #[(Value.string (mkS s1)), (Value.string (mkS signs2))] M (fun v _ => K v) := by
  refine enterE Try.func78 rfl 59 rfl (Nat.le_of_ble_eq_true rfl) (fun E a hs => ?_)
  unfold S_quote_next at hS
  have hMM := MX.refl M E
  change Sx 59 E [] M E a [(0, (Value.string (mkS s1))), (1, (Value.string (mkS signs2)))] [] [] at hs
  refine Wp.seq (Wp.region (sP (Value.int .u8 0) hs fun _ hs => ?_))
  refine sP (Value.int .i64 0) hs fun _ hs => ?_
  refine wpList_nil (Wp.seq (Wp.seq (Wp.region (sP (Value.string (mkS s1)) hs fun _ hs => ?_))))
  obtain ⟨c3, h0, hi, hS⟩ := hS
  refine sY (Value.int .u8 (c3.toNat : Int)) hs (Yl.indexStr rfl rfl rfl rfl (by kernel_rfl) h0 hi) fun _ hs => ?_
  refine sP (Value.bool ((c3.toNat : Int) != (92 : Int))) hs fun _ hs => ?_
  refine wpList_nil (Wp.cond hs rfl rfl bne_iff_ne (fun hc => ?_) (fun hc => ?_))
  · have hS := hS.1 hc
    refine Wp.seq (Wp.seq (Wp.region (sP (Value.string (mkS s1)) hs fun _ hs => ?_)))
    obtain ⟨c4, h0, hi, hS⟩ := hS
    refine sY (Value.int .u8 (c4.toNat : Int)) hs (Yl.indexStr rfl rfl rfl rfl (by kernel_rfl) h0 hi) fun _ hs => ?_
    refine sP (Value.bool ((c4.toNat : Int) == (10 : Int))) hs fun _ hs => ?_
    refine wpList_nil (Wp.cond hs rfl rfl beq_iff_eq (fun hc => ?_) (fun hc => ?_))
    · have hS := hS.1 hc
      refine Wp.seq (Wp.region (sP (Value.int .u8 0) hs fun _ hs => ?_))
      refine sP (Value.int .i64 0) hs fun _ hs => ?_
      exact wpList_nil (Wp.ret (leaveE (K := fun v _ => K v) hs (resTT hs rfl rfl rfl) hMM.2 (fun _ _ => hS)))
    · have hS := hS.2 hc
      refine Wp.skip (Wp.seq (Wp.region (sP (Value.string (mkS s1)) hs fun _ hs => ?_)))
      obtain ⟨c5, h0, hi, hS⟩ := hS
      refine sY (Value.int .u8 (c5.toNat : Int)) hs (Yl.indexStr rfl rfl rfl rfl (by kernel_rfl) h0 hi) fun _ hs => ?_
      refine sP (Value.int .u8 (c5.toNat : Int)) hs fun _ hs => ?_
      refine sP (Value.int .i64 1) hs fun _ hs => ?_
      exact wpList_nil (Wp.ret (leaveE (K := fun v _ => K v) hs (resTT hs rfl rfl rfl) hMM.2 (fun _ _ => hS)))
  · have hS := hS.2 hc
    refine Wp.skip (Wp.seq (Wp.seq (Wp.region (sP (Value.string (mkS s1)) hs fun _ hs => ?_))))
    refine sP (Value.int .i64 ((s1.length : Nat) : Int)) hs fun _ hs => ?_
    refine sP (Value.bool (decide (((s1.length : Nat) : Int) < 2))) hs fun _ hs => ?_
    refine wpList_nil (Wp.cond hs rfl rfl decide_eq_true_iff (fun hc => ?_) (fun hc => ?_))
    · have hS := hS.1 hc
      refine Wp.seq (Wp.region (sP (Value.int .u8 0) hs fun _ hs => ?_))
      refine sP (Value.int .i64 0) hs fun _ hs => ?_
      exact wpList_nil (Wp.ret (leaveE (K := fun v _ => K v) hs (resTT hs rfl rfl rfl) hMM.2 (fun _ _ => hS)))
    · have hS := hS.2 hc
      refine Wp.skip (Wp.seq (Wp.seq (Wp.region (sP (Value.string (mkS s1)) hs fun _ hs => ?_))))
      obtain ⟨c6, h0, hi, hS⟩ := hS
      refine sY (Value.int .u8 (c6.toNat : Int)) hs (Yl.indexStr rfl rfl rfl rfl (by kernel_rfl) h0 hi) fun _ hs => ?_
      refine sP (Value.int .u8 (c6.toNat : Int)) hs fun _ hs => ?_
      refine wpList_nil (Wp.block (Wp.seq (Wp.region (sP (Value.int .u8 (c6.toNat : Int)) hs fun _ hs => ?_))))
      refine sP (Value.bool ((c6.toNat : Int) == (110 : Int))) hs fun _ hs => ?_
      refine sP (Value.bool ((c6.toNat : Int) == (110 : Int))) hs fun _ hs => ?_
      refine wpList_nil (Wp.cond hs rfl rfl beq_iff_eq (fun hc => ?_) (fun hc => ?_))
      · have hS := hS.1 hc
        refine Wp.seq (Wp.region (sP (Value.int .u8 10) hs fun _ hs => ?_))
        refine sP (Value.int .i64 2) hs fun _ hs => ?_
        exact wpList_nil (Wp.ret (leaveE (K := fun v _ => K v) hs (resTT hs rfl rfl rfl) hMM.2 (fun _ _ => hS)))
      · have hS := hS.2 hc
        refine Wp.seq (Wp.region (sP (Value.int .u8 (c6.toNat : Int)) hs fun _ hs => ?_))
        refine sP (Value.bool ((c6.toNat : Int) == (116 : Int))) hs fun _ hs => ?_
        refine sP (Value.bool ((c6.toNat : Int) == (116 : Int))) hs fun _ hs => ?_
        refine wpList_nil (Wp.cond hs rfl rfl beq_iff_eq (fun hc => ?_) (fun hc => ?_))
        · have hS := hS.1 hc
          refine Wp.seq (Wp.region (sP (Value.int .u8 9) hs fun _ hs => ?_))
          refine sP (Value.int .i64 2) hs fun _ hs => ?_
          exact wpList_nil (Wp.ret (leaveE (K := fun v _ => K v) hs (resTT hs rfl rfl rfl) hMM.2 (fun _ _ => hS)))
        · have hS := hS.2 hc
          refine Wp.seq (Wp.region (sP (Value.string (mkS signs2)) hs fun _ hs => ?_))
          refine sP (Value.int .u8 (c6.toNat : Int)) hs fun _ hs => ?_
          refine stepCallP [(Value.string (mkS signs2)), (Value.int .u8 (c6.toNat : Int))] hs rfl ⟨_, rfl, rfl⟩ rfl Try.func96 rfl (by kernel_rfl) (by decide) hS (fun _ _ v hS hs => ?_)
          obtain ⟨x7, hv, hS⟩ := hS
          subst hv
          refine sP (Value.bool (decide (x7 ≥ 0))) hs fun _ hs => ?_
          refine sP (Value.bool (decide (x7 ≥ 0))) hs fun _ hs => ?_
          refine wpList_nil (Wp.cond hs rfl rfl decide_eq_true_iff (fun hc => ?_) (fun hc => ?_))
          · have hS := hS.1 hc
            refine Wp.seq (Wp.region (sP (Value.int .u8 (c6.toNat : Int)) hs fun _ hs => ?_))
            refine sP (Value.int .u8 (c6.toNat : Int)) hs fun _ hs => ?_
            refine sP (Value.int .i64 2) hs fun _ hs => ?_
            exact wpList_nil (Wp.ret (leaveE (K := fun v _ => K v) hs (resTT hs rfl rfl rfl) hMM.2 (fun _ _ => hS)))
          · have hS := hS.2 hc
            refine Wp.join (fun a w => ∃ (x8 : Bool), Sx 59 E [] M w a [(0, (Value.string (mkS s1))), (34, (Value.bool x8))] [] [] ∧ (S_quote_next_J1 s1 M x8 K)) ?_ ?_
            · refine Wp.region (sP (Value.int .u8 (c6.toNat : Int)) hs fun _ hs => ?_)
              refine sP (Value.bool ((c6.toNat : Int) == (120 : Int))) hs fun _ hs => ?_
              refine sP (Value.bool ((c6.toNat : Int) == (120 : Int))) hs fun _ hs => ?_
              refine bsplit ((c6.toNat : Int) == (120 : Int)) beq_iff_eq (fun hb hc => ?_) (fun hb hc => ?_)
              · have hs := hs.bt hb
                have hS := hS.1 hc
                refine sYe hs (sP (Value.string (mkS s1)) hs fun _ hs => ?_)
                refine sYe hs (sP (Value.int .i64 ((s1.length : Nat) : Int)) hs fun _ hs => ?_)
                refine sYe hs (sP (Value.bool (decide (((s1.length : Nat) : Int) ≥ 4))) hs fun _ hs => ?_)
                refine sP (Value.bool (decide (((s1.length : Nat) : Int) ≥ 4))) hs fun _ hs => ?_
                refine sP (Value.bool (decide (((s1.length : Nat) : Int) ≥ 4))) hs fun _ hs => ?_
                exact wpList_nil (⟨(decide (((s1.length : Nat) : Int) ≥ 4)), (hs.weak (List.Sublist.refl _) (List.Sublist.refl _) ⟨rfl, rfl, trivial⟩), hS⟩)
              · have hs := hs.bf hb
                have hS := hS.2 hc
                refine sNo hs fun _ hs => ?_
                refine sNo hs fun _ hs => ?_
                refine sNo hs fun _ hs => ?_
                refine sP (Value.bool false) hs fun _ hs => ?_
                refine sP (Value.bool false) hs fun _ hs => ?_
                exact wpList_nil (⟨false, (hs.weak (List.Sublist.refl _) (List.Sublist.refl _) ⟨rfl, rfl, trivial⟩), hS⟩)
            · intro a w hJ
              obtain ⟨x8, hs, hS⟩ := hJ
              unfold S_quote_next_J1 at hS
              refine Wp.cond hs rfl rfl Iff.rfl (fun hc => ?_) (fun hc => ?_)
              · have hS := hS.1 hc
                refine Wp.seq (Wp.regionD [true, true, true, true, true, true, true, true] hs (by kernel_rfl) rfl [] (fun _ h => h) [] (fun _ h => h) (fun _ hs hC => ?_))
                have hL := Mem.le.refl M
                refine dP (Value.string (mkS s1)) 0 [1, 2, 5, 6, 7] hs QZ.no (wanted_none rfl) fun _ hs => ?_
                obtain ⟨c9, h0, hi, hS⟩ := hS
                refine stepDP (v := (Value.int .u8 (c9.toNat : Int))) 1 [2, 5, 6, 7] hs QZ.no rfl (wanted_none rfl) rfl (by decide) (by kernel_rfl) (by kernel_rfl) (by kernel_rfl) (Yl.indexStr rfl rfl rfl rfl (by kernel_rfl) h0 hi) (fun _ hs => ?_)
                refine dP (Value.string (mkS s1)) 3 [4, 5, 6, 7] hs QZ.no (wanted_none rfl) fun _ hs => ?_
                obtain ⟨c10, h0, hi, hS⟩ := hS
                refine stepDP (v := (Value.int .u8 (c10.toNat : Int))) 4 [5, 6, 7] hs QZ.no rfl (wanted_none rfl) rfl (by decide) (by kernel_rfl) (by kernel_rfl) (by kernel_rfl) (Yl.indexStr rfl rfl rfl rfl (by kernel_rfl) h0 hi) (fun _ hs => ?_)
                refine stepDE 2 rfl (wanted_none rfl) (by kernel_rfl) #[] ?_
                refine stepCallP [(Value.string (mkS ([48, 49, 50, 51, 52, 53, 54, 55, 56, 57, 97, 98, 99, 100, 101, 102] : List UInt8))), (Value.int .u8 (c9.toNat : Int))] hs rfl ⟨_, rfl, rfl⟩ rfl Try.func96 rfl (by kernel_rfl) (by decide) hS (fun _ _ v hS hs => ?_)
                obtain ⟨x11, hv, hS⟩ := hS
                subst hv
                refine wpList_nil (⟨fun _ _ => hs.cxle hL (List.Sublist.refl _) (List.Sublist.refl _), ?_⟩)
                have hC := hs.cxle hL (List.Sublist.refl _) (List.Sublist.refl _)
                refine stepDE 5 rfl (wanted_none rfl) (by kernel_rfl) #[] ?_
                refine stepCallP [(Value.string (mkS ([48, 49, 50, 51, 52, 53, 54, 55, 56, 57, 97, 98, 99, 100, 101, 102] : List UInt8))), (Value.int .u8 (c10.toNat : Int))] hs rfl ⟨_, rfl, rfl⟩ rfl Try.func96 rfl (by kernel_rfl) (by decide) hS (fun _ _ v hS hs => ?_)
                obtain ⟨x12, hv, hS⟩ := hS
                subst hv
                refine wpList_nil (⟨fun _ _ => hs.cxle hL (List.Sublist.refl _) (List.Sublist.refl _), ?_⟩)
                have hC := hs.cxle hL (List.Sublist.refl _) (List.Sublist.refl _)
                refine stepDE 6 rfl (wanted_none rfl) (by kernel_rfl) #[] ?_
                refine sP (Value.int .i64 x11) hs fun _ hs => ?_
                refine wpList_nil (⟨fun _ h => h, ?_⟩)
                refine stepDE 7 rfl (wanted_none rfl) (by kernel_rfl) #[] ?_
                refine sP (Value.int .i64 x12) hs fun _ hs => ?_
                refine wpList_nil (⟨fun _ h => h, ?_⟩)
                refine WpD.done (by kernel_rfl) ?_ _
                refine Wp.join (fun a w => ∃ (x13 : Bool), Sx 59 E [] M w a [(7, (Value.int .i64 x11)), (8, (Value.int .i64 x12)), (53, (Value.bool x13))] [] [] ∧ (S_quote_next_J2 x11 x12 x13 K)) ?_ ?_
                · refine Wp.region (sP (Value.int .i64 x11) hs fun _ hs => ?_)
                  refine sP (Value.bool (decide (x11 ≥ 0))) hs fun _ hs => ?_
                  refine sP (Value.bool (decide (x11 ≥ 0))) hs fun _ hs => ?_
                  refine bsplit (decide (x11 ≥ 0)) decide_eq_true_iff (fun hb hc => ?_) (fun hb hc => ?_)
                  · have hs := hs.bt hb
                    have hS := hS.1 hc
                    refine sYe hs (sP (Value.int .i64 x12) hs fun _ hs => ?_)
                    refine sYe hs (sP (Value.bool (decide (x12 ≥ 0))) hs fun _ hs => ?_)
                    refine sP (Value.bool (decide (x12 ≥ 0))) hs fun _ hs => ?_
                    exact wpList_nil (⟨(decide (x12 ≥ 0)), (hs.weak (List.Sublist.refl _) (List.Sublist.refl _) ⟨rfl, rfl, rfl, trivial⟩), hS⟩)
                  · have hs := hs.bf hb
                    have hS := hS.2 hc
                    refine sNo hs fun _ hs => ?_
                    refine sNo hs fun _ hs => ?_
                    refine sP (Value.bool false) hs fun _ hs => ?_
                    exact wpList_nil (⟨false, (hs.weak (List.Sublist.refl _) (List.Sublist.refl _) ⟨rfl, rfl, rfl, trivial⟩), hS⟩)
                · intro a w hJ
                  obtain ⟨x13, hs, hS⟩ := hJ
                  unfold S_quote_next_J2 at hS
                  refine Wp.cond hs rfl rfl Iff.rfl (fun hc => ?_) (fun hc => ?_)
                  · have hS := hS.1 hc
                    refine Wp.seq (Wp.region (sP (Value.int .i64 x11) hs fun _ hs => ?_))
                    refine sP (Value.int .i64 (bShl .i64 x11 4)) hs fun _ hs => ?_
                    refine sP (Value.int .i64 x12) hs fun _ hs => ?_
                    refine sP (Value.int .i64 (bOr .i64 (bShl .i64 x11 4) x12)) hs fun _ hs => ?_
                    refine sP (Value.int .u8 (IntKind.wrap .u8 (bOr .i64 (bShl .i64 x11 4) x12))) hs fun _ hs => ?_
                    refine sP (Value.int .u8 (IntKind.wrap .u8 (bOr .i64 (bShl .i64 x11 4) x12))) hs fun _ hs => ?_
                    refine sP (Value.int .i64 4) hs fun _ hs => ?_
                    exact wpList_nil (Wp.ret (leaveE (K := fun v _ => K v) hs (resTT hs rfl rfl rfl) hMM.2 (fun _ _ => hS)))
                  · have hS := hS.2 hc
                    refine Wp.skip (Wp.seq (Wp.region (sP (Value.int .u8 0) hs fun _ hs => ?_)))
                    refine sP (Value.int .i64 0) hs fun _ hs => ?_
                    exact wpList_nil (Wp.ret (leaveE (K := fun v _ => K v) hs (resTT hs rfl rfl rfl) hMM.2 (fun _ _ => hS)))
              · have hS := hS.2 hc
                refine Wp.skip (Wp.seq (Wp.region (sP (Value.int .u8 0) hs fun _ hs => ?_)))
                refine sP (Value.int .i64 0) hs fun _ hs => ?_
                exact wpList_nil (Wp.ret (leaveE (K := fun v _ => K v) hs (resTT hs rfl rfl rfl) hMM.2 (fun _ _ => hS)))
set_option linter.unusedVariables false in
def S_quote_Unlit_J2 (K : Value → Prop) : Prop :=
  K (Value.tuple #[(Value.string (mkS ([] : List UInt8))), (Value.int .i64 0), (Value.int .i64 4)])
set_option linter.unusedVariables false in
def S_quote_Unlit_J1 (s1 : List UInt8) (M : Mem) (x4 : Bool) (K : Value → Prop) : Prop :=
  ((x4 = true → K (Value.tuple #[(Value.string (mkS ([] : List UInt8))), (Value.int .i64 0), (Value.int .i64 4)])) ∧ (¬ (x4 = true) → (∃ (I32 : Int → Nat → List Value → Prop) (mu33 : Int → Nat → List Value → Nat), I32 1 0 [] ∧ ∀ (i28 : Int) (rn30 : Nat) (rx31 : List Value), (I32 i28 rn30 rx31 → ((i28 < ((s1.length : Nat) : Int) → (∃ c34 : UInt8, (0 : Int) ≤ i28 ∧ s1[i28.toNat]? = some c34 ∧ (∃ c35 : UInt8, (0 : Int) ≤ 0 ∧ s1[(0 : Int).toNat]? = some c35 ∧ (((c34.toNat : Int) = (c35.toNat : Int) → (∃ (x36 : List UInt8), rx31 = bytesV x36 ∧ (InI (i28 + 1) ∧ K (Value.tuple #[(Value.string (mkS x36)), (Value.int .i64 (i28 + 1)), (Value.int .i64 0)])))) ∧ (¬ ((c34.toNat : Int) = (c35.toNat : Int)) → ((0 : Int) ≤ i28 ∧ (i28 : Int) ≤ ((s1.length : Nat) : Int) ∧ ((s1.length : Nat) : Int) ≤ ((s1.length : Nat) : Int) ∧ (CallE Try.prog 78 #[(Value.string (mkS ((s1.take ((s1.length : Nat) : Int).toNat).drop i28.toNat))), (Value.string (mkS ([39, 34, 92] : List UInt8)))] M (fun v _ => ∃ (x37 : Int) (x38 : Int), v = (Value.tuple #[(Value.int .u8 x37), (Value.int .i64 x38)]) ∧ (((x38 : Int) = 0 → (S_quote_Unlit_J2 K)) ∧ (¬ ((x38 : Int) = 0) → ((rn30 + 1) * 1 ≤ 140737488355328 ∧ (InI (i28 + x38) ∧ I32 (i28 + x38) (rn30 + 1) (rx31 ++ [(Value.int .u8 x37)]) ∧ mu33 (i28 + x38) (rn30 + 1) (rx31 ++ [(Value.int .u8 x37)]) < mu33 i28 rn30 rx31)))))))))))) ∧ (¬ (i28 < ((s1.length : Nat) : Int)) → (S_quote_Unlit_J2 K)))))))
set_option linter.unusedVariables false in
def S_quote_Unlit (s1 : List UInt8) (M : Mem) (K : Value → Prop) : Prop :=
  ((s1 = ([] : List UInt8) → (S_quote_Unlit_J1 s1 M true K)) ∧ (¬ (s1 = ([] : List UInt8)) → (∃ c2 : UInt8, (0 : Int) ≤ 0 ∧ s1[(0 : Int).toNat]? = some c2 ∧ (((c2.toNat : Int) ≠ 39 → (∃ c3 : UInt8, (0 : Int) ≤ 0 ∧ s1[(0 : Int).toNat]? = some c3 ∧ (S_quote_Unlit_J1 s1 M ((c3.toNat : Int) != (34 : Int)) K))) ∧ (¬ ((c2.toNat : Int) ≠ 39) → (S_quote_Unlit_J1 s1 M false K))))))
set_option linter.unusedVariables false in
set_option maxRecDepth 100000 in
theorem s_quote_Unlit (s1 : List UInt8) (M : Mem) (K : Value → Prop) (hS : S_quote_Unlit s1 M K) : CallE Try.prog 55 #[(Value.string (mkS s1))] M (fun v _ => K v) := by
  refine enterE Try.func55 rfl 51 rfl (Nat.le_of_ble_eq_true rfl) (fun E a hs => ?_)
  unfold S_quote_Unlit at hS
  have hMM := MX.refl M E
  change Sx 51 E [] M E a [(0, (Value.string (mkS s1)))] [] [] at hs
  refine Wp.seq (Wp.region (sP (Value.string (mkS ([] : List UInt8))) hs fun _ hs => ?_))
  refine sP (Value.int .i64 0) hs fun _ hs => ?_
  refine sP (Value.int .i64 0) hs fun _ hs => ?_
  refine wpList_nil (Wp.seq (Wp.join (fun a w => ∃ (x4 : Bool), Sx 51 E [] M w a [(0, (Value.string (mkS s1))), (20, (Value.bool x4))] [] [] ∧ (S_quote_Unlit_J1 s1 M x4 K)) ?_ ?_))
  · refine Wp.region (sP (Value.string (mkS s1)) hs fun _ hs => ?_)
    refine sP (Value.bool ((mkS s1).toList == (mkS ([] : List UInt8)).toList)) hs fun _ hs => ?_
    refine sP (Value.bool ((mkS s1).toList == (mkS ([] : List UInt8)).toList)) hs fun _ hs => ?_
    refine bsplit ((mkS s1).toList == (mkS ([] : List UInt8)).toList) mkS_beq (fun hb hc => ?_) (fun hb hc => ?_)
    · have hs := hs.bt hb
      have hS := hS.1 hc
      refine sNo hs fun _ hs => ?_
      refine sNo hs fun _ hs => ?_
      refine sNo hs fun _ hs => ?_
      refine sNo hs fun _ hs => ?_
      refine sNu hs fun _ hs => ?_
      refine sNu hs fun _ hs => ?_
      refine sNu hs fun _ hs => ?_
      refine sNo hs fun _ hs => ?_
      refine sP (Value.bool true) hs fun _ hs => ?_
      exact wpList_nil (⟨true, (hs.weak (List.Sublist.refl _) (List.Sublist.refl _) ⟨rfl, rfl, trivial⟩), hS⟩)
    · have hs := hs.bf hb
      have hS := hS.2 hc
      refine sYe hs (sP (Value.string (mkS s1)) hs fun _ hs => ?_)
      refine sYe hs ?_
      obtain ⟨c2, h0, hi, hS⟩ := hS
      refine sY (Value.int .u8 (c2.toNat : Int)) hs (Yl.indexStr rfl rfl rfl rfl (by kernel_rfl) h0 hi) fun _ hs => ?_
      refine sYe hs (sP (Value.bool ((c2.toNat : Int) != (39 : Int))) hs fun _ hs => ?_)
      refine sYe hs (sP (Value.bool ((c2.toNat : Int) != (39 : Int))) hs fun _ hs => ?_)
      refine bsplit ((c2.toNat : Int) != (39 : Int)) bne_iff_ne (fun hb hc => ?_) (fun hb hc => ?_)
      · have hs := hs.bt hb
        have hS := hS.1 hc
        refine sYe hs (sP (Value.string (mkS s1)) hs fun _ hs => ?_)
        refine sYe hs ?_
        obtain ⟨c3, h0, hi, hS⟩ := hS
        refine sY (Value.int .u8 (c3.toNat : Int)) hs (Yl.indexStr rfl rfl rfl rfl (by kernel_rfl) h0 hi) fun _ hs => ?_
        refine sYe hs (sP (Value.bool ((c3.toNat : Int) != (34 : Int))) hs fun _ hs => ?_)
        refine sYe hs (sP (Value.bool ((c3.toNat : Int) != (34 : Int))) hs fun _ hs => ?_)
        refine sP (Value.bool ((c3.toNat : Int) != (34 : Int))) hs fun _ hs => ?_
        exact wpList_nil (⟨((c3.toNat : Int) != (34 : Int)), (hs.weak (List.Sublist.refl _) (List.Sublist.refl _) ⟨rfl, rfl, trivial⟩), hS⟩)
      · have hs := hs.bf hb
        have hS := hS.2 hc
        refine sNo hs fun _ hs => ?_
        refine sNo hs fun _ hs => ?_
        refine sNo hs fun _ hs => ?_
        refine sYe hs (sP (Value.bool false) hs fun _ hs => ?_)
        refine sP (Value.bool false) hs fun _ hs => ?_
        exact wpList_nil (⟨false, (hs.weak (List.Sublist.refl _) (List.Sublist.refl _) ⟨rfl, rfl, trivial⟩), hS⟩)
  · intro a w hJ
    obtain ⟨x4, hs, hS⟩ := hJ
    unfold S_quote_Unlit_J1 at hS
    refine Wp.cond hs rfl rfl Iff.rfl (fun hc => ?_) (fun hc => ?_)
    · have hS := hS.1 hc
      refine Wp.seq (Wp.region (sP (Value.string (mkS ([] : List UInt8))) hs fun _ hs => ?_))
      refine sP (Value.int .i64 0) hs fun _ hs => ?_
      refine sP (Value.int .i64 4) hs fun _ hs => ?_
      exact wpList_nil (Wp.ret (leaveE (K := fun v _ => K v) hs (resTTT hs rfl rfl rfl rfl) hMM.2 (fun _ _ => hS)))
    · have hS := hS.2 hc
      refine Wp.skip (Wp.seq (Wp.region (sP (Value.slice none 0 0) hs fun _ hs => ?_)))
      have hs := hs.nilrow 5 1
      refine wpList_nil (Wp.join (fun a w => Sx 51 E [] M w a [] [] [] ∧ (S_quote_Unlit_J2 K)) ?_ ?_)
      · refine Wp.seq (Wp.region (sP (Value.int .i64 1) hs fun _ hs => ?_))
        refine wpList_nil (Wp.block ?_)
        obtain ⟨I32, mu33, hI0, hst⟩ := hS
        refine Wp.loop (σ := (Int) × (Nat) × (List Value) × (Value)) (fun s a w => match s with | (i28, rn30, rx31, rv29) => Sx 51 E [] M w a [(0, (Value.string (mkS s1))), (5, rv29), (6, (Value.int .i64 i28))] [] [⟨rv29, 5, 1, rn30, rx31, true⟩] ∧ I32 i28 rn30 rx31) (fun s => match s with | (i28, rn30, rx31, rv29) => mu33 i28 rn30 rx31) (1, 0, [], (Value.slice none 0 0)) ⟨(hs.weak (List.Sublist.refl _) (List.Sublist.refl _) ⟨rfl, rfl, rfl, trivial⟩), hI0⟩ (fun s a w hI => ?_)
        obtain ⟨i28, rn30, rx31, rv29⟩ := s
        obtain ⟨hs, hI⟩ := hI
        have hS := hst i28 rn30 rx31 hI
        clear hst hI0 hI
        refine Wp.seq (Wp.seq (Wp.region (sP (Value.int .i64 i28) hs fun _ hs => ?_)))
        refine sP (Value.string (mkS s1)) hs fun _ hs => ?_
        refine sP (Value.int .i64 ((s1.length : Nat) : Int)) hs fun _ hs => ?_
        refine sP (Value.bool (decide (i28 < ((s1.length : Nat) : Int)))) hs fun _ hs => ?_
        refine wpList_nil (Wp.cond hs rfl rfl decide_eq_true_iff (fun hc => ?_) (fun hc => ?_))
        · have hS := hS.1 hc
          refine Wp.skip (Wp.block (Wp.seq (Wp.seq (Wp.regionD [true, true, true, true, true, true] hs (by kernel_rfl) rfl [] (fun _ h => h) [⟨rv29, 5, 1, rn30, rx31, true⟩] (fun _ h => h) (fun _ hs hC => ?_)))))
          have hL := Mem.le.refl M
          refine dP (Value.string (mkS s1)) 0 [2, 5] hs QZ.no (wanted_none rfl) fun _ hs => ?_
          refine dP (Value.int .i64 i28) 1 [2, 5] hs QZ.no (wanted_none rfl) fun _ hs => ?_
          obtain ⟨c34, h0, hi, hS⟩ := hS
          refine stepDP (v := (Value.int .u8 (c34.toNat : Int))) 2 [5] hs QZ.no rfl (wanted_none rfl) rfl (by decide) (by kernel_rfl) (by kernel_rfl) (by kernel_rfl) (Yl.indexStr rfl rfl rfl rfl (by kernel_rfl) h0 hi) (fun _ hs => ?_)
          refine stepDE 3 rfl (wanted_none rfl) (by kernel_rfl) #[] ?_
          refine sP (Value.string (mkS s1)) hs fun _ hs => ?_
          refine wpList_nil (⟨fun _ h => h, ?_⟩)
          refine stepDE 4 rfl (wanted_none rfl) (by kernel_rfl) #[] ?_
          obtain ⟨c35, h0, hi, hS⟩ := hS
          refine sY (Value.int .u8 (c35.toNat : Int)) hs (Yl.indexStr rfl rfl rfl rfl (by kernel_rfl) h0 hi) fun _ hs => ?_
          refine wpList_nil (⟨fun _ h => h, ?_⟩)
          refine stepDE 5 rfl (wanted_none rfl) (by kernel_rfl) #[] ?_
          refine sP (Value.bool ((c34.toNat : Int) == (c35.toNat : Int))) hs fun _ hs => ?_
          refine wpList_nil (⟨fun _ h => h, ?_⟩)
          refine WpD.done (by kernel_rfl) ?_ _
          refine Wp.cond hs rfl rfl beq_iff_eq (fun hc => ?_) (fun hc => ?_)
          · have hS := hS.1 hc
            refine Wp.seq (Wp.region (sP rv29 hs fun _ hs => ?_))
            obtain ⟨x36, hb, hS⟩ := hS
            refine sY (Value.string (mkS x36)) hs (Yl.bytesR (l := x36) (e' := 5) 0 (by rw [← hb]; rfl) rfl rfl (by kernel_rfl) (by kernel_rfl) (by kernel_rfl)) fun _ hs => ?_
            refine sP (Value.int .i64 i28) hs fun _ hs => ?_
            obtain ⟨hI, hS⟩ := hS
            refine sY (Value.int .i64 (i28 + 1)) hs (Yl.eq (Yl.pure (v := Value.int .i64 (IntKind.wrap .i64 (i28 + 1))) rfl (fun _ => by kernel_rfl)) (congrArg (Value.int .i64) (wrap_in hI))) fun _ hs => ?_
            refine sP (Value.string (mkS x36)) hs fun _ hs => ?_
            refine sP (Value.int .i64 (i28 + 1)) hs fun _ hs => ?_
            refine sP (Value.int .i64 0) hs fun _ hs => ?_
            exact wpList_nil (Wp.ret (leaveE (K := fun v _ => K v) hs (resTTT hs rfl rfl rfl rfl) hMM.2 (fun _ _ => hS)))
          · have hS := hS.2 hc
            refine Wp.skip (Wp.seq (Wp.region (sP (Value.string (mkS s1)) hs fun _ hs => ?_)))
            refine sP (Value.int .i64 i28) hs fun _ hs => ?_
            obtain ⟨h0, h1, h2, hS⟩ := hS
            refine sY (Value.string (mkS ((s1.take ((s1.length : Nat) : Int).toNat).drop i28.toNat))) hs (Yl.sliceStrL rfl rfl rfl rfl (by kernel_rfl) h0 h1 h2) fun _ hs => ?_
            refine stepCallP [(Value.string (mkS ((s1.take ((s1.length : Nat) : Int).toNat).drop i28.toNat))), (Value.string (mkS ([39, 34, 92] : List UInt8)))] hs rfl ⟨_, rfl, rfl⟩ rfl Try.func78 rfl (by kernel_rfl) (by decide) hS (fun _ _ v hS hs => ?_)
            obtain ⟨x37, x38, hv, hS⟩ := hS
            subst hv
            refine sP (Value.tuple #[(Value.int .u8 x37), (Value.int .i64 x38)]) hs fun _ hs => ?_
            refine sP (Value.int .u8 x37) hs fun _ hs => ?_
            refine sP (Value.int .i64 x38) hs fun _ hs => ?_
            refine sP (Value.int .u8 x37) hs fun _ hs => ?_
            refine sP (Value.int .i64 x38) hs fun _ hs => ?_
            refine wpList_nil (Wp.seq (Wp.seq (Wp.region (sP (Value.int .i64 x38) hs fun _ hs => ?_))))
            refine sP (Value.bool ((x38 : Int) == (0 : Int))) hs fun _ hs => ?_
            refine wpList_nil (Wp.cond hs rfl rfl beq_iff_eq (fun hc => ?_) (fun hc => ?_))
            · have hS := hS.1 hc
              exact Wp.exit rfl (⟨(hs.weak (List.Sublist.refl _) (.cons _ List.Sublist.slnil) trivial), hS⟩)
            · have hS := hS.2 hc
              refine Wp.skip (Wp.seq (Wp.region (sP rv29 hs fun _ hs => ?_)))
              refine sP (Value.int .u8 x37) hs fun _ hs => ?_
              refine stepMake [(Value.int .u8 x37)] 5 1 1 hs rfl rfl rfl (fun _ => by kernel_rfl) rfl (by unfold maxLen; decide) (by decide) (fun _ _ rv39 hs => ?_)
              obtain ⟨ad40, cap41, hv, hcp, hxl⟩ := hs.rowform 0 rfl
              dsimp only at hv hcp hxl
              subst hv
              obtain ⟨hB, hS⟩ := hS
              refine stepAppend 1 [(Value.int .u8 x37)] hs rfl rfl rfl rfl rfl (by kernel_rfl) (by kernel_rfl) (by decide) (by decide) (hs.srcRow 0 rfl rfl) (lenb hB (by decide)) hB (fun _ _ rv42 hs => ?_)
              replace hs := hs.chrs (rs' := [⟨(Value.slice ad40 1 cap41), 5, 1, 1, [(Value.int .u8 x37)], true⟩, ⟨rv42, 5, 1, (rn30 + 1), (rx31 ++ [(Value.int .u8 x37)]), true⟩]) rfl
              refine sP rv42 hs fun _ hs => ?_
              refine wpList_nil (Wp.region (sP (Value.int .i64 i28) hs fun _ hs => ?_))
              refine sP (Value.int .i64 x38) hs fun _ hs => ?_
              obtain ⟨hI, hS⟩ := hS
              refine sY (Value.int .i64 (i28 + x38)) hs (Yl.eq (Yl.pure (v := Value.int .i64 (IntKind.wrap .i64 (i28 + x38))) rfl (fun _ => by kernel_rfl)) (congrArg (Value.int .i64) (wrap_in hI))) fun _ hs => ?_
              refine sP (Value.int .i64 (i28 + x38)) hs fun _ hs => ?_
              exact wpList_nil (⟨(i28 + x38, (rn30 + 1), (rx31 ++ [(Value.int .u8 x37)]), rv42), ⟨(hs.weak (List.Sublist.refl _) (.cons _ (.cons_cons _ List.Sublist.slnil)) ⟨rfl, rfl, rfl, trivial⟩), hS.1⟩, hS.2⟩)
        · have hS := hS.2 hc
          exact Wp.exit rfl (⟨(hs.weak (List.Sublist.refl _) (.cons _ List.Sublist.slnil) trivial), hS⟩)
      · intro a w hJ
        obtain ⟨hs, hS⟩ := hJ
        unfold S_quote_Unlit_J2 at hS
        refine Wp.seq (Wp.region (sP (Value.string (mkS ([] : List UInt8))) hs fun _ hs => ?_))
        refine sP (Value.int .i64 0) hs fun _ hs => ?_
        refine sP (Value.int .i64 4) hs fun _ hs => ?_
        exact wpList_nil (Wp.ret (leaveE (K := fun v _ => K v) hs (resTTT hs rfl rfl rfl rfl) hMM.2 (fun _ _ => hS)))
set_option linter.unusedVariables false in
def S_internal_bytealg_Cutover (n1 : Int) (M : Mem) (K : Value → Prop) : Prop :=
  (InI (n1 + 16) ∧ (InI ((n1 + 16).tdiv 8) ∧ K (Value.int .i64 ((n1 + 16).tdiv 8))))
set_option linter.unusedVariables false in
set_option maxRecDepth 100000 in
theorem s_internal_bytealg_Cutover (n1 : Int) (M : Mem) (K : Value → Prop) (hS : S_internal_bytealg_Cutover n1 M K) : CallE Try.prog 109 #[(Value.int .i64 n1)] M (fun v _ => K v) := by
  refine enterE Try.func109 rfl 6 rfl (Nat.le_of_ble_eq_true rfl) (fun E a hs => ?_)
  unfold S_internal_bytealg_Cutover at hS
  have hMM := MX.refl M E
  change Sx 6 E [] M E a [(0, (Value.int .i64 n1))] [] [] at hs
  refine Wp.seq (Wp.region (sP (Value.int .i64 0) hs fun _ hs => ?_))
  refine wpList_nil (Wp.seq (Wp.region (sP (Value.int .i64 n1) hs fun _ hs => ?_)))
  obtain ⟨hI, hS⟩ := hS
  refine sY (Value.int .i64 (n1 + 16)) hs (Yl.eq (Yl.pure (v := Value.int .i64 (IntKind.wrap .i64 (n1 + 16))) rfl (fun _ => by kernel_rfl)) (congrArg (Value.int .i64) (wrap_in hI))) fun _ hs => ?_
  obtain ⟨hI, hS⟩ := hS
  refine sY (Value.int .i64 ((n1 + 16).tdiv 8)) hs (Yl.eq (Yl.pure (v := Value.int .i64 (IntKind.wrap .i64 ((n1 + 16).tdiv 8))) rfl (fun _ => by kernel_rfl)) (congrArg (Value.int .i64) (wrap_in hI))) fun _ hs => ?_
  refine sP (Value.int .i64 ((n1 + 16).tdiv 8)) hs fun _ hs => ?_
  exact wpList_nil (Wp.ret (leaveE (K := fun v _ => K v) hs (resT hs rfl rfl) hMM.2 (fun _ _ => hS)))
set_option linter.unusedVariables false in
def S_internal_bytealg_hashStr_string_J1 (pow14 : Int) (sq15 : Int) (i16 : Int) (I17 : Int → Int → Int → Prop) (mu18 : Int → Int → Int → Nat) (pow19 : Int) (K : Value → Prop) : Prop :=
  I17 pow19 (IntKind.wrap .u32 (sq15 * sq15)) (bShr .i64 i16 1) ∧ mu18 pow19 (IntKind.wrap .u32 (sq15 * sq15)) (bShr .i64 i16 1) < mu18 pow14 sq15 i16
set_option linter.unusedVariables false in
def S_internal_bytealg_hashStr_string (sep1 : List UInt8) (M : Mem) (K : Value → Prop) : Prop :=
  (∃ (I7 : Int → Int → Prop) (mu8 : Int → Int → Nat), I7 0 0 ∧ ∀ (hash5 : Int) (i6 : Int), (I7 hash5 i6 → ((i6 < ((sep1.length : Nat) : Int) → (∃ c9 : UInt8, (0 : Int) ≤ i6 ∧ sep1[i6.toNat]? = some c9 ∧ (InI (i6 + 1) ∧ I7 (IntKind.wrap .u32 ((IntKind.wrap .u32 (hash5 * 16777619)) + (IntKind.wrap .u32 (c9.toNat : Int)))) (i6 + 1) ∧ mu8 (IntKind.wrap .u32 ((IntKind.wrap .u32 (hash5 * 16777619)) + (IntKind.wrap .u32 (c9.toNat : Int)))) (i6 + 1) < mu8 hash5 i6))) ∧ (¬ (i6 < ((sep1.length : Nat) : Int)) → (∃ (I17 : Int → Int → Int → Prop) (mu18 : Int → Int → Int → Nat), I17 1 16777619 ((sep1.length : Nat) : Int) ∧ ∀ (pow14 : Int) (sq15 : Int) (i16 : Int), (I17 pow14 sq15 i16 → ((i16 > 0 → (((bAnd .i64 i16 1 : Int) ≠ 0 → (S_internal_bytealg_hashStr_string_J1 pow14 sq15 i16 I17 mu18 (IntKind.wrap .u32 (pow14 * sq15)) K)) ∧ (¬ ((bAnd .i64 i16 1 : Int) ≠ 0) → (S_internal_bytealg_hashStr_string_J1 pow14 sq15 i16 I17 mu18 pow14 K)))) ∧ (¬ (i16 > 0) → K (Value.tuple #[(Value.int .u32 hash5), (Value.int .u32 pow14)])))))))))
set_option linter.unusedVariables false in
set_option maxRecDepth 100000 in
theorem s_internal_bytealg_hashStr_string (sep1 : List UInt8) (M : Mem) (K : Value → Prop) (hS : S_internal_bytealg_hashStr_string sep1 M K) : CallE Try.prog 111 #[(Value.string (mkS sep1))] M (fun v _ => K v) := by
  refine enterE Try.func111 rfl 39 rfl (Nat.le_of_ble_eq_true rfl) (fun E a hs => ?_)
  unfold S_internal_bytealg_hashStr_string at hS
  have hMM := MX.refl M E
  change Sx 39 E [] M E a [(0, (Value.string (mkS sep1)))] [] [] at hs
  refine Wp.seq (Wp.region (sP (Value.int .u32 0) hs fun _ hs => ?_))
  refine sP (Value.int .u32 0) hs fun _ hs => ?_
  refine wpList_nil (Wp.seq (Wp.region (sP (Value.int .u32 0) hs fun _ hs => ?_)))
  refine wpList_nil (Wp.seq (Wp.seq (Wp.region (sP (Value.int .i64 0) hs fun _ hs => ?_))))
  refine wpList_nil (Wp.block ?_)
  obtain ⟨I7, mu8, hI0, hst⟩ := hS
  refine Wp.loop (σ := (Int) × (Int)) (fun s a w => match s with | (hash5, i6) => Sx 39 E [] M w a [(0, (Value.string (mkS sep1))), (4, (Value.int .u32 hash5)), (5, (Value.int .i64 i6))] [] [] ∧ I7 hash5 i6) (fun s => match s with | (hash5, i6) => mu8 hash5 i6) (0, 0) ⟨(hs.weak (List.Sublist.refl _) (List.Sublist.refl _) ⟨rfl, rfl, rfl, trivial⟩), hI0⟩ (fun s a w hI => ?_)
  obtain ⟨hash5, i6⟩ := s
  obtain ⟨hs, hI⟩ := hI
  have hS := hst hash5 i6 hI
  clear hst hI0 hI
  refine Wp.seq (Wp.seq (Wp.region (sP (Value.int .i64 i6) hs fun _ hs => ?_)))
  refine sP (Value.string (mkS sep1)) hs fun _ hs => ?_
  refine sP (Value.int .i64 ((sep1.length : Nat) : Int)) hs fun _ hs => ?_
  refine sP (Value.bool (decide (i6 < ((sep1.length : Nat) : Int)))) hs fun _ hs => ?_
  refine wpList_nil (Wp.cond hs rfl rfl decide_eq_true_iff (fun hc => ?_) (fun hc => ?_))
  · have hS := hS.1 hc
    refine Wp.skip (Wp.seq (Wp.block (Wp.region (sP (Value.int .u32 hash5) hs fun _ hs => ?_))))
    refine sP (Value.int .u32 (IntKind.wrap .u32 (hash5 * 16777619))) hs fun _ hs => ?_
    refine sP (Value.string (mkS sep1)) hs fun _ hs => ?_
    refine sP (Value.int .i64 i6) hs fun _ hs => ?_
    obtain ⟨c9, h0, hi, hS⟩ := hS
    refine sY (Value.int .u8 (c9.toNat : Int)) hs (Yl.indexStr rfl rfl rfl rfl (by kernel_rfl) h0 hi) fun _ hs => ?_
    refine sP (Value.int .u32 (IntKind.wrap .u32 (c9.toNat : Int))) hs fun _ hs => ?_
    refine sP (Value.int .u32 (IntKind.wrap .u32 ((IntKind.wrap .u32 (hash5 * 16777619)) + (IntKind.wrap .u32 (c9.toNat : Int))))) hs fun _ hs => ?_
    refine sP (Value.int .u32 (IntKind.wrap .u32 ((IntKind.wrap .u32 (hash5 * 16777619)) + (IntKind.wrap .u32 (c9.toNat : Int))))) hs fun _ hs => ?_
    refine wpList_nil (Wp.region (sP (Value.int .i64 i6) hs fun _ hs => ?_))
    obtain ⟨hI, hS⟩ := hS
    refine sY (Value.int .i64 (i6 + 1)) hs (Yl.eq (Yl.pure (v := Value.int .i64 (IntKind.wrap .i64 (i6 + 1))) rfl (fun _ => by kernel_rfl)) (congrArg (Value.int .i64) (wrap_in hI))) fun _ hs => ?_
    refine sP (Value.int .i64 (i6 + 1)) hs fun _ hs => ?_
    exact wpList_nil (⟨(IntKind.wrap .u32 ((IntKind.wrap .u32 (hash5 * 16777619)) + (IntKind.wrap .u32 (c9.toNat : Int))), i6 + 1), ⟨(hs.weak (List.Sublist.refl _) (List.Sublist.refl _) ⟨rfl, rfl, rfl, trivial⟩), hS.1⟩, hS.2⟩)
  · have hS := hS.2 hc
    refine Wp.exit rfl (Wp.seq (Wp.region (sP (Value.int .u32 1) hs fun _ hs => ?_)))
    refine sP (Value.int .u32 16777619) hs fun _ hs => ?_
    refine wpList_nil (Wp.seq (Wp.seq (Wp.region (sP (Value.string (mkS sep1)) hs fun _ hs => ?_))))
    refine sP (Value.int .i64 ((sep1.length : Nat) : Int)) hs fun _ hs => ?_
    refine sP (Value.int .i64 ((sep1.length : Nat) : Int)) hs fun _ hs => ?_
    refine wpList_nil (Wp.block ?_)
    obtain ⟨I17, mu18, hI0, hst⟩ := hS
    refine Wp.loop (σ := (Int) × (Int) × (Int)) (fun s a w => match s with | (pow14, sq15, i16) => Sx 39 E [] M w a [(4, (Value.int .u32 hash5)), (6, (Value.int .u32 pow14)), (7, (Value.int .u32 sq15)), (8, (Value.int .i64 i16))] [] [] ∧ I17 pow14 sq15 i16) (fun s => match s with | (pow14, sq15, i16) => mu18 pow14 sq15 i16) (1, 16777619, ((sep1.length : Nat) : Int)) ⟨(hs.weak (List.Sublist.refl _) (List.Sublist.refl _) ⟨rfl, rfl, rfl, rfl, trivial⟩), hI0⟩ (fun s a w hI => ?_)
    obtain ⟨pow14, sq15, i16⟩ := s
    obtain ⟨hs, hI⟩ := hI
    have hS := hst pow14 sq15 i16 hI
    clear hst hI0 hI
    refine Wp.seq (Wp.seq (Wp.region (sP (Value.int .i64 i16) hs fun _ hs => ?_)))
    refine sP (Value.bool (decide (i16 > 0))) hs fun _ hs => ?_
    refine wpList_nil (Wp.cond hs rfl rfl decide_eq_true_iff (fun hc => ?_) (fun hc => ?_))
    · have hS := hS.1 hc
      refine Wp.skip (Wp.seq (Wp.block (Wp.join (fun a w => ∃ (pow19 : Int), Sx 39 E [] M w a [(4, (Value.int .u32 hash5)), (6, (Value.int .u32 pow19)), (7, (Value.int .u32 sq15)), (8, (Value.int .i64 i16))] [] [] ∧ (S_internal_bytealg_hashStr_string_J1 pow14 sq15 i16 I17 mu18 pow19 K)) ?_ ?_)))
      · refine Wp.seq (Wp.region (sP (Value.int .i64 i16) hs fun _ hs => ?_))
        refine sP (Value.int .i64 (bAnd .i64 i16 1)) hs fun _ hs => ?_
        refine sP (Value.bool ((bAnd .i64 i16 1 : Int) != (0 : Int))) hs fun _ hs => ?_
        refine wpList_nil (Wp.cond hs rfl rfl bne_iff_ne (fun hc => ?_) (fun hc => ?_))
        · have hS := hS.1 hc
          refine Wp.region (sP (Value.int .u32 pow14) hs fun _ hs => ?_)
          refine sP (Value.int .u32 sq15) hs fun _ hs => ?_
          refine sP (Value.int .u32 (IntKind.wrap .u32 (pow14 * sq15))) hs fun _ hs => ?_
          refine sP (Value.int .u32 (IntKind.wrap .u32 (pow14 * sq15))) hs fun _ hs => ?_
          exact wpList_nil (⟨(IntKind.wrap .u32 (pow14 * sq15)), (hs.weak (List.Sublist.refl _) (List.Sublist.refl _) ⟨rfl, rfl, rfl, rfl, trivial⟩), hS⟩)
        · have hS := hS.2 hc
          exact Wp.skip (⟨pow14, (hs.weak (List.Sublist.refl _) (List.Sublist.refl _) ⟨rfl, rfl, rfl, rfl, trivial⟩), hS⟩)
      · intro a w hJ
        obtain ⟨pow19, hs, hS⟩ := hJ
        unfold S_internal_bytealg_hashStr_string_J1 at hS
        refine Wp.region (sP (Value.int .u32 sq15) hs fun _ hs => ?_)
        refine sP (Value.int .u32 sq15) hs fun _ hs => ?_
        refine sP (Value.int .u32 (IntKind.wrap .u32 (sq15 * sq15))) hs fun _ hs => ?_
        refine sP (Value.int .u32 (IntKind.wrap .u32 (sq15 * sq15))) hs fun _ hs => ?_
        refine wpList_nil (Wp.region (sP (Value.int .i64 i16) hs fun _ hs => ?_))
        refine sP (Value.int .i64 (bShr .i64 i16 1)) hs fun _ hs => ?_
        refine sP (Value.int .i64 (bShr .i64 i16 1)) hs fun _ hs => ?_
        exact wpList_nil (⟨(pow19, IntKind.wrap .u32 (sq15 * sq15), bShr .i64 i16 1), ⟨(hs.weak (List.Sublist.refl _) (List.Sublist.refl _) ⟨rfl, rfl, rfl, rfl, trivial⟩), hS.1⟩, hS.2⟩)
    · have hS := hS.2 hc
      refine Wp.exit rfl (Wp.seq (Wp.region (sP (Value.int .u32 hash5) hs fun _ hs => ?_)))
      refine sP (Value.int .u32 pow14) hs fun _ hs => ?_
      refine sP (Value.int .u32 hash5) hs fun _ hs => ?_
      refine sP (Value.int .u32 pow14) hs fun _ hs => ?_
      exact wpList_nil (Wp.ret (leaveE (K := fun v _ => K v) hs (resTT hs rfl rfl rfl) hMM.2 (fun _ _ => hS)))
set_option linter.unusedVariables false in
def S_internal_bytealg_IndexRabinKarp_string_J2 (sep2 : List UInt8) (x4 : Int) (h19 : Int) (i20 : Int) (I21 : Int → Int → Prop) (mu22 : Int → Int → Nat) (c23 : UInt8) (c24 : UInt8) (x25 : Bool) (K : Value → Prop) : Prop :=
  ((x25 = true → (InI ((i20 + 1) - ((sep2.length : Nat) : Int)) ∧ K (Value.int .i64 ((i20 + 1) - ((sep2.length : Nat) : Int))))) ∧ (¬ (x25 = true) → I21 (IntKind.wrap .u32 ((IntKind.wrap .u32 ((IntKind.wrap .u32 (h19 * 16777619)) + (IntKind.wrap .u32 (c23.toNat : Int)))) - (IntKind.wrap .u32 (x4 * (IntKind.wrap .u32 (c24.toNat : Int)))))) (i20 + 1) ∧ mu22 (IntKind.wrap .u32 ((IntKind.wrap .u32 ((IntKind.wrap .u32 (h19 * 16777619)) + (IntKind.wrap .u32 (c23.toNat : Int)))) - (IntKind.wrap .u32 (x4 * (IntKind.wrap .u32 (c24.toNat : Int)))))) (i20 + 1) < mu22 h19 i20))
set_option linter.unusedVariables false in
def S_internal_bytealg_IndexRabinKarp_string_J1 (s1 : List UInt8) (sep2 : List UInt8) (x3 : Int) (x4 : Int) (h8 : Int) (x13 : Bool) (K : Value → Prop) : Prop :=
  ((x13 = true → K (Value.int .i64 0)) ∧ (¬ (x13 = true) → (∃ (I21 : Int → Int → Prop) (mu22 : Int → Int → Nat), I21 h8 ((sep2.length : Nat) : Int) ∧ ∀ (h19 : Int) (i20 : Int), (I21 h19 i20 → ((i20 < ((s1.length : Nat) : Int) → (∃ c23 : UInt8, (0 : Int) ≤ i20 ∧ s1[i20.toNat]? = some c23 ∧ (InI (i20 - ((sep2.length : Nat) : Int)) ∧ (∃ c24 : UInt8, (0 : Int) ≤ i20 - ((sep2.length : Nat) : Int) ∧ s1[(i20 - ((sep2.length : Nat) : Int)).toNat]? = some c24 ∧ (InI (i20 + 1) ∧ (((IntKind.wrap .u32 ((IntKind.wrap .u32 ((IntKind.wrap .u32 (h19 * 16777619)) + (IntKind.wrap .u32 (c23.toNat : Int)))) - (IntKind.wrap .u32 (x4 * (IntKind.wrap .u32 (c24.toNat : Int))))) : Int) = x3 → (InI ((i20 + 1) - ((sep2.length : Nat) : Int)) ∧ ((0 : Int) ≤ (i20 + 1) - ((sep2.length : Nat) : Int) ∧ ((i20 + 1) - ((sep2.length : Nat) : Int) : Int) ≤ i20 + 1 ∧ (i20 + 1 : Int) ≤ ((s1.length : Nat) : Int) ∧ (S_internal_bytealg_IndexRabinKarp_string_J2 sep2 x4 h19 i20 I21 mu22 c23 c24 ((mkS ((s1.take (i20 + 1).toNat).drop ((i20 + 1) - ((sep2.length : Nat) : Int)).toNat)).toList == (mkS sep2).toList) K)))) ∧ (¬ ((IntKind.wrap .u32 ((IntKind.wrap .u32 ((IntKind.wrap .u32 (h19 * 16777619)) + (IntKind.wrap .u32 (c23.toNat : Int)))) - (IntKind.wrap .u32 (x4 * (IntKind.wrap .u32 (c24.toNat : Int))))) : Int) = x3) → (S_internal_bytealg_IndexRabinKarp_string_J2 sep2 x4 h19 i20 I21 mu22 c23 c24 false K)))))))) ∧ (¬ (i20 < ((s1.length : Nat) : Int)) → K (Value.int .i64 (-1))))))))
set_option linter.unusedVariables false in
def S_internal_bytealg_IndexRabinKarp_string (s1 : List UInt8) (sep2 : List UInt8) (M : Mem) (K : Value → Prop) : Prop :=
  (CallE Try.prog 111 #[(Value.string (mkS sep2))] M (fun v _ => ∃ (x3 : Int) (x4 : Int), v = (Value.tuple #[(Value.int .u32 x3), (Value.int .u32 x4)]) ∧ (∃ (I10 : Int → Int → Prop) (mu11 : Int → Int → Nat), I10 0 0 ∧ ∀ (h8 : Int) (i9 : Int), (I10 h8 i9 → ((i9 < ((sep2.length : Nat) : Int) → (∃ c12 : UInt8, (0 : Int) ≤ i9 ∧ s1[i9.toNat]? = some c12 ∧ (InI (i9 + 1) ∧ I10 (IntKind.wrap .u32 ((IntKind.wrap .u32 (h8 * 16777619)) + (IntKind.wrap .u32 (c12.toNat : Int)))) (i9 + 1) ∧ mu11 (IntKind.wrap .u32 ((IntKind.wrap .u32 (h8 * 16777619)) + (IntKind.wrap .u32 (c12.toNat : Int)))) (i9 + 1) < mu11 h8 i9))) ∧ (¬ (i9 < ((sep2.length : Nat) : Int)) → (((h8 : Int) = x3 → ((0 : Int) ≤ 0 ∧ (0 : Int) ≤ ((sep2.length : Nat) : Int) ∧ ((sep2.length : Nat) : Int) ≤ ((s1.length : Nat) : Int) ∧ (S_internal_bytealg_IndexRabinKarp_string_J1 s1 sep2 x3 x4 h8 ((mkS ((s1.take ((sep2.length : Nat) : Int).toNat).drop (0 : Int).toNat)).toList == (mkS sep2).toList) K))) ∧ (¬ ((h8 : Int) = x3) → (S_internal_bytealg_IndexRabinKarp_string_J1 s1 sep2 x3 x4 h8 false K)))))))))
set_option linter.unusedVariables false in
set_option maxRecDepth 100000 in
theorem s_internal_bytealg_IndexRabinKarp_string (s1 : List UInt8) (sep2 : List UInt8) (M : Mem) (K : Value → Prop) (hS : S_internal_bytealg_IndexRabinKarp_string s1 sep2 M K) : CallE Try.prog 110 #[(Value.string (mkS s1)), (Value.string (mkS sep2))] M (fun v _ => K v) := by
  refine enterE Try.func110 rfl 81 rfl (Nat.le_of_ble_eq_true rfl) (fun E a hs => ?_)
  unfold S_internal_bytealg_IndexRabinKarp_string at hS
  have hMM := MX.refl M E
  change Sx 81 E [] M E a [(0, (Value.string (mkS s1))), (1, (Value.string (mkS sep2)))] [] [] at hs
  refine Wp.seq (Wp.region (sP (Value.int .i64 0) hs fun _ hs => ?_))
  refine wpList_nil (Wp.seq (Wp.region (sP (Value.string (mkS sep2)) hs fun _ hs => ?_)))
  refine stepCallP [(Value.string (mkS sep2))] hs rfl ⟨_, rfl, rfl⟩ rfl Try.func111 rfl (by kernel_rfl) (by decide) hS (fun _ _ v hS hs => ?_)
  obtain ⟨x3, x4, hv, hS⟩ := hS
  subst hv
  refine sP (Value.tuple #[(Value.int .u32 x3), (Value.int .u32 x4)]) hs fun _ hs => ?_
  refine sP (Value.int .u32 x3) hs fun _ hs => ?_
  refine sP (Value.int .u32 x4) hs fun _ hs => ?_
  refine sP (Value.int .u32 x3) hs fun _ hs => ?_
  refine sP (Value.int .u32 x4) hs fun _ hs => ?_
  refine wpList_nil (Wp.seq (Wp.region (sP (Value.string (mkS sep2)) hs fun _ hs => ?_)))
  refine sP (Value.int .i64 ((sep2.length : Nat) : Int)) hs fun _ hs => ?_
  refine sP (Value.int .i64 ((sep2.length : Nat) : Int)) hs fun _ hs => ?_
  refine wpList_nil (Wp.seq (Wp.region (sP (Value.int .u32 0) hs fun _ hs => ?_)))
  refine wpList_nil (Wp.seq (Wp.seq (Wp.region (sP (Value.int .i64 0) hs fun _ hs => ?_))))
  refine wpList_nil (Wp.block ?_)
  obtain ⟨I10, mu11, hI0, hst⟩ := hS
  refine Wp.loop (σ := (Int) × (Int)) (fun s a w => match s with | (h8, i9) => Sx 81 E [] M w a [(0, (Value.string (mkS s1))), (1, (Value.string (mkS sep2))), (5, (Value.int .u32 x3)), (6, (Value.int .u32 x4)), (7, (Value.int .i64 ((sep2.length : Nat) : Int))), (8, (Value.int .u32 h8)), (9, (Value.int .i64 i9))] [] [] ∧ I10 h8 i9) (fun s => match s with | (h8, i9) => mu11 h8 i9) (0, 0) ⟨(hs.weak (List.Sublist.refl _) (List.Sublist.refl _) ⟨rfl, rfl, rfl, rfl, rfl, rfl, rfl, trivial⟩), hI0⟩ (fun s a w hI => ?_)
  obtain ⟨h8, i9⟩ := s
  obtain ⟨hs, hI⟩ := hI
  have hS := hst h8 i9 hI
  clear hst hI0 hI
  refine Wp.seq (Wp.seq (Wp.region (sP (Value.int .i64 i9) hs fun _ hs => ?_)))
  refine sP (Value.int .i64 ((sep2.length : Nat) : Int)) hs fun _ hs => ?_
  refine sP (Value.bool (decide (i9 < ((sep2.length : Nat) : Int)))) hs fun _ hs => ?_
  refine wpList_nil (Wp.cond hs rfl rfl decide_eq_true_iff (fun hc => ?_) (fun hc => ?_))
  · have hS := hS.1 hc
    refine Wp.skip (Wp.seq (Wp.block (Wp.region (sP (Value.int .u32 h8) hs fun _ hs => ?_))))
    refine sP (Value.int .u32 (IntKind.wrap .u32 (h8 * 16777619))) hs fun _ hs => ?_
    refine sP (Value.string (mkS s1)) hs fun _ hs => ?_
    refine sP (Value.int .i64 i9) hs fun _ hs => ?_
    obtain ⟨c12, h0, hi, hS⟩ := hS
    refine sY (Value.int .u8 (c12.toNat : Int)) hs (Yl.indexStr rfl rfl rfl rfl (by kernel_rfl) h0 hi) fun _ hs => ?_
    refine sP (Value.int .u32 (IntKind.wrap .u32 (c12.toNat : Int))) hs fun _ hs => ?_
    refine sP (Value.int .u32 (IntKind.wrap .u32 ((IntKind.wrap .u32 (h8 * 16777619)) + (IntKind.wrap .u32 (c12.toNat : Int))))) hs fun _ hs => ?_
    refine sP (Value.int .u32 (IntKind.wrap .u32 ((IntKind.wrap .u32 (h8 * 16777619)) + (IntKind.wrap .u32 (c12.toNat : Int))))) hs fun _ hs => ?_
    refine wpList_nil (Wp.region (sP (Value.int .i64 i9) hs fun _ hs => ?_))
    obtain ⟨hI, hS⟩ := hS
    refine sY (Value.int .i64 (i9 + 1)) hs (Yl.eq (Yl.pure (v := Value.int .i64 (IntKind.wrap .i64 (i9 + 1))) rfl (fun _ => by kernel_rfl)) (congrArg (Value.int .i64) (wrap_in hI))) fun _ hs => ?_
    refine sP (Value.int .i64 (i9 + 1)) hs fun _ hs => ?_
    exact wpList_nil (⟨(IntKind.wrap .u32 ((IntKind.wrap .u32 (h8 * 16777619)) + (IntKind.wrap .u32 (c12.toNat : Int))), i9 + 1), ⟨(hs.weak (List.Sublist.refl _) (List.Sublist.refl _) ⟨rfl, rfl, rfl, rfl, rfl, rfl, rfl, trivial⟩), hS.1⟩, hS.2⟩)
  · have hS := hS.2 hc
    refine Wp.exit rfl (Wp.seq (Wp.join (fun a w => ∃ (x13 : Bool), Sx 81 E [] M w a [(0, (Value.string (mkS s1))), (1, (Value.string (mkS sep2))), (5, (Value.int .u32 x3)), (6, (Value.int .u32 x4)), (7, (Value.int .i64 ((sep2.length : Nat) : Int))), (8, (Value.int .u32 h8)), (39, (Value.bool x13))] [] [] ∧ (S_internal_bytealg_IndexRabinKarp_string_J1 s1 sep2 x3 x4 h8 x13 K)) ?_ ?_))
    · refine Wp.region (sP (Value.int .u32 h8) hs fun _ hs => ?_)
      refine sP (Value.int .u32 x3) hs fun _ hs => ?_
      refine sP (Value.bool ((h8 : Int) == (x3 : Int))) hs fun _ hs => ?_
      refine sP (Value.bool ((h8 : Int) == (x3 : Int))) hs fun _ hs => ?_
      refine bsplit ((h8 : Int) == (x3 : Int)) beq_iff_eq (fun hb hc => ?_) (fun hb hc => ?_)
      · have hs := hs.bt hb
        have hS := hS.1 hc
        refine sYe hs (sP (Value.string (mkS s1)) hs fun _ hs => ?_)
        refine sYe hs (sP (Value.int .i64 ((sep2.length : Nat) : Int)) hs fun _ hs => ?_)
        refine sYe hs ?_
        obtain ⟨h0, h1, h2, hS⟩ := hS
        refine sY (Value.string (mkS ((s1.take ((sep2.length : Nat) : Int).toNat).drop (0 : Int).toNat))) hs (Yl.sliceStrH rfl rfl rfl rfl (by kernel_rfl) h0 h1 h2) fun _ hs => ?_
        refine sYe hs (sP (Value.string (mkS sep2)) hs fun _ hs => ?_)
        refine sYe hs (sP (Value.bool ((mkS ((s1.take ((sep2.length : Nat) : Int).toNat).drop (0 : Int).toNat)).toList == (mkS sep2).toList)) hs fun _ hs => ?_)
        refine sP (Value.bool ((mkS ((s1.take ((sep2.length : Nat) : Int).toNat).drop (0 : Int).toNat)).toList == (mkS sep2).toList)) hs fun _ hs => ?_
        exact wpList_nil (⟨((mkS ((s1.take ((sep2.length : Nat) : Int).toNat).drop (0 : Int).toNat)).toList == (mkS sep2).toList), (hs.weak (List.Sublist.refl _) (List.Sublist.refl _) ⟨rfl, rfl, rfl, rfl, rfl, rfl, rfl, trivial⟩), hS⟩)
      · have hs := hs.bf hb
        have hS := hS.2 hc
        refine sNo hs fun _ hs => ?_
        refine sNo hs fun _ hs => ?_
        refine sNo hs fun _ hs => ?_
        refine sNo hs fun _ hs => ?_
        refine sNo hs fun _ hs => ?_
        refine sP (Value.bool false) hs fun _ hs => ?_
        exact wpList_nil (⟨false, (hs.weak (List.Sublist.refl _) (List.Sublist.refl _) ⟨rfl, rfl, rfl, rfl, rfl, rfl, rfl, trivial⟩), hS⟩)
    · intro a w hJ
      obtain ⟨x13, hs, hS⟩ := hJ
      unfold S_internal_bytealg_IndexRabinKarp_string_J1 at hS
      refine Wp.cond hs rfl rfl Iff.rfl (fun hc => ?_) (fun hc => ?_)
      · have hS := hS.1 hc
        refine Wp.seq (Wp.region (sP (Value.int .i64 0) hs fun _ hs => ?_))
        exact wpList_nil (Wp.ret (leaveE (K := fun v _ => K v) hs (resT hs rfl rfl) hMM.2 (fun _ _ => hS)))
      · have hS := hS.2 hc
        refine Wp.skip (Wp.seq (Wp.seq (Wp.region (sP (Value.int .i64 ((sep2.length : Nat) : Int)) hs fun _ hs => ?_))))
        refine sP (Value.int .i64 ((sep2.length : Nat) : Int)) hs fun _ hs => ?_
        refine wpList_nil (Wp.block ?_)
        obtain ⟨I21, mu22, hI0, hst⟩ := hS
        refine Wp.loop (σ := (Int) × (Int)) (fun s a w => match s with | (h19, i20) => Sx 81 E [] M w a [(0, (Value.string (mkS s1))), (1, (Value.string (mkS sep2))), (5, (Value.int .u32 x3)), (6, (Value.int .u32 x4)), (7, (Value.int .i64 ((sep2.length : Nat) : Int))), (8, (Value.int .u32 h19)), (10, (Value.int .i64 i20))] [] [] ∧ I21 h19 i20) (fun s => match s with | (h19, i20) => mu22 h19 i20) (h8, ((sep2.length : Nat) : Int)) ⟨(hs.weak (List.Sublist.refl _) (List.Sublist.refl _) ⟨rfl, rfl, rfl, rfl, rfl, rfl, rfl, trivial⟩), hI0⟩ (fun s a w hI => ?_)
        obtain ⟨h19, i20⟩ := s
        obtain ⟨hs, hI⟩ := hI
        have hS := hst h19 i20 hI
        clear hst hI0 hI
        refine Wp.seq (Wp.seq (Wp.region (sP (Value.int .i64 i20) hs fun _ hs => ?_)))
        refine sP (Value.string (mkS s1)) hs fun _ hs => ?_
        refine sP (Value.int .i64 ((s1.length : Nat) : Int)) hs fun _ hs => ?_
        refine sP (Value.bool (decide (i20 < ((s1.length : Nat) : Int)))) hs fun _ hs => ?_
        refine wpList_nil (Wp.cond hs rfl rfl decide_eq_true_iff (fun hc => ?_) (fun hc => ?_))
        · have hS := hS.1 hc
          refine Wp.skip (Wp.block (Wp.seq (Wp.region (sP (Value.int .u32 h19) hs fun _ hs => ?_))))
          refine sP (Value.int .u32 (IntKind.wrap .u32 (h19 * 16777619))) hs fun _ hs => ?_
          refine sP (Value.int .u32 (IntKind.wrap .u32 (h19 * 16777619))) hs fun _ hs => ?_
          refine wpList_nil (Wp.seq (Wp.region (sP (Value.int .u32 (IntKind.wrap .u32 (h19 * 16777619))) hs fun _ hs => ?_)))
          refine sP (Value.string (mkS s1)) hs fun _ hs => ?_
          refine sP (Value.int .i64 i20) hs fun _ hs => ?_
          obtain ⟨c23, h0, hi, hS⟩ := hS
          refine sY (Value.int .u8 (c23.toNat : Int)) hs (Yl.indexStr rfl rfl rfl rfl (by kernel_rfl) h0 hi) fun _ hs => ?_
          refine sP (Value.int .u32 (IntKind.wrap .u32 (c23.toNat : Int))) hs fun _ hs => ?_
          refine sP (Value.int .u32 (IntKind.wrap .u32 ((IntKind.wrap .u32 (h19 * 16777619)) + (IntKind.wrap .u32 (c23.toNat : Int))))) hs fun _ hs => ?_
          refine sP (Value.int .u32 (IntKind.wrap .u32 ((IntKind.wrap .u32 (h19 * 16777619)) + (IntKind.wrap .u32 (c23.toNat : Int))))) hs fun _ hs => ?_
          refine wpList_nil (Wp.seq (Wp.region (sP (Value.int .u32 (IntKind.wrap .u32 ((IntKind.wrap .u32 (h19 * 16777619)) + (IntKind.wrap .u32 (c23.toNat : Int))))) hs fun _ hs => ?_)))
          refine sP (Value.int .u32 x4) hs fun _ hs => ?_
          refine sP (Value.string (mkS s1)) hs fun _ hs => ?_
          refine sP (Value.int .i64 i20) hs fun _ hs => ?_
          refine sP (Value.int .i64 ((sep2.length : Nat) : Int)) hs fun _ hs => ?_
          obtain ⟨hI, hS⟩ := hS
          refine sY (Value.int .i64 (i20 - ((sep2.length : Nat) : Int))) hs (Yl.eq (Yl.pure (v := Value.int .i64 (IntKind.wrap .i64 (i20 - ((sep2.length : Nat) : Int)))) rfl (fun _ => by kernel_rfl)) (congrArg (Value.int .i64) (wrap_in hI))) fun _ hs => ?_
          obtain ⟨c24, h0, hi, hS⟩ := hS
          refine sY (Value.int .u8 (c24.toNat : Int)) hs (Yl.indexStr rfl rfl rfl rfl (by kernel_rfl) h0 hi) fun _ hs => ?_
          refine sP (Value.int .u32 (IntKind.wrap .u32 (c24.toNat : Int))) hs fun _ hs => ?_
          refine sP (Value.int .u32 (IntKind.wrap .u32 (x4 * (IntKind.wrap .u32 (c24.toNat : Int))))) hs fun _ hs => ?_
          refine sP (Value.int .u32 (IntKind.wrap .u32 ((IntKind.wrap .u32 ((IntKind.wrap .u32 (h19 * 16777619)) + (IntKind.wrap .u32 (c23.toNat : Int)))) - (IntKind.wrap .u32 (x4 * (IntKind.wrap .u32 (c24.toNat : Int))))))) hs fun _ hs => ?_
          refine sP (Value.int .u32 (IntKind.wrap .u32 ((IntKind.wrap .u32 ((IntKind.wrap .u32 (h19 * 16777619)) + (IntKind.wrap .u32 (c23.toNat : Int)))) - (IntKind.wrap .u32 (x4 * (IntKind.wrap .u32 (c24.toNat : Int))))))) hs fun _ hs => ?_
          refine wpList_nil (Wp.seq (Wp.region (sP (Value.int .i64 i20) hs fun _ hs => ?_)))
          obtain ⟨hI, hS⟩ := hS
          refine sY (Value.int .i64 (i20 + 1)) hs (Yl.eq (Yl.pure (v := Value.int .i64 (IntKind.wrap .i64 (i20 + 1))) rfl (fun _ => by kernel_rfl)) (congrArg (Value.int .i64) (wrap_in hI))) fun _ hs => ?_
          refine sP (Value.int .i64 (i20 + 1)) hs fun _ hs => ?_
          refine wpList_nil (Wp.join (fun a w => ∃ (x25 : Bool), Sx 81 E [] M w a [(0, (Value.string (mkS s1))), (1, (Value.string (mkS sep2))), (5, (Value.int .u32 x3)), (6, (Value.int .u32 x4)), (7, (Value.int .i64 ((sep2.length : Nat) : Int))), (8, (Value.int .u32 (IntKind.wrap .u32 ((IntKind.wrap .u32 ((IntKind.wrap .u32 (h19 * 16777619)) + (IntKind.wrap .u32 (c23.toNat : Int)))) - (IntKind.wrap .u32 (x4 * (IntKind.wrap .u32 (c24.toNat : Int)))))))), (10, (Value.int .i64 (i20 + 1))), (77, (Value.bool x25))] [] [] ∧ (S_internal_bytealg_IndexRabinKarp_string_J2 sep2 x4 h19 i20 I21 mu22 c23 c24 x25 K)) ?_ ?_)
          · refine Wp.region (sP (Value.int .u32 (IntKind.wrap .u32 ((IntKind.wrap .u32 ((IntKind.wrap .u32 (h19 * 16777619)) + (IntKind.wrap .u32 (c23.toNat : Int)))) - (IntKind.wrap .u32 (x4 * (IntKind.wrap .u32 (c24.toNat : Int))))))) hs fun _ hs => ?_)
            refine sP (Value.int .u32 x3) hs fun _ hs => ?_
            refine sP (Value.bool ((IntKind.wrap .u32 ((IntKind.wrap .u32 ((IntKind.wrap .u32 (h19 * 16777619)) + (IntKind.wrap .u32 (c23.toNat : Int)))) - (IntKind.wrap .u32 (x4 * (IntKind.wrap .u32 (c24.toNat : Int))))) : Int) == (x3 : Int))) hs fun _ hs => ?_
            refine sP (Value.bool ((IntKind.wrap .u32 ((IntKind.wrap .u32 ((IntKind.wrap .u32 (h19 * 16777619)) + (IntKind.wrap .u32 (c23.toNat : Int)))) - (IntKind.wrap .u32 (x4 * (IntKind.wrap .u32 (c24.toNat : Int))))) : Int) == (x3 : Int))) hs fun _ hs => ?_
            refine bsplit ((IntKind.wrap .u32 ((IntKind.wrap .u32 ((IntKind.wrap .u32 (h19 * 16777619)) + (IntKind.wrap .u32 (c23.toNat : Int)))) - (IntKind.wrap .u32 (x4 * (IntKind.wrap .u32 (c24.toNat : Int))))) : Int) == (x3 : Int)) beq_iff_eq (fun hb hc => ?_) (fun hb hc => ?_)
            · have hs := hs.bt hb
              have hS := hS.1 hc
              refine sYe hs (sP (Value.string (mkS s1)) hs fun _ hs => ?_)
              refine sYe hs (sP (Value.int .i64 (i20 + 1)) hs fun _ hs => ?_)
              refine sYe hs (sP (Value.int .i64 ((sep2.length : Nat) : Int)) hs fun _ hs => ?_)
              refine sYe hs ?_
              obtain ⟨hI, hS⟩ := hS
              refine sY (Value.int .i64 ((i20 + 1) - ((sep2.length : Nat) : Int))) hs (Yl.eq (Yl.pure (v := Value.int .i64 (IntKind.wrap .i64 ((i20 + 1) - ((sep2.length : Nat) : Int)))) rfl (fun _ => by kernel_rfl)) (congrArg (Value.int .i64) (wrap_in hI))) fun _ hs => ?_
              refine sYe hs (sP (Value.int .i64 (i20 + 1)) hs fun _ hs => ?_)
              refine sYe hs ?_
              obtain ⟨h0, h1, h2, hS⟩ := hS
              refine sY (Value.string (mkS ((s1.take (i20 + 1).toNat).drop ((i20 + 1) - ((sep2.length : Nat) : Int)).toNat))) hs (Yl.sliceStrLH rfl rfl rfl rfl rfl rfl (by kernel_rfl) h0 h1 h2) fun _ hs => ?_
              refine sYe hs (sP (Value.string (mkS sep2)) hs fun _ hs => ?_)
              refine sYe hs (sP (Value.bool ((mkS ((s1.take (i20 + 1).toNat).drop ((i20 + 1) - ((sep2.length : Nat) : Int)).toNat)).toList == (mkS sep2).toList)) hs fun _ hs => ?_)
              refine sP (Value.bool ((mkS ((s1.take (i20 + 1).toNat).drop ((i20 + 1) - ((sep2.length : Nat) : Int)).toNat)).toList == (mkS sep2).toList)) hs fun _ hs => ?_
              exact wpList_nil (⟨((mkS ((s1.take (i20 + 1).toNat).drop ((i20 + 1) - ((sep2.length : Nat) : Int)).toNat)).toList == (mkS sep2).toList), (hs.weak (List.Sublist.refl _) (List.Sublist.refl _) ⟨rfl, rfl, rfl, rfl, rfl, rfl, rfl, rfl, trivial⟩), hS⟩)
            · have hs := hs.bf hb
              have hS := hS.2 hc
              refine sNo hs fun _ hs => ?_
              refine sNo hs fun _ hs => ?_
              refine sNo hs fun _ hs => ?_
              refine sNo hs fun _ hs => ?_
              refine sNo hs fun _ hs => ?_
              refine sNo hs fun _ hs => ?_
              refine sNo hs fun _ hs => ?_
              refine sNo hs fun _ hs => ?_
              refine sP (Value.bool false) hs fun _ hs => ?_
              exact wpList_nil (⟨false, (hs.weak (List.Sublist.refl _) (List.Sublist.refl _) ⟨rfl, rfl, rfl, rfl, rfl, rfl, rfl, rfl, trivial⟩), hS⟩)
          · intro a w hJ
            obtain ⟨x25, hs, hS⟩ := hJ
            unfold S_internal_bytealg_IndexRabinKarp_string_J2 at hS
            refine Wp.cond hs rfl rfl Iff.rfl (fun hc => ?_) (fun hc => ?_)
            · have hS := hS.1 hc
              refine Wp.seq (Wp.region (sP (Value.int .i64 (i20 + 1)) hs fun _ hs => ?_))
              refine sP (Value.int .i64 ((sep2.length : Nat) : Int)) hs fun _ hs => ?_
              obtain ⟨hI, hS⟩ := hS
              refine sY (Value.int .i64 ((i20 + 1) - ((sep2.length : Nat) : Int))) hs (Yl.eq (Yl.pure (v := Value.int .i64 (IntKind.wrap .i64 ((i20 + 1) - ((sep2.length : Nat) : Int)))) rfl (fun _ => by kernel_rfl)) (congrArg (Value.int .i64) (wrap_in hI))) fun _ hs => ?_
              refine sP (Value.int .i64 ((i20 + 1) - ((sep2.length : Nat) : Int))) hs fun _ hs => ?_
              exact wpList_nil (Wp.ret (leaveE (K := fun v _ => K v) hs (resT hs rfl rfl) hMM.2 (fun _ _ => hS)))
            · have hS := hS.2 hc
              exact Wp.skip (⟨(IntKind.wrap .u32 ((IntKind.wrap .u32 ((IntKind.wrap .u32 (h19 * 16777619)) + (IntKind.wrap .u32 (c23.toNat : Int)))) - (IntKind.wrap .u32 (x4 * (IntKind.wrap .u32 (c24.toNat : Int))))), i20 + 1), ⟨(hs.weak (List.Sublist.refl _) (List.Sublist.refl _) ⟨rfl, rfl, rfl, rfl, rfl, rfl, rfl, trivial⟩), hS.1⟩, hS.2⟩)
        · have hS := hS.2 hc
          refine Wp.exit rfl (Wp.seq (Wp.region (sP (Value.int .i64 (-1)) hs fun _ hs => ?_)))
          exact wpList_nil (Wp.ret (leaveE (K := fun v _ => K v) hs (resT hs rfl rfl) hMM.2 (fun _ _ => hS)))
set_option linter.unusedVariables false in
def S_internal_stringslite_Index_J1 (s1 : List UInt8) (substr2 : List UInt8) (M : Mem) (x3 : Bool) (K : Value → Prop) : Prop :=
  ((x3 = true → K (Value.int .i64 0)) ∧ (¬ (x3 = true) → ((((substr2.length : Nat) : Int) = 1 → (∃ c4 : UInt8, (0 : Int) ≤ 0 ∧ substr2[(0 : Int).toNat]? = some c4 ∧ (CallE Try.prog 104 #[(Value.string (mkS s1)), (Value.int .u8 (c4.toNat : Int))] M (fun v _ => ∃ (x5 : Int), v = (Value.int .i64 x5) ∧ K (Value.int .i64 x5))))) ∧ (¬ (((substr2.length : Nat) : Int) = 1) → ((((substr2.length : Nat) : Int) ≥ ((s1.length : Nat) : Int) → K (Value.int .i64 (-1))) ∧ (¬ (((substr2.length : Nat) : Int) ≥ ((s1.length : Nat) : Int)) → False))))))
set_option linter.unusedVariables false in
def S_internal_stringslite_Index (s1 : List UInt8) (substr2 : List UInt8) (M : Mem) (K : Value → Prop) : Prop :=
  ((((substr2.length : Nat) : Int) = 0 → (S_internal_stringslite_Index_J1 s1 substr2 M true K)) ∧ (¬ (((substr2.length : Nat) : Int) = 0) → (S_internal_stringslite_Index_J1 s1 substr2 M ((mkS substr2).toList == (mkS s1).toList) K)))
set_option linter.unusedVariables false in
set_option maxRecDepth 100000 in
theorem s_internal_stringslite_Index (s1 : List UInt8) (substr2 : List UInt8) (M : Mem) (K : Value → Prop) (hS : S_internal_stringslite_Index s1 substr2 M K) : CallE Try.prog 107 #[(Value.string (mkS s1)), (Value.string (mkS substr2))] M (fun v _ => K v) := by
  refine enterE Try.func107 rfl 143 rfl (Nat.le_of_ble_eq_true rfl) (fun E a hs => ?_)
  unfold S_internal_stringslite_Index at hS
  have hMM := MX.refl M E
  change Sx 143 E [] M E a [(0, (Value.string (mkS s1))), (1, (Value.string (mkS substr2)))] [] [] at hs
  refine Wp.seq (Wp.region (sP (Value.int .i64 0) hs fun _ hs => ?_))
  refine wpList_nil (Wp.seq (Wp.region (sP (Value.string (mkS substr2)) hs fun _ hs => ?_)))
  refine sP (Value.int .i64 ((substr2.length : Nat) : Int)) hs fun _ hs => ?_
  refine sP (Value.int .i64 ((substr2.length : Nat) : Int)) hs fun _ hs => ?_
  refine wpList_nil (Wp.seq (Wp.block (Wp.join (fun a w => ∃ (x3 : Bool), Sx 143 E [] M w a [(0, (Value.string (mkS s1))), (1, (Value.string (mkS substr2))), (5, (Value.int .i64 ((substr2.length : Nat) : Int))), (16, (Value.bool x3))] [] [] ∧ (S_internal_stringslite_Index_J1 s1 substr2 M x3 K)) ?_ ?_)))
  · refine Wp.region (sP (Value.int .i64 ((substr2.length : Nat) : Int)) hs fun _ hs => ?_)
    refine sP (Value.bool (((substr2.length : Nat) : Int) == (0 : Int))) hs fun _ hs => ?_
    refine sP (Value.bool (((substr2.length : Nat) : Int) == (0 : Int))) hs fun _ hs => ?_
    refine bsplit (((substr2.length : Nat) : Int) == (0 : Int)) beq_iff_eq (fun hb hc => ?_) (fun hb hc => ?_)
    · have hs := hs.bt hb
      have hS := hS.1 hc
      refine sNo hs fun _ hs => ?_
      refine sNo hs fun _ hs => ?_
      refine sNo hs fun _ hs => ?_
      refine sP (Value.bool true) hs fun _ hs => ?_
      refine sP (Value.bool true) hs fun _ hs => ?_
      exact wpList_nil (⟨true, (hs.weak (List.Sublist.refl _) (List.Sublist.refl _) ⟨rfl, rfl, rfl, rfl, trivial⟩), hS⟩)
    · have hs := hs.bf hb
      have hS := hS.2 hc
      refine sYe hs (sP (Value.string (mkS substr2)) hs fun _ hs => ?_)
      refine sYe hs (sP (Value.string (mkS s1)) hs fun _ hs => ?_)
      refine sYe hs (sP (Value.bool ((mkS substr2).toList == (mkS s1).toList)) hs fun _ hs => ?_)
      refine sP (Value.bool ((mkS substr2).toList == (mkS s1).toList)) hs fun _ hs => ?_
      refine sP (Value.bool ((mkS substr2).toList == (mkS s1).toList)) hs fun _ hs => ?_
      exact wpList_nil (⟨((mkS substr2).toList == (mkS s1).toList), (hs.weak (List.Sublist.refl _) (List.Sublist.refl _) ⟨rfl, rfl, rfl, rfl, trivial⟩), hS⟩)
  · intro a w hJ
    obtain ⟨x3, hs, hS⟩ := hJ
    unfold S_internal_stringslite_Index_J1 at hS
    refine Wp.cond hs rfl rfl Iff.rfl (fun hc => ?_) (fun hc => ?_)
    · have hS := hS.1 hc
      refine Wp.seq (Wp.region (sP (Value.int .i64 0) hs fun _ hs => ?_))
      exact wpList_nil (Wp.ret (leaveE (K := fun v _ => K v) hs (resT hs rfl rfl) hMM.2 (fun _ _ => hS)))
    · have hS := hS.2 hc
      refine Wp.seq (Wp.region (sP (Value.int .i64 ((substr2.length : Nat) : Int)) hs fun _ hs => ?_))
      refine sP (Value.bool (((substr2.length : Nat) : Int) == (1 : Int))) hs fun _ hs => ?_
      refine sP (Value.bool (((substr2.length : Nat) : Int) == (1 : Int))) hs fun _ hs => ?_
      refine wpList_nil (Wp.cond hs rfl rfl beq_iff_eq (fun hc => ?_) (fun hc => ?_))
      · have hS := hS.1 hc
        refine Wp.seq (Wp.region (sP (Value.string (mkS s1)) hs fun _ hs => ?_))
        refine sP (Value.string (mkS substr2)) hs fun _ hs => ?_
        obtain ⟨c4, h0, hi, hS⟩ := hS
        refine sY (Value.int .u8 (c4.toNat : Int)) hs (Yl.indexStr rfl rfl rfl rfl (by kernel_rfl) h0 hi) fun _ hs => ?_
        refine stepCallP [(Value.string (mkS s1)), (Value.int .u8 (c4.toNat : Int))] hs rfl ⟨_, rfl, rfl⟩ rfl Try.func104 rfl (by kernel_rfl) (by decide) hS (fun _ _ v hS hs => ?_)
        obtain ⟨x5, hv, hS⟩ := hS
        subst hv
        refine sP (Value.int .i64 x5) hs fun _ hs => ?_
        exact wpList_nil (Wp.ret (leaveE (K := fun v _ => K v) hs (resT hs rfl rfl) hMM.2 (fun _ _ => hS)))
      · have hS := hS.2 hc
        refine Wp.seq (Wp.region (sP (Value.int .i64 ((substr2.length : Nat) : Int)) hs fun _ hs => ?_))
        refine sP (Value.string (mkS s1)) hs fun _ hs => ?_
        refine sP (Value.int .i64 ((s1.length : Nat) : Int)) hs fun _ hs => ?_
        refine sP (Value.bool (decide (((substr2.length : Nat) : Int) ≥ ((s1.length : Nat) : Int)))) hs fun _ hs => ?_
        refine sP (Value.bool (decide (((substr2.length : Nat) : Int) ≥ ((s1.length : Nat) : Int)))) hs fun _ hs => ?_
        refine wpList_nil (Wp.cond hs rfl rfl decide_eq_true_iff (fun hc => ?_) (fun hc => ?_))
        · have hS := hS.1 hc
          refine Wp.seq (Wp.region (sP (Value.int .i64 (-1)) hs fun _ hs => ?_))
          exact wpList_nil (Wp.ret (leaveE (K := fun v _ => K v) hs (resT hs rfl rfl) hMM.2 (fun _ _ => hS)))
        · have hS := hS.2 hc
          refine Wp.seq (Wp.region (sP (Value.int .i64 ((substr2.length : Nat) : Int)) hs fun _ hs => ?_))
          exact hS.elim
set_option linter.unusedVariables false in
def S_strings_Index (s1 : List UInt8) (substr2 : List UInt8) (M : Mem) (K : Value → Prop) : Prop :=
  (CallE Try.prog 107 #[(Value.string (mkS s1)), (Value.string (mkS substr2))] M (fun v _ => ∃ (x3 : Int), v = (Value.int .i64 x3) ∧ K (Value.int .i64 x3)))
set_option linter.unusedVariables false in
set_option maxRecDepth 100000 in
theorem s_strings_Index (s1 : List UInt8) (substr2 : List UInt8) (M : Mem) (K : Value → Prop) (hS : S_strings_Index s1 substr2 M K) : CallE Try.prog 105 #[(Value.string (mkS s1)), (Value.string (mkS substr2))] M (fun v _ => K v) := by
  refine enterE Try.func105 rfl 8 rfl (Nat.le_of_ble_eq_true rfl) (fun E a hs => ?_)
  unfold S_strings_Index at hS
  have hMM := MX.refl M E
  change Sx 8 E [] M E a [(0, (Value.string (mkS s1))), (1, (Value.string (mkS substr2)))] [] [] at hs
  refine Wp.seq (Wp.region (sP (Value.int .i64 0) hs fun _ hs => ?_))
  refine wpList_nil (Wp.seq (Wp.region (sP (Value.string (mkS s1)) hs fun _ hs => ?_)))
  refine sP (Value.string (mkS substr2)) hs fun _ hs => ?_
  refine stepCallP [(Value.string (mkS s1)), (Value.string (mkS substr2))] hs rfl ⟨_, rfl, rfl⟩ rfl Try.func107 rfl (by kernel_rfl) (by decide) hS (fun _ _ v hS hs => ?_)
  obtain ⟨x3, hv, hS⟩ := hS
  subst hv
  refine sP (Value.int .i64 x3) hs fun _ hs => ?_
  exact wpList_nil (Wp.ret (leaveE (K := fun v _ => K v) hs (resT hs rfl rfl) hMM.2 (fun _ _ => hS)))
set_option linter.unusedVariables false in
def S_chaffref_value (b1 : Int) (M : Mem) (K : Value → Prop) : Prop :=
  (∃ (x3 : List UInt8), [(Value.int .u8 b1)] = bytesV x3 ∧ (CallE Try.prog 105 #[(Value.string (mkS ([48, 49, 50, 51, 52, 53, 54, 55, 56, 57, 97, 98, 99, 100, 101, 102] : List UInt8))), (Value.string (mkS x3))] M (fun v _ => ∃ (x4 : Int), v = (Value.int .i64 x4) ∧ K (Value.int .i64 x4))))
set_option linter.unusedVariables false in
set_option maxRecDepth 100000 in
theorem s_chaffref_value (b1 : Int) (M : Mem) (K : Value → Prop) (hS : S_chaffref_value b1 M K) : CallE Try.prog 97 #[(Value.int .u8 b1)] M (fun v _ => K v) := by
  refine enterE Try.func97 rfl 7 rfl (Nat.le_of_ble_eq_true rfl) (fun E a hs => ?_)
  unfold S_chaffref_value at hS
  have hMM := MX.refl M E
  change Sx 7 E [] M E a [(0, (Value.int .u8 b1))] [] [] at hs
  refine Wp.seq (Wp.region (sP (Value.int .i64 0) hs fun _ hs => ?_))
  refine wpList_nil (Wp.seq (Wp.region (sP (Value.int .u8 b1) hs fun _ hs => ?_)))
  refine stepMake [(Value.int .u8 b1)] 5 1 1 hs rfl rfl rfl (fun _ => by kernel_rfl) rfl (by unfold maxLen; decide) (by decide) (fun _ _ rv2 hs => ?_)
  obtain ⟨x3, hb, hS⟩ := hS
  refine sY (Value.string (mkS x3)) hs (Yl.bytesR (l := x3) (e' := 5) 0 (by rw [← hb]; rfl) rfl rfl (by kernel_rfl) (by kernel_rfl) (by kernel_rfl)) fun _ hs => ?_
  refine stepCallP [(Value.string (mkS ([48, 49, 50, 51, 52, 53, 54, 55, 56, 57, 97, 98, 99, 100, 101, 102] : List UInt8))), (Value.string (mkS x3))] hs rfl ⟨_, rfl, rfl⟩ rfl Try.func105 rfl (by kernel_rfl) (by decide) hS (fun _ _ v hS hs => ?_)
  obtain ⟨x4, hv, hS⟩ := hS
  subst hv
  refine sP (Value.int .i64 x4) hs fun _ hs => ?_
  exact wpList_nil (Wp.ret (leaveE (K := fun v _ => K v) hs (resT hs rfl rfl) hMM.2 (fun _ _ => hS)))
set_option linter.unusedVariables false in
def S_strings_Contains (s1 : List UInt8) (substr2 : List UInt8) (M : Mem) (K : Value → Prop) : Prop :=
  (CallE Try.prog 105 #[(Value.string (mkS s1)), (Value.string (mkS substr2))] M (fun v _ => ∃ (x3 : Int), v = (Value.int .i64 x3) ∧ K (Value.bool (decide (x3 ≥ 0)))))
set_option linter.unusedVariables false in
set_option maxRecDepth 100000 in
theorem s_strings_Contains (s1 : List UInt8) (substr2 : List UInt8) (M : Mem) (K : Value → Prop) (hS : S_strings_Contains s1 substr2 M K) : CallE Try.prog 98 #[(Value.string (mkS s1)), (Value.string (mkS substr2))] M (fun v _ => K v) := by
  refine enterE Try.func98 rfl 9 rfl (Nat.le_of_ble_eq_true rfl) (fun E a hs => ?_)
  unfold S_strings_Contains at hS
  have hMM := MX.refl M E
  change Sx 9 E [] M E a [(0, (Value.string (mkS s1))), (1, (Value.string (mkS substr2)))] [] [] at hs
  refine Wp.seq (Wp.region (sP (Value.bool false) hs fun _ hs => ?_))
  refine wpList_nil (Wp.seq (Wp.region (sP (Value.string (mkS s1)) hs fun _ hs => ?_)))
  refine sP (Value.string (mkS substr2)) hs fun _ hs => ?_
  refine stepCallP [(Value.string (mkS s1)), (Value.string (mkS substr2))] hs rfl ⟨_, rfl, rfl⟩ rfl Try.func105 rfl (by kernel_rfl) (by decide) hS (fun _ _ v hS hs => ?_)
  obtain ⟨x3, hv, hS⟩ := hS
  subst hv
  refine sP (Value.bool (decide (x3 ≥ 0))) hs fun _ hs => ?_
  refine sP (Value.bool (decide (x3 ≥ 0))) hs fun _ hs => ?_
  exact wpList_nil (Wp.ret (leaveE (K := fun v _ => K v) hs (resT hs rfl rfl) hMM.2 (fun _ _ => hS)))
set_option linter.unusedVariables false in
def S_chaffref_said_J2 (s1 : List UInt8) (M : Mem) (x14 : Bool) (K : Value → Prop) : Prop :=
  ((x14 = true → K (Value.tuple #[(Value.int .i64 0), (Value.int .i64 0)])) ∧ (¬ (x14 = true) → (∃ c15 : UInt8, (0 : Int) ≤ 2 ∧ s1[(2 : Int).toNat]? = some c15 ∧ (∃ c16 : UInt8, (0 : Int) ≤ 3 ∧ s1[(3 : Int).toNat]? = some c16 ∧ (CallE Try.prog 97 #[(Value.int .u8 (c15.toNat : Int))] M (fun v _ => ∃ (x17 : Int), v = (Value.int .i64 x17) ∧ (InI (16 * x17) ∧ (CallE Try.prog 97 #[(Value.int .u8 (c16.toNat : Int))] M (fun v _ => ∃ (x18 : Int), v = (Value.int .i64 x18) ∧ (InI ((16 * x17) + x18) ∧ K (Value.tuple #[(Value.int .i64 ((16 * x17) + x18)), (Value.int .i64 4)])))))))))))
set_option linter.unusedVariables false in
def S_chaffref_said_J3 (s1 : List UInt8) (x21 : Bool) (K : Value → Prop) : Prop :=
  ((x21 = true → (∃ c22 : UInt8, (0 : Int) ≤ 1 ∧ s1[(1 : Int).toNat]? = some c22 ∧ K (Value.tuple #[(Value.int .i64 (IntKind.wrap .i64 (c22.toNat : Int))), (Value.int .i64 2)]))) ∧ (¬ (x21 = true) → K (Value.tuple #[(Value.int .i64 0), (Value.int .i64 0)])))
set_option linter.unusedVariables false in
def S_chaffref_said_J1 (s1 : List UInt8) (signs2 : List UInt8) (M : Mem) (x4 : Bool) (K : Value → Prop) : Prop :=
  ((x4 = true → K (Value.tuple #[(Value.int .i64 0), (Value.int .i64 0)])) ∧ (¬ (x4 = true) → (∃ c5 : UInt8, (0 : Int) ≤ 0 ∧ s1[(0 : Int).toNat]? = some c5 ∧ (((c5.toNat : Int) ≠ 92 → (∃ c6 : UInt8, (0 : Int) ≤ 0 ∧ s1[(0 : Int).toNat]? = some c6 ∧ K (Value.tuple #[(Value.int .i64 (IntKind.wrap .i64 (c6.toNat : Int))), (Value.int .i64 1)]))) ∧ (¬ ((c5.toNat : Int) ≠ 92) → ((((s1.length : Nat) : Int) = 1 → K (Value.tuple #[(Value.int .i64 0), (Value.int .i64 0)])) ∧ (¬ (((s1.length : Nat) : Int) = 1) → (∃ c7 : UInt8, (0 : Int) ≤ 1 ∧ s1[(1 : Int).toNat]? = some c7 ∧ (((c7.toNat : Int) = 110 → K (Value.tuple #[(Value.int .i64 10), (Value.int .i64 2)])) ∧ (¬ ((c7.toNat : Int) = 110) → (∃ c8 : UInt8, (0 : Int) ≤ 1 ∧ s1[(1 : Int).toNat]? = some c8 ∧ (((c8.toNat : Int) = 116 → K (Value.tuple #[(Value.int .i64 9), (Value.int .i64 2)])) ∧ (¬ ((c8.toNat : Int) = 116) → (∃ c9 : UInt8, (0 : Int) ≤ 1 ∧ s1[(1 : Int).toNat]? = some c9 ∧ (((c9.toNat : Int) = 120 → ((((s1.length : Nat) : Int) < 4 → (S_chaffref_said_J2 s1 M true K)) ∧ (¬ (((s1.length : Nat) : Int) < 4) → (∃ c10 : UInt8, (0 : Int) ≤ 2 ∧ s1[(2 : Int).toNat]? = some c10 ∧ (CallE Try.prog 97 #[(Value.int .u8 (c10.toNat : Int))] M (fun v _ => ∃ (x11 : Int), v = (Value.int .i64 x11) ∧ ((x11 < 0 → (S_chaffref_said_J2 s1 M true K)) ∧ (¬ (x11 < 0) → (∃ c12 : UInt8, (0 : Int) ≤ 3 ∧ s1[(3 : Int).toNat]? = some c12 ∧ (CallE Try.prog 97 #[(Value.int .u8 (c12.toNat : Int))] M (fun v _ => ∃ (x13 : Int), v = (Value.int .i64 x13) ∧ (S_chaffref_said_J2 s1 M (decide (x13 < 0)) K)))))))))))) ∧ (¬ ((c9.toNat : Int) = 120) → ((0 : Int) ≤ 1 ∧ (1 : Int) ≤ 2 ∧ (2 : Int) ≤ ((s1.length : Nat) : Int) ∧ (CallE Try.prog 98 #[(Value.string (mkS signs2)), (Value.string (mkS ((s1.take (2 : Int).toNat).drop (1 : Int).toNat)))] M (fun v _ => ∃ (x19 : Bool), v = (Value.bool x19) ∧ ((x19 = true → (∃ c20 : UInt8, (0 : Int) ≤ 1 ∧ s1[(1 : Int).toNat]? = some c20 ∧ (S_chaffref_said_J3 s1 (decide ((c20.toNat : Int) < 128)) K))) ∧ (¬ (x19 = true) → (S_chaffref_said_J3 s1 false K))))))))))))))))))))))
set_option linter.unusedVariables false in
def S_chaffref_said (s1 : List UInt8) (signs2 : List UInt8) (M : Mem) (K : Value → Prop) : Prop :=
  ((s1 = ([] : List UInt8) → (S_chaffref_said_J1 s1 signs2 M true K)) ∧ (¬ (s1 = ([] : List UInt8)) → (∃ c3 : UInt8, (0 : Int) ≤ 0 ∧ s1[(0 : Int).toNat]? = some c3 ∧ (S_chaffref_said_J1 s1 signs2 M ((c3.toNat : Int) == (10 : Int)) K))))
set_option linter.unusedVariables false in
set_option maxRecDepth 100000 in
theorem s_chaffref_said (s1 : List UInt8) (signs2 : List UInt8) (M : Mem) (K : Value → Prop) (hS : S_chaffref_said s1 signs2 M K) : CallE Try.prog 79 #[(Value.string (mkS s1)), (Value.string (mkS signs2))] M (fun v _ => K v) := by
  refine enterE Try.func79 rfl 73 rfl (Nat.le_of_ble_eq_true rfl) (fun E a hs => ?_)
  unfold S_chaffref_said at hS
  have hMM := MX.refl M E
  change Sx 73 E [] M E a [(0, (Value.string (mkS s1))), (1, (Value.string (mkS signs2)))] [] [] at hs
  refine Wp.seq (Wp.region (sP (Value.int .i64 0) hs fun _ hs => ?_))
  refine sP (Value.int .i64 0) hs fun _ hs => ?_
  refine wpList_nil (Wp.seq (Wp.block (Wp.join (fun a w => ∃ (x4 : Bool), Sx 73 E [] M w a [(0, (Value.string (mkS s1))), (1, (Value.string (mkS signs2))), (6, (Value.bool x4))] [] [] ∧ (S_chaffref_said_J1 s1 signs2 M x4 K)) ?_ ?_)))
  · refine Wp.region (sP (Value.string (mkS s1)) hs fun _ hs => ?_)
    refine sP (Value.bool ((mkS s1).toList == (mkS ([] : List UInt8)).toList)) hs fun _ hs => ?_
    refine sP (Value.bool ((mkS s1).toList == (mkS ([] : List UInt8)).toList)) hs fun _ hs => ?_
    refine bsplit ((mkS s1).toList == (mkS ([] : List UInt8)).toList) mkS_beq (fun hb hc => ?_) (fun hb hc => ?_)
    · have hs := hs.bt hb
      have hS := hS.1 hc
      refine sNo hs fun _ hs => ?_
      refine sNo hs fun _ hs => ?_
      refine sNo hs fun _ hs => ?_
      refine sP (Value.bool true) hs fun _ hs => ?_
      refine sP (Value.bool true) hs fun _ hs => ?_
      exact wpList_nil (⟨true, (hs.weak (List.Sublist.refl _) (List.Sublist.refl _) ⟨rfl, rfl, rfl, trivial⟩), hS⟩)
    · have hs := hs.bf hb
      have hS := hS.2 hc
      refine sYe hs (sP (Value.string (mkS s1)) hs fun _ hs => ?_)
      refine sYe hs ?_
      obtain ⟨c3, h0, hi, hS⟩ := hS
      refine sY (Value.int .u8 (c3.toNat : Int)) hs (Yl.indexStr rfl rfl rfl rfl (by kernel_rfl) h0 hi) fun _ hs => ?_
      refine sYe hs (sP (Value.bool ((c3.toNat : Int) == (10 : Int))) hs fun _ hs => ?_)
      refine sP (Value.bool ((c3.toNat : Int) == (10 : Int))) hs fun _ hs => ?_
      refine sP (Value.bool ((c3.toNat : Int) == (10 : Int))) hs fun _ hs => ?_
      exact wpList_nil (⟨((c3.toNat : Int) == (10 : Int)), (hs.weak (List.Sublist.refl _) (List.Sublist.refl _) ⟨rfl, rfl, rfl, trivial⟩), hS⟩)
  · intro a w hJ
    obtain ⟨x4, hs, hS⟩ := hJ
    unfold S_chaffref_said_J1 at hS
    refine Wp.cond hs rfl rfl Iff.rfl (fun hc => ?_) (fun hc => ?_)
    · have hS := hS.1 hc
      refine Wp.seq (Wp.region (sP (Value.int .i64 0) hs fun _ hs => ?_))
      refine sP (Value.int .i64 0) hs fun _ hs => ?_
      exact wpList_nil (Wp.ret (leaveE (K := fun v _ => K v) hs (resTT hs rfl rfl rfl) hMM.2 (fun _ _ => hS)))
    · have hS := hS.2 hc
      refine Wp.seq (Wp.region (sP (Value.string (mkS s1)) hs fun _ hs => ?_))
      obtain ⟨c5, h0, hi, hS⟩ := hS
      refine sY (Value.int .u8 (c5.toNat : Int)) hs (Yl.indexStr rfl rfl rfl rfl (by kernel_rfl) h0 hi) fun _ hs => ?_
      refine sP (Value.bool ((c5.toNat : Int) != (92 : Int))) hs fun _ hs => ?_
      refine sP (Value.bool ((c5.toNat : Int) != (92 : Int))) hs fun _ hs => ?_
      refine wpList_nil (Wp.cond hs rfl rfl bne_iff_ne (fun hc => ?_) (fun hc => ?_))
      · have hS := hS.1 hc
        refine Wp.seq (Wp.region (sP (Value.string (mkS s1)) hs fun _ hs => ?_))
        obtain ⟨c6, h0, hi, hS⟩ := hS
        refine sY (Value.int .u8 (c6.toNat : Int)) hs (Yl.indexStr rfl rfl rfl rfl (by kernel_rfl) h0 hi) fun _ hs => ?_
        refine sP (Value.int .i64 (IntKind.wrap .i64 (c6.toNat : Int))) hs fun _ hs => ?_
        refine sP (Value.int .i64 (IntKind.wrap .i64 (c6.toNat : Int))) hs fun _ hs => ?_
        refine sP (Value.int .i64 1) hs fun _ hs => ?_
        exact wpList_nil (Wp.ret (leaveE (K := fun v _ => K v) hs (resTT hs rfl rfl rfl) hMM.2 (fun _ _ => hS)))
      · have hS := hS.2 hc
        refine Wp.seq (Wp.region (sP (Value.string (mkS s1)) hs fun _ hs => ?_))
        refine sP (Value.int .i64 ((s1.length : Nat) : Int)) hs fun _ hs => ?_
        refine sP (Value.bool (((s1.length : Nat) : Int) == (1 : Int))) hs fun _ hs => ?_
        refine sP (Value.bool (((s1.length : Nat) : Int) == (1 : Int))) hs fun _ hs => ?_
        refine wpList_nil (Wp.cond hs rfl rfl beq_iff_eq (fun hc => ?_) (fun hc => ?_))
        · have hS := hS.1 hc
          refine Wp.seq (Wp.region (sP (Value.int .i64 0) hs fun _ hs => ?_))
          refine sP (Value.int .i64 0) hs fun _ hs => ?_
          exact wpList_nil (Wp.ret (leaveE (K := fun v _ => K v) hs (resTT hs rfl rfl rfl) hMM.2 (fun _ _ => hS)))
        · have hS := hS.2 hc
          refine Wp.seq (Wp.region (sP (Value.string (mkS s1)) hs fun _ hs => ?_))
          obtain ⟨c7, h0, hi, hS⟩ := hS
          refine sY (Value.int .u8 (c7.toNat : Int)) hs (Yl.indexStr rfl rfl rfl rfl (by kernel_rfl) h0 hi) fun _ hs => ?_
          refine sP (Value.bool ((c7.toNat : Int) == (110 : Int))) hs fun _ hs => ?_
          refine sP (Value.bool ((c7.toNat : Int) == (110 : Int))) hs fun _ hs => ?_
          refine wpList_nil (Wp.cond hs rfl rfl beq_iff_eq (fun hc => ?_) (fun hc => ?_))
          · have hS := hS.1 hc
            refine Wp.seq (Wp.region (sP (Value.int .i64 10) hs fun _ hs => ?_))
            refine sP (Value.int .i64 2) hs fun _ hs => ?_
            exact wpList_nil (Wp.ret (leaveE (K := fun v _ => K v) hs (resTT hs rfl rfl rfl) hMM.2 (fun _ _ => hS)))
          · have hS := hS.2 hc
            refine Wp.seq (Wp.region (sP (Value.string (mkS s1)) hs fun _ hs => ?_))
            obtain ⟨c8, h0, hi, hS⟩ := hS
            refine sY (Value.int .u8 (c8.toNat : Int)) hs (Yl.indexStr rfl rfl rfl rfl (by kernel_rfl) h0 hi) fun _ hs => ?_
            refine sP (Value.bool ((c8.toNat : Int) == (116 : Int))) hs fun _ hs => ?_
            refine sP (Value.bool ((c8.toNat : Int) == (116 : Int))) hs fun _ hs => ?_
            refine wpList_nil (Wp.cond hs rfl rfl beq_iff_eq (fun hc => ?_) (fun hc => ?_))
            · have hS := hS.1 hc
              refine Wp.seq (Wp.region (sP (Value.int .i64 9) hs fun _ hs => ?_))
              refine sP (Value.int .i64 2) hs fun _ hs => ?_
              exact wpList_nil (Wp.ret (leaveE (K := fun v _ => K v) hs (resTT hs rfl rfl rfl) hMM.2 (fun _ _ => hS)))
            · have hS := hS.2 hc
              refine Wp.seq (Wp.region (sP (Value.string (mkS s1)) hs fun _ hs => ?_))
              obtain ⟨c9, h0, hi, hS⟩ := hS
              refine sY (Value.int .u8 (c9.toNat : Int)) hs (Yl.indexStr rfl rfl rfl rfl (by kernel_rfl) h0 hi) fun _ hs => ?_
              refine sP (Value.bool ((c9.toNat : Int) == (120 : Int))) hs fun _ hs => ?_
              refine sP (Value.bool ((c9.toNat : Int) == (120 : Int))) hs fun _ hs => ?_
              refine wpList_nil (Wp.cond hs rfl rfl beq_iff_eq (fun hc => ?_) (fun hc => ?_))
              · have hS := hS.1 hc
                refine Wp.seq (Wp.join (fun a w => ∃ (x14 : Bool), Sx 73 E [] M w a [(0, (Value.string (mkS s1))), (51, (Value.bool x14))] [] [] ∧ (S_chaffref_said_J2 s1 M x14 K)) ?_ ?_)
                · refine Wp.region (sP (Value.string (mkS s1)) hs fun _ hs => ?_)
                  refine sP (Value.int .i64 ((s1.length : Nat) : Int)) hs fun _ hs => ?_
                  refine sP (Value.bool (decide (((s1.length : Nat) : Int) < 4))) hs fun _ hs => ?_
                  refine sP (Value.bool (decide (((s1.length : Nat) : Int) < 4))) hs fun _ hs => ?_
                  refine bsplit (decide (((s1.length : Nat) : Int) < 4)) decide_eq_true_iff (fun hb hc => ?_) (fun hb hc => ?_)
                  · have hs := hs.bt hb
                    have hS := hS.1 hc
                    refine sNo hs fun _ hs => ?_
                    refine sNo hs fun _ hs => ?_
                    refine sNo hs fun _ hs => ?_
                    refine sNo hs fun _ hs => ?_
                    refine sP (Value.bool true) hs fun _ hs => ?_
                    refine sP (Value.bool true) hs fun _ hs => ?_
                    refine sNo hs fun _ hs => ?_
                    refine sNo hs fun _ hs => ?_
                    refine sNo hs fun _ hs => ?_
                    refine sNo hs fun _ hs => ?_
                    refine sP (Value.bool true) hs fun _ hs => ?_
                    exact wpList_nil (⟨true, (hs.weak (List.Sublist.refl _) (List.Sublist.refl _) ⟨rfl, rfl, trivial⟩), hS⟩)
                  · have hs := hs.bf hb
                    have hS := hS.2 hc
                    refine sYe hs (sP (Value.string (mkS s1)) hs fun _ hs => ?_)
                    refine sYe hs ?_
                    obtain ⟨c10, h0, hi, hS⟩ := hS
                    refine sY (Value.int .u8 (c10.toNat : Int)) hs (Yl.indexStr rfl rfl rfl rfl (by kernel_rfl) h0 hi) fun _ hs => ?_
                    refine sYe hs (stepCallP [(Value.int .u8 (c10.toNat : Int))] hs rfl ⟨_, rfl, rfl⟩ rfl Try.func97 rfl (by kernel_rfl) (by decide) hS (fun _ _ v hS hs => ?_))
                    obtain ⟨x11, hv, hS⟩ := hS
                    subst hv
                    refine sYe hs (sP (Value.bool (decide (x11 < 0))) hs fun _ hs => ?_)
                    refine sP (Value.bool (decide (x11 < 0))) hs fun _ hs => ?_
                    refine sP (Value.bool (decide (x11 < 0))) hs fun _ hs => ?_
                    refine bsplit (decide (x11 < 0)) decide_eq_true_iff (fun hb hc => ?_) (fun hb hc => ?_)
                    · have hs := hs.bt hb
                      have hS := hS.1 hc
                      refine sNo hs fun _ hs => ?_
                      refine sNo hs fun _ hs => ?_
                      refine sNo hs fun _ hs => ?_
                      refine sNo hs fun _ hs => ?_
                      refine sP (Value.bool true) hs fun _ hs => ?_
                      exact wpList_nil (⟨true, (hs.weak (List.Sublist.refl _) (List.Sublist.refl _) ⟨rfl, rfl, trivial⟩), hS⟩)
                    · have hs := hs.bf hb
                      have hS := hS.2 hc
                      refine sYe hs (sP (Value.string (mkS s1)) hs fun _ hs => ?_)
                      refine sYe hs ?_
                      obtain ⟨c12, h0, hi, hS⟩ := hS
                      refine sY (Value.int .u8 (c12.toNat : Int)) hs (Yl.indexStr rfl rfl rfl rfl (by kernel_rfl) h0 hi) fun _ hs => ?_
                      refine sYe hs (stepCallP [(Value.int .u8 (c12.toNat : Int))] hs rfl ⟨_, rfl, rfl⟩ rfl Try.func97 rfl (by kernel_rfl) (by decide) hS (fun _ _ v hS hs => ?_))
                      obtain ⟨x13, hv, hS⟩ := hS
                      subst hv
                      refine sYe hs (sP (Value.bool (decide (x13 < 0))) hs fun _ hs => ?_)
                      refine sP (Value.bool (decide (x13 < 0))) hs fun _ hs => ?_
                      exact wpList_nil (⟨(decide (x13 < 0)), (hs.weak (List.Sublist.refl _) (List.Sublist.refl _) ⟨rfl, rfl, trivial⟩), hS⟩)
                · intro a w hJ
                  obtain ⟨x14, hs, hS⟩ := hJ
                  unfold S_chaffref_said_J2 at hS
                  refine Wp.cond hs rfl rfl Iff.rfl (fun hc => ?_) (fun hc => ?_)
                  · have hS := hS.1 hc
                    refine Wp.seq (Wp.region (sP (Value.int .i64 0) hs fun _ hs => ?_))
                    refine sP (Value.int .i64 0) hs fun _ hs => ?_
                    exact wpList_nil (Wp.ret (leaveE (K := fun v _ => K v) hs (resTT hs rfl rfl rfl) hMM.2 (fun _ _ => hS)))
                  · have hS := hS.2 hc
                    refine Wp.skip (Wp.seq (Wp.regionD [true, true, true, true, true, true, true, true, true, true] hs (by kernel_rfl) rfl [] (fun _ h => h) [] (fun _ h => h) (fun _ hs hC => ?_)))
                    have hL := Mem.le.refl M
                    refine dP (Value.string (mkS s1)) 0 [1, 2, 3, 6, 7, 8, 9] hs QZ.no (wanted_none rfl) fun _ hs => ?_
                    obtain ⟨c15, h0, hi, hS⟩ := hS
                    refine stepDP (v := (Value.int .u8 (c15.toNat : Int))) 1 [2, 3, 6, 7, 8, 9] hs QZ.no rfl (wanted_none rfl) rfl (by decide) (by kernel_rfl) (by kernel_rfl) (by kernel_rfl) (Yl.indexStr rfl rfl rfl rfl (by kernel_rfl) h0 hi) (fun _ hs => ?_)
                    refine dP (Value.string (mkS s1)) 4 [5, 6, 7, 8, 9] hs QZ.no (wanted_none rfl) fun _ hs => ?_
                    obtain ⟨c16, h0, hi, hS⟩ := hS
                    refine stepDP (v := (Value.int .u8 (c16.toNat : Int))) 5 [6, 7, 8, 9] hs QZ.no rfl (wanted_none rfl) rfl (by decide) (by kernel_rfl) (by kernel_rfl) (by kernel_rfl) (Yl.indexStr rfl rfl rfl rfl (by kernel_rfl) h0 hi) (fun _ hs => ?_)
                    refine stepDE 2 rfl (wanted_none rfl) (by kernel_rfl) #[] ?_
                    refine stepCallP [(Value.int .u8 (c15.toNat : Int))] hs rfl ⟨_, rfl, rfl⟩ rfl Try.func97 rfl (by kernel_rfl) (by decide) hS (fun _ _ v hS hs => ?_)
                    obtain ⟨x17, hv, hS⟩ := hS
                    subst hv
                    refine wpList_nil (⟨fun _ _ => hs.cxle hL (List.Sublist.refl _) (List.Sublist.refl _), ?_⟩)
                    have hC := hs.cxle hL (List.Sublist.refl _) (List.Sublist.refl _)
                    obtain ⟨hI, hS⟩ := hS
                    refine stepDP (v := (Value.int .i64 (16 * x17))) 3 [7, 8, 9] hs QZ.no rfl (wanted_none rfl) rfl (by decide) (by kernel_rfl) (by kernel_rfl) (by kernel_rfl) (Yl.eq (Yl.pure (v := Value.int .i64 (IntKind.wrap .i64 (16 * x17))) rfl (fun _ => by kernel_rfl)) (congrArg (Value.int .i64) (wrap_in hI))) (fun _ hs => ?_)
                    refine stepDE 6 rfl (wanted_none rfl) (by kernel_rfl) #[] ?_
                    refine stepCallP [(Value.int .u8 (c16.toNat : Int))] hs rfl ⟨_, rfl, rfl⟩ rfl Try.func97 rfl (by kernel_rfl) (by decide) hS (fun _ _ v hS hs => ?_)
                    obtain ⟨x18, hv, hS⟩ := hS
                    subst hv
                    refine wpList_nil (⟨fun _ _ => hs.cxle hL (List.Sublist.refl _) (List.Sublist.refl _), ?_⟩)
                    have hC := hs.cxle hL (List.Sublist.refl _) (List.Sublist.refl _)
                    refine stepDE 7 rfl (wanted_none rfl) (by kernel_rfl) #[] ?_
                    obtain ⟨hI, hS⟩ := hS
                    refine sY (Value.int .i64 ((16 * x17) + x18)) hs (Yl.eq (Yl.pure (v := Value.int .i64 (IntKind.wrap .i64 ((16 * x17) + x18))) rfl (fun _ => by kernel_rfl)) (congrArg (Value.int .i64) (wrap_in hI))) fun _ hs => ?_
                    refine wpList_nil (⟨fun _ h => h, ?_⟩)
                    refine stepDE 8 rfl (wanted_none rfl) (by kernel_rfl) #[] ?_
                    refine sP (Value.int .i64 ((16 * x17) + x18)) hs fun _ hs => ?_
                    refine wpList_nil (⟨fun _ h => h, ?_⟩)
                    refine stepDE 9 rfl (wanted_none rfl) (by kernel_rfl) #[] ?_
                    refine sP (Value.int .i64 4) hs fun _ hs => ?_
                    refine wpList_nil (⟨fun _ h => h, ?_⟩)
                    refine WpD.done (by kernel_rfl) ?_ _
                    exact Wp.ret (leaveE (K := fun v _ => K v) hs (resTT hs rfl rfl rfl) hMM.2 (fun _ _ => hS))
              · have hS := hS.2 hc
                refine Wp.join (fun a w => ∃ (x21 : Bool), Sx 73 E [] M w a [(0, (Value.string (mkS s1))), (60, (Value.bool x21))] [] [] ∧ (S_chaffref_said_J3 s1 x21 K)) ?_ ?_
                · refine Wp.region (sP (Value.string (mkS signs2)) hs fun _ hs => ?_)
                  refine sP (Value.string (mkS s1)) hs fun _ hs => ?_
                  obtain ⟨h0, h1, h2, hS⟩ := hS
                  refine sY (Value.string (mkS ((s1.take (2 : Int).toNat).drop (1 : Int).toNat))) hs (Yl.sliceStrLH rfl rfl rfl rfl rfl rfl (by kernel_rfl) h0 h1 h2) fun _ hs => ?_
                  refine stepCallP [(Value.string (mkS signs2)), (Value.string (mkS ((s1.take (2 : Int).toNat).drop (1 : Int).toNat)))] hs rfl ⟨_, rfl, rfl⟩ rfl Try.func98 rfl (by kernel_rfl) (by decide) hS (fun _ _ v hS hs => ?_)
                  obtain ⟨x19, hv, hS⟩ := hS
                  subst hv
                  refine sP (Value.bool x19) hs fun _ hs => ?_
                  refine bsplit x19 Iff.rfl (fun hb hc => ?_) (fun hb hc => ?_)
                  · have hs := hs.bt hb
                    have hS := hS.1 hc
                    refine sYe hs (sP (Value.string (mkS s1)) hs fun _ hs => ?_)
                    refine sYe hs ?_
                    obtain ⟨c20, h0, hi, hS⟩ := hS
                    refine sY (Value.int .u8 (c20.toNat : Int)) hs (Yl.indexStr rfl rfl rfl rfl (by kernel_rfl) h0 hi) fun _ hs => ?_
                    refine sYe hs (sP (Value.bool (decide ((c20.toNat : Int) < 128))) hs fun _ hs => ?_)
                    refine sP (Value.bool (decide ((c20.toNat : Int) < 128))) hs fun _ hs => ?_
                    refine sP (Value.bool (decide ((c20.toNat : Int) < 128))) hs fun _ hs => ?_
                    exact wpList_nil (⟨(decide ((c20.toNat : Int) < 128)), (hs.weak (List.Sublist.refl _) (List.Sublist.refl _) ⟨rfl, rfl, trivial⟩), hS⟩)
                  · have hs := hs.bf hb
                    have hS := hS.2 hc
                    refine sNo hs fun _ hs => ?_
                    refine sNo hs fun _ hs => ?_
                    refine sNo hs fun _ hs => ?_
                    refine sP (Value.bool false) hs fun _ hs => ?_
                    refine sP (Value.bool false) hs fun _ hs => ?_
                    exact wpList_nil (⟨false, (hs.weak (List.Sublist.refl _) (List.Sublist.refl _) ⟨rfl, rfl, trivial⟩), hS⟩)
                · intro a w hJ
                  obtain ⟨x21, hs, hS⟩ := hJ
                  unfold S_chaffref_said_J3 at hS
                  refine Wp.cond hs rfl rfl Iff.rfl (fun hc => ?_) (fun hc => ?_)
                  · have hS := hS.1 hc
                    refine Wp.seq (Wp.region (sP (Value.string (mkS s1)) hs fun _ hs => ?_))
                    obtain ⟨c22, h0, hi, hS⟩ := hS
                    refine sY (Value.int .u8 (c22.toNat : Int)) hs (Yl.indexStr rfl rfl rfl rfl (by kernel_rfl) h0 hi) fun _ hs => ?_
                    refine sP (Value.int .i64 (IntKind.wrap .i64 (c22.toNat : Int))) hs fun _ hs => ?_
                    refine sP (Value.int .i64 (IntKind.wrap .i64 (c22.toNat : Int))) hs fun _ hs => ?_
                    refine sP (Value.int .i64 2) hs fun _ hs => ?_
                    exact wpList_nil (Wp.ret (leaveE (K := fun v _ => K v) hs (resTT hs rfl rfl rfl) hMM.2 (fun _ _ => hS)))
                  · have hS := hS.2 hc
                    refine Wp.skip (Wp.seq (Wp.region (sP (Value.int .i64 0) hs fun _ hs => ?_)))
                    refine sP (Value.int .i64 0) hs fun _ hs => ?_
                    exact wpList_nil (Wp.ret (leaveE (K := fun v _ => K v) hs (resTT hs rfl rfl rfl) hMM.2 (fun _ _ => hS)))
set_option linter.unusedVariables false in
def S_chaffref_Unlit_J2 (s1 : List UInt8) (M : Mem) (out14 : List UInt8) (at15 : Int) (I16 : List UInt8 → Int → Prop) (mu17 : List UInt8 → Int → Nat) (x20 : Bool) (K : Value → Prop) : Prop :=
  ((x20 = true → ((0 : Int) ≤ at15 ∧ (at15 : Int) ≤ ((s1.length : Nat) : Int) ∧ ((s1.length : Nat) : Int) ≤ ((s1.length : Nat) : Int) ∧ (CallE Try.prog 79 #[(Value.string (mkS ((s1.take ((s1.length : Nat) : Int).toNat).drop at15.toNat))), (Value.string (mkS ([92, 39, 34] : List UInt8)))] M (fun v _ => ∃ (x21 : Int) (x22 : Int), v = (Value.tuple #[(Value.int .i64 x21), (Value.int .i64 x22)]) ∧ (((x22 : Int) = 0 → K (Value.tuple #[(Value.string (mkS ([] : List UInt8))), (Value.int .i64 0), (Value.int .i64 4)])) ∧ (¬ ((x22 : Int) = 0) → (∃ (x24 : List UInt8), [(Value.int .u8 (IntKind.wrap .u8 x21))] = bytesV x24 ∧ (out14.length + x24.length ≤ 9223372036854775807 ∧ (InI (at15 + x22) ∧ I16 (out14 ++ x24) (at15 + x22) ∧ mu17 (out14 ++ x24) (at15 + x22) < mu17 out14 at15))))))))) ∧ (¬ (x20 = true) → ((at15 ≥ ((s1.length : Nat) : Int) → K (Value.tuple #[(Value.string (mkS ([] : List UInt8))), (Value.int .i64 0), (Value.int .i64 4)])) ∧ (¬ (at15 ≥ ((s1.length : Nat) : Int)) → (InI (at15 + 1) ∧ K (Value.tuple #[(Value.string (mkS out14)), (Value.int .i64 (at15 + 1)), (Value.int .i64 0)]))))))
set_option linter.unusedVariables false in
def S_chaffref_Unlit_J1 (s1 : List UInt8) (M : Mem) (x4 : Bool) (K : Value → Prop) : Prop :=
  ((x4 = true → K (Value.tuple #[(Value.string (mkS ([] : List UInt8))), (Value.int .i64 0), (Value.int .i64 4)])) ∧ (¬ (x4 = true) → (∃ (I16 : List UInt8 → Int → Prop) (mu17 : List UInt8 → Int → Nat), I16 ([] : List UInt8) 1 ∧ ∀ (out14 : List UInt8) (at15 : Int), (I16 out14 at15 → ((at15 < ((s1.length : Nat) : Int) → (∃ c18 : UInt8, (0 : Int) ≤ at15 ∧ s1[at15.toNat]? = some c18 ∧ (∃ c19 : UInt8, (0 : Int) ≤ 0 ∧ s1[(0 : Int).toNat]? = some c19 ∧ (S_chaffref_Unlit_J2 s1 M out14 at15 I16 mu17 ((c18.toNat : Int) != (c19.toNat : Int)) K)))) ∧ (¬ (at15 < ((s1.length : Nat) : Int)) → (S_chaffref_Unlit_J2 s1 M out14 at15 I16 mu17 false K)))))))
set_option linter.unusedVariables false in
def S_chaffref_Unlit (s1 : List UInt8) (M : Mem) (K : Value → Prop) : Prop :=
  ((s1 = ([] : List UInt8) → (S_chaffref_Unlit_J1 s1 M true K)) ∧ (¬ (s1 = ([] : List UInt8)) → (∃ c2 : UInt8, (0 : Int) ≤ 0 ∧ s1[(0 : Int).toNat]? = some c2 ∧ (((c2.toNat : Int) ≠ 39 → (∃ c3 : UInt8, (0 : Int) ≤ 0 ∧ s1[(0 : Int).toNat]? = some c3 ∧ (S_chaffref_Unlit_J1 s1 M ((c3.toNat : Int) != (34 : Int)) K))) ∧ (¬ ((c2.toNat : Int) ≠ 39) → (S_chaffref_Unlit_J1 s1 M false K))))))
set_option linter.unusedVariables false in
set_option maxRecDepth 100000 in
theorem s_chaffref_Unlit (s1 : List UInt8) (M : Mem) (K : Value → Prop) (hS : S_chaffref_Unlit s1 M K) : CallE Try.prog 56 #[(Value.string (mkS s1))] M (fun v _ => K v) := by
  refine enterE Try.func56 rfl 58 rfl (Nat.le_of_ble_eq_true rfl) (fun E a hs => ?_)
  unfold S_chaffref_Unlit at hS
  have hMM := MX.refl M E
  change Sx 58 E [] M E a [(0, (Value.string (mkS s1)))] [] [] at hs
  refine Wp.seq (Wp.region (sP (Value.string (mkS ([] : List UInt8))) hs fun _ hs => ?_))
  refine sP (Value.int .i64 0) hs fun _ hs => ?_
  refine sP (Value.int .i64 0) hs fun _ hs => ?_
  refine wpList_nil (Wp.seq (Wp.join (fun a w => ∃ (x4 : Bool), Sx 58 E [] M w a [(0, (Value.string (mkS s1))), (20, (Value.bool x4))] [] [] ∧ (S_chaffref_Unlit_J1 s1 M x4 K)) ?_ ?_))
  · refine Wp.region (sP (Value.string (mkS s1)) hs fun _ hs => ?_)
    refine sP (Value.bool ((mkS s1).toList == (mkS ([] : List UInt8)).toList)) hs fun _ hs => ?_
    refine sP (Value.bool ((mkS s1).toList == (mkS ([] : List UInt8)).toList)) hs fun _ hs => ?_
    refine bsplit ((mkS s1).toList == (mkS ([] : List UInt8)).toList) mkS_beq (fun hb hc => ?_) (fun hb hc => ?_)
    · have hs := hs.bt hb
      have hS := hS.1 hc
      refine sNo hs fun _ hs => ?_
      refine sNo hs fun _ hs => ?_
      refine sNo hs fun _ hs => ?_
      refine sNo hs fun _ hs => ?_
      refine sNu hs fun _ hs => ?_
      refine sNu hs fun _ hs => ?_
      refine sNu hs fun _ hs => ?_
      refine sNo hs fun _ hs => ?_
      refine sP (Value.bool true) hs fun _ hs => ?_
      exact wpList_nil (⟨true, (hs.weak (List.Sublist.refl _) (List.Sublist.refl _) ⟨rfl, rfl, trivial⟩), hS⟩)
    · have hs := hs.bf hb
      have hS := hS.2 hc
      refine sYe hs (sP (Value.string (mkS s1)) hs fun _ hs => ?_)
      refine sYe hs ?_
      obtain ⟨c2, h0, hi, hS⟩ := hS
      refine sY (Value.int .u8 (c2.toNat : Int)) hs (Yl.indexStr rfl rfl rfl rfl (by kernel_rfl) h0 hi) fun _ hs => ?_
      refine sYe hs (sP (Value.bool ((c2.toNat : Int) != (39 : Int))) hs fun _ hs => ?_)
      refine sYe hs (sP (Value.bool ((c2.toNat : Int) != (39 : Int))) hs fun _ hs => ?_)
      refine bsplit ((c2.toNat : Int) != (39 : Int)) bne_iff_ne (fun hb hc => ?_) (fun hb hc => ?_)
      · have hs := hs.bt hb
        have hS := hS.1 hc
        refine sYe hs (sP (Value.string (mkS s1)) hs fun _ hs => ?_)
        refine sYe hs ?_
        obtain ⟨c3, h0, hi, hS⟩ := hS
        refine sY (Value.int .u8 (c3.toNat : Int)) hs (Yl.indexStr rfl rfl rfl rfl (by kernel_rfl) h0 hi) fun _ hs => ?_
        refine sYe hs (sP (Value.bool ((c3.toNat : Int) != (34 : Int))) hs fun _ hs => ?_)
        refine sYe hs (sP (Value.bool ((c3.toNat : Int) != (34 : Int))) hs fun _ hs => ?_)
        refine sP (Value.bool ((c3.toNat : Int) != (34 : Int))) hs fun _ hs => ?_
        exact wpList_nil (⟨((c3.toNat : Int) != (34 : Int)), (hs.weak (List.Sublist.refl _) (List.Sublist.refl _) ⟨rfl, rfl, trivial⟩), hS⟩)
      · have hs := hs.bf hb
        have hS := hS.2 hc
        refine sNo hs fun _ hs => ?_
        refine sNo hs fun _ hs => ?_
        refine sNo hs fun _ hs => ?_
        refine sYe hs (sP (Value.bool false) hs fun _ hs => ?_)
        refine sP (Value.bool false) hs fun _ hs => ?_
        exact wpList_nil (⟨false, (hs.weak (List.Sublist.refl _) (List.Sublist.refl _) ⟨rfl, rfl, trivial⟩), hS⟩)
  · intro a w hJ
    obtain ⟨x4, hs, hS⟩ := hJ
    unfold S_chaffref_Unlit_J1 at hS
    refine Wp.cond hs rfl rfl Iff.rfl (fun hc => ?_) (fun hc => ?_)
    · have hS := hS.1 hc
      refine Wp.seq (Wp.region (sP (Value.string (mkS ([] : List UInt8))) hs fun _ hs => ?_))
      refine sP (Value.int .i64 0) hs fun _ hs => ?_
      refine sP (Value.int .i64 4) hs fun _ hs => ?_
      exact wpList_nil (Wp.ret (leaveE (K := fun v _ => K v) hs (resTTT hs rfl rfl rfl rfl) hMM.2 (fun _ _ => hS)))
    · have hS := hS.2 hc
      refine Wp.skip (Wp.seq (Wp.region (sP (Value.string (mkS ([] : List UInt8))) hs fun _ hs => ?_)))
      refine wpList_nil (Wp.seq (Wp.region (sP (Value.int .i64 1) hs fun _ hs => ?_)))
      refine wpList_nil (Wp.seq (Wp.block ?_))
      obtain ⟨I16, mu17, hI0, hst⟩ := hS
      refine Wp.loop (σ := (List UInt8) × (Int)) (fun s a w => match s with | (out14, at15) => Sx 58 E [] M w a [(0, (Value.string (mkS s1))), (5, (Value.string (mkS out14))), (6, (Value.int .i64 at15))] [] [] ∧ I16 out14 at15) (fun s => match s with | (out14, at15) => mu17 out14 at15) (([] : List UInt8), 1) ⟨(hs.weak (List.Sublist.refl _) (List.Sublist.refl _) ⟨rfl, rfl, rfl, trivial⟩), hI0⟩ (fun s a w hI => ?_)
      obtain ⟨out14, at15⟩ := s
      obtain ⟨hs, hI⟩ := hI
      have hS := hst out14 at15 hI
      clear hst hI0 hI
      refine Wp.seq (Wp.join (fun a w => ∃ (x20 : Bool), Sx 58 E [] M w a [(0, (Value.string (mkS s1))), (5, (Value.string (mkS out14))), (6, (Value.int .i64 at15)), (32, (Value.bool x20))] [] [] ∧ (S_chaffref_Unlit_J2 s1 M out14 at15 I16 mu17 x20 K)) ?_ ?_)
      · refine Wp.regionD [true, true, true, true, true, true, true, true, true, true, true, true] hs (by kernel_rfl) rfl [] (fun _ h => h) [] (fun _ h => h) (fun _ hs hC => ?_)
        have hL := Mem.le.refl M
        refine dP (Value.int .i64 at15) 0 [3, 4, 5, 6, 7, 8, 9, 10, 11] hs QZ.no (wanted_none rfl) fun _ hs => ?_
        refine stepDE 1 rfl (wanted_none rfl) (by kernel_rfl) #[] ?_
        refine sP (Value.string (mkS s1)) hs fun _ hs => ?_
        refine wpList_nil (⟨fun _ h => h, ?_⟩)
        refine stepDE 2 rfl (wanted_none rfl) (by kernel_rfl) #[] ?_
        refine sP (Value.int .i64 ((s1.length : Nat) : Int)) hs fun _ hs => ?_
        refine wpList_nil (⟨fun _ h => h, ?_⟩)
        refine stepDE 3 rfl (wanted_none rfl) (by kernel_rfl) #[] ?_
        refine sP (Value.bool (decide (at15 < ((s1.length : Nat) : Int)))) hs fun _ hs => ?_
        refine wpList_nil (⟨fun _ h => h, ?_⟩)
        refine stepDE 4 rfl (wanted_none rfl) (by kernel_rfl) #[] ?_
        refine sP (Value.bool (decide (at15 < ((s1.length : Nat) : Int)))) hs fun _ hs => ?_
        refine wpList_nil (⟨fun _ h => h, ?_⟩)
        refine bsplit (decide (at15 < ((s1.length : Nat) : Int))) decide_eq_true_iff (fun hb hc => ?_) (fun hb hc => ?_)
        · have hs := hs.bt hb
          have hS := hS.1 hc
          refine dP (Value.string (mkS s1)) 5 [7, 10, 11] hs QZ.no (wanted_yes hs rfl rfl rfl) fun _ hs => ?_
          refine dP (Value.int .i64 at15) 6 [7, 10, 11] hs QZ.no (wanted_yes hs rfl rfl rfl) fun _ hs => ?_
          obtain ⟨c18, h0, hi, hS⟩ := hS
          refine stepDP (v := (Value.int .u8 (c18.toNat : Int))) 7 [10, 11] hs QZ.no rfl (wanted_yes hs rfl rfl rfl) rfl (by decide) (by kernel_rfl) (by kernel_rfl) (by kernel_rfl) (Yl.indexStr rfl rfl rfl rfl (by kernel_rfl) h0 hi) (fun _ hs => ?_)
          refine stepDE 8 rfl (wanted_yes hs rfl rfl rfl) (by kernel_rfl) #[] ?_
          refine sP (Value.string (mkS s1)) hs fun _ hs => ?_
          refine wpList_nil (⟨fun _ h => h, ?_⟩)
          refine stepDE 9 rfl (wanted_yes hs rfl rfl rfl) (by kernel_rfl) #[] ?_
          obtain ⟨c19, h0, hi, hS⟩ := hS
          refine sY (Value.int .u8 (c19.toNat : Int)) hs (Yl.indexStr rfl rfl rfl rfl (by kernel_rfl) h0 hi) fun _ hs => ?_
          refine wpList_nil (⟨fun _ h => h, ?_⟩)
          refine stepDE 10 rfl (wanted_yes hs rfl rfl rfl) (by kernel_rfl) #[] ?_
          refine sP (Value.bool ((c18.toNat : Int) != (c19.toNat : Int))) hs fun _ hs => ?_
          refine wpList_nil (⟨fun _ h => h, ?_⟩)
          refine stepDE 11 rfl (wanted_none rfl) (by kernel_rfl) #[] ?_
          refine sP (Value.bool ((c18.toNat : Int) != (c19.toNat : Int))) hs fun _ hs => ?_
          refine wpList_nil (⟨fun _ h => h, ?_⟩)
          refine WpD.done (by kernel_rfl) ?_ _
          exact ⟨((c18.toNat : Int) != (c19.toNat : Int)), (hs.weak (List.Sublist.refl _) (List.Sublist.refl _) ⟨rfl, rfl, rfl, rfl, trivial⟩), hS⟩
        · have hs := hs.bf hb
          have hS := hS.2 hc
          refine dN 5 [7, 10, 11] hs QZ.no (wanted_no hs rfl rfl rfl rfl) fun _ hs => ?_
          refine dN 6 [7, 10, 11] hs QZ.no (wanted_no hs rfl rfl rfl rfl) fun _ hs => ?_
          refine dN 7 [10, 11] hs QZ.no (wanted_no hs rfl rfl rfl rfl) fun _ hs => ?_
          refine dN 8 [9, 10, 11] hs QZ.no (wanted_no hs rfl rfl rfl rfl) fun _ hs => ?_
          refine dN 9 [10, 11] hs QZ.no (wanted_no hs rfl rfl rfl rfl) fun _ hs => ?_
          refine dN 10 [11] hs QZ.no (wanted_no hs rfl rfl rfl rfl) fun _ hs => ?_
          refine stepDE 11 rfl (wanted_none rfl) (by kernel_rfl) #[] ?_
          refine sP (Value.bool false) hs fun _ hs => ?_
          refine wpList_nil (⟨fun _ h => h, ?_⟩)
          refine WpD.done (by kernel_rfl) ?_ _
          exact ⟨false, (hs.weak (List.Sublist.refl _) (List.Sublist.refl _) ⟨rfl, rfl, rfl, rfl, trivial⟩), hS⟩
      · intro a w hJ
        obtain ⟨x20, hs, hS⟩ := hJ
        unfold S_chaffref_Unlit_J2 at hS
        refine Wp.cond hs rfl rfl Iff.rfl (fun hc => ?_) (fun hc => ?_)
        · have hS := hS.1 hc
          refine Wp.skip (Wp.block (Wp.seq (Wp.region (sP (Value.string (mkS s1)) hs fun _ hs => ?_))))
          refine sP (Value.int .i64 at15) hs fun _ hs => ?_
          obtain ⟨h0, h1, h2, hS⟩ := hS
          refine sY (Value.string (mkS ((s1.take ((s1.length : Nat) : Int).toNat).drop at15.toNat))) hs (Yl.sliceStrL rfl rfl rfl rfl (by kernel_rfl) h0 h1 h2) fun _ hs => ?_
          refine stepCallP [(Value.string (mkS ((s1.take ((s1.length : Nat) : Int).toNat).drop at15.toNat))), (Value.string (mkS ([92, 39, 34] : List UInt8)))] hs rfl ⟨_, rfl, rfl⟩ rfl Try.func79 rfl (by kernel_rfl) (by decide) hS (fun _ _ v hS hs => ?_)
          obtain ⟨x21, x22, hv, hS⟩ := hS
          subst hv
          refine sP (Value.tuple #[(Value.int .i64 x21), (Value.int .i64 x22)]) hs fun _ hs => ?_
          refine sP (Value.int .i64 x21) hs fun _ hs => ?_
          refine sP (Value.int .i64 x22) hs fun _ hs => ?_
          refine sP (Value.int .i64 x21) hs fun _ hs => ?_
          refine sP (Value.int .i64 x22) hs fun _ hs => ?_
          refine wpList_nil (Wp.seq (Wp.seq (Wp.region (sP (Value.int .i64 x22) hs fun _ hs => ?_))))
          refine sP (Value.bool ((x22 : Int) == (0 : Int))) hs fun _ hs => ?_
          refine wpList_nil (Wp.cond hs rfl rfl beq_iff_eq (fun hc => ?_) (fun hc => ?_))
          · have hS := hS.1 hc
            refine Wp.seq (Wp.region (sP (Value.string (mkS ([] : List UInt8))) hs fun _ hs => ?_))
            refine sP (Value.int .i64 0) hs fun _ hs => ?_
            refine sP (Value.int .i64 4) hs fun _ hs => ?_
            exact wpList_nil (Wp.ret (leaveE (K := fun v _ => K v) hs (resTTT hs rfl rfl rfl rfl) hMM.2 (fun _ _ => hS)))
          · have hS := hS.2 hc
            refine Wp.skip (Wp.seq (Wp.region (sP (Value.string (mkS out14)) hs fun _ hs => ?_)))
            refine sP (Value.int .i64 x21) hs fun _ hs => ?_
            refine sP (Value.int .u8 (IntKind.wrap .u8 x21)) hs fun _ hs => ?_
            refine stepMake [(Value.int .u8 (IntKind.wrap .u8 x21))] 5 1 1 hs rfl rfl rfl (fun _ => by kernel_rfl) rfl (by unfold maxLen; decide) (by decide) (fun _ _ rv23 hs => ?_)
            obtain ⟨x24, hb, hS⟩ := hS
            refine sY (Value.string (mkS x24)) hs (Yl.bytesR (l := x24) (e' := 5) 0 (by rw [← hb]; rfl) rfl rfl (by kernel_rfl) (by kernel_rfl) (by kernel_rfl)) fun _ hs => ?_
            obtain ⟨hl, hS⟩ := hS
            refine sY (Value.string (mkS (out14 ++ x24))) hs (Yl.concat rfl rfl rfl rfl hl) fun _ hs => ?_
            refine sP (Value.string (mkS (out14 ++ x24))) hs fun _ hs => ?_
            refine wpList_nil (Wp.region (sP (Value.int .i64 at15) hs fun _ hs => ?_))
            refine sP (Value.int .i64 x22) hs fun _ hs => ?_
            obtain ⟨hI, hS⟩ := hS
            refine sY (Value.int .i64 (at15 + x22)) hs (Yl.eq (Yl.pure (v := Value.int .i64 (IntKind.wrap .i64 (at15 + x22))) rfl (fun _ => by kernel_rfl)) (congrArg (Value.int .i64) (wrap_in hI))) fun _ hs => ?_
            refine sP (Value.int .i64 (at15 + x22)) hs fun _ hs => ?_
            exact wpList_nil (⟨(out14 ++ x24, at15 + x22), ⟨(hs.weak (List.Sublist.refl _) (.cons _ List.Sublist.slnil) ⟨rfl, rfl, rfl, trivial⟩), hS.1⟩, hS.2⟩)
        · have hS := hS.2 hc
          refine Wp.exit rfl (Wp.seq (Wp.seq (Wp.region (sP (Value.int .i64 at15) hs fun _ hs => ?_))))
          refine sP (Value.string (mkS s1)) hs fun _ hs => ?_
          refine sP (Value.int .i64 ((s1.length : Nat) : Int)) hs fun _ hs => ?_
          refine sP (Value.bool (decide (at15 ≥ ((s1.length : Nat) : Int)))) hs fun _ hs => ?_
          refine wpList_nil (Wp.cond hs rfl rfl decide_eq_true_iff (fun hc => ?_) (fun hc => ?_))
          · have hS := hS.1 hc
            refine Wp.seq (Wp.region (sP (Value.string (mkS ([] : List UInt8))) hs fun _ hs => ?_))
            refine sP (Value.int .i64 0) hs fun _ hs => ?_
            refine sP (Value.int .i64 4) hs fun _ hs => ?_
            exact wpList_nil (Wp.ret (leaveE (K := fun v _ => K v) hs (resTTT hs rfl rfl rfl rfl) hMM.2 (fun _ _ => hS)))
          · have hS := hS.2 hc
            refine Wp.skip (Wp.seq (Wp.region (sP (Value.string (mkS out14)) hs fun _ hs => ?_)))
            refine sP (Value.int .i64 at15) hs fun _ hs => ?_
            obtain ⟨hI, hS⟩ := hS
            refine sY (Value.int .i64 (at15 + 1)) hs (Yl.eq (Yl.pure (v := Value.int .i64 (IntKind.wrap .i64 (at15 + 1))) rfl (fun _ => by kernel_rfl)) (congrArg (Value.int .i64) (wrap_in hI))) fun _ hs => ?_
            refine sP (Value.string (mkS out14)) hs fun _ hs => ?_
            refine sP (Value.int .i64 (at15 + 1)) hs fun _ hs => ?_
            refine sP (Value.int .i64 0) hs fun _ hs => ?_
            exact wpList_nil (Wp.ret (leaveE (K := fun v _ => K v) hs (resTTT hs rfl rfl rfl rfl) hMM.2 (fun _ _ => hS)))
set_option linter.unusedVariables false in
def S_quote_one_J1 (b1 : Int) (signs2 : List UInt8) (M : Mem) (x3 : Bool) (K : Value → Prop) : Prop :=
  ((x3 = true → ((0 : Int) ≤ bShr .u8 b1 4 ∧ (bShr .u8 b1 4 : Int) ≤ IntKind.wrap .u8 ((bShr .u8 b1 4) + 1) ∧ (IntKind.wrap .u8 ((bShr .u8 b1 4) + 1) : Int) ≤ ((([48, 49, 50, 51, 52, 53, 54, 55, 56, 57, 97, 98, 99, 100, 101, 102] : List UInt8).length : Nat) : Int) ∧ (([92, 120] : List UInt8).length + ((([48, 49, 50, 51, 52, 53, 54, 55, 56, 57, 97, 98, 99, 100, 101, 102] : List UInt8).take (IntKind.wrap .u8 ((bShr .u8 b1 4) + 1)).toNat).drop (bShr .u8 b1 4).toNat).length ≤ 9223372036854775807 ∧ ((0 : Int) ≤ bAnd .u8 b1 15 ∧ (bAnd .u8 b1 15 : Int) ≤ IntKind.wrap .u8 ((bAnd .u8 b1 15) + 1) ∧ (IntKind.wrap .u8 ((bAnd .u8 b1 15) + 1) : Int) ≤ ((([48, 49, 50, 51, 52, 53, 54, 55, 56, 57, 97, 98, 99, 100, 101, 102] : List UInt8).length : Nat) : Int) ∧ ((([92, 120] : List UInt8) ++ (([48, 49, 50, 51, 52, 53, 54, 55, 56, 57, 97, 98, 99, 100, 101, 102] : List UInt8).take (IntKind.wrap .u8 ((bShr .u8 b1 4) + 1)).toNat).drop (bShr .u8 b1 4).toNat).length + ((([48, 49, 50, 51, 52, 53, 54, 55, 56, 57, 97, 98, 99, 100, 101, 102] : List UInt8).take (IntKind.wrap .u8 ((bAnd .u8 b1 15) + 1)).toNat).drop (bAnd .u8 b1 15).toNat).length ≤ 9223372036854775807 ∧ K (Value.string (mkS (([92, 120] : List UInt8) ++ (([48, 49, 50, 51, 52, 53, 54, 55, 56, 57, 97, 98, 99, 100, 101, 102] : List UInt8).take (IntKind.wrap .u8 ((bShr .u8 b1 4) + 1)).toNat).drop (bShr .u8 b1 4).toNat ++ (([48, 49, 50, 51, 52, 53, 54, 55, 56, 57, 97, 98, 99, 100, 101, 102] : List UInt8).take (IntKind.wrap .u8 ((bAnd .u8 b1 15) + 1)).toNat).drop (bAnd .u8 b1 15).toNat)))))))) ∧ (¬ (x3 = true) → (CallE Try.prog 96 #[(Value.string (mkS signs2)), (Value.int .u8 b1)] M (fun v _ => ∃ (x4 : Int), v = (Value.int .i64 x4) ∧ ((x4 ≥ 0 → (∃ (x6 : List UInt8), [(Value.int .u8 b1)] = bytesV x6 ∧ (([92] : List UInt8).length + x6.length ≤ 9223372036854775807 ∧ K (Value.string (mkS (([92] : List UInt8) ++ x6)))))) ∧ (¬ (x4 ≥ 0) → (∃ (x8 : List UInt8), [(Value.int .u8 b1)] = bytesV x8 ∧ K (Value.string (mkS x8)))))))))
set_option linter.unusedVariables false in
def S_quote_one (b1 : Int) (signs2 : List UInt8) (M : Mem) (K : Value → Prop) : Prop :=
  (((b1 : Int) = 10 → K (Value.string (mkS ([92, 110] : List UInt8)))) ∧ (¬ ((b1 : Int) = 10) → (((b1 : Int) = 9 → K (Value.string (mkS ([92, 116] : List UInt8)))) ∧ (¬ ((b1 : Int) = 9) → ((b1 ≤ 32 → (((b1 : Int) ≠ 32 → (S_quote_one_J1 b1 signs2 M true K)) ∧ (¬ ((b1 : Int) ≠ 32) → ((signs2 ≠ ([39, 92] : List UInt8) → (S_quote_one_J1 b1 signs2 M true K)) ∧ (¬ (signs2 ≠ ([39, 92] : List UInt8)) → (S_quote_one_J1 b1 signs2 M (decide (b1 ≥ 127)) K)))))) ∧ (¬ (b1 ≤ 32) → (S_quote_one_J1 b1 signs2 M (decide (b1 ≥ 127)) K)))))))
set_option linter.unusedVariables false in
set_option maxRecDepth 100000 in
theorem s_quote_one (b1 : Int) (signs2 : List UInt8) (M : Mem) (K : Value → Prop) (hS : S_quote_one b1 signs2 M K) : CallE Try.prog 80 #[(Value.int .u8 b1), (Value.string (mkS signs2))] M (fun v _ => K v) := by
  refine enterE Try.func80 rfl 52 rfl (Nat.le_of_ble_eq_true rfl) (fun E a hs => ?_)
  unfold S_quote_one at hS
  have hMM := MX.refl M E
  change Sx 52 E [] M E a [(0, (Value.int .u8 b1)), (1, (Value.string (mkS signs2)))] [] [] at hs
  refine Wp.seq (Wp.region (sP (Value.string (mkS ([] : List UInt8))) hs fun _ hs => ?_))
  refine wpList_nil (Wp.seq (Wp.block (Wp.seq (Wp.region (sP (Value.int .u8 b1) hs fun _ hs => ?_)))))
  refine sP (Value.bool ((b1 : Int) == (10 : Int))) hs fun _ hs => ?_
  refine sP (Value.bool ((b1 : Int) == (10 : Int))) hs fun _ hs => ?_
  refine wpList_nil (Wp.cond hs rfl rfl beq_iff_eq (fun hc => ?_) (fun hc => ?_))
  · have hS := hS.1 hc
    refine Wp.seq (Wp.region (sP (Value.string (mkS ([92, 110] : List UInt8))) hs fun _ hs => ?_))
    exact wpList_nil (Wp.ret (leaveE (K := fun v _ => K v) hs (resT hs rfl rfl) hMM.2 (fun _ _ => hS)))
  · have hS := hS.2 hc
    refine Wp.seq (Wp.region (sP (Value.int .u8 b1) hs fun _ hs => ?_))
    refine sP (Value.bool ((b1 : Int) == (9 : Int))) hs fun _ hs => ?_
    refine sP (Value.bool ((b1 : Int) == (9 : Int))) hs fun _ hs => ?_
    refine wpList_nil (Wp.cond hs rfl rfl beq_iff_eq (fun hc => ?_) (fun hc => ?_))
    · have hS := hS.1 hc
      refine Wp.seq (Wp.region (sP (Value.string (mkS ([92, 116] : List UInt8))) hs fun _ hs => ?_))
      exact wpList_nil (Wp.ret (leaveE (K := fun v _ => K v) hs (resT hs rfl rfl) hMM.2 (fun _ _ => hS)))
    · have hS := hS.2 hc
      refine Wp.join (fun a w => ∃ (x3 : Bool), Sx 52 E [] M w a [(0, (Value.int .u8 b1)), (1, (Value.string (mkS signs2))), (11, (Value.bool x3))] [] [] ∧ (S_quote_one_J1 b1 signs2 M x3 K)) ?_ ?_
      · refine Wp.region (sP (Value.int .u8 b1) hs fun _ hs => ?_)
        refine sP (Value.bool (decide (b1 ≤ 32))) hs fun _ hs => ?_
        refine sP (Value.bool (decide (b1 ≤ 32))) hs fun _ hs => ?_
        refine bsplit (decide (b1 ≤ 32)) decide_eq_true_iff (fun hb hc => ?_) (fun hb hc => ?_)
        · have hs := hs.bt hb
          have hS := hS.1 hc
          refine sYe hs (sP (Value.int .u8 b1) hs fun _ hs => ?_)
          refine sYe hs (sP (Value.bool ((b1 : Int) != (32 : Int))) hs fun _ hs => ?_)
          refine sYe hs (sP (Value.bool ((b1 : Int) != (32 : Int))) hs fun _ hs => ?_)
          refine bsplit ((b1 : Int) != (32 : Int)) bne_iff_ne (fun hb hc => ?_) (fun hb hc => ?_)
          · have hs := hs.bt hb
            have hS := hS.1 hc
            refine sNo hs fun _ hs => ?_
            refine sNo hs fun _ hs => ?_
            refine sYe hs (sP (Value.bool true) hs fun _ hs => ?_)
            refine sP (Value.bool true) hs fun _ hs => ?_
            refine sP (Value.bool true) hs fun _ hs => ?_
            refine sNo hs fun _ hs => ?_
            refine sNo hs fun _ hs => ?_
            refine sP (Value.bool true) hs fun _ hs => ?_
            refine sP (Value.bool true) hs fun _ hs => ?_
            exact wpList_nil (⟨true, (hs.weak (List.Sublist.refl _) (List.Sublist.refl _) ⟨rfl, rfl, rfl, trivial⟩), hS⟩)
          · have hs := hs.bf hb
            have hS := hS.2 hc
            refine sYe hs (sP (Value.string (mkS signs2)) hs fun _ hs => ?_)
            refine sYe hs (sP (Value.bool (!((mkS signs2).toList == (mkS ([39, 92] : List UInt8)).toList))) hs fun _ hs => ?_)
            refine sYe hs (sP (Value.bool (!((mkS signs2).toList == (mkS ([39, 92] : List UInt8)).toList))) hs fun _ hs => ?_)
            refine sP (Value.bool (!((mkS signs2).toList == (mkS ([39, 92] : List UInt8)).toList))) hs fun _ hs => ?_
            refine sP (Value.bool (!((mkS signs2).toList == (mkS ([39, 92] : List UInt8)).toList))) hs fun _ hs => ?_
            refine bsplit (!((mkS signs2).toList == (mkS ([39, 92] : List UInt8)).toList)) mkS_bne (fun hb hc => ?_) (fun hb hc => ?_)
            · have hs := hs.bt hb
              have hS := hS.1 hc
              refine sNo hs fun _ hs => ?_
              refine sNo hs fun _ hs => ?_
              refine sP (Value.bool true) hs fun _ hs => ?_
              refine sP (Value.bool true) hs fun _ hs => ?_
              exact wpList_nil (⟨true, (hs.weak (List.Sublist.refl _) (List.Sublist.refl _) ⟨rfl, rfl, rfl, trivial⟩), hS⟩)
            · have hs := hs.bf hb
              have hS := hS.2 hc
              refine sYe hs (sP (Value.int .u8 b1) hs fun _ hs => ?_)
              refine sYe hs (sP (Value.bool (decide (b1 ≥ 127))) hs fun _ hs => ?_)
              refine sP (Value.bool (decide (b1 ≥ 127))) hs fun _ hs => ?_
              refine sP (Value.bool (decide (b1 ≥ 127))) hs fun _ hs => ?_
              exact wpList_nil (⟨(decide (b1 ≥ 127)), (hs.weak (List.Sublist.refl _) (List.Sublist.refl _) ⟨rfl, rfl, rfl, trivial⟩), hS⟩)
        · have hs := hs.bf hb
          have hS := hS.2 hc
          refine sNo hs fun _ hs => ?_
          refine sNo hs fun _ hs => ?_
          refine sNo hs fun _ hs => ?_
          refine sNu hs fun _ hs => ?_
          refine sNu hs fun _ hs => ?_
          refine sNo hs fun _ hs => ?_
          refine sP (Value.bool false) hs fun _ hs => ?_
          refine sP (Value.bool false) hs fun _ hs => ?_
          refine sYe hs (sP (Value.int .u8 b1) hs fun _ hs => ?_)
          refine sYe hs (sP (Value.bool (decide (b1 ≥ 127))) hs fun _ hs => ?_)
          refine sP (Value.bool (decide (b1 ≥ 127))) hs fun _ hs => ?_
          refine sP (Value.bool (decide (b1 ≥ 127))) hs fun _ hs => ?_
          exact wpList_nil (⟨(decide (b1 ≥ 127)), (hs.weak (List.Sublist.refl _) (List.Sublist.refl _) ⟨rfl, rfl, rfl, trivial⟩), hS⟩)
      · intro a w hJ
        obtain ⟨x3, hs, hS⟩ := hJ
        unfold S_quote_one_J1 at hS
        refine Wp.cond hs rfl rfl Iff.rfl (fun hc => ?_) (fun hc => ?_)
        · have hS := hS.1 hc
          refine Wp.seq (Wp.regionD [true, true, true, true, true, true, true, true, true, true, true, true, true, true, true] hs (by kernel_rfl) rfl [] (fun _ h => h) [] (fun _ h => h) (fun _ hs hC => ?_))
          have hL := Mem.le.refl M
          refine dP (Value.int .u8 b1) 0 [1, 5, 6, 13, 14] hs QZ.no (wanted_none rfl) fun _ hs => ?_
          refine dP (Value.int .u8 (bShr .u8 b1 4)) 1 [5, 6, 13, 14] hs QZ.no (wanted_none rfl) fun _ hs => ?_
          refine dP (Value.int .u8 b1) 2 [3, 4, 5, 6, 13, 14] hs QZ.no (wanted_none rfl) fun _ hs => ?_
          refine dP (Value.int .u8 (bShr .u8 b1 4)) 3 [4, 5, 6, 13, 14] hs QZ.no (wanted_none rfl) fun _ hs => ?_
          refine dP (Value.int .u8 (IntKind.wrap .u8 ((bShr .u8 b1 4) + 1))) 4 [5, 6, 13, 14] hs QZ.no (wanted_none rfl) fun _ hs => ?_
          obtain ⟨h0, h1, h2, hS⟩ := hS
          refine stepDP (v := (Value.string (mkS ((([48, 49, 50, 51, 52, 53, 54, 55, 56, 57, 97, 98, 99, 100, 101, 102] : List UInt8).take (IntKind.wrap .u8 ((bShr .u8 b1 4) + 1)).toNat).drop (bShr .u8 b1 4).toNat)))) 5 [6, 13, 14] hs QZ.no rfl (wanted_none rfl) rfl (by decide) (by kernel_rfl) (by kernel_rfl) (by kernel_rfl) (Yl.sliceStrLH rfl rfl rfl rfl rfl rfl (by kernel_rfl) h0 h1 h2) (fun _ hs => ?_)
          obtain ⟨hl, hS⟩ := hS
          refine stepDP (v := (Value.string (mkS (([92, 120] : List UInt8) ++ (([48, 49, 50, 51, 52, 53, 54, 55, 56, 57, 97, 98, 99, 100, 101, 102] : List UInt8).take (IntKind.wrap .u8 ((bShr .u8 b1 4) + 1)).toNat).drop (bShr .u8 b1 4).toNat)))) 6 [13, 14] hs QZ.no rfl (wanted_none rfl) rfl (by decide) (by kernel_rfl) (by kernel_rfl) (by kernel_rfl) (Yl.concat rfl rfl rfl rfl hl) (fun _ hs => ?_)
          refine dP (Value.int .u8 b1) 7 [8, 12, 13, 14] hs QZ.no (wanted_none rfl) fun _ hs => ?_
          refine dP (Value.int .u8 (bAnd .u8 b1 15)) 8 [12, 13, 14] hs QZ.no (wanted_none rfl) fun _ hs => ?_
          refine stepDE 9 rfl (wanted_none rfl) (by kernel_rfl) #[] ?_
          refine sP (Value.int .u8 b1) hs fun _ hs => ?_
          refine wpList_nil (⟨fun _ h => h, ?_⟩)
          refine stepDE 10 rfl (wanted_none rfl) (by kernel_rfl) #[] ?_
          refine sP (Value.int .u8 (bAnd .u8 b1 15)) hs fun _ hs => ?_
          refine wpList_nil (⟨fun _ h => h, ?_⟩)
          refine stepDE 11 rfl (wanted_none rfl) (by kernel_rfl) #[] ?_
          refine sP (Value.int .u8 (IntKind.wrap .u8 ((bAnd .u8 b1 15) + 1))) hs fun _ hs => ?_
          refine wpList_nil (⟨fun _ h => h, ?_⟩)
          refine stepDE 12 rfl (wanted_none rfl) (by kernel_rfl) #[] ?_
          obtain ⟨h0, h1, h2, hS⟩ := hS
          refine sY (Value.string (mkS ((([48, 49, 50, 51, 52, 53, 54, 55, 56, 57, 97, 98, 99, 100, 101, 102] : List UInt8).take (IntKind.wrap .u8 ((bAnd .u8 b1 15) + 1)).toNat).drop (bAnd .u8 b1 15).toNat))) hs (Yl.sliceStrLH rfl rfl rfl rfl rfl rfl (by kernel_rfl) h0 h1 h2) fun _ hs => ?_
          refine wpList_nil (⟨fun _ h => h, ?_⟩)
          refine stepDE 13 rfl (wanted_none rfl) (by kernel_rfl) #[] ?_
          obtain ⟨hl, hS⟩ := hS
          refine sY (Value.string (mkS (([92, 120] : List UInt8) ++ (([48, 49, 50, 51, 52, 53, 54, 55, 56, 57, 97, 98, 99, 100, 101, 102] : List UInt8).take (IntKind.wrap .u8 ((bShr .u8 b1 4) + 1)).toNat).drop (bShr .u8 b1 4).toNat ++ (([48, 49, 50, 51, 52, 53, 54, 55, 56, 57, 97, 98, 99, 100, 101, 102] : List UInt8).take (IntKind.wrap .u8 ((bAnd .u8 b1 15) + 1)).toNat).drop (bAnd .u8 b1 15).toNat))) hs (Yl.concat rfl rfl rfl rfl hl) fun _ hs => ?_
          refine wpList_nil (⟨fun _ h => h, ?_⟩)
          refine stepDE 14 rfl (wanted_none rfl) (by kernel_rfl) #[] ?_
          refine sP (Value.string (mkS (([92, 120] : List UInt8) ++ (([48, 49, 50, 51, 52, 53, 54, 55, 56, 57, 97, 98, 99, 100, 101, 102] : List UInt8).take (IntKind.wrap .u8 ((bShr .u8 b1 4) + 1)).toNat).drop (bShr .u8 b1 4).toNat ++ (([48, 49, 50, 51, 52, 53, 54, 55, 56, 57, 97, 98, 99, 100, 101, 102] : List UInt8).take (IntKind.wrap .u8 ((bAnd .u8 b1 15) + 1)).toNat).drop (bAnd .u8 b1 15).toNat))) hs fun _ hs => ?_
          refine wpList_nil (⟨fun _ h => h, ?_⟩)
          refine WpD.done (by kernel_rfl) ?_ _
          exact Wp.ret (leaveE (K := fun v _ => K v) hs (resT hs rfl rfl) hMM.2 (fun _ _ => hS))
        · have hS := hS.2 hc
          refine Wp.seq (Wp.region (sP (Value.string (mkS signs2)) hs fun _ hs => ?_))
          refine sP (Value.int .u8 b1) hs fun _ hs => ?_
          refine stepCallP [(Value.string (mkS signs2)), (Value.int .u8 b1)] hs rfl ⟨_, rfl, rfl⟩ rfl Try.func96 rfl (by kernel_rfl) (by decide) hS (fun _ _ v hS hs => ?_)
          obtain ⟨x4, hv, hS⟩ := hS
          subst hv
          refine sP (Value.bool (decide (x4 ≥ 0))) hs fun _ hs => ?_
          refine sP (Value.bool (decide (x4 ≥ 0))) hs fun _ hs => ?_
          refine wpList_nil (Wp.cond hs rfl rfl decide_eq_true_iff (fun hc => ?_) (fun hc => ?_))
          · have hS := hS.1 hc
            refine Wp.seq (Wp.region (sP (Value.int .u8 b1) hs fun _ hs => ?_))
            refine stepMake [(Value.int .u8 b1)] 5 1 1 hs rfl rfl rfl (fun _ => by kernel_rfl) rfl (by unfold maxLen; decide) (by decide) (fun _ _ rv5 hs => ?_)
            obtain ⟨x6, hb, hS⟩ := hS
            refine sY (Value.string (mkS x6)) hs (Yl.bytesR (l := x6) (e' := 5) 0 (by rw [← hb]; rfl) rfl rfl (by kernel_rfl) (by kernel_rfl) (by kernel_rfl)) fun _ hs => ?_
            obtain ⟨hl, hS⟩ := hS
            refine sY (Value.string (mkS (([92] : List UInt8) ++ x6))) hs (Yl.concat rfl rfl rfl rfl hl) fun _ hs => ?_
            refine sP (Value.string (mkS (([92] : List UInt8) ++ x6))) hs fun _ hs => ?_
            exact wpList_nil (Wp.ret (leaveE (K := fun v _ => K v) hs (resT hs rfl rfl) hMM.2 (fun _ _ => hS)))
          · have hS := hS.2 hc
            refine Wp.skip (Wp.seq (Wp.region (sP (Value.int .u8 b1) hs fun _ hs => ?_)))
            refine stepMake [(Value.int .u8 b1)] 5 1 1 hs rfl rfl rfl (fun _ => by kernel_rfl) rfl (by unfold maxLen; decide) (by decide) (fun _ _ rv7 hs => ?_)
            obtain ⟨x8, hb, hS⟩ := hS
            refine sY (Value.string (mkS x8)) hs (Yl.bytesR (l := x8) (e' := 5) 0 (by rw [← hb]; rfl) rfl rfl (by kernel_rfl) (by kernel_rfl) (by kernel_rfl)) fun _ hs => ?_
            refine sP (Value.string (mkS x8)) hs fun _ hs => ?_
            exact wpList_nil (Wp.ret (leaveE (K := fun v _ => K v) hs (resT hs rfl rfl) hMM.2 (fun _ _ => hS)))
set_option linter.unusedVariables false in
def S_quote_Lit (s1 : List UInt8) (M : Mem) (K : Value → Prop) : Prop :=
  (∃ (I8 : List UInt8 → Int → Prop) (mu9 : List UInt8 → Int → Nat), I8 ([39] : List UInt8) 0 ∧ ∀ (out6 : List UInt8) (x7 : Int), (I8 out6 x7 → ((x7 < ((s1.length : Nat) : Int) → (∃ c10 : UInt8, (0 : Int) ≤ x7 ∧ s1[x7.toNat]? = some c10 ∧ (CallE Try.prog 80 #[(Value.int .u8 (c10.toNat : Int)), (Value.string (mkS ([39, 92] : List UInt8)))] M (fun v _ => ∃ (x11 : List UInt8), v = (Value.string (mkS x11)) ∧ (out6.length + x11.length ≤ 9223372036854775807 ∧ (InI (x7 + 1) ∧ I8 (out6 ++ x11) (x7 + 1) ∧ mu9 (out6 ++ x11) (x7 + 1) < mu9 out6 x7)))))) ∧ (¬ (x7 < ((s1.length : Nat) : Int)) → (out6.length + ([39] : List UInt8).length ≤ 9223372036854775807 ∧ K (Value.string (mkS (out6 ++ ([39] : List UInt8)))))))))
set_option linter.unusedVariables false in
set_option maxRecDepth 100000 in
theorem s_quote_Lit (s1 : List UInt8) (M : Mem) (K : Value → Prop) (hS : S_quote_Lit s1 M K) : CallE Try.prog 57 #[(Value.string (mkS s1))] M (fun v _ => K v) := by
  refine enterE Try.func57 rfl 19 rfl (Nat.le_of_ble_eq_true rfl) (fun E a hs => ?_)
  unfold S_quote_Lit at hS
  have hMM := MX.refl M E
  change Sx 19 E [] M E a [(0, (Value.string (mkS s1)))] [] [] at hs
  refine Wp.seq (Wp.region (sP (Value.string (mkS ([] : List UInt8))) hs fun _ hs => ?_))
  refine wpList_nil (Wp.seq (Wp.region (sP (Value.string (mkS ([39] : List UInt8))) hs fun _ hs => ?_)))
  refine wpList_nil (Wp.seq (Wp.seq (Wp.region (sP (Value.string (mkS s1)) hs fun _ hs => ?_))))
  refine sP (Value.int .i64 ((s1.length : Nat) : Int)) hs fun _ hs => ?_
  refine sP (Value.int .i64 0) hs fun _ hs => ?_
  refine wpList_nil (Wp.block ?_)
  obtain ⟨I8, mu9, hI0, hst⟩ := hS
  refine Wp.loop (σ := (List UInt8) × (Int)) (fun s a w => match s with | (out6, x7) => Sx 19 E [] M w a [(0, (Value.string (mkS s1))), (3, (Value.string (mkS out6))), (6, (Value.int .i64 ((s1.length : Nat) : Int))), (7, (Value.int .i64 x7))] [] [] ∧ I8 out6 x7) (fun s => match s with | (out6, x7) => mu9 out6 x7) (([39] : List UInt8), 0) ⟨(hs.weak (List.Sublist.refl _) (List.Sublist.refl _) ⟨rfl, rfl, rfl, rfl, trivial⟩), hI0⟩ (fun s a w hI => ?_)
  obtain ⟨out6, x7⟩ := s
  obtain ⟨hs, hI⟩ := hI
  have hS := hst out6 x7 hI
  clear hst hI0 hI
  refine Wp.seq (Wp.region (sP (Value.bool (decide (x7 < ((s1.length : Nat) : Int)))) hs fun _ hs => ?_))
  refine wpList_nil (Wp.seq (Wp.cond hs rfl rfl decide_eq_true_iff (fun hc => ?_) (fun hc => ?_)))
  · have hS := hS.1 hc
    refine Wp.skip (Wp.seq (Wp.block (Wp.seq (Wp.region (sP (Value.int .i64 x7) hs fun _ hs => ?_)))))
    refine sP (Value.int .i64 x7) hs fun _ hs => ?_
    refine wpList_nil (Wp.region (sP (Value.string (mkS out6)) hs fun _ hs => ?_))
    refine sP (Value.string (mkS s1)) hs fun _ hs => ?_
    refine sP (Value.int .i64 x7) hs fun _ hs => ?_
    obtain ⟨c10, h0, hi, hS⟩ := hS
    refine sY (Value.int .u8 (c10.toNat : Int)) hs (Yl.indexStr rfl rfl rfl rfl (by kernel_rfl) h0 hi) fun _ hs => ?_
    refine stepCallP [(Value.int .u8 (c10.toNat : Int)), (Value.string (mkS ([39, 92] : List UInt8)))] hs rfl ⟨_, rfl, rfl⟩ rfl Try.func80 rfl (by kernel_rfl) (by decide) hS (fun _ _ v hS hs => ?_)
    obtain ⟨x11, hv, hS⟩ := hS
    subst hv
    obtain ⟨hl, hS⟩ := hS
    refine sY (Value.string (mkS (out6 ++ x11))) hs (Yl.concat rfl rfl rfl rfl hl) fun _ hs => ?_
    refine sP (Value.string (mkS (out6 ++ x11))) hs fun _ hs => ?_
    refine wpList_nil (Wp.region ?_)
    obtain ⟨hI, hS⟩ := hS
    refine sY (Value.int .i64 (x7 + 1)) hs (Yl.eq (Yl.pure (v := Value.int .i64 (IntKind.wrap .i64 (x7 + 1))) rfl (fun _ => by kernel_rfl)) (congrArg (Value.int .i64) (wrap_in hI))) fun _ hs => ?_
    refine sP (Value.int .i64 (x7 + 1)) hs fun _ hs => ?_
    exact wpList_nil (⟨(out6 ++ x11, x7 + 1), ⟨(hs.weak (List.Sublist.refl _) (List.Sublist.refl _) ⟨rfl, rfl, rfl, rfl, trivial⟩), hS.1⟩, hS.2⟩)
  · have hS := hS.2 hc
    refine Wp.exit rfl (Wp.seq (Wp.region (sP (Value.string (mkS out6)) hs fun _ hs => ?_)))
    obtain ⟨hl, hS⟩ := hS
    refine sY (Value.string (mkS (out6 ++ ([39] : List UInt8)))) hs (Yl.concat rfl rfl rfl rfl hl) fun _ hs => ?_
    refine sP (Value.string (mkS (out6 ++ ([39] : List UInt8)))) hs fun _ hs => ?_
    exact wpList_nil (Wp.ret (leaveE (K := fun v _ => K v) hs (resT hs rfl rfl) hMM.2 (fun _ _ => hS)))
set_option linter.unusedVariables false in
def S_chaffref_digit (n1 : Int) (M : Mem) (K : Value → Prop) : Prop :=
  (InI (n1 + 1) ∧ ((0 : Int) ≤ n1 ∧ (n1 : Int) ≤ n1 + 1 ∧ (n1 + 1 : Int) ≤ ((([48, 49, 50, 51, 52, 53, 54, 55, 56, 57, 97, 98, 99, 100, 101, 102] : List UInt8).length : Nat) : Int) ∧ K (Value.string (mkS ((([48, 49, 50, 51, 52, 53, 54, 55, 56, 57, 97, 98, 99, 100, 101, 102] : List UInt8).take (n1 + 1).toNat).drop n1.toNat)))))
set_option linter.unusedVariables false in
set_option maxRecDepth 100000 in
theorem s_chaffref_digit (n1 : Int) (M : Mem) (K : Value → Prop) (hS : S_chaffref_digit n1 M K) : CallE Try.prog 99 #[(Value.int .i64 n1)] M (fun v _ => K v) := by
  refine enterE Try.func99 rfl 7 rfl (Nat.le_of_ble_eq_true rfl) (fun E a hs => ?_)
  unfold S_chaffref_digit at hS
  have hMM := MX.refl M E
  change Sx 7 E [] M E a [(0, (Value.int .i64 n1))] [] [] at hs
  refine Wp.seq (Wp.region (sP (Value.string (mkS ([] : List UInt8))) hs fun _ hs => ?_))
  refine wpList_nil (Wp.seq (Wp.region (sP (Value.int .i64 n1) hs fun _ hs => ?_)))
  refine sP (Value.int .i64 n1) hs fun _ hs => ?_
  obtain ⟨hI, hS⟩ := hS
  refine sY (Value.int .i64 (n1 + 1)) hs (Yl.eq (Yl.pure (v := Value.int .i64 (IntKind.wrap .i64 (n1 + 1))) rfl (fun _ => by kernel_rfl)) (congrArg (Value.int .i64) (wrap_in hI))) fun _ hs => ?_
  obtain ⟨h0, h1, h2, hS⟩ := hS
  refine sY (Value.string (mkS ((([48, 49, 50, 51, 52, 53, 54, 55, 56, 57, 97, 98, 99, 100, 101, 102] : List UInt8).take (n1 + 1).toNat).drop n1.toNat))) hs (Yl.sliceStrLH rfl rfl rfl rfl rfl rfl (by kernel_rfl) h0 h1 h2) fun _ hs => ?_
  refine sP (Value.string (mkS ((([48, 49, 50, 51, 52, 53, 54, 55, 56, 57, 97, 98, 99, 100, 101, 102] : List UInt8).take (n1 + 1).toNat).drop n1.toNat))) hs fun _ hs => ?_
  exact wpList_nil (Wp.ret (leaveE (K := fun v _ => K v) hs (resT hs rfl rfl) hMM.2 (fun _ _ => hS)))
set_option linter.unusedVariables false in
def S_chaffref_shown_J1 (b1 : Int) (signs2 : List UInt8) (M : Mem) (x4 : Bool) (K : Value → Prop) : Prop :=
  ((x4 = true → (InI (b1.tdiv 16) ∧ (CallE Try.prog 99 #[(Value.int .i64 (b1.tdiv 16))] M (fun v _ => ∃ (x5 : List UInt8), v = (Value.string (mkS x5)) ∧ (([92, 120] : List UInt8).length + x5.length ≤ 9223372036854775807 ∧ (CallE Try.prog 99 #[(Value.int .i64 (b1.tmod 16))] M (fun v _ => ∃ (x6 : List UInt8), v = (Value.string (mkS x6)) ∧ ((([92, 120] : List UInt8) ++ x5).length + x6.length ≤ 9223372036854775807 ∧ K (Value.string (mkS (([92, 120] : List UInt8) ++ x5 ++ x6))))))))))) ∧ (¬ (x4 = true) → (∃ (x8 : List UInt8), [(Value.int .u8 (IntKind.wrap .u8 b1))] = bytesV x8 ∧ (CallE Try.prog 98 #[(Value.string (mkS signs2)), (Value.string (mkS x8))] M (fun v _ => ∃ (x9 : Bool), v = (Value.bool x9) ∧ ((x9 = true → (∃ (x11 : List UInt8), [(Value.int .u8 (IntKind.wrap .u8 b1))] = bytesV x11 ∧ (([92] : List UInt8).length + x11.length ≤ 9223372036854775807 ∧ K (Value.string (mkS (([92] : List UInt8) ++ x11)))))) ∧ (¬ (x9 = true) → (∃ (x13 : List UInt8), [(Value.int .u8 (IntKind.wrap .u8 b1))] = bytesV x13 ∧ K (Value.string (mkS x13))))))))))
set_option linter.unusedVariables false in
def S_chaffref_shown (b1 : Int) (signs2 : List UInt8) (low3 : Int) (M : Mem) (K : Value → Prop) : Prop :=
  (((b1 : Int) = 10 → K (Value.string (mkS ([92, 110] : List UInt8)))) ∧ (¬ ((b1 : Int) = 10) → (((b1 : Int) = 9 → K (Value.string (mkS ([92, 116] : List UInt8)))) ∧ (¬ ((b1 : Int) = 9) → ((b1 < low3 → (S_chaffref_shown_J1 b1 signs2 M true K)) ∧ (¬ (b1 < low3) → (S_chaffref_shown_J1 b1 signs2 M (decide (b1 > 126)) K)))))))
set_option linter.unusedVariables false in
set_option maxRecDepth 100000 in
theorem s_chaffref_shown (b1 : Int) (signs2 : List UInt8) (low3 : Int) (M : Mem) (K : Value → Prop) (hS : S_chaffref_shown b1 signs2 low3 M K) : CallE Try.prog 81 #[(Value.int .i64 b1), (Value.string (mkS signs2)), (Value.int .i64 low3)] M (fun v _ => K v) := by
  refine enterE Try.func81 rfl 45 rfl (Nat.le_of_ble_eq_true rfl) (fun E a hs => ?_)
  unfold S_chaffref_shown at hS
  have hMM := MX.refl M E
  change Sx 45 E [] M E a [(0, (Value.int .i64 b1)), (1, (Value.string (mkS signs2))), (2, (Value.int .i64 low3))] [] [] at hs
  refine Wp.seq (Wp.region (sP (Value.string (mkS ([] : List UInt8))) hs fun _ hs => ?_))
  refine wpList_nil (Wp.seq (Wp.block (Wp.seq (Wp.region (sP (Value.int .i64 b1) hs fun _ hs => ?_)))))
  refine sP (Value.bool ((b1 : Int) == (10 : Int))) hs fun _ hs => ?_
  refine sP (Value.bool ((b1 : Int) == (10 : Int))) hs fun _ hs => ?_
  refine wpList_nil (Wp.cond hs rfl rfl beq_iff_eq (fun hc => ?_) (fun hc => ?_))
  · have hS := hS.1 hc
    refine Wp.seq (Wp.region (sP (Value.string (mkS ([92, 110] : List UInt8))) hs fun _ hs => ?_))
    exact wpList_nil (Wp.ret (leaveE (K := fun v _ => K v) hs (resT hs rfl rfl) hMM.2 (fun _ _ => hS)))
  · have hS := hS.2 hc
    refine Wp.seq (Wp.region (sP (Value.int .i64 b1) hs fun _ hs => ?_))
    refine sP (Value.bool ((b1 : Int) == (9 : Int))) hs fun _ hs => ?_
    refine sP (Value.bool ((b1 : Int) == (9 : Int))) hs fun _ hs => ?_
    refine wpList_nil (Wp.cond hs rfl rfl beq_iff_eq (fun hc => ?_) (fun hc => ?_))
    · have hS := hS.1 hc
      refine Wp.seq (Wp.region (sP (Value.string (mkS ([92, 116] : List UInt8))) hs fun _ hs => ?_))
      exact wpList_nil (Wp.ret (leaveE (K := fun v _ => K v) hs (resT hs rfl rfl) hMM.2 (fun _ _ => hS)))
    · have hS := hS.2 hc
      refine Wp.join (fun a w => ∃ (x4 : Bool), Sx 45 E [] M w a [(0, (Value.int .i64 b1)), (1, (Value.string (mkS signs2))), (13, (Value.bool x4))] [] [] ∧ (S_chaffref_shown_J1 b1 signs2 M x4 K)) ?_ ?_
      · refine Wp.region (sP (Value.int .i64 b1) hs fun _ hs => ?_)
        refine sP (Value.int .i64 low3) hs fun _ hs => ?_
        refine sP (Value.bool (decide (b1 < low3))) hs fun _ hs => ?_
        refine sP (Value.bool (decide (b1 < low3))) hs fun _ hs => ?_
        refine bsplit (decide (b1 < low3)) decide_eq_true_iff (fun hb hc => ?_) (fun hb hc => ?_)
        · have hs := hs.bt hb
          have hS := hS.1 hc
          refine sNo hs fun _ hs => ?_
          refine sNo hs fun _ hs => ?_
          refine sP (Value.bool true) hs fun _ hs => ?_
          refine sP (Value.bool true) hs fun _ hs => ?_
          exact wpList_nil (⟨true, (hs.weak (List.Sublist.refl _) (List.Sublist.refl _) ⟨rfl, rfl, rfl, trivial⟩), hS⟩)
        · have hs := hs.bf hb
          have hS := hS.2 hc
          refine sYe hs (sP (Value.int .i64 b1) hs fun _ hs => ?_)
          refine sYe hs (sP (Value.bool (decide (b1 > 126))) hs fun _ hs => ?_)
          refine sP (Value.bool (decide (b1 > 126))) hs fun _ hs => ?_
          refine sP (Value.bool (decide (b1 > 126))) hs fun _ hs => ?_
          exact wpList_nil (⟨(decide (b1 > 126)), (hs.weak (List.Sublist.refl _) (List.Sublist.refl _) ⟨rfl, rfl, rfl, trivial⟩), hS⟩)
      · intro a w hJ
        obtain ⟨x4, hs, hS⟩ := hJ
        unfold S_chaffref_shown_J1 at hS
        refine Wp.cond hs rfl rfl Iff.rfl (fun hc => ?_) (fun hc => ?_)
        · have hS := hS.1 hc
          refine Wp.seq (Wp.region (sP (Value.int .i64 b1) hs fun _ hs => ?_))
          obtain ⟨hI, hS⟩ := hS
          refine sY (Value.int .i64 (b1.tdiv 16)) hs (Yl.eq (Yl.pure (v := Value.int .i64 (IntKind.wrap .i64 (b1.tdiv 16))) rfl (fun _ => by kernel_rfl)) (congrArg (Value.int .i64) (wrap_in hI))) fun _ hs => ?_
          refine stepCallP [(Value.int .i64 (b1.tdiv 16))] hs rfl ⟨_, rfl, rfl⟩ rfl Try.func99 rfl (by kernel_rfl) (by decide) hS (fun _ _ v hS hs => ?_)
          obtain ⟨x5, hv, hS⟩ := hS
          subst hv
          obtain ⟨hl, hS⟩ := hS
          refine sY (Value.string (mkS (([92, 120] : List UInt8) ++ x5))) hs (Yl.concat rfl rfl rfl rfl hl) fun _ hs => ?_
          refine sP (Value.int .i64 b1) hs fun _ hs => ?_
          refine sP (Value.int .i64 (b1.tmod 16)) hs fun _ hs => ?_
          refine stepCallP [(Value.int .i64 (b1.tmod 16))] hs rfl ⟨_, rfl, rfl⟩ rfl Try.func99 rfl (by kernel_rfl) (by decide) hS (fun _ _ v hS hs => ?_)
          obtain ⟨x6, hv, hS⟩ := hS
          subst hv
          obtain ⟨hl, hS⟩ := hS
          refine sY (Value.string (mkS (([92, 120] : List UInt8) ++ x5 ++ x6))) hs (Yl.concat rfl rfl rfl rfl hl) fun _ hs => ?_
          refine sP (Value.string (mkS (([92, 120] : List UInt8) ++ x5 ++ x6))) hs fun _ hs => ?_
          exact wpList_nil (Wp.ret (leaveE (K := fun v _ => K v) hs (resT hs rfl rfl) hMM.2 (fun _ _ => hS)))
        · have hS := hS.2 hc
          refine Wp.seq (Wp.region (sP (Value.string (mkS signs2)) hs fun _ hs => ?_))
          refine sP (Value.int .i64 b1) hs fun _ hs => ?_
          refine sP (Value.int .u8 (IntKind.wrap .u8 b1)) hs fun _ hs => ?_
          refine stepMake [(Value.int .u8 (IntKind.wrap .u8 b1))] 5 1 1 hs rfl rfl rfl (fun _ => by kernel_rfl) rfl (by unfold maxLen; decide) (by decide) (fun _ _ rv7 hs => ?_)
          obtain ⟨x8, hb, hS⟩ := hS
          refine sY (Value.string (mkS x8)) hs (Yl.bytesR (l := x8) (e' := 5) 0 (by rw [← hb]; rfl) rfl rfl (by kernel_rfl) (by kernel_rfl) (by kernel_rfl)) fun _ hs => ?_
          refine stepCallP [(Value.string (mkS signs2)), (Value.string (mkS x8))] hs rfl ⟨_, rfl, rfl⟩ rfl Try.func98 rfl (by kernel_rfl) (by decide) hS (fun _ _ v hS hs => ?_)
          obtain ⟨x9, hv, hS⟩ := hS
          subst hv
          refine sP (Value.bool x9) hs fun _ hs => ?_
          refine wpList_nil (Wp.cond hs rfl rfl Iff.rfl (fun hc => ?_) (fun hc => ?_))
          · have hS := hS.1 hc
            refine Wp.seq (Wp.region (sP (Value.int .i64 b1) hs fun _ hs => ?_))
            refine sP (Value.int .u8 (IntKind.wrap .u8 b1)) hs fun _ hs => ?_
            refine stepMake [(Value.int .u8 (IntKind.wrap .u8 b1))] 5 1 1 hs rfl rfl rfl (fun _ => by kernel_rfl) rfl (by unfold maxLen; decide) (by decide) (fun _ _ rv10 hs => ?_)
            obtain ⟨x11, hb, hS⟩ := hS
            refine sY (Value.string (mkS x11)) hs (Yl.bytesR (l := x11) (e' := 5) 0 (by rw [← hb]; rfl) rfl rfl (by kernel_rfl) (by kernel_rfl) (by kernel_rfl)) fun _ hs => ?_
            obtain ⟨hl, hS⟩ := hS
            refine sY (Value.string (mkS (([92] : List UInt8) ++ x11))) hs (Yl.concat rfl rfl rfl rfl hl) fun _ hs => ?_
            refine sP (Value.string (mkS (([92] : List UInt8) ++ x11))) hs fun _ hs => ?_
            exact wpList_nil (Wp.ret (leaveE (K := fun v _ => K v) hs (resT hs rfl rfl) hMM.2 (fun _ _ => hS)))
          · have hS := hS.2 hc
            refine Wp.skip (Wp.seq (Wp.region (sP (Value.int .i64 b1) hs fun _ hs => ?_)))
            refine sP (Value.int .u8 (IntKind.wrap .u8 b1)) hs fun _ hs => ?_
            refine stepMake [(Value.int .u8 (IntKind.wrap .u8 b1))] 5 1 1 hs rfl rfl rfl (fun _ => by kernel_rfl) rfl (by unfold maxLen; decide) (by decide) (fun _ _ rv12 hs => ?_)
            obtain ⟨x13, hb, hS⟩ := hS
            refine sY (Value.string (mkS x13)) hs (Yl.bytesR (l := x13) (e' := 5) 0 (by rw [← hb]; rfl) rfl rfl (by kernel_rfl) (by kernel_rfl) (by kernel_rfl)) fun _ hs => ?_
            refine sP (Value.string (mkS x13)) hs fun _ hs => ?_
            exact wpList_nil (Wp.ret (leaveE (K := fun v _ => K v) hs (resT hs rfl rfl) hMM.2 (fun _ _ => hS)))
set_option linter.unusedVariables false in
def S_chaffref_Lit (s1 : List UInt8) (M : Mem) (K : Value → Prop) : Prop :=
  (∃ (I8 : List UInt8 → Int → Prop) (mu9 : List UInt8 → Int → Nat), I8 ([39] : List UInt8) 0 ∧ ∀ (out6 : List UInt8) (x7 : Int), (I8 out6 x7 → ((x7 < ((s1.length : Nat) : Int) → (∃ c10 : UInt8, (0 : Int) ≤ x7 ∧ s1[x7.toNat]? = some c10 ∧ (CallE Try.prog 81 #[(Value.int .i64 (IntKind.wrap .i64 (c10.toNat : Int))), (Value.string (mkS ([39, 92] : List UInt8))), (Value.int .i64 32)] M (fun v _ => ∃ (x11 : List UInt8), v = (Value.string (mkS x11)) ∧ (out6.length + x11.length ≤ 9223372036854775807 ∧ (InI (x7 + 1) ∧ I8 (out6 ++ x11) (x7 + 1) ∧ mu9 (out6 ++ x11) (x7 + 1) < mu9 out6 x7)))))) ∧ (¬ (x7 < ((s1.length : Nat) : Int)) → (out6.length + ([39] : List UInt8).length ≤ 9223372036854775807 ∧ K (Value.string (mkS (out6 ++ ([39] : List UInt8)))))))))
set_option linter.unusedVariables false in
set_option maxRecDepth 100000 in
theorem s_chaffref_Lit (s1 : List UInt8) (M : Mem) (K : Value → Prop) (hS : S_chaffref_Lit s1 M K) : CallE Try.prog 58 #[(Value.string (mkS s1))] M (fun v _ => K v) := by
  refine enterE Try.func58 rfl 20 rfl (Nat.le_of_ble_eq_true rfl) (fun E a hs => ?_)
  unfold S_chaffref_Lit at hS
  have hMM := MX.refl M E
  change Sx 20 E [] M E a [(0, (Value.string (mkS s1)))] [] [] at hs
  refine Wp.seq (Wp.region (sP (Value.string (mkS ([] : List UInt8))) hs fun _ hs => ?_))
  refine wpList_nil (Wp.seq (Wp.region (sP (Value.string (mkS ([39] : List UInt8))) hs fun _ hs => ?_)))
  refine wpList_nil (Wp.seq (Wp.seq (Wp.region (sP (Value.string (mkS s1)) hs fun _ hs => ?_))))
  refine sP (Value.int .i64 ((s1.length : Nat) : Int)) hs fun _ hs => ?_
  refine sP (Value.int .i64 0) hs fun _ hs => ?_
  refine wpList_nil (Wp.block ?_)
  obtain ⟨I8, mu9, hI0, hst⟩ := hS
  refine Wp.loop (σ := (List UInt8) × (Int)) (fun s a w => match s with | (out6, x7) => Sx 20 E [] M w a [(0, (Value.string (mkS s1))), (3, (Value.string (mkS out6))), (6, (Value.int .i64 ((s1.length : Nat) : Int))), (7, (Value.int .i64 x7))] [] [] ∧ I8 out6 x7) (fun s => match s with | (out6, x7) => mu9 out6 x7) (([39] : List UInt8), 0) ⟨(hs.weak (List.Sublist.refl _) (List.Sublist.refl _) ⟨rfl, rfl, rfl, rfl, trivial⟩), hI0⟩ (fun s a w hI => ?_)
  obtain ⟨out6, x7⟩ := s
  obtain ⟨hs, hI⟩ := hI
  have hS := hst out6 x7 hI
  clear hst hI0 hI
  refine Wp.seq (Wp.region (sP (Value.bool (decide (x7 < ((s1.length : Nat) : Int)))) hs fun _ hs => ?_))
  refine wpList_nil (Wp.seq (Wp.cond hs rfl rfl decide_eq_true_iff (fun hc => ?_) (fun hc => ?_)))
  · have hS := hS.1 hc
    refine Wp.skip (Wp.seq (Wp.block (Wp.seq (Wp.region (sP (Value.int .i64 x7) hs fun _ hs => ?_)))))
    refine sP (Value.int .i64 x7) hs fun _ hs => ?_
    refine wpList_nil (Wp.region (sP (Value.string (mkS out6)) hs fun _ hs => ?_))
    refine sP (Value.string (mkS s1)) hs fun _ hs => ?_
    refine sP (Value.int .i64 x7) hs fun _ hs => ?_
    obtain ⟨c10, h0, hi, hS⟩ := hS
    refine sY (Value.int .u8 (c10.toNat : Int)) hs (Yl.indexStr rfl rfl rfl rfl (by kernel_rfl) h0 hi) fun _ hs => ?_
    refine sP (Value.int .i64 (IntKind.wrap .i64 (c10.toNat : Int))) hs fun _ hs => ?_
    refine stepCallP [(Value.int .i64 (IntKind.wrap .i64 (c10.toNat : Int))), (Value.string (mkS ([39, 92] : List UInt8))), (Value.int .i64 32)] hs rfl ⟨_, rfl, rfl⟩ rfl Try.func81 rfl (by kernel_rfl) (by decide) hS (fun _ _ v hS hs => ?_)
    obtain ⟨x11, hv, hS⟩ := hS
    subst hv
    obtain ⟨hl, hS⟩ := hS
    refine sY (Value.string (mkS (out6 ++ x11))) hs (Yl.concat rfl rfl rfl rfl hl) fun _ hs => ?_
    refine sP (Value.string (mkS (out6 ++ x11))) hs fun _ hs => ?_
    refine wpList_nil (Wp.region ?_)
    obtain ⟨hI, hS⟩ := hS
    refine sY (Value.int .i64 (x7 + 1)) hs (Yl.eq (Yl.pure (v := Value.int .i64 (IntKind.wrap .i64 (x7 + 1))) rfl (fun _ => by kernel_rfl)) (congrArg (Value.int .i64) (wrap_in hI))) fun _ hs => ?_
    refine sP (Value.int .i64 (x7 + 1)) hs fun _ hs => ?_
    exact wpList_nil (⟨(out6 ++ x11, x7 + 1), ⟨(hs.weak (List.Sublist.refl _) (List.Sublist.refl _) ⟨rfl, rfl, rfl, rfl, trivial⟩), hS.1⟩, hS.2⟩)
  · have hS := hS.2 hc
    refine Wp.exit rfl (Wp.seq (Wp.region (sP (Value.string (mkS out6)) hs fun _ hs => ?_)))
    obtain ⟨hl, hS⟩ := hS
    refine sY (Value.string (mkS (out6 ++ ([39] : List UInt8)))) hs (Yl.concat rfl rfl rfl rfl hl) fun _ hs => ?_
    refine sP (Value.string (mkS (out6 ++ ([39] : List UInt8)))) hs fun _ hs => ?_
    exact wpList_nil (Wp.ret (leaveE (K := fun v _ => K v) hs (resT hs rfl rfl) hMM.2 (fun _ _ => hS)))
set_option linter.unusedVariables false in
def S_chafflaw_QuoteLits (s1 : List UInt8) (t2 : List UInt8) (M : Mem) (K : Value → Prop) : Prop :=
  (CallE Try.prog 55 #[(Value.string (mkS t2))] M (fun v _ => ∃ (x3 : List UInt8) (x4 : Int) (x5 : Int), v = (Value.tuple #[(Value.string (mkS x3)), (Value.int .i64 x4), (Value.int .i64 x5)]) ∧ (CallE Try.prog 56 #[(Value.string (mkS t2))] M (fun v _ => ∃ (x6 : List UInt8) (x7 : Int) (x8 : Int), v = (Value.tuple #[(Value.string (mkS x6)), (Value.int .i64 x7), (Value.int .i64 x8)]) ∧ (CallE Try.prog 57 #[(Value.string (mkS s1))] M (fun v _ => ∃ (x9 : List UInt8), v = (Value.string (mkS x9)) ∧ (CallE Try.prog 58 #[(Value.string (mkS s1))] M (fun v _ => ∃ (x10 : List UInt8), v = (Value.string (mkS x10)) ∧ ((x9 = x10 → ((x3 = x6 → (((x4 : Int) = x7 → K (Value.bool ((x5 : Int) == (x8 : Int)))) ∧ (¬ ((x4 : Int) = x7) → K (Value.bool false)))) ∧ (¬ (x3 = x6) → K (Value.bool false)))) ∧ (¬ (x9 = x10) → K (Value.bool false)))))))))))
set_option linter.unusedVariables false in
set_option maxRecDepth 100000 in
theorem s_chafflaw_QuoteLits (s1 : List UInt8) (t2 : List UInt8) (M : Mem) (K : Value → Prop) (hS : S_chafflaw_QuoteLits s1 t2 M K) : CallE Try.prog 14 #[(Value.string (mkS s1)), (Value.string (mkS t2))] M (fun v _ => K v) := by
  refine enterE Try.func14 rfl 43 rfl (Nat.le_of_ble_eq_true rfl) (fun E a hs => ?_)
  unfold S_chafflaw_QuoteLits at hS
  have hMM := MX.refl M E
  change Sx 43 E [] M E a [(0, (Value.string (mkS s1))), (1, (Value.string (mkS t2)))] [] [] at hs
  refine Wp.seq (Wp.region (sP (Value.bool false) hs fun _ hs => ?_))
  refine wpList_nil (Wp.seq (Wp.region (sP (Value.string (mkS t2)) hs fun _ hs => ?_)))
  refine stepCallP [(Value.string (mkS t2))] hs rfl ⟨_, rfl, rfl⟩ rfl Try.func55 rfl (by kernel_rfl) (by decide) hS (fun _ _ v hS hs => ?_)
  obtain ⟨x3, x4, x5, hv, hS⟩ := hS
  subst hv
  refine sP (Value.tuple #[(Value.string (mkS x3)), (Value.int .i64 x4), (Value.int .i64 x5)]) hs fun _ hs => ?_
  refine sP (Value.string (mkS x3)) hs fun _ hs => ?_
  refine sP (Value.int .i64 x4) hs fun _ hs => ?_
  refine sP (Value.int .i64 x5) hs fun _ hs => ?_
  refine sP (Value.string (mkS x3)) hs fun _ hs => ?_
  refine sP (Value.int .i64 x4) hs fun _ hs => ?_
  refine sP (Value.int .i64 x5) hs fun _ hs => ?_
  refine wpList_nil (Wp.seq (Wp.region (sP (Value.string (mkS t2)) hs fun _ hs => ?_)))
  refine stepCallP [(Value.string (mkS t2))] hs rfl ⟨_, rfl, rfl⟩ rfl Try.func56 rfl (by kernel_rfl) (by decide) hS (fun _ _ v hS hs => ?_)
  obtain ⟨x6, x7, x8, hv, hS⟩ := hS
  subst hv
  refine sP (Value.tuple #[(Value.string (mkS x6)), (Value.int .i64 x7), (Value.int .i64 x8)]) hs fun _ hs => ?_
  refine sP (Value.string (mkS x6)) hs fun _ hs => ?_
  refine sP (Value.int .i64 x7) hs fun _ hs => ?_
  refine sP (Value.int .i64 x8) hs fun _ hs => ?_
  refine sP (Value.string (mkS x6)) hs fun _ hs => ?_
  refine sP (Value.int .i64 x7) hs fun _ hs => ?_
  refine sP (Value.int .i64 x8) hs fun _ hs => ?_
  refine wpList_nil (Wp.seq (Wp.region (sP (Value.string (mkS s1)) hs fun _ hs => ?_)))
  refine stepCallP [(Value.string (mkS s1))] hs rfl ⟨_, rfl, rfl⟩ rfl Try.func57 rfl (by kernel_rfl) (by decide) hS (fun _ _ v hS hs => ?_)
  obtain ⟨x9, hv, hS⟩ := hS
  subst hv
  refine sP (Value.string (mkS s1)) hs fun _ hs => ?_
  refine stepCallP [(Value.string (mkS s1))] hs rfl ⟨_, rfl, rfl⟩ rfl Try.func58 rfl (by kernel_rfl) (by decide) hS (fun _ _ v hS hs => ?_)
  obtain ⟨x10, hv, hS⟩ := hS
  subst hv
  refine sP (Value.bool ((mkS x9).toList == (mkS x10).toList)) hs fun _ hs => ?_
  refine sP (Value.bool ((mkS x9).toList == (mkS x10).toList)) hs fun _ hs => ?_
  refine bsplit ((mkS x9).toList == (mkS x10).toList) mkS_beq (fun hb hc => ?_) (fun hb hc => ?_)
  · have hs := hs.bt hb
    have hS := hS.1 hc
    refine sYe hs (sP (Value.string (mkS x3)) hs fun _ hs => ?_)
    refine sYe hs (sP (Value.string (mkS x6)) hs fun _ hs => ?_)
    refine sYe hs (sP (Value.bool ((mkS x3).toList == (mkS x6).toList)) hs fun _ hs => ?_)
    refine sP (Value.bool ((mkS x3).toList == (mkS x6).toList)) hs fun _ hs => ?_
    refine sP (Value.bool ((mkS x3).toList == (mkS x6).toList)) hs fun _ hs => ?_
    refine bsplit ((mkS x3).toList == (mkS x6).toList) mkS_beq (fun hb hc => ?_) (fun hb hc => ?_)
    · have hs := hs.bt hb
      have hS := hS.1 hc
      refine sYe hs (sP (Value.int .i64 x4) hs fun _ hs => ?_)
      refine sYe hs (sP (Value.int .i64 x7) hs fun _ hs => ?_)
      refine sYe hs (sP (Value.bool ((x4 : Int) == (x7 : Int))) hs fun _ hs => ?_)
      refine sP (Value.bool ((x4 : Int) == (x7 : Int))) hs fun _ hs => ?_
      refine sP (Value.bool ((x4 : Int) == (x7 : Int))) hs fun _ hs => ?_
      refine bsplit ((x4 : Int) == (x7 : Int)) beq_iff_eq (fun hb hc => ?_) (fun hb hc => ?_)
      · have hs := hs.bt hb
        have hS := hS.1 hc
        refine sYe hs (sP (Value.int .i64 x5) hs fun _ hs => ?_)
        refine sYe hs (sP (Value.int .i64 x8) hs fun _ hs => ?_)
        refine sYe hs (sP (Value.bool ((x5 : Int) == (x8 : Int))) hs fun _ hs => ?_)
        refine sP (Value.bool ((x5 : Int) == (x8 : Int))) hs fun _ hs => ?_
        refine sP (Value.bool ((x5 : Int) == (x8 : Int))) hs fun _ hs => ?_
        exact wpList_nil (Wp.ret (leaveE (K := fun v _ => K v) hs (resT hs rfl rfl) hMM.2 (fun _ _ => hS)))
      · have hs := hs.bf hb
        have hS := hS.2 hc
        refine sNo hs fun _ hs => ?_
        refine sNo hs fun _ hs => ?_
        refine sNo hs fun _ hs => ?_
        refine sP (Value.bool false) hs fun _ hs => ?_
        refine sP (Value.bool false) hs fun _ hs => ?_
        exact wpList_nil (Wp.ret (leaveE (K := fun v _ => K v) hs (resT hs rfl rfl) hMM.2 (fun _ _ => hS)))
    · have hs := hs.bf hb
      have hS := hS.2 hc
      refine sNo hs fun _ hs => ?_
      refine sNo hs fun _ hs => ?_
      refine sNo hs fun _ hs => ?_
      refine sP (Value.bool false) hs fun _ hs => ?_
      refine sP (Value.bool false) hs fun _ hs => ?_
      refine sNo hs fun _ hs => ?_
      refine sNo hs fun _ hs => ?_
      refine sNo hs fun _ hs => ?_
      refine sP (Value.bool false) hs fun _ hs => ?_
      refine sP (Value.bool false) hs fun _ hs => ?_
      exact wpList_nil (Wp.ret (leaveE (K := fun v _ => K v) hs (resT hs rfl rfl) hMM.2 (fun _ _ => hS)))
  · have hs := hs.bf hb
    have hS := hS.2 hc
    refine sNo hs fun _ hs => ?_
    refine sNo hs fun _ hs => ?_
    refine sNo hs fun _ hs => ?_
    refine sP (Value.bool false) hs fun _ hs => ?_
    refine sP (Value.bool false) hs fun _ hs => ?_
    refine sNo hs fun _ hs => ?_
    refine sNo hs fun _ hs => ?_
    refine sNo hs fun _ hs => ?_
    refine sP (Value.bool false) hs fun _ hs => ?_
    refine sP (Value.bool false) hs fun _ hs => ?_
    refine sNo hs fun _ hs => ?_
    refine sNo hs fun _ hs => ?_
    refine sNo hs fun _ hs => ?_
    refine sP (Value.bool false) hs fun _ hs => ?_
    refine sP (Value.bool false) hs fun _ hs => ?_
    exact wpList_nil (Wp.ret (leaveE (K := fun v _ => K v) hs (resT hs rfl rfl) hMM.2 (fun _ _ => hS)))

end Go.Proofs.Ytdlfhmdojbejkaa.lawQuoteLits
