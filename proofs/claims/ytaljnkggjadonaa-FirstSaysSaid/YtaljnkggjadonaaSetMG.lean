/- What the code computes, function for function, as shallow propositions; printed by program. -/
import Derived.Test.YtaljnkggjadonaaCoreG
namespace Go.Proofs.Ytaljnkggjadonaa.core
open Go.Gx Go.RowKit Go.ChangeShapes Go.WideShapes Go.ChangeAt
set_option linter.unusedVariables false in
def S_set_both (s1 : X_api_Set) (t2 : X_api_Set) (f3 : Value) (M : Mem) (K : Value → Prop) : Prop :=
  (∃ (I18 : Int → List Int → Prop) (mu19 : Int → List Int → Nat), I18 0 [s1.w0, s1.w1, s1.w2, s1.w3] ∧ ∀ (x16 : Int) (zs17 : List Int), (I18 x16 zs17 → ((x16 < 4 → ((0 : Int) ≤ x16 ∧ x16 < (4 : Int) ∧ (∃ x20 : Int, zs17[0 + x16.toNat * 1]? = some x20 ∧ ((0 : Int) ≤ x16 ∧ x16 < (4 : Int) ∧ (∃ x21 : Int, [t2.w0, t2.w1, t2.w2, t2.w3][0 + x16.toNat * 1]? = some x21 ∧ (CallF Try.prog f3 [(Value.int .u64 x20), (Value.int .u64 x21)] M (fun v _ => ∃ (x22 : Int), v = (Value.int .u64 x22) ∧ ((0 : Int) ≤ x16 ∧ x16 < (4 : Int) ∧ (0 + x16.toNat * 1 < (zs17).length ∧ (InI (x16 + 1) ∧ I18 (x16 + 1) ((zs17).set (0 + x16.toNat * 1) x22) ∧ mu19 (x16 + 1) ((zs17).set (0 + x16.toNat * 1) x22) < mu19 x16 zs17)))))))))) ∧ (¬ (x16 < 4) → (∃ z23 z24 z25 z26 : Int, zs17 = [z23, z24, z25, z26] ∧ (([0, 0, 0, 0]).length = 4 ∧ (∃ z27 z28 z29 z30 : Int, [z23, z24, z25, z26] = [z27, z28, z29, z30] ∧ K (X_api_Set.mk z27 z28 z29 z30).val)))))))
set_option linter.unusedVariables false in
set_option maxRecDepth 100000 in
theorem s_set_both (s1 : X_api_Set) (t2 : X_api_Set) (f3 : Value) (M : Mem) (K : Value → Prop) (hS : S_set_both s1 t2 f3 M K) : CallE Try.prog 128 #[s1.val, t2.val, f3] M (fun v _ => K v) := by
  refine enterE Try.func128 rfl 23 rfl (Nat.le_of_ble_eq_true rfl) (fun E a hs => ?_)
  unfold S_set_both at hS
  have hMM := MX.refl M E
  change Sx 23 E [] M E a [(0, s1.val), (1, t2.val), (2, f3)] [] [] at hs
  refine Wp.seq (Wp.region (stepBox [(Value.int .u64 s1.w0), (Value.int .u64 s1.w1), (Value.int .u64 s1.w2), (Value.int .u64 s1.w3)] hs rfl rfl rfl (by decide) (fun _ _ b4 hEb4 hs => ?_)))
  replace hs := hs.chbx (bs' := [⟨b4, 55, (List.map (Value.int .u64) [s1.w0, s1.w1, s1.w2, s1.w3])⟩]) rfl
  refine stepBox [(Value.int .u64 t2.w0), (Value.int .u64 t2.w1), (Value.int .u64 t2.w2), (Value.int .u64 t2.w3)] hs rfl rfl rfl (by decide) (fun _ _ b5 hEb5 hs => ?_)
  replace hs := hs.chbx (bs' := [⟨b5, 55, (List.map (Value.int .u64) [t2.w0, t2.w1, t2.w2, t2.w3])⟩, ⟨b4, 55, (List.map (Value.int .u64) [s1.w0, s1.w1, s1.w2, s1.w3])⟩]) rfl
  refine stepAlloc [(Value.int .u64 0), (Value.int .u64 0), (Value.int .u64 0), (Value.int .u64 0)] hs (by kernel_rfl) (by decide) (fun _ _ b6 hEb6 hs => ?_)
  replace hs := hs.chbx (bs' := [⟨b6, 55, (List.map (Value.int .u64) [0, 0, 0, 0])⟩, ⟨b5, 55, (List.map (Value.int .u64) [t2.w0, t2.w1, t2.w2, t2.w3])⟩, ⟨b4, 55, (List.map (Value.int .u64) [s1.w0, s1.w1, s1.w2, s1.w3])⟩]) rfl
  refine wpList_nil (Wp.seq (Wp.seq (Wp.region (sP (Value.int .i64 0) hs fun _ hs => ?_))))
  refine wpList_nil (Wp.block ?_)
  obtain ⟨I18, mu19, hI0, hst⟩ := hS
  refine Wp.loop (σ := (Int) × (List Int)) (fun s a w => match s with | (x16, zs17) => Sx 23 E [] M w a [(2, f3), (3, (Value.pointer (some ⟨b4, 0, none⟩))), (4, (Value.pointer (some ⟨b5, 0, none⟩))), (6, (Value.pointer (some ⟨b6, 0, none⟩))), (8, (Value.int .i64 x16))] [⟨b6, 55, (List.map (Value.int .u64) [0, 0, 0, 0])⟩, ⟨b5, 55, (List.map (Value.int .u64) [t2.w0, t2.w1, t2.w2, t2.w3])⟩, ⟨b4, 55, (List.map (Value.int .u64) zs17)⟩] [] ∧ I18 x16 zs17) (fun s => match s with | (x16, zs17) => mu19 x16 zs17) (0, [s1.w0, s1.w1, s1.w2, s1.w3]) ⟨(hs.weak (List.Sublist.refl _) (List.Sublist.refl _) ⟨rfl, rfl, rfl, rfl, rfl, trivial⟩), hI0⟩ (fun s a w hI => ?_)
  obtain ⟨x16, zs17⟩ := s
  obtain ⟨hs, hI⟩ := hI
  have hS := hst x16 zs17 hI
  clear hst hI0 hI
  refine Wp.seq (Wp.region (sP (Value.bool (decide (x16 < 4))) hs fun _ hs => ?_))
  refine wpList_nil (Wp.seq (Wp.cond hs rfl rfl decide_eq_true_iff (fun hc => ?_) (fun hc => ?_)))
  · have hS := hS.1 hc
    refine Wp.skip (Wp.seq (Wp.block (Wp.seq (Wp.region (sP (Value.int .i64 x16) hs fun _ hs => ?_)))))
    refine sP (Value.int .i64 x16) hs fun _ hs => ?_
    refine wpList_nil (Wp.regionD [true, true, true, true, true, true, true, true, true, true, false] hs (by kernel_rfl) rfl [⟨b6, 55, (List.map (Value.int .u64) [0, 0, 0, 0])⟩, ⟨b5, 55, (List.map (Value.int .u64) [t2.w0, t2.w1, t2.w2, t2.w3])⟩, ⟨b4, 55, (List.map (Value.int .u64) zs17)⟩] (fun _ h => h) [] (fun _ h => h) (fun _ hs hC => ?_))
    have hL := Mem.le.refl M
    refine dP (Value.int .i64 x16) 0 [9, 10] hs QZ.no (wanted_none rfl) fun _ hs => ?_
    refine dP f3 1 [8, 9, 10] hs QZ.no (wanted_none rfl) fun _ hs => ?_
    refine dP (Value.int .i64 x16) 2 [3, 4, 8, 9, 10] hs QZ.no (wanted_none rfl) fun _ hs => ?_
    obtain ⟨h0, hl, hS⟩ := hS
    refine stepDP (v := (Value.pointer (some ⟨b4, 0 + x16.toNat * 1, none⟩))) 3 [4, 8, 9, 10] hs QZ.no rfl (wanted_none rfl) rfl (by decide) (by kernel_rfl) (by kernel_rfl) (by kernel_rfl) (Yl.indexA (e := 53) (sz := 1) rfl rfl rfl rfl (by kernel_rfl) (by kernel_rfl) h0 hl) (fun _ hs => ?_)
    obtain ⟨x20, hz, hS⟩ := hS
    refine stepDY (v := (Value.int .u64 x20)) 4 [8, 9, 10] hs hC QZ.no rfl (wanted_none rfl) rfl (by decide) (by kernel_rfl) (by kernel_rfl) (by kernel_rfl) (Yl.loadBD 2 rfl rfl rfl (by kernel_rfl) hz) (fun _ hs => ?_)
    refine stepDE 5 rfl (wanted_none rfl) (by kernel_rfl) #[] ?_
    refine sP (Value.int .i64 x16) hs fun _ hs => ?_
    refine wpList_nil (⟨fun _ h => h, ?_⟩)
    refine stepDE 6 rfl (wanted_none rfl) (by kernel_rfl) #[] ?_
    obtain ⟨h0, hl, hS⟩ := hS
    refine sY (Value.pointer (some ⟨b5, 0 + x16.toNat * 1, none⟩)) hs (Yl.indexA (e := 53) (sz := 1) rfl rfl rfl rfl (by kernel_rfl) (by kernel_rfl) h0 hl) fun _ hs => ?_
    refine wpList_nil (⟨fun _ h => h, ?_⟩)
    refine stepDE 7 rfl (wanted_none rfl) (by kernel_rfl) #[] ?_
    obtain ⟨x21, hz, hS⟩ := hS
    refine sY (Value.int .u64 x21) hs (Yl.loadBD 1 rfl rfl rfl (by kernel_rfl) hz) fun _ hs => ?_
    refine wpList_nil (⟨fun _ h => h, ?_⟩)
    refine stepDE 8 rfl (wanted_none rfl) (by kernel_rfl) #[] ?_
    refine stepCallG [(Value.int .u64 x20), (Value.int .u64 x21)] hs rfl ⟨_, rfl, rfl⟩ rfl (by decide) hS (fun _ _ v hS hs => ?_)
    obtain ⟨x22, hv, hS⟩ := hS
    subst hv
    refine wpList_nil (⟨fun _ _ => hs.cxle hL (List.Sublist.refl _) (List.Sublist.refl _), ?_⟩)
    have hC := hs.cxle hL (List.Sublist.refl _) (List.Sublist.refl _)
    refine stepDE 9 rfl (wanted_none rfl) (by kernel_rfl) #[] ?_
    obtain ⟨h0, hl, hS⟩ := hS
    refine sY (Value.pointer (some ⟨b4, 0 + x16.toNat * 1, none⟩)) hs (Yl.indexA (e := 53) (sz := 1) rfl rfl rfl rfl (by kernel_rfl) (by kernel_rfl) h0 hl) fun _ hs => ?_
    refine wpList_nil (⟨fun _ h => h, ?_⟩)
    refine stepDE 10 rfl (wanted_none rfl) (by kernel_rfl) #[] ?_
    obtain ⟨hlt, hS⟩ := hS
    refine stepStoreBD 2 (zs := zs17) hs rfl rfl rfl rfl rfl (by kernel_rfl) hlt (fun _ _ hs => ?_)
    replace hs := hs.chbx (bs' := [⟨b6, 55, (List.map (Value.int .u64) [0, 0, 0, 0])⟩, ⟨b5, 55, (List.map (Value.int .u64) [t2.w0, t2.w1, t2.w2, t2.w3])⟩, ⟨b4, 55, (List.map (Value.int .u64) ((zs17).set (0 + x16.toNat * 1) x22))⟩]) rfl
    refine wpList_nil (⟨fun h => absurd h (by decide), ?_⟩)
    refine WpD.done (by kernel_rfl) ?_ _
    refine Wp.region ?_
    obtain ⟨hI, hS⟩ := hS
    refine sY (Value.int .i64 (x16 + 1)) hs (Yl.eq (Yl.pure (v := Value.int .i64 (IntKind.wrap .i64 (x16 + 1))) rfl (fun _ => by kernel_rfl)) (congrArg (Value.int .i64) (wrap_in hI))) fun _ hs => ?_
    refine sP (Value.int .i64 (x16 + 1)) hs fun _ hs => ?_
    exact wpList_nil (⟨(x16 + 1, (zs17).set (0 + x16.toNat * 1) x22), ⟨(hs.weak (List.Sublist.refl _) (List.Sublist.refl _) ⟨rfl, rfl, rfl, rfl, rfl, trivial⟩), hS.1⟩, hS.2⟩)
  · have hS := hS.2 hc
    refine Wp.exit rfl (Wp.seq (Wp.region ?_))
    obtain ⟨z23, z24, z25, z26, hz, hS⟩ := hS
    refine sY (X_api_Set.mk z23 z24 z25 z26).val hs (Yl.loadBA 2 rfl rfl rfl rfl (by kernel_rfl) hz) fun _ hs => ?_
    obtain ⟨hlt, hS⟩ := hS
    refine stepStoreBA 0 (zs := [0, 0, 0, 0]) (ys := [z23, z24, z25, z26]) hs rfl rfl rfl rfl rfl (by kernel_rfl) hlt (fun _ _ hs => ?_)
    replace hs := hs.chbx (bs' := [⟨b6, 55, (List.map (Value.int .u64) [z23, z24, z25, z26])⟩, ⟨b5, 55, (List.map (Value.int .u64) [t2.w0, t2.w1, t2.w2, t2.w3])⟩, ⟨b4, 55, (List.map (Value.int .u64) zs17)⟩]) rfl
    refine wpList_nil (Wp.ret ?_)
    obtain ⟨z27, z28, z29, z30, hz, hS⟩ := hS
    replace hs := hs.chbx (bs' := [⟨b6, 55, [(Value.int .u64 z27), (Value.int .u64 z28), (Value.int .u64 z29), (Value.int .u64 z30)]⟩, ⟨b5, 55, (List.map (Value.int .u64) [t2.w0, t2.w1, t2.w2, t2.w3])⟩, ⟨b4, 55, (List.map (Value.int .u64) zs17)⟩]) (by first | rw [hz]; rfl | rfl)
    exact leaveE (K := fun v _ => K v) hs (resC (vs := [(Value.int .u64 z27), (Value.int .u64 z28), (Value.int .u64 z29), (Value.int .u64 z30)]) true 0 hs rfl rfl rfl (by kernel_rfl) rfl) hMM.2 (fun _ _ => hS)
set_option linter.unusedVariables false in
def S_set_Join_1 (a1 : Int) (b2 : Int) (M : Mem) (K : Value → Prop) : Prop :=
  K (Value.int .u64 (bOr .u64 a1 b2))
set_option linter.unusedVariables false in
set_option maxRecDepth 100000 in
theorem s_set_Join_1 (a1 : Int) (b2 : Int) (M : Mem) (K : Value → Prop) (hS : S_set_Join_1 a1 b2 M K) : CallE Try.prog 129 #[(Value.int .u64 a1), (Value.int .u64 b2)] M (fun v _ => K v) := by
  refine enterE Try.func129 rfl 8 rfl (Nat.le_of_ble_eq_true rfl) (fun E a hs => ?_)
  unfold S_set_Join_1 at hS
  have hMM := MX.refl M E
  change Sx 8 E [] M E a [(0, (Value.int .u64 a1)), (1, (Value.int .u64 b2))] [] [] at hs
  refine Wp.seq (Wp.region (sP (Value.int .u64 0) hs fun _ hs => ?_))
  refine wpList_nil (Wp.seq (Wp.region (sP (Value.int .u64 a1) hs fun _ hs => ?_)))
  refine sP (Value.int .u64 b2) hs fun _ hs => ?_
  refine sP (Value.int .u64 (bOr .u64 a1 b2)) hs fun _ hs => ?_
  refine sP (Value.int .u64 (bOr .u64 a1 b2)) hs fun _ hs => ?_
  exact wpList_nil (Wp.ret (leaveE (K := fun v _ => K v) hs (resT hs rfl rfl) hMM.2 (fun _ _ => hS)))
theorem f_set_Join_1 (a1 : Int) (b2 : Int) (M : Mem) (K : Value → Prop) (hS : S_set_Join_1 a1 b2 M K) : CallF Try.prog (Value.func (.func 129) #[] #[]) [(Value.int .u64 a1), (Value.int .u64 b2)] M (fun v _ => K v) := ⟨129, _, _, _, rfl, Try.func129, rfl, (by decide), s_set_Join_1 _ _ _ _ hS⟩
set_option linter.unusedVariables false in
def S_set_Join (s1 : X_api_Set) (t2 : X_api_Set) (M : Mem) (K : Value → Prop) : Prop :=
  (CallE Try.prog 128 #[s1.val, t2.val, (Value.func (.func 129) #[] #[])] M (fun v _ => ∃ (x6 : X_api_Set), v = x6.val ∧ K x6.val))
set_option linter.unusedVariables false in
set_option maxRecDepth 100000 in
theorem s_set_Join (s1 : X_api_Set) (t2 : X_api_Set) (M : Mem) (K : Value → Prop) (hS : S_set_Join s1 t2 M K) : CallE Try.prog 110 #[s1.val, t2.val] M (fun v _ => K v) := by
  refine enterE Try.func110 rfl 8 rfl (Nat.le_of_ble_eq_true rfl) (fun E a hs => ?_)
  unfold S_set_Join at hS
  have hMM := MX.refl M E
  change Sx 8 E [] M E a [(0, s1.val), (1, t2.val)] [] [] at hs
  refine Wp.seq (Wp.region (stepBox [(Value.int .u64 s1.w0), (Value.int .u64 s1.w1), (Value.int .u64 s1.w2), (Value.int .u64 s1.w3)] hs rfl rfl rfl (by decide) (fun _ _ b3 hEb3 hs => ?_)))
  refine stepBox [(Value.int .u64 t2.w0), (Value.int .u64 t2.w1), (Value.int .u64 t2.w2), (Value.int .u64 t2.w3)] hs rfl rfl rfl (by decide) (fun _ _ b4 hEb4 hs => ?_)
  refine stepAlloc [(Value.int .u64 0), (Value.int .u64 0), (Value.int .u64 0), (Value.int .u64 0)] hs (by kernel_rfl) (by decide) (fun _ _ b5 hEb5 hs => ?_)
  refine wpList_nil (Wp.seq (Wp.region (sY s1.val hs (Yl.loadB (vs := s1.cells) true 2 rfl rfl rfl (by kernel_rfl) rfl) fun _ hs => ?_)))
  refine sY t2.val hs (Yl.loadB (vs := t2.cells) true 1 rfl rfl rfl (by kernel_rfl) rfl) fun _ hs => ?_
  refine stepCallP [s1.val, t2.val, (Value.func (.func 129) #[] #[])] hs rfl ⟨_, rfl, rfl⟩ rfl Try.func128 rfl (by kernel_rfl) (by decide) hS (fun _ _ v hS hs => ?_)
  obtain ⟨x6, hv, hS⟩ := hS
  subst hv
  refine stepStoreB 0 (vs := [(Value.int .u64 x6.w0), (Value.int .u64 x6.w1), (Value.int .u64 x6.w2), (Value.int .u64 x6.w3)]) hs rfl rfl rfl rfl rfl rfl (by kernel_rfl) (Nat.le_of_ble_eq_true rfl) rfl (fun _ _ hs => ?_)
  replace hs := hs.chbx (bs' := [⟨b5, 55, [(Value.int .u64 x6.w0), (Value.int .u64 x6.w1), (Value.int .u64 x6.w2), (Value.int .u64 x6.w3)]⟩, ⟨b4, 55, [(Value.int .u64 t2.w0), (Value.int .u64 t2.w1), (Value.int .u64 t2.w2), (Value.int .u64 t2.w3)]⟩, ⟨b3, 55, [(Value.int .u64 s1.w0), (Value.int .u64 s1.w1), (Value.int .u64 s1.w2), (Value.int .u64 s1.w3)]⟩]) rfl
  exact wpList_nil (Wp.ret (leaveE (K := fun v _ => K v) hs (resC (vs := [(Value.int .u64 x6.w0), (Value.int .u64 x6.w1), (Value.int .u64 x6.w2), (Value.int .u64 x6.w3)]) true 0 hs rfl rfl rfl (by kernel_rfl) rfl) hMM.2 (fun _ _ => hS)))
set_option linter.unusedVariables false in
def S_set_Range (low1 : Int) (high2 : Int) (M : Mem) (K : Value → Prop) : Prop :=
  (∃ (I11 : Int → List Int → Prop) (mu12 : Int → List Int → Nat), I11 (if low1 > 0 then low1 else 0) [0, 0, 0, 0] ∧ ∀ (b9 : Int) (zs10 : List Int), (I11 b9 zs10 → ((b9 ≤ (if high2 < 255 then high2 else 255) → ((0 : Int) ≤ bShr .i64 b9 6 ∧ bShr .i64 b9 6 < (4 : Int) ∧ (∃ x13 : Int, zs10[0 + (bShr .i64 b9 6).toNat * 1]? = some x13 ∧ ((0 : Int) ≤ bAnd .i64 b9 63 ∧ ((0 : Int) ≤ bShr .i64 b9 6 ∧ bShr .i64 b9 6 < (4 : Int) ∧ (0 + (bShr .i64 b9 6).toNat * 1 < (zs10).length ∧ (InI (b9 + 1) ∧ I11 (b9 + 1) ((zs10).set (0 + (bShr .i64 b9 6).toNat * 1) (bOr .u64 x13 (bShl .u64 1 (bAnd .i64 b9 63)))) ∧ mu12 (b9 + 1) ((zs10).set (0 + (bShr .i64 b9 6).toNat * 1) (bOr .u64 x13 (bShl .u64 1 (bAnd .i64 b9 63)))) < mu12 b9 zs10))))))) ∧ (¬ (b9 ≤ (if high2 < 255 then high2 else 255)) → (∃ z14 z15 z16 z17 : Int, zs10 = [z14, z15, z16, z17] ∧ ((zs10).length = 4 ∧ (∃ z18 z19 z20 z21 : Int, [z14, z15, z16, z17] = [z18, z19, z20, z21] ∧ K (X_api_Set.mk z18 z19 z20 z21).val)))))))
set_option linter.unusedVariables false in
set_option maxRecDepth 100000 in
theorem s_set_Range (low1 : Int) (high2 : Int) (M : Mem) (K : Value → Prop) (hS : S_set_Range low1 high2 M K) : CallE Try.prog 109 #[(Value.int .i64 low1), (Value.int .i64 high2)] M (fun v _ => K v) := by
  refine enterE Try.func109 rfl 24 rfl (Nat.le_of_ble_eq_true rfl) (fun E a hs => ?_)
  unfold S_set_Range at hS
  have hMM := MX.refl M E
  change Sx 24 E [] M E a [(0, (Value.int .i64 low1)), (1, (Value.int .i64 high2))] [] [] at hs
  refine Wp.seq (Wp.region (stepAlloc [(Value.int .u64 0), (Value.int .u64 0), (Value.int .u64 0), (Value.int .u64 0)] hs (by kernel_rfl) (by decide) (fun _ _ b3 hEb3 hs => ?_)))
  replace hs := hs.chbx (bs' := [⟨b3, 55, (List.map (Value.int .u64) [0, 0, 0, 0])⟩]) rfl
  refine wpList_nil (Wp.seq (Wp.seq (Wp.region (sP (Value.int .i64 low1) hs fun _ hs => ?_))))
  refine sP (Value.int .i64 (if low1 > 0 then low1 else 0)) hs fun _ hs => ?_
  refine sP (Value.int .i64 (if low1 > 0 then low1 else 0)) hs fun _ hs => ?_
  refine wpList_nil (Wp.block ?_)
  obtain ⟨I11, mu12, hI0, hst⟩ := hS
  refine Wp.loop (σ := (Int) × (List Int)) (fun s a w => match s with | (b9, zs10) => Sx 24 E [] M w a [(1, (Value.int .i64 high2)), (4, (Value.pointer (some ⟨b3, 0, none⟩))), (5, (Value.int .i64 b9))] [⟨b3, 55, (List.map (Value.int .u64) zs10)⟩] [] ∧ I11 b9 zs10) (fun s => match s with | (b9, zs10) => mu12 b9 zs10) ((if low1 > 0 then low1 else 0), [0, 0, 0, 0]) ⟨(hs.weak (List.Sublist.refl _) (List.Sublist.refl _) ⟨rfl, rfl, rfl, trivial⟩), hI0⟩ (fun s a w hI => ?_)
  obtain ⟨b9, zs10⟩ := s
  obtain ⟨hs, hI⟩ := hI
  have hS := hst b9 zs10 hI
  clear hst hI0 hI
  refine Wp.seq (Wp.seq (Wp.region (sP (Value.int .i64 b9) hs fun _ hs => ?_)))
  refine sP (Value.int .i64 high2) hs fun _ hs => ?_
  refine sP (Value.int .i64 (if high2 < 255 then high2 else 255)) hs fun _ hs => ?_
  refine sP (Value.bool (decide (b9 ≤ (if high2 < 255 then high2 else 255)))) hs fun _ hs => ?_
  refine wpList_nil (Wp.cond hs rfl rfl decide_eq_true_iff (fun hc => ?_) (fun hc => ?_))
  · have hS := hS.1 hc
    refine Wp.skip (Wp.seq (Wp.block (Wp.regionD [true, true, true, true, true, true, true, true, true, false] hs (by kernel_rfl) rfl [⟨b3, 55, (List.map (Value.int .u64) zs10)⟩] (fun _ h => h) [] (fun _ h => h) (fun _ hs hC => ?_))))
    have hL := Mem.le.refl M
    refine dP (Value.int .i64 b9) 0 [1, 2, 3, 7, 8, 9] hs QZ.no (wanted_none rfl) fun _ hs => ?_
    refine dP (Value.int .i64 (bShr .i64 b9 6)) 1 [2, 3, 7, 8, 9] hs QZ.no (wanted_none rfl) fun _ hs => ?_
    obtain ⟨h0, hl, hS⟩ := hS
    refine stepDP (v := (Value.pointer (some ⟨b3, 0 + (bShr .i64 b9 6).toNat * 1, none⟩))) 2 [3, 7, 8, 9] hs QZ.no rfl (wanted_none rfl) rfl (by decide) (by kernel_rfl) (by kernel_rfl) (by kernel_rfl) (Yl.indexA (e := 53) (sz := 1) rfl rfl rfl rfl (by kernel_rfl) (by kernel_rfl) h0 hl) (fun _ hs => ?_)
    obtain ⟨x13, hz, hS⟩ := hS
    refine stepDY (v := (Value.int .u64 x13)) 3 [7, 8, 9] hs hC QZ.no rfl (wanted_none rfl) rfl (by decide) (by kernel_rfl) (by kernel_rfl) (by kernel_rfl) (Yl.loadBD 0 rfl rfl rfl (by kernel_rfl) hz) (fun _ hs => ?_)
    refine stepDE 4 rfl (wanted_none rfl) (by kernel_rfl) #[] ?_
    refine sP (Value.int .i64 b9) hs fun _ hs => ?_
    refine wpList_nil (⟨fun _ h => h, ?_⟩)
    refine stepDE 5 rfl (wanted_none rfl) (by kernel_rfl) #[] ?_
    refine sP (Value.int .i64 (bAnd .i64 b9 63)) hs fun _ hs => ?_
    refine wpList_nil (⟨fun _ h => h, ?_⟩)
    refine stepDE 6 rfl (wanted_none rfl) (by kernel_rfl) #[] ?_
    obtain ⟨h0, hS⟩ := hS
    refine sY (Value.int .u64 (bShl .u64 1 (bAnd .i64 b9 63))) hs (Yl.shl rfl rfl rfl rfl h0) fun _ hs => ?_
    refine wpList_nil (⟨fun _ h => h, ?_⟩)
    refine stepDE 7 rfl (wanted_none rfl) (by kernel_rfl) #[] ?_
    refine sP (Value.int .u64 (bOr .u64 x13 (bShl .u64 1 (bAnd .i64 b9 63)))) hs fun _ hs => ?_
    refine wpList_nil (⟨fun _ h => h, ?_⟩)
    refine stepDE 8 rfl (wanted_none rfl) (by kernel_rfl) #[] ?_
    obtain ⟨h0, hl, hS⟩ := hS
    refine sY (Value.pointer (some ⟨b3, 0 + (bShr .i64 b9 6).toNat * 1, none⟩)) hs (Yl.indexA (e := 53) (sz := 1) rfl rfl rfl rfl (by kernel_rfl) (by kernel_rfl) h0 hl) fun _ hs => ?_
    refine wpList_nil (⟨fun _ h => h, ?_⟩)
    refine stepDE 9 rfl (wanted_none rfl) (by kernel_rfl) #[] ?_
    obtain ⟨hlt, hS⟩ := hS
    refine stepStoreBD 0 (zs := zs10) hs rfl rfl rfl rfl rfl (by kernel_rfl) hlt (fun _ _ hs => ?_)
    replace hs := hs.chbx (bs' := [⟨b3, 55, (List.map (Value.int .u64) ((zs10).set (0 + (bShr .i64 b9 6).toNat * 1) (bOr .u64 x13 (bShl .u64 1 (bAnd .i64 b9 63)))))⟩]) rfl
    refine wpList_nil (⟨fun h => absurd h (by decide), ?_⟩)
    refine WpD.done (by kernel_rfl) ?_ _
    refine Wp.region (sP (Value.int .i64 b9) hs fun _ hs => ?_)
    obtain ⟨hI, hS⟩ := hS
    refine sY (Value.int .i64 (b9 + 1)) hs (Yl.eq (Yl.pure (v := Value.int .i64 (IntKind.wrap .i64 (b9 + 1))) rfl (fun _ => by kernel_rfl)) (congrArg (Value.int .i64) (wrap_in hI))) fun _ hs => ?_
    refine sP (Value.int .i64 (b9 + 1)) hs fun _ hs => ?_
    exact wpList_nil (⟨(b9 + 1, (zs10).set (0 + (bShr .i64 b9 6).toNat * 1) (bOr .u64 x13 (bShl .u64 1 (bAnd .i64 b9 63)))), ⟨(hs.weak (List.Sublist.refl _) (List.Sublist.refl _) ⟨rfl, rfl, rfl, trivial⟩), hS.1⟩, hS.2⟩)
  · have hS := hS.2 hc
    refine Wp.exit rfl (Wp.seq (Wp.region ?_))
    obtain ⟨z14, z15, z16, z17, hz, hS⟩ := hS
    refine sY (X_api_Set.mk z14 z15 z16 z17).val hs (Yl.loadBA 0 rfl rfl rfl rfl (by kernel_rfl) hz) fun _ hs => ?_
    obtain ⟨hlt, hS⟩ := hS
    refine stepStoreBA 0 (zs := zs10) (ys := [z14, z15, z16, z17]) hs rfl rfl rfl rfl rfl (by kernel_rfl) hlt (fun _ _ hs => ?_)
    replace hs := hs.chbx (bs' := [⟨b3, 55, (List.map (Value.int .u64) [z14, z15, z16, z17])⟩]) rfl
    refine wpList_nil (Wp.ret ?_)
    obtain ⟨z18, z19, z20, z21, hz, hS⟩ := hS
    replace hs := hs.chbx (bs' := [⟨b3, 55, [(Value.int .u64 z18), (Value.int .u64 z19), (Value.int .u64 z20), (Value.int .u64 z21)]⟩]) (by first | rw [hz]; rfl | rfl)
    exact leaveE (K := fun v _ => K v) hs (resC (vs := [(Value.int .u64 z18), (Value.int .u64 z19), (Value.int .u64 z20), (Value.int .u64 z21)]) true 0 hs rfl rfl rfl (by kernel_rfl) rfl) hMM.2 (fun _ _ => hS)
set_option linter.unusedVariables false in
def S_set_Has (s1 : X_api_Set) (b2 : Int) (M : Mem) (K : Value → Prop) : Prop :=
  ((0 : Int) ≤ bShr .u8 b2 6 ∧ bShr .u8 b2 6 < (4 : Int) ∧ (∃ x4 : Int, [s1.w0, s1.w1, s1.w2, s1.w3][0 + (bShr .u8 b2 6).toNat * 1]? = some x4 ∧ ((0 : Int) ≤ bAnd .u8 b2 63 ∧ K (Value.bool ((bAnd .u64 (bShr .u64 x4 (bAnd .u8 b2 63)) 1 : Int) == (1 : Int))))))
set_option linter.unusedVariables false in
set_option maxRecDepth 100000 in
theorem s_set_Has (s1 : X_api_Set) (b2 : Int) (M : Mem) (K : Value → Prop) (hS : S_set_Has s1 b2 M K) : CallE Try.prog 112 #[s1.val, (Value.int .u8 b2)] M (fun v _ => K v) := by
  refine enterE Try.func112 rfl 14 rfl (Nat.le_of_ble_eq_true rfl) (fun E a hs => ?_)
  unfold S_set_Has at hS
  have hMM := MX.refl M E
  change Sx 14 E [] M E a [(0, s1.val), (1, (Value.int .u8 b2))] [] [] at hs
  refine Wp.seq (Wp.region (stepBox [(Value.int .u64 s1.w0), (Value.int .u64 s1.w1), (Value.int .u64 s1.w2), (Value.int .u64 s1.w3)] hs rfl rfl rfl (by decide) (fun _ _ b3 hEb3 hs => ?_)))
  replace hs := hs.chbx (bs' := [⟨b3, 55, (List.map (Value.int .u64) [s1.w0, s1.w1, s1.w2, s1.w3])⟩]) rfl
  refine sP (Value.bool false) hs fun _ hs => ?_
  refine wpList_nil (Wp.seq (Wp.region (sP (Value.int .u8 b2) hs fun _ hs => ?_)))
  refine sP (Value.int .u8 (bShr .u8 b2 6)) hs fun _ hs => ?_
  obtain ⟨h0, hl, hS⟩ := hS
  refine sY (Value.pointer (some ⟨b3, 0 + (bShr .u8 b2 6).toNat * 1, none⟩)) hs (Yl.indexA (e := 53) (sz := 1) rfl rfl rfl rfl (by kernel_rfl) (by kernel_rfl) h0 hl) fun _ hs => ?_
  obtain ⟨x4, hz, hS⟩ := hS
  refine sY (Value.int .u64 x4) hs (Yl.loadBD 0 rfl rfl rfl (by kernel_rfl) hz) fun _ hs => ?_
  refine sP (Value.int .u8 b2) hs fun _ hs => ?_
  refine sP (Value.int .u8 (bAnd .u8 b2 63)) hs fun _ hs => ?_
  obtain ⟨h0, hS⟩ := hS
  refine sY (Value.int .u64 (bShr .u64 x4 (bAnd .u8 b2 63))) hs (Yl.shr rfl rfl rfl rfl h0) fun _ hs => ?_
  refine sP (Value.int .u64 (bAnd .u64 (bShr .u64 x4 (bAnd .u8 b2 63)) 1)) hs fun _ hs => ?_
  refine sP (Value.bool ((bAnd .u64 (bShr .u64 x4 (bAnd .u8 b2 63)) 1 : Int) == (1 : Int))) hs fun _ hs => ?_
  refine sP (Value.bool ((bAnd .u64 (bShr .u64 x4 (bAnd .u8 b2 63)) 1 : Int) == (1 : Int))) hs fun _ hs => ?_
  exact wpList_nil (Wp.ret (leaveE (K := fun v _ => K v) hs (resT hs rfl rfl) hMM.2 (fun _ _ => hS)))
set_option linter.unusedVariables false in
def S_chaffref_Has (s1 : X_api_Set) (b2 : Int) (M : Mem) (K : Value → Prop) : Prop :=
  (InI (b2.tdiv 64) ∧ ((0 : Int) ≤ b2.tdiv 64 ∧ b2.tdiv 64 < (4 : Int) ∧ (∃ x4 : Int, [s1.w0, s1.w1, s1.w2, s1.w3][0 + (b2.tdiv 64).toNat * 1]? = some x4 ∧ ((0 : Int) ≤ b2.tmod 64 ∧ K (Value.bool (((bShr .u64 x4 (b2.tmod 64)).tmod 2 : Int) == (1 : Int)))))))
set_option linter.unusedVariables false in
set_option maxRecDepth 100000 in
theorem s_chaffref_Has (s1 : X_api_Set) (b2 : Int) (M : Mem) (K : Value → Prop) (hS : S_chaffref_Has s1 b2 M K) : CallE Try.prog 85 #[s1.val, (Value.int .i64 b2)] M (fun v _ => K v) := by
  refine enterE Try.func85 rfl 14 rfl (Nat.le_of_ble_eq_true rfl) (fun E a hs => ?_)
  unfold S_chaffref_Has at hS
  have hMM := MX.refl M E
  change Sx 14 E [] M E a [(0, s1.val), (1, (Value.int .i64 b2))] [] [] at hs
  refine Wp.seq (Wp.region (stepBox [(Value.int .u64 s1.w0), (Value.int .u64 s1.w1), (Value.int .u64 s1.w2), (Value.int .u64 s1.w3)] hs rfl rfl rfl (by decide) (fun _ _ b3 hEb3 hs => ?_)))
  replace hs := hs.chbx (bs' := [⟨b3, 55, (List.map (Value.int .u64) [s1.w0, s1.w1, s1.w2, s1.w3])⟩]) rfl
  refine sP (Value.bool false) hs fun _ hs => ?_
  refine wpList_nil (Wp.seq (Wp.region (sP (Value.int .i64 b2) hs fun _ hs => ?_)))
  obtain ⟨hI, hS⟩ := hS
  refine sY (Value.int .i64 (b2.tdiv 64)) hs (Yl.eq (Yl.pure (v := Value.int .i64 (IntKind.wrap .i64 (b2.tdiv 64))) rfl (fun _ => by kernel_rfl)) (congrArg (Value.int .i64) (wrap_in hI))) fun _ hs => ?_
  obtain ⟨h0, hl, hS⟩ := hS
  refine sY (Value.pointer (some ⟨b3, 0 + (b2.tdiv 64).toNat * 1, none⟩)) hs (Yl.indexA (e := 53) (sz := 1) rfl rfl rfl rfl (by kernel_rfl) (by kernel_rfl) h0 hl) fun _ hs => ?_
  obtain ⟨x4, hz, hS⟩ := hS
  refine sY (Value.int .u64 x4) hs (Yl.loadBD 0 rfl rfl rfl (by kernel_rfl) hz) fun _ hs => ?_
  refine sP (Value.int .i64 b2) hs fun _ hs => ?_
  refine sP (Value.int .i64 (b2.tmod 64)) hs fun _ hs => ?_
  obtain ⟨h0, hS⟩ := hS
  refine sY (Value.int .u64 (bShr .u64 x4 (b2.tmod 64))) hs (Yl.shr rfl rfl rfl rfl h0) fun _ hs => ?_
  refine sP (Value.int .u64 ((bShr .u64 x4 (b2.tmod 64)).tmod 2)) hs fun _ hs => ?_
  refine sP (Value.bool (((bShr .u64 x4 (b2.tmod 64)).tmod 2 : Int) == (1 : Int))) hs fun _ hs => ?_
  refine sP (Value.bool (((bShr .u64 x4 (b2.tmod 64)).tmod 2 : Int) == (1 : Int))) hs fun _ hs => ?_
  exact wpList_nil (Wp.ret (leaveE (K := fun v _ => K v) hs (resT hs rfl rfl) hMM.2 (fun _ _ => hS)))
set_option linter.unusedVariables false in
def S_chaffref_Where_J1 (x12 : Int) (zs13 : List Int) (I14 : Int → List Int → Prop) (mu15 : Int → List Int → Nat) (zs18 : List Int) (K : Value → Prop) : Prop :=
  (InI (x12 + 1) ∧ I14 (x12 + 1) zs18 ∧ mu15 (x12 + 1) zs18 < mu15 x12 zs13)
set_option linter.unusedVariables false in
def S_chaffref_Where (is1 : Value) (M : Mem) (K : Value → Prop) : Prop :=
  (∃ (I14 : Int → List Int → Prop) (mu15 : Int → List Int → Nat), I14 0 [0, 0, 0, 0] ∧ ∀ (x12 : Int) (zs13 : List Int), (I14 x12 zs13 → ((x12 < 256 → (CallF Try.prog is1 [(Value.int .i64 x12)] M (fun v _ => ∃ (x16 : Bool), v = (Value.bool x16) ∧ ((x16 = true → (InI (x12.tdiv 64) ∧ ((0 : Int) ≤ x12.tdiv 64 ∧ x12.tdiv 64 < (4 : Int) ∧ (∃ x17 : Int, zs13[0 + (x12.tdiv 64).toNat * 1]? = some x17 ∧ ((0 : Int) ≤ x12.tmod 64 ∧ ((0 : Int) ≤ x12.tdiv 64 ∧ x12.tdiv 64 < (4 : Int) ∧ (0 + (x12.tdiv 64).toNat * 1 < (zs13).length ∧ (S_chaffref_Where_J1 x12 zs13 I14 mu15 ((zs13).set (0 + (x12.tdiv 64).toNat * 1) (IntKind.wrap .u64 (x17 + (bShl .u64 1 (x12.tmod 64))))) K)))))))) ∧ (¬ (x16 = true) → (S_chaffref_Where_J1 x12 zs13 I14 mu15 zs13 K)))))) ∧ (¬ (x12 < 256) → (∃ z19 z20 z21 z22 : Int, zs13 = [z19, z20, z21, z22] ∧ ((zs13).length = 4 ∧ (∃ z23 z24 z25 z26 : Int, [z19, z20, z21, z22] = [z23, z24, z25, z26] ∧ K (X_api_Set.mk z23 z24 z25 z26).val)))))))
set_option linter.unusedVariables false in
set_option maxRecDepth 100000 in
theorem s_chaffref_Where (is1 : Value) (M : Mem) (K : Value → Prop) (hS : S_chaffref_Where is1 M K) : CallE Try.prog 82 #[is1] M (fun v _ => K v) := by
  refine enterE Try.func82 rfl 21 rfl (Nat.le_of_ble_eq_true rfl) (fun E a hs => ?_)
  unfold S_chaffref_Where at hS
  have hMM := MX.refl M E
  change Sx 21 E [] M E a [(0, is1)] [] [] at hs
  refine Wp.seq (Wp.region (stepAlloc [(Value.int .u64 0), (Value.int .u64 0), (Value.int .u64 0), (Value.int .u64 0)] hs (by kernel_rfl) (by decide) (fun _ _ b2 hEb2 hs => ?_)))
  replace hs := hs.chbx (bs' := [⟨b2, 55, (List.map (Value.int .u64) [0, 0, 0, 0])⟩]) rfl
  refine wpList_nil (Wp.seq (Wp.seq (Wp.region (sP (Value.int .i64 0) hs fun _ hs => ?_))))
  refine wpList_nil (Wp.block ?_)
  obtain ⟨I14, mu15, hI0, hst⟩ := hS
  refine Wp.loop (σ := (Int) × (List Int)) (fun s a w => match s with | (x12, zs13) => Sx 21 E [] M w a [(0, is1), (2, (Value.pointer (some ⟨b2, 0, none⟩))), (4, (Value.int .i64 x12))] [⟨b2, 55, (List.map (Value.int .u64) zs13)⟩] [] ∧ I14 x12 zs13) (fun s => match s with | (x12, zs13) => mu15 x12 zs13) (0, [0, 0, 0, 0]) ⟨(hs.weak (List.Sublist.refl _) (List.Sublist.refl _) ⟨rfl, rfl, rfl, trivial⟩), hI0⟩ (fun s a w hI => ?_)
  obtain ⟨x12, zs13⟩ := s
  obtain ⟨hs, hI⟩ := hI
  have hS := hst x12 zs13 hI
  clear hst hI0 hI
  refine Wp.seq (Wp.region (sP (Value.bool (decide (x12 < 256))) hs fun _ hs => ?_))
  refine wpList_nil (Wp.seq (Wp.cond hs rfl rfl decide_eq_true_iff (fun hc => ?_) (fun hc => ?_)))
  · have hS := hS.1 hc
    refine Wp.skip (Wp.join (fun a w => ∃ (zs18 : List Int), Sx 21 E [] M w a [(0, is1), (2, (Value.pointer (some ⟨b2, 0, none⟩))), (4, (Value.int .i64 x12))] [⟨b2, 55, (List.map (Value.int .u64) zs18)⟩] [] ∧ (S_chaffref_Where_J1 x12 zs13 I14 mu15 zs18 K)) ?_ ?_)
    · refine Wp.block (Wp.seq (Wp.region (sP (Value.int .i64 x12) hs fun _ hs => ?_)))
      refine sP (Value.int .i64 x12) hs fun _ hs => ?_
      refine wpList_nil (Wp.seq (Wp.region (sP is1 hs fun _ hs => ?_)))
      refine sP (Value.int .i64 x12) hs fun _ hs => ?_
      refine stepCallG [(Value.int .i64 x12)] hs rfl ⟨_, rfl, rfl⟩ rfl (by decide) hS (fun _ _ v hS hs => ?_)
      obtain ⟨x16, hv, hS⟩ := hS
      subst hv
      refine wpList_nil (Wp.cond hs rfl rfl Iff.rfl (fun hc => ?_) (fun hc => ?_))
      · have hS := hS.1 hc
        refine Wp.regionD [true, true, true, true, true, true, true, true, true, false] hs (by kernel_rfl) rfl [⟨b2, 55, (List.map (Value.int .u64) zs13)⟩] (fun _ h => h) [] (fun _ h => h) (fun _ hs hC => ?_)
        have hL := Mem.le.refl M
        refine dP (Value.int .i64 x12) 0 [1, 2, 3, 7, 8, 9] hs QZ.no (wanted_none rfl) fun _ hs => ?_
        obtain ⟨hI, hS⟩ := hS
        refine stepDP (v := (Value.int .i64 (x12.tdiv 64))) 1 [2, 3, 7, 8, 9] hs QZ.no rfl (wanted_none rfl) rfl (by decide) (by kernel_rfl) (by kernel_rfl) (by kernel_rfl) (Yl.eq (Yl.pure (v := Value.int .i64 (IntKind.wrap .i64 (x12.tdiv 64))) rfl (fun _ => by kernel_rfl)) (congrArg (Value.int .i64) (wrap_in hI))) (fun _ hs => ?_)
        obtain ⟨h0, hl, hS⟩ := hS
        refine stepDP (v := (Value.pointer (some ⟨b2, 0 + (x12.tdiv 64).toNat * 1, none⟩))) 2 [3, 7, 8, 9] hs QZ.no rfl (wanted_none rfl) rfl (by decide) (by kernel_rfl) (by kernel_rfl) (by kernel_rfl) (Yl.indexA (e := 53) (sz := 1) rfl rfl rfl rfl (by kernel_rfl) (by kernel_rfl) h0 hl) (fun _ hs => ?_)
        obtain ⟨x17, hz, hS⟩ := hS
        refine stepDY (v := (Value.int .u64 x17)) 3 [7, 8, 9] hs hC QZ.no rfl (wanted_none rfl) rfl (by decide) (by kernel_rfl) (by kernel_rfl) (by kernel_rfl) (Yl.loadBD 0 rfl rfl rfl (by kernel_rfl) hz) (fun _ hs => ?_)
        refine stepDE 4 rfl (wanted_none rfl) (by kernel_rfl) #[] ?_
        refine sP (Value.int .i64 x12) hs fun _ hs => ?_
        refine wpList_nil (⟨fun _ h => h, ?_⟩)
        refine stepDE 5 rfl (wanted_none rfl) (by kernel_rfl) #[] ?_
        refine sP (Value.int .i64 (x12.tmod 64)) hs fun _ hs => ?_
        refine wpList_nil (⟨fun _ h => h, ?_⟩)
        refine stepDE 6 rfl (wanted_none rfl) (by kernel_rfl) #[] ?_
        obtain ⟨h0, hS⟩ := hS
        refine sY (Value.int .u64 (bShl .u64 1 (x12.tmod 64))) hs (Yl.shl rfl rfl rfl rfl h0) fun _ hs => ?_
        refine wpList_nil (⟨fun _ h => h, ?_⟩)
        refine stepDE 7 rfl (wanted_none rfl) (by kernel_rfl) #[] ?_
        refine sP (Value.int .u64 (IntKind.wrap .u64 (x17 + (bShl .u64 1 (x12.tmod 64))))) hs fun _ hs => ?_
        refine wpList_nil (⟨fun _ h => h, ?_⟩)
        refine stepDE 8 rfl (wanted_none rfl) (by kernel_rfl) #[] ?_
        obtain ⟨h0, hl, hS⟩ := hS
        refine sY (Value.pointer (some ⟨b2, 0 + (x12.tdiv 64).toNat * 1, none⟩)) hs (Yl.indexA (e := 53) (sz := 1) rfl rfl rfl rfl (by kernel_rfl) (by kernel_rfl) h0 hl) fun _ hs => ?_
        refine wpList_nil (⟨fun _ h => h, ?_⟩)
        refine stepDE 9 rfl (wanted_none rfl) (by kernel_rfl) #[] ?_
        obtain ⟨hlt, hS⟩ := hS
        refine stepStoreBD 0 (zs := zs13) hs rfl rfl rfl rfl rfl (by kernel_rfl) hlt (fun _ _ hs => ?_)
        replace hs := hs.chbx (bs' := [⟨b2, 55, (List.map (Value.int .u64) ((zs13).set (0 + (x12.tdiv 64).toNat * 1) (IntKind.wrap .u64 (x17 + (bShl .u64 1 (x12.tmod 64))))))⟩]) rfl
        refine wpList_nil (⟨fun h => absurd h (by decide), ?_⟩)
        refine WpD.done (by kernel_rfl) ?_ _
        exact ⟨((zs13).set (0 + (x12.tdiv 64).toNat * 1) (IntKind.wrap .u64 (x17 + (bShl .u64 1 (x12.tmod 64))))), (hs.weak (List.Sublist.refl _) (List.Sublist.refl _) ⟨rfl, rfl, rfl, trivial⟩), hS⟩
      · have hS := hS.2 hc
        exact Wp.skip (⟨zs13, (hs.weak (List.Sublist.refl _) (List.Sublist.refl _) ⟨rfl, rfl, rfl, trivial⟩), hS⟩)
    · intro a w hJ
      obtain ⟨zs18, hs, hS⟩ := hJ
      unfold S_chaffref_Where_J1 at hS
      refine Wp.region ?_
      obtain ⟨hI, hS⟩ := hS
      refine sY (Value.int .i64 (x12 + 1)) hs (Yl.eq (Yl.pure (v := Value.int .i64 (IntKind.wrap .i64 (x12 + 1))) rfl (fun _ => by kernel_rfl)) (congrArg (Value.int .i64) (wrap_in hI))) fun _ hs => ?_
      refine sP (Value.int .i64 (x12 + 1)) hs fun _ hs => ?_
      exact wpList_nil (⟨(x12 + 1, zs18), ⟨(hs.weak (List.Sublist.refl _) (List.Sublist.refl _) ⟨rfl, rfl, rfl, trivial⟩), hS.1⟩, hS.2⟩)
  · have hS := hS.2 hc
    refine Wp.exit rfl (Wp.seq (Wp.region ?_))
    obtain ⟨z19, z20, z21, z22, hz, hS⟩ := hS
    refine sY (X_api_Set.mk z19 z20 z21 z22).val hs (Yl.loadBA 0 rfl rfl rfl rfl (by kernel_rfl) hz) fun _ hs => ?_
    obtain ⟨hlt, hS⟩ := hS
    refine stepStoreBA 0 (zs := zs13) (ys := [z19, z20, z21, z22]) hs rfl rfl rfl rfl rfl (by kernel_rfl) hlt (fun _ _ hs => ?_)
    replace hs := hs.chbx (bs' := [⟨b2, 55, (List.map (Value.int .u64) [z19, z20, z21, z22])⟩]) rfl
    refine wpList_nil (Wp.ret ?_)
    obtain ⟨z23, z24, z25, z26, hz, hS⟩ := hS
    replace hs := hs.chbx (bs' := [⟨b2, 55, [(Value.int .u64 z23), (Value.int .u64 z24), (Value.int .u64 z25), (Value.int .u64 z26)]⟩]) (by first | rw [hz]; rfl | rfl)
    exact leaveE (K := fun v _ => K v) hs (resC (vs := [(Value.int .u64 z23), (Value.int .u64 z24), (Value.int .u64 z25), (Value.int .u64 z26)]) true 0 hs rfl rfl rfl (by kernel_rfl) rfl) hMM.2 (fun _ _ => hS)

end Go.Proofs.Ytaljnkggjadonaa.core
