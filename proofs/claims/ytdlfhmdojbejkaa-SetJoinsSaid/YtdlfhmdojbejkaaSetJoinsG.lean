/- What the code that SetJoins reaches computes, function for function, as shallow propositions; printed by program. -/
import Derived.Test.YtdlfhmdojbejkaaRows
import Derived.Test.YtdlfhmdojbejkaaGxD
import Derived.Test.YtdlfhmdojbejkaaGxE
import Derived.Test.YtdlfhmdojbejkaaGxS
import Derived.Test.YtdlfhmdojbejkaaGxT
namespace Go.Proofs.Ytdlfhmdojbejkaa.lawSetJoins
open Go.Gx Go.RowKit Go.ChangeShapes Go.WideShapes Go.ChangeAt
set_option linter.unusedVariables false in
def S_set_both (s1 : Int) (s2 : Int) (s3 : Int) (s4 : Int) (t5 : Int) (t6 : Int) (t7 : Int) (t8 : Int) (f9 : Value) (M : Mem) (K : Value → Prop) : Prop :=
  (∃ (I24 : Int → List Int → Prop) (mu25 : Int → List Int → Nat), I24 0 [s1, s2, s3, s4] ∧ ∀ (x22 : Int) (zs23 : List Int), (I24 x22 zs23 → ((x22 < 4 → ((0 : Int) ≤ x22 ∧ x22 < (4 : Int) ∧ (∃ x26 : Int, zs23[0 + x22.toNat * 1]? = some x26 ∧ ((0 : Int) ≤ x22 ∧ x22 < (4 : Int) ∧ (∃ x27 : Int, [t5, t6, t7, t8][0 + x22.toNat * 1]? = some x27 ∧ (CallF Try.prog f9 [(Value.int .u64 x26), (Value.int .u64 x27)] M (fun v _ => ∃ (x28 : Int), v = (Value.int .u64 x28) ∧ ((0 : Int) ≤ x22 ∧ x22 < (4 : Int) ∧ (0 + x22.toNat * 1 < (zs23).length ∧ (InI (x22 + 1) ∧ I24 (x22 + 1) ((zs23).set (0 + x22.toNat * 1) x28) ∧ mu25 (x22 + 1) ((zs23).set (0 + x22.toNat * 1) x28) < mu25 x22 zs23)))))))))) ∧ (¬ (x22 < 4) → (∃ z29 z30 z31 z32 : Int, zs23 = [z29, z30, z31, z32] ∧ (([0, 0, 0, 0]).length = 4 ∧ (∃ z33 z34 z35 z36 : Int, [z29, z30, z31, z32] = [z33, z34, z35, z36] ∧ K (Value.agg #[(Value.int .u64 z33), (Value.int .u64 z34), (Value.int .u64 z35), (Value.int .u64 z36)]))))))))
set_option linter.unusedVariables false in
set_option maxRecDepth 100000 in
theorem s_set_both (s1 : Int) (s2 : Int) (s3 : Int) (s4 : Int) (t5 : Int) (t6 : Int) (t7 : Int) (t8 : Int) (f9 : Value) (M : Mem) (K : Value → Prop) (hS : S_set_both s1 s2 s3 s4 t5 t6 t7 t8 f9 M K) : CallE Try.prog 59 #[(Value.agg #[(Value.int .u64 s1), (Value.int .u64 s2), (Value.int .u64 s3), (Value.int .u64 s4)]), (Value.agg #[(Value.int .u64 t5), (Value.int .u64 t6), (Value.int .u64 t7), (Value.int .u64 t8)]), f9] M (fun v _ => K v) := by
  refine enterE Try.func59 rfl 23 rfl (Nat.le_of_ble_eq_true rfl) (fun E a hs => ?_)
  unfold S_set_both at hS
  have hMM := MX.refl M E
  change Sx 23 E [] M E a [(0, (Value.agg #[(Value.int .u64 s1), (Value.int .u64 s2), (Value.int .u64 s3), (Value.int .u64 s4)])), (1, (Value.agg #[(Value.int .u64 t5), (Value.int .u64 t6), (Value.int .u64 t7), (Value.int .u64 t8)])), (2, f9)] [] [] at hs
  refine Wp.seq ?_
  refine Wp.region ?_
  refine stepBox [(Value.int .u64 s1), (Value.int .u64 s2), (Value.int .u64 s3), (Value.int .u64 s4)] hs rfl rfl rfl (by decide) (fun _ _ b10 hEb10 hs => ?_)
  replace hs := hs.chbx (bs' := [⟨b10, 29, (List.map (Value.int .u64) [s1, s2, s3, s4])⟩]) rfl
  refine stepBox [(Value.int .u64 t5), (Value.int .u64 t6), (Value.int .u64 t7), (Value.int .u64 t8)] hs rfl rfl rfl (by decide) (fun _ _ b11 hEb11 hs => ?_)
  replace hs := hs.chbx (bs' := [⟨b11, 29, (List.map (Value.int .u64) [t5, t6, t7, t8])⟩, ⟨b10, 29, (List.map (Value.int .u64) [s1, s2, s3, s4])⟩]) rfl
  refine stepAlloc [(Value.int .u64 0), (Value.int .u64 0), (Value.int .u64 0), (Value.int .u64 0)] hs (by kernel_rfl) (by decide) (fun _ _ b12 hEb12 hs => ?_)
  replace hs := hs.chbx (bs' := [⟨b12, 29, (List.map (Value.int .u64) [0, 0, 0, 0])⟩, ⟨b11, 29, (List.map (Value.int .u64) [t5, t6, t7, t8])⟩, ⟨b10, 29, (List.map (Value.int .u64) [s1, s2, s3, s4])⟩]) rfl
  refine wpList_nil ?_
  refine Wp.seq ?_
  refine Wp.seq ?_
  refine Wp.region ?_
  refine stepY (v := (Value.int .i64 0)) hs rfl rfl (by decide) (Yl.pure rfl (fun _ => by kernel_rfl)) (fun _ hs => ?_)
  refine wpList_nil ?_
  refine Wp.block ?_
  obtain ⟨I24, mu25, hI0, hst⟩ := hS
  refine Wp.loop (σ := (Int) × (List Int)) (fun s a w => match s with | (x22, zs23) => Sx 23 E [] M w a [(2, f9), (3, (Value.pointer (some ⟨b10, 0, none⟩))), (4, (Value.pointer (some ⟨b11, 0, none⟩))), (6, (Value.pointer (some ⟨b12, 0, none⟩))), (8, (Value.int .i64 x22))] [⟨b12, 29, (List.map (Value.int .u64) [0, 0, 0, 0])⟩, ⟨b11, 29, (List.map (Value.int .u64) [t5, t6, t7, t8])⟩, ⟨b10, 29, (List.map (Value.int .u64) zs23)⟩] [] ∧ I24 x22 zs23) (fun s => match s with | (x22, zs23) => mu25 x22 zs23) (0, [s1, s2, s3, s4]) ⟨(hs.weak (List.Sublist.refl _) (List.Sublist.refl _) ⟨rfl, rfl, rfl, rfl, rfl, trivial⟩), hI0⟩ (fun s a w hI => ?_)
  obtain ⟨x22, zs23⟩ := s
  obtain ⟨hs, hI⟩ := hI
  have hS := hst x22 zs23 hI
  clear hst hI0 hI
  refine Wp.seq ?_
  refine Wp.region ?_
  refine stepY (v := (Value.bool (decide (x22 < 4)))) hs rfl rfl (by decide) (Yl.pure rfl (fun _ => by kernel_rfl)) (fun _ hs => ?_)
  refine wpList_nil ?_
  refine Wp.seq ?_
  refine Wp.cond hs rfl rfl decide_eq_true_iff (fun hc => ?_) (fun hc => ?_)
  · have hS := hS.1 hc
    refine Wp.skip ?_
    refine Wp.seq ?_
    refine Wp.block ?_
    refine Wp.seq ?_
    refine Wp.region ?_
    refine stepY (v := (Value.int .i64 x22)) hs rfl rfl (by decide) (Yl.pure rfl (fun _ => by kernel_rfl)) (fun _ hs => ?_)
    refine stepY (v := (Value.int .i64 x22)) hs rfl rfl (by decide) (Yl.pure rfl (fun _ => by kernel_rfl)) (fun _ hs => ?_)
    refine wpList_nil ?_
    refine Wp.regionD [true, true, true, true, true, true, true, true, true, true, false] hs (by kernel_rfl) rfl [⟨b12, 29, (List.map (Value.int .u64) [0, 0, 0, 0])⟩, ⟨b11, 29, (List.map (Value.int .u64) [t5, t6, t7, t8])⟩, ⟨b10, 29, (List.map (Value.int .u64) zs23)⟩] (fun _ h => h) [] (fun _ h => h) (fun _ hs hC => ?_)
    have hL := Mem.le.refl M
    refine stepDP (v := (Value.int .i64 x22)) 0 [9, 10] hs QZ.no rfl (wanted_none rfl) rfl (by decide) (by kernel_rfl) (by kernel_rfl) (by kernel_rfl) (Yl.pure rfl (fun _ => by kernel_rfl)) (fun _ hs => ?_)
    refine stepDP (v := f9) 1 [8, 9, 10] hs QZ.no rfl (wanted_none rfl) rfl (by decide) (by kernel_rfl) (by kernel_rfl) (by kernel_rfl) (Yl.pure rfl (fun _ => by kernel_rfl)) (fun _ hs => ?_)
    refine stepDP (v := (Value.int .i64 x22)) 2 [3, 4, 8, 9, 10] hs QZ.no rfl (wanted_none rfl) rfl (by decide) (by kernel_rfl) (by kernel_rfl) (by kernel_rfl) (Yl.pure rfl (fun _ => by kernel_rfl)) (fun _ hs => ?_)
    obtain ⟨h0, hl, hS⟩ := hS
    refine stepDP (v := (Value.pointer (some ⟨b10, 0 + x22.toNat * 1, none⟩))) 3 [4, 8, 9, 10] hs QZ.no rfl (wanted_none rfl) rfl (by decide) (by kernel_rfl) (by kernel_rfl) (by kernel_rfl) (Yl.indexA (e := 27) (sz := 1) rfl rfl rfl rfl (by kernel_rfl) (by kernel_rfl) h0 hl) (fun _ hs => ?_)
    obtain ⟨x26, hz, hS⟩ := hS
    refine stepDY (v := (Value.int .u64 x26)) 4 [8, 9, 10] hs hC QZ.no rfl (wanted_none rfl) rfl (by decide) (by kernel_rfl) (by kernel_rfl) (by kernel_rfl) (Yl.loadBD 2 rfl rfl rfl (by kernel_rfl) hz) (fun _ hs => ?_)
    refine stepDE 5 rfl (wanted_none rfl) (by kernel_rfl) #[] ?_
    refine stepY (v := (Value.int .i64 x22)) hs rfl rfl (by decide) (Yl.pure rfl (fun _ => by kernel_rfl)) (fun _ hs => ?_)
    refine wpList_nil ?_
    refine ⟨fun _ h => h, ?_⟩
    refine stepDE 6 rfl (wanted_none rfl) (by kernel_rfl) #[] ?_
    obtain ⟨h0, hl, hS⟩ := hS
    refine stepY (v := (Value.pointer (some ⟨b11, 0 + x22.toNat * 1, none⟩))) hs rfl rfl (by decide) (Yl.indexA (e := 27) (sz := 1) rfl rfl rfl rfl (by kernel_rfl) (by kernel_rfl) h0 hl) (fun _ hs => ?_)
    refine wpList_nil ?_
    refine ⟨fun _ h => h, ?_⟩
    refine stepDE 7 rfl (wanted_none rfl) (by kernel_rfl) #[] ?_
    obtain ⟨x27, hz, hS⟩ := hS
    refine stepY (v := (Value.int .u64 x27)) hs rfl rfl (by decide) (Yl.loadBD 1 rfl rfl rfl (by kernel_rfl) hz) (fun _ hs => ?_)
    refine wpList_nil ?_
    refine ⟨fun _ h => h, ?_⟩
    refine stepDE 8 rfl (wanted_none rfl) (by kernel_rfl) #[] ?_
    refine stepCallG [(Value.int .u64 x26), (Value.int .u64 x27)] hs rfl ⟨_, rfl, rfl⟩ rfl (by decide) hS (fun _ _ v hS hs => ?_)
    obtain ⟨x28, hv, hS⟩ := hS
    subst hv
    refine wpList_nil ?_
    refine ⟨fun _ _ => hs.cxle hL (List.Sublist.refl _) (List.Sublist.refl _), ?_⟩
    have hC := hs.cxle hL (List.Sublist.refl _) (List.Sublist.refl _)
    refine stepDE 9 rfl (wanted_none rfl) (by kernel_rfl) #[] ?_
    obtain ⟨h0, hl, hS⟩ := hS
    refine stepY (v := (Value.pointer (some ⟨b10, 0 + x22.toNat * 1, none⟩))) hs rfl rfl (by decide) (Yl.indexA (e := 27) (sz := 1) rfl rfl rfl rfl (by kernel_rfl) (by kernel_rfl) h0 hl) (fun _ hs => ?_)
    refine wpList_nil ?_
    refine ⟨fun _ h => h, ?_⟩
    refine stepDE 10 rfl (wanted_none rfl) (by kernel_rfl) #[] ?_
    obtain ⟨hlt, hS⟩ := hS
    refine stepStoreBD 2 (zs := zs23) hs rfl rfl rfl rfl rfl (by kernel_rfl) hlt (fun _ _ hs => ?_)
    replace hs := hs.chbx (bs' := [⟨b12, 29, (List.map (Value.int .u64) [0, 0, 0, 0])⟩, ⟨b11, 29, (List.map (Value.int .u64) [t5, t6, t7, t8])⟩, ⟨b10, 29, (List.map (Value.int .u64) ((zs23).set (0 + x22.toNat * 1) x28))⟩]) rfl
    refine wpList_nil ?_
    refine ⟨fun h => absurd h (by decide), ?_⟩
    refine WpD.done (by kernel_rfl) ?_ _
    refine Wp.region ?_
    obtain ⟨hI, hS⟩ := hS
    refine stepY (v := (Value.int .i64 (x22 + 1))) hs rfl rfl (by decide) (Yl.eq (Yl.pure (v := Value.int .i64 (IntKind.wrap .i64 (x22 + 1))) rfl (fun _ => by kernel_rfl)) (congrArg (Value.int .i64) (wrap_in hI))) (fun _ hs => ?_)
    refine stepY (v := (Value.int .i64 (x22 + 1))) hs rfl rfl (by decide) (Yl.pure rfl (fun _ => by kernel_rfl)) (fun _ hs => ?_)
    refine wpList_nil ?_
    exact ⟨(x22 + 1, (zs23).set (0 + x22.toNat * 1) x28), ⟨(hs.weak (List.Sublist.refl _) (List.Sublist.refl _) ⟨rfl, rfl, rfl, rfl, rfl, trivial⟩), hS.1⟩, hS.2⟩
  · have hS := hS.2 hc
    refine Wp.exit rfl ?_
    refine Wp.seq ?_
    refine Wp.region ?_
    obtain ⟨z29, z30, z31, z32, hz, hS⟩ := hS
    refine stepY (v := (Value.agg #[(Value.int .u64 z29), (Value.int .u64 z30), (Value.int .u64 z31), (Value.int .u64 z32)])) hs rfl rfl (by decide) (Yl.loadBA 2 rfl rfl rfl rfl (by kernel_rfl) hz) (fun _ hs => ?_)
    obtain ⟨hlt, hS⟩ := hS
    refine stepStoreBA 0 (zs := [0, 0, 0, 0]) (ys := [z29, z30, z31, z32]) hs rfl rfl rfl rfl rfl (by kernel_rfl) hlt (fun _ _ hs => ?_)
    replace hs := hs.chbx (bs' := [⟨b12, 29, (List.map (Value.int .u64) [z29, z30, z31, z32])⟩, ⟨b11, 29, (List.map (Value.int .u64) [t5, t6, t7, t8])⟩, ⟨b10, 29, (List.map (Value.int .u64) zs23)⟩]) rfl
    refine wpList_nil ?_
    refine Wp.ret ?_
    obtain ⟨z33, z34, z35, z36, hz, hS⟩ := hS
    replace hs := hs.chbx (bs' := [⟨b12, 29, [(Value.int .u64 z33), (Value.int .u64 z34), (Value.int .u64 z35), (Value.int .u64 z36)]⟩, ⟨b11, 29, (List.map (Value.int .u64) [t5, t6, t7, t8])⟩, ⟨b10, 29, (List.map (Value.int .u64) zs23)⟩]) (by first | rw [hz]; rfl | rfl)
    exact leaveE (K := fun v _ => K v) hs (resC (vs := [(Value.int .u64 z33), (Value.int .u64 z34), (Value.int .u64 z35), (Value.int .u64 z36)]) true 0 hs rfl rfl rfl (by kernel_rfl) rfl) hMM.2 (fun _ _ => hS)
theorem f_set_both (s1 : Int) (s2 : Int) (s3 : Int) (s4 : Int) (t5 : Int) (t6 : Int) (t7 : Int) (t8 : Int) (f9 : Value) (M : Mem) (K : Value → Prop) (hS : S_set_both s1 s2 s3 s4 t5 t6 t7 t8 f9 M K) : CallF Try.prog (Value.func (.func 59) #[] #[]) [(Value.agg #[(Value.int .u64 s1), (Value.int .u64 s2), (Value.int .u64 s3), (Value.int .u64 s4)]), (Value.agg #[(Value.int .u64 t5), (Value.int .u64 t6), (Value.int .u64 t7), (Value.int .u64 t8)]), f9] M (fun v _ => K v) := ⟨59, _, _, _, rfl, Try.func59, rfl, (by decide), s_set_both _ _ _ _ _ _ _ _ _ _ _ hS⟩
set_option linter.unusedVariables false in
def S_set_Join_1 (a1 : Int) (b2 : Int) (M : Mem) (K : Value → Prop) : Prop :=
  K (Value.int .u64 (bOr .u64 a1 b2))
set_option linter.unusedVariables false in
set_option maxRecDepth 100000 in
theorem s_set_Join_1 (a1 : Int) (b2 : Int) (M : Mem) (K : Value → Prop) (hS : S_set_Join_1 a1 b2 M K) : CallE Try.prog 60 #[(Value.int .u64 a1), (Value.int .u64 b2)] M (fun v _ => K v) := by
  refine enterE Try.func60 rfl 8 rfl (Nat.le_of_ble_eq_true rfl) (fun E a hs => ?_)
  unfold S_set_Join_1 at hS
  have hMM := MX.refl M E
  change Sx 8 E [] M E a [(0, (Value.int .u64 a1)), (1, (Value.int .u64 b2))] [] [] at hs
  refine Wp.seq ?_
  refine Wp.region ?_
  refine stepY (v := (Value.int .u64 0)) hs rfl rfl (by decide) (Yl.pure rfl (fun _ => by kernel_rfl)) (fun _ hs => ?_)
  refine wpList_nil ?_
  refine Wp.seq ?_
  refine Wp.region ?_
  refine stepY (v := (Value.int .u64 a1)) hs rfl rfl (by decide) (Yl.pure rfl (fun _ => by kernel_rfl)) (fun _ hs => ?_)
  refine stepY (v := (Value.int .u64 b2)) hs rfl rfl (by decide) (Yl.pure rfl (fun _ => by kernel_rfl)) (fun _ hs => ?_)
  refine stepY (v := (Value.int .u64 (bOr .u64 a1 b2))) hs rfl rfl (by decide) (Yl.pure rfl (fun _ => by kernel_rfl)) (fun _ hs => ?_)
  refine stepY (v := (Value.int .u64 (bOr .u64 a1 b2))) hs rfl rfl (by decide) (Yl.pure rfl (fun _ => by kernel_rfl)) (fun _ hs => ?_)
  refine wpList_nil ?_
  refine Wp.ret ?_
  exact leaveE (K := fun v _ => K v) hs (resT hs rfl rfl) hMM.2 (fun _ _ => hS)
theorem f_set_Join_1 (a1 : Int) (b2 : Int) (M : Mem) (K : Value → Prop) (hS : S_set_Join_1 a1 b2 M K) : CallF Try.prog (Value.func (.func 60) #[] #[]) [(Value.int .u64 a1), (Value.int .u64 b2)] M (fun v _ => K v) := ⟨60, _, _, _, rfl, Try.func60, rfl, (by decide), s_set_Join_1 _ _ _ _ hS⟩
set_option linter.unusedVariables false in
def S_set_Join (s1 : Int) (s2 : Int) (s3 : Int) (s4 : Int) (t5 : Int) (t6 : Int) (t7 : Int) (t8 : Int) (M : Mem) (K : Value → Prop) : Prop :=
  (CallE Try.prog 59 #[(Value.agg #[(Value.int .u64 s1), (Value.int .u64 s2), (Value.int .u64 s3), (Value.int .u64 s4)]), (Value.agg #[(Value.int .u64 t5), (Value.int .u64 t6), (Value.int .u64 t7), (Value.int .u64 t8)]), (Value.func (.func 60) #[] #[])] M (fun v _ => ∃ (x12 : Int) (x13 : Int) (x14 : Int) (x15 : Int), v = (Value.agg #[(Value.int .u64 x12), (Value.int .u64 x13), (Value.int .u64 x14), (Value.int .u64 x15)]) ∧ K (Value.agg #[(Value.int .u64 x12), (Value.int .u64 x13), (Value.int .u64 x14), (Value.int .u64 x15)])))
set_option linter.unusedVariables false in
set_option maxRecDepth 100000 in
theorem s_set_Join (s1 : Int) (s2 : Int) (s3 : Int) (s4 : Int) (t5 : Int) (t6 : Int) (t7 : Int) (t8 : Int) (M : Mem) (K : Value → Prop) (hS : S_set_Join s1 s2 s3 s4 t5 t6 t7 t8 M K) : CallE Try.prog 15 #[(Value.agg #[(Value.int .u64 s1), (Value.int .u64 s2), (Value.int .u64 s3), (Value.int .u64 s4)]), (Value.agg #[(Value.int .u64 t5), (Value.int .u64 t6), (Value.int .u64 t7), (Value.int .u64 t8)])] M (fun v _ => K v) := by
  refine enterE Try.func15 rfl 8 rfl (Nat.le_of_ble_eq_true rfl) (fun E a hs => ?_)
  unfold S_set_Join at hS
  have hMM := MX.refl M E
  change Sx 8 E [] M E a [(0, (Value.agg #[(Value.int .u64 s1), (Value.int .u64 s2), (Value.int .u64 s3), (Value.int .u64 s4)])), (1, (Value.agg #[(Value.int .u64 t5), (Value.int .u64 t6), (Value.int .u64 t7), (Value.int .u64 t8)]))] [] [] at hs
  refine Wp.seq ?_
  refine Wp.region ?_
  refine stepBox [(Value.int .u64 s1), (Value.int .u64 s2), (Value.int .u64 s3), (Value.int .u64 s4)] hs rfl rfl rfl (by decide) (fun _ _ b9 hEb9 hs => ?_)
  refine stepBox [(Value.int .u64 t5), (Value.int .u64 t6), (Value.int .u64 t7), (Value.int .u64 t8)] hs rfl rfl rfl (by decide) (fun _ _ b10 hEb10 hs => ?_)
  refine stepAlloc [(Value.int .u64 0), (Value.int .u64 0), (Value.int .u64 0), (Value.int .u64 0)] hs (by kernel_rfl) (by decide) (fun _ _ b11 hEb11 hs => ?_)
  refine wpList_nil ?_
  refine Wp.seq ?_
  refine Wp.region ?_
  refine stepY (v := (Value.agg #[(Value.int .u64 s1), (Value.int .u64 s2), (Value.int .u64 s3), (Value.int .u64 s4)])) hs rfl rfl (by decide) (Yl.loadB (vs := [(Value.int .u64 s1), (Value.int .u64 s2), (Value.int .u64 s3), (Value.int .u64 s4)]) true 2 rfl rfl rfl (by kernel_rfl) rfl) (fun _ hs => ?_)
  refine stepY (v := (Value.agg #[(Value.int .u64 t5), (Value.int .u64 t6), (Value.int .u64 t7), (Value.int .u64 t8)])) hs rfl rfl (by decide) (Yl.loadB (vs := [(Value.int .u64 t5), (Value.int .u64 t6), (Value.int .u64 t7), (Value.int .u64 t8)]) true 1 rfl rfl rfl (by kernel_rfl) rfl) (fun _ hs => ?_)
  refine stepCallP [(Value.agg #[(Value.int .u64 s1), (Value.int .u64 s2), (Value.int .u64 s3), (Value.int .u64 s4)]), (Value.agg #[(Value.int .u64 t5), (Value.int .u64 t6), (Value.int .u64 t7), (Value.int .u64 t8)]), (Value.func (.func 60) #[] #[])] hs rfl ⟨_, rfl, rfl⟩ rfl Try.func59 rfl (by kernel_rfl) (by decide) hS (fun _ _ v hS hs => ?_)
  obtain ⟨x12, x13, x14, x15, hv, hS⟩ := hS
  subst hv
  refine stepStoreB 0 (vs := [(Value.int .u64 x12), (Value.int .u64 x13), (Value.int .u64 x14), (Value.int .u64 x15)]) hs rfl rfl rfl rfl rfl rfl (by kernel_rfl) (Nat.le_of_ble_eq_true rfl) rfl (fun _ _ hs => ?_)
  replace hs := hs.chbx (bs' := [⟨b11, 29, [(Value.int .u64 x12), (Value.int .u64 x13), (Value.int .u64 x14), (Value.int .u64 x15)]⟩, ⟨b10, 29, [(Value.int .u64 t5), (Value.int .u64 t6), (Value.int .u64 t7), (Value.int .u64 t8)]⟩, ⟨b9, 29, [(Value.int .u64 s1), (Value.int .u64 s2), (Value.int .u64 s3), (Value.int .u64 s4)]⟩]) rfl
  refine wpList_nil ?_
  refine Wp.ret ?_
  exact leaveE (K := fun v _ => K v) hs (resC (vs := [(Value.int .u64 x12), (Value.int .u64 x13), (Value.int .u64 x14), (Value.int .u64 x15)]) true 0 hs rfl rfl rfl (by kernel_rfl) rfl) hMM.2 (fun _ _ => hS)
theorem f_set_Join (s1 : Int) (s2 : Int) (s3 : Int) (s4 : Int) (t5 : Int) (t6 : Int) (t7 : Int) (t8 : Int) (M : Mem) (K : Value → Prop) (hS : S_set_Join s1 s2 s3 s4 t5 t6 t7 t8 M K) : CallF Try.prog (Value.func (.func 15) #[] #[]) [(Value.agg #[(Value.int .u64 s1), (Value.int .u64 s2), (Value.int .u64 s3), (Value.int .u64 s4)]), (Value.agg #[(Value.int .u64 t5), (Value.int .u64 t6), (Value.int .u64 t7), (Value.int .u64 t8)])] M (fun v _ => K v) := ⟨15, _, _, _, rfl, Try.func15, rfl, (by decide), s_set_Join _ _ _ _ _ _ _ _ _ _ hS⟩
set_option linter.unusedVariables false in
def S_chaffref_Has (s1 : Int) (s2 : Int) (s3 : Int) (s4 : Int) (b5 : Int) (M : Mem) (K : Value → Prop) : Prop :=
  (InI (b5.tdiv 64) ∧ ((0 : Int) ≤ b5.tdiv 64 ∧ b5.tdiv 64 < (4 : Int) ∧ (∃ x7 : Int, [s1, s2, s3, s4][0 + (b5.tdiv 64).toNat * 1]? = some x7 ∧ ((0 : Int) ≤ b5.tmod 64 ∧ K (Value.bool (((bShr .u64 x7 (b5.tmod 64)).tmod 2 : Int) == (1 : Int)))))))
set_option linter.unusedVariables false in
set_option maxRecDepth 100000 in
theorem s_chaffref_Has (s1 : Int) (s2 : Int) (s3 : Int) (s4 : Int) (b5 : Int) (M : Mem) (K : Value → Prop) (hS : S_chaffref_Has s1 s2 s3 s4 b5 M K) : CallE Try.prog 18 #[(Value.agg #[(Value.int .u64 s1), (Value.int .u64 s2), (Value.int .u64 s3), (Value.int .u64 s4)]), (Value.int .i64 b5)] M (fun v _ => K v) := by
  refine enterE Try.func18 rfl 14 rfl (Nat.le_of_ble_eq_true rfl) (fun E a hs => ?_)
  unfold S_chaffref_Has at hS
  have hMM := MX.refl M E
  change Sx 14 E [] M E a [(0, (Value.agg #[(Value.int .u64 s1), (Value.int .u64 s2), (Value.int .u64 s3), (Value.int .u64 s4)])), (1, (Value.int .i64 b5))] [] [] at hs
  refine Wp.seq ?_
  refine Wp.region ?_
  refine stepBox [(Value.int .u64 s1), (Value.int .u64 s2), (Value.int .u64 s3), (Value.int .u64 s4)] hs rfl rfl rfl (by decide) (fun _ _ b6 hEb6 hs => ?_)
  replace hs := hs.chbx (bs' := [⟨b6, 29, (List.map (Value.int .u64) [s1, s2, s3, s4])⟩]) rfl
  refine stepY (v := (Value.bool false)) hs rfl rfl (by decide) (Yl.pure rfl (fun _ => by kernel_rfl)) (fun _ hs => ?_)
  refine wpList_nil ?_
  refine Wp.seq ?_
  refine Wp.region ?_
  refine stepY (v := (Value.int .i64 b5)) hs rfl rfl (by decide) (Yl.pure rfl (fun _ => by kernel_rfl)) (fun _ hs => ?_)
  obtain ⟨hI, hS⟩ := hS
  refine stepY (v := (Value.int .i64 (b5.tdiv 64))) hs rfl rfl (by decide) (Yl.eq (Yl.pure (v := Value.int .i64 (IntKind.wrap .i64 (b5.tdiv 64))) rfl (fun _ => by kernel_rfl)) (congrArg (Value.int .i64) (wrap_in hI))) (fun _ hs => ?_)
  obtain ⟨h0, hl, hS⟩ := hS
  refine stepY (v := (Value.pointer (some ⟨b6, 0 + (b5.tdiv 64).toNat * 1, none⟩))) hs rfl rfl (by decide) (Yl.indexA (e := 27) (sz := 1) rfl rfl rfl rfl (by kernel_rfl) (by kernel_rfl) h0 hl) (fun _ hs => ?_)
  obtain ⟨x7, hz, hS⟩ := hS
  refine stepY (v := (Value.int .u64 x7)) hs rfl rfl (by decide) (Yl.loadBD 0 rfl rfl rfl (by kernel_rfl) hz) (fun _ hs => ?_)
  refine stepY (v := (Value.int .i64 b5)) hs rfl rfl (by decide) (Yl.pure rfl (fun _ => by kernel_rfl)) (fun _ hs => ?_)
  refine stepY (v := (Value.int .i64 (b5.tmod 64))) hs rfl rfl (by decide) (Yl.pure rfl (fun _ => by kernel_rfl)) (fun _ hs => ?_)
  obtain ⟨h0, hS⟩ := hS
  refine stepY (v := (Value.int .u64 (bShr .u64 x7 (b5.tmod 64)))) hs rfl rfl (by decide) (Yl.shr rfl rfl rfl rfl h0) (fun _ hs => ?_)
  refine stepY (v := (Value.int .u64 ((bShr .u64 x7 (b5.tmod 64)).tmod 2))) hs rfl rfl (by decide) (Yl.pure rfl (fun _ => by kernel_rfl)) (fun _ hs => ?_)
  refine stepY (v := (Value.bool (((bShr .u64 x7 (b5.tmod 64)).tmod 2 : Int) == (1 : Int)))) hs rfl rfl (by decide) (Yl.pure rfl (fun _ => by kernel_rfl)) (fun _ hs => ?_)
  refine stepY (v := (Value.bool (((bShr .u64 x7 (b5.tmod 64)).tmod 2 : Int) == (1 : Int)))) hs rfl rfl (by decide) (Yl.pure rfl (fun _ => by kernel_rfl)) (fun _ hs => ?_)
  refine wpList_nil ?_
  refine Wp.ret ?_
  exact leaveE (K := fun v _ => K v) hs (resT hs rfl rfl) hMM.2 (fun _ _ => hS)
theorem f_chaffref_Has (s1 : Int) (s2 : Int) (s3 : Int) (s4 : Int) (b5 : Int) (M : Mem) (K : Value → Prop) (hS : S_chaffref_Has s1 s2 s3 s4 b5 M K) : CallF Try.prog (Value.func (.func 18) #[] #[]) [(Value.agg #[(Value.int .u64 s1), (Value.int .u64 s2), (Value.int .u64 s3), (Value.int .u64 s4)]), (Value.int .i64 b5)] M (fun v _ => K v) := ⟨18, _, _, _, rfl, Try.func18, rfl, (by decide), s_chaffref_Has _ _ _ _ _ _ _ hS⟩
set_option linter.unusedVariables false in
def S_chafflaw_SetJoins_1 (b1 : Int) (b2 : Nat) (b3 : Nat) (M : Mem) (K : Value → Prop) : Prop :=
  (∃ (x4 : Int) (x5 : Int) (x6 : Int) (x7 : Int), At M b2 0 [(Value.int .u64 x4), (Value.int .u64 x5), (Value.int .u64 x6), (Value.int .u64 x7)] ∧ (CallE Try.prog 18 #[(Value.agg #[(Value.int .u64 x4), (Value.int .u64 x5), (Value.int .u64 x6), (Value.int .u64 x7)]), (Value.int .i64 b1)] M (fun v _ => ∃ (x8 : Bool), v = (Value.bool x8) ∧ ((x8 = true → K (Value.bool true)) ∧ (¬ (x8 = true) → (∃ (x9 : Int) (x10 : Int) (x11 : Int) (x12 : Int), At M b3 0 [(Value.int .u64 x9), (Value.int .u64 x10), (Value.int .u64 x11), (Value.int .u64 x12)] ∧ (CallE Try.prog 18 #[(Value.agg #[(Value.int .u64 x9), (Value.int .u64 x10), (Value.int .u64 x11), (Value.int .u64 x12)]), (Value.int .i64 b1)] M (fun v _ => ∃ (x13 : Bool), v = (Value.bool x13) ∧ K (Value.bool x13)))))))))
set_option linter.unusedVariables false in
set_option maxRecDepth 100000 in
theorem s_chafflaw_SetJoins_1 (b1 : Int) (b2 : Nat) (b3 : Nat) (M : Mem) (K : Value → Prop) (hS : S_chafflaw_SetJoins_1 b1 b2 b3 M K) : CallE Try.prog 17 #[(Value.int .i64 b1), (Value.pointer (some ⟨b2, 0, none⟩)), (Value.pointer (some ⟨b3, 0, none⟩))] M (fun v _ => K v) := by
  refine enterE Try.func17 rfl 13 rfl (Nat.le_of_ble_eq_true rfl) (fun E a hs => ?_)
  unfold S_chafflaw_SetJoins_1 at hS
  have hMM := MX.refl M E
  change Sx 13 E [] M E a [(0, (Value.int .i64 b1)), (1, (Value.pointer (some ⟨b2, 0, none⟩))), (2, (Value.pointer (some ⟨b3, 0, none⟩)))] [] [] at hs
  refine Wp.seq ?_
  refine Wp.region ?_
  refine stepY (v := (Value.bool false)) hs rfl rfl (by decide) (Yl.pure rfl (fun _ => by kernel_rfl)) (fun _ hs => ?_)
  refine wpList_nil ?_
  refine Wp.seq ?_
  refine Wp.region ?_
  obtain ⟨x4, x5, x6, x7, hat, hS⟩ := hS
  refine stepY (v := (Value.agg #[(Value.int .u64 x4), (Value.int .u64 x5), (Value.int .u64 x6), (Value.int .u64 x7)])) hs rfl rfl (by decide) (Yl.loadV (vs := [(Value.int .u64 x4), (Value.int .u64 x5), (Value.int .u64 x6), (Value.int .u64 x7)]) true rfl rfl (by kernel_rfl) hat) (fun _ hs => ?_)
  refine stepY (v := (Value.int .i64 b1)) hs rfl rfl (by decide) (Yl.pure rfl (fun _ => by kernel_rfl)) (fun _ hs => ?_)
  refine stepCallP [(Value.agg #[(Value.int .u64 x4), (Value.int .u64 x5), (Value.int .u64 x6), (Value.int .u64 x7)]), (Value.int .i64 b1)] hs rfl ⟨_, rfl, rfl⟩ rfl Try.func18 rfl (by kernel_rfl) (by decide) hS (fun _ _ v hS hs => ?_)
  obtain ⟨x8, hv, hS⟩ := hS
  subst hv
  refine stepY (v := (Value.bool x8)) hs rfl rfl (by decide) (Yl.pure rfl (fun _ => by kernel_rfl)) (fun _ hs => ?_)
  refine bsplit x8 Iff.rfl (fun hb hc => ?_) (fun hb hc => ?_)
  · have hs := hs.bt hb
    have hS := hS.1 hc
    refine step_no hs rfl rfl rfl rfl rfl (by decide) (fun _ hs => ?_)
    refine step_no hs rfl rfl rfl rfl rfl (by decide) (fun _ hs => ?_)
    refine step_no hs rfl rfl rfl rfl rfl (by decide) (fun _ hs => ?_)
    refine stepY (v := (Value.bool true)) hs rfl rfl (by decide) (Yl.pure rfl (fun _ => by kernel_rfl)) (fun _ hs => ?_)
    refine stepY (v := (Value.bool true)) hs rfl rfl (by decide) (Yl.pure rfl (fun _ => by kernel_rfl)) (fun _ hs => ?_)
    refine wpList_nil ?_
    refine Wp.ret ?_
    exact leaveE (K := fun v _ => K v) hs (resT hs rfl rfl) hMM.2 (fun _ _ => hS)
  · have hs := hs.bf hb
    have hS := hS.2 hc
    refine step_yes hs rfl rfl rfl ?_
    obtain ⟨x9, x10, x11, x12, hat, hS⟩ := hS
    refine stepY (v := (Value.agg #[(Value.int .u64 x9), (Value.int .u64 x10), (Value.int .u64 x11), (Value.int .u64 x12)])) hs rfl rfl (by decide) (Yl.loadV (vs := [(Value.int .u64 x9), (Value.int .u64 x10), (Value.int .u64 x11), (Value.int .u64 x12)]) true rfl rfl (by kernel_rfl) hat) (fun _ hs => ?_)
    refine step_yes hs rfl rfl rfl ?_
    refine stepY (v := (Value.int .i64 b1)) hs rfl rfl (by decide) (Yl.pure rfl (fun _ => by kernel_rfl)) (fun _ hs => ?_)
    refine step_yes hs rfl rfl rfl ?_
    refine stepCallP [(Value.agg #[(Value.int .u64 x9), (Value.int .u64 x10), (Value.int .u64 x11), (Value.int .u64 x12)]), (Value.int .i64 b1)] hs rfl ⟨_, rfl, rfl⟩ rfl Try.func18 rfl (by kernel_rfl) (by decide) hS (fun _ _ v hS hs => ?_)
    obtain ⟨x13, hv, hS⟩ := hS
    subst hv
    refine stepY (v := (Value.bool x13)) hs rfl rfl (by decide) (Yl.pure rfl (fun _ => by kernel_rfl)) (fun _ hs => ?_)
    refine stepY (v := (Value.bool x13)) hs rfl rfl (by decide) (Yl.pure rfl (fun _ => by kernel_rfl)) (fun _ hs => ?_)
    refine wpList_nil ?_
    refine Wp.ret ?_
    exact leaveE (K := fun v _ => K v) hs (resT hs rfl rfl) hMM.2 (fun _ _ => hS)
theorem f_chafflaw_SetJoins_1 (b1 : Int) (b2 : Nat) (b3 : Nat) (M : Mem) (K : Value → Prop) (hS : S_chafflaw_SetJoins_1 b1 b2 b3 M K) : CallF Try.prog (Value.func (.func 17) #[] #[(Value.pointer (some ⟨b2, 0, none⟩)), (Value.pointer (some ⟨b3, 0, none⟩))]) [(Value.int .i64 b1)] M (fun v _ => K v) := ⟨17, _, _, _, rfl, Try.func17, rfl, (by decide), s_chafflaw_SetJoins_1 _ _ _ _ _ hS⟩
set_option linter.unusedVariables false in
def S_chaffref_Where_J1 (x12 : Int) (zs13 : List Int) (I14 : Int → List Int → Prop) (mu15 : Int → List Int → Nat) (zs18 : List Int) (K : Value → Prop) : Prop :=
  (InI (x12 + 1) ∧ I14 (x12 + 1) zs18 ∧ mu15 (x12 + 1) zs18 < mu15 x12 zs13)
set_option linter.unusedVariables false in
def S_chaffref_Where (is1 : Value) (M : Mem) (K : Value → Prop) : Prop :=
  (∃ (I14 : Int → List Int → Prop) (mu15 : Int → List Int → Nat), I14 0 [0, 0, 0, 0] ∧ ∀ (x12 : Int) (zs13 : List Int), (I14 x12 zs13 → ((x12 < 256 → (CallF Try.prog is1 [(Value.int .i64 x12)] M (fun v _ => ∃ (x16 : Bool), v = (Value.bool x16) ∧ ((x16 = true → (InI (x12.tdiv 64) ∧ ((0 : Int) ≤ x12.tdiv 64 ∧ x12.tdiv 64 < (4 : Int) ∧ (∃ x17 : Int, zs13[0 + (x12.tdiv 64).toNat * 1]? = some x17 ∧ ((0 : Int) ≤ x12.tmod 64 ∧ ((0 : Int) ≤ x12.tdiv 64 ∧ x12.tdiv 64 < (4 : Int) ∧ (0 + (x12.tdiv 64).toNat * 1 < (zs13).length ∧ (S_chaffref_Where_J1 x12 zs13 I14 mu15 ((zs13).set (0 + (x12.tdiv 64).toNat * 1) (IntKind.wrap .u64 (x17 + (bShl .u64 1 (x12.tmod 64))))) K)))))))) ∧ (¬ (x16 = true) → (S_chaffref_Where_J1 x12 zs13 I14 mu15 zs13 K)))))) ∧ (¬ (x12 < 256) → (∃ z19 z20 z21 z22 : Int, zs13 = [z19, z20, z21, z22] ∧ ((zs13).length = 4 ∧ (∃ z23 z24 z25 z26 : Int, [z19, z20, z21, z22] = [z23, z24, z25, z26] ∧ K (Value.agg #[(Value.int .u64 z23), (Value.int .u64 z24), (Value.int .u64 z25), (Value.int .u64 z26)]))))))))
set_option linter.unusedVariables false in
set_option maxRecDepth 100000 in
theorem s_chaffref_Where (is1 : Value) (M : Mem) (K : Value → Prop) (hS : S_chaffref_Where is1 M K) : CallE Try.prog 16 #[is1] M (fun v _ => K v) := by
  refine enterE Try.func16 rfl 21 rfl (Nat.le_of_ble_eq_true rfl) (fun E a hs => ?_)
  unfold S_chaffref_Where at hS
  have hMM := MX.refl M E
  change Sx 21 E [] M E a [(0, is1)] [] [] at hs
  refine Wp.seq ?_
  refine Wp.region ?_
  refine stepAlloc [(Value.int .u64 0), (Value.int .u64 0), (Value.int .u64 0), (Value.int .u64 0)] hs (by kernel_rfl) (by decide) (fun _ _ b2 hEb2 hs => ?_)
  replace hs := hs.chbx (bs' := [⟨b2, 29, (List.map (Value.int .u64) [0, 0, 0, 0])⟩]) rfl
  refine wpList_nil ?_
  refine Wp.seq ?_
  refine Wp.seq ?_
  refine Wp.region ?_
  refine stepY (v := (Value.int .i64 0)) hs rfl rfl (by decide) (Yl.pure rfl (fun _ => by kernel_rfl)) (fun _ hs => ?_)
  refine wpList_nil ?_
  refine Wp.block ?_
  obtain ⟨I14, mu15, hI0, hst⟩ := hS
  refine Wp.loop (σ := (Int) × (List Int)) (fun s a w => match s with | (x12, zs13) => Sx 21 E [] M w a [(0, is1), (2, (Value.pointer (some ⟨b2, 0, none⟩))), (4, (Value.int .i64 x12))] [⟨b2, 29, (List.map (Value.int .u64) zs13)⟩] [] ∧ I14 x12 zs13) (fun s => match s with | (x12, zs13) => mu15 x12 zs13) (0, [0, 0, 0, 0]) ⟨(hs.weak (List.Sublist.refl _) (List.Sublist.refl _) ⟨rfl, rfl, rfl, trivial⟩), hI0⟩ (fun s a w hI => ?_)
  obtain ⟨x12, zs13⟩ := s
  obtain ⟨hs, hI⟩ := hI
  have hS := hst x12 zs13 hI
  clear hst hI0 hI
  refine Wp.seq ?_
  refine Wp.region ?_
  refine stepY (v := (Value.bool (decide (x12 < 256)))) hs rfl rfl (by decide) (Yl.pure rfl (fun _ => by kernel_rfl)) (fun _ hs => ?_)
  refine wpList_nil ?_
  refine Wp.seq ?_
  refine Wp.cond hs rfl rfl decide_eq_true_iff (fun hc => ?_) (fun hc => ?_)
  · have hS := hS.1 hc
    refine Wp.skip ?_
    refine Wp.join (fun a w => ∃ (zs18 : List Int), Sx 21 E [] M w a [(0, is1), (2, (Value.pointer (some ⟨b2, 0, none⟩))), (4, (Value.int .i64 x12))] [⟨b2, 29, (List.map (Value.int .u64) zs18)⟩] [] ∧ (S_chaffref_Where_J1 x12 zs13 I14 mu15 zs18 K)) ?_ ?_
    · refine Wp.block ?_
      refine Wp.seq ?_
      refine Wp.region ?_
      refine stepY (v := (Value.int .i64 x12)) hs rfl rfl (by decide) (Yl.pure rfl (fun _ => by kernel_rfl)) (fun _ hs => ?_)
      refine stepY (v := (Value.int .i64 x12)) hs rfl rfl (by decide) (Yl.pure rfl (fun _ => by kernel_rfl)) (fun _ hs => ?_)
      refine wpList_nil ?_
      refine Wp.seq ?_
      refine Wp.region ?_
      refine stepY (v := is1) hs rfl rfl (by decide) (Yl.pure rfl (fun _ => by kernel_rfl)) (fun _ hs => ?_)
      refine stepY (v := (Value.int .i64 x12)) hs rfl rfl (by decide) (Yl.pure rfl (fun _ => by kernel_rfl)) (fun _ hs => ?_)
      refine stepCallG [(Value.int .i64 x12)] hs rfl ⟨_, rfl, rfl⟩ rfl (by decide) hS (fun _ _ v hS hs => ?_)
      obtain ⟨x16, hv, hS⟩ := hS
      subst hv
      refine wpList_nil ?_
      refine Wp.cond hs rfl rfl Iff.rfl (fun hc => ?_) (fun hc => ?_)
      · have hS := hS.1 hc
        refine Wp.regionD [true, true, true, true, true, true, true, true, true, false] hs (by kernel_rfl) rfl [⟨b2, 29, (List.map (Value.int .u64) zs13)⟩] (fun _ h => h) [] (fun _ h => h) (fun _ hs hC => ?_)
        have hL := Mem.le.refl M
        refine stepDP (v := (Value.int .i64 x12)) 0 [1, 2, 3, 7, 8, 9] hs QZ.no rfl (wanted_none rfl) rfl (by decide) (by kernel_rfl) (by kernel_rfl) (by kernel_rfl) (Yl.pure rfl (fun _ => by kernel_rfl)) (fun _ hs => ?_)
        obtain ⟨hI, hS⟩ := hS
        refine stepDP (v := (Value.int .i64 (x12.tdiv 64))) 1 [2, 3, 7, 8, 9] hs QZ.no rfl (wanted_none rfl) rfl (by decide) (by kernel_rfl) (by kernel_rfl) (by kernel_rfl) (Yl.eq (Yl.pure (v := Value.int .i64 (IntKind.wrap .i64 (x12.tdiv 64))) rfl (fun _ => by kernel_rfl)) (congrArg (Value.int .i64) (wrap_in hI))) (fun _ hs => ?_)
        obtain ⟨h0, hl, hS⟩ := hS
        refine stepDP (v := (Value.pointer (some ⟨b2, 0 + (x12.tdiv 64).toNat * 1, none⟩))) 2 [3, 7, 8, 9] hs QZ.no rfl (wanted_none rfl) rfl (by decide) (by kernel_rfl) (by kernel_rfl) (by kernel_rfl) (Yl.indexA (e := 27) (sz := 1) rfl rfl rfl rfl (by kernel_rfl) (by kernel_rfl) h0 hl) (fun _ hs => ?_)
        obtain ⟨x17, hz, hS⟩ := hS
        refine stepDY (v := (Value.int .u64 x17)) 3 [7, 8, 9] hs hC QZ.no rfl (wanted_none rfl) rfl (by decide) (by kernel_rfl) (by kernel_rfl) (by kernel_rfl) (Yl.loadBD 0 rfl rfl rfl (by kernel_rfl) hz) (fun _ hs => ?_)
        refine stepDE 4 rfl (wanted_none rfl) (by kernel_rfl) #[] ?_
        refine stepY (v := (Value.int .i64 x12)) hs rfl rfl (by decide) (Yl.pure rfl (fun _ => by kernel_rfl)) (fun _ hs => ?_)
        refine wpList_nil ?_
        refine ⟨fun _ h => h, ?_⟩
        refine stepDE 5 rfl (wanted_none rfl) (by kernel_rfl) #[] ?_
        refine stepY (v := (Value.int .i64 (x12.tmod 64))) hs rfl rfl (by decide) (Yl.pure rfl (fun _ => by kernel_rfl)) (fun _ hs => ?_)
        refine wpList_nil ?_
        refine ⟨fun _ h => h, ?_⟩
        refine stepDE 6 rfl (wanted_none rfl) (by kernel_rfl) #[] ?_
        obtain ⟨h0, hS⟩ := hS
        refine stepY (v := (Value.int .u64 (bShl .u64 1 (x12.tmod 64)))) hs rfl rfl (by decide) (Yl.shl rfl rfl rfl rfl h0) (fun _ hs => ?_)
        refine wpList_nil ?_
        refine ⟨fun _ h => h, ?_⟩
        refine stepDE 7 rfl (wanted_none rfl) (by kernel_rfl) #[] ?_
        refine stepY (v := (Value.int .u64 (IntKind.wrap .u64 (x17 + (bShl .u64 1 (x12.tmod 64)))))) hs rfl rfl (by decide) (Yl.pure rfl (fun _ => by kernel_rfl)) (fun _ hs => ?_)
        refine wpList_nil ?_
        refine ⟨fun _ h => h, ?_⟩
        refine stepDE 8 rfl (wanted_none rfl) (by kernel_rfl) #[] ?_
        obtain ⟨h0, hl, hS⟩ := hS
        refine stepY (v := (Value.pointer (some ⟨b2, 0 + (x12.tdiv 64).toNat * 1, none⟩))) hs rfl rfl (by decide) (Yl.indexA (e := 27) (sz := 1) rfl rfl rfl rfl (by kernel_rfl) (by kernel_rfl) h0 hl) (fun _ hs => ?_)
        refine wpList_nil ?_
        refine ⟨fun _ h => h, ?_⟩
        refine stepDE 9 rfl (wanted_none rfl) (by kernel_rfl) #[] ?_
        obtain ⟨hlt, hS⟩ := hS
        refine stepStoreBD 0 (zs := zs13) hs rfl rfl rfl rfl rfl (by kernel_rfl) hlt (fun _ _ hs => ?_)
        replace hs := hs.chbx (bs' := [⟨b2, 29, (List.map (Value.int .u64) ((zs13).set (0 + (x12.tdiv 64).toNat * 1) (IntKind.wrap .u64 (x17 + (bShl .u64 1 (x12.tmod 64))))))⟩]) rfl
        refine wpList_nil ?_
        refine ⟨fun h => absurd h (by decide), ?_⟩
        refine WpD.done (by kernel_rfl) ?_ _
        exact ⟨((zs13).set (0 + (x12.tdiv 64).toNat * 1) (IntKind.wrap .u64 (x17 + (bShl .u64 1 (x12.tmod 64))))), (hs.weak (List.Sublist.refl _) (List.Sublist.refl _) ⟨rfl, rfl, rfl, trivial⟩), hS⟩
      · have hS := hS.2 hc
        refine Wp.skip ?_
        exact ⟨zs13, (hs.weak (List.Sublist.refl _) (List.Sublist.refl _) ⟨rfl, rfl, rfl, trivial⟩), hS⟩
    · intro a w hJ
      obtain ⟨zs18, hs, hS⟩ := hJ
      unfold S_chaffref_Where_J1 at hS
      refine Wp.region ?_
      obtain ⟨hI, hS⟩ := hS
      refine stepY (v := (Value.int .i64 (x12 + 1))) hs rfl rfl (by decide) (Yl.eq (Yl.pure (v := Value.int .i64 (IntKind.wrap .i64 (x12 + 1))) rfl (fun _ => by kernel_rfl)) (congrArg (Value.int .i64) (wrap_in hI))) (fun _ hs => ?_)
      refine stepY (v := (Value.int .i64 (x12 + 1))) hs rfl rfl (by decide) (Yl.pure rfl (fun _ => by kernel_rfl)) (fun _ hs => ?_)
      refine wpList_nil ?_
      exact ⟨(x12 + 1, zs18), ⟨(hs.weak (List.Sublist.refl _) (List.Sublist.refl _) ⟨rfl, rfl, rfl, trivial⟩), hS.1⟩, hS.2⟩
  · have hS := hS.2 hc
    refine Wp.exit rfl ?_
    refine Wp.seq ?_
    refine Wp.region ?_
    obtain ⟨z19, z20, z21, z22, hz, hS⟩ := hS
    refine stepY (v := (Value.agg #[(Value.int .u64 z19), (Value.int .u64 z20), (Value.int .u64 z21), (Value.int .u64 z22)])) hs rfl rfl (by decide) (Yl.loadBA 0 rfl rfl rfl rfl (by kernel_rfl) hz) (fun _ hs => ?_)
    obtain ⟨hlt, hS⟩ := hS
    refine stepStoreBA 0 (zs := zs13) (ys := [z19, z20, z21, z22]) hs rfl rfl rfl rfl rfl (by kernel_rfl) hlt (fun _ _ hs => ?_)
    replace hs := hs.chbx (bs' := [⟨b2, 29, (List.map (Value.int .u64) [z19, z20, z21, z22])⟩]) rfl
    refine wpList_nil ?_
    refine Wp.ret ?_
    obtain ⟨z23, z24, z25, z26, hz, hS⟩ := hS
    replace hs := hs.chbx (bs' := [⟨b2, 29, [(Value.int .u64 z23), (Value.int .u64 z24), (Value.int .u64 z25), (Value.int .u64 z26)]⟩]) (by first | rw [hz]; rfl | rfl)
    exact leaveE (K := fun v _ => K v) hs (resC (vs := [(Value.int .u64 z23), (Value.int .u64 z24), (Value.int .u64 z25), (Value.int .u64 z26)]) true 0 hs rfl rfl rfl (by kernel_rfl) rfl) hMM.2 (fun _ _ => hS)
theorem f_chaffref_Where (is1 : Value) (M : Mem) (K : Value → Prop) (hS : S_chaffref_Where is1 M K) : CallF Try.prog (Value.func (.func 16) #[] #[]) [is1] M (fun v _ => K v) := ⟨16, _, _, _, rfl, Try.func16, rfl, (by decide), s_chaffref_Where _ _ _ hS⟩
set_option linter.unusedVariables false in
def S_set_Meet_1 (a1 : Int) (b2 : Int) (M : Mem) (K : Value → Prop) : Prop :=
  K (Value.int .u64 (bAnd .u64 a1 b2))
set_option linter.unusedVariables false in
set_option maxRecDepth 100000 in
theorem s_set_Meet_1 (a1 : Int) (b2 : Int) (M : Mem) (K : Value → Prop) (hS : S_set_Meet_1 a1 b2 M K) : CallE Try.prog 61 #[(Value.int .u64 a1), (Value.int .u64 b2)] M (fun v _ => K v) := by
  refine enterE Try.func61 rfl 8 rfl (Nat.le_of_ble_eq_true rfl) (fun E a hs => ?_)
  unfold S_set_Meet_1 at hS
  have hMM := MX.refl M E
  change Sx 8 E [] M E a [(0, (Value.int .u64 a1)), (1, (Value.int .u64 b2))] [] [] at hs
  refine Wp.seq ?_
  refine Wp.region ?_
  refine stepY (v := (Value.int .u64 0)) hs rfl rfl (by decide) (Yl.pure rfl (fun _ => by kernel_rfl)) (fun _ hs => ?_)
  refine wpList_nil ?_
  refine Wp.seq ?_
  refine Wp.region ?_
  refine stepY (v := (Value.int .u64 a1)) hs rfl rfl (by decide) (Yl.pure rfl (fun _ => by kernel_rfl)) (fun _ hs => ?_)
  refine stepY (v := (Value.int .u64 b2)) hs rfl rfl (by decide) (Yl.pure rfl (fun _ => by kernel_rfl)) (fun _ hs => ?_)
  refine stepY (v := (Value.int .u64 (bAnd .u64 a1 b2))) hs rfl rfl (by decide) (Yl.pure rfl (fun _ => by kernel_rfl)) (fun _ hs => ?_)
  refine stepY (v := (Value.int .u64 (bAnd .u64 a1 b2))) hs rfl rfl (by decide) (Yl.pure rfl (fun _ => by kernel_rfl)) (fun _ hs => ?_)
  refine wpList_nil ?_
  refine Wp.ret ?_
  exact leaveE (K := fun v _ => K v) hs (resT hs rfl rfl) hMM.2 (fun _ _ => hS)
theorem f_set_Meet_1 (a1 : Int) (b2 : Int) (M : Mem) (K : Value → Prop) (hS : S_set_Meet_1 a1 b2 M K) : CallF Try.prog (Value.func (.func 61) #[] #[]) [(Value.int .u64 a1), (Value.int .u64 b2)] M (fun v _ => K v) := ⟨61, _, _, _, rfl, Try.func61, rfl, (by decide), s_set_Meet_1 _ _ _ _ hS⟩
set_option linter.unusedVariables false in
def S_set_Meet (s1 : Int) (s2 : Int) (s3 : Int) (s4 : Int) (t5 : Int) (t6 : Int) (t7 : Int) (t8 : Int) (M : Mem) (K : Value → Prop) : Prop :=
  (CallE Try.prog 59 #[(Value.agg #[(Value.int .u64 s1), (Value.int .u64 s2), (Value.int .u64 s3), (Value.int .u64 s4)]), (Value.agg #[(Value.int .u64 t5), (Value.int .u64 t6), (Value.int .u64 t7), (Value.int .u64 t8)]), (Value.func (.func 61) #[] #[])] M (fun v _ => ∃ (x12 : Int) (x13 : Int) (x14 : Int) (x15 : Int), v = (Value.agg #[(Value.int .u64 x12), (Value.int .u64 x13), (Value.int .u64 x14), (Value.int .u64 x15)]) ∧ K (Value.agg #[(Value.int .u64 x12), (Value.int .u64 x13), (Value.int .u64 x14), (Value.int .u64 x15)])))
set_option linter.unusedVariables false in
set_option maxRecDepth 100000 in
theorem s_set_Meet (s1 : Int) (s2 : Int) (s3 : Int) (s4 : Int) (t5 : Int) (t6 : Int) (t7 : Int) (t8 : Int) (M : Mem) (K : Value → Prop) (hS : S_set_Meet s1 s2 s3 s4 t5 t6 t7 t8 M K) : CallE Try.prog 19 #[(Value.agg #[(Value.int .u64 s1), (Value.int .u64 s2), (Value.int .u64 s3), (Value.int .u64 s4)]), (Value.agg #[(Value.int .u64 t5), (Value.int .u64 t6), (Value.int .u64 t7), (Value.int .u64 t8)])] M (fun v _ => K v) := by
  refine enterE Try.func19 rfl 8 rfl (Nat.le_of_ble_eq_true rfl) (fun E a hs => ?_)
  unfold S_set_Meet at hS
  have hMM := MX.refl M E
  change Sx 8 E [] M E a [(0, (Value.agg #[(Value.int .u64 s1), (Value.int .u64 s2), (Value.int .u64 s3), (Value.int .u64 s4)])), (1, (Value.agg #[(Value.int .u64 t5), (Value.int .u64 t6), (Value.int .u64 t7), (Value.int .u64 t8)]))] [] [] at hs
  refine Wp.seq ?_
  refine Wp.region ?_
  refine stepBox [(Value.int .u64 s1), (Value.int .u64 s2), (Value.int .u64 s3), (Value.int .u64 s4)] hs rfl rfl rfl (by decide) (fun _ _ b9 hEb9 hs => ?_)
  refine stepBox [(Value.int .u64 t5), (Value.int .u64 t6), (Value.int .u64 t7), (Value.int .u64 t8)] hs rfl rfl rfl (by decide) (fun _ _ b10 hEb10 hs => ?_)
  refine stepAlloc [(Value.int .u64 0), (Value.int .u64 0), (Value.int .u64 0), (Value.int .u64 0)] hs (by kernel_rfl) (by decide) (fun _ _ b11 hEb11 hs => ?_)
  refine wpList_nil ?_
  refine Wp.seq ?_
  refine Wp.region ?_
  refine stepY (v := (Value.agg #[(Value.int .u64 s1), (Value.int .u64 s2), (Value.int .u64 s3), (Value.int .u64 s4)])) hs rfl rfl (by decide) (Yl.loadB (vs := [(Value.int .u64 s1), (Value.int .u64 s2), (Value.int .u64 s3), (Value.int .u64 s4)]) true 2 rfl rfl rfl (by kernel_rfl) rfl) (fun _ hs => ?_)
  refine stepY (v := (Value.agg #[(Value.int .u64 t5), (Value.int .u64 t6), (Value.int .u64 t7), (Value.int .u64 t8)])) hs rfl rfl (by decide) (Yl.loadB (vs := [(Value.int .u64 t5), (Value.int .u64 t6), (Value.int .u64 t7), (Value.int .u64 t8)]) true 1 rfl rfl rfl (by kernel_rfl) rfl) (fun _ hs => ?_)
  refine stepCallP [(Value.agg #[(Value.int .u64 s1), (Value.int .u64 s2), (Value.int .u64 s3), (Value.int .u64 s4)]), (Value.agg #[(Value.int .u64 t5), (Value.int .u64 t6), (Value.int .u64 t7), (Value.int .u64 t8)]), (Value.func (.func 61) #[] #[])] hs rfl ⟨_, rfl, rfl⟩ rfl Try.func59 rfl (by kernel_rfl) (by decide) hS (fun _ _ v hS hs => ?_)
  obtain ⟨x12, x13, x14, x15, hv, hS⟩ := hS
  subst hv
  refine stepStoreB 0 (vs := [(Value.int .u64 x12), (Value.int .u64 x13), (Value.int .u64 x14), (Value.int .u64 x15)]) hs rfl rfl rfl rfl rfl rfl (by kernel_rfl) (Nat.le_of_ble_eq_true rfl) rfl (fun _ _ hs => ?_)
  replace hs := hs.chbx (bs' := [⟨b11, 29, [(Value.int .u64 x12), (Value.int .u64 x13), (Value.int .u64 x14), (Value.int .u64 x15)]⟩, ⟨b10, 29, [(Value.int .u64 t5), (Value.int .u64 t6), (Value.int .u64 t7), (Value.int .u64 t8)]⟩, ⟨b9, 29, [(Value.int .u64 s1), (Value.int .u64 s2), (Value.int .u64 s3), (Value.int .u64 s4)]⟩]) rfl
  refine wpList_nil ?_
  refine Wp.ret ?_
  exact leaveE (K := fun v _ => K v) hs (resC (vs := [(Value.int .u64 x12), (Value.int .u64 x13), (Value.int .u64 x14), (Value.int .u64 x15)]) true 0 hs rfl rfl rfl (by kernel_rfl) rfl) hMM.2 (fun _ _ => hS)
theorem f_set_Meet (s1 : Int) (s2 : Int) (s3 : Int) (s4 : Int) (t5 : Int) (t6 : Int) (t7 : Int) (t8 : Int) (M : Mem) (K : Value → Prop) (hS : S_set_Meet s1 s2 s3 s4 t5 t6 t7 t8 M K) : CallF Try.prog (Value.func (.func 19) #[] #[]) [(Value.agg #[(Value.int .u64 s1), (Value.int .u64 s2), (Value.int .u64 s3), (Value.int .u64 s4)]), (Value.agg #[(Value.int .u64 t5), (Value.int .u64 t6), (Value.int .u64 t7), (Value.int .u64 t8)])] M (fun v _ => K v) := ⟨19, _, _, _, rfl, Try.func19, rfl, (by decide), s_set_Meet _ _ _ _ _ _ _ _ _ _ hS⟩
set_option linter.unusedVariables false in
def S_chafflaw_SetJoins_2 (b1 : Int) (b2 : Nat) (b3 : Nat) (M : Mem) (K : Value → Prop) : Prop :=
  (∃ (x4 : Int) (x5 : Int) (x6 : Int) (x7 : Int), At M b2 0 [(Value.int .u64 x4), (Value.int .u64 x5), (Value.int .u64 x6), (Value.int .u64 x7)] ∧ (CallE Try.prog 18 #[(Value.agg #[(Value.int .u64 x4), (Value.int .u64 x5), (Value.int .u64 x6), (Value.int .u64 x7)]), (Value.int .i64 b1)] M (fun v _ => ∃ (x8 : Bool), v = (Value.bool x8) ∧ ((x8 = true → (∃ (x9 : Int) (x10 : Int) (x11 : Int) (x12 : Int), At M b3 0 [(Value.int .u64 x9), (Value.int .u64 x10), (Value.int .u64 x11), (Value.int .u64 x12)] ∧ (CallE Try.prog 18 #[(Value.agg #[(Value.int .u64 x9), (Value.int .u64 x10), (Value.int .u64 x11), (Value.int .u64 x12)]), (Value.int .i64 b1)] M (fun v _ => ∃ (x13 : Bool), v = (Value.bool x13) ∧ K (Value.bool x13))))) ∧ (¬ (x8 = true) → K (Value.bool false))))))
set_option linter.unusedVariables false in
set_option maxRecDepth 100000 in
theorem s_chafflaw_SetJoins_2 (b1 : Int) (b2 : Nat) (b3 : Nat) (M : Mem) (K : Value → Prop) (hS : S_chafflaw_SetJoins_2 b1 b2 b3 M K) : CallE Try.prog 20 #[(Value.int .i64 b1), (Value.pointer (some ⟨b2, 0, none⟩)), (Value.pointer (some ⟨b3, 0, none⟩))] M (fun v _ => K v) := by
  refine enterE Try.func20 rfl 13 rfl (Nat.le_of_ble_eq_true rfl) (fun E a hs => ?_)
  unfold S_chafflaw_SetJoins_2 at hS
  have hMM := MX.refl M E
  change Sx 13 E [] M E a [(0, (Value.int .i64 b1)), (1, (Value.pointer (some ⟨b2, 0, none⟩))), (2, (Value.pointer (some ⟨b3, 0, none⟩)))] [] [] at hs
  refine Wp.seq ?_
  refine Wp.region ?_
  refine stepY (v := (Value.bool false)) hs rfl rfl (by decide) (Yl.pure rfl (fun _ => by kernel_rfl)) (fun _ hs => ?_)
  refine wpList_nil ?_
  refine Wp.seq ?_
  refine Wp.region ?_
  obtain ⟨x4, x5, x6, x7, hat, hS⟩ := hS
  refine stepY (v := (Value.agg #[(Value.int .u64 x4), (Value.int .u64 x5), (Value.int .u64 x6), (Value.int .u64 x7)])) hs rfl rfl (by decide) (Yl.loadV (vs := [(Value.int .u64 x4), (Value.int .u64 x5), (Value.int .u64 x6), (Value.int .u64 x7)]) true rfl rfl (by kernel_rfl) hat) (fun _ hs => ?_)
  refine stepY (v := (Value.int .i64 b1)) hs rfl rfl (by decide) (Yl.pure rfl (fun _ => by kernel_rfl)) (fun _ hs => ?_)
  refine stepCallP [(Value.agg #[(Value.int .u64 x4), (Value.int .u64 x5), (Value.int .u64 x6), (Value.int .u64 x7)]), (Value.int .i64 b1)] hs rfl ⟨_, rfl, rfl⟩ rfl Try.func18 rfl (by kernel_rfl) (by decide) hS (fun _ _ v hS hs => ?_)
  obtain ⟨x8, hv, hS⟩ := hS
  subst hv
  refine stepY (v := (Value.bool x8)) hs rfl rfl (by decide) (Yl.pure rfl (fun _ => by kernel_rfl)) (fun _ hs => ?_)
  refine bsplit x8 Iff.rfl (fun hb hc => ?_) (fun hb hc => ?_)
  · have hs := hs.bt hb
    have hS := hS.1 hc
    refine step_yes hs rfl rfl rfl ?_
    obtain ⟨x9, x10, x11, x12, hat, hS⟩ := hS
    refine stepY (v := (Value.agg #[(Value.int .u64 x9), (Value.int .u64 x10), (Value.int .u64 x11), (Value.int .u64 x12)])) hs rfl rfl (by decide) (Yl.loadV (vs := [(Value.int .u64 x9), (Value.int .u64 x10), (Value.int .u64 x11), (Value.int .u64 x12)]) true rfl rfl (by kernel_rfl) hat) (fun _ hs => ?_)
    refine step_yes hs rfl rfl rfl ?_
    refine stepY (v := (Value.int .i64 b1)) hs rfl rfl (by decide) (Yl.pure rfl (fun _ => by kernel_rfl)) (fun _ hs => ?_)
    refine step_yes hs rfl rfl rfl ?_
    refine stepCallP [(Value.agg #[(Value.int .u64 x9), (Value.int .u64 x10), (Value.int .u64 x11), (Value.int .u64 x12)]), (Value.int .i64 b1)] hs rfl ⟨_, rfl, rfl⟩ rfl Try.func18 rfl (by kernel_rfl) (by decide) hS (fun _ _ v hS hs => ?_)
    obtain ⟨x13, hv, hS⟩ := hS
    subst hv
    refine stepY (v := (Value.bool x13)) hs rfl rfl (by decide) (Yl.pure rfl (fun _ => by kernel_rfl)) (fun _ hs => ?_)
    refine stepY (v := (Value.bool x13)) hs rfl rfl (by decide) (Yl.pure rfl (fun _ => by kernel_rfl)) (fun _ hs => ?_)
    refine wpList_nil ?_
    refine Wp.ret ?_
    exact leaveE (K := fun v _ => K v) hs (resT hs rfl rfl) hMM.2 (fun _ _ => hS)
  · have hs := hs.bf hb
    have hS := hS.2 hc
    refine step_no hs rfl rfl rfl rfl rfl (by decide) (fun _ hs => ?_)
    refine step_no hs rfl rfl rfl rfl rfl (by decide) (fun _ hs => ?_)
    refine step_no hs rfl rfl rfl rfl rfl (by decide) (fun _ hs => ?_)
    refine stepY (v := (Value.bool false)) hs rfl rfl (by decide) (Yl.pure rfl (fun _ => by kernel_rfl)) (fun _ hs => ?_)
    refine stepY (v := (Value.bool false)) hs rfl rfl (by decide) (Yl.pure rfl (fun _ => by kernel_rfl)) (fun _ hs => ?_)
    refine wpList_nil ?_
    refine Wp.ret ?_
    exact leaveE (K := fun v _ => K v) hs (resT hs rfl rfl) hMM.2 (fun _ _ => hS)
theorem f_chafflaw_SetJoins_2 (b1 : Int) (b2 : Nat) (b3 : Nat) (M : Mem) (K : Value → Prop) (hS : S_chafflaw_SetJoins_2 b1 b2 b3 M K) : CallF Try.prog (Value.func (.func 20) #[] #[(Value.pointer (some ⟨b2, 0, none⟩)), (Value.pointer (some ⟨b3, 0, none⟩))]) [(Value.int .i64 b1)] M (fun v _ => K v) := ⟨20, _, _, _, rfl, Try.func20, rfl, (by decide), s_chafflaw_SetJoins_2 _ _ _ _ _ hS⟩
set_option linter.unusedVariables false in
def S_set_Not_1 (a1 : Int) (x2 : Int) (M : Mem) (K : Value → Prop) : Prop :=
  K (Value.int .u64 (bNot .u64 a1))
set_option linter.unusedVariables false in
set_option maxRecDepth 100000 in
theorem s_set_Not_1 (a1 : Int) (x2 : Int) (M : Mem) (K : Value → Prop) (hS : S_set_Not_1 a1 x2 M K) : CallE Try.prog 62 #[(Value.int .u64 a1), (Value.int .u64 x2)] M (fun v _ => K v) := by
  refine enterE Try.func62 rfl 7 rfl (Nat.le_of_ble_eq_true rfl) (fun E a hs => ?_)
  unfold S_set_Not_1 at hS
  have hMM := MX.refl M E
  change Sx 7 E [] M E a [(0, (Value.int .u64 a1)), (1, (Value.int .u64 x2))] [] [] at hs
  refine Wp.seq ?_
  refine Wp.region ?_
  refine stepY (v := (Value.int .u64 0)) hs rfl rfl (by decide) (Yl.pure rfl (fun _ => by kernel_rfl)) (fun _ hs => ?_)
  refine wpList_nil ?_
  refine Wp.seq ?_
  refine Wp.region ?_
  refine stepY (v := (Value.int .u64 a1)) hs rfl rfl (by decide) (Yl.pure rfl (fun _ => by kernel_rfl)) (fun _ hs => ?_)
  refine stepY (v := (Value.int .u64 (bNot .u64 a1))) hs rfl rfl (by decide) (Yl.pure rfl (fun _ => by kernel_rfl)) (fun _ hs => ?_)
  refine stepY (v := (Value.int .u64 (bNot .u64 a1))) hs rfl rfl (by decide) (Yl.pure rfl (fun _ => by kernel_rfl)) (fun _ hs => ?_)
  refine wpList_nil ?_
  refine Wp.ret ?_
  exact leaveE (K := fun v _ => K v) hs (resT hs rfl rfl) hMM.2 (fun _ _ => hS)
theorem f_set_Not_1 (a1 : Int) (x2 : Int) (M : Mem) (K : Value → Prop) (hS : S_set_Not_1 a1 x2 M K) : CallF Try.prog (Value.func (.func 62) #[] #[]) [(Value.int .u64 a1), (Value.int .u64 x2)] M (fun v _ => K v) := ⟨62, _, _, _, rfl, Try.func62, rfl, (by decide), s_set_Not_1 _ _ _ _ hS⟩
set_option linter.unusedVariables false in
def S_set_Not (s1 : Int) (s2 : Int) (s3 : Int) (s4 : Int) (M : Mem) (K : Value → Prop) : Prop :=
  (CallE Try.prog 59 #[(Value.agg #[(Value.int .u64 s1), (Value.int .u64 s2), (Value.int .u64 s3), (Value.int .u64 s4)]), (Value.agg #[(Value.int .u64 s1), (Value.int .u64 s2), (Value.int .u64 s3), (Value.int .u64 s4)]), (Value.func (.func 62) #[] #[])] M (fun v _ => ∃ (x7 : Int) (x8 : Int) (x9 : Int) (x10 : Int), v = (Value.agg #[(Value.int .u64 x7), (Value.int .u64 x8), (Value.int .u64 x9), (Value.int .u64 x10)]) ∧ K (Value.agg #[(Value.int .u64 x7), (Value.int .u64 x8), (Value.int .u64 x9), (Value.int .u64 x10)])))
set_option linter.unusedVariables false in
set_option maxRecDepth 100000 in
theorem s_set_Not (s1 : Int) (s2 : Int) (s3 : Int) (s4 : Int) (M : Mem) (K : Value → Prop) (hS : S_set_Not s1 s2 s3 s4 M K) : CallE Try.prog 21 #[(Value.agg #[(Value.int .u64 s1), (Value.int .u64 s2), (Value.int .u64 s3), (Value.int .u64 s4)])] M (fun v _ => K v) := by
  refine enterE Try.func21 rfl 6 rfl (Nat.le_of_ble_eq_true rfl) (fun E a hs => ?_)
  unfold S_set_Not at hS
  have hMM := MX.refl M E
  change Sx 6 E [] M E a [(0, (Value.agg #[(Value.int .u64 s1), (Value.int .u64 s2), (Value.int .u64 s3), (Value.int .u64 s4)]))] [] [] at hs
  refine Wp.seq ?_
  refine Wp.region ?_
  refine stepBox [(Value.int .u64 s1), (Value.int .u64 s2), (Value.int .u64 s3), (Value.int .u64 s4)] hs rfl rfl rfl (by decide) (fun _ _ b5 hEb5 hs => ?_)
  refine stepAlloc [(Value.int .u64 0), (Value.int .u64 0), (Value.int .u64 0), (Value.int .u64 0)] hs (by kernel_rfl) (by decide) (fun _ _ b6 hEb6 hs => ?_)
  refine wpList_nil ?_
  refine Wp.seq ?_
  refine Wp.region ?_
  refine stepY (v := (Value.agg #[(Value.int .u64 s1), (Value.int .u64 s2), (Value.int .u64 s3), (Value.int .u64 s4)])) hs rfl rfl (by decide) (Yl.loadB (vs := [(Value.int .u64 s1), (Value.int .u64 s2), (Value.int .u64 s3), (Value.int .u64 s4)]) true 1 rfl rfl rfl (by kernel_rfl) rfl) (fun _ hs => ?_)
  refine stepY (v := (Value.agg #[(Value.int .u64 s1), (Value.int .u64 s2), (Value.int .u64 s3), (Value.int .u64 s4)])) hs rfl rfl (by decide) (Yl.loadB (vs := [(Value.int .u64 s1), (Value.int .u64 s2), (Value.int .u64 s3), (Value.int .u64 s4)]) true 1 rfl rfl rfl (by kernel_rfl) rfl) (fun _ hs => ?_)
  refine stepCallP [(Value.agg #[(Value.int .u64 s1), (Value.int .u64 s2), (Value.int .u64 s3), (Value.int .u64 s4)]), (Value.agg #[(Value.int .u64 s1), (Value.int .u64 s2), (Value.int .u64 s3), (Value.int .u64 s4)]), (Value.func (.func 62) #[] #[])] hs rfl ⟨_, rfl, rfl⟩ rfl Try.func59 rfl (by kernel_rfl) (by decide) hS (fun _ _ v hS hs => ?_)
  obtain ⟨x7, x8, x9, x10, hv, hS⟩ := hS
  subst hv
  refine stepStoreB 0 (vs := [(Value.int .u64 x7), (Value.int .u64 x8), (Value.int .u64 x9), (Value.int .u64 x10)]) hs rfl rfl rfl rfl rfl rfl (by kernel_rfl) (Nat.le_of_ble_eq_true rfl) rfl (fun _ _ hs => ?_)
  replace hs := hs.chbx (bs' := [⟨b6, 29, [(Value.int .u64 x7), (Value.int .u64 x8), (Value.int .u64 x9), (Value.int .u64 x10)]⟩, ⟨b5, 29, [(Value.int .u64 s1), (Value.int .u64 s2), (Value.int .u64 s3), (Value.int .u64 s4)]⟩]) rfl
  refine wpList_nil ?_
  refine Wp.ret ?_
  exact leaveE (K := fun v _ => K v) hs (resC (vs := [(Value.int .u64 x7), (Value.int .u64 x8), (Value.int .u64 x9), (Value.int .u64 x10)]) true 0 hs rfl rfl rfl (by kernel_rfl) rfl) hMM.2 (fun _ _ => hS)
theorem f_set_Not (s1 : Int) (s2 : Int) (s3 : Int) (s4 : Int) (M : Mem) (K : Value → Prop) (hS : S_set_Not s1 s2 s3 s4 M K) : CallF Try.prog (Value.func (.func 21) #[] #[]) [(Value.agg #[(Value.int .u64 s1), (Value.int .u64 s2), (Value.int .u64 s3), (Value.int .u64 s4)])] M (fun v _ => K v) := ⟨21, _, _, _, rfl, Try.func21, rfl, (by decide), s_set_Not _ _ _ _ _ _ hS⟩
set_option linter.unusedVariables false in
def S_chafflaw_SetJoins_3 (b1 : Int) (b2 : Nat) (M : Mem) (K : Value → Prop) : Prop :=
  (∃ (x3 : Int) (x4 : Int) (x5 : Int) (x6 : Int), At M b2 0 [(Value.int .u64 x3), (Value.int .u64 x4), (Value.int .u64 x5), (Value.int .u64 x6)] ∧ (CallE Try.prog 18 #[(Value.agg #[(Value.int .u64 x3), (Value.int .u64 x4), (Value.int .u64 x5), (Value.int .u64 x6)]), (Value.int .i64 b1)] M (fun v _ => ∃ (x7 : Bool), v = (Value.bool x7) ∧ K (Value.bool (!x7)))))
set_option linter.unusedVariables false in
set_option maxRecDepth 100000 in
theorem s_chafflaw_SetJoins_3 (b1 : Int) (b2 : Nat) (M : Mem) (K : Value → Prop) (hS : S_chafflaw_SetJoins_3 b1 b2 M K) : CallE Try.prog 22 #[(Value.int .i64 b1), (Value.pointer (some ⟨b2, 0, none⟩))] M (fun v _ => K v) := by
  refine enterE Try.func22 rfl 8 rfl (Nat.le_of_ble_eq_true rfl) (fun E a hs => ?_)
  unfold S_chafflaw_SetJoins_3 at hS
  have hMM := MX.refl M E
  change Sx 8 E [] M E a [(0, (Value.int .i64 b1)), (1, (Value.pointer (some ⟨b2, 0, none⟩)))] [] [] at hs
  refine Wp.seq ?_
  refine Wp.region ?_
  refine stepY (v := (Value.bool false)) hs rfl rfl (by decide) (Yl.pure rfl (fun _ => by kernel_rfl)) (fun _ hs => ?_)
  refine wpList_nil ?_
  refine Wp.seq ?_
  refine Wp.region ?_
  obtain ⟨x3, x4, x5, x6, hat, hS⟩ := hS
  refine stepY (v := (Value.agg #[(Value.int .u64 x3), (Value.int .u64 x4), (Value.int .u64 x5), (Value.int .u64 x6)])) hs rfl rfl (by decide) (Yl.loadV (vs := [(Value.int .u64 x3), (Value.int .u64 x4), (Value.int .u64 x5), (Value.int .u64 x6)]) true rfl rfl (by kernel_rfl) hat) (fun _ hs => ?_)
  refine stepY (v := (Value.int .i64 b1)) hs rfl rfl (by decide) (Yl.pure rfl (fun _ => by kernel_rfl)) (fun _ hs => ?_)
  refine stepCallP [(Value.agg #[(Value.int .u64 x3), (Value.int .u64 x4), (Value.int .u64 x5), (Value.int .u64 x6)]), (Value.int .i64 b1)] hs rfl ⟨_, rfl, rfl⟩ rfl Try.func18 rfl (by kernel_rfl) (by decide) hS (fun _ _ v hS hs => ?_)
  obtain ⟨x7, hv, hS⟩ := hS
  subst hv
  refine stepY (v := (Value.bool (!x7))) hs rfl rfl (by decide) (Yl.pure rfl (fun _ => by kernel_rfl)) (fun _ hs => ?_)
  refine stepY (v := (Value.bool (!x7))) hs rfl rfl (by decide) (Yl.pure rfl (fun _ => by kernel_rfl)) (fun _ hs => ?_)
  refine wpList_nil ?_
  refine Wp.ret ?_
  exact leaveE (K := fun v _ => K v) hs (resT hs rfl rfl) hMM.2 (fun _ _ => hS)
theorem f_chafflaw_SetJoins_3 (b1 : Int) (b2 : Nat) (M : Mem) (K : Value → Prop) (hS : S_chafflaw_SetJoins_3 b1 b2 M K) : CallF Try.prog (Value.func (.func 22) #[] #[(Value.pointer (some ⟨b2, 0, none⟩))]) [(Value.int .i64 b1)] M (fun v _ => K v) := ⟨22, _, _, _, rfl, Try.func22, rfl, (by decide), s_chafflaw_SetJoins_3 _ _ _ _ hS⟩
set_option linter.unusedVariables false in
def S_chafflaw_SetJoins (s1 : Int) (s2 : Int) (s3 : Int) (s4 : Int) (t5 : Int) (t6 : Int) (t7 : Int) (t8 : Int) (M : Mem) (K : Value → Prop) : Prop :=
  (CallE Try.prog 15 #[(Value.agg #[(Value.int .u64 s1), (Value.int .u64 s2), (Value.int .u64 s3), (Value.int .u64 s4)]), (Value.agg #[(Value.int .u64 t5), (Value.int .u64 t6), (Value.int .u64 t7), (Value.int .u64 t8)])] M (fun v _ => ∃ (x11 : Int) (x12 : Int) (x13 : Int) (x14 : Int), v = (Value.agg #[(Value.int .u64 x11), (Value.int .u64 x12), (Value.int .u64 x13), (Value.int .u64 x14)]) ∧ (∀ (M15 : Mem) (b9 : Nat), M.le M15 → At M15 b9 0 [(Value.int .u64 s1), (Value.int .u64 s2), (Value.int .u64 s3), (Value.int .u64 s4)] → (∀ (M16 : Mem) (b10 : Nat), M15.le M16 → At M16 b10 0 [(Value.int .u64 t5), (Value.int .u64 t6), (Value.int .u64 t7), (Value.int .u64 t8)] → (CallE Try.prog 16 #[(Value.func (.func 17) #[] #[(Value.pointer (some ⟨b9, 0, none⟩)), (Value.pointer (some ⟨b10, 0, none⟩))])] M16 (fun v _ => ∃ (x17 : Int) (x18 : Int) (x19 : Int) (x20 : Int), v = (Value.agg #[(Value.int .u64 x17), (Value.int .u64 x18), (Value.int .u64 x19), (Value.int .u64 x20)]) ∧ (((cellsEq [x11, x12, x13, x14] [x17, x18, x19, x20]) = true → (∃ (x21 : Int) (x22 : Int) (x23 : Int) (x24 : Int), At M16 b9 0 [(Value.int .u64 x21), (Value.int .u64 x22), (Value.int .u64 x23), (Value.int .u64 x24)] ∧ (∃ (x25 : Int) (x26 : Int) (x27 : Int) (x28 : Int), At M16 b10 0 [(Value.int .u64 x25), (Value.int .u64 x26), (Value.int .u64 x27), (Value.int .u64 x28)] ∧ (CallE Try.prog 19 #[(Value.agg #[(Value.int .u64 x21), (Value.int .u64 x22), (Value.int .u64 x23), (Value.int .u64 x24)]), (Value.agg #[(Value.int .u64 x25), (Value.int .u64 x26), (Value.int .u64 x27), (Value.int .u64 x28)])] M16 (fun v _ => ∃ (x29 : Int) (x30 : Int) (x31 : Int) (x32 : Int), v = (Value.agg #[(Value.int .u64 x29), (Value.int .u64 x30), (Value.int .u64 x31), (Value.int .u64 x32)]) ∧ (CallE Try.prog 16 #[(Value.func (.func 20) #[] #[(Value.pointer (some ⟨b9, 0, none⟩)), (Value.pointer (some ⟨b10, 0, none⟩))])] M16 (fun v _ => ∃ (x33 : Int) (x34 : Int) (x35 : Int) (x36 : Int), v = (Value.agg #[(Value.int .u64 x33), (Value.int .u64 x34), (Value.int .u64 x35), (Value.int .u64 x36)]) ∧ (((cellsEq [x29, x30, x31, x32] [x33, x34, x35, x36]) = true → (∃ (x37 : Int) (x38 : Int) (x39 : Int) (x40 : Int), At M16 b9 0 [(Value.int .u64 x37), (Value.int .u64 x38), (Value.int .u64 x39), (Value.int .u64 x40)] ∧ (CallE Try.prog 21 #[(Value.agg #[(Value.int .u64 x37), (Value.int .u64 x38), (Value.int .u64 x39), (Value.int .u64 x40)])] M16 (fun v _ => ∃ (x41 : Int) (x42 : Int) (x43 : Int) (x44 : Int), v = (Value.agg #[(Value.int .u64 x41), (Value.int .u64 x42), (Value.int .u64 x43), (Value.int .u64 x44)]) ∧ (CallE Try.prog 16 #[(Value.func (.func 22) #[] #[(Value.pointer (some ⟨b9, 0, none⟩))])] M16 (fun v _ => ∃ (x45 : Int) (x46 : Int) (x47 : Int) (x48 : Int), v = (Value.agg #[(Value.int .u64 x45), (Value.int .u64 x46), (Value.int .u64 x47), (Value.int .u64 x48)]) ∧ K (Value.bool (cellsEq [x41, x42, x43, x44] [x45, x46, x47, x48])))))))) ∧ (¬ ((cellsEq [x29, x30, x31, x32] [x33, x34, x35, x36]) = true) → K (Value.bool false)))))))))) ∧ (¬ ((cellsEq [x11, x12, x13, x14] [x17, x18, x19, x20]) = true) → K (Value.bool false)))))))))
set_option linter.unusedVariables false in
set_option maxRecDepth 100000 in
theorem s_chafflaw_SetJoins (s1 : Int) (s2 : Int) (s3 : Int) (s4 : Int) (t5 : Int) (t6 : Int) (t7 : Int) (t8 : Int) (M : Mem) (K : Value → Prop) (hS : S_chafflaw_SetJoins s1 s2 s3 s4 t5 t6 t7 t8 M K) : CallE Try.prog 4 #[(Value.agg #[(Value.int .u64 s1), (Value.int .u64 s2), (Value.int .u64 s3), (Value.int .u64 s4)]), (Value.agg #[(Value.int .u64 t5), (Value.int .u64 t6), (Value.int .u64 t7), (Value.int .u64 t8)])] M (fun v _ => K v) := by
  refine enterE Try.func4 rfl 26 rfl (Nat.le_of_ble_eq_true rfl) (fun E a hs => ?_)
  unfold S_chafflaw_SetJoins at hS
  have hMM := MX.refl M E
  change Sx 26 E [] M E a [(0, (Value.agg #[(Value.int .u64 s1), (Value.int .u64 s2), (Value.int .u64 s3), (Value.int .u64 s4)])), (1, (Value.agg #[(Value.int .u64 t5), (Value.int .u64 t6), (Value.int .u64 t7), (Value.int .u64 t8)]))] [] [] at hs
  refine Wp.seq ?_
  refine Wp.region ?_
  refine stepBox [(Value.int .u64 s1), (Value.int .u64 s2), (Value.int .u64 s3), (Value.int .u64 s4)] hs rfl rfl rfl (by decide) (fun _ _ b9 hEb9 hs => ?_)
  refine stepBox [(Value.int .u64 t5), (Value.int .u64 t6), (Value.int .u64 t7), (Value.int .u64 t8)] hs rfl rfl rfl (by decide) (fun _ _ b10 hEb10 hs => ?_)
  refine stepY (v := (Value.bool false)) hs rfl rfl (by decide) (Yl.pure rfl (fun _ => by kernel_rfl)) (fun _ hs => ?_)
  refine wpList_nil ?_
  refine Wp.seq ?_
  refine Wp.region ?_
  refine stepY (v := (Value.agg #[(Value.int .u64 s1), (Value.int .u64 s2), (Value.int .u64 s3), (Value.int .u64 s4)])) hs rfl rfl (by decide) (Yl.loadB (vs := [(Value.int .u64 s1), (Value.int .u64 s2), (Value.int .u64 s3), (Value.int .u64 s4)]) true 1 rfl rfl rfl (by kernel_rfl) rfl) (fun _ hs => ?_)
  refine stepY (v := (Value.agg #[(Value.int .u64 t5), (Value.int .u64 t6), (Value.int .u64 t7), (Value.int .u64 t8)])) hs rfl rfl (by decide) (Yl.loadB (vs := [(Value.int .u64 t5), (Value.int .u64 t6), (Value.int .u64 t7), (Value.int .u64 t8)]) true 0 rfl rfl rfl (by kernel_rfl) rfl) (fun _ hs => ?_)
  refine stepCallP [(Value.agg #[(Value.int .u64 s1), (Value.int .u64 s2), (Value.int .u64 s3), (Value.int .u64 s4)]), (Value.agg #[(Value.int .u64 t5), (Value.int .u64 t6), (Value.int .u64 t7), (Value.int .u64 t8)])] hs rfl ⟨_, rfl, rfl⟩ rfl Try.func15 rfl (by kernel_rfl) (by decide) hS (fun _ _ v hS hs => ?_)
  obtain ⟨x11, x12, x13, x14, hv, hS⟩ := hS
  subst hv
  refine stepY (v := (Value.func (.func 17) #[] #[(Value.pointer (some ⟨b9, 0, none⟩)), (Value.pointer (some ⟨b10, 0, none⟩))])) hs rfl rfl (by decide) (Yl.pure rfl (fun _ => by kernel_rfl)) (fun _ hs => ?_)
  obtain ⟨M15, hle, hat, hnew, hs⟩ := hs.freeze 1 rfl hEb9 rfl
  have hMM := hMM.next hle hnew
  have hS := hS M15 b9 hle hat
  obtain ⟨M16, hle, hat, hnew, hs⟩ := hs.freeze 0 rfl hEb10 rfl
  have hMM := hMM.next hle hnew
  have hS := hS M16 b10 hle hat
  refine stepCallP [(Value.func (.func 17) #[] #[(Value.pointer (some ⟨b9, 0, none⟩)), (Value.pointer (some ⟨b10, 0, none⟩))])] hs rfl ⟨_, rfl, rfl⟩ rfl Try.func16 rfl (by kernel_rfl) (by decide) hS (fun _ _ v hS hs => ?_)
  obtain ⟨x17, x18, x19, x20, hv, hS⟩ := hS
  subst hv
  refine stepY (v := (Value.bool (cellsEq [x11, x12, x13, x14] [x17, x18, x19, x20]))) hs rfl rfl (by decide) (Yl.eqlA (n := 4) (e := 27) (k := .u64) (xs := [x11, x12, x13, x14]) (ys := [x17, x18, x19, x20]) rfl (by kernel_rfl) (by kernel_rfl) (by kernel_rfl) (by kernel_rfl) rfl rfl rfl rfl rfl rfl) (fun _ hs => ?_)
  refine stepY (v := (Value.bool (cellsEq [x11, x12, x13, x14] [x17, x18, x19, x20]))) hs rfl rfl (by decide) (Yl.pure rfl (fun _ => by kernel_rfl)) (fun _ hs => ?_)
  refine bsplit (cellsEq [x11, x12, x13, x14] [x17, x18, x19, x20]) Iff.rfl (fun hb hc => ?_) (fun hb hc => ?_)
  · have hs := hs.bt hb
    have hS := hS.1 hc
    refine step_yes hs rfl rfl rfl ?_
    obtain ⟨x21, x22, x23, x24, hat, hS⟩ := hS
    refine stepY (v := (Value.agg #[(Value.int .u64 x21), (Value.int .u64 x22), (Value.int .u64 x23), (Value.int .u64 x24)])) hs rfl rfl (by decide) (Yl.loadV (vs := [(Value.int .u64 x21), (Value.int .u64 x22), (Value.int .u64 x23), (Value.int .u64 x24)]) true rfl rfl (by kernel_rfl) hat) (fun _ hs => ?_)
    refine step_yes hs rfl rfl rfl ?_
    obtain ⟨x25, x26, x27, x28, hat, hS⟩ := hS
    refine stepY (v := (Value.agg #[(Value.int .u64 x25), (Value.int .u64 x26), (Value.int .u64 x27), (Value.int .u64 x28)])) hs rfl rfl (by decide) (Yl.loadV (vs := [(Value.int .u64 x25), (Value.int .u64 x26), (Value.int .u64 x27), (Value.int .u64 x28)]) true rfl rfl (by kernel_rfl) hat) (fun _ hs => ?_)
    refine step_yes hs rfl rfl rfl ?_
    refine stepCallP [(Value.agg #[(Value.int .u64 x21), (Value.int .u64 x22), (Value.int .u64 x23), (Value.int .u64 x24)]), (Value.agg #[(Value.int .u64 x25), (Value.int .u64 x26), (Value.int .u64 x27), (Value.int .u64 x28)])] hs rfl ⟨_, rfl, rfl⟩ rfl Try.func19 rfl (by kernel_rfl) (by decide) hS (fun _ _ v hS hs => ?_)
    obtain ⟨x29, x30, x31, x32, hv, hS⟩ := hS
    subst hv
    refine step_yes hs rfl rfl rfl ?_
    refine stepY (v := (Value.func (.func 20) #[] #[(Value.pointer (some ⟨b9, 0, none⟩)), (Value.pointer (some ⟨b10, 0, none⟩))])) hs rfl rfl (by decide) (Yl.pure rfl (fun _ => by kernel_rfl)) (fun _ hs => ?_)
    refine step_yes hs rfl rfl rfl ?_
    refine stepCallP [(Value.func (.func 20) #[] #[(Value.pointer (some ⟨b9, 0, none⟩)), (Value.pointer (some ⟨b10, 0, none⟩))])] hs rfl ⟨_, rfl, rfl⟩ rfl Try.func16 rfl (by kernel_rfl) (by decide) hS (fun _ _ v hS hs => ?_)
    obtain ⟨x33, x34, x35, x36, hv, hS⟩ := hS
    subst hv
    refine step_yes hs rfl rfl rfl ?_
    refine stepY (v := (Value.bool (cellsEq [x29, x30, x31, x32] [x33, x34, x35, x36]))) hs rfl rfl (by decide) (Yl.eqlA (n := 4) (e := 27) (k := .u64) (xs := [x29, x30, x31, x32]) (ys := [x33, x34, x35, x36]) rfl (by kernel_rfl) (by kernel_rfl) (by kernel_rfl) (by kernel_rfl) rfl rfl rfl rfl rfl rfl) (fun _ hs => ?_)
    refine stepY (v := (Value.bool (cellsEq [x29, x30, x31, x32] [x33, x34, x35, x36]))) hs rfl rfl (by decide) (Yl.pure rfl (fun _ => by kernel_rfl)) (fun _ hs => ?_)
    refine stepY (v := (Value.bool (cellsEq [x29, x30, x31, x32] [x33, x34, x35, x36]))) hs rfl rfl (by decide) (Yl.pure rfl (fun _ => by kernel_rfl)) (fun _ hs => ?_)
    refine bsplit (cellsEq [x29, x30, x31, x32] [x33, x34, x35, x36]) Iff.rfl (fun hb hc => ?_) (fun hb hc => ?_)
    · have hs := hs.bt hb
      have hS := hS.1 hc
      refine step_yes hs rfl rfl rfl ?_
      obtain ⟨x37, x38, x39, x40, hat, hS⟩ := hS
      refine stepY (v := (Value.agg #[(Value.int .u64 x37), (Value.int .u64 x38), (Value.int .u64 x39), (Value.int .u64 x40)])) hs rfl rfl (by decide) (Yl.loadV (vs := [(Value.int .u64 x37), (Value.int .u64 x38), (Value.int .u64 x39), (Value.int .u64 x40)]) true rfl rfl (by kernel_rfl) hat) (fun _ hs => ?_)
      refine step_yes hs rfl rfl rfl ?_
      refine stepCallP [(Value.agg #[(Value.int .u64 x37), (Value.int .u64 x38), (Value.int .u64 x39), (Value.int .u64 x40)])] hs rfl ⟨_, rfl, rfl⟩ rfl Try.func21 rfl (by kernel_rfl) (by decide) hS (fun _ _ v hS hs => ?_)
      obtain ⟨x41, x42, x43, x44, hv, hS⟩ := hS
      subst hv
      refine step_yes hs rfl rfl rfl ?_
      refine stepY (v := (Value.func (.func 22) #[] #[(Value.pointer (some ⟨b9, 0, none⟩))])) hs rfl rfl (by decide) (Yl.pure rfl (fun _ => by kernel_rfl)) (fun _ hs => ?_)
      refine step_yes hs rfl rfl rfl ?_
      refine stepCallP [(Value.func (.func 22) #[] #[(Value.pointer (some ⟨b9, 0, none⟩))])] hs rfl ⟨_, rfl, rfl⟩ rfl Try.func16 rfl (by kernel_rfl) (by decide) hS (fun _ _ v hS hs => ?_)
      obtain ⟨x45, x46, x47, x48, hv, hS⟩ := hS
      subst hv
      refine step_yes hs rfl rfl rfl ?_
      refine stepY (v := (Value.bool (cellsEq [x41, x42, x43, x44] [x45, x46, x47, x48]))) hs rfl rfl (by decide) (Yl.eqlA (n := 4) (e := 27) (k := .u64) (xs := [x41, x42, x43, x44]) (ys := [x45, x46, x47, x48]) rfl (by kernel_rfl) (by kernel_rfl) (by kernel_rfl) (by kernel_rfl) rfl rfl rfl rfl rfl rfl) (fun _ hs => ?_)
      refine stepY (v := (Value.bool (cellsEq [x41, x42, x43, x44] [x45, x46, x47, x48]))) hs rfl rfl (by decide) (Yl.pure rfl (fun _ => by kernel_rfl)) (fun _ hs => ?_)
      refine stepY (v := (Value.bool (cellsEq [x41, x42, x43, x44] [x45, x46, x47, x48]))) hs rfl rfl (by decide) (Yl.pure rfl (fun _ => by kernel_rfl)) (fun _ hs => ?_)
      refine wpList_nil ?_
      refine Wp.ret ?_
      exact leaveE (K := fun v _ => K v) hs (resT hs rfl rfl) hMM.2 (fun _ _ => hS)
    · have hs := hs.bf hb
      have hS := hS.2 hc
      refine step_no hs rfl rfl rfl rfl rfl (by decide) (fun _ hs => ?_)
      refine step_no hs rfl rfl rfl rfl rfl (by decide) (fun _ hs => ?_)
      refine step_no hs rfl rfl rfl rfl rfl (by decide) (fun _ hs => ?_)
      refine step_no hs rfl rfl rfl rfl rfl (by decide) (fun _ hs => ?_)
      refine step_no hs rfl rfl rfl rfl rfl (by decide) (fun _ hs => ?_)
      refine stepY (v := (Value.bool false)) hs rfl rfl (by decide) (Yl.pure rfl (fun _ => by kernel_rfl)) (fun _ hs => ?_)
      refine stepY (v := (Value.bool false)) hs rfl rfl (by decide) (Yl.pure rfl (fun _ => by kernel_rfl)) (fun _ hs => ?_)
      refine wpList_nil ?_
      refine Wp.ret ?_
      exact leaveE (K := fun v _ => K v) hs (resT hs rfl rfl) hMM.2 (fun _ _ => hS)
  · have hs := hs.bf hb
    have hS := hS.2 hc
    refine step_no hs rfl rfl rfl rfl rfl (by decide) (fun _ hs => ?_)
    refine step_no hs rfl rfl rfl rfl rfl (by decide) (fun _ hs => ?_)
    refine step_no hs rfl rfl rfl rfl rfl (by decide) (fun _ hs => ?_)
    refine step_no hs rfl rfl rfl rfl rfl (by decide) (fun _ hs => ?_)
    refine step_no hs rfl rfl rfl rfl rfl (by decide) (fun _ hs => ?_)
    refine step_no hs rfl rfl rfl rfl rfl (by decide) (fun _ hs => ?_)
    refine stepY (v := (Value.bool false)) hs rfl rfl (by decide) (Yl.pure rfl (fun _ => by kernel_rfl)) (fun _ hs => ?_)
    refine stepY (v := (Value.bool false)) hs rfl rfl (by decide) (Yl.pure rfl (fun _ => by kernel_rfl)) (fun _ hs => ?_)
    refine step_no hs rfl rfl rfl rfl rfl (by decide) (fun _ hs => ?_)
    refine step_no hs rfl rfl rfl rfl rfl (by decide) (fun _ hs => ?_)
    refine step_no hs rfl rfl rfl rfl rfl (by decide) (fun _ hs => ?_)
    refine step_no hs rfl rfl rfl rfl rfl (by decide) (fun _ hs => ?_)
    refine step_no hs rfl rfl rfl rfl rfl (by decide) (fun _ hs => ?_)
    refine stepY (v := (Value.bool false)) hs rfl rfl (by decide) (Yl.pure rfl (fun _ => by kernel_rfl)) (fun _ hs => ?_)
    refine stepY (v := (Value.bool false)) hs rfl rfl (by decide) (Yl.pure rfl (fun _ => by kernel_rfl)) (fun _ hs => ?_)
    refine wpList_nil ?_
    refine Wp.ret ?_
    exact leaveE (K := fun v _ => K v) hs (resT hs rfl rfl) hMM.2 (fun _ _ => hS)
theorem f_chafflaw_SetJoins (s1 : Int) (s2 : Int) (s3 : Int) (s4 : Int) (t5 : Int) (t6 : Int) (t7 : Int) (t8 : Int) (M : Mem) (K : Value → Prop) (hS : S_chafflaw_SetJoins s1 s2 s3 s4 t5 t6 t7 t8 M K) : CallF Try.prog (Value.func (.func 4) #[] #[]) [(Value.agg #[(Value.int .u64 s1), (Value.int .u64 s2), (Value.int .u64 s3), (Value.int .u64 s4)]), (Value.agg #[(Value.int .u64 t5), (Value.int .u64 t6), (Value.int .u64 t7), (Value.int .u64 t8)])] M (fun v _ => K v) := ⟨4, _, _, _, rfl, Try.func4, rfl, (by decide), s_chafflaw_SetJoins _ _ _ _ _ _ _ _ _ _ hS⟩

def WalkGoal : Prop := ∀ (H : Type) (enc : TypeId × Value → H) (W : World) (fuel0 : Nat) (z0_0 : Int) (_ : (Lit.int .u64 z0_0).wf = true) (z0_1 : Int) (_ : (Lit.int .u64 z0_1).wf = true) (z0_2 : Int) (_ : (Lit.int .u64 z0_2).wf = true) (z0_3 : Int) (_ : (Lit.int .u64 z0_3).wf = true) (fuel1 : Nat) (z1_0 : Int) (_ : (Lit.int .u64 z1_0).wf = true) (z1_1 : Int) (_ : (Lit.int .u64 z1_1).wf = true) (z1_2 : Int) (_ : (Lit.int .u64 z1_2).wf = true) (z1_3 : Int) (_ : (Lit.int .u64 z1_3).wf = true), CallE Try.prog 4 #[.agg #[.int .u64 z0_0, .int .u64 z0_1, .int .u64 z0_2, .int .u64 z0_3], .agg #[.int .u64 z1_0, .int .u64 z1_1, .int .u64 z1_2, .int .u64 z1_3]] (HM W) (fun v _ => v = .bool true)
theorem top_own : ownKnob Try.prog.godebug = none := by kernel_rfl
theorem top_laidOut : laidOutB Try.prog = true := by kernel_rfl
set_option linter.unusedVariables false in
set_option maxRecDepth 100000 in
theorem top_lifted (walk : WalkGoal) (os : Os) (started : os.Started) (H : Type) (enc : TypeId × Value → H) :
    ReturnsInHanded {} Try.checked os 4 .any (Rows.setJoinsSpec.pre6 enc Try.prog Try.f4 Rows.setJoinsRow.domain false) (Rows.setJoinsSpec.post enc Try.prog Try.f4 false true false false) := by
  refine returnsInHanded_of_change (C := Try.checked) top_own started (by kernel_rfl) Try.func4
    (ChangeSpec.witness6 (enc := enc) (C := Try.checked) false ⟨#[], #[.agg #[.int .u64 0, .int .u64 0, .int .u64 0, .int .u64 0], .agg #[.int .u64 0, .int .u64 0, .int .u64 0, .int .u64 0]], []⟩ 9 (by kernel_rfl) (by kernel_rfl) (by kernel_rfl) (by kernel_rfl)) ?_
  intro W base args ds gs before hval0 hW hcnd _
  have hval : ∀ (j : Nat) t v, Try.f4.params[j]? = some t → args[j]? = some v → Value.okWide Try.prog W .any base t v := hval0
  have hW' := hW
  obtain ⟨p, q, hA0, hV, rfl, hfz, hnd⟩ := hW
  have hA : DataW.TrodAll enc Try.prog W 0 (fun _ => true) true Try.f4.params.toList args.toList ds p := hA0
  have hA1 := hA
  rw [Try.params4] at hA hval
  obtain ⟨v0, vs0, d0, ds0, p0, q0, hargs, rfl, rfl, h0, r0⟩ := trodAll_cons hA
  obtain ⟨v1, vs1, d1, ds1, p1, q1, rfl, rfl, rfl, h1, r1⟩ := trodAll_cons r0
  obtain ⟨rfl, rfl, rfl⟩ := trodAll_nil r1
  obtain rfl : args = #[v0, v1] := by cases args; simp_all
  obtain ⟨rfl, rfl⟩ := trodVars_none hV
  obtain ⟨cs0, f0, rfl, w0⟩ := argAggA 9 Try.underlying29 (by kernel_rfl : leaves Try.prog 9 29 = some [.int .u64, .int .u64, .int .u64, .int .u64]) (hval 0 29 _ rfl rfl) h0
  obtain ⟨_, _, rfl, ⟨z0_0, rfl, w0_0⟩, _, _, rfl, ⟨z0_1, rfl, w0_1⟩, _, _, rfl, ⟨z0_2, rfl, w0_2⟩, _, _, rfl, ⟨z0_3, rfl, w0_3⟩, rfl⟩ := w0
  obtain ⟨cs1, f1, rfl, w1⟩ := argAggA 9 Try.underlying29 (by kernel_rfl : leaves Try.prog 9 29 = some [.int .u64, .int .u64, .int .u64, .int .u64]) (hval 1 29 _ rfl rfl) h1
  obtain ⟨_, _, rfl, ⟨z1_0, rfl, w1_0⟩, _, _, rfl, ⟨z1_1, rfl, w1_1⟩, _, _, rfl, ⟨z1_2, rfl, w1_2⟩, _, _, rfl, ⟨z1_3, rfl, w1_3⟩, rfl⟩ := w1
  clear hA0 hval0
  refine (walk H enc W f0 z0_0 w0_0 z0_1 w0_1 z0_2 w0_2 z0_3 w0_3 f1 z1_0 w1_0 z1_1 w1_1 z1_2 w1_2 z1_3 w1_3 W (HM.on W)).mono fun e W' ⟨v, he, bel, hv⟩ => ?_
  subst he
  subst hv
  exact ⟨_, rfl, _, _, _, [], _, [], hW', trodAll_mk1 (shut_bool Try.underlying4 _), trodAll_below top_laidOut bel (by kernel_rfl) hA1, rfl, bel.frame _, fun h => by cases h⟩
theorem top (walk : WalkGoal) : Rows.SetJoinsSaid :=
  OpenClaim.holds_of_wide 4 Try.f4 rfl rfl rfl rfl rfl rfl rfl ⟨rfl, rfl, rfl, rfl, rfl⟩ rfl rfl rfl rfl rfl (by kernel_rfl) Try.func4 (by kernel_rfl)
    (of_decide_eq_true (by kernel_rfl)) (by unfold Func.isWrapper; first | (rw [if_pos (by decide +kernel)]; kernel_rfl) | (rw [if_neg (by decide +kernel)]; exact ⟨rfl, rfl⟩))
    (fun os started H enc _ => top_lifted walk os started H enc)
end Go.Proofs.Ytdlfhmdojbejkaa.lawSetJoins
