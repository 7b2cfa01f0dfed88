/- What the code computes, function for function, as shallow propositions; printed by program. -/
import Derived.Test.YtaljnkggjadonaaCoreG
namespace Go.Proofs.Ytaljnkggjadonaa.core
open Go.Gx Go.RowKit Go.ChangeShapes Go.WideShapes Go.ChangeAt
set_option linter.unusedVariables false in
def C_chaffref_Kernel (e1 : X_api_Expr) (n3 : Int) (M : Mem) (K : Value → Int → Mem → Prop) : Prop := ∀ (b2 : Nat), CallL Try.prog 61 #[e1.val, (Value.pointer (some ⟨b2, 0, none⟩))] M [⟨b2, 3, [(Value.int .i64 n3)]⟩] [] (fun v lb' lr' M' => ∃ (c4 : Int), lb' = [⟨b2, 3, [(Value.int .i64 c4)]⟩] ∧ lr' = [] ∧ K v c4 M')
set_option linter.unusedVariables false in
def S_kernel_count_J2 (n20 : Int) (K : Value → Prop) : Prop :=
  (InI (n20 + 1) ∧ K (Value.int .i64 (if 401 < n20 + 1 then 401 else n20 + 1)))
set_option linter.unusedVariables false in
def S_kernel_count_J1 (n10 : Int) (x19 : Bool) (K : Value → Prop) : Prop :=
  ((x19 = true → (InI (n10 + 1) ∧ (S_kernel_count_J2 (n10 + 1) K))) ∧ (¬ (x19 = true) → (S_kernel_count_J2 n10 K)))
set_option linter.unusedVariables false in
def S_kernel_count (e1 : X_api_Expr) (M : Mem) (K : Value → Prop) : Prop :=
  (∃ (I12 : Int → Int → Prop) (mu13 : Int → Int → Nat), I12 0 0 ∧ ∀ (n10 : Int) (x11 : Int), (I12 n10 x11 → ((x11 < ((e1.Kids_l : Nat) : Int) → (∃ (b14 o15 : Nat), e1.Kids_a = some ⟨b14, o15, none⟩ ∧ (0 : Int) ≤ x11 ∧ x11 < ((e1.Kids_l : Nat) : Int) ∧ (∃ (x16 : X_api_Expr), At M b14 (o15 + x11.toNat * 7) x16.cells ∧ (CallE Try.prog 59 #[x16.val] M (fun v _ => ∃ (x18 : Int), v = (Value.int .i64 x18) ∧ (InI (n10 + x18) ∧ (InI (x11 + 1) ∧ I12 (if 400 < n10 + x18 then 400 else n10 + x18) (x11 + 1) ∧ mu13 (if 400 < n10 + x18 then 400 else n10 + x18) (x11 + 1) < mu13 n10 x11))))))) ∧ (¬ (x11 < ((e1.Kids_l : Nat) : Int)) → (((e1.Kind : Int) = 8 → (InI (2 * n10) ∧ (InI ((2 * n10) + 1) ∧ (S_kernel_count_J2 ((2 * n10) + 1) K)))) ∧ (¬ ((e1.Kind : Int) = 8) → (((e1.Kind : Int) = 9 → (S_kernel_count_J1 n10 ((e1.Kind : Int) == (9 : Int)) K)) ∧ (¬ ((e1.Kind : Int) = 9) → (S_kernel_count_J1 n10 ((e1.Kind : Int) == (10 : Int)) K)))))))))
set_option linter.unusedVariables false in
set_option maxRecDepth 100000 in
theorem s_kernel_count (e1 : X_api_Expr) (M : Mem) (K : Value → Prop) (hS : S_kernel_count e1 M K) : CallE Try.prog 59 #[e1.val] M (fun v _ => K v) := by
  refine enterE Try.func59 rfl 34 rfl (Nat.le_of_ble_eq_true rfl) (fun E a hs => ?_)
  unfold S_kernel_count at hS
  have hMM := MX.refl M E
  change Sx 34 E [] M E a [(0, e1.val)] [] [] at hs
  refine Wp.seq (Wp.region (stepBox [(Value.int .i64 e1.Kind), (Value.int .u64 e1.Set.w0), (Value.int .u64 e1.Set.w1), (Value.int .u64 e1.Set.w2), (Value.int .u64 e1.Set.w3), (Value.string (mkS e1.Text)), (Value.slice e1.Kids_a e1.Kids_l e1.Kids_c)] hs rfl rfl rfl (by decide) (fun _ _ b2 hEb2 hs => ?_)))
  refine sP (Value.int .i64 0) hs fun _ hs => ?_
  refine wpList_nil (Wp.seq (Wp.region (sP (Value.int .i64 0) hs fun _ hs => ?_)))
  refine wpList_nil (Wp.seq (Wp.seq (Wp.region (sP (Value.pointer (some ⟨b2, 6, none⟩)) hs fun _ hs => ?_))))
  refine sY (Value.slice e1.Kids_a e1.Kids_l e1.Kids_c) hs (Yl.loadB (vs := [(Value.slice e1.Kids_a e1.Kids_l e1.Kids_c)]) false 0 rfl rfl rfl (by kernel_rfl) rfl) fun _ hs => ?_
  refine sP (Value.int .i64 ((e1.Kids_l : Nat) : Int)) hs fun _ hs => ?_
  refine sP (Value.int .i64 0) hs fun _ hs => ?_
  refine wpList_nil (Wp.block ?_)
  obtain ⟨I12, mu13, hI0, hst⟩ := hS
  refine Wp.loop (σ := (Int) × (Int)) (fun s a w => match s with | (n10, x11) => Sx 34 E [] M w a [(1, (Value.pointer (some ⟨b2, 0, none⟩))), (3, (Value.int .i64 n10)), (7, (Value.slice e1.Kids_a e1.Kids_l e1.Kids_c)), (8, (Value.int .i64 ((e1.Kids_l : Nat) : Int))), (9, (Value.int .i64 x11))] [⟨b2, 96, [(Value.int .i64 e1.Kind), (Value.int .u64 e1.Set.w0), (Value.int .u64 e1.Set.w1), (Value.int .u64 e1.Set.w2), (Value.int .u64 e1.Set.w3), (Value.string (mkS e1.Text)), (Value.slice e1.Kids_a e1.Kids_l e1.Kids_c)]⟩] [] ∧ I12 n10 x11) (fun s => match s with | (n10, x11) => mu13 n10 x11) (0, 0) ⟨(hs.weak (List.Sublist.refl _) (List.Sublist.refl _) ⟨rfl, rfl, rfl, rfl, rfl, trivial⟩), hI0⟩ (fun s a w hI => ?_)
  obtain ⟨n10, x11⟩ := s
  obtain ⟨hs, hI⟩ := hI
  have hS := hst n10 x11 hI
  clear hst hI0 hI
  refine Wp.seq (Wp.region (sP (Value.bool (decide (x11 < ((e1.Kids_l : Nat) : Int)))) hs fun _ hs => ?_))
  refine wpList_nil (Wp.seq (Wp.cond hs rfl rfl decide_eq_true_iff (fun hc => ?_) (fun hc => ?_)))
  · have hS := hS.1 hc
    refine Wp.skip (Wp.seq (Wp.block (Wp.seq (Wp.region ?_))))
    obtain ⟨b14, o15, ha, h0, hl, hS⟩ := hS
    refine sY (Value.pointer (some ⟨b14, o15 + x11.toNat * 7, none⟩)) hs (Yl.indexS (e := 96) (sz := 7) rfl rfl rfl rfl (by kernel_rfl) (by kernel_rfl) ha h0 hl) fun _ hs => ?_
    obtain ⟨x16, hat, hS⟩ := hS
    refine sY x16.val hs (Yl.loadV (vs := x16.cells) true rfl rfl (by kernel_rfl) hat) fun _ hs => ?_
    refine stepAlloc [(Value.int .i64 0), (Value.int .u64 0), (Value.int .u64 0), (Value.int .u64 0), (Value.int .u64 0), (Value.string (mkS [])), (Value.slice none 0 0)] hs (by kernel_rfl) (by decide) (fun _ _ b17 hEb17 hs => ?_)
    have hs := hs.nilrow 96 7
    refine stepStoreB 0 (vs := [(Value.int .i64 x16.Kind), (Value.int .u64 x16.Set.w0), (Value.int .u64 x16.Set.w1), (Value.int .u64 x16.Set.w2), (Value.int .u64 x16.Set.w3), (Value.string (mkS x16.Text)), (Value.slice x16.Kids_a x16.Kids_l x16.Kids_c)]) hs rfl rfl rfl rfl rfl rfl (by kernel_rfl) (Nat.le_of_ble_eq_true rfl) rfl (fun _ _ hs => ?_)
    replace hs := hs.chbx (bs' := [⟨b17, 96, [(Value.int .i64 x16.Kind), (Value.int .u64 x16.Set.w0), (Value.int .u64 x16.Set.w1), (Value.int .u64 x16.Set.w2), (Value.int .u64 x16.Set.w3), (Value.string (mkS x16.Text)), (Value.slice x16.Kids_a x16.Kids_l x16.Kids_c)]⟩, ⟨b2, 96, [(Value.int .i64 e1.Kind), (Value.int .u64 e1.Set.w0), (Value.int .u64 e1.Set.w1), (Value.int .u64 e1.Set.w2), (Value.int .u64 e1.Set.w3), (Value.string (mkS e1.Text)), (Value.slice e1.Kids_a e1.Kids_l e1.Kids_c)]⟩]) rfl
    refine wpList_nil (Wp.region (sP (Value.int .i64 n10) hs fun _ hs => ?_))
    refine sY x16.val hs (Yl.loadB (vs := x16.cells) true 0 rfl rfl rfl (by kernel_rfl) rfl) fun _ hs => ?_
    refine stepCallP [x16.val] hs rfl ⟨_, rfl, rfl⟩ rfl Try.func59 rfl (by kernel_rfl) (by decide) hS (fun _ _ v hS hs => ?_)
    obtain ⟨x18, hv, hS⟩ := hS
    subst hv
    obtain ⟨hI, hS⟩ := hS
    refine sY (Value.int .i64 (n10 + x18)) hs (Yl.eq (Yl.pure (v := Value.int .i64 (IntKind.wrap .i64 (n10 + x18))) rfl (fun _ => by kernel_rfl)) (congrArg (Value.int .i64) (wrap_in hI))) fun _ hs => ?_
    refine sP (Value.int .i64 (if 400 < n10 + x18 then 400 else n10 + x18)) hs fun _ hs => ?_
    refine sP (Value.int .i64 (if 400 < n10 + x18 then 400 else n10 + x18)) hs fun _ hs => ?_
    refine wpList_nil (Wp.region ?_)
    obtain ⟨hI, hS⟩ := hS
    refine sY (Value.int .i64 (x11 + 1)) hs (Yl.eq (Yl.pure (v := Value.int .i64 (IntKind.wrap .i64 (x11 + 1))) rfl (fun _ => by kernel_rfl)) (congrArg (Value.int .i64) (wrap_in hI))) fun _ hs => ?_
    refine sP (Value.int .i64 (x11 + 1)) hs fun _ hs => ?_
    exact wpList_nil (⟨((if 400 < n10 + x18 then 400 else n10 + x18), x11 + 1), ⟨(hs.weak (.cons _ (.cons_cons _ List.Sublist.slnil)) (.cons _ List.Sublist.slnil) ⟨rfl, rfl, rfl, rfl, rfl, trivial⟩), hS.1⟩, hS.2⟩)
  · have hS := hS.2 hc
    refine Wp.exit rfl (Wp.join (fun a w => ∃ (n20 : Int), Sx 34 E [] M w a [(3, (Value.int .i64 n20))] [⟨b2, 96, [(Value.int .i64 e1.Kind), (Value.int .u64 e1.Set.w0), (Value.int .u64 e1.Set.w1), (Value.int .u64 e1.Set.w2), (Value.int .u64 e1.Set.w3), (Value.string (mkS e1.Text)), (Value.slice e1.Kids_a e1.Kids_l e1.Kids_c)]⟩] [] ∧ (S_kernel_count_J2 n20 K)) ?_ ?_)
    · refine Wp.seq (Wp.region (sP (Value.pointer (some ⟨b2, 0, none⟩)) hs fun _ hs => ?_))
      refine sY (Value.int .i64 e1.Kind) hs (Yl.loadB (vs := [(Value.int .i64 e1.Kind)]) false 0 rfl rfl rfl (by kernel_rfl) rfl) fun _ hs => ?_
      refine wpList_nil (Wp.block (Wp.seq (Wp.region (sP (Value.bool ((e1.Kind : Int) == (8 : Int))) hs fun _ hs => ?_))))
      refine sP (Value.bool ((e1.Kind : Int) == (8 : Int))) hs fun _ hs => ?_
      refine wpList_nil (Wp.cond hs rfl rfl beq_iff_eq (fun hc => ?_) (fun hc => ?_))
      · have hS := hS.1 hc
        refine Wp.region (sP (Value.int .i64 n10) hs fun _ hs => ?_)
        obtain ⟨hI, hS⟩ := hS
        refine sY (Value.int .i64 (2 * n10)) hs (Yl.eq (Yl.pure (v := Value.int .i64 (IntKind.wrap .i64 (2 * n10))) rfl (fun _ => by kernel_rfl)) (congrArg (Value.int .i64) (wrap_in hI))) fun _ hs => ?_
        obtain ⟨hI, hS⟩ := hS
        refine sY (Value.int .i64 ((2 * n10) + 1)) hs (Yl.eq (Yl.pure (v := Value.int .i64 (IntKind.wrap .i64 ((2 * n10) + 1))) rfl (fun _ => by kernel_rfl)) (congrArg (Value.int .i64) (wrap_in hI))) fun _ hs => ?_
        refine sP (Value.int .i64 ((2 * n10) + 1)) hs fun _ hs => ?_
        exact wpList_nil (⟨((2 * n10) + 1), (hs.weak (List.Sublist.refl _) (List.Sublist.refl _) ⟨rfl, trivial⟩), hS⟩)
      · have hS := hS.2 hc
        refine Wp.join (fun a w => ∃ (x19 : Bool), Sx 34 E [] M w a [(3, (Value.int .i64 n10)), (26, (Value.bool x19))] [⟨b2, 96, [(Value.int .i64 e1.Kind), (Value.int .u64 e1.Set.w0), (Value.int .u64 e1.Set.w1), (Value.int .u64 e1.Set.w2), (Value.int .u64 e1.Set.w3), (Value.string (mkS e1.Text)), (Value.slice e1.Kids_a e1.Kids_l e1.Kids_c)]⟩] [] ∧ (S_kernel_count_J1 n10 x19 K)) ?_ ?_
        · refine Wp.seq (Wp.region (sP (Value.bool ((e1.Kind : Int) == (9 : Int))) hs fun _ hs => ?_))
          refine sP (Value.bool ((e1.Kind : Int) == (9 : Int))) hs fun _ hs => ?_
          refine wpList_nil (Wp.cond hs rfl rfl beq_iff_eq (fun hc => ?_) (fun hc => ?_))
          · have hS := hS.1 hc
            exact Wp.skip (⟨((e1.Kind : Int) == (9 : Int)), (hs.weak (List.Sublist.refl _) (List.Sublist.refl _) ⟨rfl, rfl, trivial⟩), hS⟩)
          · have hS := hS.2 hc
            refine Wp.region (sP (Value.bool ((e1.Kind : Int) == (10 : Int))) hs fun _ hs => ?_)
            refine sP (Value.bool ((e1.Kind : Int) == (10 : Int))) hs fun _ hs => ?_
            exact wpList_nil (⟨((e1.Kind : Int) == (10 : Int)), (hs.weak (List.Sublist.refl _) (List.Sublist.refl _) ⟨rfl, rfl, trivial⟩), hS⟩)
        · intro a w hJ
          obtain ⟨x19, hs, hS⟩ := hJ
          unfold S_kernel_count_J1 at hS
          refine Wp.cond hs rfl rfl Iff.rfl (fun hc => ?_) (fun hc => ?_)
          · have hS := hS.1 hc
            refine Wp.region (sP (Value.int .i64 n10) hs fun _ hs => ?_)
            obtain ⟨hI, hS⟩ := hS
            refine sY (Value.int .i64 (n10 + 1)) hs (Yl.eq (Yl.pure (v := Value.int .i64 (IntKind.wrap .i64 (n10 + 1))) rfl (fun _ => by kernel_rfl)) (congrArg (Value.int .i64) (wrap_in hI))) fun _ hs => ?_
            refine sP (Value.int .i64 (n10 + 1)) hs fun _ hs => ?_
            exact wpList_nil (⟨(n10 + 1), (hs.weak (List.Sublist.refl _) (List.Sublist.refl _) ⟨rfl, trivial⟩), hS⟩)
          · have hS := hS.2 hc
            exact Wp.skip (⟨n10, (hs.weak (List.Sublist.refl _) (List.Sublist.refl _) ⟨rfl, trivial⟩), hS⟩)
    · intro a w hJ
      obtain ⟨n20, hs, hS⟩ := hJ
      unfold S_kernel_count_J2 at hS
      refine Wp.seq (Wp.region (sP (Value.int .i64 n20) hs fun _ hs => ?_))
      obtain ⟨hI, hS⟩ := hS
      refine sY (Value.int .i64 (n20 + 1)) hs (Yl.eq (Yl.pure (v := Value.int .i64 (IntKind.wrap .i64 (n20 + 1))) rfl (fun _ => by kernel_rfl)) (congrArg (Value.int .i64) (wrap_in hI))) fun _ hs => ?_
      refine sP (Value.int .i64 (if 401 < n20 + 1 then 401 else n20 + 1)) hs fun _ hs => ?_
      refine sP (Value.int .i64 (if 401 < n20 + 1 then 401 else n20 + 1)) hs fun _ hs => ?_
      exact wpList_nil (Wp.ret (leaveE (K := fun v _ => K v) hs (resT hs rfl rfl) hMM.2 (fun _ _ => hS)))
set_option linter.unusedVariables false in
def S_expr_Copy (e1 : X_api_Expr) (M : Mem) (K : Value → Mem → Prop) : Prop :=
  (∃ (I40 : Int → Nat → List Value → Mem → Prop) (mu41 : Int → Nat → List Value → Nat), I40 0 0 [] M ∧ ∀ (x35 : Int) (rn37 : Nat) (rx38 : List Value) (M39 : Mem), (I40 x35 rn37 rx38 M39 → ((x35 < ((e1.Kids_l : Nat) : Int) → (∃ (b42 o43 : Nat), e1.Kids_a = some ⟨b42, o43, none⟩ ∧ (0 : Int) ≤ x35 ∧ x35 < ((e1.Kids_l : Nat) : Int) ∧ (∃ (x44 : X_api_Expr), At M39 b42 (o43 + x35.toNat * 7) x44.cells ∧ (CallE Try.prog 101 #[x44.val] M39 (fun v M47 => ∃ (x46 : X_api_Expr), v = x46.val ∧ ((rn37 + 1) * 80 ≤ 140737488355328 ∧ (InI (x35 + 1) ∧ I40 (x35 + 1) (rn37 + 1) (rx38 ++ x46.cells) M47 ∧ mu41 (x35 + 1) (rn37 + 1) (rx38 ++ x46.cells) < mu41 x35 rn37 rx38))))))) ∧ (¬ (x35 < ((e1.Kids_l : Nat) : Int)) → (∀ (M56 : Mem) (ad54 : Option Addr) (cap55 : Nat), M39.le M56 → SlV M56 ad54 rn37 cap55 7 rx38 → (∀ M', M56.le M' → K (X_api_Expr.mk e1.Kind e1.Set e1.Text ad54 rn37 cap55).val M'))))))
set_option linter.unusedVariables false in
set_option maxRecDepth 100000 in
theorem s_expr_Copy (e1 : X_api_Expr) (M : Mem) (K : Value → Mem → Prop) (hS : S_expr_Copy e1 M K) : CallE Try.prog 101 #[e1.val] M K := by
  refine enterE Try.func101 rfl 24 rfl (Nat.le_of_ble_eq_true rfl) (fun E a hs => ?_)
  unfold S_expr_Copy at hS
  have hMM := MX.refl M E
  change Sx 24 E [] M E a [(0, e1.val)] [] [] at hs
  refine Wp.seq (Wp.region (stepBox [(Value.int .i64 e1.Kind), (Value.int .u64 e1.Set.w0), (Value.int .u64 e1.Set.w1), (Value.int .u64 e1.Set.w2), (Value.int .u64 e1.Set.w3), (Value.string (mkS e1.Text)), (Value.slice e1.Kids_a e1.Kids_l e1.Kids_c)] hs rfl rfl rfl (by decide) (fun _ _ b2 hEb2 hs => ?_)))
  refine stepAlloc [(Value.int .i64 0), (Value.int .u64 0), (Value.int .u64 0), (Value.int .u64 0), (Value.int .u64 0), (Value.string (mkS [])), (Value.slice none 0 0)] hs (by kernel_rfl) (by decide) (fun _ _ b3 hEb3 hs => ?_)
  have hs := hs.nilrow 96 7
  refine wpList_nil (Wp.seq (Wp.region (sY e1.val hs (Yl.loadB (vs := e1.cells) true 1 rfl rfl rfl (by kernel_rfl) rfl) fun _ hs => ?_)))
  refine stepAlloc [(Value.int .i64 0), (Value.int .u64 0), (Value.int .u64 0), (Value.int .u64 0), (Value.int .u64 0), (Value.string (mkS [])), (Value.slice none 0 0)] hs (by kernel_rfl) (by decide) (fun _ _ b4 hEb4 hs => ?_)
  have hs := hs.nilrow 96 7
  refine stepStoreB 0 (vs := [(Value.int .i64 e1.Kind), (Value.int .u64 e1.Set.w0), (Value.int .u64 e1.Set.w1), (Value.int .u64 e1.Set.w2), (Value.int .u64 e1.Set.w3), (Value.string (mkS e1.Text)), (Value.slice e1.Kids_a e1.Kids_l e1.Kids_c)]) hs rfl rfl rfl rfl rfl rfl (by kernel_rfl) (Nat.le_of_ble_eq_true rfl) rfl (fun _ _ hs => ?_)
  replace hs := hs.chbx (bs' := [⟨b4, 96, [(Value.int .i64 e1.Kind), (Value.int .u64 e1.Set.w0), (Value.int .u64 e1.Set.w1), (Value.int .u64 e1.Set.w2), (Value.int .u64 e1.Set.w3), (Value.string (mkS e1.Text)), (Value.slice e1.Kids_a e1.Kids_l e1.Kids_c)]⟩, ⟨b3, 96, [(Value.int .i64 0), (Value.int .u64 0), (Value.int .u64 0), (Value.int .u64 0), (Value.int .u64 0), (Value.string (mkS [])), (Value.slice none 0 0)]⟩, ⟨b2, 96, [(Value.int .i64 e1.Kind), (Value.int .u64 e1.Set.w0), (Value.int .u64 e1.Set.w1), (Value.int .u64 e1.Set.w2), (Value.int .u64 e1.Set.w3), (Value.string (mkS e1.Text)), (Value.slice e1.Kids_a e1.Kids_l e1.Kids_c)]⟩]) rfl
  refine wpList_nil (Wp.seq (Wp.region (sP (Value.pointer (some ⟨b4, 6, none⟩)) hs fun _ hs => ?_)))
  refine stepStoreB 0 (vs := [(Value.slice none 0 0)]) hs rfl rfl rfl rfl rfl rfl (by kernel_rfl) (Nat.le_of_ble_eq_true rfl) rfl (fun _ _ hs => ?_)
  replace hs := hs.chbx (bs' := [⟨b4, 96, [(Value.int .i64 e1.Kind), (Value.int .u64 e1.Set.w0), (Value.int .u64 e1.Set.w1), (Value.int .u64 e1.Set.w2), (Value.int .u64 e1.Set.w3), (Value.string (mkS e1.Text)), (Value.slice none 0 0)]⟩, ⟨b3, 96, [(Value.int .i64 0), (Value.int .u64 0), (Value.int .u64 0), (Value.int .u64 0), (Value.int .u64 0), (Value.string (mkS [])), (Value.slice none 0 0)]⟩, ⟨b2, 96, [(Value.int .i64 e1.Kind), (Value.int .u64 e1.Set.w0), (Value.int .u64 e1.Set.w1), (Value.int .u64 e1.Set.w2), (Value.int .u64 e1.Set.w3), (Value.string (mkS e1.Text)), (Value.slice e1.Kids_a e1.Kids_l e1.Kids_c)]⟩]) rfl
  have hs := hs.nilrow 96 7
  refine wpList_nil (Wp.seq (Wp.seq (Wp.region (sP (Value.pointer (some ⟨b2, 6, none⟩)) hs fun _ hs => ?_))))
  refine sY (Value.slice e1.Kids_a e1.Kids_l e1.Kids_c) hs (Yl.loadB (vs := [(Value.slice e1.Kids_a e1.Kids_l e1.Kids_c)]) false 2 rfl rfl rfl (by kernel_rfl) rfl) fun _ hs => ?_
  refine sP (Value.int .i64 ((e1.Kids_l : Nat) : Int)) hs fun _ hs => ?_
  refine sP (Value.int .i64 0) hs fun _ hs => ?_
  refine wpList_nil (Wp.block ?_)
  obtain ⟨I40, mu41, hI0, hst⟩ := hS
  refine Wp.loop (σ := (Int) × (Nat) × (List Value) × (Value) × (Mem)) (fun s a w => match s with | (x35, rn37, rx38, rv36, M39) => MX M39 M E ∧ Sx 24 E [] M39 w a [(2, (Value.pointer (some ⟨b3, 0, none⟩))), (3, (Value.pointer (some ⟨b4, 0, none⟩))), (9, (Value.slice e1.Kids_a e1.Kids_l e1.Kids_c)), (10, (Value.int .i64 ((e1.Kids_l : Nat) : Int))), (11, (Value.int .i64 x35))] [⟨b4, 96, [(Value.int .i64 e1.Kind), (Value.int .u64 e1.Set.w0), (Value.int .u64 e1.Set.w1), (Value.int .u64 e1.Set.w2), (Value.int .u64 e1.Set.w3), (Value.string (mkS e1.Text)), rv36]⟩, ⟨b3, 96, [(Value.int .i64 0), (Value.int .u64 0), (Value.int .u64 0), (Value.int .u64 0), (Value.int .u64 0), (Value.string (mkS [])), (Value.slice none 0 0)]⟩, ⟨b2, 96, [(Value.int .i64 e1.Kind), (Value.int .u64 e1.Set.w0), (Value.int .u64 e1.Set.w1), (Value.int .u64 e1.Set.w2), (Value.int .u64 e1.Set.w3), (Value.string (mkS e1.Text)), (Value.slice e1.Kids_a e1.Kids_l e1.Kids_c)]⟩] [⟨rv36, 96, 7, rn37, rx38, true⟩, ⟨(Value.slice none 0 0), 96, 7, 0, [], true⟩] ∧ I40 x35 rn37 rx38 M39) (fun s => match s with | (x35, rn37, rx38, rv36, M39) => mu41 x35 rn37 rx38) (0, 0, [], (Value.slice none 0 0), M) ⟨hMM, (hs.weak (List.Sublist.refl _) (.cons_cons _ (.cons _ (.cons_cons _ List.Sublist.slnil))) ⟨rfl, rfl, rfl, rfl, rfl, trivial⟩), hI0⟩ (fun s a w hI => ?_)
  obtain ⟨x35, rn37, rx38, rv36, M39⟩ := s
  obtain ⟨hMM, hs, hI⟩ := hI
  have hS := hst x35 rn37 rx38 M39 hI
  clear hst hI0 hI
  refine Wp.seq (Wp.region (sP (Value.bool (decide (x35 < ((e1.Kids_l : Nat) : Int)))) hs fun _ hs => ?_))
  refine wpList_nil (Wp.seq (Wp.cond hs rfl rfl decide_eq_true_iff (fun hc => ?_) (fun hc => ?_)))
  · have hS := hS.1 hc
    refine Wp.skip (Wp.seq (Wp.block (Wp.seq (Wp.region ?_))))
    obtain ⟨b42, o43, ha, h0, hl, hS⟩ := hS
    refine sY (Value.pointer (some ⟨b42, o43 + x35.toNat * 7, none⟩)) hs (Yl.indexS (e := 96) (sz := 7) rfl rfl rfl rfl (by kernel_rfl) (by kernel_rfl) ha h0 hl) fun _ hs => ?_
    obtain ⟨x44, hat, hS⟩ := hS
    refine sY x44.val hs (Yl.loadV (vs := x44.cells) true rfl rfl (by kernel_rfl) hat) fun _ hs => ?_
    refine stepAlloc [(Value.int .i64 0), (Value.int .u64 0), (Value.int .u64 0), (Value.int .u64 0), (Value.int .u64 0), (Value.string (mkS [])), (Value.slice none 0 0)] hs (by kernel_rfl) (by decide) (fun _ _ b45 hEb45 hs => ?_)
    have hs := hs.nilrow 96 7
    refine stepStoreB 0 (vs := [(Value.int .i64 x44.Kind), (Value.int .u64 x44.Set.w0), (Value.int .u64 x44.Set.w1), (Value.int .u64 x44.Set.w2), (Value.int .u64 x44.Set.w3), (Value.string (mkS x44.Text)), (Value.slice x44.Kids_a x44.Kids_l x44.Kids_c)]) hs rfl rfl rfl rfl rfl rfl (by kernel_rfl) (Nat.le_of_ble_eq_true rfl) rfl (fun _ _ hs => ?_)
    replace hs := hs.chbx (bs' := [⟨b45, 96, [(Value.int .i64 x44.Kind), (Value.int .u64 x44.Set.w0), (Value.int .u64 x44.Set.w1), (Value.int .u64 x44.Set.w2), (Value.int .u64 x44.Set.w3), (Value.string (mkS x44.Text)), (Value.slice x44.Kids_a x44.Kids_l x44.Kids_c)]⟩, ⟨b4, 96, [(Value.int .i64 e1.Kind), (Value.int .u64 e1.Set.w0), (Value.int .u64 e1.Set.w1), (Value.int .u64 e1.Set.w2), (Value.int .u64 e1.Set.w3), (Value.string (mkS e1.Text)), rv36]⟩, ⟨b3, 96, [(Value.int .i64 0), (Value.int .u64 0), (Value.int .u64 0), (Value.int .u64 0), (Value.int .u64 0), (Value.string (mkS [])), (Value.slice none 0 0)]⟩, ⟨b2, 96, [(Value.int .i64 e1.Kind), (Value.int .u64 e1.Set.w0), (Value.int .u64 e1.Set.w1), (Value.int .u64 e1.Set.w2), (Value.int .u64 e1.Set.w3), (Value.string (mkS e1.Text)), (Value.slice e1.Kids_a e1.Kids_l e1.Kids_c)]⟩]) rfl
    refine wpList_nil (Wp.regionD [true, true, true, true, true, false, true, false] hs (by kernel_rfl) rfl [⟨b45, 96, [(Value.int .i64 x44.Kind), (Value.int .u64 x44.Set.w0), (Value.int .u64 x44.Set.w1), (Value.int .u64 x44.Set.w2), (Value.int .u64 x44.Set.w3), (Value.string (mkS x44.Text)), (Value.slice x44.Kids_a x44.Kids_l x44.Kids_c)]⟩, ⟨b4, 96, [(Value.int .i64 e1.Kind), (Value.int .u64 e1.Set.w0), (Value.int .u64 e1.Set.w1), (Value.int .u64 e1.Set.w2), (Value.int .u64 e1.Set.w3), (Value.string (mkS e1.Text)), rv36]⟩, ⟨b3, 96, [(Value.int .i64 0), (Value.int .u64 0), (Value.int .u64 0), (Value.int .u64 0), (Value.int .u64 0), (Value.string (mkS [])), (Value.slice none 0 0)]⟩, ⟨b2, 96, [(Value.int .i64 e1.Kind), (Value.int .u64 e1.Set.w0), (Value.int .u64 e1.Set.w1), (Value.int .u64 e1.Set.w2), (Value.int .u64 e1.Set.w3), (Value.string (mkS e1.Text)), (Value.slice e1.Kids_a e1.Kids_l e1.Kids_c)]⟩] (fun _ h => h) [⟨(Value.slice none 0 0), 96, 7, 0, [], true⟩, ⟨rv36, 96, 7, rn37, rx38, true⟩, ⟨(Value.slice none 0 0), 96, 7, 0, [], true⟩] (fun _ h => h) (fun _ hs hC => ?_))
    have hL := Mem.le.refl M39
    refine dP (Value.pointer (some ⟨b4, 6, none⟩)) 0 [1, 5, 6, 7] hs QZ.no (wanted_none rfl) fun _ hs => ?_
    refine stepDY (v := rv36) 1 [5, 6, 7] hs hC QZ.no rfl (wanted_none rfl) rfl (by decide) (by kernel_rfl) (by kernel_rfl) (by kernel_rfl) (Yl.loadB (vs := [rv36]) false 1 rfl rfl rfl (by kernel_rfl) rfl) (fun _ hs => ?_)
    refine stepDE 2 rfl (wanted_none rfl) (by kernel_rfl) #[] ?_
    refine sY x44.val hs (Yl.loadB (vs := x44.cells) true 0 rfl rfl rfl (by kernel_rfl) rfl) fun _ hs => ?_
    refine wpList_nil (⟨fun _ h => h, ?_⟩)
    refine stepDE 3 rfl (wanted_none rfl) (by kernel_rfl) #[] ?_
    refine stepCallE [x44.val] hs rfl ⟨_, rfl, rfl⟩ rfl Try.func101 rfl (by kernel_rfl) (by decide) hS (fun _ _ M47 v hle hnew hS hs => ?_)
    have hMM := hMM.next hle hnew
    replace hL := hL.trans hle
    obtain ⟨x46, hv, hS⟩ := hS
    subst hv
    refine wpList_nil (⟨fun _ _ => hs.cxle hL (List.Sublist.refl _) (List.Sublist.refl _), ?_⟩)
    have hC := hs.cxle hL (List.Sublist.refl _) (List.Sublist.refl _)
    refine stepDE 4 rfl (wanted_none rfl) (by kernel_rfl) #[] ?_
    refine stepMake x46.cells 96 7 1 hs rfl rfl rfl (fun _ => by kernel_rfl) rfl (by unfold maxLen; decide) (by decide) (fun _ _ rv48 hs => ?_)
    refine wpList_nil (⟨fun _ _ => hs.cxle hL (List.Sublist.refl _) (.cons _ (.cons_cons _ (.cons_cons _ (.cons_cons _ List.Sublist.slnil)))), ?_⟩)
    have hC := hs.cxle hL (List.Sublist.refl _) (.cons _ (.cons_cons _ (.cons_cons _ (.cons_cons _ List.Sublist.slnil))))
    refine stepDE 5 rfl (wanted_none rfl) (by kernel_rfl) #[] ?_
    obtain ⟨ad49, cap50, hv, hcp, hxl⟩ := hs.rowform 0 rfl
    dsimp only at hv hcp hxl
    subst hv
    obtain ⟨hB, hS⟩ := hS
    refine stepAppend 2 x46.cells hs rfl rfl rfl rfl rfl (by kernel_rfl) (by kernel_rfl) (by decide) (by decide) (hs.srcRow 0 rfl rfl) (lenb hB (by decide)) hB (fun _ _ rv51 hs => ?_)
    replace hs := hs.chrs (rs' := [⟨(Value.slice ad49 1 cap50), 96, 7, 1, x46.cells, true⟩, ⟨(Value.slice none 0 0), 96, 7, 0, [], true⟩, ⟨rv51, 96, 7, (rn37 + 1), (rx38 ++ x46.cells), true⟩, ⟨(Value.slice none 0 0), 96, 7, 0, [], true⟩]) rfl
    refine wpList_nil (⟨fun h => absurd h (by decide), ?_⟩)
    refine stepDE 6 rfl (wanted_none rfl) (by kernel_rfl) #[] ?_
    refine sP (Value.pointer (some ⟨b4, 6, none⟩)) hs fun _ hs => ?_
    refine wpList_nil (⟨fun _ h => h, ?_⟩)
    refine stepDE 7 rfl (wanted_none rfl) (by kernel_rfl) #[] ?_
    obtain ⟨ad52, cap53, hv, hcp, hxl⟩ := hs.rowform 2 rfl
    dsimp only at hv hcp hxl
    subst hv
    refine stepStoreB 1 (vs := [(Value.slice ad52 (rn37 + 1) cap53)]) hs rfl rfl rfl rfl rfl rfl (by kernel_rfl) (Nat.le_of_ble_eq_true rfl) rfl (fun _ _ hs => ?_)
    replace hs := hs.chbx (bs' := [⟨b45, 96, [(Value.int .i64 x44.Kind), (Value.int .u64 x44.Set.w0), (Value.int .u64 x44.Set.w1), (Value.int .u64 x44.Set.w2), (Value.int .u64 x44.Set.w3), (Value.string (mkS x44.Text)), (Value.slice x44.Kids_a x44.Kids_l x44.Kids_c)]⟩, ⟨b4, 96, [(Value.int .i64 e1.Kind), (Value.int .u64 e1.Set.w0), (Value.int .u64 e1.Set.w1), (Value.int .u64 e1.Set.w2), (Value.int .u64 e1.Set.w3), (Value.string (mkS e1.Text)), (Value.slice ad52 (rn37 + 1) cap53)]⟩, ⟨b3, 96, [(Value.int .i64 0), (Value.int .u64 0), (Value.int .u64 0), (Value.int .u64 0), (Value.int .u64 0), (Value.string (mkS [])), (Value.slice none 0 0)]⟩, ⟨b2, 96, [(Value.int .i64 e1.Kind), (Value.int .u64 e1.Set.w0), (Value.int .u64 e1.Set.w1), (Value.int .u64 e1.Set.w2), (Value.int .u64 e1.Set.w3), (Value.string (mkS e1.Text)), (Value.slice e1.Kids_a e1.Kids_l e1.Kids_c)]⟩]) rfl
    refine wpList_nil (⟨fun h => absurd h (by decide), ?_⟩)
    refine WpD.done (by kernel_rfl) ?_ _
    refine Wp.region ?_
    obtain ⟨hI, hS⟩ := hS
    refine sY (Value.int .i64 (x35 + 1)) hs (Yl.eq (Yl.pure (v := Value.int .i64 (IntKind.wrap .i64 (x35 + 1))) rfl (fun _ => by kernel_rfl)) (congrArg (Value.int .i64) (wrap_in hI))) fun _ hs => ?_
    refine sP (Value.int .i64 (x35 + 1)) hs fun _ hs => ?_
    exact wpList_nil (⟨(x35 + 1, (rn37 + 1), (rx38 ++ x46.cells), (Value.slice ad52 (rn37 + 1) cap53), M47), ⟨hMM, (hs.weak (.cons _ (.cons_cons _ (.cons_cons _ (.cons_cons _ List.Sublist.slnil)))) (.cons _ (.cons _ (.cons_cons _ (.cons_cons _ List.Sublist.slnil)))) ⟨rfl, rfl, rfl, rfl, rfl, trivial⟩), hS.1⟩, hS.2⟩)
  · have hS := hS.2 hc
    refine Wp.exit rfl (Wp.seq (Wp.region (sY (Value.agg #[(Value.int .i64 e1.Kind), (Value.int .u64 e1.Set.w0), (Value.int .u64 e1.Set.w1), (Value.int .u64 e1.Set.w2), (Value.int .u64 e1.Set.w3), (Value.string (mkS e1.Text)), rv36]) hs (Yl.loadB (vs := [(Value.int .i64 e1.Kind), (Value.int .u64 e1.Set.w0), (Value.int .u64 e1.Set.w1), (Value.int .u64 e1.Set.w2), (Value.int .u64 e1.Set.w3), (Value.string (mkS e1.Text)), rv36]) true 0 rfl rfl rfl (by kernel_rfl) rfl) fun _ hs => ?_)))
    obtain ⟨ad54, cap55, hv, hcp, hxl⟩ := hs.rowform 0 rfl
    dsimp only at hv hcp hxl
    subst hv
    refine stepStoreB 1 (vs := [(Value.int .i64 e1.Kind), (Value.int .u64 e1.Set.w0), (Value.int .u64 e1.Set.w1), (Value.int .u64 e1.Set.w2), (Value.int .u64 e1.Set.w3), (Value.string (mkS e1.Text)), (Value.slice ad54 rn37 cap55)]) hs rfl rfl rfl rfl rfl rfl (by kernel_rfl) (Nat.le_of_ble_eq_true rfl) rfl (fun _ _ hs => ?_)
    replace hs := hs.chbx (bs' := [⟨b4, 96, [(Value.int .i64 e1.Kind), (Value.int .u64 e1.Set.w0), (Value.int .u64 e1.Set.w1), (Value.int .u64 e1.Set.w2), (Value.int .u64 e1.Set.w3), (Value.string (mkS e1.Text)), (Value.slice ad54 rn37 cap55)]⟩, ⟨b3, 96, [(Value.int .i64 e1.Kind), (Value.int .u64 e1.Set.w0), (Value.int .u64 e1.Set.w1), (Value.int .u64 e1.Set.w2), (Value.int .u64 e1.Set.w3), (Value.string (mkS e1.Text)), (Value.slice ad54 rn37 cap55)]⟩, ⟨b2, 96, [(Value.int .i64 e1.Kind), (Value.int .u64 e1.Set.w0), (Value.int .u64 e1.Set.w1), (Value.int .u64 e1.Set.w2), (Value.int .u64 e1.Set.w3), (Value.string (mkS e1.Text)), (Value.slice e1.Kids_a e1.Kids_l e1.Kids_c)]⟩]) rfl
    refine wpList_nil (Wp.ret ?_)
    obtain ⟨M56, hle, hsl, hnew, hs⟩ := hs.release 0 rfl [⟨(Value.slice none 0 0), 96, 7, 0, [], true⟩] rfl
    have hMM := hMM.next hle hnew
    have hS := hS M56 ad54 cap55 hle hsl
    exact leaveE (K := K) hs (resC (vs := [(Value.int .i64 e1.Kind), (Value.int .u64 e1.Set.w0), (Value.int .u64 e1.Set.w1), (Value.int .u64 e1.Set.w2), (Value.int .u64 e1.Set.w3), (Value.string (mkS e1.Text)), (Value.slice ad54 rn37 cap55)]) true 1 hs rfl rfl rfl (by kernel_rfl) rfl) hMM.2 hS
set_option linter.unusedVariables false in
def S_kernel_of (e1 : X_api_Expr) (M : Mem) (K : Value → Mem → Prop) : Prop :=
  (∃ (I40 : Int → Nat → List Value → Mem → Prop) (mu41 : Int → Nat → List Value → Nat), I40 0 0 [] M ∧ ∀ (x35 : Int) (rn37 : Nat) (rx38 : List Value) (M39 : Mem), (I40 x35 rn37 rx38 M39 → ((x35 < ((e1.Kids_l : Nat) : Int) → (∃ (b42 o43 : Nat), e1.Kids_a = some ⟨b42, o43, none⟩ ∧ (0 : Int) ≤ x35 ∧ x35 < ((e1.Kids_l : Nat) : Int) ∧ (∃ (x44 : X_api_Expr), At M39 b42 (o43 + x35.toNat * 7) x44.cells ∧ (CallE Try.prog 60 #[x44.val] M39 (fun v M47 => ∃ (x46 : X_api_Expr), v = x46.val ∧ ((rn37 + 1) * 80 ≤ 140737488355328 ∧ (InI (x35 + 1) ∧ I40 (x35 + 1) (rn37 + 1) (rx38 ++ x46.cells) M47 ∧ mu41 (x35 + 1) (rn37 + 1) (rx38 ++ x46.cells) < mu41 x35 rn37 rx38))))))) ∧ (¬ (x35 < ((e1.Kids_l : Nat) : Int)) → (((e1.Kind : Int) = 8 → ((0 : Int) ≤ 0 ∧ 0 < ((rn37 : Nat) : Int) ∧ (∃ (x58 : X_api_Expr), Cs rx38 (0 + (0 : Int).toNat * 7) x58.cells ∧ (CallE Try.prog 101 #[x58.val] M39 (fun v M60 => ∃ (x59 : X_api_Expr), v = x59.val ∧ ((0 : Int) ≤ 0 ∧ 0 < ((rn37 : Nat) : Int) ∧ (∃ (x66 : X_api_Expr), Cs rx38 (0 + (0 : Int).toNat * 7) x66.cells ∧ (∀ (M67 : Mem) (ad62 : Option Addr) (cap63 : Nat), M60.le M67 → SlV M67 ad62 1 cap63 7 x59.cells → (∀ (M71 : Mem) (ad69 : Option Addr) (cap70 : Nat), M67.le M71 → SlV M71 ad69 2 cap70 7 [(Value.int .i64 x66.Kind), (Value.int .u64 x66.Set.w0), (Value.int .u64 x66.Set.w1), (Value.int .u64 x66.Set.w2), (Value.int .u64 x66.Set.w3), (Value.string (mkS x66.Text)), (Value.slice x66.Kids_a x66.Kids_l x66.Kids_c), (Value.int .i64 7), (Value.int .u64 0), (Value.int .u64 0), (Value.int .u64 0), (Value.int .u64 0), (Value.string (mkS [])), (Value.slice ad62 1 cap63)] → (∀ M', M71.le M' → K (X_api_Expr.mk 5 (X_api_Set.mk 0 0 0 0) [] ad69 2 cap70).val M')))))))))) ∧ (¬ ((e1.Kind : Int) = 8) → (((e1.Kind : Int) = 9 → ((0 : Int) ≤ 0 ∧ 0 < ((rn37 : Nat) : Int) ∧ (∃ (x76 : X_api_Expr), Cs rx38 (0 + (0 : Int).toNat * 7) x76.cells ∧ (∀ (M80 : Mem) (ad78 : Option Addr) (cap79 : Nat), M39.le M80 → SlV M80 ad78 2 cap79 7 [(Value.int .i64 x76.Kind), (Value.int .u64 x76.Set.w0), (Value.int .u64 x76.Set.w1), (Value.int .u64 x76.Set.w2), (Value.int .u64 x76.Set.w3), (Value.string (mkS x76.Text)), (Value.slice x76.Kids_a x76.Kids_l x76.Kids_c), (Value.int .i64 1), (Value.int .u64 0), (Value.int .u64 0), (Value.int .u64 0), (Value.int .u64 0), (Value.string (mkS [])), (Value.slice none 0 0)] → (∀ M', M80.le M' → K (X_api_Expr.mk 6 (X_api_Set.mk 0 0 0 0) [] ad78 2 cap79).val M'))))) ∧ (¬ ((e1.Kind : Int) = 9) → (((e1.Kind : Int) = 10 → (∀ (M83 : Mem) (ad81 : Option Addr) (cap82 : Nat), M39.le M83 → SlV M83 ad81 rn37 cap82 7 rx38 → (∀ (M87 : Mem) (ad85 : Option Addr) (cap86 : Nat), M83.le M87 → SlV M87 ad85 1 cap86 7 ((X_api_Expr.mk 11 (X_api_Set.mk 0 0 0 0) [] ad81 rn37 cap82).cells) → (∀ M', M87.le M' → K (X_api_Expr.mk 11 (X_api_Set.mk 0 0 0 0) [] ad85 1 cap86).val M')))) ∧ (¬ ((e1.Kind : Int) = 10) → (∀ (M90 : Mem) (ad88 : Option Addr) (cap89 : Nat), M39.le M90 → SlV M90 ad88 rn37 cap89 7 rx38 → (∀ M', M90.le M' → K (X_api_Expr.mk e1.Kind e1.Set e1.Text ad88 rn37 cap89).val M'))))))))))))
set_option linter.unusedVariables false in
set_option maxRecDepth 100000 in
theorem s_kernel_of (e1 : X_api_Expr) (M : Mem) (K : Value → Mem → Prop) (hS : S_kernel_of e1 M K) : CallE Try.prog 60 #[e1.val] M K := by
  refine enterE Try.func60 rfl 64 rfl (Nat.le_of_ble_eq_true rfl) (fun E a hs => ?_)
  unfold S_kernel_of at hS
  have hMM := MX.refl M E
  change Sx 64 E [] M E a [(0, e1.val)] [] [] at hs
  refine Wp.seq (Wp.region (stepBox [(Value.int .i64 e1.Kind), (Value.int .u64 e1.Set.w0), (Value.int .u64 e1.Set.w1), (Value.int .u64 e1.Set.w2), (Value.int .u64 e1.Set.w3), (Value.string (mkS e1.Text)), (Value.slice e1.Kids_a e1.Kids_l e1.Kids_c)] hs rfl rfl rfl (by decide) (fun _ _ b2 hEb2 hs => ?_)))
  refine stepAlloc [(Value.int .i64 0), (Value.int .u64 0), (Value.int .u64 0), (Value.int .u64 0), (Value.int .u64 0), (Value.string (mkS [])), (Value.slice none 0 0)] hs (by kernel_rfl) (by decide) (fun _ _ b3 hEb3 hs => ?_)
  have hs := hs.nilrow 96 7
  refine wpList_nil (Wp.seq (Wp.region (sP (Value.pointer (some ⟨b2, 0, none⟩)) hs fun _ hs => ?_)))
  refine sY (Value.int .i64 e1.Kind) hs (Yl.loadB (vs := [(Value.int .i64 e1.Kind)]) false 1 rfl rfl rfl (by kernel_rfl) rfl) fun _ hs => ?_
  refine sP (Value.pointer (some ⟨b2, 1, none⟩)) hs fun _ hs => ?_
  refine sY e1.Set.val hs (Yl.loadB (vs := e1.Set.cells) true 1 rfl rfl rfl (by kernel_rfl) rfl) fun _ hs => ?_
  refine sP (Value.pointer (some ⟨b2, 5, none⟩)) hs fun _ hs => ?_
  refine sY (Value.string (mkS e1.Text)) hs (Yl.loadB (vs := [(Value.string (mkS e1.Text))]) false 1 rfl rfl rfl (by kernel_rfl) rfl) fun _ hs => ?_
  refine sP (X_api_Expr.mk e1.Kind e1.Set e1.Text none 0 0).val hs fun _ hs => ?_
  refine stepAlloc [(Value.int .i64 0), (Value.int .u64 0), (Value.int .u64 0), (Value.int .u64 0), (Value.int .u64 0), (Value.string (mkS [])), (Value.slice none 0 0)] hs (by kernel_rfl) (by decide) (fun _ _ b4 hEb4 hs => ?_)
  have hs := hs.nilrow 96 7
  refine stepStoreB 0 (vs := [(Value.int .i64 e1.Kind), (Value.int .u64 e1.Set.w0), (Value.int .u64 e1.Set.w1), (Value.int .u64 e1.Set.w2), (Value.int .u64 e1.Set.w3), (Value.string (mkS e1.Text)), (Value.slice none 0 0)]) hs rfl rfl rfl rfl rfl rfl (by kernel_rfl) (Nat.le_of_ble_eq_true rfl) rfl (fun _ _ hs => ?_)
  replace hs := hs.chbx (bs' := [⟨b4, 96, [(Value.int .i64 e1.Kind), (Value.int .u64 e1.Set.w0), (Value.int .u64 e1.Set.w1), (Value.int .u64 e1.Set.w2), (Value.int .u64 e1.Set.w3), (Value.string (mkS e1.Text)), (Value.slice none 0 0)]⟩, ⟨b3, 96, [(Value.int .i64 0), (Value.int .u64 0), (Value.int .u64 0), (Value.int .u64 0), (Value.int .u64 0), (Value.string (mkS [])), (Value.slice none 0 0)]⟩, ⟨b2, 96, [(Value.int .i64 e1.Kind), (Value.int .u64 e1.Set.w0), (Value.int .u64 e1.Set.w1), (Value.int .u64 e1.Set.w2), (Value.int .u64 e1.Set.w3), (Value.string (mkS e1.Text)), (Value.slice e1.Kids_a e1.Kids_l e1.Kids_c)]⟩]) rfl
  have hs := hs.nilrow 96 7
  refine wpList_nil (Wp.seq (Wp.seq (Wp.region (sP (Value.pointer (some ⟨b2, 6, none⟩)) hs fun _ hs => ?_))))
  refine sY (Value.slice e1.Kids_a e1.Kids_l e1.Kids_c) hs (Yl.loadB (vs := [(Value.slice e1.Kids_a e1.Kids_l e1.Kids_c)]) false 2 rfl rfl rfl (by kernel_rfl) rfl) fun _ hs => ?_
  refine sP (Value.int .i64 ((e1.Kids_l : Nat) : Int)) hs fun _ hs => ?_
  refine sP (Value.int .i64 0) hs fun _ hs => ?_
  refine wpList_nil (Wp.block ?_)
  obtain ⟨I40, mu41, hI0, hst⟩ := hS
  refine Wp.loop (σ := (Int) × (Nat) × (List Value) × (Value) × (Mem)) (fun s a w => match s with | (x35, rn37, rx38, rv36, M39) => MX M39 M E ∧ Sx 64 E [] M39 w a [(1, (Value.pointer (some ⟨b2, 0, none⟩))), (2, (Value.pointer (some ⟨b3, 0, none⟩))), (3, (Value.pointer (some ⟨b4, 0, none⟩))), (15, (Value.slice e1.Kids_a e1.Kids_l e1.Kids_c)), (16, (Value.int .i64 ((e1.Kids_l : Nat) : Int))), (17, (Value.int .i64 x35))] [⟨b4, 96, [(Value.int .i64 e1.Kind), (Value.int .u64 e1.Set.w0), (Value.int .u64 e1.Set.w1), (Value.int .u64 e1.Set.w2), (Value.int .u64 e1.Set.w3), (Value.string (mkS e1.Text)), rv36]⟩, ⟨b3, 96, [(Value.int .i64 0), (Value.int .u64 0), (Value.int .u64 0), (Value.int .u64 0), (Value.int .u64 0), (Value.string (mkS [])), (Value.slice none 0 0)]⟩, ⟨b2, 96, [(Value.int .i64 e1.Kind), (Value.int .u64 e1.Set.w0), (Value.int .u64 e1.Set.w1), (Value.int .u64 e1.Set.w2), (Value.int .u64 e1.Set.w3), (Value.string (mkS e1.Text)), (Value.slice e1.Kids_a e1.Kids_l e1.Kids_c)]⟩] [⟨rv36, 96, 7, rn37, rx38, true⟩, ⟨(Value.slice none 0 0), 96, 7, 0, [], true⟩] ∧ I40 x35 rn37 rx38 M39) (fun s => match s with | (x35, rn37, rx38, rv36, M39) => mu41 x35 rn37 rx38) (0, 0, [], (Value.slice none 0 0), M) ⟨hMM, (hs.weak (List.Sublist.refl _) (.cons_cons _ (.cons _ (.cons_cons _ List.Sublist.slnil))) ⟨rfl, rfl, rfl, rfl, rfl, rfl, trivial⟩), hI0⟩ (fun s a w hI => ?_)
  obtain ⟨x35, rn37, rx38, rv36, M39⟩ := s
  obtain ⟨hMM, hs, hI⟩ := hI
  have hS := hst x35 rn37 rx38 M39 hI
  clear hst hI0 hI
  refine Wp.seq (Wp.region (sP (Value.bool (decide (x35 < ((e1.Kids_l : Nat) : Int)))) hs fun _ hs => ?_))
  refine wpList_nil (Wp.seq (Wp.cond hs rfl rfl decide_eq_true_iff (fun hc => ?_) (fun hc => ?_)))
  · have hS := hS.1 hc
    refine Wp.skip (Wp.seq (Wp.block (Wp.seq (Wp.region ?_))))
    obtain ⟨b42, o43, ha, h0, hl, hS⟩ := hS
    refine sY (Value.pointer (some ⟨b42, o43 + x35.toNat * 7, none⟩)) hs (Yl.indexS (e := 96) (sz := 7) rfl rfl rfl rfl (by kernel_rfl) (by kernel_rfl) ha h0 hl) fun _ hs => ?_
    obtain ⟨x44, hat, hS⟩ := hS
    refine sY x44.val hs (Yl.loadV (vs := x44.cells) true rfl rfl (by kernel_rfl) hat) fun _ hs => ?_
    refine stepAlloc [(Value.int .i64 0), (Value.int .u64 0), (Value.int .u64 0), (Value.int .u64 0), (Value.int .u64 0), (Value.string (mkS [])), (Value.slice none 0 0)] hs (by kernel_rfl) (by decide) (fun _ _ b45 hEb45 hs => ?_)
    have hs := hs.nilrow 96 7
    refine stepStoreB 0 (vs := [(Value.int .i64 x44.Kind), (Value.int .u64 x44.Set.w0), (Value.int .u64 x44.Set.w1), (Value.int .u64 x44.Set.w2), (Value.int .u64 x44.Set.w3), (Value.string (mkS x44.Text)), (Value.slice x44.Kids_a x44.Kids_l x44.Kids_c)]) hs rfl rfl rfl rfl rfl rfl (by kernel_rfl) (Nat.le_of_ble_eq_true rfl) rfl (fun _ _ hs => ?_)
    replace hs := hs.chbx (bs' := [⟨b45, 96, [(Value.int .i64 x44.Kind), (Value.int .u64 x44.Set.w0), (Value.int .u64 x44.Set.w1), (Value.int .u64 x44.Set.w2), (Value.int .u64 x44.Set.w3), (Value.string (mkS x44.Text)), (Value.slice x44.Kids_a x44.Kids_l x44.Kids_c)]⟩, ⟨b4, 96, [(Value.int .i64 e1.Kind), (Value.int .u64 e1.Set.w0), (Value.int .u64 e1.Set.w1), (Value.int .u64 e1.Set.w2), (Value.int .u64 e1.Set.w3), (Value.string (mkS e1.Text)), rv36]⟩, ⟨b3, 96, [(Value.int .i64 0), (Value.int .u64 0), (Value.int .u64 0), (Value.int .u64 0), (Value.int .u64 0), (Value.string (mkS [])), (Value.slice none 0 0)]⟩, ⟨b2, 96, [(Value.int .i64 e1.Kind), (Value.int .u64 e1.Set.w0), (Value.int .u64 e1.Set.w1), (Value.int .u64 e1.Set.w2), (Value.int .u64 e1.Set.w3), (Value.string (mkS e1.Text)), (Value.slice e1.Kids_a e1.Kids_l e1.Kids_c)]⟩]) rfl
    refine wpList_nil (Wp.regionD [true, true, true, true, true, false, true, false] hs (by kernel_rfl) rfl [⟨b45, 96, [(Value.int .i64 x44.Kind), (Value.int .u64 x44.Set.w0), (Value.int .u64 x44.Set.w1), (Value.int .u64 x44.Set.w2), (Value.int .u64 x44.Set.w3), (Value.string (mkS x44.Text)), (Value.slice x44.Kids_a x44.Kids_l x44.Kids_c)]⟩, ⟨b4, 96, [(Value.int .i64 e1.Kind), (Value.int .u64 e1.Set.w0), (Value.int .u64 e1.Set.w1), (Value.int .u64 e1.Set.w2), (Value.int .u64 e1.Set.w3), (Value.string (mkS e1.Text)), rv36]⟩, ⟨b3, 96, [(Value.int .i64 0), (Value.int .u64 0), (Value.int .u64 0), (Value.int .u64 0), (Value.int .u64 0), (Value.string (mkS [])), (Value.slice none 0 0)]⟩, ⟨b2, 96, [(Value.int .i64 e1.Kind), (Value.int .u64 e1.Set.w0), (Value.int .u64 e1.Set.w1), (Value.int .u64 e1.Set.w2), (Value.int .u64 e1.Set.w3), (Value.string (mkS e1.Text)), (Value.slice e1.Kids_a e1.Kids_l e1.Kids_c)]⟩] (fun _ h => h) [⟨(Value.slice none 0 0), 96, 7, 0, [], true⟩, ⟨rv36, 96, 7, rn37, rx38, true⟩, ⟨(Value.slice none 0 0), 96, 7, 0, [], true⟩] (fun _ h => h) (fun _ hs hC => ?_))
    have hL := Mem.le.refl M39
    refine dP (Value.pointer (some ⟨b4, 6, none⟩)) 0 [1, 5, 6, 7] hs QZ.no (wanted_none rfl) fun _ hs => ?_
    refine stepDY (v := rv36) 1 [5, 6, 7] hs hC QZ.no rfl (wanted_none rfl) rfl (by decide) (by kernel_rfl) (by kernel_rfl) (by kernel_rfl) (Yl.loadB (vs := [rv36]) false 1 rfl rfl rfl (by kernel_rfl) rfl) (fun _ hs => ?_)
    refine stepDE 2 rfl (wanted_none rfl) (by kernel_rfl) #[] ?_
    refine sY x44.val hs (Yl.loadB (vs := x44.cells) true 0 rfl rfl rfl (by kernel_rfl) rfl) fun _ hs => ?_
    refine wpList_nil (⟨fun _ h => h, ?_⟩)
    refine stepDE 3 rfl (wanted_none rfl) (by kernel_rfl) #[] ?_
    refine stepCallE [x44.val] hs rfl ⟨_, rfl, rfl⟩ rfl Try.func60 rfl (by kernel_rfl) (by decide) hS (fun _ _ M47 v hle hnew hS hs => ?_)
    have hMM := hMM.next hle hnew
    replace hL := hL.trans hle
    obtain ⟨x46, hv, hS⟩ := hS
    subst hv
    refine wpList_nil (⟨fun _ _ => hs.cxle hL (List.Sublist.refl _) (List.Sublist.refl _), ?_⟩)
    have hC := hs.cxle hL (List.Sublist.refl _) (List.Sublist.refl _)
    refine stepDE 4 rfl (wanted_none rfl) (by kernel_rfl) #[] ?_
    refine stepMake x46.cells 96 7 1 hs rfl rfl rfl (fun _ => by kernel_rfl) rfl (by unfold maxLen; decide) (by decide) (fun _ _ rv48 hs => ?_)
    refine wpList_nil (⟨fun _ _ => hs.cxle hL (List.Sublist.refl _) (.cons _ (.cons_cons _ (.cons_cons _ (.cons_cons _ List.Sublist.slnil)))), ?_⟩)
    have hC := hs.cxle hL (List.Sublist.refl _) (.cons _ (.cons_cons _ (.cons_cons _ (.cons_cons _ List.Sublist.slnil))))
    refine stepDE 5 rfl (wanted_none rfl) (by kernel_rfl) #[] ?_
    obtain ⟨ad49, cap50, hv, hcp, hxl⟩ := hs.rowform 0 rfl
    dsimp only at hv hcp hxl
    subst hv
    obtain ⟨hB, hS⟩ := hS
    refine stepAppend 2 x46.cells hs rfl rfl rfl rfl rfl (by kernel_rfl) (by kernel_rfl) (by decide) (by decide) (hs.srcRow 0 rfl rfl) (lenb hB (by decide)) hB (fun _ _ rv51 hs => ?_)
    replace hs := hs.chrs (rs' := [⟨(Value.slice ad49 1 cap50), 96, 7, 1, x46.cells, true⟩, ⟨(Value.slice none 0 0), 96, 7, 0, [], true⟩, ⟨rv51, 96, 7, (rn37 + 1), (rx38 ++ x46.cells), true⟩, ⟨(Value.slice none 0 0), 96, 7, 0, [], true⟩]) rfl
    refine wpList_nil (⟨fun h => absurd h (by decide), ?_⟩)
    refine stepDE 6 rfl (wanted_none rfl) (by kernel_rfl) #[] ?_
    refine sP (Value.pointer (some ⟨b4, 6, none⟩)) hs fun _ hs => ?_
    refine wpList_nil (⟨fun _ h => h, ?_⟩)
    refine stepDE 7 rfl (wanted_none rfl) (by kernel_rfl) #[] ?_
    obtain ⟨ad52, cap53, hv, hcp, hxl⟩ := hs.rowform 2 rfl
    dsimp only at hv hcp hxl
    subst hv
    refine stepStoreB 1 (vs := [(Value.slice ad52 (rn37 + 1) cap53)]) hs rfl rfl rfl rfl rfl rfl (by kernel_rfl) (Nat.le_of_ble_eq_true rfl) rfl (fun _ _ hs => ?_)
    replace hs := hs.chbx (bs' := [⟨b45, 96, [(Value.int .i64 x44.Kind), (Value.int .u64 x44.Set.w0), (Value.int .u64 x44.Set.w1), (Value.int .u64 x44.Set.w2), (Value.int .u64 x44.Set.w3), (Value.string (mkS x44.Text)), (Value.slice x44.Kids_a x44.Kids_l x44.Kids_c)]⟩, ⟨b4, 96, [(Value.int .i64 e1.Kind), (Value.int .u64 e1.Set.w0), (Value.int .u64 e1.Set.w1), (Value.int .u64 e1.Set.w2), (Value.int .u64 e1.Set.w3), (Value.string (mkS e1.Text)), (Value.slice ad52 (rn37 + 1) cap53)]⟩, ⟨b3, 96, [(Value.int .i64 0), (Value.int .u64 0), (Value.int .u64 0), (Value.int .u64 0), (Value.int .u64 0), (Value.string (mkS [])), (Value.slice none 0 0)]⟩, ⟨b2, 96, [(Value.int .i64 e1.Kind), (Value.int .u64 e1.Set.w0), (Value.int .u64 e1.Set.w1), (Value.int .u64 e1.Set.w2), (Value.int .u64 e1.Set.w3), (Value.string (mkS e1.Text)), (Value.slice e1.Kids_a e1.Kids_l e1.Kids_c)]⟩]) rfl
    refine wpList_nil (⟨fun h => absurd h (by decide), ?_⟩)
    refine WpD.done (by kernel_rfl) ?_ _
    refine Wp.region ?_
    obtain ⟨hI, hS⟩ := hS
    refine sY (Value.int .i64 (x35 + 1)) hs (Yl.eq (Yl.pure (v := Value.int .i64 (IntKind.wrap .i64 (x35 + 1))) rfl (fun _ => by kernel_rfl)) (congrArg (Value.int .i64) (wrap_in hI))) fun _ hs => ?_
    refine sP (Value.int .i64 (x35 + 1)) hs fun _ hs => ?_
    exact wpList_nil (⟨(x35 + 1, (rn37 + 1), (rx38 ++ x46.cells), (Value.slice ad52 (rn37 + 1) cap53), M47), ⟨hMM, (hs.weak (.cons _ (.cons_cons _ (.cons_cons _ (.cons_cons _ List.Sublist.slnil)))) (.cons _ (.cons _ (.cons_cons _ (.cons_cons _ List.Sublist.slnil)))) ⟨rfl, rfl, rfl, rfl, rfl, rfl, trivial⟩), hS.1⟩, hS.2⟩)
  · have hS := hS.2 hc
    refine Wp.exit rfl (Wp.seq (Wp.seq (Wp.region (sP (Value.pointer (some ⟨b2, 0, none⟩)) hs fun _ hs => ?_))))
    refine sY (Value.int .i64 e1.Kind) hs (Yl.loadB (vs := [(Value.int .i64 e1.Kind)]) false 2 rfl rfl rfl (by kernel_rfl) rfl) fun _ hs => ?_
    refine wpList_nil (Wp.block (Wp.seq (Wp.region (sP (Value.bool ((e1.Kind : Int) == (8 : Int))) hs fun _ hs => ?_))))
    refine sP (Value.bool ((e1.Kind : Int) == (8 : Int))) hs fun _ hs => ?_
    refine wpList_nil (Wp.cond hs rfl rfl beq_iff_eq (fun hc => ?_) (fun hc => ?_))
    · have hS := hS.1 hc
      refine Wp.seq (Wp.region (sP (Value.pointer (some ⟨b4, 6, none⟩)) hs fun _ hs => ?_))
      refine sY rv36 hs (Yl.loadB (vs := [rv36]) false 0 rfl rfl rfl (by kernel_rfl) rfl) fun _ hs => ?_
      obtain ⟨ad54, cap55, hv, hcp, hxl⟩ := hs.rowform 0 rfl
      dsimp only at hv hcp hxl
      subst hv
      obtain ⟨h0, hl, hS⟩ := hS
      have hix56 : (0 : Int).toNat < rn37 := by omega
      obtain ⟨g57, hg57⟩ := hs.rowblk 0 rfl (by omega)
      refine sY (Value.pointer (some ⟨g57, 0 + (0 : Int).toNat * 7, none⟩)) hs (Yl.indexS (e := 96) (sz := 7) rfl rfl rfl rfl (by kernel_rfl) (by kernel_rfl) hg57 h0 hl) fun _ hs => ?_
      obtain ⟨x58, hcs, hS⟩ := hS
      refine sY x58.val hs (Yl.loadR (vs := x58.cells) 0 true rfl hg57 rfl rfl (by kernel_rfl) hcs) fun _ hs => ?_
      refine stepCallE [x58.val] hs rfl ⟨_, rfl, rfl⟩ rfl Try.func101 rfl (by kernel_rfl) (by decide) hS (fun _ _ M60 v hle hnew hS hs => ?_)
      have hMM := hMM.next hle hnew
      obtain ⟨x59, hv, hS⟩ := hS
      subst hv
      refine stepMake x59.cells 96 7 1 hs rfl rfl rfl (fun _ => by kernel_rfl) rfl (by unfold maxLen; decide) (by decide) (fun _ _ rv61 hs => ?_)
      obtain ⟨ad62, cap63, hv, hcp, hxl⟩ := hs.rowform 0 rfl
      dsimp only at hv hcp hxl
      subst hv
      refine sP (Value.agg #[(Value.int .i64 7), (Value.int .u64 0), (Value.int .u64 0), (Value.int .u64 0), (Value.int .u64 0), (Value.string (mkS [])), (Value.slice ad62 1 cap63)]) hs fun _ hs => ?_
      refine stepAlloc [(Value.int .i64 0), (Value.int .u64 0), (Value.int .u64 0), (Value.int .u64 0), (Value.int .u64 0), (Value.string (mkS [])), (Value.slice none 0 0)] hs (by kernel_rfl) (by decide) (fun _ _ b64 hEb64 hs => ?_)
      have hs := hs.nilrow 96 7
      refine stepStoreB 0 (vs := [(Value.int .i64 7), (Value.int .u64 0), (Value.int .u64 0), (Value.int .u64 0), (Value.int .u64 0), (Value.string (mkS [])), (Value.slice ad62 1 cap63)]) hs rfl rfl rfl rfl rfl rfl (by kernel_rfl) (Nat.le_of_ble_eq_true rfl) rfl (fun _ _ hs => ?_)
      replace hs := hs.chbx (bs' := [⟨b64, 96, [(Value.int .i64 7), (Value.int .u64 0), (Value.int .u64 0), (Value.int .u64 0), (Value.int .u64 0), (Value.string (mkS [])), (Value.slice ad62 1 cap63)]⟩, ⟨b4, 96, [(Value.int .i64 e1.Kind), (Value.int .u64 e1.Set.w0), (Value.int .u64 e1.Set.w1), (Value.int .u64 e1.Set.w2), (Value.int .u64 e1.Set.w3), (Value.string (mkS e1.Text)), (Value.slice ad54 rn37 cap55)]⟩, ⟨b3, 96, [(Value.int .i64 0), (Value.int .u64 0), (Value.int .u64 0), (Value.int .u64 0), (Value.int .u64 0), (Value.string (mkS [])), (Value.slice none 0 0)]⟩, ⟨b2, 96, [(Value.int .i64 e1.Kind), (Value.int .u64 e1.Set.w0), (Value.int .u64 e1.Set.w1), (Value.int .u64 e1.Set.w2), (Value.int .u64 e1.Set.w3), (Value.string (mkS e1.Text)), (Value.slice e1.Kids_a e1.Kids_l e1.Kids_c)]⟩]) rfl
      refine wpList_nil (Wp.seq (Wp.regionD [true, true, true, true, true, true, true, false] hs (by kernel_rfl) rfl [⟨b64, 96, [(Value.int .i64 7), (Value.int .u64 0), (Value.int .u64 0), (Value.int .u64 0), (Value.int .u64 0), (Value.string (mkS [])), (Value.slice ad62 1 cap63)]⟩, ⟨b4, 96, [(Value.int .i64 e1.Kind), (Value.int .u64 e1.Set.w0), (Value.int .u64 e1.Set.w1), (Value.int .u64 e1.Set.w2), (Value.int .u64 e1.Set.w3), (Value.string (mkS e1.Text)), (Value.slice ad54 rn37 cap55)]⟩, ⟨b3, 96, [(Value.int .i64 0), (Value.int .u64 0), (Value.int .u64 0), (Value.int .u64 0), (Value.int .u64 0), (Value.string (mkS [])), (Value.slice none 0 0)]⟩, ⟨b2, 96, [(Value.int .i64 e1.Kind), (Value.int .u64 e1.Set.w0), (Value.int .u64 e1.Set.w1), (Value.int .u64 e1.Set.w2), (Value.int .u64 e1.Set.w3), (Value.string (mkS e1.Text)), (Value.slice e1.Kids_a e1.Kids_l e1.Kids_c)]⟩] (fun _ h => ((List.Sublist.refl _) : List.Sublist _ _).subset h) [⟨(Value.slice none 0 0), 96, 7, 0, [], true⟩, ⟨(Value.slice ad54 rn37 cap55), 96, 7, rn37, rx38, true⟩, ⟨(Value.slice none 0 0), 96, 7, 0, [], true⟩] (fun _ h => ((.cons_cons _ (.cons _ (.cons_cons _ (.cons_cons _ List.Sublist.slnil)))) : List.Sublist _ _).subset h) (fun _ hs hC => ?_)))
      have hL := Mem.le.refl M60
      refine dP (Value.pointer (some ⟨b4, 6, none⟩)) 0 [1, 2, 3, 5, 6, 7] hs QZ.no (wanted_none rfl) fun _ hs => ?_
      refine stepDY (v := (Value.slice ad54 rn37 cap55)) 1 [2, 3, 5, 6, 7] hs hC QZ.no rfl (wanted_none rfl) rfl (by decide) (by kernel_rfl) (by kernel_rfl) (by kernel_rfl) (Yl.loadB (vs := [(Value.slice ad54 rn37 cap55)]) false 1 rfl rfl rfl (by kernel_rfl) rfl) (fun _ hs => ?_)
      obtain ⟨h0, hl, hS⟩ := hS
      have hix65 : (0 : Int).toNat < rn37 := by omega
      refine stepDP (v := (Value.pointer (some ⟨g57, 0 + (0 : Int).toNat * 7, none⟩))) 2 [3, 5, 6, 7] hs QZ.no rfl (wanted_none rfl) rfl (by decide) (by kernel_rfl) (by kernel_rfl) (by kernel_rfl) (Yl.indexS (e := 96) (sz := 7) rfl rfl rfl rfl (by kernel_rfl) (by kernel_rfl) hg57 h0 hl) (fun _ hs => ?_)
      obtain ⟨x66, hcs, hS⟩ := hS
      refine stepDY (v := x66.val) 3 [5, 6, 7] hs hC QZ.no rfl (wanted_none rfl) rfl (by decide) (by kernel_rfl) (by kernel_rfl) (by kernel_rfl) (Yl.loadR (vs := x66.cells) 1 true rfl hg57 rfl rfl (by kernel_rfl) hcs) (fun _ hs => ?_)
      refine stepDE 4 rfl (wanted_none rfl) (by kernel_rfl) #[] ?_
      refine sY (Value.agg #[(Value.int .i64 7), (Value.int .u64 0), (Value.int .u64 0), (Value.int .u64 0), (Value.int .u64 0), (Value.string (mkS [])), (Value.slice ad62 1 cap63)]) hs (Yl.loadB (vs := [(Value.int .i64 7), (Value.int .u64 0), (Value.int .u64 0), (Value.int .u64 0), (Value.int .u64 0), (Value.string (mkS [])), (Value.slice ad62 1 cap63)]) true 0 rfl rfl rfl (by kernel_rfl) rfl) fun _ hs => ?_
      refine wpList_nil (⟨fun _ h => h, ?_⟩)
      refine stepDE 5 rfl (wanted_none rfl) (by kernel_rfl) #[] ?_
      obtain ⟨M67, hle, hsl, hnew, hs⟩ := hs.release 1 rfl [⟨(Value.slice none 0 0), 96, 7, 0, [], true⟩, ⟨(Value.slice ad54 rn37 cap55), 96, 7, rn37, rx38, true⟩, ⟨(Value.slice none 0 0), 96, 7, 0, [], true⟩] rfl
      have hMM := hMM.next hle hnew
      replace hL := hL.trans hle
      have hS := hS M67 ad62 cap63 hle hsl
      refine stepMake [(Value.int .i64 x66.Kind), (Value.int .u64 x66.Set.w0), (Value.int .u64 x66.Set.w1), (Value.int .u64 x66.Set.w2), (Value.int .u64 x66.Set.w3), (Value.string (mkS x66.Text)), (Value.slice x66.Kids_a x66.Kids_l x66.Kids_c), (Value.int .i64 7), (Value.int .u64 0), (Value.int .u64 0), (Value.int .u64 0), (Value.int .u64 0), (Value.string (mkS [])), (Value.slice ad62 1 cap63)] 96 7 2 hs rfl rfl rfl (fun _ => by kernel_rfl) rfl (by unfold maxLen; decide) (by decide) (fun _ _ rv68 hs => ?_)
      refine wpList_nil (⟨fun _ _ => hs.cxle hL (List.Sublist.refl _) (.cons _ (.cons_cons _ (.cons_cons _ (.cons_cons _ List.Sublist.slnil)))), ?_⟩)
      have hC := hs.cxle hL (List.Sublist.refl _) (.cons _ (.cons_cons _ (.cons_cons _ (.cons_cons _ List.Sublist.slnil))))
      refine stepDE 6 rfl (wanted_none rfl) (by kernel_rfl) #[] ?_
      obtain ⟨ad69, cap70, hv, hcp, hxl⟩ := hs.rowform 0 rfl
      dsimp only at hv hcp hxl
      subst hv
      refine sP (Value.agg #[(Value.int .i64 5), (Value.int .u64 0), (Value.int .u64 0), (Value.int .u64 0), (Value.int .u64 0), (Value.string (mkS [])), (Value.slice ad69 2 cap70)]) hs fun _ hs => ?_
      refine wpList_nil (⟨fun _ h => h, ?_⟩)
      refine stepDE 7 rfl (wanted_none rfl) (by kernel_rfl) #[] ?_
      refine stepStoreB 2 (vs := [(Value.int .i64 5), (Value.int .u64 0), (Value.int .u64 0), (Value.int .u64 0), (Value.int .u64 0), (Value.string (mkS [])), (Value.slice ad69 2 cap70)]) hs rfl rfl rfl rfl rfl rfl (by kernel_rfl) (Nat.le_of_ble_eq_true rfl) rfl (fun _ _ hs => ?_)
      replace hs := hs.chbx (bs' := [⟨b64, 96, [(Value.int .i64 7), (Value.int .u64 0), (Value.int .u64 0), (Value.int .u64 0), (Value.int .u64 0), (Value.string (mkS [])), (Value.slice ad62 1 cap63)]⟩, ⟨b4, 96, [(Value.int .i64 e1.Kind), (Value.int .u64 e1.Set.w0), (Value.int .u64 e1.Set.w1), (Value.int .u64 e1.Set.w2), (Value.int .u64 e1.Set.w3), (Value.string (mkS e1.Text)), (Value.slice ad54 rn37 cap55)]⟩, ⟨b3, 96, [(Value.int .i64 5), (Value.int .u64 0), (Value.int .u64 0), (Value.int .u64 0), (Value.int .u64 0), (Value.string (mkS [])), (Value.slice ad69 2 cap70)]⟩, ⟨b2, 96, [(Value.int .i64 e1.Kind), (Value.int .u64 e1.Set.w0), (Value.int .u64 e1.Set.w1), (Value.int .u64 e1.Set.w2), (Value.int .u64 e1.Set.w3), (Value.string (mkS e1.Text)), (Value.slice e1.Kids_a e1.Kids_l e1.Kids_c)]⟩]) rfl
      refine wpList_nil (⟨fun h => absurd h (by decide), ?_⟩)
      refine WpD.done (by kernel_rfl) ?_ _
      refine Wp.ret ?_
      obtain ⟨M71, hle, hsl, hnew, hs⟩ := hs.release 0 rfl [⟨(Value.slice none 0 0), 96, 7, 0, [], true⟩, ⟨(Value.slice ad54 rn37 cap55), 96, 7, rn37, rx38, true⟩, ⟨(Value.slice none 0 0), 96, 7, 0, [], true⟩] rfl
      have hMM := hMM.next hle hnew
      have hS := hS M71 ad69 cap70 hle hsl
      exact leaveE (K := K) hs (resC (vs := [(Value.int .i64 5), (Value.int .u64 0), (Value.int .u64 0), (Value.int .u64 0), (Value.int .u64 0), (Value.string (mkS [])), (Value.slice ad69 2 cap70)]) true 2 hs rfl rfl rfl (by kernel_rfl) rfl) hMM.2 hS
    · have hS := hS.2 hc
      refine Wp.seq (Wp.region (sP (Value.bool ((e1.Kind : Int) == (9 : Int))) hs fun _ hs => ?_))
      refine sP (Value.bool ((e1.Kind : Int) == (9 : Int))) hs fun _ hs => ?_
      refine wpList_nil (Wp.cond hs rfl rfl beq_iff_eq (fun hc => ?_) (fun hc => ?_))
      · have hS := hS.1 hc
        refine Wp.seq (Wp.region (sP (Value.pointer (some ⟨b4, 6, none⟩)) hs fun _ hs => ?_))
        refine sY rv36 hs (Yl.loadB (vs := [rv36]) false 0 rfl rfl rfl (by kernel_rfl) rfl) fun _ hs => ?_
        obtain ⟨ad72, cap73, hv, hcp, hxl⟩ := hs.rowform 0 rfl
        dsimp only at hv hcp hxl
        subst hv
        obtain ⟨h0, hl, hS⟩ := hS
        have hix74 : (0 : Int).toNat < rn37 := by omega
        obtain ⟨g75, hg75⟩ := hs.rowblk 0 rfl (by omega)
        refine sY (Value.pointer (some ⟨g75, 0 + (0 : Int).toNat * 7, none⟩)) hs (Yl.indexS (e := 96) (sz := 7) rfl rfl rfl rfl (by kernel_rfl) (by kernel_rfl) hg75 h0 hl) fun _ hs => ?_
        obtain ⟨x76, hcs, hS⟩ := hS
        refine sY x76.val hs (Yl.loadR (vs := x76.cells) 0 true rfl hg75 rfl rfl (by kernel_rfl) hcs) fun _ hs => ?_
        refine sP (X_api_Expr.mk 1 (X_api_Set.mk 0 0 0 0) [] none 0 0).val hs fun _ hs => ?_
        refine stepMake [(Value.int .i64 x76.Kind), (Value.int .u64 x76.Set.w0), (Value.int .u64 x76.Set.w1), (Value.int .u64 x76.Set.w2), (Value.int .u64 x76.Set.w3), (Value.string (mkS x76.Text)), (Value.slice x76.Kids_a x76.Kids_l x76.Kids_c), (Value.int .i64 1), (Value.int .u64 0), (Value.int .u64 0), (Value.int .u64 0), (Value.int .u64 0), (Value.string (mkS [])), (Value.slice none 0 0)] 96 7 2 hs rfl rfl rfl (fun _ => by kernel_rfl) rfl (by unfold maxLen; decide) (by decide) (fun _ _ rv77 hs => ?_)
        obtain ⟨ad78, cap79, hv, hcp, hxl⟩ := hs.rowform 0 rfl
        dsimp only at hv hcp hxl
        subst hv
        refine sP (Value.agg #[(Value.int .i64 6), (Value.int .u64 0), (Value.int .u64 0), (Value.int .u64 0), (Value.int .u64 0), (Value.string (mkS [])), (Value.slice ad78 2 cap79)]) hs fun _ hs => ?_
        refine stepStoreB 1 (vs := [(Value.int .i64 6), (Value.int .u64 0), (Value.int .u64 0), (Value.int .u64 0), (Value.int .u64 0), (Value.string (mkS [])), (Value.slice ad78 2 cap79)]) hs rfl rfl rfl rfl rfl rfl (by kernel_rfl) (Nat.le_of_ble_eq_true rfl) rfl (fun _ _ hs => ?_)
        replace hs := hs.chbx (bs' := [⟨b4, 96, [(Value.int .i64 e1.Kind), (Value.int .u64 e1.Set.w0), (Value.int .u64 e1.Set.w1), (Value.int .u64 e1.Set.w2), (Value.int .u64 e1.Set.w3), (Value.string (mkS e1.Text)), (Value.slice ad72 rn37 cap73)]⟩, ⟨b3, 96, [(Value.int .i64 6), (Value.int .u64 0), (Value.int .u64 0), (Value.int .u64 0), (Value.int .u64 0), (Value.string (mkS [])), (Value.slice ad78 2 cap79)]⟩, ⟨b2, 96, [(Value.int .i64 e1.Kind), (Value.int .u64 e1.Set.w0), (Value.int .u64 e1.Set.w1), (Value.int .u64 e1.Set.w2), (Value.int .u64 e1.Set.w3), (Value.string (mkS e1.Text)), (Value.slice e1.Kids_a e1.Kids_l e1.Kids_c)]⟩]) rfl
        refine wpList_nil (Wp.ret ?_)
        obtain ⟨M80, hle, hsl, hnew, hs⟩ := hs.release 0 rfl [⟨(Value.slice ad72 rn37 cap73), 96, 7, rn37, rx38, true⟩, ⟨(Value.slice none 0 0), 96, 7, 0, [], true⟩] rfl
        have hMM := hMM.next hle hnew
        have hS := hS M80 ad78 cap79 hle hsl
        exact leaveE (K := K) hs (resC (vs := [(Value.int .i64 6), (Value.int .u64 0), (Value.int .u64 0), (Value.int .u64 0), (Value.int .u64 0), (Value.string (mkS [])), (Value.slice ad78 2 cap79)]) true 1 hs rfl rfl rfl (by kernel_rfl) rfl) hMM.2 hS
      · have hS := hS.2 hc
        refine Wp.seq (Wp.region (sP (Value.bool ((e1.Kind : Int) == (10 : Int))) hs fun _ hs => ?_))
        refine sP (Value.bool ((e1.Kind : Int) == (10 : Int))) hs fun _ hs => ?_
        refine wpList_nil (Wp.cond hs rfl rfl beq_iff_eq (fun hc => ?_) (fun hc => ?_))
        · have hS := hS.1 hc
          refine Wp.seq (Wp.region (sP (Value.pointer (some ⟨b4, 6, none⟩)) hs fun _ hs => ?_))
          refine sY rv36 hs (Yl.loadB (vs := [rv36]) false 0 rfl rfl rfl (by kernel_rfl) rfl) fun _ hs => ?_
          obtain ⟨ad81, cap82, hv, hcp, hxl⟩ := hs.rowform 0 rfl
          dsimp only at hv hcp hxl
          subst hv
          refine sP (Value.agg #[(Value.int .i64 11), (Value.int .u64 0), (Value.int .u64 0), (Value.int .u64 0), (Value.int .u64 0), (Value.string (mkS [])), (Value.slice ad81 rn37 cap82)]) hs fun _ hs => ?_
          obtain ⟨M83, hle, hsl, hnew, hs⟩ := hs.release 0 rfl [⟨(Value.slice none 0 0), 96, 7, 0, [], true⟩] rfl
          have hMM := hMM.next hle hnew
          have hS := hS M83 ad81 cap82 hle hsl
          refine stepMake ((X_api_Expr.mk 11 (X_api_Set.mk 0 0 0 0) [] ad81 rn37 cap82).cells) 96 7 1 hs rfl rfl rfl (fun _ => by kernel_rfl) rfl (by unfold maxLen; decide) (by decide) (fun _ _ rv84 hs => ?_)
          obtain ⟨ad85, cap86, hv, hcp, hxl⟩ := hs.rowform 0 rfl
          dsimp only at hv hcp hxl
          subst hv
          refine sP (Value.agg #[(Value.int .i64 11), (Value.int .u64 0), (Value.int .u64 0), (Value.int .u64 0), (Value.int .u64 0), (Value.string (mkS [])), (Value.slice ad85 1 cap86)]) hs fun _ hs => ?_
          refine stepStoreB 1 (vs := [(Value.int .i64 11), (Value.int .u64 0), (Value.int .u64 0), (Value.int .u64 0), (Value.int .u64 0), (Value.string (mkS [])), (Value.slice ad85 1 cap86)]) hs rfl rfl rfl rfl rfl rfl (by kernel_rfl) (Nat.le_of_ble_eq_true rfl) rfl (fun _ _ hs => ?_)
          replace hs := hs.chbx (bs' := [⟨b4, 96, [(Value.int .i64 e1.Kind), (Value.int .u64 e1.Set.w0), (Value.int .u64 e1.Set.w1), (Value.int .u64 e1.Set.w2), (Value.int .u64 e1.Set.w3), (Value.string (mkS e1.Text)), (Value.slice ad81 rn37 cap82)]⟩, ⟨b3, 96, [(Value.int .i64 11), (Value.int .u64 0), (Value.int .u64 0), (Value.int .u64 0), (Value.int .u64 0), (Value.string (mkS [])), (Value.slice ad85 1 cap86)]⟩, ⟨b2, 96, [(Value.int .i64 e1.Kind), (Value.int .u64 e1.Set.w0), (Value.int .u64 e1.Set.w1), (Value.int .u64 e1.Set.w2), (Value.int .u64 e1.Set.w3), (Value.string (mkS e1.Text)), (Value.slice e1.Kids_a e1.Kids_l e1.Kids_c)]⟩]) rfl
          refine wpList_nil (Wp.ret ?_)
          obtain ⟨M87, hle, hsl, hnew, hs⟩ := hs.release 0 rfl [⟨(Value.slice none 0 0), 96, 7, 0, [], true⟩] rfl
          have hMM := hMM.next hle hnew
          have hS := hS M87 ad85 cap86 hle hsl
          exact leaveE (K := K) hs (resC (vs := [(Value.int .i64 11), (Value.int .u64 0), (Value.int .u64 0), (Value.int .u64 0), (Value.int .u64 0), (Value.string (mkS [])), (Value.slice ad85 1 cap86)]) true 1 hs rfl rfl rfl (by kernel_rfl) rfl) hMM.2 hS
        · have hS := hS.2 hc
          refine Wp.skip (Wp.seq (Wp.region (sY (Value.agg #[(Value.int .i64 e1.Kind), (Value.int .u64 e1.Set.w0), (Value.int .u64 e1.Set.w1), (Value.int .u64 e1.Set.w2), (Value.int .u64 e1.Set.w3), (Value.string (mkS e1.Text)), rv36]) hs (Yl.loadB (vs := [(Value.int .i64 e1.Kind), (Value.int .u64 e1.Set.w0), (Value.int .u64 e1.Set.w1), (Value.int .u64 e1.Set.w2), (Value.int .u64 e1.Set.w3), (Value.string (mkS e1.Text)), rv36]) true 0 rfl rfl rfl (by kernel_rfl) rfl) fun _ hs => ?_)))
          obtain ⟨ad88, cap89, hv, hcp, hxl⟩ := hs.rowform 0 rfl
          dsimp only at hv hcp hxl
          subst hv
          refine stepStoreB 1 (vs := [(Value.int .i64 e1.Kind), (Value.int .u64 e1.Set.w0), (Value.int .u64 e1.Set.w1), (Value.int .u64 e1.Set.w2), (Value.int .u64 e1.Set.w3), (Value.string (mkS e1.Text)), (Value.slice ad88 rn37 cap89)]) hs rfl rfl rfl rfl rfl rfl (by kernel_rfl) (Nat.le_of_ble_eq_true rfl) rfl (fun _ _ hs => ?_)
          replace hs := hs.chbx (bs' := [⟨b4, 96, [(Value.int .i64 e1.Kind), (Value.int .u64 e1.Set.w0), (Value.int .u64 e1.Set.w1), (Value.int .u64 e1.Set.w2), (Value.int .u64 e1.Set.w3), (Value.string (mkS e1.Text)), (Value.slice ad88 rn37 cap89)]⟩, ⟨b3, 96, [(Value.int .i64 e1.Kind), (Value.int .u64 e1.Set.w0), (Value.int .u64 e1.Set.w1), (Value.int .u64 e1.Set.w2), (Value.int .u64 e1.Set.w3), (Value.string (mkS e1.Text)), (Value.slice ad88 rn37 cap89)]⟩, ⟨b2, 96, [(Value.int .i64 e1.Kind), (Value.int .u64 e1.Set.w0), (Value.int .u64 e1.Set.w1), (Value.int .u64 e1.Set.w2), (Value.int .u64 e1.Set.w3), (Value.string (mkS e1.Text)), (Value.slice e1.Kids_a e1.Kids_l e1.Kids_c)]⟩]) rfl
          refine wpList_nil (Wp.ret ?_)
          obtain ⟨M90, hle, hsl, hnew, hs⟩ := hs.release 0 rfl [⟨(Value.slice none 0 0), 96, 7, 0, [], true⟩] rfl
          have hMM := hMM.next hle hnew
          have hS := hS M90 ad88 cap89 hle hsl
          exact leaveE (K := K) hs (resC (vs := [(Value.int .i64 e1.Kind), (Value.int .u64 e1.Set.w0), (Value.int .u64 e1.Set.w1), (Value.int .u64 e1.Set.w2), (Value.int .u64 e1.Set.w3), (Value.string (mkS e1.Text)), (Value.slice ad88 rn37 cap89)]) true 1 hs rfl rfl rfl (by kernel_rfl) rfl) hMM.2 hS
set_option linter.unusedVariables false in
def S_kernel_Kernel (ga1 : Option Addr) (gl2 : Nat) (gc3 : Nat) (M : Mem) (K : Value → Mem → Prop) : Prop :=
  (CallE Try.prog 49 #[(Value.agg #[(Value.slice ga1 gl2 gc3)])] M (fun v _ => ∃ (x6 : Int), v = (Value.int .i64 x6) ∧ (((x6 : Int) ≠ 0 → (∀ (M7 : Mem), M.le M7 → SlV M7 none 0 0 8 [] → (∀ M', M7.le M' → K (Value.tuple #[(Value.agg #[(Value.slice none 0 0)]), (Value.int .i64 x6)]) M'))) ∧ (¬ ((x6 : Int) ≠ 0) → (∃ (I17 : Int → Int → Prop) (mu18 : Int → Int → Nat), I17 0 0 ∧ ∀ (n15 : Int) (x16 : Int), (I17 n15 x16 → ((x16 < ((gl2 : Nat) : Int) → (∃ (b19 o20 : Nat), ga1 = some ⟨b19, o20, none⟩ ∧ (0 : Int) ≤ x16 ∧ x16 < ((gl2 : Nat) : Int) ∧ (∃ (x21 : X_api_Rule), At M b19 (o20 + x16.toNat * 8) x21.cells ∧ (CallE Try.prog 59 #[x21.Body.val] M (fun v _ => ∃ (x23 : Int), v = (Value.int .i64 x23) ∧ (InI (n15 + x23) ∧ (InI (x16 + 1) ∧ I17 (n15 + x23) (x16 + 1) ∧ mu18 (n15 + x23) (x16 + 1) < mu18 n15 x16))))))) ∧ (¬ (x16 < ((gl2 : Nat) : Int)) → ((n15 > 400 → (∀ (M24 : Mem), M.le M24 → SlV M24 none 0 0 8 [] → (∀ M', M24.le M' → K (Value.tuple #[(Value.agg #[(Value.slice none 0 0)]), (Value.int .i64 2)]) M'))) ∧ (¬ (n15 > 400) → (∃ (I61 : Int → Nat → List Value → Mem → Prop) (mu62 : Int → Nat → List Value → Nat), I61 0 0 [] M ∧ ∀ (x56 : Int) (rn58 : Nat) (rx59 : List Value) (M60 : Mem), (I61 x56 rn58 rx59 M60 → ((x56 < ((gl2 : Nat) : Int) → (∃ (b63 o64 : Nat), ga1 = some ⟨b63, o64, none⟩ ∧ (0 : Int) ≤ x56 ∧ x56 < ((gl2 : Nat) : Int) ∧ (∃ (x65 : X_api_Rule), At M60 b63 (o64 + x56.toNat * 8) x65.cells ∧ (CallE Try.prog 60 #[x65.Body.val] M60 (fun v M68 => ∃ (x67 : X_api_Expr), v = x67.val ∧ ((rn58 + 1) * 96 ≤ 140737488355328 ∧ (InI (x56 + 1) ∧ I61 (x56 + 1) (rn58 + 1) (rx59 ++ (X_api_Rule.mk x65.Name x67).cells) M68 ∧ mu62 (x56 + 1) (rn58 + 1) (rx59 ++ (X_api_Rule.mk x65.Name x67).cells) < mu62 x56 rn58 rx59))))))) ∧ (¬ (x56 < ((gl2 : Nat) : Int)) → (∀ (M77 : Mem) (ad75 : Option Addr) (cap76 : Nat), M60.le M77 → SlV M77 ad75 rn58 cap76 8 rx59 → (∀ M', M77.le M' → K (Value.tuple #[(Value.agg #[(Value.slice ad75 rn58 cap76)]), (Value.int .i64 0)]) M'))))))))))))))))
set_option linter.unusedVariables false in
set_option maxRecDepth 100000 in
theorem s_kernel_Kernel (ga1 : Option Addr) (gl2 : Nat) (gc3 : Nat) (M : Mem) (K : Value → Mem → Prop) (hS : S_kernel_Kernel ga1 gl2 gc3 M K) : CallE Try.prog 21 #[(Value.agg #[(Value.slice ga1 gl2 gc3)])] M K := by
  refine enterE Try.func21 rfl 53 rfl (Nat.le_of_ble_eq_true rfl) (fun E a hs => ?_)
  unfold S_kernel_Kernel at hS
  have hMM := MX.refl M E
  change Sx 53 E [] M E a [(0, (Value.agg #[(Value.slice ga1 gl2 gc3)]))] [] [] at hs
  refine Wp.seq (Wp.region (stepBox [(Value.slice ga1 gl2 gc3)] hs rfl rfl rfl (by decide) (fun _ _ b4 hEb4 hs => ?_)))
  refine stepAlloc [(Value.slice none 0 0)] hs (by kernel_rfl) (by decide) (fun _ _ b5 hEb5 hs => ?_)
  have hs := hs.nilrow 98 8
  refine sP (Value.int .i64 0) hs fun _ hs => ?_
  refine wpList_nil (Wp.seq (Wp.seq (Wp.region (sY (Value.agg #[(Value.slice ga1 gl2 gc3)]) hs (Yl.loadB (vs := [(Value.slice ga1 gl2 gc3)]) true 1 rfl rfl rfl (by kernel_rfl) rfl) fun _ hs => ?_))))
  refine stepCallP [(Value.agg #[(Value.slice ga1 gl2 gc3)])] hs rfl ⟨_, rfl, rfl⟩ rfl Try.func49 rfl (by kernel_rfl) (by decide) hS (fun _ _ v hS hs => ?_)
  obtain ⟨x6, hv, hS⟩ := hS
  subst hv
  refine sP (Value.int .i64 x6) hs fun _ hs => ?_
  refine wpList_nil (Wp.seq (Wp.region (sP (Value.int .i64 x6) hs fun _ hs => ?_)))
  refine sP (Value.bool ((x6 : Int) != (0 : Int))) hs fun _ hs => ?_
  refine wpList_nil (Wp.cond hs rfl rfl bne_iff_ne (fun hc => ?_) (fun hc => ?_))
  · have hS := hS.1 hc
    refine Wp.seq (Wp.region (sP (Value.agg #[(Value.slice none 0 0)]) hs fun _ hs => ?_))
    refine sP (Value.int .i64 x6) hs fun _ hs => ?_
    refine stepStoreB 0 (vs := [(Value.slice none 0 0)]) hs rfl rfl rfl rfl rfl rfl (by kernel_rfl) (Nat.le_of_ble_eq_true rfl) rfl (fun _ _ hs => ?_)
    replace hs := hs.chbx (bs' := [⟨b5, 24, [(Value.slice none 0 0)]⟩, ⟨b4, 24, [(Value.slice ga1 gl2 gc3)]⟩]) rfl
    have hs := hs.nilrow 98 8
    refine sP (Value.int .i64 x6) hs fun _ hs => ?_
    refine wpList_nil (Wp.ret ?_)
    obtain ⟨M7, hle, hsl, hnew, hs⟩ := hs.release 0 rfl [⟨(Value.slice none 0 0), 98, 8, 0, [], true⟩] rfl
    have hMM := hMM.next hle hnew
    have hS := hS M7 hle hsl
    exact leaveE (K := K) hs (resCT (vs := [(Value.slice none 0 0)]) true 0 hs rfl rfl rfl (by kernel_rfl) rfl rfl) hMM.2 hS
  · have hS := hS.2 hc
    refine Wp.skip (Wp.seq (Wp.region (sP (Value.int .i64 0) hs fun _ hs => ?_)))
    refine wpList_nil (Wp.seq (Wp.seq (Wp.region (sP (Value.pointer (some ⟨b4, 0, none⟩)) hs fun _ hs => ?_))))
    refine sY (Value.slice ga1 gl2 gc3) hs (Yl.loadB (vs := [(Value.slice ga1 gl2 gc3)]) false 1 rfl rfl rfl (by kernel_rfl) rfl) fun _ hs => ?_
    refine sP (Value.int .i64 ((gl2 : Nat) : Int)) hs fun _ hs => ?_
    refine sP (Value.int .i64 0) hs fun _ hs => ?_
    refine wpList_nil (Wp.block ?_)
    obtain ⟨I17, mu18, hI0, hst⟩ := hS
    refine Wp.loop (σ := (Int) × (Int)) (fun s a w => match s with | (n15, x16) => Sx 53 E [] M w a [(1, (Value.pointer (some ⟨b4, 0, none⟩))), (2, (Value.pointer (some ⟨b5, 0, none⟩))), (5, (Value.int .i64 n15)), (18, (Value.slice ga1 gl2 gc3)), (19, (Value.int .i64 ((gl2 : Nat) : Int))), (20, (Value.int .i64 x16))] [⟨b5, 24, [(Value.slice none 0 0)]⟩, ⟨b4, 24, [(Value.slice ga1 gl2 gc3)]⟩] [⟨(Value.slice none 0 0), 98, 8, 0, [], true⟩] ∧ I17 n15 x16) (fun s => match s with | (n15, x16) => mu18 n15 x16) (0, 0) ⟨(hs.weak (List.Sublist.refl _) (List.Sublist.refl _) ⟨rfl, rfl, rfl, rfl, rfl, rfl, trivial⟩), hI0⟩ (fun s a w hI => ?_)
    obtain ⟨n15, x16⟩ := s
    obtain ⟨hs, hI⟩ := hI
    have hS := hst n15 x16 hI
    clear hst hI0 hI
    refine Wp.seq (Wp.region (sP (Value.bool (decide (x16 < ((gl2 : Nat) : Int)))) hs fun _ hs => ?_))
    refine wpList_nil (Wp.seq (Wp.cond hs rfl rfl decide_eq_true_iff (fun hc => ?_) (fun hc => ?_)))
    · have hS := hS.1 hc
      refine Wp.skip (Wp.seq (Wp.block (Wp.seq (Wp.region ?_))))
      obtain ⟨b19, o20, ha, h0, hl, hS⟩ := hS
      refine sY (Value.pointer (some ⟨b19, o20 + x16.toNat * 8, none⟩)) hs (Yl.indexS (e := 98) (sz := 8) rfl rfl rfl rfl (by kernel_rfl) (by kernel_rfl) ha h0 hl) fun _ hs => ?_
      obtain ⟨x21, hat, hS⟩ := hS
      refine sY x21.val hs (Yl.loadV (vs := x21.cells) true rfl rfl (by kernel_rfl) hat) fun _ hs => ?_
      refine stepAlloc [(Value.string (mkS [])), (Value.int .i64 0), (Value.int .u64 0), (Value.int .u64 0), (Value.int .u64 0), (Value.int .u64 0), (Value.string (mkS [])), (Value.slice none 0 0)] hs (by kernel_rfl) (by decide) (fun _ _ b22 hEb22 hs => ?_)
      refine stepStoreB 0 (vs := [(Value.string (mkS x21.Name)), (Value.int .i64 x21.Body.Kind), (Value.int .u64 x21.Body.Set.w0), (Value.int .u64 x21.Body.Set.w1), (Value.int .u64 x21.Body.Set.w2), (Value.int .u64 x21.Body.Set.w3), (Value.string (mkS x21.Body.Text)), (Value.slice x21.Body.Kids_a x21.Body.Kids_l x21.Body.Kids_c)]) hs rfl rfl rfl rfl rfl rfl (by kernel_rfl) (Nat.le_of_ble_eq_true rfl) rfl (fun _ _ hs => ?_)
      replace hs := hs.chbx (bs' := [⟨b22, 98, [(Value.string (mkS x21.Name)), (Value.int .i64 x21.Body.Kind), (Value.int .u64 x21.Body.Set.w0), (Value.int .u64 x21.Body.Set.w1), (Value.int .u64 x21.Body.Set.w2), (Value.int .u64 x21.Body.Set.w3), (Value.string (mkS x21.Body.Text)), (Value.slice x21.Body.Kids_a x21.Body.Kids_l x21.Body.Kids_c)]⟩, ⟨b5, 24, [(Value.slice none 0 0)]⟩, ⟨b4, 24, [(Value.slice ga1 gl2 gc3)]⟩]) rfl
      refine wpList_nil (Wp.region (sP (Value.int .i64 n15) hs fun _ hs => ?_))
      refine sP (Value.pointer (some ⟨b22, 1, none⟩)) hs fun _ hs => ?_
      refine sY x21.Body.val hs (Yl.loadB (vs := x21.Body.cells) true 0 rfl rfl rfl (by kernel_rfl) rfl) fun _ hs => ?_
      refine stepCallP [x21.Body.val] hs rfl ⟨_, rfl, rfl⟩ rfl Try.func59 rfl (by kernel_rfl) (by decide) hS (fun _ _ v hS hs => ?_)
      obtain ⟨x23, hv, hS⟩ := hS
      subst hv
      obtain ⟨hI, hS⟩ := hS
      refine sY (Value.int .i64 (n15 + x23)) hs (Yl.eq (Yl.pure (v := Value.int .i64 (IntKind.wrap .i64 (n15 + x23))) rfl (fun _ => by kernel_rfl)) (congrArg (Value.int .i64) (wrap_in hI))) fun _ hs => ?_
      refine sP (Value.int .i64 (n15 + x23)) hs fun _ hs => ?_
      refine wpList_nil (Wp.region ?_)
      obtain ⟨hI, hS⟩ := hS
      refine sY (Value.int .i64 (x16 + 1)) hs (Yl.eq (Yl.pure (v := Value.int .i64 (IntKind.wrap .i64 (x16 + 1))) rfl (fun _ => by kernel_rfl)) (congrArg (Value.int .i64) (wrap_in hI))) fun _ hs => ?_
      refine sP (Value.int .i64 (x16 + 1)) hs fun _ hs => ?_
      exact wpList_nil (⟨(n15 + x23, x16 + 1), ⟨(hs.weak (.cons _ (.cons_cons _ (.cons_cons _ List.Sublist.slnil))) (List.Sublist.refl _) ⟨rfl, rfl, rfl, rfl, rfl, rfl, trivial⟩), hS.1⟩, hS.2⟩)
    · have hS := hS.2 hc
      refine Wp.exit rfl (Wp.seq (Wp.seq (Wp.region (sP (Value.int .i64 n15) hs fun _ hs => ?_))))
      refine sP (Value.bool (decide (n15 > 400))) hs fun _ hs => ?_
      refine wpList_nil (Wp.cond hs rfl rfl decide_eq_true_iff (fun hc => ?_) (fun hc => ?_))
      · have hS := hS.1 hc
        refine Wp.seq (Wp.region (sP (Value.agg #[(Value.slice none 0 0)]) hs fun _ hs => ?_))
        refine stepStoreB 0 (vs := [(Value.slice none 0 0)]) hs rfl rfl rfl rfl rfl rfl (by kernel_rfl) (Nat.le_of_ble_eq_true rfl) rfl (fun _ _ hs => ?_)
        replace hs := hs.chbx (bs' := [⟨b5, 24, [(Value.slice none 0 0)]⟩, ⟨b4, 24, [(Value.slice ga1 gl2 gc3)]⟩]) rfl
        have hs := hs.nilrow 98 8
        refine sP (Value.int .i64 2) hs fun _ hs => ?_
        refine wpList_nil (Wp.ret ?_)
        obtain ⟨M24, hle, hsl, hnew, hs⟩ := hs.release 0 rfl [⟨(Value.slice none 0 0), 98, 8, 0, [], true⟩] rfl
        have hMM := hMM.next hle hnew
        have hS := hS M24 hle hsl
        exact leaveE (K := K) hs (resCT (vs := [(Value.slice none 0 0)]) true 0 hs rfl rfl rfl (by kernel_rfl) rfl rfl) hMM.2 hS
      · have hS := hS.2 hc
        refine Wp.skip (Wp.seq (Wp.region (stepAlloc [(Value.slice none 0 0)] hs (by kernel_rfl) (by decide) (fun _ _ b25 hEb25 hs => ?_))))
        have hs := hs.nilrow 98 8
        refine wpList_nil (Wp.seq (Wp.seq (Wp.region (sP (Value.pointer (some ⟨b4, 0, none⟩)) hs fun _ hs => ?_))))
        refine sY (Value.slice ga1 gl2 gc3) hs (Yl.loadB (vs := [(Value.slice ga1 gl2 gc3)]) false 2 rfl rfl rfl (by kernel_rfl) rfl) fun _ hs => ?_
        refine sP (Value.int .i64 ((gl2 : Nat) : Int)) hs fun _ hs => ?_
        refine sP (Value.int .i64 0) hs fun _ hs => ?_
        refine wpList_nil (Wp.block ?_)
        obtain ⟨I61, mu62, hI0, hst⟩ := hS
        refine Wp.loop (σ := (Int) × (Nat) × (List Value) × (Value) × (Mem)) (fun s a w => match s with | (x56, rn58, rx59, rv57, M60) => MX M60 M E ∧ Sx 53 E [] M60 w a [(2, (Value.pointer (some ⟨b5, 0, none⟩))), (8, (Value.pointer (some ⟨b25, 0, none⟩))), (34, (Value.slice ga1 gl2 gc3)), (35, (Value.int .i64 ((gl2 : Nat) : Int))), (36, (Value.int .i64 x56))] [⟨b25, 24, [rv57]⟩, ⟨b5, 24, [(Value.slice none 0 0)]⟩, ⟨b4, 24, [(Value.slice ga1 gl2 gc3)]⟩] [⟨rv57, 98, 8, rn58, rx59, true⟩, ⟨(Value.slice none 0 0), 98, 8, 0, [], true⟩] ∧ I61 x56 rn58 rx59 M60) (fun s => match s with | (x56, rn58, rx59, rv57, M60) => mu62 x56 rn58 rx59) (0, 0, [], (Value.slice none 0 0), M) ⟨hMM, (hs.weak (List.Sublist.refl _) (List.Sublist.refl _) ⟨rfl, rfl, rfl, rfl, rfl, trivial⟩), hI0⟩ (fun s a w hI => ?_)
        obtain ⟨x56, rn58, rx59, rv57, M60⟩ := s
        obtain ⟨hMM, hs, hI⟩ := hI
        have hS := hst x56 rn58 rx59 M60 hI
        clear hst hI0 hI
        refine Wp.seq (Wp.region (sP (Value.bool (decide (x56 < ((gl2 : Nat) : Int)))) hs fun _ hs => ?_))
        refine wpList_nil (Wp.seq (Wp.cond hs rfl rfl decide_eq_true_iff (fun hc => ?_) (fun hc => ?_)))
        · have hS := hS.1 hc
          refine Wp.skip (Wp.seq (Wp.block (Wp.seq (Wp.region ?_))))
          obtain ⟨b63, o64, ha, h0, hl, hS⟩ := hS
          refine sY (Value.pointer (some ⟨b63, o64 + x56.toNat * 8, none⟩)) hs (Yl.indexS (e := 98) (sz := 8) rfl rfl rfl rfl (by kernel_rfl) (by kernel_rfl) ha h0 hl) fun _ hs => ?_
          obtain ⟨x65, hat, hS⟩ := hS
          refine sY x65.val hs (Yl.loadV (vs := x65.cells) true rfl rfl (by kernel_rfl) hat) fun _ hs => ?_
          refine stepAlloc [(Value.string (mkS [])), (Value.int .i64 0), (Value.int .u64 0), (Value.int .u64 0), (Value.int .u64 0), (Value.int .u64 0), (Value.string (mkS [])), (Value.slice none 0 0)] hs (by kernel_rfl) (by decide) (fun _ _ b66 hEb66 hs => ?_)
          refine stepStoreB 0 (vs := [(Value.string (mkS x65.Name)), (Value.int .i64 x65.Body.Kind), (Value.int .u64 x65.Body.Set.w0), (Value.int .u64 x65.Body.Set.w1), (Value.int .u64 x65.Body.Set.w2), (Value.int .u64 x65.Body.Set.w3), (Value.string (mkS x65.Body.Text)), (Value.slice x65.Body.Kids_a x65.Body.Kids_l x65.Body.Kids_c)]) hs rfl rfl rfl rfl rfl rfl (by kernel_rfl) (Nat.le_of_ble_eq_true rfl) rfl (fun _ _ hs => ?_)
          replace hs := hs.chbx (bs' := [⟨b66, 98, [(Value.string (mkS x65.Name)), (Value.int .i64 x65.Body.Kind), (Value.int .u64 x65.Body.Set.w0), (Value.int .u64 x65.Body.Set.w1), (Value.int .u64 x65.Body.Set.w2), (Value.int .u64 x65.Body.Set.w3), (Value.string (mkS x65.Body.Text)), (Value.slice x65.Body.Kids_a x65.Body.Kids_l x65.Body.Kids_c)]⟩, ⟨b25, 24, [rv57]⟩, ⟨b5, 24, [(Value.slice none 0 0)]⟩, ⟨b4, 24, [(Value.slice ga1 gl2 gc3)]⟩]) rfl
          refine wpList_nil (Wp.regionD [true, true, true, true, true, true, true, true, true, false, true, false] hs (by kernel_rfl) rfl [⟨b66, 98, [(Value.string (mkS x65.Name)), (Value.int .i64 x65.Body.Kind), (Value.int .u64 x65.Body.Set.w0), (Value.int .u64 x65.Body.Set.w1), (Value.int .u64 x65.Body.Set.w2), (Value.int .u64 x65.Body.Set.w3), (Value.string (mkS x65.Body.Text)), (Value.slice x65.Body.Kids_a x65.Body.Kids_l x65.Body.Kids_c)]⟩, ⟨b25, 24, [rv57]⟩, ⟨b5, 24, [(Value.slice none 0 0)]⟩, ⟨b4, 24, [(Value.slice ga1 gl2 gc3)]⟩] (fun _ h => h) [⟨rv57, 98, 8, rn58, rx59, true⟩, ⟨(Value.slice none 0 0), 98, 8, 0, [], true⟩] (fun _ h => h) (fun _ hs hC => ?_))
          have hL := Mem.le.refl M60
          refine dP (Value.pointer (some ⟨b25, 0, none⟩)) 0 [1, 9, 10, 11] hs QZ.no (wanted_none rfl) fun _ hs => ?_
          refine stepDY (v := rv57) 1 [9, 10, 11] hs hC QZ.no rfl (wanted_none rfl) rfl (by decide) (by kernel_rfl) (by kernel_rfl) (by kernel_rfl) (Yl.loadB (vs := [rv57]) false 1 rfl rfl rfl (by kernel_rfl) rfl) (fun _ hs => ?_)
          refine dP (Value.pointer (some ⟨b66, 0, none⟩)) 2 [3, 7, 8, 9, 10, 11] hs QZ.no (wanted_none rfl) fun _ hs => ?_
          refine stepDY (v := (Value.string (mkS x65.Name))) 3 [7, 8, 9, 10, 11] hs hC QZ.no rfl (wanted_none rfl) rfl (by decide) (by kernel_rfl) (by kernel_rfl) (by kernel_rfl) (Yl.loadB (vs := [(Value.string (mkS x65.Name))]) false 0 rfl rfl rfl (by kernel_rfl) rfl) (fun _ hs => ?_)
          refine stepDE 4 rfl (wanted_none rfl) (by kernel_rfl) #[] ?_
          refine sP (Value.pointer (some ⟨b66, 1, none⟩)) hs fun _ hs => ?_
          refine wpList_nil (⟨fun _ h => h, ?_⟩)
          refine stepDE 5 rfl (wanted_none rfl) (by kernel_rfl) #[] ?_
          refine sY x65.Body.val hs (Yl.loadB (vs := x65.Body.cells) true 0 rfl rfl rfl (by kernel_rfl) rfl) fun _ hs => ?_
          refine wpList_nil (⟨fun _ h => h, ?_⟩)
          refine stepDE 6 rfl (wanted_none rfl) (by kernel_rfl) #[] ?_
          refine stepCallE [x65.Body.val] hs rfl ⟨_, rfl, rfl⟩ rfl Try.func60 rfl (by kernel_rfl) (by decide) hS (fun _ _ M68 v hle hnew hS hs => ?_)
          have hMM := hMM.next hle hnew
          replace hL := hL.trans hle
          obtain ⟨x67, hv, hS⟩ := hS
          subst hv
          refine wpList_nil (⟨fun _ _ => hs.cxle hL (List.Sublist.refl _) (List.Sublist.refl _), ?_⟩)
          have hC := hs.cxle hL (List.Sublist.refl _) (List.Sublist.refl _)
          refine stepDE 7 rfl (wanted_none rfl) (by kernel_rfl) #[] ?_
          refine sP (X_api_Rule.mk x65.Name x67).val hs fun _ hs => ?_
          refine wpList_nil (⟨fun _ h => h, ?_⟩)
          refine stepDE 8 rfl (wanted_none rfl) (by kernel_rfl) #[] ?_
          refine stepMake ((X_api_Rule.mk x65.Name x67).cells) 98 8 1 hs rfl rfl rfl (fun _ => by kernel_rfl) rfl (by unfold maxLen; decide) (by decide) (fun _ _ rv69 hs => ?_)
          refine wpList_nil (⟨fun _ _ => hs.cxle hL (List.Sublist.refl _) (.cons _ (.cons_cons _ (.cons_cons _ List.Sublist.slnil))), ?_⟩)
          have hC := hs.cxle hL (List.Sublist.refl _) (.cons _ (.cons_cons _ (.cons_cons _ List.Sublist.slnil)))
          refine stepDE 9 rfl (wanted_none rfl) (by kernel_rfl) #[] ?_
          obtain ⟨ad70, cap71, hv, hcp, hxl⟩ := hs.rowform 0 rfl
          dsimp only at hv hcp hxl
          subst hv
          obtain ⟨hB, hS⟩ := hS
          refine stepAppend 1 ((X_api_Rule.mk x65.Name x67).cells) hs rfl rfl rfl rfl rfl (by kernel_rfl) (by kernel_rfl) (by decide) (by decide) (hs.srcRow 0 rfl rfl) (lenb hB (by decide)) hB (fun _ _ rv72 hs => ?_)
          replace hs := hs.chrs (rs' := [⟨(Value.slice ad70 1 cap71), 98, 8, 1, (X_api_Rule.mk x65.Name x67).cells, true⟩, ⟨rv72, 98, 8, (rn58 + 1), (rx59 ++ (X_api_Rule.mk x65.Name x67).cells), true⟩, ⟨(Value.slice none 0 0), 98, 8, 0, [], true⟩]) rfl
          refine wpList_nil (⟨fun h => absurd h (by decide), ?_⟩)
          refine stepDE 10 rfl (wanted_none rfl) (by kernel_rfl) #[] ?_
          refine sP (Value.pointer (some ⟨b25, 0, none⟩)) hs fun _ hs => ?_
          refine wpList_nil (⟨fun _ h => h, ?_⟩)
          refine stepDE 11 rfl (wanted_none rfl) (by kernel_rfl) #[] ?_
          obtain ⟨ad73, cap74, hv, hcp, hxl⟩ := hs.rowform 1 rfl
          dsimp only at hv hcp hxl
          subst hv
          refine stepStoreB 1 (vs := [(Value.slice ad73 (rn58 + 1) cap74)]) hs rfl rfl rfl rfl rfl rfl (by kernel_rfl) (Nat.le_of_ble_eq_true rfl) rfl (fun _ _ hs => ?_)
          replace hs := hs.chbx (bs' := [⟨b66, 98, [(Value.string (mkS x65.Name)), (Value.int .i64 x65.Body.Kind), (Value.int .u64 x65.Body.Set.w0), (Value.int .u64 x65.Body.Set.w1), (Value.int .u64 x65.Body.Set.w2), (Value.int .u64 x65.Body.Set.w3), (Value.string (mkS x65.Body.Text)), (Value.slice x65.Body.Kids_a x65.Body.Kids_l x65.Body.Kids_c)]⟩, ⟨b25, 24, [(Value.slice ad73 (rn58 + 1) cap74)]⟩, ⟨b5, 24, [(Value.slice none 0 0)]⟩, ⟨b4, 24, [(Value.slice ga1 gl2 gc3)]⟩]) rfl
          refine wpList_nil (⟨fun h => absurd h (by decide), ?_⟩)
          refine WpD.done (by kernel_rfl) ?_ _
          refine Wp.region ?_
          obtain ⟨hI, hS⟩ := hS
          refine sY (Value.int .i64 (x56 + 1)) hs (Yl.eq (Yl.pure (v := Value.int .i64 (IntKind.wrap .i64 (x56 + 1))) rfl (fun _ => by kernel_rfl)) (congrArg (Value.int .i64) (wrap_in hI))) fun _ hs => ?_
          refine sP (Value.int .i64 (x56 + 1)) hs fun _ hs => ?_
          exact wpList_nil (⟨(x56 + 1, (rn58 + 1), (rx59 ++ (X_api_Rule.mk x65.Name x67).cells), (Value.slice ad73 (rn58 + 1) cap74), M68), ⟨hMM, (hs.weak (.cons _ (.cons_cons _ (.cons_cons _ (.cons_cons _ List.Sublist.slnil)))) (.cons _ (.cons_cons _ (.cons_cons _ List.Sublist.slnil))) ⟨rfl, rfl, rfl, rfl, rfl, trivial⟩), hS.1⟩, hS.2⟩)
        · have hS := hS.2 hc
          refine Wp.exit rfl (Wp.seq (Wp.region (sY (Value.agg #[rv57]) hs (Yl.loadB (vs := [rv57]) true 0 rfl rfl rfl (by kernel_rfl) rfl) fun _ hs => ?_)))
          obtain ⟨ad75, cap76, hv, hcp, hxl⟩ := hs.rowform 0 rfl
          dsimp only at hv hcp hxl
          subst hv
          refine stepStoreB 1 (vs := [(Value.slice ad75 rn58 cap76)]) hs rfl rfl rfl rfl rfl rfl (by kernel_rfl) (Nat.le_of_ble_eq_true rfl) rfl (fun _ _ hs => ?_)
          replace hs := hs.chbx (bs' := [⟨b25, 24, [(Value.slice ad75 rn58 cap76)]⟩, ⟨b5, 24, [(Value.slice ad75 rn58 cap76)]⟩, ⟨b4, 24, [(Value.slice ga1 gl2 gc3)]⟩]) rfl
          refine sP (Value.int .i64 0) hs fun _ hs => ?_
          refine wpList_nil (Wp.ret ?_)
          obtain ⟨M77, hle, hsl, hnew, hs⟩ := hs.release 0 rfl [⟨(Value.slice none 0 0), 98, 8, 0, [], true⟩] rfl
          have hMM := hMM.next hle hnew
          have hS := hS M77 ad75 cap76 hle hsl
          exact leaveE (K := K) hs (resCT (vs := [(Value.slice ad75 rn58 cap76)]) true 1 hs rfl rfl rfl (by kernel_rfl) rfl rfl) hMM.2 hS
set_option linter.unusedVariables false in
def S_chaffref_Kernel_J1 (x100 : Int) (c101 : Int) (rn103 : Nat) (rx104 : List Value) (I106 : Int → Int → Nat → List Value → Mem → Prop) (mu107 : Int → Int → Nat → List Value → Nat) (c121 : Int) (rn123 : Nat) (rx124 : List Value) (M125 : Mem) (K : Value → Int → Mem → Prop) : Prop :=
  (InI (x100 + 1) ∧ I106 (x100 + 1) c121 rn123 rx124 M125 ∧ mu107 (x100 + 1) c121 rn123 rx124 < mu107 x100 c101 rn103 rx104)
set_option linter.unusedVariables false in
def S_chaffref_Kernel (e1 : X_api_Expr) (n3 : Int) (M : Mem) (K : Value → Int → Mem → Prop) : Prop :=
  ((n3 > 400 → (∀ (M8 : Mem), M.le M8 → SlV M8 none 0 0 7 [] → K ((X_api_Expr.mk 0 (X_api_Set.mk 0 0 0 0) [] none 0 0).val) n3 M8)) ∧ (¬ (n3 > 400) → (InI (n3 + 1) ∧ (((e1.Kind : Int) = 8 → (∃ (b9 o10 : Nat), e1.Kids_a = some ⟨b9, o10, none⟩ ∧ (0 : Int) ≤ 0 ∧ 0 < ((e1.Kids_l : Nat) : Int) ∧ (∃ (x11 : X_api_Expr), At M b9 (o10 + (0 : Int).toNat * 7) x11.cells ∧ (C_chaffref_Kernel x11 (n3 + 1) M (fun v c14 M13 => ∃ (x12 : X_api_Expr), v = x12.val ∧ (InI (c14 + 1) ∧ (∃ (b16 o17 : Nat), e1.Kids_a = some ⟨b16, o17, none⟩ ∧ (0 : Int) ≤ 0 ∧ 0 < ((e1.Kids_l : Nat) : Int) ∧ (∃ (x18 : X_api_Expr), At M13 b16 (o17 + (0 : Int).toNat * 7) x18.cells ∧ (C_chaffref_Kernel x18 (c14 + 1) M13 (fun v c21 M20 => ∃ (x19 : X_api_Expr), v = x19.val ∧ (∀ (M26 : Mem) (ad24 : Option Addr) (cap25 : Nat), M20.le M26 → SlV M26 ad24 1 cap25 7 x19.cells → (∀ (M30 : Mem) (ad28 : Option Addr) (cap29 : Nat), M26.le M30 → SlV M30 ad28 2 cap29 7 [(Value.int .i64 x12.Kind), (Value.int .u64 x12.Set.w0), (Value.int .u64 x12.Set.w1), (Value.int .u64 x12.Set.w2), (Value.int .u64 x12.Set.w3), (Value.string (mkS x12.Text)), (Value.slice x12.Kids_a x12.Kids_l x12.Kids_c), (Value.int .i64 7), (Value.int .u64 0), (Value.int .u64 0), (Value.int .u64 0), (Value.int .u64 0), (Value.string (mkS [])), (Value.slice ad24 1 cap25)] → K ((X_api_Expr.mk 5 (X_api_Set.mk 0 0 0 0) [] ad28 2 cap29).val) c21 M30)))))))))))) ∧ (¬ ((e1.Kind : Int) = 8) → (((e1.Kind : Int) = 9 → (∃ (b31 o32 : Nat), e1.Kids_a = some ⟨b31, o32, none⟩ ∧ (0 : Int) ≤ 0 ∧ 0 < ((e1.Kids_l : Nat) : Int) ∧ (∃ (x33 : X_api_Expr), At M b31 (o32 + (0 : Int).toNat * 7) x33.cells ∧ (C_chaffref_Kernel x33 (n3 + 1) M (fun v c36 M35 => ∃ (x34 : X_api_Expr), v = x34.val ∧ (InI (c36 + 1) ∧ (∀ (M41 : Mem) (ad39 : Option Addr) (cap40 : Nat), M35.le M41 → SlV M41 ad39 2 cap40 7 [(Value.int .i64 x34.Kind), (Value.int .u64 x34.Set.w0), (Value.int .u64 x34.Set.w1), (Value.int .u64 x34.Set.w2), (Value.int .u64 x34.Set.w3), (Value.string (mkS x34.Text)), (Value.slice x34.Kids_a x34.Kids_l x34.Kids_c), (Value.int .i64 1), (Value.int .u64 0), (Value.int .u64 0), (Value.int .u64 0), (Value.int .u64 0), (Value.string (mkS [])), (Value.slice none 0 0)] → K ((X_api_Expr.mk 6 (X_api_Set.mk 0 0 0 0) [] ad39 2 cap40).val) (c36 + 1) M41))))))) ∧ (¬ ((e1.Kind : Int) = 9) → (((e1.Kind : Int) = 10 → (InI ((n3 + 1) + 1) ∧ (∃ (b42 o43 : Nat), e1.Kids_a = some ⟨b42, o43, none⟩ ∧ (0 : Int) ≤ 0 ∧ 0 < ((e1.Kids_l : Nat) : Int) ∧ (∃ (x44 : X_api_Expr), At M b42 (o43 + (0 : Int).toNat * 7) x44.cells ∧ (C_chaffref_Kernel x44 ((n3 + 1) + 1) M (fun v c47 M46 => ∃ (x45 : X_api_Expr), v = x45.val ∧ (∀ (M51 : Mem) (ad49 : Option Addr) (cap50 : Nat), M46.le M51 → SlV M51 ad49 1 cap50 7 x45.cells → (∀ (M55 : Mem) (ad53 : Option Addr) (cap54 : Nat), M51.le M55 → SlV M55 ad53 1 cap54 7 ((X_api_Expr.mk 11 (X_api_Set.mk 0 0 0 0) [] ad49 1 cap50).cells) → K ((X_api_Expr.mk 11 (X_api_Set.mk 0 0 0 0) [] ad53 1 cap54).val) c47 M55)))))))) ∧ (¬ ((e1.Kind : Int) = 10) → (∃ (I106 : Int → Int → Nat → List Value → Mem → Prop) (mu107 : Int → Int → Nat → List Value → Nat), I106 0 (n3 + 1) 0 [] M ∧ ∀ (x100 : Int) (c101 : Int) (rn103 : Nat) (rx104 : List Value) (M105 : Mem), (I106 x100 c101 rn103 rx104 M105 → ((x100 < ((e1.Kids_l : Nat) : Int) → (∃ (b108 o109 : Nat), e1.Kids_a = some ⟨b108, o109, none⟩ ∧ (0 : Int) ≤ x100 ∧ x100 < ((e1.Kids_l : Nat) : Int) ∧ (∃ (x110 : X_api_Expr), At M105 b108 (o109 + x100.toNat * 7) x110.cells ∧ (C_chaffref_Kernel x110 c101 M105 (fun v c114 M113 => ∃ (x112 : X_api_Expr), v = x112.val ∧ ((rn103 + 1) * 80 ≤ 140737488355328 ∧ (S_chaffref_Kernel_J1 x100 c101 rn103 rx104 I106 mu107 c114 (rn103 + 1) (rx104 ++ x112.cells) M113 K))))))) ∧ (¬ (x100 < ((e1.Kids_l : Nat) : Int)) → (∀ (M128 : Mem) (ad126 : Option Addr) (cap127 : Nat), M105.le M128 → SlV M128 ad126 rn103 cap127 7 rx104 → K ((X_api_Expr.mk e1.Kind e1.Set e1.Text ad126 rn103 cap127).val) c101 M128))))))))))))))
set_option linter.unusedVariables false in
set_option maxRecDepth 100000 in
theorem s_chaffref_Kernel (e1 : X_api_Expr) (n3 : Int) (M : Mem) (K : Value → Int → Mem → Prop) (hS : S_chaffref_Kernel e1 n3 M K) : C_chaffref_Kernel e1 n3 M K := by
  intro b2
  refine enterL Try.func61 rfl 106 rfl (Nat.le_of_ble_eq_true rfl) (fun E a hs => ?_)
  unfold S_chaffref_Kernel at hS
  have hMM := MX.refl M E
  change Sx 106 E (blk [⟨b2, 3, [(Value.int .i64 n3)]⟩] []) M E a [(0, e1.val), (1, (Value.pointer (some ⟨b2, 0, none⟩)))] [⟨b2, 3, [(Value.int .i64 n3)]⟩] [] at hs
  refine Wp.seq (Wp.region (stepBox [(Value.int .i64 e1.Kind), (Value.int .u64 e1.Set.w0), (Value.int .u64 e1.Set.w1), (Value.int .u64 e1.Set.w2), (Value.int .u64 e1.Set.w3), (Value.string (mkS e1.Text)), (Value.slice e1.Kids_a e1.Kids_l e1.Kids_c)] hs rfl rfl rfl (by decide) (fun _ _ b6 hEb6 hs => ?_)))
  refine stepAlloc [(Value.int .i64 0), (Value.int .u64 0), (Value.int .u64 0), (Value.int .u64 0), (Value.int .u64 0), (Value.string (mkS [])), (Value.slice none 0 0)] hs (by kernel_rfl) (by decide) (fun _ _ b7 hEb7 hs => ?_)
  have hs := hs.nilrow 96 7
  refine wpList_nil (Wp.seq (Wp.seq (Wp.region (sP (Value.pointer (some ⟨b2, 0, none⟩)) hs fun _ hs => ?_))))
  refine sP (Value.pointer (some ⟨b2, 0, none⟩)) hs fun _ hs => ?_
  refine sY (Value.int .i64 n3) hs (Yl.loadB (vs := [(Value.int .i64 n3)]) false 2 rfl rfl rfl (by kernel_rfl) rfl) fun _ hs => ?_
  refine sP (Value.bool (decide (n3 > 400))) hs fun _ hs => ?_
  refine wpList_nil (Wp.cond hs rfl rfl decide_eq_true_iff (fun hc => ?_) (fun hc => ?_))
  · have hS := hS.1 hc
    refine Wp.seq (Wp.region (sP (X_api_Expr.mk 0 (X_api_Set.mk 0 0 0 0) [] none 0 0).val hs fun _ hs => ?_))
    refine stepStoreB 0 (vs := [(Value.int .i64 0), (Value.int .u64 0), (Value.int .u64 0), (Value.int .u64 0), (Value.int .u64 0), (Value.string (mkS [])), (Value.slice none 0 0)]) hs rfl rfl rfl rfl rfl rfl (by kernel_rfl) (Nat.le_of_ble_eq_true rfl) rfl (fun _ _ hs => ?_)
    replace hs := hs.chbx (bs' := [⟨b7, 96, [(Value.int .i64 0), (Value.int .u64 0), (Value.int .u64 0), (Value.int .u64 0), (Value.int .u64 0), (Value.string (mkS [])), (Value.slice none 0 0)]⟩, ⟨b6, 96, [(Value.int .i64 e1.Kind), (Value.int .u64 e1.Set.w0), (Value.int .u64 e1.Set.w1), (Value.int .u64 e1.Set.w2), (Value.int .u64 e1.Set.w3), (Value.string (mkS e1.Text)), (Value.slice e1.Kids_a e1.Kids_l e1.Kids_c)]⟩, ⟨b2, 3, [(Value.int .i64 n3)]⟩]) rfl
    have hs := hs.nilrow 96 7
    refine wpList_nil (Wp.ret ?_)
    obtain ⟨M8, hle, hsl, hnew, hs⟩ := hs.release 0 rfl [⟨(Value.slice none 0 0), 96, 7, 0, [], true⟩] rfl
    have hMM := hMM.next hle hnew
    have hS := hS M8 hle hsl
    replace hs := hs.bfront 2 rfl rfl
    exact leaveL hs (resC (vs := [(Value.int .i64 0), (Value.int .u64 0), (Value.int .u64 0), (Value.int .u64 0), (Value.int .u64 0), (Value.string (mkS [])), (Value.slice none 0 0)]) true 1 hs rfl rfl rfl (by kernel_rfl) rfl) hMM.1 hMM.2 [⟨b2, 3, [(Value.int .i64 n3)]⟩] [] (.cons_cons _ (.cons _ (.cons _ List.Sublist.slnil))) (.cons _ List.Sublist.slnil) rfl ⟨n3, rfl, rfl, hS⟩
  · have hS := hS.2 hc
    refine Wp.skip (Wp.seq (Wp.region (sP (Value.pointer (some ⟨b2, 0, none⟩)) hs fun _ hs => ?_)))
    refine sP (Value.pointer (some ⟨b2, 0, none⟩)) hs fun _ hs => ?_
    refine sY (Value.int .i64 n3) hs (Yl.loadB (vs := [(Value.int .i64 n3)]) false 2 rfl rfl rfl (by kernel_rfl) rfl) fun _ hs => ?_
    obtain ⟨hI, hS⟩ := hS
    refine sY (Value.int .i64 (n3 + 1)) hs (Yl.eq (Yl.pure (v := Value.int .i64 (IntKind.wrap .i64 (n3 + 1))) rfl (fun _ => by kernel_rfl)) (congrArg (Value.int .i64) (wrap_in hI))) fun _ hs => ?_
    refine sP (Value.pointer (some ⟨b2, 0, none⟩)) hs fun _ hs => ?_
    refine stepStoreB 2 (vs := [(Value.int .i64 (n3 + 1))]) hs rfl rfl rfl rfl rfl rfl (by kernel_rfl) (Nat.le_of_ble_eq_true rfl) rfl (fun _ _ hs => ?_)
    replace hs := hs.chbx (bs' := [⟨b7, 96, [(Value.int .i64 0), (Value.int .u64 0), (Value.int .u64 0), (Value.int .u64 0), (Value.int .u64 0), (Value.string (mkS [])), (Value.slice none 0 0)]⟩, ⟨b6, 96, [(Value.int .i64 e1.Kind), (Value.int .u64 e1.Set.w0), (Value.int .u64 e1.Set.w1), (Value.int .u64 e1.Set.w2), (Value.int .u64 e1.Set.w3), (Value.string (mkS e1.Text)), (Value.slice e1.Kids_a e1.Kids_l e1.Kids_c)]⟩, ⟨b2, 3, [(Value.int .i64 (n3 + 1))]⟩]) rfl
    refine wpList_nil (Wp.seq (Wp.seq (Wp.region (sP (Value.pointer (some ⟨b6, 0, none⟩)) hs fun _ hs => ?_))))
    refine sY (Value.int .i64 e1.Kind) hs (Yl.loadB (vs := [(Value.int .i64 e1.Kind)]) false 1 rfl rfl rfl (by kernel_rfl) rfl) fun _ hs => ?_
    refine wpList_nil (Wp.block (Wp.seq (Wp.region (sP (Value.bool ((e1.Kind : Int) == (8 : Int))) hs fun _ hs => ?_))))
    refine sP (Value.bool ((e1.Kind : Int) == (8 : Int))) hs fun _ hs => ?_
    refine wpList_nil (Wp.cond hs rfl rfl beq_iff_eq (fun hc => ?_) (fun hc => ?_))
    · have hS := hS.1 hc
      refine Wp.seq (Wp.region (sP (Value.pointer (some ⟨b6, 6, none⟩)) hs fun _ hs => ?_))
      refine sY (Value.slice e1.Kids_a e1.Kids_l e1.Kids_c) hs (Yl.loadB (vs := [(Value.slice e1.Kids_a e1.Kids_l e1.Kids_c)]) false 1 rfl rfl rfl (by kernel_rfl) rfl) fun _ hs => ?_
      obtain ⟨b9, o10, ha, h0, hl, hS⟩ := hS
      refine sY (Value.pointer (some ⟨b9, o10 + (0 : Int).toNat * 7, none⟩)) hs (Yl.indexS (e := 96) (sz := 7) rfl rfl rfl rfl (by kernel_rfl) (by kernel_rfl) ha h0 hl) fun _ hs => ?_
      obtain ⟨x11, hat, hS⟩ := hS
      refine sY x11.val hs (Yl.loadV (vs := x11.cells) true rfl rfl (by kernel_rfl) hat) fun _ hs => ?_
      refine sP (Value.pointer (some ⟨b2, 0, none⟩)) hs fun _ hs => ?_
      replace hs := hs.bfront 2 rfl rfl
      refine stepCallL [x11.val, (Value.pointer (some ⟨b2, 0, none⟩))] [⟨b2, 3, [(Value.int .i64 (n3 + 1))]⟩] [⟨b7, 96, [(Value.int .i64 0), (Value.int .u64 0), (Value.int .u64 0), (Value.int .u64 0), (Value.int .u64 0), (Value.string (mkS [])), (Value.slice none 0 0)]⟩, ⟨b6, 96, [(Value.int .i64 e1.Kind), (Value.int .u64 e1.Set.w0), (Value.int .u64 e1.Set.w1), (Value.int .u64 e1.Set.w2), (Value.int .u64 e1.Set.w3), (Value.string (mkS e1.Text)), (Value.slice e1.Kids_a e1.Kids_l e1.Kids_c)]⟩] [] [⟨(Value.slice none 0 0), 96, 7, 0, [], true⟩] true hs rfl rfl rfl rfl ⟨_, rfl, rfl⟩ rfl Try.func61 rfl (by kernel_rfl) (by decide) (hS _) (fun _ _ M13 v lb lr hle hnew hS hs => ?_)
      have hMM := hMM.next hle hnew
      obtain ⟨c14, hlb, hlr, hS⟩ := hS
      subst hlb hlr
      obtain ⟨x12, hv, hS⟩ := hS
      subst hv
      replace hs := hs.chbx (bs' := [⟨b2, 3, [(Value.int .i64 c14)]⟩, ⟨b7, 96, [(Value.int .i64 0), (Value.int .u64 0), (Value.int .u64 0), (Value.int .u64 0), (Value.int .u64 0), (Value.string (mkS [])), (Value.slice none 0 0)]⟩, ⟨b6, 96, [(Value.int .i64 e1.Kind), (Value.int .u64 e1.Set.w0), (Value.int .u64 e1.Set.w1), (Value.int .u64 e1.Set.w2), (Value.int .u64 e1.Set.w3), (Value.string (mkS e1.Text)), (Value.slice e1.Kids_a e1.Kids_l e1.Kids_c)]⟩]) rfl
      replace hs := hs.chrs (rs' := [⟨(Value.slice none 0 0), 96, 7, 0, [], true⟩]) rfl
      replace hs := hs.bback 2 (l' := [⟨b7, 96, [(Value.int .i64 0), (Value.int .u64 0), (Value.int .u64 0), (Value.int .u64 0), (Value.int .u64 0), (Value.string (mkS [])), (Value.slice none 0 0)]⟩, ⟨b6, 96, [(Value.int .i64 e1.Kind), (Value.int .u64 e1.Set.w0), (Value.int .u64 e1.Set.w1), (Value.int .u64 e1.Set.w2), (Value.int .u64 e1.Set.w3), (Value.string (mkS e1.Text)), (Value.slice e1.Kids_a e1.Kids_l e1.Kids_c)]⟩, ⟨b2, 3, [(Value.int .i64 c14)]⟩]) rfl
      refine stepAlloc [(Value.int .i64 0), (Value.int .u64 0), (Value.int .u64 0), (Value.int .u64 0), (Value.int .u64 0), (Value.string (mkS [])), (Value.slice none 0 0)] hs (by kernel_rfl) (by decide) (fun _ _ b15 hEb15 hs => ?_)
      have hs := hs.nilrow 96 7
      refine stepStoreB 0 (vs := [(Value.int .i64 x12.Kind), (Value.int .u64 x12.Set.w0), (Value.int .u64 x12.Set.w1), (Value.int .u64 x12.Set.w2), (Value.int .u64 x12.Set.w3), (Value.string (mkS x12.Text)), (Value.slice x12.Kids_a x12.Kids_l x12.Kids_c)]) hs rfl rfl rfl rfl rfl rfl (by kernel_rfl) (Nat.le_of_ble_eq_true rfl) rfl (fun _ _ hs => ?_)
      replace hs := hs.chbx (bs' := [⟨b15, 96, [(Value.int .i64 x12.Kind), (Value.int .u64 x12.Set.w0), (Value.int .u64 x12.Set.w1), (Value.int .u64 x12.Set.w2), (Value.int .u64 x12.Set.w3), (Value.string (mkS x12.Text)), (Value.slice x12.Kids_a x12.Kids_l x12.Kids_c)]⟩, ⟨b7, 96, [(Value.int .i64 0), (Value.int .u64 0), (Value.int .u64 0), (Value.int .u64 0), (Value.int .u64 0), (Value.string (mkS [])), (Value.slice none 0 0)]⟩, ⟨b6, 96, [(Value.int .i64 e1.Kind), (Value.int .u64 e1.Set.w0), (Value.int .u64 e1.Set.w1), (Value.int .u64 e1.Set.w2), (Value.int .u64 e1.Set.w3), (Value.string (mkS e1.Text)), (Value.slice e1.Kids_a e1.Kids_l e1.Kids_c)]⟩, ⟨b2, 3, [(Value.int .i64 c14)]⟩]) rfl
      refine wpList_nil (Wp.seq (Wp.region (sP (Value.pointer (some ⟨b2, 0, none⟩)) hs fun _ hs => ?_)))
      refine sP (Value.pointer (some ⟨b2, 0, none⟩)) hs fun _ hs => ?_
      refine sY (Value.int .i64 c14) hs (Yl.loadB (vs := [(Value.int .i64 c14)]) false 3 rfl rfl rfl (by kernel_rfl) rfl) fun _ hs => ?_
      obtain ⟨hI, hS⟩ := hS
      refine sY (Value.int .i64 (c14 + 1)) hs (Yl.eq (Yl.pure (v := Value.int .i64 (IntKind.wrap .i64 (c14 + 1))) rfl (fun _ => by kernel_rfl)) (congrArg (Value.int .i64) (wrap_in hI))) fun _ hs => ?_
      refine sP (Value.pointer (some ⟨b2, 0, none⟩)) hs fun _ hs => ?_
      refine stepStoreB 3 (vs := [(Value.int .i64 (c14 + 1))]) hs rfl rfl rfl rfl rfl rfl (by kernel_rfl) (Nat.le_of_ble_eq_true rfl) rfl (fun _ _ hs => ?_)
      replace hs := hs.chbx (bs' := [⟨b15, 96, [(Value.int .i64 x12.Kind), (Value.int .u64 x12.Set.w0), (Value.int .u64 x12.Set.w1), (Value.int .u64 x12.Set.w2), (Value.int .u64 x12.Set.w3), (Value.string (mkS x12.Text)), (Value.slice x12.Kids_a x12.Kids_l x12.Kids_c)]⟩, ⟨b7, 96, [(Value.int .i64 0), (Value.int .u64 0), (Value.int .u64 0), (Value.int .u64 0), (Value.int .u64 0), (Value.string (mkS [])), (Value.slice none 0 0)]⟩, ⟨b6, 96, [(Value.int .i64 e1.Kind), (Value.int .u64 e1.Set.w0), (Value.int .u64 e1.Set.w1), (Value.int .u64 e1.Set.w2), (Value.int .u64 e1.Set.w3), (Value.string (mkS e1.Text)), (Value.slice e1.Kids_a e1.Kids_l e1.Kids_c)]⟩, ⟨b2, 3, [(Value.int .i64 (c14 + 1))]⟩]) rfl
      refine wpList_nil (Wp.seq (Wp.region (sP (Value.pointer (some ⟨b6, 6, none⟩)) hs fun _ hs => ?_)))
      refine sY (Value.slice e1.Kids_a e1.Kids_l e1.Kids_c) hs (Yl.loadB (vs := [(Value.slice e1.Kids_a e1.Kids_l e1.Kids_c)]) false 2 rfl rfl rfl (by kernel_rfl) rfl) fun _ hs => ?_
      obtain ⟨b16, o17, ha, h0, hl, hS⟩ := hS
      refine sY (Value.pointer (some ⟨b16, o17 + (0 : Int).toNat * 7, none⟩)) hs (Yl.indexS (e := 96) (sz := 7) rfl rfl rfl rfl (by kernel_rfl) (by kernel_rfl) ha h0 hl) fun _ hs => ?_
      obtain ⟨x18, hat, hS⟩ := hS
      refine sY x18.val hs (Yl.loadV (vs := x18.cells) true rfl rfl (by kernel_rfl) hat) fun _ hs => ?_
      refine sP (Value.pointer (some ⟨b2, 0, none⟩)) hs fun _ hs => ?_
      replace hs := hs.bfront 3 rfl rfl
      refine stepCallL [x18.val, (Value.pointer (some ⟨b2, 0, none⟩))] [⟨b2, 3, [(Value.int .i64 (c14 + 1))]⟩] [⟨b15, 96, [(Value.int .i64 x12.Kind), (Value.int .u64 x12.Set.w0), (Value.int .u64 x12.Set.w1), (Value.int .u64 x12.Set.w2), (Value.int .u64 x12.Set.w3), (Value.string (mkS x12.Text)), (Value.slice x12.Kids_a x12.Kids_l x12.Kids_c)]⟩, ⟨b7, 96, [(Value.int .i64 0), (Value.int .u64 0), (Value.int .u64 0), (Value.int .u64 0), (Value.int .u64 0), (Value.string (mkS [])), (Value.slice none 0 0)]⟩, ⟨b6, 96, [(Value.int .i64 e1.Kind), (Value.int .u64 e1.Set.w0), (Value.int .u64 e1.Set.w1), (Value.int .u64 e1.Set.w2), (Value.int .u64 e1.Set.w3), (Value.string (mkS e1.Text)), (Value.slice e1.Kids_a e1.Kids_l e1.Kids_c)]⟩] [] [⟨(Value.slice none 0 0), 96, 7, 0, [], true⟩, ⟨(Value.slice none 0 0), 96, 7, 0, [], true⟩] true hs rfl rfl rfl rfl ⟨_, rfl, rfl⟩ rfl Try.func61 rfl (by kernel_rfl) (by decide) (hS _) (fun _ _ M20 v lb lr hle hnew hS hs => ?_)
      have hMM := hMM.next hle hnew
      obtain ⟨c21, hlb, hlr, hS⟩ := hS
      subst hlb hlr
      obtain ⟨x19, hv, hS⟩ := hS
      subst hv
      replace hs := hs.chbx (bs' := [⟨b2, 3, [(Value.int .i64 c21)]⟩, ⟨b15, 96, [(Value.int .i64 x12.Kind), (Value.int .u64 x12.Set.w0), (Value.int .u64 x12.Set.w1), (Value.int .u64 x12.Set.w2), (Value.int .u64 x12.Set.w3), (Value.string (mkS x12.Text)), (Value.slice x12.Kids_a x12.Kids_l x12.Kids_c)]⟩, ⟨b7, 96, [(Value.int .i64 0), (Value.int .u64 0), (Value.int .u64 0), (Value.int .u64 0), (Value.int .u64 0), (Value.string (mkS [])), (Value.slice none 0 0)]⟩, ⟨b6, 96, [(Value.int .i64 e1.Kind), (Value.int .u64 e1.Set.w0), (Value.int .u64 e1.Set.w1), (Value.int .u64 e1.Set.w2), (Value.int .u64 e1.Set.w3), (Value.string (mkS e1.Text)), (Value.slice e1.Kids_a e1.Kids_l e1.Kids_c)]⟩]) rfl
      replace hs := hs.chrs (rs' := [⟨(Value.slice none 0 0), 96, 7, 0, [], true⟩, ⟨(Value.slice none 0 0), 96, 7, 0, [], true⟩]) rfl
      replace hs := hs.bback 3 (l' := [⟨b15, 96, [(Value.int .i64 x12.Kind), (Value.int .u64 x12.Set.w0), (Value.int .u64 x12.Set.w1), (Value.int .u64 x12.Set.w2), (Value.int .u64 x12.Set.w3), (Value.string (mkS x12.Text)), (Value.slice x12.Kids_a x12.Kids_l x12.Kids_c)]⟩, ⟨b7, 96, [(Value.int .i64 0), (Value.int .u64 0), (Value.int .u64 0), (Value.int .u64 0), (Value.int .u64 0), (Value.string (mkS [])), (Value.slice none 0 0)]⟩, ⟨b6, 96, [(Value.int .i64 e1.Kind), (Value.int .u64 e1.Set.w0), (Value.int .u64 e1.Set.w1), (Value.int .u64 e1.Set.w2), (Value.int .u64 e1.Set.w3), (Value.string (mkS e1.Text)), (Value.slice e1.Kids_a e1.Kids_l e1.Kids_c)]⟩, ⟨b2, 3, [(Value.int .i64 c21)]⟩]) rfl
      refine stepAlloc [(Value.int .i64 0), (Value.int .u64 0), (Value.int .u64 0), (Value.int .u64 0), (Value.int .u64 0), (Value.string (mkS [])), (Value.slice none 0 0)] hs (by kernel_rfl) (by decide) (fun _ _ b22 hEb22 hs => ?_)
      have hs := hs.nilrow 96 7
      refine stepStoreB 0 (vs := [(Value.int .i64 x19.Kind), (Value.int .u64 x19.Set.w0), (Value.int .u64 x19.Set.w1), (Value.int .u64 x19.Set.w2), (Value.int .u64 x19.Set.w3), (Value.string (mkS x19.Text)), (Value.slice x19.Kids_a x19.Kids_l x19.Kids_c)]) hs rfl rfl rfl rfl rfl rfl (by kernel_rfl) (Nat.le_of_ble_eq_true rfl) rfl (fun _ _ hs => ?_)
      replace hs := hs.chbx (bs' := [⟨b22, 96, [(Value.int .i64 x19.Kind), (Value.int .u64 x19.Set.w0), (Value.int .u64 x19.Set.w1), (Value.int .u64 x19.Set.w2), (Value.int .u64 x19.Set.w3), (Value.string (mkS x19.Text)), (Value.slice x19.Kids_a x19.Kids_l x19.Kids_c)]⟩, ⟨b15, 96, [(Value.int .i64 x12.Kind), (Value.int .u64 x12.Set.w0), (Value.int .u64 x12.Set.w1), (Value.int .u64 x12.Set.w2), (Value.int .u64 x12.Set.w3), (Value.string (mkS x12.Text)), (Value.slice x12.Kids_a x12.Kids_l x12.Kids_c)]⟩, ⟨b7, 96, [(Value.int .i64 0), (Value.int .u64 0), (Value.int .u64 0), (Value.int .u64 0), (Value.int .u64 0), (Value.string (mkS [])), (Value.slice none 0 0)]⟩, ⟨b6, 96, [(Value.int .i64 e1.Kind), (Value.int .u64 e1.Set.w0), (Value.int .u64 e1.Set.w1), (Value.int .u64 e1.Set.w2), (Value.int .u64 e1.Set.w3), (Value.string (mkS e1.Text)), (Value.slice e1.Kids_a e1.Kids_l e1.Kids_c)]⟩, ⟨b2, 3, [(Value.int .i64 c21)]⟩]) rfl
      refine wpList_nil (Wp.seq (Wp.region (sY x12.val hs (Yl.loadB (vs := x12.cells) true 1 rfl rfl rfl (by kernel_rfl) rfl) fun _ hs => ?_)))
      refine sY x19.val hs (Yl.loadB (vs := x19.cells) true 0 rfl rfl rfl (by kernel_rfl) rfl) fun _ hs => ?_
      refine stepMake x19.cells 96 7 1 hs rfl rfl rfl (fun _ => by kernel_rfl) rfl (by unfold maxLen; decide) (by decide) (fun _ _ rv23 hs => ?_)
      obtain ⟨ad24, cap25, hv, hcp, hxl⟩ := hs.rowform 0 rfl
      dsimp only at hv hcp hxl
      subst hv
      refine sP (Value.agg #[(Value.int .i64 7), (Value.int .u64 0), (Value.int .u64 0), (Value.int .u64 0), (Value.int .u64 0), (Value.string (mkS [])), (Value.slice ad24 1 cap25)]) hs fun _ hs => ?_
      obtain ⟨M26, hle, hsl, hnew, hs⟩ := hs.release 0 rfl [⟨(Value.slice none 0 0), 96, 7, 0, [], true⟩, ⟨(Value.slice none 0 0), 96, 7, 0, [], true⟩, ⟨(Value.slice none 0 0), 96, 7, 0, [], true⟩] rfl
      have hMM := hMM.next hle hnew
      have hS := hS M26 ad24 cap25 hle hsl
      refine stepMake [(Value.int .i64 x12.Kind), (Value.int .u64 x12.Set.w0), (Value.int .u64 x12.Set.w1), (Value.int .u64 x12.Set.w2), (Value.int .u64 x12.Set.w3), (Value.string (mkS x12.Text)), (Value.slice x12.Kids_a x12.Kids_l x12.Kids_c), (Value.int .i64 7), (Value.int .u64 0), (Value.int .u64 0), (Value.int .u64 0), (Value.int .u64 0), (Value.string (mkS [])), (Value.slice ad24 1 cap25)] 96 7 2 hs rfl rfl rfl (fun _ => by kernel_rfl) rfl (by unfold maxLen; decide) (by decide) (fun _ _ rv27 hs => ?_)
      obtain ⟨ad28, cap29, hv, hcp, hxl⟩ := hs.rowform 0 rfl
      dsimp only at hv hcp hxl
      subst hv
      refine sP (Value.agg #[(Value.int .i64 5), (Value.int .u64 0), (Value.int .u64 0), (Value.int .u64 0), (Value.int .u64 0), (Value.string (mkS [])), (Value.slice ad28 2 cap29)]) hs fun _ hs => ?_
      refine stepStoreB 2 (vs := [(Value.int .i64 5), (Value.int .u64 0), (Value.int .u64 0), (Value.int .u64 0), (Value.int .u64 0), (Value.string (mkS [])), (Value.slice ad28 2 cap29)]) hs rfl rfl rfl rfl rfl rfl (by kernel_rfl) (Nat.le_of_ble_eq_true rfl) rfl (fun _ _ hs => ?_)
      replace hs := hs.chbx (bs' := [⟨b22, 96, [(Value.int .i64 x19.Kind), (Value.int .u64 x19.Set.w0), (Value.int .u64 x19.Set.w1), (Value.int .u64 x19.Set.w2), (Value.int .u64 x19.Set.w3), (Value.string (mkS x19.Text)), (Value.slice x19.Kids_a x19.Kids_l x19.Kids_c)]⟩, ⟨b15, 96, [(Value.int .i64 x12.Kind), (Value.int .u64 x12.Set.w0), (Value.int .u64 x12.Set.w1), (Value.int .u64 x12.Set.w2), (Value.int .u64 x12.Set.w3), (Value.string (mkS x12.Text)), (Value.slice x12.Kids_a x12.Kids_l x12.Kids_c)]⟩, ⟨b7, 96, [(Value.int .i64 5), (Value.int .u64 0), (Value.int .u64 0), (Value.int .u64 0), (Value.int .u64 0), (Value.string (mkS [])), (Value.slice ad28 2 cap29)]⟩, ⟨b6, 96, [(Value.int .i64 e1.Kind), (Value.int .u64 e1.Set.w0), (Value.int .u64 e1.Set.w1), (Value.int .u64 e1.Set.w2), (Value.int .u64 e1.Set.w3), (Value.string (mkS e1.Text)), (Value.slice e1.Kids_a e1.Kids_l e1.Kids_c)]⟩, ⟨b2, 3, [(Value.int .i64 c21)]⟩]) rfl
      refine wpList_nil (Wp.ret ?_)
      obtain ⟨M30, hle, hsl, hnew, hs⟩ := hs.release 0 rfl [⟨(Value.slice none 0 0), 96, 7, 0, [], true⟩, ⟨(Value.slice none 0 0), 96, 7, 0, [], true⟩, ⟨(Value.slice none 0 0), 96, 7, 0, [], true⟩] rfl
      have hMM := hMM.next hle hnew
      have hS := hS M30 ad28 cap29 hle hsl
      replace hs := hs.bfront 4 rfl rfl
      exact leaveL hs (resC (vs := [(Value.int .i64 5), (Value.int .u64 0), (Value.int .u64 0), (Value.int .u64 0), (Value.int .u64 0), (Value.string (mkS [])), (Value.slice ad28 2 cap29)]) true 3 hs rfl rfl rfl (by kernel_rfl) rfl) hMM.1 hMM.2 [⟨b2, 3, [(Value.int .i64 c21)]⟩] [] (.cons_cons _ (.cons _ (.cons _ (.cons _ (.cons _ List.Sublist.slnil))))) (.cons _ (.cons _ (.cons _ List.Sublist.slnil))) rfl ⟨c21, rfl, rfl, hS⟩
    · have hS := hS.2 hc
      refine Wp.seq (Wp.region (sP (Value.bool ((e1.Kind : Int) == (9 : Int))) hs fun _ hs => ?_))
      refine sP (Value.bool ((e1.Kind : Int) == (9 : Int))) hs fun _ hs => ?_
      refine wpList_nil (Wp.cond hs rfl rfl beq_iff_eq (fun hc => ?_) (fun hc => ?_))
      · have hS := hS.1 hc
        refine Wp.seq (Wp.region (sP (Value.pointer (some ⟨b6, 6, none⟩)) hs fun _ hs => ?_))
        refine sY (Value.slice e1.Kids_a e1.Kids_l e1.Kids_c) hs (Yl.loadB (vs := [(Value.slice e1.Kids_a e1.Kids_l e1.Kids_c)]) false 1 rfl rfl rfl (by kernel_rfl) rfl) fun _ hs => ?_
        obtain ⟨b31, o32, ha, h0, hl, hS⟩ := hS
        refine sY (Value.pointer (some ⟨b31, o32 + (0 : Int).toNat * 7, none⟩)) hs (Yl.indexS (e := 96) (sz := 7) rfl rfl rfl rfl (by kernel_rfl) (by kernel_rfl) ha h0 hl) fun _ hs => ?_
        obtain ⟨x33, hat, hS⟩ := hS
        refine sY x33.val hs (Yl.loadV (vs := x33.cells) true rfl rfl (by kernel_rfl) hat) fun _ hs => ?_
        refine sP (Value.pointer (some ⟨b2, 0, none⟩)) hs fun _ hs => ?_
        replace hs := hs.bfront 2 rfl rfl
        refine stepCallL [x33.val, (Value.pointer (some ⟨b2, 0, none⟩))] [⟨b2, 3, [(Value.int .i64 (n3 + 1))]⟩] [⟨b7, 96, [(Value.int .i64 0), (Value.int .u64 0), (Value.int .u64 0), (Value.int .u64 0), (Value.int .u64 0), (Value.string (mkS [])), (Value.slice none 0 0)]⟩, ⟨b6, 96, [(Value.int .i64 e1.Kind), (Value.int .u64 e1.Set.w0), (Value.int .u64 e1.Set.w1), (Value.int .u64 e1.Set.w2), (Value.int .u64 e1.Set.w3), (Value.string (mkS e1.Text)), (Value.slice e1.Kids_a e1.Kids_l e1.Kids_c)]⟩] [] [⟨(Value.slice none 0 0), 96, 7, 0, [], true⟩] true hs rfl rfl rfl rfl ⟨_, rfl, rfl⟩ rfl Try.func61 rfl (by kernel_rfl) (by decide) (hS _) (fun _ _ M35 v lb lr hle hnew hS hs => ?_)
        have hMM := hMM.next hle hnew
        obtain ⟨c36, hlb, hlr, hS⟩ := hS
        subst hlb hlr
        obtain ⟨x34, hv, hS⟩ := hS
        subst hv
        replace hs := hs.chbx (bs' := [⟨b2, 3, [(Value.int .i64 c36)]⟩, ⟨b7, 96, [(Value.int .i64 0), (Value.int .u64 0), (Value.int .u64 0), (Value.int .u64 0), (Value.int .u64 0), (Value.string (mkS [])), (Value.slice none 0 0)]⟩, ⟨b6, 96, [(Value.int .i64 e1.Kind), (Value.int .u64 e1.Set.w0), (Value.int .u64 e1.Set.w1), (Value.int .u64 e1.Set.w2), (Value.int .u64 e1.Set.w3), (Value.string (mkS e1.Text)), (Value.slice e1.Kids_a e1.Kids_l e1.Kids_c)]⟩]) rfl
        replace hs := hs.chrs (rs' := [⟨(Value.slice none 0 0), 96, 7, 0, [], true⟩]) rfl
        replace hs := hs.bback 2 (l' := [⟨b7, 96, [(Value.int .i64 0), (Value.int .u64 0), (Value.int .u64 0), (Value.int .u64 0), (Value.int .u64 0), (Value.string (mkS [])), (Value.slice none 0 0)]⟩, ⟨b6, 96, [(Value.int .i64 e1.Kind), (Value.int .u64 e1.Set.w0), (Value.int .u64 e1.Set.w1), (Value.int .u64 e1.Set.w2), (Value.int .u64 e1.Set.w3), (Value.string (mkS e1.Text)), (Value.slice e1.Kids_a e1.Kids_l e1.Kids_c)]⟩, ⟨b2, 3, [(Value.int .i64 c36)]⟩]) rfl
        refine stepAlloc [(Value.int .i64 0), (Value.int .u64 0), (Value.int .u64 0), (Value.int .u64 0), (Value.int .u64 0), (Value.string (mkS [])), (Value.slice none 0 0)] hs (by kernel_rfl) (by decide) (fun _ _ b37 hEb37 hs => ?_)
        have hs := hs.nilrow 96 7
        refine stepStoreB 0 (vs := [(Value.int .i64 x34.Kind), (Value.int .u64 x34.Set.w0), (Value.int .u64 x34.Set.w1), (Value.int .u64 x34.Set.w2), (Value.int .u64 x34.Set.w3), (Value.string (mkS x34.Text)), (Value.slice x34.Kids_a x34.Kids_l x34.Kids_c)]) hs rfl rfl rfl rfl rfl rfl (by kernel_rfl) (Nat.le_of_ble_eq_true rfl) rfl (fun _ _ hs => ?_)
        replace hs := hs.chbx (bs' := [⟨b37, 96, [(Value.int .i64 x34.Kind), (Value.int .u64 x34.Set.w0), (Value.int .u64 x34.Set.w1), (Value.int .u64 x34.Set.w2), (Value.int .u64 x34.Set.w3), (Value.string (mkS x34.Text)), (Value.slice x34.Kids_a x34.Kids_l x34.Kids_c)]⟩, ⟨b7, 96, [(Value.int .i64 0), (Value.int .u64 0), (Value.int .u64 0), (Value.int .u64 0), (Value.int .u64 0), (Value.string (mkS [])), (Value.slice none 0 0)]⟩, ⟨b6, 96, [(Value.int .i64 e1.Kind), (Value.int .u64 e1.Set.w0), (Value.int .u64 e1.Set.w1), (Value.int .u64 e1.Set.w2), (Value.int .u64 e1.Set.w3), (Value.string (mkS e1.Text)), (Value.slice e1.Kids_a e1.Kids_l e1.Kids_c)]⟩, ⟨b2, 3, [(Value.int .i64 c36)]⟩]) rfl
        refine wpList_nil (Wp.seq (Wp.region (sP (Value.pointer (some ⟨b2, 0, none⟩)) hs fun _ hs => ?_)))
        refine sP (Value.pointer (some ⟨b2, 0, none⟩)) hs fun _ hs => ?_
        refine sY (Value.int .i64 c36) hs (Yl.loadB (vs := [(Value.int .i64 c36)]) false 3 rfl rfl rfl (by kernel_rfl) rfl) fun _ hs => ?_
        obtain ⟨hI, hS⟩ := hS
        refine sY (Value.int .i64 (c36 + 1)) hs (Yl.eq (Yl.pure (v := Value.int .i64 (IntKind.wrap .i64 (c36 + 1))) rfl (fun _ => by kernel_rfl)) (congrArg (Value.int .i64) (wrap_in hI))) fun _ hs => ?_
        refine sP (Value.pointer (some ⟨b2, 0, none⟩)) hs fun _ hs => ?_
        refine stepStoreB 3 (vs := [(Value.int .i64 (c36 + 1))]) hs rfl rfl rfl rfl rfl rfl (by kernel_rfl) (Nat.le_of_ble_eq_true rfl) rfl (fun _ _ hs => ?_)
        replace hs := hs.chbx (bs' := [⟨b37, 96, [(Value.int .i64 x34.Kind), (Value.int .u64 x34.Set.w0), (Value.int .u64 x34.Set.w1), (Value.int .u64 x34.Set.w2), (Value.int .u64 x34.Set.w3), (Value.string (mkS x34.Text)), (Value.slice x34.Kids_a x34.Kids_l x34.Kids_c)]⟩, ⟨b7, 96, [(Value.int .i64 0), (Value.int .u64 0), (Value.int .u64 0), (Value.int .u64 0), (Value.int .u64 0), (Value.string (mkS [])), (Value.slice none 0 0)]⟩, ⟨b6, 96, [(Value.int .i64 e1.Kind), (Value.int .u64 e1.Set.w0), (Value.int .u64 e1.Set.w1), (Value.int .u64 e1.Set.w2), (Value.int .u64 e1.Set.w3), (Value.string (mkS e1.Text)), (Value.slice e1.Kids_a e1.Kids_l e1.Kids_c)]⟩, ⟨b2, 3, [(Value.int .i64 (c36 + 1))]⟩]) rfl
        refine wpList_nil (Wp.seq (Wp.region (sY x34.val hs (Yl.loadB (vs := x34.cells) true 0 rfl rfl rfl (by kernel_rfl) rfl) fun _ hs => ?_)))
        refine sP (X_api_Expr.mk 1 (X_api_Set.mk 0 0 0 0) [] none 0 0).val hs fun _ hs => ?_
        refine stepMake [(Value.int .i64 x34.Kind), (Value.int .u64 x34.Set.w0), (Value.int .u64 x34.Set.w1), (Value.int .u64 x34.Set.w2), (Value.int .u64 x34.Set.w3), (Value.string (mkS x34.Text)), (Value.slice x34.Kids_a x34.Kids_l x34.Kids_c), (Value.int .i64 1), (Value.int .u64 0), (Value.int .u64 0), (Value.int .u64 0), (Value.int .u64 0), (Value.string (mkS [])), (Value.slice none 0 0)] 96 7 2 hs rfl rfl rfl (fun _ => by kernel_rfl) rfl (by unfold maxLen; decide) (by decide) (fun _ _ rv38 hs => ?_)
        obtain ⟨ad39, cap40, hv, hcp, hxl⟩ := hs.rowform 0 rfl
        dsimp only at hv hcp hxl
        subst hv
        refine sP (Value.agg #[(Value.int .i64 6), (Value.int .u64 0), (Value.int .u64 0), (Value.int .u64 0), (Value.int .u64 0), (Value.string (mkS [])), (Value.slice ad39 2 cap40)]) hs fun _ hs => ?_
        refine stepStoreB 1 (vs := [(Value.int .i64 6), (Value.int .u64 0), (Value.int .u64 0), (Value.int .u64 0), (Value.int .u64 0), (Value.string (mkS [])), (Value.slice ad39 2 cap40)]) hs rfl rfl rfl rfl rfl rfl (by kernel_rfl) (Nat.le_of_ble_eq_true rfl) rfl (fun _ _ hs => ?_)
        replace hs := hs.chbx (bs' := [⟨b37, 96, [(Value.int .i64 x34.Kind), (Value.int .u64 x34.Set.w0), (Value.int .u64 x34.Set.w1), (Value.int .u64 x34.Set.w2), (Value.int .u64 x34.Set.w3), (Value.string (mkS x34.Text)), (Value.slice x34.Kids_a x34.Kids_l x34.Kids_c)]⟩, ⟨b7, 96, [(Value.int .i64 6), (Value.int .u64 0), (Value.int .u64 0), (Value.int .u64 0), (Value.int .u64 0), (Value.string (mkS [])), (Value.slice ad39 2 cap40)]⟩, ⟨b6, 96, [(Value.int .i64 e1.Kind), (Value.int .u64 e1.Set.w0), (Value.int .u64 e1.Set.w1), (Value.int .u64 e1.Set.w2), (Value.int .u64 e1.Set.w3), (Value.string (mkS e1.Text)), (Value.slice e1.Kids_a e1.Kids_l e1.Kids_c)]⟩, ⟨b2, 3, [(Value.int .i64 (c36 + 1))]⟩]) rfl
        refine wpList_nil (Wp.ret ?_)
        obtain ⟨M41, hle, hsl, hnew, hs⟩ := hs.release 0 rfl [⟨(Value.slice none 0 0), 96, 7, 0, [], true⟩, ⟨(Value.slice none 0 0), 96, 7, 0, [], true⟩] rfl
        have hMM := hMM.next hle hnew
        have hS := hS M41 ad39 cap40 hle hsl
        replace hs := hs.bfront 3 rfl rfl
        exact leaveL hs (resC (vs := [(Value.int .i64 6), (Value.int .u64 0), (Value.int .u64 0), (Value.int .u64 0), (Value.int .u64 0), (Value.string (mkS [])), (Value.slice ad39 2 cap40)]) true 2 hs rfl rfl rfl (by kernel_rfl) rfl) hMM.1 hMM.2 [⟨b2, 3, [(Value.int .i64 (c36 + 1))]⟩] [] (.cons_cons _ (.cons _ (.cons _ (.cons _ List.Sublist.slnil)))) (.cons _ (.cons _ List.Sublist.slnil)) rfl ⟨c36 + 1, rfl, rfl, hS⟩
      · have hS := hS.2 hc
        refine Wp.seq (Wp.region (sP (Value.bool ((e1.Kind : Int) == (10 : Int))) hs fun _ hs => ?_))
        refine sP (Value.bool ((e1.Kind : Int) == (10 : Int))) hs fun _ hs => ?_
        refine wpList_nil (Wp.cond hs rfl rfl beq_iff_eq (fun hc => ?_) (fun hc => ?_))
        · have hS := hS.1 hc
          refine Wp.seq (Wp.region (sP (Value.pointer (some ⟨b2, 0, none⟩)) hs fun _ hs => ?_))
          refine sP (Value.pointer (some ⟨b2, 0, none⟩)) hs fun _ hs => ?_
          refine sY (Value.int .i64 (n3 + 1)) hs (Yl.loadB (vs := [(Value.int .i64 (n3 + 1))]) false 2 rfl rfl rfl (by kernel_rfl) rfl) fun _ hs => ?_
          obtain ⟨hI, hS⟩ := hS
          refine sY (Value.int .i64 ((n3 + 1) + 1)) hs (Yl.eq (Yl.pure (v := Value.int .i64 (IntKind.wrap .i64 ((n3 + 1) + 1))) rfl (fun _ => by kernel_rfl)) (congrArg (Value.int .i64) (wrap_in hI))) fun _ hs => ?_
          refine sP (Value.pointer (some ⟨b2, 0, none⟩)) hs fun _ hs => ?_
          refine stepStoreB 2 (vs := [(Value.int .i64 ((n3 + 1) + 1))]) hs rfl rfl rfl rfl rfl rfl (by kernel_rfl) (Nat.le_of_ble_eq_true rfl) rfl (fun _ _ hs => ?_)
          replace hs := hs.chbx (bs' := [⟨b7, 96, [(Value.int .i64 0), (Value.int .u64 0), (Value.int .u64 0), (Value.int .u64 0), (Value.int .u64 0), (Value.string (mkS [])), (Value.slice none 0 0)]⟩, ⟨b6, 96, [(Value.int .i64 e1.Kind), (Value.int .u64 e1.Set.w0), (Value.int .u64 e1.Set.w1), (Value.int .u64 e1.Set.w2), (Value.int .u64 e1.Set.w3), (Value.string (mkS e1.Text)), (Value.slice e1.Kids_a e1.Kids_l e1.Kids_c)]⟩, ⟨b2, 3, [(Value.int .i64 ((n3 + 1) + 1))]⟩]) rfl
          refine wpList_nil (Wp.seq (Wp.region (sP (Value.pointer (some ⟨b6, 6, none⟩)) hs fun _ hs => ?_)))
          refine sY (Value.slice e1.Kids_a e1.Kids_l e1.Kids_c) hs (Yl.loadB (vs := [(Value.slice e1.Kids_a e1.Kids_l e1.Kids_c)]) false 1 rfl rfl rfl (by kernel_rfl) rfl) fun _ hs => ?_
          obtain ⟨b42, o43, ha, h0, hl, hS⟩ := hS
          refine sY (Value.pointer (some ⟨b42, o43 + (0 : Int).toNat * 7, none⟩)) hs (Yl.indexS (e := 96) (sz := 7) rfl rfl rfl rfl (by kernel_rfl) (by kernel_rfl) ha h0 hl) fun _ hs => ?_
          obtain ⟨x44, hat, hS⟩ := hS
          refine sY x44.val hs (Yl.loadV (vs := x44.cells) true rfl rfl (by kernel_rfl) hat) fun _ hs => ?_
          refine sP (Value.pointer (some ⟨b2, 0, none⟩)) hs fun _ hs => ?_
          replace hs := hs.bfront 2 rfl rfl
          refine stepCallL [x44.val, (Value.pointer (some ⟨b2, 0, none⟩))] [⟨b2, 3, [(Value.int .i64 ((n3 + 1) + 1))]⟩] [⟨b7, 96, [(Value.int .i64 0), (Value.int .u64 0), (Value.int .u64 0), (Value.int .u64 0), (Value.int .u64 0), (Value.string (mkS [])), (Value.slice none 0 0)]⟩, ⟨b6, 96, [(Value.int .i64 e1.Kind), (Value.int .u64 e1.Set.w0), (Value.int .u64 e1.Set.w1), (Value.int .u64 e1.Set.w2), (Value.int .u64 e1.Set.w3), (Value.string (mkS e1.Text)), (Value.slice e1.Kids_a e1.Kids_l e1.Kids_c)]⟩] [] [⟨(Value.slice none 0 0), 96, 7, 0, [], true⟩] true hs rfl rfl rfl rfl ⟨_, rfl, rfl⟩ rfl Try.func61 rfl (by kernel_rfl) (by decide) (hS _) (fun _ _ M46 v lb lr hle hnew hS hs => ?_)
          have hMM := hMM.next hle hnew
          obtain ⟨c47, hlb, hlr, hS⟩ := hS
          subst hlb hlr
          obtain ⟨x45, hv, hS⟩ := hS
          subst hv
          replace hs := hs.chbx (bs' := [⟨b2, 3, [(Value.int .i64 c47)]⟩, ⟨b7, 96, [(Value.int .i64 0), (Value.int .u64 0), (Value.int .u64 0), (Value.int .u64 0), (Value.int .u64 0), (Value.string (mkS [])), (Value.slice none 0 0)]⟩, ⟨b6, 96, [(Value.int .i64 e1.Kind), (Value.int .u64 e1.Set.w0), (Value.int .u64 e1.Set.w1), (Value.int .u64 e1.Set.w2), (Value.int .u64 e1.Set.w3), (Value.string (mkS e1.Text)), (Value.slice e1.Kids_a e1.Kids_l e1.Kids_c)]⟩]) rfl
          replace hs := hs.chrs (rs' := [⟨(Value.slice none 0 0), 96, 7, 0, [], true⟩]) rfl
          replace hs := hs.bback 2 (l' := [⟨b7, 96, [(Value.int .i64 0), (Value.int .u64 0), (Value.int .u64 0), (Value.int .u64 0), (Value.int .u64 0), (Value.string (mkS [])), (Value.slice none 0 0)]⟩, ⟨b6, 96, [(Value.int .i64 e1.Kind), (Value.int .u64 e1.Set.w0), (Value.int .u64 e1.Set.w1), (Value.int .u64 e1.Set.w2), (Value.int .u64 e1.Set.w3), (Value.string (mkS e1.Text)), (Value.slice e1.Kids_a e1.Kids_l e1.Kids_c)]⟩, ⟨b2, 3, [(Value.int .i64 c47)]⟩]) rfl
          refine stepMake x45.cells 96 7 1 hs rfl rfl rfl (fun _ => by kernel_rfl) rfl (by unfold maxLen; decide) (by decide) (fun _ _ rv48 hs => ?_)
          obtain ⟨ad49, cap50, hv, hcp, hxl⟩ := hs.rowform 0 rfl
          dsimp only at hv hcp hxl
          subst hv
          refine sP (Value.agg #[(Value.int .i64 11), (Value.int .u64 0), (Value.int .u64 0), (Value.int .u64 0), (Value.int .u64 0), (Value.string (mkS [])), (Value.slice ad49 1 cap50)]) hs fun _ hs => ?_
          obtain ⟨M51, hle, hsl, hnew, hs⟩ := hs.release 0 rfl [⟨(Value.slice none 0 0), 96, 7, 0, [], true⟩] rfl
          have hMM := hMM.next hle hnew
          have hS := hS M51 ad49 cap50 hle hsl
          refine stepMake ((X_api_Expr.mk 11 (X_api_Set.mk 0 0 0 0) [] ad49 1 cap50).cells) 96 7 1 hs rfl rfl rfl (fun _ => by kernel_rfl) rfl (by unfold maxLen; decide) (by decide) (fun _ _ rv52 hs => ?_)
          obtain ⟨ad53, cap54, hv, hcp, hxl⟩ := hs.rowform 0 rfl
          dsimp only at hv hcp hxl
          subst hv
          refine sP (Value.agg #[(Value.int .i64 11), (Value.int .u64 0), (Value.int .u64 0), (Value.int .u64 0), (Value.int .u64 0), (Value.string (mkS [])), (Value.slice ad53 1 cap54)]) hs fun _ hs => ?_
          refine stepStoreB 0 (vs := [(Value.int .i64 11), (Value.int .u64 0), (Value.int .u64 0), (Value.int .u64 0), (Value.int .u64 0), (Value.string (mkS [])), (Value.slice ad53 1 cap54)]) hs rfl rfl rfl rfl rfl rfl (by kernel_rfl) (Nat.le_of_ble_eq_true rfl) rfl (fun _ _ hs => ?_)
          replace hs := hs.chbx (bs' := [⟨b7, 96, [(Value.int .i64 11), (Value.int .u64 0), (Value.int .u64 0), (Value.int .u64 0), (Value.int .u64 0), (Value.string (mkS [])), (Value.slice ad53 1 cap54)]⟩, ⟨b6, 96, [(Value.int .i64 e1.Kind), (Value.int .u64 e1.Set.w0), (Value.int .u64 e1.Set.w1), (Value.int .u64 e1.Set.w2), (Value.int .u64 e1.Set.w3), (Value.string (mkS e1.Text)), (Value.slice e1.Kids_a e1.Kids_l e1.Kids_c)]⟩, ⟨b2, 3, [(Value.int .i64 c47)]⟩]) rfl
          refine wpList_nil (Wp.ret ?_)
          obtain ⟨M55, hle, hsl, hnew, hs⟩ := hs.release 0 rfl [⟨(Value.slice none 0 0), 96, 7, 0, [], true⟩] rfl
          have hMM := hMM.next hle hnew
          have hS := hS M55 ad53 cap54 hle hsl
          replace hs := hs.bfront 2 rfl rfl
          exact leaveL hs (resC (vs := [(Value.int .i64 11), (Value.int .u64 0), (Value.int .u64 0), (Value.int .u64 0), (Value.int .u64 0), (Value.string (mkS [])), (Value.slice ad53 1 cap54)]) true 1 hs rfl rfl rfl (by kernel_rfl) rfl) hMM.1 hMM.2 [⟨b2, 3, [(Value.int .i64 c47)]⟩] [] (.cons_cons _ (.cons _ (.cons _ List.Sublist.slnil))) (.cons _ List.Sublist.slnil) rfl ⟨c47, rfl, rfl, hS⟩
        · have hS := hS.2 hc
          refine Wp.skip (Wp.seq (Wp.region (sP (Value.pointer (some ⟨b6, 0, none⟩)) hs fun _ hs => ?_)))
          refine sY (Value.int .i64 e1.Kind) hs (Yl.loadB (vs := [(Value.int .i64 e1.Kind)]) false 1 rfl rfl rfl (by kernel_rfl) rfl) fun _ hs => ?_
          refine sP (Value.pointer (some ⟨b6, 1, none⟩)) hs fun _ hs => ?_
          refine sY e1.Set.val hs (Yl.loadB (vs := e1.Set.cells) true 1 rfl rfl rfl (by kernel_rfl) rfl) fun _ hs => ?_
          refine sP (Value.pointer (some ⟨b6, 5, none⟩)) hs fun _ hs => ?_
          refine sY (Value.string (mkS e1.Text)) hs (Yl.loadB (vs := [(Value.string (mkS e1.Text))]) false 1 rfl rfl rfl (by kernel_rfl) rfl) fun _ hs => ?_
          refine sP (X_api_Expr.mk e1.Kind e1.Set e1.Text none 0 0).val hs fun _ hs => ?_
          refine stepAlloc [(Value.int .i64 0), (Value.int .u64 0), (Value.int .u64 0), (Value.int .u64 0), (Value.int .u64 0), (Value.string (mkS [])), (Value.slice none 0 0)] hs (by kernel_rfl) (by decide) (fun _ _ b56 hEb56 hs => ?_)
          have hs := hs.nilrow 96 7
          refine stepStoreB 0 (vs := [(Value.int .i64 e1.Kind), (Value.int .u64 e1.Set.w0), (Value.int .u64 e1.Set.w1), (Value.int .u64 e1.Set.w2), (Value.int .u64 e1.Set.w3), (Value.string (mkS e1.Text)), (Value.slice none 0 0)]) hs rfl rfl rfl rfl rfl rfl (by kernel_rfl) (Nat.le_of_ble_eq_true rfl) rfl (fun _ _ hs => ?_)
          replace hs := hs.chbx (bs' := [⟨b56, 96, [(Value.int .i64 e1.Kind), (Value.int .u64 e1.Set.w0), (Value.int .u64 e1.Set.w1), (Value.int .u64 e1.Set.w2), (Value.int .u64 e1.Set.w3), (Value.string (mkS e1.Text)), (Value.slice none 0 0)]⟩, ⟨b7, 96, [(Value.int .i64 0), (Value.int .u64 0), (Value.int .u64 0), (Value.int .u64 0), (Value.int .u64 0), (Value.string (mkS [])), (Value.slice none 0 0)]⟩, ⟨b6, 96, [(Value.int .i64 e1.Kind), (Value.int .u64 e1.Set.w0), (Value.int .u64 e1.Set.w1), (Value.int .u64 e1.Set.w2), (Value.int .u64 e1.Set.w3), (Value.string (mkS e1.Text)), (Value.slice e1.Kids_a e1.Kids_l e1.Kids_c)]⟩, ⟨b2, 3, [(Value.int .i64 (n3 + 1))]⟩]) rfl
          have hs := hs.nilrow 96 7
          refine wpList_nil (Wp.seq (Wp.seq (Wp.region (sP (Value.pointer (some ⟨b6, 6, none⟩)) hs fun _ hs => ?_))))
          refine sY (Value.slice e1.Kids_a e1.Kids_l e1.Kids_c) hs (Yl.loadB (vs := [(Value.slice e1.Kids_a e1.Kids_l e1.Kids_c)]) false 2 rfl rfl rfl (by kernel_rfl) rfl) fun _ hs => ?_
          refine sP (Value.int .i64 ((e1.Kids_l : Nat) : Int)) hs fun _ hs => ?_
          refine sP (Value.int .i64 0) hs fun _ hs => ?_
          refine wpList_nil (Wp.block ?_)
          obtain ⟨I106, mu107, hI0, hst⟩ := hS
          refine Wp.loop (σ := (Int) × (Int) × (Nat) × (List Value) × (Value) × (Mem)) (fun s a w => match s with | (x100, c101, rn103, rx104, rv102, M105) => MX M105 M E ∧ Sx 106 E (blk [⟨b2, 3, [(Value.int .i64 n3)]⟩] []) M105 w a [(1, (Value.pointer (some ⟨b2, 0, none⟩))), (4, (Value.pointer (some ⟨b7, 0, none⟩))), (8, (Value.pointer (some ⟨b56, 0, none⟩))), (90, (Value.slice e1.Kids_a e1.Kids_l e1.Kids_c)), (91, (Value.int .i64 ((e1.Kids_l : Nat) : Int))), (92, (Value.int .i64 x100))] [⟨b56, 96, [(Value.int .i64 e1.Kind), (Value.int .u64 e1.Set.w0), (Value.int .u64 e1.Set.w1), (Value.int .u64 e1.Set.w2), (Value.int .u64 e1.Set.w3), (Value.string (mkS e1.Text)), rv102]⟩, ⟨b7, 96, [(Value.int .i64 0), (Value.int .u64 0), (Value.int .u64 0), (Value.int .u64 0), (Value.int .u64 0), (Value.string (mkS [])), (Value.slice none 0 0)]⟩, ⟨b6, 96, [(Value.int .i64 e1.Kind), (Value.int .u64 e1.Set.w0), (Value.int .u64 e1.Set.w1), (Value.int .u64 e1.Set.w2), (Value.int .u64 e1.Set.w3), (Value.string (mkS e1.Text)), (Value.slice e1.Kids_a e1.Kids_l e1.Kids_c)]⟩, ⟨b2, 3, [(Value.int .i64 c101)]⟩] [⟨rv102, 96, 7, rn103, rx104, true⟩, ⟨(Value.slice none 0 0), 96, 7, 0, [], true⟩] ∧ I106 x100 c101 rn103 rx104 M105) (fun s => match s with | (x100, c101, rn103, rx104, rv102, M105) => mu107 x100 c101 rn103 rx104) (0, n3 + 1, 0, [], (Value.slice none 0 0), M) ⟨hMM, (hs.weak (List.Sublist.refl _) (.cons_cons _ (.cons _ (.cons_cons _ List.Sublist.slnil))) ⟨rfl, rfl, rfl, rfl, rfl, rfl, trivial⟩), hI0⟩ (fun s a w hI => ?_)
          obtain ⟨x100, c101, rn103, rx104, rv102, M105⟩ := s
          obtain ⟨hMM, hs, hI⟩ := hI
          have hS := hst x100 c101 rn103 rx104 M105 hI
          clear hst hI0 hI
          refine Wp.seq (Wp.region (sP (Value.bool (decide (x100 < ((e1.Kids_l : Nat) : Int)))) hs fun _ hs => ?_))
          refine wpList_nil (Wp.seq (Wp.cond hs rfl rfl decide_eq_true_iff (fun hc => ?_) (fun hc => ?_)))
          · have hS := hS.1 hc
            refine Wp.skip (Wp.join (fun a w => ∃ (c121 : Int) (rn123 : Nat) (rx124 : List Value) (rv122 : Value) (M125 : Mem), MX M125 M E ∧ Sx 106 E (blk [⟨b2, 3, [(Value.int .i64 n3)]⟩] []) M125 w a [(1, (Value.pointer (some ⟨b2, 0, none⟩))), (4, (Value.pointer (some ⟨b7, 0, none⟩))), (8, (Value.pointer (some ⟨b56, 0, none⟩))), (90, (Value.slice e1.Kids_a e1.Kids_l e1.Kids_c)), (91, (Value.int .i64 ((e1.Kids_l : Nat) : Int))), (92, (Value.int .i64 x100))] [⟨b56, 96, [(Value.int .i64 e1.Kind), (Value.int .u64 e1.Set.w0), (Value.int .u64 e1.Set.w1), (Value.int .u64 e1.Set.w2), (Value.int .u64 e1.Set.w3), (Value.string (mkS e1.Text)), rv122]⟩, ⟨b7, 96, [(Value.int .i64 0), (Value.int .u64 0), (Value.int .u64 0), (Value.int .u64 0), (Value.int .u64 0), (Value.string (mkS [])), (Value.slice none 0 0)]⟩, ⟨b6, 96, [(Value.int .i64 e1.Kind), (Value.int .u64 e1.Set.w0), (Value.int .u64 e1.Set.w1), (Value.int .u64 e1.Set.w2), (Value.int .u64 e1.Set.w3), (Value.string (mkS e1.Text)), (Value.slice e1.Kids_a e1.Kids_l e1.Kids_c)]⟩, ⟨b2, 3, [(Value.int .i64 c121)]⟩] [⟨rv122, 96, 7, rn123, rx124, true⟩, ⟨(Value.slice none 0 0), 96, 7, 0, [], true⟩] ∧ (S_chaffref_Kernel_J1 x100 c101 rn103 rx104 I106 mu107 c121 rn123 rx124 M125 K)) ?_ ?_)
            · refine Wp.block (Wp.seq (Wp.region ?_))
              obtain ⟨b108, o109, ha, h0, hl, hS⟩ := hS
              refine sY (Value.pointer (some ⟨b108, o109 + x100.toNat * 7, none⟩)) hs (Yl.indexS (e := 96) (sz := 7) rfl rfl rfl rfl (by kernel_rfl) (by kernel_rfl) ha h0 hl) fun _ hs => ?_
              obtain ⟨x110, hat, hS⟩ := hS
              refine sY x110.val hs (Yl.loadV (vs := x110.cells) true rfl rfl (by kernel_rfl) hat) fun _ hs => ?_
              refine stepAlloc [(Value.int .i64 0), (Value.int .u64 0), (Value.int .u64 0), (Value.int .u64 0), (Value.int .u64 0), (Value.string (mkS [])), (Value.slice none 0 0)] hs (by kernel_rfl) (by decide) (fun _ _ b111 hEb111 hs => ?_)
              have hs := hs.nilrow 96 7
              refine stepStoreB 0 (vs := [(Value.int .i64 x110.Kind), (Value.int .u64 x110.Set.w0), (Value.int .u64 x110.Set.w1), (Value.int .u64 x110.Set.w2), (Value.int .u64 x110.Set.w3), (Value.string (mkS x110.Text)), (Value.slice x110.Kids_a x110.Kids_l x110.Kids_c)]) hs rfl rfl rfl rfl rfl rfl (by kernel_rfl) (Nat.le_of_ble_eq_true rfl) rfl (fun _ _ hs => ?_)
              replace hs := hs.chbx (bs' := [⟨b111, 96, [(Value.int .i64 x110.Kind), (Value.int .u64 x110.Set.w0), (Value.int .u64 x110.Set.w1), (Value.int .u64 x110.Set.w2), (Value.int .u64 x110.Set.w3), (Value.string (mkS x110.Text)), (Value.slice x110.Kids_a x110.Kids_l x110.Kids_c)]⟩, ⟨b56, 96, [(Value.int .i64 e1.Kind), (Value.int .u64 e1.Set.w0), (Value.int .u64 e1.Set.w1), (Value.int .u64 e1.Set.w2), (Value.int .u64 e1.Set.w3), (Value.string (mkS e1.Text)), rv102]⟩, ⟨b7, 96, [(Value.int .i64 0), (Value.int .u64 0), (Value.int .u64 0), (Value.int .u64 0), (Value.int .u64 0), (Value.string (mkS [])), (Value.slice none 0 0)]⟩, ⟨b6, 96, [(Value.int .i64 e1.Kind), (Value.int .u64 e1.Set.w0), (Value.int .u64 e1.Set.w1), (Value.int .u64 e1.Set.w2), (Value.int .u64 e1.Set.w3), (Value.string (mkS e1.Text)), (Value.slice e1.Kids_a e1.Kids_l e1.Kids_c)]⟩, ⟨b2, 3, [(Value.int .i64 c101)]⟩]) rfl
              refine wpList_nil (Wp.regionD [true, true, true, true, false, false, false, true, false] hs (by kernel_rfl) rfl [⟨b111, 96, [(Value.int .i64 x110.Kind), (Value.int .u64 x110.Set.w0), (Value.int .u64 x110.Set.w1), (Value.int .u64 x110.Set.w2), (Value.int .u64 x110.Set.w3), (Value.string (mkS x110.Text)), (Value.slice x110.Kids_a x110.Kids_l x110.Kids_c)]⟩, ⟨b56, 96, [(Value.int .i64 e1.Kind), (Value.int .u64 e1.Set.w0), (Value.int .u64 e1.Set.w1), (Value.int .u64 e1.Set.w2), (Value.int .u64 e1.Set.w3), (Value.string (mkS e1.Text)), rv102]⟩, ⟨b7, 96, [(Value.int .i64 0), (Value.int .u64 0), (Value.int .u64 0), (Value.int .u64 0), (Value.int .u64 0), (Value.string (mkS [])), (Value.slice none 0 0)]⟩, ⟨b6, 96, [(Value.int .i64 e1.Kind), (Value.int .u64 e1.Set.w0), (Value.int .u64 e1.Set.w1), (Value.int .u64 e1.Set.w2), (Value.int .u64 e1.Set.w3), (Value.string (mkS e1.Text)), (Value.slice e1.Kids_a e1.Kids_l e1.Kids_c)]⟩, ⟨b2, 3, [(Value.int .i64 c101)]⟩] (fun _ h => h) [⟨(Value.slice none 0 0), 96, 7, 0, [], true⟩, ⟨rv102, 96, 7, rn103, rx104, true⟩, ⟨(Value.slice none 0 0), 96, 7, 0, [], true⟩] (fun _ h => h) (fun _ hs hC => ?_))
              have hL := Mem.le.refl M105
              refine dP (Value.pointer (some ⟨b56, 6, none⟩)) 0 [1, 6, 7, 8] hs QZ.no (wanted_none rfl) fun _ hs => ?_
              refine stepDY (v := x110.val) 2 [4, 5, 6, 7, 8] hs hC QZ.no rfl (wanted_none rfl) rfl (by decide) (by kernel_rfl) (by kernel_rfl) (by kernel_rfl) (Yl.loadB (vs := x110.cells) true 0 rfl rfl rfl (by kernel_rfl) rfl) (fun _ hs => ?_)
              refine dP (Value.pointer (some ⟨b2, 0, none⟩)) 3 [4, 5, 6, 7, 8] hs QZ.no (wanted_none rfl) fun _ hs => ?_
              refine WpD.ors (by kernel_rfl : _ = [1, 4]) ⟨?_, ?_, trivial⟩
              · refine stepOne 1 rfl (wanted_none rfl) #[] ?_
                refine sY rv102 hs (Yl.loadB (vs := [rv102]) false 1 rfl rfl rfl (by kernel_rfl) rfl) fun _ hs => ?_
                refine wpList_nil (⟨fun _ h => h, ?_⟩)
                refine stepDE 4 rfl (wanted_none rfl) (by kernel_rfl) #[] ?_
                replace hs := hs.bfront 4 rfl rfl
                refine stepCallL [x110.val, (Value.pointer (some ⟨b2, 0, none⟩))] [⟨b2, 3, [(Value.int .i64 c101)]⟩] [⟨b111, 96, [(Value.int .i64 x110.Kind), (Value.int .u64 x110.Set.w0), (Value.int .u64 x110.Set.w1), (Value.int .u64 x110.Set.w2), (Value.int .u64 x110.Set.w3), (Value.string (mkS x110.Text)), (Value.slice x110.Kids_a x110.Kids_l x110.Kids_c)]⟩, ⟨b56, 96, [(Value.int .i64 e1.Kind), (Value.int .u64 e1.Set.w0), (Value.int .u64 e1.Set.w1), (Value.int .u64 e1.Set.w2), (Value.int .u64 e1.Set.w3), (Value.string (mkS e1.Text)), rv102]⟩, ⟨b7, 96, [(Value.int .i64 0), (Value.int .u64 0), (Value.int .u64 0), (Value.int .u64 0), (Value.int .u64 0), (Value.string (mkS [])), (Value.slice none 0 0)]⟩, ⟨b6, 96, [(Value.int .i64 e1.Kind), (Value.int .u64 e1.Set.w0), (Value.int .u64 e1.Set.w1), (Value.int .u64 e1.Set.w2), (Value.int .u64 e1.Set.w3), (Value.string (mkS e1.Text)), (Value.slice e1.Kids_a e1.Kids_l e1.Kids_c)]⟩] [] [⟨(Value.slice none 0 0), 96, 7, 0, [], true⟩, ⟨rv102, 96, 7, rn103, rx104, true⟩, ⟨(Value.slice none 0 0), 96, 7, 0, [], true⟩] true hs rfl rfl rfl rfl ⟨_, rfl, rfl⟩ rfl Try.func61 rfl (by kernel_rfl) (by decide) (hS _) (fun _ _ M113 v lb lr hle hnew hS hs => ?_)
                have hMM := hMM.next hle hnew
                replace hL := hL.trans hle
                obtain ⟨c114, hlb, hlr, hS⟩ := hS
                subst hlb hlr
                obtain ⟨x112, hv, hS⟩ := hS
                subst hv
                replace hs := hs.chbx (bs' := [⟨b2, 3, [(Value.int .i64 c114)]⟩, ⟨b111, 96, [(Value.int .i64 x110.Kind), (Value.int .u64 x110.Set.w0), (Value.int .u64 x110.Set.w1), (Value.int .u64 x110.Set.w2), (Value.int .u64 x110.Set.w3), (Value.string (mkS x110.Text)), (Value.slice x110.Kids_a x110.Kids_l x110.Kids_c)]⟩, ⟨b56, 96, [(Value.int .i64 e1.Kind), (Value.int .u64 e1.Set.w0), (Value.int .u64 e1.Set.w1), (Value.int .u64 e1.Set.w2), (Value.int .u64 e1.Set.w3), (Value.string (mkS e1.Text)), rv102]⟩, ⟨b7, 96, [(Value.int .i64 0), (Value.int .u64 0), (Value.int .u64 0), (Value.int .u64 0), (Value.int .u64 0), (Value.string (mkS [])), (Value.slice none 0 0)]⟩, ⟨b6, 96, [(Value.int .i64 e1.Kind), (Value.int .u64 e1.Set.w0), (Value.int .u64 e1.Set.w1), (Value.int .u64 e1.Set.w2), (Value.int .u64 e1.Set.w3), (Value.string (mkS e1.Text)), (Value.slice e1.Kids_a e1.Kids_l e1.Kids_c)]⟩]) rfl
                replace hs := hs.chrs (rs' := [⟨(Value.slice none 0 0), 96, 7, 0, [], true⟩, ⟨rv102, 96, 7, rn103, rx104, true⟩, ⟨(Value.slice none 0 0), 96, 7, 0, [], true⟩]) rfl
                replace hs := hs.bback 4 (l' := [⟨b111, 96, [(Value.int .i64 x110.Kind), (Value.int .u64 x110.Set.w0), (Value.int .u64 x110.Set.w1), (Value.int .u64 x110.Set.w2), (Value.int .u64 x110.Set.w3), (Value.string (mkS x110.Text)), (Value.slice x110.Kids_a x110.Kids_l x110.Kids_c)]⟩, ⟨b56, 96, [(Value.int .i64 e1.Kind), (Value.int .u64 e1.Set.w0), (Value.int .u64 e1.Set.w1), (Value.int .u64 e1.Set.w2), (Value.int .u64 e1.Set.w3), (Value.string (mkS e1.Text)), rv102]⟩, ⟨b7, 96, [(Value.int .i64 0), (Value.int .u64 0), (Value.int .u64 0), (Value.int .u64 0), (Value.int .u64 0), (Value.string (mkS [])), (Value.slice none 0 0)]⟩, ⟨b6, 96, [(Value.int .i64 e1.Kind), (Value.int .u64 e1.Set.w0), (Value.int .u64 e1.Set.w1), (Value.int .u64 e1.Set.w2), (Value.int .u64 e1.Set.w3), (Value.string (mkS e1.Text)), (Value.slice e1.Kids_a e1.Kids_l e1.Kids_c)]⟩, ⟨b2, 3, [(Value.int .i64 c114)]⟩]) rfl
                refine wpList_nil (⟨fun h => absurd h (by decide), ?_⟩)
                refine stepDE 5 rfl (wanted_none rfl) (by kernel_rfl) #[] ?_
                refine stepMake x112.cells 96 7 1 hs rfl rfl rfl (fun _ => by kernel_rfl) rfl (by unfold maxLen; decide) (by decide) (fun _ _ rv115 hs => ?_)
                refine wpList_nil (⟨fun h => absurd h (by decide), ?_⟩)
                refine stepDE 6 rfl (wanted_none rfl) (by kernel_rfl) #[] ?_
                obtain ⟨ad116, cap117, hv, hcp, hxl⟩ := hs.rowform 0 rfl
                dsimp only at hv hcp hxl
                subst hv
                obtain ⟨hB, hS⟩ := hS
                refine stepAppend 2 x112.cells hs rfl rfl rfl rfl rfl (by kernel_rfl) (by kernel_rfl) (by decide) (by decide) (hs.srcRow 0 rfl rfl) (lenb hB (by decide)) hB (fun _ _ rv118 hs => ?_)
                replace hs := hs.chrs (rs' := [⟨(Value.slice ad116 1 cap117), 96, 7, 1, x112.cells, true⟩, ⟨(Value.slice none 0 0), 96, 7, 0, [], true⟩, ⟨rv118, 96, 7, (rn103 + 1), (rx104 ++ x112.cells), true⟩, ⟨(Value.slice none 0 0), 96, 7, 0, [], true⟩]) rfl
                refine wpList_nil (⟨fun h => absurd h (by decide), ?_⟩)
                refine stepDE 7 rfl (wanted_none rfl) (by kernel_rfl) #[] ?_
                refine sP (Value.pointer (some ⟨b56, 6, none⟩)) hs fun _ hs => ?_
                refine wpList_nil (⟨fun _ h => h, ?_⟩)
                refine stepDE 8 rfl (wanted_none rfl) (by kernel_rfl) #[] ?_
                obtain ⟨ad119, cap120, hv, hcp, hxl⟩ := hs.rowform 2 rfl
                dsimp only at hv hcp hxl
                subst hv
                refine stepStoreB 1 (vs := [(Value.slice ad119 (rn103 + 1) cap120)]) hs rfl rfl rfl rfl rfl rfl (by kernel_rfl) (Nat.le_of_ble_eq_true rfl) rfl (fun _ _ hs => ?_)
                replace hs := hs.chbx (bs' := [⟨b111, 96, [(Value.int .i64 x110.Kind), (Value.int .u64 x110.Set.w0), (Value.int .u64 x110.Set.w1), (Value.int .u64 x110.Set.w2), (Value.int .u64 x110.Set.w3), (Value.string (mkS x110.Text)), (Value.slice x110.Kids_a x110.Kids_l x110.Kids_c)]⟩, ⟨b56, 96, [(Value.int .i64 e1.Kind), (Value.int .u64 e1.Set.w0), (Value.int .u64 e1.Set.w1), (Value.int .u64 e1.Set.w2), (Value.int .u64 e1.Set.w3), (Value.string (mkS e1.Text)), (Value.slice ad119 (rn103 + 1) cap120)]⟩, ⟨b7, 96, [(Value.int .i64 0), (Value.int .u64 0), (Value.int .u64 0), (Value.int .u64 0), (Value.int .u64 0), (Value.string (mkS [])), (Value.slice none 0 0)]⟩, ⟨b6, 96, [(Value.int .i64 e1.Kind), (Value.int .u64 e1.Set.w0), (Value.int .u64 e1.Set.w1), (Value.int .u64 e1.Set.w2), (Value.int .u64 e1.Set.w3), (Value.string (mkS e1.Text)), (Value.slice e1.Kids_a e1.Kids_l e1.Kids_c)]⟩, ⟨b2, 3, [(Value.int .i64 c114)]⟩]) rfl
                refine wpList_nil (⟨fun h => absurd h (by decide), ?_⟩)
                refine WpD.done (by kernel_rfl) ?_ _
                exact ⟨c114, (rn103 + 1), (rx104 ++ x112.cells), (Value.slice ad119 (rn103 + 1) cap120), M113, hMM, (hs.weak (.cons _ (.cons_cons _ (.cons_cons _ (.cons_cons _ (.cons_cons _ List.Sublist.slnil))))) (.cons _ (.cons _ (.cons_cons _ (.cons_cons _ List.Sublist.slnil)))) ⟨rfl, rfl, rfl, rfl, rfl, rfl, trivial⟩), hS⟩
              · refine stepOne 4 rfl (wanted_none rfl) #[] ?_
                replace hs := hs.bfront 4 rfl rfl
                refine stepCallL [x110.val, (Value.pointer (some ⟨b2, 0, none⟩))] [⟨b2, 3, [(Value.int .i64 c101)]⟩] [⟨b111, 96, [(Value.int .i64 x110.Kind), (Value.int .u64 x110.Set.w0), (Value.int .u64 x110.Set.w1), (Value.int .u64 x110.Set.w2), (Value.int .u64 x110.Set.w3), (Value.string (mkS x110.Text)), (Value.slice x110.Kids_a x110.Kids_l x110.Kids_c)]⟩, ⟨b56, 96, [(Value.int .i64 e1.Kind), (Value.int .u64 e1.Set.w0), (Value.int .u64 e1.Set.w1), (Value.int .u64 e1.Set.w2), (Value.int .u64 e1.Set.w3), (Value.string (mkS e1.Text)), rv102]⟩, ⟨b7, 96, [(Value.int .i64 0), (Value.int .u64 0), (Value.int .u64 0), (Value.int .u64 0), (Value.int .u64 0), (Value.string (mkS [])), (Value.slice none 0 0)]⟩, ⟨b6, 96, [(Value.int .i64 e1.Kind), (Value.int .u64 e1.Set.w0), (Value.int .u64 e1.Set.w1), (Value.int .u64 e1.Set.w2), (Value.int .u64 e1.Set.w3), (Value.string (mkS e1.Text)), (Value.slice e1.Kids_a e1.Kids_l e1.Kids_c)]⟩] [] [⟨(Value.slice none 0 0), 96, 7, 0, [], true⟩, ⟨rv102, 96, 7, rn103, rx104, true⟩, ⟨(Value.slice none 0 0), 96, 7, 0, [], true⟩] true hs rfl rfl rfl rfl ⟨_, rfl, rfl⟩ rfl Try.func61 rfl (by kernel_rfl) (by decide) (hS _) (fun _ _ M113 v lb lr hle hnew hS hs => ?_)
                have hMM := hMM.next hle hnew
                replace hL := hL.trans hle
                obtain ⟨c114, hlb, hlr, hS⟩ := hS
                subst hlb hlr
                obtain ⟨x112, hv, hS⟩ := hS
                subst hv
                replace hs := hs.chbx (bs' := [⟨b2, 3, [(Value.int .i64 c114)]⟩, ⟨b111, 96, [(Value.int .i64 x110.Kind), (Value.int .u64 x110.Set.w0), (Value.int .u64 x110.Set.w1), (Value.int .u64 x110.Set.w2), (Value.int .u64 x110.Set.w3), (Value.string (mkS x110.Text)), (Value.slice x110.Kids_a x110.Kids_l x110.Kids_c)]⟩, ⟨b56, 96, [(Value.int .i64 e1.Kind), (Value.int .u64 e1.Set.w0), (Value.int .u64 e1.Set.w1), (Value.int .u64 e1.Set.w2), (Value.int .u64 e1.Set.w3), (Value.string (mkS e1.Text)), rv102]⟩, ⟨b7, 96, [(Value.int .i64 0), (Value.int .u64 0), (Value.int .u64 0), (Value.int .u64 0), (Value.int .u64 0), (Value.string (mkS [])), (Value.slice none 0 0)]⟩, ⟨b6, 96, [(Value.int .i64 e1.Kind), (Value.int .u64 e1.Set.w0), (Value.int .u64 e1.Set.w1), (Value.int .u64 e1.Set.w2), (Value.int .u64 e1.Set.w3), (Value.string (mkS e1.Text)), (Value.slice e1.Kids_a e1.Kids_l e1.Kids_c)]⟩]) rfl
                replace hs := hs.chrs (rs' := [⟨(Value.slice none 0 0), 96, 7, 0, [], true⟩, ⟨rv102, 96, 7, rn103, rx104, true⟩, ⟨(Value.slice none 0 0), 96, 7, 0, [], true⟩]) rfl
                replace hs := hs.bback 4 (l' := [⟨b111, 96, [(Value.int .i64 x110.Kind), (Value.int .u64 x110.Set.w0), (Value.int .u64 x110.Set.w1), (Value.int .u64 x110.Set.w2), (Value.int .u64 x110.Set.w3), (Value.string (mkS x110.Text)), (Value.slice x110.Kids_a x110.Kids_l x110.Kids_c)]⟩, ⟨b56, 96, [(Value.int .i64 e1.Kind), (Value.int .u64 e1.Set.w0), (Value.int .u64 e1.Set.w1), (Value.int .u64 e1.Set.w2), (Value.int .u64 e1.Set.w3), (Value.string (mkS e1.Text)), rv102]⟩, ⟨b7, 96, [(Value.int .i64 0), (Value.int .u64 0), (Value.int .u64 0), (Value.int .u64 0), (Value.int .u64 0), (Value.string (mkS [])), (Value.slice none 0 0)]⟩, ⟨b6, 96, [(Value.int .i64 e1.Kind), (Value.int .u64 e1.Set.w0), (Value.int .u64 e1.Set.w1), (Value.int .u64 e1.Set.w2), (Value.int .u64 e1.Set.w3), (Value.string (mkS e1.Text)), (Value.slice e1.Kids_a e1.Kids_l e1.Kids_c)]⟩, ⟨b2, 3, [(Value.int .i64 c114)]⟩]) rfl
                refine wpList_nil (⟨fun h => absurd h (by decide), ?_⟩)
                refine WpD.ors (by kernel_rfl : _ = [1, 5]) ⟨?_, ?_, trivial⟩
                · refine stepOne 1 rfl (wanted_none rfl) #[] ?_
                  refine sY rv102 hs (Yl.loadB (vs := [rv102]) false 1 rfl rfl rfl (by kernel_rfl) rfl) fun _ hs => ?_
                  refine wpList_nil (⟨fun _ h => h, ?_⟩)
                  refine stepDE 5 rfl (wanted_none rfl) (by kernel_rfl) #[] ?_
                  refine stepMake x112.cells 96 7 1 hs rfl rfl rfl (fun _ => by kernel_rfl) rfl (by unfold maxLen; decide) (by decide) (fun _ _ rv115 hs => ?_)
                  refine wpList_nil (⟨fun h => absurd h (by decide), ?_⟩)
                  refine stepDE 6 rfl (wanted_none rfl) (by kernel_rfl) #[] ?_
                  obtain ⟨ad116, cap117, hv, hcp, hxl⟩ := hs.rowform 0 rfl
                  dsimp only at hv hcp hxl
                  subst hv
                  obtain ⟨hB, hS⟩ := hS
                  refine stepAppend 2 x112.cells hs rfl rfl rfl rfl rfl (by kernel_rfl) (by kernel_rfl) (by decide) (by decide) (hs.srcRow 0 rfl rfl) (lenb hB (by decide)) hB (fun _ _ rv118 hs => ?_)
                  replace hs := hs.chrs (rs' := [⟨(Value.slice ad116 1 cap117), 96, 7, 1, x112.cells, true⟩, ⟨(Value.slice none 0 0), 96, 7, 0, [], true⟩, ⟨rv118, 96, 7, (rn103 + 1), (rx104 ++ x112.cells), true⟩, ⟨(Value.slice none 0 0), 96, 7, 0, [], true⟩]) rfl
                  refine wpList_nil (⟨fun h => absurd h (by decide), ?_⟩)
                  refine stepDE 7 rfl (wanted_none rfl) (by kernel_rfl) #[] ?_
                  refine sP (Value.pointer (some ⟨b56, 6, none⟩)) hs fun _ hs => ?_
                  refine wpList_nil (⟨fun _ h => h, ?_⟩)
                  refine stepDE 8 rfl (wanted_none rfl) (by kernel_rfl) #[] ?_
                  obtain ⟨ad119, cap120, hv, hcp, hxl⟩ := hs.rowform 2 rfl
                  dsimp only at hv hcp hxl
                  subst hv
                  refine stepStoreB 1 (vs := [(Value.slice ad119 (rn103 + 1) cap120)]) hs rfl rfl rfl rfl rfl rfl (by kernel_rfl) (Nat.le_of_ble_eq_true rfl) rfl (fun _ _ hs => ?_)
                  replace hs := hs.chbx (bs' := [⟨b111, 96, [(Value.int .i64 x110.Kind), (Value.int .u64 x110.Set.w0), (Value.int .u64 x110.Set.w1), (Value.int .u64 x110.Set.w2), (Value.int .u64 x110.Set.w3), (Value.string (mkS x110.Text)), (Value.slice x110.Kids_a x110.Kids_l x110.Kids_c)]⟩, ⟨b56, 96, [(Value.int .i64 e1.Kind), (Value.int .u64 e1.Set.w0), (Value.int .u64 e1.Set.w1), (Value.int .u64 e1.Set.w2), (Value.int .u64 e1.Set.w3), (Value.string (mkS e1.Text)), (Value.slice ad119 (rn103 + 1) cap120)]⟩, ⟨b7, 96, [(Value.int .i64 0), (Value.int .u64 0), (Value.int .u64 0), (Value.int .u64 0), (Value.int .u64 0), (Value.string (mkS [])), (Value.slice none 0 0)]⟩, ⟨b6, 96, [(Value.int .i64 e1.Kind), (Value.int .u64 e1.Set.w0), (Value.int .u64 e1.Set.w1), (Value.int .u64 e1.Set.w2), (Value.int .u64 e1.Set.w3), (Value.string (mkS e1.Text)), (Value.slice e1.Kids_a e1.Kids_l e1.Kids_c)]⟩, ⟨b2, 3, [(Value.int .i64 c114)]⟩]) rfl
                  refine wpList_nil (⟨fun h => absurd h (by decide), ?_⟩)
                  refine WpD.done (by kernel_rfl) ?_ _
                  exact ⟨c114, (rn103 + 1), (rx104 ++ x112.cells), (Value.slice ad119 (rn103 + 1) cap120), M113, hMM, (hs.weak (.cons _ (.cons_cons _ (.cons_cons _ (.cons_cons _ (.cons_cons _ List.Sublist.slnil))))) (.cons _ (.cons _ (.cons_cons _ (.cons_cons _ List.Sublist.slnil)))) ⟨rfl, rfl, rfl, rfl, rfl, rfl, trivial⟩), hS⟩
                · refine stepOne 5 rfl (wanted_none rfl) #[] ?_
                  refine stepMake x112.cells 96 7 1 hs rfl rfl rfl (fun _ => by kernel_rfl) rfl (by unfold maxLen; decide) (by decide) (fun _ _ rv115 hs => ?_)
                  refine wpList_nil (⟨fun h => absurd h (by decide), ?_⟩)
                  refine stepDE 1 rfl (wanted_none rfl) (by kernel_rfl) #[] ?_
                  refine sY rv102 hs (Yl.loadB (vs := [rv102]) false 1 rfl rfl rfl (by kernel_rfl) rfl) fun _ hs => ?_
                  refine wpList_nil (⟨fun _ h => h, ?_⟩)
                  refine stepDE 6 rfl (wanted_none rfl) (by kernel_rfl) #[] ?_
                  obtain ⟨ad116, cap117, hv, hcp, hxl⟩ := hs.rowform 0 rfl
                  dsimp only at hv hcp hxl
                  subst hv
                  obtain ⟨hB, hS⟩ := hS
                  refine stepAppend 2 x112.cells hs rfl rfl rfl rfl rfl (by kernel_rfl) (by kernel_rfl) (by decide) (by decide) (hs.srcRow 0 rfl rfl) (lenb hB (by decide)) hB (fun _ _ rv118 hs => ?_)
                  replace hs := hs.chrs (rs' := [⟨(Value.slice ad116 1 cap117), 96, 7, 1, x112.cells, true⟩, ⟨(Value.slice none 0 0), 96, 7, 0, [], true⟩, ⟨rv118, 96, 7, (rn103 + 1), (rx104 ++ x112.cells), true⟩, ⟨(Value.slice none 0 0), 96, 7, 0, [], true⟩]) rfl
                  refine wpList_nil (⟨fun h => absurd h (by decide), ?_⟩)
                  refine stepDE 7 rfl (wanted_none rfl) (by kernel_rfl) #[] ?_
                  refine sP (Value.pointer (some ⟨b56, 6, none⟩)) hs fun _ hs => ?_
                  refine wpList_nil (⟨fun _ h => h, ?_⟩)
                  refine stepDE 8 rfl (wanted_none rfl) (by kernel_rfl) #[] ?_
                  obtain ⟨ad119, cap120, hv, hcp, hxl⟩ := hs.rowform 2 rfl
                  dsimp only at hv hcp hxl
                  subst hv
                  refine stepStoreB 1 (vs := [(Value.slice ad119 (rn103 + 1) cap120)]) hs rfl rfl rfl rfl rfl rfl (by kernel_rfl) (Nat.le_of_ble_eq_true rfl) rfl (fun _ _ hs => ?_)
                  replace hs := hs.chbx (bs' := [⟨b111, 96, [(Value.int .i64 x110.Kind), (Value.int .u64 x110.Set.w0), (Value.int .u64 x110.Set.w1), (Value.int .u64 x110.Set.w2), (Value.int .u64 x110.Set.w3), (Value.string (mkS x110.Text)), (Value.slice x110.Kids_a x110.Kids_l x110.Kids_c)]⟩, ⟨b56, 96, [(Value.int .i64 e1.Kind), (Value.int .u64 e1.Set.w0), (Value.int .u64 e1.Set.w1), (Value.int .u64 e1.Set.w2), (Value.int .u64 e1.Set.w3), (Value.string (mkS e1.Text)), (Value.slice ad119 (rn103 + 1) cap120)]⟩, ⟨b7, 96, [(Value.int .i64 0), (Value.int .u64 0), (Value.int .u64 0), (Value.int .u64 0), (Value.int .u64 0), (Value.string (mkS [])), (Value.slice none 0 0)]⟩, ⟨b6, 96, [(Value.int .i64 e1.Kind), (Value.int .u64 e1.Set.w0), (Value.int .u64 e1.Set.w1), (Value.int .u64 e1.Set.w2), (Value.int .u64 e1.Set.w3), (Value.string (mkS e1.Text)), (Value.slice e1.Kids_a e1.Kids_l e1.Kids_c)]⟩, ⟨b2, 3, [(Value.int .i64 c114)]⟩]) rfl
                  refine wpList_nil (⟨fun h => absurd h (by decide), ?_⟩)
                  refine WpD.done (by kernel_rfl) ?_ _
                  exact ⟨c114, (rn103 + 1), (rx104 ++ x112.cells), (Value.slice ad119 (rn103 + 1) cap120), M113, hMM, (hs.weak (.cons _ (.cons_cons _ (.cons_cons _ (.cons_cons _ (.cons_cons _ List.Sublist.slnil))))) (.cons _ (.cons _ (.cons_cons _ (.cons_cons _ List.Sublist.slnil)))) ⟨rfl, rfl, rfl, rfl, rfl, rfl, trivial⟩), hS⟩
            · intro a w hJ
              obtain ⟨c121, rn123, rx124, rv122, M125, hMM, hs, hS⟩ := hJ
              unfold S_chaffref_Kernel_J1 at hS
              refine Wp.region ?_
              obtain ⟨hI, hS⟩ := hS
              refine sY (Value.int .i64 (x100 + 1)) hs (Yl.eq (Yl.pure (v := Value.int .i64 (IntKind.wrap .i64 (x100 + 1))) rfl (fun _ => by kernel_rfl)) (congrArg (Value.int .i64) (wrap_in hI))) fun _ hs => ?_
              refine sP (Value.int .i64 (x100 + 1)) hs fun _ hs => ?_
              exact wpList_nil (⟨(x100 + 1, c121, rn123, rx124, rv122, M125), ⟨hMM, (hs.weak (List.Sublist.refl _) (List.Sublist.refl _) ⟨rfl, rfl, rfl, rfl, rfl, rfl, trivial⟩), hS.1⟩, hS.2⟩)
          · have hS := hS.2 hc
            refine Wp.exit rfl (Wp.seq (Wp.region (sY (Value.agg #[(Value.int .i64 e1.Kind), (Value.int .u64 e1.Set.w0), (Value.int .u64 e1.Set.w1), (Value.int .u64 e1.Set.w2), (Value.int .u64 e1.Set.w3), (Value.string (mkS e1.Text)), rv102]) hs (Yl.loadB (vs := [(Value.int .i64 e1.Kind), (Value.int .u64 e1.Set.w0), (Value.int .u64 e1.Set.w1), (Value.int .u64 e1.Set.w2), (Value.int .u64 e1.Set.w3), (Value.string (mkS e1.Text)), rv102]) true 0 rfl rfl rfl (by kernel_rfl) rfl) fun _ hs => ?_)))
            obtain ⟨ad126, cap127, hv, hcp, hxl⟩ := hs.rowform 0 rfl
            dsimp only at hv hcp hxl
            subst hv
            refine stepStoreB 1 (vs := [(Value.int .i64 e1.Kind), (Value.int .u64 e1.Set.w0), (Value.int .u64 e1.Set.w1), (Value.int .u64 e1.Set.w2), (Value.int .u64 e1.Set.w3), (Value.string (mkS e1.Text)), (Value.slice ad126 rn103 cap127)]) hs rfl rfl rfl rfl rfl rfl (by kernel_rfl) (Nat.le_of_ble_eq_true rfl) rfl (fun _ _ hs => ?_)
            replace hs := hs.chbx (bs' := [⟨b56, 96, [(Value.int .i64 e1.Kind), (Value.int .u64 e1.Set.w0), (Value.int .u64 e1.Set.w1), (Value.int .u64 e1.Set.w2), (Value.int .u64 e1.Set.w3), (Value.string (mkS e1.Text)), (Value.slice ad126 rn103 cap127)]⟩, ⟨b7, 96, [(Value.int .i64 e1.Kind), (Value.int .u64 e1.Set.w0), (Value.int .u64 e1.Set.w1), (Value.int .u64 e1.Set.w2), (Value.int .u64 e1.Set.w3), (Value.string (mkS e1.Text)), (Value.slice ad126 rn103 cap127)]⟩, ⟨b6, 96, [(Value.int .i64 e1.Kind), (Value.int .u64 e1.Set.w0), (Value.int .u64 e1.Set.w1), (Value.int .u64 e1.Set.w2), (Value.int .u64 e1.Set.w3), (Value.string (mkS e1.Text)), (Value.slice e1.Kids_a e1.Kids_l e1.Kids_c)]⟩, ⟨b2, 3, [(Value.int .i64 c101)]⟩]) rfl
            refine wpList_nil (Wp.ret ?_)
            obtain ⟨M128, hle, hsl, hnew, hs⟩ := hs.release 0 rfl [⟨(Value.slice none 0 0), 96, 7, 0, [], true⟩] rfl
            have hMM := hMM.next hle hnew
            have hS := hS M128 ad126 cap127 hle hsl
            replace hs := hs.bfront 3 rfl rfl
            exact leaveL hs (resC (vs := [(Value.int .i64 e1.Kind), (Value.int .u64 e1.Set.w0), (Value.int .u64 e1.Set.w1), (Value.int .u64 e1.Set.w2), (Value.int .u64 e1.Set.w3), (Value.string (mkS e1.Text)), (Value.slice ad126 rn103 cap127)]) true 2 hs rfl rfl rfl (by kernel_rfl) rfl) hMM.1 hMM.2 [⟨b2, 3, [(Value.int .i64 c101)]⟩] [] (.cons_cons _ (.cons _ (.cons _ (.cons _ List.Sublist.slnil)))) (.cons _ List.Sublist.slnil) rfl ⟨c101, rfl, rfl, hS⟩
set_option linter.unusedVariables false in
def S_chaffref_KernelOf_J1 (x53 : Int) (c54 : Int) (rn56 : Nat) (rx57 : List Value) (I59 : Int → Int → Nat → List Value → Mem → Prop) (mu60 : Int → Int → Nat → List Value → Nat) (c74 : Int) (rn76 : Nat) (rx77 : List Value) (M78 : Mem) (K : Value → Mem → Prop) : Prop :=
  (InI (x53 + 1) ∧ I59 (x53 + 1) c74 rn76 rx77 M78 ∧ mu60 (x53 + 1) c74 rn76 rx77 < mu60 x53 c54 rn56 rx57)
set_option linter.unusedVariables false in
def S_chaffref_KernelOf (ga1 : Option Addr) (gl2 : Nat) (gc3 : Nat) (M : Mem) (K : Value → Mem → Prop) : Prop :=
  (CallE Try.prog 17 #[(Value.agg #[(Value.slice ga1 gl2 gc3)])] M (fun v _ => ∃ (x6 : Int), v = (Value.int .i64 x6) ∧ (((x6 : Int) ≠ 0 → (∀ (M7 : Mem), M.le M7 → SlV M7 none 0 0 8 [] → (∀ M', M7.le M' → K (Value.tuple #[(Value.agg #[(Value.slice none 0 0)]), (Value.int .i64 x6)]) M'))) ∧ (¬ ((x6 : Int) ≠ 0) → (∃ (I59 : Int → Int → Nat → List Value → Mem → Prop) (mu60 : Int → Int → Nat → List Value → Nat), I59 0 0 0 [] M ∧ ∀ (x53 : Int) (c54 : Int) (rn56 : Nat) (rx57 : List Value) (M58 : Mem), (I59 x53 c54 rn56 rx57 M58 → ((x53 < ((gl2 : Nat) : Int) → (∃ (b61 o62 : Nat), ga1 = some ⟨b61, o62, none⟩ ∧ (0 : Int) ≤ x53 ∧ x53 < ((gl2 : Nat) : Int) ∧ (∃ (x63 : X_api_Rule), At M58 b61 (o62 + x53.toNat * 8) x63.cells ∧ (C_chaffref_Kernel x63.Body c54 M58 (fun v c67 M66 => ∃ (x65 : X_api_Expr), v = x65.val ∧ ((rn56 + 1) * 96 ≤ 140737488355328 ∧ (S_chaffref_KernelOf_J1 x53 c54 rn56 rx57 I59 mu60 c67 (rn56 + 1) (rx57 ++ (X_api_Rule.mk x63.Name x65).cells) M66 K))))))) ∧ (¬ (x53 < ((gl2 : Nat) : Int)) → ((c54 > 400 → (∀ (M79 : Mem), M58.le M79 → SlV M79 none 0 0 8 [] → (∀ M', M79.le M' → K (Value.tuple #[(Value.agg #[(Value.slice none 0 0)]), (Value.int .i64 2)]) M'))) ∧ (¬ (c54 > 400) → (∀ (M82 : Mem) (ad80 : Option Addr) (cap81 : Nat), M58.le M82 → SlV M82 ad80 rn56 cap81 8 rx57 → (∀ M', M82.le M' → K (Value.tuple #[(Value.agg #[(Value.slice ad80 rn56 cap81)]), (Value.int .i64 0)]) M'))))))))))))
set_option linter.unusedVariables false in
set_option maxRecDepth 100000 in
theorem s_chaffref_KernelOf (ga1 : Option Addr) (gl2 : Nat) (gc3 : Nat) (M : Mem) (K : Value → Mem → Prop) (hS : S_chaffref_KernelOf ga1 gl2 gc3 M K) : CallE Try.prog 22 #[(Value.agg #[(Value.slice ga1 gl2 gc3)])] M K := by
  refine enterE Try.func22 rfl 38 rfl (Nat.le_of_ble_eq_true rfl) (fun E a hs => ?_)
  unfold S_chaffref_KernelOf at hS
  have hMM := MX.refl M E
  change Sx 38 E [] M E a [(0, (Value.agg #[(Value.slice ga1 gl2 gc3)]))] [] [] at hs
  refine Wp.seq (Wp.region (stepBox [(Value.slice ga1 gl2 gc3)] hs rfl rfl rfl (by decide) (fun _ _ b4 hEb4 hs => ?_)))
  refine stepAlloc [(Value.slice none 0 0)] hs (by kernel_rfl) (by decide) (fun _ _ b5 hEb5 hs => ?_)
  have hs := hs.nilrow 98 8
  refine sP (Value.int .i64 0) hs fun _ hs => ?_
  refine wpList_nil (Wp.seq (Wp.seq (Wp.region (sY (Value.agg #[(Value.slice ga1 gl2 gc3)]) hs (Yl.loadB (vs := [(Value.slice ga1 gl2 gc3)]) true 1 rfl rfl rfl (by kernel_rfl) rfl) fun _ hs => ?_))))
  refine stepCallP [(Value.agg #[(Value.slice ga1 gl2 gc3)])] hs rfl ⟨_, rfl, rfl⟩ rfl Try.func17 rfl (by kernel_rfl) (by decide) hS (fun _ _ v hS hs => ?_)
  obtain ⟨x6, hv, hS⟩ := hS
  subst hv
  refine sP (Value.int .i64 x6) hs fun _ hs => ?_
  refine wpList_nil (Wp.seq (Wp.region (sP (Value.int .i64 x6) hs fun _ hs => ?_)))
  refine sP (Value.bool ((x6 : Int) != (0 : Int))) hs fun _ hs => ?_
  refine wpList_nil (Wp.cond hs rfl rfl bne_iff_ne (fun hc => ?_) (fun hc => ?_))
  · have hS := hS.1 hc
    refine Wp.seq (Wp.region (sP (Value.agg #[(Value.slice none 0 0)]) hs fun _ hs => ?_))
    refine sP (Value.int .i64 x6) hs fun _ hs => ?_
    refine stepStoreB 0 (vs := [(Value.slice none 0 0)]) hs rfl rfl rfl rfl rfl rfl (by kernel_rfl) (Nat.le_of_ble_eq_true rfl) rfl (fun _ _ hs => ?_)
    replace hs := hs.chbx (bs' := [⟨b5, 24, [(Value.slice none 0 0)]⟩, ⟨b4, 24, [(Value.slice ga1 gl2 gc3)]⟩]) rfl
    have hs := hs.nilrow 98 8
    refine sP (Value.int .i64 x6) hs fun _ hs => ?_
    refine wpList_nil (Wp.ret ?_)
    obtain ⟨M7, hle, hsl, hnew, hs⟩ := hs.release 0 rfl [⟨(Value.slice none 0 0), 98, 8, 0, [], true⟩] rfl
    have hMM := hMM.next hle hnew
    have hS := hS M7 hle hsl
    exact leaveE (K := K) hs (resCT (vs := [(Value.slice none 0 0)]) true 0 hs rfl rfl rfl (by kernel_rfl) rfl rfl) hMM.2 hS
  · have hS := hS.2 hc
    refine Wp.skip (Wp.seq (Wp.region (stepAlloc [(Value.int .i64 0)] hs (by kernel_rfl) (by decide) (fun _ _ b8 hEb8 hs => ?_))))
    refine stepStoreB 0 (vs := [(Value.int .i64 0)]) hs rfl rfl rfl rfl rfl rfl (by kernel_rfl) (Nat.le_of_ble_eq_true rfl) rfl (fun _ _ hs => ?_)
    replace hs := hs.chbx (bs' := [⟨b8, 3, [(Value.int .i64 0)]⟩, ⟨b5, 24, [(Value.slice none 0 0)]⟩, ⟨b4, 24, [(Value.slice ga1 gl2 gc3)]⟩]) rfl
    refine wpList_nil (Wp.seq (Wp.region (stepAlloc [(Value.slice none 0 0)] hs (by kernel_rfl) (by decide) (fun _ _ b9 hEb9 hs => ?_))))
    have hs := hs.nilrow 98 8
    refine wpList_nil (Wp.seq (Wp.seq (Wp.region (sP (Value.pointer (some ⟨b4, 0, none⟩)) hs fun _ hs => ?_))))
    refine sY (Value.slice ga1 gl2 gc3) hs (Yl.loadB (vs := [(Value.slice ga1 gl2 gc3)]) false 3 rfl rfl rfl (by kernel_rfl) rfl) fun _ hs => ?_
    refine sP (Value.int .i64 ((gl2 : Nat) : Int)) hs fun _ hs => ?_
    refine sP (Value.int .i64 0) hs fun _ hs => ?_
    refine wpList_nil (Wp.block ?_)
    obtain ⟨I59, mu60, hI0, hst⟩ := hS
    refine Wp.loop (σ := (Int) × (Int) × (Nat) × (List Value) × (Value) × (Mem)) (fun s a w => match s with | (x53, c54, rn56, rx57, rv55, M58) => MX M58 M E ∧ Sx 38 E [] M58 w a [(2, (Value.pointer (some ⟨b5, 0, none⟩))), (5, (Value.pointer (some ⟨b8, 0, none⟩))), (6, (Value.pointer (some ⟨b9, 0, none⟩))), (16, (Value.slice ga1 gl2 gc3)), (17, (Value.int .i64 ((gl2 : Nat) : Int))), (18, (Value.int .i64 x53))] [⟨b9, 24, [rv55]⟩, ⟨b8, 3, [(Value.int .i64 c54)]⟩, ⟨b5, 24, [(Value.slice none 0 0)]⟩, ⟨b4, 24, [(Value.slice ga1 gl2 gc3)]⟩] [⟨rv55, 98, 8, rn56, rx57, true⟩, ⟨(Value.slice none 0 0), 98, 8, 0, [], true⟩] ∧ I59 x53 c54 rn56 rx57 M58) (fun s => match s with | (x53, c54, rn56, rx57, rv55, M58) => mu60 x53 c54 rn56 rx57) (0, 0, 0, [], (Value.slice none 0 0), M) ⟨hMM, (hs.weak (List.Sublist.refl _) (List.Sublist.refl _) ⟨rfl, rfl, rfl, rfl, rfl, rfl, trivial⟩), hI0⟩ (fun s a w hI => ?_)
    obtain ⟨x53, c54, rn56, rx57, rv55, M58⟩ := s
    obtain ⟨hMM, hs, hI⟩ := hI
    have hS := hst x53 c54 rn56 rx57 M58 hI
    clear hst hI0 hI
    refine Wp.seq (Wp.region (sP (Value.bool (decide (x53 < ((gl2 : Nat) : Int)))) hs fun _ hs => ?_))
    refine wpList_nil (Wp.seq (Wp.cond hs rfl rfl decide_eq_true_iff (fun hc => ?_) (fun hc => ?_)))
    · have hS := hS.1 hc
      refine Wp.skip (Wp.join (fun a w => ∃ (c74 : Int) (rn76 : Nat) (rx77 : List Value) (rv75 : Value) (M78 : Mem), MX M78 M E ∧ Sx 38 E [] M78 w a [(2, (Value.pointer (some ⟨b5, 0, none⟩))), (5, (Value.pointer (some ⟨b8, 0, none⟩))), (6, (Value.pointer (some ⟨b9, 0, none⟩))), (16, (Value.slice ga1 gl2 gc3)), (17, (Value.int .i64 ((gl2 : Nat) : Int))), (18, (Value.int .i64 x53))] [⟨b9, 24, [rv75]⟩, ⟨b8, 3, [(Value.int .i64 c74)]⟩, ⟨b5, 24, [(Value.slice none 0 0)]⟩, ⟨b4, 24, [(Value.slice ga1 gl2 gc3)]⟩] [⟨rv75, 98, 8, rn76, rx77, true⟩, ⟨(Value.slice none 0 0), 98, 8, 0, [], true⟩] ∧ (S_chaffref_KernelOf_J1 x53 c54 rn56 rx57 I59 mu60 c74 rn76 rx77 M78 K)) ?_ ?_)
      · refine Wp.block (Wp.seq (Wp.region ?_))
        obtain ⟨b61, o62, ha, h0, hl, hS⟩ := hS
        refine sY (Value.pointer (some ⟨b61, o62 + x53.toNat * 8, none⟩)) hs (Yl.indexS (e := 98) (sz := 8) rfl rfl rfl rfl (by kernel_rfl) (by kernel_rfl) ha h0 hl) fun _ hs => ?_
        obtain ⟨x63, hat, hS⟩ := hS
        refine sY x63.val hs (Yl.loadV (vs := x63.cells) true rfl rfl (by kernel_rfl) hat) fun _ hs => ?_
        refine stepAlloc [(Value.string (mkS [])), (Value.int .i64 0), (Value.int .u64 0), (Value.int .u64 0), (Value.int .u64 0), (Value.int .u64 0), (Value.string (mkS [])), (Value.slice none 0 0)] hs (by kernel_rfl) (by decide) (fun _ _ b64 hEb64 hs => ?_)
        refine stepStoreB 0 (vs := [(Value.string (mkS x63.Name)), (Value.int .i64 x63.Body.Kind), (Value.int .u64 x63.Body.Set.w0), (Value.int .u64 x63.Body.Set.w1), (Value.int .u64 x63.Body.Set.w2), (Value.int .u64 x63.Body.Set.w3), (Value.string (mkS x63.Body.Text)), (Value.slice x63.Body.Kids_a x63.Body.Kids_l x63.Body.Kids_c)]) hs rfl rfl rfl rfl rfl rfl (by kernel_rfl) (Nat.le_of_ble_eq_true rfl) rfl (fun _ _ hs => ?_)
        replace hs := hs.chbx (bs' := [⟨b64, 98, [(Value.string (mkS x63.Name)), (Value.int .i64 x63.Body.Kind), (Value.int .u64 x63.Body.Set.w0), (Value.int .u64 x63.Body.Set.w1), (Value.int .u64 x63.Body.Set.w2), (Value.int .u64 x63.Body.Set.w3), (Value.string (mkS x63.Body.Text)), (Value.slice x63.Body.Kids_a x63.Body.Kids_l x63.Body.Kids_c)]⟩, ⟨b9, 24, [rv55]⟩, ⟨b8, 3, [(Value.int .i64 c54)]⟩, ⟨b5, 24, [(Value.slice none 0 0)]⟩, ⟨b4, 24, [(Value.slice ga1 gl2 gc3)]⟩]) rfl
        refine wpList_nil (Wp.regionD [true, true, true, true, true, true, false, true, false, false, true, false] hs (by kernel_rfl) rfl [⟨b64, 98, [(Value.string (mkS x63.Name)), (Value.int .i64 x63.Body.Kind), (Value.int .u64 x63.Body.Set.w0), (Value.int .u64 x63.Body.Set.w1), (Value.int .u64 x63.Body.Set.w2), (Value.int .u64 x63.Body.Set.w3), (Value.string (mkS x63.Body.Text)), (Value.slice x63.Body.Kids_a x63.Body.Kids_l x63.Body.Kids_c)]⟩, ⟨b9, 24, [rv55]⟩, ⟨b8, 3, [(Value.int .i64 c54)]⟩, ⟨b5, 24, [(Value.slice none 0 0)]⟩, ⟨b4, 24, [(Value.slice ga1 gl2 gc3)]⟩] (fun _ h => h) [⟨rv55, 98, 8, rn56, rx57, true⟩, ⟨(Value.slice none 0 0), 98, 8, 0, [], true⟩] (fun _ h => h) (fun _ hs hC => ?_))
        have hL := Mem.le.refl M58
        refine dP (Value.pointer (some ⟨b9, 0, none⟩)) 0 [1, 9, 10, 11] hs QZ.no (wanted_none rfl) fun _ hs => ?_
        refine dP (Value.pointer (some ⟨b64, 0, none⟩)) 2 [3, 7, 8, 9, 10, 11] hs QZ.no (wanted_none rfl) fun _ hs => ?_
        refine dP (Value.pointer (some ⟨b64, 1, none⟩)) 4 [5, 6, 7, 8, 9, 10, 11] hs QZ.no (wanted_none rfl) fun _ hs => ?_
        refine stepDY (v := x63.Body.val) 5 [6, 7, 8, 9, 10, 11] hs hC QZ.no rfl (wanted_none rfl) rfl (by decide) (by kernel_rfl) (by kernel_rfl) (by kernel_rfl) (Yl.loadB (vs := x63.Body.cells) true 0 rfl rfl rfl (by kernel_rfl) rfl) (fun _ hs => ?_)
        refine WpD.ors (by kernel_rfl : _ = [1, 3, 6]) ⟨?_, ?_, ?_, trivial⟩
        · refine stepOne 1 rfl (wanted_none rfl) #[] ?_
          refine sY rv55 hs (Yl.loadB (vs := [rv55]) false 1 rfl rfl rfl (by kernel_rfl) rfl) fun _ hs => ?_
          refine wpList_nil (⟨fun _ h => h, ?_⟩)
          refine WpD.ors (by kernel_rfl : _ = [3, 6]) ⟨?_, ?_, trivial⟩
          · refine stepOne 3 rfl (wanted_none rfl) #[] ?_
            refine sY (Value.string (mkS x63.Name)) hs (Yl.loadB (vs := [(Value.string (mkS x63.Name))]) false 0 rfl rfl rfl (by kernel_rfl) rfl) fun _ hs => ?_
            refine wpList_nil (⟨fun _ h => h, ?_⟩)
            refine stepDE 6 rfl (wanted_none rfl) (by kernel_rfl) #[] ?_
            replace hs := hs.bfront 2 rfl rfl
            refine stepCallL [x63.Body.val, (Value.pointer (some ⟨b8, 0, none⟩))] [⟨b8, 3, [(Value.int .i64 c54)]⟩] [⟨b64, 98, [(Value.string (mkS x63.Name)), (Value.int .i64 x63.Body.Kind), (Value.int .u64 x63.Body.Set.w0), (Value.int .u64 x63.Body.Set.w1), (Value.int .u64 x63.Body.Set.w2), (Value.int .u64 x63.Body.Set.w3), (Value.string (mkS x63.Body.Text)), (Value.slice x63.Body.Kids_a x63.Body.Kids_l x63.Body.Kids_c)]⟩, ⟨b9, 24, [rv55]⟩, ⟨b5, 24, [(Value.slice none 0 0)]⟩, ⟨b4, 24, [(Value.slice ga1 gl2 gc3)]⟩] [] [⟨rv55, 98, 8, rn56, rx57, true⟩, ⟨(Value.slice none 0 0), 98, 8, 0, [], true⟩] true hs rfl rfl rfl rfl ⟨_, rfl, rfl⟩ rfl Try.func61 rfl (by kernel_rfl) (by decide) (hS _) (fun _ _ M66 v lb lr hle hnew hS hs => ?_)
            have hMM := hMM.next hle hnew
            replace hL := hL.trans hle
            obtain ⟨c67, hlb, hlr, hS⟩ := hS
            subst hlb hlr
            obtain ⟨x65, hv, hS⟩ := hS
            subst hv
            replace hs := hs.chbx (bs' := [⟨b8, 3, [(Value.int .i64 c67)]⟩, ⟨b64, 98, [(Value.string (mkS x63.Name)), (Value.int .i64 x63.Body.Kind), (Value.int .u64 x63.Body.Set.w0), (Value.int .u64 x63.Body.Set.w1), (Value.int .u64 x63.Body.Set.w2), (Value.int .u64 x63.Body.Set.w3), (Value.string (mkS x63.Body.Text)), (Value.slice x63.Body.Kids_a x63.Body.Kids_l x63.Body.Kids_c)]⟩, ⟨b9, 24, [rv55]⟩, ⟨b5, 24, [(Value.slice none 0 0)]⟩, ⟨b4, 24, [(Value.slice ga1 gl2 gc3)]⟩]) rfl
            replace hs := hs.chrs (rs' := [⟨rv55, 98, 8, rn56, rx57, true⟩, ⟨(Value.slice none 0 0), 98, 8, 0, [], true⟩]) rfl
            replace hs := hs.bback 2 (l' := [⟨b64, 98, [(Value.string (mkS x63.Name)), (Value.int .i64 x63.Body.Kind), (Value.int .u64 x63.Body.Set.w0), (Value.int .u64 x63.Body.Set.w1), (Value.int .u64 x63.Body.Set.w2), (Value.int .u64 x63.Body.Set.w3), (Value.string (mkS x63.Body.Text)), (Value.slice x63.Body.Kids_a x63.Body.Kids_l x63.Body.Kids_c)]⟩, ⟨b9, 24, [rv55]⟩, ⟨b8, 3, [(Value.int .i64 c67)]⟩, ⟨b5, 24, [(Value.slice none 0 0)]⟩, ⟨b4, 24, [(Value.slice ga1 gl2 gc3)]⟩]) rfl
            refine wpList_nil (⟨fun h => absurd h (by decide), ?_⟩)
            refine stepDE 7 rfl (wanted_none rfl) (by kernel_rfl) #[] ?_
            refine sP (X_api_Rule.mk x63.Name x65).val hs fun _ hs => ?_
            refine wpList_nil (⟨fun _ h => h, ?_⟩)
            refine stepDE 8 rfl (wanted_none rfl) (by kernel_rfl) #[] ?_
            refine stepMake ((X_api_Rule.mk x63.Name x65).cells) 98 8 1 hs rfl rfl rfl (fun _ => by kernel_rfl) rfl (by unfold maxLen; decide) (by decide) (fun _ _ rv68 hs => ?_)
            refine wpList_nil (⟨fun h => absurd h (by decide), ?_⟩)
            refine stepDE 9 rfl (wanted_none rfl) (by kernel_rfl) #[] ?_
            obtain ⟨ad69, cap70, hv, hcp, hxl⟩ := hs.rowform 0 rfl
            dsimp only at hv hcp hxl
            subst hv
            obtain ⟨hB, hS⟩ := hS
            refine stepAppend 1 ((X_api_Rule.mk x63.Name x65).cells) hs rfl rfl rfl rfl rfl (by kernel_rfl) (by kernel_rfl) (by decide) (by decide) (hs.srcRow 0 rfl rfl) (lenb hB (by decide)) hB (fun _ _ rv71 hs => ?_)
            replace hs := hs.chrs (rs' := [⟨(Value.slice ad69 1 cap70), 98, 8, 1, (X_api_Rule.mk x63.Name x65).cells, true⟩, ⟨rv71, 98, 8, (rn56 + 1), (rx57 ++ (X_api_Rule.mk x63.Name x65).cells), true⟩, ⟨(Value.slice none 0 0), 98, 8, 0, [], true⟩]) rfl
            refine wpList_nil (⟨fun h => absurd h (by decide), ?_⟩)
            refine stepDE 10 rfl (wanted_none rfl) (by kernel_rfl) #[] ?_
            refine sP (Value.pointer (some ⟨b9, 0, none⟩)) hs fun _ hs => ?_
            refine wpList_nil (⟨fun _ h => h, ?_⟩)
            refine stepDE 11 rfl (wanted_none rfl) (by kernel_rfl) #[] ?_
            obtain ⟨ad72, cap73, hv, hcp, hxl⟩ := hs.rowform 1 rfl
            dsimp only at hv hcp hxl
            subst hv
            refine stepStoreB 1 (vs := [(Value.slice ad72 (rn56 + 1) cap73)]) hs rfl rfl rfl rfl rfl rfl (by kernel_rfl) (Nat.le_of_ble_eq_true rfl) rfl (fun _ _ hs => ?_)
            replace hs := hs.chbx (bs' := [⟨b64, 98, [(Value.string (mkS x63.Name)), (Value.int .i64 x63.Body.Kind), (Value.int .u64 x63.Body.Set.w0), (Value.int .u64 x63.Body.Set.w1), (Value.int .u64 x63.Body.Set.w2), (Value.int .u64 x63.Body.Set.w3), (Value.string (mkS x63.Body.Text)), (Value.slice x63.Body.Kids_a x63.Body.Kids_l x63.Body.Kids_c)]⟩, ⟨b9, 24, [(Value.slice ad72 (rn56 + 1) cap73)]⟩, ⟨b8, 3, [(Value.int .i64 c67)]⟩, ⟨b5, 24, [(Value.slice none 0 0)]⟩, ⟨b4, 24, [(Value.slice ga1 gl2 gc3)]⟩]) rfl
            refine wpList_nil (⟨fun h => absurd h (by decide), ?_⟩)
            refine WpD.done (by kernel_rfl) ?_ _
            exact ⟨c67, (rn56 + 1), (rx57 ++ (X_api_Rule.mk x63.Name x65).cells), (Value.slice ad72 (rn56 + 1) cap73), M66, hMM, (hs.weak (.cons _ (.cons_cons _ (.cons_cons _ (.cons_cons _ (.cons_cons _ List.Sublist.slnil))))) (.cons _ (.cons_cons _ (.cons_cons _ List.Sublist.slnil))) ⟨rfl, rfl, rfl, rfl, rfl, rfl, trivial⟩), hS⟩
          · refine stepOne 6 rfl (wanted_none rfl) #[] ?_
            replace hs := hs.bfront 2 rfl rfl
            refine stepCallL [x63.Body.val, (Value.pointer (some ⟨b8, 0, none⟩))] [⟨b8, 3, [(Value.int .i64 c54)]⟩] [⟨b64, 98, [(Value.string (mkS x63.Name)), (Value.int .i64 x63.Body.Kind), (Value.int .u64 x63.Body.Set.w0), (Value.int .u64 x63.Body.Set.w1), (Value.int .u64 x63.Body.Set.w2), (Value.int .u64 x63.Body.Set.w3), (Value.string (mkS x63.Body.Text)), (Value.slice x63.Body.Kids_a x63.Body.Kids_l x63.Body.Kids_c)]⟩, ⟨b9, 24, [rv55]⟩, ⟨b5, 24, [(Value.slice none 0 0)]⟩, ⟨b4, 24, [(Value.slice ga1 gl2 gc3)]⟩] [] [⟨rv55, 98, 8, rn56, rx57, true⟩, ⟨(Value.slice none 0 0), 98, 8, 0, [], true⟩] true hs rfl rfl rfl rfl ⟨_, rfl, rfl⟩ rfl Try.func61 rfl (by kernel_rfl) (by decide) (hS _) (fun _ _ M66 v lb lr hle hnew hS hs => ?_)
            have hMM := hMM.next hle hnew
            replace hL := hL.trans hle
            obtain ⟨c67, hlb, hlr, hS⟩ := hS
            subst hlb hlr
            obtain ⟨x65, hv, hS⟩ := hS
            subst hv
            replace hs := hs.chbx (bs' := [⟨b8, 3, [(Value.int .i64 c67)]⟩, ⟨b64, 98, [(Value.string (mkS x63.Name)), (Value.int .i64 x63.Body.Kind), (Value.int .u64 x63.Body.Set.w0), (Value.int .u64 x63.Body.Set.w1), (Value.int .u64 x63.Body.Set.w2), (Value.int .u64 x63.Body.Set.w3), (Value.string (mkS x63.Body.Text)), (Value.slice x63.Body.Kids_a x63.Body.Kids_l x63.Body.Kids_c)]⟩, ⟨b9, 24, [rv55]⟩, ⟨b5, 24, [(Value.slice none 0 0)]⟩, ⟨b4, 24, [(Value.slice ga1 gl2 gc3)]⟩]) rfl
            replace hs := hs.chrs (rs' := [⟨rv55, 98, 8, rn56, rx57, true⟩, ⟨(Value.slice none 0 0), 98, 8, 0, [], true⟩]) rfl
            replace hs := hs.bback 2 (l' := [⟨b64, 98, [(Value.string (mkS x63.Name)), (Value.int .i64 x63.Body.Kind), (Value.int .u64 x63.Body.Set.w0), (Value.int .u64 x63.Body.Set.w1), (Value.int .u64 x63.Body.Set.w2), (Value.int .u64 x63.Body.Set.w3), (Value.string (mkS x63.Body.Text)), (Value.slice x63.Body.Kids_a x63.Body.Kids_l x63.Body.Kids_c)]⟩, ⟨b9, 24, [rv55]⟩, ⟨b8, 3, [(Value.int .i64 c67)]⟩, ⟨b5, 24, [(Value.slice none 0 0)]⟩, ⟨b4, 24, [(Value.slice ga1 gl2 gc3)]⟩]) rfl
            refine wpList_nil (⟨fun h => absurd h (by decide), ?_⟩)
            refine stepDE 3 rfl (wanted_none rfl) (by kernel_rfl) #[] ?_
            refine sY (Value.string (mkS x63.Name)) hs (Yl.loadB (vs := [(Value.string (mkS x63.Name))]) false 0 rfl rfl rfl (by kernel_rfl) rfl) fun _ hs => ?_
            refine wpList_nil (⟨fun _ h => h, ?_⟩)
            refine stepDE 7 rfl (wanted_none rfl) (by kernel_rfl) #[] ?_
            refine sP (X_api_Rule.mk x63.Name x65).val hs fun _ hs => ?_
            refine wpList_nil (⟨fun _ h => h, ?_⟩)
            refine stepDE 8 rfl (wanted_none rfl) (by kernel_rfl) #[] ?_
            refine stepMake ((X_api_Rule.mk x63.Name x65).cells) 98 8 1 hs rfl rfl rfl (fun _ => by kernel_rfl) rfl (by unfold maxLen; decide) (by decide) (fun _ _ rv68 hs => ?_)
            refine wpList_nil (⟨fun h => absurd h (by decide), ?_⟩)
            refine stepDE 9 rfl (wanted_none rfl) (by kernel_rfl) #[] ?_
            obtain ⟨ad69, cap70, hv, hcp, hxl⟩ := hs.rowform 0 rfl
            dsimp only at hv hcp hxl
            subst hv
            obtain ⟨hB, hS⟩ := hS
            refine stepAppend 1 ((X_api_Rule.mk x63.Name x65).cells) hs rfl rfl rfl rfl rfl (by kernel_rfl) (by kernel_rfl) (by decide) (by decide) (hs.srcRow 0 rfl rfl) (lenb hB (by decide)) hB (fun _ _ rv71 hs => ?_)
            replace hs := hs.chrs (rs' := [⟨(Value.slice ad69 1 cap70), 98, 8, 1, (X_api_Rule.mk x63.Name x65).cells, true⟩, ⟨rv71, 98, 8, (rn56 + 1), (rx57 ++ (X_api_Rule.mk x63.Name x65).cells), true⟩, ⟨(Value.slice none 0 0), 98, 8, 0, [], true⟩]) rfl
            refine wpList_nil (⟨fun h => absurd h (by decide), ?_⟩)
            refine stepDE 10 rfl (wanted_none rfl) (by kernel_rfl) #[] ?_
            refine sP (Value.pointer (some ⟨b9, 0, none⟩)) hs fun _ hs => ?_
            refine wpList_nil (⟨fun _ h => h, ?_⟩)
            refine stepDE 11 rfl (wanted_none rfl) (by kernel_rfl) #[] ?_
            obtain ⟨ad72, cap73, hv, hcp, hxl⟩ := hs.rowform 1 rfl
            dsimp only at hv hcp hxl
            subst hv
            refine stepStoreB 1 (vs := [(Value.slice ad72 (rn56 + 1) cap73)]) hs rfl rfl rfl rfl rfl rfl (by kernel_rfl) (Nat.le_of_ble_eq_true rfl) rfl (fun _ _ hs => ?_)
            replace hs := hs.chbx (bs' := [⟨b64, 98, [(Value.string (mkS x63.Name)), (Value.int .i64 x63.Body.Kind), (Value.int .u64 x63.Body.Set.w0), (Value.int .u64 x63.Body.Set.w1), (Value.int .u64 x63.Body.Set.w2), (Value.int .u64 x63.Body.Set.w3), (Value.string (mkS x63.Body.Text)), (Value.slice x63.Body.Kids_a x63.Body.Kids_l x63.Body.Kids_c)]⟩, ⟨b9, 24, [(Value.slice ad72 (rn56 + 1) cap73)]⟩, ⟨b8, 3, [(Value.int .i64 c67)]⟩, ⟨b5, 24, [(Value.slice none 0 0)]⟩, ⟨b4, 24, [(Value.slice ga1 gl2 gc3)]⟩]) rfl
            refine wpList_nil (⟨fun h => absurd h (by decide), ?_⟩)
            refine WpD.done (by kernel_rfl) ?_ _
            exact ⟨c67, (rn56 + 1), (rx57 ++ (X_api_Rule.mk x63.Name x65).cells), (Value.slice ad72 (rn56 + 1) cap73), M66, hMM, (hs.weak (.cons _ (.cons_cons _ (.cons_cons _ (.cons_cons _ (.cons_cons _ List.Sublist.slnil))))) (.cons _ (.cons_cons _ (.cons_cons _ List.Sublist.slnil))) ⟨rfl, rfl, rfl, rfl, rfl, rfl, trivial⟩), hS⟩
        · refine stepOne 3 rfl (wanted_none rfl) #[] ?_
          refine sY (Value.string (mkS x63.Name)) hs (Yl.loadB (vs := [(Value.string (mkS x63.Name))]) false 0 rfl rfl rfl (by kernel_rfl) rfl) fun _ hs => ?_
          refine wpList_nil (⟨fun _ h => h, ?_⟩)
          refine WpD.ors (by kernel_rfl : _ = [1, 6]) ⟨?_, ?_, trivial⟩
          · refine stepOne 1 rfl (wanted_none rfl) #[] ?_
            refine sY rv55 hs (Yl.loadB (vs := [rv55]) false 1 rfl rfl rfl (by kernel_rfl) rfl) fun _ hs => ?_
            refine wpList_nil (⟨fun _ h => h, ?_⟩)
            refine stepDE 6 rfl (wanted_none rfl) (by kernel_rfl) #[] ?_
            replace hs := hs.bfront 2 rfl rfl
            refine stepCallL [x63.Body.val, (Value.pointer (some ⟨b8, 0, none⟩))] [⟨b8, 3, [(Value.int .i64 c54)]⟩] [⟨b64, 98, [(Value.string (mkS x63.Name)), (Value.int .i64 x63.Body.Kind), (Value.int .u64 x63.Body.Set.w0), (Value.int .u64 x63.Body.Set.w1), (Value.int .u64 x63.Body.Set.w2), (Value.int .u64 x63.Body.Set.w3), (Value.string (mkS x63.Body.Text)), (Value.slice x63.Body.Kids_a x63.Body.Kids_l x63.Body.Kids_c)]⟩, ⟨b9, 24, [rv55]⟩, ⟨b5, 24, [(Value.slice none 0 0)]⟩, ⟨b4, 24, [(Value.slice ga1 gl2 gc3)]⟩] [] [⟨rv55, 98, 8, rn56, rx57, true⟩, ⟨(Value.slice none 0 0), 98, 8, 0, [], true⟩] true hs rfl rfl rfl rfl ⟨_, rfl, rfl⟩ rfl Try.func61 rfl (by kernel_rfl) (by decide) (hS _) (fun _ _ M66 v lb lr hle hnew hS hs => ?_)
            have hMM := hMM.next hle hnew
            replace hL := hL.trans hle
            obtain ⟨c67, hlb, hlr, hS⟩ := hS
            subst hlb hlr
            obtain ⟨x65, hv, hS⟩ := hS
            subst hv
            replace hs := hs.chbx (bs' := [⟨b8, 3, [(Value.int .i64 c67)]⟩, ⟨b64, 98, [(Value.string (mkS x63.Name)), (Value.int .i64 x63.Body.Kind), (Value.int .u64 x63.Body.Set.w0), (Value.int .u64 x63.Body.Set.w1), (Value.int .u64 x63.Body.Set.w2), (Value.int .u64 x63.Body.Set.w3), (Value.string (mkS x63.Body.Text)), (Value.slice x63.Body.Kids_a x63.Body.Kids_l x63.Body.Kids_c)]⟩, ⟨b9, 24, [rv55]⟩, ⟨b5, 24, [(Value.slice none 0 0)]⟩, ⟨b4, 24, [(Value.slice ga1 gl2 gc3)]⟩]) rfl
            replace hs := hs.chrs (rs' := [⟨rv55, 98, 8, rn56, rx57, true⟩, ⟨(Value.slice none 0 0), 98, 8, 0, [], true⟩]) rfl
            replace hs := hs.bback 2 (l' := [⟨b64, 98, [(Value.string (mkS x63.Name)), (Value.int .i64 x63.Body.Kind), (Value.int .u64 x63.Body.Set.w0), (Value.int .u64 x63.Body.Set.w1), (Value.int .u64 x63.Body.Set.w2), (Value.int .u64 x63.Body.Set.w3), (Value.string (mkS x63.Body.Text)), (Value.slice x63.Body.Kids_a x63.Body.Kids_l x63.Body.Kids_c)]⟩, ⟨b9, 24, [rv55]⟩, ⟨b8, 3, [(Value.int .i64 c67)]⟩, ⟨b5, 24, [(Value.slice none 0 0)]⟩, ⟨b4, 24, [(Value.slice ga1 gl2 gc3)]⟩]) rfl
            refine wpList_nil (⟨fun h => absurd h (by decide), ?_⟩)
            refine stepDE 7 rfl (wanted_none rfl) (by kernel_rfl) #[] ?_
            refine sP (X_api_Rule.mk x63.Name x65).val hs fun _ hs => ?_
            refine wpList_nil (⟨fun _ h => h, ?_⟩)
            refine stepDE 8 rfl (wanted_none rfl) (by kernel_rfl) #[] ?_
            refine stepMake ((X_api_Rule.mk x63.Name x65).cells) 98 8 1 hs rfl rfl rfl (fun _ => by kernel_rfl) rfl (by unfold maxLen; decide) (by decide) (fun _ _ rv68 hs => ?_)
            refine wpList_nil (⟨fun h => absurd h (by decide), ?_⟩)
            refine stepDE 9 rfl (wanted_none rfl) (by kernel_rfl) #[] ?_
            obtain ⟨ad69, cap70, hv, hcp, hxl⟩ := hs.rowform 0 rfl
            dsimp only at hv hcp hxl
            subst hv
            obtain ⟨hB, hS⟩ := hS
            refine stepAppend 1 ((X_api_Rule.mk x63.Name x65).cells) hs rfl rfl rfl rfl rfl (by kernel_rfl) (by kernel_rfl) (by decide) (by decide) (hs.srcRow 0 rfl rfl) (lenb hB (by decide)) hB (fun _ _ rv71 hs => ?_)
            replace hs := hs.chrs (rs' := [⟨(Value.slice ad69 1 cap70), 98, 8, 1, (X_api_Rule.mk x63.Name x65).cells, true⟩, ⟨rv71, 98, 8, (rn56 + 1), (rx57 ++ (X_api_Rule.mk x63.Name x65).cells), true⟩, ⟨(Value.slice none 0 0), 98, 8, 0, [], true⟩]) rfl
            refine wpList_nil (⟨fun h => absurd h (by decide), ?_⟩)
            refine stepDE 10 rfl (wanted_none rfl) (by kernel_rfl) #[] ?_
            refine sP (Value.pointer (some ⟨b9, 0, none⟩)) hs fun _ hs => ?_
            refine wpList_nil (⟨fun _ h => h, ?_⟩)
            refine stepDE 11 rfl (wanted_none rfl) (by kernel_rfl) #[] ?_
            obtain ⟨ad72, cap73, hv, hcp, hxl⟩ := hs.rowform 1 rfl
            dsimp only at hv hcp hxl
            subst hv
            refine stepStoreB 1 (vs := [(Value.slice ad72 (rn56 + 1) cap73)]) hs rfl rfl rfl rfl rfl rfl (by kernel_rfl) (Nat.le_of_ble_eq_true rfl) rfl (fun _ _ hs => ?_)
            replace hs := hs.chbx (bs' := [⟨b64, 98, [(Value.string (mkS x63.Name)), (Value.int .i64 x63.Body.Kind), (Value.int .u64 x63.Body.Set.w0), (Value.int .u64 x63.Body.Set.w1), (Value.int .u64 x63.Body.Set.w2), (Value.int .u64 x63.Body.Set.w3), (Value.string (mkS x63.Body.Text)), (Value.slice x63.Body.Kids_a x63.Body.Kids_l x63.Body.Kids_c)]⟩, ⟨b9, 24, [(Value.slice ad72 (rn56 + 1) cap73)]⟩, ⟨b8, 3, [(Value.int .i64 c67)]⟩, ⟨b5, 24, [(Value.slice none 0 0)]⟩, ⟨b4, 24, [(Value.slice ga1 gl2 gc3)]⟩]) rfl
            refine wpList_nil (⟨fun h => absurd h (by decide), ?_⟩)
            refine WpD.done (by kernel_rfl) ?_ _
            exact ⟨c67, (rn56 + 1), (rx57 ++ (X_api_Rule.mk x63.Name x65).cells), (Value.slice ad72 (rn56 + 1) cap73), M66, hMM, (hs.weak (.cons _ (.cons_cons _ (.cons_cons _ (.cons_cons _ (.cons_cons _ List.Sublist.slnil))))) (.cons _ (.cons_cons _ (.cons_cons _ List.Sublist.slnil))) ⟨rfl, rfl, rfl, rfl, rfl, rfl, trivial⟩), hS⟩
          · refine stepOne 6 rfl (wanted_none rfl) #[] ?_
            replace hs := hs.bfront 2 rfl rfl
            refine stepCallL [x63.Body.val, (Value.pointer (some ⟨b8, 0, none⟩))] [⟨b8, 3, [(Value.int .i64 c54)]⟩] [⟨b64, 98, [(Value.string (mkS x63.Name)), (Value.int .i64 x63.Body.Kind), (Value.int .u64 x63.Body.Set.w0), (Value.int .u64 x63.Body.Set.w1), (Value.int .u64 x63.Body.Set.w2), (Value.int .u64 x63.Body.Set.w3), (Value.string (mkS x63.Body.Text)), (Value.slice x63.Body.Kids_a x63.Body.Kids_l x63.Body.Kids_c)]⟩, ⟨b9, 24, [rv55]⟩, ⟨b5, 24, [(Value.slice none 0 0)]⟩, ⟨b4, 24, [(Value.slice ga1 gl2 gc3)]⟩] [] [⟨rv55, 98, 8, rn56, rx57, true⟩, ⟨(Value.slice none 0 0), 98, 8, 0, [], true⟩] true hs rfl rfl rfl rfl ⟨_, rfl, rfl⟩ rfl Try.func61 rfl (by kernel_rfl) (by decide) (hS _) (fun _ _ M66 v lb lr hle hnew hS hs => ?_)
            have hMM := hMM.next hle hnew
            replace hL := hL.trans hle
            obtain ⟨c67, hlb, hlr, hS⟩ := hS
            subst hlb hlr
            obtain ⟨x65, hv, hS⟩ := hS
            subst hv
            replace hs := hs.chbx (bs' := [⟨b8, 3, [(Value.int .i64 c67)]⟩, ⟨b64, 98, [(Value.string (mkS x63.Name)), (Value.int .i64 x63.Body.Kind), (Value.int .u64 x63.Body.Set.w0), (Value.int .u64 x63.Body.Set.w1), (Value.int .u64 x63.Body.Set.w2), (Value.int .u64 x63.Body.Set.w3), (Value.string (mkS x63.Body.Text)), (Value.slice x63.Body.Kids_a x63.Body.Kids_l x63.Body.Kids_c)]⟩, ⟨b9, 24, [rv55]⟩, ⟨b5, 24, [(Value.slice none 0 0)]⟩, ⟨b4, 24, [(Value.slice ga1 gl2 gc3)]⟩]) rfl
            replace hs := hs.chrs (rs' := [⟨rv55, 98, 8, rn56, rx57, true⟩, ⟨(Value.slice none 0 0), 98, 8, 0, [], true⟩]) rfl
            replace hs := hs.bback 2 (l' := [⟨b64, 98, [(Value.string (mkS x63.Name)), (Value.int .i64 x63.Body.Kind), (Value.int .u64 x63.Body.Set.w0), (Value.int .u64 x63.Body.Set.w1), (Value.int .u64 x63.Body.Set.w2), (Value.int .u64 x63.Body.Set.w3), (Value.string (mkS x63.Body.Text)), (Value.slice x63.Body.Kids_a x63.Body.Kids_l x63.Body.Kids_c)]⟩, ⟨b9, 24, [rv55]⟩, ⟨b8, 3, [(Value.int .i64 c67)]⟩, ⟨b5, 24, [(Value.slice none 0 0)]⟩, ⟨b4, 24, [(Value.slice ga1 gl2 gc3)]⟩]) rfl
            refine wpList_nil (⟨fun h => absurd h (by decide), ?_⟩)
            refine dP (X_api_Rule.mk x63.Name x65).val 7 [8, 9, 10, 11] hs QZ.no (wanted_none rfl) fun _ hs => ?_
            refine WpD.ors (by kernel_rfl : _ = [1, 8]) ⟨?_, ?_, trivial⟩
            · refine stepOne 1 rfl (wanted_none rfl) #[] ?_
              refine sY rv55 hs (Yl.loadB (vs := [rv55]) false 1 rfl rfl rfl (by kernel_rfl) rfl) fun _ hs => ?_
              refine wpList_nil (⟨fun _ h => h, ?_⟩)
              refine stepDE 8 rfl (wanted_none rfl) (by kernel_rfl) #[] ?_
              refine stepMake ((X_api_Rule.mk x63.Name x65).cells) 98 8 1 hs rfl rfl rfl (fun _ => by kernel_rfl) rfl (by unfold maxLen; decide) (by decide) (fun _ _ rv68 hs => ?_)
              refine wpList_nil (⟨fun h => absurd h (by decide), ?_⟩)
              refine stepDE 9 rfl (wanted_none rfl) (by kernel_rfl) #[] ?_
              obtain ⟨ad69, cap70, hv, hcp, hxl⟩ := hs.rowform 0 rfl
              dsimp only at hv hcp hxl
              subst hv
              obtain ⟨hB, hS⟩ := hS
              refine stepAppend 1 ((X_api_Rule.mk x63.Name x65).cells) hs rfl rfl rfl rfl rfl (by kernel_rfl) (by kernel_rfl) (by decide) (by decide) (hs.srcRow 0 rfl rfl) (lenb hB (by decide)) hB (fun _ _ rv71 hs => ?_)
              replace hs := hs.chrs (rs' := [⟨(Value.slice ad69 1 cap70), 98, 8, 1, (X_api_Rule.mk x63.Name x65).cells, true⟩, ⟨rv71, 98, 8, (rn56 + 1), (rx57 ++ (X_api_Rule.mk x63.Name x65).cells), true⟩, ⟨(Value.slice none 0 0), 98, 8, 0, [], true⟩]) rfl
              refine wpList_nil (⟨fun h => absurd h (by decide), ?_⟩)
              refine stepDE 10 rfl (wanted_none rfl) (by kernel_rfl) #[] ?_
              refine sP (Value.pointer (some ⟨b9, 0, none⟩)) hs fun _ hs => ?_
              refine wpList_nil (⟨fun _ h => h, ?_⟩)
              refine stepDE 11 rfl (wanted_none rfl) (by kernel_rfl) #[] ?_
              obtain ⟨ad72, cap73, hv, hcp, hxl⟩ := hs.rowform 1 rfl
              dsimp only at hv hcp hxl
              subst hv
              refine stepStoreB 1 (vs := [(Value.slice ad72 (rn56 + 1) cap73)]) hs rfl rfl rfl rfl rfl rfl (by kernel_rfl) (Nat.le_of_ble_eq_true rfl) rfl (fun _ _ hs => ?_)
              replace hs := hs.chbx (bs' := [⟨b64, 98, [(Value.string (mkS x63.Name)), (Value.int .i64 x63.Body.Kind), (Value.int .u64 x63.Body.Set.w0), (Value.int .u64 x63.Body.Set.w1), (Value.int .u64 x63.Body.Set.w2), (Value.int .u64 x63.Body.Set.w3), (Value.string (mkS x63.Body.Text)), (Value.slice x63.Body.Kids_a x63.Body.Kids_l x63.Body.Kids_c)]⟩, ⟨b9, 24, [(Value.slice ad72 (rn56 + 1) cap73)]⟩, ⟨b8, 3, [(Value.int .i64 c67)]⟩, ⟨b5, 24, [(Value.slice none 0 0)]⟩, ⟨b4, 24, [(Value.slice ga1 gl2 gc3)]⟩]) rfl
              refine wpList_nil (⟨fun h => absurd h (by decide), ?_⟩)
              refine WpD.done (by kernel_rfl) ?_ _
              exact ⟨c67, (rn56 + 1), (rx57 ++ (X_api_Rule.mk x63.Name x65).cells), (Value.slice ad72 (rn56 + 1) cap73), M66, hMM, (hs.weak (.cons _ (.cons_cons _ (.cons_cons _ (.cons_cons _ (.cons_cons _ List.Sublist.slnil))))) (.cons _ (.cons_cons _ (.cons_cons _ List.Sublist.slnil))) ⟨rfl, rfl, rfl, rfl, rfl, rfl, trivial⟩), hS⟩
            · refine stepOne 8 rfl (wanted_none rfl) #[] ?_
              refine stepMake ((X_api_Rule.mk x63.Name x65).cells) 98 8 1 hs rfl rfl rfl (fun _ => by kernel_rfl) rfl (by unfold maxLen; decide) (by decide) (fun _ _ rv68 hs => ?_)
              refine wpList_nil (⟨fun h => absurd h (by decide), ?_⟩)
              refine stepDE 1 rfl (wanted_none rfl) (by kernel_rfl) #[] ?_
              refine sY rv55 hs (Yl.loadB (vs := [rv55]) false 1 rfl rfl rfl (by kernel_rfl) rfl) fun _ hs => ?_
              refine wpList_nil (⟨fun _ h => h, ?_⟩)
              refine stepDE 9 rfl (wanted_none rfl) (by kernel_rfl) #[] ?_
              obtain ⟨ad69, cap70, hv, hcp, hxl⟩ := hs.rowform 0 rfl
              dsimp only at hv hcp hxl
              subst hv
              obtain ⟨hB, hS⟩ := hS
              refine stepAppend 1 ((X_api_Rule.mk x63.Name x65).cells) hs rfl rfl rfl rfl rfl (by kernel_rfl) (by kernel_rfl) (by decide) (by decide) (hs.srcRow 0 rfl rfl) (lenb hB (by decide)) hB (fun _ _ rv71 hs => ?_)
              replace hs := hs.chrs (rs' := [⟨(Value.slice ad69 1 cap70), 98, 8, 1, (X_api_Rule.mk x63.Name x65).cells, true⟩, ⟨rv71, 98, 8, (rn56 + 1), (rx57 ++ (X_api_Rule.mk x63.Name x65).cells), true⟩, ⟨(Value.slice none 0 0), 98, 8, 0, [], true⟩]) rfl
              refine wpList_nil (⟨fun h => absurd h (by decide), ?_⟩)
              refine stepDE 10 rfl (wanted_none rfl) (by kernel_rfl) #[] ?_
              refine sP (Value.pointer (some ⟨b9, 0, none⟩)) hs fun _ hs => ?_
              refine wpList_nil (⟨fun _ h => h, ?_⟩)
              refine stepDE 11 rfl (wanted_none rfl) (by kernel_rfl) #[] ?_
              obtain ⟨ad72, cap73, hv, hcp, hxl⟩ := hs.rowform 1 rfl
              dsimp only at hv hcp hxl
              subst hv
              refine stepStoreB 1 (vs := [(Value.slice ad72 (rn56 + 1) cap73)]) hs rfl rfl rfl rfl rfl rfl (by kernel_rfl) (Nat.le_of_ble_eq_true rfl) rfl (fun _ _ hs => ?_)
              replace hs := hs.chbx (bs' := [⟨b64, 98, [(Value.string (mkS x63.Name)), (Value.int .i64 x63.Body.Kind), (Value.int .u64 x63.Body.Set.w0), (Value.int .u64 x63.Body.Set.w1), (Value.int .u64 x63.Body.Set.w2), (Value.int .u64 x63.Body.Set.w3), (Value.string (mkS x63.Body.Text)), (Value.slice x63.Body.Kids_a x63.Body.Kids_l x63.Body.Kids_c)]⟩, ⟨b9, 24, [(Value.slice ad72 (rn56 + 1) cap73)]⟩, ⟨b8, 3, [(Value.int .i64 c67)]⟩, ⟨b5, 24, [(Value.slice none 0 0)]⟩, ⟨b4, 24, [(Value.slice ga1 gl2 gc3)]⟩]) rfl
              refine wpList_nil (⟨fun h => absurd h (by decide), ?_⟩)
              refine WpD.done (by kernel_rfl) ?_ _
              exact ⟨c67, (rn56 + 1), (rx57 ++ (X_api_Rule.mk x63.Name x65).cells), (Value.slice ad72 (rn56 + 1) cap73), M66, hMM, (hs.weak (.cons _ (.cons_cons _ (.cons_cons _ (.cons_cons _ (.cons_cons _ List.Sublist.slnil))))) (.cons _ (.cons_cons _ (.cons_cons _ List.Sublist.slnil))) ⟨rfl, rfl, rfl, rfl, rfl, rfl, trivial⟩), hS⟩
        · refine stepOne 6 rfl (wanted_none rfl) #[] ?_
          replace hs := hs.bfront 2 rfl rfl
          refine stepCallL [x63.Body.val, (Value.pointer (some ⟨b8, 0, none⟩))] [⟨b8, 3, [(Value.int .i64 c54)]⟩] [⟨b64, 98, [(Value.string (mkS x63.Name)), (Value.int .i64 x63.Body.Kind), (Value.int .u64 x63.Body.Set.w0), (Value.int .u64 x63.Body.Set.w1), (Value.int .u64 x63.Body.Set.w2), (Value.int .u64 x63.Body.Set.w3), (Value.string (mkS x63.Body.Text)), (Value.slice x63.Body.Kids_a x63.Body.Kids_l x63.Body.Kids_c)]⟩, ⟨b9, 24, [rv55]⟩, ⟨b5, 24, [(Value.slice none 0 0)]⟩, ⟨b4, 24, [(Value.slice ga1 gl2 gc3)]⟩] [] [⟨rv55, 98, 8, rn56, rx57, true⟩, ⟨(Value.slice none 0 0), 98, 8, 0, [], true⟩] true hs rfl rfl rfl rfl ⟨_, rfl, rfl⟩ rfl Try.func61 rfl (by kernel_rfl) (by decide) (hS _) (fun _ _ M66 v lb lr hle hnew hS hs => ?_)
          have hMM := hMM.next hle hnew
          replace hL := hL.trans hle
          obtain ⟨c67, hlb, hlr, hS⟩ := hS
          subst hlb hlr
          obtain ⟨x65, hv, hS⟩ := hS
          subst hv
          replace hs := hs.chbx (bs' := [⟨b8, 3, [(Value.int .i64 c67)]⟩, ⟨b64, 98, [(Value.string (mkS x63.Name)), (Value.int .i64 x63.Body.Kind), (Value.int .u64 x63.Body.Set.w0), (Value.int .u64 x63.Body.Set.w1), (Value.int .u64 x63.Body.Set.w2), (Value.int .u64 x63.Body.Set.w3), (Value.string (mkS x63.Body.Text)), (Value.slice x63.Body.Kids_a x63.Body.Kids_l x63.Body.Kids_c)]⟩, ⟨b9, 24, [rv55]⟩, ⟨b5, 24, [(Value.slice none 0 0)]⟩, ⟨b4, 24, [(Value.slice ga1 gl2 gc3)]⟩]) rfl
          replace hs := hs.chrs (rs' := [⟨rv55, 98, 8, rn56, rx57, true⟩, ⟨(Value.slice none 0 0), 98, 8, 0, [], true⟩]) rfl
          replace hs := hs.bback 2 (l' := [⟨b64, 98, [(Value.string (mkS x63.Name)), (Value.int .i64 x63.Body.Kind), (Value.int .u64 x63.Body.Set.w0), (Value.int .u64 x63.Body.Set.w1), (Value.int .u64 x63.Body.Set.w2), (Value.int .u64 x63.Body.Set.w3), (Value.string (mkS x63.Body.Text)), (Value.slice x63.Body.Kids_a x63.Body.Kids_l x63.Body.Kids_c)]⟩, ⟨b9, 24, [rv55]⟩, ⟨b8, 3, [(Value.int .i64 c67)]⟩, ⟨b5, 24, [(Value.slice none 0 0)]⟩, ⟨b4, 24, [(Value.slice ga1 gl2 gc3)]⟩]) rfl
          refine wpList_nil (⟨fun h => absurd h (by decide), ?_⟩)
          refine WpD.ors (by kernel_rfl : _ = [1, 3]) ⟨?_, ?_, trivial⟩
          · refine stepOne 1 rfl (wanted_none rfl) #[] ?_
            refine sY rv55 hs (Yl.loadB (vs := [rv55]) false 1 rfl rfl rfl (by kernel_rfl) rfl) fun _ hs => ?_
            refine wpList_nil (⟨fun _ h => h, ?_⟩)
            refine stepDE 3 rfl (wanted_none rfl) (by kernel_rfl) #[] ?_
            refine sY (Value.string (mkS x63.Name)) hs (Yl.loadB (vs := [(Value.string (mkS x63.Name))]) false 0 rfl rfl rfl (by kernel_rfl) rfl) fun _ hs => ?_
            refine wpList_nil (⟨fun _ h => h, ?_⟩)
            refine stepDE 7 rfl (wanted_none rfl) (by kernel_rfl) #[] ?_
            refine sP (X_api_Rule.mk x63.Name x65).val hs fun _ hs => ?_
            refine wpList_nil (⟨fun _ h => h, ?_⟩)
            refine stepDE 8 rfl (wanted_none rfl) (by kernel_rfl) #[] ?_
            refine stepMake ((X_api_Rule.mk x63.Name x65).cells) 98 8 1 hs rfl rfl rfl (fun _ => by kernel_rfl) rfl (by unfold maxLen; decide) (by decide) (fun _ _ rv68 hs => ?_)
            refine wpList_nil (⟨fun h => absurd h (by decide), ?_⟩)
            refine stepDE 9 rfl (wanted_none rfl) (by kernel_rfl) #[] ?_
            obtain ⟨ad69, cap70, hv, hcp, hxl⟩ := hs.rowform 0 rfl
            dsimp only at hv hcp hxl
            subst hv
            obtain ⟨hB, hS⟩ := hS
            refine stepAppend 1 ((X_api_Rule.mk x63.Name x65).cells) hs rfl rfl rfl rfl rfl (by kernel_rfl) (by kernel_rfl) (by decide) (by decide) (hs.srcRow 0 rfl rfl) (lenb hB (by decide)) hB (fun _ _ rv71 hs => ?_)
            replace hs := hs.chrs (rs' := [⟨(Value.slice ad69 1 cap70), 98, 8, 1, (X_api_Rule.mk x63.Name x65).cells, true⟩, ⟨rv71, 98, 8, (rn56 + 1), (rx57 ++ (X_api_Rule.mk x63.Name x65).cells), true⟩, ⟨(Value.slice none 0 0), 98, 8, 0, [], true⟩]) rfl
            refine wpList_nil (⟨fun h => absurd h (by decide), ?_⟩)
            refine stepDE 10 rfl (wanted_none rfl) (by kernel_rfl) #[] ?_
            refine sP (Value.pointer (some ⟨b9, 0, none⟩)) hs fun _ hs => ?_
            refine wpList_nil (⟨fun _ h => h, ?_⟩)
            refine stepDE 11 rfl (wanted_none rfl) (by kernel_rfl) #[] ?_
            obtain ⟨ad72, cap73, hv, hcp, hxl⟩ := hs.rowform 1 rfl
            dsimp only at hv hcp hxl
            subst hv
            refine stepStoreB 1 (vs := [(Value.slice ad72 (rn56 + 1) cap73)]) hs rfl rfl rfl rfl rfl rfl (by kernel_rfl) (Nat.le_of_ble_eq_true rfl) rfl (fun _ _ hs => ?_)
            replace hs := hs.chbx (bs' := [⟨b64, 98, [(Value.string (mkS x63.Name)), (Value.int .i64 x63.Body.Kind), (Value.int .u64 x63.Body.Set.w0), (Value.int .u64 x63.Body.Set.w1), (Value.int .u64 x63.Body.Set.w2), (Value.int .u64 x63.Body.Set.w3), (Value.string (mkS x63.Body.Text)), (Value.slice x63.Body.Kids_a x63.Body.Kids_l x63.Body.Kids_c)]⟩, ⟨b9, 24, [(Value.slice ad72 (rn56 + 1) cap73)]⟩, ⟨b8, 3, [(Value.int .i64 c67)]⟩, ⟨b5, 24, [(Value.slice none 0 0)]⟩, ⟨b4, 24, [(Value.slice ga1 gl2 gc3)]⟩]) rfl
            refine wpList_nil (⟨fun h => absurd h (by decide), ?_⟩)
            refine WpD.done (by kernel_rfl) ?_ _
            exact ⟨c67, (rn56 + 1), (rx57 ++ (X_api_Rule.mk x63.Name x65).cells), (Value.slice ad72 (rn56 + 1) cap73), M66, hMM, (hs.weak (.cons _ (.cons_cons _ (.cons_cons _ (.cons_cons _ (.cons_cons _ List.Sublist.slnil))))) (.cons _ (.cons_cons _ (.cons_cons _ List.Sublist.slnil))) ⟨rfl, rfl, rfl, rfl, rfl, rfl, trivial⟩), hS⟩
          · refine stepOne 3 rfl (wanted_none rfl) #[] ?_
            refine sY (Value.string (mkS x63.Name)) hs (Yl.loadB (vs := [(Value.string (mkS x63.Name))]) false 0 rfl rfl rfl (by kernel_rfl) rfl) fun _ hs => ?_
            refine wpList_nil (⟨fun _ h => h, ?_⟩)
            refine dP (X_api_Rule.mk x63.Name x65).val 7 [8, 9, 10, 11] hs QZ.no (wanted_none rfl) fun _ hs => ?_
            refine WpD.ors (by kernel_rfl : _ = [1, 8]) ⟨?_, ?_, trivial⟩
            · refine stepOne 1 rfl (wanted_none rfl) #[] ?_
              refine sY rv55 hs (Yl.loadB (vs := [rv55]) false 1 rfl rfl rfl (by kernel_rfl) rfl) fun _ hs => ?_
              refine wpList_nil (⟨fun _ h => h, ?_⟩)
              refine stepDE 8 rfl (wanted_none rfl) (by kernel_rfl) #[] ?_
              refine stepMake ((X_api_Rule.mk x63.Name x65).cells) 98 8 1 hs rfl rfl rfl (fun _ => by kernel_rfl) rfl (by unfold maxLen; decide) (by decide) (fun _ _ rv68 hs => ?_)
              refine wpList_nil (⟨fun h => absurd h (by decide), ?_⟩)
              refine stepDE 9 rfl (wanted_none rfl) (by kernel_rfl) #[] ?_
              obtain ⟨ad69, cap70, hv, hcp, hxl⟩ := hs.rowform 0 rfl
              dsimp only at hv hcp hxl
              subst hv
              obtain ⟨hB, hS⟩ := hS
              refine stepAppend 1 ((X_api_Rule.mk x63.Name x65).cells) hs rfl rfl rfl rfl rfl (by kernel_rfl) (by kernel_rfl) (by decide) (by decide) (hs.srcRow 0 rfl rfl) (lenb hB (by decide)) hB (fun _ _ rv71 hs => ?_)
              replace hs := hs.chrs (rs' := [⟨(Value.slice ad69 1 cap70), 98, 8, 1, (X_api_Rule.mk x63.Name x65).cells, true⟩, ⟨rv71, 98, 8, (rn56 + 1), (rx57 ++ (X_api_Rule.mk x63.Name x65).cells), true⟩, ⟨(Value.slice none 0 0), 98, 8, 0, [], true⟩]) rfl
              refine wpList_nil (⟨fun h => absurd h (by decide), ?_⟩)
              refine stepDE 10 rfl (wanted_none rfl) (by kernel_rfl) #[] ?_
              refine sP (Value.pointer (some ⟨b9, 0, none⟩)) hs fun _ hs => ?_
              refine wpList_nil (⟨fun _ h => h, ?_⟩)
              refine stepDE 11 rfl (wanted_none rfl) (by kernel_rfl) #[] ?_
              obtain ⟨ad72, cap73, hv, hcp, hxl⟩ := hs.rowform 1 rfl
              dsimp only at hv hcp hxl
              subst hv
              refine stepStoreB 1 (vs := [(Value.slice ad72 (rn56 + 1) cap73)]) hs rfl rfl rfl rfl rfl rfl (by kernel_rfl) (Nat.le_of_ble_eq_true rfl) rfl (fun _ _ hs => ?_)
              replace hs := hs.chbx (bs' := [⟨b64, 98, [(Value.string (mkS x63.Name)), (Value.int .i64 x63.Body.Kind), (Value.int .u64 x63.Body.Set.w0), (Value.int .u64 x63.Body.Set.w1), (Value.int .u64 x63.Body.Set.w2), (Value.int .u64 x63.Body.Set.w3), (Value.string (mkS x63.Body.Text)), (Value.slice x63.Body.Kids_a x63.Body.Kids_l x63.Body.Kids_c)]⟩, ⟨b9, 24, [(Value.slice ad72 (rn56 + 1) cap73)]⟩, ⟨b8, 3, [(Value.int .i64 c67)]⟩, ⟨b5, 24, [(Value.slice none 0 0)]⟩, ⟨b4, 24, [(Value.slice ga1 gl2 gc3)]⟩]) rfl
              refine wpList_nil (⟨fun h => absurd h (by decide), ?_⟩)
              refine WpD.done (by kernel_rfl) ?_ _
              exact ⟨c67, (rn56 + 1), (rx57 ++ (X_api_Rule.mk x63.Name x65).cells), (Value.slice ad72 (rn56 + 1) cap73), M66, hMM, (hs.weak (.cons _ (.cons_cons _ (.cons_cons _ (.cons_cons _ (.cons_cons _ List.Sublist.slnil))))) (.cons _ (.cons_cons _ (.cons_cons _ List.Sublist.slnil))) ⟨rfl, rfl, rfl, rfl, rfl, rfl, trivial⟩), hS⟩
            · refine stepOne 8 rfl (wanted_none rfl) #[] ?_
              refine stepMake ((X_api_Rule.mk x63.Name x65).cells) 98 8 1 hs rfl rfl rfl (fun _ => by kernel_rfl) rfl (by unfold maxLen; decide) (by decide) (fun _ _ rv68 hs => ?_)
              refine wpList_nil (⟨fun h => absurd h (by decide), ?_⟩)
              refine stepDE 1 rfl (wanted_none rfl) (by kernel_rfl) #[] ?_
              refine sY rv55 hs (Yl.loadB (vs := [rv55]) false 1 rfl rfl rfl (by kernel_rfl) rfl) fun _ hs => ?_
              refine wpList_nil (⟨fun _ h => h, ?_⟩)
              refine stepDE 9 rfl (wanted_none rfl) (by kernel_rfl) #[] ?_
              obtain ⟨ad69, cap70, hv, hcp, hxl⟩ := hs.rowform 0 rfl
              dsimp only at hv hcp hxl
              subst hv
              obtain ⟨hB, hS⟩ := hS
              refine stepAppend 1 ((X_api_Rule.mk x63.Name x65).cells) hs rfl rfl rfl rfl rfl (by kernel_rfl) (by kernel_rfl) (by decide) (by decide) (hs.srcRow 0 rfl rfl) (lenb hB (by decide)) hB (fun _ _ rv71 hs => ?_)
              replace hs := hs.chrs (rs' := [⟨(Value.slice ad69 1 cap70), 98, 8, 1, (X_api_Rule.mk x63.Name x65).cells, true⟩, ⟨rv71, 98, 8, (rn56 + 1), (rx57 ++ (X_api_Rule.mk x63.Name x65).cells), true⟩, ⟨(Value.slice none 0 0), 98, 8, 0, [], true⟩]) rfl
              refine wpList_nil (⟨fun h => absurd h (by decide), ?_⟩)
              refine stepDE 10 rfl (wanted_none rfl) (by kernel_rfl) #[] ?_
              refine sP (Value.pointer (some ⟨b9, 0, none⟩)) hs fun _ hs => ?_
              refine wpList_nil (⟨fun _ h => h, ?_⟩)
              refine stepDE 11 rfl (wanted_none rfl) (by kernel_rfl) #[] ?_
              obtain ⟨ad72, cap73, hv, hcp, hxl⟩ := hs.rowform 1 rfl
              dsimp only at hv hcp hxl
              subst hv
              refine stepStoreB 1 (vs := [(Value.slice ad72 (rn56 + 1) cap73)]) hs rfl rfl rfl rfl rfl rfl (by kernel_rfl) (Nat.le_of_ble_eq_true rfl) rfl (fun _ _ hs => ?_)
              replace hs := hs.chbx (bs' := [⟨b64, 98, [(Value.string (mkS x63.Name)), (Value.int .i64 x63.Body.Kind), (Value.int .u64 x63.Body.Set.w0), (Value.int .u64 x63.Body.Set.w1), (Value.int .u64 x63.Body.Set.w2), (Value.int .u64 x63.Body.Set.w3), (Value.string (mkS x63.Body.Text)), (Value.slice x63.Body.Kids_a x63.Body.Kids_l x63.Body.Kids_c)]⟩, ⟨b9, 24, [(Value.slice ad72 (rn56 + 1) cap73)]⟩, ⟨b8, 3, [(Value.int .i64 c67)]⟩, ⟨b5, 24, [(Value.slice none 0 0)]⟩, ⟨b4, 24, [(Value.slice ga1 gl2 gc3)]⟩]) rfl
              refine wpList_nil (⟨fun h => absurd h (by decide), ?_⟩)
              refine WpD.done (by kernel_rfl) ?_ _
              exact ⟨c67, (rn56 + 1), (rx57 ++ (X_api_Rule.mk x63.Name x65).cells), (Value.slice ad72 (rn56 + 1) cap73), M66, hMM, (hs.weak (.cons _ (.cons_cons _ (.cons_cons _ (.cons_cons _ (.cons_cons _ List.Sublist.slnil))))) (.cons _ (.cons_cons _ (.cons_cons _ List.Sublist.slnil))) ⟨rfl, rfl, rfl, rfl, rfl, rfl, trivial⟩), hS⟩
      · intro a w hJ
        obtain ⟨c74, rn76, rx77, rv75, M78, hMM, hs, hS⟩ := hJ
        unfold S_chaffref_KernelOf_J1 at hS
        refine Wp.region ?_
        obtain ⟨hI, hS⟩ := hS
        refine sY (Value.int .i64 (x53 + 1)) hs (Yl.eq (Yl.pure (v := Value.int .i64 (IntKind.wrap .i64 (x53 + 1))) rfl (fun _ => by kernel_rfl)) (congrArg (Value.int .i64) (wrap_in hI))) fun _ hs => ?_
        refine sP (Value.int .i64 (x53 + 1)) hs fun _ hs => ?_
        exact wpList_nil (⟨(x53 + 1, c74, rn76, rx77, rv75, M78), ⟨hMM, (hs.weak (List.Sublist.refl _) (List.Sublist.refl _) ⟨rfl, rfl, rfl, rfl, rfl, rfl, trivial⟩), hS.1⟩, hS.2⟩)
    · have hS := hS.2 hc
      refine Wp.exit rfl (Wp.seq (Wp.seq (Wp.region (sY (Value.int .i64 c54) hs (Yl.loadB (vs := [(Value.int .i64 c54)]) false 1 rfl rfl rfl (by kernel_rfl) rfl) fun _ hs => ?_))))
      refine sP (Value.bool (decide (c54 > 400))) hs fun _ hs => ?_
      refine wpList_nil (Wp.cond hs rfl rfl decide_eq_true_iff (fun hc => ?_) (fun hc => ?_))
      · have hS := hS.1 hc
        refine Wp.seq (Wp.region (sP (Value.agg #[(Value.slice none 0 0)]) hs fun _ hs => ?_))
        refine stepStoreB 2 (vs := [(Value.slice none 0 0)]) hs rfl rfl rfl rfl rfl rfl (by kernel_rfl) (Nat.le_of_ble_eq_true rfl) rfl (fun _ _ hs => ?_)
        replace hs := hs.chbx (bs' := [⟨b9, 24, [rv55]⟩, ⟨b8, 3, [(Value.int .i64 c54)]⟩, ⟨b5, 24, [(Value.slice none 0 0)]⟩, ⟨b4, 24, [(Value.slice ga1 gl2 gc3)]⟩]) rfl
        have hs := hs.nilrow 98 8
        refine sP (Value.int .i64 2) hs fun _ hs => ?_
        refine wpList_nil (Wp.ret ?_)
        obtain ⟨M79, hle, hsl, hnew, hs⟩ := hs.release 0 rfl [⟨rv55, 98, 8, rn56, rx57, true⟩, ⟨(Value.slice none 0 0), 98, 8, 0, [], true⟩] rfl
        have hMM := hMM.next hle hnew
        have hS := hS M79 hle hsl
        exact leaveE (K := K) hs (resCT (vs := [(Value.slice none 0 0)]) true 2 hs rfl rfl rfl (by kernel_rfl) rfl rfl) hMM.2 hS
      · have hS := hS.2 hc
        refine Wp.skip (Wp.seq (Wp.region (sY (Value.agg #[rv55]) hs (Yl.loadB (vs := [rv55]) true 0 rfl rfl rfl (by kernel_rfl) rfl) fun _ hs => ?_)))
        obtain ⟨ad80, cap81, hv, hcp, hxl⟩ := hs.rowform 0 rfl
        dsimp only at hv hcp hxl
        subst hv
        refine stepStoreB 2 (vs := [(Value.slice ad80 rn56 cap81)]) hs rfl rfl rfl rfl rfl rfl (by kernel_rfl) (Nat.le_of_ble_eq_true rfl) rfl (fun _ _ hs => ?_)
        replace hs := hs.chbx (bs' := [⟨b9, 24, [(Value.slice ad80 rn56 cap81)]⟩, ⟨b8, 3, [(Value.int .i64 c54)]⟩, ⟨b5, 24, [(Value.slice ad80 rn56 cap81)]⟩, ⟨b4, 24, [(Value.slice ga1 gl2 gc3)]⟩]) rfl
        refine sP (Value.int .i64 0) hs fun _ hs => ?_
        refine wpList_nil (Wp.ret ?_)
        obtain ⟨M82, hle, hsl, hnew, hs⟩ := hs.release 0 rfl [⟨(Value.slice none 0 0), 98, 8, 0, [], true⟩] rfl
        have hMM := hMM.next hle hnew
        have hS := hS M82 ad80 cap81 hle hsl
        exact leaveE (K := K) hs (resCT (vs := [(Value.slice ad80 rn56 cap81)]) true 2 hs rfl rfl rfl (by kernel_rfl) rfl rfl) hMM.2 hS
set_option linter.unusedVariables false in
def S_slices_EqualFunc_Rule (sa1 : Option Addr) (sl2 : Nat) (sc3 : Nat) (sa4 : Option Addr) (sl5 : Nat) (sc6 : Nat) (eq7 : Value) (M : Mem) (K : Value → Prop) : Prop :=
  ((((sl2 : Nat) : Int) ≠ ((sl5 : Nat) : Int) → K (Value.bool false)) ∧ (¬ (((sl2 : Nat) : Int) ≠ ((sl5 : Nat) : Int)) → (∃ (I19 : Int → Prop) (mu20 : Int → Nat), I19 0 ∧ ∀ (x18 : Int), (I19 x18 → ((x18 < ((sl2 : Nat) : Int) → (∃ (b21 o22 : Nat), sa1 = some ⟨b21, o22, none⟩ ∧ (0 : Int) ≤ x18 ∧ x18 < ((sl2 : Nat) : Int) ∧ (∃ (x23 : X_api_Rule), At M b21 (o22 + x18.toNat * 8) x23.cells ∧ (∃ (b25 o26 : Nat), sa4 = some ⟨b25, o26, none⟩ ∧ (0 : Int) ≤ x18 ∧ x18 < ((sl5 : Nat) : Int) ∧ (∃ (x27 : X_api_Rule), At M b25 (o26 + x18.toNat * 8) x27.cells ∧ (CallF Try.prog eq7 [x23.val, x27.val] M (fun v _ => ∃ (x29 : Bool), v = (Value.bool x29) ∧ ((¬ (x29 = true) → K (Value.bool false)) ∧ (¬ (¬ (x29 = true)) → (InI (x18 + 1) ∧ I19 (x18 + 1) ∧ mu20 (x18 + 1) < mu20 x18)))))))))) ∧ (¬ (x18 < ((sl2 : Nat) : Int)) → K (Value.bool true)))))))
set_option linter.unusedVariables false in
set_option maxRecDepth 100000 in
theorem s_slices_EqualFunc_Rule (sa1 : Option Addr) (sl2 : Nat) (sc3 : Nat) (sa4 : Option Addr) (sl5 : Nat) (sc6 : Nat) (eq7 : Value) (M : Mem) (K : Value → Prop) (hS : S_slices_EqualFunc_Rule sa1 sl2 sc3 sa4 sl5 sc6 eq7 M K) : CallE Try.prog 62 #[(Value.slice sa1 sl2 sc3), (Value.slice sa4 sl5 sc6), eq7] M (fun v _ => K v) := by
  refine enterE Try.func62 rfl 32 rfl (Nat.le_of_ble_eq_true rfl) (fun E a hs => ?_)
  unfold S_slices_EqualFunc_Rule at hS
  have hMM := MX.refl M E
  change Sx 32 E [] M E a [(0, (Value.slice sa1 sl2 sc3)), (1, (Value.slice sa4 sl5 sc6)), (2, eq7)] [] [] at hs
  refine Wp.seq (Wp.region (sP (Value.bool false) hs fun _ hs => ?_))
  refine wpList_nil (Wp.seq (Wp.seq (Wp.region (sP (Value.slice sa1 sl2 sc3) hs fun _ hs => ?_))))
  refine sP (Value.int .i64 ((sl2 : Nat) : Int)) hs fun _ hs => ?_
  refine sP (Value.slice sa4 sl5 sc6) hs fun _ hs => ?_
  refine sP (Value.int .i64 ((sl5 : Nat) : Int)) hs fun _ hs => ?_
  refine sP (Value.bool (((sl2 : Nat) : Int) != ((sl5 : Nat) : Int))) hs fun _ hs => ?_
  refine wpList_nil (Wp.cond hs rfl rfl bne_iff_ne (fun hc => ?_) (fun hc => ?_))
  · have hS := hS.1 hc
    refine Wp.seq (Wp.region (sP (Value.bool false) hs fun _ hs => ?_))
    exact wpList_nil (Wp.ret (leaveE (K := fun v _ => K v) hs (resT hs rfl rfl) hMM.2 (fun _ _ => hS)))
  · have hS := hS.2 hc
    refine Wp.skip (Wp.seq (Wp.seq (Wp.region (sP (Value.slice sa1 sl2 sc3) hs fun _ hs => ?_))))
    refine sP (Value.int .i64 ((sl2 : Nat) : Int)) hs fun _ hs => ?_
    refine sP (Value.int .i64 0) hs fun _ hs => ?_
    refine wpList_nil (Wp.block ?_)
    obtain ⟨I19, mu20, hI0, hst⟩ := hS
    refine Wp.loop (σ := (Int)) (fun s a w => match s with | (x18) => Sx 32 E [] M w a [(1, (Value.slice sa4 sl5 sc6)), (2, eq7), (15, (Value.slice sa1 sl2 sc3)), (16, (Value.int .i64 ((sl2 : Nat) : Int))), (17, (Value.int .i64 x18))] [] [] ∧ I19 x18) (fun s => match s with | (x18) => mu20 x18) (0) ⟨(hs.weak (List.Sublist.refl _) (List.Sublist.refl _) ⟨rfl, rfl, rfl, rfl, rfl, trivial⟩), hI0⟩ (fun x18 a w hI => ?_)
    obtain ⟨hs, hI⟩ := hI
    have hS := hst x18 hI
    clear hst hI0 hI
    refine Wp.seq (Wp.region (sP (Value.bool (decide (x18 < ((sl2 : Nat) : Int)))) hs fun _ hs => ?_))
    refine wpList_nil (Wp.seq (Wp.cond hs rfl rfl decide_eq_true_iff (fun hc => ?_) (fun hc => ?_)))
    · have hS := hS.1 hc
      refine Wp.skip (Wp.seq (Wp.block (Wp.seq (Wp.region (sP (Value.int .i64 x18) hs fun _ hs => ?_)))))
      obtain ⟨b21, o22, ha, h0, hl, hS⟩ := hS
      refine sY (Value.pointer (some ⟨b21, o22 + x18.toNat * 8, none⟩)) hs (Yl.indexS (e := 98) (sz := 8) rfl rfl rfl rfl (by kernel_rfl) (by kernel_rfl) ha h0 hl) fun _ hs => ?_
      obtain ⟨x23, hat, hS⟩ := hS
      refine sY x23.val hs (Yl.loadV (vs := x23.cells) true rfl rfl (by kernel_rfl) hat) fun _ hs => ?_
      refine stepAlloc [(Value.string (mkS [])), (Value.int .i64 0), (Value.int .u64 0), (Value.int .u64 0), (Value.int .u64 0), (Value.int .u64 0), (Value.string (mkS [])), (Value.slice none 0 0)] hs (by kernel_rfl) (by decide) (fun _ _ b24 hEb24 hs => ?_)
      refine sP (Value.int .i64 x18) hs fun _ hs => ?_
      refine stepStoreB 0 (vs := [(Value.string (mkS x23.Name)), (Value.int .i64 x23.Body.Kind), (Value.int .u64 x23.Body.Set.w0), (Value.int .u64 x23.Body.Set.w1), (Value.int .u64 x23.Body.Set.w2), (Value.int .u64 x23.Body.Set.w3), (Value.string (mkS x23.Body.Text)), (Value.slice x23.Body.Kids_a x23.Body.Kids_l x23.Body.Kids_c)]) hs rfl rfl rfl rfl rfl rfl (by kernel_rfl) (Nat.le_of_ble_eq_true rfl) rfl (fun _ _ hs => ?_)
      replace hs := hs.chbx (bs' := [⟨b24, 98, [(Value.string (mkS x23.Name)), (Value.int .i64 x23.Body.Kind), (Value.int .u64 x23.Body.Set.w0), (Value.int .u64 x23.Body.Set.w1), (Value.int .u64 x23.Body.Set.w2), (Value.int .u64 x23.Body.Set.w3), (Value.string (mkS x23.Body.Text)), (Value.slice x23.Body.Kids_a x23.Body.Kids_l x23.Body.Kids_c)]⟩]) rfl
      refine wpList_nil (Wp.seq (Wp.region (sP (Value.slice sa4 sl5 sc6) hs fun _ hs => ?_)))
      refine sP (Value.int .i64 x18) hs fun _ hs => ?_
      obtain ⟨b25, o26, ha, h0, hl, hS⟩ := hS
      refine sY (Value.pointer (some ⟨b25, o26 + x18.toNat * 8, none⟩)) hs (Yl.indexS (e := 98) (sz := 8) rfl rfl rfl rfl (by kernel_rfl) (by kernel_rfl) ha h0 hl) fun _ hs => ?_
      obtain ⟨x27, hat, hS⟩ := hS
      refine sY x27.val hs (Yl.loadV (vs := x27.cells) true rfl rfl (by kernel_rfl) hat) fun _ hs => ?_
      refine stepAlloc [(Value.string (mkS [])), (Value.int .i64 0), (Value.int .u64 0), (Value.int .u64 0), (Value.int .u64 0), (Value.int .u64 0), (Value.string (mkS [])), (Value.slice none 0 0)] hs (by kernel_rfl) (by decide) (fun _ _ b28 hEb28 hs => ?_)
      refine stepStoreB 0 (vs := [(Value.string (mkS x27.Name)), (Value.int .i64 x27.Body.Kind), (Value.int .u64 x27.Body.Set.w0), (Value.int .u64 x27.Body.Set.w1), (Value.int .u64 x27.Body.Set.w2), (Value.int .u64 x27.Body.Set.w3), (Value.string (mkS x27.Body.Text)), (Value.slice x27.Body.Kids_a x27.Body.Kids_l x27.Body.Kids_c)]) hs rfl rfl rfl rfl rfl rfl (by kernel_rfl) (Nat.le_of_ble_eq_true rfl) rfl (fun _ _ hs => ?_)
      replace hs := hs.chbx (bs' := [⟨b28, 98, [(Value.string (mkS x27.Name)), (Value.int .i64 x27.Body.Kind), (Value.int .u64 x27.Body.Set.w0), (Value.int .u64 x27.Body.Set.w1), (Value.int .u64 x27.Body.Set.w2), (Value.int .u64 x27.Body.Set.w3), (Value.string (mkS x27.Body.Text)), (Value.slice x27.Body.Kids_a x27.Body.Kids_l x27.Body.Kids_c)]⟩, ⟨b24, 98, [(Value.string (mkS x23.Name)), (Value.int .i64 x23.Body.Kind), (Value.int .u64 x23.Body.Set.w0), (Value.int .u64 x23.Body.Set.w1), (Value.int .u64 x23.Body.Set.w2), (Value.int .u64 x23.Body.Set.w3), (Value.string (mkS x23.Body.Text)), (Value.slice x23.Body.Kids_a x23.Body.Kids_l x23.Body.Kids_c)]⟩]) rfl
      refine wpList_nil (Wp.seq (Wp.region (sP eq7 hs fun _ hs => ?_)))
      refine sY x23.val hs (Yl.loadB (vs := x23.cells) true 1 rfl rfl rfl (by kernel_rfl) rfl) fun _ hs => ?_
      refine sY x27.val hs (Yl.loadB (vs := x27.cells) true 0 rfl rfl rfl (by kernel_rfl) rfl) fun _ hs => ?_
      refine stepCallG [x23.val, x27.val] hs rfl ⟨_, rfl, rfl⟩ rfl (by decide) hS (fun _ _ v hS hs => ?_)
      obtain ⟨x29, hv, hS⟩ := hS
      subst hv
      refine sP (Value.bool (!x29)) hs fun _ hs => ?_
      refine wpList_nil (Wp.cond hs rfl rfl (bnot_iff Iff.rfl) (fun hc => ?_) (fun hc => ?_))
      · have hS := hS.1 hc
        refine Wp.seq (Wp.region (sP (Value.bool false) hs fun _ hs => ?_))
        exact wpList_nil (Wp.ret (leaveE (K := fun v _ => K v) hs (resT hs rfl rfl) hMM.2 (fun _ _ => hS)))
      · have hS := hS.2 hc
        refine Wp.skip (Wp.region ?_)
        obtain ⟨hI, hS⟩ := hS
        refine sY (Value.int .i64 (x18 + 1)) hs (Yl.eq (Yl.pure (v := Value.int .i64 (IntKind.wrap .i64 (x18 + 1))) rfl (fun _ => by kernel_rfl)) (congrArg (Value.int .i64) (wrap_in hI))) fun _ hs => ?_
        refine sP (Value.int .i64 (x18 + 1)) hs fun _ hs => ?_
        exact wpList_nil (⟨(x18 + 1), ⟨(hs.weak (.cons _ (.cons _ List.Sublist.slnil)) (List.Sublist.refl _) ⟨rfl, rfl, rfl, rfl, rfl, trivial⟩), hS.1⟩, hS.2⟩)
    · have hS := hS.2 hc
      refine Wp.exit rfl (Wp.seq (Wp.region (sP (Value.bool true) hs fun _ hs => ?_)))
      exact wpList_nil (Wp.ret (leaveE (K := fun v _ => K v) hs (resT hs rfl rfl) hMM.2 (fun _ _ => hS)))
set_option linter.unusedVariables false in
def S_slices_EqualFunc_Expr (sa1 : Option Addr) (sl2 : Nat) (sc3 : Nat) (sa4 : Option Addr) (sl5 : Nat) (sc6 : Nat) (eq7 : Value) (M : Mem) (K : Value → Prop) : Prop :=
  ((((sl2 : Nat) : Int) ≠ ((sl5 : Nat) : Int) → K (Value.bool false)) ∧ (¬ (((sl2 : Nat) : Int) ≠ ((sl5 : Nat) : Int)) → (∃ (I19 : Int → Prop) (mu20 : Int → Nat), I19 0 ∧ ∀ (x18 : Int), (I19 x18 → ((x18 < ((sl2 : Nat) : Int) → (∃ (b21 o22 : Nat), sa1 = some ⟨b21, o22, none⟩ ∧ (0 : Int) ≤ x18 ∧ x18 < ((sl2 : Nat) : Int) ∧ (∃ (x23 : X_api_Expr), At M b21 (o22 + x18.toNat * 7) x23.cells ∧ (∃ (b25 o26 : Nat), sa4 = some ⟨b25, o26, none⟩ ∧ (0 : Int) ≤ x18 ∧ x18 < ((sl5 : Nat) : Int) ∧ (∃ (x27 : X_api_Expr), At M b25 (o26 + x18.toNat * 7) x27.cells ∧ (CallF Try.prog eq7 [x23.val, x27.val] M (fun v _ => ∃ (x29 : Bool), v = (Value.bool x29) ∧ ((¬ (x29 = true) → K (Value.bool false)) ∧ (¬ (¬ (x29 = true)) → (InI (x18 + 1) ∧ I19 (x18 + 1) ∧ mu20 (x18 + 1) < mu20 x18)))))))))) ∧ (¬ (x18 < ((sl2 : Nat) : Int)) → K (Value.bool true)))))))
set_option linter.unusedVariables false in
set_option maxRecDepth 100000 in
theorem s_slices_EqualFunc_Expr (sa1 : Option Addr) (sl2 : Nat) (sc3 : Nat) (sa4 : Option Addr) (sl5 : Nat) (sc6 : Nat) (eq7 : Value) (M : Mem) (K : Value → Prop) (hS : S_slices_EqualFunc_Expr sa1 sl2 sc3 sa4 sl5 sc6 eq7 M K) : CallE Try.prog 102 #[(Value.slice sa1 sl2 sc3), (Value.slice sa4 sl5 sc6), eq7] M (fun v _ => K v) := by
  refine enterE Try.func102 rfl 32 rfl (Nat.le_of_ble_eq_true rfl) (fun E a hs => ?_)
  unfold S_slices_EqualFunc_Expr at hS
  have hMM := MX.refl M E
  change Sx 32 E [] M E a [(0, (Value.slice sa1 sl2 sc3)), (1, (Value.slice sa4 sl5 sc6)), (2, eq7)] [] [] at hs
  refine Wp.seq (Wp.region (sP (Value.bool false) hs fun _ hs => ?_))
  refine wpList_nil (Wp.seq (Wp.seq (Wp.region (sP (Value.slice sa1 sl2 sc3) hs fun _ hs => ?_))))
  refine sP (Value.int .i64 ((sl2 : Nat) : Int)) hs fun _ hs => ?_
  refine sP (Value.slice sa4 sl5 sc6) hs fun _ hs => ?_
  refine sP (Value.int .i64 ((sl5 : Nat) : Int)) hs fun _ hs => ?_
  refine sP (Value.bool (((sl2 : Nat) : Int) != ((sl5 : Nat) : Int))) hs fun _ hs => ?_
  refine wpList_nil (Wp.cond hs rfl rfl bne_iff_ne (fun hc => ?_) (fun hc => ?_))
  · have hS := hS.1 hc
    refine Wp.seq (Wp.region (sP (Value.bool false) hs fun _ hs => ?_))
    exact wpList_nil (Wp.ret (leaveE (K := fun v _ => K v) hs (resT hs rfl rfl) hMM.2 (fun _ _ => hS)))
  · have hS := hS.2 hc
    refine Wp.skip (Wp.seq (Wp.seq (Wp.region (sP (Value.slice sa1 sl2 sc3) hs fun _ hs => ?_))))
    refine sP (Value.int .i64 ((sl2 : Nat) : Int)) hs fun _ hs => ?_
    refine sP (Value.int .i64 0) hs fun _ hs => ?_
    refine wpList_nil (Wp.block ?_)
    obtain ⟨I19, mu20, hI0, hst⟩ := hS
    refine Wp.loop (σ := (Int)) (fun s a w => match s with | (x18) => Sx 32 E [] M w a [(1, (Value.slice sa4 sl5 sc6)), (2, eq7), (15, (Value.slice sa1 sl2 sc3)), (16, (Value.int .i64 ((sl2 : Nat) : Int))), (17, (Value.int .i64 x18))] [] [] ∧ I19 x18) (fun s => match s with | (x18) => mu20 x18) (0) ⟨(hs.weak (List.Sublist.refl _) (List.Sublist.refl _) ⟨rfl, rfl, rfl, rfl, rfl, trivial⟩), hI0⟩ (fun x18 a w hI => ?_)
    obtain ⟨hs, hI⟩ := hI
    have hS := hst x18 hI
    clear hst hI0 hI
    refine Wp.seq (Wp.region (sP (Value.bool (decide (x18 < ((sl2 : Nat) : Int)))) hs fun _ hs => ?_))
    refine wpList_nil (Wp.seq (Wp.cond hs rfl rfl decide_eq_true_iff (fun hc => ?_) (fun hc => ?_)))
    · have hS := hS.1 hc
      refine Wp.skip (Wp.seq (Wp.block (Wp.seq (Wp.region (sP (Value.int .i64 x18) hs fun _ hs => ?_)))))
      obtain ⟨b21, o22, ha, h0, hl, hS⟩ := hS
      refine sY (Value.pointer (some ⟨b21, o22 + x18.toNat * 7, none⟩)) hs (Yl.indexS (e := 96) (sz := 7) rfl rfl rfl rfl (by kernel_rfl) (by kernel_rfl) ha h0 hl) fun _ hs => ?_
      obtain ⟨x23, hat, hS⟩ := hS
      refine sY x23.val hs (Yl.loadV (vs := x23.cells) true rfl rfl (by kernel_rfl) hat) fun _ hs => ?_
      refine stepAlloc [(Value.int .i64 0), (Value.int .u64 0), (Value.int .u64 0), (Value.int .u64 0), (Value.int .u64 0), (Value.string (mkS [])), (Value.slice none 0 0)] hs (by kernel_rfl) (by decide) (fun _ _ b24 hEb24 hs => ?_)
      have hs := hs.nilrow 96 7
      refine sP (Value.int .i64 x18) hs fun _ hs => ?_
      refine stepStoreB 0 (vs := [(Value.int .i64 x23.Kind), (Value.int .u64 x23.Set.w0), (Value.int .u64 x23.Set.w1), (Value.int .u64 x23.Set.w2), (Value.int .u64 x23.Set.w3), (Value.string (mkS x23.Text)), (Value.slice x23.Kids_a x23.Kids_l x23.Kids_c)]) hs rfl rfl rfl rfl rfl rfl (by kernel_rfl) (Nat.le_of_ble_eq_true rfl) rfl (fun _ _ hs => ?_)
      replace hs := hs.chbx (bs' := [⟨b24, 96, [(Value.int .i64 x23.Kind), (Value.int .u64 x23.Set.w0), (Value.int .u64 x23.Set.w1), (Value.int .u64 x23.Set.w2), (Value.int .u64 x23.Set.w3), (Value.string (mkS x23.Text)), (Value.slice x23.Kids_a x23.Kids_l x23.Kids_c)]⟩]) rfl
      refine wpList_nil (Wp.seq (Wp.region (sP (Value.slice sa4 sl5 sc6) hs fun _ hs => ?_)))
      refine sP (Value.int .i64 x18) hs fun _ hs => ?_
      obtain ⟨b25, o26, ha, h0, hl, hS⟩ := hS
      refine sY (Value.pointer (some ⟨b25, o26 + x18.toNat * 7, none⟩)) hs (Yl.indexS (e := 96) (sz := 7) rfl rfl rfl rfl (by kernel_rfl) (by kernel_rfl) ha h0 hl) fun _ hs => ?_
      obtain ⟨x27, hat, hS⟩ := hS
      refine sY x27.val hs (Yl.loadV (vs := x27.cells) true rfl rfl (by kernel_rfl) hat) fun _ hs => ?_
      refine stepAlloc [(Value.int .i64 0), (Value.int .u64 0), (Value.int .u64 0), (Value.int .u64 0), (Value.int .u64 0), (Value.string (mkS [])), (Value.slice none 0 0)] hs (by kernel_rfl) (by decide) (fun _ _ b28 hEb28 hs => ?_)
      have hs := hs.nilrow 96 7
      refine stepStoreB 0 (vs := [(Value.int .i64 x27.Kind), (Value.int .u64 x27.Set.w0), (Value.int .u64 x27.Set.w1), (Value.int .u64 x27.Set.w2), (Value.int .u64 x27.Set.w3), (Value.string (mkS x27.Text)), (Value.slice x27.Kids_a x27.Kids_l x27.Kids_c)]) hs rfl rfl rfl rfl rfl rfl (by kernel_rfl) (Nat.le_of_ble_eq_true rfl) rfl (fun _ _ hs => ?_)
      replace hs := hs.chbx (bs' := [⟨b28, 96, [(Value.int .i64 x27.Kind), (Value.int .u64 x27.Set.w0), (Value.int .u64 x27.Set.w1), (Value.int .u64 x27.Set.w2), (Value.int .u64 x27.Set.w3), (Value.string (mkS x27.Text)), (Value.slice x27.Kids_a x27.Kids_l x27.Kids_c)]⟩, ⟨b24, 96, [(Value.int .i64 x23.Kind), (Value.int .u64 x23.Set.w0), (Value.int .u64 x23.Set.w1), (Value.int .u64 x23.Set.w2), (Value.int .u64 x23.Set.w3), (Value.string (mkS x23.Text)), (Value.slice x23.Kids_a x23.Kids_l x23.Kids_c)]⟩]) rfl
      refine wpList_nil (Wp.seq (Wp.region (sP eq7 hs fun _ hs => ?_)))
      refine sY x23.val hs (Yl.loadB (vs := x23.cells) true 1 rfl rfl rfl (by kernel_rfl) rfl) fun _ hs => ?_
      refine sY x27.val hs (Yl.loadB (vs := x27.cells) true 0 rfl rfl rfl (by kernel_rfl) rfl) fun _ hs => ?_
      refine stepCallG [x23.val, x27.val] hs rfl ⟨_, rfl, rfl⟩ rfl (by decide) hS (fun _ _ v hS hs => ?_)
      obtain ⟨x29, hv, hS⟩ := hS
      subst hv
      refine sP (Value.bool (!x29)) hs fun _ hs => ?_
      refine wpList_nil (Wp.cond hs rfl rfl (bnot_iff Iff.rfl) (fun hc => ?_) (fun hc => ?_))
      · have hS := hS.1 hc
        refine Wp.seq (Wp.region (sP (Value.bool false) hs fun _ hs => ?_))
        exact wpList_nil (Wp.ret (leaveE (K := fun v _ => K v) hs (resT hs rfl rfl) hMM.2 (fun _ _ => hS)))
      · have hS := hS.2 hc
        refine Wp.skip (Wp.region ?_)
        obtain ⟨hI, hS⟩ := hS
        refine sY (Value.int .i64 (x18 + 1)) hs (Yl.eq (Yl.pure (v := Value.int .i64 (IntKind.wrap .i64 (x18 + 1))) rfl (fun _ => by kernel_rfl)) (congrArg (Value.int .i64) (wrap_in hI))) fun _ hs => ?_
        refine sP (Value.int .i64 (x18 + 1)) hs fun _ hs => ?_
        exact wpList_nil (⟨(x18 + 1), ⟨(hs.weak (.cons _ (.cons _ List.Sublist.slnil)) (.cons _ (.cons _ List.Sublist.slnil)) ⟨rfl, rfl, rfl, rfl, rfl, trivial⟩), hS.1⟩, hS.2⟩)
    · have hS := hS.2 hc
      refine Wp.exit rfl (Wp.seq (Wp.region (sP (Value.bool true) hs fun _ hs => ?_)))
      exact wpList_nil (Wp.ret (leaveE (K := fun v _ => K v) hs (resT hs rfl rfl) hMM.2 (fun _ _ => hS)))
set_option linter.unusedVariables false in
def S_chaffref_Same (a1 : X_api_Expr) (b2 : X_api_Expr) (M : Mem) (K : Value → Prop) : Prop :=
  (((a1.Kind : Int) = b2.Kind → (((cellsEq [a1.Set.w0, a1.Set.w1, a1.Set.w2, a1.Set.w3] [b2.Set.w0, b2.Set.w1, b2.Set.w2, b2.Set.w3]) = true → ((a1.Text = b2.Text → (CallE Try.prog 102 #[(Value.slice a1.Kids_a a1.Kids_l a1.Kids_c), (Value.slice b2.Kids_a b2.Kids_l b2.Kids_c), (Value.func (.func 64) #[] #[])] M (fun v _ => ∃ (x5 : Bool), v = (Value.bool x5) ∧ K (Value.bool x5)))) ∧ (¬ (a1.Text = b2.Text) → K (Value.bool false)))) ∧ (¬ ((cellsEq [a1.Set.w0, a1.Set.w1, a1.Set.w2, a1.Set.w3] [b2.Set.w0, b2.Set.w1, b2.Set.w2, b2.Set.w3]) = true) → K (Value.bool false)))) ∧ (¬ ((a1.Kind : Int) = b2.Kind) → K (Value.bool false)))
set_option linter.unusedVariables false in
set_option maxRecDepth 100000 in
theorem s_chaffref_Same (a1 : X_api_Expr) (b2 : X_api_Expr) (M : Mem) (K : Value → Prop) (hS : S_chaffref_Same a1 b2 M K) : CallE Try.prog 64 #[a1.val, b2.val] M (fun v _ => K v) := by
  refine enterE Try.func64 rfl 31 rfl (Nat.le_of_ble_eq_true rfl) (fun E a hs => ?_)
  unfold S_chaffref_Same at hS
  have hMM := MX.refl M E
  change Sx 31 E [] M E a [(0, a1.val), (1, b2.val)] [] [] at hs
  refine Wp.seq (Wp.region (stepBox [(Value.int .i64 a1.Kind), (Value.int .u64 a1.Set.w0), (Value.int .u64 a1.Set.w1), (Value.int .u64 a1.Set.w2), (Value.int .u64 a1.Set.w3), (Value.string (mkS a1.Text)), (Value.slice a1.Kids_a a1.Kids_l a1.Kids_c)] hs rfl rfl rfl (by decide) (fun _ _ b3 hEb3 hs => ?_)))
  refine stepBox [(Value.int .i64 b2.Kind), (Value.int .u64 b2.Set.w0), (Value.int .u64 b2.Set.w1), (Value.int .u64 b2.Set.w2), (Value.int .u64 b2.Set.w3), (Value.string (mkS b2.Text)), (Value.slice b2.Kids_a b2.Kids_l b2.Kids_c)] hs rfl rfl rfl (by decide) (fun _ _ b4 hEb4 hs => ?_)
  refine sP (Value.bool false) hs fun _ hs => ?_
  refine wpList_nil (Wp.seq (Wp.region (sP (Value.pointer (some ⟨b3, 0, none⟩)) hs fun _ hs => ?_)))
  refine sY (Value.int .i64 a1.Kind) hs (Yl.loadB (vs := [(Value.int .i64 a1.Kind)]) false 1 rfl rfl rfl (by kernel_rfl) rfl) fun _ hs => ?_
  refine sP (Value.pointer (some ⟨b4, 0, none⟩)) hs fun _ hs => ?_
  refine sY (Value.int .i64 b2.Kind) hs (Yl.loadB (vs := [(Value.int .i64 b2.Kind)]) false 0 rfl rfl rfl (by kernel_rfl) rfl) fun _ hs => ?_
  refine sP (Value.bool ((a1.Kind : Int) == (b2.Kind : Int))) hs fun _ hs => ?_
  refine sP (Value.bool ((a1.Kind : Int) == (b2.Kind : Int))) hs fun _ hs => ?_
  refine bsplit ((a1.Kind : Int) == (b2.Kind : Int)) beq_iff_eq (fun hb hc => ?_) (fun hb hc => ?_)
  · have hs := hs.bt hb
    have hS := hS.1 hc
    refine sYe hs (sP (Value.pointer (some ⟨b3, 1, none⟩)) hs fun _ hs => ?_)
    refine sYe hs (sY a1.Set.val hs (Yl.loadB (vs := a1.Set.cells) true 1 rfl rfl rfl (by kernel_rfl) rfl) fun _ hs => ?_)
    refine sYe hs (sP (Value.pointer (some ⟨b4, 1, none⟩)) hs fun _ hs => ?_)
    refine sYe hs (sY b2.Set.val hs (Yl.loadB (vs := b2.Set.cells) true 0 rfl rfl rfl (by kernel_rfl) rfl) fun _ hs => ?_)
    refine sYe hs (sY (Value.bool (cellsEq [a1.Set.w0, a1.Set.w1, a1.Set.w2, a1.Set.w3] [b2.Set.w0, b2.Set.w1, b2.Set.w2, b2.Set.w3])) hs (Yl.eqlA (n := 4) (e := 53) (k := .u64) (xs := [a1.Set.w0, a1.Set.w1, a1.Set.w2, a1.Set.w3]) (ys := [b2.Set.w0, b2.Set.w1, b2.Set.w2, b2.Set.w3]) rfl (by kernel_rfl) (by kernel_rfl) (by kernel_rfl) (by kernel_rfl) rfl rfl rfl rfl rfl rfl) fun _ hs => ?_)
    refine sP (Value.bool (cellsEq [a1.Set.w0, a1.Set.w1, a1.Set.w2, a1.Set.w3] [b2.Set.w0, b2.Set.w1, b2.Set.w2, b2.Set.w3])) hs fun _ hs => ?_
    refine sP (Value.bool (cellsEq [a1.Set.w0, a1.Set.w1, a1.Set.w2, a1.Set.w3] [b2.Set.w0, b2.Set.w1, b2.Set.w2, b2.Set.w3])) hs fun _ hs => ?_
    refine bsplit (cellsEq [a1.Set.w0, a1.Set.w1, a1.Set.w2, a1.Set.w3] [b2.Set.w0, b2.Set.w1, b2.Set.w2, b2.Set.w3]) Iff.rfl (fun hb hc => ?_) (fun hb hc => ?_)
    · have hs := hs.bt hb
      have hS := hS.1 hc
      refine sYe hs (sP (Value.pointer (some ⟨b3, 5, none⟩)) hs fun _ hs => ?_)
      refine sYe hs (sY (Value.string (mkS a1.Text)) hs (Yl.loadB (vs := [(Value.string (mkS a1.Text))]) false 1 rfl rfl rfl (by kernel_rfl) rfl) fun _ hs => ?_)
      refine sYe hs (sP (Value.pointer (some ⟨b4, 5, none⟩)) hs fun _ hs => ?_)
      refine sYe hs (sY (Value.string (mkS b2.Text)) hs (Yl.loadB (vs := [(Value.string (mkS b2.Text))]) false 0 rfl rfl rfl (by kernel_rfl) rfl) fun _ hs => ?_)
      refine sYe hs (sP (Value.bool ((mkS a1.Text).toList == (mkS b2.Text).toList)) hs fun _ hs => ?_)
      refine sP (Value.bool ((mkS a1.Text).toList == (mkS b2.Text).toList)) hs fun _ hs => ?_
      refine sP (Value.bool ((mkS a1.Text).toList == (mkS b2.Text).toList)) hs fun _ hs => ?_
      refine bsplit ((mkS a1.Text).toList == (mkS b2.Text).toList) mkS_beq (fun hb hc => ?_) (fun hb hc => ?_)
      · have hs := hs.bt hb
        have hS := hS.1 hc
        refine sYe hs (sP (Value.pointer (some ⟨b3, 6, none⟩)) hs fun _ hs => ?_)
        refine sYe hs (sY (Value.slice a1.Kids_a a1.Kids_l a1.Kids_c) hs (Yl.loadB (vs := [(Value.slice a1.Kids_a a1.Kids_l a1.Kids_c)]) false 1 rfl rfl rfl (by kernel_rfl) rfl) fun _ hs => ?_)
        refine sYe hs (sP (Value.pointer (some ⟨b4, 6, none⟩)) hs fun _ hs => ?_)
        refine sYe hs (sY (Value.slice b2.Kids_a b2.Kids_l b2.Kids_c) hs (Yl.loadB (vs := [(Value.slice b2.Kids_a b2.Kids_l b2.Kids_c)]) false 0 rfl rfl rfl (by kernel_rfl) rfl) fun _ hs => ?_)
        refine sYe hs (stepCallP [(Value.slice a1.Kids_a a1.Kids_l a1.Kids_c), (Value.slice b2.Kids_a b2.Kids_l b2.Kids_c), (Value.func (.func 64) #[] #[])] hs rfl ⟨_, rfl, rfl⟩ rfl Try.func102 rfl (by kernel_rfl) (by decide) hS (fun _ _ v hS hs => ?_))
        obtain ⟨x5, hv, hS⟩ := hS
        subst hv
        refine sP (Value.bool x5) hs fun _ hs => ?_
        refine sP (Value.bool x5) hs fun _ hs => ?_
        exact wpList_nil (Wp.ret (leaveE (K := fun v _ => K v) hs (resT hs rfl rfl) hMM.2 (fun _ _ => hS)))
      · have hs := hs.bf hb
        have hS := hS.2 hc
        refine sNo hs fun _ hs => ?_
        refine sNo hs fun _ hs => ?_
        refine sNo hs fun _ hs => ?_
        refine sNo hs fun _ hs => ?_
        refine sNo hs fun _ hs => ?_
        refine sP (Value.bool false) hs fun _ hs => ?_
        refine sP (Value.bool false) hs fun _ hs => ?_
        exact wpList_nil (Wp.ret (leaveE (K := fun v _ => K v) hs (resT hs rfl rfl) hMM.2 (fun _ _ => hS)))
    · have hs := hs.bf hb
      have hS := hS.2 hc
      refine sNo hs fun _ hs => ?_
      refine sNo hs fun _ hs => ?_
      refine sNo hs fun _ hs => ?_
      refine sNo hs fun _ hs => ?_
      refine sNo hs fun _ hs => ?_
      refine sP (Value.bool false) hs fun _ hs => ?_
      refine sP (Value.bool false) hs fun _ hs => ?_
      refine sNo hs fun _ hs => ?_
      refine sNo hs fun _ hs => ?_
      refine sNo hs fun _ hs => ?_
      refine sNo hs fun _ hs => ?_
      refine sNo hs fun _ hs => ?_
      refine sP (Value.bool false) hs fun _ hs => ?_
      refine sP (Value.bool false) hs fun _ hs => ?_
      exact wpList_nil (Wp.ret (leaveE (K := fun v _ => K v) hs (resT hs rfl rfl) hMM.2 (fun _ _ => hS)))
  · have hs := hs.bf hb
    have hS := hS.2 hc
    refine sNo hs fun _ hs => ?_
    refine sNo hs fun _ hs => ?_
    refine sNo hs fun _ hs => ?_
    refine sNo hs fun _ hs => ?_
    refine sNo hs fun _ hs => ?_
    refine sP (Value.bool false) hs fun _ hs => ?_
    refine sP (Value.bool false) hs fun _ hs => ?_
    refine sNo hs fun _ hs => ?_
    refine sNo hs fun _ hs => ?_
    refine sNo hs fun _ hs => ?_
    refine sNo hs fun _ hs => ?_
    refine sNo hs fun _ hs => ?_
    refine sP (Value.bool false) hs fun _ hs => ?_
    refine sP (Value.bool false) hs fun _ hs => ?_
    refine sNo hs fun _ hs => ?_
    refine sNo hs fun _ hs => ?_
    refine sNo hs fun _ hs => ?_
    refine sNo hs fun _ hs => ?_
    refine sNo hs fun _ hs => ?_
    refine sP (Value.bool false) hs fun _ hs => ?_
    refine sP (Value.bool false) hs fun _ hs => ?_
    exact wpList_nil (Wp.ret (leaveE (K := fun v _ => K v) hs (resT hs rfl rfl) hMM.2 (fun _ _ => hS)))
theorem f_chaffref_Same (a1 : X_api_Expr) (b2 : X_api_Expr) (M : Mem) (K : Value → Prop) (hS : S_chaffref_Same a1 b2 M K) : CallF Try.prog (Value.func (.func 64) #[] #[]) [a1.val, b2.val] M (fun v _ => K v) := ⟨64, _, _, _, rfl, Try.func64, rfl, (by decide), s_chaffref_Same _ _ _ _ hS⟩
set_option linter.unusedVariables false in
def S_chaffref_SameGrammar_1 (a1 : X_api_Rule) (b2 : X_api_Rule) (M : Mem) (K : Value → Prop) : Prop :=
  ((a1.Name = b2.Name → (CallE Try.prog 64 #[a1.Body.val, b2.Body.val] M (fun v _ => ∃ (x5 : Bool), v = (Value.bool x5) ∧ K (Value.bool x5)))) ∧ (¬ (a1.Name = b2.Name) → K (Value.bool false)))
set_option linter.unusedVariables false in
set_option maxRecDepth 100000 in
theorem s_chaffref_SameGrammar_1 (a1 : X_api_Rule) (b2 : X_api_Rule) (M : Mem) (K : Value → Prop) (hS : S_chaffref_SameGrammar_1 a1 b2 M K) : CallE Try.prog 63 #[a1.val, b2.val] M (fun v _ => K v) := by
  refine enterE Try.func63 rfl 17 rfl (Nat.le_of_ble_eq_true rfl) (fun E a hs => ?_)
  unfold S_chaffref_SameGrammar_1 at hS
  have hMM := MX.refl M E
  change Sx 17 E [] M E a [(0, a1.val), (1, b2.val)] [] [] at hs
  refine Wp.seq (Wp.region (stepBox [(Value.string (mkS a1.Name)), (Value.int .i64 a1.Body.Kind), (Value.int .u64 a1.Body.Set.w0), (Value.int .u64 a1.Body.Set.w1), (Value.int .u64 a1.Body.Set.w2), (Value.int .u64 a1.Body.Set.w3), (Value.string (mkS a1.Body.Text)), (Value.slice a1.Body.Kids_a a1.Body.Kids_l a1.Body.Kids_c)] hs rfl rfl rfl (by decide) (fun _ _ b3 hEb3 hs => ?_)))
  refine stepBox [(Value.string (mkS b2.Name)), (Value.int .i64 b2.Body.Kind), (Value.int .u64 b2.Body.Set.w0), (Value.int .u64 b2.Body.Set.w1), (Value.int .u64 b2.Body.Set.w2), (Value.int .u64 b2.Body.Set.w3), (Value.string (mkS b2.Body.Text)), (Value.slice b2.Body.Kids_a b2.Body.Kids_l b2.Body.Kids_c)] hs rfl rfl rfl (by decide) (fun _ _ b4 hEb4 hs => ?_)
  refine sP (Value.bool false) hs fun _ hs => ?_
  refine wpList_nil (Wp.seq (Wp.region (sP (Value.pointer (some ⟨b3, 0, none⟩)) hs fun _ hs => ?_)))
  refine sY (Value.string (mkS a1.Name)) hs (Yl.loadB (vs := [(Value.string (mkS a1.Name))]) false 1 rfl rfl rfl (by kernel_rfl) rfl) fun _ hs => ?_
  refine sP (Value.pointer (some ⟨b4, 0, none⟩)) hs fun _ hs => ?_
  refine sY (Value.string (mkS b2.Name)) hs (Yl.loadB (vs := [(Value.string (mkS b2.Name))]) false 0 rfl rfl rfl (by kernel_rfl) rfl) fun _ hs => ?_
  refine sP (Value.bool ((mkS a1.Name).toList == (mkS b2.Name).toList)) hs fun _ hs => ?_
  refine sP (Value.bool ((mkS a1.Name).toList == (mkS b2.Name).toList)) hs fun _ hs => ?_
  refine bsplit ((mkS a1.Name).toList == (mkS b2.Name).toList) mkS_beq (fun hb hc => ?_) (fun hb hc => ?_)
  · have hs := hs.bt hb
    have hS := hS.1 hc
    refine sYe hs (sP (Value.pointer (some ⟨b3, 1, none⟩)) hs fun _ hs => ?_)
    refine sYe hs (sY a1.Body.val hs (Yl.loadB (vs := a1.Body.cells) true 1 rfl rfl rfl (by kernel_rfl) rfl) fun _ hs => ?_)
    refine sYe hs (sP (Value.pointer (some ⟨b4, 1, none⟩)) hs fun _ hs => ?_)
    refine sYe hs (sY b2.Body.val hs (Yl.loadB (vs := b2.Body.cells) true 0 rfl rfl rfl (by kernel_rfl) rfl) fun _ hs => ?_)
    refine sYe hs (stepCallP [a1.Body.val, b2.Body.val] hs rfl ⟨_, rfl, rfl⟩ rfl Try.func64 rfl (by kernel_rfl) (by decide) hS (fun _ _ v hS hs => ?_))
    obtain ⟨x5, hv, hS⟩ := hS
    subst hv
    refine sP (Value.bool x5) hs fun _ hs => ?_
    refine sP (Value.bool x5) hs fun _ hs => ?_
    exact wpList_nil (Wp.ret (leaveE (K := fun v _ => K v) hs (resT hs rfl rfl) hMM.2 (fun _ _ => hS)))
  · have hs := hs.bf hb
    have hS := hS.2 hc
    refine sNo hs fun _ hs => ?_
    refine sNo hs fun _ hs => ?_
    refine sNo hs fun _ hs => ?_
    refine sNo hs fun _ hs => ?_
    refine sNo hs fun _ hs => ?_
    refine sP (Value.bool false) hs fun _ hs => ?_
    refine sP (Value.bool false) hs fun _ hs => ?_
    exact wpList_nil (Wp.ret (leaveE (K := fun v _ => K v) hs (resT hs rfl rfl) hMM.2 (fun _ _ => hS)))
theorem f_chaffref_SameGrammar_1 (a1 : X_api_Rule) (b2 : X_api_Rule) (M : Mem) (K : Value → Prop) (hS : S_chaffref_SameGrammar_1 a1 b2 M K) : CallF Try.prog (Value.func (.func 63) #[] #[]) [a1.val, b2.val] M (fun v _ => K v) := ⟨63, _, _, _, rfl, Try.func63, rfl, (by decide), s_chaffref_SameGrammar_1 _ _ _ _ hS⟩
set_option linter.unusedVariables false in
def S_chaffref_SameGrammar (ga1 : Option Addr) (gl2 : Nat) (gc3 : Nat) (ha4 : Option Addr) (hl5 : Nat) (hc6 : Nat) (M : Mem) (K : Value → Prop) : Prop :=
  (CallE Try.prog 62 #[(Value.slice ga1 gl2 gc3), (Value.slice ha4 hl5 hc6), (Value.func (.func 63) #[] #[])] M (fun v _ => ∃ (x9 : Bool), v = (Value.bool x9) ∧ K (Value.bool x9)))
set_option linter.unusedVariables false in
set_option maxRecDepth 100000 in
theorem s_chaffref_SameGrammar (ga1 : Option Addr) (gl2 : Nat) (gc3 : Nat) (ha4 : Option Addr) (hl5 : Nat) (hc6 : Nat) (M : Mem) (K : Value → Prop) (hS : S_chaffref_SameGrammar ga1 gl2 gc3 ha4 hl5 hc6 M K) : CallE Try.prog 23 #[(Value.agg #[(Value.slice ga1 gl2 gc3)]), (Value.agg #[(Value.slice ha4 hl5 hc6)])] M (fun v _ => K v) := by
  refine enterE Try.func23 rfl 10 rfl (Nat.le_of_ble_eq_true rfl) (fun E a hs => ?_)
  unfold S_chaffref_SameGrammar at hS
  have hMM := MX.refl M E
  change Sx 10 E [] M E a [(0, (Value.agg #[(Value.slice ga1 gl2 gc3)])), (1, (Value.agg #[(Value.slice ha4 hl5 hc6)]))] [] [] at hs
  refine Wp.seq (Wp.region (stepBox [(Value.slice ga1 gl2 gc3)] hs rfl rfl rfl (by decide) (fun _ _ b7 hEb7 hs => ?_)))
  refine stepBox [(Value.slice ha4 hl5 hc6)] hs rfl rfl rfl (by decide) (fun _ _ b8 hEb8 hs => ?_)
  refine sP (Value.bool false) hs fun _ hs => ?_
  refine wpList_nil (Wp.seq (Wp.region (sP (Value.pointer (some ⟨b7, 0, none⟩)) hs fun _ hs => ?_)))
  refine sY (Value.slice ga1 gl2 gc3) hs (Yl.loadB (vs := [(Value.slice ga1 gl2 gc3)]) false 1 rfl rfl rfl (by kernel_rfl) rfl) fun _ hs => ?_
  refine sP (Value.pointer (some ⟨b8, 0, none⟩)) hs fun _ hs => ?_
  refine sY (Value.slice ha4 hl5 hc6) hs (Yl.loadB (vs := [(Value.slice ha4 hl5 hc6)]) false 0 rfl rfl rfl (by kernel_rfl) rfl) fun _ hs => ?_
  refine stepCallP [(Value.slice ga1 gl2 gc3), (Value.slice ha4 hl5 hc6), (Value.func (.func 63) #[] #[])] hs rfl ⟨_, rfl, rfl⟩ rfl Try.func62 rfl (by kernel_rfl) (by decide) hS (fun _ _ v hS hs => ?_)
  obtain ⟨x9, hv, hS⟩ := hS
  subst hv
  refine sP (Value.bool x9) hs fun _ hs => ?_
  exact wpList_nil (Wp.ret (leaveE (K := fun v _ => K v) hs (resT hs rfl rfl) hMM.2 (fun _ _ => hS)))

end Go.Proofs.Ytaljnkggjadonaa.core
