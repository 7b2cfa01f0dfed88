/- What the code computes, function for function, as shallow propositions; printed by program. -/
import Derived.Test.YtaljnkggjadonaaWellG
import Derived.Test.YtaljnkggjadonaaSetMG
namespace Go.Proofs.Ytaljnkggjadonaa.core
open Go.Gx Go.RowKit Go.ChangeShapes Go.WideShapes Go.ChangeAt
set_option linter.unusedVariables false in
def S_well_Empty (ga1 : Option Addr) (gl2 : Nat) (gc3 : Nat) (fa4 : Option Addr) (fl5 : Nat) (fc6 : Nat) (e7 : X_api_Expr) (M : Mem) (K : Value → Prop) : Prop :=
  (CallE Try.prog 105 #[(Value.agg #[(Value.slice ga1 gl2 gc3)]), (Value.slice fa4 fl5 fc6), e7.val] M (fun v _ => ∃ (x10 : X_api_Facts), v = x10.val ∧ K (Value.bool x10.Empty)))
set_option linter.unusedVariables false in
set_option maxRecDepth 100000 in
theorem s_well_Empty (ga1 : Option Addr) (gl2 : Nat) (gc3 : Nat) (fa4 : Option Addr) (fl5 : Nat) (fc6 : Nat) (e7 : X_api_Expr) (M : Mem) (K : Value → Prop) (hS : S_well_Empty ga1 gl2 gc3 fa4 fl5 fc6 e7 M K) : CallE Try.prog 111 #[(Value.agg #[(Value.slice ga1 gl2 gc3)]), (Value.slice fa4 fl5 fc6), e7.val] M (fun v _ => K v) := by
  refine enterE Try.func111 rfl 12 rfl (Nat.le_of_ble_eq_true rfl) (fun E a hs => ?_)
  unfold S_well_Empty at hS
  have hMM := MX.refl M E
  change Sx 12 E [] M E a [(0, (Value.agg #[(Value.slice ga1 gl2 gc3)])), (1, (Value.slice fa4 fl5 fc6)), (2, e7.val)] [] [] at hs
  refine Wp.seq (Wp.region (stepBox [(Value.slice ga1 gl2 gc3)] hs rfl rfl rfl (by decide) (fun _ _ b8 hEb8 hs => ?_)))
  refine stepBox [(Value.int .i64 e7.Kind), (Value.int .u64 e7.Set.w0), (Value.int .u64 e7.Set.w1), (Value.int .u64 e7.Set.w2), (Value.int .u64 e7.Set.w3), (Value.string (mkS e7.Text)), (Value.slice e7.Kids_a e7.Kids_l e7.Kids_c)] hs rfl rfl rfl (by decide) (fun _ _ b9 hEb9 hs => ?_)
  refine sP (Value.bool false) hs fun _ hs => ?_
  refine wpList_nil (Wp.seq (Wp.region (sY (Value.agg #[(Value.slice ga1 gl2 gc3)]) hs (Yl.loadB (vs := [(Value.slice ga1 gl2 gc3)]) true 1 rfl rfl rfl (by kernel_rfl) rfl) fun _ hs => ?_)))
  refine sP (Value.slice fa4 fl5 fc6) hs fun _ hs => ?_
  refine sY e7.val hs (Yl.loadB (vs := e7.cells) true 0 rfl rfl rfl (by kernel_rfl) rfl) fun _ hs => ?_
  refine stepCallP [(Value.agg #[(Value.slice ga1 gl2 gc3)]), (Value.slice fa4 fl5 fc6), e7.val] hs rfl ⟨_, rfl, rfl⟩ rfl Try.func105 rfl (by kernel_rfl) (by decide) hS (fun _ _ v hS hs => ?_)
  obtain ⟨x10, hv, hS⟩ := hS
  subst hv
  refine sP (Value.bool x10.Empty) hs fun _ hs => ?_
  refine sP (Value.bool x10.Empty) hs fun _ hs => ?_
  exact wpList_nil (Wp.ret (leaveE (K := fun v _ => K v) hs (resT hs rfl rfl) hMM.2 (fun _ _ => hS)))
set_option linter.unusedVariables false in
def S_first_finder_of_J4 (c114 : Int) (c115 : Int) (c116 : Int) (c117 : Int) (M118 : Mem) (K : Value → Mem → Prop) : Prop :=
  (∀ M', M118.le M' → K (X_api_Set.mk c114 c115 c116 c117).val M')
set_option linter.unusedVariables false in
def S_first_finder_of_J3 (x79 : Int) (c80 : Int) (c81 : Int) (c82 : Int) (c83 : Int) (G87 : Type) (gh88 : G87) (I85 : G87 → Int → Int → Int → Int → Int → Mem → Prop) (mu86 : G87 → Int → Int → Int → Int → Int → Nat) (c97 : Int) (c98 : Int) (c99 : Int) (c100 : Int) (M101 : Mem) (x113 : Bool) (K : Value → Mem → Prop) : Prop :=
  ((x113 = true → (S_first_finder_of_J4 c97 c98 c99 c100 M101 K)) ∧ (¬ (x113 = true) → (InI (x79 + 1) ∧ ∃ (gh : G87), I85 gh (x79 + 1) c97 c98 c99 c100 M101 ∧ mu86 gh (x79 + 1) c97 c98 c99 c100 < mu86 gh88 x79 c80 c81 c82 c83)))
set_option linter.unusedVariables false in
def S_first_finder_of_J2 (x1 : Option Addr) (e2 : X_api_Expr) (x79 : Int) (c80 : Int) (c81 : Int) (c82 : Int) (c83 : Int) (G87 : Type) (gh88 : G87) (I85 : G87 → Int → Int → Int → Int → Int → Mem → Prop) (mu86 : G87 → Int → Int → Int → Int → Int → Nat) (x92 : X_api_Expr) (c97 : Int) (c98 : Int) (c99 : Int) (c100 : Int) (M101 : Mem) (K : Value → Mem → Prop) : Prop :=
  (((e2.Kind : Int) = 5 → (∃ (b102 o103 : Nat), x1 = some ⟨b102, o103, none⟩ ∧ (∃ (xa104 : Option Addr) (xl105 : Nat) (xc106 : Nat), At M101 b102 o103 [(Value.slice xa104 xl105 xc106)] ∧ (∃ (b107 o108 : Nat), x1 = some ⟨b107, o108, none⟩ ∧ (∃ (xa109 : Option Addr) (xl110 : Nat) (xc111 : Nat), At M101 b107 (o108 + 1) [(Value.slice xa109 xl110 xc111)] ∧ (CallE Try.prog 111 #[(Value.agg #[(Value.slice xa104 xl105 xc106)]), (Value.slice xa109 xl110 xc111), x92.val] M101 (fun v _ => ∃ (x112 : Bool), v = (Value.bool x112) ∧ (S_first_finder_of_J3 x79 c80 c81 c82 c83 G87 gh88 I85 mu86 c97 c98 c99 c100 M101 (!x112) K)))))))) ∧ (¬ ((e2.Kind : Int) = 5) → (S_first_finder_of_J3 x79 c80 c81 c82 c83 G87 gh88 I85 mu86 c97 c98 c99 c100 M101 false K)))
set_option linter.unusedVariables false in
def S_first_finder_of_J1 (x1 : Option Addr) (e2 : X_api_Expr) (M : Mem) (L : Nat → Prop) (x23 : Bool) (K : Value → Mem → Prop) : Prop :=
  ((x23 = true → (∀ M', M.le M' → K (X_api_Set.mk 0 0 0 0).val M')) ∧ (¬ (x23 = true) → (∃ (G87 : Type) (I85 : G87 → Int → Int → Int → Int → Int → Mem → Prop) (mu86 : G87 → Int → Int → Int → Int → Int → Nat) (gz89 : G87), I85 gz89 0 0 0 0 0 M ∧ ∀ (gh88 : G87) (x79 : Int) (c80 : Int) (c81 : Int) (c82 : Int) (c83 : Int) (M84 : Mem), (I85 gh88 x79 c80 c81 c82 c83 M84 → ((x79 < ((e2.Kids_l : Nat) : Int) → (∃ (b90 o91 : Nat), e2.Kids_a = some ⟨b90, o91, none⟩ ∧ (0 : Int) ≤ x79 ∧ x79 < ((e2.Kids_l : Nat) : Int) ∧ (∃ (x92 : X_api_Expr), At M84 b90 (o91 + x79.toNat * 7) x92.cells ∧ (CallW Try.prog 74 #[(Value.pointer x1), x92.val] M84 (Wr L M) (fun v M95 => ∃ (x94 : X_api_Set), v = x94.val ∧ (CallE Try.prog 110 #[(X_api_Set.mk c80 c81 c82 c83).val, x94.val] M95 (fun v _ => ∃ (x96 : X_api_Set), v = x96.val ∧ (S_first_finder_of_J2 x1 e2 x79 c80 c81 c82 c83 G87 gh88 I85 mu86 x92 x96.w0 x96.w1 x96.w2 x96.w3 M95 K)))))))) ∧ (¬ (x79 < ((e2.Kids_l : Nat) : Int)) → (S_first_finder_of_J4 c80 c81 c82 c83 M84 K)))))))
set_option linter.unusedVariables false in
def S_first_finder_of (x1 : Option Addr) (e2 : X_api_Expr) (M : Mem) (L : Nat → Prop) (K : Value → Mem → Prop) : Prop :=
  (((e2.Kind : Int) = 2 → (∀ M', M.le M' → K e2.Set.val M')) ∧ (¬ ((e2.Kind : Int) = 2) → (((e2.Kind : Int) = 3 → (∃ c6 : UInt8, (0 : Int) ≤ 0 ∧ e2.Text[(0 : Int).toNat]? = some c6 ∧ (∃ c7 : UInt8, (0 : Int) ≤ 0 ∧ e2.Text[(0 : Int).toNat]? = some c7 ∧ (CallE Try.prog 109 #[(Value.int .i64 (IntKind.wrap .i64 (c6.toNat : Int))), (Value.int .i64 (IntKind.wrap .i64 (c7.toNat : Int)))] M (fun v _ => ∃ (x8 : X_api_Set), v = x8.val ∧ (∀ M', M.le M' → K x8.val M')))))) ∧ (¬ ((e2.Kind : Int) = 3) → (((e2.Kind : Int) = 4 → (∃ (b9 o10 : Nat), x1 = some ⟨b9, o10, none⟩ ∧ (∃ (xa11 : Option Addr) (xl12 : Nat) (xc13 : Nat), At M b9 (o10 + 2) [(Value.slice xa11 xl12 xc13)] ∧ (∃ (b14 o15 : Nat), x1 = some ⟨b14, o15, none⟩ ∧ (∃ (xa16 : Option Addr) (xl17 : Nat) (xc18 : Nat), At M b14 o15 [(Value.slice xa16 xl17 xc18)] ∧ (CallE Try.prog 53 #[(Value.agg #[(Value.slice xa16 xl17 xc18)]), (Value.string (mkS e2.Text))] M (fun v _ => ∃ (x19 : Int), v = (Value.int .i64 x19) ∧ (∃ (b20 o21 : Nat), xa11 = some ⟨b20, o21, none⟩ ∧ (0 : Int) ≤ x19 ∧ x19 < ((xl12 : Nat) : Int) ∧ (∃ (x22 : X_api_Set), At M b20 (o21 + x19.toNat * 4) x22.cells ∧ (∀ M', M.le M' → K x22.val M')))))))))) ∧ (¬ ((e2.Kind : Int) = 4) → (((e2.Kind : Int) = 10 → (S_first_finder_of_J1 x1 e2 M L ((e2.Kind : Int) == (10 : Int)) K)) ∧ (¬ ((e2.Kind : Int) = 10) → (S_first_finder_of_J1 x1 e2 M L ((e2.Kind : Int) == (11 : Int)) K)))))))))
set_option linter.unusedVariables false in
set_option maxRecDepth 100000 in
theorem s_first_finder_of (x1 : Option Addr) (e2 : X_api_Expr) (M : Mem) (L : Nat → Prop) (K : Value → Mem → Prop) (hS : S_first_finder_of x1 e2 M L K) : CallW Try.prog 74 #[(Value.pointer x1), e2.val] M L K := by
  refine enterW Try.func74 rfl 74 rfl (Nat.le_of_ble_eq_true rfl) (fun E a hs => ?_)
  unfold S_first_finder_of at hS
  have hMM := WX.refl M E
  change Sx 74 E (bwW E M L) M E a [(0, (Value.pointer x1)), (1, e2.val)] [] [] at hs
  refine Wp.seq (Wp.region (stepBox [(Value.int .i64 e2.Kind), (Value.int .u64 e2.Set.w0), (Value.int .u64 e2.Set.w1), (Value.int .u64 e2.Set.w2), (Value.int .u64 e2.Set.w3), (Value.string (mkS e2.Text)), (Value.slice e2.Kids_a e2.Kids_l e2.Kids_c)] hs rfl rfl rfl (by decide) (fun _ _ b3 hEb3 hs => ?_)))
  refine stepAlloc [(Value.int .u64 0), (Value.int .u64 0), (Value.int .u64 0), (Value.int .u64 0)] hs (by kernel_rfl) (by decide) (fun _ _ b4 hEb4 hs => ?_)
  refine wpList_nil (Wp.seq (Wp.region (stepAlloc [(Value.int .u64 0), (Value.int .u64 0), (Value.int .u64 0), (Value.int .u64 0)] hs (by kernel_rfl) (by decide) (fun _ _ b5 hEb5 hs => ?_))))
  refine wpList_nil (Wp.seq (Wp.seq (Wp.region (sP (Value.pointer (some ⟨b3, 0, none⟩)) hs fun _ hs => ?_))))
  refine sY (Value.int .i64 e2.Kind) hs (Yl.loadB (vs := [(Value.int .i64 e2.Kind)]) false 2 rfl rfl rfl (by kernel_rfl) rfl) fun _ hs => ?_
  refine wpList_nil (Wp.block (Wp.seq (Wp.region (sP (Value.bool ((e2.Kind : Int) == (2 : Int))) hs fun _ hs => ?_))))
  refine sP (Value.bool ((e2.Kind : Int) == (2 : Int))) hs fun _ hs => ?_
  refine wpList_nil (Wp.cond hs rfl rfl beq_iff_eq (fun hc => ?_) (fun hc => ?_))
  · have hS := hS.1 hc
    refine Wp.seq (Wp.region (sP (Value.pointer (some ⟨b3, 1, none⟩)) hs fun _ hs => ?_))
    refine sY e2.Set.val hs (Yl.loadB (vs := e2.Set.cells) true 2 rfl rfl rfl (by kernel_rfl) rfl) fun _ hs => ?_
    refine stepStoreB 1 (vs := [(Value.int .u64 e2.Set.w0), (Value.int .u64 e2.Set.w1), (Value.int .u64 e2.Set.w2), (Value.int .u64 e2.Set.w3)]) hs rfl rfl rfl rfl rfl rfl (by kernel_rfl) (Nat.le_of_ble_eq_true rfl) rfl (fun _ _ hs => ?_)
    replace hs := hs.chbx (bs' := [⟨b5, 55, [(Value.int .u64 0), (Value.int .u64 0), (Value.int .u64 0), (Value.int .u64 0)]⟩, ⟨b4, 55, [(Value.int .u64 e2.Set.w0), (Value.int .u64 e2.Set.w1), (Value.int .u64 e2.Set.w2), (Value.int .u64 e2.Set.w3)]⟩, ⟨b3, 96, [(Value.int .i64 e2.Kind), (Value.int .u64 e2.Set.w0), (Value.int .u64 e2.Set.w1), (Value.int .u64 e2.Set.w2), (Value.int .u64 e2.Set.w3), (Value.string (mkS e2.Text)), (Value.slice e2.Kids_a e2.Kids_l e2.Kids_c)]⟩]) rfl
    exact wpList_nil (Wp.ret (leaveW (K := K) hs (resC (vs := [(Value.int .u64 e2.Set.w0), (Value.int .u64 e2.Set.w1), (Value.int .u64 e2.Set.w2), (Value.int .u64 e2.Set.w3)]) true 1 hs rfl rfl rfl (by kernel_rfl) rfl) hMM hS))
  · have hS := hS.2 hc
    refine Wp.seq (Wp.region (sP (Value.bool ((e2.Kind : Int) == (3 : Int))) hs fun _ hs => ?_))
    refine sP (Value.bool ((e2.Kind : Int) == (3 : Int))) hs fun _ hs => ?_
    refine wpList_nil (Wp.cond hs rfl rfl beq_iff_eq (fun hc => ?_) (fun hc => ?_))
    · have hS := hS.1 hc
      refine Wp.seq (Wp.regionD [true, true, true, true, true, true, true, true, false, false] hs (by kernel_rfl) rfl [⟨b5, 55, [(Value.int .u64 0), (Value.int .u64 0), (Value.int .u64 0), (Value.int .u64 0)]⟩, ⟨b4, 55, [(Value.int .u64 0), (Value.int .u64 0), (Value.int .u64 0), (Value.int .u64 0)]⟩, ⟨b3, 96, [(Value.int .i64 e2.Kind), (Value.int .u64 e2.Set.w0), (Value.int .u64 e2.Set.w1), (Value.int .u64 e2.Set.w2), (Value.int .u64 e2.Set.w3), (Value.string (mkS e2.Text)), (Value.slice e2.Kids_a e2.Kids_l e2.Kids_c)]⟩] (fun _ h => h) [] (fun _ h => h) (fun _ hs hC => ?_))
      have hL := Mem.le.refl M
      refine dP (Value.pointer (some ⟨b3, 5, none⟩)) 0 [1, 2, 3, 8, 9] hs QZ.no (wanted_none rfl) fun _ hs => ?_
      refine stepDY (v := (Value.string (mkS e2.Text))) 1 [2, 3, 8, 9] hs hC QZ.no rfl (wanted_none rfl) rfl (by decide) (by kernel_rfl) (by kernel_rfl) (by kernel_rfl) (Yl.loadB (vs := [(Value.string (mkS e2.Text))]) false 2 rfl rfl rfl (by kernel_rfl) rfl) (fun _ hs => ?_)
      obtain ⟨c6, h0, hi, hS⟩ := hS
      refine stepDP (v := (Value.int .u8 (c6.toNat : Int))) 2 [3, 8, 9] hs QZ.no rfl (wanted_none rfl) rfl (by decide) (by kernel_rfl) (by kernel_rfl) (by kernel_rfl) (Yl.indexStr rfl rfl rfl rfl (by kernel_rfl) h0 hi) (fun _ hs => ?_)
      refine dP (Value.int .i64 (IntKind.wrap .i64 (c6.toNat : Int))) 3 [8, 9] hs QZ.no (wanted_none rfl) fun _ hs => ?_
      refine stepDE 4 rfl (wanted_none rfl) (by kernel_rfl) #[] ?_
      refine sP (Value.pointer (some ⟨b3, 5, none⟩)) hs fun _ hs => ?_
      refine wpList_nil (⟨fun _ h => h, ?_⟩)
      refine stepDE 5 rfl (wanted_none rfl) (by kernel_rfl) #[] ?_
      refine sY (Value.string (mkS e2.Text)) hs (Yl.loadB (vs := [(Value.string (mkS e2.Text))]) false 2 rfl rfl rfl (by kernel_rfl) rfl) fun _ hs => ?_
      refine wpList_nil (⟨fun _ h => h, ?_⟩)
      refine stepDE 6 rfl (wanted_none rfl) (by kernel_rfl) #[] ?_
      obtain ⟨c7, h0, hi, hS⟩ := hS
      refine sY (Value.int .u8 (c7.toNat : Int)) hs (Yl.indexStr rfl rfl rfl rfl (by kernel_rfl) h0 hi) fun _ hs => ?_
      refine wpList_nil (⟨fun _ h => h, ?_⟩)
      refine stepDE 7 rfl (wanted_none rfl) (by kernel_rfl) #[] ?_
      refine sP (Value.int .i64 (IntKind.wrap .i64 (c7.toNat : Int))) hs fun _ hs => ?_
      refine wpList_nil (⟨fun _ h => h, ?_⟩)
      refine stepDE 8 rfl (wanted_none rfl) (by kernel_rfl) #[] ?_
      refine stepCallP [(Value.int .i64 (IntKind.wrap .i64 (c6.toNat : Int))), (Value.int .i64 (IntKind.wrap .i64 (c7.toNat : Int)))] hs rfl ⟨_, rfl, rfl⟩ rfl Try.func109 rfl (by kernel_rfl) (by decide) hS (fun _ _ v hS hs => ?_)
      obtain ⟨x8, hv, hS⟩ := hS
      subst hv
      refine wpList_nil (⟨fun h => absurd h (by decide), ?_⟩)
      refine stepDE 9 rfl (wanted_none rfl) (by kernel_rfl) #[] ?_
      refine stepStoreB 1 (vs := [(Value.int .u64 x8.w0), (Value.int .u64 x8.w1), (Value.int .u64 x8.w2), (Value.int .u64 x8.w3)]) hs rfl rfl rfl rfl rfl rfl (by kernel_rfl) (Nat.le_of_ble_eq_true rfl) rfl (fun _ _ hs => ?_)
      replace hs := hs.chbx (bs' := [⟨b5, 55, [(Value.int .u64 0), (Value.int .u64 0), (Value.int .u64 0), (Value.int .u64 0)]⟩, ⟨b4, 55, [(Value.int .u64 x8.w0), (Value.int .u64 x8.w1), (Value.int .u64 x8.w2), (Value.int .u64 x8.w3)]⟩, ⟨b3, 96, [(Value.int .i64 e2.Kind), (Value.int .u64 e2.Set.w0), (Value.int .u64 e2.Set.w1), (Value.int .u64 e2.Set.w2), (Value.int .u64 e2.Set.w3), (Value.string (mkS e2.Text)), (Value.slice e2.Kids_a e2.Kids_l e2.Kids_c)]⟩]) rfl
      refine wpList_nil (⟨fun h => absurd h (by decide), ?_⟩)
      refine WpD.done (by kernel_rfl) ?_ _
      exact Wp.ret (leaveW (K := K) hs (resC (vs := [(Value.int .u64 x8.w0), (Value.int .u64 x8.w1), (Value.int .u64 x8.w2), (Value.int .u64 x8.w3)]) true 1 hs rfl rfl rfl (by kernel_rfl) rfl) hMM hS)
    · have hS := hS.2 hc
      refine Wp.seq (Wp.region (sP (Value.bool ((e2.Kind : Int) == (4 : Int))) hs fun _ hs => ?_))
      refine sP (Value.bool ((e2.Kind : Int) == (4 : Int))) hs fun _ hs => ?_
      refine wpList_nil (Wp.cond hs rfl rfl beq_iff_eq (fun hc => ?_) (fun hc => ?_))
      · have hS := hS.1 hc
        refine Wp.seq (Wp.regionD [true, true, true, true, true, true, true, true, true, true, true, true, true, true] hs (by kernel_rfl) rfl [⟨b5, 55, [(Value.int .u64 0), (Value.int .u64 0), (Value.int .u64 0), (Value.int .u64 0)]⟩, ⟨b3, 96, [(Value.int .i64 e2.Kind), (Value.int .u64 e2.Set.w0), (Value.int .u64 e2.Set.w1), (Value.int .u64 e2.Set.w2), (Value.int .u64 e2.Set.w3), (Value.string (mkS e2.Text)), (Value.slice e2.Kids_a e2.Kids_l e2.Kids_c)]⟩] (fun _ h => ((.cons_cons _ (.cons _ (.cons_cons _ List.Sublist.slnil))) : List.Sublist _ _).subset h) [] (fun _ h => ((List.Sublist.refl _) : List.Sublist _ _).subset h) (fun _ hs hC => ?_))
        have hL := Mem.le.refl M
        refine dP (Value.pointer x1) 0 [1, 2, 3, 11, 12, 13] hs QZ.no (wanted_none rfl) fun _ hs => ?_
        obtain ⟨b9, o10, hp, hS⟩ := hS
        refine stepDP (v := (Value.pointer (some ⟨b9, o10, none⟩))) 1 [2, 3, 11, 12, 13] hs QZ.no rfl (wanted_none rfl) rfl (by decide) (by kernel_rfl) (by kernel_rfl) (by kernel_rfl) (Yl.nilck rfl rfl hp) (fun _ hs => ?_)
        refine dP (Value.pointer (some ⟨b9, o10 + 2, none⟩)) 2 [3, 11, 12, 13] hs QZ.no (wanted_none rfl) fun _ hs => ?_
        obtain ⟨xa11, xl12, xc13, hat, hS⟩ := hS
        refine stepDY (v := (Value.slice xa11 xl12 xc13)) 3 [11, 12, 13] hs hC QZ.no rfl (wanted_none rfl) rfl (by decide) (by kernel_rfl) (by kernel_rfl) (by kernel_rfl) (Yl.loadV (vs := [(Value.slice xa11 xl12 xc13)]) false rfl rfl (by kernel_rfl) hat) (fun _ hs => ?_)
        refine dP (Value.pointer x1) 4 [5, 6, 7, 10, 11, 12, 13] hs QZ.no (wanted_none rfl) fun _ hs => ?_
        obtain ⟨b14, o15, hp, hS⟩ := hS
        refine stepDP (v := (Value.pointer (some ⟨b14, o15, none⟩))) 5 [6, 7, 10, 11, 12, 13] hs QZ.no rfl (wanted_none rfl) rfl (by decide) (by kernel_rfl) (by kernel_rfl) (by kernel_rfl) (Yl.nilck rfl rfl hp) (fun _ hs => ?_)
        refine dP (Value.pointer (some ⟨b14, o15, none⟩)) 6 [7, 10, 11, 12, 13] hs QZ.no (wanted_none rfl) fun _ hs => ?_
        obtain ⟨xa16, xl17, xc18, hat, hS⟩ := hS
        refine stepDY (v := (Value.agg #[(Value.slice xa16 xl17 xc18)])) 7 [10, 11, 12, 13] hs hC QZ.no rfl (wanted_none rfl) rfl (by decide) (by kernel_rfl) (by kernel_rfl) (by kernel_rfl) (Yl.loadV (vs := [(Value.slice xa16 xl17 xc18)]) true rfl rfl (by kernel_rfl) hat) (fun _ hs => ?_)
        refine stepDE 8 rfl (wanted_none rfl) (by kernel_rfl) #[] ?_
        refine sP (Value.pointer (some ⟨b3, 5, none⟩)) hs fun _ hs => ?_
        refine wpList_nil (⟨fun _ h => h, ?_⟩)
        refine stepDE 9 rfl (wanted_none rfl) (by kernel_rfl) #[] ?_
        refine sY (Value.string (mkS e2.Text)) hs (Yl.loadB (vs := [(Value.string (mkS e2.Text))]) false 2 rfl rfl rfl (by kernel_rfl) rfl) fun _ hs => ?_
        refine wpList_nil (⟨fun _ h => h, ?_⟩)
        refine stepDE 10 rfl (wanted_none rfl) (by kernel_rfl) #[] ?_
        refine stepCallP [(Value.agg #[(Value.slice xa16 xl17 xc18)]), (Value.string (mkS e2.Text))] hs rfl ⟨_, rfl, rfl⟩ rfl Try.func53 rfl (by kernel_rfl) (by decide) hS (fun _ _ v hS hs => ?_)
        obtain ⟨x19, hv, hS⟩ := hS
        subst hv
        refine wpList_nil (⟨fun _ _ => hs.cxle hL (.cons_cons _ (.cons _ (.cons_cons _ List.Sublist.slnil))) (List.Sublist.refl _), ?_⟩)
        have hC := hs.cxle hL (.cons_cons _ (.cons _ (.cons_cons _ List.Sublist.slnil))) (List.Sublist.refl _)
        refine stepDE 11 rfl (wanted_none rfl) (by kernel_rfl) #[] ?_
        obtain ⟨b20, o21, ha, h0, hl, hS⟩ := hS
        refine sY (Value.pointer (some ⟨b20, o21 + x19.toNat * 4, none⟩)) hs (Yl.indexS (e := 55) (sz := 4) rfl rfl rfl rfl (by kernel_rfl) (by kernel_rfl) ha h0 hl) fun _ hs => ?_
        refine wpList_nil (⟨fun _ h => h, ?_⟩)
        refine stepDE 12 rfl (wanted_none rfl) (by kernel_rfl) #[] ?_
        obtain ⟨x22, hat, hS⟩ := hS
        refine sY x22.val hs (Yl.loadV (vs := x22.cells) true rfl rfl (by kernel_rfl) hat) fun _ hs => ?_
        refine wpList_nil (⟨fun _ h => h, ?_⟩)
        refine stepDE 13 rfl (wanted_none rfl) (by kernel_rfl) #[] ?_
        refine stepStoreB 1 (vs := [(Value.int .u64 x22.w0), (Value.int .u64 x22.w1), (Value.int .u64 x22.w2), (Value.int .u64 x22.w3)]) hs rfl rfl rfl rfl rfl rfl (by kernel_rfl) (Nat.le_of_ble_eq_true rfl) rfl (fun _ _ hs => ?_)
        replace hs := hs.chbx (bs' := [⟨b5, 55, [(Value.int .u64 0), (Value.int .u64 0), (Value.int .u64 0), (Value.int .u64 0)]⟩, ⟨b4, 55, [(Value.int .u64 x22.w0), (Value.int .u64 x22.w1), (Value.int .u64 x22.w2), (Value.int .u64 x22.w3)]⟩, ⟨b3, 96, [(Value.int .i64 e2.Kind), (Value.int .u64 e2.Set.w0), (Value.int .u64 e2.Set.w1), (Value.int .u64 e2.Set.w2), (Value.int .u64 e2.Set.w3), (Value.string (mkS e2.Text)), (Value.slice e2.Kids_a e2.Kids_l e2.Kids_c)]⟩]) rfl
        refine wpList_nil (⟨fun _ _ => hs.cxle hL (.cons_cons _ (.cons _ (.cons_cons _ List.Sublist.slnil))) (List.Sublist.refl _), ?_⟩)
        have hC := hs.cxle hL (.cons_cons _ (.cons _ (.cons_cons _ List.Sublist.slnil))) (List.Sublist.refl _)
        refine WpD.done (by kernel_rfl) ?_ _
        exact Wp.ret (leaveW (K := K) hs (resC (vs := [(Value.int .u64 x22.w0), (Value.int .u64 x22.w1), (Value.int .u64 x22.w2), (Value.int .u64 x22.w3)]) true 1 hs rfl rfl rfl (by kernel_rfl) rfl) hMM hS)
      · have hS := hS.2 hc
        refine Wp.join (fun a w => ∃ (x23 : Bool), Sx 74 E (bwW E M L) M w a [(0, (Value.pointer x1)), (3, (Value.pointer (some ⟨b3, 0, none⟩))), (4, (Value.pointer (some ⟨b4, 0, none⟩))), (5, (Value.pointer (some ⟨b5, 0, none⟩))), (40, (Value.bool x23))] [⟨b5, 55, [(Value.int .u64 0), (Value.int .u64 0), (Value.int .u64 0), (Value.int .u64 0)]⟩, ⟨b4, 55, [(Value.int .u64 0), (Value.int .u64 0), (Value.int .u64 0), (Value.int .u64 0)]⟩, ⟨b3, 96, [(Value.int .i64 e2.Kind), (Value.int .u64 e2.Set.w0), (Value.int .u64 e2.Set.w1), (Value.int .u64 e2.Set.w2), (Value.int .u64 e2.Set.w3), (Value.string (mkS e2.Text)), (Value.slice e2.Kids_a e2.Kids_l e2.Kids_c)]⟩] [] ∧ (S_first_finder_of_J1 x1 e2 M L x23 K)) ?_ ?_
        · refine Wp.seq (Wp.region (sP (Value.bool ((e2.Kind : Int) == (10 : Int))) hs fun _ hs => ?_))
          refine sP (Value.bool ((e2.Kind : Int) == (10 : Int))) hs fun _ hs => ?_
          refine wpList_nil (Wp.cond hs rfl rfl beq_iff_eq (fun hc => ?_) (fun hc => ?_))
          · have hS := hS.1 hc
            exact Wp.skip (⟨((e2.Kind : Int) == (10 : Int)), (hs.weak (List.Sublist.refl _) (List.Sublist.refl _) ⟨rfl, rfl, rfl, rfl, rfl, trivial⟩), hS⟩)
          · have hS := hS.2 hc
            refine Wp.region (sP (Value.bool ((e2.Kind : Int) == (11 : Int))) hs fun _ hs => ?_)
            refine sP (Value.bool ((e2.Kind : Int) == (11 : Int))) hs fun _ hs => ?_
            exact wpList_nil (⟨((e2.Kind : Int) == (11 : Int)), (hs.weak (List.Sublist.refl _) (List.Sublist.refl _) ⟨rfl, rfl, rfl, rfl, rfl, trivial⟩), hS⟩)
        · intro a w hJ
          obtain ⟨x23, hs, hS⟩ := hJ
          unfold S_first_finder_of_J1 at hS
          refine Wp.cond hs rfl rfl Iff.rfl (fun hc => ?_) (fun hc => ?_)
          · have hS := hS.1 hc
            refine Wp.seq (Wp.region (sY (X_api_Set.mk 0 0 0 0).val hs (Yl.loadB (vs := (X_api_Set.mk 0 0 0 0).cells) true 0 rfl rfl rfl (by kernel_rfl) rfl) fun _ hs => ?_))
            refine stepStoreB 1 (vs := [(Value.int .u64 0), (Value.int .u64 0), (Value.int .u64 0), (Value.int .u64 0)]) hs rfl rfl rfl rfl rfl rfl (by kernel_rfl) (Nat.le_of_ble_eq_true rfl) rfl (fun _ _ hs => ?_)
            replace hs := hs.chbx (bs' := [⟨b5, 55, [(Value.int .u64 0), (Value.int .u64 0), (Value.int .u64 0), (Value.int .u64 0)]⟩, ⟨b4, 55, [(Value.int .u64 0), (Value.int .u64 0), (Value.int .u64 0), (Value.int .u64 0)]⟩, ⟨b3, 96, [(Value.int .i64 e2.Kind), (Value.int .u64 e2.Set.w0), (Value.int .u64 e2.Set.w1), (Value.int .u64 e2.Set.w2), (Value.int .u64 e2.Set.w3), (Value.string (mkS e2.Text)), (Value.slice e2.Kids_a e2.Kids_l e2.Kids_c)]⟩]) rfl
            exact wpList_nil (Wp.ret (leaveW (K := K) hs (resC (vs := [(Value.int .u64 0), (Value.int .u64 0), (Value.int .u64 0), (Value.int .u64 0)]) true 1 hs rfl rfl rfl (by kernel_rfl) rfl) hMM hS))
          · have hS := hS.2 hc
            refine Wp.skip (Wp.join (fun a w => ∃ (c114 : Int) (c115 : Int) (c116 : Int) (c117 : Int) (M118 : Mem), WX M118 M E ∧ Sx 74 E (bwW E M L) M118 w a [(4, (Value.pointer (some ⟨b4, 0, none⟩))), (5, (Value.pointer (some ⟨b5, 0, none⟩)))] [⟨b5, 55, [(Value.int .u64 c114), (Value.int .u64 c115), (Value.int .u64 c116), (Value.int .u64 c117)]⟩, ⟨b4, 55, [(Value.int .u64 0), (Value.int .u64 0), (Value.int .u64 0), (Value.int .u64 0)]⟩, ⟨b3, 96, [(Value.int .i64 e2.Kind), (Value.int .u64 e2.Set.w0), (Value.int .u64 e2.Set.w1), (Value.int .u64 e2.Set.w2), (Value.int .u64 e2.Set.w3), (Value.string (mkS e2.Text)), (Value.slice e2.Kids_a e2.Kids_l e2.Kids_c)]⟩] [] ∧ (S_first_finder_of_J4 c114 c115 c116 c117 M118 K)) ?_ ?_)
            · refine Wp.seq (Wp.region (sP (Value.pointer (some ⟨b3, 6, none⟩)) hs fun _ hs => ?_))
              refine sY (Value.slice e2.Kids_a e2.Kids_l e2.Kids_c) hs (Yl.loadB (vs := [(Value.slice e2.Kids_a e2.Kids_l e2.Kids_c)]) false 2 rfl rfl rfl (by kernel_rfl) rfl) fun _ hs => ?_
              refine sP (Value.int .i64 ((e2.Kids_l : Nat) : Int)) hs fun _ hs => ?_
              refine sP (Value.int .i64 0) hs fun _ hs => ?_
              refine wpList_nil (Wp.block ?_)
              obtain ⟨G87, I85, mu86, gz89, hI0, hst⟩ := hS
              refine Wp.loop (σ := G87 × (Int) × (Int) × (Int) × (Int) × (Int) × (Mem)) (fun s a w => match s with | (gh88, x79, c80, c81, c82, c83, M84) => WX M84 M E ∧ Sx 74 E (bwW E M L) M84 w a [(0, (Value.pointer x1)), (3, (Value.pointer (some ⟨b3, 0, none⟩))), (4, (Value.pointer (some ⟨b4, 0, none⟩))), (5, (Value.pointer (some ⟨b5, 0, none⟩))), (45, (Value.slice e2.Kids_a e2.Kids_l e2.Kids_c)), (46, (Value.int .i64 ((e2.Kids_l : Nat) : Int))), (47, (Value.int .i64 x79))] [⟨b5, 55, [(Value.int .u64 c80), (Value.int .u64 c81), (Value.int .u64 c82), (Value.int .u64 c83)]⟩, ⟨b4, 55, [(Value.int .u64 0), (Value.int .u64 0), (Value.int .u64 0), (Value.int .u64 0)]⟩, ⟨b3, 96, [(Value.int .i64 e2.Kind), (Value.int .u64 e2.Set.w0), (Value.int .u64 e2.Set.w1), (Value.int .u64 e2.Set.w2), (Value.int .u64 e2.Set.w3), (Value.string (mkS e2.Text)), (Value.slice e2.Kids_a e2.Kids_l e2.Kids_c)]⟩] [] ∧ I85 gh88 x79 c80 c81 c82 c83 M84) (fun s => match s with | (gh88, x79, c80, c81, c82, c83, M84) => mu86 gh88 x79 c80 c81 c82 c83) (gz89, 0, 0, 0, 0, 0, M) ⟨hMM, (hs.weak (List.Sublist.refl _) (List.Sublist.refl _) ⟨rfl, rfl, rfl, rfl, rfl, rfl, rfl, trivial⟩), hI0⟩ (fun s a w hI => ?_)
              obtain ⟨gh88, x79, c80, c81, c82, c83, M84⟩ := s
              obtain ⟨hMM, hs, hI⟩ := hI
              have hS := hst gh88 x79 c80 c81 c82 c83 M84 hI
              clear hst hI0 hI
              refine Wp.seq (Wp.region (sP (Value.bool (decide (x79 < ((e2.Kids_l : Nat) : Int)))) hs fun _ hs => ?_))
              refine wpList_nil (Wp.seq (Wp.cond hs rfl rfl decide_eq_true_iff (fun hc => ?_) (fun hc => ?_)))
              · have hS := hS.1 hc
                refine Wp.skip (Wp.seq (Wp.block (Wp.seq (Wp.region ?_))))
                obtain ⟨b90, o91, ha, h0, hl, hS⟩ := hS
                refine sY (Value.pointer (some ⟨b90, o91 + x79.toNat * 7, none⟩)) hs (Yl.indexS (e := 96) (sz := 7) rfl rfl rfl rfl (by kernel_rfl) (by kernel_rfl) ha h0 hl) fun _ hs => ?_
                obtain ⟨x92, hat, hS⟩ := hS
                refine sY x92.val hs (Yl.loadV (vs := x92.cells) true rfl rfl (by kernel_rfl) hat) fun _ hs => ?_
                refine stepAlloc [(Value.int .i64 0), (Value.int .u64 0), (Value.int .u64 0), (Value.int .u64 0), (Value.int .u64 0), (Value.string (mkS [])), (Value.slice none 0 0)] hs (by kernel_rfl) (by decide) (fun _ _ b93 hEb93 hs => ?_)
                have hs := hs.nilrow 96 7
                refine stepStoreB 0 (vs := [(Value.int .i64 x92.Kind), (Value.int .u64 x92.Set.w0), (Value.int .u64 x92.Set.w1), (Value.int .u64 x92.Set.w2), (Value.int .u64 x92.Set.w3), (Value.string (mkS x92.Text)), (Value.slice x92.Kids_a x92.Kids_l x92.Kids_c)]) hs rfl rfl rfl rfl rfl rfl (by kernel_rfl) (Nat.le_of_ble_eq_true rfl) rfl (fun _ _ hs => ?_)
                replace hs := hs.chbx (bs' := [⟨b93, 96, [(Value.int .i64 x92.Kind), (Value.int .u64 x92.Set.w0), (Value.int .u64 x92.Set.w1), (Value.int .u64 x92.Set.w2), (Value.int .u64 x92.Set.w3), (Value.string (mkS x92.Text)), (Value.slice x92.Kids_a x92.Kids_l x92.Kids_c)]⟩, ⟨b5, 55, [(Value.int .u64 c80), (Value.int .u64 c81), (Value.int .u64 c82), (Value.int .u64 c83)]⟩, ⟨b4, 55, [(Value.int .u64 0), (Value.int .u64 0), (Value.int .u64 0), (Value.int .u64 0)]⟩, ⟨b3, 96, [(Value.int .i64 e2.Kind), (Value.int .u64 e2.Set.w0), (Value.int .u64 e2.Set.w1), (Value.int .u64 e2.Set.w2), (Value.int .u64 e2.Set.w3), (Value.string (mkS e2.Text)), (Value.slice e2.Kids_a e2.Kids_l e2.Kids_c)]⟩]) rfl
                refine wpList_nil (Wp.join (fun a w => ∃ (c97 : Int) (c98 : Int) (c99 : Int) (c100 : Int) (M101 : Mem), WX M101 M E ∧ Sx 74 E (bwW E M L) M101 w a [(0, (Value.pointer x1)), (3, (Value.pointer (some ⟨b3, 0, none⟩))), (4, (Value.pointer (some ⟨b4, 0, none⟩))), (5, (Value.pointer (some ⟨b5, 0, none⟩))), (7, (Value.pointer (some ⟨b93, 0, none⟩))), (45, (Value.slice e2.Kids_a e2.Kids_l e2.Kids_c)), (46, (Value.int .i64 ((e2.Kids_l : Nat) : Int))), (47, (Value.int .i64 x79))] [⟨b93, 96, [(Value.int .i64 x92.Kind), (Value.int .u64 x92.Set.w0), (Value.int .u64 x92.Set.w1), (Value.int .u64 x92.Set.w2), (Value.int .u64 x92.Set.w3), (Value.string (mkS x92.Text)), (Value.slice x92.Kids_a x92.Kids_l x92.Kids_c)]⟩, ⟨b5, 55, [(Value.int .u64 c97), (Value.int .u64 c98), (Value.int .u64 c99), (Value.int .u64 c100)]⟩, ⟨b4, 55, [(Value.int .u64 0), (Value.int .u64 0), (Value.int .u64 0), (Value.int .u64 0)]⟩, ⟨b3, 96, [(Value.int .i64 e2.Kind), (Value.int .u64 e2.Set.w0), (Value.int .u64 e2.Set.w1), (Value.int .u64 e2.Set.w2), (Value.int .u64 e2.Set.w3), (Value.string (mkS e2.Text)), (Value.slice e2.Kids_a e2.Kids_l e2.Kids_c)]⟩] [] ∧ (S_first_finder_of_J2 x1 e2 x79 c80 c81 c82 c83 G87 gh88 I85 mu86 x92 c97 c98 c99 c100 M101 K)) ?_ ?_)
                · refine Wp.regionD [true, true, true, false, false, false] hs (by kernel_rfl) rfl [⟨b93, 96, [(Value.int .i64 x92.Kind), (Value.int .u64 x92.Set.w0), (Value.int .u64 x92.Set.w1), (Value.int .u64 x92.Set.w2), (Value.int .u64 x92.Set.w3), (Value.string (mkS x92.Text)), (Value.slice x92.Kids_a x92.Kids_l x92.Kids_c)]⟩, ⟨b5, 55, [(Value.int .u64 c80), (Value.int .u64 c81), (Value.int .u64 c82), (Value.int .u64 c83)]⟩, ⟨b4, 55, [(Value.int .u64 0), (Value.int .u64 0), (Value.int .u64 0), (Value.int .u64 0)]⟩, ⟨b3, 96, [(Value.int .i64 e2.Kind), (Value.int .u64 e2.Set.w0), (Value.int .u64 e2.Set.w1), (Value.int .u64 e2.Set.w2), (Value.int .u64 e2.Set.w3), (Value.string (mkS e2.Text)), (Value.slice e2.Kids_a e2.Kids_l e2.Kids_c)]⟩] (fun _ h => h) [⟨(Value.slice none 0 0), 96, 7, 0, [], true⟩] (fun _ h => h) (fun _ hs hC => ?_)
                  have hL := Mem.le.refl M84
                  refine dP (Value.pointer x1) 1 [3, 4, 5] hs QZ.no (wanted_none rfl) fun _ hs => ?_
                  refine stepDY (v := x92.val) 2 [3, 4, 5] hs hC QZ.no rfl (wanted_none rfl) rfl (by decide) (by kernel_rfl) (by kernel_rfl) (by kernel_rfl) (Yl.loadB (vs := x92.cells) true 0 rfl rfl rfl (by kernel_rfl) rfl) (fun _ hs => ?_)
                  refine WpD.ors (by kernel_rfl : _ = [0, 3]) ⟨?_, ?_, trivial⟩
                  · refine stepOne 0 rfl (wanted_none rfl) #[] ?_
                    refine sY (X_api_Set.mk c80 c81 c82 c83).val hs (Yl.loadB (vs := (X_api_Set.mk c80 c81 c82 c83).cells) true 1 rfl rfl rfl (by kernel_rfl) rfl) fun _ hs => ?_
                    refine wpList_nil (⟨fun _ h => h, ?_⟩)
                    refine stepDE 3 rfl (wanted_none rfl) (by kernel_rfl) #[] ?_
                    refine stepCallW [(Value.pointer x1), x92.val] hs hMM rfl ⟨_, rfl, rfl⟩ rfl Try.func74 rfl (by kernel_rfl) (by decide) hS (fun _ _ M95 v hMM hS hs => ?_)
                    obtain ⟨x94, hv, hS⟩ := hS
                    subst hv
                    refine wpList_nil (⟨fun h => absurd h (by decide), ?_⟩)
                    refine stepDE 4 rfl (wanted_none rfl) (by kernel_rfl) #[] ?_
                    refine stepCallP [(X_api_Set.mk c80 c81 c82 c83).val, x94.val] hs rfl ⟨_, rfl, rfl⟩ rfl Try.func110 rfl (by kernel_rfl) (by decide) hS (fun _ _ v hS hs => ?_)
                    obtain ⟨x96, hv, hS⟩ := hS
                    subst hv
                    refine wpList_nil (⟨fun h => absurd h (by decide), ?_⟩)
                    refine stepDE 5 rfl (wanted_none rfl) (by kernel_rfl) #[] ?_
                    refine stepStoreB 1 (vs := [(Value.int .u64 x96.w0), (Value.int .u64 x96.w1), (Value.int .u64 x96.w2), (Value.int .u64 x96.w3)]) hs rfl rfl rfl rfl rfl rfl (by kernel_rfl) (Nat.le_of_ble_eq_true rfl) rfl (fun _ _ hs => ?_)
                    replace hs := hs.chbx (bs' := [⟨b93, 96, [(Value.int .i64 x92.Kind), (Value.int .u64 x92.Set.w0), (Value.int .u64 x92.Set.w1), (Value.int .u64 x92.Set.w2), (Value.int .u64 x92.Set.w3), (Value.string (mkS x92.Text)), (Value.slice x92.Kids_a x92.Kids_l x92.Kids_c)]⟩, ⟨b5, 55, [(Value.int .u64 x96.w0), (Value.int .u64 x96.w1), (Value.int .u64 x96.w2), (Value.int .u64 x96.w3)]⟩, ⟨b4, 55, [(Value.int .u64 0), (Value.int .u64 0), (Value.int .u64 0), (Value.int .u64 0)]⟩, ⟨b3, 96, [(Value.int .i64 e2.Kind), (Value.int .u64 e2.Set.w0), (Value.int .u64 e2.Set.w1), (Value.int .u64 e2.Set.w2), (Value.int .u64 e2.Set.w3), (Value.string (mkS e2.Text)), (Value.slice e2.Kids_a e2.Kids_l e2.Kids_c)]⟩]) rfl
                    refine wpList_nil (⟨fun h => absurd h (by decide), ?_⟩)
                    refine WpD.done (by kernel_rfl) ?_ _
                    exact ⟨x96.w0, x96.w1, x96.w2, x96.w3, M95, hMM, (hs.weak (List.Sublist.refl _) (.cons _ List.Sublist.slnil) ⟨rfl, rfl, rfl, rfl, rfl, rfl, rfl, rfl, trivial⟩), hS⟩
                  · refine stepOne 3 rfl (wanted_none rfl) #[] ?_
                    refine stepCallW [(Value.pointer x1), x92.val] hs hMM rfl ⟨_, rfl, rfl⟩ rfl Try.func74 rfl (by kernel_rfl) (by decide) hS (fun _ _ M95 v hMM hS hs => ?_)
                    obtain ⟨x94, hv, hS⟩ := hS
                    subst hv
                    refine wpList_nil (⟨fun h => absurd h (by decide), ?_⟩)
                    refine stepDE 0 rfl (wanted_none rfl) (by kernel_rfl) #[] ?_
                    refine sY (X_api_Set.mk c80 c81 c82 c83).val hs (Yl.loadB (vs := (X_api_Set.mk c80 c81 c82 c83).cells) true 1 rfl rfl rfl (by kernel_rfl) rfl) fun _ hs => ?_
                    refine wpList_nil (⟨fun _ h => h, ?_⟩)
                    refine stepDE 4 rfl (wanted_none rfl) (by kernel_rfl) #[] ?_
                    refine stepCallP [(X_api_Set.mk c80 c81 c82 c83).val, x94.val] hs rfl ⟨_, rfl, rfl⟩ rfl Try.func110 rfl (by kernel_rfl) (by decide) hS (fun _ _ v hS hs => ?_)
                    obtain ⟨x96, hv, hS⟩ := hS
                    subst hv
                    refine wpList_nil (⟨fun h => absurd h (by decide), ?_⟩)
                    refine stepDE 5 rfl (wanted_none rfl) (by kernel_rfl) #[] ?_
                    refine stepStoreB 1 (vs := [(Value.int .u64 x96.w0), (Value.int .u64 x96.w1), (Value.int .u64 x96.w2), (Value.int .u64 x96.w3)]) hs rfl rfl rfl rfl rfl rfl (by kernel_rfl) (Nat.le_of_ble_eq_true rfl) rfl (fun _ _ hs => ?_)
                    replace hs := hs.chbx (bs' := [⟨b93, 96, [(Value.int .i64 x92.Kind), (Value.int .u64 x92.Set.w0), (Value.int .u64 x92.Set.w1), (Value.int .u64 x92.Set.w2), (Value.int .u64 x92.Set.w3), (Value.string (mkS x92.Text)), (Value.slice x92.Kids_a x92.Kids_l x92.Kids_c)]⟩, ⟨b5, 55, [(Value.int .u64 x96.w0), (Value.int .u64 x96.w1), (Value.int .u64 x96.w2), (Value.int .u64 x96.w3)]⟩, ⟨b4, 55, [(Value.int .u64 0), (Value.int .u64 0), (Value.int .u64 0), (Value.int .u64 0)]⟩, ⟨b3, 96, [(Value.int .i64 e2.Kind), (Value.int .u64 e2.Set.w0), (Value.int .u64 e2.Set.w1), (Value.int .u64 e2.Set.w2), (Value.int .u64 e2.Set.w3), (Value.string (mkS e2.Text)), (Value.slice e2.Kids_a e2.Kids_l e2.Kids_c)]⟩]) rfl
                    refine wpList_nil (⟨fun h => absurd h (by decide), ?_⟩)
                    refine WpD.done (by kernel_rfl) ?_ _
                    exact ⟨x96.w0, x96.w1, x96.w2, x96.w3, M95, hMM, (hs.weak (List.Sublist.refl _) (.cons _ List.Sublist.slnil) ⟨rfl, rfl, rfl, rfl, rfl, rfl, rfl, rfl, trivial⟩), hS⟩
                · intro a w hJ
                  obtain ⟨c97, c98, c99, c100, M101, hMM, hs, hS⟩ := hJ
                  unfold S_first_finder_of_J2 at hS
                  refine Wp.join (fun a w => ∃ (x113 : Bool), Sx 74 E (bwW E M L) M101 w a [(0, (Value.pointer x1)), (3, (Value.pointer (some ⟨b3, 0, none⟩))), (4, (Value.pointer (some ⟨b4, 0, none⟩))), (5, (Value.pointer (some ⟨b5, 0, none⟩))), (45, (Value.slice e2.Kids_a e2.Kids_l e2.Kids_c)), (46, (Value.int .i64 ((e2.Kids_l : Nat) : Int))), (47, (Value.int .i64 x79)), (71, (Value.bool x113))] [⟨b93, 96, [(Value.int .i64 x92.Kind), (Value.int .u64 x92.Set.w0), (Value.int .u64 x92.Set.w1), (Value.int .u64 x92.Set.w2), (Value.int .u64 x92.Set.w3), (Value.string (mkS x92.Text)), (Value.slice x92.Kids_a x92.Kids_l x92.Kids_c)]⟩, ⟨b5, 55, [(Value.int .u64 c97), (Value.int .u64 c98), (Value.int .u64 c99), (Value.int .u64 c100)]⟩, ⟨b4, 55, [(Value.int .u64 0), (Value.int .u64 0), (Value.int .u64 0), (Value.int .u64 0)]⟩, ⟨b3, 96, [(Value.int .i64 e2.Kind), (Value.int .u64 e2.Set.w0), (Value.int .u64 e2.Set.w1), (Value.int .u64 e2.Set.w2), (Value.int .u64 e2.Set.w3), (Value.string (mkS e2.Text)), (Value.slice e2.Kids_a e2.Kids_l e2.Kids_c)]⟩] [] ∧ (S_first_finder_of_J3 x79 c80 c81 c82 c83 G87 gh88 I85 mu86 c97 c98 c99 c100 M101 x113 K)) ?_ ?_
                  · refine Wp.regionD [true, true, true, true, true, true, true, true, true, true, true, true, true, false, true, true] hs (by kernel_rfl) rfl [⟨b93, 96, [(Value.int .i64 x92.Kind), (Value.int .u64 x92.Set.w0), (Value.int .u64 x92.Set.w1), (Value.int .u64 x92.Set.w2), (Value.int .u64 x92.Set.w3), (Value.string (mkS x92.Text)), (Value.slice x92.Kids_a x92.Kids_l x92.Kids_c)]⟩, ⟨b5, 55, [(Value.int .u64 c97), (Value.int .u64 c98), (Value.int .u64 c99), (Value.int .u64 c100)]⟩, ⟨b4, 55, [(Value.int .u64 0), (Value.int .u64 0), (Value.int .u64 0), (Value.int .u64 0)]⟩, ⟨b3, 96, [(Value.int .i64 e2.Kind), (Value.int .u64 e2.Set.w0), (Value.int .u64 e2.Set.w1), (Value.int .u64 e2.Set.w2), (Value.int .u64 e2.Set.w3), (Value.string (mkS e2.Text)), (Value.slice e2.Kids_a e2.Kids_l e2.Kids_c)]⟩] (fun _ h => h) [] (fun _ h => h) (fun _ hs hC => ?_)
                    have hL := Mem.le.refl M101
                    refine stepDE 0 rfl (wanted_none rfl) (by kernel_rfl) #[] ?_
                    refine sP (Value.pointer (some ⟨b3, 0, none⟩)) hs fun _ hs => ?_
                    refine wpList_nil (⟨fun _ h => h, ?_⟩)
                    refine stepDE 1 rfl (wanted_none rfl) (by kernel_rfl) #[] ?_
                    refine sY (Value.int .i64 e2.Kind) hs (Yl.loadB (vs := [(Value.int .i64 e2.Kind)]) false 3 rfl rfl rfl (by kernel_rfl) rfl) fun _ hs => ?_
                    refine wpList_nil (⟨fun _ h => h, ?_⟩)
                    refine stepDE 2 rfl (wanted_none rfl) (by kernel_rfl) #[] ?_
                    refine sP (Value.bool ((e2.Kind : Int) == (5 : Int))) hs fun _ hs => ?_
                    refine wpList_nil (⟨fun _ h => h, ?_⟩)
                    refine stepDE 3 rfl (wanted_none rfl) (by kernel_rfl) #[] ?_
                    refine sP (Value.bool ((e2.Kind : Int) == (5 : Int))) hs fun _ hs => ?_
                    refine wpList_nil (⟨fun _ h => h, ?_⟩)
                    refine bsplit ((e2.Kind : Int) == (5 : Int)) beq_iff_eq (fun hb hc => ?_) (fun hb hc => ?_)
                    · have hs := hs.bt hb
                      have hS := hS.1 hc
                      refine dP (Value.pointer x1) 4 [5, 6, 7, 13, 14, 15] hs QZ.no (wanted_yes hs rfl rfl rfl) fun _ hs => ?_
                      obtain ⟨b102, o103, hp, hS⟩ := hS
                      refine stepDP (v := (Value.pointer (some ⟨b102, o103, none⟩))) 5 [6, 7, 13, 14, 15] hs QZ.no rfl (wanted_yes hs rfl rfl rfl) rfl (by decide) (by kernel_rfl) (by kernel_rfl) (by kernel_rfl) (Yl.nilck rfl rfl hp) (fun _ hs => ?_)
                      refine dP (Value.pointer (some ⟨b102, o103, none⟩)) 6 [7, 13, 14, 15] hs QZ.no (wanted_yes hs rfl rfl rfl) fun _ hs => ?_
                      obtain ⟨xa104, xl105, xc106, hat, hS⟩ := hS
                      refine stepDY (v := (Value.agg #[(Value.slice xa104 xl105 xc106)])) 7 [13, 14, 15] hs hC QZ.no rfl (wanted_yes hs rfl rfl rfl) rfl (by decide) (by kernel_rfl) (by kernel_rfl) (by kernel_rfl) (Yl.loadV (vs := [(Value.slice xa104 xl105 xc106)]) true rfl rfl (by kernel_rfl) hat) (fun _ hs => ?_)
                      refine dP (Value.pointer x1) 8 [9, 10, 11, 13, 14, 15] hs QZ.no (wanted_yes hs rfl rfl rfl) fun _ hs => ?_
                      obtain ⟨b107, o108, hp, hS⟩ := hS
                      refine stepDP (v := (Value.pointer (some ⟨b107, o108, none⟩))) 9 [10, 11, 13, 14, 15] hs QZ.no rfl (wanted_yes hs rfl rfl rfl) rfl (by decide) (by kernel_rfl) (by kernel_rfl) (by kernel_rfl) (Yl.nilck rfl rfl hp) (fun _ hs => ?_)
                      refine dP (Value.pointer (some ⟨b107, o108 + 1, none⟩)) 10 [11, 13, 14, 15] hs QZ.no (wanted_yes hs rfl rfl rfl) fun _ hs => ?_
                      obtain ⟨xa109, xl110, xc111, hat, hS⟩ := hS
                      refine stepDY (v := (Value.slice xa109 xl110 xc111)) 11 [13, 14, 15] hs hC QZ.no rfl (wanted_yes hs rfl rfl rfl) rfl (by decide) (by kernel_rfl) (by kernel_rfl) (by kernel_rfl) (Yl.loadV (vs := [(Value.slice xa109 xl110 xc111)]) false rfl rfl (by kernel_rfl) hat) (fun _ hs => ?_)
                      refine stepDE 12 rfl (wanted_yes hs rfl rfl rfl) (by kernel_rfl) #[] ?_
                      refine sY x92.val hs (Yl.loadB (vs := x92.cells) true 0 rfl rfl rfl (by kernel_rfl) rfl) fun _ hs => ?_
                      refine wpList_nil (⟨fun _ h => h, ?_⟩)
                      refine stepDE 13 rfl (wanted_yes hs rfl rfl rfl) (by kernel_rfl) #[] ?_
                      refine stepCallP [(Value.agg #[(Value.slice xa104 xl105 xc106)]), (Value.slice xa109 xl110 xc111), x92.val] hs rfl ⟨_, rfl, rfl⟩ rfl Try.func111 rfl (by kernel_rfl) (by decide) hS (fun _ _ v hS hs => ?_)
                      obtain ⟨x112, hv, hS⟩ := hS
                      subst hv
                      refine wpList_nil (⟨fun h => absurd h (by decide), ?_⟩)
                      refine stepDE 14 rfl (wanted_yes hs rfl rfl rfl) (by kernel_rfl) #[] ?_
                      refine sP (Value.bool (!x112)) hs fun _ hs => ?_
                      refine wpList_nil (⟨fun _ h => h, ?_⟩)
                      refine stepDE 15 rfl (wanted_none rfl) (by kernel_rfl) #[] ?_
                      refine sP (Value.bool (!x112)) hs fun _ hs => ?_
                      refine wpList_nil (⟨fun _ h => h, ?_⟩)
                      refine WpD.done (by kernel_rfl) ?_ _
                      exact ⟨(!x112), (hs.weak (List.Sublist.refl _) (List.Sublist.refl _) ⟨rfl, rfl, rfl, rfl, rfl, rfl, rfl, rfl, trivial⟩), hS⟩
                    · have hs := hs.bf hb
                      have hS := hS.2 hc
                      refine dN 4 [5, 6, 7, 13, 14, 15] hs QZ.no (wanted_no hs rfl rfl rfl rfl) fun _ hs => ?_
                      refine dN 5 [6, 7, 13, 14, 15] hs QZ.no (wanted_no hs rfl rfl rfl rfl) fun _ hs => ?_
                      refine dN 6 [7, 13, 14, 15] hs QZ.no (wanted_no hs rfl rfl rfl rfl) fun _ hs => ?_
                      refine dN 7 [13, 14, 15] hs QZ.no (wanted_no hs rfl rfl rfl rfl) fun _ hs => ?_
                      refine dN 8 [9, 10, 11, 13, 14, 15] hs QZ.no (wanted_no hs rfl rfl rfl rfl) fun _ hs => ?_
                      refine dN 9 [10, 11, 13, 14, 15] hs QZ.no (wanted_no hs rfl rfl rfl rfl) fun _ hs => ?_
                      refine dN 10 [11, 13, 14, 15] hs QZ.no (wanted_no hs rfl rfl rfl rfl) fun _ hs => ?_
                      refine dN 11 [13, 14, 15] hs QZ.no (wanted_no hs rfl rfl rfl rfl) fun _ hs => ?_
                      refine dN 12 [13, 14, 15] hs QZ.no (wanted_no hs rfl rfl rfl rfl) fun _ hs => ?_
                      refine dN 13 [14, 15] hs QZ.no (wanted_no hs rfl rfl rfl rfl) fun _ hs => ?_
                      refine dN 14 [15] hs QZ.no (wanted_no hs rfl rfl rfl rfl) fun _ hs => ?_
                      refine stepDE 15 rfl (wanted_none rfl) (by kernel_rfl) #[] ?_
                      refine sP (Value.bool false) hs fun _ hs => ?_
                      refine wpList_nil (⟨fun _ h => h, ?_⟩)
                      refine WpD.done (by kernel_rfl) ?_ _
                      exact ⟨false, (hs.weak (List.Sublist.refl _) (List.Sublist.refl _) ⟨rfl, rfl, rfl, rfl, rfl, rfl, rfl, rfl, trivial⟩), hS⟩
                  · intro a w hJ
                    obtain ⟨x113, hs, hS⟩ := hJ
                    unfold S_first_finder_of_J3 at hS
                    refine Wp.cond hs rfl rfl Iff.rfl (fun hc => ?_) (fun hc => ?_)
                    · have hS := hS.1 hc
                      exact Wp.exit rfl (⟨c97, c98, c99, c100, M101, hMM, (hs.weak (.cons _ (.cons_cons _ (.cons_cons _ (.cons_cons _ List.Sublist.slnil)))) (List.Sublist.refl _) ⟨rfl, rfl, trivial⟩), hS⟩)
                    · have hS := hS.2 hc
                      refine Wp.skip (Wp.region ?_)
                      obtain ⟨hI, hS⟩ := hS
                      refine sY (Value.int .i64 (x79 + 1)) hs (Yl.eq (Yl.pure (v := Value.int .i64 (IntKind.wrap .i64 (x79 + 1))) rfl (fun _ => by kernel_rfl)) (congrArg (Value.int .i64) (wrap_in hI))) fun _ hs => ?_
                      refine sP (Value.int .i64 (x79 + 1)) hs fun _ hs => ?_
                      refine wpList_nil ?_
                      obtain ⟨gh, hI1, hI2⟩ := hS
                      exact ⟨(gh, x79 + 1, c97, c98, c99, c100, M101), ⟨hMM, (hs.weak (.cons _ (.cons_cons _ (.cons_cons _ (.cons_cons _ List.Sublist.slnil)))) (List.Sublist.refl _) ⟨rfl, rfl, rfl, rfl, rfl, rfl, rfl, trivial⟩), hI1⟩, hI2⟩
              · have hS := hS.2 hc
                exact Wp.exit rfl (⟨c80, c81, c82, c83, M84, hMM, (hs.weak (List.Sublist.refl _) (List.Sublist.refl _) ⟨rfl, rfl, trivial⟩), hS⟩)
            · intro a w hJ
              obtain ⟨c114, c115, c116, c117, M118, hMM, hs, hS⟩ := hJ
              unfold S_first_finder_of_J4 at hS
              refine Wp.seq (Wp.region (sY (X_api_Set.mk c114 c115 c116 c117).val hs (Yl.loadB (vs := (X_api_Set.mk c114 c115 c116 c117).cells) true 0 rfl rfl rfl (by kernel_rfl) rfl) fun _ hs => ?_))
              refine stepStoreB 1 (vs := [(Value.int .u64 c114), (Value.int .u64 c115), (Value.int .u64 c116), (Value.int .u64 c117)]) hs rfl rfl rfl rfl rfl rfl (by kernel_rfl) (Nat.le_of_ble_eq_true rfl) rfl (fun _ _ hs => ?_)
              replace hs := hs.chbx (bs' := [⟨b5, 55, [(Value.int .u64 c114), (Value.int .u64 c115), (Value.int .u64 c116), (Value.int .u64 c117)]⟩, ⟨b4, 55, [(Value.int .u64 c114), (Value.int .u64 c115), (Value.int .u64 c116), (Value.int .u64 c117)]⟩, ⟨b3, 96, [(Value.int .i64 e2.Kind), (Value.int .u64 e2.Set.w0), (Value.int .u64 e2.Set.w1), (Value.int .u64 e2.Set.w2), (Value.int .u64 e2.Set.w3), (Value.string (mkS e2.Text)), (Value.slice e2.Kids_a e2.Kids_l e2.Kids_c)]⟩]) rfl
              exact wpList_nil (Wp.ret (leaveW (K := K) hs (resC (vs := [(Value.int .u64 c114), (Value.int .u64 c115), (Value.int .u64 c116), (Value.int .u64 c117)]) true 1 hs rfl rfl rfl (by kernel_rfl) rfl) hMM hS))
theorem e_first_finder_of (x1 : Option Addr) (e2 : X_api_Expr) (M : Mem) (K : Value → Mem → Prop) (hS : S_first_finder_of x1 e2 M (fun _ => False) K) : CallE Try.prog 74 #[(Value.pointer x1), e2.val] M K := (s_first_finder_of _ _ _ _ _ hS).toE
set_option linter.unusedVariables false in
def S_first_First_J2 (more229 : Bool) (x230 : Int) (G234 : Type) (gh235 : G234) (I232 : G234 → Bool → Int → Mem → Prop) (mu233 : G234 → Bool → Int → Nat) (more256 : Bool) (M257 : Mem) (K : Value → Mem → Prop) : Prop :=
  (InI (x230 + 1) ∧ ∃ (gh : G234), I232 gh more256 (x230 + 1) M257 ∧ mu233 gh more256 (x230 + 1) < mu233 gh235 more229 x230)
set_option linter.unusedVariables false in
def S_first_First_J1 (ga1 : Option Addr) (gl2 : Nat) (gc3 : Nat) (M : Mem) (L : Nat → Prop) (xa5 : Option Addr) (xl6 : Nat) (xc7 : Nat) (M9 : Mem) (K : Value → Mem → Prop) : Prop :=
  (∀ (M18 : Mem) (ad16 : Option Addr) (cap17 : Nat), NewRow M9 M18 55 4 ad16 (((gl2 : Nat) : Int).toNat) cap17 (repl ((gl2 : Nat) : Int).toNat [(Value.int .u64 0), (Value.int .u64 0), (Value.int .u64 0), (Value.int .u64 0)]) → (∀ (b14 : Nat), (∀ (M19 : Mem), M18 b14 = none → M19 = M18.add b14 (.cells [(Value.slice ga1 gl2 gc3), (Value.slice xa5 xl6 xc7), (Value.slice ad16 (((gl2 : Nat) : Int).toNat) cap17)].toArray 129 (0, 0)) → (∃ (G179 : Type) (I177 : G179 → Bool → Mem → Prop) (mu178 : G179 → Bool → Nat) (gz181 : G179), I177 gz181 true M19 ∧ ∀ (gh180 : G179) (more175 : Bool) (M176 : Mem), (I177 gh180 more175 M176 → ((more175 = true → (∃ (G234 : Type) (I232 : G234 → Bool → Int → Mem → Prop) (mu233 : G234 → Bool → Int → Nat) (gz236 : G234), I232 gz236 false 0 M176 ∧ ∀ (gh235 : G234) (more229 : Bool) (x230 : Int) (M231 : Mem), (I232 gh235 more229 x230 M231 → ((x230 < ((gl2 : Nat) : Int) → (∃ (b237 o238 : Nat), ga1 = some ⟨b237, o238, none⟩ ∧ (0 : Int) ≤ x230 ∧ x230 < ((gl2 : Nat) : Int) ∧ (∃ (x239 : X_api_Rule), At M231 b237 (o238 + x230.toNat * 8) x239.cells ∧ (CallW Try.prog 74 #[(Value.pointer (some ⟨b14, 0, none⟩)), x239.Body.val] M231 (Wr L M) (fun v M242 => ∃ (x241 : X_api_Set), v = x241.val ∧ (∃ (xa244 : Option Addr) (xl245 : Nat) (xc246 : Nat), At M242 b14 2 [(Value.slice xa244 xl245 xc246)] ∧ (∃ (b247 o248 : Nat), xa244 = some ⟨b247, o248, none⟩ ∧ (0 : Int) ≤ x230 ∧ x230 < ((xl245 : Nat) : Int) ∧ (∃ (x249 : X_api_Set), At M242 b247 (o248 + x230.toNat * 4) x249.cells ∧ ((¬ ((cellsEq [x241.w0, x241.w1, x241.w2, x241.w3] [x249.w0, x249.w1, x249.w2, x249.w3]) = true) → (∃ (xa250 : Option Addr) (xl251 : Nat) (xc252 : Nat), At M242 b14 2 [(Value.slice xa250 xl251 xc252)] ∧ (∃ (b253 o254 : Nat), xa250 = some ⟨b253, o254, none⟩ ∧ (0 : Int) ≤ x230 ∧ x230 < ((xl251 : Nat) : Int) ∧ (Has M242 b253 (o254 + x230.toNat * 4) 4 ∧ Wr L M b253 ∧ ∀ (M255 : Mem), M255 = M242.put b253 (o254 + x230.toNat * 4) x241.cells → (S_first_First_J2 more229 x230 G234 gh235 I232 mu233 true M255 K))))) ∧ (¬ (¬ ((cellsEq [x241.w0, x241.w1, x241.w2, x241.w3] [x249.w0, x249.w1, x249.w2, x249.w3]) = true)) → (S_first_First_J2 more229 x230 G234 gh235 I232 mu233 more229 M242 K))))))))))) ∧ (¬ (x230 < ((gl2 : Nat) : Int)) → ∃ (gh : G179), I177 gh more229 M231 ∧ mu178 gh more229 < mu178 gh180 more175))))) ∧ (¬ (more175 = true) → (∃ (xa258 : Option Addr) (xl259 : Nat) (xc260 : Nat), At M176 b14 2 [(Value.slice xa258 xl259 xc260)] ∧ (∀ M', M176.le M' → K (Value.tuple #[(Value.slice xa258 xl259 xc260), (Value.int .i64 0)]) M')))))))))
set_option linter.unusedVariables false in
def S_first_First (ga1 : Option Addr) (gl2 : Nat) (gc3 : Nat) (M : Mem) (L : Nat → Prop) (K : Value → Mem → Prop) : Prop :=
  (CallE Try.prog 24 #[(Value.agg #[(Value.slice ga1 gl2 gc3)])] M (fun v M9 => ∃ (xa5 : Option Addr) (xl6 : Nat) (xc7 : Nat) (x8 : Int), v = (Value.tuple #[(Value.slice xa5 xl6 xc7), (Value.int .i64 x8)]) ∧ (((x8 : Int) ≠ 0 → (∀ M', M9.le M' → K (Value.tuple #[(Value.slice none 0 0), (Value.int .i64 x8)]) M')) ∧ (¬ ((x8 : Int) ≠ 0) → ((0 : Int) ≤ ((gl2 : Nat) : Int) ∧ ((gl2 : Nat) : Int) ≤ ((gl2 : Nat) : Int) ∧ ((gl2 : Nat) : Int).toNat * 32 ≤ 140737488355328 ∧ (S_first_First_J1 ga1 gl2 gc3 M L xa5 xl6 xc7 M9 K))))))
set_option linter.unusedVariables false in
set_option maxRecDepth 100000 in
theorem s_first_First (ga1 : Option Addr) (gl2 : Nat) (gc3 : Nat) (M : Mem) (L : Nat → Prop) (K : Value → Mem → Prop) (hS : S_first_First ga1 gl2 gc3 M L K) : CallW Try.prog 30 #[(Value.agg #[(Value.slice ga1 gl2 gc3)])] M L K := by
  refine enterW Try.func30 rfl 53 rfl (Nat.le_of_ble_eq_true rfl) (fun E a hs => ?_)
  unfold S_first_First at hS
  have hMM := WX.refl M E
  change Sx 53 E (bwW E M L) M E a [(0, (Value.agg #[(Value.slice ga1 gl2 gc3)]))] [] [] at hs
  refine Wp.seq (Wp.region (stepBox [(Value.slice ga1 gl2 gc3)] hs rfl rfl rfl (by decide) (fun _ _ b4 hEb4 hs => ?_)))
  refine sP (Value.slice none 0 0) hs fun _ hs => ?_
  refine sP (Value.int .i64 0) hs fun _ hs => ?_
  refine wpList_nil (Wp.seq (Wp.region (sY (Value.agg #[(Value.slice ga1 gl2 gc3)]) hs (Yl.loadB (vs := [(Value.slice ga1 gl2 gc3)]) true 0 rfl rfl rfl (by kernel_rfl) rfl) fun _ hs => ?_)))
  refine stepCallE [(Value.agg #[(Value.slice ga1 gl2 gc3)])] hs rfl ⟨_, rfl, rfl⟩ rfl Try.func24 rfl (by kernel_rfl) (by decide) hS (fun _ _ M9 v hle hnew hS hs => ?_)
  have hMM := hMM.next hle hnew
  obtain ⟨xa5, xl6, xc7, x8, hv, hS⟩ := hS
  subst hv
  refine sP (Value.tuple #[(Value.slice xa5 xl6 xc7), (Value.int .i64 x8)]) hs fun _ hs => ?_
  refine sP (Value.slice xa5 xl6 xc7) hs fun _ hs => ?_
  refine sP (Value.int .i64 x8) hs fun _ hs => ?_
  refine sP (Value.slice xa5 xl6 xc7) hs fun _ hs => ?_
  refine sP (Value.int .i64 x8) hs fun _ hs => ?_
  refine wpList_nil (Wp.seq (Wp.seq (Wp.region (sP (Value.int .i64 x8) hs fun _ hs => ?_))))
  refine sP (Value.bool ((x8 : Int) != (0 : Int))) hs fun _ hs => ?_
  refine wpList_nil (Wp.cond hs rfl rfl bne_iff_ne (fun hc => ?_) (fun hc => ?_))
  · have hS := hS.1 hc
    refine Wp.seq (Wp.region (sP (Value.int .i64 x8) hs fun _ hs => ?_))
    refine sP (Value.slice none 0 0) hs fun _ hs => ?_
    refine sP (Value.int .i64 x8) hs fun _ hs => ?_
    exact wpList_nil (Wp.ret (leaveW (K := K) hs (resTT hs rfl rfl rfl) hMM hS))
  · have hS := hS.2 hc
    refine Wp.skip (Wp.join (fun a w => ∃ (b14 : Nat) (rv15 : Value), E.heap.size ≤ b14 ∧ Sx 53 E (bwW E M L) M9 w a [(1, (Value.pointer (some ⟨b4, 0, none⟩))), (6, (Value.pointer (some ⟨b14, 0, none⟩)))] [⟨b14, 129, [(Value.slice ga1 gl2 gc3), (Value.slice xa5 xl6 xc7), rv15]⟩, ⟨b4, 24, [(Value.slice ga1 gl2 gc3)]⟩] [⟨rv15, 55, 4, (((gl2 : Nat) : Int).toNat), (repl ((gl2 : Nat) : Int).toNat [(Value.int .u64 0), (Value.int .u64 0), (Value.int .u64 0), (Value.int .u64 0)]), true⟩] ∧ (S_first_First_J1 ga1 gl2 gc3 M L xa5 xl6 xc7 M9 K)) ?_ ?_)
    · refine Wp.regionD [true, true, true, true, true, true, true, true, false] hs (by kernel_rfl) rfl [⟨b4, 24, [(Value.slice ga1 gl2 gc3)]⟩] (fun _ h => h) [] (fun _ h => h) (fun _ hs hC => ?_)
      have hL := Mem.le.refl M9
      refine stepDY (v := (Value.agg #[(Value.slice ga1 gl2 gc3)])) 0 [6, 8] hs hC QZ.no rfl (wanted_none rfl) rfl (by decide) (by kernel_rfl) (by kernel_rfl) (by kernel_rfl) (Yl.loadB (vs := [(Value.slice ga1 gl2 gc3)]) true 0 rfl rfl rfl (by kernel_rfl) rfl) (fun _ hs => ?_)
      refine dP (Value.slice xa5 xl6 xc7) 1 [6, 8] hs QZ.no (wanted_none rfl) fun _ hs => ?_
      refine dP (Value.pointer (some ⟨b4, 0, none⟩)) 2 [3, 4, 5, 6, 8] hs QZ.no (wanted_none rfl) fun _ hs => ?_
      refine stepDY (v := (Value.slice ga1 gl2 gc3)) 3 [4, 5, 6, 8] hs hC QZ.no rfl (wanted_none rfl) rfl (by decide) (by kernel_rfl) (by kernel_rfl) (by kernel_rfl) (Yl.loadB (vs := [(Value.slice ga1 gl2 gc3)]) false 0 rfl rfl rfl (by kernel_rfl) rfl) (fun _ hs => ?_)
      refine dP (Value.int .i64 ((gl2 : Nat) : Int)) 4 [5, 6, 8] hs QZ.no (wanted_none rfl) fun _ hs => ?_
      refine WpD.ors (by kernel_rfl : _ = [5, 7]) ⟨?_, ?_, trivial⟩
      · refine stepOne 5 rfl (wanted_none rfl) #[] ?_
        obtain ⟨h0, h1, hB, hS⟩ := hS
        refine stepMakeN (e := 55) (size := 4) (bytes := 32) [(Value.int .u64 0), (Value.int .u64 0), (Value.int .u64 0), (Value.int .u64 0)] hs rfl rfl rfl rfl (by kernel_rfl) (by kernel_rfl) rfl (by decide) (by decide) h0 h1 hB (fun _ _ rv10 hs => ?_)
        refine wpList_nil (⟨fun _ _ => hs.cxle hL (List.Sublist.refl _) (.cons _ List.Sublist.slnil), ?_⟩)
        have hC := hs.cxle hL (List.Sublist.refl _) (.cons _ List.Sublist.slnil)
        obtain ⟨ad11, cap12, hv, hcp, hxl⟩ := hs.rowform 0 rfl
        dsimp only at hv hcp hxl
        subst hv
        refine dP (Value.agg #[(Value.slice ga1 gl2 gc3), (Value.slice xa5 xl6 xc7), (Value.slice ad11 (((gl2 : Nat) : Int).toNat) cap12)]) 6 [8] hs QZ.no (wanted_none rfl) fun _ hs => ?_
        refine stepDE 7 rfl (wanted_none rfl) (by kernel_rfl) #[] ?_
        refine stepAlloc [(Value.slice none 0 0), (Value.slice none 0 0), (Value.slice none 0 0)] hs (by kernel_rfl) (by decide) (fun _ _ b13 hEb13 hs => ?_)
        refine wpList_nil (⟨fun _ _ => hs.cxle hL (.cons _ (.cons_cons _ List.Sublist.slnil)) (.cons _ List.Sublist.slnil), ?_⟩)
        have hC := hs.cxle hL (.cons _ (.cons_cons _ List.Sublist.slnil)) (.cons _ List.Sublist.slnil)
        refine stepDE 8 rfl (wanted_none rfl) (by kernel_rfl) #[] ?_
        refine stepStoreB 0 (vs := [(Value.slice ga1 gl2 gc3), (Value.slice xa5 xl6 xc7), (Value.slice ad11 (((gl2 : Nat) : Int).toNat) cap12)]) hs rfl rfl rfl rfl rfl rfl (by kernel_rfl) (Nat.le_of_ble_eq_true rfl) rfl (fun _ _ hs => ?_)
        replace hs := hs.chbx (bs' := [⟨b13, 129, [(Value.slice ga1 gl2 gc3), (Value.slice xa5 xl6 xc7), (Value.slice ad11 (((gl2 : Nat) : Int).toNat) cap12)]⟩, ⟨b4, 24, [(Value.slice ga1 gl2 gc3)]⟩]) rfl
        refine wpList_nil (⟨fun h => absurd h (by decide), ?_⟩)
        refine WpD.done (by kernel_rfl) ?_ _
        exact ⟨b13, (Value.slice ad11 (((gl2 : Nat) : Int).toNat) cap12), hEb13, (hs.weak (List.Sublist.refl _) (List.Sublist.refl _) ⟨rfl, rfl, trivial⟩), hS⟩
      · refine stepOne 7 rfl (wanted_none rfl) #[] ?_
        refine stepAlloc [(Value.slice none 0 0), (Value.slice none 0 0), (Value.slice none 0 0)] hs (by kernel_rfl) (by decide) (fun _ _ b13 hEb13 hs => ?_)
        refine wpList_nil (⟨fun _ _ => hs.cxle hL (.cons _ (.cons_cons _ List.Sublist.slnil)) (List.Sublist.refl _), ?_⟩)
        have hC := hs.cxle hL (.cons _ (.cons_cons _ List.Sublist.slnil)) (List.Sublist.refl _)
        refine stepDE 5 rfl (wanted_none rfl) (by kernel_rfl) #[] ?_
        obtain ⟨h0, h1, hB, hS⟩ := hS
        refine stepMakeN (e := 55) (size := 4) (bytes := 32) [(Value.int .u64 0), (Value.int .u64 0), (Value.int .u64 0), (Value.int .u64 0)] hs rfl rfl rfl rfl (by kernel_rfl) (by kernel_rfl) rfl (by decide) (by decide) h0 h1 hB (fun _ _ rv10 hs => ?_)
        refine wpList_nil (⟨fun _ _ => hs.cxle hL (.cons _ (.cons_cons _ List.Sublist.slnil)) (.cons _ List.Sublist.slnil), ?_⟩)
        have hC := hs.cxle hL (.cons _ (.cons_cons _ List.Sublist.slnil)) (.cons _ List.Sublist.slnil)
        refine stepDE 6 rfl (wanted_none rfl) (by kernel_rfl) #[] ?_
        obtain ⟨ad11, cap12, hv, hcp, hxl⟩ := hs.rowform 0 rfl
        dsimp only at hv hcp hxl
        subst hv
        refine sP (Value.agg #[(Value.slice ga1 gl2 gc3), (Value.slice xa5 xl6 xc7), (Value.slice ad11 (((gl2 : Nat) : Int).toNat) cap12)]) hs fun _ hs => ?_
        refine wpList_nil (⟨fun _ h => h, ?_⟩)
        refine stepDE 8 rfl (wanted_none rfl) (by kernel_rfl) #[] ?_
        refine stepStoreB 0 (vs := [(Value.slice ga1 gl2 gc3), (Value.slice xa5 xl6 xc7), (Value.slice ad11 (((gl2 : Nat) : Int).toNat) cap12)]) hs rfl rfl rfl rfl rfl rfl (by kernel_rfl) (Nat.le_of_ble_eq_true rfl) rfl (fun _ _ hs => ?_)
        replace hs := hs.chbx (bs' := [⟨b13, 129, [(Value.slice ga1 gl2 gc3), (Value.slice xa5 xl6 xc7), (Value.slice ad11 (((gl2 : Nat) : Int).toNat) cap12)]⟩, ⟨b4, 24, [(Value.slice ga1 gl2 gc3)]⟩]) rfl
        refine wpList_nil (⟨fun h => absurd h (by decide), ?_⟩)
        refine WpD.done (by kernel_rfl) ?_ _
        exact ⟨b13, (Value.slice ad11 (((gl2 : Nat) : Int).toNat) cap12), hEb13, (hs.weak (List.Sublist.refl _) (List.Sublist.refl _) ⟨rfl, rfl, trivial⟩), hS⟩
    · intro a w hJ
      obtain ⟨b14, rv15, hEb14, hs, hS⟩ := hJ
      unfold S_first_First_J1 at hS
      refine Wp.seq (Wp.seq (Wp.region (sP (Value.bool true) hs fun _ hs => ?_)))
      refine wpList_nil (Wp.block ?_)
      obtain ⟨ad16, cap17, hv, hcp, hxl⟩ := hs.rowform 0 rfl
      dsimp only at hv hcp hxl
      subst hv
      obtain ⟨M18, hnr, hMM, hs⟩ := hs.releaseW hMM 0 rfl [] rfl
      have hS := hS M18 ad16 cap17 hnr
      have hS := hS b14
      obtain ⟨M19, hM2, hno, hMM, hs⟩ := hs.freezeW hMM 0 rfl hEb14 rfl
      have hS := hS M19 hno hM2
      obtain ⟨G179, I177, mu178, gz181, hI0, hst⟩ := hS
      refine Wp.loop (σ := G179 × (Bool) × (Mem)) (fun s a w => match s with | (gh180, more175, M176) => WX M176 M E ∧ Sx 53 E (bwW E M L) M176 w a [(1, (Value.pointer (some ⟨b4, 0, none⟩))), (6, (Value.pointer (some ⟨b14, 0, none⟩))), (7, (Value.bool more175))] [⟨b4, 24, [(Value.slice ga1 gl2 gc3)]⟩] [] ∧ I177 gh180 more175 M176) (fun s => match s with | (gh180, more175, M176) => mu178 gh180 more175) (gz181, true, M19) ⟨hMM, (hs.weak (List.Sublist.refl _) (List.Sublist.refl _) ⟨rfl, rfl, rfl, trivial⟩), hI0⟩ (fun s a w hI => ?_)
      obtain ⟨gh180, more175, M176⟩ := s
      obtain ⟨hMM, hs, hI⟩ := hI
      have hS := hst gh180 more175 M176 hI
      clear hst hI0 hI
      refine Wp.seq (Wp.seq (Wp.region (sP (Value.bool more175) hs fun _ hs => ?_)))
      refine wpList_nil (Wp.cond hs rfl rfl Iff.rfl (fun hc => ?_) (fun hc => ?_))
      · have hS := hS.1 hc
        refine Wp.skip (Wp.block (Wp.seq (Wp.region (sP (Value.bool false) hs fun _ hs => ?_))))
        refine wpList_nil (Wp.seq (Wp.region (sP (Value.pointer (some ⟨b4, 0, none⟩)) hs fun _ hs => ?_)))
        refine sY (Value.slice ga1 gl2 gc3) hs (Yl.loadB (vs := [(Value.slice ga1 gl2 gc3)]) false 0 rfl rfl rfl (by kernel_rfl) rfl) fun _ hs => ?_
        refine sP (Value.int .i64 ((gl2 : Nat) : Int)) hs fun _ hs => ?_
        refine sP (Value.int .i64 0) hs fun _ hs => ?_
        refine wpList_nil (Wp.block ?_)
        obtain ⟨G234, I232, mu233, gz236, hI0, hst⟩ := hS
        refine Wp.loop (σ := G234 × (Bool) × (Int) × (Mem)) (fun s a w => match s with | (gh235, more229, x230, M231) => WX M231 M E ∧ Sx 53 E (bwW E M L) M231 w a [(1, (Value.pointer (some ⟨b4, 0, none⟩))), (6, (Value.pointer (some ⟨b14, 0, none⟩))), (7, (Value.bool more229)), (28, (Value.slice ga1 gl2 gc3)), (29, (Value.int .i64 ((gl2 : Nat) : Int))), (30, (Value.int .i64 x230))] [⟨b4, 24, [(Value.slice ga1 gl2 gc3)]⟩] [] ∧ I232 gh235 more229 x230 M231) (fun s => match s with | (gh235, more229, x230, M231) => mu233 gh235 more229 x230) (gz236, false, 0, M176) ⟨hMM, (hs.weak (List.Sublist.refl _) (List.Sublist.refl _) ⟨rfl, rfl, rfl, rfl, rfl, rfl, trivial⟩), hI0⟩ (fun s a w hI => ?_)
        obtain ⟨gh235, more229, x230, M231⟩ := s
        obtain ⟨hMM, hs, hI⟩ := hI
        have hS := hst gh235 more229 x230 M231 hI
        clear hst hI0 hI
        refine Wp.seq (Wp.region (sP (Value.bool (decide (x230 < ((gl2 : Nat) : Int)))) hs fun _ hs => ?_))
        refine wpList_nil (Wp.seq (Wp.cond hs rfl rfl decide_eq_true_iff (fun hc => ?_) (fun hc => ?_)))
        · have hS := hS.1 hc
          refine Wp.skip (Wp.join (fun a w => ∃ (more256 : Bool) (M257 : Mem), WX M257 M E ∧ Sx 53 E (bwW E M L) M257 w a [(1, (Value.pointer (some ⟨b4, 0, none⟩))), (6, (Value.pointer (some ⟨b14, 0, none⟩))), (7, (Value.bool more256)), (28, (Value.slice ga1 gl2 gc3)), (29, (Value.int .i64 ((gl2 : Nat) : Int))), (30, (Value.int .i64 x230))] [⟨b4, 24, [(Value.slice ga1 gl2 gc3)]⟩] [] ∧ (S_first_First_J2 more229 x230 G234 gh235 I232 mu233 more256 M257 K)) ?_ ?_)
          · refine Wp.block (Wp.seq (Wp.region (sP (Value.int .i64 x230) hs fun _ hs => ?_)))
            obtain ⟨b237, o238, ha, h0, hl, hS⟩ := hS
            refine sY (Value.pointer (some ⟨b237, o238 + x230.toNat * 8, none⟩)) hs (Yl.indexS (e := 98) (sz := 8) rfl rfl rfl rfl (by kernel_rfl) (by kernel_rfl) ha h0 hl) fun _ hs => ?_
            obtain ⟨x239, hat, hS⟩ := hS
            refine sY x239.val hs (Yl.loadV (vs := x239.cells) true rfl rfl (by kernel_rfl) hat) fun _ hs => ?_
            refine stepAlloc [(Value.string (mkS [])), (Value.int .i64 0), (Value.int .u64 0), (Value.int .u64 0), (Value.int .u64 0), (Value.int .u64 0), (Value.string (mkS [])), (Value.slice none 0 0)] hs (by kernel_rfl) (by decide) (fun _ _ b240 hEb240 hs => ?_)
            refine sP (Value.int .i64 x230) hs fun _ hs => ?_
            refine stepStoreB 0 (vs := [(Value.string (mkS x239.Name)), (Value.int .i64 x239.Body.Kind), (Value.int .u64 x239.Body.Set.w0), (Value.int .u64 x239.Body.Set.w1), (Value.int .u64 x239.Body.Set.w2), (Value.int .u64 x239.Body.Set.w3), (Value.string (mkS x239.Body.Text)), (Value.slice x239.Body.Kids_a x239.Body.Kids_l x239.Body.Kids_c)]) hs rfl rfl rfl rfl rfl rfl (by kernel_rfl) (Nat.le_of_ble_eq_true rfl) rfl (fun _ _ hs => ?_)
            replace hs := hs.chbx (bs' := [⟨b240, 98, [(Value.string (mkS x239.Name)), (Value.int .i64 x239.Body.Kind), (Value.int .u64 x239.Body.Set.w0), (Value.int .u64 x239.Body.Set.w1), (Value.int .u64 x239.Body.Set.w2), (Value.int .u64 x239.Body.Set.w3), (Value.string (mkS x239.Body.Text)), (Value.slice x239.Body.Kids_a x239.Body.Kids_l x239.Body.Kids_c)]⟩, ⟨b4, 24, [(Value.slice ga1 gl2 gc3)]⟩]) rfl
            refine wpList_nil (Wp.seq (Wp.region (sP (Value.pointer (some ⟨b240, 1, none⟩)) hs fun _ hs => ?_)))
            refine sY x239.Body.val hs (Yl.loadB (vs := x239.Body.cells) true 0 rfl rfl rfl (by kernel_rfl) rfl) fun _ hs => ?_
            refine stepCallW [(Value.pointer (some ⟨b14, 0, none⟩)), x239.Body.val] hs hMM rfl ⟨_, rfl, rfl⟩ rfl Try.func74 rfl (by kernel_rfl) (by decide) hS (fun _ _ M242 v hMM hS hs => ?_)
            obtain ⟨x241, hv, hS⟩ := hS
            subst hv
            refine stepAlloc [(Value.int .u64 0), (Value.int .u64 0), (Value.int .u64 0), (Value.int .u64 0)] hs (by kernel_rfl) (by decide) (fun _ _ b243 hEb243 hs => ?_)
            refine stepStoreB 0 (vs := [(Value.int .u64 x241.w0), (Value.int .u64 x241.w1), (Value.int .u64 x241.w2), (Value.int .u64 x241.w3)]) hs rfl rfl rfl rfl rfl rfl (by kernel_rfl) (Nat.le_of_ble_eq_true rfl) rfl (fun _ _ hs => ?_)
            replace hs := hs.chbx (bs' := [⟨b243, 55, [(Value.int .u64 x241.w0), (Value.int .u64 x241.w1), (Value.int .u64 x241.w2), (Value.int .u64 x241.w3)]⟩, ⟨b240, 98, [(Value.string (mkS x239.Name)), (Value.int .i64 x239.Body.Kind), (Value.int .u64 x239.Body.Set.w0), (Value.int .u64 x239.Body.Set.w1), (Value.int .u64 x239.Body.Set.w2), (Value.int .u64 x239.Body.Set.w3), (Value.string (mkS x239.Body.Text)), (Value.slice x239.Body.Kids_a x239.Body.Kids_l x239.Body.Kids_c)]⟩, ⟨b4, 24, [(Value.slice ga1 gl2 gc3)]⟩]) rfl
            refine wpList_nil (Wp.seq (Wp.regionD [true, true, true, true, true, true, true] hs (by kernel_rfl) rfl [⟨b243, 55, [(Value.int .u64 x241.w0), (Value.int .u64 x241.w1), (Value.int .u64 x241.w2), (Value.int .u64 x241.w3)]⟩, ⟨b240, 98, [(Value.string (mkS x239.Name)), (Value.int .i64 x239.Body.Kind), (Value.int .u64 x239.Body.Set.w0), (Value.int .u64 x239.Body.Set.w1), (Value.int .u64 x239.Body.Set.w2), (Value.int .u64 x239.Body.Set.w3), (Value.string (mkS x239.Body.Text)), (Value.slice x239.Body.Kids_a x239.Body.Kids_l x239.Body.Kids_c)]⟩, ⟨b4, 24, [(Value.slice ga1 gl2 gc3)]⟩] (fun _ h => h) [] (fun _ h => h) (fun _ hs hC => ?_)))
            have hL := Mem.le.refl M242
            refine stepDY (v := x241.val) 0 [6] hs hC QZ.no rfl (wanted_none rfl) rfl (by decide) (by kernel_rfl) (by kernel_rfl) (by kernel_rfl) (Yl.loadB (vs := x241.cells) true 0 rfl rfl rfl (by kernel_rfl) rfl) (fun _ hs => ?_)
            refine dP (Value.pointer (some ⟨b14, 2, none⟩)) 1 [2, 4, 5, 6] hs QZ.no (wanted_none rfl) fun _ hs => ?_
            obtain ⟨xa244, xl245, xc246, hat, hS⟩ := hS
            refine stepDY (v := (Value.slice xa244 xl245 xc246)) 2 [4, 5, 6] hs hC QZ.no rfl (wanted_none rfl) rfl (by decide) (by kernel_rfl) (by kernel_rfl) (by kernel_rfl) (Yl.loadV (vs := [(Value.slice xa244 xl245 xc246)]) false rfl rfl (by kernel_rfl) hat) (fun _ hs => ?_)
            refine stepDE 3 rfl (wanted_none rfl) (by kernel_rfl) #[] ?_
            refine sP (Value.int .i64 x230) hs fun _ hs => ?_
            refine wpList_nil (⟨fun _ h => h, ?_⟩)
            refine stepDE 4 rfl (wanted_none rfl) (by kernel_rfl) #[] ?_
            obtain ⟨b247, o248, ha, h0, hl, hS⟩ := hS
            refine sY (Value.pointer (some ⟨b247, o248 + x230.toNat * 4, none⟩)) hs (Yl.indexS (e := 55) (sz := 4) rfl rfl rfl rfl (by kernel_rfl) (by kernel_rfl) ha h0 hl) fun _ hs => ?_
            refine wpList_nil (⟨fun _ h => h, ?_⟩)
            refine stepDE 5 rfl (wanted_none rfl) (by kernel_rfl) #[] ?_
            obtain ⟨x249, hat, hS⟩ := hS
            refine sY x249.val hs (Yl.loadV (vs := x249.cells) true rfl rfl (by kernel_rfl) hat) fun _ hs => ?_
            refine wpList_nil (⟨fun _ h => h, ?_⟩)
            refine stepDE 6 rfl (wanted_none rfl) (by kernel_rfl) #[] ?_
            refine sY (Value.bool (!(cellsEq [x241.w0, x241.w1, x241.w2, x241.w3] [x249.w0, x249.w1, x249.w2, x249.w3]))) hs (Yl.neqA (n := 4) (e := 53) (k := .u64) (xs := [x241.w0, x241.w1, x241.w2, x241.w3]) (ys := [x249.w0, x249.w1, x249.w2, x249.w3]) rfl (by kernel_rfl) (by kernel_rfl) (by kernel_rfl) (by kernel_rfl) rfl rfl rfl rfl rfl rfl) fun _ hs => ?_
            refine wpList_nil (⟨fun _ h => h, ?_⟩)
            refine WpD.done (by kernel_rfl) ?_ _
            refine Wp.cond hs rfl rfl (bnot_iff Iff.rfl) (fun hc => ?_) (fun hc => ?_)
            · have hS := hS.1 hc
              refine Wp.region (sP (Value.pointer (some ⟨b14, 2, none⟩)) hs fun _ hs => ?_)
              obtain ⟨xa250, xl251, xc252, hat, hS⟩ := hS
              refine sY (Value.slice xa250 xl251 xc252) hs (Yl.loadV (vs := [(Value.slice xa250 xl251 xc252)]) false rfl rfl (by kernel_rfl) hat) fun _ hs => ?_
              refine sP (Value.int .i64 x230) hs fun _ hs => ?_
              refine sY x241.val hs (Yl.loadB (vs := x241.cells) true 0 rfl rfl rfl (by kernel_rfl) rfl) fun _ hs => ?_
              obtain ⟨b253, o254, ha, h0, hl, hS⟩ := hS
              refine sY (Value.pointer (some ⟨b253, o254 + x230.toNat * 4, none⟩)) hs (Yl.indexS (e := 55) (sz := 4) rfl rfl rfl rfl (by kernel_rfl) (by kernel_rfl) ha h0 hl) fun _ hs => ?_
              obtain ⟨hhas, hwr, hS⟩ := hS
              refine stepStoreW (vs := x241.cells) hs hMM rfl rfl rfl rfl rfl (by kernel_rfl) rfl hhas hwr (fun _ _ M255 hM2 hMM hs => ?_)
              have hS := hS M255 hM2
              refine sP (Value.bool true) hs fun _ hs => ?_
              exact wpList_nil (⟨true, M255, hMM, (hs.weak (.cons _ (.cons _ (.cons_cons _ List.Sublist.slnil))) (List.Sublist.refl _) ⟨rfl, rfl, rfl, rfl, rfl, rfl, trivial⟩), hS⟩)
            · have hS := hS.2 hc
              exact Wp.skip (⟨more229, M242, hMM, (hs.weak (.cons _ (.cons _ (.cons_cons _ List.Sublist.slnil))) (List.Sublist.refl _) ⟨rfl, rfl, rfl, rfl, rfl, rfl, trivial⟩), hS⟩)
          · intro a w hJ
            obtain ⟨more256, M257, hMM, hs, hS⟩ := hJ
            unfold S_first_First_J2 at hS
            refine Wp.region ?_
            obtain ⟨hI, hS⟩ := hS
            refine sY (Value.int .i64 (x230 + 1)) hs (Yl.eq (Yl.pure (v := Value.int .i64 (IntKind.wrap .i64 (x230 + 1))) rfl (fun _ => by kernel_rfl)) (congrArg (Value.int .i64) (wrap_in hI))) fun _ hs => ?_
            refine sP (Value.int .i64 (x230 + 1)) hs fun _ hs => ?_
            refine wpList_nil ?_
            obtain ⟨gh, hI1, hI2⟩ := hS
            exact ⟨(gh, more256, x230 + 1, M257), ⟨hMM, (hs.weak (List.Sublist.refl _) (List.Sublist.refl _) ⟨rfl, rfl, rfl, rfl, rfl, rfl, trivial⟩), hI1⟩, hI2⟩
        · have hS := hS.2 hc
          refine Wp.exit rfl ?_
          obtain ⟨gh, hI1, hI2⟩ := hS
          exact ⟨(gh, more229, M231), ⟨hMM, (hs.weak (List.Sublist.refl _) (List.Sublist.refl _) ⟨rfl, rfl, rfl, trivial⟩), hI1⟩, hI2⟩
      · have hS := hS.2 hc
        refine Wp.exit rfl (Wp.seq (Wp.region (sP (Value.pointer (some ⟨b14, 2, none⟩)) hs fun _ hs => ?_)))
        obtain ⟨xa258, xl259, xc260, hat, hS⟩ := hS
        refine sY (Value.slice xa258 xl259 xc260) hs (Yl.loadV (vs := [(Value.slice xa258 xl259 xc260)]) false rfl rfl (by kernel_rfl) hat) fun _ hs => ?_
        refine sP (Value.slice xa258 xl259 xc260) hs fun _ hs => ?_
        refine sP (Value.int .i64 0) hs fun _ hs => ?_
        exact wpList_nil (Wp.ret (leaveW (K := K) hs (resTT hs rfl rfl rfl) hMM hS))
theorem e_first_First (ga1 : Option Addr) (gl2 : Nat) (gc3 : Nat) (M : Mem) (K : Value → Mem → Prop) (hS : S_first_First ga1 gl2 gc3 M (fun _ => False) K) : CallE Try.prog 30 #[(Value.agg #[(Value.slice ga1 gl2 gc3)])] M K := (s_first_First _ _ _ _ _ _ hS).toE
set_option linter.unusedVariables false in
def S_chaffref_begins_J1 (x28 : Int) (I29 : Int → Prop) (mu30 : Int → Nat) (x37 : Bool) (K : Value → Prop) : Prop :=
  ((x37 = true → K (Value.bool false)) ∧ (¬ (x37 = true) → (InI (x28 + 1) ∧ I29 (x28 + 1) ∧ mu30 (x28 + 1) < mu30 x28)))
set_option linter.unusedVariables false in
def S_chaffref_begins (ga1 : Option Addr) (gl2 : Nat) (gc3 : Nat) (maya4 : Option Addr) (mayl5 : Nat) (mayc6 : Nat) (rulesa7 : Option Addr) (rulesl8 : Nat) (rulesc9 : Nat) (e10 : X_api_Expr) (b11 : Int) (M : Mem) (K : Value → Prop) : Prop :=
  (((e10.Kind : Int) = 2 → (CallE Try.prog 85 #[e10.Set.val, (Value.int .i64 b11)] M (fun v _ => ∃ (x14 : Bool), v = (Value.bool x14) ∧ K (Value.bool x14)))) ∧ (¬ ((e10.Kind : Int) = 2) → (((e10.Kind : Int) = 3 → (∃ c15 : UInt8, (0 : Int) ≤ 0 ∧ e10.Text[(0 : Int).toNat]? = some c15 ∧ K (Value.bool ((IntKind.wrap .i64 (c15.toNat : Int) : Int) == (b11 : Int))))) ∧ (¬ ((e10.Kind : Int) = 3) → (((e10.Kind : Int) = 4 → (CallE Try.prog 55 #[(Value.agg #[(Value.slice ga1 gl2 gc3)]), (Value.string (mkS e10.Text))] M (fun v _ => ∃ (x16 : Int), v = (Value.int .i64 x16) ∧ (∃ (b17 o18 : Nat), rulesa7 = some ⟨b17, o18, none⟩ ∧ (0 : Int) ≤ x16 ∧ x16 < ((rulesl8 : Nat) : Int) ∧ (∃ (x19 : Bool), At M b17 (o18 + x16.toNat * 1) [(Value.bool x19)] ∧ K (Value.bool x19)))))) ∧ (¬ ((e10.Kind : Int) = 4) → ((e10.Kind ≥ 10 → K (Value.bool false)) ∧ (¬ (e10.Kind ≥ 10) → (∃ (I29 : Int → Prop) (mu30 : Int → Nat), I29 0 ∧ ∀ (x28 : Int), (I29 x28 → ((x28 < ((e10.Kids_l : Nat) : Int) → (∃ (b31 o32 : Nat), e10.Kids_a = some ⟨b31, o32, none⟩ ∧ (0 : Int) ≤ x28 ∧ x28 < ((e10.Kids_l : Nat) : Int) ∧ (∃ (x33 : X_api_Expr), At M b31 (o32 + x28.toNat * 7) x33.cells ∧ (CallE Try.prog 75 #[(Value.agg #[(Value.slice ga1 gl2 gc3)]), (Value.slice maya4 mayl5 mayc6), (Value.slice rulesa7 rulesl8 rulesc9), x33.val, (Value.int .i64 b11)] M (fun v _ => ∃ (x35 : Bool), v = (Value.bool x35) ∧ ((x35 = true → K (Value.bool true)) ∧ (¬ (x35 = true) → (((e10.Kind : Int) = 5 → (CallE Try.prog 67 #[(Value.agg #[(Value.slice ga1 gl2 gc3)]), (Value.slice maya4 mayl5 mayc6), x33.val] M (fun v _ => ∃ (x36 : Int), v = (Value.int .i64 x36) ∧ (S_chaffref_begins_J1 x28 I29 mu30 ((bAnd .i64 x36 1 : Int) == (0 : Int)) K)))) ∧ (¬ ((e10.Kind : Int) = 5) → (S_chaffref_begins_J1 x28 I29 mu30 false K)))))))))) ∧ (¬ (x28 < ((e10.Kids_l : Nat) : Int)) → K (Value.bool false)))))))))))))
set_option linter.unusedVariables false in
set_option maxRecDepth 100000 in
theorem s_chaffref_begins (ga1 : Option Addr) (gl2 : Nat) (gc3 : Nat) (maya4 : Option Addr) (mayl5 : Nat) (mayc6 : Nat) (rulesa7 : Option Addr) (rulesl8 : Nat) (rulesc9 : Nat) (e10 : X_api_Expr) (b11 : Int) (M : Mem) (K : Value → Prop) (hS : S_chaffref_begins ga1 gl2 gc3 maya4 mayl5 mayc6 rulesa7 rulesl8 rulesc9 e10 b11 M K) : CallE Try.prog 75 #[(Value.agg #[(Value.slice ga1 gl2 gc3)]), (Value.slice maya4 mayl5 mayc6), (Value.slice rulesa7 rulesl8 rulesc9), e10.val, (Value.int .i64 b11)] M (fun v _ => K v) := by
  refine enterE Try.func75 rfl 71 rfl (Nat.le_of_ble_eq_true rfl) (fun E a hs => ?_)
  unfold S_chaffref_begins at hS
  have hMM := MX.refl M E
  change Sx 71 E [] M E a [(0, (Value.agg #[(Value.slice ga1 gl2 gc3)])), (1, (Value.slice maya4 mayl5 mayc6)), (2, (Value.slice rulesa7 rulesl8 rulesc9)), (3, e10.val), (4, (Value.int .i64 b11))] [] [] at hs
  refine Wp.seq (Wp.region (stepBox [(Value.slice ga1 gl2 gc3)] hs rfl rfl rfl (by decide) (fun _ _ b12 hEb12 hs => ?_)))
  refine stepBox [(Value.int .i64 e10.Kind), (Value.int .u64 e10.Set.w0), (Value.int .u64 e10.Set.w1), (Value.int .u64 e10.Set.w2), (Value.int .u64 e10.Set.w3), (Value.string (mkS e10.Text)), (Value.slice e10.Kids_a e10.Kids_l e10.Kids_c)] hs rfl rfl rfl (by decide) (fun _ _ b13 hEb13 hs => ?_)
  refine sP (Value.bool false) hs fun _ hs => ?_
  refine wpList_nil (Wp.seq (Wp.block (Wp.seq (Wp.region (sP (Value.pointer (some ⟨b13, 0, none⟩)) hs fun _ hs => ?_)))))
  refine sY (Value.int .i64 e10.Kind) hs (Yl.loadB (vs := [(Value.int .i64 e10.Kind)]) false 0 rfl rfl rfl (by kernel_rfl) rfl) fun _ hs => ?_
  refine sP (Value.bool ((e10.Kind : Int) == (2 : Int))) hs fun _ hs => ?_
  refine sP (Value.bool ((e10.Kind : Int) == (2 : Int))) hs fun _ hs => ?_
  refine wpList_nil (Wp.cond hs rfl rfl beq_iff_eq (fun hc => ?_) (fun hc => ?_))
  · have hS := hS.1 hc
    refine Wp.seq (Wp.region (sP (Value.pointer (some ⟨b13, 1, none⟩)) hs fun _ hs => ?_))
    refine sY e10.Set.val hs (Yl.loadB (vs := e10.Set.cells) true 0 rfl rfl rfl (by kernel_rfl) rfl) fun _ hs => ?_
    refine sP (Value.int .i64 b11) hs fun _ hs => ?_
    refine stepCallP [e10.Set.val, (Value.int .i64 b11)] hs rfl ⟨_, rfl, rfl⟩ rfl Try.func85 rfl (by kernel_rfl) (by decide) hS (fun _ _ v hS hs => ?_)
    obtain ⟨x14, hv, hS⟩ := hS
    subst hv
    refine sP (Value.bool x14) hs fun _ hs => ?_
    exact wpList_nil (Wp.ret (leaveE (K := fun v _ => K v) hs (resT hs rfl rfl) hMM.2 (fun _ _ => hS)))
  · have hS := hS.2 hc
    refine Wp.seq (Wp.region (sP (Value.pointer (some ⟨b13, 0, none⟩)) hs fun _ hs => ?_))
    refine sY (Value.int .i64 e10.Kind) hs (Yl.loadB (vs := [(Value.int .i64 e10.Kind)]) false 0 rfl rfl rfl (by kernel_rfl) rfl) fun _ hs => ?_
    refine sP (Value.bool ((e10.Kind : Int) == (3 : Int))) hs fun _ hs => ?_
    refine sP (Value.bool ((e10.Kind : Int) == (3 : Int))) hs fun _ hs => ?_
    refine wpList_nil (Wp.cond hs rfl rfl beq_iff_eq (fun hc => ?_) (fun hc => ?_))
    · have hS := hS.1 hc
      refine Wp.seq (Wp.region (sP (Value.pointer (some ⟨b13, 5, none⟩)) hs fun _ hs => ?_))
      refine sY (Value.string (mkS e10.Text)) hs (Yl.loadB (vs := [(Value.string (mkS e10.Text))]) false 0 rfl rfl rfl (by kernel_rfl) rfl) fun _ hs => ?_
      obtain ⟨c15, h0, hi, hS⟩ := hS
      refine sY (Value.int .u8 (c15.toNat : Int)) hs (Yl.indexStr rfl rfl rfl rfl (by kernel_rfl) h0 hi) fun _ hs => ?_
      refine sP (Value.int .i64 (IntKind.wrap .i64 (c15.toNat : Int))) hs fun _ hs => ?_
      refine sP (Value.int .i64 b11) hs fun _ hs => ?_
      refine sP (Value.bool ((IntKind.wrap .i64 (c15.toNat : Int) : Int) == (b11 : Int))) hs fun _ hs => ?_
      refine sP (Value.bool ((IntKind.wrap .i64 (c15.toNat : Int) : Int) == (b11 : Int))) hs fun _ hs => ?_
      exact wpList_nil (Wp.ret (leaveE (K := fun v _ => K v) hs (resT hs rfl rfl) hMM.2 (fun _ _ => hS)))
    · have hS := hS.2 hc
      refine Wp.seq (Wp.region (sP (Value.pointer (some ⟨b13, 0, none⟩)) hs fun _ hs => ?_))
      refine sY (Value.int .i64 e10.Kind) hs (Yl.loadB (vs := [(Value.int .i64 e10.Kind)]) false 0 rfl rfl rfl (by kernel_rfl) rfl) fun _ hs => ?_
      refine sP (Value.bool ((e10.Kind : Int) == (4 : Int))) hs fun _ hs => ?_
      refine sP (Value.bool ((e10.Kind : Int) == (4 : Int))) hs fun _ hs => ?_
      refine wpList_nil (Wp.cond hs rfl rfl beq_iff_eq (fun hc => ?_) (fun hc => ?_))
      · have hS := hS.1 hc
        refine Wp.seq (Wp.region (sP (Value.slice rulesa7 rulesl8 rulesc9) hs fun _ hs => ?_))
        refine sY (Value.agg #[(Value.slice ga1 gl2 gc3)]) hs (Yl.loadB (vs := [(Value.slice ga1 gl2 gc3)]) true 1 rfl rfl rfl (by kernel_rfl) rfl) fun _ hs => ?_
        refine sP (Value.pointer (some ⟨b13, 5, none⟩)) hs fun _ hs => ?_
        refine sY (Value.string (mkS e10.Text)) hs (Yl.loadB (vs := [(Value.string (mkS e10.Text))]) false 0 rfl rfl rfl (by kernel_rfl) rfl) fun _ hs => ?_
        refine stepCallP [(Value.agg #[(Value.slice ga1 gl2 gc3)]), (Value.string (mkS e10.Text))] hs rfl ⟨_, rfl, rfl⟩ rfl Try.func55 rfl (by kernel_rfl) (by decide) hS (fun _ _ v hS hs => ?_)
        obtain ⟨x16, hv, hS⟩ := hS
        subst hv
        obtain ⟨b17, o18, ha, h0, hl, hS⟩ := hS
        refine sY (Value.pointer (some ⟨b17, o18 + x16.toNat * 1, none⟩)) hs (Yl.indexS (e := 4) (sz := 1) rfl rfl rfl rfl (by kernel_rfl) (by kernel_rfl) ha h0 hl) fun _ hs => ?_
        obtain ⟨x19, hat, hS⟩ := hS
        refine sY (Value.bool x19) hs (Yl.loadV (vs := [(Value.bool x19)]) false rfl rfl (by kernel_rfl) hat) fun _ hs => ?_
        refine sP (Value.bool x19) hs fun _ hs => ?_
        exact wpList_nil (Wp.ret (leaveE (K := fun v _ => K v) hs (resT hs rfl rfl) hMM.2 (fun _ _ => hS)))
      · have hS := hS.2 hc
        refine Wp.seq (Wp.region (sP (Value.pointer (some ⟨b13, 0, none⟩)) hs fun _ hs => ?_))
        refine sY (Value.int .i64 e10.Kind) hs (Yl.loadB (vs := [(Value.int .i64 e10.Kind)]) false 0 rfl rfl rfl (by kernel_rfl) rfl) fun _ hs => ?_
        refine sP (Value.bool (decide (e10.Kind ≥ 10))) hs fun _ hs => ?_
        refine sP (Value.bool (decide (e10.Kind ≥ 10))) hs fun _ hs => ?_
        refine wpList_nil (Wp.cond hs rfl rfl decide_eq_true_iff (fun hc => ?_) (fun hc => ?_))
        · have hS := hS.1 hc
          refine Wp.seq (Wp.region (sP (Value.bool false) hs fun _ hs => ?_))
          exact wpList_nil (Wp.ret (leaveE (K := fun v _ => K v) hs (resT hs rfl rfl) hMM.2 (fun _ _ => hS)))
        · have hS := hS.2 hc
          refine Wp.skip (Wp.seq (Wp.seq (Wp.region (sP (Value.pointer (some ⟨b13, 6, none⟩)) hs fun _ hs => ?_))))
          refine sY (Value.slice e10.Kids_a e10.Kids_l e10.Kids_c) hs (Yl.loadB (vs := [(Value.slice e10.Kids_a e10.Kids_l e10.Kids_c)]) false 0 rfl rfl rfl (by kernel_rfl) rfl) fun _ hs => ?_
          refine sP (Value.int .i64 ((e10.Kids_l : Nat) : Int)) hs fun _ hs => ?_
          refine sP (Value.int .i64 0) hs fun _ hs => ?_
          refine wpList_nil (Wp.block ?_)
          obtain ⟨I29, mu30, hI0, hst⟩ := hS
          refine Wp.loop (σ := (Int)) (fun s a w => match s with | (x28) => Sx 71 E [] M w a [(1, (Value.slice maya4 mayl5 mayc6)), (2, (Value.slice rulesa7 rulesl8 rulesc9)), (4, (Value.int .i64 b11)), (5, (Value.pointer (some ⟨b12, 0, none⟩))), (8, (Value.pointer (some ⟨b13, 0, none⟩))), (47, (Value.slice e10.Kids_a e10.Kids_l e10.Kids_c)), (48, (Value.int .i64 ((e10.Kids_l : Nat) : Int))), (49, (Value.int .i64 x28))] [⟨b13, 96, [(Value.int .i64 e10.Kind), (Value.int .u64 e10.Set.w0), (Value.int .u64 e10.Set.w1), (Value.int .u64 e10.Set.w2), (Value.int .u64 e10.Set.w3), (Value.string (mkS e10.Text)), (Value.slice e10.Kids_a e10.Kids_l e10.Kids_c)]⟩, ⟨b12, 24, [(Value.slice ga1 gl2 gc3)]⟩] [] ∧ I29 x28) (fun s => match s with | (x28) => mu30 x28) (0) ⟨(hs.weak (List.Sublist.refl _) (List.Sublist.refl _) ⟨rfl, rfl, rfl, rfl, rfl, rfl, rfl, rfl, trivial⟩), hI0⟩ (fun x28 a w hI => ?_)
          obtain ⟨hs, hI⟩ := hI
          have hS := hst x28 hI
          clear hst hI0 hI
          refine Wp.seq (Wp.region (sP (Value.bool (decide (x28 < ((e10.Kids_l : Nat) : Int)))) hs fun _ hs => ?_))
          refine wpList_nil (Wp.seq (Wp.cond hs rfl rfl decide_eq_true_iff (fun hc => ?_) (fun hc => ?_)))
          · have hS := hS.1 hc
            refine Wp.skip (Wp.seq (Wp.block (Wp.seq (Wp.region ?_))))
            obtain ⟨b31, o32, ha, h0, hl, hS⟩ := hS
            refine sY (Value.pointer (some ⟨b31, o32 + x28.toNat * 7, none⟩)) hs (Yl.indexS (e := 96) (sz := 7) rfl rfl rfl rfl (by kernel_rfl) (by kernel_rfl) ha h0 hl) fun _ hs => ?_
            obtain ⟨x33, hat, hS⟩ := hS
            refine sY x33.val hs (Yl.loadV (vs := x33.cells) true rfl rfl (by kernel_rfl) hat) fun _ hs => ?_
            refine stepAlloc [(Value.int .i64 0), (Value.int .u64 0), (Value.int .u64 0), (Value.int .u64 0), (Value.int .u64 0), (Value.string (mkS [])), (Value.slice none 0 0)] hs (by kernel_rfl) (by decide) (fun _ _ b34 hEb34 hs => ?_)
            have hs := hs.nilrow 96 7
            refine stepStoreB 0 (vs := [(Value.int .i64 x33.Kind), (Value.int .u64 x33.Set.w0), (Value.int .u64 x33.Set.w1), (Value.int .u64 x33.Set.w2), (Value.int .u64 x33.Set.w3), (Value.string (mkS x33.Text)), (Value.slice x33.Kids_a x33.Kids_l x33.Kids_c)]) hs rfl rfl rfl rfl rfl rfl (by kernel_rfl) (Nat.le_of_ble_eq_true rfl) rfl (fun _ _ hs => ?_)
            replace hs := hs.chbx (bs' := [⟨b34, 96, [(Value.int .i64 x33.Kind), (Value.int .u64 x33.Set.w0), (Value.int .u64 x33.Set.w1), (Value.int .u64 x33.Set.w2), (Value.int .u64 x33.Set.w3), (Value.string (mkS x33.Text)), (Value.slice x33.Kids_a x33.Kids_l x33.Kids_c)]⟩, ⟨b13, 96, [(Value.int .i64 e10.Kind), (Value.int .u64 e10.Set.w0), (Value.int .u64 e10.Set.w1), (Value.int .u64 e10.Set.w2), (Value.int .u64 e10.Set.w3), (Value.string (mkS e10.Text)), (Value.slice e10.Kids_a e10.Kids_l e10.Kids_c)]⟩, ⟨b12, 24, [(Value.slice ga1 gl2 gc3)]⟩]) rfl
            refine wpList_nil (Wp.seq (Wp.seq (Wp.region (sY (Value.agg #[(Value.slice ga1 gl2 gc3)]) hs (Yl.loadB (vs := [(Value.slice ga1 gl2 gc3)]) true 2 rfl rfl rfl (by kernel_rfl) rfl) fun _ hs => ?_))))
            refine sP (Value.slice maya4 mayl5 mayc6) hs fun _ hs => ?_
            refine sP (Value.slice rulesa7 rulesl8 rulesc9) hs fun _ hs => ?_
            refine sY x33.val hs (Yl.loadB (vs := x33.cells) true 0 rfl rfl rfl (by kernel_rfl) rfl) fun _ hs => ?_
            refine sP (Value.int .i64 b11) hs fun _ hs => ?_
            refine stepCallP [(Value.agg #[(Value.slice ga1 gl2 gc3)]), (Value.slice maya4 mayl5 mayc6), (Value.slice rulesa7 rulesl8 rulesc9), x33.val, (Value.int .i64 b11)] hs rfl ⟨_, rfl, rfl⟩ rfl Try.func75 rfl (by kernel_rfl) (by decide) hS (fun _ _ v hS hs => ?_)
            obtain ⟨x35, hv, hS⟩ := hS
            subst hv
            refine wpList_nil (Wp.cond hs rfl rfl Iff.rfl (fun hc => ?_) (fun hc => ?_))
            · have hS := hS.1 hc
              refine Wp.seq (Wp.region (sP (Value.bool true) hs fun _ hs => ?_))
              exact wpList_nil (Wp.ret (leaveE (K := fun v _ => K v) hs (resT hs rfl rfl) hMM.2 (fun _ _ => hS)))
            · have hS := hS.2 hc
              refine Wp.skip (Wp.join (fun a w => ∃ (x37 : Bool), Sx 71 E [] M w a [(1, (Value.slice maya4 mayl5 mayc6)), (2, (Value.slice rulesa7 rulesl8 rulesc9)), (4, (Value.int .i64 b11)), (5, (Value.pointer (some ⟨b12, 0, none⟩))), (8, (Value.pointer (some ⟨b13, 0, none⟩))), (47, (Value.slice e10.Kids_a e10.Kids_l e10.Kids_c)), (48, (Value.int .i64 ((e10.Kids_l : Nat) : Int))), (49, (Value.int .i64 x28)), (69, (Value.bool x37))] [⟨b34, 96, [(Value.int .i64 x33.Kind), (Value.int .u64 x33.Set.w0), (Value.int .u64 x33.Set.w1), (Value.int .u64 x33.Set.w2), (Value.int .u64 x33.Set.w3), (Value.string (mkS x33.Text)), (Value.slice x33.Kids_a x33.Kids_l x33.Kids_c)]⟩, ⟨b13, 96, [(Value.int .i64 e10.Kind), (Value.int .u64 e10.Set.w0), (Value.int .u64 e10.Set.w1), (Value.int .u64 e10.Set.w2), (Value.int .u64 e10.Set.w3), (Value.string (mkS e10.Text)), (Value.slice e10.Kids_a e10.Kids_l e10.Kids_c)]⟩, ⟨b12, 24, [(Value.slice ga1 gl2 gc3)]⟩] [] ∧ (S_chaffref_begins_J1 x28 I29 mu30 x37 K)) ?_ ?_)
              · refine Wp.region (sP (Value.pointer (some ⟨b13, 0, none⟩)) hs fun _ hs => ?_)
                refine sY (Value.int .i64 e10.Kind) hs (Yl.loadB (vs := [(Value.int .i64 e10.Kind)]) false 1 rfl rfl rfl (by kernel_rfl) rfl) fun _ hs => ?_
                refine sP (Value.bool ((e10.Kind : Int) == (5 : Int))) hs fun _ hs => ?_
                refine sP (Value.bool ((e10.Kind : Int) == (5 : Int))) hs fun _ hs => ?_
                refine bsplit ((e10.Kind : Int) == (5 : Int)) beq_iff_eq (fun hb hc => ?_) (fun hb hc => ?_)
                · have hs := hs.bt hb
                  have hS := hS.1 hc
                  refine sYe hs (sY (Value.agg #[(Value.slice ga1 gl2 gc3)]) hs (Yl.loadB (vs := [(Value.slice ga1 gl2 gc3)]) true 2 rfl rfl rfl (by kernel_rfl) rfl) fun _ hs => ?_)
                  refine sYe hs (sP (Value.slice maya4 mayl5 mayc6) hs fun _ hs => ?_)
                  refine sYe hs (sY x33.val hs (Yl.loadB (vs := x33.cells) true 0 rfl rfl rfl (by kernel_rfl) rfl) fun _ hs => ?_)
                  refine sYe hs (stepCallP [(Value.agg #[(Value.slice ga1 gl2 gc3)]), (Value.slice maya4 mayl5 mayc6), x33.val] hs rfl ⟨_, rfl, rfl⟩ rfl Try.func67 rfl (by kernel_rfl) (by decide) hS (fun _ _ v hS hs => ?_))
                  obtain ⟨x36, hv, hS⟩ := hS
                  subst hv
                  refine sYe hs (sP (Value.int .i64 (bAnd .i64 x36 1)) hs fun _ hs => ?_)
                  refine sYe hs (sP (Value.bool ((bAnd .i64 x36 1 : Int) == (0 : Int))) hs fun _ hs => ?_)
                  refine sP (Value.bool ((bAnd .i64 x36 1 : Int) == (0 : Int))) hs fun _ hs => ?_
                  exact wpList_nil (⟨((bAnd .i64 x36 1 : Int) == (0 : Int)), (hs.weak (List.Sublist.refl _) (.cons _ List.Sublist.slnil) ⟨rfl, rfl, rfl, rfl, rfl, rfl, rfl, rfl, rfl, trivial⟩), hS⟩)
                · have hs := hs.bf hb
                  have hS := hS.2 hc
                  refine sNo hs fun _ hs => ?_
                  refine sNo hs fun _ hs => ?_
                  refine sNo hs fun _ hs => ?_
                  refine sNo hs fun _ hs => ?_
                  refine sNo hs fun _ hs => ?_
                  refine sNo hs fun _ hs => ?_
                  refine sP (Value.bool false) hs fun _ hs => ?_
                  exact wpList_nil (⟨false, (hs.weak (List.Sublist.refl _) (.cons _ List.Sublist.slnil) ⟨rfl, rfl, rfl, rfl, rfl, rfl, rfl, rfl, rfl, trivial⟩), hS⟩)
              · intro a w hJ
                obtain ⟨x37, hs, hS⟩ := hJ
                unfold S_chaffref_begins_J1 at hS
                refine Wp.cond hs rfl rfl Iff.rfl (fun hc => ?_) (fun hc => ?_)
                · have hS := hS.1 hc
                  refine Wp.seq (Wp.region (sP (Value.bool false) hs fun _ hs => ?_))
                  exact wpList_nil (Wp.ret (leaveE (K := fun v _ => K v) hs (resT hs rfl rfl) hMM.2 (fun _ _ => hS)))
                · have hS := hS.2 hc
                  refine Wp.skip (Wp.region ?_)
                  obtain ⟨hI, hS⟩ := hS
                  refine sY (Value.int .i64 (x28 + 1)) hs (Yl.eq (Yl.pure (v := Value.int .i64 (IntKind.wrap .i64 (x28 + 1))) rfl (fun _ => by kernel_rfl)) (congrArg (Value.int .i64) (wrap_in hI))) fun _ hs => ?_
                  refine sP (Value.int .i64 (x28 + 1)) hs fun _ hs => ?_
                  exact wpList_nil (⟨(x28 + 1), ⟨(hs.weak (.cons _ (.cons_cons _ (.cons_cons _ List.Sublist.slnil))) (List.Sublist.refl _) ⟨rfl, rfl, rfl, rfl, rfl, rfl, rfl, rfl, trivial⟩), hS.1⟩, hS.2⟩)
          · have hS := hS.2 hc
            refine Wp.exit rfl (Wp.seq (Wp.region (sP (Value.bool false) hs fun _ hs => ?_)))
            exact wpList_nil (Wp.ret (leaveE (K := fun v _ => K v) hs (resT hs rfl rfl) hMM.2 (fun _ _ => hS)))
set_option linter.unusedVariables false in
def S_chaffref_First_J1 (x682 : Int) (rn684 : Nat) (rx685 : List Value) (I686 : Int → Nat → List Value → Prop) (mu687 : Int → Nat → List Value → Nat) (rn702 : Nat) (rx703 : List Value) (K : Value → Mem → Prop) : Prop :=
  (InI (x682 + 1) ∧ I686 (x682 + 1) rn702 rx703 ∧ mu687 (x682 + 1) rn702 rx703 < mu687 x682 rn684 rx685)
set_option linter.unusedVariables false in
def S_chaffref_First_J2 (x740 : Int) (rn743 : Nat) (rx744 : List Value) (I745 : Int → Nat → List Value → Prop) (mu746 : Int → Nat → List Value → Nat) (rn760 : Nat) (rx761 : List Value) (K : Value → Mem → Prop) : Prop :=
  (InI (x740 + 1) ∧ I745 (x740 + 1) rn760 rx761 ∧ mu746 (x740 + 1) rn760 rx761 < mu746 x740 rn743 rx744)
set_option linter.unusedVariables false in
def S_chaffref_First (ga1 : Option Addr) (gl2 : Nat) (gc3 : Nat) (M : Mem) (K : Value → Mem → Prop) : Prop :=
  (CallE Try.prog 25 #[(Value.agg #[(Value.slice ga1 gl2 gc3)])] M (fun v M8 => ∃ (xa5 : Option Addr) (xl6 : Nat) (xc7 : Nat), v = (Value.slice xa5 xl6 xc7) ∧ ((0 : Int) ≤ ((gl2 : Nat) : Int) ∧ ((gl2 : Nat) : Int) ≤ ((gl2 : Nat) : Int) ∧ ((gl2 : Nat) : Int).toNat * 32 ≤ 140737488355328 ∧ (∃ (I513 : Int → Nat → List Value → Prop) (mu514 : Int → Nat → List Value → Nat), I513 0 (((gl2 : Nat) : Int).toNat) (repl ((gl2 : Nat) : Int).toNat [(Value.int .u64 0), (Value.int .u64 0), (Value.int .u64 0), (Value.int .u64 0)]) ∧ ∀ (x509 : Int) (rn511 : Nat) (rx512 : List Value), (I513 x509 rn511 rx512 → ((x509 < 256 → ((0 : Int) ≤ ((gl2 : Nat) : Int) ∧ ((gl2 : Nat) : Int) ≤ ((gl2 : Nat) : Int) ∧ ((gl2 : Nat) : Int).toNat * 1 ≤ 140737488355328 ∧ (∃ (I643 : Int → Nat → List Value → Prop) (mu644 : Int → Nat → List Value → Nat), I643 0 (((gl2 : Nat) : Int).toNat) (repl ((gl2 : Nat) : Int).toNat [(Value.bool false)]) ∧ ∀ (x639 : Int) (rn641 : Nat) (rx642 : List Value), (I643 x639 rn641 rx642 → ((x639 < ((gl2 : Nat) : Int) → (∃ (I686 : Int → Nat → List Value → Prop) (mu687 : Int → Nat → List Value → Nat), I686 0 rn641 rx642 ∧ ∀ (x682 : Int) (rn684 : Nat) (rx685 : List Value), (I686 x682 rn684 rx685 → ((x682 < ((gl2 : Nat) : Int) → (∃ (b688 o689 : Nat), ga1 = some ⟨b688, o689, none⟩ ∧ (0 : Int) ≤ x682 ∧ x682 < ((gl2 : Nat) : Int) ∧ (∃ (x690 : X_api_Rule), At M8 b688 (o689 + x682.toNat * 8) x690.cells ∧ ((0 : Int) ≤ x682 ∧ x682 < ((rn684 : Nat) : Int) ∧ (∃ (x696 : Bool), Cs rx685 (0 + x682.toNat * 1) [(Value.bool x696)] ∧ ((x696 = true → ((0 : Int) ≤ x682 ∧ x682 < ((rn684 : Nat) : Int) ∧ (S_chaffref_First_J1 x682 rn684 rx685 I686 mu687 rn684 (putAt rx685 (0 + x682.toNat * 1) [(Value.bool true)]) K))) ∧ (¬ (x696 = true) → (∀ (M699 : Mem) (ad692 : Option Addr) (cap693 : Nat), M8.le M699 → SlV M699 ad692 rn684 cap693 1 rx685 → (CallE Try.prog 75 #[(Value.agg #[(Value.slice ga1 gl2 gc3)]), (Value.slice xa5 xl6 xc7), (Value.slice ad692 rn684 cap693), x690.Body.val, (Value.int .i64 x509)] M699 (fun v _ => ∃ (x698 : Bool), v = (Value.bool x698) ∧ ((0 : Int) ≤ x682 ∧ x682 < ((rn684 : Nat) : Int) ∧ (S_chaffref_First_J1 x682 rn684 rx685 I686 mu687 rn684 (putAt rx685 (0 + x682.toNat * 1) [(Value.bool x698)]) K)))))))))))) ∧ (¬ (x682 < ((gl2 : Nat) : Int)) → (InI (x639 + 1) ∧ I643 (x639 + 1) rn684 rx685 ∧ mu644 (x639 + 1) rn684 rx685 < mu644 x639 rn641 rx642)))))) ∧ (¬ (x639 < ((gl2 : Nat) : Int)) → (∃ (I745 : Int → Nat → List Value → Prop) (mu746 : Int → Nat → List Value → Nat), I745 0 rn511 rx512 ∧ ∀ (x740 : Int) (rn743 : Nat) (rx744 : List Value), (I745 x740 rn743 rx744 → ((x740 < ((rn641 : Nat) : Int) → ((0 : Int) ≤ x740 ∧ x740 < ((rn641 : Nat) : Int) ∧ (∃ (x751 : Bool), Cs rx642 (0 + x740.toNat * 1) [(Value.bool x751)] ∧ ((x751 = true → (InI (x509.tdiv 64) ∧ ((0 : Int) ≤ x740 ∧ x740 < ((rn743 : Nat) : Int) ∧ ((0 : Int) ≤ x509.tdiv 64 ∧ x509.tdiv 64 < (4 : Int) ∧ (∃ (x756 : Int), Cs rx744 (0 + x740.toNat * 4 + (x509.tdiv 64).toNat * 1) [(Value.int .u64 x756)] ∧ ((0 : Int) ≤ x509.tmod 64 ∧ ((0 : Int) ≤ x740 ∧ x740 < ((rn743 : Nat) : Int) ∧ ((0 : Int) ≤ x509.tdiv 64 ∧ x509.tdiv 64 < (4 : Int) ∧ (S_chaffref_First_J2 x740 rn743 rx744 I745 mu746 rn743 (putAt rx744 (0 + x740.toNat * 4 + (x509.tdiv 64).toNat * 1) [(Value.int .u64 (IntKind.wrap .u64 (x756 + (bShl .u64 1 (x509.tmod 64)))))]) K))))))))) ∧ (¬ (x751 = true) → (S_chaffref_First_J2 x740 rn743 rx744 I745 mu746 rn743 rx744 K)))))) ∧ (¬ (x740 < ((rn641 : Nat) : Int)) → (InI (x509 + 1) ∧ I513 (x509 + 1) rn743 rx744 ∧ mu514 (x509 + 1) rn743 rx744 < mu514 x509 rn511 rx512))))))))))) ∧ (¬ (x509 < 256) → (∀ (M764 : Mem) (ad762 : Option Addr) (cap763 : Nat), M8.le M764 → SlV M764 ad762 rn511 cap763 4 rx512 → (∀ M', M764.le M' → K (Value.slice ad762 rn511 cap763) M')))))))))
set_option linter.unusedVariables false in
set_option maxRecDepth 100000 in
theorem s_chaffref_First (ga1 : Option Addr) (gl2 : Nat) (gc3 : Nat) (M : Mem) (K : Value → Mem → Prop) (hS : S_chaffref_First ga1 gl2 gc3 M K) : CallE Try.prog 32 #[(Value.agg #[(Value.slice ga1 gl2 gc3)])] M K := by
  refine enterE Try.func32 rfl 79 rfl (Nat.le_of_ble_eq_true rfl) (fun E a hs => ?_)
  unfold S_chaffref_First at hS
  have hMM := MX.refl M E
  change Sx 79 E [] M E a [(0, (Value.agg #[(Value.slice ga1 gl2 gc3)]))] [] [] at hs
  refine Wp.seq (Wp.region (stepBox [(Value.slice ga1 gl2 gc3)] hs rfl rfl rfl (by decide) (fun _ _ b4 hEb4 hs => ?_)))
  refine sP (Value.slice none 0 0) hs fun _ hs => ?_
  refine wpList_nil (Wp.seq (Wp.region (sY (Value.agg #[(Value.slice ga1 gl2 gc3)]) hs (Yl.loadB (vs := [(Value.slice ga1 gl2 gc3)]) true 0 rfl rfl rfl (by kernel_rfl) rfl) fun _ hs => ?_)))
  refine stepCallE [(Value.agg #[(Value.slice ga1 gl2 gc3)])] hs rfl ⟨_, rfl, rfl⟩ rfl Try.func25 rfl (by kernel_rfl) (by decide) hS (fun _ _ M8 v hle hnew hS hs => ?_)
  have hMM := hMM.next hle hnew
  obtain ⟨xa5, xl6, xc7, hv, hS⟩ := hS
  subst hv
  refine sP (Value.slice xa5 xl6 xc7) hs fun _ hs => ?_
  refine wpList_nil (Wp.seq (Wp.region (sP (Value.pointer (some ⟨b4, 0, none⟩)) hs fun _ hs => ?_)))
  refine sY (Value.slice ga1 gl2 gc3) hs (Yl.loadB (vs := [(Value.slice ga1 gl2 gc3)]) false 0 rfl rfl rfl (by kernel_rfl) rfl) fun _ hs => ?_
  refine sP (Value.int .i64 ((gl2 : Nat) : Int)) hs fun _ hs => ?_
  obtain ⟨h0, h1, hB, hS⟩ := hS
  refine stepMakeN (e := 55) (size := 4) (bytes := 32) [(Value.int .u64 0), (Value.int .u64 0), (Value.int .u64 0), (Value.int .u64 0)] hs rfl rfl rfl rfl (by kernel_rfl) (by kernel_rfl) rfl (by decide) (by decide) h0 h1 hB (fun _ _ rv9 hs => ?_)
  refine sP rv9 hs fun _ hs => ?_
  refine wpList_nil (Wp.seq (Wp.seq (Wp.region (sP (Value.int .i64 0) hs fun _ hs => ?_))))
  refine wpList_nil (Wp.block ?_)
  obtain ⟨I513, mu514, hI0, hst⟩ := hS
  refine Wp.loop (σ := (Int) × (Nat) × (List Value) × (Value)) (fun s a w => match s with | (x509, rn511, rx512, rv510) => Sx 79 E [] M8 w a [(1, (Value.pointer (some ⟨b4, 0, none⟩))), (3, (Value.slice xa5 xl6 xc7)), (4, rv510), (17, (Value.int .i64 x509))] [⟨b4, 24, [(Value.slice ga1 gl2 gc3)]⟩] [⟨rv510, 55, 4, rn511, rx512, true⟩] ∧ I513 x509 rn511 rx512) (fun s => match s with | (x509, rn511, rx512, rv510) => mu514 x509 rn511 rx512) (0, ((gl2 : Nat) : Int).toNat, (repl ((gl2 : Nat) : Int).toNat [(Value.int .u64 0), (Value.int .u64 0), (Value.int .u64 0), (Value.int .u64 0)]), rv9) ⟨(hs.weak (List.Sublist.refl _) (List.Sublist.refl _) ⟨rfl, rfl, rfl, rfl, trivial⟩), hI0⟩ (fun s a w hI => ?_)
  obtain ⟨x509, rn511, rx512, rv510⟩ := s
  obtain ⟨hs, hI⟩ := hI
  have hS := hst x509 rn511 rx512 hI
  clear hst hI0 hI
  refine Wp.seq (Wp.region (sP (Value.bool (decide (x509 < 256))) hs fun _ hs => ?_))
  refine wpList_nil (Wp.seq (Wp.cond hs rfl rfl decide_eq_true_iff (fun hc => ?_) (fun hc => ?_)))
  · have hS := hS.1 hc
    refine Wp.skip (Wp.seq (Wp.block (Wp.seq (Wp.region (sP (Value.int .i64 x509) hs fun _ hs => ?_)))))
    refine sP (Value.int .i64 x509) hs fun _ hs => ?_
    refine wpList_nil (Wp.seq (Wp.region (sP (Value.pointer (some ⟨b4, 0, none⟩)) hs fun _ hs => ?_)))
    refine sY (Value.slice ga1 gl2 gc3) hs (Yl.loadB (vs := [(Value.slice ga1 gl2 gc3)]) false 0 rfl rfl rfl (by kernel_rfl) rfl) fun _ hs => ?_
    refine sP (Value.int .i64 ((gl2 : Nat) : Int)) hs fun _ hs => ?_
    obtain ⟨h0, h1, hB, hS⟩ := hS
    refine stepMakeN (e := 4) (size := 1) (bytes := 1) [(Value.bool false)] hs rfl rfl rfl rfl (by kernel_rfl) (by kernel_rfl) rfl (by decide) (by decide) h0 h1 hB (fun _ _ rv515 hs => ?_)
    refine sP rv515 hs fun _ hs => ?_
    refine wpList_nil (Wp.seq (Wp.seq (Wp.region (sP (Value.pointer (some ⟨b4, 0, none⟩)) hs fun _ hs => ?_))))
    refine sY (Value.slice ga1 gl2 gc3) hs (Yl.loadB (vs := [(Value.slice ga1 gl2 gc3)]) false 0 rfl rfl rfl (by kernel_rfl) rfl) fun _ hs => ?_
    refine sP (Value.int .i64 ((gl2 : Nat) : Int)) hs fun _ hs => ?_
    refine sP (Value.int .i64 0) hs fun _ hs => ?_
    refine wpList_nil (Wp.block ?_)
    obtain ⟨I643, mu644, hI0, hst⟩ := hS
    refine Wp.loop (σ := (Int) × (Nat) × (List Value) × (Value)) (fun s a w => match s with | (x639, rn641, rx642, rv640) => Sx 79 E [] M8 w a [(1, (Value.pointer (some ⟨b4, 0, none⟩))), (3, (Value.slice xa5 xl6 xc7)), (4, rv510), (5, (Value.int .i64 x509)), (6, rv640), (17, (Value.int .i64 x509)), (26, (Value.int .i64 ((gl2 : Nat) : Int))), (27, (Value.int .i64 x639))] [⟨b4, 24, [(Value.slice ga1 gl2 gc3)]⟩] [⟨rv640, 4, 1, rn641, rx642, true⟩, ⟨rv510, 55, 4, rn511, rx512, true⟩] ∧ I643 x639 rn641 rx642) (fun s => match s with | (x639, rn641, rx642, rv640) => mu644 x639 rn641 rx642) (0, ((gl2 : Nat) : Int).toNat, (repl ((gl2 : Nat) : Int).toNat [(Value.bool false)]), rv515) ⟨(hs.weak (List.Sublist.refl _) (List.Sublist.refl _) ⟨rfl, rfl, rfl, rfl, rfl, rfl, rfl, rfl, trivial⟩), hI0⟩ (fun s a w hI => ?_)
    obtain ⟨x639, rn641, rx642, rv640⟩ := s
    obtain ⟨hs, hI⟩ := hI
    have hS := hst x639 rn641 rx642 hI
    clear hst hI0 hI
    refine Wp.seq (Wp.region (sP (Value.bool (decide (x639 < ((gl2 : Nat) : Int)))) hs fun _ hs => ?_))
    refine wpList_nil (Wp.seq (Wp.cond hs rfl rfl decide_eq_true_iff (fun hc => ?_) (fun hc => ?_)))
    · have hS := hS.1 hc
      refine Wp.skip (Wp.seq (Wp.block (Wp.seq (Wp.region (sP (Value.pointer (some ⟨b4, 0, none⟩)) hs fun _ hs => ?_)))))
      refine sY (Value.slice ga1 gl2 gc3) hs (Yl.loadB (vs := [(Value.slice ga1 gl2 gc3)]) false 0 rfl rfl rfl (by kernel_rfl) rfl) fun _ hs => ?_
      refine sP (Value.int .i64 ((gl2 : Nat) : Int)) hs fun _ hs => ?_
      refine sP (Value.int .i64 0) hs fun _ hs => ?_
      refine wpList_nil (Wp.block ?_)
      obtain ⟨I686, mu687, hI0, hst⟩ := hS
      refine Wp.loop (σ := (Int) × (Nat) × (List Value) × (Value)) (fun s a w => match s with | (x682, rn684, rx685, rv683) => Sx 79 E [] M8 w a [(1, (Value.pointer (some ⟨b4, 0, none⟩))), (3, (Value.slice xa5 xl6 xc7)), (4, rv510), (5, (Value.int .i64 x509)), (6, rv683), (17, (Value.int .i64 x509)), (26, (Value.int .i64 ((gl2 : Nat) : Int))), (27, (Value.int .i64 x639)), (30, (Value.slice ga1 gl2 gc3)), (31, (Value.int .i64 ((gl2 : Nat) : Int))), (32, (Value.int .i64 x682))] [⟨b4, 24, [(Value.slice ga1 gl2 gc3)]⟩] [⟨rv683, 4, 1, rn684, rx685, true⟩, ⟨rv510, 55, 4, rn511, rx512, true⟩] ∧ I686 x682 rn684 rx685) (fun s => match s with | (x682, rn684, rx685, rv683) => mu687 x682 rn684 rx685) (0, rn641, rx642, rv640) ⟨(hs.weak (List.Sublist.refl _) (List.Sublist.refl _) ⟨rfl, rfl, rfl, rfl, rfl, rfl, rfl, rfl, rfl, rfl, rfl, trivial⟩), hI0⟩ (fun s a w hI => ?_)
      obtain ⟨x682, rn684, rx685, rv683⟩ := s
      obtain ⟨hs, hI⟩ := hI
      have hS := hst x682 rn684 rx685 hI
      clear hst hI0 hI
      refine Wp.seq (Wp.region (sP (Value.bool (decide (x682 < ((gl2 : Nat) : Int)))) hs fun _ hs => ?_))
      refine wpList_nil (Wp.seq (Wp.cond hs rfl rfl decide_eq_true_iff (fun hc => ?_) (fun hc => ?_)))
      · have hS := hS.1 hc
        refine Wp.skip (Wp.join (fun a w => ∃ (rn702 : Nat) (rx703 : List Value) (rv701 : Value), Sx 79 E [] M8 w a [(1, (Value.pointer (some ⟨b4, 0, none⟩))), (3, (Value.slice xa5 xl6 xc7)), (4, rv510), (5, (Value.int .i64 x509)), (6, rv701), (17, (Value.int .i64 x509)), (26, (Value.int .i64 ((gl2 : Nat) : Int))), (27, (Value.int .i64 x639)), (30, (Value.slice ga1 gl2 gc3)), (31, (Value.int .i64 ((gl2 : Nat) : Int))), (32, (Value.int .i64 x682))] [⟨b4, 24, [(Value.slice ga1 gl2 gc3)]⟩] [⟨rv701, 4, 1, rn702, rx703, true⟩, ⟨rv510, 55, 4, rn511, rx512, true⟩] ∧ (S_chaffref_First_J1 x682 rn684 rx685 I686 mu687 rn702 rx703 K)) ?_ ?_)
        · refine Wp.block (Wp.seq (Wp.region (sP (Value.int .i64 x682) hs fun _ hs => ?_)))
          obtain ⟨b688, o689, ha, h0, hl, hS⟩ := hS
          refine sY (Value.pointer (some ⟨b688, o689 + x682.toNat * 8, none⟩)) hs (Yl.indexS (e := 98) (sz := 8) rfl rfl rfl rfl (by kernel_rfl) (by kernel_rfl) ha h0 hl) fun _ hs => ?_
          obtain ⟨x690, hat, hS⟩ := hS
          refine sY x690.val hs (Yl.loadV (vs := x690.cells) true rfl rfl (by kernel_rfl) hat) fun _ hs => ?_
          refine stepAlloc [(Value.string (mkS [])), (Value.int .i64 0), (Value.int .u64 0), (Value.int .u64 0), (Value.int .u64 0), (Value.int .u64 0), (Value.string (mkS [])), (Value.slice none 0 0)] hs (by kernel_rfl) (by decide) (fun _ _ b691 hEb691 hs => ?_)
          refine sP (Value.int .i64 x682) hs fun _ hs => ?_
          refine stepStoreB 0 (vs := [(Value.string (mkS x690.Name)), (Value.int .i64 x690.Body.Kind), (Value.int .u64 x690.Body.Set.w0), (Value.int .u64 x690.Body.Set.w1), (Value.int .u64 x690.Body.Set.w2), (Value.int .u64 x690.Body.Set.w3), (Value.string (mkS x690.Body.Text)), (Value.slice x690.Body.Kids_a x690.Body.Kids_l x690.Body.Kids_c)]) hs rfl rfl rfl rfl rfl rfl (by kernel_rfl) (Nat.le_of_ble_eq_true rfl) rfl (fun _ _ hs => ?_)
          replace hs := hs.chbx (bs' := [⟨b691, 98, [(Value.string (mkS x690.Name)), (Value.int .i64 x690.Body.Kind), (Value.int .u64 x690.Body.Set.w0), (Value.int .u64 x690.Body.Set.w1), (Value.int .u64 x690.Body.Set.w2), (Value.int .u64 x690.Body.Set.w3), (Value.string (mkS x690.Body.Text)), (Value.slice x690.Body.Kids_a x690.Body.Kids_l x690.Body.Kids_c)]⟩, ⟨b4, 24, [(Value.slice ga1 gl2 gc3)]⟩]) rfl
          refine wpList_nil (Wp.region (sP rv683 hs fun _ hs => ?_))
          refine sP (Value.int .i64 x682) hs fun _ hs => ?_
          refine sP rv683 hs fun _ hs => ?_
          refine sP (Value.int .i64 x682) hs fun _ hs => ?_
          obtain ⟨ad692, cap693, hv, hcp, hxl⟩ := hs.rowform 0 rfl
          dsimp only at hv hcp hxl
          subst hv
          obtain ⟨h0, hl, hS⟩ := hS
          have hix694 : x682.toNat < rn684 := by omega
          obtain ⟨g695, hg695⟩ := hs.rowblk 0 rfl (by omega)
          refine sY (Value.pointer (some ⟨g695, 0 + x682.toNat * 1, none⟩)) hs (Yl.indexS (e := 4) (sz := 1) rfl rfl rfl rfl (by kernel_rfl) (by kernel_rfl) hg695 h0 hl) fun _ hs => ?_
          obtain ⟨x696, hcs, hS⟩ := hS
          refine sY (Value.bool x696) hs (Yl.loadR (vs := [(Value.bool x696)]) 0 false rfl hg695 rfl rfl (by kernel_rfl) hcs) fun _ hs => ?_
          refine sP (Value.bool x696) hs fun _ hs => ?_
          refine bsplit x696 Iff.rfl (fun hb hc => ?_) (fun hb hc => ?_)
          · have hs := hs.bt hb
            have hS := hS.1 hc
            refine sNo hs fun _ hs => ?_
            refine sNo hs fun _ hs => ?_
            refine sNo hs fun _ hs => ?_
            refine sNo hs fun _ hs => ?_
            refine sNo hs fun _ hs => ?_
            refine sNo hs fun _ hs => ?_
            refine sNo hs fun _ hs => ?_
            refine sP (Value.bool true) hs fun _ hs => ?_
            obtain ⟨h0, hl, hS⟩ := hS
            have hix697 : x682.toNat < rn684 := by omega
            refine sY (Value.pointer (some ⟨g695, 0 + x682.toNat * 1, none⟩)) hs (Yl.indexS (e := 4) (sz := 1) rfl rfl rfl rfl (by kernel_rfl) (by kernel_rfl) hg695 h0 hl) fun _ hs => ?_
            refine stepStoreR 0 (vs := [(Value.bool true)]) hs rfl hg695 rfl rfl rfl rfl rfl (by kernel_rfl) (by have := hix697; simp only [List.length_cons, List.length_nil]; omega) rfl (fun _ _ hs => ?_)
            replace hs := hs.chrs (rs' := [⟨(Value.slice ad692 rn684 cap693), 4, 1, rn684, (putAt rx685 (0 + x682.toNat * 1) [(Value.bool true)]), true⟩, ⟨rv510, 55, 4, rn511, rx512, true⟩]) rfl
            exact wpList_nil (⟨rn684, (putAt rx685 (0 + x682.toNat * 1) [(Value.bool true)]), (Value.slice ad692 rn684 cap693), (hs.weak (.cons _ (.cons_cons _ List.Sublist.slnil)) (List.Sublist.refl _) ⟨rfl, rfl, rfl, rfl, rfl, rfl, rfl, rfl, rfl, rfl, rfl, trivial⟩), hS⟩)
          · have hs := hs.bf hb
            have hS := hS.2 hc
            refine sYe hs (sY (Value.agg #[(Value.slice ga1 gl2 gc3)]) hs (Yl.loadB (vs := [(Value.slice ga1 gl2 gc3)]) true 1 rfl rfl rfl (by kernel_rfl) rfl) fun _ hs => ?_)
            refine sYe hs (sP (Value.slice xa5 xl6 xc7) hs fun _ hs => ?_)
            refine sYe hs (sP (Value.slice ad692 rn684 cap693) hs fun _ hs => ?_)
            refine sYe hs (sP (Value.pointer (some ⟨b691, 1, none⟩)) hs fun _ hs => ?_)
            refine sYe hs (sY x690.Body.val hs (Yl.loadB (vs := x690.Body.cells) true 0 rfl rfl rfl (by kernel_rfl) rfl) fun _ hs => ?_)
            refine sYe hs (sP (Value.int .i64 x509) hs fun _ hs => ?_)
            refine sYe hs ?_
            have hS := hS _ ad692 cap693 hs.on.hm (hs.peek 0 rfl)
            refine stepCallPr [(Value.agg #[(Value.slice ga1 gl2 gc3)]), (Value.slice xa5 xl6 xc7), (Value.slice ad692 rn684 cap693), x690.Body.val, (Value.int .i64 x509)] hs rfl ⟨_, rfl, rfl⟩ rfl Try.func75 rfl (by kernel_rfl) (by decide) hS (fun _ _ v hS hs => ?_)
            obtain ⟨x698, hv, hS⟩ := hS
            subst hv
            refine sP (Value.bool x698) hs fun _ hs => ?_
            obtain ⟨h0, hl, hS⟩ := hS
            have hix700 : x682.toNat < rn684 := by omega
            refine sY (Value.pointer (some ⟨g695, 0 + x682.toNat * 1, none⟩)) hs (Yl.indexS (e := 4) (sz := 1) rfl rfl rfl rfl (by kernel_rfl) (by kernel_rfl) hg695 h0 hl) fun _ hs => ?_
            refine stepStoreR 0 (vs := [(Value.bool x698)]) hs rfl hg695 rfl rfl rfl rfl rfl (by kernel_rfl) (by have := hix700; simp only [List.length_cons, List.length_nil]; omega) rfl (fun _ _ hs => ?_)
            replace hs := hs.chrs (rs' := [⟨(Value.slice ad692 rn684 cap693), 4, 1, rn684, (putAt rx685 (0 + x682.toNat * 1) [(Value.bool x698)]), true⟩, ⟨rv510, 55, 4, rn511, rx512, true⟩]) rfl
            exact wpList_nil (⟨rn684, (putAt rx685 (0 + x682.toNat * 1) [(Value.bool x698)]), (Value.slice ad692 rn684 cap693), (hs.weak (.cons _ (.cons_cons _ List.Sublist.slnil)) (List.Sublist.refl _) ⟨rfl, rfl, rfl, rfl, rfl, rfl, rfl, rfl, rfl, rfl, rfl, trivial⟩), hS⟩)
        · intro a w hJ
          obtain ⟨rn702, rx703, rv701, hs, hS⟩ := hJ
          unfold S_chaffref_First_J1 at hS
          refine Wp.region ?_
          obtain ⟨hI, hS⟩ := hS
          refine sY (Value.int .i64 (x682 + 1)) hs (Yl.eq (Yl.pure (v := Value.int .i64 (IntKind.wrap .i64 (x682 + 1))) rfl (fun _ => by kernel_rfl)) (congrArg (Value.int .i64) (wrap_in hI))) fun _ hs => ?_
          refine sP (Value.int .i64 (x682 + 1)) hs fun _ hs => ?_
          exact wpList_nil (⟨(x682 + 1, rn702, rx703, rv701), ⟨(hs.weak (List.Sublist.refl _) (List.Sublist.refl _) ⟨rfl, rfl, rfl, rfl, rfl, rfl, rfl, rfl, rfl, rfl, rfl, trivial⟩), hS.1⟩, hS.2⟩)
      · have hS := hS.2 hc
        refine Wp.exit rfl (Wp.region ?_)
        obtain ⟨hI, hS⟩ := hS
        refine sY (Value.int .i64 (x639 + 1)) hs (Yl.eq (Yl.pure (v := Value.int .i64 (IntKind.wrap .i64 (x639 + 1))) rfl (fun _ => by kernel_rfl)) (congrArg (Value.int .i64) (wrap_in hI))) fun _ hs => ?_
        refine sP (Value.int .i64 (x639 + 1)) hs fun _ hs => ?_
        exact wpList_nil (⟨(x639 + 1, rn684, rx685, rv683), ⟨(hs.weak (List.Sublist.refl _) (List.Sublist.refl _) ⟨rfl, rfl, rfl, rfl, rfl, rfl, rfl, rfl, trivial⟩), hS.1⟩, hS.2⟩)
    · have hS := hS.2 hc
      refine Wp.exit rfl (Wp.seq (Wp.region (sP rv640 hs fun _ hs => ?_)))
      refine sY (Value.int .i64 ((rn641 : Nat) : Int)) hs (Yl.lenR (e' := 4) 0 rfl rfl rfl (by kernel_rfl)) fun _ hs => ?_
      refine sP (Value.int .i64 0) hs fun _ hs => ?_
      refine wpList_nil (Wp.block ?_)
      obtain ⟨I745, mu746, hI0, hst⟩ := hS
      refine Wp.loop (σ := (Int) × (Nat) × (List Value) × (Value) × (Value)) (fun s a w => match s with | (x740, rn743, rx744, rv741, rv742) => Sx 79 E [] M8 w a [(1, (Value.pointer (some ⟨b4, 0, none⟩))), (3, (Value.slice xa5 xl6 xc7)), (4, rv742), (5, (Value.int .i64 x509)), (17, (Value.int .i64 x509)), (55, rv741), (56, (Value.int .i64 ((rn641 : Nat) : Int))), (57, (Value.int .i64 x740))] [⟨b4, 24, [(Value.slice ga1 gl2 gc3)]⟩] [⟨rv741, 4, 1, rn641, rx642, true⟩, ⟨rv742, 55, 4, rn743, rx744, true⟩] ∧ I745 x740 rn743 rx744) (fun s => match s with | (x740, rn743, rx744, rv741, rv742) => mu746 x740 rn743 rx744) (0, rn511, rx512, rv640, rv510) ⟨(hs.weak (List.Sublist.refl _) (List.Sublist.refl _) ⟨rfl, rfl, rfl, rfl, rfl, rfl, rfl, rfl, trivial⟩), hI0⟩ (fun s a w hI => ?_)
      obtain ⟨x740, rn743, rx744, rv741, rv742⟩ := s
      obtain ⟨hs, hI⟩ := hI
      have hS := hst x740 rn743 rx744 hI
      clear hst hI0 hI
      refine Wp.seq (Wp.region (sP (Value.bool (decide (x740 < ((rn641 : Nat) : Int)))) hs fun _ hs => ?_))
      refine wpList_nil (Wp.seq (Wp.cond hs rfl rfl decide_eq_true_iff (fun hc => ?_) (fun hc => ?_)))
      · have hS := hS.1 hc
        refine Wp.skip (Wp.join (fun a w => ∃ (rn760 : Nat) (rx761 : List Value) (rv758 : Value) (rv759 : Value), Sx 79 E [] M8 w a [(1, (Value.pointer (some ⟨b4, 0, none⟩))), (3, (Value.slice xa5 xl6 xc7)), (4, rv759), (5, (Value.int .i64 x509)), (17, (Value.int .i64 x509)), (55, rv758), (56, (Value.int .i64 ((rn641 : Nat) : Int))), (57, (Value.int .i64 x740))] [⟨b4, 24, [(Value.slice ga1 gl2 gc3)]⟩] [⟨rv758, 4, 1, rn641, rx642, true⟩, ⟨rv759, 55, 4, rn760, rx761, true⟩] ∧ (S_chaffref_First_J2 x740 rn743 rx744 I745 mu746 rn760 rx761 K)) ?_ ?_)
        · refine Wp.block (Wp.seq (Wp.region (sP (Value.int .i64 x740) hs fun _ hs => ?_)))
          obtain ⟨ad747, cap748, hv, hcp, hxl⟩ := hs.rowform 0 rfl
          dsimp only at hv hcp hxl
          subst hv
          obtain ⟨h0, hl, hS⟩ := hS
          have hix749 : x740.toNat < rn641 := by omega
          obtain ⟨g750, hg750⟩ := hs.rowblk 0 rfl (by omega)
          refine sY (Value.pointer (some ⟨g750, 0 + x740.toNat * 1, none⟩)) hs (Yl.indexS (e := 4) (sz := 1) rfl rfl rfl rfl (by kernel_rfl) (by kernel_rfl) hg750 h0 hl) fun _ hs => ?_
          obtain ⟨x751, hcs, hS⟩ := hS
          refine sY (Value.bool x751) hs (Yl.loadR (vs := [(Value.bool x751)]) 0 false rfl hg750 rfl rfl (by kernel_rfl) hcs) fun _ hs => ?_
          refine sP (Value.int .i64 x740) hs fun _ hs => ?_
          refine sP (Value.bool x751) hs fun _ hs => ?_
          refine wpList_nil (Wp.seq (Wp.region (sP (Value.bool x751) hs fun _ hs => ?_)))
          refine wpList_nil (Wp.cond hs rfl rfl Iff.rfl (fun hc => ?_) (fun hc => ?_))
          · have hS := hS.1 hc
            refine Wp.regionD [true, true, true, true, true, true, true, true, true, true, true, true, true, false] hs (by kernel_rfl) rfl [⟨b4, 24, [(Value.slice ga1 gl2 gc3)]⟩] (fun _ h => h) [⟨(Value.slice ad747 rn641 cap748), 4, 1, rn641, rx642, true⟩, ⟨rv742, 55, 4, rn743, rx744, true⟩] (fun _ h => h) (fun _ hs hC => ?_)
            have hL := Mem.le.refl M8
            refine dP rv742 0 [4, 5, 6, 10, 11, 12, 13] hs QZ.no (wanted_none rfl) fun _ hs => ?_
            refine dP (Value.int .i64 x740) 1 [4, 5, 6, 10, 11, 12, 13] hs QZ.no (wanted_none rfl) fun _ hs => ?_
            refine dP (Value.int .i64 x509) 2 [3, 5, 6, 10, 12, 13] hs QZ.no (wanted_none rfl) fun _ hs => ?_
            obtain ⟨hI, hS⟩ := hS
            refine stepDP (v := (Value.int .i64 (x509.tdiv 64))) 3 [5, 6, 10, 12, 13] hs QZ.no rfl (wanted_none rfl) rfl (by decide) (by kernel_rfl) (by kernel_rfl) (by kernel_rfl) (Yl.eq (Yl.pure (v := Value.int .i64 (IntKind.wrap .i64 (x509.tdiv 64))) rfl (fun _ => by kernel_rfl)) (congrArg (Value.int .i64) (wrap_in hI))) (fun _ hs => ?_)
            obtain ⟨ad752, cap753, hv, hcp, hxl⟩ := hs.rowform 1 rfl
            dsimp only at hv hcp hxl
            subst hv
            obtain ⟨h0, hl, hS⟩ := hS
            have hix754 : x740.toNat < rn743 := by omega
            obtain ⟨g755, hg755⟩ := hs.rowblk 1 rfl (by omega)
            refine stepDP (v := (Value.pointer (some ⟨g755, 0 + x740.toNat * 4, none⟩))) 4 [5, 6, 10, 12, 13] hs QZ.no rfl (wanted_none rfl) rfl (by decide) (by kernel_rfl) (by kernel_rfl) (by kernel_rfl) (Yl.indexS (e := 55) (sz := 4) rfl rfl rfl rfl (by kernel_rfl) (by kernel_rfl) hg755 h0 hl) (fun _ hs => ?_)
            obtain ⟨h0, hl, hS⟩ := hS
            refine stepDP (v := (Value.pointer (some ⟨g755, 0 + x740.toNat * 4 + (x509.tdiv 64).toNat * 1, none⟩))) 5 [6, 10, 12, 13] hs QZ.no rfl (wanted_none rfl) rfl (by decide) (by kernel_rfl) (by kernel_rfl) (by kernel_rfl) (Yl.indexA (e := 53) (sz := 1) rfl rfl rfl rfl (by kernel_rfl) (by kernel_rfl) h0 hl) (fun _ hs => ?_)
            obtain ⟨x756, hcs, hS⟩ := hS
            refine stepDY (v := (Value.int .u64 x756)) 6 [10, 12, 13] hs hC QZ.no rfl (wanted_none rfl) rfl (by decide) (by kernel_rfl) (by kernel_rfl) (by kernel_rfl) (Yl.loadR (vs := [(Value.int .u64 x756)]) 1 false rfl hg755 rfl rfl (by kernel_rfl) hcs) (fun _ hs => ?_)
            refine dP (Value.int .i64 x509) 7 [8, 9, 10, 12, 13] hs QZ.no (wanted_none rfl) fun _ hs => ?_
            refine dP (Value.int .i64 (x509.tmod 64)) 8 [9, 10, 12, 13] hs QZ.no (wanted_none rfl) fun _ hs => ?_
            obtain ⟨h0, hS⟩ := hS
            refine stepDP (v := (Value.int .u64 (bShl .u64 1 (x509.tmod 64)))) 9 [10, 12, 13] hs QZ.no rfl (wanted_none rfl) rfl (by decide) (by kernel_rfl) (by kernel_rfl) (by kernel_rfl) (Yl.shl rfl rfl rfl rfl h0) (fun _ hs => ?_)
            refine dP (Value.int .u64 (IntKind.wrap .u64 (x756 + (bShl .u64 1 (x509.tmod 64))))) 10 [12, 13] hs QZ.no (wanted_none rfl) fun _ hs => ?_
            refine stepDE 11 rfl (wanted_none rfl) (by kernel_rfl) #[] ?_
            obtain ⟨h0, hl, hS⟩ := hS
            have hix757 : x740.toNat < rn743 := by omega
            refine sY (Value.pointer (some ⟨g755, 0 + x740.toNat * 4, none⟩)) hs (Yl.indexS (e := 55) (sz := 4) rfl rfl rfl rfl (by kernel_rfl) (by kernel_rfl) hg755 h0 hl) fun _ hs => ?_
            refine wpList_nil (⟨fun _ h => h, ?_⟩)
            refine stepDE 12 rfl (wanted_none rfl) (by kernel_rfl) #[] ?_
            obtain ⟨h0, hl, hS⟩ := hS
            refine sY (Value.pointer (some ⟨g755, 0 + x740.toNat * 4 + (x509.tdiv 64).toNat * 1, none⟩)) hs (Yl.indexA (e := 53) (sz := 1) rfl rfl rfl rfl (by kernel_rfl) (by kernel_rfl) h0 hl) fun _ hs => ?_
            refine wpList_nil (⟨fun _ h => h, ?_⟩)
            refine stepDE 13 rfl (wanted_none rfl) (by kernel_rfl) #[] ?_
            refine stepStoreR 1 (vs := [(Value.int .u64 (IntKind.wrap .u64 (x756 + (bShl .u64 1 (x509.tmod 64)))))]) hs rfl hg755 rfl rfl rfl rfl rfl (by kernel_rfl) (by have := hix757; simp only [List.length_cons, List.length_nil]; omega) rfl (fun _ _ hs => ?_)
            replace hs := hs.chrs (rs' := [⟨(Value.slice ad747 rn641 cap748), 4, 1, rn641, rx642, true⟩, ⟨(Value.slice ad752 rn743 cap753), 55, 4, rn743, (putAt rx744 (0 + x740.toNat * 4 + (x509.tdiv 64).toNat * 1) [(Value.int .u64 (IntKind.wrap .u64 (x756 + (bShl .u64 1 (x509.tmod 64)))))]), true⟩]) rfl
            refine wpList_nil (⟨fun h => absurd h (by decide), ?_⟩)
            refine WpD.done (by kernel_rfl) ?_ _
            exact ⟨rn743, (putAt rx744 (0 + x740.toNat * 4 + (x509.tdiv 64).toNat * 1) [(Value.int .u64 (IntKind.wrap .u64 (x756 + (bShl .u64 1 (x509.tmod 64)))))]), (Value.slice ad747 rn641 cap748), (Value.slice ad752 rn743 cap753), (hs.weak (List.Sublist.refl _) (List.Sublist.refl _) ⟨rfl, rfl, rfl, rfl, rfl, rfl, rfl, rfl, trivial⟩), hS⟩
          · have hS := hS.2 hc
            exact Wp.skip (⟨rn743, rx744, (Value.slice ad747 rn641 cap748), rv742, (hs.weak (List.Sublist.refl _) (List.Sublist.refl _) ⟨rfl, rfl, rfl, rfl, rfl, rfl, rfl, rfl, trivial⟩), hS⟩)
        · intro a w hJ
          obtain ⟨rn760, rx761, rv758, rv759, hs, hS⟩ := hJ
          unfold S_chaffref_First_J2 at hS
          refine Wp.region ?_
          obtain ⟨hI, hS⟩ := hS
          refine sY (Value.int .i64 (x740 + 1)) hs (Yl.eq (Yl.pure (v := Value.int .i64 (IntKind.wrap .i64 (x740 + 1))) rfl (fun _ => by kernel_rfl)) (congrArg (Value.int .i64) (wrap_in hI))) fun _ hs => ?_
          refine sP (Value.int .i64 (x740 + 1)) hs fun _ hs => ?_
          exact wpList_nil (⟨(x740 + 1, rn760, rx761, rv758, rv759), ⟨(hs.weak (List.Sublist.refl _) (List.Sublist.refl _) ⟨rfl, rfl, rfl, rfl, rfl, rfl, rfl, rfl, trivial⟩), hS.1⟩, hS.2⟩)
      · have hS := hS.2 hc
        refine Wp.exit rfl (Wp.region ?_)
        obtain ⟨hI, hS⟩ := hS
        refine sY (Value.int .i64 (x509 + 1)) hs (Yl.eq (Yl.pure (v := Value.int .i64 (IntKind.wrap .i64 (x509 + 1))) rfl (fun _ => by kernel_rfl)) (congrArg (Value.int .i64) (wrap_in hI))) fun _ hs => ?_
        refine sP (Value.int .i64 (x509 + 1)) hs fun _ hs => ?_
        exact wpList_nil (⟨(x509 + 1, rn743, rx744, rv742), ⟨(hs.weak (List.Sublist.refl _) (.cons _ (.cons_cons _ List.Sublist.slnil)) ⟨rfl, rfl, rfl, rfl, trivial⟩), hS.1⟩, hS.2⟩)
  · have hS := hS.2 hc
    refine Wp.exit rfl (Wp.seq (Wp.region (sP rv510 hs fun _ hs => ?_)))
    refine sP rv510 hs fun _ hs => ?_
    refine wpList_nil (Wp.ret ?_)
    obtain ⟨ad762, cap763, hv, hcp, hxl⟩ := hs.rowform 0 rfl
    dsimp only at hv hcp hxl
    subst hv
    obtain ⟨M764, hle, hsl, hnew, hs⟩ := hs.release 0 rfl [] rfl
    have hMM := hMM.next hle hnew
    have hS := hS M764 ad762 cap763 hle hsl
    exact leaveE (K := K) hs (resT hs rfl rfl) hMM.2 hS
set_option linter.unusedVariables false in
def S_slices_Equal_Set (sa1 : Option Addr) (sl2 : Nat) (sc3 : Nat) (sa4 : Option Addr) (sl5 : Nat) (sc6 : Nat) (M : Mem) (K : Value → Prop) : Prop :=
  ((((sl2 : Nat) : Int) ≠ ((sl5 : Nat) : Int) → K (Value.bool false)) ∧ (¬ (((sl2 : Nat) : Int) ≠ ((sl5 : Nat) : Int)) → (∃ (I15 : Int → Prop) (mu16 : Int → Nat), I15 0 ∧ ∀ (x14 : Int), (I15 x14 → ((x14 < ((sl2 : Nat) : Int) → (∃ (b17 o18 : Nat), sa1 = some ⟨b17, o18, none⟩ ∧ (0 : Int) ≤ x14 ∧ x14 < ((sl2 : Nat) : Int) ∧ (∃ (x19 : X_api_Set), At M b17 (o18 + x14.toNat * 4) x19.cells ∧ (∃ (b20 o21 : Nat), sa4 = some ⟨b20, o21, none⟩ ∧ (0 : Int) ≤ x14 ∧ x14 < ((sl5 : Nat) : Int) ∧ (∃ (x22 : X_api_Set), At M b20 (o21 + x14.toNat * 4) x22.cells ∧ ((¬ ((cellsEq [x19.w0, x19.w1, x19.w2, x19.w3] [x22.w0, x22.w1, x22.w2, x22.w3]) = true) → K (Value.bool false)) ∧ (¬ (¬ ((cellsEq [x19.w0, x19.w1, x19.w2, x19.w3] [x22.w0, x22.w1, x22.w2, x22.w3]) = true)) → (InI (x14 + 1) ∧ I15 (x14 + 1) ∧ mu16 (x14 + 1) < mu16 x14)))))))) ∧ (¬ (x14 < ((sl2 : Nat) : Int)) → K (Value.bool true)))))))
set_option linter.unusedVariables false in
set_option maxRecDepth 100000 in
theorem s_slices_Equal_Set (sa1 : Option Addr) (sl2 : Nat) (sc3 : Nat) (sa4 : Option Addr) (sl5 : Nat) (sc6 : Nat) (M : Mem) (K : Value → Prop) (hS : S_slices_Equal_Set sa1 sl2 sc3 sa4 sl5 sc6 M K) : CallE Try.prog 31 #[(Value.slice sa1 sl2 sc3), (Value.slice sa4 sl5 sc6)] M (fun v _ => K v) := by
  refine enterE Try.func31 rfl 26 rfl (Nat.le_of_ble_eq_true rfl) (fun E a hs => ?_)
  unfold S_slices_Equal_Set at hS
  have hMM := MX.refl M E
  change Sx 26 E [] M E a [(0, (Value.slice sa1 sl2 sc3)), (1, (Value.slice sa4 sl5 sc6))] [] [] at hs
  refine Wp.seq (Wp.region (sP (Value.bool false) hs fun _ hs => ?_))
  refine wpList_nil (Wp.seq (Wp.seq (Wp.region (sP (Value.slice sa1 sl2 sc3) hs fun _ hs => ?_))))
  refine sP (Value.int .i64 ((sl2 : Nat) : Int)) hs fun _ hs => ?_
  refine sP (Value.slice sa4 sl5 sc6) hs fun _ hs => ?_
  refine sP (Value.int .i64 ((sl5 : Nat) : Int)) hs fun _ hs => ?_
  refine sP (Value.bool (((sl2 : Nat) : Int) != ((sl5 : Nat) : Int))) hs fun _ hs => ?_
  refine wpList_nil (Wp.cond hs rfl rfl bne_iff_ne (fun hc => ?_) (fun hc => ?_))
  · have hS := hS.1 hc
    refine Wp.seq (Wp.region (sP (Value.bool false) hs fun _ hs => ?_))
    exact wpList_nil (Wp.ret (leaveE (K := fun v _ => K v) hs (resT hs rfl rfl) hMM.2 (fun _ _ => hS)))
  · have hS := hS.2 hc
    refine Wp.skip (Wp.seq (Wp.seq (Wp.region (sP (Value.slice sa1 sl2 sc3) hs fun _ hs => ?_))))
    refine sP (Value.int .i64 ((sl2 : Nat) : Int)) hs fun _ hs => ?_
    refine sP (Value.int .i64 0) hs fun _ hs => ?_
    refine wpList_nil (Wp.block ?_)
    obtain ⟨I15, mu16, hI0, hst⟩ := hS
    refine Wp.loop (σ := (Int)) (fun s a w => match s with | (x14) => Sx 26 E [] M w a [(0, (Value.slice sa1 sl2 sc3)), (1, (Value.slice sa4 sl5 sc6)), (12, (Value.int .i64 ((sl2 : Nat) : Int))), (13, (Value.int .i64 x14))] [] [] ∧ I15 x14) (fun s => match s with | (x14) => mu16 x14) (0) ⟨(hs.weak (List.Sublist.refl _) (List.Sublist.refl _) ⟨rfl, rfl, rfl, rfl, trivial⟩), hI0⟩ (fun x14 a w hI => ?_)
    obtain ⟨hs, hI⟩ := hI
    have hS := hst x14 hI
    clear hst hI0 hI
    refine Wp.seq (Wp.region (sP (Value.bool (decide (x14 < ((sl2 : Nat) : Int)))) hs fun _ hs => ?_))
    refine wpList_nil (Wp.seq (Wp.cond hs rfl rfl decide_eq_true_iff (fun hc => ?_) (fun hc => ?_)))
    · have hS := hS.1 hc
      refine Wp.skip (Wp.seq (Wp.block (Wp.seq (Wp.region (sP (Value.int .i64 x14) hs fun _ hs => ?_)))))
      refine sP (Value.int .i64 x14) hs fun _ hs => ?_
      refine wpList_nil (Wp.seq (Wp.regionD [true, true, true, true, true, true, true, true, true] hs (by kernel_rfl) rfl [] (fun _ h => h) [] (fun _ h => h) (fun _ hs hC => ?_)))
      have hL := Mem.le.refl M
      refine dP (Value.slice sa1 sl2 sc3) 0 [2, 3, 8] hs QZ.no (wanted_none rfl) fun _ hs => ?_
      refine dP (Value.int .i64 x14) 1 [2, 3, 8] hs QZ.no (wanted_none rfl) fun _ hs => ?_
      obtain ⟨b17, o18, ha, h0, hl, hS⟩ := hS
      refine stepDP (v := (Value.pointer (some ⟨b17, o18 + x14.toNat * 4, none⟩))) 2 [3, 8] hs QZ.no rfl (wanted_none rfl) rfl (by decide) (by kernel_rfl) (by kernel_rfl) (by kernel_rfl) (Yl.indexS (e := 55) (sz := 4) rfl rfl rfl rfl (by kernel_rfl) (by kernel_rfl) ha h0 hl) (fun _ hs => ?_)
      obtain ⟨x19, hat, hS⟩ := hS
      refine stepDY (v := x19.val) 3 [8] hs hC QZ.no rfl (wanted_none rfl) rfl (by decide) (by kernel_rfl) (by kernel_rfl) (by kernel_rfl) (Yl.loadV (vs := x19.cells) true rfl rfl (by kernel_rfl) hat) (fun _ hs => ?_)
      refine dP (Value.slice sa4 sl5 sc6) 4 [6, 7, 8] hs QZ.no (wanted_none rfl) fun _ hs => ?_
      refine stepDE 5 rfl (wanted_none rfl) (by kernel_rfl) #[] ?_
      refine sP (Value.int .i64 x14) hs fun _ hs => ?_
      refine wpList_nil (⟨fun _ h => h, ?_⟩)
      refine stepDE 6 rfl (wanted_none rfl) (by kernel_rfl) #[] ?_
      obtain ⟨b20, o21, ha, h0, hl, hS⟩ := hS
      refine sY (Value.pointer (some ⟨b20, o21 + x14.toNat * 4, none⟩)) hs (Yl.indexS (e := 55) (sz := 4) rfl rfl rfl rfl (by kernel_rfl) (by kernel_rfl) ha h0 hl) fun _ hs => ?_
      refine wpList_nil (⟨fun _ h => h, ?_⟩)
      refine stepDE 7 rfl (wanted_none rfl) (by kernel_rfl) #[] ?_
      obtain ⟨x22, hat, hS⟩ := hS
      refine sY x22.val hs (Yl.loadV (vs := x22.cells) true rfl rfl (by kernel_rfl) hat) fun _ hs => ?_
      refine wpList_nil (⟨fun _ h => h, ?_⟩)
      refine stepDE 8 rfl (wanted_none rfl) (by kernel_rfl) #[] ?_
      refine sY (Value.bool (!(cellsEq [x19.w0, x19.w1, x19.w2, x19.w3] [x22.w0, x22.w1, x22.w2, x22.w3]))) hs (Yl.neqA (n := 4) (e := 53) (k := .u64) (xs := [x19.w0, x19.w1, x19.w2, x19.w3]) (ys := [x22.w0, x22.w1, x22.w2, x22.w3]) rfl (by kernel_rfl) (by kernel_rfl) (by kernel_rfl) (by kernel_rfl) rfl rfl rfl rfl rfl rfl) fun _ hs => ?_
      refine wpList_nil (⟨fun _ h => h, ?_⟩)
      refine WpD.done (by kernel_rfl) ?_ _
      refine Wp.cond hs rfl rfl (bnot_iff Iff.rfl) (fun hc => ?_) (fun hc => ?_)
      · have hS := hS.1 hc
        refine Wp.seq (Wp.region (sP (Value.bool false) hs fun _ hs => ?_))
        exact wpList_nil (Wp.ret (leaveE (K := fun v _ => K v) hs (resT hs rfl rfl) hMM.2 (fun _ _ => hS)))
      · have hS := hS.2 hc
        refine Wp.skip (Wp.region ?_)
        obtain ⟨hI, hS⟩ := hS
        refine sY (Value.int .i64 (x14 + 1)) hs (Yl.eq (Yl.pure (v := Value.int .i64 (IntKind.wrap .i64 (x14 + 1))) rfl (fun _ => by kernel_rfl)) (congrArg (Value.int .i64) (wrap_in hI))) fun _ hs => ?_
        refine sP (Value.int .i64 (x14 + 1)) hs fun _ hs => ?_
        exact wpList_nil (⟨(x14 + 1), ⟨(hs.weak (List.Sublist.refl _) (List.Sublist.refl _) ⟨rfl, rfl, rfl, rfl, trivial⟩), hS.1⟩, hS.2⟩)
    · have hS := hS.2 hc
      refine Wp.exit rfl (Wp.seq (Wp.region (sP (Value.bool true) hs fun _ hs => ?_)))
      exact wpList_nil (Wp.ret (leaveE (K := fun v _ => K v) hs (resT hs rfl rfl) hMM.2 (fun _ _ => hS)))

end Go.Proofs.Ytaljnkggjadonaa.core
