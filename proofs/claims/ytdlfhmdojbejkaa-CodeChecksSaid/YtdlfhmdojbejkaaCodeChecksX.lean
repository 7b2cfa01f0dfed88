/- For every input CodeChecks answers true and leaves its argument as it was. No condition. -/
import Derived.Test.YtdlfhmdojbejkaaRows
import Derived.Test.YtdlfhmdojbejkaaGxD
import Derived.Test.YtdlfhmdojbejkaaGxR
import Derived.Test.YtdlfhmdojbejkaaGxT
namespace Go.Proofs.Ytdlfhmdojbejkaa.lawCodeChecks
open Go.Gx Go.RowKit Go.ChangeShapes Go.WideShapes Go.ChangeAt
set_option linter.unusedVariables false in
def S_code_jumps_J1 (x2 : Bool) (K : Value → Prop) : Prop :=
  ((x2 = true → K (Value.bool true)) ∧ (¬ (x2 = true) → K (Value.bool false)))
set_option linter.unusedVariables false in
def S_code_jumps (op1 : Int) (M : Mem) (K : Value → Prop) : Prop :=
  (((op1 : Int) = 2 → (S_code_jumps_J1 ((op1 : Int) == (2 : Int)) K)) ∧ (¬ ((op1 : Int) = 2) → (((op1 : Int) = 3 → (S_code_jumps_J1 ((op1 : Int) == (3 : Int)) K)) ∧ (¬ ((op1 : Int) = 3) → (((op1 : Int) = 4 → (S_code_jumps_J1 ((op1 : Int) == (4 : Int)) K)) ∧ (¬ ((op1 : Int) = 4) → (((op1 : Int) = 5 → (S_code_jumps_J1 ((op1 : Int) == (5 : Int)) K)) ∧ (¬ ((op1 : Int) = 5) → (((op1 : Int) = 9 → (S_code_jumps_J1 ((op1 : Int) == (9 : Int)) K)) ∧ (¬ ((op1 : Int) = 9) → (S_code_jumps_J1 ((op1 : Int) == (10 : Int)) K)))))))))))
set_option linter.unusedVariables false in
set_option maxRecDepth 100000 in
theorem s_code_jumps (op1 : Int) (M : Mem) (K : Value → Prop) (hS : S_code_jumps op1 M K) : CallE Try.prog 63 #[(Value.int .i64 op1)] M (fun v _ => K v) := by
  refine enterE Try.func63 rfl 11 rfl (Nat.le_of_ble_eq_true rfl) (fun E a hs => ?_)
  unfold S_code_jumps at hS
  have hMM : MM M M E := fun _ _ h => .inl h
  change Sx 11 E [] M E a [(0, (Value.int .i64 op1))] [] [] at hs
  refine Wp.seq ?_
  refine Wp.region ?_
  refine stepY (v := (Value.bool false)) hs rfl rfl (by decide) (Yl.pure rfl (fun _ => by kernel_rfl)) (fun _ hs => ?_)
  refine wpList_nil ?_
  refine Wp.seq ?_
  refine Wp.seq ?_
  refine Wp.region ?_
  refine stepY (v := (Value.int .i64 op1)) hs rfl rfl (by decide) (Yl.pure rfl (fun _ => by kernel_rfl)) (fun _ hs => ?_)
  refine wpList_nil ?_
  refine Wp.block ?_
  refine Wp.join (fun a w => ∃ (x2 : Bool), Sx 11 E [] M w a [(4, (Value.bool x2))] [] [] ∧ (S_code_jumps_J1 x2 K)) ?_ ?_
  · refine Wp.seq ?_
    refine Wp.region ?_
    refine stepY (v := (Value.bool ((op1 : Int) == (2 : Int)))) hs rfl rfl (by decide) (Yl.pure rfl (fun _ => by kernel_rfl)) (fun _ hs => ?_)
    refine stepY (v := (Value.bool ((op1 : Int) == (2 : Int)))) hs rfl rfl (by decide) (Yl.pure rfl (fun _ => by kernel_rfl)) (fun _ hs => ?_)
    refine wpList_nil ?_
    refine Wp.cond hs rfl rfl beq_iff_eq (fun hc => ?_) (fun hc => ?_)
    · have hS := hS.1 hc
      refine Wp.skip ?_
      exact ⟨((op1 : Int) == (2 : Int)), (hs.weak (List.Sublist.refl _) (List.Sublist.refl _) ⟨rfl, trivial⟩), hS⟩
    · have hS := hS.2 hc
      refine Wp.seq ?_
      refine Wp.region ?_
      refine stepY (v := (Value.bool ((op1 : Int) == (3 : Int)))) hs rfl rfl (by decide) (Yl.pure rfl (fun _ => by kernel_rfl)) (fun _ hs => ?_)
      refine stepY (v := (Value.bool ((op1 : Int) == (3 : Int)))) hs rfl rfl (by decide) (Yl.pure rfl (fun _ => by kernel_rfl)) (fun _ hs => ?_)
      refine wpList_nil ?_
      refine Wp.cond hs rfl rfl beq_iff_eq (fun hc => ?_) (fun hc => ?_)
      · have hS := hS.1 hc
        refine Wp.skip ?_
        exact ⟨((op1 : Int) == (3 : Int)), (hs.weak (List.Sublist.refl _) (List.Sublist.refl _) ⟨rfl, trivial⟩), hS⟩
      · have hS := hS.2 hc
        refine Wp.seq ?_
        refine Wp.region ?_
        refine stepY (v := (Value.bool ((op1 : Int) == (4 : Int)))) hs rfl rfl (by decide) (Yl.pure rfl (fun _ => by kernel_rfl)) (fun _ hs => ?_)
        refine stepY (v := (Value.bool ((op1 : Int) == (4 : Int)))) hs rfl rfl (by decide) (Yl.pure rfl (fun _ => by kernel_rfl)) (fun _ hs => ?_)
        refine wpList_nil ?_
        refine Wp.cond hs rfl rfl beq_iff_eq (fun hc => ?_) (fun hc => ?_)
        · have hS := hS.1 hc
          refine Wp.skip ?_
          exact ⟨((op1 : Int) == (4 : Int)), (hs.weak (List.Sublist.refl _) (List.Sublist.refl _) ⟨rfl, trivial⟩), hS⟩
        · have hS := hS.2 hc
          refine Wp.seq ?_
          refine Wp.region ?_
          refine stepY (v := (Value.bool ((op1 : Int) == (5 : Int)))) hs rfl rfl (by decide) (Yl.pure rfl (fun _ => by kernel_rfl)) (fun _ hs => ?_)
          refine stepY (v := (Value.bool ((op1 : Int) == (5 : Int)))) hs rfl rfl (by decide) (Yl.pure rfl (fun _ => by kernel_rfl)) (fun _ hs => ?_)
          refine wpList_nil ?_
          refine Wp.cond hs rfl rfl beq_iff_eq (fun hc => ?_) (fun hc => ?_)
          · have hS := hS.1 hc
            refine Wp.skip ?_
            exact ⟨((op1 : Int) == (5 : Int)), (hs.weak (List.Sublist.refl _) (List.Sublist.refl _) ⟨rfl, trivial⟩), hS⟩
          · have hS := hS.2 hc
            refine Wp.seq ?_
            refine Wp.region ?_
            refine stepY (v := (Value.bool ((op1 : Int) == (9 : Int)))) hs rfl rfl (by decide) (Yl.pure rfl (fun _ => by kernel_rfl)) (fun _ hs => ?_)
            refine stepY (v := (Value.bool ((op1 : Int) == (9 : Int)))) hs rfl rfl (by decide) (Yl.pure rfl (fun _ => by kernel_rfl)) (fun _ hs => ?_)
            refine wpList_nil ?_
            refine Wp.cond hs rfl rfl beq_iff_eq (fun hc => ?_) (fun hc => ?_)
            · have hS := hS.1 hc
              refine Wp.skip ?_
              exact ⟨((op1 : Int) == (9 : Int)), (hs.weak (List.Sublist.refl _) (List.Sublist.refl _) ⟨rfl, trivial⟩), hS⟩
            · have hS := hS.2 hc
              refine Wp.region ?_
              refine stepY (v := (Value.bool ((op1 : Int) == (10 : Int)))) hs rfl rfl (by decide) (Yl.pure rfl (fun _ => by kernel_rfl)) (fun _ hs => ?_)
              refine stepY (v := (Value.bool ((op1 : Int) == (10 : Int)))) hs rfl rfl (by decide) (Yl.pure rfl (fun _ => by kernel_rfl)) (fun _ hs => ?_)
              refine wpList_nil ?_
              exact ⟨((op1 : Int) == (10 : Int)), (hs.weak (List.Sublist.refl _) (List.Sublist.refl _) ⟨rfl, trivial⟩), hS⟩
  · intro a w hJ
    obtain ⟨x2, hs, hS⟩ := hJ
    unfold S_code_jumps_J1 at hS
    refine Wp.cond hs rfl rfl Iff.rfl (fun hc => ?_) (fun hc => ?_)
    · have hS := hS.1 hc
      refine Wp.seq ?_
      refine Wp.region ?_
      refine stepY (v := (Value.bool true)) hs rfl rfl (by decide) (Yl.pure rfl (fun _ => by kernel_rfl)) (fun _ hs => ?_)
      refine wpList_nil ?_
      refine Wp.ret ?_
      exact leaveE (K := fun v _ => K v) hs (resT hs rfl rfl) hMM (fun _ _ => hS)
    · have hS := hS.2 hc
      refine Wp.skip ?_
      refine Wp.seq ?_
      refine Wp.region ?_
      refine stepY (v := (Value.bool false)) hs rfl rfl (by decide) (Yl.pure rfl (fun _ => by kernel_rfl)) (fun _ hs => ?_)
      refine wpList_nil ?_
      refine Wp.ret ?_
      exact leaveE (K := fun v _ => K v) hs (resT hs rfl rfl) hMM (fun _ _ => hS)
set_option linter.unusedVariables false in
def S_slices_Index (sa1 : Option Addr) (sl2 : Nat) (sc3 : Nat) (v4 : Int) (M : Mem) (K : Value → Prop) : Prop :=
  (∃ (I10 : Int → Prop) (mu11 : Int → Nat), I10 0 ∧ ∀ (x9 : Int), (I10 x9 → ((x9 < ((sl2 : Nat) : Int) → (∃ (b12 o13 : Nat), sa1 = some ⟨b12, o13, none⟩ ∧ (0 : Int) ≤ x9 ∧ x9 < ((sl2 : Nat) : Int) ∧ (∃ (x14 : Int), At M b12 (o13 + x9.toNat * 1) [(Value.int .i64 x14)] ∧ (((v4 : Int) = x14 → K (Value.int .i64 x9)) ∧ (¬ ((v4 : Int) = x14) → (InI (x9 + 1) ∧ I10 (x9 + 1) ∧ mu11 (x9 + 1) < mu11 x9)))))) ∧ (¬ (x9 < ((sl2 : Nat) : Int)) → K (Value.int .i64 (-1))))))
set_option linter.unusedVariables false in
set_option maxRecDepth 100000 in
theorem s_slices_Index (sa1 : Option Addr) (sl2 : Nat) (sc3 : Nat) (v4 : Int) (M : Mem) (K : Value → Prop) (hS : S_slices_Index sa1 sl2 sc3 v4 M K) : CallE Try.prog 82 #[(Value.slice sa1 sl2 sc3), (Value.int .i64 v4)] M (fun v _ => K v) := by
  refine enterE Try.func82 rfl 19 rfl (Nat.le_of_ble_eq_true rfl) (fun E a hs => ?_)
  unfold S_slices_Index at hS
  have hMM : MM M M E := fun _ _ h => .inl h
  change Sx 19 E [] M E a [(0, (Value.slice sa1 sl2 sc3)), (1, (Value.int .i64 v4))] [] [] at hs
  refine Wp.seq ?_
  refine Wp.region ?_
  refine stepY (v := (Value.int .i64 0)) hs rfl rfl (by decide) (Yl.pure rfl (fun _ => by kernel_rfl)) (fun _ hs => ?_)
  refine wpList_nil ?_
  refine Wp.seq ?_
  refine Wp.seq ?_
  refine Wp.region ?_
  refine stepY (v := (Value.slice sa1 sl2 sc3)) hs rfl rfl (by decide) (Yl.pure rfl (fun _ => by kernel_rfl)) (fun _ hs => ?_)
  refine stepY (v := (Value.int .i64 ((sl2 : Nat) : Int))) hs rfl rfl (by decide) (Yl.pure rfl (fun _ => by kernel_rfl)) (fun _ hs => ?_)
  refine stepY (v := (Value.int .i64 0)) hs rfl rfl (by decide) (Yl.pure rfl (fun _ => by kernel_rfl)) (fun _ hs => ?_)
  refine wpList_nil ?_
  refine Wp.block ?_
  obtain ⟨I10, mu11, hI0, hst⟩ := hS
  refine Wp.loop (σ := (Int)) (fun s a w => match s with | (x9) => Sx 19 E [] M w a [(0, (Value.slice sa1 sl2 sc3)), (1, (Value.int .i64 v4)), (7, (Value.int .i64 ((sl2 : Nat) : Int))), (8, (Value.int .i64 x9))] [] [] ∧ I10 x9) (fun s => match s with | (x9) => mu11 x9) (0) ⟨(hs.weak (List.Sublist.refl _) (List.Sublist.refl _) ⟨rfl, rfl, rfl, rfl, trivial⟩), hI0⟩ (fun x9 a w hI => ?_)
  obtain ⟨hs, hI⟩ := hI
  have hS := hst x9 hI
  clear hst hI0 hI
  refine Wp.seq ?_
  refine Wp.region ?_
  refine stepY (v := (Value.bool (decide (x9 < ((sl2 : Nat) : Int))))) hs rfl rfl (by decide) (Yl.pure rfl (fun _ => by kernel_rfl)) (fun _ hs => ?_)
  refine wpList_nil ?_
  refine Wp.seq ?_
  refine Wp.cond hs rfl rfl decide_eq_true_iff (fun hc => ?_) (fun hc => ?_)
  · have hS := hS.1 hc
    refine Wp.skip ?_
    refine Wp.seq ?_
    refine Wp.block ?_
    refine Wp.seq ?_
    refine Wp.region ?_
    refine stepY (v := (Value.int .i64 x9)) hs rfl rfl (by decide) (Yl.pure rfl (fun _ => by kernel_rfl)) (fun _ hs => ?_)
    refine stepY (v := (Value.int .i64 x9)) hs rfl rfl (by decide) (Yl.pure rfl (fun _ => by kernel_rfl)) (fun _ hs => ?_)
    refine wpList_nil ?_
    refine Wp.seq ?_
    refine Wp.region ?_
    refine stepY (v := (Value.int .i64 v4)) hs rfl rfl (by decide) (Yl.pure rfl (fun _ => by kernel_rfl)) (fun _ hs => ?_)
    refine stepY (v := (Value.slice sa1 sl2 sc3)) hs rfl rfl (by decide) (Yl.pure rfl (fun _ => by kernel_rfl)) (fun _ hs => ?_)
    refine stepY (v := (Value.int .i64 x9)) hs rfl rfl (by decide) (Yl.pure rfl (fun _ => by kernel_rfl)) (fun _ hs => ?_)
    obtain ⟨b12, o13, ha, h0, hl, hS⟩ := hS
    refine stepY (v := (Value.pointer (some ⟨b12, o13 + x9.toNat * 1, none⟩))) hs rfl rfl (by decide) (Yl.indexS (e := 3) (sz := 1) rfl rfl rfl rfl (by kernel_rfl) (by kernel_rfl) ha h0 hl) (fun _ hs => ?_)
    obtain ⟨x14, hat, hS⟩ := hS
    refine stepY (v := (Value.int .i64 x14)) hs rfl rfl (by decide) (Yl.loadV (vs := [(Value.int .i64 x14)]) false rfl rfl (by kernel_rfl) hat) (fun _ hs => ?_)
    refine stepY (v := (Value.bool ((v4 : Int) == (x14 : Int)))) hs rfl rfl (by decide) (Yl.pure rfl (fun _ => by kernel_rfl)) (fun _ hs => ?_)
    refine wpList_nil ?_
    refine Wp.cond hs rfl rfl beq_iff_eq (fun hc => ?_) (fun hc => ?_)
    · have hS := hS.1 hc
      refine Wp.seq ?_
      refine Wp.region ?_
      refine stepY (v := (Value.int .i64 x9)) hs rfl rfl (by decide) (Yl.pure rfl (fun _ => by kernel_rfl)) (fun _ hs => ?_)
      refine stepY (v := (Value.int .i64 x9)) hs rfl rfl (by decide) (Yl.pure rfl (fun _ => by kernel_rfl)) (fun _ hs => ?_)
      refine wpList_nil ?_
      refine Wp.ret ?_
      exact leaveE (K := fun v _ => K v) hs (resT hs rfl rfl) hMM (fun _ _ => hS)
    · have hS := hS.2 hc
      refine Wp.skip ?_
      refine Wp.region ?_
      obtain ⟨hI, hS⟩ := hS
      refine stepY (v := (Value.int .i64 (x9 + 1))) hs rfl rfl (by decide) (Yl.eq (Yl.pure (v := Value.int .i64 (IntKind.wrap .i64 (x9 + 1))) rfl (fun _ => by kernel_rfl)) (congrArg (Value.int .i64) (wrap_in hI))) (fun _ hs => ?_)
      refine stepY (v := (Value.int .i64 (x9 + 1))) hs rfl rfl (by decide) (Yl.pure rfl (fun _ => by kernel_rfl)) (fun _ hs => ?_)
      refine wpList_nil ?_
      exact ⟨(x9 + 1), ⟨(hs.weak (List.Sublist.refl _) (List.Sublist.refl _) ⟨rfl, rfl, rfl, rfl, trivial⟩), hS.1⟩, hS.2⟩
  · have hS := hS.2 hc
    refine Wp.exit rfl ?_
    refine Wp.seq ?_
    refine Wp.region ?_
    refine stepY (v := (Value.int .i64 (-1))) hs rfl rfl (by decide) (Yl.pure rfl (fun _ => by kernel_rfl)) (fun _ hs => ?_)
    refine wpList_nil ?_
    refine Wp.ret ?_
    exact leaveE (K := fun v _ => K v) hs (resT hs rfl rfl) hMM (fun _ _ => hS)
set_option linter.unusedVariables false in
def S_slices_Contains (sa1 : Option Addr) (sl2 : Nat) (sc3 : Nat) (v4 : Int) (M : Mem) (K : Value → Prop) : Prop :=
  (CallE Try.prog 82 #[(Value.slice sa1 sl2 sc3), (Value.int .i64 v4)] M (fun v _ => ∃ (x5 : Int), v = (Value.int .i64 x5) ∧ K (Value.bool (decide (x5 ≥ 0)))))
set_option linter.unusedVariables false in
set_option maxRecDepth 100000 in
theorem s_slices_Contains (sa1 : Option Addr) (sl2 : Nat) (sc3 : Nat) (v4 : Int) (M : Mem) (K : Value → Prop) (hS : S_slices_Contains sa1 sl2 sc3 v4 M K) : CallE Try.prog 64 #[(Value.slice sa1 sl2 sc3), (Value.int .i64 v4)] M (fun v _ => K v) := by
  refine enterE Try.func64 rfl 9 rfl (Nat.le_of_ble_eq_true rfl) (fun E a hs => ?_)
  unfold S_slices_Contains at hS
  have hMM : MM M M E := fun _ _ h => .inl h
  change Sx 9 E [] M E a [(0, (Value.slice sa1 sl2 sc3)), (1, (Value.int .i64 v4))] [] [] at hs
  refine Wp.seq ?_
  refine Wp.region ?_
  refine stepY (v := (Value.bool false)) hs rfl rfl (by decide) (Yl.pure rfl (fun _ => by kernel_rfl)) (fun _ hs => ?_)
  refine wpList_nil ?_
  refine Wp.seq ?_
  refine Wp.region ?_
  refine stepY (v := (Value.slice sa1 sl2 sc3)) hs rfl rfl (by decide) (Yl.pure rfl (fun _ => by kernel_rfl)) (fun _ hs => ?_)
  refine stepY (v := (Value.int .i64 v4)) hs rfl rfl (by decide) (Yl.pure rfl (fun _ => by kernel_rfl)) (fun _ hs => ?_)
  refine stepCallP [(Value.slice sa1 sl2 sc3), (Value.int .i64 v4)] hs rfl ⟨_, rfl, rfl⟩ rfl Try.func82 rfl (by kernel_rfl) (by decide) hS (fun _ _ v hS hs => ?_)
  obtain ⟨x5, hv, hS⟩ := hS
  subst hv
  refine stepY (v := (Value.bool (decide (x5 ≥ 0)))) hs rfl rfl (by decide) (Yl.pure rfl (fun _ => by kernel_rfl)) (fun _ hs => ?_)
  refine stepY (v := (Value.bool (decide (x5 ≥ 0)))) hs rfl rfl (by decide) (Yl.pure rfl (fun _ => by kernel_rfl)) (fun _ hs => ?_)
  refine wpList_nil ?_
  refine Wp.ret ?_
  exact leaveE (K := fun v _ => K v) hs (resT hs rfl rfl) hMM (fun _ _ => hS)
set_option linter.unusedVariables false in
def S_code_Check_J2 (x17 : Int) (I18 : Int → Prop) (mu19 : Int → Nat) (x31 : Bool) (K : Value → Prop) : Prop :=
  ((x31 = true → K (Value.int .i64 3)) ∧ (¬ (x31 = true) → (InI (x17 + 1) ∧ I18 (x17 + 1) ∧ mu19 (x17 + 1) < mu19 x17)))
set_option linter.unusedVariables false in
def S_code_Check_J1 (x17 : Int) (I18 : Int → Prop) (mu19 : Int → Nat) (x22 : Int) (x23 : Int) (x24 : Int) (x25 : Int) (x26 : Int) (x27 : Int) (most30 : Int) (K : Value → Prop) : Prop :=
  ((x22 < 1 → (S_code_Check_J2 x17 I18 mu19 true K)) ∧ (¬ (x22 < 1) → ((x22 > 11 → (S_code_Check_J2 x17 I18 mu19 true K)) ∧ (¬ (x22 > 11) → ((x23 < 0 → (S_code_Check_J2 x17 I18 mu19 true K)) ∧ (¬ (x23 < 0) → ((x23 > most30 → (S_code_Check_J2 x17 I18 mu19 true K)) ∧ (¬ (x23 > most30) → (((x22 : Int) ≠ 1 → (S_code_Check_J2 x17 I18 mu19 (!(cellsEq [x24, x25, x26, x27] [0, 0, 0, 0])) K)) ∧ (¬ ((x22 : Int) ≠ 1) → (S_code_Check_J2 x17 I18 mu19 false K)))))))))))
set_option linter.unusedVariables false in
def S_code_Check (la1 : Option Addr) (ll2 : Nat) (lc3 : Nat) (M : Mem) (K : Value → Prop) : Prop :=
  ((((ll2 : Nat) : Int) > 6000 → K (Value.int .i64 2)) ∧ (¬ (((ll2 : Nat) : Int) > 6000) → (∃ (I18 : Int → Prop) (mu19 : Int → Nat), I18 0 ∧ ∀ (x17 : Int), (I18 x17 → ((x17 < ((ll2 : Nat) : Int) → (∃ (b20 o21 : Nat), la1 = some ⟨b20, o21, none⟩ ∧ (0 : Int) ≤ x17 ∧ x17 < ((ll2 : Nat) : Int) ∧ (∃ (x22 : Int) (x23 : Int) (x24 : Int) (x25 : Int) (x26 : Int) (x27 : Int), At M b20 (o21 + x17.toNat * 6) [(Value.int .i64 x22), (Value.int .i64 x23), (Value.int .u64 x24), (Value.int .u64 x25), (Value.int .u64 x26), (Value.int .u64 x27)] ∧ (CallE Try.prog 63 #[(Value.int .i64 x22)] M (fun v _ => ∃ (x29 : Bool), v = (Value.bool x29) ∧ ((x29 = true → (InI (((ll2 : Nat) : Int) - 1) ∧ (S_code_Check_J1 x17 I18 mu19 x22 x23 x24 x25 x26 x27 (((ll2 : Nat) : Int) - 1) K))) ∧ (¬ (x29 = true) → (S_code_Check_J1 x17 I18 mu19 x22 x23 x24 x25 x26 x27 0 K)))))))) ∧ (¬ (x17 < ((ll2 : Nat) : Int)) → K (Value.int .i64 0)))))))
set_option linter.unusedVariables false in
set_option maxRecDepth 100000 in
theorem s_code_Check (la1 : Option Addr) (ll2 : Nat) (lc3 : Nat) (M : Mem) (K : Value → Prop) (hS : S_code_Check la1 ll2 lc3 M K) : CallE Try.prog 23 #[(Value.slice la1 ll2 lc3)] M (fun v _ => K v) := by
  refine enterE Try.func23 rfl 52 rfl (Nat.le_of_ble_eq_true rfl) (fun E a hs => ?_)
  unfold S_code_Check at hS
  have hMM : MM M M E := fun _ _ h => .inl h
  change Sx 52 E [] M E a [(0, (Value.slice la1 ll2 lc3))] [] [] at hs
  refine Wp.seq ?_
  refine Wp.region ?_
  refine stepY (v := (Value.int .i64 0)) hs rfl rfl (by decide) (Yl.pure rfl (fun _ => by kernel_rfl)) (fun _ hs => ?_)
  refine wpList_nil ?_
  refine Wp.seq ?_
  refine Wp.seq ?_
  refine Wp.region ?_
  refine stepY (v := (Value.slice la1 ll2 lc3)) hs rfl rfl (by decide) (Yl.pure rfl (fun _ => by kernel_rfl)) (fun _ hs => ?_)
  refine stepY (v := (Value.int .i64 ((ll2 : Nat) : Int))) hs rfl rfl (by decide) (Yl.pure rfl (fun _ => by kernel_rfl)) (fun _ hs => ?_)
  refine stepY (v := (Value.bool (decide (((ll2 : Nat) : Int) > 6000)))) hs rfl rfl (by decide) (Yl.pure rfl (fun _ => by kernel_rfl)) (fun _ hs => ?_)
  refine wpList_nil ?_
  refine Wp.cond hs rfl rfl decide_eq_true_iff (fun hc => ?_) (fun hc => ?_)
  · have hS := hS.1 hc
    refine Wp.seq ?_
    refine Wp.region ?_
    refine stepY (v := (Value.int .i64 2)) hs rfl rfl (by decide) (Yl.pure rfl (fun _ => by kernel_rfl)) (fun _ hs => ?_)
    refine wpList_nil ?_
    refine Wp.ret ?_
    exact leaveE (K := fun v _ => K v) hs (resT hs rfl rfl) hMM (fun _ _ => hS)
  · have hS := hS.2 hc
    refine Wp.skip ?_
    refine Wp.seq ?_
    refine Wp.seq ?_
    refine Wp.region ?_
    refine stepY (v := (Value.slice la1 ll2 lc3)) hs rfl rfl (by decide) (Yl.pure rfl (fun _ => by kernel_rfl)) (fun _ hs => ?_)
    refine stepY (v := (Value.int .i64 ((ll2 : Nat) : Int))) hs rfl rfl (by decide) (Yl.pure rfl (fun _ => by kernel_rfl)) (fun _ hs => ?_)
    refine stepY (v := (Value.int .i64 0)) hs rfl rfl (by decide) (Yl.pure rfl (fun _ => by kernel_rfl)) (fun _ hs => ?_)
    refine wpList_nil ?_
    refine Wp.block ?_
    obtain ⟨I18, mu19, hI0, hst⟩ := hS
    refine Wp.loop (σ := (Int)) (fun s a w => match s with | (x17) => Sx 52 E [] M w a [(0, (Value.slice la1 ll2 lc3)), (9, (Value.slice la1 ll2 lc3)), (10, (Value.int .i64 ((ll2 : Nat) : Int))), (11, (Value.int .i64 x17))] [] [] ∧ I18 x17) (fun s => match s with | (x17) => mu19 x17) (0) ⟨(hs.weak (List.Sublist.refl _) (List.Sublist.refl _) ⟨rfl, rfl, rfl, rfl, trivial⟩), hI0⟩ (fun x17 a w hI => ?_)
    obtain ⟨hs, hI⟩ := hI
    have hS := hst x17 hI
    clear hst hI0 hI
    refine Wp.seq ?_
    refine Wp.region ?_
    refine stepY (v := (Value.bool (decide (x17 < ((ll2 : Nat) : Int))))) hs rfl rfl (by decide) (Yl.pure rfl (fun _ => by kernel_rfl)) (fun _ hs => ?_)
    refine wpList_nil ?_
    refine Wp.seq ?_
    refine Wp.cond hs rfl rfl decide_eq_true_iff (fun hc => ?_) (fun hc => ?_)
    · have hS := hS.1 hc
      refine Wp.skip ?_
      refine Wp.seq ?_
      refine Wp.block ?_
      refine Wp.seq ?_
      refine Wp.region ?_
      obtain ⟨b20, o21, ha, h0, hl, hS⟩ := hS
      refine stepY (v := (Value.pointer (some ⟨b20, o21 + x17.toNat * 6, none⟩))) hs rfl rfl (by decide) (Yl.indexS (e := 95) (sz := 6) rfl rfl rfl rfl (by kernel_rfl) (by kernel_rfl) ha h0 hl) (fun _ hs => ?_)
      obtain ⟨x22, x23, x24, x25, x26, x27, hat, hS⟩ := hS
      refine stepY (v := (Value.agg #[(Value.int .i64 x22), (Value.int .i64 x23), (Value.int .u64 x24), (Value.int .u64 x25), (Value.int .u64 x26), (Value.int .u64 x27)])) hs rfl rfl (by decide) (Yl.loadV (vs := [(Value.int .i64 x22), (Value.int .i64 x23), (Value.int .u64 x24), (Value.int .u64 x25), (Value.int .u64 x26), (Value.int .u64 x27)]) true rfl rfl (by kernel_rfl) hat) (fun _ hs => ?_)
      refine stepAlloc [(Value.int .i64 0), (Value.int .i64 0), (Value.int .u64 0), (Value.int .u64 0), (Value.int .u64 0), (Value.int .u64 0)] hs (by kernel_rfl) (by decide) (fun _ _ b28 hs => ?_)
      refine stepStoreB 0 (vs := [(Value.int .i64 x22), (Value.int .i64 x23), (Value.int .u64 x24), (Value.int .u64 x25), (Value.int .u64 x26), (Value.int .u64 x27)]) hs rfl rfl rfl rfl rfl rfl (by kernel_rfl) (Nat.le_of_ble_eq_true rfl) rfl (fun _ _ hs => ?_)
      replace hs := hs.chbx (bs' := [⟨b28, 95, [(Value.int .i64 x22), (Value.int .i64 x23), (Value.int .u64 x24), (Value.int .u64 x25), (Value.int .u64 x26), (Value.int .u64 x27)]⟩]) rfl
      refine wpList_nil ?_
      refine Wp.seq ?_
      refine Wp.region ?_
      refine stepY (v := (Value.int .i64 0)) hs rfl rfl (by decide) (Yl.pure rfl (fun _ => by kernel_rfl)) (fun _ hs => ?_)
      refine wpList_nil ?_
      refine Wp.join (fun a w => ∃ (most30 : Int), Sx 52 E [] M w a [(0, (Value.slice la1 ll2 lc3)), (4, (Value.pointer (some ⟨b28, 0, none⟩))), (5, (Value.int .i64 most30)), (9, (Value.slice la1 ll2 lc3)), (10, (Value.int .i64 ((ll2 : Nat) : Int))), (11, (Value.int .i64 x17))] [⟨b28, 95, [(Value.int .i64 x22), (Value.int .i64 x23), (Value.int .u64 x24), (Value.int .u64 x25), (Value.int .u64 x26), (Value.int .u64 x27)]⟩] [] ∧ (S_code_Check_J1 x17 I18 mu19 x22 x23 x24 x25 x26 x27 most30 K)) ?_ ?_
      · refine Wp.seq ?_
        refine Wp.region ?_
        refine stepY (v := (Value.pointer (some ⟨b28, 0, none⟩))) hs rfl rfl (by decide) (Yl.pure rfl (fun _ => by kernel_rfl)) (fun _ hs => ?_)
        refine stepY (v := (Value.int .i64 x22)) hs rfl rfl (by decide) (Yl.loadB (vs := [(Value.int .i64 x22)]) false 0 rfl rfl rfl (by kernel_rfl) rfl) (fun _ hs => ?_)
        refine stepCallP [(Value.int .i64 x22)] hs rfl ⟨_, rfl, rfl⟩ rfl Try.func63 rfl (by kernel_rfl) (by decide) hS (fun _ _ v hS hs => ?_)
        obtain ⟨x29, hv, hS⟩ := hS
        subst hv
        refine wpList_nil ?_
        refine Wp.cond hs rfl rfl Iff.rfl (fun hc => ?_) (fun hc => ?_)
        · have hS := hS.1 hc
          refine Wp.region ?_
          refine stepY (v := (Value.slice la1 ll2 lc3)) hs rfl rfl (by decide) (Yl.pure rfl (fun _ => by kernel_rfl)) (fun _ hs => ?_)
          refine stepY (v := (Value.int .i64 ((ll2 : Nat) : Int))) hs rfl rfl (by decide) (Yl.pure rfl (fun _ => by kernel_rfl)) (fun _ hs => ?_)
          obtain ⟨hI, hS⟩ := hS
          refine stepY (v := (Value.int .i64 (((ll2 : Nat) : Int) - 1))) hs rfl rfl (by decide) (Yl.eq (Yl.pure (v := Value.int .i64 (IntKind.wrap .i64 (((ll2 : Nat) : Int) - 1))) rfl (fun _ => by kernel_rfl)) (congrArg (Value.int .i64) (wrap_in hI))) (fun _ hs => ?_)
          refine stepY (v := (Value.int .i64 (((ll2 : Nat) : Int) - 1))) hs rfl rfl (by decide) (Yl.pure rfl (fun _ => by kernel_rfl)) (fun _ hs => ?_)
          refine wpList_nil ?_
          exact ⟨(((ll2 : Nat) : Int) - 1), (hs.weak (List.Sublist.refl _) (List.Sublist.refl _) ⟨rfl, rfl, rfl, rfl, rfl, rfl, trivial⟩), hS⟩
        · have hS := hS.2 hc
          refine Wp.skip ?_
          exact ⟨0, (hs.weak (List.Sublist.refl _) (List.Sublist.refl _) ⟨rfl, rfl, rfl, rfl, rfl, rfl, trivial⟩), hS⟩
      · intro a w hJ
        obtain ⟨most30, hs, hS⟩ := hJ
        unfold S_code_Check_J1 at hS
        refine Wp.join (fun a w => ∃ (x31 : Bool), Sx 52 E [] M w a [(0, (Value.slice la1 ll2 lc3)), (9, (Value.slice la1 ll2 lc3)), (10, (Value.int .i64 ((ll2 : Nat) : Int))), (11, (Value.int .i64 x17)), (50, (Value.bool x31))] [⟨b28, 95, [(Value.int .i64 x22), (Value.int .i64 x23), (Value.int .u64 x24), (Value.int .u64 x25), (Value.int .u64 x26), (Value.int .u64 x27)]⟩] [] ∧ (S_code_Check_J2 x17 I18 mu19 x31 K)) ?_ ?_
        · refine Wp.region ?_
          refine stepY (v := (Value.pointer (some ⟨b28, 0, none⟩))) hs rfl rfl (by decide) (Yl.pure rfl (fun _ => by kernel_rfl)) (fun _ hs => ?_)
          refine stepY (v := (Value.int .i64 x22)) hs rfl rfl (by decide) (Yl.loadB (vs := [(Value.int .i64 x22)]) false 0 rfl rfl rfl (by kernel_rfl) rfl) (fun _ hs => ?_)
          refine stepY (v := (Value.bool (decide (x22 < 1)))) hs rfl rfl (by decide) (Yl.pure rfl (fun _ => by kernel_rfl)) (fun _ hs => ?_)
          refine stepY (v := (Value.bool (decide (x22 < 1)))) hs rfl rfl (by decide) (Yl.pure rfl (fun _ => by kernel_rfl)) (fun _ hs => ?_)
          refine bsplit (decide (x22 < 1)) decide_eq_true_iff (fun hb hc => ?_) (fun hb hc => ?_)
          · have hs := hs.bt hb
            have hS := hS.1 hc
            refine step_no hs rfl rfl rfl rfl rfl (by decide) (fun _ hs => ?_)
            refine step_no hs rfl rfl rfl rfl rfl (by decide) (fun _ hs => ?_)
            refine step_no hs rfl rfl rfl rfl rfl (by decide) (fun _ hs => ?_)
            refine stepY (v := (Value.bool true)) hs rfl rfl (by decide) (Yl.pure rfl (fun _ => by kernel_rfl)) (fun _ hs => ?_)
            refine stepY (v := (Value.bool true)) hs rfl rfl (by decide) (Yl.pure rfl (fun _ => by kernel_rfl)) (fun _ hs => ?_)
            refine step_no hs rfl rfl rfl rfl rfl (by decide) (fun _ hs => ?_)
            refine step_no hs rfl rfl rfl rfl rfl (by decide) (fun _ hs => ?_)
            refine step_no hs rfl rfl rfl rfl rfl (by decide) (fun _ hs => ?_)
            refine stepY (v := (Value.bool true)) hs rfl rfl (by decide) (Yl.pure rfl (fun _ => by kernel_rfl)) (fun _ hs => ?_)
            refine stepY (v := (Value.bool true)) hs rfl rfl (by decide) (Yl.pure rfl (fun _ => by kernel_rfl)) (fun _ hs => ?_)
            refine step_no hs rfl rfl rfl rfl rfl (by decide) (fun _ hs => ?_)
            refine step_no hs rfl rfl rfl rfl rfl (by decide) (fun _ hs => ?_)
            refine step_no hs rfl rfl rfl rfl rfl (by decide) (fun _ hs => ?_)
            refine step_no hs rfl rfl rfl rfl rfl (by decide) (fun _ hs => ?_)
            refine stepY (v := (Value.bool true)) hs rfl rfl (by decide) (Yl.pure rfl (fun _ => by kernel_rfl)) (fun _ hs => ?_)
            refine stepY (v := (Value.bool true)) hs rfl rfl (by decide) (Yl.pure rfl (fun _ => by kernel_rfl)) (fun _ hs => ?_)
            refine step_no hs rfl rfl rfl rfl rfl (by decide) (fun _ hs => ?_)
            refine step_no hs rfl rfl rfl rfl rfl (by decide) (fun _ hs => ?_)
            refine step_no hs rfl rfl rfl rfl rfl (by decide) (fun _ hs => ?_)
            refine step_no hs rfl rfl rfl rfl rfl (by decide) (fun _ hs => ?_)
            refine step_nou hs rfl rfl rfl rfl (by decide) (fun _ hs => ?_)
            refine step_nou hs rfl rfl rfl rfl (by decide) (fun _ hs => ?_)
            refine step_nou hs rfl rfl rfl rfl (by decide) (fun _ hs => ?_)
            refine step_nou hs rfl rfl rfl rfl (by decide) (fun _ hs => ?_)
            refine step_no hs rfl rfl rfl rfl rfl (by decide) (fun _ hs => ?_)
            refine stepY (v := (Value.bool true)) hs rfl rfl (by decide) (Yl.pure rfl (fun _ => by kernel_rfl)) (fun _ hs => ?_)
            refine wpList_nil ?_
            exact ⟨true, (hs.weak (List.Sublist.refl _) (List.Sublist.refl _) ⟨rfl, rfl, rfl, rfl, rfl, trivial⟩), hS⟩
          · have hs := hs.bf hb
            have hS := hS.2 hc
            refine step_yes hs rfl rfl rfl ?_
            refine stepY (v := (Value.pointer (some ⟨b28, 0, none⟩))) hs rfl rfl (by decide) (Yl.pure rfl (fun _ => by kernel_rfl)) (fun _ hs => ?_)
            refine step_yes hs rfl rfl rfl ?_
            refine stepY (v := (Value.int .i64 x22)) hs rfl rfl (by decide) (Yl.loadB (vs := [(Value.int .i64 x22)]) false 0 rfl rfl rfl (by kernel_rfl) rfl) (fun _ hs => ?_)
            refine step_yes hs rfl rfl rfl ?_
            refine stepY (v := (Value.bool (decide (x22 > 11)))) hs rfl rfl (by decide) (Yl.pure rfl (fun _ => by kernel_rfl)) (fun _ hs => ?_)
            refine stepY (v := (Value.bool (decide (x22 > 11)))) hs rfl rfl (by decide) (Yl.pure rfl (fun _ => by kernel_rfl)) (fun _ hs => ?_)
            refine stepY (v := (Value.bool (decide (x22 > 11)))) hs rfl rfl (by decide) (Yl.pure rfl (fun _ => by kernel_rfl)) (fun _ hs => ?_)
            refine bsplit (decide (x22 > 11)) decide_eq_true_iff (fun hb hc => ?_) (fun hb hc => ?_)
            · have hs := hs.bt hb
              have hS := hS.1 hc
              refine step_no hs rfl rfl rfl rfl rfl (by decide) (fun _ hs => ?_)
              refine step_no hs rfl rfl rfl rfl rfl (by decide) (fun _ hs => ?_)
              refine step_no hs rfl rfl rfl rfl rfl (by decide) (fun _ hs => ?_)
              refine stepY (v := (Value.bool true)) hs rfl rfl (by decide) (Yl.pure rfl (fun _ => by kernel_rfl)) (fun _ hs => ?_)
              refine stepY (v := (Value.bool true)) hs rfl rfl (by decide) (Yl.pure rfl (fun _ => by kernel_rfl)) (fun _ hs => ?_)
              refine step_no hs rfl rfl rfl rfl rfl (by decide) (fun _ hs => ?_)
              refine step_no hs rfl rfl rfl rfl rfl (by decide) (fun _ hs => ?_)
              refine step_no hs rfl rfl rfl rfl rfl (by decide) (fun _ hs => ?_)
              refine step_no hs rfl rfl rfl rfl rfl (by decide) (fun _ hs => ?_)
              refine stepY (v := (Value.bool true)) hs rfl rfl (by decide) (Yl.pure rfl (fun _ => by kernel_rfl)) (fun _ hs => ?_)
              refine stepY (v := (Value.bool true)) hs rfl rfl (by decide) (Yl.pure rfl (fun _ => by kernel_rfl)) (fun _ hs => ?_)
              refine step_no hs rfl rfl rfl rfl rfl (by decide) (fun _ hs => ?_)
              refine step_no hs rfl rfl rfl rfl rfl (by decide) (fun _ hs => ?_)
              refine step_no hs rfl rfl rfl rfl rfl (by decide) (fun _ hs => ?_)
              refine step_no hs rfl rfl rfl rfl rfl (by decide) (fun _ hs => ?_)
              refine step_nou hs rfl rfl rfl rfl (by decide) (fun _ hs => ?_)
              refine step_nou hs rfl rfl rfl rfl (by decide) (fun _ hs => ?_)
              refine step_nou hs rfl rfl rfl rfl (by decide) (fun _ hs => ?_)
              refine step_nou hs rfl rfl rfl rfl (by decide) (fun _ hs => ?_)
              refine step_no hs rfl rfl rfl rfl rfl (by decide) (fun _ hs => ?_)
              refine stepY (v := (Value.bool true)) hs rfl rfl (by decide) (Yl.pure rfl (fun _ => by kernel_rfl)) (fun _ hs => ?_)
              refine wpList_nil ?_
              exact ⟨true, (hs.weak (List.Sublist.refl _) (List.Sublist.refl _) ⟨rfl, rfl, rfl, rfl, rfl, trivial⟩), hS⟩
            · have hs := hs.bf hb
              have hS := hS.2 hc
              refine step_yes hs rfl rfl rfl ?_
              refine stepY (v := (Value.pointer (some ⟨b28, 1, none⟩))) hs rfl rfl (by decide) (Yl.pure rfl (fun _ => by kernel_rfl)) (fun _ hs => ?_)
              refine step_yes hs rfl rfl rfl ?_
              refine stepY (v := (Value.int .i64 x23)) hs rfl rfl (by decide) (Yl.loadB (vs := [(Value.int .i64 x23)]) false 0 rfl rfl rfl (by kernel_rfl) rfl) (fun _ hs => ?_)
              refine step_yes hs rfl rfl rfl ?_
              refine stepY (v := (Value.bool (decide (x23 < 0)))) hs rfl rfl (by decide) (Yl.pure rfl (fun _ => by kernel_rfl)) (fun _ hs => ?_)
              refine stepY (v := (Value.bool (decide (x23 < 0)))) hs rfl rfl (by decide) (Yl.pure rfl (fun _ => by kernel_rfl)) (fun _ hs => ?_)
              refine stepY (v := (Value.bool (decide (x23 < 0)))) hs rfl rfl (by decide) (Yl.pure rfl (fun _ => by kernel_rfl)) (fun _ hs => ?_)
              refine bsplit (decide (x23 < 0)) decide_eq_true_iff (fun hb hc => ?_) (fun hb hc => ?_)
              · have hs := hs.bt hb
                have hS := hS.1 hc
                refine step_no hs rfl rfl rfl rfl rfl (by decide) (fun _ hs => ?_)
                refine step_no hs rfl rfl rfl rfl rfl (by decide) (fun _ hs => ?_)
                refine step_no hs rfl rfl rfl rfl rfl (by decide) (fun _ hs => ?_)
                refine step_no hs rfl rfl rfl rfl rfl (by decide) (fun _ hs => ?_)
                refine stepY (v := (Value.bool true)) hs rfl rfl (by decide) (Yl.pure rfl (fun _ => by kernel_rfl)) (fun _ hs => ?_)
                refine stepY (v := (Value.bool true)) hs rfl rfl (by decide) (Yl.pure rfl (fun _ => by kernel_rfl)) (fun _ hs => ?_)
                refine step_no hs rfl rfl rfl rfl rfl (by decide) (fun _ hs => ?_)
                refine step_no hs rfl rfl rfl rfl rfl (by decide) (fun _ hs => ?_)
                refine step_no hs rfl rfl rfl rfl rfl (by decide) (fun _ hs => ?_)
                refine step_no hs rfl rfl rfl rfl rfl (by decide) (fun _ hs => ?_)
                refine step_nou hs rfl rfl rfl rfl (by decide) (fun _ hs => ?_)
                refine step_nou hs rfl rfl rfl rfl (by decide) (fun _ hs => ?_)
                refine step_nou hs rfl rfl rfl rfl (by decide) (fun _ hs => ?_)
                refine step_nou hs rfl rfl rfl rfl (by decide) (fun _ hs => ?_)
                refine step_no hs rfl rfl rfl rfl rfl (by decide) (fun _ hs => ?_)
                refine stepY (v := (Value.bool true)) hs rfl rfl (by decide) (Yl.pure rfl (fun _ => by kernel_rfl)) (fun _ hs => ?_)
                refine wpList_nil ?_
                exact ⟨true, (hs.weak (List.Sublist.refl _) (List.Sublist.refl _) ⟨rfl, rfl, rfl, rfl, rfl, trivial⟩), hS⟩
              · have hs := hs.bf hb
                have hS := hS.2 hc
                refine step_yes hs rfl rfl rfl ?_
                refine stepY (v := (Value.pointer (some ⟨b28, 1, none⟩))) hs rfl rfl (by decide) (Yl.pure rfl (fun _ => by kernel_rfl)) (fun _ hs => ?_)
                refine step_yes hs rfl rfl rfl ?_
                refine stepY (v := (Value.int .i64 x23)) hs rfl rfl (by decide) (Yl.loadB (vs := [(Value.int .i64 x23)]) false 0 rfl rfl rfl (by kernel_rfl) rfl) (fun _ hs => ?_)
                refine step_yes hs rfl rfl rfl ?_
                refine stepY (v := (Value.int .i64 most30)) hs rfl rfl (by decide) (Yl.pure rfl (fun _ => by kernel_rfl)) (fun _ hs => ?_)
                refine step_yes hs rfl rfl rfl ?_
                refine stepY (v := (Value.bool (decide (x23 > most30)))) hs rfl rfl (by decide) (Yl.pure rfl (fun _ => by kernel_rfl)) (fun _ hs => ?_)
                refine stepY (v := (Value.bool (decide (x23 > most30)))) hs rfl rfl (by decide) (Yl.pure rfl (fun _ => by kernel_rfl)) (fun _ hs => ?_)
                refine stepY (v := (Value.bool (decide (x23 > most30)))) hs rfl rfl (by decide) (Yl.pure rfl (fun _ => by kernel_rfl)) (fun _ hs => ?_)
                refine bsplit (decide (x23 > most30)) decide_eq_true_iff (fun hb hc => ?_) (fun hb hc => ?_)
                · have hs := hs.bt hb
                  have hS := hS.1 hc
                  refine step_no hs rfl rfl rfl rfl rfl (by decide) (fun _ hs => ?_)
                  refine step_no hs rfl rfl rfl rfl rfl (by decide) (fun _ hs => ?_)
                  refine step_no hs rfl rfl rfl rfl rfl (by decide) (fun _ hs => ?_)
                  refine step_no hs rfl rfl rfl rfl rfl (by decide) (fun _ hs => ?_)
                  refine step_nou hs rfl rfl rfl rfl (by decide) (fun _ hs => ?_)
                  refine step_nou hs rfl rfl rfl rfl (by decide) (fun _ hs => ?_)
                  refine step_nou hs rfl rfl rfl rfl (by decide) (fun _ hs => ?_)
                  refine step_nou hs rfl rfl rfl rfl (by decide) (fun _ hs => ?_)
                  refine step_no hs rfl rfl rfl rfl rfl (by decide) (fun _ hs => ?_)
                  refine stepY (v := (Value.bool true)) hs rfl rfl (by decide) (Yl.pure rfl (fun _ => by kernel_rfl)) (fun _ hs => ?_)
                  refine wpList_nil ?_
                  exact ⟨true, (hs.weak (List.Sublist.refl _) (List.Sublist.refl _) ⟨rfl, rfl, rfl, rfl, rfl, trivial⟩), hS⟩
                · have hs := hs.bf hb
                  have hS := hS.2 hc
                  refine step_yes hs rfl rfl rfl ?_
                  refine stepY (v := (Value.pointer (some ⟨b28, 0, none⟩))) hs rfl rfl (by decide) (Yl.pure rfl (fun _ => by kernel_rfl)) (fun _ hs => ?_)
                  refine step_yes hs rfl rfl rfl ?_
                  refine stepY (v := (Value.int .i64 x22)) hs rfl rfl (by decide) (Yl.loadB (vs := [(Value.int .i64 x22)]) false 0 rfl rfl rfl (by kernel_rfl) rfl) (fun _ hs => ?_)
                  refine step_yes hs rfl rfl rfl ?_
                  refine stepY (v := (Value.bool ((x22 : Int) != (1 : Int)))) hs rfl rfl (by decide) (Yl.pure rfl (fun _ => by kernel_rfl)) (fun _ hs => ?_)
                  refine step_yes hs rfl rfl rfl ?_
                  refine stepY (v := (Value.bool ((x22 : Int) != (1 : Int)))) hs rfl rfl (by decide) (Yl.pure rfl (fun _ => by kernel_rfl)) (fun _ hs => ?_)
                  refine bsplit ((x22 : Int) != (1 : Int)) bne_iff_ne (fun hb hc => ?_) (fun hb hc => ?_)
                  · have hs := hs.bt hb
                    have hS := hS.1 hc
                    refine step_yes hs rfl rfl rfl ?_
                    refine stepY (v := (Value.pointer (some ⟨b28, 2, none⟩))) hs rfl rfl (by decide) (Yl.pure rfl (fun _ => by kernel_rfl)) (fun _ hs => ?_)
                    refine step_yes hs rfl rfl rfl ?_
                    refine stepY (v := (Value.agg #[(Value.int .u64 x24), (Value.int .u64 x25), (Value.int .u64 x26), (Value.int .u64 x27)])) hs rfl rfl (by decide) (Yl.loadB (vs := [(Value.int .u64 x24), (Value.int .u64 x25), (Value.int .u64 x26), (Value.int .u64 x27)]) true 0 rfl rfl rfl (by kernel_rfl) rfl) (fun _ hs => ?_)
                    refine step_yes hs rfl rfl rfl ?_
                    refine stepY (v := (Value.agg #[(Value.int .u64 0), (Value.int .u64 0), (Value.int .u64 0), (Value.int .u64 0)])) hs rfl rfl (by decide) (Yl.pure rfl (fun _ => by kernel_rfl)) (fun _ hs => ?_)
                    refine step_yes hs rfl rfl rfl ?_
                    refine stepY (v := (Value.bool (!(cellsEq [x24, x25, x26, x27] [0, 0, 0, 0])))) hs rfl rfl (by decide) (Yl.neqA (n := 4) (e := 27) (k := .u64) (xs := [x24, x25, x26, x27]) (ys := [0, 0, 0, 0]) rfl (by kernel_rfl) (by kernel_rfl) (by kernel_rfl) (by kernel_rfl) rfl rfl rfl rfl rfl rfl) (fun _ hs => ?_)
                    refine step_yes hs rfl rfl rfl ?_
                    refine stepY (v := (Value.bool (!(cellsEq [x24, x25, x26, x27] [0, 0, 0, 0])))) hs rfl rfl (by decide) (Yl.pure rfl (fun _ => by kernel_rfl)) (fun _ hs => ?_)
                    refine stepY (v := (Value.bool (!(cellsEq [x24, x25, x26, x27] [0, 0, 0, 0])))) hs rfl rfl (by decide) (Yl.pure rfl (fun _ => by kernel_rfl)) (fun _ hs => ?_)
                    refine wpList_nil ?_
                    exact ⟨(!(cellsEq [x24, x25, x26, x27] [0, 0, 0, 0])), (hs.weak (List.Sublist.refl _) (List.Sublist.refl _) ⟨rfl, rfl, rfl, rfl, rfl, trivial⟩), hS⟩
                  · have hs := hs.bf hb
                    have hS := hS.2 hc
                    refine step_no hs rfl rfl rfl rfl rfl (by decide) (fun _ hs => ?_)
                    refine step_no hs rfl rfl rfl rfl rfl (by decide) (fun _ hs => ?_)
                    refine step_no hs rfl rfl rfl rfl rfl (by decide) (fun _ hs => ?_)
                    refine step_no hs rfl rfl rfl rfl rfl (by decide) (fun _ hs => ?_)
                    refine step_yes hs rfl rfl rfl ?_
                    refine stepY (v := (Value.bool false)) hs rfl rfl (by decide) (Yl.pure rfl (fun _ => by kernel_rfl)) (fun _ hs => ?_)
                    refine stepY (v := (Value.bool false)) hs rfl rfl (by decide) (Yl.pure rfl (fun _ => by kernel_rfl)) (fun _ hs => ?_)
                    refine wpList_nil ?_
                    exact ⟨false, (hs.weak (List.Sublist.refl _) (List.Sublist.refl _) ⟨rfl, rfl, rfl, rfl, rfl, trivial⟩), hS⟩
        · intro a w hJ
          obtain ⟨x31, hs, hS⟩ := hJ
          unfold S_code_Check_J2 at hS
          refine Wp.cond hs rfl rfl Iff.rfl (fun hc => ?_) (fun hc => ?_)
          · have hS := hS.1 hc
            refine Wp.seq ?_
            refine Wp.region ?_
            refine stepY (v := (Value.int .i64 3)) hs rfl rfl (by decide) (Yl.pure rfl (fun _ => by kernel_rfl)) (fun _ hs => ?_)
            refine wpList_nil ?_
            refine Wp.ret ?_
            exact leaveE (K := fun v _ => K v) hs (resT hs rfl rfl) hMM (fun _ _ => hS)
          · have hS := hS.2 hc
            refine Wp.skip ?_
            refine Wp.region ?_
            obtain ⟨hI, hS⟩ := hS
            refine stepY (v := (Value.int .i64 (x17 + 1))) hs rfl rfl (by decide) (Yl.eq (Yl.pure (v := Value.int .i64 (IntKind.wrap .i64 (x17 + 1))) rfl (fun _ => by kernel_rfl)) (congrArg (Value.int .i64) (wrap_in hI))) (fun _ hs => ?_)
            refine stepY (v := (Value.int .i64 (x17 + 1))) hs rfl rfl (by decide) (Yl.pure rfl (fun _ => by kernel_rfl)) (fun _ hs => ?_)
            refine wpList_nil ?_
            exact ⟨(x17 + 1), ⟨(hs.weak (.cons _ List.Sublist.slnil) (List.Sublist.refl _) ⟨rfl, rfl, rfl, rfl, trivial⟩), hS.1⟩, hS.2⟩
    · have hS := hS.2 hc
      refine Wp.exit rfl ?_
      refine Wp.seq ?_
      refine Wp.region ?_
      refine stepY (v := (Value.int .i64 0)) hs rfl rfl (by decide) (Yl.pure rfl (fun _ => by kernel_rfl)) (fun _ hs => ?_)
      refine wpList_nil ?_
      refine Wp.ret ?_
      exact leaveE (K := fun v _ => K v) hs (resT hs rfl rfl) hMM (fun _ _ => hS)
set_option linter.unusedVariables false in
def S_chaffref_Code_J1 (x37 : Int) (I39 : Int → Mem → Prop) (mu40 : Int → Nat) (M53 : Mem) (x55 : Bool) (K : Value → Prop) : Prop :=
  ((x55 = true → K (Value.int .i64 3)) ∧ (¬ (x55 = true) → (InI (x37 + 1) ∧ I39 (x37 + 1) M53 ∧ mu40 (x37 + 1) < mu40 x37)))
set_option linter.unusedVariables false in
def S_chaffref_Code (la1 : Option Addr) (ll2 : Nat) (lc3 : Nat) (M : Mem) (K : Value → Prop) : Prop :=
  ((((ll2 : Nat) : Int) > 6000 → K (Value.int .i64 2)) ∧ (¬ (((ll2 : Nat) : Int) > 6000) → (∃ (I39 : Int → Mem → Prop) (mu40 : Int → Nat), I39 0 M ∧ ∀ (x37 : Int) (M38 : Mem), (I39 x37 M38 → ((x37 < ((ll2 : Nat) : Int) → (∃ (b41 o42 : Nat), la1 = some ⟨b41, o42, none⟩ ∧ (0 : Int) ≤ x37 ∧ x37 < ((ll2 : Nat) : Int) ∧ (∃ (x43 : Int) (x44 : Int) (x45 : Int) (x46 : Int) (x47 : Int) (x48 : Int), At M38 b41 (o42 + x37.toNat * 6) [(Value.int .i64 x43), (Value.int .i64 x44), (Value.int .u64 x45), (Value.int .u64 x46), (Value.int .u64 x47), (Value.int .u64 x48)] ∧ (∀ (M53 : Mem) (ad51 : Option Addr) (cap52 : Nat), M38.le M53 → SlV M53 ad51 6 cap52 1 [(Value.int .i64 2), (Value.int .i64 3), (Value.int .i64 4), (Value.int .i64 5), (Value.int .i64 9), (Value.int .i64 10)] → (CallE Try.prog 64 #[(Value.slice ad51 6 cap52), (Value.int .i64 x43)] M53 (fun v _ => ∃ (x54 : Bool), v = (Value.bool x54) ∧ ((x43 < 1 → (S_chaffref_Code_J1 x37 I39 mu40 M53 true K)) ∧ (¬ (x43 < 1) → ((x43 > 11 → (S_chaffref_Code_J1 x37 I39 mu40 M53 true K)) ∧ (¬ (x43 > 11) → ((x54 = true → ((x44 < 0 → (S_chaffref_Code_J1 x37 I39 mu40 M53 true K)) ∧ (¬ (x44 < 0) → ((x44 ≥ ((ll2 : Nat) : Int) → (S_chaffref_Code_J1 x37 I39 mu40 M53 true K)) ∧ (¬ (x44 ≥ ((ll2 : Nat) : Int)) → ((¬ (x54 = true) → (((x44 : Int) ≠ 0 → (S_chaffref_Code_J1 x37 I39 mu40 M53 true K)) ∧ (¬ ((x44 : Int) ≠ 0) → (((x43 : Int) ≠ 1 → (S_chaffref_Code_J1 x37 I39 mu40 M53 (!(cellsEq [x45, x46, x47, x48] [0, 0, 0, 0])) K)) ∧ (¬ ((x43 : Int) ≠ 1) → (S_chaffref_Code_J1 x37 I39 mu40 M53 false K)))))) ∧ (¬ (¬ (x54 = true)) → (((x43 : Int) ≠ 1 → (S_chaffref_Code_J1 x37 I39 mu40 M53 (!(cellsEq [x45, x46, x47, x48] [0, 0, 0, 0])) K)) ∧ (¬ ((x43 : Int) ≠ 1) → (S_chaffref_Code_J1 x37 I39 mu40 M53 false K)))))))))) ∧ (¬ (x54 = true) → ((¬ (x54 = true) → (((x44 : Int) ≠ 0 → (S_chaffref_Code_J1 x37 I39 mu40 M53 true K)) ∧ (¬ ((x44 : Int) ≠ 0) → (((x43 : Int) ≠ 1 → (S_chaffref_Code_J1 x37 I39 mu40 M53 (!(cellsEq [x45, x46, x47, x48] [0, 0, 0, 0])) K)) ∧ (¬ ((x43 : Int) ≠ 1) → (S_chaffref_Code_J1 x37 I39 mu40 M53 false K)))))) ∧ (¬ (¬ (x54 = true)) → (((x43 : Int) ≠ 1 → (S_chaffref_Code_J1 x37 I39 mu40 M53 (!(cellsEq [x45, x46, x47, x48] [0, 0, 0, 0])) K)) ∧ (¬ ((x43 : Int) ≠ 1) → (S_chaffref_Code_J1 x37 I39 mu40 M53 false K))))))))))))))))) ∧ (¬ (x37 < ((ll2 : Nat) : Int)) → K (Value.int .i64 0)))))))
set_option linter.unusedVariables false in
set_option maxRecDepth 100000 in
theorem s_chaffref_Code (la1 : Option Addr) (ll2 : Nat) (lc3 : Nat) (M : Mem) (K : Value → Prop) (hS : S_chaffref_Code la1 ll2 lc3 M K) : CallE Try.prog 24 #[(Value.slice la1 ll2 lc3)] M (fun v _ => K v) := by
  refine enterE Try.func24 rfl 63 rfl (Nat.le_of_ble_eq_true rfl) (fun E a hs => ?_)
  unfold S_chaffref_Code at hS
  have hMM : MM M M E := fun _ _ h => .inl h
  change Sx 63 E [] M E a [(0, (Value.slice la1 ll2 lc3))] [] [] at hs
  refine Wp.seq ?_
  refine Wp.region ?_
  refine stepY (v := (Value.int .i64 0)) hs rfl rfl (by decide) (Yl.pure rfl (fun _ => by kernel_rfl)) (fun _ hs => ?_)
  refine wpList_nil ?_
  refine Wp.seq ?_
  refine Wp.seq ?_
  refine Wp.region ?_
  refine stepY (v := (Value.slice la1 ll2 lc3)) hs rfl rfl (by decide) (Yl.pure rfl (fun _ => by kernel_rfl)) (fun _ hs => ?_)
  refine stepY (v := (Value.int .i64 ((ll2 : Nat) : Int))) hs rfl rfl (by decide) (Yl.pure rfl (fun _ => by kernel_rfl)) (fun _ hs => ?_)
  refine stepY (v := (Value.bool (decide (((ll2 : Nat) : Int) > 6000)))) hs rfl rfl (by decide) (Yl.pure rfl (fun _ => by kernel_rfl)) (fun _ hs => ?_)
  refine wpList_nil ?_
  refine Wp.cond hs rfl rfl decide_eq_true_iff (fun hc => ?_) (fun hc => ?_)
  · have hS := hS.1 hc
    refine Wp.seq ?_
    refine Wp.region ?_
    refine stepY (v := (Value.int .i64 2)) hs rfl rfl (by decide) (Yl.pure rfl (fun _ => by kernel_rfl)) (fun _ hs => ?_)
    refine wpList_nil ?_
    refine Wp.ret ?_
    exact leaveE (K := fun v _ => K v) hs (resT hs rfl rfl) hMM (fun _ _ => hS)
  · have hS := hS.2 hc
    refine Wp.skip ?_
    refine Wp.seq ?_
    refine Wp.seq ?_
    refine Wp.region ?_
    refine stepY (v := (Value.slice la1 ll2 lc3)) hs rfl rfl (by decide) (Yl.pure rfl (fun _ => by kernel_rfl)) (fun _ hs => ?_)
    refine stepY (v := (Value.int .i64 ((ll2 : Nat) : Int))) hs rfl rfl (by decide) (Yl.pure rfl (fun _ => by kernel_rfl)) (fun _ hs => ?_)
    refine stepY (v := (Value.int .i64 0)) hs rfl rfl (by decide) (Yl.pure rfl (fun _ => by kernel_rfl)) (fun _ hs => ?_)
    refine wpList_nil ?_
    refine Wp.block ?_
    obtain ⟨I39, mu40, hI0, hst⟩ := hS
    refine Wp.loop (σ := (Int) × (Mem)) (fun s a w => match s with | (x37, M38) => MM M38 M E ∧ Sx 63 E [] M38 w a [(0, (Value.slice la1 ll2 lc3)), (9, (Value.slice la1 ll2 lc3)), (10, (Value.int .i64 ((ll2 : Nat) : Int))), (11, (Value.int .i64 x37))] [] [] ∧ I39 x37 M38) (fun s => match s with | (x37, M38) => mu40 x37) (0, M) ⟨hMM, (hs.weak (List.Sublist.refl _) (List.Sublist.refl _) ⟨rfl, rfl, rfl, rfl, trivial⟩), hI0⟩ (fun s a w hI => ?_)
    obtain ⟨x37, M38⟩ := s
    obtain ⟨hMM, hs, hI⟩ := hI
    have hS := hst x37 M38 hI
    clear hst hI0 hI
    refine Wp.seq ?_
    refine Wp.region ?_
    refine stepY (v := (Value.bool (decide (x37 < ((ll2 : Nat) : Int))))) hs rfl rfl (by decide) (Yl.pure rfl (fun _ => by kernel_rfl)) (fun _ hs => ?_)
    refine wpList_nil ?_
    refine Wp.seq ?_
    refine Wp.cond hs rfl rfl decide_eq_true_iff (fun hc => ?_) (fun hc => ?_)
    · have hS := hS.1 hc
      refine Wp.skip ?_
      refine Wp.seq ?_
      refine Wp.block ?_
      refine Wp.seq ?_
      refine Wp.region ?_
      obtain ⟨b41, o42, ha, h0, hl, hS⟩ := hS
      refine stepY (v := (Value.pointer (some ⟨b41, o42 + x37.toNat * 6, none⟩))) hs rfl rfl (by decide) (Yl.indexS (e := 95) (sz := 6) rfl rfl rfl rfl (by kernel_rfl) (by kernel_rfl) ha h0 hl) (fun _ hs => ?_)
      obtain ⟨x43, x44, x45, x46, x47, x48, hat, hS⟩ := hS
      refine stepY (v := (Value.agg #[(Value.int .i64 x43), (Value.int .i64 x44), (Value.int .u64 x45), (Value.int .u64 x46), (Value.int .u64 x47), (Value.int .u64 x48)])) hs rfl rfl (by decide) (Yl.loadV (vs := [(Value.int .i64 x43), (Value.int .i64 x44), (Value.int .u64 x45), (Value.int .u64 x46), (Value.int .u64 x47), (Value.int .u64 x48)]) true rfl rfl (by kernel_rfl) hat) (fun _ hs => ?_)
      refine stepAlloc [(Value.int .i64 0), (Value.int .i64 0), (Value.int .u64 0), (Value.int .u64 0), (Value.int .u64 0), (Value.int .u64 0)] hs (by kernel_rfl) (by decide) (fun _ _ b49 hs => ?_)
      refine stepStoreB 0 (vs := [(Value.int .i64 x43), (Value.int .i64 x44), (Value.int .u64 x45), (Value.int .u64 x46), (Value.int .u64 x47), (Value.int .u64 x48)]) hs rfl rfl rfl rfl rfl rfl (by kernel_rfl) (Nat.le_of_ble_eq_true rfl) rfl (fun _ _ hs => ?_)
      replace hs := hs.chbx (bs' := [⟨b49, 95, [(Value.int .i64 x43), (Value.int .i64 x44), (Value.int .u64 x45), (Value.int .u64 x46), (Value.int .u64 x47), (Value.int .u64 x48)]⟩]) rfl
      refine wpList_nil ?_
      refine Wp.seq ?_
      refine Wp.region ?_
      refine stepMake [(Value.int .i64 2), (Value.int .i64 3), (Value.int .i64 4), (Value.int .i64 5), (Value.int .i64 9), (Value.int .i64 10)] 3 1 6 hs rfl rfl rfl (fun _ => by kernel_rfl) rfl (by unfold maxLen; decide) (by decide) (fun _ _ rv50 hs => ?_)
      refine stepY (v := (Value.pointer (some ⟨b49, 0, none⟩))) hs rfl rfl (by decide) (Yl.pure rfl (fun _ => by kernel_rfl)) (fun _ hs => ?_)
      refine stepY (v := (Value.int .i64 x43)) hs rfl rfl (by decide) (Yl.loadB (vs := [(Value.int .i64 x43)]) false 0 rfl rfl rfl (by kernel_rfl) rfl) (fun _ hs => ?_)
      obtain ⟨ad51, cap52, hv, hcp, hxl⟩ := hs.rowform 0 rfl
      dsimp only at hv hcp hxl
      subst hv
      obtain ⟨M53, hle, hsl, hnew, hs⟩ := hs.release 0 rfl [] rfl
      have hMM := hMM.next hnew
      have hS := hS M53 ad51 cap52 hle hsl
      refine stepCallP [(Value.slice ad51 6 cap52), (Value.int .i64 x43)] hs rfl ⟨_, rfl, rfl⟩ rfl Try.func64 rfl (by kernel_rfl) (by decide) hS (fun _ _ v hS hs => ?_)
      obtain ⟨x54, hv, hS⟩ := hS
      subst hv
      refine stepY (v := (Value.bool x54)) hs rfl rfl (by decide) (Yl.pure rfl (fun _ => by kernel_rfl)) (fun _ hs => ?_)
      refine wpList_nil ?_
      refine Wp.join (fun a w => ∃ (x55 : Bool), Sx 63 E [] M53 w a [(0, (Value.slice la1 ll2 lc3)), (9, (Value.slice la1 ll2 lc3)), (10, (Value.int .i64 ((ll2 : Nat) : Int))), (11, (Value.int .i64 x37)), (61, (Value.bool x55))] [⟨b49, 95, [(Value.int .i64 x43), (Value.int .i64 x44), (Value.int .u64 x45), (Value.int .u64 x46), (Value.int .u64 x47), (Value.int .u64 x48)]⟩] [] ∧ (S_chaffref_Code_J1 x37 I39 mu40 M53 x55 K)) ?_ ?_
      · refine Wp.region ?_
        refine stepY (v := (Value.pointer (some ⟨b49, 0, none⟩))) hs rfl rfl (by decide) (Yl.pure rfl (fun _ => by kernel_rfl)) (fun _ hs => ?_)
        refine stepY (v := (Value.int .i64 x43)) hs rfl rfl (by decide) (Yl.loadB (vs := [(Value.int .i64 x43)]) false 0 rfl rfl rfl (by kernel_rfl) rfl) (fun _ hs => ?_)
        refine stepY (v := (Value.bool (decide (x43 < 1)))) hs rfl rfl (by decide) (Yl.pure rfl (fun _ => by kernel_rfl)) (fun _ hs => ?_)
        refine stepY (v := (Value.bool (decide (x43 < 1)))) hs rfl rfl (by decide) (Yl.pure rfl (fun _ => by kernel_rfl)) (fun _ hs => ?_)
        refine bsplit (decide (x43 < 1)) decide_eq_true_iff (fun hb hc => ?_) (fun hb hc => ?_)
        · have hs := hs.bt hb
          have hS := hS.1 hc
          refine step_no hs rfl rfl rfl rfl rfl (by decide) (fun _ hs => ?_)
          refine step_no hs rfl rfl rfl rfl rfl (by decide) (fun _ hs => ?_)
          refine step_no hs rfl rfl rfl rfl rfl (by decide) (fun _ hs => ?_)
          refine stepY (v := (Value.bool true)) hs rfl rfl (by decide) (Yl.pure rfl (fun _ => by kernel_rfl)) (fun _ hs => ?_)
          refine stepY (v := (Value.bool true)) hs rfl rfl (by decide) (Yl.pure rfl (fun _ => by kernel_rfl)) (fun _ hs => ?_)
          refine step_no hs rfl rfl rfl rfl rfl (by decide) (fun _ hs => ?_)
          refine step_no hs rfl rfl rfl rfl rfl (by decide) (fun _ hs => ?_)
          refine step_nou hs rfl rfl rfl rfl (by decide) (fun _ hs => ?_)
          refine step_nou hs rfl rfl rfl rfl (by decide) (fun _ hs => ?_)
          refine step_nou hs rfl rfl rfl rfl (by decide) (fun _ hs => ?_)
          refine step_nou hs rfl rfl rfl rfl (by decide) (fun _ hs => ?_)
          refine step_nou hs rfl rfl rfl rfl (by decide) (fun _ hs => ?_)
          refine step_nou hs rfl rfl rfl rfl (by decide) (fun _ hs => ?_)
          refine step_nou hs rfl rfl rfl rfl (by decide) (fun _ hs => ?_)
          refine step_nou hs rfl rfl rfl rfl (by decide) (fun _ hs => ?_)
          refine step_nou hs rfl rfl rfl rfl (by decide) (fun _ hs => ?_)
          refine step_nou hs rfl rfl rfl rfl (by decide) (fun _ hs => ?_)
          refine step_no hs rfl rfl rfl rfl rfl (by decide) (fun _ hs => ?_)
          refine stepY (v := (Value.bool true)) hs rfl rfl (by decide) (Yl.pure rfl (fun _ => by kernel_rfl)) (fun _ hs => ?_)
          refine stepY (v := (Value.bool true)) hs rfl rfl (by decide) (Yl.pure rfl (fun _ => by kernel_rfl)) (fun _ hs => ?_)
          refine step_no hs rfl rfl rfl rfl rfl (by decide) (fun _ hs => ?_)
          refine step_no hs rfl rfl rfl rfl rfl (by decide) (fun _ hs => ?_)
          refine step_no hs rfl rfl rfl rfl rfl (by decide) (fun _ hs => ?_)
          refine step_nou hs rfl rfl rfl rfl (by decide) (fun _ hs => ?_)
          refine step_nou hs rfl rfl rfl rfl (by decide) (fun _ hs => ?_)
          refine step_nou hs rfl rfl rfl rfl (by decide) (fun _ hs => ?_)
          refine step_no hs rfl rfl rfl rfl rfl (by decide) (fun _ hs => ?_)
          refine stepY (v := (Value.bool true)) hs rfl rfl (by decide) (Yl.pure rfl (fun _ => by kernel_rfl)) (fun _ hs => ?_)
          refine stepY (v := (Value.bool true)) hs rfl rfl (by decide) (Yl.pure rfl (fun _ => by kernel_rfl)) (fun _ hs => ?_)
          refine step_no hs rfl rfl rfl rfl rfl (by decide) (fun _ hs => ?_)
          refine step_no hs rfl rfl rfl rfl rfl (by decide) (fun _ hs => ?_)
          refine step_no hs rfl rfl rfl rfl rfl (by decide) (fun _ hs => ?_)
          refine step_no hs rfl rfl rfl rfl rfl (by decide) (fun _ hs => ?_)
          refine step_nou hs rfl rfl rfl rfl (by decide) (fun _ hs => ?_)
          refine step_nou hs rfl rfl rfl rfl (by decide) (fun _ hs => ?_)
          refine step_nou hs rfl rfl rfl rfl (by decide) (fun _ hs => ?_)
          refine step_nou hs rfl rfl rfl rfl (by decide) (fun _ hs => ?_)
          refine step_no hs rfl rfl rfl rfl rfl (by decide) (fun _ hs => ?_)
          refine stepY (v := (Value.bool true)) hs rfl rfl (by decide) (Yl.pure rfl (fun _ => by kernel_rfl)) (fun _ hs => ?_)
          refine wpList_nil ?_
          exact ⟨true, (hs.weak (List.Sublist.refl _) (List.Sublist.refl _) ⟨rfl, rfl, rfl, rfl, rfl, trivial⟩), hS⟩
        · have hs := hs.bf hb
          have hS := hS.2 hc
          refine step_yes hs rfl rfl rfl ?_
          refine stepY (v := (Value.pointer (some ⟨b49, 0, none⟩))) hs rfl rfl (by decide) (Yl.pure rfl (fun _ => by kernel_rfl)) (fun _ hs => ?_)
          refine step_yes hs rfl rfl rfl ?_
          refine stepY (v := (Value.int .i64 x43)) hs rfl rfl (by decide) (Yl.loadB (vs := [(Value.int .i64 x43)]) false 0 rfl rfl rfl (by kernel_rfl) rfl) (fun _ hs => ?_)
          refine step_yes hs rfl rfl rfl ?_
          refine stepY (v := (Value.bool (decide (x43 > 11)))) hs rfl rfl (by decide) (Yl.pure rfl (fun _ => by kernel_rfl)) (fun _ hs => ?_)
          refine stepY (v := (Value.bool (decide (x43 > 11)))) hs rfl rfl (by decide) (Yl.pure rfl (fun _ => by kernel_rfl)) (fun _ hs => ?_)
          refine stepY (v := (Value.bool (decide (x43 > 11)))) hs rfl rfl (by decide) (Yl.pure rfl (fun _ => by kernel_rfl)) (fun _ hs => ?_)
          refine bsplit (decide (x43 > 11)) decide_eq_true_iff (fun hb hc => ?_) (fun hb hc => ?_)
          · have hs := hs.bt hb
            have hS := hS.1 hc
            refine step_no hs rfl rfl rfl rfl rfl (by decide) (fun _ hs => ?_)
            refine step_no hs rfl rfl rfl rfl rfl (by decide) (fun _ hs => ?_)
            refine step_nou hs rfl rfl rfl rfl (by decide) (fun _ hs => ?_)
            refine step_nou hs rfl rfl rfl rfl (by decide) (fun _ hs => ?_)
            refine step_nou hs rfl rfl rfl rfl (by decide) (fun _ hs => ?_)
            refine step_nou hs rfl rfl rfl rfl (by decide) (fun _ hs => ?_)
            refine step_nou hs rfl rfl rfl rfl (by decide) (fun _ hs => ?_)
            refine step_nou hs rfl rfl rfl rfl (by decide) (fun _ hs => ?_)
            refine step_nou hs rfl rfl rfl rfl (by decide) (fun _ hs => ?_)
            refine step_nou hs rfl rfl rfl rfl (by decide) (fun _ hs => ?_)
            refine step_nou hs rfl rfl rfl rfl (by decide) (fun _ hs => ?_)
            refine step_nou hs rfl rfl rfl rfl (by decide) (fun _ hs => ?_)
            refine step_no hs rfl rfl rfl rfl rfl (by decide) (fun _ hs => ?_)
            refine stepY (v := (Value.bool true)) hs rfl rfl (by decide) (Yl.pure rfl (fun _ => by kernel_rfl)) (fun _ hs => ?_)
            refine stepY (v := (Value.bool true)) hs rfl rfl (by decide) (Yl.pure rfl (fun _ => by kernel_rfl)) (fun _ hs => ?_)
            refine step_no hs rfl rfl rfl rfl rfl (by decide) (fun _ hs => ?_)
            refine step_no hs rfl rfl rfl rfl rfl (by decide) (fun _ hs => ?_)
            refine step_no hs rfl rfl rfl rfl rfl (by decide) (fun _ hs => ?_)
            refine step_nou hs rfl rfl rfl rfl (by decide) (fun _ hs => ?_)
            refine step_nou hs rfl rfl rfl rfl (by decide) (fun _ hs => ?_)
            refine step_nou hs rfl rfl rfl rfl (by decide) (fun _ hs => ?_)
            refine step_no hs rfl rfl rfl rfl rfl (by decide) (fun _ hs => ?_)
            refine stepY (v := (Value.bool true)) hs rfl rfl (by decide) (Yl.pure rfl (fun _ => by kernel_rfl)) (fun _ hs => ?_)
            refine stepY (v := (Value.bool true)) hs rfl rfl (by decide) (Yl.pure rfl (fun _ => by kernel_rfl)) (fun _ hs => ?_)
            refine step_no hs rfl rfl rfl rfl rfl (by decide) (fun _ hs => ?_)
            refine step_no hs rfl rfl rfl rfl rfl (by decide) (fun _ hs => ?_)
            refine step_no hs rfl rfl rfl rfl rfl (by decide) (fun _ hs => ?_)
            refine step_no hs rfl rfl rfl rfl rfl (by decide) (fun _ hs => ?_)
            refine step_nou hs rfl rfl rfl rfl (by decide) (fun _ hs => ?_)
            refine step_nou hs rfl rfl rfl rfl (by decide) (fun _ hs => ?_)
            refine step_nou hs rfl rfl rfl rfl (by decide) (fun _ hs => ?_)
            refine step_nou hs rfl rfl rfl rfl (by decide) (fun _ hs => ?_)
            refine step_no hs rfl rfl rfl rfl rfl (by decide) (fun _ hs => ?_)
            refine stepY (v := (Value.bool true)) hs rfl rfl (by decide) (Yl.pure rfl (fun _ => by kernel_rfl)) (fun _ hs => ?_)
            refine wpList_nil ?_
            exact ⟨true, (hs.weak (List.Sublist.refl _) (List.Sublist.refl _) ⟨rfl, rfl, rfl, rfl, rfl, trivial⟩), hS⟩
          · have hs := hs.bf hb
            have hS := hS.2 hc
            refine step_yes hs rfl rfl rfl ?_
            refine stepY (v := (Value.bool x54)) hs rfl rfl (by decide) (Yl.pure rfl (fun _ => by kernel_rfl)) (fun _ hs => ?_)
            refine step_yes hs rfl rfl rfl ?_
            refine stepY (v := (Value.bool x54)) hs rfl rfl (by decide) (Yl.pure rfl (fun _ => by kernel_rfl)) (fun _ hs => ?_)
            refine bsplit x54 Iff.rfl (fun hb hc => ?_) (fun hb hc => ?_)
            · have hs := hs.bt hb
              have hS := hS.1 hc
              refine step_yes hs rfl rfl rfl ?_
              refine stepY (v := (Value.pointer (some ⟨b49, 1, none⟩))) hs rfl rfl (by decide) (Yl.pure rfl (fun _ => by kernel_rfl)) (fun _ hs => ?_)
              refine step_yes hs rfl rfl rfl ?_
              refine stepY (v := (Value.int .i64 x44)) hs rfl rfl (by decide) (Yl.loadB (vs := [(Value.int .i64 x44)]) false 0 rfl rfl rfl (by kernel_rfl) rfl) (fun _ hs => ?_)
              refine step_yes hs rfl rfl rfl ?_
              refine stepY (v := (Value.bool (decide (x44 < 0)))) hs rfl rfl (by decide) (Yl.pure rfl (fun _ => by kernel_rfl)) (fun _ hs => ?_)
              refine step_yes hs rfl rfl rfl ?_
              refine stepY (v := (Value.bool (decide (x44 < 0)))) hs rfl rfl (by decide) (Yl.pure rfl (fun _ => by kernel_rfl)) (fun _ hs => ?_)
              refine bsplit (decide (x44 < 0)) decide_eq_true_iff (fun hb hc => ?_) (fun hb hc => ?_)
              · have hs := hs.bt hb
                have hS := hS.1 hc
                refine step_no hs rfl rfl rfl rfl rfl (by decide) (fun _ hs => ?_)
                refine step_no hs rfl rfl rfl rfl rfl (by decide) (fun _ hs => ?_)
                refine step_no hs rfl rfl rfl rfl rfl (by decide) (fun _ hs => ?_)
                refine step_no hs rfl rfl rfl rfl rfl (by decide) (fun _ hs => ?_)
                refine step_no hs rfl rfl rfl rfl rfl (by decide) (fun _ hs => ?_)
                refine step_yes hs rfl rfl rfl ?_
                refine stepY (v := (Value.bool true)) hs rfl rfl (by decide) (Yl.pure rfl (fun _ => by kernel_rfl)) (fun _ hs => ?_)
                refine step_yes hs rfl rfl rfl ?_
                refine stepY (v := (Value.bool true)) hs rfl rfl (by decide) (Yl.pure rfl (fun _ => by kernel_rfl)) (fun _ hs => ?_)
                refine stepY (v := (Value.bool true)) hs rfl rfl (by decide) (Yl.pure rfl (fun _ => by kernel_rfl)) (fun _ hs => ?_)
                refine stepY (v := (Value.bool true)) hs rfl rfl (by decide) (Yl.pure rfl (fun _ => by kernel_rfl)) (fun _ hs => ?_)
                refine step_no hs rfl rfl rfl rfl rfl (by decide) (fun _ hs => ?_)
                refine step_no hs rfl rfl rfl rfl rfl (by decide) (fun _ hs => ?_)
                refine step_no hs rfl rfl rfl rfl rfl (by decide) (fun _ hs => ?_)
                refine step_nou hs rfl rfl rfl rfl (by decide) (fun _ hs => ?_)
                refine step_nou hs rfl rfl rfl rfl (by decide) (fun _ hs => ?_)
                refine step_nou hs rfl rfl rfl rfl (by decide) (fun _ hs => ?_)
                refine step_no hs rfl rfl rfl rfl rfl (by decide) (fun _ hs => ?_)
                refine stepY (v := (Value.bool true)) hs rfl rfl (by decide) (Yl.pure rfl (fun _ => by kernel_rfl)) (fun _ hs => ?_)
                refine stepY (v := (Value.bool true)) hs rfl rfl (by decide) (Yl.pure rfl (fun _ => by kernel_rfl)) (fun _ hs => ?_)
                refine step_no hs rfl rfl rfl rfl rfl (by decide) (fun _ hs => ?_)
                refine step_no hs rfl rfl rfl rfl rfl (by decide) (fun _ hs => ?_)
                refine step_no hs rfl rfl rfl rfl rfl (by decide) (fun _ hs => ?_)
                refine step_no hs rfl rfl rfl rfl rfl (by decide) (fun _ hs => ?_)
                refine step_nou hs rfl rfl rfl rfl (by decide) (fun _ hs => ?_)
                refine step_nou hs rfl rfl rfl rfl (by decide) (fun _ hs => ?_)
                refine step_nou hs rfl rfl rfl rfl (by decide) (fun _ hs => ?_)
                refine step_nou hs rfl rfl rfl rfl (by decide) (fun _ hs => ?_)
                refine step_no hs rfl rfl rfl rfl rfl (by decide) (fun _ hs => ?_)
                refine stepY (v := (Value.bool true)) hs rfl rfl (by decide) (Yl.pure rfl (fun _ => by kernel_rfl)) (fun _ hs => ?_)
                refine wpList_nil ?_
                exact ⟨true, (hs.weak (List.Sublist.refl _) (List.Sublist.refl _) ⟨rfl, rfl, rfl, rfl, rfl, trivial⟩), hS⟩
              · have hs := hs.bf hb
                have hS := hS.2 hc
                refine step_yes hs rfl rfl rfl ?_
                refine stepY (v := (Value.pointer (some ⟨b49, 1, none⟩))) hs rfl rfl (by decide) (Yl.pure rfl (fun _ => by kernel_rfl)) (fun _ hs => ?_)
                refine step_yes hs rfl rfl rfl ?_
                refine stepY (v := (Value.int .i64 x44)) hs rfl rfl (by decide) (Yl.loadB (vs := [(Value.int .i64 x44)]) false 0 rfl rfl rfl (by kernel_rfl) rfl) (fun _ hs => ?_)
                refine step_yes hs rfl rfl rfl ?_
                refine stepY (v := (Value.slice la1 ll2 lc3)) hs rfl rfl (by decide) (Yl.pure rfl (fun _ => by kernel_rfl)) (fun _ hs => ?_)
                refine step_yes hs rfl rfl rfl ?_
                refine stepY (v := (Value.int .i64 ((ll2 : Nat) : Int))) hs rfl rfl (by decide) (Yl.pure rfl (fun _ => by kernel_rfl)) (fun _ hs => ?_)
                refine step_yes hs rfl rfl rfl ?_
                refine stepY (v := (Value.bool (decide (x44 ≥ ((ll2 : Nat) : Int))))) hs rfl rfl (by decide) (Yl.pure rfl (fun _ => by kernel_rfl)) (fun _ hs => ?_)
                refine step_yes hs rfl rfl rfl ?_
                refine stepY (v := (Value.bool (decide (x44 ≥ ((ll2 : Nat) : Int))))) hs rfl rfl (by decide) (Yl.pure rfl (fun _ => by kernel_rfl)) (fun _ hs => ?_)
                refine step_yes hs rfl rfl rfl ?_
                refine stepY (v := (Value.bool (decide (x44 ≥ ((ll2 : Nat) : Int))))) hs rfl rfl (by decide) (Yl.pure rfl (fun _ => by kernel_rfl)) (fun _ hs => ?_)
                refine stepY (v := (Value.bool (decide (x44 ≥ ((ll2 : Nat) : Int))))) hs rfl rfl (by decide) (Yl.pure rfl (fun _ => by kernel_rfl)) (fun _ hs => ?_)
                refine stepY (v := (Value.bool (decide (x44 ≥ ((ll2 : Nat) : Int))))) hs rfl rfl (by decide) (Yl.pure rfl (fun _ => by kernel_rfl)) (fun _ hs => ?_)
                refine bsplit (decide (x44 ≥ ((ll2 : Nat) : Int))) decide_eq_true_iff (fun hb hc => ?_) (fun hb hc => ?_)
                · have hs := hs.bt hb
                  have hS := hS.1 hc
                  refine step_no hs rfl rfl rfl rfl rfl (by decide) (fun _ hs => ?_)
                  refine step_no hs rfl rfl rfl rfl rfl (by decide) (fun _ hs => ?_)
                  refine step_no hs rfl rfl rfl rfl rfl (by decide) (fun _ hs => ?_)
                  refine step_nou hs rfl rfl rfl rfl (by decide) (fun _ hs => ?_)
                  refine step_nou hs rfl rfl rfl rfl (by decide) (fun _ hs => ?_)
                  refine step_nou hs rfl rfl rfl rfl (by decide) (fun _ hs => ?_)
                  refine step_no hs rfl rfl rfl rfl rfl (by decide) (fun _ hs => ?_)
                  refine stepY (v := (Value.bool true)) hs rfl rfl (by decide) (Yl.pure rfl (fun _ => by kernel_rfl)) (fun _ hs => ?_)
                  refine stepY (v := (Value.bool true)) hs rfl rfl (by decide) (Yl.pure rfl (fun _ => by kernel_rfl)) (fun _ hs => ?_)
                  refine step_no hs rfl rfl rfl rfl rfl (by decide) (fun _ hs => ?_)
                  refine step_no hs rfl rfl rfl rfl rfl (by decide) (fun _ hs => ?_)
                  refine step_no hs rfl rfl rfl rfl rfl (by decide) (fun _ hs => ?_)
                  refine step_no hs rfl rfl rfl rfl rfl (by decide) (fun _ hs => ?_)
                  refine step_nou hs rfl rfl rfl rfl (by decide) (fun _ hs => ?_)
                  refine step_nou hs rfl rfl rfl rfl (by decide) (fun _ hs => ?_)
                  refine step_nou hs rfl rfl rfl rfl (by decide) (fun _ hs => ?_)
                  refine step_nou hs rfl rfl rfl rfl (by decide) (fun _ hs => ?_)
                  refine step_no hs rfl rfl rfl rfl rfl (by decide) (fun _ hs => ?_)
                  refine stepY (v := (Value.bool true)) hs rfl rfl (by decide) (Yl.pure rfl (fun _ => by kernel_rfl)) (fun _ hs => ?_)
                  refine wpList_nil ?_
                  exact ⟨true, (hs.weak (List.Sublist.refl _) (List.Sublist.refl _) ⟨rfl, rfl, rfl, rfl, rfl, trivial⟩), hS⟩
                · have hs := hs.bf hb
                  have hS := hS.2 hc
                  refine step_yes hs rfl rfl rfl ?_
                  refine stepY (v := (Value.bool x54)) hs rfl rfl (by decide) (Yl.pure rfl (fun _ => by kernel_rfl)) (fun _ hs => ?_)
                  refine step_yes hs rfl rfl rfl ?_
                  refine stepY (v := (Value.bool (!x54))) hs rfl rfl (by decide) (Yl.pure rfl (fun _ => by kernel_rfl)) (fun _ hs => ?_)
                  refine step_yes hs rfl rfl rfl ?_
                  refine stepY (v := (Value.bool (!x54))) hs rfl rfl (by decide) (Yl.pure rfl (fun _ => by kernel_rfl)) (fun _ hs => ?_)
                  refine bsplit (!x54) (bnot_iff Iff.rfl) (fun hb hc => ?_) (fun hb hc => ?_)
                  · have hs := hs.bt hb
                    have hS := hS.1 hc
                    refine step_yes hs rfl rfl rfl ?_
                    refine stepY (v := (Value.pointer (some ⟨b49, 1, none⟩))) hs rfl rfl (by decide) (Yl.pure rfl (fun _ => by kernel_rfl)) (fun _ hs => ?_)
                    refine step_yes hs rfl rfl rfl ?_
                    refine stepY (v := (Value.int .i64 x44)) hs rfl rfl (by decide) (Yl.loadB (vs := [(Value.int .i64 x44)]) false 0 rfl rfl rfl (by kernel_rfl) rfl) (fun _ hs => ?_)
                    refine step_yes hs rfl rfl rfl ?_
                    refine stepY (v := (Value.bool ((x44 : Int) != (0 : Int)))) hs rfl rfl (by decide) (Yl.pure rfl (fun _ => by kernel_rfl)) (fun _ hs => ?_)
                    refine step_yes hs rfl rfl rfl ?_
                    refine stepY (v := (Value.bool ((x44 : Int) != (0 : Int)))) hs rfl rfl (by decide) (Yl.pure rfl (fun _ => by kernel_rfl)) (fun _ hs => ?_)
                    refine stepY (v := (Value.bool ((x44 : Int) != (0 : Int)))) hs rfl rfl (by decide) (Yl.pure rfl (fun _ => by kernel_rfl)) (fun _ hs => ?_)
                    refine stepY (v := (Value.bool ((x44 : Int) != (0 : Int)))) hs rfl rfl (by decide) (Yl.pure rfl (fun _ => by kernel_rfl)) (fun _ hs => ?_)
                    refine bsplit ((x44 : Int) != (0 : Int)) bne_iff_ne (fun hb hc => ?_) (fun hb hc => ?_)
                    · have hs := hs.bt hb
                      have hS := hS.1 hc
                      refine step_no hs rfl rfl rfl rfl rfl (by decide) (fun _ hs => ?_)
                      refine step_no hs rfl rfl rfl rfl rfl (by decide) (fun _ hs => ?_)
                      refine step_no hs rfl rfl rfl rfl rfl (by decide) (fun _ hs => ?_)
                      refine step_no hs rfl rfl rfl rfl rfl (by decide) (fun _ hs => ?_)
                      refine step_nou hs rfl rfl rfl rfl (by decide) (fun _ hs => ?_)
                      refine step_nou hs rfl rfl rfl rfl (by decide) (fun _ hs => ?_)
                      refine step_nou hs rfl rfl rfl rfl (by decide) (fun _ hs => ?_)
                      refine step_nou hs rfl rfl rfl rfl (by decide) (fun _ hs => ?_)
                      refine step_no hs rfl rfl rfl rfl rfl (by decide) (fun _ hs => ?_)
                      refine stepY (v := (Value.bool true)) hs rfl rfl (by decide) (Yl.pure rfl (fun _ => by kernel_rfl)) (fun _ hs => ?_)
                      refine wpList_nil ?_
                      exact ⟨true, (hs.weak (List.Sublist.refl _) (List.Sublist.refl _) ⟨rfl, rfl, rfl, rfl, rfl, trivial⟩), hS⟩
                    · have hs := hs.bf hb
                      have hS := hS.2 hc
                      refine step_yes hs rfl rfl rfl ?_
                      refine stepY (v := (Value.pointer (some ⟨b49, 0, none⟩))) hs rfl rfl (by decide) (Yl.pure rfl (fun _ => by kernel_rfl)) (fun _ hs => ?_)
                      refine step_yes hs rfl rfl rfl ?_
                      refine stepY (v := (Value.int .i64 x43)) hs rfl rfl (by decide) (Yl.loadB (vs := [(Value.int .i64 x43)]) false 0 rfl rfl rfl (by kernel_rfl) rfl) (fun _ hs => ?_)
                      refine step_yes hs rfl rfl rfl ?_
                      refine stepY (v := (Value.bool ((x43 : Int) != (1 : Int)))) hs rfl rfl (by decide) (Yl.pure rfl (fun _ => by kernel_rfl)) (fun _ hs => ?_)
                      refine step_yes hs rfl rfl rfl ?_
                      refine stepY (v := (Value.bool ((x43 : Int) != (1 : Int)))) hs rfl rfl (by decide) (Yl.pure rfl (fun _ => by kernel_rfl)) (fun _ hs => ?_)
                      refine bsplit ((x43 : Int) != (1 : Int)) bne_iff_ne (fun hb hc => ?_) (fun hb hc => ?_)
                      · have hs := hs.bt hb
                        have hS := hS.1 hc
                        refine step_yes hs rfl rfl rfl ?_
                        refine stepY (v := (Value.pointer (some ⟨b49, 2, none⟩))) hs rfl rfl (by decide) (Yl.pure rfl (fun _ => by kernel_rfl)) (fun _ hs => ?_)
                        refine step_yes hs rfl rfl rfl ?_
                        refine stepY (v := (Value.agg #[(Value.int .u64 x45), (Value.int .u64 x46), (Value.int .u64 x47), (Value.int .u64 x48)])) hs rfl rfl (by decide) (Yl.loadB (vs := [(Value.int .u64 x45), (Value.int .u64 x46), (Value.int .u64 x47), (Value.int .u64 x48)]) true 0 rfl rfl rfl (by kernel_rfl) rfl) (fun _ hs => ?_)
                        refine step_yes hs rfl rfl rfl ?_
                        refine stepY (v := (Value.agg #[(Value.int .u64 0), (Value.int .u64 0), (Value.int .u64 0), (Value.int .u64 0)])) hs rfl rfl (by decide) (Yl.pure rfl (fun _ => by kernel_rfl)) (fun _ hs => ?_)
                        refine step_yes hs rfl rfl rfl ?_
                        refine stepY (v := (Value.bool (!(cellsEq [x45, x46, x47, x48] [0, 0, 0, 0])))) hs rfl rfl (by decide) (Yl.neqA (n := 4) (e := 27) (k := .u64) (xs := [x45, x46, x47, x48]) (ys := [0, 0, 0, 0]) rfl (by kernel_rfl) (by kernel_rfl) (by kernel_rfl) (by kernel_rfl) rfl rfl rfl rfl rfl rfl) (fun _ hs => ?_)
                        refine step_yes hs rfl rfl rfl ?_
                        refine stepY (v := (Value.bool (!(cellsEq [x45, x46, x47, x48] [0, 0, 0, 0])))) hs rfl rfl (by decide) (Yl.pure rfl (fun _ => by kernel_rfl)) (fun _ hs => ?_)
                        refine stepY (v := (Value.bool (!(cellsEq [x45, x46, x47, x48] [0, 0, 0, 0])))) hs rfl rfl (by decide) (Yl.pure rfl (fun _ => by kernel_rfl)) (fun _ hs => ?_)
                        refine wpList_nil ?_
                        exact ⟨(!(cellsEq [x45, x46, x47, x48] [0, 0, 0, 0])), (hs.weak (List.Sublist.refl _) (List.Sublist.refl _) ⟨rfl, rfl, rfl, rfl, rfl, trivial⟩), hS⟩
                      · have hs := hs.bf hb
                        have hS := hS.2 hc
                        refine step_no hs rfl rfl rfl rfl rfl (by decide) (fun _ hs => ?_)
                        refine step_no hs rfl rfl rfl rfl rfl (by decide) (fun _ hs => ?_)
                        refine step_no hs rfl rfl rfl rfl rfl (by decide) (fun _ hs => ?_)
                        refine step_no hs rfl rfl rfl rfl rfl (by decide) (fun _ hs => ?_)
                        refine step_yes hs rfl rfl rfl ?_
                        refine stepY (v := (Value.bool false)) hs rfl rfl (by decide) (Yl.pure rfl (fun _ => by kernel_rfl)) (fun _ hs => ?_)
                        refine stepY (v := (Value.bool false)) hs rfl rfl (by decide) (Yl.pure rfl (fun _ => by kernel_rfl)) (fun _ hs => ?_)
                        refine wpList_nil ?_
                        exact ⟨false, (hs.weak (List.Sublist.refl _) (List.Sublist.refl _) ⟨rfl, rfl, rfl, rfl, rfl, trivial⟩), hS⟩
                  · have hs := hs.bf hb
                    have hS := hS.2 hc
                    refine step_no hs rfl rfl rfl rfl rfl (by decide) (fun _ hs => ?_)
                    refine step_no hs rfl rfl rfl rfl rfl (by decide) (fun _ hs => ?_)
                    refine step_no hs rfl rfl rfl rfl rfl (by decide) (fun _ hs => ?_)
                    refine step_yes hs rfl rfl rfl ?_
                    refine stepY (v := (Value.bool false)) hs rfl rfl (by decide) (Yl.pure rfl (fun _ => by kernel_rfl)) (fun _ hs => ?_)
                    refine stepY (v := (Value.bool false)) hs rfl rfl (by decide) (Yl.pure rfl (fun _ => by kernel_rfl)) (fun _ hs => ?_)
                    refine stepY (v := (Value.bool false)) hs rfl rfl (by decide) (Yl.pure rfl (fun _ => by kernel_rfl)) (fun _ hs => ?_)
                    refine step_yes hs rfl rfl rfl ?_
                    refine stepY (v := (Value.pointer (some ⟨b49, 0, none⟩))) hs rfl rfl (by decide) (Yl.pure rfl (fun _ => by kernel_rfl)) (fun _ hs => ?_)
                    refine step_yes hs rfl rfl rfl ?_
                    refine stepY (v := (Value.int .i64 x43)) hs rfl rfl (by decide) (Yl.loadB (vs := [(Value.int .i64 x43)]) false 0 rfl rfl rfl (by kernel_rfl) rfl) (fun _ hs => ?_)
                    refine step_yes hs rfl rfl rfl ?_
                    refine stepY (v := (Value.bool ((x43 : Int) != (1 : Int)))) hs rfl rfl (by decide) (Yl.pure rfl (fun _ => by kernel_rfl)) (fun _ hs => ?_)
                    refine step_yes hs rfl rfl rfl ?_
                    refine stepY (v := (Value.bool ((x43 : Int) != (1 : Int)))) hs rfl rfl (by decide) (Yl.pure rfl (fun _ => by kernel_rfl)) (fun _ hs => ?_)
                    refine bsplit ((x43 : Int) != (1 : Int)) bne_iff_ne (fun hb hc => ?_) (fun hb hc => ?_)
                    · have hs := hs.bt hb
                      have hS := hS.1 hc
                      refine step_yes hs rfl rfl rfl ?_
                      refine stepY (v := (Value.pointer (some ⟨b49, 2, none⟩))) hs rfl rfl (by decide) (Yl.pure rfl (fun _ => by kernel_rfl)) (fun _ hs => ?_)
                      refine step_yes hs rfl rfl rfl ?_
                      refine stepY (v := (Value.agg #[(Value.int .u64 x45), (Value.int .u64 x46), (Value.int .u64 x47), (Value.int .u64 x48)])) hs rfl rfl (by decide) (Yl.loadB (vs := [(Value.int .u64 x45), (Value.int .u64 x46), (Value.int .u64 x47), (Value.int .u64 x48)]) true 0 rfl rfl rfl (by kernel_rfl) rfl) (fun _ hs => ?_)
                      refine step_yes hs rfl rfl rfl ?_
                      refine stepY (v := (Value.agg #[(Value.int .u64 0), (Value.int .u64 0), (Value.int .u64 0), (Value.int .u64 0)])) hs rfl rfl (by decide) (Yl.pure rfl (fun _ => by kernel_rfl)) (fun _ hs => ?_)
                      refine step_yes hs rfl rfl rfl ?_
                      refine stepY (v := (Value.bool (!(cellsEq [x45, x46, x47, x48] [0, 0, 0, 0])))) hs rfl rfl (by decide) (Yl.neqA (n := 4) (e := 27) (k := .u64) (xs := [x45, x46, x47, x48]) (ys := [0, 0, 0, 0]) rfl (by kernel_rfl) (by kernel_rfl) (by kernel_rfl) (by kernel_rfl) rfl rfl rfl rfl rfl rfl) (fun _ hs => ?_)
                      refine step_yes hs rfl rfl rfl ?_
                      refine stepY (v := (Value.bool (!(cellsEq [x45, x46, x47, x48] [0, 0, 0, 0])))) hs rfl rfl (by decide) (Yl.pure rfl (fun _ => by kernel_rfl)) (fun _ hs => ?_)
                      refine stepY (v := (Value.bool (!(cellsEq [x45, x46, x47, x48] [0, 0, 0, 0])))) hs rfl rfl (by decide) (Yl.pure rfl (fun _ => by kernel_rfl)) (fun _ hs => ?_)
                      refine wpList_nil ?_
                      exact ⟨(!(cellsEq [x45, x46, x47, x48] [0, 0, 0, 0])), (hs.weak (List.Sublist.refl _) (List.Sublist.refl _) ⟨rfl, rfl, rfl, rfl, rfl, trivial⟩), hS⟩
                    · have hs := hs.bf hb
                      have hS := hS.2 hc
                      refine step_no hs rfl rfl rfl rfl rfl (by decide) (fun _ hs => ?_)
                      refine step_no hs rfl rfl rfl rfl rfl (by decide) (fun _ hs => ?_)
                      refine step_no hs rfl rfl rfl rfl rfl (by decide) (fun _ hs => ?_)
                      refine step_no hs rfl rfl rfl rfl rfl (by decide) (fun _ hs => ?_)
                      refine step_yes hs rfl rfl rfl ?_
                      refine stepY (v := (Value.bool false)) hs rfl rfl (by decide) (Yl.pure rfl (fun _ => by kernel_rfl)) (fun _ hs => ?_)
                      refine stepY (v := (Value.bool false)) hs rfl rfl (by decide) (Yl.pure rfl (fun _ => by kernel_rfl)) (fun _ hs => ?_)
                      refine wpList_nil ?_
                      exact ⟨false, (hs.weak (List.Sublist.refl _) (List.Sublist.refl _) ⟨rfl, rfl, rfl, rfl, rfl, trivial⟩), hS⟩
            · have hs := hs.bf hb
              have hS := hS.2 hc
              refine step_no hs rfl rfl rfl rfl rfl (by decide) (fun _ hs => ?_)
              refine step_no hs rfl rfl rfl rfl rfl (by decide) (fun _ hs => ?_)
              refine step_no hs rfl rfl rfl rfl rfl (by decide) (fun _ hs => ?_)
              refine step_no hs rfl rfl rfl rfl rfl (by decide) (fun _ hs => ?_)
              refine step_nou hs rfl rfl rfl rfl (by decide) (fun _ hs => ?_)
              refine step_nou hs rfl rfl rfl rfl (by decide) (fun _ hs => ?_)
              refine step_nou hs rfl rfl rfl rfl (by decide) (fun _ hs => ?_)
              refine step_nou hs rfl rfl rfl rfl (by decide) (fun _ hs => ?_)
              refine step_nou hs rfl rfl rfl rfl (by decide) (fun _ hs => ?_)
              refine step_no hs rfl rfl rfl rfl rfl (by decide) (fun _ hs => ?_)
              refine step_yes hs rfl rfl rfl ?_
              refine stepY (v := (Value.bool false)) hs rfl rfl (by decide) (Yl.pure rfl (fun _ => by kernel_rfl)) (fun _ hs => ?_)
              refine stepY (v := (Value.bool false)) hs rfl rfl (by decide) (Yl.pure rfl (fun _ => by kernel_rfl)) (fun _ hs => ?_)
              refine stepY (v := (Value.bool false)) hs rfl rfl (by decide) (Yl.pure rfl (fun _ => by kernel_rfl)) (fun _ hs => ?_)
              refine step_yes hs rfl rfl rfl ?_
              refine stepY (v := (Value.bool x54)) hs rfl rfl (by decide) (Yl.pure rfl (fun _ => by kernel_rfl)) (fun _ hs => ?_)
              refine step_yes hs rfl rfl rfl ?_
              refine stepY (v := (Value.bool (!x54))) hs rfl rfl (by decide) (Yl.pure rfl (fun _ => by kernel_rfl)) (fun _ hs => ?_)
              refine step_yes hs rfl rfl rfl ?_
              refine stepY (v := (Value.bool (!x54))) hs rfl rfl (by decide) (Yl.pure rfl (fun _ => by kernel_rfl)) (fun _ hs => ?_)
              refine bsplit (!x54) (bnot_iff Iff.rfl) (fun hb hc => ?_) (fun hb hc => ?_)
              · have hs := hs.bt hb
                have hS := hS.1 hc
                refine step_yes hs rfl rfl rfl ?_
                refine stepY (v := (Value.pointer (some ⟨b49, 1, none⟩))) hs rfl rfl (by decide) (Yl.pure rfl (fun _ => by kernel_rfl)) (fun _ hs => ?_)
                refine step_yes hs rfl rfl rfl ?_
                refine stepY (v := (Value.int .i64 x44)) hs rfl rfl (by decide) (Yl.loadB (vs := [(Value.int .i64 x44)]) false 0 rfl rfl rfl (by kernel_rfl) rfl) (fun _ hs => ?_)
                refine step_yes hs rfl rfl rfl ?_
                refine stepY (v := (Value.bool ((x44 : Int) != (0 : Int)))) hs rfl rfl (by decide) (Yl.pure rfl (fun _ => by kernel_rfl)) (fun _ hs => ?_)
                refine step_yes hs rfl rfl rfl ?_
                refine stepY (v := (Value.bool ((x44 : Int) != (0 : Int)))) hs rfl rfl (by decide) (Yl.pure rfl (fun _ => by kernel_rfl)) (fun _ hs => ?_)
                refine stepY (v := (Value.bool ((x44 : Int) != (0 : Int)))) hs rfl rfl (by decide) (Yl.pure rfl (fun _ => by kernel_rfl)) (fun _ hs => ?_)
                refine stepY (v := (Value.bool ((x44 : Int) != (0 : Int)))) hs rfl rfl (by decide) (Yl.pure rfl (fun _ => by kernel_rfl)) (fun _ hs => ?_)
                refine bsplit ((x44 : Int) != (0 : Int)) bne_iff_ne (fun hb hc => ?_) (fun hb hc => ?_)
                · have hs := hs.bt hb
                  have hS := hS.1 hc
                  refine step_no hs rfl rfl rfl rfl rfl (by decide) (fun _ hs => ?_)
                  refine step_no hs rfl rfl rfl rfl rfl (by decide) (fun _ hs => ?_)
                  refine step_no hs rfl rfl rfl rfl rfl (by decide) (fun _ hs => ?_)
                  refine step_no hs rfl rfl rfl rfl rfl (by decide) (fun _ hs => ?_)
                  refine step_nou hs rfl rfl rfl rfl (by decide) (fun _ hs => ?_)
                  refine step_nou hs rfl rfl rfl rfl (by decide) (fun _ hs => ?_)
                  refine step_nou hs rfl rfl rfl rfl (by decide) (fun _ hs => ?_)
                  refine step_nou hs rfl rfl rfl rfl (by decide) (fun _ hs => ?_)
                  refine step_no hs rfl rfl rfl rfl rfl (by decide) (fun _ hs => ?_)
                  refine stepY (v := (Value.bool true)) hs rfl rfl (by decide) (Yl.pure rfl (fun _ => by kernel_rfl)) (fun _ hs => ?_)
                  refine wpList_nil ?_
                  exact ⟨true, (hs.weak (List.Sublist.refl _) (List.Sublist.refl _) ⟨rfl, rfl, rfl, rfl, rfl, trivial⟩), hS⟩
                · have hs := hs.bf hb
                  have hS := hS.2 hc
                  refine step_yes hs rfl rfl rfl ?_
                  refine stepY (v := (Value.pointer (some ⟨b49, 0, none⟩))) hs rfl rfl (by decide) (Yl.pure rfl (fun _ => by kernel_rfl)) (fun _ hs => ?_)
                  refine step_yes hs rfl rfl rfl ?_
                  refine stepY (v := (Value.int .i64 x43)) hs rfl rfl (by decide) (Yl.loadB (vs := [(Value.int .i64 x43)]) false 0 rfl rfl rfl (by kernel_rfl) rfl) (fun _ hs => ?_)
                  refine step_yes hs rfl rfl rfl ?_
                  refine stepY (v := (Value.bool ((x43 : Int) != (1 : Int)))) hs rfl rfl (by decide) (Yl.pure rfl (fun _ => by kernel_rfl)) (fun _ hs => ?_)
                  refine step_yes hs rfl rfl rfl ?_
                  refine stepY (v := (Value.bool ((x43 : Int) != (1 : Int)))) hs rfl rfl (by decide) (Yl.pure rfl (fun _ => by kernel_rfl)) (fun _ hs => ?_)
                  refine bsplit ((x43 : Int) != (1 : Int)) bne_iff_ne (fun hb hc => ?_) (fun hb hc => ?_)
                  · have hs := hs.bt hb
                    have hS := hS.1 hc
                    refine step_yes hs rfl rfl rfl ?_
                    refine stepY (v := (Value.pointer (some ⟨b49, 2, none⟩))) hs rfl rfl (by decide) (Yl.pure rfl (fun _ => by kernel_rfl)) (fun _ hs => ?_)
                    refine step_yes hs rfl rfl rfl ?_
                    refine stepY (v := (Value.agg #[(Value.int .u64 x45), (Value.int .u64 x46), (Value.int .u64 x47), (Value.int .u64 x48)])) hs rfl rfl (by decide) (Yl.loadB (vs := [(Value.int .u64 x45), (Value.int .u64 x46), (Value.int .u64 x47), (Value.int .u64 x48)]) true 0 rfl rfl rfl (by kernel_rfl) rfl) (fun _ hs => ?_)
                    refine step_yes hs rfl rfl rfl ?_
                    refine stepY (v := (Value.agg #[(Value.int .u64 0), (Value.int .u64 0), (Value.int .u64 0), (Value.int .u64 0)])) hs rfl rfl (by decide) (Yl.pure rfl (fun _ => by kernel_rfl)) (fun _ hs => ?_)
                    refine step_yes hs rfl rfl rfl ?_
                    refine stepY (v := (Value.bool (!(cellsEq [x45, x46, x47, x48] [0, 0, 0, 0])))) hs rfl rfl (by decide) (Yl.neqA (n := 4) (e := 27) (k := .u64) (xs := [x45, x46, x47, x48]) (ys := [0, 0, 0, 0]) rfl (by kernel_rfl) (by kernel_rfl) (by kernel_rfl) (by kernel_rfl) rfl rfl rfl rfl rfl rfl) (fun _ hs => ?_)
                    refine step_yes hs rfl rfl rfl ?_
                    refine stepY (v := (Value.bool (!(cellsEq [x45, x46, x47, x48] [0, 0, 0, 0])))) hs rfl rfl (by decide) (Yl.pure rfl (fun _ => by kernel_rfl)) (fun _ hs => ?_)
                    refine stepY (v := (Value.bool (!(cellsEq [x45, x46, x47, x48] [0, 0, 0, 0])))) hs rfl rfl (by decide) (Yl.pure rfl (fun _ => by kernel_rfl)) (fun _ hs => ?_)
                    refine wpList_nil ?_
                    exact ⟨(!(cellsEq [x45, x46, x47, x48] [0, 0, 0, 0])), (hs.weak (List.Sublist.refl _) (List.Sublist.refl _) ⟨rfl, rfl, rfl, rfl, rfl, trivial⟩), hS⟩
                  · have hs := hs.bf hb
                    have hS := hS.2 hc
                    refine step_no hs rfl rfl rfl rfl rfl (by decide) (fun _ hs => ?_)
                    refine step_no hs rfl rfl rfl rfl rfl (by decide) (fun _ hs => ?_)
                    refine step_no hs rfl rfl rfl rfl rfl (by decide) (fun _ hs => ?_)
                    refine step_no hs rfl rfl rfl rfl rfl (by decide) (fun _ hs => ?_)
                    refine step_yes hs rfl rfl rfl ?_
                    refine stepY (v := (Value.bool false)) hs rfl rfl (by decide) (Yl.pure rfl (fun _ => by kernel_rfl)) (fun _ hs => ?_)
                    refine stepY (v := (Value.bool false)) hs rfl rfl (by decide) (Yl.pure rfl (fun _ => by kernel_rfl)) (fun _ hs => ?_)
                    refine wpList_nil ?_
                    exact ⟨false, (hs.weak (List.Sublist.refl _) (List.Sublist.refl _) ⟨rfl, rfl, rfl, rfl, rfl, trivial⟩), hS⟩
              · have hs := hs.bf hb
                have hS := hS.2 hc
                refine step_no hs rfl rfl rfl rfl rfl (by decide) (fun _ hs => ?_)
                refine step_no hs rfl rfl rfl rfl rfl (by decide) (fun _ hs => ?_)
                refine step_no hs rfl rfl rfl rfl rfl (by decide) (fun _ hs => ?_)
                refine step_yes hs rfl rfl rfl ?_
                refine stepY (v := (Value.bool false)) hs rfl rfl (by decide) (Yl.pure rfl (fun _ => by kernel_rfl)) (fun _ hs => ?_)
                refine stepY (v := (Value.bool false)) hs rfl rfl (by decide) (Yl.pure rfl (fun _ => by kernel_rfl)) (fun _ hs => ?_)
                refine stepY (v := (Value.bool false)) hs rfl rfl (by decide) (Yl.pure rfl (fun _ => by kernel_rfl)) (fun _ hs => ?_)
                refine step_yes hs rfl rfl rfl ?_
                refine stepY (v := (Value.pointer (some ⟨b49, 0, none⟩))) hs rfl rfl (by decide) (Yl.pure rfl (fun _ => by kernel_rfl)) (fun _ hs => ?_)
                refine step_yes hs rfl rfl rfl ?_
                refine stepY (v := (Value.int .i64 x43)) hs rfl rfl (by decide) (Yl.loadB (vs := [(Value.int .i64 x43)]) false 0 rfl rfl rfl (by kernel_rfl) rfl) (fun _ hs => ?_)
                refine step_yes hs rfl rfl rfl ?_
                refine stepY (v := (Value.bool ((x43 : Int) != (1 : Int)))) hs rfl rfl (by decide) (Yl.pure rfl (fun _ => by kernel_rfl)) (fun _ hs => ?_)
                refine step_yes hs rfl rfl rfl ?_
                refine stepY (v := (Value.bool ((x43 : Int) != (1 : Int)))) hs rfl rfl (by decide) (Yl.pure rfl (fun _ => by kernel_rfl)) (fun _ hs => ?_)
                refine bsplit ((x43 : Int) != (1 : Int)) bne_iff_ne (fun hb hc => ?_) (fun hb hc => ?_)
                · have hs := hs.bt hb
                  have hS := hS.1 hc
                  refine step_yes hs rfl rfl rfl ?_
                  refine stepY (v := (Value.pointer (some ⟨b49, 2, none⟩))) hs rfl rfl (by decide) (Yl.pure rfl (fun _ => by kernel_rfl)) (fun _ hs => ?_)
                  refine step_yes hs rfl rfl rfl ?_
                  refine stepY (v := (Value.agg #[(Value.int .u64 x45), (Value.int .u64 x46), (Value.int .u64 x47), (Value.int .u64 x48)])) hs rfl rfl (by decide) (Yl.loadB (vs := [(Value.int .u64 x45), (Value.int .u64 x46), (Value.int .u64 x47), (Value.int .u64 x48)]) true 0 rfl rfl rfl (by kernel_rfl) rfl) (fun _ hs => ?_)
                  refine step_yes hs rfl rfl rfl ?_
                  refine stepY (v := (Value.agg #[(Value.int .u64 0), (Value.int .u64 0), (Value.int .u64 0), (Value.int .u64 0)])) hs rfl rfl (by decide) (Yl.pure rfl (fun _ => by kernel_rfl)) (fun _ hs => ?_)
                  refine step_yes hs rfl rfl rfl ?_
                  refine stepY (v := (Value.bool (!(cellsEq [x45, x46, x47, x48] [0, 0, 0, 0])))) hs rfl rfl (by decide) (Yl.neqA (n := 4) (e := 27) (k := .u64) (xs := [x45, x46, x47, x48]) (ys := [0, 0, 0, 0]) rfl (by kernel_rfl) (by kernel_rfl) (by kernel_rfl) (by kernel_rfl) rfl rfl rfl rfl rfl rfl) (fun _ hs => ?_)
                  refine step_yes hs rfl rfl rfl ?_
                  refine stepY (v := (Value.bool (!(cellsEq [x45, x46, x47, x48] [0, 0, 0, 0])))) hs rfl rfl (by decide) (Yl.pure rfl (fun _ => by kernel_rfl)) (fun _ hs => ?_)
                  refine stepY (v := (Value.bool (!(cellsEq [x45, x46, x47, x48] [0, 0, 0, 0])))) hs rfl rfl (by decide) (Yl.pure rfl (fun _ => by kernel_rfl)) (fun _ hs => ?_)
                  refine wpList_nil ?_
                  exact ⟨(!(cellsEq [x45, x46, x47, x48] [0, 0, 0, 0])), (hs.weak (List.Sublist.refl _) (List.Sublist.refl _) ⟨rfl, rfl, rfl, rfl, rfl, trivial⟩), hS⟩
                · have hs := hs.bf hb
                  have hS := hS.2 hc
                  refine step_no hs rfl rfl rfl rfl rfl (by decide) (fun _ hs => ?_)
                  refine step_no hs rfl rfl rfl rfl rfl (by decide) (fun _ hs => ?_)
                  refine step_no hs rfl rfl rfl rfl rfl (by decide) (fun _ hs => ?_)
                  refine step_no hs rfl rfl rfl rfl rfl (by decide) (fun _ hs => ?_)
                  refine step_yes hs rfl rfl rfl ?_
                  refine stepY (v := (Value.bool false)) hs rfl rfl (by decide) (Yl.pure rfl (fun _ => by kernel_rfl)) (fun _ hs => ?_)
                  refine stepY (v := (Value.bool false)) hs rfl rfl (by decide) (Yl.pure rfl (fun _ => by kernel_rfl)) (fun _ hs => ?_)
                  refine wpList_nil ?_
                  exact ⟨false, (hs.weak (List.Sublist.refl _) (List.Sublist.refl _) ⟨rfl, rfl, rfl, rfl, rfl, trivial⟩), hS⟩
      · intro a w hJ
        obtain ⟨x55, hs, hS⟩ := hJ
        unfold S_chaffref_Code_J1 at hS
        refine Wp.cond hs rfl rfl Iff.rfl (fun hc => ?_) (fun hc => ?_)
        · have hS := hS.1 hc
          refine Wp.seq ?_
          refine Wp.region ?_
          refine stepY (v := (Value.int .i64 3)) hs rfl rfl (by decide) (Yl.pure rfl (fun _ => by kernel_rfl)) (fun _ hs => ?_)
          refine wpList_nil ?_
          refine Wp.ret ?_
          exact leaveE (K := fun v _ => K v) hs (resT hs rfl rfl) hMM (fun _ _ => hS)
        · have hS := hS.2 hc
          refine Wp.skip ?_
          refine Wp.region ?_
          obtain ⟨hI, hS⟩ := hS
          refine stepY (v := (Value.int .i64 (x37 + 1))) hs rfl rfl (by decide) (Yl.eq (Yl.pure (v := Value.int .i64 (IntKind.wrap .i64 (x37 + 1))) rfl (fun _ => by kernel_rfl)) (congrArg (Value.int .i64) (wrap_in hI))) (fun _ hs => ?_)
          refine stepY (v := (Value.int .i64 (x37 + 1))) hs rfl rfl (by decide) (Yl.pure rfl (fun _ => by kernel_rfl)) (fun _ hs => ?_)
          refine wpList_nil ?_
          exact ⟨(x37 + 1, M53), ⟨hMM, (hs.weak (.cons _ List.Sublist.slnil) (List.Sublist.refl _) ⟨rfl, rfl, rfl, rfl, trivial⟩), hS.1⟩, hS.2⟩
    · have hS := hS.2 hc
      refine Wp.exit rfl ?_
      refine Wp.seq ?_
      refine Wp.region ?_
      refine stepY (v := (Value.int .i64 0)) hs rfl rfl (by decide) (Yl.pure rfl (fun _ => by kernel_rfl)) (fun _ hs => ?_)
      refine wpList_nil ?_
      refine Wp.ret ?_
      exact leaveE (K := fun v _ => K v) hs (resT hs rfl rfl) hMM (fun _ _ => hS)
set_option linter.unusedVariables false in
def S_chafflaw_CodeChecks (la1 : Option Addr) (ll2 : Nat) (lc3 : Nat) (M : Mem) (K : Value → Prop) : Prop :=
  (CallE Try.prog 23 #[(Value.slice la1 ll2 lc3)] M (fun v _ => ∃ (x4 : Int), v = (Value.int .i64 x4) ∧ (CallE Try.prog 24 #[(Value.slice la1 ll2 lc3)] M (fun v _ => ∃ (x5 : Int), v = (Value.int .i64 x5) ∧ K (Value.bool ((x4 : Int) == (x5 : Int)))))))
set_option linter.unusedVariables false in
set_option maxRecDepth 100000 in
theorem s_chafflaw_CodeChecks (la1 : Option Addr) (ll2 : Nat) (lc3 : Nat) (M : Mem) (K : Value → Prop) (hS : S_chafflaw_CodeChecks la1 ll2 lc3 M K) : CallE Try.prog 5 #[(Value.slice la1 ll2 lc3)] M (fun v _ => K v) := by
  refine enterE Try.func5 rfl 8 rfl (Nat.le_of_ble_eq_true rfl) (fun E a hs => ?_)
  unfold S_chafflaw_CodeChecks at hS
  have hMM : MM M M E := fun _ _ h => .inl h
  change Sx 8 E [] M E a [(0, (Value.slice la1 ll2 lc3))] [] [] at hs
  refine Wp.seq ?_
  refine Wp.region ?_
  refine stepY (v := (Value.bool false)) hs rfl rfl (by decide) (Yl.pure rfl (fun _ => by kernel_rfl)) (fun _ hs => ?_)
  refine wpList_nil ?_
  refine Wp.seq ?_
  refine Wp.region ?_
  refine stepY (v := (Value.slice la1 ll2 lc3)) hs rfl rfl (by decide) (Yl.pure rfl (fun _ => by kernel_rfl)) (fun _ hs => ?_)
  refine stepCallP [(Value.slice la1 ll2 lc3)] hs rfl ⟨_, rfl, rfl⟩ rfl Try.func23 rfl (by kernel_rfl) (by decide) hS (fun _ _ v hS hs => ?_)
  obtain ⟨x4, hv, hS⟩ := hS
  subst hv
  refine stepY (v := (Value.slice la1 ll2 lc3)) hs rfl rfl (by decide) (Yl.pure rfl (fun _ => by kernel_rfl)) (fun _ hs => ?_)
  refine stepCallP [(Value.slice la1 ll2 lc3)] hs rfl ⟨_, rfl, rfl⟩ rfl Try.func24 rfl (by kernel_rfl) (by decide) hS (fun _ _ v hS hs => ?_)
  obtain ⟨x5, hv, hS⟩ := hS
  subst hv
  refine stepY (v := (Value.bool ((x4 : Int) == (x5 : Int)))) hs rfl rfl (by decide) (Yl.pure rfl (fun _ => by kernel_rfl)) (fun _ hs => ?_)
  refine stepY (v := (Value.bool ((x4 : Int) == (x5 : Int)))) hs rfl rfl (by decide) (Yl.pure rfl (fun _ => by kernel_rfl)) (fun _ hs => ?_)
  refine wpList_nil ?_
  refine Wp.ret ?_
  exact leaveE (K := fun v _ => K v) hs (resT hs rfl rfl) hMM (fun _ _ => hS)
theorem open_L_Inst {H : Type} {enc : TypeId × Value → H} {w : World} {fuel : Nat} {v : Value} (h : LeafR enc Try.prog w fuel (.sl 36 95) v) : ∃ A l c xss, v = .slice A l c ∧ SlV (HM w) A l c 6 (List.flatten xss) ∧ xss.length = l ∧ l ≤ maxLen ∧ ∀ cs ∈ xss, ∃ n, n < fuel ∧ All2 (LeafR enc Try.prog w n) [.int .i64, .int .i64, .int .u64, .int .u64, .int .u64, .int .u64] cs :=
  open_sl 9 6 (by kernel_rfl) (by kernel_rfl) rfl (by decide) h
def WalkGoal : Prop := ∀ (H : Type) (enc : TypeId × Value → H) (W : World) (A0 : Option Addr) (l0 c0 fuel0 : Nat) (_ : LeafR enc Try.prog W fuel0 (.sl 36 95) (.slice A0 l0 c0)), CallE Try.prog 5 #[.slice A0 l0 c0] (HM W) (fun v _ => v = .bool true)
theorem top_own : ownKnob Try.prog.godebug = none := by kernel_rfl
theorem top_laidOut : laidOutB Try.prog = true := by kernel_rfl
set_option linter.unusedVariables false in
set_option maxRecDepth 100000 in
theorem top_lifted (walk : WalkGoal) (os : Os) (started : os.Started) (H : Type) (enc : TypeId × Value → H) :
    ReturnsInHanded {} Try.checked os 5 .any (Rows.codeChecksSpec.pre6 enc Try.prog Try.f5 Rows.codeChecksRow.domain false) (Rows.codeChecksSpec.post enc Try.prog Try.f5 false true false false) := by
  refine returnsInHanded_of_change (C := Try.checked) top_own started (by kernel_rfl) Try.func5
    (ChangeSpec.witness6 (enc := enc) (C := Try.checked) false ⟨#[], #[.slice none 0 0], []⟩ 9 (by kernel_rfl) (by kernel_rfl) (by kernel_rfl) (by kernel_rfl)) ?_
  intro W base args ds gs before hval0 hW hcnd _
  have hval : ∀ (j : Nat) t v, Try.f5.params[j]? = some t → args[j]? = some v → Value.okWide Try.prog W .any base t v := hval0
  have hW' := hW
  obtain ⟨p, q, hA0, hV, rfl, hfz, hnd⟩ := hW
  have hA : DataW.TrodAll enc Try.prog W 0 (fun _ => true) true Try.f5.params.toList args.toList ds p := hA0
  have hA1 := hA
  rw [Try.params5] at hA hval
  obtain ⟨v0, vs0, d0, ds0, p0, q0, hargs, rfl, rfl, h0, r0⟩ := trodAll_cons hA
  obtain ⟨rfl, rfl, rfl⟩ := trodAll_nil r0
  obtain rfl : args = #[v0] := by cases args; simp_all
  obtain ⟨rfl, rfl⟩ := trodVars_none hV
  obtain ⟨A0, l0, c0, f0, rfl, w0⟩ := argSl Try.underlying36 (hval 0 36 _ rfl rfl) h0
  clear hA0 hval0
  refine (walk H enc W A0 l0 c0 f0 w0 W (HM.on W)).mono fun e W' ⟨v, he, bel, hv⟩ => ?_
  subst he
  subst hv
  exact ⟨_, rfl, _, _, _, [], _, [], hW', trodAll_mk1 (shut_bool Try.underlying4 _), trodAll_below top_laidOut bel (by kernel_rfl) hA1, rfl, bel.frame _, fun h => by cases h⟩
theorem top (walk : WalkGoal) : Rows.CodeChecksSaid :=
  OpenClaim.holds_of_wide 5 Try.f5 rfl rfl rfl rfl rfl rfl rfl ⟨rfl, rfl, rfl, rfl, rfl⟩ rfl rfl rfl rfl rfl (by kernel_rfl) Try.func5 (by kernel_rfl)
    (of_decide_eq_true (by kernel_rfl)) (by unfold Func.isWrapper; first | (rw [if_pos (by decide +kernel)]; kernel_rfl) | (rw [if_neg (by decide +kernel)]; exact ⟨rfl, rfl⟩))
    (fun os started H enc _ => top_lifted walk os started H enc)
/-! ### What the code computes -/

structure In where
  op : Int
  n : Int
  a : Int
  b : Int
  c : Int
  d : Int

def In.cs (x : In) : List Value := [.int .i64 x.op, .int .i64 x.n, .int .u64 x.a, .int .u64 x.b, .int .u64 x.c, .int .u64 x.d]

def jmp (op : Int) : Prop := op = 2 ∨ op = 3 ∨ op = 4 ∨ op = 5 ∨ op = 9 ∨ op = 10
instance (op : Int) : Decidable (jmp op) := by unfold jmp; infer_instance

/-- An instruction that is not in form, in a code of l instructions. -/
def badI (l : Nat) (x : In) : Prop := x.op < 1 ∨ x.op > 11 ∨ x.n < 0 ∨ (jmp x.op ∧ x.n ≥ l) ∨ (¬ jmp x.op ∧ x.n ≠ 0) ∨ (x.op ≠ 1 ∧ cellsEq [x.a, x.b, x.c, x.d] [0, 0, 0, 0] = false)
instance (l : Nat) (x : In) : Decidable (badI l x) := by unfold badI; infer_instance

def chkI (l : List In) : Int := if l.length > 6000 then 2 else if ∃ x ∈ l, badI l.length x then 3 else 0

theorem chkI_large {l : List In} (h : ((l.length : Nat) : Int) > 6000) : chkI l = 2 := by unfold chkI; rw [if_pos (by omega)]
theorem chkI_bad {l : List In} (h : ¬ ((l.length : Nat) : Int) > 6000) {i : Nat} {x : In} (hx : l[i]? = some x) (hb : badI l.length x) : chkI l = 3 := by
  unfold chkI; rw [if_neg (by omega), if_pos ⟨x, List.mem_of_getElem? hx, hb⟩]
theorem chkI_ok {l : List In} (h : ¬ ((l.length : Nat) : Int) > 6000) (hb : ∀ (i : Nat) x, l[i]? = some x → ¬ badI l.length x) : chkI l = 0 := by
  unfold chkI; rw [if_neg (by omega), if_neg]
  rintro ⟨x, hx, h⟩
  obtain ⟨i, hi⟩ := List.mem_iff_getElem?.1 hx
  exact hb i x hi h

/-- The first i are in form. -/
def OkTo (l : List In) (i : Int) : Prop := 0 ≤ i ∧ i ≤ (l.length : Int) ∧ ∀ (j : Nat) x, (j : Int) < i → l[j]? = some x → ¬ badI l.length x
theorem OkTo.next {l : List In} {i : Int} (h : OkTo l i) {x : In} (hx : l[i.toNat]? = some x) (hb : ¬ badI l.length x) : OkTo l (i + 1) := by
  obtain ⟨h0, h1, h2⟩ := h
  have := (List.getElem?_eq_some_iff.1 hx).1
  refine ⟨by omega, by omega, fun j y hj hy => ?_⟩
  by_cases e : (j : Int) = i
  · have : i.toNat = j := by omega
    rw [this] at hx; rw [hx] at hy; cases hy; exact hb
  · exact h2 j y (by omega) hy

theorem jumps_is (op : Int) (M : Mem) (K : Value → Prop) (h : ∀ b : Bool, (b = true ↔ jmp op) → K (.bool b)) : S_code_jumps op M K := by
  unfold S_code_jumps S_code_jumps_J1 jmp at *
  have ht := h true
  have hf := h false
  simp only [true_iff, Bool.false_eq_true, false_iff, beq_iff_eq] at *
  refine ⟨fun e => ⟨fun _ => ht (by omega), fun h => absurd e h⟩, fun n2 => ⟨fun e => ⟨fun _ => ht (by omega), fun h => absurd e h⟩, fun n3 => ⟨fun e => ⟨fun _ => ht (by omega), fun h => absurd e h⟩, fun n4 => ⟨fun e => ⟨fun _ => ht (by omega), fun h => absurd e h⟩, fun n5 => ⟨fun e => ⟨fun _ => ht (by omega), fun h => absurd e h⟩, fun n9 => ⟨fun _ => ht (by omega), fun h => hf (by omega)⟩⟩⟩⟩⟩⟩

theorem check_is {A : Option Addr} {c : Nat} {es : List In} {M : Mem} (h : SlV M A es.length c 6 ((es.map In.cs).flatten)) (hm : es.length ≤ maxLen) :
    S_code_Check A es.length c M (fun v => v = .int .i64 (chkI es)) := by
  unfold S_code_Check
  refine ⟨fun hl => by rw [chkI_large hl], fun hl => ⟨OkTo es, fun i => es.length - i.toNat, ⟨by omega, by omega, fun j x hj => by omega⟩, fun i hi => ⟨fun hlt => ?_, fun hge => ?_⟩⟩⟩
  · obtain ⟨h0, h1, h2⟩ := id hi
    have hx : es[i.toNat]? = some (es[i.toNat]'(by omega)) := List.getElem?_eq_getElem _
    generalize es[i.toNat]'(by omega) = x at hx
    obtain ⟨b, o, ha, hat⟩ := h.elem rfl (fun _ _ => rfl) hx
    refine ⟨b, o, ha, h0, hlt, x.op, x.n, x.a, x.b, x.c, x.d, hat, (s_code_jumps _ _ _ (jumps_is _ _ _ fun jb hj => ⟨jb, rfl, ?_⟩))⟩
    have hbad : ∀ z : Int, badI es.length x → z = 3 → Value.int .i64 z = .int .i64 (chkI es) := fun z hb e => by rw [chkI_bad hl hx hb, e]
    have hnext : ¬ badI es.length x → (InI (i + 1) ∧ OkTo es (i + 1) ∧ es.length - (i + 1).toNat < es.length - i.toNat) := fun hb => ⟨by unfold InI; omega, hi.next hx hb, by omega⟩
    have j1 : ∀ most : Int, (jmp x.op → most = es.length - 1) → (¬ jmp x.op → most = 0) → S_code_Check_J1 i (OkTo es) (fun i => es.length - i.toNat) x.op x.n x.a x.b x.c x.d most (fun v => v = .int .i64 (chkI es)) := by
      intro most hm1 hm2
      have yes : badI es.length x → S_code_Check_J2 i (OkTo es) (fun i => es.length - i.toNat) true (fun v => v = .int .i64 (chkI es)) := fun hb => ⟨fun _ => hbad 3 hb rfl, fun h => absurd rfl h⟩
      have no : ∀ b, (b = true → badI es.length x) → (b = false → ¬ badI es.length x) → S_code_Check_J2 i (OkTo es) (fun i => es.length - i.toNat) b (fun v => v = .int .i64 (chkI es)) := fun b h1 h2 => ⟨fun hb => hbad 3 (h1 hb) rfl, fun hb => hnext (h2 (by simpa using hb))⟩
      unfold S_code_Check_J1
      refine ⟨fun h => yes (.inl h), fun h1 => ⟨fun h => yes (.inr (.inl h)), fun h2 => ⟨fun h => yes (.inr (.inr (.inl h))), fun h3 => ⟨fun h => yes ?_, fun h4 => ⟨fun h => no _ (fun e => ?_) (fun e => ?_), fun h => no _ (fun e => by cases e) (fun _ => ?_)⟩⟩⟩⟩⟩
      · by_cases hj : jmp x.op
        · exact .inr (.inr (.inr (.inl ⟨hj, by have := hm1 hj; omega⟩)))
        · exact .inr (.inr (.inr (.inr (.inl ⟨hj, by have := hm2 hj; omega⟩))))
      · exact .inr (.inr (.inr (.inr (.inr ⟨h, by simpa using e⟩))))
      · rintro (hb | hb | hb | ⟨hj, hb⟩ | ⟨hj, hb⟩ | ⟨_, hb⟩)
        · omega
        · omega
        · omega
        · have := hm1 hj; omega
        · have := hm2 hj; omega
        · rw [hb] at e; cases e
      · rintro (hb | hb | hb | ⟨hj, hb⟩ | ⟨hj, hb⟩ | ⟨hb, _⟩)
        · omega
        · omega
        · omega
        · have := hm1 hj; omega
        · have := hm2 hj; omega
        · exact h hb
    refine ⟨fun hb => ⟨by unfold InI; unfold maxLen at hm; omega, j1 _ (fun _ => rfl) (fun hn => absurd (hj.1 hb) hn)⟩, fun hb => j1 _ (fun h => absurd (hj.2 h) hb) (fun _ => rfl)⟩
  · obtain ⟨h0, h1, h2⟩ := hi
    show Value.int .i64 0 = _
    rw [chkI_ok hl (fun j x hx => h2 j x (by have := (List.getElem?_eq_some_iff.1 hx).1; omega) hx)]

theorem index_is {A : Option Addr} {c : Nat} {zs : List Int} {v : Int} {M : Mem} (h : SlV M A zs.length c 1 ((zs.map fun z => [Value.int .i64 z]).flatten)) (hm : zs.length ≤ maxLen) (K : Value → Prop) (hK : ∀ k : Int, (0 ≤ k ↔ v ∈ zs) → K (.int .i64 k)) : S_slices_Index A zs.length c v M K := by
  unfold S_slices_Index
  refine ⟨fun i => 0 ≤ i ∧ i ≤ (zs.length : Int) ∧ ∀ j : Nat, (j : Int) < i → zs[j]? ≠ some v, fun i => zs.length - i.toNat, ⟨by omega, by omega, fun j hj => by omega⟩, fun i ⟨h0, h1, h2⟩ => ⟨fun hlt => ?_, fun hge => ?_⟩⟩
  · have hx : zs[i.toNat]? = some (zs[i.toNat]'(by omega)) := List.getElem?_eq_getElem _
    generalize zs[i.toNat]'(by omega) = x at hx
    obtain ⟨b, o, ha, hat⟩ := h.elem rfl (fun _ _ => rfl) hx
    refine ⟨b, o, ha, h0, hlt, x, hat, fun e => hK i ⟨fun _ => List.mem_of_getElem? (e ▸ hx), fun _ => h0⟩, fun e => ⟨by unfold InI; unfold maxLen at hm; omega, ⟨by omega, by omega, fun j hj => ?_⟩, by dsimp only; omega⟩⟩
    by_cases ej : (j : Int) = i
    · have : i.toNat = j := by omega
      rw [← this, hx]; simp; omega
    · exact h2 j (by omega)
  · refine hK (-1) ⟨fun h => by omega, fun hv => ?_⟩
    obtain ⟨j, hj⟩ := List.mem_iff_getElem?.1 hv
    have := (List.getElem?_eq_some_iff.1 hj).1
    exact absurd hj (h2 j (by omega))

theorem ref_is {A : Option Addr} {c : Nat} {es : List In} {M : Mem} (h : SlV M A es.length c 6 ((es.map In.cs).flatten)) (_hm : es.length ≤ maxLen) :
    S_chaffref_Code A es.length c M (fun v => v = .int .i64 (chkI es)) := by
  unfold S_chaffref_Code
  refine ⟨fun hl => by rw [chkI_large hl], fun hl => ⟨fun i M' => OkTo es i ∧ M.le M', fun i => es.length - i.toNat, ⟨⟨by omega, by omega, fun j x hj => by omega⟩, Mem.le.refl M⟩, fun i M' ⟨hi, hle⟩ => ⟨fun hlt => ?_, fun hge => ?_⟩⟩⟩
  · obtain ⟨h0, h1, h2⟩ := id hi
    have hx : es[i.toNat]? = some (es[i.toNat]'(by omega)) := List.getElem?_eq_getElem _
    generalize es[i.toNat]'(by omega) = x at hx
    obtain ⟨b, o, ha, hat⟩ := h.elem rfl (fun _ _ => rfl) hx
    refine ⟨b, o, ha, h0, hlt, x.op, x.n, x.a, x.b, x.c, x.d, hat.le hle, fun M2 ad cap hle2 hsl => s_slices_Contains _ _ _ _ _ _ (s_slices_Index _ _ _ _ _ _ (index_is (zs := [2, 3, 4, 5, 9, 10]) hsl (by unfold maxLen; decide) _ fun k hk => ⟨k, rfl, decide (k ≥ 0), rfl, ?_⟩))⟩
    have hj : decide (k ≥ 0) = true ↔ jmp x.op := by rw [decide_eq_true_iff]; show 0 ≤ k ↔ _; rw [hk]; simp [jmp]
    generalize decide (k ≥ 0) = jb at hj
    clear hk k
    have hbad : ∀ z : Int, badI es.length x → z = 3 → Value.int .i64 z = .int .i64 (chkI es) := fun z hb e => by rw [chkI_bad hl hx hb, e]
    have hnext : ¬ badI es.length x → (InI (i + 1) ∧ (OkTo es (i + 1) ∧ M.le M2) ∧ es.length - (i + 1).toNat < es.length - i.toNat) := fun hb => ⟨by unfold InI; omega, ⟨hi.next hx hb, hle.trans hle2⟩, by omega⟩
    have yes : badI es.length x → S_chaffref_Code_J1 i (fun i M' => OkTo es i ∧ M.le M') (fun i => es.length - i.toNat) M2 true (fun v => v = .int .i64 (chkI es)) := fun hb => ⟨fun _ => hbad 3 hb rfl, fun h => absurd rfl h⟩
    have no : ∀ b, (b = true → badI es.length x) → (b = false → ¬ badI es.length x) → S_chaffref_Code_J1 i (fun i M' => OkTo es i ∧ M.le M') (fun i => es.length - i.toNat) M2 b (fun v => v = .int .i64 (chkI es)) := fun b h1 h2 => ⟨fun hb => hbad 3 (h1 hb) rfl, fun hb => hnext (h2 (by simpa using hb))⟩
    have last : ¬ x.op < 1 → ¬ x.op > 11 → (jmp x.op → 0 ≤ x.n ∧ x.n < es.length) → (¬ jmp x.op → x.n = 0) →
        (((x.op : Int) ≠ 1 → (S_chaffref_Code_J1 i (fun i M' => OkTo es i ∧ M.le M') (fun i => es.length - i.toNat) M2 (!(cellsEq [x.a, x.b, x.c, x.d] [0, 0, 0, 0])) (fun v => v = .int .i64 (chkI es)))) ∧ (¬ ((x.op : Int) ≠ 1) → (S_chaffref_Code_J1 i (fun i M' => OkTo es i ∧ M.le M') (fun i => es.length - i.toNat) M2 false (fun v => v = .int .i64 (chkI es))))) := by
      intro g1 g2 g3 g4
      refine ⟨fun h => no _ (fun e => .inr (.inr (.inr (.inr (.inr ⟨h, by simpa using e⟩))))) (fun e => ?_), fun h => no _ (fun e => by cases e) (fun _ => ?_)⟩
      · rintro (hb | hb | hb | ⟨hj, hb⟩ | ⟨hj, hb⟩ | ⟨_, hb⟩)
        · omega
        · omega
        · by_cases hj : jmp x.op
          · have := g3 hj; omega
          · have := g4 hj; omega
        · have := g3 hj; omega
        · exact hb (g4 hj)
        · rw [hb] at e; cases e
      · rintro (hb | hb | hb | ⟨hj, hb⟩ | ⟨hj, hb⟩ | ⟨hb, _⟩)
        · omega
        · omega
        · by_cases hj : jmp x.op
          · have := g3 hj; omega
          · have := g4 hj; omega
        · have := g3 hj; omega
        · exact hb (g4 hj)
        · exact h hb
    refine ⟨fun h => yes (.inl h), fun g1 => ⟨fun h => yes (.inr (.inl h)), fun g2 => ⟨fun hb => ⟨fun h => yes (.inr (.inr (.inl h))), fun g3 => ⟨fun h => yes (.inr (.inr (.inr (.inl ⟨hj.1 hb, h⟩)))), fun g4 => ⟨fun h => absurd hb h, fun _ => last g1 g2 (fun _ => by omega) (fun h => absurd (hj.1 hb) h)⟩⟩⟩, fun hb => ⟨fun _ => ⟨fun h => yes (.inr (.inr (.inr (.inr (.inl ⟨fun h' => hb (hj.2 h'), h⟩))))), fun g3 => last g1 g2 (fun h => absurd (hj.2 h) hb) (fun _ => by omega)⟩, fun h => absurd hb h⟩⟩⟩⟩
  · obtain ⟨h0, h1, h2⟩ := hi
    show Value.int .i64 0 = _
    rw [chkI_ok hl (fun j x hx => h2 j x (by have := (List.getElem?_eq_some_iff.1 hx).1; omega) hx)]

theorem law_is {A : Option Addr} {c : Nat} {es : List In} {M : Mem} (h : SlV M A es.length c 6 ((es.map In.cs).flatten)) (hm : es.length ≤ maxLen) :
    S_chafflaw_CodeChecks A es.length c M (fun v => v = .bool true) := by
  unfold S_chafflaw_CodeChecks
  refine (s_code_Check _ _ _ _ _ (check_is h hm)).mono fun v _ _ hv => ⟨_, hv, (s_chaffref_Code _ _ _ _ _ (ref_is h hm)).mono fun v' _ _ hv' => ⟨_, hv', by simp⟩⟩

/-! ### The arguments -/

theorem walk : WalkGoal := by
  intro H enc W A0 l0 c0 f0 h
  obtain ⟨A, l, c, xss, e, hsl, hlen, hmax, hall⟩ := open_L_Inst h
  cases e
  obtain ⟨es, rfl, hes⟩ := typed (f := In.cs) xss (fun cs hcs => by
    obtain ⟨n, _, h⟩ := hall cs hcs
    obtain ⟨_, _, rfl, ⟨a, rfl, _⟩, _, _, rfl, ⟨b, rfl, _⟩, _, _, rfl, ⟨c, rfl, _⟩, _, _, rfl, ⟨d, rfl, _⟩, _, _, rfl, ⟨e, rfl, _⟩, _, _, rfl, ⟨f, rfl, _⟩, rfl⟩ := h
    exact ⟨⟨a, b, c, d, e, f⟩, rfl⟩)
  rw [List.length_map] at hlen
  subst hlen
  exact s_chafflaw_CodeChecks _ _ _ _ _ (law_is hsl hmax)

theorem holds : Rows.CodeChecksSaid := top walk
#print axioms holds
end Go.Proofs.Ytdlfhmdojbejkaa.lawCodeChecks
