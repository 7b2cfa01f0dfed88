/- What the code that CodeRuns reaches computes, function for function, as shallow propositions; printed by program. -/
import Derived.Test.YtdlfhmdojbejkaaRows
import Derived.Test.YtdlfhmdojbejkaaGxD
import Derived.Test.YtdlfhmdojbejkaaGxE
import Derived.Test.YtdlfhmdojbejkaaGxS
import Derived.Test.YtdlfhmdojbejkaaGxU
namespace Go.Proofs.Ytdlfhmdojbejkaa.lawCodeRuns
open Go.Gx Go.RowKit Go.ChangeShapes Go.WideShapes Go.ChangeAt
structure X_api_Set where
  w0 : Int
  w1 : Int
  w2 : Int
  w3 : Int
def X_api_Set.cells (x : X_api_Set) : List Value := [(Value.int .u64 x.w0), (Value.int .u64 x.w1), (Value.int .u64 x.w2), (Value.int .u64 x.w3)]
def X_api_Set.val (x : X_api_Set) : Value := .agg x.cells.toArray
structure X_api_Inst where
  Op : Int
  N : Int
  Set : X_api_Set
def X_api_Inst.cells (x : X_api_Inst) : List Value := [(Value.int .i64 x.Op), (Value.int .i64 x.N), (Value.int .u64 x.Set.w0), (Value.int .u64 x.Set.w1), (Value.int .u64 x.Set.w2), (Value.int .u64 x.Set.w3)]
def X_api_Inst.val (x : X_api_Inst) : Value := .agg x.cells.toArray
structure X_code_entry where
  pc : Int
  f_at : Int
def X_code_entry.cells (x : X_code_entry) : List Value := [(Value.int .i64 x.pc), (Value.int .i64 x.f_at)]
def X_code_entry.val (x : X_code_entry) : Value := .agg x.cells.toArray
structure X_api_Outcome where
  Ok : Bool
  N : Int
def X_api_Outcome.cells (x : X_api_Outcome) : List Value := [(Value.bool x.Ok), (Value.int .i64 x.N)]
def X_api_Outcome.val (x : X_api_Outcome) : Value := .agg x.cells.toArray
structure X_code_machine where
  s : List UInt8
  pc : Int
  f_at : Int
  stack_a : Option Addr
  stack_l : Nat
  stack_c : Nat
def X_code_machine.cells (x : X_code_machine) : List Value := [(Value.string (mkS x.s)), (Value.int .i64 x.pc), (Value.int .i64 x.f_at), (Value.slice x.stack_a x.stack_l x.stack_c)]
def X_code_machine.val (x : X_code_machine) : Value := .agg x.cells.toArray
structure X_chaffref_frame where
  f_next : Int
  f_at : Int
  call : Bool
  below : Option Addr
  many : Int
def X_chaffref_frame.cells (x : X_chaffref_frame) : List Value := [(Value.int .i64 x.f_next), (Value.int .i64 x.f_at), (Value.bool x.call), (Value.pointer x.below), (Value.int .i64 x.many)]
def X_chaffref_frame.val (x : X_chaffref_frame) : Value := .agg x.cells.toArray
set_option linter.unusedVariables false in
def C_code_machine_fail (m2 : List UInt8) (m3 : Int) (m4 : Int) (rn6 : Nat) (rx7 : List Value) (M : Mem) (K : Value → Int → Int → Nat → List Value → Mem → Prop) : Prop := ∀ (b1 : Nat) (rv5 : Value), CallL Try.prog 89 #[(Value.pointer (some ⟨b1, 0, none⟩))] M [⟨b1, 113, [(Value.string (mkS m2)), (Value.int .i64 m3), (Value.int .i64 m4), rv5]⟩] [⟨rv5, 141, 2, rn6, rx7, false⟩] (fun v lb' lr' M' => ∃ (c11 : Int) (c12 : Int) (rn9 : Nat) (rx10 : List Value) (rv8 : Value), lb' = [⟨b1, 113, [(Value.string (mkS m2)), (Value.int .i64 c11), (Value.int .i64 c12), rv8]⟩] ∧ lr' = [⟨rv8, 141, 2, rn9, rx10, false⟩] ∧ K v c11 c12 rn9 rx10 M')
set_option linter.unusedVariables false in
def C_code_machine_push (x8 : X_code_entry) (m2 : List UInt8) (m3 : Int) (m4 : Int) (rn6 : Nat) (rx7 : List Value) (M : Mem) (K : Value → Nat → List Value → Mem → Prop) : Prop := ∀ (b1 : Nat) (rv5 : Value), CallL Try.prog 90 #[(Value.pointer (some ⟨b1, 0, none⟩)), x8.val] M [⟨b1, 113, [(Value.string (mkS m2)), (Value.int .i64 m3), (Value.int .i64 m4), rv5]⟩] [⟨rv5, 141, 2, rn6, rx7, false⟩] (fun v lb' lr' M' => ∃ (rn10 : Nat) (rx11 : List Value) (rv9 : Value), lb' = [⟨b1, 113, [(Value.string (mkS m2)), (Value.int .i64 m3), (Value.int .i64 m4), rv9]⟩] ∧ lr' = [⟨rv9, 141, 2, rn10, rx11, false⟩] ∧ K v rn10 rx11 M')
set_option linter.unusedVariables false in
def C_code_machine_pop (call8 : Bool) (m2 : List UInt8) (m3 : Int) (m4 : Int) (rn6 : Nat) (rx7 : List Value) (M : Mem) (K : Value → Nat → List Value → Mem → Prop) : Prop := ∀ (b1 : Nat) (rv5 : Value), CallL Try.prog 100 #[(Value.pointer (some ⟨b1, 0, none⟩)), (Value.bool call8)] M [⟨b1, 113, [(Value.string (mkS m2)), (Value.int .i64 m3), (Value.int .i64 m4), rv5]⟩] [⟨rv5, 141, 2, rn6, rx7, false⟩] (fun v lb' lr' M' => ∃ (rn10 : Nat) (rx11 : List Value) (rv9 : Value), lb' = [⟨b1, 113, [(Value.string (mkS m2)), (Value.int .i64 m3), (Value.int .i64 m4), rv9]⟩] ∧ lr' = [⟨rv9, 141, 2, rn10, rx11, false⟩] ∧ K v rn10 rx11 M')
set_option linter.unusedVariables false in
def C_code_machine_back (x8 : X_api_Inst) (m2 : List UInt8) (m3 : Int) (m4 : Int) (rn6 : Nat) (rx7 : List Value) (M : Mem) (K : Value → Int → Int → Nat → List Value → Mem → Prop) : Prop := ∀ (b1 : Nat) (rv5 : Value), CallL Try.prog 91 #[(Value.pointer (some ⟨b1, 0, none⟩)), x8.val] M [⟨b1, 113, [(Value.string (mkS m2)), (Value.int .i64 m3), (Value.int .i64 m4), rv5]⟩] [⟨rv5, 141, 2, rn6, rx7, false⟩] (fun v lb' lr' M' => ∃ (c12 : Int) (c13 : Int) (rn10 : Nat) (rx11 : List Value) (rv9 : Value), lb' = [⟨b1, 113, [(Value.string (mkS m2)), (Value.int .i64 c12), (Value.int .i64 c13), rv9]⟩] ∧ lr' = [⟨rv9, 141, 2, rn10, rx11, false⟩] ∧ K v c12 c13 rn10 rx11 M')
set_option linter.unusedVariables false in
def C_code_machine_one (x8 : X_api_Inst) (m2 : List UInt8) (m3 : Int) (m4 : Int) (rn6 : Nat) (rx7 : List Value) (M : Mem) (K : Value → Int → Int → Nat → List Value → Mem → Prop) : Prop := ∀ (b1 : Nat) (rv5 : Value), CallL Try.prog 74 #[(Value.pointer (some ⟨b1, 0, none⟩)), x8.val] M [⟨b1, 113, [(Value.string (mkS m2)), (Value.int .i64 m3), (Value.int .i64 m4), rv5]⟩] [⟨rv5, 141, 2, rn6, rx7, false⟩] (fun v lb' lr' M' => ∃ (c12 : Int) (c13 : Int) (rn10 : Nat) (rx11 : List Value) (rv9 : Value), lb' = [⟨b1, 113, [(Value.string (mkS m2)), (Value.int .i64 c12), (Value.int .i64 c13), rv9]⟩] ∧ lr' = [⟨rv9, 141, 2, rn10, rx11, false⟩] ∧ K v c12 c13 rn10 rx11 M')
set_option linter.unusedVariables false in
def S_code_jumps_J1 (x2 : Bool) (K : Value → Prop) : Prop :=
  ((x2 = true → K (Value.bool true)) ∧ (¬ (x2 = true) → K (Value.bool false)))
set_option linter.unusedVariables false in
def S_code_jumps (op1 : Int) (M : Mem) (K : Value → Prop) : Prop :=
  (((op1 : Int) = 2 → (S_code_jumps_J1 ((op1 : Int) == (2 : Int)) K)) ∧ (¬ ((op1 : Int) = 2) → (((op1 : Int) = 3 → (S_code_jumps_J1 ((op1 : Int) == (3 : Int)) K)) ∧ (¬ ((op1 : Int) = 3) → (((op1 : Int) = 4 → (S_code_jumps_J1 ((op1 : Int) == (4 : Int)) K)) ∧ (¬ ((op1 : Int) = 4) → (((op1 : Int) = 5 → (S_code_jumps_J1 ((op1 : Int) == (5 : Int)) K)) ∧ (¬ ((op1 : Int) = 5) → (((op1 : Int) = 9 → (S_code_jumps_J1 ((op1 : Int) == (9 : Int)) K)) ∧ (¬ ((op1 : Int) = 9) → (S_code_jumps_J1 ((op1 : Int) == (10 : Int)) K)))))))))))
set_option linter.unusedVariables false in
set_option maxRecDepth 100000 in
theorem s_code_jumps (op1 : Int) (M : Mem) (K : Value → Prop) (hS : S_code_jumps op1 M K) : CallE Try.prog 63 #[(Value.int .i64 op1)] M (fun v _ => K v) := by
  refine enterE Try.func63 rfl 11 rfl (Nat.le_of_ble_eq_true rfl) (fun E a hs => ?_)
  unfold S_code_jumps at hS
  have hMM := MX.refl M E
  change Sx 11 E [] M E a [(0, (Value.int .i64 op1))] [] [] at hs
  refine Wp.seq (Wp.region (sP (Value.bool false) hs fun _ hs => ?_))
  refine wpList_nil (Wp.seq (Wp.seq (Wp.region (sP (Value.int .i64 op1) hs fun _ hs => ?_))))
  refine wpList_nil (Wp.block (Wp.join (fun a w => ∃ (x2 : Bool), Sx 11 E [] M w a [(4, (Value.bool x2))] [] [] ∧ (S_code_jumps_J1 x2 K)) ?_ ?_))
  · refine Wp.seq (Wp.region (sP (Value.bool ((op1 : Int) == (2 : Int))) hs fun _ hs => ?_))
    refine sP (Value.bool ((op1 : Int) == (2 : Int))) hs fun _ hs => ?_
    refine wpList_nil (Wp.cond hs rfl rfl beq_iff_eq (fun hc => ?_) (fun hc => ?_))
    · have hS := hS.1 hc
      exact Wp.skip (⟨((op1 : Int) == (2 : Int)), (hs.weak (List.Sublist.refl _) (List.Sublist.refl _) ⟨rfl, trivial⟩), hS⟩)
    · have hS := hS.2 hc
      refine Wp.seq (Wp.region (sP (Value.bool ((op1 : Int) == (3 : Int))) hs fun _ hs => ?_))
      refine sP (Value.bool ((op1 : Int) == (3 : Int))) hs fun _ hs => ?_
      refine wpList_nil (Wp.cond hs rfl rfl beq_iff_eq (fun hc => ?_) (fun hc => ?_))
      · have hS := hS.1 hc
        exact Wp.skip (⟨((op1 : Int) == (3 : Int)), (hs.weak (List.Sublist.refl _) (List.Sublist.refl _) ⟨rfl, trivial⟩), hS⟩)
      · have hS := hS.2 hc
        refine Wp.seq (Wp.region (sP (Value.bool ((op1 : Int) == (4 : Int))) hs fun _ hs => ?_))
        refine sP (Value.bool ((op1 : Int) == (4 : Int))) hs fun _ hs => ?_
        refine wpList_nil (Wp.cond hs rfl rfl beq_iff_eq (fun hc => ?_) (fun hc => ?_))
        · have hS := hS.1 hc
          exact Wp.skip (⟨((op1 : Int) == (4 : Int)), (hs.weak (List.Sublist.refl _) (List.Sublist.refl _) ⟨rfl, trivial⟩), hS⟩)
        · have hS := hS.2 hc
          refine Wp.seq (Wp.region (sP (Value.bool ((op1 : Int) == (5 : Int))) hs fun _ hs => ?_))
          refine sP (Value.bool ((op1 : Int) == (5 : Int))) hs fun _ hs => ?_
          refine wpList_nil (Wp.cond hs rfl rfl beq_iff_eq (fun hc => ?_) (fun hc => ?_))
          · have hS := hS.1 hc
            exact Wp.skip (⟨((op1 : Int) == (5 : Int)), (hs.weak (List.Sublist.refl _) (List.Sublist.refl _) ⟨rfl, trivial⟩), hS⟩)
          · have hS := hS.2 hc
            refine Wp.seq (Wp.region (sP (Value.bool ((op1 : Int) == (9 : Int))) hs fun _ hs => ?_))
            refine sP (Value.bool ((op1 : Int) == (9 : Int))) hs fun _ hs => ?_
            refine wpList_nil (Wp.cond hs rfl rfl beq_iff_eq (fun hc => ?_) (fun hc => ?_))
            · have hS := hS.1 hc
              exact Wp.skip (⟨((op1 : Int) == (9 : Int)), (hs.weak (List.Sublist.refl _) (List.Sublist.refl _) ⟨rfl, trivial⟩), hS⟩)
            · have hS := hS.2 hc
              refine Wp.region (sP (Value.bool ((op1 : Int) == (10 : Int))) hs fun _ hs => ?_)
              refine sP (Value.bool ((op1 : Int) == (10 : Int))) hs fun _ hs => ?_
              exact wpList_nil (⟨((op1 : Int) == (10 : Int)), (hs.weak (List.Sublist.refl _) (List.Sublist.refl _) ⟨rfl, trivial⟩), hS⟩)
  · intro a w hJ
    obtain ⟨x2, hs, hS⟩ := hJ
    unfold S_code_jumps_J1 at hS
    refine Wp.cond hs rfl rfl Iff.rfl (fun hc => ?_) (fun hc => ?_)
    · have hS := hS.1 hc
      refine Wp.seq (Wp.region (sP (Value.bool true) hs fun _ hs => ?_))
      exact wpList_nil (Wp.ret (leaveE (K := fun v _ => K v) hs (resT hs rfl rfl) hMM.2 (fun _ _ => hS)))
    · have hS := hS.2 hc
      refine Wp.skip (Wp.seq (Wp.region (sP (Value.bool false) hs fun _ hs => ?_)))
      exact wpList_nil (Wp.ret (leaveE (K := fun v _ => K v) hs (resT hs rfl rfl) hMM.2 (fun _ _ => hS)))
set_option linter.unusedVariables false in
def S_code_Check_J2 (x12 : Int) (I13 : Int → Prop) (mu14 : Int → Nat) (x21 : Bool) (K : Value → Prop) : Prop :=
  ((x21 = true → K (Value.int .i64 3)) ∧ (¬ (x21 = true) → (InI (x12 + 1) ∧ I13 (x12 + 1) ∧ mu14 (x12 + 1) < mu14 x12)))
set_option linter.unusedVariables false in
def S_code_Check_J1 (x12 : Int) (I13 : Int → Prop) (mu14 : Int → Nat) (x17 : X_api_Inst) (most20 : Int) (K : Value → Prop) : Prop :=
  ((x17.Op < 1 → (S_code_Check_J2 x12 I13 mu14 true K)) ∧ (¬ (x17.Op < 1) → ((x17.Op > 11 → (S_code_Check_J2 x12 I13 mu14 true K)) ∧ (¬ (x17.Op > 11) → ((x17.N < 0 → (S_code_Check_J2 x12 I13 mu14 true K)) ∧ (¬ (x17.N < 0) → ((x17.N > most20 → (S_code_Check_J2 x12 I13 mu14 true K)) ∧ (¬ (x17.N > most20) → (((x17.Op : Int) ≠ 1 → (S_code_Check_J2 x12 I13 mu14 (!(cellsEq [x17.Set.w0, x17.Set.w1, x17.Set.w2, x17.Set.w3] [0, 0, 0, 0])) K)) ∧ (¬ ((x17.Op : Int) ≠ 1) → (S_code_Check_J2 x12 I13 mu14 false K)))))))))))
set_option linter.unusedVariables false in
def S_code_Check (la1 : Option Addr) (ll2 : Nat) (lc3 : Nat) (M : Mem) (K : Value → Prop) : Prop :=
  ((((ll2 : Nat) : Int) > 6000 → K (Value.int .i64 2)) ∧ (¬ (((ll2 : Nat) : Int) > 6000) → (∃ (I13 : Int → Prop) (mu14 : Int → Nat), I13 0 ∧ ∀ (x12 : Int), (I13 x12 → ((x12 < ((ll2 : Nat) : Int) → (∃ (b15 o16 : Nat), la1 = some ⟨b15, o16, none⟩ ∧ (0 : Int) ≤ x12 ∧ x12 < ((ll2 : Nat) : Int) ∧ (∃ (x17 : X_api_Inst), At M b15 (o16 + x12.toNat * 6) x17.cells ∧ (CallE Try.prog 63 #[(Value.int .i64 x17.Op)] M (fun v _ => ∃ (x19 : Bool), v = (Value.bool x19) ∧ ((x19 = true → (InI (((ll2 : Nat) : Int) - 1) ∧ (S_code_Check_J1 x12 I13 mu14 x17 (((ll2 : Nat) : Int) - 1) K))) ∧ (¬ (x19 = true) → (S_code_Check_J1 x12 I13 mu14 x17 0 K)))))))) ∧ (¬ (x12 < ((ll2 : Nat) : Int)) → K (Value.int .i64 0)))))))
set_option linter.unusedVariables false in
set_option maxRecDepth 100000 in
theorem s_code_Check (la1 : Option Addr) (ll2 : Nat) (lc3 : Nat) (M : Mem) (K : Value → Prop) (hS : S_code_Check la1 ll2 lc3 M K) : CallE Try.prog 23 #[(Value.slice la1 ll2 lc3)] M (fun v _ => K v) := by
  refine enterE Try.func23 rfl 52 rfl (Nat.le_of_ble_eq_true rfl) (fun E a hs => ?_)
  unfold S_code_Check at hS
  have hMM := MX.refl M E
  change Sx 52 E [] M E a [(0, (Value.slice la1 ll2 lc3))] [] [] at hs
  refine Wp.seq (Wp.region (sP (Value.int .i64 0) hs fun _ hs => ?_))
  refine wpList_nil (Wp.seq (Wp.seq (Wp.region (sP (Value.slice la1 ll2 lc3) hs fun _ hs => ?_))))
  refine sP (Value.int .i64 ((ll2 : Nat) : Int)) hs fun _ hs => ?_
  refine sP (Value.bool (decide (((ll2 : Nat) : Int) > 6000))) hs fun _ hs => ?_
  refine wpList_nil (Wp.cond hs rfl rfl decide_eq_true_iff (fun hc => ?_) (fun hc => ?_))
  · have hS := hS.1 hc
    refine Wp.seq (Wp.region (sP (Value.int .i64 2) hs fun _ hs => ?_))
    exact wpList_nil (Wp.ret (leaveE (K := fun v _ => K v) hs (resT hs rfl rfl) hMM.2 (fun _ _ => hS)))
  · have hS := hS.2 hc
    refine Wp.skip (Wp.seq (Wp.seq (Wp.region (sP (Value.slice la1 ll2 lc3) hs fun _ hs => ?_))))
    refine sP (Value.int .i64 ((ll2 : Nat) : Int)) hs fun _ hs => ?_
    refine sP (Value.int .i64 0) hs fun _ hs => ?_
    refine wpList_nil (Wp.block ?_)
    obtain ⟨I13, mu14, hI0, hst⟩ := hS
    refine Wp.loop (σ := (Int)) (fun s a w => match s with | (x12) => Sx 52 E [] M w a [(0, (Value.slice la1 ll2 lc3)), (9, (Value.slice la1 ll2 lc3)), (10, (Value.int .i64 ((ll2 : Nat) : Int))), (11, (Value.int .i64 x12))] [] [] ∧ I13 x12) (fun s => match s with | (x12) => mu14 x12) (0) ⟨(hs.weak (List.Sublist.refl _) (List.Sublist.refl _) ⟨rfl, rfl, rfl, rfl, trivial⟩), hI0⟩ (fun x12 a w hI => ?_)
    obtain ⟨hs, hI⟩ := hI
    have hS := hst x12 hI
    clear hst hI0 hI
    refine Wp.seq (Wp.region (sP (Value.bool (decide (x12 < ((ll2 : Nat) : Int)))) hs fun _ hs => ?_))
    refine wpList_nil (Wp.seq (Wp.cond hs rfl rfl decide_eq_true_iff (fun hc => ?_) (fun hc => ?_)))
    · have hS := hS.1 hc
      refine Wp.skip (Wp.seq (Wp.block (Wp.seq (Wp.region ?_))))
      obtain ⟨b15, o16, ha, h0, hl, hS⟩ := hS
      refine sY (Value.pointer (some ⟨b15, o16 + x12.toNat * 6, none⟩)) hs (Yl.indexS (e := 95) (sz := 6) rfl rfl rfl rfl (by kernel_rfl) (by kernel_rfl) ha h0 hl) fun _ hs => ?_
      obtain ⟨x17, hat, hS⟩ := hS
      refine sY x17.val hs (Yl.loadV (vs := x17.cells) true rfl rfl (by kernel_rfl) hat) fun _ hs => ?_
      refine stepAlloc [(Value.int .i64 0), (Value.int .i64 0), (Value.int .u64 0), (Value.int .u64 0), (Value.int .u64 0), (Value.int .u64 0)] hs (by kernel_rfl) (by decide) (fun _ _ b18 hEb18 hs => ?_)
      refine stepStoreB 0 (vs := [(Value.int .i64 x17.Op), (Value.int .i64 x17.N), (Value.int .u64 x17.Set.w0), (Value.int .u64 x17.Set.w1), (Value.int .u64 x17.Set.w2), (Value.int .u64 x17.Set.w3)]) hs rfl rfl rfl rfl rfl rfl (by kernel_rfl) (Nat.le_of_ble_eq_true rfl) rfl (fun _ _ hs => ?_)
      replace hs := hs.chbx (bs' := [⟨b18, 95, [(Value.int .i64 x17.Op), (Value.int .i64 x17.N), (Value.int .u64 x17.Set.w0), (Value.int .u64 x17.Set.w1), (Value.int .u64 x17.Set.w2), (Value.int .u64 x17.Set.w3)]⟩]) rfl
      refine wpList_nil (Wp.seq (Wp.region (sP (Value.int .i64 0) hs fun _ hs => ?_)))
      refine wpList_nil (Wp.join (fun a w => ∃ (most20 : Int), Sx 52 E [] M w a [(0, (Value.slice la1 ll2 lc3)), (4, (Value.pointer (some ⟨b18, 0, none⟩))), (5, (Value.int .i64 most20)), (9, (Value.slice la1 ll2 lc3)), (10, (Value.int .i64 ((ll2 : Nat) : Int))), (11, (Value.int .i64 x12))] [⟨b18, 95, [(Value.int .i64 x17.Op), (Value.int .i64 x17.N), (Value.int .u64 x17.Set.w0), (Value.int .u64 x17.Set.w1), (Value.int .u64 x17.Set.w2), (Value.int .u64 x17.Set.w3)]⟩] [] ∧ (S_code_Check_J1 x12 I13 mu14 x17 most20 K)) ?_ ?_)
      · refine Wp.seq (Wp.region (sP (Value.pointer (some ⟨b18, 0, none⟩)) hs fun _ hs => ?_))
        refine sY (Value.int .i64 x17.Op) hs (Yl.loadB (vs := [(Value.int .i64 x17.Op)]) false 0 rfl rfl rfl (by kernel_rfl) rfl) fun _ hs => ?_
        refine stepCallP [(Value.int .i64 x17.Op)] hs rfl ⟨_, rfl, rfl⟩ rfl Try.func63 rfl (by kernel_rfl) (by decide) hS (fun _ _ v hS hs => ?_)
        obtain ⟨x19, hv, hS⟩ := hS
        subst hv
        refine wpList_nil (Wp.cond hs rfl rfl Iff.rfl (fun hc => ?_) (fun hc => ?_))
        · have hS := hS.1 hc
          refine Wp.region (sP (Value.slice la1 ll2 lc3) hs fun _ hs => ?_)
          refine sP (Value.int .i64 ((ll2 : Nat) : Int)) hs fun _ hs => ?_
          obtain ⟨hI, hS⟩ := hS
          refine sY (Value.int .i64 (((ll2 : Nat) : Int) - 1)) hs (Yl.eq (Yl.pure (v := Value.int .i64 (IntKind.wrap .i64 (((ll2 : Nat) : Int) - 1))) rfl (fun _ => by kernel_rfl)) (congrArg (Value.int .i64) (wrap_in hI))) fun _ hs => ?_
          refine sP (Value.int .i64 (((ll2 : Nat) : Int) - 1)) hs fun _ hs => ?_
          exact wpList_nil (⟨(((ll2 : Nat) : Int) - 1), (hs.weak (List.Sublist.refl _) (List.Sublist.refl _) ⟨rfl, rfl, rfl, rfl, rfl, rfl, trivial⟩), hS⟩)
        · have hS := hS.2 hc
          exact Wp.skip (⟨0, (hs.weak (List.Sublist.refl _) (List.Sublist.refl _) ⟨rfl, rfl, rfl, rfl, rfl, rfl, trivial⟩), hS⟩)
      · intro a w hJ
        obtain ⟨most20, hs, hS⟩ := hJ
        unfold S_code_Check_J1 at hS
        refine Wp.join (fun a w => ∃ (x21 : Bool), Sx 52 E [] M w a [(0, (Value.slice la1 ll2 lc3)), (9, (Value.slice la1 ll2 lc3)), (10, (Value.int .i64 ((ll2 : Nat) : Int))), (11, (Value.int .i64 x12)), (50, (Value.bool x21))] [⟨b18, 95, [(Value.int .i64 x17.Op), (Value.int .i64 x17.N), (Value.int .u64 x17.Set.w0), (Value.int .u64 x17.Set.w1), (Value.int .u64 x17.Set.w2), (Value.int .u64 x17.Set.w3)]⟩] [] ∧ (S_code_Check_J2 x12 I13 mu14 x21 K)) ?_ ?_
        · refine Wp.region (sP (Value.pointer (some ⟨b18, 0, none⟩)) hs fun _ hs => ?_)
          refine sY (Value.int .i64 x17.Op) hs (Yl.loadB (vs := [(Value.int .i64 x17.Op)]) false 0 rfl rfl rfl (by kernel_rfl) rfl) fun _ hs => ?_
          refine sP (Value.bool (decide (x17.Op < 1))) hs fun _ hs => ?_
          refine sP (Value.bool (decide (x17.Op < 1))) hs fun _ hs => ?_
          refine bsplit (decide (x17.Op < 1)) decide_eq_true_iff (fun hb hc => ?_) (fun hb hc => ?_)
          · have hs := hs.bt hb
            have hS := hS.1 hc
            refine sNo hs fun _ hs => ?_
            refine sNo hs fun _ hs => ?_
            refine sNo hs fun _ hs => ?_
            refine sP (Value.bool true) hs fun _ hs => ?_
            refine sP (Value.bool true) hs fun _ hs => ?_
            refine sNo hs fun _ hs => ?_
            refine sNo hs fun _ hs => ?_
            refine sNo hs fun _ hs => ?_
            refine sP (Value.bool true) hs fun _ hs => ?_
            refine sP (Value.bool true) hs fun _ hs => ?_
            refine sNo hs fun _ hs => ?_
            refine sNo hs fun _ hs => ?_
            refine sNo hs fun _ hs => ?_
            refine sNo hs fun _ hs => ?_
            refine sP (Value.bool true) hs fun _ hs => ?_
            refine sP (Value.bool true) hs fun _ hs => ?_
            refine sNo hs fun _ hs => ?_
            refine sNo hs fun _ hs => ?_
            refine sNo hs fun _ hs => ?_
            refine sNo hs fun _ hs => ?_
            refine sNu hs fun _ hs => ?_
            refine sNu hs fun _ hs => ?_
            refine sNu hs fun _ hs => ?_
            refine sNu hs fun _ hs => ?_
            refine sNo hs fun _ hs => ?_
            refine sP (Value.bool true) hs fun _ hs => ?_
            exact wpList_nil (⟨true, (hs.weak (List.Sublist.refl _) (List.Sublist.refl _) ⟨rfl, rfl, rfl, rfl, rfl, trivial⟩), hS⟩)
          · have hs := hs.bf hb
            have hS := hS.2 hc
            refine sYe hs (sP (Value.pointer (some ⟨b18, 0, none⟩)) hs fun _ hs => ?_)
            refine sYe hs (sY (Value.int .i64 x17.Op) hs (Yl.loadB (vs := [(Value.int .i64 x17.Op)]) false 0 rfl rfl rfl (by kernel_rfl) rfl) fun _ hs => ?_)
            refine sYe hs (sP (Value.bool (decide (x17.Op > 11))) hs fun _ hs => ?_)
            refine sP (Value.bool (decide (x17.Op > 11))) hs fun _ hs => ?_
            refine sP (Value.bool (decide (x17.Op > 11))) hs fun _ hs => ?_
            refine bsplit (decide (x17.Op > 11)) decide_eq_true_iff (fun hb hc => ?_) (fun hb hc => ?_)
            · have hs := hs.bt hb
              have hS := hS.1 hc
              refine sNo hs fun _ hs => ?_
              refine sNo hs fun _ hs => ?_
              refine sNo hs fun _ hs => ?_
              refine sP (Value.bool true) hs fun _ hs => ?_
              refine sP (Value.bool true) hs fun _ hs => ?_
              refine sNo hs fun _ hs => ?_
              refine sNo hs fun _ hs => ?_
              refine sNo hs fun _ hs => ?_
              refine sNo hs fun _ hs => ?_
              refine sP (Value.bool true) hs fun _ hs => ?_
              refine sP (Value.bool true) hs fun _ hs => ?_
              refine sNo hs fun _ hs => ?_
              refine sNo hs fun _ hs => ?_
              refine sNo hs fun _ hs => ?_
              refine sNo hs fun _ hs => ?_
              refine sNu hs fun _ hs => ?_
              refine sNu hs fun _ hs => ?_
              refine sNu hs fun _ hs => ?_
              refine sNu hs fun _ hs => ?_
              refine sNo hs fun _ hs => ?_
              refine sP (Value.bool true) hs fun _ hs => ?_
              exact wpList_nil (⟨true, (hs.weak (List.Sublist.refl _) (List.Sublist.refl _) ⟨rfl, rfl, rfl, rfl, rfl, trivial⟩), hS⟩)
            · have hs := hs.bf hb
              have hS := hS.2 hc
              refine sYe hs (sP (Value.pointer (some ⟨b18, 1, none⟩)) hs fun _ hs => ?_)
              refine sYe hs (sY (Value.int .i64 x17.N) hs (Yl.loadB (vs := [(Value.int .i64 x17.N)]) false 0 rfl rfl rfl (by kernel_rfl) rfl) fun _ hs => ?_)
              refine sYe hs (sP (Value.bool (decide (x17.N < 0))) hs fun _ hs => ?_)
              refine sP (Value.bool (decide (x17.N < 0))) hs fun _ hs => ?_
              refine sP (Value.bool (decide (x17.N < 0))) hs fun _ hs => ?_
              refine bsplit (decide (x17.N < 0)) decide_eq_true_iff (fun hb hc => ?_) (fun hb hc => ?_)
              · have hs := hs.bt hb
                have hS := hS.1 hc
                refine sNo hs fun _ hs => ?_
                refine sNo hs fun _ hs => ?_
                refine sNo hs fun _ hs => ?_
                refine sNo hs fun _ hs => ?_
                refine sP (Value.bool true) hs fun _ hs => ?_
                refine sP (Value.bool true) hs fun _ hs => ?_
                refine sNo hs fun _ hs => ?_
                refine sNo hs fun _ hs => ?_
                refine sNo hs fun _ hs => ?_
                refine sNo hs fun _ hs => ?_
                refine sNu hs fun _ hs => ?_
                refine sNu hs fun _ hs => ?_
                refine sNu hs fun _ hs => ?_
                refine sNu hs fun _ hs => ?_
                refine sNo hs fun _ hs => ?_
                refine sP (Value.bool true) hs fun _ hs => ?_
                exact wpList_nil (⟨true, (hs.weak (List.Sublist.refl _) (List.Sublist.refl _) ⟨rfl, rfl, rfl, rfl, rfl, trivial⟩), hS⟩)
              · have hs := hs.bf hb
                have hS := hS.2 hc
                refine sYe hs (sP (Value.pointer (some ⟨b18, 1, none⟩)) hs fun _ hs => ?_)
                refine sYe hs (sY (Value.int .i64 x17.N) hs (Yl.loadB (vs := [(Value.int .i64 x17.N)]) false 0 rfl rfl rfl (by kernel_rfl) rfl) fun _ hs => ?_)
                refine sYe hs (sP (Value.int .i64 most20) hs fun _ hs => ?_)
                refine sYe hs (sP (Value.bool (decide (x17.N > most20))) hs fun _ hs => ?_)
                refine sP (Value.bool (decide (x17.N > most20))) hs fun _ hs => ?_
                refine sP (Value.bool (decide (x17.N > most20))) hs fun _ hs => ?_
                refine bsplit (decide (x17.N > most20)) decide_eq_true_iff (fun hb hc => ?_) (fun hb hc => ?_)
                · have hs := hs.bt hb
                  have hS := hS.1 hc
                  refine sNo hs fun _ hs => ?_
                  refine sNo hs fun _ hs => ?_
                  refine sNo hs fun _ hs => ?_
                  refine sNo hs fun _ hs => ?_
                  refine sNu hs fun _ hs => ?_
                  refine sNu hs fun _ hs => ?_
                  refine sNu hs fun _ hs => ?_
                  refine sNu hs fun _ hs => ?_
                  refine sNo hs fun _ hs => ?_
                  refine sP (Value.bool true) hs fun _ hs => ?_
                  exact wpList_nil (⟨true, (hs.weak (List.Sublist.refl _) (List.Sublist.refl _) ⟨rfl, rfl, rfl, rfl, rfl, trivial⟩), hS⟩)
                · have hs := hs.bf hb
                  have hS := hS.2 hc
                  refine sYe hs (sP (Value.pointer (some ⟨b18, 0, none⟩)) hs fun _ hs => ?_)
                  refine sYe hs (sY (Value.int .i64 x17.Op) hs (Yl.loadB (vs := [(Value.int .i64 x17.Op)]) false 0 rfl rfl rfl (by kernel_rfl) rfl) fun _ hs => ?_)
                  refine sYe hs (sP (Value.bool ((x17.Op : Int) != (1 : Int))) hs fun _ hs => ?_)
                  refine sYe hs (sP (Value.bool ((x17.Op : Int) != (1 : Int))) hs fun _ hs => ?_)
                  refine bsplit ((x17.Op : Int) != (1 : Int)) bne_iff_ne (fun hb hc => ?_) (fun hb hc => ?_)
                  · have hs := hs.bt hb
                    have hS := hS.1 hc
                    refine sYe hs (sP (Value.pointer (some ⟨b18, 2, none⟩)) hs fun _ hs => ?_)
                    refine sYe hs (sY x17.Set.val hs (Yl.loadB (vs := x17.Set.cells) true 0 rfl rfl rfl (by kernel_rfl) rfl) fun _ hs => ?_)
                    refine sYe hs (sP (X_api_Set.mk 0 0 0 0).val hs fun _ hs => ?_)
                    refine sYe hs (sY (Value.bool (!(cellsEq [x17.Set.w0, x17.Set.w1, x17.Set.w2, x17.Set.w3] [0, 0, 0, 0]))) hs (Yl.neqA (n := 4) (e := 27) (k := .u64) (xs := [x17.Set.w0, x17.Set.w1, x17.Set.w2, x17.Set.w3]) (ys := [0, 0, 0, 0]) rfl (by kernel_rfl) (by kernel_rfl) (by kernel_rfl) (by kernel_rfl) rfl rfl rfl rfl rfl rfl) fun _ hs => ?_)
                    refine sYe hs (sP (Value.bool (!(cellsEq [x17.Set.w0, x17.Set.w1, x17.Set.w2, x17.Set.w3] [0, 0, 0, 0]))) hs fun _ hs => ?_)
                    refine sP (Value.bool (!(cellsEq [x17.Set.w0, x17.Set.w1, x17.Set.w2, x17.Set.w3] [0, 0, 0, 0]))) hs fun _ hs => ?_
                    exact wpList_nil (⟨(!(cellsEq [x17.Set.w0, x17.Set.w1, x17.Set.w2, x17.Set.w3] [0, 0, 0, 0])), (hs.weak (List.Sublist.refl _) (List.Sublist.refl _) ⟨rfl, rfl, rfl, rfl, rfl, trivial⟩), hS⟩)
                  · have hs := hs.bf hb
                    have hS := hS.2 hc
                    refine sNo hs fun _ hs => ?_
                    refine sNo hs fun _ hs => ?_
                    refine sNo hs fun _ hs => ?_
                    refine sNo hs fun _ hs => ?_
                    refine sYe hs (sP (Value.bool false) hs fun _ hs => ?_)
                    refine sP (Value.bool false) hs fun _ hs => ?_
                    exact wpList_nil (⟨false, (hs.weak (List.Sublist.refl _) (List.Sublist.refl _) ⟨rfl, rfl, rfl, rfl, rfl, trivial⟩), hS⟩)
        · intro a w hJ
          obtain ⟨x21, hs, hS⟩ := hJ
          unfold S_code_Check_J2 at hS
          refine Wp.cond hs rfl rfl Iff.rfl (fun hc => ?_) (fun hc => ?_)
          · have hS := hS.1 hc
            refine Wp.seq (Wp.region (sP (Value.int .i64 3) hs fun _ hs => ?_))
            exact wpList_nil (Wp.ret (leaveE (K := fun v _ => K v) hs (resT hs rfl rfl) hMM.2 (fun _ _ => hS)))
          · have hS := hS.2 hc
            refine Wp.skip (Wp.region ?_)
            obtain ⟨hI, hS⟩ := hS
            refine sY (Value.int .i64 (x12 + 1)) hs (Yl.eq (Yl.pure (v := Value.int .i64 (IntKind.wrap .i64 (x12 + 1))) rfl (fun _ => by kernel_rfl)) (congrArg (Value.int .i64) (wrap_in hI))) fun _ hs => ?_
            refine sP (Value.int .i64 (x12 + 1)) hs fun _ hs => ?_
            exact wpList_nil (⟨(x12 + 1), ⟨(hs.weak (.cons _ List.Sublist.slnil) (List.Sublist.refl _) ⟨rfl, rfl, rfl, rfl, trivial⟩), hS.1⟩, hS.2⟩)
    · have hS := hS.2 hc
      refine Wp.exit rfl (Wp.seq (Wp.region (sP (Value.int .i64 0) hs fun _ hs => ?_)))
      exact wpList_nil (Wp.ret (leaveE (K := fun v _ => K v) hs (resT hs rfl rfl) hMM.2 (fun _ _ => hS)))
set_option linter.unusedVariables false in
def S_set_Has (s1 : X_api_Set) (b2 : Int) (M : Mem) (K : Value → Prop) : Prop :=
  ((0 : Int) ≤ bShr .u8 b2 6 ∧ bShr .u8 b2 6 < (4 : Int) ∧ (∃ x4 : Int, [s1.w0, s1.w1, s1.w2, s1.w3][0 + (bShr .u8 b2 6).toNat * 1]? = some x4 ∧ ((0 : Int) ≤ bAnd .u8 b2 63 ∧ K (Value.bool ((bAnd .u64 (bShr .u64 x4 (bAnd .u8 b2 63)) 1 : Int) == (1 : Int))))))
set_option linter.unusedVariables false in
set_option maxRecDepth 100000 in
theorem s_set_Has (s1 : X_api_Set) (b2 : Int) (M : Mem) (K : Value → Prop) (hS : S_set_Has s1 b2 M K) : CallE Try.prog 88 #[s1.val, (Value.int .u8 b2)] M (fun v _ => K v) := by
  refine enterE Try.func88 rfl 14 rfl (Nat.le_of_ble_eq_true rfl) (fun E a hs => ?_)
  unfold S_set_Has at hS
  have hMM := MX.refl M E
  change Sx 14 E [] M E a [(0, s1.val), (1, (Value.int .u8 b2))] [] [] at hs
  refine Wp.seq (Wp.region (stepBox [(Value.int .u64 s1.w0), (Value.int .u64 s1.w1), (Value.int .u64 s1.w2), (Value.int .u64 s1.w3)] hs rfl rfl rfl (by decide) (fun _ _ b3 hEb3 hs => ?_)))
  replace hs := hs.chbx (bs' := [⟨b3, 29, (List.map (Value.int .u64) [s1.w0, s1.w1, s1.w2, s1.w3])⟩]) rfl
  refine sP (Value.bool false) hs fun _ hs => ?_
  refine wpList_nil (Wp.seq (Wp.region (sP (Value.int .u8 b2) hs fun _ hs => ?_)))
  refine sP (Value.int .u8 (bShr .u8 b2 6)) hs fun _ hs => ?_
  obtain ⟨h0, hl, hS⟩ := hS
  refine sY (Value.pointer (some ⟨b3, 0 + (bShr .u8 b2 6).toNat * 1, none⟩)) hs (Yl.indexA (e := 27) (sz := 1) rfl rfl rfl rfl (by kernel_rfl) (by kernel_rfl) h0 hl) fun _ hs => ?_
  obtain ⟨x4, hz, hS⟩ := hS
  refine sY (Value.int .u64 x4) hs (Yl.loadBD 0 rfl rfl rfl (by kernel_rfl) hz) fun _ hs => ?_
  refine sP (Value.int .u8 b2) hs fun _ hs => ?_
  refine sP (Value.int .u8 (bAnd .u8 b2 63)) hs fun _ hs => ?_
  obtain ⟨h0, hS⟩ := hS
  refine sY (Value.int .u64 (bShr .u64 x4 (bAnd .u8 b2 63))) hs (Yl.shr rfl rfl rfl rfl h0) fun _ hs => ?_
  refine sP (Value.int .u64 (bAnd .u64 (bShr .u64 x4 (bAnd .u8 b2 63)) 1)) hs fun _ hs => ?_
  refine sP (Value.bool ((bAnd .u64 (bShr .u64 x4 (bAnd .u8 b2 63)) 1 : Int) == (1 : Int))) hs fun _ hs => ?_
  refine sP (Value.bool ((bAnd .u64 (bShr .u64 x4 (bAnd .u8 b2 63)) 1 : Int) == (1 : Int))) hs fun _ hs => ?_
  exact wpList_nil (Wp.ret (leaveE (K := fun v _ => K v) hs (resT hs rfl rfl) hMM.2 (fun _ _ => hS)))
set_option linter.unusedVariables false in
def S_code_machine_fail (m2 : List UInt8) (m3 : Int) (m4 : Int) (rn6 : Nat) (rx7 : List Value) (M : Mem) (K : Value → Int → Int → Nat → List Value → Mem → Prop) : Prop :=
  (∃ (I37 : Nat → List Value → Prop) (mu38 : Nat → List Value → Nat), I37 rn6 rx7 ∧ ∀ (rn35 : Nat) (rx36 : List Value), (I37 rn35 rx36 → ((((rn35 : Nat) : Int) > 0 → (InI (((rn35 : Nat) : Int) - 1) ∧ ((0 : Int) ≤ ((rn35 : Nat) : Int) - 1 ∧ ((rn35 : Nat) : Int) - 1 < ((rn35 : Nat) : Int) ∧ (∃ (x43 : X_code_entry), Cs rx36 (0 + (((rn35 : Nat) : Int) - 1).toNat * 2) x43.cells ∧ ((0 : Int) ≤ ((rn35 : Nat) : Int) - 1 ∧ (((rn35 : Nat) : Int) - 1 : Int) ≤ ((rn35 : Nat) : Int) ∧ ((x43.f_at ≥ 0 → K (Value.bool true) x43.pc x43.f_at ((((rn35 : Nat) : Int) - 1).toNat) (List.take ((((rn35 : Nat) : Int) - 1).toNat * 2) rx36) M) ∧ (¬ (x43.f_at ≥ 0) → I37 ((((rn35 : Nat) : Int) - 1).toNat) (List.take ((((rn35 : Nat) : Int) - 1).toNat * 2) rx36) ∧ mu38 ((((rn35 : Nat) : Int) - 1).toNat) (List.take ((((rn35 : Nat) : Int) - 1).toNat * 2) rx36) < mu38 rn35 rx36))))))) ∧ (¬ (((rn35 : Nat) : Int) > 0) → K (Value.bool false) m3 m4 rn35 rx36 M))))
set_option linter.unusedVariables false in
set_option maxRecDepth 100000 in
theorem s_code_machine_fail (m2 : List UInt8) (m3 : Int) (m4 : Int) (rn6 : Nat) (rx7 : List Value) (M : Mem) (K : Value → Int → Int → Nat → List Value → Mem → Prop) (hS : S_code_machine_fail m2 m3 m4 rn6 rx7 M K) : C_code_machine_fail m2 m3 m4 rn6 rx7 M K := by
  intro b1 rv5
  refine enterL Try.func89 rfl 46 rfl (Nat.le_of_ble_eq_true rfl) (fun E a hs => ?_)
  unfold S_code_machine_fail at hS
  have hMM := MX.refl M E
  change Sx 46 E (blk [⟨b1, 113, [(Value.string (mkS m2)), (Value.int .i64 m3), (Value.int .i64 m4), rv5]⟩] [⟨rv5, 141, 2, rn6, rx7, false⟩]) M E a [(0, (Value.pointer (some ⟨b1, 0, none⟩)))] [⟨b1, 113, [(Value.string (mkS m2)), (Value.int .i64 m3), (Value.int .i64 m4), rv5]⟩] [⟨rv5, 141, 2, rn6, rx7, false⟩] at hs
  refine Wp.seq (Wp.region (sP (Value.bool false) hs fun _ hs => ?_))
  refine wpList_nil (Wp.seq (Wp.block ?_))
  obtain ⟨I37, mu38, hI0, hst⟩ := hS
  refine Wp.loop (σ := (Nat) × (List Value) × (Value)) (fun s a w => match s with | (rn35, rx36, rv34) => Sx 46 E (blk [⟨b1, 113, [(Value.string (mkS m2)), (Value.int .i64 m3), (Value.int .i64 m4), rv5]⟩] [⟨rv5, 141, 2, rn6, rx7, false⟩]) M w a [(0, (Value.pointer (some ⟨b1, 0, none⟩)))] [⟨b1, 113, [(Value.string (mkS m2)), (Value.int .i64 m3), (Value.int .i64 m4), rv34]⟩] [⟨rv34, 141, 2, rn35, rx36, false⟩] ∧ I37 rn35 rx36) (fun s => match s with | (rn35, rx36, rv34) => mu38 rn35 rx36) (rn6, rx7, rv5) ⟨(hs.weak (List.Sublist.refl _) (List.Sublist.refl _) ⟨rfl, trivial⟩), hI0⟩ (fun s a w hI => ?_)
  obtain ⟨rn35, rx36, rv34⟩ := s
  obtain ⟨hs, hI⟩ := hI
  have hS := hst rn35 rx36 hI
  clear hst hI0 hI
  refine Wp.seq (Wp.seq (Wp.region (sP (Value.pointer (some ⟨b1, 0, none⟩)) hs fun _ hs => ?_)))
  refine sP (Value.pointer (some ⟨b1, 0, none⟩)) hs fun _ hs => ?_
  refine sP (Value.pointer (some ⟨b1, 3, none⟩)) hs fun _ hs => ?_
  refine sY rv34 hs (Yl.loadB (vs := [rv34]) false 0 rfl rfl rfl (by kernel_rfl) rfl) fun _ hs => ?_
  refine sY (Value.int .i64 ((rn35 : Nat) : Int)) hs (Yl.lenR (e' := 141) 0 rfl rfl rfl (by kernel_rfl)) fun _ hs => ?_
  refine sP (Value.bool (decide (((rn35 : Nat) : Int) > 0))) hs fun _ hs => ?_
  refine wpList_nil (Wp.cond hs rfl rfl decide_eq_true_iff (fun hc => ?_) (fun hc => ?_))
  · have hS := hS.1 hc
    refine Wp.skip (Wp.block (Wp.seq (Wp.region (sP (Value.pointer (some ⟨b1, 0, none⟩)) hs fun _ hs => ?_))))
    refine sP (Value.pointer (some ⟨b1, 0, none⟩)) hs fun _ hs => ?_
    refine sP (Value.pointer (some ⟨b1, 3, none⟩)) hs fun _ hs => ?_
    refine sY rv34 hs (Yl.loadB (vs := [rv34]) false 0 rfl rfl rfl (by kernel_rfl) rfl) fun _ hs => ?_
    refine sY (Value.int .i64 ((rn35 : Nat) : Int)) hs (Yl.lenR (e' := 141) 0 rfl rfl rfl (by kernel_rfl)) fun _ hs => ?_
    obtain ⟨hI, hS⟩ := hS
    refine sY (Value.int .i64 (((rn35 : Nat) : Int) - 1)) hs (Yl.eq (Yl.pure (v := Value.int .i64 (IntKind.wrap .i64 (((rn35 : Nat) : Int) - 1))) rfl (fun _ => by kernel_rfl)) (congrArg (Value.int .i64) (wrap_in hI))) fun _ hs => ?_
    refine sP (Value.int .i64 (((rn35 : Nat) : Int) - 1)) hs fun _ hs => ?_
    refine wpList_nil (Wp.seq (Wp.region (sP (Value.pointer (some ⟨b1, 0, none⟩)) hs fun _ hs => ?_)))
    refine sP (Value.pointer (some ⟨b1, 0, none⟩)) hs fun _ hs => ?_
    refine sP (Value.pointer (some ⟨b1, 3, none⟩)) hs fun _ hs => ?_
    refine sY rv34 hs (Yl.loadB (vs := [rv34]) false 0 rfl rfl rfl (by kernel_rfl) rfl) fun _ hs => ?_
    refine sP (Value.int .i64 (((rn35 : Nat) : Int) - 1)) hs fun _ hs => ?_
    obtain ⟨ad39, cap40, hv, hcp, hxl⟩ := hs.rowform 0 rfl
    dsimp only at hv hcp hxl
    subst hv
    obtain ⟨h0, hl, hS⟩ := hS
    have hix41 : (((rn35 : Nat) : Int) - 1).toNat < rn35 := by omega
    obtain ⟨g42, hg42⟩ := hs.rowblk 0 rfl (by omega)
    refine sY (Value.pointer (some ⟨g42, 0 + (((rn35 : Nat) : Int) - 1).toNat * 2, none⟩)) hs (Yl.indexS (e := 141) (sz := 2) rfl rfl rfl rfl (by kernel_rfl) (by kernel_rfl) hg42 h0 hl) fun _ hs => ?_
    obtain ⟨x43, hcs, hS⟩ := hS
    refine sY x43.val hs (Yl.loadR (vs := x43.cells) 0 true rfl hg42 rfl rfl (by kernel_rfl) hcs) fun _ hs => ?_
    refine stepAlloc [(Value.int .i64 0), (Value.int .i64 0)] hs (by kernel_rfl) (by decide) (fun _ _ b44 hEb44 hs => ?_)
    refine stepStoreB 0 (vs := [(Value.int .i64 x43.pc), (Value.int .i64 x43.f_at)]) hs rfl rfl rfl rfl rfl rfl (by kernel_rfl) (Nat.le_of_ble_eq_true rfl) rfl (fun _ _ hs => ?_)
    replace hs := hs.chbx (bs' := [⟨b44, 141, [(Value.int .i64 x43.pc), (Value.int .i64 x43.f_at)]⟩, ⟨b1, 113, [(Value.string (mkS m2)), (Value.int .i64 m3), (Value.int .i64 m4), (Value.slice ad39 rn35 cap40)]⟩]) rfl
    refine wpList_nil (Wp.seq (Wp.region (sP (Value.pointer (some ⟨b1, 0, none⟩)) hs fun _ hs => ?_)))
    refine sP (Value.pointer (some ⟨b1, 0, none⟩)) hs fun _ hs => ?_
    refine sP (Value.pointer (some ⟨b1, 0, none⟩)) hs fun _ hs => ?_
    refine sP (Value.pointer (some ⟨b1, 3, none⟩)) hs fun _ hs => ?_
    refine sY (Value.slice ad39 rn35 cap40) hs (Yl.loadB (vs := [(Value.slice ad39 rn35 cap40)]) false 1 rfl rfl rfl (by kernel_rfl) rfl) fun _ hs => ?_
    refine sP (Value.int .i64 (((rn35 : Nat) : Int) - 1)) hs fun _ hs => ?_
    obtain ⟨h0, h1, hS⟩ := hS
    refine stepCut 0 hs rfl rfl rfl rfl rfl (by kernel_rfl) (by kernel_rfl) (by decide) h0 h1 (fun _ _ rv45 hs => ?_)
    replace hs := hs.chrs (rs' := [⟨rv45, 141, 2, ((((rn35 : Nat) : Int) - 1).toNat), (List.take ((((rn35 : Nat) : Int) - 1).toNat * 2) rx36), false⟩]) rfl
    refine sP (Value.pointer (some ⟨b1, 0, none⟩)) hs fun _ hs => ?_
    refine sP (Value.pointer (some ⟨b1, 3, none⟩)) hs fun _ hs => ?_
    obtain ⟨ad46, cap47, hv, hcp, hxl⟩ := hs.rowform 0 rfl
    dsimp only at hv hcp hxl
    subst hv
    refine stepStoreB 1 (vs := [(Value.slice ad46 ((((rn35 : Nat) : Int) - 1).toNat) cap47)]) hs rfl rfl rfl rfl rfl rfl (by kernel_rfl) (Nat.le_of_ble_eq_true rfl) rfl (fun _ _ hs => ?_)
    replace hs := hs.chbx (bs' := [⟨b44, 141, [(Value.int .i64 x43.pc), (Value.int .i64 x43.f_at)]⟩, ⟨b1, 113, [(Value.string (mkS m2)), (Value.int .i64 m3), (Value.int .i64 m4), (Value.slice ad46 ((((rn35 : Nat) : Int) - 1).toNat) cap47)]⟩]) rfl
    refine wpList_nil (Wp.seq (Wp.region (sP (Value.pointer (some ⟨b44, 1, none⟩)) hs fun _ hs => ?_)))
    refine sY (Value.int .i64 x43.f_at) hs (Yl.loadB (vs := [(Value.int .i64 x43.f_at)]) false 0 rfl rfl rfl (by kernel_rfl) rfl) fun _ hs => ?_
    refine sP (Value.bool (decide (x43.f_at ≥ 0))) hs fun _ hs => ?_
    refine wpList_nil (Wp.cond hs rfl rfl decide_eq_true_iff (fun hc => ?_) (fun hc => ?_))
    · have hS := hS.1 hc
      refine Wp.seq (Wp.regionD [true, true, true, true, true, true, true, true, true, true, true, true] hs (by kernel_rfl) rfl [⟨b44, 141, [(Value.int .i64 x43.pc), (Value.int .i64 x43.f_at)]⟩] (fun _ h => ((.cons_cons _ (.cons _ List.Sublist.slnil)) : List.Sublist _ _).subset h) [⟨(Value.slice ad46 ((((rn35 : Nat) : Int) - 1).toNat) cap47), 141, 2, ((((rn35 : Nat) : Int) - 1).toNat), (List.take ((((rn35 : Nat) : Int) - 1).toNat * 2) rx36), false⟩] (fun _ h => ((List.Sublist.refl _) : List.Sublist _ _).subset h) (fun _ hs hC => ?_))
      have hL := Mem.le.refl M
      refine dP (Value.pointer (some ⟨b1, 0, none⟩)) 0 [6, 7, 8, 9, 10, 11] hs QZ.no (wanted_none rfl) fun _ hs => ?_
      refine dP (Value.pointer (some ⟨b1, 0, none⟩)) 1 [9, 10, 11] hs QZ.no (wanted_none rfl) fun _ hs => ?_
      refine dP (Value.pointer (some ⟨b44, 0, none⟩)) 2 [3, 6, 7, 8, 9, 10, 11] hs QZ.no (wanted_none rfl) fun _ hs => ?_
      refine stepDY (v := (Value.int .i64 x43.pc)) 3 [6, 7, 8, 9, 10, 11] hs hC QZ.no rfl (wanted_none rfl) rfl (by decide) (by kernel_rfl) (by kernel_rfl) (by kernel_rfl) (Yl.loadB (vs := [(Value.int .i64 x43.pc)]) false 0 rfl rfl rfl (by kernel_rfl) rfl) (fun _ hs => ?_)
      refine dP (Value.pointer (some ⟨b44, 1, none⟩)) 4 [5, 9, 10, 11] hs QZ.no (wanted_none rfl) fun _ hs => ?_
      refine stepDY (v := (Value.int .i64 x43.f_at)) 5 [9, 10, 11] hs hC QZ.no rfl (wanted_none rfl) rfl (by decide) (by kernel_rfl) (by kernel_rfl) (by kernel_rfl) (Yl.loadB (vs := [(Value.int .i64 x43.f_at)]) false 0 rfl rfl rfl (by kernel_rfl) rfl) (fun _ hs => ?_)
      refine stepDE 6 rfl (wanted_none rfl) (by kernel_rfl) #[] ?_
      refine sP (Value.pointer (some ⟨b1, 0, none⟩)) hs fun _ hs => ?_
      refine wpList_nil (⟨fun _ h => h, ?_⟩)
      refine stepDE 7 rfl (wanted_none rfl) (by kernel_rfl) #[] ?_
      refine sP (Value.pointer (some ⟨b1, 1, none⟩)) hs fun _ hs => ?_
      refine wpList_nil (⟨fun _ h => h, ?_⟩)
      refine stepDE 8 rfl (wanted_none rfl) (by kernel_rfl) #[] ?_
      refine stepStoreB 1 (vs := [(Value.int .i64 x43.pc)]) hs rfl rfl rfl rfl rfl rfl (by kernel_rfl) (Nat.le_of_ble_eq_true rfl) rfl (fun _ _ hs => ?_)
      replace hs := hs.chbx (bs' := [⟨b44, 141, [(Value.int .i64 x43.pc), (Value.int .i64 x43.f_at)]⟩, ⟨b1, 113, [(Value.string (mkS m2)), (Value.int .i64 x43.pc), (Value.int .i64 m4), (Value.slice ad46 ((((rn35 : Nat) : Int) - 1).toNat) cap47)]⟩]) rfl
      refine wpList_nil (⟨fun _ _ => hs.cxle hL (.cons_cons _ (.cons _ List.Sublist.slnil)) (List.Sublist.refl _), ?_⟩)
      have hC := hs.cxle hL (.cons_cons _ (.cons _ List.Sublist.slnil)) (List.Sublist.refl _)
      refine stepDE 9 rfl (wanted_none rfl) (by kernel_rfl) #[] ?_
      refine sP (Value.pointer (some ⟨b1, 0, none⟩)) hs fun _ hs => ?_
      refine wpList_nil (⟨fun _ h => h, ?_⟩)
      refine stepDE 10 rfl (wanted_none rfl) (by kernel_rfl) #[] ?_
      refine sP (Value.pointer (some ⟨b1, 2, none⟩)) hs fun _ hs => ?_
      refine wpList_nil (⟨fun _ h => h, ?_⟩)
      refine stepDE 11 rfl (wanted_none rfl) (by kernel_rfl) #[] ?_
      refine stepStoreB 1 (vs := [(Value.int .i64 x43.f_at)]) hs rfl rfl rfl rfl rfl rfl (by kernel_rfl) (Nat.le_of_ble_eq_true rfl) rfl (fun _ _ hs => ?_)
      replace hs := hs.chbx (bs' := [⟨b44, 141, [(Value.int .i64 x43.pc), (Value.int .i64 x43.f_at)]⟩, ⟨b1, 113, [(Value.string (mkS m2)), (Value.int .i64 x43.pc), (Value.int .i64 x43.f_at), (Value.slice ad46 ((((rn35 : Nat) : Int) - 1).toNat) cap47)]⟩]) rfl
      refine wpList_nil (⟨fun _ _ => hs.cxle hL (.cons_cons _ (.cons _ List.Sublist.slnil)) (List.Sublist.refl _), ?_⟩)
      have hC := hs.cxle hL (.cons_cons _ (.cons _ List.Sublist.slnil)) (List.Sublist.refl _)
      refine WpD.done (by kernel_rfl) ?_ _
      refine Wp.seq (Wp.region (sP (Value.bool true) hs fun _ hs => ?_))
      refine wpList_nil (Wp.ret ?_)
      replace hs := hs.bfront 1 rfl rfl
      exact leaveL hs (resT hs rfl rfl) hMM.1 hMM.2 [⟨b1, 113, [(Value.string (mkS m2)), (Value.int .i64 x43.pc), (Value.int .i64 x43.f_at), (Value.slice ad46 ((((rn35 : Nat) : Int) - 1).toNat) cap47)]⟩] [⟨(Value.slice ad46 ((((rn35 : Nat) : Int) - 1).toNat) cap47), 141, 2, ((((rn35 : Nat) : Int) - 1).toNat), (List.take ((((rn35 : Nat) : Int) - 1).toNat * 2) rx36), false⟩] (.cons_cons _ (.cons _ List.Sublist.slnil)) (List.Sublist.refl _) rfl ⟨x43.pc, x43.f_at, (((rn35 : Nat) : Int) - 1).toNat, (List.take ((((rn35 : Nat) : Int) - 1).toNat * 2) rx36), (Value.slice ad46 ((((rn35 : Nat) : Int) - 1).toNat) cap47), rfl, rfl, hS⟩
    · have hS := hS.2 hc
      exact Wp.skip (⟨((((rn35 : Nat) : Int) - 1).toNat, (List.take ((((rn35 : Nat) : Int) - 1).toNat * 2) rx36), (Value.slice ad46 ((((rn35 : Nat) : Int) - 1).toNat) cap47)), ⟨(hs.weak (.cons _ (.cons_cons _ List.Sublist.slnil)) (List.Sublist.refl _) ⟨rfl, trivial⟩), hS.1⟩, hS.2⟩)
  · have hS := hS.2 hc
    refine Wp.exit rfl (Wp.seq (Wp.region (sP (Value.bool false) hs fun _ hs => ?_)))
    exact wpList_nil (Wp.ret (leaveL hs (resT hs rfl rfl) hMM.1 hMM.2 [⟨b1, 113, [(Value.string (mkS m2)), (Value.int .i64 m3), (Value.int .i64 m4), rv34]⟩] [⟨rv34, 141, 2, rn35, rx36, false⟩] (List.Sublist.refl _) (List.Sublist.refl _) rfl ⟨m3, m4, rn35, rx36, rv34, rfl, rfl, hS⟩))
set_option linter.unusedVariables false in
def S_code_machine_push (x8 : X_code_entry) (m2 : List UInt8) (m3 : Int) (m4 : Int) (rn6 : Nat) (rx7 : List Value) (M : Mem) (K : Value → Nat → List Value → Mem → Prop) : Prop :=
  ((((rn6 : Nat) : Int) = 10000 → K (Value.int .i64 14) rn6 rx7 M) ∧ (¬ (((rn6 : Nat) : Int) = 10000) → ((rn6 + 1) * 16 ≤ 140737488355328 ∧ K (Value.int .i64 0) (rn6 + 1) (rx7 ++ x8.cells) M)))
set_option linter.unusedVariables false in
set_option maxRecDepth 100000 in
theorem s_code_machine_push (x8 : X_code_entry) (m2 : List UInt8) (m3 : Int) (m4 : Int) (rn6 : Nat) (rx7 : List Value) (M : Mem) (K : Value → Nat → List Value → Mem → Prop) (hS : S_code_machine_push x8 m2 m3 m4 rn6 rx7 M K) : C_code_machine_push x8 m2 m3 m4 rn6 rx7 M K := by
  intro b1 rv5
  refine enterL Try.func90 rfl 21 rfl (Nat.le_of_ble_eq_true rfl) (fun E a hs => ?_)
  unfold S_code_machine_push at hS
  have hMM := MX.refl M E
  change Sx 21 E (blk [⟨b1, 113, [(Value.string (mkS m2)), (Value.int .i64 m3), (Value.int .i64 m4), rv5]⟩] [⟨rv5, 141, 2, rn6, rx7, false⟩]) M E a [(0, (Value.pointer (some ⟨b1, 0, none⟩))), (1, x8.val)] [⟨b1, 113, [(Value.string (mkS m2)), (Value.int .i64 m3), (Value.int .i64 m4), rv5]⟩] [⟨rv5, 141, 2, rn6, rx7, false⟩] at hs
  refine Wp.seq (Wp.region (stepBox [(Value.int .i64 x8.pc), (Value.int .i64 x8.f_at)] hs rfl rfl rfl (by decide) (fun _ _ b12 hEb12 hs => ?_)))
  refine sP (Value.int .i64 0) hs fun _ hs => ?_
  refine wpList_nil (Wp.seq (Wp.seq (Wp.region (sP (Value.pointer (some ⟨b1, 0, none⟩)) hs fun _ hs => ?_))))
  refine sP (Value.pointer (some ⟨b1, 0, none⟩)) hs fun _ hs => ?_
  refine sP (Value.pointer (some ⟨b1, 3, none⟩)) hs fun _ hs => ?_
  refine sY rv5 hs (Yl.loadB (vs := [rv5]) false 1 rfl rfl rfl (by kernel_rfl) rfl) fun _ hs => ?_
  refine sY (Value.int .i64 ((rn6 : Nat) : Int)) hs (Yl.lenR (e' := 141) 0 rfl rfl rfl (by kernel_rfl)) fun _ hs => ?_
  refine sP (Value.bool (((rn6 : Nat) : Int) == (10000 : Int))) hs fun _ hs => ?_
  refine wpList_nil (Wp.cond hs rfl rfl beq_iff_eq (fun hc => ?_) (fun hc => ?_))
  · have hS := hS.1 hc
    refine Wp.seq (Wp.region (sP (Value.int .i64 14) hs fun _ hs => ?_))
    refine wpList_nil (Wp.ret ?_)
    replace hs := hs.bfront 1 rfl rfl
    exact leaveL hs (resT hs rfl rfl) hMM.1 hMM.2 [⟨b1, 113, [(Value.string (mkS m2)), (Value.int .i64 m3), (Value.int .i64 m4), rv5]⟩] [⟨rv5, 141, 2, rn6, rx7, false⟩] (.cons_cons _ (.cons _ List.Sublist.slnil)) (List.Sublist.refl _) rfl ⟨rn6, rx7, rv5, rfl, rfl, hS⟩
  · have hS := hS.2 hc
    refine Wp.skip (Wp.seq (Wp.regionD [true, true, true, true, true, true, true, false, true, true, false] hs (by kernel_rfl) rfl [⟨b12, 141, [(Value.int .i64 x8.pc), (Value.int .i64 x8.f_at)]⟩, ⟨b1, 113, [(Value.string (mkS m2)), (Value.int .i64 m3), (Value.int .i64 m4), rv5]⟩] (fun _ h => h) [⟨rv5, 141, 2, rn6, rx7, false⟩] (fun _ h => h) (fun _ hs hC => ?_)))
    have hL := Mem.le.refl M
    refine dP (Value.pointer (some ⟨b1, 0, none⟩)) 0 [8, 9, 10] hs QZ.no (wanted_none rfl) fun _ hs => ?_
    refine dP (Value.pointer (some ⟨b1, 0, none⟩)) 1 [2, 3, 4, 7, 8, 9, 10] hs QZ.no (wanted_none rfl) fun _ hs => ?_
    refine dP (Value.pointer (some ⟨b1, 0, none⟩)) 2 [3, 4, 7, 8, 9, 10] hs QZ.no (wanted_none rfl) fun _ hs => ?_
    refine dP (Value.pointer (some ⟨b1, 3, none⟩)) 3 [4, 7, 8, 9, 10] hs QZ.no (wanted_none rfl) fun _ hs => ?_
    refine stepDY (v := rv5) 4 [7, 8, 9, 10] hs hC QZ.no rfl (wanted_none rfl) rfl (by decide) (by kernel_rfl) (by kernel_rfl) (by kernel_rfl) (Yl.loadB (vs := [rv5]) false 1 rfl rfl rfl (by kernel_rfl) rfl) (fun _ hs => ?_)
    refine stepDE 5 rfl (wanted_none rfl) (by kernel_rfl) #[] ?_
    refine sY x8.val hs (Yl.loadB (vs := x8.cells) true 0 rfl rfl rfl (by kernel_rfl) rfl) fun _ hs => ?_
    refine wpList_nil (⟨fun _ h => h, ?_⟩)
    refine stepDE 6 rfl (wanted_none rfl) (by kernel_rfl) #[] ?_
    refine stepMake x8.cells 141 2 1 hs rfl rfl rfl (fun _ => by kernel_rfl) rfl (by unfold maxLen; decide) (by decide) (fun _ _ rv13 hs => ?_)
    refine wpList_nil (⟨fun _ _ => hs.cxle hL (List.Sublist.refl _) (.cons _ (.cons_cons _ List.Sublist.slnil)), ?_⟩)
    have hC := hs.cxle hL (List.Sublist.refl _) (.cons _ (.cons_cons _ List.Sublist.slnil))
    refine stepDE 7 rfl (wanted_none rfl) (by kernel_rfl) #[] ?_
    obtain ⟨ad14, cap15, hv, hcp, hxl⟩ := hs.rowform 0 rfl
    dsimp only at hv hcp hxl
    subst hv
    obtain ⟨hB, hS⟩ := hS
    refine stepAppend 1 x8.cells hs rfl rfl rfl rfl rfl (by kernel_rfl) (by kernel_rfl) (by decide) (by decide) (hs.srcRow 0 rfl rfl) (lenb hB (by decide)) hB (fun _ _ rv16 hs => ?_)
    replace hs := hs.chrs (rs' := [⟨(Value.slice ad14 1 cap15), 141, 2, 1, x8.cells, true⟩, ⟨rv16, 141, 2, (rn6 + 1), (rx7 ++ x8.cells), false⟩]) rfl
    refine wpList_nil (⟨fun h => absurd h (by decide), ?_⟩)
    refine stepDE 8 rfl (wanted_none rfl) (by kernel_rfl) #[] ?_
    refine sP (Value.pointer (some ⟨b1, 0, none⟩)) hs fun _ hs => ?_
    refine wpList_nil (⟨fun _ h => h, ?_⟩)
    refine stepDE 9 rfl (wanted_none rfl) (by kernel_rfl) #[] ?_
    refine sP (Value.pointer (some ⟨b1, 3, none⟩)) hs fun _ hs => ?_
    refine wpList_nil (⟨fun _ h => h, ?_⟩)
    refine stepDE 10 rfl (wanted_none rfl) (by kernel_rfl) #[] ?_
    obtain ⟨ad17, cap18, hv, hcp, hxl⟩ := hs.rowform 1 rfl
    dsimp only at hv hcp hxl
    subst hv
    refine stepStoreB 1 (vs := [(Value.slice ad17 (rn6 + 1) cap18)]) hs rfl rfl rfl rfl rfl rfl (by kernel_rfl) (Nat.le_of_ble_eq_true rfl) rfl (fun _ _ hs => ?_)
    replace hs := hs.chbx (bs' := [⟨b12, 141, [(Value.int .i64 x8.pc), (Value.int .i64 x8.f_at)]⟩, ⟨b1, 113, [(Value.string (mkS m2)), (Value.int .i64 m3), (Value.int .i64 m4), (Value.slice ad17 (rn6 + 1) cap18)]⟩]) rfl
    refine wpList_nil (⟨fun h => absurd h (by decide), ?_⟩)
    refine WpD.done (by kernel_rfl) ?_ _
    refine Wp.seq (Wp.region (sP (Value.int .i64 0) hs fun _ hs => ?_))
    refine wpList_nil (Wp.ret ?_)
    replace hs := hs.bfront 1 rfl rfl
    replace hs := hs.rfront 1 rfl rfl
    exact leaveL hs (resT hs rfl rfl) hMM.1 hMM.2 [⟨b1, 113, [(Value.string (mkS m2)), (Value.int .i64 m3), (Value.int .i64 m4), (Value.slice ad17 (rn6 + 1) cap18)]⟩] [⟨(Value.slice ad17 (rn6 + 1) cap18), 141, 2, (rn6 + 1), (rx7 ++ x8.cells), false⟩] (.cons_cons _ (.cons _ List.Sublist.slnil)) (.cons_cons _ (.cons _ List.Sublist.slnil)) rfl ⟨(rn6 + 1), (rx7 ++ x8.cells), (Value.slice ad17 (rn6 + 1) cap18), rfl, rfl, hS⟩
set_option linter.unusedVariables false in
def S_code_machine_pop_J1 (rn6 : Nat) (rx7 : List Value) (M : Mem) (x18 : Bool) (K : Value → Nat → List Value → Mem → Prop) : Prop :=
  ((x18 = true → K (Value.tuple #[(X_code_entry.mk 0 0).val, (Value.bool false)]) rn6 rx7 M) ∧ (¬ (x18 = true) → ((0 : Int) ≤ ((rn6 : Nat) : Int) - 1 ∧ ((rn6 : Nat) : Int) - 1 < ((rn6 : Nat) : Int) ∧ (∃ (x24 : X_code_entry), Cs rx7 (0 + (((rn6 : Nat) : Int) - 1).toNat * 2) x24.cells ∧ ((0 : Int) ≤ ((rn6 : Nat) : Int) - 1 ∧ (((rn6 : Nat) : Int) - 1 : Int) ≤ ((rn6 : Nat) : Int) ∧ K (Value.tuple #[x24.val, (Value.bool true)]) ((((rn6 : Nat) : Int) - 1).toNat) (List.take ((((rn6 : Nat) : Int) - 1).toNat * 2) rx7) M)))))
set_option linter.unusedVariables false in
def S_code_machine_pop (call8 : Bool) (m2 : List UInt8) (m3 : Int) (m4 : Int) (rn6 : Nat) (rx7 : List Value) (M : Mem) (K : Value → Nat → List Value → Mem → Prop) : Prop :=
  (InI (((rn6 : Nat) : Int) - 1) ∧ ((((rn6 : Nat) : Int) - 1 < 0 → (S_code_machine_pop_J1 rn6 rx7 M true K)) ∧ (¬ (((rn6 : Nat) : Int) - 1 < 0) → ((0 : Int) ≤ ((rn6 : Nat) : Int) - 1 ∧ ((rn6 : Nat) : Int) - 1 < ((rn6 : Nat) : Int) ∧ (∃ (x17 : Int), Cs rx7 (0 + (((rn6 : Nat) : Int) - 1).toNat * 2 + 1) [(Value.int .i64 x17)] ∧ (S_code_machine_pop_J1 rn6 rx7 M (!((decide (x17 < 0)) == call8)) K))))))
set_option linter.unusedVariables false in
set_option maxRecDepth 100000 in
theorem s_code_machine_pop (call8 : Bool) (m2 : List UInt8) (m3 : Int) (m4 : Int) (rn6 : Nat) (rx7 : List Value) (M : Mem) (K : Value → Nat → List Value → Mem → Prop) (hS : S_code_machine_pop call8 m2 m3 m4 rn6 rx7 M K) : C_code_machine_pop call8 m2 m3 m4 rn6 rx7 M K := by
  intro b1 rv5
  refine enterL Try.func100 rfl 47 rfl (Nat.le_of_ble_eq_true rfl) (fun E a hs => ?_)
  unfold S_code_machine_pop at hS
  have hMM := MX.refl M E
  change Sx 47 E (blk [⟨b1, 113, [(Value.string (mkS m2)), (Value.int .i64 m3), (Value.int .i64 m4), rv5]⟩] [⟨rv5, 141, 2, rn6, rx7, false⟩]) M E a [(0, (Value.pointer (some ⟨b1, 0, none⟩))), (1, (Value.bool call8))] [⟨b1, 113, [(Value.string (mkS m2)), (Value.int .i64 m3), (Value.int .i64 m4), rv5]⟩] [⟨rv5, 141, 2, rn6, rx7, false⟩] at hs
  refine Wp.seq (Wp.region (stepAlloc [(Value.int .i64 0), (Value.int .i64 0)] hs (by kernel_rfl) (by decide) (fun _ _ b12 hEb12 hs => ?_)))
  refine sP (Value.bool false) hs fun _ hs => ?_
  refine wpList_nil (Wp.seq (Wp.region (sP (Value.pointer (some ⟨b1, 0, none⟩)) hs fun _ hs => ?_)))
  refine sP (Value.pointer (some ⟨b1, 0, none⟩)) hs fun _ hs => ?_
  refine sP (Value.pointer (some ⟨b1, 3, none⟩)) hs fun _ hs => ?_
  refine sY rv5 hs (Yl.loadB (vs := [rv5]) false 1 rfl rfl rfl (by kernel_rfl) rfl) fun _ hs => ?_
  refine sY (Value.int .i64 ((rn6 : Nat) : Int)) hs (Yl.lenR (e' := 141) 0 rfl rfl rfl (by kernel_rfl)) fun _ hs => ?_
  obtain ⟨hI, hS⟩ := hS
  refine sY (Value.int .i64 (((rn6 : Nat) : Int) - 1)) hs (Yl.eq (Yl.pure (v := Value.int .i64 (IntKind.wrap .i64 (((rn6 : Nat) : Int) - 1))) rfl (fun _ => by kernel_rfl)) (congrArg (Value.int .i64) (wrap_in hI))) fun _ hs => ?_
  refine sP (Value.int .i64 (((rn6 : Nat) : Int) - 1)) hs fun _ hs => ?_
  refine wpList_nil (Wp.seq (Wp.join (fun a w => ∃ (x18 : Bool) (rv19 : Value), Sx 47 E (blk [⟨b1, 113, [(Value.string (mkS m2)), (Value.int .i64 m3), (Value.int .i64 m4), rv5]⟩] [⟨rv5, 141, 2, rn6, rx7, false⟩]) M w a [(0, (Value.pointer (some ⟨b1, 0, none⟩))), (4, (Value.pointer (some ⟨b12, 0, none⟩))), (6, (Value.int .i64 (((rn6 : Nat) : Int) - 1))), (28, (Value.bool x18))] [⟨b12, 141, [(Value.int .i64 0), (Value.int .i64 0)]⟩, ⟨b1, 113, [(Value.string (mkS m2)), (Value.int .i64 m3), (Value.int .i64 m4), rv19]⟩] [⟨rv19, 141, 2, rn6, rx7, false⟩] ∧ (S_code_machine_pop_J1 rn6 rx7 M x18 K)) ?_ ?_))
  · refine Wp.region (sP (Value.int .i64 (((rn6 : Nat) : Int) - 1)) hs fun _ hs => ?_)
    refine sP (Value.bool (decide (((rn6 : Nat) : Int) - 1 < 0))) hs fun _ hs => ?_
    refine sP (Value.bool (decide (((rn6 : Nat) : Int) - 1 < 0))) hs fun _ hs => ?_
    refine bsplit (decide (((rn6 : Nat) : Int) - 1 < 0)) decide_eq_true_iff (fun hb hc => ?_) (fun hb hc => ?_)
    · have hs := hs.bt hb
      have hS := hS.1 hc
      refine sNo hs fun _ hs => ?_
      refine sNo hs fun _ hs => ?_
      refine sNo hs fun _ hs => ?_
      refine sNo hs fun _ hs => ?_
      refine sNo hs fun _ hs => ?_
      refine sNo hs fun _ hs => ?_
      refine sNo hs fun _ hs => ?_
      refine sNo hs fun _ hs => ?_
      refine sNo hs fun _ hs => ?_
      refine sNo hs fun _ hs => ?_
      refine sNo hs fun _ hs => ?_
      refine sP (Value.bool true) hs fun _ hs => ?_
      exact wpList_nil (⟨true, rv5, (hs.weak (List.Sublist.refl _) (List.Sublist.refl _) ⟨rfl, rfl, rfl, rfl, trivial⟩), hS⟩)
    · have hs := hs.bf hb
      have hS := hS.2 hc
      refine sYe hs (sP (Value.pointer (some ⟨b1, 0, none⟩)) hs fun _ hs => ?_)
      refine sYe hs (sP (Value.pointer (some ⟨b1, 0, none⟩)) hs fun _ hs => ?_)
      refine sYe hs (sP (Value.pointer (some ⟨b1, 3, none⟩)) hs fun _ hs => ?_)
      refine sYe hs (sY rv5 hs (Yl.loadB (vs := [rv5]) false 1 rfl rfl rfl (by kernel_rfl) rfl) fun _ hs => ?_)
      refine sYe hs (sP (Value.int .i64 (((rn6 : Nat) : Int) - 1)) hs fun _ hs => ?_)
      refine sYe hs ?_
      obtain ⟨ad13, cap14, hv, hcp, hxl⟩ := hs.rowform 0 rfl
      dsimp only at hv hcp hxl
      subst hv
      obtain ⟨h0, hl, hS⟩ := hS
      have hix15 : (((rn6 : Nat) : Int) - 1).toNat < rn6 := by omega
      obtain ⟨g16, hg16⟩ := hs.rowblk 0 rfl (by omega)
      refine sY (Value.pointer (some ⟨g16, 0 + (((rn6 : Nat) : Int) - 1).toNat * 2, none⟩)) hs (Yl.indexS (e := 141) (sz := 2) rfl rfl rfl rfl (by kernel_rfl) (by kernel_rfl) hg16 h0 hl) fun _ hs => ?_
      refine sYe hs (sP (Value.pointer (some ⟨g16, 0 + (((rn6 : Nat) : Int) - 1).toNat * 2 + 1, none⟩)) hs fun _ hs => ?_)
      refine sYe hs ?_
      obtain ⟨x17, hcs, hS⟩ := hS
      refine sY (Value.int .i64 x17) hs (Yl.loadR (vs := [(Value.int .i64 x17)]) 0 false rfl hg16 rfl rfl (by kernel_rfl) hcs) fun _ hs => ?_
      refine sYe hs (sP (Value.bool (decide (x17 < 0))) hs fun _ hs => ?_)
      refine sYe hs (sP (Value.bool call8) hs fun _ hs => ?_)
      refine sYe hs (sY (Value.bool (!((decide (x17 < 0)) == call8))) hs (Yl.neqB rfl rfl rfl rfl (by kernel_rfl)) fun _ hs => ?_)
      refine sP (Value.bool (!((decide (x17 < 0)) == call8))) hs fun _ hs => ?_
      exact wpList_nil (⟨(!((decide (x17 < 0)) == call8)), (Value.slice ad13 rn6 cap14), (hs.weak (List.Sublist.refl _) (List.Sublist.refl _) ⟨rfl, rfl, rfl, rfl, trivial⟩), hS⟩)
  · intro a w hJ
    obtain ⟨x18, rv19, hs, hS⟩ := hJ
    unfold S_code_machine_pop_J1 at hS
    refine Wp.cond hs rfl rfl Iff.rfl (fun hc => ?_) (fun hc => ?_)
    · have hS := hS.1 hc
      refine Wp.seq (Wp.region (sP (X_code_entry.mk 0 0).val hs fun _ hs => ?_))
      refine stepStoreB 0 (vs := [(Value.int .i64 0), (Value.int .i64 0)]) hs rfl rfl rfl rfl rfl rfl (by kernel_rfl) (Nat.le_of_ble_eq_true rfl) rfl (fun _ _ hs => ?_)
      replace hs := hs.chbx (bs' := [⟨b12, 141, [(Value.int .i64 0), (Value.int .i64 0)]⟩, ⟨b1, 113, [(Value.string (mkS m2)), (Value.int .i64 m3), (Value.int .i64 m4), rv19]⟩]) rfl
      refine sP (Value.bool false) hs fun _ hs => ?_
      refine wpList_nil (Wp.ret ?_)
      replace hs := hs.bfront 1 rfl rfl
      exact leaveL hs (resCT (vs := [(Value.int .i64 0), (Value.int .i64 0)]) true 1 hs rfl rfl rfl (by kernel_rfl) rfl rfl) hMM.1 hMM.2 [⟨b1, 113, [(Value.string (mkS m2)), (Value.int .i64 m3), (Value.int .i64 m4), rv19]⟩] [⟨rv19, 141, 2, rn6, rx7, false⟩] (.cons_cons _ (.cons _ List.Sublist.slnil)) (List.Sublist.refl _) rfl ⟨rn6, rx7, rv19, rfl, rfl, hS⟩
    · have hS := hS.2 hc
      refine Wp.skip (Wp.seq (Wp.region (sP (Value.pointer (some ⟨b1, 0, none⟩)) hs fun _ hs => ?_)))
      refine sP (Value.pointer (some ⟨b1, 0, none⟩)) hs fun _ hs => ?_
      refine sP (Value.pointer (some ⟨b1, 3, none⟩)) hs fun _ hs => ?_
      refine sY rv19 hs (Yl.loadB (vs := [rv19]) false 1 rfl rfl rfl (by kernel_rfl) rfl) fun _ hs => ?_
      refine sP (Value.int .i64 (((rn6 : Nat) : Int) - 1)) hs fun _ hs => ?_
      obtain ⟨ad20, cap21, hv, hcp, hxl⟩ := hs.rowform 0 rfl
      dsimp only at hv hcp hxl
      subst hv
      obtain ⟨h0, hl, hS⟩ := hS
      have hix22 : (((rn6 : Nat) : Int) - 1).toNat < rn6 := by omega
      obtain ⟨g23, hg23⟩ := hs.rowblk 0 rfl (by omega)
      refine sY (Value.pointer (some ⟨g23, 0 + (((rn6 : Nat) : Int) - 1).toNat * 2, none⟩)) hs (Yl.indexS (e := 141) (sz := 2) rfl rfl rfl rfl (by kernel_rfl) (by kernel_rfl) hg23 h0 hl) fun _ hs => ?_
      obtain ⟨x24, hcs, hS⟩ := hS
      refine sY x24.val hs (Yl.loadR (vs := x24.cells) 0 true rfl hg23 rfl rfl (by kernel_rfl) hcs) fun _ hs => ?_
      refine stepAlloc [(Value.int .i64 0), (Value.int .i64 0)] hs (by kernel_rfl) (by decide) (fun _ _ b25 hEb25 hs => ?_)
      refine stepStoreB 0 (vs := [(Value.int .i64 x24.pc), (Value.int .i64 x24.f_at)]) hs rfl rfl rfl rfl rfl rfl (by kernel_rfl) (Nat.le_of_ble_eq_true rfl) rfl (fun _ _ hs => ?_)
      replace hs := hs.chbx (bs' := [⟨b25, 141, [(Value.int .i64 x24.pc), (Value.int .i64 x24.f_at)]⟩, ⟨b12, 141, [(Value.int .i64 0), (Value.int .i64 0)]⟩, ⟨b1, 113, [(Value.string (mkS m2)), (Value.int .i64 m3), (Value.int .i64 m4), (Value.slice ad20 rn6 cap21)]⟩]) rfl
      refine wpList_nil (Wp.seq (Wp.region (sP (Value.pointer (some ⟨b1, 0, none⟩)) hs fun _ hs => ?_)))
      refine sP (Value.pointer (some ⟨b1, 0, none⟩)) hs fun _ hs => ?_
      refine sP (Value.pointer (some ⟨b1, 0, none⟩)) hs fun _ hs => ?_
      refine sP (Value.pointer (some ⟨b1, 3, none⟩)) hs fun _ hs => ?_
      refine sY (Value.slice ad20 rn6 cap21) hs (Yl.loadB (vs := [(Value.slice ad20 rn6 cap21)]) false 2 rfl rfl rfl (by kernel_rfl) rfl) fun _ hs => ?_
      refine sP (Value.int .i64 (((rn6 : Nat) : Int) - 1)) hs fun _ hs => ?_
      obtain ⟨h0, h1, hS⟩ := hS
      refine stepCut 0 hs rfl rfl rfl rfl rfl (by kernel_rfl) (by kernel_rfl) (by decide) h0 h1 (fun _ _ rv26 hs => ?_)
      replace hs := hs.chrs (rs' := [⟨rv26, 141, 2, ((((rn6 : Nat) : Int) - 1).toNat), (List.take ((((rn6 : Nat) : Int) - 1).toNat * 2) rx7), false⟩]) rfl
      refine sP (Value.pointer (some ⟨b1, 0, none⟩)) hs fun _ hs => ?_
      refine sP (Value.pointer (some ⟨b1, 3, none⟩)) hs fun _ hs => ?_
      obtain ⟨ad27, cap28, hv, hcp, hxl⟩ := hs.rowform 0 rfl
      dsimp only at hv hcp hxl
      subst hv
      refine stepStoreB 2 (vs := [(Value.slice ad27 ((((rn6 : Nat) : Int) - 1).toNat) cap28)]) hs rfl rfl rfl rfl rfl rfl (by kernel_rfl) (Nat.le_of_ble_eq_true rfl) rfl (fun _ _ hs => ?_)
      replace hs := hs.chbx (bs' := [⟨b25, 141, [(Value.int .i64 x24.pc), (Value.int .i64 x24.f_at)]⟩, ⟨b12, 141, [(Value.int .i64 0), (Value.int .i64 0)]⟩, ⟨b1, 113, [(Value.string (mkS m2)), (Value.int .i64 m3), (Value.int .i64 m4), (Value.slice ad27 ((((rn6 : Nat) : Int) - 1).toNat) cap28)]⟩]) rfl
      refine wpList_nil (Wp.seq (Wp.region (sY x24.val hs (Yl.loadB (vs := x24.cells) true 0 rfl rfl rfl (by kernel_rfl) rfl) fun _ hs => ?_)))
      refine stepStoreB 1 (vs := [(Value.int .i64 x24.pc), (Value.int .i64 x24.f_at)]) hs rfl rfl rfl rfl rfl rfl (by kernel_rfl) (Nat.le_of_ble_eq_true rfl) rfl (fun _ _ hs => ?_)
      replace hs := hs.chbx (bs' := [⟨b25, 141, [(Value.int .i64 x24.pc), (Value.int .i64 x24.f_at)]⟩, ⟨b12, 141, [(Value.int .i64 x24.pc), (Value.int .i64 x24.f_at)]⟩, ⟨b1, 113, [(Value.string (mkS m2)), (Value.int .i64 m3), (Value.int .i64 m4), (Value.slice ad27 ((((rn6 : Nat) : Int) - 1).toNat) cap28)]⟩]) rfl
      refine sP (Value.bool true) hs fun _ hs => ?_
      refine wpList_nil (Wp.ret ?_)
      replace hs := hs.bfront 2 rfl rfl
      exact leaveL hs (resCT (vs := [(Value.int .i64 x24.pc), (Value.int .i64 x24.f_at)]) true 2 hs rfl rfl rfl (by kernel_rfl) rfl rfl) hMM.1 hMM.2 [⟨b1, 113, [(Value.string (mkS m2)), (Value.int .i64 m3), (Value.int .i64 m4), (Value.slice ad27 ((((rn6 : Nat) : Int) - 1).toNat) cap28)]⟩] [⟨(Value.slice ad27 ((((rn6 : Nat) : Int) - 1).toNat) cap28), 141, 2, ((((rn6 : Nat) : Int) - 1).toNat), (List.take ((((rn6 : Nat) : Int) - 1).toNat * 2) rx7), false⟩] (.cons_cons _ (.cons _ (.cons _ List.Sublist.slnil))) (List.Sublist.refl _) rfl ⟨(((rn6 : Nat) : Int) - 1).toNat, (List.take ((((rn6 : Nat) : Int) - 1).toNat * 2) rx7), (Value.slice ad27 ((((rn6 : Nat) : Int) - 1).toNat) cap28), rfl, rfl, hS⟩
set_option linter.unusedVariables false in
def S_code_machine_back (x8 : X_api_Inst) (m2 : List UInt8) (m3 : Int) (m4 : Int) (rn6 : Nat) (rx7 : List Value) (M : Mem) (K : Value → Int → Int → Nat → List Value → Mem → Prop) : Prop :=
  (C_code_machine_pop ((x8.Op : Int) == (6 : Int)) m2 m3 m4 rn6 rx7 M (fun v rn18 rx19 M17 => ∃ (x15 : X_code_entry) (x16 : Bool), v = (Value.tuple #[x15.val, (Value.bool x16)]) ∧ ((¬ (x16 = true) → K (Value.tuple #[(Value.bool false), (Value.int .i64 13)]) m3 m4 rn18 rx19 M17) ∧ (¬ (¬ (x16 = true)) → (((x8.Op : Int) = 6 → K (Value.tuple #[(Value.bool true), (Value.int .i64 0)]) x15.pc m4 rn18 rx19 M17) ∧ (¬ ((x8.Op : Int) = 6) → (((x8.Op : Int) = 4 → K (Value.tuple #[(Value.bool true), (Value.int .i64 0)]) x8.N m4 rn18 rx19 M17) ∧ (¬ ((x8.Op : Int) = 4) → (((x8.Op : Int) = 9 → ((rn18 + 1) * 16 ≤ 140737488355328 ∧ K (Value.tuple #[(Value.bool true), (Value.int .i64 0)]) x8.N m4 (rn18 + 1) (rx19 ++ (X_code_entry.mk x15.pc m4).cells) M17)) ∧ (¬ ((x8.Op : Int) = 9) → (((x8.Op : Int) = 10 → K (Value.tuple #[(Value.bool true), (Value.int .i64 0)]) x8.N x15.f_at rn18 rx19 M17) ∧ (¬ ((x8.Op : Int) = 10) → (((x8.Op : Int) = 11 → (C_code_machine_fail m2 m3 m4 rn18 rx19 M17 (fun v c30 c31 rn32 rx33 M29 => ∃ (x28 : Bool), v = (Value.bool x28) ∧ K (Value.tuple #[(Value.bool x28), (Value.int .i64 0)]) c30 c31 rn32 rx33 M29))) ∧ (¬ ((x8.Op : Int) = 11) → K (Value.tuple #[(Value.bool true), (Value.int .i64 0)]) m3 m4 rn18 rx19 M17))))))))))))))
set_option linter.unusedVariables false in
set_option maxRecDepth 100000 in
theorem s_code_machine_back (x8 : X_api_Inst) (m2 : List UInt8) (m3 : Int) (m4 : Int) (rn6 : Nat) (rx7 : List Value) (M : Mem) (K : Value → Int → Int → Nat → List Value → Mem → Prop) (hS : S_code_machine_back x8 m2 m3 m4 rn6 rx7 M K) : C_code_machine_back x8 m2 m3 m4 rn6 rx7 M K := by
  intro b1 rv5
  refine enterL Try.func91 rfl 73 rfl (Nat.le_of_ble_eq_true rfl) (fun E a hs => ?_)
  unfold S_code_machine_back at hS
  have hMM := MX.refl M E
  change Sx 73 E (blk [⟨b1, 113, [(Value.string (mkS m2)), (Value.int .i64 m3), (Value.int .i64 m4), rv5]⟩] [⟨rv5, 141, 2, rn6, rx7, false⟩]) M E a [(0, (Value.pointer (some ⟨b1, 0, none⟩))), (1, x8.val)] [⟨b1, 113, [(Value.string (mkS m2)), (Value.int .i64 m3), (Value.int .i64 m4), rv5]⟩] [⟨rv5, 141, 2, rn6, rx7, false⟩] at hs
  refine Wp.seq (Wp.region (stepBox [(Value.int .i64 x8.Op), (Value.int .i64 x8.N), (Value.int .u64 x8.Set.w0), (Value.int .u64 x8.Set.w1), (Value.int .u64 x8.Set.w2), (Value.int .u64 x8.Set.w3)] hs rfl rfl rfl (by decide) (fun _ _ b14 hEb14 hs => ?_)))
  refine sP (Value.bool false) hs fun _ hs => ?_
  refine sP (Value.int .i64 0) hs fun _ hs => ?_
  refine wpList_nil (Wp.seq (Wp.region (sP (Value.pointer (some ⟨b1, 0, none⟩)) hs fun _ hs => ?_)))
  refine sP (Value.pointer (some ⟨b14, 0, none⟩)) hs fun _ hs => ?_
  refine sY (Value.int .i64 x8.Op) hs (Yl.loadB (vs := [(Value.int .i64 x8.Op)]) false 0 rfl rfl rfl (by kernel_rfl) rfl) fun _ hs => ?_
  refine sP (Value.bool ((x8.Op : Int) == (6 : Int))) hs fun _ hs => ?_
  replace hs := hs.bfront 1 rfl rfl
  refine stepCallL [(Value.pointer (some ⟨b1, 0, none⟩)), (Value.bool ((x8.Op : Int) == (6 : Int)))] [⟨b1, 113, [(Value.string (mkS m2)), (Value.int .i64 m3), (Value.int .i64 m4), rv5]⟩] [⟨b14, 95, [(Value.int .i64 x8.Op), (Value.int .i64 x8.N), (Value.int .u64 x8.Set.w0), (Value.int .u64 x8.Set.w1), (Value.int .u64 x8.Set.w2), (Value.int .u64 x8.Set.w3)]⟩] [⟨rv5, 141, 2, rn6, rx7, false⟩] [] false hs rfl rfl rfl rfl ⟨_, rfl, rfl⟩ rfl Try.func100 rfl (by kernel_rfl) (by decide) (hS _ _) (fun _ _ M17 v lb lr hle hnew hS hs => ?_)
  have hMM := hMM.next hle hnew
  obtain ⟨rn18, rx19, rv20, hlb, hlr, hS⟩ := hS
  subst hlb hlr
  obtain ⟨x15, x16, hv, hS⟩ := hS
  subst hv
  replace hs := hs.chbx (bs' := [⟨b1, 113, [(Value.string (mkS m2)), (Value.int .i64 m3), (Value.int .i64 m4), rv20]⟩, ⟨b14, 95, [(Value.int .i64 x8.Op), (Value.int .i64 x8.N), (Value.int .u64 x8.Set.w0), (Value.int .u64 x8.Set.w1), (Value.int .u64 x8.Set.w2), (Value.int .u64 x8.Set.w3)]⟩]) rfl
  replace hs := hs.chrs (rs' := [⟨rv20, 141, 2, rn18, rx19, false⟩]) rfl
  replace hs := hs.bback 1 (l' := [⟨b14, 95, [(Value.int .i64 x8.Op), (Value.int .i64 x8.N), (Value.int .u64 x8.Set.w0), (Value.int .u64 x8.Set.w1), (Value.int .u64 x8.Set.w2), (Value.int .u64 x8.Set.w3)]⟩, ⟨b1, 113, [(Value.string (mkS m2)), (Value.int .i64 m3), (Value.int .i64 m4), rv20]⟩]) rfl
  refine sP (Value.tuple #[x15.val, (Value.bool x16)]) hs fun _ hs => ?_
  refine sP x15.val hs fun _ hs => ?_
  refine sP (Value.bool x16) hs fun _ hs => ?_
  refine stepAlloc [(Value.int .i64 0), (Value.int .i64 0)] hs (by kernel_rfl) (by decide) (fun _ _ b21 hEb21 hs => ?_)
  refine stepStoreB 0 (vs := [(Value.int .i64 x15.pc), (Value.int .i64 x15.f_at)]) hs rfl rfl rfl rfl rfl rfl (by kernel_rfl) (Nat.le_of_ble_eq_true rfl) rfl (fun _ _ hs => ?_)
  replace hs := hs.chbx (bs' := [⟨b21, 141, [(Value.int .i64 x15.pc), (Value.int .i64 x15.f_at)]⟩, ⟨b14, 95, [(Value.int .i64 x8.Op), (Value.int .i64 x8.N), (Value.int .u64 x8.Set.w0), (Value.int .u64 x8.Set.w1), (Value.int .u64 x8.Set.w2), (Value.int .u64 x8.Set.w3)]⟩, ⟨b1, 113, [(Value.string (mkS m2)), (Value.int .i64 m3), (Value.int .i64 m4), rv20]⟩]) rfl
  refine sP (Value.bool x16) hs fun _ hs => ?_
  refine wpList_nil (Wp.seq (Wp.seq (Wp.region (sP (Value.bool x16) hs fun _ hs => ?_))))
  refine sP (Value.bool (!x16)) hs fun _ hs => ?_
  refine wpList_nil (Wp.cond hs rfl rfl (bnot_iff Iff.rfl) (fun hc => ?_) (fun hc => ?_))
  · have hS := hS.1 hc
    refine Wp.seq (Wp.region (sP (Value.bool false) hs fun _ hs => ?_))
    refine sP (Value.int .i64 13) hs fun _ hs => ?_
    refine wpList_nil (Wp.ret ?_)
    replace hs := hs.bfront 2 rfl rfl
    exact leaveL hs (resTT hs rfl rfl rfl) hMM.1 hMM.2 [⟨b1, 113, [(Value.string (mkS m2)), (Value.int .i64 m3), (Value.int .i64 m4), rv20]⟩] [⟨rv20, 141, 2, rn18, rx19, false⟩] (.cons_cons _ (.cons _ (.cons _ List.Sublist.slnil))) (List.Sublist.refl _) rfl ⟨m3, m4, rn18, rx19, rv20, rfl, rfl, hS⟩
  · have hS := hS.2 hc
    refine Wp.skip (Wp.seq (Wp.seq (Wp.region (sP (Value.pointer (some ⟨b14, 0, none⟩)) hs fun _ hs => ?_))))
    refine sY (Value.int .i64 x8.Op) hs (Yl.loadB (vs := [(Value.int .i64 x8.Op)]) false 1 rfl rfl rfl (by kernel_rfl) rfl) fun _ hs => ?_
    refine wpList_nil (Wp.block (Wp.seq (Wp.region (sP (Value.bool ((x8.Op : Int) == (6 : Int))) hs fun _ hs => ?_))))
    refine sP (Value.bool ((x8.Op : Int) == (6 : Int))) hs fun _ hs => ?_
    refine wpList_nil (Wp.cond hs rfl rfl beq_iff_eq (fun hc => ?_) (fun hc => ?_))
    · have hS := hS.1 hc
      refine Wp.region (sP (Value.pointer (some ⟨b1, 0, none⟩)) hs fun _ hs => ?_)
      refine sP (Value.pointer (some ⟨b21, 0, none⟩)) hs fun _ hs => ?_
      refine sY (Value.int .i64 x15.pc) hs (Yl.loadB (vs := [(Value.int .i64 x15.pc)]) false 0 rfl rfl rfl (by kernel_rfl) rfl) fun _ hs => ?_
      refine sP (Value.pointer (some ⟨b1, 0, none⟩)) hs fun _ hs => ?_
      refine sP (Value.pointer (some ⟨b1, 1, none⟩)) hs fun _ hs => ?_
      refine stepStoreB 2 (vs := [(Value.int .i64 x15.pc)]) hs rfl rfl rfl rfl rfl rfl (by kernel_rfl) (Nat.le_of_ble_eq_true rfl) rfl (fun _ _ hs => ?_)
      replace hs := hs.chbx (bs' := [⟨b21, 141, [(Value.int .i64 x15.pc), (Value.int .i64 x15.f_at)]⟩, ⟨b14, 95, [(Value.int .i64 x8.Op), (Value.int .i64 x8.N), (Value.int .u64 x8.Set.w0), (Value.int .u64 x8.Set.w1), (Value.int .u64 x8.Set.w2), (Value.int .u64 x8.Set.w3)]⟩, ⟨b1, 113, [(Value.string (mkS m2)), (Value.int .i64 x15.pc), (Value.int .i64 m4), rv20]⟩]) rfl
      refine wpList_nil (Wp.seq (Wp.region (sP (Value.bool true) hs fun _ hs => ?_)))
      refine sP (Value.int .i64 0) hs fun _ hs => ?_
      refine wpList_nil (Wp.ret ?_)
      replace hs := hs.bfront 2 rfl rfl
      exact leaveL hs (resTT hs rfl rfl rfl) hMM.1 hMM.2 [⟨b1, 113, [(Value.string (mkS m2)), (Value.int .i64 x15.pc), (Value.int .i64 m4), rv20]⟩] [⟨rv20, 141, 2, rn18, rx19, false⟩] (.cons_cons _ (.cons _ (.cons _ List.Sublist.slnil))) (List.Sublist.refl _) rfl ⟨x15.pc, m4, rn18, rx19, rv20, rfl, rfl, hS⟩
    · have hS := hS.2 hc
      refine Wp.seq (Wp.region (sP (Value.bool ((x8.Op : Int) == (4 : Int))) hs fun _ hs => ?_))
      refine sP (Value.bool ((x8.Op : Int) == (4 : Int))) hs fun _ hs => ?_
      refine wpList_nil (Wp.cond hs rfl rfl beq_iff_eq (fun hc => ?_) (fun hc => ?_))
      · have hS := hS.1 hc
        refine Wp.region (sP (Value.pointer (some ⟨b1, 0, none⟩)) hs fun _ hs => ?_)
        refine sP (Value.pointer (some ⟨b14, 1, none⟩)) hs fun _ hs => ?_
        refine sY (Value.int .i64 x8.N) hs (Yl.loadB (vs := [(Value.int .i64 x8.N)]) false 1 rfl rfl rfl (by kernel_rfl) rfl) fun _ hs => ?_
        refine sP (Value.pointer (some ⟨b1, 0, none⟩)) hs fun _ hs => ?_
        refine sP (Value.pointer (some ⟨b1, 1, none⟩)) hs fun _ hs => ?_
        refine stepStoreB 2 (vs := [(Value.int .i64 x8.N)]) hs rfl rfl rfl rfl rfl rfl (by kernel_rfl) (Nat.le_of_ble_eq_true rfl) rfl (fun _ _ hs => ?_)
        replace hs := hs.chbx (bs' := [⟨b21, 141, [(Value.int .i64 x15.pc), (Value.int .i64 x15.f_at)]⟩, ⟨b14, 95, [(Value.int .i64 x8.Op), (Value.int .i64 x8.N), (Value.int .u64 x8.Set.w0), (Value.int .u64 x8.Set.w1), (Value.int .u64 x8.Set.w2), (Value.int .u64 x8.Set.w3)]⟩, ⟨b1, 113, [(Value.string (mkS m2)), (Value.int .i64 x8.N), (Value.int .i64 m4), rv20]⟩]) rfl
        refine wpList_nil (Wp.seq (Wp.region (sP (Value.bool true) hs fun _ hs => ?_)))
        refine sP (Value.int .i64 0) hs fun _ hs => ?_
        refine wpList_nil (Wp.ret ?_)
        replace hs := hs.bfront 2 rfl rfl
        exact leaveL hs (resTT hs rfl rfl rfl) hMM.1 hMM.2 [⟨b1, 113, [(Value.string (mkS m2)), (Value.int .i64 x8.N), (Value.int .i64 m4), rv20]⟩] [⟨rv20, 141, 2, rn18, rx19, false⟩] (.cons_cons _ (.cons _ (.cons _ List.Sublist.slnil))) (List.Sublist.refl _) rfl ⟨x8.N, m4, rn18, rx19, rv20, rfl, rfl, hS⟩
      · have hS := hS.2 hc
        refine Wp.seq (Wp.region (sP (Value.bool ((x8.Op : Int) == (9 : Int))) hs fun _ hs => ?_))
        refine sP (Value.bool ((x8.Op : Int) == (9 : Int))) hs fun _ hs => ?_
        refine wpList_nil (Wp.cond hs rfl rfl beq_iff_eq (fun hc => ?_) (fun hc => ?_))
        · have hS := hS.1 hc
          refine Wp.seq (Wp.region (sP (Value.pointer (some ⟨b1, 0, none⟩)) hs fun _ hs => ?_))
          refine sP (Value.pointer (some ⟨b14, 1, none⟩)) hs fun _ hs => ?_
          refine sY (Value.int .i64 x8.N) hs (Yl.loadB (vs := [(Value.int .i64 x8.N)]) false 1 rfl rfl rfl (by kernel_rfl) rfl) fun _ hs => ?_
          refine sP (Value.pointer (some ⟨b1, 0, none⟩)) hs fun _ hs => ?_
          refine sP (Value.pointer (some ⟨b1, 1, none⟩)) hs fun _ hs => ?_
          refine stepStoreB 2 (vs := [(Value.int .i64 x8.N)]) hs rfl rfl rfl rfl rfl rfl (by kernel_rfl) (Nat.le_of_ble_eq_true rfl) rfl (fun _ _ hs => ?_)
          replace hs := hs.chbx (bs' := [⟨b21, 141, [(Value.int .i64 x15.pc), (Value.int .i64 x15.f_at)]⟩, ⟨b14, 95, [(Value.int .i64 x8.Op), (Value.int .i64 x8.N), (Value.int .u64 x8.Set.w0), (Value.int .u64 x8.Set.w1), (Value.int .u64 x8.Set.w2), (Value.int .u64 x8.Set.w3)]⟩, ⟨b1, 113, [(Value.string (mkS m2)), (Value.int .i64 x8.N), (Value.int .i64 m4), rv20]⟩]) rfl
          refine wpList_nil (Wp.regionD [true, true, true, true, true, true, true, true, true, true, true, true, true, false, true, true, false] hs (by kernel_rfl) rfl [⟨b21, 141, [(Value.int .i64 x15.pc), (Value.int .i64 x15.f_at)]⟩, ⟨b14, 95, [(Value.int .i64 x8.Op), (Value.int .i64 x8.N), (Value.int .u64 x8.Set.w0), (Value.int .u64 x8.Set.w1), (Value.int .u64 x8.Set.w2), (Value.int .u64 x8.Set.w3)]⟩, ⟨b1, 113, [(Value.string (mkS m2)), (Value.int .i64 x8.N), (Value.int .i64 m4), rv20]⟩] (fun _ h => h) [⟨rv20, 141, 2, rn18, rx19, false⟩] (fun _ h => h) (fun _ hs hC => ?_))
          have hL := Mem.le.refl M17
          refine dP (Value.pointer (some ⟨b1, 0, none⟩)) 0 [14, 15, 16] hs QZ.no (wanted_none rfl) fun _ hs => ?_
          refine dP (Value.pointer (some ⟨b1, 0, none⟩)) 1 [2, 3, 4, 13, 14, 15, 16] hs QZ.no (wanted_none rfl) fun _ hs => ?_
          refine dP (Value.pointer (some ⟨b1, 0, none⟩)) 2 [3, 4, 13, 14, 15, 16] hs QZ.no (wanted_none rfl) fun _ hs => ?_
          refine dP (Value.pointer (some ⟨b1, 3, none⟩)) 3 [4, 13, 14, 15, 16] hs QZ.no (wanted_none rfl) fun _ hs => ?_
          refine stepDY (v := rv20) 4 [13, 14, 15, 16] hs hC QZ.no rfl (wanted_none rfl) rfl (by decide) (by kernel_rfl) (by kernel_rfl) (by kernel_rfl) (Yl.loadB (vs := [rv20]) false 2 rfl rfl rfl (by kernel_rfl) rfl) (fun _ hs => ?_)
          refine dP (Value.pointer (some ⟨b21, 0, none⟩)) 5 [6, 11, 12, 13, 14, 15, 16] hs QZ.no (wanted_none rfl) fun _ hs => ?_
          refine stepDY (v := (Value.int .i64 x15.pc)) 6 [11, 12, 13, 14, 15, 16] hs hC QZ.no rfl (wanted_none rfl) rfl (by decide) (by kernel_rfl) (by kernel_rfl) (by kernel_rfl) (Yl.loadB (vs := [(Value.int .i64 x15.pc)]) false 0 rfl rfl rfl (by kernel_rfl) rfl) (fun _ hs => ?_)
          refine stepDE 7 rfl (wanted_none rfl) (by kernel_rfl) #[] ?_
          refine sP (Value.pointer (some ⟨b1, 0, none⟩)) hs fun _ hs => ?_
          refine wpList_nil (⟨fun _ h => h, ?_⟩)
          refine stepDE 8 rfl (wanted_none rfl) (by kernel_rfl) #[] ?_
          refine sP (Value.pointer (some ⟨b1, 0, none⟩)) hs fun _ hs => ?_
          refine wpList_nil (⟨fun _ h => h, ?_⟩)
          refine stepDE 9 rfl (wanted_none rfl) (by kernel_rfl) #[] ?_
          refine sP (Value.pointer (some ⟨b1, 2, none⟩)) hs fun _ hs => ?_
          refine wpList_nil (⟨fun _ h => h, ?_⟩)
          refine stepDE 10 rfl (wanted_none rfl) (by kernel_rfl) #[] ?_
          refine sY (Value.int .i64 m4) hs (Yl.loadB (vs := [(Value.int .i64 m4)]) false 2 rfl rfl rfl (by kernel_rfl) rfl) fun _ hs => ?_
          refine wpList_nil (⟨fun _ h => h, ?_⟩)
          refine stepDE 11 rfl (wanted_none rfl) (by kernel_rfl) #[] ?_
          refine sP (X_code_entry.mk x15.pc m4).val hs fun _ hs => ?_
          refine wpList_nil (⟨fun _ h => h, ?_⟩)
          refine stepDE 12 rfl (wanted_none rfl) (by kernel_rfl) #[] ?_
          refine stepMake ((X_code_entry.mk x15.pc m4).cells) 141 2 1 hs rfl rfl rfl (fun _ => by kernel_rfl) rfl (by unfold maxLen; decide) (by decide) (fun _ _ rv22 hs => ?_)
          refine wpList_nil (⟨fun _ _ => hs.cxle hL (List.Sublist.refl _) (.cons _ (.cons_cons _ List.Sublist.slnil)), ?_⟩)
          have hC := hs.cxle hL (List.Sublist.refl _) (.cons _ (.cons_cons _ List.Sublist.slnil))
          refine stepDE 13 rfl (wanted_none rfl) (by kernel_rfl) #[] ?_
          obtain ⟨ad23, cap24, hv, hcp, hxl⟩ := hs.rowform 0 rfl
          dsimp only at hv hcp hxl
          subst hv
          obtain ⟨hB, hS⟩ := hS
          refine stepAppend 1 ((X_code_entry.mk x15.pc m4).cells) hs rfl rfl rfl rfl rfl (by kernel_rfl) (by kernel_rfl) (by decide) (by decide) (hs.srcRow 0 rfl rfl) (lenb hB (by decide)) hB (fun _ _ rv25 hs => ?_)
          replace hs := hs.chrs (rs' := [⟨(Value.slice ad23 1 cap24), 141, 2, 1, (X_code_entry.mk x15.pc m4).cells, true⟩, ⟨rv25, 141, 2, (rn18 + 1), (rx19 ++ (X_code_entry.mk x15.pc m4).cells), false⟩]) rfl
          refine wpList_nil (⟨fun h => absurd h (by decide), ?_⟩)
          refine stepDE 14 rfl (wanted_none rfl) (by kernel_rfl) #[] ?_
          refine sP (Value.pointer (some ⟨b1, 0, none⟩)) hs fun _ hs => ?_
          refine wpList_nil (⟨fun _ h => h, ?_⟩)
          refine stepDE 15 rfl (wanted_none rfl) (by kernel_rfl) #[] ?_
          refine sP (Value.pointer (some ⟨b1, 3, none⟩)) hs fun _ hs => ?_
          refine wpList_nil (⟨fun _ h => h, ?_⟩)
          refine stepDE 16 rfl (wanted_none rfl) (by kernel_rfl) #[] ?_
          obtain ⟨ad26, cap27, hv, hcp, hxl⟩ := hs.rowform 1 rfl
          dsimp only at hv hcp hxl
          subst hv
          refine stepStoreB 2 (vs := [(Value.slice ad26 (rn18 + 1) cap27)]) hs rfl rfl rfl rfl rfl rfl (by kernel_rfl) (Nat.le_of_ble_eq_true rfl) rfl (fun _ _ hs => ?_)
          replace hs := hs.chbx (bs' := [⟨b21, 141, [(Value.int .i64 x15.pc), (Value.int .i64 x15.f_at)]⟩, ⟨b14, 95, [(Value.int .i64 x8.Op), (Value.int .i64 x8.N), (Value.int .u64 x8.Set.w0), (Value.int .u64 x8.Set.w1), (Value.int .u64 x8.Set.w2), (Value.int .u64 x8.Set.w3)]⟩, ⟨b1, 113, [(Value.string (mkS m2)), (Value.int .i64 x8.N), (Value.int .i64 m4), (Value.slice ad26 (rn18 + 1) cap27)]⟩]) rfl
          refine wpList_nil (⟨fun h => absurd h (by decide), ?_⟩)
          refine WpD.done (by kernel_rfl) ?_ _
          refine Wp.seq (Wp.region (sP (Value.bool true) hs fun _ hs => ?_))
          refine sP (Value.int .i64 0) hs fun _ hs => ?_
          refine wpList_nil (Wp.ret ?_)
          replace hs := hs.bfront 2 rfl rfl
          replace hs := hs.rfront 1 rfl rfl
          exact leaveL hs (resTT hs rfl rfl rfl) hMM.1 hMM.2 [⟨b1, 113, [(Value.string (mkS m2)), (Value.int .i64 x8.N), (Value.int .i64 m4), (Value.slice ad26 (rn18 + 1) cap27)]⟩] [⟨(Value.slice ad26 (rn18 + 1) cap27), 141, 2, (rn18 + 1), (rx19 ++ (X_code_entry.mk x15.pc m4).cells), false⟩] (.cons_cons _ (.cons _ (.cons _ List.Sublist.slnil))) (.cons_cons _ (.cons _ List.Sublist.slnil)) rfl ⟨x8.N, m4, (rn18 + 1), (rx19 ++ (X_code_entry.mk x15.pc m4).cells), (Value.slice ad26 (rn18 + 1) cap27), rfl, rfl, hS⟩
        · have hS := hS.2 hc
          refine Wp.seq (Wp.region (sP (Value.bool ((x8.Op : Int) == (10 : Int))) hs fun _ hs => ?_))
          refine sP (Value.bool ((x8.Op : Int) == (10 : Int))) hs fun _ hs => ?_
          refine wpList_nil (Wp.cond hs rfl rfl beq_iff_eq (fun hc => ?_) (fun hc => ?_))
          · have hS := hS.1 hc
            refine Wp.regionD [true, true, true, true, true, true, true, true, true, true, true, true] hs (by kernel_rfl) rfl [⟨b21, 141, [(Value.int .i64 x15.pc), (Value.int .i64 x15.f_at)]⟩, ⟨b14, 95, [(Value.int .i64 x8.Op), (Value.int .i64 x8.N), (Value.int .u64 x8.Set.w0), (Value.int .u64 x8.Set.w1), (Value.int .u64 x8.Set.w2), (Value.int .u64 x8.Set.w3)]⟩] (fun _ h => ((.cons_cons _ (.cons_cons _ (.cons _ List.Sublist.slnil))) : List.Sublist _ _).subset h) [⟨rv20, 141, 2, rn18, rx19, false⟩] (fun _ h => ((List.Sublist.refl _) : List.Sublist _ _).subset h) (fun _ hs hC => ?_)
            have hL := Mem.le.refl M17
            refine dP (Value.pointer (some ⟨b1, 0, none⟩)) 0 [6, 7, 8, 9, 10, 11] hs QZ.no (wanted_none rfl) fun _ hs => ?_
            refine dP (Value.pointer (some ⟨b1, 0, none⟩)) 1 [9, 10, 11] hs QZ.no (wanted_none rfl) fun _ hs => ?_
            refine dP (Value.pointer (some ⟨b14, 1, none⟩)) 2 [3, 6, 7, 8, 9, 10, 11] hs QZ.no (wanted_none rfl) fun _ hs => ?_
            refine stepDY (v := (Value.int .i64 x8.N)) 3 [6, 7, 8, 9, 10, 11] hs hC QZ.no rfl (wanted_none rfl) rfl (by decide) (by kernel_rfl) (by kernel_rfl) (by kernel_rfl) (Yl.loadB (vs := [(Value.int .i64 x8.N)]) false 1 rfl rfl rfl (by kernel_rfl) rfl) (fun _ hs => ?_)
            refine dP (Value.pointer (some ⟨b21, 1, none⟩)) 4 [5, 9, 10, 11] hs QZ.no (wanted_none rfl) fun _ hs => ?_
            refine stepDY (v := (Value.int .i64 x15.f_at)) 5 [9, 10, 11] hs hC QZ.no rfl (wanted_none rfl) rfl (by decide) (by kernel_rfl) (by kernel_rfl) (by kernel_rfl) (Yl.loadB (vs := [(Value.int .i64 x15.f_at)]) false 0 rfl rfl rfl (by kernel_rfl) rfl) (fun _ hs => ?_)
            refine stepDE 6 rfl (wanted_none rfl) (by kernel_rfl) #[] ?_
            refine sP (Value.pointer (some ⟨b1, 0, none⟩)) hs fun _ hs => ?_
            refine wpList_nil (⟨fun _ h => h, ?_⟩)
            refine stepDE 7 rfl (wanted_none rfl) (by kernel_rfl) #[] ?_
            refine sP (Value.pointer (some ⟨b1, 1, none⟩)) hs fun _ hs => ?_
            refine wpList_nil (⟨fun _ h => h, ?_⟩)
            refine stepDE 8 rfl (wanted_none rfl) (by kernel_rfl) #[] ?_
            refine stepStoreB 2 (vs := [(Value.int .i64 x8.N)]) hs rfl rfl rfl rfl rfl rfl (by kernel_rfl) (Nat.le_of_ble_eq_true rfl) rfl (fun _ _ hs => ?_)
            replace hs := hs.chbx (bs' := [⟨b21, 141, [(Value.int .i64 x15.pc), (Value.int .i64 x15.f_at)]⟩, ⟨b14, 95, [(Value.int .i64 x8.Op), (Value.int .i64 x8.N), (Value.int .u64 x8.Set.w0), (Value.int .u64 x8.Set.w1), (Value.int .u64 x8.Set.w2), (Value.int .u64 x8.Set.w3)]⟩, ⟨b1, 113, [(Value.string (mkS m2)), (Value.int .i64 x8.N), (Value.int .i64 m4), rv20]⟩]) rfl
            refine wpList_nil (⟨fun _ _ => hs.cxle hL (.cons_cons _ (.cons_cons _ (.cons _ List.Sublist.slnil))) (List.Sublist.refl _), ?_⟩)
            have hC := hs.cxle hL (.cons_cons _ (.cons_cons _ (.cons _ List.Sublist.slnil))) (List.Sublist.refl _)
            refine stepDE 9 rfl (wanted_none rfl) (by kernel_rfl) #[] ?_
            refine sP (Value.pointer (some ⟨b1, 0, none⟩)) hs fun _ hs => ?_
            refine wpList_nil (⟨fun _ h => h, ?_⟩)
            refine stepDE 10 rfl (wanted_none rfl) (by kernel_rfl) #[] ?_
            refine sP (Value.pointer (some ⟨b1, 2, none⟩)) hs fun _ hs => ?_
            refine wpList_nil (⟨fun _ h => h, ?_⟩)
            refine stepDE 11 rfl (wanted_none rfl) (by kernel_rfl) #[] ?_
            refine stepStoreB 2 (vs := [(Value.int .i64 x15.f_at)]) hs rfl rfl rfl rfl rfl rfl (by kernel_rfl) (Nat.le_of_ble_eq_true rfl) rfl (fun _ _ hs => ?_)
            replace hs := hs.chbx (bs' := [⟨b21, 141, [(Value.int .i64 x15.pc), (Value.int .i64 x15.f_at)]⟩, ⟨b14, 95, [(Value.int .i64 x8.Op), (Value.int .i64 x8.N), (Value.int .u64 x8.Set.w0), (Value.int .u64 x8.Set.w1), (Value.int .u64 x8.Set.w2), (Value.int .u64 x8.Set.w3)]⟩, ⟨b1, 113, [(Value.string (mkS m2)), (Value.int .i64 x8.N), (Value.int .i64 x15.f_at), rv20]⟩]) rfl
            refine wpList_nil (⟨fun _ _ => hs.cxle hL (.cons_cons _ (.cons_cons _ (.cons _ List.Sublist.slnil))) (List.Sublist.refl _), ?_⟩)
            have hC := hs.cxle hL (.cons_cons _ (.cons_cons _ (.cons _ List.Sublist.slnil))) (List.Sublist.refl _)
            refine WpD.done (by kernel_rfl) ?_ _
            refine Wp.seq (Wp.region (sP (Value.bool true) hs fun _ hs => ?_))
            refine sP (Value.int .i64 0) hs fun _ hs => ?_
            refine wpList_nil (Wp.ret ?_)
            replace hs := hs.bfront 2 rfl rfl
            exact leaveL hs (resTT hs rfl rfl rfl) hMM.1 hMM.2 [⟨b1, 113, [(Value.string (mkS m2)), (Value.int .i64 x8.N), (Value.int .i64 x15.f_at), rv20]⟩] [⟨rv20, 141, 2, rn18, rx19, false⟩] (.cons_cons _ (.cons _ (.cons _ List.Sublist.slnil))) (List.Sublist.refl _) rfl ⟨x8.N, x15.f_at, rn18, rx19, rv20, rfl, rfl, hS⟩
          · have hS := hS.2 hc
            refine Wp.seq (Wp.region (sP (Value.bool ((x8.Op : Int) == (11 : Int))) hs fun _ hs => ?_))
            refine sP (Value.bool ((x8.Op : Int) == (11 : Int))) hs fun _ hs => ?_
            refine wpList_nil (Wp.cond hs rfl rfl beq_iff_eq (fun hc => ?_) (fun hc => ?_))
            · have hS := hS.1 hc
              refine Wp.seq (Wp.region (sP (Value.pointer (some ⟨b1, 0, none⟩)) hs fun _ hs => ?_))
              replace hs := hs.bfront 2 rfl rfl
              refine stepCallL [(Value.pointer (some ⟨b1, 0, none⟩))] [⟨b1, 113, [(Value.string (mkS m2)), (Value.int .i64 m3), (Value.int .i64 m4), rv20]⟩] [⟨b21, 141, [(Value.int .i64 x15.pc), (Value.int .i64 x15.f_at)]⟩, ⟨b14, 95, [(Value.int .i64 x8.Op), (Value.int .i64 x8.N), (Value.int .u64 x8.Set.w0), (Value.int .u64 x8.Set.w1), (Value.int .u64 x8.Set.w2), (Value.int .u64 x8.Set.w3)]⟩] [⟨rv20, 141, 2, rn18, rx19, false⟩] [] false hs rfl rfl rfl rfl ⟨_, rfl, rfl⟩ rfl Try.func89 rfl (by kernel_rfl) (by decide) (hS _ _) (fun _ _ M29 v lb lr hle hnew hS hs => ?_)
              have hMM := hMM.next hle hnew
              obtain ⟨c30, c31, rn32, rx33, rv34, hlb, hlr, hS⟩ := hS
              subst hlb hlr
              obtain ⟨x28, hv, hS⟩ := hS
              subst hv
              replace hs := hs.chbx (bs' := [⟨b1, 113, [(Value.string (mkS m2)), (Value.int .i64 c30), (Value.int .i64 c31), rv34]⟩, ⟨b21, 141, [(Value.int .i64 x15.pc), (Value.int .i64 x15.f_at)]⟩, ⟨b14, 95, [(Value.int .i64 x8.Op), (Value.int .i64 x8.N), (Value.int .u64 x8.Set.w0), (Value.int .u64 x8.Set.w1), (Value.int .u64 x8.Set.w2), (Value.int .u64 x8.Set.w3)]⟩]) rfl
              replace hs := hs.chrs (rs' := [⟨rv34, 141, 2, rn32, rx33, false⟩]) rfl
              replace hs := hs.bback 2 (l' := [⟨b21, 141, [(Value.int .i64 x15.pc), (Value.int .i64 x15.f_at)]⟩, ⟨b14, 95, [(Value.int .i64 x8.Op), (Value.int .i64 x8.N), (Value.int .u64 x8.Set.w0), (Value.int .u64 x8.Set.w1), (Value.int .u64 x8.Set.w2), (Value.int .u64 x8.Set.w3)]⟩, ⟨b1, 113, [(Value.string (mkS m2)), (Value.int .i64 c30), (Value.int .i64 c31), rv34]⟩]) rfl
              refine sP (Value.bool x28) hs fun _ hs => ?_
              refine sP (Value.int .i64 0) hs fun _ hs => ?_
              refine wpList_nil (Wp.ret ?_)
              replace hs := hs.bfront 2 rfl rfl
              exact leaveL hs (resTT hs rfl rfl rfl) hMM.1 hMM.2 [⟨b1, 113, [(Value.string (mkS m2)), (Value.int .i64 c30), (Value.int .i64 c31), rv34]⟩] [⟨rv34, 141, 2, rn32, rx33, false⟩] (.cons_cons _ (.cons _ (.cons _ List.Sublist.slnil))) (List.Sublist.refl _) rfl ⟨c30, c31, rn32, rx33, rv34, rfl, rfl, hS⟩
            · have hS := hS.2 hc
              refine Wp.skip (Wp.seq (Wp.region (sP (Value.bool true) hs fun _ hs => ?_)))
              refine sP (Value.int .i64 0) hs fun _ hs => ?_
              refine wpList_nil (Wp.ret ?_)
              replace hs := hs.bfront 2 rfl rfl
              exact leaveL hs (resTT hs rfl rfl rfl) hMM.1 hMM.2 [⟨b1, 113, [(Value.string (mkS m2)), (Value.int .i64 m3), (Value.int .i64 m4), rv20]⟩] [⟨rv20, 141, 2, rn18, rx19, false⟩] (.cons_cons _ (.cons _ (.cons _ List.Sublist.slnil))) (List.Sublist.refl _) rfl ⟨m3, m4, rn18, rx19, rv20, rfl, rfl, hS⟩
set_option linter.unusedVariables false in
def S_code_machine_one_J2 (e50 : Int) (c51 : Int) (c52 : Int) (rn54 : Nat) (rx55 : List Value) (M56 : Mem) (K : Value → Int → Int → Nat → List Value → Mem → Prop) : Prop :=
  K (Value.tuple #[(Value.bool true), (Value.int .i64 e50)]) c51 c52 rn54 rx55 M56
set_option linter.unusedVariables false in
def S_code_machine_one_J1 (m2 : List UInt8) (m3 : Int) (m4 : Int) (rn6 : Nat) (rx7 : List Value) (M : Mem) (x17 : Bool) (K : Value → Int → Int → Nat → List Value → Mem → Prop) : Prop :=
  ((x17 = true → (C_code_machine_fail m2 (m3 + 1) m4 rn6 rx7 M (fun v c20 c21 rn22 rx23 M19 => ∃ (x18 : Bool), v = (Value.bool x18) ∧ K (Value.tuple #[(Value.bool x18), (Value.int .i64 0)]) c20 c21 rn22 rx23 M19))) ∧ (¬ (x17 = true) → (InI (m4 + 1) ∧ (S_code_machine_one_J2 0 (m3 + 1) (m4 + 1) rn6 rx7 M K))))
set_option linter.unusedVariables false in
def S_code_machine_one (x8 : X_api_Inst) (m2 : List UInt8) (m3 : Int) (m4 : Int) (rn6 : Nat) (rx7 : List Value) (M : Mem) (K : Value → Int → Int → Nat → List Value → Mem → Prop) : Prop :=
  (InI (m3 + 1) ∧ (((x8.Op : Int) = 1 → (((m4 : Int) = ((m2.length : Nat) : Int) → (S_code_machine_one_J1 m2 m3 m4 rn6 rx7 M true K)) ∧ (¬ ((m4 : Int) = ((m2.length : Nat) : Int)) → (∃ c15 : UInt8, (0 : Int) ≤ m4 ∧ m2[m4.toNat]? = some c15 ∧ (CallE Try.prog 88 #[x8.Set.val, (Value.int .u8 (c15.toNat : Int))] M (fun v _ => ∃ (x16 : Bool), v = (Value.bool x16) ∧ (S_code_machine_one_J1 m2 m3 m4 rn6 rx7 M (!x16) K))))))) ∧ (¬ ((x8.Op : Int) = 1) → (((x8.Op : Int) = 2 → (S_code_machine_one_J2 0 x8.N m4 rn6 rx7 M K)) ∧ (¬ ((x8.Op : Int) = 2) → (((x8.Op : Int) = 3 → (C_code_machine_push (X_code_entry.mk x8.N m4) m2 (m3 + 1) m4 rn6 rx7 M (fun v rn27 rx28 M26 => ∃ (x25 : Int), v = (Value.int .i64 x25) ∧ K (Value.tuple #[(Value.bool true), (Value.int .i64 x25)]) (m3 + 1) m4 rn27 rx28 M26))) ∧ (¬ ((x8.Op : Int) = 3) → (((x8.Op : Int) = 5 → (C_code_machine_push (X_code_entry.mk (m3 + 1) (-1)) m2 (m3 + 1) m4 rn6 rx7 M (fun v rn32 rx33 M31 => ∃ (x30 : Int), v = (Value.int .i64 x30) ∧ (S_code_machine_one_J2 x30 x8.N m4 rn32 rx33 M31 K)))) ∧ (¬ ((x8.Op : Int) = 5) → (((x8.Op : Int) = 7 → (C_code_machine_fail m2 (m3 + 1) m4 rn6 rx7 M (fun v c37 c38 rn39 rx40 M36 => ∃ (x35 : Bool), v = (Value.bool x35) ∧ K (Value.tuple #[(Value.bool x35), (Value.int .i64 0)]) c37 c38 rn39 rx40 M36))) ∧ (¬ ((x8.Op : Int) = 7) → (C_code_machine_back x8 m2 (m3 + 1) m4 rn6 rx7 M (fun v c45 c46 rn47 rx48 M44 => ∃ (x42 : Bool) (x43 : Int), v = (Value.tuple #[(Value.bool x42), (Value.int .i64 x43)]) ∧ K (Value.tuple #[(Value.bool x42), (Value.int .i64 x43)]) c45 c46 rn47 rx48 M44)))))))))))))
set_option linter.unusedVariables false in
set_option maxRecDepth 100000 in
theorem s_code_machine_one (x8 : X_api_Inst) (m2 : List UInt8) (m3 : Int) (m4 : Int) (rn6 : Nat) (rx7 : List Value) (M : Mem) (K : Value → Int → Int → Nat → List Value → Mem → Prop) (hS : S_code_machine_one x8 m2 m3 m4 rn6 rx7 M K) : C_code_machine_one x8 m2 m3 m4 rn6 rx7 M K := by
  intro b1 rv5
  refine enterL Try.func74 rfl 93 rfl (Nat.le_of_ble_eq_true rfl) (fun E a hs => ?_)
  unfold S_code_machine_one at hS
  have hMM := MX.refl M E
  change Sx 93 E (blk [⟨b1, 113, [(Value.string (mkS m2)), (Value.int .i64 m3), (Value.int .i64 m4), rv5]⟩] [⟨rv5, 141, 2, rn6, rx7, false⟩]) M E a [(0, (Value.pointer (some ⟨b1, 0, none⟩))), (1, x8.val)] [⟨b1, 113, [(Value.string (mkS m2)), (Value.int .i64 m3), (Value.int .i64 m4), rv5]⟩] [⟨rv5, 141, 2, rn6, rx7, false⟩] at hs
  refine Wp.seq (Wp.region (stepBox [(Value.int .i64 x8.Op), (Value.int .i64 x8.N), (Value.int .u64 x8.Set.w0), (Value.int .u64 x8.Set.w1), (Value.int .u64 x8.Set.w2), (Value.int .u64 x8.Set.w3)] hs rfl rfl rfl (by decide) (fun _ _ b14 hEb14 hs => ?_)))
  refine sP (Value.bool false) hs fun _ hs => ?_
  refine sP (Value.int .i64 0) hs fun _ hs => ?_
  refine wpList_nil (Wp.seq (Wp.region (sP (Value.pointer (some ⟨b1, 0, none⟩)) hs fun _ hs => ?_)))
  refine sP (Value.pointer (some ⟨b1, 0, none⟩)) hs fun _ hs => ?_
  refine sP (Value.pointer (some ⟨b1, 1, none⟩)) hs fun _ hs => ?_
  refine sY (Value.int .i64 m3) hs (Yl.loadB (vs := [(Value.int .i64 m3)]) false 1 rfl rfl rfl (by kernel_rfl) rfl) fun _ hs => ?_
  obtain ⟨hI, hS⟩ := hS
  refine sY (Value.int .i64 (m3 + 1)) hs (Yl.eq (Yl.pure (v := Value.int .i64 (IntKind.wrap .i64 (m3 + 1))) rfl (fun _ => by kernel_rfl)) (congrArg (Value.int .i64) (wrap_in hI))) fun _ hs => ?_
  refine sP (Value.pointer (some ⟨b1, 0, none⟩)) hs fun _ hs => ?_
  refine sP (Value.pointer (some ⟨b1, 1, none⟩)) hs fun _ hs => ?_
  refine stepStoreB 1 (vs := [(Value.int .i64 (m3 + 1))]) hs rfl rfl rfl rfl rfl rfl (by kernel_rfl) (Nat.le_of_ble_eq_true rfl) rfl (fun _ _ hs => ?_)
  replace hs := hs.chbx (bs' := [⟨b14, 95, [(Value.int .i64 x8.Op), (Value.int .i64 x8.N), (Value.int .u64 x8.Set.w0), (Value.int .u64 x8.Set.w1), (Value.int .u64 x8.Set.w2), (Value.int .u64 x8.Set.w3)]⟩, ⟨b1, 113, [(Value.string (mkS m2)), (Value.int .i64 (m3 + 1)), (Value.int .i64 m4), rv5]⟩]) rfl
  refine wpList_nil (Wp.join (fun a w => ∃ (e50 : Int) (c51 : Int) (c52 : Int) (rn54 : Nat) (rx55 : List Value) (rv53 : Value) (M56 : Mem), MX M56 M E ∧ Sx 93 E (blk [⟨b1, 113, [(Value.string (mkS m2)), (Value.int .i64 m3), (Value.int .i64 m4), rv5]⟩] [⟨rv5, 141, 2, rn6, rx7, false⟩]) M56 w a [(5, (Value.int .i64 e50))] [⟨b14, 95, [(Value.int .i64 x8.Op), (Value.int .i64 x8.N), (Value.int .u64 x8.Set.w0), (Value.int .u64 x8.Set.w1), (Value.int .u64 x8.Set.w2), (Value.int .u64 x8.Set.w3)]⟩, ⟨b1, 113, [(Value.string (mkS m2)), (Value.int .i64 c51), (Value.int .i64 c52), rv53]⟩] [⟨rv53, 141, 2, rn54, rx55, false⟩] ∧ (S_code_machine_one_J2 e50 c51 c52 rn54 rx55 M56 K)) ?_ ?_)
  · refine Wp.seq (Wp.region (sP (Value.pointer (some ⟨b14, 0, none⟩)) hs fun _ hs => ?_))
    refine sY (Value.int .i64 x8.Op) hs (Yl.loadB (vs := [(Value.int .i64 x8.Op)]) false 0 rfl rfl rfl (by kernel_rfl) rfl) fun _ hs => ?_
    refine wpList_nil (Wp.block (Wp.seq (Wp.region (sP (Value.bool ((x8.Op : Int) == (1 : Int))) hs fun _ hs => ?_))))
    refine sP (Value.bool ((x8.Op : Int) == (1 : Int))) hs fun _ hs => ?_
    refine wpList_nil (Wp.cond hs rfl rfl beq_iff_eq (fun hc => ?_) (fun hc => ?_))
    · have hS := hS.1 hc
      refine Wp.seq (Wp.join (fun a w => ∃ (x17 : Bool), Sx 93 E (blk [⟨b1, 113, [(Value.string (mkS m2)), (Value.int .i64 m3), (Value.int .i64 m4), rv5]⟩] [⟨rv5, 141, 2, rn6, rx7, false⟩]) M w a [(0, (Value.pointer (some ⟨b1, 0, none⟩))), (5, (Value.int .i64 0)), (46, (Value.bool x17))] [⟨b14, 95, [(Value.int .i64 x8.Op), (Value.int .i64 x8.N), (Value.int .u64 x8.Set.w0), (Value.int .u64 x8.Set.w1), (Value.int .u64 x8.Set.w2), (Value.int .u64 x8.Set.w3)]⟩, ⟨b1, 113, [(Value.string (mkS m2)), (Value.int .i64 (m3 + 1)), (Value.int .i64 m4), rv5]⟩] [⟨rv5, 141, 2, rn6, rx7, false⟩] ∧ (S_code_machine_one_J1 m2 m3 m4 rn6 rx7 M x17 K)) ?_ ?_)
      · refine Wp.regionD [true, true, true, true, true, true, true, true, true, true, true, true, true, true, true, true, true, true, true, true, true, true, true, true, true] hs (by kernel_rfl) rfl [⟨b14, 95, [(Value.int .i64 x8.Op), (Value.int .i64 x8.N), (Value.int .u64 x8.Set.w0), (Value.int .u64 x8.Set.w1), (Value.int .u64 x8.Set.w2), (Value.int .u64 x8.Set.w3)]⟩, ⟨b1, 113, [(Value.string (mkS m2)), (Value.int .i64 (m3 + 1)), (Value.int .i64 m4), rv5]⟩] (fun _ h => h) [⟨rv5, 141, 2, rn6, rx7, false⟩] (fun _ h => h) (fun _ hs hC => ?_)
        have hL := Mem.le.refl M
        refine dP (Value.pointer (some ⟨b1, 0, none⟩)) 0 [1, 2, 3, 9, 10, 11, 12, 13, 14, 15, 16, 17, 18, 19, 20, 21, 22, 23, 24] hs QZ.no (wanted_none rfl) fun _ hs => ?_
        refine dP (Value.pointer (some ⟨b1, 0, none⟩)) 1 [2, 3, 9, 10, 11, 12, 13, 14, 15, 16, 17, 18, 19, 20, 21, 22, 23, 24] hs QZ.no (wanted_none rfl) fun _ hs => ?_
        refine dP (Value.pointer (some ⟨b1, 2, none⟩)) 2 [3, 9, 10, 11, 12, 13, 14, 15, 16, 17, 18, 19, 20, 21, 22, 23, 24] hs QZ.no (wanted_none rfl) fun _ hs => ?_
        refine stepDY (v := (Value.int .i64 m4)) 3 [9, 10, 11, 12, 13, 14, 15, 16, 17, 18, 19, 20, 21, 22, 23, 24] hs hC QZ.no rfl (wanted_none rfl) rfl (by decide) (by kernel_rfl) (by kernel_rfl) (by kernel_rfl) (Yl.loadB (vs := [(Value.int .i64 m4)]) false 1 rfl rfl rfl (by kernel_rfl) rfl) (fun _ hs => ?_)
        refine stepDE 4 rfl (wanted_none rfl) (by kernel_rfl) #[] ?_
        refine sP (Value.pointer (some ⟨b1, 0, none⟩)) hs fun _ hs => ?_
        refine wpList_nil (⟨fun _ h => h, ?_⟩)
        refine stepDE 5 rfl (wanted_none rfl) (by kernel_rfl) #[] ?_
        refine sP (Value.pointer (some ⟨b1, 0, none⟩)) hs fun _ hs => ?_
        refine wpList_nil (⟨fun _ h => h, ?_⟩)
        refine stepDE 6 rfl (wanted_none rfl) (by kernel_rfl) #[] ?_
        refine sP (Value.pointer (some ⟨b1, 0, none⟩)) hs fun _ hs => ?_
        refine wpList_nil (⟨fun _ h => h, ?_⟩)
        refine stepDE 7 rfl (wanted_none rfl) (by kernel_rfl) #[] ?_
        refine sY (Value.string (mkS m2)) hs (Yl.loadB (vs := [(Value.string (mkS m2))]) false 1 rfl rfl rfl (by kernel_rfl) rfl) fun _ hs => ?_
        refine wpList_nil (⟨fun _ h => h, ?_⟩)
        refine stepDE 8 rfl (wanted_none rfl) (by kernel_rfl) #[] ?_
        refine sP (Value.int .i64 ((m2.length : Nat) : Int)) hs fun _ hs => ?_
        refine wpList_nil (⟨fun _ h => h, ?_⟩)
        refine stepDE 9 rfl (wanted_none rfl) (by kernel_rfl) #[] ?_
        refine sP (Value.bool ((m4 : Int) == ((m2.length : Nat) : Int))) hs fun _ hs => ?_
        refine wpList_nil (⟨fun _ h => h, ?_⟩)
        refine stepDE 10 rfl (wanted_none rfl) (by kernel_rfl) #[] ?_
        refine sP (Value.bool ((m4 : Int) == ((m2.length : Nat) : Int))) hs fun _ hs => ?_
        refine wpList_nil (⟨fun _ h => h, ?_⟩)
        refine bsplit ((m4 : Int) == ((m2.length : Nat) : Int)) beq_iff_eq (fun hb hc => ?_) (fun hb hc => ?_)
        · have hs := hs.bt hb
          have hS := hS.1 hc
          refine dN 11 [12, 22, 23, 24] hs QZ.no (wanted_no hs rfl rfl rfl rfl) fun _ hs => ?_
          refine dN 12 [22, 23, 24] hs QZ.no (wanted_no hs rfl rfl rfl rfl) fun _ hs => ?_
          refine dN 13 [14, 15, 16, 21, 22, 23, 24] hs QZ.no (wanted_no hs rfl rfl rfl rfl) fun _ hs => ?_
          refine dN 14 [15, 16, 21, 22, 23, 24] hs QZ.no (wanted_no hs rfl rfl rfl rfl) fun _ hs => ?_
          refine dN 15 [16, 21, 22, 23, 24] hs QZ.no (wanted_no hs rfl rfl rfl rfl) fun _ hs => ?_
          refine dN 16 [21, 22, 23, 24] hs QZ.no (wanted_no hs rfl rfl rfl rfl) fun _ hs => ?_
          refine dN 17 [18, 19, 20, 21, 22, 23, 24] hs QZ.no (wanted_no hs rfl rfl rfl rfl) fun _ hs => ?_
          refine dN 18 [19, 20, 21, 22, 23, 24] hs QZ.no (wanted_no hs rfl rfl rfl rfl) fun _ hs => ?_
          refine dN 19 [20, 21, 22, 23, 24] hs QZ.no (wanted_no hs rfl rfl rfl rfl) fun _ hs => ?_
          refine dN 20 [21, 22, 23, 24] hs QZ.no (wanted_no hs rfl rfl rfl rfl) fun _ hs => ?_
          refine dN 21 [22, 23, 24] hs QZ.no (wanted_no hs rfl rfl rfl rfl) fun _ hs => ?_
          refine dN 22 [23, 24] hs QZ.no (wanted_no hs rfl rfl rfl rfl) fun _ hs => ?_
          refine dN 23 [24] hs QZ.no (wanted_no hs rfl rfl rfl rfl) fun _ hs => ?_
          refine stepDE 24 rfl (wanted_none rfl) (by kernel_rfl) #[] ?_
          refine sP (Value.bool true) hs fun _ hs => ?_
          refine wpList_nil (⟨fun _ h => h, ?_⟩)
          refine WpD.done (by kernel_rfl) ?_ _
          exact ⟨true, (hs.weak (List.Sublist.refl _) (List.Sublist.refl _) ⟨rfl, rfl, rfl, trivial⟩), hS⟩
        · have hs := hs.bf hb
          have hS := hS.2 hc
          refine dP (Value.pointer (some ⟨b14, 2, none⟩)) 11 [12, 22, 23, 24] hs QZ.no (wanted_yes hs rfl rfl rfl) fun _ hs => ?_
          refine stepDY (v := x8.Set.val) 12 [22, 23, 24] hs hC QZ.no rfl (wanted_yes hs rfl rfl rfl) rfl (by decide) (by kernel_rfl) (by kernel_rfl) (by kernel_rfl) (Yl.loadB (vs := x8.Set.cells) true 0 rfl rfl rfl (by kernel_rfl) rfl) (fun _ hs => ?_)
          refine dP (Value.pointer (some ⟨b1, 0, none⟩)) 13 [14, 15, 16, 21, 22, 23, 24] hs QZ.no (wanted_yes hs rfl rfl rfl) fun _ hs => ?_
          refine dP (Value.pointer (some ⟨b1, 0, none⟩)) 14 [15, 16, 21, 22, 23, 24] hs QZ.no (wanted_yes hs rfl rfl rfl) fun _ hs => ?_
          refine dP (Value.pointer (some ⟨b1, 0, none⟩)) 15 [16, 21, 22, 23, 24] hs QZ.no (wanted_yes hs rfl rfl rfl) fun _ hs => ?_
          refine stepDY (v := (Value.string (mkS m2))) 16 [21, 22, 23, 24] hs hC QZ.no rfl (wanted_yes hs rfl rfl rfl) rfl (by decide) (by kernel_rfl) (by kernel_rfl) (by kernel_rfl) (Yl.loadB (vs := [(Value.string (mkS m2))]) false 1 rfl rfl rfl (by kernel_rfl) rfl) (fun _ hs => ?_)
          refine stepDE 17 rfl (wanted_yes hs rfl rfl rfl) (by kernel_rfl) #[] ?_
          refine sP (Value.pointer (some ⟨b1, 0, none⟩)) hs fun _ hs => ?_
          refine wpList_nil (⟨fun _ h => h, ?_⟩)
          refine stepDE 18 rfl (wanted_yes hs rfl rfl rfl) (by kernel_rfl) #[] ?_
          refine sP (Value.pointer (some ⟨b1, 0, none⟩)) hs fun _ hs => ?_
          refine wpList_nil (⟨fun _ h => h, ?_⟩)
          refine stepDE 19 rfl (wanted_yes hs rfl rfl rfl) (by kernel_rfl) #[] ?_
          refine sP (Value.pointer (some ⟨b1, 2, none⟩)) hs fun _ hs => ?_
          refine wpList_nil (⟨fun _ h => h, ?_⟩)
          refine stepDE 20 rfl (wanted_yes hs rfl rfl rfl) (by kernel_rfl) #[] ?_
          refine sY (Value.int .i64 m4) hs (Yl.loadB (vs := [(Value.int .i64 m4)]) false 1 rfl rfl rfl (by kernel_rfl) rfl) fun _ hs => ?_
          refine wpList_nil (⟨fun _ h => h, ?_⟩)
          refine stepDE 21 rfl (wanted_yes hs rfl rfl rfl) (by kernel_rfl) #[] ?_
          obtain ⟨c15, h0, hi, hS⟩ := hS
          refine sY (Value.int .u8 (c15.toNat : Int)) hs (Yl.indexStr rfl rfl rfl rfl (by kernel_rfl) h0 hi) fun _ hs => ?_
          refine wpList_nil (⟨fun _ h => h, ?_⟩)
          refine stepDE 22 rfl (wanted_yes hs rfl rfl rfl) (by kernel_rfl) #[] ?_
          refine stepCallP [x8.Set.val, (Value.int .u8 (c15.toNat : Int))] hs rfl ⟨_, rfl, rfl⟩ rfl Try.func88 rfl (by kernel_rfl) (by decide) hS (fun _ _ v hS hs => ?_)
          obtain ⟨x16, hv, hS⟩ := hS
          subst hv
          refine wpList_nil (⟨fun _ _ => hs.cxle hL (List.Sublist.refl _) (List.Sublist.refl _), ?_⟩)
          have hC := hs.cxle hL (List.Sublist.refl _) (List.Sublist.refl _)
          refine stepDE 23 rfl (wanted_yes hs rfl rfl rfl) (by kernel_rfl) #[] ?_
          refine sP (Value.bool (!x16)) hs fun _ hs => ?_
          refine wpList_nil (⟨fun _ h => h, ?_⟩)
          refine stepDE 24 rfl (wanted_none rfl) (by kernel_rfl) #[] ?_
          refine sP (Value.bool (!x16)) hs fun _ hs => ?_
          refine wpList_nil (⟨fun _ h => h, ?_⟩)
          refine WpD.done (by kernel_rfl) ?_ _
          exact ⟨(!x16), (hs.weak (List.Sublist.refl _) (List.Sublist.refl _) ⟨rfl, rfl, rfl, trivial⟩), hS⟩
      · intro a w hJ
        obtain ⟨x17, hs, hS⟩ := hJ
        unfold S_code_machine_one_J1 at hS
        refine Wp.cond hs rfl rfl Iff.rfl (fun hc => ?_) (fun hc => ?_)
        · have hS := hS.1 hc
          refine Wp.seq (Wp.region (sP (Value.pointer (some ⟨b1, 0, none⟩)) hs fun _ hs => ?_))
          replace hs := hs.bfront 1 rfl rfl
          refine stepCallL [(Value.pointer (some ⟨b1, 0, none⟩))] [⟨b1, 113, [(Value.string (mkS m2)), (Value.int .i64 (m3 + 1)), (Value.int .i64 m4), rv5]⟩] [⟨b14, 95, [(Value.int .i64 x8.Op), (Value.int .i64 x8.N), (Value.int .u64 x8.Set.w0), (Value.int .u64 x8.Set.w1), (Value.int .u64 x8.Set.w2), (Value.int .u64 x8.Set.w3)]⟩] [⟨rv5, 141, 2, rn6, rx7, false⟩] [] false hs rfl rfl rfl rfl ⟨_, rfl, rfl⟩ rfl Try.func89 rfl (by kernel_rfl) (by decide) (hS _ _) (fun _ _ M19 v lb lr hle hnew hS hs => ?_)
          have hMM := hMM.next hle hnew
          obtain ⟨c20, c21, rn22, rx23, rv24, hlb, hlr, hS⟩ := hS
          subst hlb hlr
          obtain ⟨x18, hv, hS⟩ := hS
          subst hv
          replace hs := hs.chbx (bs' := [⟨b1, 113, [(Value.string (mkS m2)), (Value.int .i64 c20), (Value.int .i64 c21), rv24]⟩, ⟨b14, 95, [(Value.int .i64 x8.Op), (Value.int .i64 x8.N), (Value.int .u64 x8.Set.w0), (Value.int .u64 x8.Set.w1), (Value.int .u64 x8.Set.w2), (Value.int .u64 x8.Set.w3)]⟩]) rfl
          replace hs := hs.chrs (rs' := [⟨rv24, 141, 2, rn22, rx23, false⟩]) rfl
          replace hs := hs.bback 1 (l' := [⟨b14, 95, [(Value.int .i64 x8.Op), (Value.int .i64 x8.N), (Value.int .u64 x8.Set.w0), (Value.int .u64 x8.Set.w1), (Value.int .u64 x8.Set.w2), (Value.int .u64 x8.Set.w3)]⟩, ⟨b1, 113, [(Value.string (mkS m2)), (Value.int .i64 c20), (Value.int .i64 c21), rv24]⟩]) rfl
          refine sP (Value.bool x18) hs fun _ hs => ?_
          refine sP (Value.int .i64 0) hs fun _ hs => ?_
          refine wpList_nil (Wp.ret ?_)
          replace hs := hs.bfront 1 rfl rfl
          exact leaveL hs (resTT hs rfl rfl rfl) hMM.1 hMM.2 [⟨b1, 113, [(Value.string (mkS m2)), (Value.int .i64 c20), (Value.int .i64 c21), rv24]⟩] [⟨rv24, 141, 2, rn22, rx23, false⟩] (.cons_cons _ (.cons _ List.Sublist.slnil)) (List.Sublist.refl _) rfl ⟨c20, c21, rn22, rx23, rv24, rfl, rfl, hS⟩
        · have hS := hS.2 hc
          refine Wp.skip (Wp.region (sP (Value.pointer (some ⟨b1, 0, none⟩)) hs fun _ hs => ?_))
          refine sP (Value.pointer (some ⟨b1, 0, none⟩)) hs fun _ hs => ?_
          refine sP (Value.pointer (some ⟨b1, 2, none⟩)) hs fun _ hs => ?_
          refine sY (Value.int .i64 m4) hs (Yl.loadB (vs := [(Value.int .i64 m4)]) false 1 rfl rfl rfl (by kernel_rfl) rfl) fun _ hs => ?_
          obtain ⟨hI, hS⟩ := hS
          refine sY (Value.int .i64 (m4 + 1)) hs (Yl.eq (Yl.pure (v := Value.int .i64 (IntKind.wrap .i64 (m4 + 1))) rfl (fun _ => by kernel_rfl)) (congrArg (Value.int .i64) (wrap_in hI))) fun _ hs => ?_
          refine sP (Value.pointer (some ⟨b1, 0, none⟩)) hs fun _ hs => ?_
          refine sP (Value.pointer (some ⟨b1, 2, none⟩)) hs fun _ hs => ?_
          refine stepStoreB 1 (vs := [(Value.int .i64 (m4 + 1))]) hs rfl rfl rfl rfl rfl rfl (by kernel_rfl) (Nat.le_of_ble_eq_true rfl) rfl (fun _ _ hs => ?_)
          replace hs := hs.chbx (bs' := [⟨b14, 95, [(Value.int .i64 x8.Op), (Value.int .i64 x8.N), (Value.int .u64 x8.Set.w0), (Value.int .u64 x8.Set.w1), (Value.int .u64 x8.Set.w2), (Value.int .u64 x8.Set.w3)]⟩, ⟨b1, 113, [(Value.string (mkS m2)), (Value.int .i64 (m3 + 1)), (Value.int .i64 (m4 + 1)), rv5]⟩]) rfl
          exact wpList_nil (⟨0, (m3 + 1), (m4 + 1), rn6, rx7, rv5, M, hMM, (hs.weak (List.Sublist.refl _) (List.Sublist.refl _) ⟨rfl, trivial⟩), hS⟩)
    · have hS := hS.2 hc
      refine Wp.seq (Wp.region (sP (Value.bool ((x8.Op : Int) == (2 : Int))) hs fun _ hs => ?_))
      refine sP (Value.bool ((x8.Op : Int) == (2 : Int))) hs fun _ hs => ?_
      refine wpList_nil (Wp.cond hs rfl rfl beq_iff_eq (fun hc => ?_) (fun hc => ?_))
      · have hS := hS.1 hc
        refine Wp.region (sP (Value.pointer (some ⟨b1, 0, none⟩)) hs fun _ hs => ?_)
        refine sP (Value.pointer (some ⟨b14, 1, none⟩)) hs fun _ hs => ?_
        refine sY (Value.int .i64 x8.N) hs (Yl.loadB (vs := [(Value.int .i64 x8.N)]) false 0 rfl rfl rfl (by kernel_rfl) rfl) fun _ hs => ?_
        refine sP (Value.pointer (some ⟨b1, 0, none⟩)) hs fun _ hs => ?_
        refine sP (Value.pointer (some ⟨b1, 1, none⟩)) hs fun _ hs => ?_
        refine stepStoreB 1 (vs := [(Value.int .i64 x8.N)]) hs rfl rfl rfl rfl rfl rfl (by kernel_rfl) (Nat.le_of_ble_eq_true rfl) rfl (fun _ _ hs => ?_)
        replace hs := hs.chbx (bs' := [⟨b14, 95, [(Value.int .i64 x8.Op), (Value.int .i64 x8.N), (Value.int .u64 x8.Set.w0), (Value.int .u64 x8.Set.w1), (Value.int .u64 x8.Set.w2), (Value.int .u64 x8.Set.w3)]⟩, ⟨b1, 113, [(Value.string (mkS m2)), (Value.int .i64 x8.N), (Value.int .i64 m4), rv5]⟩]) rfl
        exact wpList_nil (⟨0, x8.N, m4, rn6, rx7, rv5, M, hMM, (hs.weak (List.Sublist.refl _) (List.Sublist.refl _) ⟨rfl, trivial⟩), hS⟩)
      · have hS := hS.2 hc
        refine Wp.seq (Wp.region (sP (Value.bool ((x8.Op : Int) == (3 : Int))) hs fun _ hs => ?_))
        refine sP (Value.bool ((x8.Op : Int) == (3 : Int))) hs fun _ hs => ?_
        refine wpList_nil (Wp.cond hs rfl rfl beq_iff_eq (fun hc => ?_) (fun hc => ?_))
        · have hS := hS.1 hc
          refine Wp.seq (Wp.regionD [true, true, true, true, true, true, true, true, false, true, true] hs (by kernel_rfl) rfl [⟨b14, 95, [(Value.int .i64 x8.Op), (Value.int .i64 x8.N), (Value.int .u64 x8.Set.w0), (Value.int .u64 x8.Set.w1), (Value.int .u64 x8.Set.w2), (Value.int .u64 x8.Set.w3)]⟩, ⟨b1, 113, [(Value.string (mkS m2)), (Value.int .i64 (m3 + 1)), (Value.int .i64 m4), rv5]⟩] (fun _ h => h) [⟨rv5, 141, 2, rn6, rx7, false⟩] (fun _ h => h) (fun _ hs hC => ?_))
          have hL := Mem.le.refl M
          refine dP (Value.pointer (some ⟨b1, 0, none⟩)) 0 [8, 9, 10] hs QZ.no (wanted_none rfl) fun _ hs => ?_
          refine dP (Value.pointer (some ⟨b14, 1, none⟩)) 1 [2, 7, 8, 9, 10] hs QZ.no (wanted_none rfl) fun _ hs => ?_
          refine stepDY (v := (Value.int .i64 x8.N)) 2 [7, 8, 9, 10] hs hC QZ.no rfl (wanted_none rfl) rfl (by decide) (by kernel_rfl) (by kernel_rfl) (by kernel_rfl) (Yl.loadB (vs := [(Value.int .i64 x8.N)]) false 0 rfl rfl rfl (by kernel_rfl) rfl) (fun _ hs => ?_)
          refine stepDE 3 rfl (wanted_none rfl) (by kernel_rfl) #[] ?_
          refine sP (Value.pointer (some ⟨b1, 0, none⟩)) hs fun _ hs => ?_
          refine wpList_nil (⟨fun _ h => h, ?_⟩)
          refine stepDE 4 rfl (wanted_none rfl) (by kernel_rfl) #[] ?_
          refine sP (Value.pointer (some ⟨b1, 0, none⟩)) hs fun _ hs => ?_
          refine wpList_nil (⟨fun _ h => h, ?_⟩)
          refine stepDE 5 rfl (wanted_none rfl) (by kernel_rfl) #[] ?_
          refine sP (Value.pointer (some ⟨b1, 2, none⟩)) hs fun _ hs => ?_
          refine wpList_nil (⟨fun _ h => h, ?_⟩)
          refine stepDE 6 rfl (wanted_none rfl) (by kernel_rfl) #[] ?_
          refine sY (Value.int .i64 m4) hs (Yl.loadB (vs := [(Value.int .i64 m4)]) false 1 rfl rfl rfl (by kernel_rfl) rfl) fun _ hs => ?_
          refine wpList_nil (⟨fun _ h => h, ?_⟩)
          refine stepDE 7 rfl (wanted_none rfl) (by kernel_rfl) #[] ?_
          refine sP (X_code_entry.mk x8.N m4).val hs fun _ hs => ?_
          refine wpList_nil (⟨fun _ h => h, ?_⟩)
          refine stepDE 8 rfl (wanted_none rfl) (by kernel_rfl) #[] ?_
          replace hs := hs.bfront 1 rfl rfl
          refine stepCallL [(Value.pointer (some ⟨b1, 0, none⟩)), (X_code_entry.mk x8.N m4).val] [⟨b1, 113, [(Value.string (mkS m2)), (Value.int .i64 (m3 + 1)), (Value.int .i64 m4), rv5]⟩] [⟨b14, 95, [(Value.int .i64 x8.Op), (Value.int .i64 x8.N), (Value.int .u64 x8.Set.w0), (Value.int .u64 x8.Set.w1), (Value.int .u64 x8.Set.w2), (Value.int .u64 x8.Set.w3)]⟩] [⟨rv5, 141, 2, rn6, rx7, false⟩] [] false hs rfl rfl rfl rfl ⟨_, rfl, rfl⟩ rfl Try.func90 rfl (by kernel_rfl) (by decide) (hS _ _) (fun _ _ M26 v lb lr hle hnew hS hs => ?_)
          have hMM := hMM.next hle hnew
          replace hL := hL.trans hle
          obtain ⟨rn27, rx28, rv29, hlb, hlr, hS⟩ := hS
          subst hlb hlr
          obtain ⟨x25, hv, hS⟩ := hS
          subst hv
          replace hs := hs.chbx (bs' := [⟨b1, 113, [(Value.string (mkS m2)), (Value.int .i64 (m3 + 1)), (Value.int .i64 m4), rv29]⟩, ⟨b14, 95, [(Value.int .i64 x8.Op), (Value.int .i64 x8.N), (Value.int .u64 x8.Set.w0), (Value.int .u64 x8.Set.w1), (Value.int .u64 x8.Set.w2), (Value.int .u64 x8.Set.w3)]⟩]) rfl
          replace hs := hs.chrs (rs' := [⟨rv29, 141, 2, rn27, rx28, false⟩]) rfl
          replace hs := hs.bback 1 (l' := [⟨b14, 95, [(Value.int .i64 x8.Op), (Value.int .i64 x8.N), (Value.int .u64 x8.Set.w0), (Value.int .u64 x8.Set.w1), (Value.int .u64 x8.Set.w2), (Value.int .u64 x8.Set.w3)]⟩, ⟨b1, 113, [(Value.string (mkS m2)), (Value.int .i64 (m3 + 1)), (Value.int .i64 m4), rv29]⟩]) rfl
          refine wpList_nil (⟨fun h => absurd h (by decide), ?_⟩)
          refine stepDE 9 rfl (wanted_none rfl) (by kernel_rfl) #[] ?_
          refine sP (Value.bool true) hs fun _ hs => ?_
          refine wpList_nil (⟨fun _ h => h, ?_⟩)
          refine stepDE 10 rfl (wanted_none rfl) (by kernel_rfl) #[] ?_
          refine sP (Value.int .i64 x25) hs fun _ hs => ?_
          refine wpList_nil (⟨fun _ h => h, ?_⟩)
          refine WpD.done (by kernel_rfl) ?_ _
          refine Wp.ret ?_
          replace hs := hs.bfront 1 rfl rfl
          exact leaveL hs (resTT hs rfl rfl rfl) hMM.1 hMM.2 [⟨b1, 113, [(Value.string (mkS m2)), (Value.int .i64 (m3 + 1)), (Value.int .i64 m4), rv29]⟩] [⟨rv29, 141, 2, rn27, rx28, false⟩] (.cons_cons _ (.cons _ List.Sublist.slnil)) (List.Sublist.refl _) rfl ⟨m3 + 1, m4, rn27, rx28, rv29, rfl, rfl, hS⟩
        · have hS := hS.2 hc
          refine Wp.seq (Wp.region (sP (Value.bool ((x8.Op : Int) == (5 : Int))) hs fun _ hs => ?_))
          refine sP (Value.bool ((x8.Op : Int) == (5 : Int))) hs fun _ hs => ?_
          refine wpList_nil (Wp.cond hs rfl rfl beq_iff_eq (fun hc => ?_) (fun hc => ?_))
          · have hS := hS.1 hc
            refine Wp.seq (Wp.region (sP (Value.pointer (some ⟨b1, 0, none⟩)) hs fun _ hs => ?_))
            refine sP (Value.pointer (some ⟨b1, 0, none⟩)) hs fun _ hs => ?_
            refine sP (Value.pointer (some ⟨b1, 0, none⟩)) hs fun _ hs => ?_
            refine sP (Value.pointer (some ⟨b1, 1, none⟩)) hs fun _ hs => ?_
            refine sY (Value.int .i64 (m3 + 1)) hs (Yl.loadB (vs := [(Value.int .i64 (m3 + 1))]) false 1 rfl rfl rfl (by kernel_rfl) rfl) fun _ hs => ?_
            refine sP (X_code_entry.mk (m3 + 1) (-1)).val hs fun _ hs => ?_
            replace hs := hs.bfront 1 rfl rfl
            refine stepCallL [(Value.pointer (some ⟨b1, 0, none⟩)), (X_code_entry.mk (m3 + 1) (-1)).val] [⟨b1, 113, [(Value.string (mkS m2)), (Value.int .i64 (m3 + 1)), (Value.int .i64 m4), rv5]⟩] [⟨b14, 95, [(Value.int .i64 x8.Op), (Value.int .i64 x8.N), (Value.int .u64 x8.Set.w0), (Value.int .u64 x8.Set.w1), (Value.int .u64 x8.Set.w2), (Value.int .u64 x8.Set.w3)]⟩] [⟨rv5, 141, 2, rn6, rx7, false⟩] [] false hs rfl rfl rfl rfl ⟨_, rfl, rfl⟩ rfl Try.func90 rfl (by kernel_rfl) (by decide) (hS _ _) (fun _ _ M31 v lb lr hle hnew hS hs => ?_)
            have hMM := hMM.next hle hnew
            obtain ⟨rn32, rx33, rv34, hlb, hlr, hS⟩ := hS
            subst hlb hlr
            obtain ⟨x30, hv, hS⟩ := hS
            subst hv
            replace hs := hs.chbx (bs' := [⟨b1, 113, [(Value.string (mkS m2)), (Value.int .i64 (m3 + 1)), (Value.int .i64 m4), rv34]⟩, ⟨b14, 95, [(Value.int .i64 x8.Op), (Value.int .i64 x8.N), (Value.int .u64 x8.Set.w0), (Value.int .u64 x8.Set.w1), (Value.int .u64 x8.Set.w2), (Value.int .u64 x8.Set.w3)]⟩]) rfl
            replace hs := hs.chrs (rs' := [⟨rv34, 141, 2, rn32, rx33, false⟩]) rfl
            replace hs := hs.bback 1 (l' := [⟨b14, 95, [(Value.int .i64 x8.Op), (Value.int .i64 x8.N), (Value.int .u64 x8.Set.w0), (Value.int .u64 x8.Set.w1), (Value.int .u64 x8.Set.w2), (Value.int .u64 x8.Set.w3)]⟩, ⟨b1, 113, [(Value.string (mkS m2)), (Value.int .i64 (m3 + 1)), (Value.int .i64 m4), rv34]⟩]) rfl
            refine sP (Value.int .i64 x30) hs fun _ hs => ?_
            refine wpList_nil (Wp.region (sP (Value.pointer (some ⟨b1, 0, none⟩)) hs fun _ hs => ?_))
            refine sP (Value.pointer (some ⟨b14, 1, none⟩)) hs fun _ hs => ?_
            refine sY (Value.int .i64 x8.N) hs (Yl.loadB (vs := [(Value.int .i64 x8.N)]) false 0 rfl rfl rfl (by kernel_rfl) rfl) fun _ hs => ?_
            refine sP (Value.pointer (some ⟨b1, 0, none⟩)) hs fun _ hs => ?_
            refine sP (Value.pointer (some ⟨b1, 1, none⟩)) hs fun _ hs => ?_
            refine stepStoreB 1 (vs := [(Value.int .i64 x8.N)]) hs rfl rfl rfl rfl rfl rfl (by kernel_rfl) (Nat.le_of_ble_eq_true rfl) rfl (fun _ _ hs => ?_)
            replace hs := hs.chbx (bs' := [⟨b14, 95, [(Value.int .i64 x8.Op), (Value.int .i64 x8.N), (Value.int .u64 x8.Set.w0), (Value.int .u64 x8.Set.w1), (Value.int .u64 x8.Set.w2), (Value.int .u64 x8.Set.w3)]⟩, ⟨b1, 113, [(Value.string (mkS m2)), (Value.int .i64 x8.N), (Value.int .i64 m4), rv34]⟩]) rfl
            exact wpList_nil (⟨x30, x8.N, m4, rn32, rx33, rv34, M31, hMM, (hs.weak (List.Sublist.refl _) (List.Sublist.refl _) ⟨rfl, trivial⟩), hS⟩)
          · have hS := hS.2 hc
            refine Wp.seq (Wp.region (sP (Value.bool ((x8.Op : Int) == (7 : Int))) hs fun _ hs => ?_))
            refine sP (Value.bool ((x8.Op : Int) == (7 : Int))) hs fun _ hs => ?_
            refine wpList_nil (Wp.cond hs rfl rfl beq_iff_eq (fun hc => ?_) (fun hc => ?_))
            · have hS := hS.1 hc
              refine Wp.seq (Wp.region (sP (Value.pointer (some ⟨b1, 0, none⟩)) hs fun _ hs => ?_))
              replace hs := hs.bfront 1 rfl rfl
              refine stepCallL [(Value.pointer (some ⟨b1, 0, none⟩))] [⟨b1, 113, [(Value.string (mkS m2)), (Value.int .i64 (m3 + 1)), (Value.int .i64 m4), rv5]⟩] [⟨b14, 95, [(Value.int .i64 x8.Op), (Value.int .i64 x8.N), (Value.int .u64 x8.Set.w0), (Value.int .u64 x8.Set.w1), (Value.int .u64 x8.Set.w2), (Value.int .u64 x8.Set.w3)]⟩] [⟨rv5, 141, 2, rn6, rx7, false⟩] [] false hs rfl rfl rfl rfl ⟨_, rfl, rfl⟩ rfl Try.func89 rfl (by kernel_rfl) (by decide) (hS _ _) (fun _ _ M36 v lb lr hle hnew hS hs => ?_)
              have hMM := hMM.next hle hnew
              obtain ⟨c37, c38, rn39, rx40, rv41, hlb, hlr, hS⟩ := hS
              subst hlb hlr
              obtain ⟨x35, hv, hS⟩ := hS
              subst hv
              replace hs := hs.chbx (bs' := [⟨b1, 113, [(Value.string (mkS m2)), (Value.int .i64 c37), (Value.int .i64 c38), rv41]⟩, ⟨b14, 95, [(Value.int .i64 x8.Op), (Value.int .i64 x8.N), (Value.int .u64 x8.Set.w0), (Value.int .u64 x8.Set.w1), (Value.int .u64 x8.Set.w2), (Value.int .u64 x8.Set.w3)]⟩]) rfl
              replace hs := hs.chrs (rs' := [⟨rv41, 141, 2, rn39, rx40, false⟩]) rfl
              replace hs := hs.bback 1 (l' := [⟨b14, 95, [(Value.int .i64 x8.Op), (Value.int .i64 x8.N), (Value.int .u64 x8.Set.w0), (Value.int .u64 x8.Set.w1), (Value.int .u64 x8.Set.w2), (Value.int .u64 x8.Set.w3)]⟩, ⟨b1, 113, [(Value.string (mkS m2)), (Value.int .i64 c37), (Value.int .i64 c38), rv41]⟩]) rfl
              refine sP (Value.bool x35) hs fun _ hs => ?_
              refine sP (Value.int .i64 0) hs fun _ hs => ?_
              refine wpList_nil (Wp.ret ?_)
              replace hs := hs.bfront 1 rfl rfl
              exact leaveL hs (resTT hs rfl rfl rfl) hMM.1 hMM.2 [⟨b1, 113, [(Value.string (mkS m2)), (Value.int .i64 c37), (Value.int .i64 c38), rv41]⟩] [⟨rv41, 141, 2, rn39, rx40, false⟩] (.cons_cons _ (.cons _ List.Sublist.slnil)) (List.Sublist.refl _) rfl ⟨c37, c38, rn39, rx40, rv41, rfl, rfl, hS⟩
            · have hS := hS.2 hc
              refine Wp.seq (Wp.region (sP (Value.pointer (some ⟨b1, 0, none⟩)) hs fun _ hs => ?_))
              refine sY x8.val hs (Yl.loadB (vs := x8.cells) true 0 rfl rfl rfl (by kernel_rfl) rfl) fun _ hs => ?_
              replace hs := hs.bfront 1 rfl rfl
              refine stepCallL [(Value.pointer (some ⟨b1, 0, none⟩)), x8.val] [⟨b1, 113, [(Value.string (mkS m2)), (Value.int .i64 (m3 + 1)), (Value.int .i64 m4), rv5]⟩] [⟨b14, 95, [(Value.int .i64 x8.Op), (Value.int .i64 x8.N), (Value.int .u64 x8.Set.w0), (Value.int .u64 x8.Set.w1), (Value.int .u64 x8.Set.w2), (Value.int .u64 x8.Set.w3)]⟩] [⟨rv5, 141, 2, rn6, rx7, false⟩] [] false hs rfl rfl rfl rfl ⟨_, rfl, rfl⟩ rfl Try.func91 rfl (by kernel_rfl) (by decide) (hS _ _) (fun _ _ M44 v lb lr hle hnew hS hs => ?_)
              have hMM := hMM.next hle hnew
              obtain ⟨c45, c46, rn47, rx48, rv49, hlb, hlr, hS⟩ := hS
              subst hlb hlr
              obtain ⟨x42, x43, hv, hS⟩ := hS
              subst hv
              replace hs := hs.chbx (bs' := [⟨b1, 113, [(Value.string (mkS m2)), (Value.int .i64 c45), (Value.int .i64 c46), rv49]⟩, ⟨b14, 95, [(Value.int .i64 x8.Op), (Value.int .i64 x8.N), (Value.int .u64 x8.Set.w0), (Value.int .u64 x8.Set.w1), (Value.int .u64 x8.Set.w2), (Value.int .u64 x8.Set.w3)]⟩]) rfl
              replace hs := hs.chrs (rs' := [⟨rv49, 141, 2, rn47, rx48, false⟩]) rfl
              replace hs := hs.bback 1 (l' := [⟨b14, 95, [(Value.int .i64 x8.Op), (Value.int .i64 x8.N), (Value.int .u64 x8.Set.w0), (Value.int .u64 x8.Set.w1), (Value.int .u64 x8.Set.w2), (Value.int .u64 x8.Set.w3)]⟩, ⟨b1, 113, [(Value.string (mkS m2)), (Value.int .i64 c45), (Value.int .i64 c46), rv49]⟩]) rfl
              refine sP (Value.bool x42) hs fun _ hs => ?_
              refine sP (Value.int .i64 x43) hs fun _ hs => ?_
              refine sP (Value.bool x42) hs fun _ hs => ?_
              refine sP (Value.int .i64 x43) hs fun _ hs => ?_
              refine wpList_nil (Wp.ret ?_)
              replace hs := hs.bfront 1 rfl rfl
              exact leaveL hs (resTT hs rfl rfl rfl) hMM.1 hMM.2 [⟨b1, 113, [(Value.string (mkS m2)), (Value.int .i64 c45), (Value.int .i64 c46), rv49]⟩] [⟨rv49, 141, 2, rn47, rx48, false⟩] (.cons_cons _ (.cons _ List.Sublist.slnil)) (List.Sublist.refl _) rfl ⟨c45, c46, rn47, rx48, rv49, rfl, rfl, hS⟩
  · intro a w hJ
    obtain ⟨e50, c51, c52, rn54, rx55, rv53, M56, hMM, hs, hS⟩ := hJ
    unfold S_code_machine_one_J2 at hS
    refine Wp.seq (Wp.region (sP (Value.int .i64 e50) hs fun _ hs => ?_))
    refine sP (Value.bool true) hs fun _ hs => ?_
    refine sP (Value.int .i64 e50) hs fun _ hs => ?_
    refine wpList_nil (Wp.ret ?_)
    replace hs := hs.bfront 1 rfl rfl
    exact leaveL hs (resTT hs rfl rfl rfl) hMM.1 hMM.2 [⟨b1, 113, [(Value.string (mkS m2)), (Value.int .i64 c51), (Value.int .i64 c52), rv53]⟩] [⟨rv53, 141, 2, rn54, rx55, false⟩] (.cons_cons _ (.cons _ List.Sublist.slnil)) (List.Sublist.refl _) rfl ⟨c51, c52, rn54, rx55, rv53, rfl, rfl, hS⟩
set_option linter.unusedVariables false in
def S_code_Run_J2 (steps48 : Int) (c49 : Int) (c50 : Int) (rn52 : Nat) (rx53 : List Value) (I55 : Int → Int → Int → Nat → List Value → Mem → Prop) (mu56 : Int → Int → Int → Nat → List Value → Nat) (x64 : Int) (M65 : Mem) (c66 : Int) (c67 : Int) (rn68 : Nat) (rx69 : List Value) (x71 : Bool) (K : Value → Prop) : Prop :=
  ((x71 = true → K (Value.tuple #[(X_api_Outcome.mk false 0).val, (Value.int .i64 x64)])) ∧ (¬ (x71 = true) → I55 (steps48 - 1) c66 c67 rn68 rx69 M65 ∧ mu56 (steps48 - 1) c66 c67 rn68 rx69 < mu56 steps48 c49 c50 rn52 rx53))
set_option linter.unusedVariables false in
def S_code_Run_J1 (la1 : Option Addr) (ll2 : Nat) (s4 : List UInt8) (steps5 : Int) (M : Mem) (x8 : Bool) (K : Value → Prop) : Prop :=
  ((x8 = true → K (Value.tuple #[(X_api_Outcome.mk false 0).val, (Value.int .i64 1)])) ∧ (¬ (x8 = true) → (∃ (I55 : Int → Int → Int → Nat → List Value → Mem → Prop) (mu56 : Int → Int → Int → Nat → List Value → Nat), I55 steps5 0 0 0 [] M ∧ ∀ (steps48 : Int) (c49 : Int) (c50 : Int) (rn52 : Nat) (rx53 : List Value) (M54 : Mem), (I55 steps48 c49 c50 rn52 rx53 M54 → ((c49 ≥ ((ll2 : Nat) : Int) → K (Value.tuple #[(X_api_Outcome.mk false 0).val, (Value.int .i64 13)])) ∧ (¬ (c49 ≥ ((ll2 : Nat) : Int)) → (((steps48 : Int) = 0 → K (Value.tuple #[(X_api_Outcome.mk false 0).val, (Value.int .i64 10)])) ∧ (¬ ((steps48 : Int) = 0) → (InI (steps48 - 1) ∧ (∃ (b57 o58 : Nat), la1 = some ⟨b57, o58, none⟩ ∧ (0 : Int) ≤ c49 ∧ c49 < ((ll2 : Nat) : Int) ∧ (∃ (x59 : Int), At M54 b57 (o58 + c49.toNat * 6) [(Value.int .i64 x59)] ∧ (((x59 : Int) = 8 → K (Value.tuple #[(X_api_Outcome.mk true c50).val, (Value.int .i64 0)])) ∧ (¬ ((x59 : Int) = 8) → (∃ (b60 o61 : Nat), la1 = some ⟨b60, o61, none⟩ ∧ (0 : Int) ≤ c49 ∧ c49 < ((ll2 : Nat) : Int) ∧ (∃ (x62 : X_api_Inst), At M54 b60 (o61 + c49.toNat * 6) x62.cells ∧ (C_code_machine_one x62 s4 c49 c50 rn52 rx53 M54 (fun v c66 c67 rn68 rx69 M65 => ∃ (x63 : Bool) (x64 : Int), v = (Value.tuple #[(Value.bool x63), (Value.int .i64 x64)]) ∧ (((x64 : Int) ≠ 0 → (S_code_Run_J2 steps48 c49 c50 rn52 rx53 I55 mu56 x64 M65 c66 c67 rn68 rx69 true K)) ∧ (¬ ((x64 : Int) ≠ 0) → (S_code_Run_J2 steps48 c49 c50 rn52 rx53 I55 mu56 x64 M65 c66 c67 rn68 rx69 (!x63) K))))))))))))))))))))
set_option linter.unusedVariables false in
def S_code_Run (la1 : Option Addr) (ll2 : Nat) (lc3 : Nat) (s4 : List UInt8) (steps5 : Int) (M : Mem) (K : Value → Prop) : Prop :=
  (CallE Try.prog 23 #[(Value.slice la1 ll2 lc3)] M (fun v _ => ∃ (x7 : Int), v = (Value.int .i64 x7) ∧ (((x7 : Int) ≠ 0 → K (Value.tuple #[(X_api_Outcome.mk false 0).val, (Value.int .i64 x7)])) ∧ (¬ ((x7 : Int) ≠ 0) → ((((s4.length : Nat) : Int) > 60 → K (Value.tuple #[(X_api_Outcome.mk false 0).val, (Value.int .i64 2)])) ∧ (¬ (((s4.length : Nat) : Int) > 60) → ((steps5 < 0 → (S_code_Run_J1 la1 ll2 s4 steps5 M true K)) ∧ (¬ (steps5 < 0) → (S_code_Run_J1 la1 ll2 s4 steps5 M (decide (steps5 > 16777216)) K)))))))))
set_option linter.unusedVariables false in
set_option maxRecDepth 100000 in
theorem s_code_Run (la1 : Option Addr) (ll2 : Nat) (lc3 : Nat) (s4 : List UInt8) (steps5 : Int) (M : Mem) (K : Value → Prop) (hS : S_code_Run la1 ll2 lc3 s4 steps5 M K) : CallE Try.prog 45 #[(Value.slice la1 ll2 lc3), (Value.string (mkS s4)), (Value.int .i64 steps5)] M (fun v _ => K v) := by
  refine enterE Try.func45 rfl 69 rfl (Nat.le_of_ble_eq_true rfl) (fun E a hs => ?_)
  unfold S_code_Run at hS
  have hMM := MX.refl M E
  change Sx 69 E [] M E a [(0, (Value.slice la1 ll2 lc3)), (1, (Value.string (mkS s4))), (2, (Value.int .i64 steps5))] [] [] at hs
  refine Wp.seq (Wp.region (stepAlloc [(Value.bool false), (Value.int .i64 0)] hs (by kernel_rfl) (by decide) (fun _ _ b6 hEb6 hs => ?_)))
  refine sP (Value.int .i64 0) hs fun _ hs => ?_
  refine wpList_nil (Wp.seq (Wp.seq (Wp.region (sP (Value.slice la1 ll2 lc3) hs fun _ hs => ?_))))
  refine stepCallP [(Value.slice la1 ll2 lc3)] hs rfl ⟨_, rfl, rfl⟩ rfl Try.func23 rfl (by kernel_rfl) (by decide) hS (fun _ _ v hS hs => ?_)
  obtain ⟨x7, hv, hS⟩ := hS
  subst hv
  refine sP (Value.int .i64 x7) hs fun _ hs => ?_
  refine wpList_nil (Wp.seq (Wp.region (sP (Value.int .i64 x7) hs fun _ hs => ?_)))
  refine sP (Value.bool ((x7 : Int) != (0 : Int))) hs fun _ hs => ?_
  refine wpList_nil (Wp.cond hs rfl rfl bne_iff_ne (fun hc => ?_) (fun hc => ?_))
  · have hS := hS.1 hc
    refine Wp.seq (Wp.region (sP (X_api_Outcome.mk false 0).val hs fun _ hs => ?_))
    refine sP (Value.int .i64 x7) hs fun _ hs => ?_
    refine stepStoreB 0 (vs := [(Value.bool false), (Value.int .i64 0)]) hs rfl rfl rfl rfl rfl rfl (by kernel_rfl) (Nat.le_of_ble_eq_true rfl) rfl (fun _ _ hs => ?_)
    replace hs := hs.chbx (bs' := [⟨b6, 74, [(Value.bool false), (Value.int .i64 0)]⟩]) rfl
    refine sP (Value.int .i64 x7) hs fun _ hs => ?_
    exact wpList_nil (Wp.ret (leaveE (K := fun v _ => K v) hs (resCT (vs := [(Value.bool false), (Value.int .i64 0)]) true 0 hs rfl rfl rfl (by kernel_rfl) rfl rfl) hMM.2 (fun _ _ => hS)))
  · have hS := hS.2 hc
    refine Wp.skip (Wp.seq (Wp.seq (Wp.region (sP (Value.string (mkS s4)) hs fun _ hs => ?_))))
    refine sP (Value.int .i64 ((s4.length : Nat) : Int)) hs fun _ hs => ?_
    refine sP (Value.bool (decide (((s4.length : Nat) : Int) > 60))) hs fun _ hs => ?_
    refine wpList_nil (Wp.cond hs rfl rfl decide_eq_true_iff (fun hc => ?_) (fun hc => ?_))
    · have hS := hS.1 hc
      refine Wp.seq (Wp.region (sP (X_api_Outcome.mk false 0).val hs fun _ hs => ?_))
      refine stepStoreB 0 (vs := [(Value.bool false), (Value.int .i64 0)]) hs rfl rfl rfl rfl rfl rfl (by kernel_rfl) (Nat.le_of_ble_eq_true rfl) rfl (fun _ _ hs => ?_)
      replace hs := hs.chbx (bs' := [⟨b6, 74, [(Value.bool false), (Value.int .i64 0)]⟩]) rfl
      refine sP (Value.int .i64 2) hs fun _ hs => ?_
      exact wpList_nil (Wp.ret (leaveE (K := fun v _ => K v) hs (resCT (vs := [(Value.bool false), (Value.int .i64 0)]) true 0 hs rfl rfl rfl (by kernel_rfl) rfl rfl) hMM.2 (fun _ _ => hS)))
    · have hS := hS.2 hc
      refine Wp.skip (Wp.seq (Wp.join (fun a w => ∃ (x8 : Bool), Sx 69 E [] M w a [(0, (Value.slice la1 ll2 lc3)), (1, (Value.string (mkS s4))), (2, (Value.int .i64 steps5)), (6, (Value.pointer (some ⟨b6, 0, none⟩))), (27, (Value.bool x8))] [⟨b6, 74, [(Value.bool false), (Value.int .i64 0)]⟩] [] ∧ (S_code_Run_J1 la1 ll2 s4 steps5 M x8 K)) ?_ ?_))
      · refine Wp.region (sP (Value.int .i64 steps5) hs fun _ hs => ?_)
        refine sP (Value.bool (decide (steps5 < 0))) hs fun _ hs => ?_
        refine sP (Value.bool (decide (steps5 < 0))) hs fun _ hs => ?_
        refine bsplit (decide (steps5 < 0)) decide_eq_true_iff (fun hb hc => ?_) (fun hb hc => ?_)
        · have hs := hs.bt hb
          have hS := hS.1 hc
          refine sNo hs fun _ hs => ?_
          refine sNo hs fun _ hs => ?_
          refine sP (Value.bool true) hs fun _ hs => ?_
          exact wpList_nil (⟨true, (hs.weak (List.Sublist.refl _) (List.Sublist.refl _) ⟨rfl, rfl, rfl, rfl, rfl, trivial⟩), hS⟩)
        · have hs := hs.bf hb
          have hS := hS.2 hc
          refine sYe hs (sP (Value.int .i64 steps5) hs fun _ hs => ?_)
          refine sYe hs (sP (Value.bool (decide (steps5 > 16777216))) hs fun _ hs => ?_)
          refine sP (Value.bool (decide (steps5 > 16777216))) hs fun _ hs => ?_
          exact wpList_nil (⟨(decide (steps5 > 16777216)), (hs.weak (List.Sublist.refl _) (List.Sublist.refl _) ⟨rfl, rfl, rfl, rfl, rfl, trivial⟩), hS⟩)
      · intro a w hJ
        obtain ⟨x8, hs, hS⟩ := hJ
        unfold S_code_Run_J1 at hS
        refine Wp.cond hs rfl rfl Iff.rfl (fun hc => ?_) (fun hc => ?_)
        · have hS := hS.1 hc
          refine Wp.seq (Wp.region (sP (X_api_Outcome.mk false 0).val hs fun _ hs => ?_))
          refine stepStoreB 0 (vs := [(Value.bool false), (Value.int .i64 0)]) hs rfl rfl rfl rfl rfl rfl (by kernel_rfl) (Nat.le_of_ble_eq_true rfl) rfl (fun _ _ hs => ?_)
          replace hs := hs.chbx (bs' := [⟨b6, 74, [(Value.bool false), (Value.int .i64 0)]⟩]) rfl
          refine sP (Value.int .i64 1) hs fun _ hs => ?_
          exact wpList_nil (Wp.ret (leaveE (K := fun v _ => K v) hs (resCT (vs := [(Value.bool false), (Value.int .i64 0)]) true 0 hs rfl rfl rfl (by kernel_rfl) rfl rfl) hMM.2 (fun _ _ => hS)))
        · have hS := hS.2 hc
          refine Wp.skip (Wp.seq (Wp.region (sP (Value.string (mkS s4)) hs fun _ hs => ?_)))
          refine sP (X_code_machine.mk s4 0 0 none 0 0).val hs fun _ hs => ?_
          refine stepAlloc [(Value.string (mkS [])), (Value.int .i64 0), (Value.int .i64 0), (Value.slice none 0 0)] hs (by kernel_rfl) (by decide) (fun _ _ b9 hEb9 hs => ?_)
          have hs := hs.nilrow 141 2
          refine stepStoreB 0 (vs := [(Value.string (mkS s4)), (Value.int .i64 0), (Value.int .i64 0), (Value.slice none 0 0)]) hs rfl rfl rfl rfl rfl rfl (by kernel_rfl) (Nat.le_of_ble_eq_true rfl) rfl (fun _ _ hs => ?_)
          replace hs := hs.chbx (bs' := [⟨b9, 113, [(Value.string (mkS s4)), (Value.int .i64 0), (Value.int .i64 0), (Value.slice none 0 0)]⟩, ⟨b6, 74, [(Value.bool false), (Value.int .i64 0)]⟩]) rfl
          have hs := hs.nilrow 141 2
          refine wpList_nil (Wp.block ?_)
          obtain ⟨I55, mu56, hI0, hst⟩ := hS
          refine Wp.loop (σ := (Int) × (Int) × (Int) × (Nat) × (List Value) × (Value) × (Mem)) (fun s a w => match s with | (steps48, c49, c50, rn52, rx53, rv51, M54) => MX M54 M E ∧ Sx 69 E [] M54 w a [(0, (Value.slice la1 ll2 lc3)), (2, (Value.int .i64 steps48)), (6, (Value.pointer (some ⟨b6, 0, none⟩))), (9, (Value.pointer (some ⟨b9, 0, none⟩)))] [⟨b9, 113, [(Value.string (mkS s4)), (Value.int .i64 c49), (Value.int .i64 c50), rv51]⟩, ⟨b6, 74, [(Value.bool false), (Value.int .i64 0)]⟩] [⟨rv51, 141, 2, rn52, rx53, true⟩] ∧ I55 steps48 c49 c50 rn52 rx53 M54) (fun s => match s with | (steps48, c49, c50, rn52, rx53, rv51, M54) => mu56 steps48 c49 c50 rn52 rx53) (steps5, 0, 0, 0, [], (Value.slice none 0 0), M) ⟨hMM, (hs.weak (List.Sublist.refl _) (.cons_cons _ (.cons _ List.Sublist.slnil)) ⟨rfl, rfl, rfl, rfl, trivial⟩), hI0⟩ (fun s a w hI => ?_)
          obtain ⟨steps48, c49, c50, rn52, rx53, rv51, M54⟩ := s
          obtain ⟨hMM, hs, hI⟩ := hI
          have hS := hst steps48 c49 c50 rn52 rx53 M54 hI
          clear hst hI0 hI
          refine Wp.block (Wp.seq (Wp.seq (Wp.region (sP (Value.pointer (some ⟨b9, 1, none⟩)) hs fun _ hs => ?_))))
          refine sY (Value.int .i64 c49) hs (Yl.loadB (vs := [(Value.int .i64 c49)]) false 0 rfl rfl rfl (by kernel_rfl) rfl) fun _ hs => ?_
          refine sP (Value.slice la1 ll2 lc3) hs fun _ hs => ?_
          refine sP (Value.int .i64 ((ll2 : Nat) : Int)) hs fun _ hs => ?_
          refine sP (Value.bool (decide (c49 ≥ ((ll2 : Nat) : Int)))) hs fun _ hs => ?_
          refine wpList_nil (Wp.cond hs rfl rfl decide_eq_true_iff (fun hc => ?_) (fun hc => ?_))
          · have hS := hS.1 hc
            refine Wp.seq (Wp.region (sP (X_api_Outcome.mk false 0).val hs fun _ hs => ?_))
            refine stepStoreB 1 (vs := [(Value.bool false), (Value.int .i64 0)]) hs rfl rfl rfl rfl rfl rfl (by kernel_rfl) (Nat.le_of_ble_eq_true rfl) rfl (fun _ _ hs => ?_)
            replace hs := hs.chbx (bs' := [⟨b9, 113, [(Value.string (mkS s4)), (Value.int .i64 c49), (Value.int .i64 c50), rv51]⟩, ⟨b6, 74, [(Value.bool false), (Value.int .i64 0)]⟩]) rfl
            refine sP (Value.int .i64 13) hs fun _ hs => ?_
            exact wpList_nil (Wp.ret (leaveE (K := fun v _ => K v) hs (resCT (vs := [(Value.bool false), (Value.int .i64 0)]) true 1 hs rfl rfl rfl (by kernel_rfl) rfl rfl) hMM.2 (fun _ _ => hS)))
          · have hS := hS.2 hc
            refine Wp.skip (Wp.seq (Wp.seq (Wp.region (sP (Value.int .i64 steps48) hs fun _ hs => ?_))))
            refine sP (Value.bool ((steps48 : Int) == (0 : Int))) hs fun _ hs => ?_
            refine wpList_nil (Wp.cond hs rfl rfl beq_iff_eq (fun hc => ?_) (fun hc => ?_))
            · have hS := hS.1 hc
              refine Wp.seq (Wp.region (sP (X_api_Outcome.mk false 0).val hs fun _ hs => ?_))
              refine stepStoreB 1 (vs := [(Value.bool false), (Value.int .i64 0)]) hs rfl rfl rfl rfl rfl rfl (by kernel_rfl) (Nat.le_of_ble_eq_true rfl) rfl (fun _ _ hs => ?_)
              replace hs := hs.chbx (bs' := [⟨b9, 113, [(Value.string (mkS s4)), (Value.int .i64 c49), (Value.int .i64 c50), rv51]⟩, ⟨b6, 74, [(Value.bool false), (Value.int .i64 0)]⟩]) rfl
              refine sP (Value.int .i64 10) hs fun _ hs => ?_
              exact wpList_nil (Wp.ret (leaveE (K := fun v _ => K v) hs (resCT (vs := [(Value.bool false), (Value.int .i64 0)]) true 1 hs rfl rfl rfl (by kernel_rfl) rfl rfl) hMM.2 (fun _ _ => hS)))
            · have hS := hS.2 hc
              refine Wp.skip (Wp.seq (Wp.region (sP (Value.int .i64 steps48) hs fun _ hs => ?_)))
              obtain ⟨hI, hS⟩ := hS
              refine sY (Value.int .i64 (steps48 - 1)) hs (Yl.eq (Yl.pure (v := Value.int .i64 (IntKind.wrap .i64 (steps48 - 1))) rfl (fun _ => by kernel_rfl)) (congrArg (Value.int .i64) (wrap_in hI))) fun _ hs => ?_
              refine sP (Value.int .i64 (steps48 - 1)) hs fun _ hs => ?_
              refine wpList_nil (Wp.seq (Wp.seq (Wp.region (sP (Value.slice la1 ll2 lc3) hs fun _ hs => ?_))))
              refine sP (Value.pointer (some ⟨b9, 1, none⟩)) hs fun _ hs => ?_
              refine sY (Value.int .i64 c49) hs (Yl.loadB (vs := [(Value.int .i64 c49)]) false 0 rfl rfl rfl (by kernel_rfl) rfl) fun _ hs => ?_
              obtain ⟨b57, o58, ha, h0, hl, hS⟩ := hS
              refine sY (Value.pointer (some ⟨b57, o58 + c49.toNat * 6, none⟩)) hs (Yl.indexS (e := 95) (sz := 6) rfl rfl rfl rfl (by kernel_rfl) (by kernel_rfl) ha h0 hl) fun _ hs => ?_
              refine sP (Value.pointer (some ⟨b57, o58 + c49.toNat * 6, none⟩)) hs fun _ hs => ?_
              obtain ⟨x59, hat, hS⟩ := hS
              refine sY (Value.int .i64 x59) hs (Yl.loadV (vs := [(Value.int .i64 x59)]) false rfl rfl (by kernel_rfl) hat) fun _ hs => ?_
              refine sP (Value.bool ((x59 : Int) == (8 : Int))) hs fun _ hs => ?_
              refine wpList_nil (Wp.cond hs rfl rfl beq_iff_eq (fun hc => ?_) (fun hc => ?_))
              · have hS := hS.1 hc
                refine Wp.seq (Wp.region (sP (Value.pointer (some ⟨b9, 2, none⟩)) hs fun _ hs => ?_))
                refine sY (Value.int .i64 c50) hs (Yl.loadB (vs := [(Value.int .i64 c50)]) false 0 rfl rfl rfl (by kernel_rfl) rfl) fun _ hs => ?_
                refine sP (X_api_Outcome.mk true c50).val hs fun _ hs => ?_
                refine stepStoreB 1 (vs := [(Value.bool true), (Value.int .i64 c50)]) hs rfl rfl rfl rfl rfl rfl (by kernel_rfl) (Nat.le_of_ble_eq_true rfl) rfl (fun _ _ hs => ?_)
                replace hs := hs.chbx (bs' := [⟨b9, 113, [(Value.string (mkS s4)), (Value.int .i64 c49), (Value.int .i64 c50), rv51]⟩, ⟨b6, 74, [(Value.bool true), (Value.int .i64 c50)]⟩]) rfl
                refine sP (Value.int .i64 0) hs fun _ hs => ?_
                exact wpList_nil (Wp.ret (leaveE (K := fun v _ => K v) hs (resCT (vs := [(Value.bool true), (Value.int .i64 c50)]) true 1 hs rfl rfl rfl (by kernel_rfl) rfl rfl) hMM.2 (fun _ _ => hS)))
              · have hS := hS.2 hc
                refine Wp.skip (Wp.seq (Wp.region (sP (Value.slice la1 ll2 lc3) hs fun _ hs => ?_)))
                refine sP (Value.pointer (some ⟨b9, 1, none⟩)) hs fun _ hs => ?_
                refine sY (Value.int .i64 c49) hs (Yl.loadB (vs := [(Value.int .i64 c49)]) false 0 rfl rfl rfl (by kernel_rfl) rfl) fun _ hs => ?_
                obtain ⟨b60, o61, ha, h0, hl, hS⟩ := hS
                refine sY (Value.pointer (some ⟨b60, o61 + c49.toNat * 6, none⟩)) hs (Yl.indexS (e := 95) (sz := 6) rfl rfl rfl rfl (by kernel_rfl) (by kernel_rfl) ha h0 hl) fun _ hs => ?_
                obtain ⟨x62, hat, hS⟩ := hS
                refine sY x62.val hs (Yl.loadV (vs := x62.cells) true rfl rfl (by kernel_rfl) hat) fun _ hs => ?_
                refine stepCallL [(Value.pointer (some ⟨b9, 0, none⟩)), x62.val] [⟨b9, 113, [(Value.string (mkS s4)), (Value.int .i64 c49), (Value.int .i64 c50), rv51]⟩] [⟨b6, 74, [(Value.bool false), (Value.int .i64 0)]⟩] [⟨rv51, 141, 2, rn52, rx53, false⟩] [] true hs rfl rfl rfl rfl ⟨_, rfl, rfl⟩ rfl Try.func74 rfl (by kernel_rfl) (by decide) (hS _ _) (fun _ _ M65 v lb lr hle hnew hS hs => ?_)
                have hMM := hMM.next hle hnew
                obtain ⟨c66, c67, rn68, rx69, rv70, hlb, hlr, hS⟩ := hS
                subst hlb hlr
                obtain ⟨x63, x64, hv, hS⟩ := hS
                subst hv
                replace hs := hs.chbx (bs' := [⟨b9, 113, [(Value.string (mkS s4)), (Value.int .i64 c66), (Value.int .i64 c67), rv70]⟩, ⟨b6, 74, [(Value.bool false), (Value.int .i64 0)]⟩]) rfl
                replace hs := hs.chrs (rs' := [⟨rv70, 141, 2, rn68, rx69, true⟩]) rfl
                refine sP (Value.tuple #[(Value.bool x63), (Value.int .i64 x64)]) hs fun _ hs => ?_
                refine sP (Value.bool x63) hs fun _ hs => ?_
                refine sP (Value.int .i64 x64) hs fun _ hs => ?_
                refine sP (Value.bool x63) hs fun _ hs => ?_
                refine sP (Value.int .i64 x64) hs fun _ hs => ?_
                refine wpList_nil (Wp.join (fun a w => ∃ (x71 : Bool), Sx 69 E [] M65 w a [(0, (Value.slice la1 ll2 lc3)), (2, (Value.int .i64 (steps48 - 1))), (6, (Value.pointer (some ⟨b6, 0, none⟩))), (9, (Value.pointer (some ⟨b9, 0, none⟩))), (11, (Value.int .i64 x64)), (66, (Value.bool x71))] [⟨b9, 113, [(Value.string (mkS s4)), (Value.int .i64 c66), (Value.int .i64 c67), rv70]⟩, ⟨b6, 74, [(Value.bool false), (Value.int .i64 0)]⟩] [⟨rv70, 141, 2, rn68, rx69, true⟩] ∧ (S_code_Run_J2 steps48 c49 c50 rn52 rx53 I55 mu56 x64 M65 c66 c67 rn68 rx69 x71 K)) ?_ ?_)
                · refine Wp.region (sP (Value.int .i64 x64) hs fun _ hs => ?_)
                  refine sP (Value.bool ((x64 : Int) != (0 : Int))) hs fun _ hs => ?_
                  refine sP (Value.bool ((x64 : Int) != (0 : Int))) hs fun _ hs => ?_
                  refine bsplit ((x64 : Int) != (0 : Int)) bne_iff_ne (fun hb hc => ?_) (fun hb hc => ?_)
                  · have hs := hs.bt hb
                    have hS := hS.1 hc
                    refine sNo hs fun _ hs => ?_
                    refine sNo hs fun _ hs => ?_
                    refine sP (Value.bool true) hs fun _ hs => ?_
                    exact wpList_nil (⟨true, (hs.weak (List.Sublist.refl _) (List.Sublist.refl _) ⟨rfl, rfl, rfl, rfl, rfl, rfl, trivial⟩), hS⟩)
                  · have hs := hs.bf hb
                    have hS := hS.2 hc
                    refine sYe hs (sP (Value.bool x63) hs fun _ hs => ?_)
                    refine sYe hs (sP (Value.bool (!x63)) hs fun _ hs => ?_)
                    refine sP (Value.bool (!x63)) hs fun _ hs => ?_
                    exact wpList_nil (⟨(!x63), (hs.weak (List.Sublist.refl _) (List.Sublist.refl _) ⟨rfl, rfl, rfl, rfl, rfl, rfl, trivial⟩), hS⟩)
                · intro a w hJ
                  obtain ⟨x71, hs, hS⟩ := hJ
                  unfold S_code_Run_J2 at hS
                  refine Wp.cond hs rfl rfl Iff.rfl (fun hc => ?_) (fun hc => ?_)
                  · have hS := hS.1 hc
                    refine Wp.seq (Wp.region (sP (X_api_Outcome.mk false 0).val hs fun _ hs => ?_))
                    refine sP (Value.int .i64 x64) hs fun _ hs => ?_
                    refine stepStoreB 1 (vs := [(Value.bool false), (Value.int .i64 0)]) hs rfl rfl rfl rfl rfl rfl (by kernel_rfl) (Nat.le_of_ble_eq_true rfl) rfl (fun _ _ hs => ?_)
                    replace hs := hs.chbx (bs' := [⟨b9, 113, [(Value.string (mkS s4)), (Value.int .i64 c66), (Value.int .i64 c67), rv70]⟩, ⟨b6, 74, [(Value.bool false), (Value.int .i64 0)]⟩]) rfl
                    refine sP (Value.int .i64 x64) hs fun _ hs => ?_
                    exact wpList_nil (Wp.ret (leaveE (K := fun v _ => K v) hs (resCT (vs := [(Value.bool false), (Value.int .i64 0)]) true 1 hs rfl rfl rfl (by kernel_rfl) rfl rfl) hMM.2 (fun _ _ => hS)))
                  · have hS := hS.2 hc
                    exact Wp.skip (⟨(steps48 - 1, c66, c67, rn68, rx69, rv70, M65), ⟨hMM, (hs.weak (List.Sublist.refl _) (List.Sublist.refl _) ⟨rfl, rfl, rfl, rfl, trivial⟩), hS.1⟩, hS.2⟩)
set_option linter.unusedVariables false in
def S_slices_Index_int (sa1 : Option Addr) (sl2 : Nat) (sc3 : Nat) (v4 : Int) (M : Mem) (K : Value → Prop) : Prop :=
  (∃ (I10 : Int → Prop) (mu11 : Int → Nat), I10 0 ∧ ∀ (x9 : Int), (I10 x9 → ((x9 < ((sl2 : Nat) : Int) → (∃ (b12 o13 : Nat), sa1 = some ⟨b12, o13, none⟩ ∧ (0 : Int) ≤ x9 ∧ x9 < ((sl2 : Nat) : Int) ∧ (∃ (x14 : Int), At M b12 (o13 + x9.toNat * 1) [(Value.int .i64 x14)] ∧ (((v4 : Int) = x14 → K (Value.int .i64 x9)) ∧ (¬ ((v4 : Int) = x14) → (InI (x9 + 1) ∧ I10 (x9 + 1) ∧ mu11 (x9 + 1) < mu11 x9)))))) ∧ (¬ (x9 < ((sl2 : Nat) : Int)) → K (Value.int .i64 (-1))))))
set_option linter.unusedVariables false in
set_option maxRecDepth 100000 in
theorem s_slices_Index_int (sa1 : Option Addr) (sl2 : Nat) (sc3 : Nat) (v4 : Int) (M : Mem) (K : Value → Prop) (hS : S_slices_Index_int sa1 sl2 sc3 v4 M K) : CallE Try.prog 82 #[(Value.slice sa1 sl2 sc3), (Value.int .i64 v4)] M (fun v _ => K v) := by
  refine enterE Try.func82 rfl 19 rfl (Nat.le_of_ble_eq_true rfl) (fun E a hs => ?_)
  unfold S_slices_Index_int at hS
  have hMM := MX.refl M E
  change Sx 19 E [] M E a [(0, (Value.slice sa1 sl2 sc3)), (1, (Value.int .i64 v4))] [] [] at hs
  refine Wp.seq (Wp.region (sP (Value.int .i64 0) hs fun _ hs => ?_))
  refine wpList_nil (Wp.seq (Wp.seq (Wp.region (sP (Value.slice sa1 sl2 sc3) hs fun _ hs => ?_))))
  refine sP (Value.int .i64 ((sl2 : Nat) : Int)) hs fun _ hs => ?_
  refine sP (Value.int .i64 0) hs fun _ hs => ?_
  refine wpList_nil (Wp.block ?_)
  obtain ⟨I10, mu11, hI0, hst⟩ := hS
  refine Wp.loop (σ := (Int)) (fun s a w => match s with | (x9) => Sx 19 E [] M w a [(0, (Value.slice sa1 sl2 sc3)), (1, (Value.int .i64 v4)), (7, (Value.int .i64 ((sl2 : Nat) : Int))), (8, (Value.int .i64 x9))] [] [] ∧ I10 x9) (fun s => match s with | (x9) => mu11 x9) (0) ⟨(hs.weak (List.Sublist.refl _) (List.Sublist.refl _) ⟨rfl, rfl, rfl, rfl, trivial⟩), hI0⟩ (fun x9 a w hI => ?_)
  obtain ⟨hs, hI⟩ := hI
  have hS := hst x9 hI
  clear hst hI0 hI
  refine Wp.seq (Wp.region (sP (Value.bool (decide (x9 < ((sl2 : Nat) : Int)))) hs fun _ hs => ?_))
  refine wpList_nil (Wp.seq (Wp.cond hs rfl rfl decide_eq_true_iff (fun hc => ?_) (fun hc => ?_)))
  · have hS := hS.1 hc
    refine Wp.skip (Wp.seq (Wp.block (Wp.seq (Wp.region (sP (Value.int .i64 x9) hs fun _ hs => ?_)))))
    refine sP (Value.int .i64 x9) hs fun _ hs => ?_
    refine wpList_nil (Wp.seq (Wp.region (sP (Value.int .i64 v4) hs fun _ hs => ?_)))
    refine sP (Value.slice sa1 sl2 sc3) hs fun _ hs => ?_
    refine sP (Value.int .i64 x9) hs fun _ hs => ?_
    obtain ⟨b12, o13, ha, h0, hl, hS⟩ := hS
    refine sY (Value.pointer (some ⟨b12, o13 + x9.toNat * 1, none⟩)) hs (Yl.indexS (e := 3) (sz := 1) rfl rfl rfl rfl (by kernel_rfl) (by kernel_rfl) ha h0 hl) fun _ hs => ?_
    obtain ⟨x14, hat, hS⟩ := hS
    refine sY (Value.int .i64 x14) hs (Yl.loadV (vs := [(Value.int .i64 x14)]) false rfl rfl (by kernel_rfl) hat) fun _ hs => ?_
    refine sP (Value.bool ((v4 : Int) == (x14 : Int))) hs fun _ hs => ?_
    refine wpList_nil (Wp.cond hs rfl rfl beq_iff_eq (fun hc => ?_) (fun hc => ?_))
    · have hS := hS.1 hc
      refine Wp.seq (Wp.region (sP (Value.int .i64 x9) hs fun _ hs => ?_))
      refine sP (Value.int .i64 x9) hs fun _ hs => ?_
      exact wpList_nil (Wp.ret (leaveE (K := fun v _ => K v) hs (resT hs rfl rfl) hMM.2 (fun _ _ => hS)))
    · have hS := hS.2 hc
      refine Wp.skip (Wp.region ?_)
      obtain ⟨hI, hS⟩ := hS
      refine sY (Value.int .i64 (x9 + 1)) hs (Yl.eq (Yl.pure (v := Value.int .i64 (IntKind.wrap .i64 (x9 + 1))) rfl (fun _ => by kernel_rfl)) (congrArg (Value.int .i64) (wrap_in hI))) fun _ hs => ?_
      refine sP (Value.int .i64 (x9 + 1)) hs fun _ hs => ?_
      exact wpList_nil (⟨(x9 + 1), ⟨(hs.weak (List.Sublist.refl _) (List.Sublist.refl _) ⟨rfl, rfl, rfl, rfl, trivial⟩), hS.1⟩, hS.2⟩)
  · have hS := hS.2 hc
    refine Wp.exit rfl (Wp.seq (Wp.region (sP (Value.int .i64 (-1)) hs fun _ hs => ?_)))
    exact wpList_nil (Wp.ret (leaveE (K := fun v _ => K v) hs (resT hs rfl rfl) hMM.2 (fun _ _ => hS)))
set_option linter.unusedVariables false in
def S_slices_Contains_int (sa1 : Option Addr) (sl2 : Nat) (sc3 : Nat) (v4 : Int) (M : Mem) (K : Value → Prop) : Prop :=
  (CallE Try.prog 82 #[(Value.slice sa1 sl2 sc3), (Value.int .i64 v4)] M (fun v _ => ∃ (x5 : Int), v = (Value.int .i64 x5) ∧ K (Value.bool (decide (x5 ≥ 0)))))
set_option linter.unusedVariables false in
set_option maxRecDepth 100000 in
theorem s_slices_Contains_int (sa1 : Option Addr) (sl2 : Nat) (sc3 : Nat) (v4 : Int) (M : Mem) (K : Value → Prop) (hS : S_slices_Contains_int sa1 sl2 sc3 v4 M K) : CallE Try.prog 64 #[(Value.slice sa1 sl2 sc3), (Value.int .i64 v4)] M (fun v _ => K v) := by
  refine enterE Try.func64 rfl 9 rfl (Nat.le_of_ble_eq_true rfl) (fun E a hs => ?_)
  unfold S_slices_Contains_int at hS
  have hMM := MX.refl M E
  change Sx 9 E [] M E a [(0, (Value.slice sa1 sl2 sc3)), (1, (Value.int .i64 v4))] [] [] at hs
  refine Wp.seq (Wp.region (sP (Value.bool false) hs fun _ hs => ?_))
  refine wpList_nil (Wp.seq (Wp.region (sP (Value.slice sa1 sl2 sc3) hs fun _ hs => ?_)))
  refine sP (Value.int .i64 v4) hs fun _ hs => ?_
  refine stepCallP [(Value.slice sa1 sl2 sc3), (Value.int .i64 v4)] hs rfl ⟨_, rfl, rfl⟩ rfl Try.func82 rfl (by kernel_rfl) (by decide) hS (fun _ _ v hS hs => ?_)
  obtain ⟨x5, hv, hS⟩ := hS
  subst hv
  refine sP (Value.bool (decide (x5 ≥ 0))) hs fun _ hs => ?_
  refine sP (Value.bool (decide (x5 ≥ 0))) hs fun _ hs => ?_
  exact wpList_nil (Wp.ret (leaveE (K := fun v _ => K v) hs (resT hs rfl rfl) hMM.2 (fun _ _ => hS)))
set_option linter.unusedVariables false in
def S_chaffref_Code_J1 (x27 : Int) (I29 : Int → Mem → Prop) (mu30 : Int → Nat) (M38 : Mem) (x40 : Bool) (K : Value → Prop) : Prop :=
  ((x40 = true → K (Value.int .i64 3)) ∧ (¬ (x40 = true) → (InI (x27 + 1) ∧ I29 (x27 + 1) M38 ∧ mu30 (x27 + 1) < mu30 x27)))
set_option linter.unusedVariables false in
def S_chaffref_Code (la1 : Option Addr) (ll2 : Nat) (lc3 : Nat) (M : Mem) (K : Value → Prop) : Prop :=
  ((((ll2 : Nat) : Int) > 6000 → K (Value.int .i64 2)) ∧ (¬ (((ll2 : Nat) : Int) > 6000) → (∃ (I29 : Int → Mem → Prop) (mu30 : Int → Nat), I29 0 M ∧ ∀ (x27 : Int) (M28 : Mem), (I29 x27 M28 → ((x27 < ((ll2 : Nat) : Int) → (∃ (b31 o32 : Nat), la1 = some ⟨b31, o32, none⟩ ∧ (0 : Int) ≤ x27 ∧ x27 < ((ll2 : Nat) : Int) ∧ (∃ (x33 : X_api_Inst), At M28 b31 (o32 + x27.toNat * 6) x33.cells ∧ (∀ (M38 : Mem) (ad36 : Option Addr) (cap37 : Nat), M28.le M38 → SlV M38 ad36 6 cap37 1 [(Value.int .i64 2), (Value.int .i64 3), (Value.int .i64 4), (Value.int .i64 5), (Value.int .i64 9), (Value.int .i64 10)] → (CallE Try.prog 64 #[(Value.slice ad36 6 cap37), (Value.int .i64 x33.Op)] M38 (fun v _ => ∃ (x39 : Bool), v = (Value.bool x39) ∧ ((x33.Op < 1 → (S_chaffref_Code_J1 x27 I29 mu30 M38 true K)) ∧ (¬ (x33.Op < 1) → ((x33.Op > 11 → (S_chaffref_Code_J1 x27 I29 mu30 M38 true K)) ∧ (¬ (x33.Op > 11) → ((x39 = true → ((x33.N < 0 → (S_chaffref_Code_J1 x27 I29 mu30 M38 true K)) ∧ (¬ (x33.N < 0) → ((x33.N ≥ ((ll2 : Nat) : Int) → (S_chaffref_Code_J1 x27 I29 mu30 M38 true K)) ∧ (¬ (x33.N ≥ ((ll2 : Nat) : Int)) → ((¬ (x39 = true) → (((x33.N : Int) ≠ 0 → (S_chaffref_Code_J1 x27 I29 mu30 M38 true K)) ∧ (¬ ((x33.N : Int) ≠ 0) → (((x33.Op : Int) ≠ 1 → (S_chaffref_Code_J1 x27 I29 mu30 M38 (!(cellsEq [x33.Set.w0, x33.Set.w1, x33.Set.w2, x33.Set.w3] [0, 0, 0, 0])) K)) ∧ (¬ ((x33.Op : Int) ≠ 1) → (S_chaffref_Code_J1 x27 I29 mu30 M38 false K)))))) ∧ (¬ (¬ (x39 = true)) → (((x33.Op : Int) ≠ 1 → (S_chaffref_Code_J1 x27 I29 mu30 M38 (!(cellsEq [x33.Set.w0, x33.Set.w1, x33.Set.w2, x33.Set.w3] [0, 0, 0, 0])) K)) ∧ (¬ ((x33.Op : Int) ≠ 1) → (S_chaffref_Code_J1 x27 I29 mu30 M38 false K)))))))))) ∧ (¬ (x39 = true) → ((¬ (x39 = true) → (((x33.N : Int) ≠ 0 → (S_chaffref_Code_J1 x27 I29 mu30 M38 true K)) ∧ (¬ ((x33.N : Int) ≠ 0) → (((x33.Op : Int) ≠ 1 → (S_chaffref_Code_J1 x27 I29 mu30 M38 (!(cellsEq [x33.Set.w0, x33.Set.w1, x33.Set.w2, x33.Set.w3] [0, 0, 0, 0])) K)) ∧ (¬ ((x33.Op : Int) ≠ 1) → (S_chaffref_Code_J1 x27 I29 mu30 M38 false K)))))) ∧ (¬ (¬ (x39 = true)) → (((x33.Op : Int) ≠ 1 → (S_chaffref_Code_J1 x27 I29 mu30 M38 (!(cellsEq [x33.Set.w0, x33.Set.w1, x33.Set.w2, x33.Set.w3] [0, 0, 0, 0])) K)) ∧ (¬ ((x33.Op : Int) ≠ 1) → (S_chaffref_Code_J1 x27 I29 mu30 M38 false K))))))))))))))))) ∧ (¬ (x27 < ((ll2 : Nat) : Int)) → K (Value.int .i64 0)))))))
set_option linter.unusedVariables false in
set_option maxRecDepth 100000 in
theorem s_chaffref_Code (la1 : Option Addr) (ll2 : Nat) (lc3 : Nat) (M : Mem) (K : Value → Prop) (hS : S_chaffref_Code la1 ll2 lc3 M K) : CallE Try.prog 24 #[(Value.slice la1 ll2 lc3)] M (fun v _ => K v) := by
  refine enterE Try.func24 rfl 63 rfl (Nat.le_of_ble_eq_true rfl) (fun E a hs => ?_)
  unfold S_chaffref_Code at hS
  have hMM := MX.refl M E
  change Sx 63 E [] M E a [(0, (Value.slice la1 ll2 lc3))] [] [] at hs
  refine Wp.seq (Wp.region (sP (Value.int .i64 0) hs fun _ hs => ?_))
  refine wpList_nil (Wp.seq (Wp.seq (Wp.region (sP (Value.slice la1 ll2 lc3) hs fun _ hs => ?_))))
  refine sP (Value.int .i64 ((ll2 : Nat) : Int)) hs fun _ hs => ?_
  refine sP (Value.bool (decide (((ll2 : Nat) : Int) > 6000))) hs fun _ hs => ?_
  refine wpList_nil (Wp.cond hs rfl rfl decide_eq_true_iff (fun hc => ?_) (fun hc => ?_))
  · have hS := hS.1 hc
    refine Wp.seq (Wp.region (sP (Value.int .i64 2) hs fun _ hs => ?_))
    exact wpList_nil (Wp.ret (leaveE (K := fun v _ => K v) hs (resT hs rfl rfl) hMM.2 (fun _ _ => hS)))
  · have hS := hS.2 hc
    refine Wp.skip (Wp.seq (Wp.seq (Wp.region (sP (Value.slice la1 ll2 lc3) hs fun _ hs => ?_))))
    refine sP (Value.int .i64 ((ll2 : Nat) : Int)) hs fun _ hs => ?_
    refine sP (Value.int .i64 0) hs fun _ hs => ?_
    refine wpList_nil (Wp.block ?_)
    obtain ⟨I29, mu30, hI0, hst⟩ := hS
    refine Wp.loop (σ := (Int) × (Mem)) (fun s a w => match s with | (x27, M28) => MX M28 M E ∧ Sx 63 E [] M28 w a [(0, (Value.slice la1 ll2 lc3)), (9, (Value.slice la1 ll2 lc3)), (10, (Value.int .i64 ((ll2 : Nat) : Int))), (11, (Value.int .i64 x27))] [] [] ∧ I29 x27 M28) (fun s => match s with | (x27, M28) => mu30 x27) (0, M) ⟨hMM, (hs.weak (List.Sublist.refl _) (List.Sublist.refl _) ⟨rfl, rfl, rfl, rfl, trivial⟩), hI0⟩ (fun s a w hI => ?_)
    obtain ⟨x27, M28⟩ := s
    obtain ⟨hMM, hs, hI⟩ := hI
    have hS := hst x27 M28 hI
    clear hst hI0 hI
    refine Wp.seq (Wp.region (sP (Value.bool (decide (x27 < ((ll2 : Nat) : Int)))) hs fun _ hs => ?_))
    refine wpList_nil (Wp.seq (Wp.cond hs rfl rfl decide_eq_true_iff (fun hc => ?_) (fun hc => ?_)))
    · have hS := hS.1 hc
      refine Wp.skip (Wp.seq (Wp.block (Wp.seq (Wp.region ?_))))
      obtain ⟨b31, o32, ha, h0, hl, hS⟩ := hS
      refine sY (Value.pointer (some ⟨b31, o32 + x27.toNat * 6, none⟩)) hs (Yl.indexS (e := 95) (sz := 6) rfl rfl rfl rfl (by kernel_rfl) (by kernel_rfl) ha h0 hl) fun _ hs => ?_
      obtain ⟨x33, hat, hS⟩ := hS
      refine sY x33.val hs (Yl.loadV (vs := x33.cells) true rfl rfl (by kernel_rfl) hat) fun _ hs => ?_
      refine stepAlloc [(Value.int .i64 0), (Value.int .i64 0), (Value.int .u64 0), (Value.int .u64 0), (Value.int .u64 0), (Value.int .u64 0)] hs (by kernel_rfl) (by decide) (fun _ _ b34 hEb34 hs => ?_)
      refine stepStoreB 0 (vs := [(Value.int .i64 x33.Op), (Value.int .i64 x33.N), (Value.int .u64 x33.Set.w0), (Value.int .u64 x33.Set.w1), (Value.int .u64 x33.Set.w2), (Value.int .u64 x33.Set.w3)]) hs rfl rfl rfl rfl rfl rfl (by kernel_rfl) (Nat.le_of_ble_eq_true rfl) rfl (fun _ _ hs => ?_)
      replace hs := hs.chbx (bs' := [⟨b34, 95, [(Value.int .i64 x33.Op), (Value.int .i64 x33.N), (Value.int .u64 x33.Set.w0), (Value.int .u64 x33.Set.w1), (Value.int .u64 x33.Set.w2), (Value.int .u64 x33.Set.w3)]⟩]) rfl
      refine wpList_nil (Wp.seq (Wp.region (stepMake [(Value.int .i64 2), (Value.int .i64 3), (Value.int .i64 4), (Value.int .i64 5), (Value.int .i64 9), (Value.int .i64 10)] 3 1 6 hs rfl rfl rfl (fun _ => by kernel_rfl) rfl (by unfold maxLen; decide) (by decide) (fun _ _ rv35 hs => ?_))))
      refine sP (Value.pointer (some ⟨b34, 0, none⟩)) hs fun _ hs => ?_
      refine sY (Value.int .i64 x33.Op) hs (Yl.loadB (vs := [(Value.int .i64 x33.Op)]) false 0 rfl rfl rfl (by kernel_rfl) rfl) fun _ hs => ?_
      obtain ⟨ad36, cap37, hv, hcp, hxl⟩ := hs.rowform 0 rfl
      dsimp only at hv hcp hxl
      subst hv
      obtain ⟨M38, hle, hsl, hnew, hs⟩ := hs.release 0 rfl [] rfl
      have hMM := hMM.next hle hnew
      have hS := hS M38 ad36 cap37 hle hsl
      refine stepCallP [(Value.slice ad36 6 cap37), (Value.int .i64 x33.Op)] hs rfl ⟨_, rfl, rfl⟩ rfl Try.func64 rfl (by kernel_rfl) (by decide) hS (fun _ _ v hS hs => ?_)
      obtain ⟨x39, hv, hS⟩ := hS
      subst hv
      refine sP (Value.bool x39) hs fun _ hs => ?_
      refine wpList_nil (Wp.join (fun a w => ∃ (x40 : Bool), Sx 63 E [] M38 w a [(0, (Value.slice la1 ll2 lc3)), (9, (Value.slice la1 ll2 lc3)), (10, (Value.int .i64 ((ll2 : Nat) : Int))), (11, (Value.int .i64 x27)), (61, (Value.bool x40))] [⟨b34, 95, [(Value.int .i64 x33.Op), (Value.int .i64 x33.N), (Value.int .u64 x33.Set.w0), (Value.int .u64 x33.Set.w1), (Value.int .u64 x33.Set.w2), (Value.int .u64 x33.Set.w3)]⟩] [] ∧ (S_chaffref_Code_J1 x27 I29 mu30 M38 x40 K)) ?_ ?_)
      · refine Wp.region (sP (Value.pointer (some ⟨b34, 0, none⟩)) hs fun _ hs => ?_)
        refine sY (Value.int .i64 x33.Op) hs (Yl.loadB (vs := [(Value.int .i64 x33.Op)]) false 0 rfl rfl rfl (by kernel_rfl) rfl) fun _ hs => ?_
        refine sP (Value.bool (decide (x33.Op < 1))) hs fun _ hs => ?_
        refine sP (Value.bool (decide (x33.Op < 1))) hs fun _ hs => ?_
        refine bsplit (decide (x33.Op < 1)) decide_eq_true_iff (fun hb hc => ?_) (fun hb hc => ?_)
        · have hs := hs.bt hb
          have hS := hS.1 hc
          refine sNo hs fun _ hs => ?_
          refine sNo hs fun _ hs => ?_
          refine sNo hs fun _ hs => ?_
          refine sP (Value.bool true) hs fun _ hs => ?_
          refine sP (Value.bool true) hs fun _ hs => ?_
          refine sNo hs fun _ hs => ?_
          refine sNo hs fun _ hs => ?_
          refine sNu hs fun _ hs => ?_
          refine sNu hs fun _ hs => ?_
          refine sNu hs fun _ hs => ?_
          refine sNu hs fun _ hs => ?_
          refine sNu hs fun _ hs => ?_
          refine sNu hs fun _ hs => ?_
          refine sNu hs fun _ hs => ?_
          refine sNu hs fun _ hs => ?_
          refine sNu hs fun _ hs => ?_
          refine sNu hs fun _ hs => ?_
          refine sNo hs fun _ hs => ?_
          refine sP (Value.bool true) hs fun _ hs => ?_
          refine sP (Value.bool true) hs fun _ hs => ?_
          refine sNo hs fun _ hs => ?_
          refine sNo hs fun _ hs => ?_
          refine sNo hs fun _ hs => ?_
          refine sNu hs fun _ hs => ?_
          refine sNu hs fun _ hs => ?_
          refine sNu hs fun _ hs => ?_
          refine sNo hs fun _ hs => ?_
          refine sP (Value.bool true) hs fun _ hs => ?_
          refine sP (Value.bool true) hs fun _ hs => ?_
          refine sNo hs fun _ hs => ?_
          refine sNo hs fun _ hs => ?_
          refine sNo hs fun _ hs => ?_
          refine sNo hs fun _ hs => ?_
          refine sNu hs fun _ hs => ?_
          refine sNu hs fun _ hs => ?_
          refine sNu hs fun _ hs => ?_
          refine sNu hs fun _ hs => ?_
          refine sNo hs fun _ hs => ?_
          refine sP (Value.bool true) hs fun _ hs => ?_
          exact wpList_nil (⟨true, (hs.weak (List.Sublist.refl _) (List.Sublist.refl _) ⟨rfl, rfl, rfl, rfl, rfl, trivial⟩), hS⟩)
        · have hs := hs.bf hb
          have hS := hS.2 hc
          refine sYe hs (sP (Value.pointer (some ⟨b34, 0, none⟩)) hs fun _ hs => ?_)
          refine sYe hs (sY (Value.int .i64 x33.Op) hs (Yl.loadB (vs := [(Value.int .i64 x33.Op)]) false 0 rfl rfl rfl (by kernel_rfl) rfl) fun _ hs => ?_)
          refine sYe hs (sP (Value.bool (decide (x33.Op > 11))) hs fun _ hs => ?_)
          refine sP (Value.bool (decide (x33.Op > 11))) hs fun _ hs => ?_
          refine sP (Value.bool (decide (x33.Op > 11))) hs fun _ hs => ?_
          refine bsplit (decide (x33.Op > 11)) decide_eq_true_iff (fun hb hc => ?_) (fun hb hc => ?_)
          · have hs := hs.bt hb
            have hS := hS.1 hc
            refine sNo hs fun _ hs => ?_
            refine sNo hs fun _ hs => ?_
            refine sNu hs fun _ hs => ?_
            refine sNu hs fun _ hs => ?_
            refine sNu hs fun _ hs => ?_
            refine sNu hs fun _ hs => ?_
            refine sNu hs fun _ hs => ?_
            refine sNu hs fun _ hs => ?_
            refine sNu hs fun _ hs => ?_
            refine sNu hs fun _ hs => ?_
            refine sNu hs fun _ hs => ?_
            refine sNu hs fun _ hs => ?_
            refine sNo hs fun _ hs => ?_
            refine sP (Value.bool true) hs fun _ hs => ?_
            refine sP (Value.bool true) hs fun _ hs => ?_
            refine sNo hs fun _ hs => ?_
            refine sNo hs fun _ hs => ?_
            refine sNo hs fun _ hs => ?_
            refine sNu hs fun _ hs => ?_
            refine sNu hs fun _ hs => ?_
            refine sNu hs fun _ hs => ?_
            refine sNo hs fun _ hs => ?_
            refine sP (Value.bool true) hs fun _ hs => ?_
            refine sP (Value.bool true) hs fun _ hs => ?_
            refine sNo hs fun _ hs => ?_
            refine sNo hs fun _ hs => ?_
            refine sNo hs fun _ hs => ?_
            refine sNo hs fun _ hs => ?_
            refine sNu hs fun _ hs => ?_
            refine sNu hs fun _ hs => ?_
            refine sNu hs fun _ hs => ?_
            refine sNu hs fun _ hs => ?_
            refine sNo hs fun _ hs => ?_
            refine sP (Value.bool true) hs fun _ hs => ?_
            exact wpList_nil (⟨true, (hs.weak (List.Sublist.refl _) (List.Sublist.refl _) ⟨rfl, rfl, rfl, rfl, rfl, trivial⟩), hS⟩)
          · have hs := hs.bf hb
            have hS := hS.2 hc
            refine sYe hs (sP (Value.bool x39) hs fun _ hs => ?_)
            refine sYe hs (sP (Value.bool x39) hs fun _ hs => ?_)
            refine bsplit x39 Iff.rfl (fun hb hc => ?_) (fun hb hc => ?_)
            · have hs := hs.bt hb
              have hS := hS.1 hc
              refine sYe hs (sP (Value.pointer (some ⟨b34, 1, none⟩)) hs fun _ hs => ?_)
              refine sYe hs (sY (Value.int .i64 x33.N) hs (Yl.loadB (vs := [(Value.int .i64 x33.N)]) false 0 rfl rfl rfl (by kernel_rfl) rfl) fun _ hs => ?_)
              refine sYe hs (sP (Value.bool (decide (x33.N < 0))) hs fun _ hs => ?_)
              refine sYe hs (sP (Value.bool (decide (x33.N < 0))) hs fun _ hs => ?_)
              refine bsplit (decide (x33.N < 0)) decide_eq_true_iff (fun hb hc => ?_) (fun hb hc => ?_)
              · have hs := hs.bt hb
                have hS := hS.1 hc
                refine sNo hs fun _ hs => ?_
                refine sNo hs fun _ hs => ?_
                refine sNo hs fun _ hs => ?_
                refine sNo hs fun _ hs => ?_
                refine sNo hs fun _ hs => ?_
                refine sYe hs (sP (Value.bool true) hs fun _ hs => ?_)
                refine sYe hs (sP (Value.bool true) hs fun _ hs => ?_)
                refine sP (Value.bool true) hs fun _ hs => ?_
                refine sP (Value.bool true) hs fun _ hs => ?_
                refine sNo hs fun _ hs => ?_
                refine sNo hs fun _ hs => ?_
                refine sNo hs fun _ hs => ?_
                refine sNu hs fun _ hs => ?_
                refine sNu hs fun _ hs => ?_
                refine sNu hs fun _ hs => ?_
                refine sNo hs fun _ hs => ?_
                refine sP (Value.bool true) hs fun _ hs => ?_
                refine sP (Value.bool true) hs fun _ hs => ?_
                refine sNo hs fun _ hs => ?_
                refine sNo hs fun _ hs => ?_
                refine sNo hs fun _ hs => ?_
                refine sNo hs fun _ hs => ?_
                refine sNu hs fun _ hs => ?_
                refine sNu hs fun _ hs => ?_
                refine sNu hs fun _ hs => ?_
                refine sNu hs fun _ hs => ?_
                refine sNo hs fun _ hs => ?_
                refine sP (Value.bool true) hs fun _ hs => ?_
                exact wpList_nil (⟨true, (hs.weak (List.Sublist.refl _) (List.Sublist.refl _) ⟨rfl, rfl, rfl, rfl, rfl, trivial⟩), hS⟩)
              · have hs := hs.bf hb
                have hS := hS.2 hc
                refine sYe hs (sP (Value.pointer (some ⟨b34, 1, none⟩)) hs fun _ hs => ?_)
                refine sYe hs (sY (Value.int .i64 x33.N) hs (Yl.loadB (vs := [(Value.int .i64 x33.N)]) false 0 rfl rfl rfl (by kernel_rfl) rfl) fun _ hs => ?_)
                refine sYe hs (sP (Value.slice la1 ll2 lc3) hs fun _ hs => ?_)
                refine sYe hs (sP (Value.int .i64 ((ll2 : Nat) : Int)) hs fun _ hs => ?_)
                refine sYe hs (sP (Value.bool (decide (x33.N ≥ ((ll2 : Nat) : Int)))) hs fun _ hs => ?_)
                refine sYe hs (sP (Value.bool (decide (x33.N ≥ ((ll2 : Nat) : Int)))) hs fun _ hs => ?_)
                refine sYe hs (sP (Value.bool (decide (x33.N ≥ ((ll2 : Nat) : Int)))) hs fun _ hs => ?_)
                refine sP (Value.bool (decide (x33.N ≥ ((ll2 : Nat) : Int)))) hs fun _ hs => ?_
                refine sP (Value.bool (decide (x33.N ≥ ((ll2 : Nat) : Int)))) hs fun _ hs => ?_
                refine bsplit (decide (x33.N ≥ ((ll2 : Nat) : Int))) decide_eq_true_iff (fun hb hc => ?_) (fun hb hc => ?_)
                · have hs := hs.bt hb
                  have hS := hS.1 hc
                  refine sNo hs fun _ hs => ?_
                  refine sNo hs fun _ hs => ?_
                  refine sNo hs fun _ hs => ?_
                  refine sNu hs fun _ hs => ?_
                  refine sNu hs fun _ hs => ?_
                  refine sNu hs fun _ hs => ?_
                  refine sNo hs fun _ hs => ?_
                  refine sP (Value.bool true) hs fun _ hs => ?_
                  refine sP (Value.bool true) hs fun _ hs => ?_
                  refine sNo hs fun _ hs => ?_
                  refine sNo hs fun _ hs => ?_
                  refine sNo hs fun _ hs => ?_
                  refine sNo hs fun _ hs => ?_
                  refine sNu hs fun _ hs => ?_
                  refine sNu hs fun _ hs => ?_
                  refine sNu hs fun _ hs => ?_
                  refine sNu hs fun _ hs => ?_
                  refine sNo hs fun _ hs => ?_
                  refine sP (Value.bool true) hs fun _ hs => ?_
                  exact wpList_nil (⟨true, (hs.weak (List.Sublist.refl _) (List.Sublist.refl _) ⟨rfl, rfl, rfl, rfl, rfl, trivial⟩), hS⟩)
                · have hs := hs.bf hb
                  have hS := hS.2 hc
                  refine sYe hs (sP (Value.bool x39) hs fun _ hs => ?_)
                  refine sYe hs (sP (Value.bool (!x39)) hs fun _ hs => ?_)
                  refine sYe hs (sP (Value.bool (!x39)) hs fun _ hs => ?_)
                  refine bsplit (!x39) (bnot_iff Iff.rfl) (fun hb hc => ?_) (fun hb hc => ?_)
                  · have hs := hs.bt hb
                    have hS := hS.1 hc
                    refine sYe hs (sP (Value.pointer (some ⟨b34, 1, none⟩)) hs fun _ hs => ?_)
                    refine sYe hs (sY (Value.int .i64 x33.N) hs (Yl.loadB (vs := [(Value.int .i64 x33.N)]) false 0 rfl rfl rfl (by kernel_rfl) rfl) fun _ hs => ?_)
                    refine sYe hs (sP (Value.bool ((x33.N : Int) != (0 : Int))) hs fun _ hs => ?_)
                    refine sYe hs (sP (Value.bool ((x33.N : Int) != (0 : Int))) hs fun _ hs => ?_)
                    refine sP (Value.bool ((x33.N : Int) != (0 : Int))) hs fun _ hs => ?_
                    refine sP (Value.bool ((x33.N : Int) != (0 : Int))) hs fun _ hs => ?_
                    refine bsplit ((x33.N : Int) != (0 : Int)) bne_iff_ne (fun hb hc => ?_) (fun hb hc => ?_)
                    · have hs := hs.bt hb
                      have hS := hS.1 hc
                      refine sNo hs fun _ hs => ?_
                      refine sNo hs fun _ hs => ?_
                      refine sNo hs fun _ hs => ?_
                      refine sNo hs fun _ hs => ?_
                      refine sNu hs fun _ hs => ?_
                      refine sNu hs fun _ hs => ?_
                      refine sNu hs fun _ hs => ?_
                      refine sNu hs fun _ hs => ?_
                      refine sNo hs fun _ hs => ?_
                      refine sP (Value.bool true) hs fun _ hs => ?_
                      exact wpList_nil (⟨true, (hs.weak (List.Sublist.refl _) (List.Sublist.refl _) ⟨rfl, rfl, rfl, rfl, rfl, trivial⟩), hS⟩)
                    · have hs := hs.bf hb
                      have hS := hS.2 hc
                      refine sYe hs (sP (Value.pointer (some ⟨b34, 0, none⟩)) hs fun _ hs => ?_)
                      refine sYe hs (sY (Value.int .i64 x33.Op) hs (Yl.loadB (vs := [(Value.int .i64 x33.Op)]) false 0 rfl rfl rfl (by kernel_rfl) rfl) fun _ hs => ?_)
                      refine sYe hs (sP (Value.bool ((x33.Op : Int) != (1 : Int))) hs fun _ hs => ?_)
                      refine sYe hs (sP (Value.bool ((x33.Op : Int) != (1 : Int))) hs fun _ hs => ?_)
                      refine bsplit ((x33.Op : Int) != (1 : Int)) bne_iff_ne (fun hb hc => ?_) (fun hb hc => ?_)
                      · have hs := hs.bt hb
                        have hS := hS.1 hc
                        refine sYe hs (sP (Value.pointer (some ⟨b34, 2, none⟩)) hs fun _ hs => ?_)
                        refine sYe hs (sY x33.Set.val hs (Yl.loadB (vs := x33.Set.cells) true 0 rfl rfl rfl (by kernel_rfl) rfl) fun _ hs => ?_)
                        refine sYe hs (sP (X_api_Set.mk 0 0 0 0).val hs fun _ hs => ?_)
                        refine sYe hs (sY (Value.bool (!(cellsEq [x33.Set.w0, x33.Set.w1, x33.Set.w2, x33.Set.w3] [0, 0, 0, 0]))) hs (Yl.neqA (n := 4) (e := 27) (k := .u64) (xs := [x33.Set.w0, x33.Set.w1, x33.Set.w2, x33.Set.w3]) (ys := [0, 0, 0, 0]) rfl (by kernel_rfl) (by kernel_rfl) (by kernel_rfl) (by kernel_rfl) rfl rfl rfl rfl rfl rfl) fun _ hs => ?_)
                        refine sYe hs (sP (Value.bool (!(cellsEq [x33.Set.w0, x33.Set.w1, x33.Set.w2, x33.Set.w3] [0, 0, 0, 0]))) hs fun _ hs => ?_)
                        refine sP (Value.bool (!(cellsEq [x33.Set.w0, x33.Set.w1, x33.Set.w2, x33.Set.w3] [0, 0, 0, 0]))) hs fun _ hs => ?_
                        exact wpList_nil (⟨(!(cellsEq [x33.Set.w0, x33.Set.w1, x33.Set.w2, x33.Set.w3] [0, 0, 0, 0])), (hs.weak (List.Sublist.refl _) (List.Sublist.refl _) ⟨rfl, rfl, rfl, rfl, rfl, trivial⟩), hS⟩)
                      · have hs := hs.bf hb
                        have hS := hS.2 hc
                        refine sNo hs fun _ hs => ?_
                        refine sNo hs fun _ hs => ?_
                        refine sNo hs fun _ hs => ?_
                        refine sNo hs fun _ hs => ?_
                        refine sYe hs (sP (Value.bool false) hs fun _ hs => ?_)
                        refine sP (Value.bool false) hs fun _ hs => ?_
                        exact wpList_nil (⟨false, (hs.weak (List.Sublist.refl _) (List.Sublist.refl _) ⟨rfl, rfl, rfl, rfl, rfl, trivial⟩), hS⟩)
                  · have hs := hs.bf hb
                    have hS := hS.2 hc
                    refine sNo hs fun _ hs => ?_
                    refine sNo hs fun _ hs => ?_
                    refine sNo hs fun _ hs => ?_
                    refine sYe hs (sP (Value.bool false) hs fun _ hs => ?_)
                    refine sP (Value.bool false) hs fun _ hs => ?_
                    refine sP (Value.bool false) hs fun _ hs => ?_
                    refine sYe hs (sP (Value.pointer (some ⟨b34, 0, none⟩)) hs fun _ hs => ?_)
                    refine sYe hs (sY (Value.int .i64 x33.Op) hs (Yl.loadB (vs := [(Value.int .i64 x33.Op)]) false 0 rfl rfl rfl (by kernel_rfl) rfl) fun _ hs => ?_)
                    refine sYe hs (sP (Value.bool ((x33.Op : Int) != (1 : Int))) hs fun _ hs => ?_)
                    refine sYe hs (sP (Value.bool ((x33.Op : Int) != (1 : Int))) hs fun _ hs => ?_)
                    refine bsplit ((x33.Op : Int) != (1 : Int)) bne_iff_ne (fun hb hc => ?_) (fun hb hc => ?_)
                    · have hs := hs.bt hb
                      have hS := hS.1 hc
                      refine sYe hs (sP (Value.pointer (some ⟨b34, 2, none⟩)) hs fun _ hs => ?_)
                      refine sYe hs (sY x33.Set.val hs (Yl.loadB (vs := x33.Set.cells) true 0 rfl rfl rfl (by kernel_rfl) rfl) fun _ hs => ?_)
                      refine sYe hs (sP (X_api_Set.mk 0 0 0 0).val hs fun _ hs => ?_)
                      refine sYe hs (sY (Value.bool (!(cellsEq [x33.Set.w0, x33.Set.w1, x33.Set.w2, x33.Set.w3] [0, 0, 0, 0]))) hs (Yl.neqA (n := 4) (e := 27) (k := .u64) (xs := [x33.Set.w0, x33.Set.w1, x33.Set.w2, x33.Set.w3]) (ys := [0, 0, 0, 0]) rfl (by kernel_rfl) (by kernel_rfl) (by kernel_rfl) (by kernel_rfl) rfl rfl rfl rfl rfl rfl) fun _ hs => ?_)
                      refine sYe hs (sP (Value.bool (!(cellsEq [x33.Set.w0, x33.Set.w1, x33.Set.w2, x33.Set.w3] [0, 0, 0, 0]))) hs fun _ hs => ?_)
                      refine sP (Value.bool (!(cellsEq [x33.Set.w0, x33.Set.w1, x33.Set.w2, x33.Set.w3] [0, 0, 0, 0]))) hs fun _ hs => ?_
                      exact wpList_nil (⟨(!(cellsEq [x33.Set.w0, x33.Set.w1, x33.Set.w2, x33.Set.w3] [0, 0, 0, 0])), (hs.weak (List.Sublist.refl _) (List.Sublist.refl _) ⟨rfl, rfl, rfl, rfl, rfl, trivial⟩), hS⟩)
                    · have hs := hs.bf hb
                      have hS := hS.2 hc
                      refine sNo hs fun _ hs => ?_
                      refine sNo hs fun _ hs => ?_
                      refine sNo hs fun _ hs => ?_
                      refine sNo hs fun _ hs => ?_
                      refine sYe hs (sP (Value.bool false) hs fun _ hs => ?_)
                      refine sP (Value.bool false) hs fun _ hs => ?_
                      exact wpList_nil (⟨false, (hs.weak (List.Sublist.refl _) (List.Sublist.refl _) ⟨rfl, rfl, rfl, rfl, rfl, trivial⟩), hS⟩)
            · have hs := hs.bf hb
              have hS := hS.2 hc
              refine sNo hs fun _ hs => ?_
              refine sNo hs fun _ hs => ?_
              refine sNo hs fun _ hs => ?_
              refine sNo hs fun _ hs => ?_
              refine sNu hs fun _ hs => ?_
              refine sNu hs fun _ hs => ?_
              refine sNu hs fun _ hs => ?_
              refine sNu hs fun _ hs => ?_
              refine sNu hs fun _ hs => ?_
              refine sNo hs fun _ hs => ?_
              refine sYe hs (sP (Value.bool false) hs fun _ hs => ?_)
              refine sP (Value.bool false) hs fun _ hs => ?_
              refine sP (Value.bool false) hs fun _ hs => ?_
              refine sYe hs (sP (Value.bool x39) hs fun _ hs => ?_)
              refine sYe hs (sP (Value.bool (!x39)) hs fun _ hs => ?_)
              refine sYe hs (sP (Value.bool (!x39)) hs fun _ hs => ?_)
              refine bsplit (!x39) (bnot_iff Iff.rfl) (fun hb hc => ?_) (fun hb hc => ?_)
              · have hs := hs.bt hb
                have hS := hS.1 hc
                refine sYe hs (sP (Value.pointer (some ⟨b34, 1, none⟩)) hs fun _ hs => ?_)
                refine sYe hs (sY (Value.int .i64 x33.N) hs (Yl.loadB (vs := [(Value.int .i64 x33.N)]) false 0 rfl rfl rfl (by kernel_rfl) rfl) fun _ hs => ?_)
                refine sYe hs (sP (Value.bool ((x33.N : Int) != (0 : Int))) hs fun _ hs => ?_)
                refine sYe hs (sP (Value.bool ((x33.N : Int) != (0 : Int))) hs fun _ hs => ?_)
                refine sP (Value.bool ((x33.N : Int) != (0 : Int))) hs fun _ hs => ?_
                refine sP (Value.bool ((x33.N : Int) != (0 : Int))) hs fun _ hs => ?_
                refine bsplit ((x33.N : Int) != (0 : Int)) bne_iff_ne (fun hb hc => ?_) (fun hb hc => ?_)
                · have hs := hs.bt hb
                  have hS := hS.1 hc
                  refine sNo hs fun _ hs => ?_
                  refine sNo hs fun _ hs => ?_
                  refine sNo hs fun _ hs => ?_
                  refine sNo hs fun _ hs => ?_
                  refine sNu hs fun _ hs => ?_
                  refine sNu hs fun _ hs => ?_
                  refine sNu hs fun _ hs => ?_
                  refine sNu hs fun _ hs => ?_
                  refine sNo hs fun _ hs => ?_
                  refine sP (Value.bool true) hs fun _ hs => ?_
                  exact wpList_nil (⟨true, (hs.weak (List.Sublist.refl _) (List.Sublist.refl _) ⟨rfl, rfl, rfl, rfl, rfl, trivial⟩), hS⟩)
                · have hs := hs.bf hb
                  have hS := hS.2 hc
                  refine sYe hs (sP (Value.pointer (some ⟨b34, 0, none⟩)) hs fun _ hs => ?_)
                  refine sYe hs (sY (Value.int .i64 x33.Op) hs (Yl.loadB (vs := [(Value.int .i64 x33.Op)]) false 0 rfl rfl rfl (by kernel_rfl) rfl) fun _ hs => ?_)
                  refine sYe hs (sP (Value.bool ((x33.Op : Int) != (1 : Int))) hs fun _ hs => ?_)
                  refine sYe hs (sP (Value.bool ((x33.Op : Int) != (1 : Int))) hs fun _ hs => ?_)
                  refine bsplit ((x33.Op : Int) != (1 : Int)) bne_iff_ne (fun hb hc => ?_) (fun hb hc => ?_)
                  · have hs := hs.bt hb
                    have hS := hS.1 hc
                    refine sYe hs (sP (Value.pointer (some ⟨b34, 2, none⟩)) hs fun _ hs => ?_)
                    refine sYe hs (sY x33.Set.val hs (Yl.loadB (vs := x33.Set.cells) true 0 rfl rfl rfl (by kernel_rfl) rfl) fun _ hs => ?_)
                    refine sYe hs (sP (X_api_Set.mk 0 0 0 0).val hs fun _ hs => ?_)
                    refine sYe hs (sY (Value.bool (!(cellsEq [x33.Set.w0, x33.Set.w1, x33.Set.w2, x33.Set.w3] [0, 0, 0, 0]))) hs (Yl.neqA (n := 4) (e := 27) (k := .u64) (xs := [x33.Set.w0, x33.Set.w1, x33.Set.w2, x33.Set.w3]) (ys := [0, 0, 0, 0]) rfl (by kernel_rfl) (by kernel_rfl) (by kernel_rfl) (by kernel_rfl) rfl rfl rfl rfl rfl rfl) fun _ hs => ?_)
                    refine sYe hs (sP (Value.bool (!(cellsEq [x33.Set.w0, x33.Set.w1, x33.Set.w2, x33.Set.w3] [0, 0, 0, 0]))) hs fun _ hs => ?_)
                    refine sP (Value.bool (!(cellsEq [x33.Set.w0, x33.Set.w1, x33.Set.w2, x33.Set.w3] [0, 0, 0, 0]))) hs fun _ hs => ?_
                    exact wpList_nil (⟨(!(cellsEq [x33.Set.w0, x33.Set.w1, x33.Set.w2, x33.Set.w3] [0, 0, 0, 0])), (hs.weak (List.Sublist.refl _) (List.Sublist.refl _) ⟨rfl, rfl, rfl, rfl, rfl, trivial⟩), hS⟩)
                  · have hs := hs.bf hb
                    have hS := hS.2 hc
                    refine sNo hs fun _ hs => ?_
                    refine sNo hs fun _ hs => ?_
                    refine sNo hs fun _ hs => ?_
                    refine sNo hs fun _ hs => ?_
                    refine sYe hs (sP (Value.bool false) hs fun _ hs => ?_)
                    refine sP (Value.bool false) hs fun _ hs => ?_
                    exact wpList_nil (⟨false, (hs.weak (List.Sublist.refl _) (List.Sublist.refl _) ⟨rfl, rfl, rfl, rfl, rfl, trivial⟩), hS⟩)
              · have hs := hs.bf hb
                have hS := hS.2 hc
                refine sNo hs fun _ hs => ?_
                refine sNo hs fun _ hs => ?_
                refine sNo hs fun _ hs => ?_
                refine sYe hs (sP (Value.bool false) hs fun _ hs => ?_)
                refine sP (Value.bool false) hs fun _ hs => ?_
                refine sP (Value.bool false) hs fun _ hs => ?_
                refine sYe hs (sP (Value.pointer (some ⟨b34, 0, none⟩)) hs fun _ hs => ?_)
                refine sYe hs (sY (Value.int .i64 x33.Op) hs (Yl.loadB (vs := [(Value.int .i64 x33.Op)]) false 0 rfl rfl rfl (by kernel_rfl) rfl) fun _ hs => ?_)
                refine sYe hs (sP (Value.bool ((x33.Op : Int) != (1 : Int))) hs fun _ hs => ?_)
                refine sYe hs (sP (Value.bool ((x33.Op : Int) != (1 : Int))) hs fun _ hs => ?_)
                refine bsplit ((x33.Op : Int) != (1 : Int)) bne_iff_ne (fun hb hc => ?_) (fun hb hc => ?_)
                · have hs := hs.bt hb
                  have hS := hS.1 hc
                  refine sYe hs (sP (Value.pointer (some ⟨b34, 2, none⟩)) hs fun _ hs => ?_)
                  refine sYe hs (sY x33.Set.val hs (Yl.loadB (vs := x33.Set.cells) true 0 rfl rfl rfl (by kernel_rfl) rfl) fun _ hs => ?_)
                  refine sYe hs (sP (X_api_Set.mk 0 0 0 0).val hs fun _ hs => ?_)
                  refine sYe hs (sY (Value.bool (!(cellsEq [x33.Set.w0, x33.Set.w1, x33.Set.w2, x33.Set.w3] [0, 0, 0, 0]))) hs (Yl.neqA (n := 4) (e := 27) (k := .u64) (xs := [x33.Set.w0, x33.Set.w1, x33.Set.w2, x33.Set.w3]) (ys := [0, 0, 0, 0]) rfl (by kernel_rfl) (by kernel_rfl) (by kernel_rfl) (by kernel_rfl) rfl rfl rfl rfl rfl rfl) fun _ hs => ?_)
                  refine sYe hs (sP (Value.bool (!(cellsEq [x33.Set.w0, x33.Set.w1, x33.Set.w2, x33.Set.w3] [0, 0, 0, 0]))) hs fun _ hs => ?_)
                  refine sP (Value.bool (!(cellsEq [x33.Set.w0, x33.Set.w1, x33.Set.w2, x33.Set.w3] [0, 0, 0, 0]))) hs fun _ hs => ?_
                  exact wpList_nil (⟨(!(cellsEq [x33.Set.w0, x33.Set.w1, x33.Set.w2, x33.Set.w3] [0, 0, 0, 0])), (hs.weak (List.Sublist.refl _) (List.Sublist.refl _) ⟨rfl, rfl, rfl, rfl, rfl, trivial⟩), hS⟩)
                · have hs := hs.bf hb
                  have hS := hS.2 hc
                  refine sNo hs fun _ hs => ?_
                  refine sNo hs fun _ hs => ?_
                  refine sNo hs fun _ hs => ?_
                  refine sNo hs fun _ hs => ?_
                  refine sYe hs (sP (Value.bool false) hs fun _ hs => ?_)
                  refine sP (Value.bool false) hs fun _ hs => ?_
                  exact wpList_nil (⟨false, (hs.weak (List.Sublist.refl _) (List.Sublist.refl _) ⟨rfl, rfl, rfl, rfl, rfl, trivial⟩), hS⟩)
      · intro a w hJ
        obtain ⟨x40, hs, hS⟩ := hJ
        unfold S_chaffref_Code_J1 at hS
        refine Wp.cond hs rfl rfl Iff.rfl (fun hc => ?_) (fun hc => ?_)
        · have hS := hS.1 hc
          refine Wp.seq (Wp.region (sP (Value.int .i64 3) hs fun _ hs => ?_))
          exact wpList_nil (Wp.ret (leaveE (K := fun v _ => K v) hs (resT hs rfl rfl) hMM.2 (fun _ _ => hS)))
        · have hS := hS.2 hc
          refine Wp.skip (Wp.region ?_)
          obtain ⟨hI, hS⟩ := hS
          refine sY (Value.int .i64 (x27 + 1)) hs (Yl.eq (Yl.pure (v := Value.int .i64 (IntKind.wrap .i64 (x27 + 1))) rfl (fun _ => by kernel_rfl)) (congrArg (Value.int .i64) (wrap_in hI))) fun _ hs => ?_
          refine sP (Value.int .i64 (x27 + 1)) hs fun _ hs => ?_
          exact wpList_nil (⟨(x27 + 1, M38), ⟨hMM, (hs.weak (.cons _ List.Sublist.slnil) (List.Sublist.refl _) ⟨rfl, rfl, rfl, rfl, trivial⟩), hS.1⟩, hS.2⟩)
    · have hS := hS.2 hc
      refine Wp.exit rfl (Wp.seq (Wp.region (sP (Value.int .i64 0) hs fun _ hs => ?_)))
      exact wpList_nil (Wp.ret (leaveE (K := fun v _ => K v) hs (resT hs rfl rfl) hMM.2 (fun _ _ => hS)))
set_option linter.unusedVariables false in
def S_chaffref_Has (s1 : X_api_Set) (b2 : Int) (M : Mem) (K : Value → Prop) : Prop :=
  (InI (b2.tdiv 64) ∧ ((0 : Int) ≤ b2.tdiv 64 ∧ b2.tdiv 64 < (4 : Int) ∧ (∃ x4 : Int, [s1.w0, s1.w1, s1.w2, s1.w3][0 + (b2.tdiv 64).toNat * 1]? = some x4 ∧ ((0 : Int) ≤ b2.tmod 64 ∧ K (Value.bool (((bShr .u64 x4 (b2.tmod 64)).tmod 2 : Int) == (1 : Int)))))))
set_option linter.unusedVariables false in
set_option maxRecDepth 100000 in
theorem s_chaffref_Has (s1 : X_api_Set) (b2 : Int) (M : Mem) (K : Value → Prop) (hS : S_chaffref_Has s1 b2 M K) : CallE Try.prog 18 #[s1.val, (Value.int .i64 b2)] M (fun v _ => K v) := by
  refine enterE Try.func18 rfl 14 rfl (Nat.le_of_ble_eq_true rfl) (fun E a hs => ?_)
  unfold S_chaffref_Has at hS
  have hMM := MX.refl M E
  change Sx 14 E [] M E a [(0, s1.val), (1, (Value.int .i64 b2))] [] [] at hs
  refine Wp.seq (Wp.region (stepBox [(Value.int .u64 s1.w0), (Value.int .u64 s1.w1), (Value.int .u64 s1.w2), (Value.int .u64 s1.w3)] hs rfl rfl rfl (by decide) (fun _ _ b3 hEb3 hs => ?_)))
  replace hs := hs.chbx (bs' := [⟨b3, 29, (List.map (Value.int .u64) [s1.w0, s1.w1, s1.w2, s1.w3])⟩]) rfl
  refine sP (Value.bool false) hs fun _ hs => ?_
  refine wpList_nil (Wp.seq (Wp.region (sP (Value.int .i64 b2) hs fun _ hs => ?_)))
  obtain ⟨hI, hS⟩ := hS
  refine sY (Value.int .i64 (b2.tdiv 64)) hs (Yl.eq (Yl.pure (v := Value.int .i64 (IntKind.wrap .i64 (b2.tdiv 64))) rfl (fun _ => by kernel_rfl)) (congrArg (Value.int .i64) (wrap_in hI))) fun _ hs => ?_
  obtain ⟨h0, hl, hS⟩ := hS
  refine sY (Value.pointer (some ⟨b3, 0 + (b2.tdiv 64).toNat * 1, none⟩)) hs (Yl.indexA (e := 27) (sz := 1) rfl rfl rfl rfl (by kernel_rfl) (by kernel_rfl) h0 hl) fun _ hs => ?_
  obtain ⟨x4, hz, hS⟩ := hS
  refine sY (Value.int .u64 x4) hs (Yl.loadBD 0 rfl rfl rfl (by kernel_rfl) hz) fun _ hs => ?_
  refine sP (Value.int .i64 b2) hs fun _ hs => ?_
  refine sP (Value.int .i64 (b2.tmod 64)) hs fun _ hs => ?_
  obtain ⟨h0, hS⟩ := hS
  refine sY (Value.int .u64 (bShr .u64 x4 (b2.tmod 64))) hs (Yl.shr rfl rfl rfl rfl h0) fun _ hs => ?_
  refine sP (Value.int .u64 ((bShr .u64 x4 (b2.tmod 64)).tmod 2)) hs fun _ hs => ?_
  refine sP (Value.bool (((bShr .u64 x4 (b2.tmod 64)).tmod 2 : Int) == (1 : Int))) hs fun _ hs => ?_
  refine sP (Value.bool (((bShr .u64 x4 (b2.tmod 64)).tmod 2 : Int) == (1 : Int))) hs fun _ hs => ?_
  exact wpList_nil (Wp.ret (leaveE (K := fun v _ => K v) hs (resT hs rfl rfl) hMM.2 (fun _ _ => hS)))
set_option linter.unusedVariables false in
def S_chaffref_frame_on_J1 (f1 : Option Addr) (next2 : Int) (at3 : Int) (call4 : Bool) (M : Mem) (many8 : Int) (K : Value → Mem → Prop) : Prop :=
  (∀ (M10 : Mem) (b9 : Nat), M.le M10 → At M10 b9 0 [(Value.int .i64 next2), (Value.int .i64 at3), (Value.bool call4), (Value.pointer f1), (Value.int .i64 many8)] → (∀ M', M10.le M' → K (Value.pointer (some ⟨b9, 0, none⟩)) M'))
set_option linter.unusedVariables false in
def S_chaffref_frame_on (f1 : Option Addr) (next2 : Int) (at3 : Int) (call4 : Bool) (M : Mem) (K : Value → Mem → Prop) : Prop :=
  ((¬ (f1.isNone = true) → (∃ (b5 o6 : Nat), f1 = some ⟨b5, o6, none⟩ ∧ (∃ (x7 : Int), At M b5 (o6 + 4) [(Value.int .i64 x7)] ∧ (InI (x7 + 1) ∧ (S_chaffref_frame_on_J1 f1 next2 at3 call4 M (x7 + 1) K))))) ∧ (¬ (¬ (f1.isNone = true)) → (S_chaffref_frame_on_J1 f1 next2 at3 call4 M 1 K)))
set_option linter.unusedVariables false in
set_option maxRecDepth 100000 in
theorem s_chaffref_frame_on (f1 : Option Addr) (next2 : Int) (at3 : Int) (call4 : Bool) (M : Mem) (K : Value → Mem → Prop) (hS : S_chaffref_frame_on f1 next2 at3 call4 M K) : CallE Try.prog 75 #[(Value.pointer f1), (Value.int .i64 next2), (Value.int .i64 at3), (Value.bool call4)] M K := by
  refine enterE Try.func75 rfl 24 rfl (Nat.le_of_ble_eq_true rfl) (fun E a hs => ?_)
  unfold S_chaffref_frame_on at hS
  have hMM := MX.refl M E
  change Sx 24 E [] M E a [(0, (Value.pointer f1)), (1, (Value.int .i64 next2)), (2, (Value.int .i64 at3)), (3, (Value.bool call4))] [] [] at hs
  refine Wp.seq (Wp.region (sP (Value.pointer none) hs fun _ hs => ?_))
  refine wpList_nil (Wp.seq (Wp.region (sP (Value.int .i64 1) hs fun _ hs => ?_)))
  refine wpList_nil (Wp.join (fun a w => ∃ (many8 : Int), Sx 24 E [] M w a [(0, (Value.pointer f1)), (1, (Value.int .i64 next2)), (2, (Value.int .i64 at3)), (3, (Value.bool call4)), (9, (Value.int .i64 many8))] [] [] ∧ (S_chaffref_frame_on_J1 f1 next2 at3 call4 M many8 K)) ?_ ?_)
  · refine Wp.seq (Wp.region (sP (Value.pointer f1) hs fun _ hs => ?_))
    refine sY (Value.bool (!f1.isNone)) hs (Yl.ptrNotNil (e := 118) rfl (by kernel_rfl) rfl rfl) fun _ hs => ?_
    refine wpList_nil (Wp.cond hs rfl rfl (bnot_iff Iff.rfl) (fun hc => ?_) (fun hc => ?_))
    · have hS := hS.1 hc
      refine Wp.region (sP (Value.pointer f1) hs fun _ hs => ?_)
      obtain ⟨b5, o6, hp, hS⟩ := hS
      refine sY (Value.pointer (some ⟨b5, o6, none⟩)) hs (Yl.nilck rfl rfl hp) fun _ hs => ?_
      refine sP (Value.pointer (some ⟨b5, o6 + 4, none⟩)) hs fun _ hs => ?_
      obtain ⟨x7, hat, hS⟩ := hS
      refine sY (Value.int .i64 x7) hs (Yl.loadV (vs := [(Value.int .i64 x7)]) false rfl rfl (by kernel_rfl) hat) fun _ hs => ?_
      obtain ⟨hI, hS⟩ := hS
      refine sY (Value.int .i64 (x7 + 1)) hs (Yl.eq (Yl.pure (v := Value.int .i64 (IntKind.wrap .i64 (x7 + 1))) rfl (fun _ => by kernel_rfl)) (congrArg (Value.int .i64) (wrap_in hI))) fun _ hs => ?_
      refine sP (Value.int .i64 (x7 + 1)) hs fun _ hs => ?_
      exact wpList_nil (⟨(x7 + 1), (hs.weak (List.Sublist.refl _) (List.Sublist.refl _) ⟨rfl, rfl, rfl, rfl, rfl, trivial⟩), hS⟩)
    · have hS := hS.2 hc
      exact Wp.skip (⟨1, (hs.weak (List.Sublist.refl _) (List.Sublist.refl _) ⟨rfl, rfl, rfl, rfl, rfl, trivial⟩), hS⟩)
  · intro a w hJ
    obtain ⟨many8, hs, hS⟩ := hJ
    unfold S_chaffref_frame_on_J1 at hS
    refine Wp.seq (Wp.region (sP (Value.int .i64 next2) hs fun _ hs => ?_))
    refine sP (Value.int .i64 at3) hs fun _ hs => ?_
    refine sP (Value.bool call4) hs fun _ hs => ?_
    refine sP (Value.pointer f1) hs fun _ hs => ?_
    refine sP (Value.int .i64 many8) hs fun _ hs => ?_
    refine sP (X_chaffref_frame.mk next2 at3 call4 f1 many8).val hs fun _ hs => ?_
    refine stepBox [(Value.int .i64 next2), (Value.int .i64 at3), (Value.bool call4), (Value.pointer f1), (Value.int .i64 many8)] hs rfl rfl rfl (by decide) (fun _ _ b9 hEb9 hs => ?_)
    refine sP (Value.pointer (some ⟨b9, 0, none⟩)) hs fun _ hs => ?_
    refine wpList_nil (Wp.ret ?_)
    obtain ⟨M10, hle, hat, hnew, hs⟩ := hs.freeze 0 rfl hEb9 rfl
    have hMM := hMM.next hle hnew
    have hS := hS M10 b9 hle hat
    exact leaveE (K := K) hs (resT hs rfl rfl) hMM.2 hS
set_option linter.unusedVariables false in
def S_chaffref_Machine_J8 (pc200 : Int) (at201 : Int) (top202 : Option Addr) (n203 : Int) (I205 : Int → Int → Option Addr → Int → Mem → Prop) (mu206 : Int → Int → Option Addr → Int → Nat) (pc294 : Int) (at295 : Int) (top296 : Option Addr) (M297 : Mem) (K : Value → Prop) : Prop :=
  (InI (n203 + 1) ∧ I205 pc294 at295 top296 (n203 + 1) M297 ∧ mu206 pc294 at295 top296 (n203 + 1) < mu206 pc200 at201 top202 n203)
set_option linter.unusedVariables false in
def S_chaffref_Machine_J7 (pc200 : Int) (at201 : Int) (top202 : Option Addr) (n203 : Int) (I205 : Int → Int → Option Addr → Int → Mem → Prop) (mu206 : Int → Int → Option Addr → Int → Nat) (pc261 : Int) (at262 : Int) (fails264 : Bool) (M265 : Mem) (top274 : Option Addr) (x284 : Bool) (K : Value → Prop) : Prop :=
  ((x284 = true → K (Value.tuple #[(X_api_Outcome.mk false 0).val, (Value.int .i64 0)])) ∧ (¬ (x284 = true) → ((fails264 = true → (∃ (b285 o286 : Nat), top274 = some ⟨b285, o286, none⟩ ∧ (∃ (x287 : Int), At M265 b285 o286 [(Value.int .i64 x287)] ∧ (∃ (b288 o289 : Nat), top274 = some ⟨b288, o289, none⟩ ∧ (∃ (x290 : Int), At M265 b288 (o289 + 1) [(Value.int .i64 x290)] ∧ (∃ (b291 o292 : Nat), top274 = some ⟨b291, o292, none⟩ ∧ (∃ (x293 : Option Addr), At M265 b291 (o292 + 3) [(Value.pointer x293)] ∧ (S_chaffref_Machine_J8 pc200 at201 top202 n203 I205 mu206 x287 x290 x293 M265 K)))))))) ∧ (¬ (fails264 = true) → (S_chaffref_Machine_J8 pc200 at201 top202 n203 I205 mu206 pc261 at262 top274 M265 K)))))
set_option linter.unusedVariables false in
def S_chaffref_Machine_J6 (pc200 : Int) (at201 : Int) (top202 : Option Addr) (n203 : Int) (I205 : Int → Int → Option Addr → Int → Mem → Prop) (mu206 : Int → Int → Option Addr → Int → Nat) (pc261 : Int) (at262 : Int) (fails264 : Bool) (M265 : Mem) (top274 : Option Addr) (I275 : Option Addr → Prop) (mu276 : Option Addr → Nat) (x280 : Bool) (K : Value → Prop) : Prop :=
  ((x280 = true → (∃ (b281 o282 : Nat), top274 = some ⟨b281, o282, none⟩ ∧ (∃ (x283 : Option Addr), At M265 b281 (o282 + 3) [(Value.pointer x283)] ∧ I275 x283 ∧ mu276 x283 < mu276 top274))) ∧ (¬ (x280 = true) → ((fails264 = true → (S_chaffref_Machine_J7 pc200 at201 top202 n203 I205 mu206 pc261 at262 fails264 M265 top274 top274.isNone K)) ∧ (¬ (fails264 = true) → (S_chaffref_Machine_J7 pc200 at201 top202 n203 I205 mu206 pc261 at262 fails264 M265 top274 false K)))))
set_option linter.unusedVariables false in
def S_chaffref_Machine_J5 (pc200 : Int) (at201 : Int) (top202 : Option Addr) (n203 : Int) (I205 : Int → Int → Option Addr → Int → Mem → Prop) (mu206 : Int → Int → Option Addr → Int → Nat) (pc261 : Int) (at262 : Int) (top263 : Option Addr) (fails264 : Bool) (M265 : Mem) (K : Value → Prop) : Prop :=
  (∃ (I275 : Option Addr → Prop) (mu276 : Option Addr → Nat), I275 top263 ∧ ∀ (top274 : Option Addr), (I275 top274 → ((fails264 = true → ((¬ (top274.isNone = true) → (∃ (b277 o278 : Nat), top274 = some ⟨b277, o278, none⟩ ∧ (∃ (x279 : Bool), At M265 b277 (o278 + 2) [(Value.bool x279)] ∧ (S_chaffref_Machine_J6 pc200 at201 top202 n203 I205 mu206 pc261 at262 fails264 M265 top274 I275 mu276 x279 K)))) ∧ (¬ (¬ (top274.isNone = true)) → (S_chaffref_Machine_J6 pc200 at201 top202 n203 I205 mu206 pc261 at262 fails264 M265 top274 I275 mu276 false K)))) ∧ (¬ (fails264 = true) → (S_chaffref_Machine_J6 pc200 at201 top202 n203 I205 mu206 pc261 at262 fails264 M265 top274 I275 mu276 false K)))))
set_option linter.unusedVariables false in
def S_chaffref_Machine_J4 (pc200 : Int) (at201 : Int) (top202 : Option Addr) (n203 : Int) (I205 : Int → Int → Option Addr → Int → Mem → Prop) (mu206 : Int → Int → Option Addr → Int → Nat) (M220 : Mem) (fails230 : Bool) (K : Value → Prop) : Prop :=
  (InI (at201 + 1) ∧ (S_chaffref_Machine_J5 pc200 at201 top202 n203 I205 mu206 (pc200 + 1) (at201 + 1) top202 fails230 M220 K))
set_option linter.unusedVariables false in
def S_chaffref_Machine_J3 (s4 : List UInt8) (pc200 : Int) (at201 : Int) (top202 : Option Addr) (n203 : Int) (I205 : Int → Int → Option Addr → Int → Mem → Prop) (mu206 : Int → Int → Option Addr → Int → Nat) (x209 : X_api_Inst) (M220 : Mem) (x227 : Bool) (K : Value → Prop) : Prop :=
  ((x227 = true → K (Value.tuple #[(X_api_Outcome.mk false 0).val, (Value.int .i64 14)])) ∧ (¬ (x227 = true) → (((x209.Op : Int) = 1 → ((at201 ≥ ((s4.length : Nat) : Int) → (S_chaffref_Machine_J4 pc200 at201 top202 n203 I205 mu206 M220 true K)) ∧ (¬ (at201 ≥ ((s4.length : Nat) : Int)) → (InI (((s4.length : Nat) : Int) - 1) ∧ (∃ c228 : UInt8, (0 : Int) ≤ (if ((s4.length : Nat) : Int) - 1 < at201 then ((s4.length : Nat) : Int) - 1 else at201) ∧ s4[(if ((s4.length : Nat) : Int) - 1 < at201 then ((s4.length : Nat) : Int) - 1 else at201).toNat]? = some c228 ∧ (CallE Try.prog 18 #[x209.Set.val, (Value.int .i64 (IntKind.wrap .i64 (c228.toNat : Int)))] M220 (fun v _ => ∃ (x229 : Bool), v = (Value.bool x229) ∧ (S_chaffref_Machine_J4 pc200 at201 top202 n203 I205 mu206 M220 (!x229) K)))))))) ∧ (¬ ((x209.Op : Int) = 1) → (((x209.Op : Int) = 2 → (S_chaffref_Machine_J5 pc200 at201 top202 n203 I205 mu206 x209.N at201 top202 false M220 K)) ∧ (¬ ((x209.Op : Int) = 2) → (((x209.Op : Int) = 3 → (CallE Try.prog 75 #[(Value.pointer top202), (Value.int .i64 x209.N), (Value.int .i64 at201), (Value.bool false)] M220 (fun v M232 => ∃ (x231 : Option Addr), v = (Value.pointer x231) ∧ (S_chaffref_Machine_J5 pc200 at201 top202 n203 I205 mu206 (pc200 + 1) at201 x231 false M232 K)))) ∧ (¬ ((x209.Op : Int) = 3) → (((x209.Op : Int) = 4 → (∃ (b233 o234 : Nat), top202 = some ⟨b233, o234, none⟩ ∧ (∃ (x235 : Option Addr), At M220 b233 (o234 + 3) [(Value.pointer x235)] ∧ (S_chaffref_Machine_J5 pc200 at201 top202 n203 I205 mu206 x209.N at201 x235 false M220 K)))) ∧ (¬ ((x209.Op : Int) = 4) → (((x209.Op : Int) = 5 → (CallE Try.prog 75 #[(Value.pointer top202), (Value.int .i64 (pc200 + 1)), (Value.int .i64 0), (Value.bool true)] M220 (fun v M237 => ∃ (x236 : Option Addr), v = (Value.pointer x236) ∧ (S_chaffref_Machine_J5 pc200 at201 top202 n203 I205 mu206 x209.N at201 x236 false M237 K)))) ∧ (¬ ((x209.Op : Int) = 5) → (((x209.Op : Int) = 6 → (∃ (b238 o239 : Nat), top202 = some ⟨b238, o239, none⟩ ∧ (∃ (x240 : Option Addr), At M220 b238 (o239 + 3) [(Value.pointer x240)] ∧ (∃ (b241 o242 : Nat), top202 = some ⟨b241, o242, none⟩ ∧ (∃ (x243 : Int), At M220 b241 o242 [(Value.int .i64 x243)] ∧ (S_chaffref_Machine_J5 pc200 at201 top202 n203 I205 mu206 x243 at201 x240 false M220 K)))))) ∧ (¬ ((x209.Op : Int) = 6) → (((x209.Op : Int) = 7 → (S_chaffref_Machine_J5 pc200 at201 top202 n203 I205 mu206 (pc200 + 1) at201 top202 true M220 K)) ∧ (¬ ((x209.Op : Int) = 7) → (((x209.Op : Int) = 8 → K (Value.tuple #[(X_api_Outcome.mk true at201).val, (Value.int .i64 0)])) ∧ (¬ ((x209.Op : Int) = 8) → (((x209.Op : Int) = 9 → (∃ (b244 o245 : Nat), top202 = some ⟨b244, o245, none⟩ ∧ (∃ (x246 : Option Addr), At M220 b244 (o245 + 3) [(Value.pointer x246)] ∧ (∃ (b247 o248 : Nat), top202 = some ⟨b247, o248, none⟩ ∧ (∃ (x249 : Int), At M220 b247 o248 [(Value.int .i64 x249)] ∧ (CallE Try.prog 75 #[(Value.pointer x246), (Value.int .i64 x249), (Value.int .i64 at201), (Value.bool false)] M220 (fun v M251 => ∃ (x250 : Option Addr), v = (Value.pointer x250) ∧ (S_chaffref_Machine_J5 pc200 at201 top202 n203 I205 mu206 x209.N at201 x250 false M251 K)))))))) ∧ (¬ ((x209.Op : Int) = 9) → (((x209.Op : Int) = 10 → (∃ (b252 o253 : Nat), top202 = some ⟨b252, o253, none⟩ ∧ (∃ (x254 : Option Addr), At M220 b252 (o253 + 3) [(Value.pointer x254)] ∧ (∃ (b255 o256 : Nat), top202 = some ⟨b255, o256, none⟩ ∧ (∃ (x257 : Int), At M220 b255 (o256 + 1) [(Value.int .i64 x257)] ∧ (S_chaffref_Machine_J5 pc200 at201 top202 n203 I205 mu206 x209.N x257 x254 false M220 K)))))) ∧ (¬ ((x209.Op : Int) = 10) → (((x209.Op : Int) = 11 → (∃ (b258 o259 : Nat), top202 = some ⟨b258, o259, none⟩ ∧ (∃ (x260 : Option Addr), At M220 b258 (o259 + 3) [(Value.pointer x260)] ∧ (S_chaffref_Machine_J5 pc200 at201 top202 n203 I205 mu206 (pc200 + 1) at201 x260 true M220 K)))) ∧ (¬ ((x209.Op : Int) = 11) → (S_chaffref_Machine_J5 pc200 at201 top202 n203 I205 mu206 (pc200 + 1) at201 top202 false M220 K)))))))))))))))))))))))))
set_option linter.unusedVariables false in
def S_chaffref_Machine_J2 (s4 : List UInt8) (pc200 : Int) (at201 : Int) (top202 : Option Addr) (n203 : Int) (I205 : Int → Int → Option Addr → Int → Mem → Prop) (mu206 : Int → Int → Option Addr → Int → Nat) (x209 : X_api_Inst) (x219 : Bool) (M220 : Mem) (K : Value → Prop) : Prop :=
  ((x219 = true → K (Value.tuple #[(X_api_Outcome.mk false 0).val, (Value.int .i64 13)])) ∧ (¬ (x219 = true) → (((x209.Op : Int) = 3 → ((¬ (top202.isNone = true) → (∃ (b221 o222 : Nat), top202 = some ⟨b221, o222, none⟩ ∧ (∃ (x223 : Int), At M220 b221 (o222 + 4) [(Value.int .i64 x223)] ∧ (S_chaffref_Machine_J3 s4 pc200 at201 top202 n203 I205 mu206 x209 M220 ((x223 : Int) == (10000 : Int)) K)))) ∧ (¬ (¬ (top202.isNone = true)) → (S_chaffref_Machine_J3 s4 pc200 at201 top202 n203 I205 mu206 x209 M220 false K)))) ∧ (¬ ((x209.Op : Int) = 3) → (((x209.Op : Int) = 5 → ((¬ (top202.isNone = true) → (∃ (b224 o225 : Nat), top202 = some ⟨b224, o225, none⟩ ∧ (∃ (x226 : Int), At M220 b224 (o225 + 4) [(Value.int .i64 x226)] ∧ (S_chaffref_Machine_J3 s4 pc200 at201 top202 n203 I205 mu206 x209 M220 ((x226 : Int) == (10000 : Int)) K)))) ∧ (¬ (¬ (top202.isNone = true)) → (S_chaffref_Machine_J3 s4 pc200 at201 top202 n203 I205 mu206 x209 M220 false K)))) ∧ (¬ ((x209.Op : Int) = 5) → (S_chaffref_Machine_J3 s4 pc200 at201 top202 n203 I205 mu206 x209 M220 false K)))))))
set_option linter.unusedVariables false in
def S_chaffref_Machine_J1 (la1 : Option Addr) (ll2 : Nat) (s4 : List UInt8) (steps5 : Int) (M : Mem) (x8 : Bool) (K : Value → Prop) : Prop :=
  ((x8 = true → K (Value.tuple #[(X_api_Outcome.mk false 0).val, (Value.int .i64 1)])) ∧ (¬ (x8 = true) → (∃ (I205 : Int → Int → Option Addr → Int → Mem → Prop) (mu206 : Int → Int → Option Addr → Int → Nat), I205 0 0 none 0 M ∧ ∀ (pc200 : Int) (at201 : Int) (top202 : Option Addr) (n203 : Int) (M204 : Mem), (I205 pc200 at201 top202 n203 M204 → ((pc200 ≥ ((ll2 : Nat) : Int) → K (Value.tuple #[(X_api_Outcome.mk false 0).val, (Value.int .i64 13)])) ∧ (¬ (pc200 ≥ ((ll2 : Nat) : Int)) → (((n203 : Int) = steps5 → K (Value.tuple #[(X_api_Outcome.mk false 0).val, (Value.int .i64 10)])) ∧ (¬ ((n203 : Int) = steps5) → (∃ (b207 o208 : Nat), la1 = some ⟨b207, o208, none⟩ ∧ (0 : Int) ≤ pc200 ∧ pc200 < ((ll2 : Nat) : Int) ∧ (∃ (x209 : X_api_Inst), At M204 b207 (o208 + pc200.toNat * 6) x209.cells ∧ (InI (pc200 + 1) ∧ (∀ (M214 : Mem) (ad212 : Option Addr) (cap213 : Nat), M204.le M214 → SlV M214 ad212 5 cap213 1 [(Value.int .i64 4), (Value.int .i64 6), (Value.int .i64 9), (Value.int .i64 10), (Value.int .i64 11)] → (CallE Try.prog 64 #[(Value.slice ad212 5 cap213), (Value.int .i64 x209.Op)] M214 (fun v _ => ∃ (x215 : Bool), v = (Value.bool x215) ∧ ((x215 = true → ((top202.isNone = true → (S_chaffref_Machine_J2 s4 pc200 at201 top202 n203 I205 mu206 x209 true M214 K)) ∧ (¬ (top202.isNone = true) → (∃ (b216 o217 : Nat), top202 = some ⟨b216, o217, none⟩ ∧ (∃ (x218 : Bool), At M204 b216 (o217 + 2) [(Value.bool x218)] ∧ (S_chaffref_Machine_J2 s4 pc200 at201 top202 n203 I205 mu206 x209 (!(x218 == ((x209.Op : Int) == (6 : Int)))) M214 K)))))) ∧ (¬ (x215 = true) → (S_chaffref_Machine_J2 s4 pc200 at201 top202 n203 I205 mu206 x209 false M214 K)))))))))))))))))
set_option linter.unusedVariables false in
def S_chaffref_Machine (la1 : Option Addr) (ll2 : Nat) (lc3 : Nat) (s4 : List UInt8) (steps5 : Int) (M : Mem) (K : Value → Prop) : Prop :=
  (CallE Try.prog 24 #[(Value.slice la1 ll2 lc3)] M (fun v _ => ∃ (x7 : Int), v = (Value.int .i64 x7) ∧ (((x7 : Int) ≠ 0 → K (Value.tuple #[(X_api_Outcome.mk false 0).val, (Value.int .i64 x7)])) ∧ (¬ ((x7 : Int) ≠ 0) → ((((s4.length : Nat) : Int) > 60 → K (Value.tuple #[(X_api_Outcome.mk false 0).val, (Value.int .i64 2)])) ∧ (¬ (((s4.length : Nat) : Int) > 60) → ((steps5 < 0 → (S_chaffref_Machine_J1 la1 ll2 s4 steps5 M true K)) ∧ (¬ (steps5 < 0) → (S_chaffref_Machine_J1 la1 ll2 s4 steps5 M (decide (steps5 > 16777216)) K)))))))))

end Go.Proofs.Ytdlfhmdojbejkaa.lawCodeRuns
