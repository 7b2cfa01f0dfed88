/- What the code that ExprChecks reaches computes, function for function, as shallow propositions; printed by program. -/
import Derived.Test.YtdlfhmdojbejkaaRows
import Derived.Test.YtdlfhmdojbejkaaGxD
import Derived.Test.YtdlfhmdojbejkaaGxE
import Derived.Test.YtdlfhmdojbejkaaGxS
import Derived.Test.YtdlfhmdojbejkaaGxU
namespace Go.Proofs.Ytdlfhmdojbejkaa.lawExprChecks
open Go.Gx Go.RowKit Go.ChangeShapes Go.WideShapes Go.ChangeAt
structure X_api_Set where
  w0 : Int
  w1 : Int
  w2 : Int
  w3 : Int
def X_api_Set.cells (x : X_api_Set) : List Value := [(Value.int .u64 x.w0), (Value.int .u64 x.w1), (Value.int .u64 x.w2), (Value.int .u64 x.w3)]
def X_api_Set.val (x : X_api_Set) : Value := .agg x.cells.toArray
structure X_api_Expr where
  Kind : Int
  Set : X_api_Set
  Text : List UInt8
  Kids_a : Option Addr
  Kids_l : Nat
  Kids_c : Nat
def X_api_Expr.cells (x : X_api_Expr) : List Value := [(Value.int .i64 x.Kind), (Value.int .u64 x.Set.w0), (Value.int .u64 x.Set.w1), (Value.int .u64 x.Set.w2), (Value.int .u64 x.Set.w3), (Value.string (mkS x.Text)), (Value.slice x.Kids_a x.Kids_l x.Kids_c)]
def X_api_Expr.val (x : X_api_Expr) : Value := .agg x.cells.toArray
structure X_chaffref_Node where
  Expr : X_api_Expr
  Deep : Int
def X_chaffref_Node.cells (x : X_chaffref_Node) : List Value := [(Value.int .i64 x.Expr.Kind), (Value.int .u64 x.Expr.Set.w0), (Value.int .u64 x.Expr.Set.w1), (Value.int .u64 x.Expr.Set.w2), (Value.int .u64 x.Expr.Set.w3), (Value.string (mkS x.Expr.Text)), (Value.slice x.Expr.Kids_a x.Expr.Kids_l x.Expr.Kids_c), (Value.int .i64 x.Deep)]
def X_chaffref_Node.val (x : X_chaffref_Node) : Value := .agg x.cells.toArray
set_option linter.unusedVariables false in
def C_expr_looker_look (e3 : X_api_Expr) (deep4 : Int) (l2 : Int) (M : Mem) (K : Value → Int → Mem → Prop) : Prop := ∀ (b1 : Nat), CallL Try.prog 68 #[(Value.pointer (some ⟨b1, 0, none⟩)), e3.val, (Value.int .i64 deep4)] M [⟨b1, 100, [(Value.int .i64 l2)]⟩] [] (fun v lb' lr' M' => ∃ (c5 : Int), lb' = [⟨b1, 100, [(Value.int .i64 c5)]⟩] ∧ lr' = [] ∧ K v c5 M')
set_option linter.unusedVariables false in
def S_expr_Name_J3 (x10 : Int) (I11 : Int → Prop) (mu12 : Int → Nat) (x18 : Bool) (K : Value → Prop) : Prop :=
  ((x18 = true → K (Value.bool false)) ∧ (¬ (x18 = true) → (InI (x10 + 1) ∧ I11 (x10 + 1) ∧ mu12 (x10 + 1) < mu12 x10)))
set_option linter.unusedVariables false in
def S_expr_Name_J2 (s1 : List UInt8) (x10 : Int) (I11 : Int → Prop) (mu12 : Int → Nat) (letter15 : Bool) (K : Value → Prop) : Prop :=
  ((¬ (letter15 = true) → (((x10 : Int) = 0 → (S_expr_Name_J3 x10 I11 mu12 true K)) ∧ (¬ ((x10 : Int) = 0) → (∃ c16 : UInt8, (0 : Int) ≤ x10 ∧ s1[x10.toNat]? = some c16 ∧ (((c16.toNat : Int) < 48 → (S_expr_Name_J3 x10 I11 mu12 true K)) ∧ (¬ ((c16.toNat : Int) < 48) → (∃ c17 : UInt8, (0 : Int) ≤ x10 ∧ s1[x10.toNat]? = some c17 ∧ (S_expr_Name_J3 x10 I11 mu12 (decide ((c17.toNat : Int) > 57)) K)))))))) ∧ (¬ (¬ (letter15 = true)) → (S_expr_Name_J3 x10 I11 mu12 false K)))
set_option linter.unusedVariables false in
def S_expr_Name_J1 (s1 : List UInt8) (x2 : Bool) (K : Value → Prop) : Prop :=
  ((x2 = true → K (Value.bool false)) ∧ (¬ (x2 = true) → (∃ (I11 : Int → Prop) (mu12 : Int → Nat), I11 0 ∧ ∀ (x10 : Int), (I11 x10 → ((x10 < ((s1.length : Nat) : Int) → (∃ c13 : UInt8, (0 : Int) ≤ x10 ∧ s1[x10.toNat]? = some c13 ∧ ((bOr .u8 (c13.toNat : Int) 32 ≥ 97 → (∃ c14 : UInt8, (0 : Int) ≤ x10 ∧ s1[x10.toNat]? = some c14 ∧ (S_expr_Name_J2 s1 x10 I11 mu12 (decide (bOr .u8 (c14.toNat : Int) 32 ≤ 122)) K))) ∧ (¬ (bOr .u8 (c13.toNat : Int) 32 ≥ 97) → (S_expr_Name_J2 s1 x10 I11 mu12 false K))))) ∧ (¬ (x10 < ((s1.length : Nat) : Int)) → K (Value.bool true)))))))
set_option linter.unusedVariables false in
def S_expr_Name (s1 : List UInt8) (M : Mem) (K : Value → Prop) : Prop :=
  ((s1 = ([] : List UInt8) → (S_expr_Name_J1 s1 true K)) ∧ (¬ (s1 = ([] : List UInt8)) → (S_expr_Name_J1 s1 (decide (((s1.length : Nat) : Int) > 8)) K)))
set_option linter.unusedVariables false in
set_option maxRecDepth 100000 in
theorem s_expr_Name (s1 : List UInt8) (M : Mem) (K : Value → Prop) (hS : S_expr_Name s1 M K) : CallE Try.prog 33 #[(Value.string (mkS s1))] M (fun v _ => K v) := by
  refine enterE Try.func33 rfl 48 rfl (Nat.le_of_ble_eq_true rfl) (fun E a hs => ?_)
  unfold S_expr_Name at hS
  have hMM := MX.refl M E
  change Sx 48 E [] M E a [(0, (Value.string (mkS s1)))] [] [] at hs
  refine Wp.seq ?_
  refine Wp.region ?_
  refine stepY (v := (Value.bool false)) hs rfl rfl (by decide) (Yl.pure rfl (fun _ => by kernel_rfl)) (fun _ hs => ?_)
  refine wpList_nil ?_
  refine Wp.seq ?_
  refine Wp.join (fun a w => ∃ (x2 : Bool), Sx 48 E [] M w a [(0, (Value.string (mkS s1))), (11, (Value.bool x2))] [] [] ∧ (S_expr_Name_J1 s1 x2 K)) ?_ ?_
  · refine Wp.region ?_
    refine stepY (v := (Value.string (mkS s1))) hs rfl rfl (by decide) (Yl.pure rfl (fun _ => by kernel_rfl)) (fun _ hs => ?_)
    refine stepY (v := (Value.bool ((mkS s1).toList == (mkS ([] : List UInt8)).toList))) hs rfl rfl (by decide) (Yl.pure rfl (fun _ => by kernel_rfl)) (fun _ hs => ?_)
    refine stepY (v := (Value.bool ((mkS s1).toList == (mkS ([] : List UInt8)).toList))) hs rfl rfl (by decide) (Yl.pure rfl (fun _ => by kernel_rfl)) (fun _ hs => ?_)
    refine bsplit ((mkS s1).toList == (mkS ([] : List UInt8)).toList) mkS_beq (fun hb hc => ?_) (fun hb hc => ?_)
    · have hs := hs.bt hb
      have hS := hS.1 hc
      refine step_no hs rfl rfl rfl rfl rfl (by decide) (fun _ hs => ?_)
      refine step_no hs rfl rfl rfl rfl rfl (by decide) (fun _ hs => ?_)
      refine step_no hs rfl rfl rfl rfl rfl (by decide) (fun _ hs => ?_)
      refine stepY (v := (Value.bool true)) hs rfl rfl (by decide) (Yl.pure rfl (fun _ => by kernel_rfl)) (fun _ hs => ?_)
      refine wpList_nil ?_
      exact ⟨true, (hs.weak (List.Sublist.refl _) (List.Sublist.refl _) ⟨rfl, rfl, trivial⟩), hS⟩
    · have hs := hs.bf hb
      have hS := hS.2 hc
      refine step_yes hs rfl rfl rfl ?_
      refine stepY (v := (Value.string (mkS s1))) hs rfl rfl (by decide) (Yl.pure rfl (fun _ => by kernel_rfl)) (fun _ hs => ?_)
      refine step_yes hs rfl rfl rfl ?_
      refine stepY (v := (Value.int .i64 ((s1.length : Nat) : Int))) hs rfl rfl (by decide) (Yl.pure rfl (fun _ => by kernel_rfl)) (fun _ hs => ?_)
      refine step_yes hs rfl rfl rfl ?_
      refine stepY (v := (Value.bool (decide (((s1.length : Nat) : Int) > 8)))) hs rfl rfl (by decide) (Yl.pure rfl (fun _ => by kernel_rfl)) (fun _ hs => ?_)
      refine stepY (v := (Value.bool (decide (((s1.length : Nat) : Int) > 8)))) hs rfl rfl (by decide) (Yl.pure rfl (fun _ => by kernel_rfl)) (fun _ hs => ?_)
      refine wpList_nil ?_
      exact ⟨(decide (((s1.length : Nat) : Int) > 8)), (hs.weak (List.Sublist.refl _) (List.Sublist.refl _) ⟨rfl, rfl, trivial⟩), hS⟩
  · intro a w hJ
    obtain ⟨x2, hs, hS⟩ := hJ
    unfold S_expr_Name_J1 at hS
    refine Wp.cond hs rfl rfl Iff.rfl (fun hc => ?_) (fun hc => ?_)
    · have hS := hS.1 hc
      refine Wp.seq ?_
      refine Wp.region ?_
      refine stepY (v := (Value.bool false)) hs rfl rfl (by decide) (Yl.pure rfl (fun _ => by kernel_rfl)) (fun _ hs => ?_)
      refine wpList_nil ?_
      refine Wp.ret ?_
      exact leaveE (K := fun v _ => K v) hs (resT hs rfl rfl) hMM.2 (fun _ _ => hS)
    · have hS := hS.2 hc
      refine Wp.skip ?_
      refine Wp.seq ?_
      refine Wp.seq ?_
      refine Wp.region ?_
      refine stepY (v := (Value.string (mkS s1))) hs rfl rfl (by decide) (Yl.pure rfl (fun _ => by kernel_rfl)) (fun _ hs => ?_)
      refine stepY (v := (Value.int .i64 ((s1.length : Nat) : Int))) hs rfl rfl (by decide) (Yl.pure rfl (fun _ => by kernel_rfl)) (fun _ hs => ?_)
      refine stepY (v := (Value.int .i64 0)) hs rfl rfl (by decide) (Yl.pure rfl (fun _ => by kernel_rfl)) (fun _ hs => ?_)
      refine wpList_nil ?_
      refine Wp.block ?_
      obtain ⟨I11, mu12, hI0, hst⟩ := hS
      refine Wp.loop (σ := (Int)) (fun s a w => match s with | (x10) => Sx 48 E [] M w a [(0, (Value.string (mkS s1))), (13, (Value.int .i64 ((s1.length : Nat) : Int))), (14, (Value.int .i64 x10))] [] [] ∧ I11 x10) (fun s => match s with | (x10) => mu12 x10) (0) ⟨(hs.weak (List.Sublist.refl _) (List.Sublist.refl _) ⟨rfl, rfl, rfl, trivial⟩), hI0⟩ (fun x10 a w hI => ?_)
      obtain ⟨hs, hI⟩ := hI
      have hS := hst x10 hI
      clear hst hI0 hI
      refine Wp.seq ?_
      refine Wp.region ?_
      refine stepY (v := (Value.bool (decide (x10 < ((s1.length : Nat) : Int))))) hs rfl rfl (by decide) (Yl.pure rfl (fun _ => by kernel_rfl)) (fun _ hs => ?_)
      refine wpList_nil ?_
      refine Wp.seq ?_
      refine Wp.cond hs rfl rfl decide_eq_true_iff (fun hc => ?_) (fun hc => ?_)
      · have hS := hS.1 hc
        refine Wp.skip ?_
        refine Wp.seq ?_
        refine Wp.block ?_
        refine Wp.seq ?_
        refine Wp.region ?_
        refine stepY (v := (Value.int .i64 x10)) hs rfl rfl (by decide) (Yl.pure rfl (fun _ => by kernel_rfl)) (fun _ hs => ?_)
        refine stepY (v := (Value.int .i64 x10)) hs rfl rfl (by decide) (Yl.pure rfl (fun _ => by kernel_rfl)) (fun _ hs => ?_)
        refine wpList_nil ?_
        refine Wp.join (fun a w => ∃ (letter15 : Bool), Sx 48 E [] M w a [(0, (Value.string (mkS s1))), (3, (Value.int .i64 x10)), (4, (Value.bool letter15)), (13, (Value.int .i64 ((s1.length : Nat) : Int))), (14, (Value.int .i64 x10))] [] [] ∧ (S_expr_Name_J2 s1 x10 I11 mu12 letter15 K)) ?_ ?_
        · refine Wp.region ?_
          refine stepY (v := (Value.string (mkS s1))) hs rfl rfl (by decide) (Yl.pure rfl (fun _ => by kernel_rfl)) (fun _ hs => ?_)
          refine stepY (v := (Value.int .i64 x10)) hs rfl rfl (by decide) (Yl.pure rfl (fun _ => by kernel_rfl)) (fun _ hs => ?_)
          obtain ⟨c13, h0, hi, hS⟩ := hS
          refine stepY (v := (Value.int .u8 (c13.toNat : Int))) hs rfl rfl (by decide) (Yl.indexStr rfl rfl rfl rfl (by kernel_rfl) h0 hi) (fun _ hs => ?_)
          refine stepY (v := (Value.int .u8 (bOr .u8 (c13.toNat : Int) 32))) hs rfl rfl (by decide) (Yl.pure rfl (fun _ => by kernel_rfl)) (fun _ hs => ?_)
          refine stepY (v := (Value.bool (decide (bOr .u8 (c13.toNat : Int) 32 ≥ 97)))) hs rfl rfl (by decide) (Yl.pure rfl (fun _ => by kernel_rfl)) (fun _ hs => ?_)
          refine stepY (v := (Value.bool (decide (bOr .u8 (c13.toNat : Int) 32 ≥ 97)))) hs rfl rfl (by decide) (Yl.pure rfl (fun _ => by kernel_rfl)) (fun _ hs => ?_)
          refine bsplit (decide (bOr .u8 (c13.toNat : Int) 32 ≥ 97)) decide_eq_true_iff (fun hb hc => ?_) (fun hb hc => ?_)
          · have hs := hs.bt hb
            have hS := hS.1 hc
            refine step_yes hs rfl rfl rfl ?_
            refine stepY (v := (Value.string (mkS s1))) hs rfl rfl (by decide) (Yl.pure rfl (fun _ => by kernel_rfl)) (fun _ hs => ?_)
            refine step_yes hs rfl rfl rfl ?_
            refine stepY (v := (Value.int .i64 x10)) hs rfl rfl (by decide) (Yl.pure rfl (fun _ => by kernel_rfl)) (fun _ hs => ?_)
            refine step_yes hs rfl rfl rfl ?_
            obtain ⟨c14, h0, hi, hS⟩ := hS
            refine stepY (v := (Value.int .u8 (c14.toNat : Int))) hs rfl rfl (by decide) (Yl.indexStr rfl rfl rfl rfl (by kernel_rfl) h0 hi) (fun _ hs => ?_)
            refine step_yes hs rfl rfl rfl ?_
            refine stepY (v := (Value.int .u8 (bOr .u8 (c14.toNat : Int) 32))) hs rfl rfl (by decide) (Yl.pure rfl (fun _ => by kernel_rfl)) (fun _ hs => ?_)
            refine step_yes hs rfl rfl rfl ?_
            refine stepY (v := (Value.bool (decide (bOr .u8 (c14.toNat : Int) 32 ≤ 122)))) hs rfl rfl (by decide) (Yl.pure rfl (fun _ => by kernel_rfl)) (fun _ hs => ?_)
            refine stepY (v := (Value.bool (decide (bOr .u8 (c14.toNat : Int) 32 ≤ 122)))) hs rfl rfl (by decide) (Yl.pure rfl (fun _ => by kernel_rfl)) (fun _ hs => ?_)
            refine stepY (v := (Value.bool (decide (bOr .u8 (c14.toNat : Int) 32 ≤ 122)))) hs rfl rfl (by decide) (Yl.pure rfl (fun _ => by kernel_rfl)) (fun _ hs => ?_)
            refine wpList_nil ?_
            exact ⟨(decide (bOr .u8 (c14.toNat : Int) 32 ≤ 122)), (hs.weak (List.Sublist.refl _) (List.Sublist.refl _) ⟨rfl, rfl, rfl, rfl, rfl, trivial⟩), hS⟩
          · have hs := hs.bf hb
            have hS := hS.2 hc
            refine step_no hs rfl rfl rfl rfl rfl (by decide) (fun _ hs => ?_)
            refine step_no hs rfl rfl rfl rfl rfl (by decide) (fun _ hs => ?_)
            refine step_no hs rfl rfl rfl rfl rfl (by decide) (fun _ hs => ?_)
            refine step_no hs rfl rfl rfl rfl rfl (by decide) (fun _ hs => ?_)
            refine step_no hs rfl rfl rfl rfl rfl (by decide) (fun _ hs => ?_)
            refine stepY (v := (Value.bool false)) hs rfl rfl (by decide) (Yl.pure rfl (fun _ => by kernel_rfl)) (fun _ hs => ?_)
            refine stepY (v := (Value.bool false)) hs rfl rfl (by decide) (Yl.pure rfl (fun _ => by kernel_rfl)) (fun _ hs => ?_)
            refine wpList_nil ?_
            exact ⟨false, (hs.weak (List.Sublist.refl _) (List.Sublist.refl _) ⟨rfl, rfl, rfl, rfl, rfl, trivial⟩), hS⟩
        · intro a w hJ
          obtain ⟨letter15, hs, hS⟩ := hJ
          unfold S_expr_Name_J2 at hS
          refine Wp.join (fun a w => ∃ (x18 : Bool), Sx 48 E [] M w a [(0, (Value.string (mkS s1))), (13, (Value.int .i64 ((s1.length : Nat) : Int))), (14, (Value.int .i64 x10)), (46, (Value.bool x18))] [] [] ∧ (S_expr_Name_J3 x10 I11 mu12 x18 K)) ?_ ?_
          · refine Wp.region ?_
            refine stepY (v := (Value.bool letter15)) hs rfl rfl (by decide) (Yl.pure rfl (fun _ => by kernel_rfl)) (fun _ hs => ?_)
            refine stepY (v := (Value.bool (!letter15))) hs rfl rfl (by decide) (Yl.pure rfl (fun _ => by kernel_rfl)) (fun _ hs => ?_)
            refine stepY (v := (Value.bool (!letter15))) hs rfl rfl (by decide) (Yl.pure rfl (fun _ => by kernel_rfl)) (fun _ hs => ?_)
            refine bsplit (!letter15) (bnot_iff Iff.rfl) (fun hb hc => ?_) (fun hb hc => ?_)
            · have hs := hs.bt hb
              have hS := hS.1 hc
              refine step_yes hs rfl rfl rfl ?_
              refine stepY (v := (Value.int .i64 x10)) hs rfl rfl (by decide) (Yl.pure rfl (fun _ => by kernel_rfl)) (fun _ hs => ?_)
              refine step_yes hs rfl rfl rfl ?_
              refine stepY (v := (Value.bool ((x10 : Int) == (0 : Int)))) hs rfl rfl (by decide) (Yl.pure rfl (fun _ => by kernel_rfl)) (fun _ hs => ?_)
              refine step_yes hs rfl rfl rfl ?_
              refine stepY (v := (Value.bool ((x10 : Int) == (0 : Int)))) hs rfl rfl (by decide) (Yl.pure rfl (fun _ => by kernel_rfl)) (fun _ hs => ?_)
              refine bsplit ((x10 : Int) == (0 : Int)) beq_iff_eq (fun hb hc => ?_) (fun hb hc => ?_)
              · have hs := hs.bt hb
                have hS := hS.1 hc
                refine step_no hs rfl rfl rfl rfl rfl (by decide) (fun _ hs => ?_)
                refine step_no hs rfl rfl rfl rfl rfl (by decide) (fun _ hs => ?_)
                refine step_no hs rfl rfl rfl rfl rfl (by decide) (fun _ hs => ?_)
                refine step_no hs rfl rfl rfl rfl rfl (by decide) (fun _ hs => ?_)
                refine step_yes hs rfl rfl rfl ?_
                refine stepY (v := (Value.bool true)) hs rfl rfl (by decide) (Yl.pure rfl (fun _ => by kernel_rfl)) (fun _ hs => ?_)
                refine step_yes hs rfl rfl rfl ?_
                refine stepY (v := (Value.bool true)) hs rfl rfl (by decide) (Yl.pure rfl (fun _ => by kernel_rfl)) (fun _ hs => ?_)
                refine step_no hs rfl rfl rfl rfl rfl (by decide) (fun _ hs => ?_)
                refine step_no hs rfl rfl rfl rfl rfl (by decide) (fun _ hs => ?_)
                refine step_no hs rfl rfl rfl rfl rfl (by decide) (fun _ hs => ?_)
                refine step_no hs rfl rfl rfl rfl rfl (by decide) (fun _ hs => ?_)
                refine step_yes hs rfl rfl rfl ?_
                refine stepY (v := (Value.bool true)) hs rfl rfl (by decide) (Yl.pure rfl (fun _ => by kernel_rfl)) (fun _ hs => ?_)
                refine stepY (v := (Value.bool true)) hs rfl rfl (by decide) (Yl.pure rfl (fun _ => by kernel_rfl)) (fun _ hs => ?_)
                refine wpList_nil ?_
                exact ⟨true, (hs.weak (List.Sublist.refl _) (List.Sublist.refl _) ⟨rfl, rfl, rfl, rfl, trivial⟩), hS⟩
              · have hs := hs.bf hb
                have hS := hS.2 hc
                refine step_yes hs rfl rfl rfl ?_
                refine stepY (v := (Value.string (mkS s1))) hs rfl rfl (by decide) (Yl.pure rfl (fun _ => by kernel_rfl)) (fun _ hs => ?_)
                refine step_yes hs rfl rfl rfl ?_
                refine stepY (v := (Value.int .i64 x10)) hs rfl rfl (by decide) (Yl.pure rfl (fun _ => by kernel_rfl)) (fun _ hs => ?_)
                refine step_yes hs rfl rfl rfl ?_
                obtain ⟨c16, h0, hi, hS⟩ := hS
                refine stepY (v := (Value.int .u8 (c16.toNat : Int))) hs rfl rfl (by decide) (Yl.indexStr rfl rfl rfl rfl (by kernel_rfl) h0 hi) (fun _ hs => ?_)
                refine step_yes hs rfl rfl rfl ?_
                refine stepY (v := (Value.bool (decide ((c16.toNat : Int) < 48)))) hs rfl rfl (by decide) (Yl.pure rfl (fun _ => by kernel_rfl)) (fun _ hs => ?_)
                refine step_yes hs rfl rfl rfl ?_
                refine stepY (v := (Value.bool (decide ((c16.toNat : Int) < 48)))) hs rfl rfl (by decide) (Yl.pure rfl (fun _ => by kernel_rfl)) (fun _ hs => ?_)
                refine step_yes hs rfl rfl rfl ?_
                refine stepY (v := (Value.bool (decide ((c16.toNat : Int) < 48)))) hs rfl rfl (by decide) (Yl.pure rfl (fun _ => by kernel_rfl)) (fun _ hs => ?_)
                refine bsplit (decide ((c16.toNat : Int) < 48)) decide_eq_true_iff (fun hb hc => ?_) (fun hb hc => ?_)
                · have hs := hs.bt hb
                  have hS := hS.1 hc
                  refine step_no hs rfl rfl rfl rfl rfl (by decide) (fun _ hs => ?_)
                  refine step_no hs rfl rfl rfl rfl rfl (by decide) (fun _ hs => ?_)
                  refine step_no hs rfl rfl rfl rfl rfl (by decide) (fun _ hs => ?_)
                  refine step_no hs rfl rfl rfl rfl rfl (by decide) (fun _ hs => ?_)
                  refine step_yes hs rfl rfl rfl ?_
                  refine stepY (v := (Value.bool true)) hs rfl rfl (by decide) (Yl.pure rfl (fun _ => by kernel_rfl)) (fun _ hs => ?_)
                  refine stepY (v := (Value.bool true)) hs rfl rfl (by decide) (Yl.pure rfl (fun _ => by kernel_rfl)) (fun _ hs => ?_)
                  refine wpList_nil ?_
                  exact ⟨true, (hs.weak (List.Sublist.refl _) (List.Sublist.refl _) ⟨rfl, rfl, rfl, rfl, trivial⟩), hS⟩
                · have hs := hs.bf hb
                  have hS := hS.2 hc
                  refine step_yes hs rfl rfl rfl ?_
                  refine stepY (v := (Value.string (mkS s1))) hs rfl rfl (by decide) (Yl.pure rfl (fun _ => by kernel_rfl)) (fun _ hs => ?_)
                  refine step_yes hs rfl rfl rfl ?_
                  refine stepY (v := (Value.int .i64 x10)) hs rfl rfl (by decide) (Yl.pure rfl (fun _ => by kernel_rfl)) (fun _ hs => ?_)
                  refine step_yes hs rfl rfl rfl ?_
                  obtain ⟨c17, h0, hi, hS⟩ := hS
                  refine stepY (v := (Value.int .u8 (c17.toNat : Int))) hs rfl rfl (by decide) (Yl.indexStr rfl rfl rfl rfl (by kernel_rfl) h0 hi) (fun _ hs => ?_)
                  refine step_yes hs rfl rfl rfl ?_
                  refine stepY (v := (Value.bool (decide ((c17.toNat : Int) > 57)))) hs rfl rfl (by decide) (Yl.pure rfl (fun _ => by kernel_rfl)) (fun _ hs => ?_)
                  refine step_yes hs rfl rfl rfl ?_
                  refine stepY (v := (Value.bool (decide ((c17.toNat : Int) > 57)))) hs rfl rfl (by decide) (Yl.pure rfl (fun _ => by kernel_rfl)) (fun _ hs => ?_)
                  refine stepY (v := (Value.bool (decide ((c17.toNat : Int) > 57)))) hs rfl rfl (by decide) (Yl.pure rfl (fun _ => by kernel_rfl)) (fun _ hs => ?_)
                  refine wpList_nil ?_
                  exact ⟨(decide ((c17.toNat : Int) > 57)), (hs.weak (List.Sublist.refl _) (List.Sublist.refl _) ⟨rfl, rfl, rfl, rfl, trivial⟩), hS⟩
            · have hs := hs.bf hb
              have hS := hS.2 hc
              refine step_no hs rfl rfl rfl rfl rfl (by decide) (fun _ hs => ?_)
              refine step_no hs rfl rfl rfl rfl rfl (by decide) (fun _ hs => ?_)
              refine step_no hs rfl rfl rfl rfl rfl (by decide) (fun _ hs => ?_)
              refine step_nou hs rfl rfl rfl rfl (by decide) (fun _ hs => ?_)
              refine step_nou hs rfl rfl rfl rfl (by decide) (fun _ hs => ?_)
              refine step_nou hs rfl rfl rfl rfl (by decide) (fun _ hs => ?_)
              refine step_nou hs rfl rfl rfl rfl (by decide) (fun _ hs => ?_)
              refine step_no hs rfl rfl rfl rfl rfl (by decide) (fun _ hs => ?_)
              refine step_no hs rfl rfl rfl rfl rfl (by decide) (fun _ hs => ?_)
              refine step_nou hs rfl rfl rfl rfl (by decide) (fun _ hs => ?_)
              refine step_nou hs rfl rfl rfl rfl (by decide) (fun _ hs => ?_)
              refine step_nou hs rfl rfl rfl rfl (by decide) (fun _ hs => ?_)
              refine step_nou hs rfl rfl rfl rfl (by decide) (fun _ hs => ?_)
              refine step_no hs rfl rfl rfl rfl rfl (by decide) (fun _ hs => ?_)
              refine stepY (v := (Value.bool false)) hs rfl rfl (by decide) (Yl.pure rfl (fun _ => by kernel_rfl)) (fun _ hs => ?_)
              refine wpList_nil ?_
              exact ⟨false, (hs.weak (List.Sublist.refl _) (List.Sublist.refl _) ⟨rfl, rfl, rfl, rfl, trivial⟩), hS⟩
          · intro a w hJ
            obtain ⟨x18, hs, hS⟩ := hJ
            unfold S_expr_Name_J3 at hS
            refine Wp.cond hs rfl rfl Iff.rfl (fun hc => ?_) (fun hc => ?_)
            · have hS := hS.1 hc
              refine Wp.seq ?_
              refine Wp.region ?_
              refine stepY (v := (Value.bool false)) hs rfl rfl (by decide) (Yl.pure rfl (fun _ => by kernel_rfl)) (fun _ hs => ?_)
              refine wpList_nil ?_
              refine Wp.ret ?_
              exact leaveE (K := fun v _ => K v) hs (resT hs rfl rfl) hMM.2 (fun _ _ => hS)
            · have hS := hS.2 hc
              refine Wp.skip ?_
              refine Wp.region ?_
              obtain ⟨hI, hS⟩ := hS
              refine stepY (v := (Value.int .i64 (x10 + 1))) hs rfl rfl (by decide) (Yl.eq (Yl.pure (v := Value.int .i64 (IntKind.wrap .i64 (x10 + 1))) rfl (fun _ => by kernel_rfl)) (congrArg (Value.int .i64) (wrap_in hI))) (fun _ hs => ?_)
              refine stepY (v := (Value.int .i64 (x10 + 1))) hs rfl rfl (by decide) (Yl.pure rfl (fun _ => by kernel_rfl)) (fun _ hs => ?_)
              refine wpList_nil ?_
              exact ⟨(x10 + 1), ⟨(hs.weak (List.Sublist.refl _) (List.Sublist.refl _) ⟨rfl, rfl, rfl, trivial⟩), hS.1⟩, hS.2⟩
      · have hS := hS.2 hc
        refine Wp.exit rfl ?_
        refine Wp.seq ?_
        refine Wp.region ?_
        refine stepY (v := (Value.bool true)) hs rfl rfl (by decide) (Yl.pure rfl (fun _ => by kernel_rfl)) (fun _ hs => ?_)
        refine wpList_nil ?_
        refine Wp.ret ?_
        exact leaveE (K := fun v _ => K v) hs (resT hs rfl rfl) hMM.2 (fun _ _ => hS)
theorem f_expr_Name (s1 : List UInt8) (M : Mem) (K : Value → Prop) (hS : S_expr_Name s1 M K) : CallF Try.prog (Value.func (.func 33) #[] #[]) [(Value.string (mkS s1))] M (fun v _ => K v) := ⟨33, _, _, _, rfl, Try.func33, rfl, (by decide), s_expr_Name _ _ _ hS⟩
set_option linter.unusedVariables false in
def S_chaffref_letter (b1 : Int) (M : Mem) (K : Value → Prop) : Prop :=
  ((b1 ≥ 97 → ((b1 ≤ 122 → K (Value.bool true)) ∧ (¬ (b1 ≤ 122) → ((b1 ≥ 65 → K (Value.bool (decide (b1 ≤ 90)))) ∧ (¬ (b1 ≥ 65) → K (Value.bool false)))))) ∧ (¬ (b1 ≥ 97) → ((b1 ≥ 65 → K (Value.bool (decide (b1 ≤ 90)))) ∧ (¬ (b1 ≥ 65) → K (Value.bool false)))))
set_option linter.unusedVariables false in
set_option maxRecDepth 100000 in
theorem s_chaffref_letter (b1 : Int) (M : Mem) (K : Value → Prop) (hS : S_chaffref_letter b1 M K) : CallE Try.prog 66 #[(Value.int .u8 b1)] M (fun v _ => K v) := by
  refine enterE Try.func66 rfl 17 rfl (Nat.le_of_ble_eq_true rfl) (fun E a hs => ?_)
  unfold S_chaffref_letter at hS
  have hMM := MX.refl M E
  change Sx 17 E [] M E a [(0, (Value.int .u8 b1))] [] [] at hs
  refine Wp.seq ?_
  refine Wp.region ?_
  refine stepY (v := (Value.bool false)) hs rfl rfl (by decide) (Yl.pure rfl (fun _ => by kernel_rfl)) (fun _ hs => ?_)
  refine wpList_nil ?_
  refine Wp.seq ?_
  refine Wp.region ?_
  refine stepY (v := (Value.int .u8 b1)) hs rfl rfl (by decide) (Yl.pure rfl (fun _ => by kernel_rfl)) (fun _ hs => ?_)
  refine stepY (v := (Value.bool (decide (b1 ≥ 97)))) hs rfl rfl (by decide) (Yl.pure rfl (fun _ => by kernel_rfl)) (fun _ hs => ?_)
  refine stepY (v := (Value.bool (decide (b1 ≥ 97)))) hs rfl rfl (by decide) (Yl.pure rfl (fun _ => by kernel_rfl)) (fun _ hs => ?_)
  refine bsplit (decide (b1 ≥ 97)) decide_eq_true_iff (fun hb hc => ?_) (fun hb hc => ?_)
  · have hs := hs.bt hb
    have hS := hS.1 hc
    refine step_yes hs rfl rfl rfl ?_
    refine stepY (v := (Value.int .u8 b1)) hs rfl rfl (by decide) (Yl.pure rfl (fun _ => by kernel_rfl)) (fun _ hs => ?_)
    refine step_yes hs rfl rfl rfl ?_
    refine stepY (v := (Value.bool (decide (b1 ≤ 122)))) hs rfl rfl (by decide) (Yl.pure rfl (fun _ => by kernel_rfl)) (fun _ hs => ?_)
    refine stepY (v := (Value.bool (decide (b1 ≤ 122)))) hs rfl rfl (by decide) (Yl.pure rfl (fun _ => by kernel_rfl)) (fun _ hs => ?_)
    refine stepY (v := (Value.bool (decide (b1 ≤ 122)))) hs rfl rfl (by decide) (Yl.pure rfl (fun _ => by kernel_rfl)) (fun _ hs => ?_)
    refine bsplit (decide (b1 ≤ 122)) decide_eq_true_iff (fun hb hc => ?_) (fun hb hc => ?_)
    · have hs := hs.bt hb
      have hS := hS.1 hc
      refine step_no hs rfl rfl rfl rfl rfl (by decide) (fun _ hs => ?_)
      refine step_no hs rfl rfl rfl rfl rfl (by decide) (fun _ hs => ?_)
      refine step_no hs rfl rfl rfl rfl rfl (by decide) (fun _ hs => ?_)
      refine step_nou hs rfl rfl rfl rfl (by decide) (fun _ hs => ?_)
      refine step_nou hs rfl rfl rfl rfl (by decide) (fun _ hs => ?_)
      refine step_no hs rfl rfl rfl rfl rfl (by decide) (fun _ hs => ?_)
      refine stepY (v := (Value.bool true)) hs rfl rfl (by decide) (Yl.pure rfl (fun _ => by kernel_rfl)) (fun _ hs => ?_)
      refine stepY (v := (Value.bool true)) hs rfl rfl (by decide) (Yl.pure rfl (fun _ => by kernel_rfl)) (fun _ hs => ?_)
      refine wpList_nil ?_
      refine Wp.ret ?_
      exact leaveE (K := fun v _ => K v) hs (resT hs rfl rfl) hMM.2 (fun _ _ => hS)
    · have hs := hs.bf hb
      have hS := hS.2 hc
      refine step_yes hs rfl rfl rfl ?_
      refine stepY (v := (Value.int .u8 b1)) hs rfl rfl (by decide) (Yl.pure rfl (fun _ => by kernel_rfl)) (fun _ hs => ?_)
      refine step_yes hs rfl rfl rfl ?_
      refine stepY (v := (Value.bool (decide (b1 ≥ 65)))) hs rfl rfl (by decide) (Yl.pure rfl (fun _ => by kernel_rfl)) (fun _ hs => ?_)
      refine step_yes hs rfl rfl rfl ?_
      refine stepY (v := (Value.bool (decide (b1 ≥ 65)))) hs rfl rfl (by decide) (Yl.pure rfl (fun _ => by kernel_rfl)) (fun _ hs => ?_)
      refine bsplit (decide (b1 ≥ 65)) decide_eq_true_iff (fun hb hc => ?_) (fun hb hc => ?_)
      · have hs := hs.bt hb
        have hS := hS.1 hc
        refine step_yes hs rfl rfl rfl ?_
        refine stepY (v := (Value.int .u8 b1)) hs rfl rfl (by decide) (Yl.pure rfl (fun _ => by kernel_rfl)) (fun _ hs => ?_)
        refine step_yes hs rfl rfl rfl ?_
        refine stepY (v := (Value.bool (decide (b1 ≤ 90)))) hs rfl rfl (by decide) (Yl.pure rfl (fun _ => by kernel_rfl)) (fun _ hs => ?_)
        refine step_yes hs rfl rfl rfl ?_
        refine stepY (v := (Value.bool (decide (b1 ≤ 90)))) hs rfl rfl (by decide) (Yl.pure rfl (fun _ => by kernel_rfl)) (fun _ hs => ?_)
        refine stepY (v := (Value.bool (decide (b1 ≤ 90)))) hs rfl rfl (by decide) (Yl.pure rfl (fun _ => by kernel_rfl)) (fun _ hs => ?_)
        refine stepY (v := (Value.bool (decide (b1 ≤ 90)))) hs rfl rfl (by decide) (Yl.pure rfl (fun _ => by kernel_rfl)) (fun _ hs => ?_)
        refine wpList_nil ?_
        refine Wp.ret ?_
        exact leaveE (K := fun v _ => K v) hs (resT hs rfl rfl) hMM.2 (fun _ _ => hS)
      · have hs := hs.bf hb
        have hS := hS.2 hc
        refine step_no hs rfl rfl rfl rfl rfl (by decide) (fun _ hs => ?_)
        refine step_no hs rfl rfl rfl rfl rfl (by decide) (fun _ hs => ?_)
        refine step_yes hs rfl rfl rfl ?_
        refine stepY (v := (Value.bool false)) hs rfl rfl (by decide) (Yl.pure rfl (fun _ => by kernel_rfl)) (fun _ hs => ?_)
        refine stepY (v := (Value.bool false)) hs rfl rfl (by decide) (Yl.pure rfl (fun _ => by kernel_rfl)) (fun _ hs => ?_)
        refine stepY (v := (Value.bool false)) hs rfl rfl (by decide) (Yl.pure rfl (fun _ => by kernel_rfl)) (fun _ hs => ?_)
        refine wpList_nil ?_
        refine Wp.ret ?_
        exact leaveE (K := fun v _ => K v) hs (resT hs rfl rfl) hMM.2 (fun _ _ => hS)
  · have hs := hs.bf hb
    have hS := hS.2 hc
    refine step_no hs rfl rfl rfl rfl rfl (by decide) (fun _ hs => ?_)
    refine step_no hs rfl rfl rfl rfl rfl (by decide) (fun _ hs => ?_)
    refine stepY (v := (Value.bool false)) hs rfl rfl (by decide) (Yl.pure rfl (fun _ => by kernel_rfl)) (fun _ hs => ?_)
    refine stepY (v := (Value.bool false)) hs rfl rfl (by decide) (Yl.pure rfl (fun _ => by kernel_rfl)) (fun _ hs => ?_)
    refine step_yes hs rfl rfl rfl ?_
    refine stepY (v := (Value.int .u8 b1)) hs rfl rfl (by decide) (Yl.pure rfl (fun _ => by kernel_rfl)) (fun _ hs => ?_)
    refine step_yes hs rfl rfl rfl ?_
    refine stepY (v := (Value.bool (decide (b1 ≥ 65)))) hs rfl rfl (by decide) (Yl.pure rfl (fun _ => by kernel_rfl)) (fun _ hs => ?_)
    refine step_yes hs rfl rfl rfl ?_
    refine stepY (v := (Value.bool (decide (b1 ≥ 65)))) hs rfl rfl (by decide) (Yl.pure rfl (fun _ => by kernel_rfl)) (fun _ hs => ?_)
    refine bsplit (decide (b1 ≥ 65)) decide_eq_true_iff (fun hb hc => ?_) (fun hb hc => ?_)
    · have hs := hs.bt hb
      have hS := hS.1 hc
      refine step_yes hs rfl rfl rfl ?_
      refine stepY (v := (Value.int .u8 b1)) hs rfl rfl (by decide) (Yl.pure rfl (fun _ => by kernel_rfl)) (fun _ hs => ?_)
      refine step_yes hs rfl rfl rfl ?_
      refine stepY (v := (Value.bool (decide (b1 ≤ 90)))) hs rfl rfl (by decide) (Yl.pure rfl (fun _ => by kernel_rfl)) (fun _ hs => ?_)
      refine step_yes hs rfl rfl rfl ?_
      refine stepY (v := (Value.bool (decide (b1 ≤ 90)))) hs rfl rfl (by decide) (Yl.pure rfl (fun _ => by kernel_rfl)) (fun _ hs => ?_)
      refine stepY (v := (Value.bool (decide (b1 ≤ 90)))) hs rfl rfl (by decide) (Yl.pure rfl (fun _ => by kernel_rfl)) (fun _ hs => ?_)
      refine stepY (v := (Value.bool (decide (b1 ≤ 90)))) hs rfl rfl (by decide) (Yl.pure rfl (fun _ => by kernel_rfl)) (fun _ hs => ?_)
      refine wpList_nil ?_
      refine Wp.ret ?_
      exact leaveE (K := fun v _ => K v) hs (resT hs rfl rfl) hMM.2 (fun _ _ => hS)
    · have hs := hs.bf hb
      have hS := hS.2 hc
      refine step_no hs rfl rfl rfl rfl rfl (by decide) (fun _ hs => ?_)
      refine step_no hs rfl rfl rfl rfl rfl (by decide) (fun _ hs => ?_)
      refine step_yes hs rfl rfl rfl ?_
      refine stepY (v := (Value.bool false)) hs rfl rfl (by decide) (Yl.pure rfl (fun _ => by kernel_rfl)) (fun _ hs => ?_)
      refine stepY (v := (Value.bool false)) hs rfl rfl (by decide) (Yl.pure rfl (fun _ => by kernel_rfl)) (fun _ hs => ?_)
      refine stepY (v := (Value.bool false)) hs rfl rfl (by decide) (Yl.pure rfl (fun _ => by kernel_rfl)) (fun _ hs => ?_)
      refine wpList_nil ?_
      refine Wp.ret ?_
      exact leaveE (K := fun v _ => K v) hs (resT hs rfl rfl) hMM.2 (fun _ _ => hS)
theorem f_chaffref_letter (b1 : Int) (M : Mem) (K : Value → Prop) (hS : S_chaffref_letter b1 M K) : CallF Try.prog (Value.func (.func 66) #[] #[]) [(Value.int .u8 b1)] M (fun v _ => K v) := ⟨66, _, _, _, rfl, Try.func66, rfl, (by decide), s_chaffref_letter _ _ _ hS⟩
set_option linter.unusedVariables false in
def S_chaffref_digits (b1 : Int) (M : Mem) (K : Value → Prop) : Prop :=
  ((b1 ≥ 48 → K (Value.bool (decide (b1 ≤ 57)))) ∧ (¬ (b1 ≥ 48) → K (Value.bool false)))
set_option linter.unusedVariables false in
set_option maxRecDepth 100000 in
theorem s_chaffref_digits (b1 : Int) (M : Mem) (K : Value → Prop) (hS : S_chaffref_digits b1 M K) : CallE Try.prog 67 #[(Value.int .u8 b1)] M (fun v _ => K v) := by
  refine enterE Try.func67 rfl 9 rfl (Nat.le_of_ble_eq_true rfl) (fun E a hs => ?_)
  unfold S_chaffref_digits at hS
  have hMM := MX.refl M E
  change Sx 9 E [] M E a [(0, (Value.int .u8 b1))] [] [] at hs
  refine Wp.seq ?_
  refine Wp.region ?_
  refine stepY (v := (Value.bool false)) hs rfl rfl (by decide) (Yl.pure rfl (fun _ => by kernel_rfl)) (fun _ hs => ?_)
  refine wpList_nil ?_
  refine Wp.seq ?_
  refine Wp.region ?_
  refine stepY (v := (Value.int .u8 b1)) hs rfl rfl (by decide) (Yl.pure rfl (fun _ => by kernel_rfl)) (fun _ hs => ?_)
  refine stepY (v := (Value.bool (decide (b1 ≥ 48)))) hs rfl rfl (by decide) (Yl.pure rfl (fun _ => by kernel_rfl)) (fun _ hs => ?_)
  refine stepY (v := (Value.bool (decide (b1 ≥ 48)))) hs rfl rfl (by decide) (Yl.pure rfl (fun _ => by kernel_rfl)) (fun _ hs => ?_)
  refine bsplit (decide (b1 ≥ 48)) decide_eq_true_iff (fun hb hc => ?_) (fun hb hc => ?_)
  · have hs := hs.bt hb
    have hS := hS.1 hc
    refine step_yes hs rfl rfl rfl ?_
    refine stepY (v := (Value.int .u8 b1)) hs rfl rfl (by decide) (Yl.pure rfl (fun _ => by kernel_rfl)) (fun _ hs => ?_)
    refine step_yes hs rfl rfl rfl ?_
    refine stepY (v := (Value.bool (decide (b1 ≤ 57)))) hs rfl rfl (by decide) (Yl.pure rfl (fun _ => by kernel_rfl)) (fun _ hs => ?_)
    refine stepY (v := (Value.bool (decide (b1 ≤ 57)))) hs rfl rfl (by decide) (Yl.pure rfl (fun _ => by kernel_rfl)) (fun _ hs => ?_)
    refine stepY (v := (Value.bool (decide (b1 ≤ 57)))) hs rfl rfl (by decide) (Yl.pure rfl (fun _ => by kernel_rfl)) (fun _ hs => ?_)
    refine wpList_nil ?_
    refine Wp.ret ?_
    exact leaveE (K := fun v _ => K v) hs (resT hs rfl rfl) hMM.2 (fun _ _ => hS)
  · have hs := hs.bf hb
    have hS := hS.2 hc
    refine step_no hs rfl rfl rfl rfl rfl (by decide) (fun _ hs => ?_)
    refine step_no hs rfl rfl rfl rfl rfl (by decide) (fun _ hs => ?_)
    refine stepY (v := (Value.bool false)) hs rfl rfl (by decide) (Yl.pure rfl (fun _ => by kernel_rfl)) (fun _ hs => ?_)
    refine stepY (v := (Value.bool false)) hs rfl rfl (by decide) (Yl.pure rfl (fun _ => by kernel_rfl)) (fun _ hs => ?_)
    refine wpList_nil ?_
    refine Wp.ret ?_
    exact leaveE (K := fun v _ => K v) hs (resT hs rfl rfl) hMM.2 (fun _ _ => hS)
theorem f_chaffref_digits (b1 : Int) (M : Mem) (K : Value → Prop) (hS : S_chaffref_digits b1 M K) : CallF Try.prog (Value.func (.func 67) #[] #[]) [(Value.int .u8 b1)] M (fun v _ => K v) := ⟨67, _, _, _, rfl, Try.func67, rfl, (by decide), s_chaffref_digits _ _ _ hS⟩
set_option linter.unusedVariables false in
def S_chaffref_Name_J1 (x8 : Int) (I9 : Int → Prop) (mu10 : Int → Nat) (x15 : Bool) (K : Value → Prop) : Prop :=
  ((x15 = true → K (Value.bool false)) ∧ (¬ (x15 = true) → (InI (x8 + 1) ∧ I9 (x8 + 1) ∧ mu10 (x8 + 1) < mu10 x8)))
set_option linter.unusedVariables false in
def S_chaffref_Name (s1 : List UInt8) (M : Mem) (K : Value → Prop) : Prop :=
  (∃ (I9 : Int → Prop) (mu10 : Int → Nat), I9 0 ∧ ∀ (x8 : Int), (I9 x8 → ((x8 < ((s1.length : Nat) : Int) → (∃ c11 : UInt8, (0 : Int) ≤ x8 ∧ s1[x8.toNat]? = some c11 ∧ (CallE Try.prog 66 #[(Value.int .u8 (c11.toNat : Int))] M (fun v _ => ∃ (x12 : Bool), v = (Value.bool x12) ∧ ((¬ (x12 = true) → (((x8 : Int) = 0 → (S_chaffref_Name_J1 x8 I9 mu10 true K)) ∧ (¬ ((x8 : Int) = 0) → (∃ c13 : UInt8, (0 : Int) ≤ x8 ∧ s1[x8.toNat]? = some c13 ∧ (CallE Try.prog 67 #[(Value.int .u8 (c13.toNat : Int))] M (fun v _ => ∃ (x14 : Bool), v = (Value.bool x14) ∧ (S_chaffref_Name_J1 x8 I9 mu10 (!x14) K))))))) ∧ (¬ (¬ (x12 = true)) → (S_chaffref_Name_J1 x8 I9 mu10 false K))))))) ∧ (¬ (x8 < ((s1.length : Nat) : Int)) → ((((s1.length : Nat) : Int) ≥ 1 → K (Value.bool (decide (((s1.length : Nat) : Int) ≤ 8)))) ∧ (¬ (((s1.length : Nat) : Int) ≥ 1) → K (Value.bool false)))))))
set_option linter.unusedVariables false in
set_option maxRecDepth 100000 in
theorem s_chaffref_Name (s1 : List UInt8) (M : Mem) (K : Value → Prop) (hS : S_chaffref_Name s1 M K) : CallE Try.prog 34 #[(Value.string (mkS s1))] M (fun v _ => K v) := by
  refine enterE Try.func34 rfl 34 rfl (Nat.le_of_ble_eq_true rfl) (fun E a hs => ?_)
  unfold S_chaffref_Name at hS
  have hMM := MX.refl M E
  change Sx 34 E [] M E a [(0, (Value.string (mkS s1)))] [] [] at hs
  refine Wp.seq ?_
  refine Wp.region ?_
  refine stepY (v := (Value.bool false)) hs rfl rfl (by decide) (Yl.pure rfl (fun _ => by kernel_rfl)) (fun _ hs => ?_)
  refine wpList_nil ?_
  refine Wp.seq ?_
  refine Wp.seq ?_
  refine Wp.region ?_
  refine stepY (v := (Value.string (mkS s1))) hs rfl rfl (by decide) (Yl.pure rfl (fun _ => by kernel_rfl)) (fun _ hs => ?_)
  refine stepY (v := (Value.int .i64 ((s1.length : Nat) : Int))) hs rfl rfl (by decide) (Yl.pure rfl (fun _ => by kernel_rfl)) (fun _ hs => ?_)
  refine stepY (v := (Value.int .i64 0)) hs rfl rfl (by decide) (Yl.pure rfl (fun _ => by kernel_rfl)) (fun _ hs => ?_)
  refine wpList_nil ?_
  refine Wp.block ?_
  obtain ⟨I9, mu10, hI0, hst⟩ := hS
  refine Wp.loop (σ := (Int)) (fun s a w => match s with | (x8) => Sx 34 E [] M w a [(0, (Value.string (mkS s1))), (5, (Value.int .i64 ((s1.length : Nat) : Int))), (6, (Value.int .i64 x8))] [] [] ∧ I9 x8) (fun s => match s with | (x8) => mu10 x8) (0) ⟨(hs.weak (List.Sublist.refl _) (List.Sublist.refl _) ⟨rfl, rfl, rfl, trivial⟩), hI0⟩ (fun x8 a w hI => ?_)
  obtain ⟨hs, hI⟩ := hI
  have hS := hst x8 hI
  clear hst hI0 hI
  refine Wp.seq ?_
  refine Wp.region ?_
  refine stepY (v := (Value.bool (decide (x8 < ((s1.length : Nat) : Int))))) hs rfl rfl (by decide) (Yl.pure rfl (fun _ => by kernel_rfl)) (fun _ hs => ?_)
  refine wpList_nil ?_
  refine Wp.seq ?_
  refine Wp.cond hs rfl rfl decide_eq_true_iff (fun hc => ?_) (fun hc => ?_)
  · have hS := hS.1 hc
    refine Wp.skip ?_
    refine Wp.seq ?_
    refine Wp.block ?_
    refine Wp.seq ?_
    refine Wp.region ?_
    refine stepY (v := (Value.int .i64 x8)) hs rfl rfl (by decide) (Yl.pure rfl (fun _ => by kernel_rfl)) (fun _ hs => ?_)
    refine stepY (v := (Value.int .i64 x8)) hs rfl rfl (by decide) (Yl.pure rfl (fun _ => by kernel_rfl)) (fun _ hs => ?_)
    refine wpList_nil ?_
    refine Wp.join (fun a w => ∃ (x15 : Bool), Sx 34 E [] M w a [(0, (Value.string (mkS s1))), (5, (Value.int .i64 ((s1.length : Nat) : Int))), (6, (Value.int .i64 x8)), (24, (Value.bool x15))] [] [] ∧ (S_chaffref_Name_J1 x8 I9 mu10 x15 K)) ?_ ?_
    · refine Wp.region ?_
      refine stepY (v := (Value.string (mkS s1))) hs rfl rfl (by decide) (Yl.pure rfl (fun _ => by kernel_rfl)) (fun _ hs => ?_)
      refine stepY (v := (Value.int .i64 x8)) hs rfl rfl (by decide) (Yl.pure rfl (fun _ => by kernel_rfl)) (fun _ hs => ?_)
      obtain ⟨c11, h0, hi, hS⟩ := hS
      refine stepY (v := (Value.int .u8 (c11.toNat : Int))) hs rfl rfl (by decide) (Yl.indexStr rfl rfl rfl rfl (by kernel_rfl) h0 hi) (fun _ hs => ?_)
      refine stepCallP [(Value.int .u8 (c11.toNat : Int))] hs rfl ⟨_, rfl, rfl⟩ rfl Try.func66 rfl (by kernel_rfl) (by decide) hS (fun _ _ v hS hs => ?_)
      obtain ⟨x12, hv, hS⟩ := hS
      subst hv
      refine stepY (v := (Value.bool (!x12))) hs rfl rfl (by decide) (Yl.pure rfl (fun _ => by kernel_rfl)) (fun _ hs => ?_)
      refine stepY (v := (Value.bool (!x12))) hs rfl rfl (by decide) (Yl.pure rfl (fun _ => by kernel_rfl)) (fun _ hs => ?_)
      refine bsplit (!x12) (bnot_iff Iff.rfl) (fun hb hc => ?_) (fun hb hc => ?_)
      · have hs := hs.bt hb
        have hS := hS.1 hc
        refine step_yes hs rfl rfl rfl ?_
        refine stepY (v := (Value.int .i64 x8)) hs rfl rfl (by decide) (Yl.pure rfl (fun _ => by kernel_rfl)) (fun _ hs => ?_)
        refine step_yes hs rfl rfl rfl ?_
        refine stepY (v := (Value.bool ((x8 : Int) == (0 : Int)))) hs rfl rfl (by decide) (Yl.pure rfl (fun _ => by kernel_rfl)) (fun _ hs => ?_)
        refine step_yes hs rfl rfl rfl ?_
        refine stepY (v := (Value.bool ((x8 : Int) == (0 : Int)))) hs rfl rfl (by decide) (Yl.pure rfl (fun _ => by kernel_rfl)) (fun _ hs => ?_)
        refine bsplit ((x8 : Int) == (0 : Int)) beq_iff_eq (fun hb hc => ?_) (fun hb hc => ?_)
        · have hs := hs.bt hb
          have hS := hS.1 hc
          refine step_no hs rfl rfl rfl rfl rfl (by decide) (fun _ hs => ?_)
          refine step_no hs rfl rfl rfl rfl rfl (by decide) (fun _ hs => ?_)
          refine step_no hs rfl rfl rfl rfl rfl (by decide) (fun _ hs => ?_)
          refine step_no hs rfl rfl rfl rfl rfl (by decide) (fun _ hs => ?_)
          refine step_no hs rfl rfl rfl rfl rfl (by decide) (fun _ hs => ?_)
          refine step_yes hs rfl rfl rfl ?_
          refine stepY (v := (Value.bool true)) hs rfl rfl (by decide) (Yl.pure rfl (fun _ => by kernel_rfl)) (fun _ hs => ?_)
          refine stepY (v := (Value.bool true)) hs rfl rfl (by decide) (Yl.pure rfl (fun _ => by kernel_rfl)) (fun _ hs => ?_)
          refine wpList_nil ?_
          exact ⟨true, (hs.weak (List.Sublist.refl _) (List.Sublist.refl _) ⟨rfl, rfl, rfl, rfl, trivial⟩), hS⟩
        · have hs := hs.bf hb
          have hS := hS.2 hc
          refine step_yes hs rfl rfl rfl ?_
          refine stepY (v := (Value.string (mkS s1))) hs rfl rfl (by decide) (Yl.pure rfl (fun _ => by kernel_rfl)) (fun _ hs => ?_)
          refine step_yes hs rfl rfl rfl ?_
          refine stepY (v := (Value.int .i64 x8)) hs rfl rfl (by decide) (Yl.pure rfl (fun _ => by kernel_rfl)) (fun _ hs => ?_)
          refine step_yes hs rfl rfl rfl ?_
          obtain ⟨c13, h0, hi, hS⟩ := hS
          refine stepY (v := (Value.int .u8 (c13.toNat : Int))) hs rfl rfl (by decide) (Yl.indexStr rfl rfl rfl rfl (by kernel_rfl) h0 hi) (fun _ hs => ?_)
          refine step_yes hs rfl rfl rfl ?_
          refine stepCallP [(Value.int .u8 (c13.toNat : Int))] hs rfl ⟨_, rfl, rfl⟩ rfl Try.func67 rfl (by kernel_rfl) (by decide) hS (fun _ _ v hS hs => ?_)
          obtain ⟨x14, hv, hS⟩ := hS
          subst hv
          refine step_yes hs rfl rfl rfl ?_
          refine stepY (v := (Value.bool (!x14))) hs rfl rfl (by decide) (Yl.pure rfl (fun _ => by kernel_rfl)) (fun _ hs => ?_)
          refine step_yes hs rfl rfl rfl ?_
          refine stepY (v := (Value.bool (!x14))) hs rfl rfl (by decide) (Yl.pure rfl (fun _ => by kernel_rfl)) (fun _ hs => ?_)
          refine stepY (v := (Value.bool (!x14))) hs rfl rfl (by decide) (Yl.pure rfl (fun _ => by kernel_rfl)) (fun _ hs => ?_)
          refine wpList_nil ?_
          exact ⟨(!x14), (hs.weak (List.Sublist.refl _) (List.Sublist.refl _) ⟨rfl, rfl, rfl, rfl, trivial⟩), hS⟩
      · have hs := hs.bf hb
        have hS := hS.2 hc
        refine step_no hs rfl rfl rfl rfl rfl (by decide) (fun _ hs => ?_)
        refine step_no hs rfl rfl rfl rfl rfl (by decide) (fun _ hs => ?_)
        refine step_no hs rfl rfl rfl rfl rfl (by decide) (fun _ hs => ?_)
        refine step_nou hs rfl rfl rfl rfl (by decide) (fun _ hs => ?_)
        refine step_nou hs rfl rfl rfl rfl (by decide) (fun _ hs => ?_)
        refine step_nou hs rfl rfl rfl rfl (by decide) (fun _ hs => ?_)
        refine step_nou hs rfl rfl rfl rfl (by decide) (fun _ hs => ?_)
        refine step_nou hs rfl rfl rfl rfl (by decide) (fun _ hs => ?_)
        refine step_no hs rfl rfl rfl rfl rfl (by decide) (fun _ hs => ?_)
        refine stepY (v := (Value.bool false)) hs rfl rfl (by decide) (Yl.pure rfl (fun _ => by kernel_rfl)) (fun _ hs => ?_)
        refine wpList_nil ?_
        exact ⟨false, (hs.weak (List.Sublist.refl _) (List.Sublist.refl _) ⟨rfl, rfl, rfl, rfl, trivial⟩), hS⟩
    · intro a w hJ
      obtain ⟨x15, hs, hS⟩ := hJ
      unfold S_chaffref_Name_J1 at hS
      refine Wp.cond hs rfl rfl Iff.rfl (fun hc => ?_) (fun hc => ?_)
      · have hS := hS.1 hc
        refine Wp.seq ?_
        refine Wp.region ?_
        refine stepY (v := (Value.bool false)) hs rfl rfl (by decide) (Yl.pure rfl (fun _ => by kernel_rfl)) (fun _ hs => ?_)
        refine wpList_nil ?_
        refine Wp.ret ?_
        exact leaveE (K := fun v _ => K v) hs (resT hs rfl rfl) hMM.2 (fun _ _ => hS)
      · have hS := hS.2 hc
        refine Wp.skip ?_
        refine Wp.region ?_
        obtain ⟨hI, hS⟩ := hS
        refine stepY (v := (Value.int .i64 (x8 + 1))) hs rfl rfl (by decide) (Yl.eq (Yl.pure (v := Value.int .i64 (IntKind.wrap .i64 (x8 + 1))) rfl (fun _ => by kernel_rfl)) (congrArg (Value.int .i64) (wrap_in hI))) (fun _ hs => ?_)
        refine stepY (v := (Value.int .i64 (x8 + 1))) hs rfl rfl (by decide) (Yl.pure rfl (fun _ => by kernel_rfl)) (fun _ hs => ?_)
        refine wpList_nil ?_
        exact ⟨(x8 + 1), ⟨(hs.weak (List.Sublist.refl _) (List.Sublist.refl _) ⟨rfl, rfl, rfl, trivial⟩), hS.1⟩, hS.2⟩
  · have hS := hS.2 hc
    refine Wp.exit rfl ?_
    refine Wp.seq ?_
    refine Wp.region ?_
    refine stepY (v := (Value.string (mkS s1))) hs rfl rfl (by decide) (Yl.pure rfl (fun _ => by kernel_rfl)) (fun _ hs => ?_)
    refine stepY (v := (Value.int .i64 ((s1.length : Nat) : Int))) hs rfl rfl (by decide) (Yl.pure rfl (fun _ => by kernel_rfl)) (fun _ hs => ?_)
    refine stepY (v := (Value.bool (decide (((s1.length : Nat) : Int) ≥ 1)))) hs rfl rfl (by decide) (Yl.pure rfl (fun _ => by kernel_rfl)) (fun _ hs => ?_)
    refine stepY (v := (Value.bool (decide (((s1.length : Nat) : Int) ≥ 1)))) hs rfl rfl (by decide) (Yl.pure rfl (fun _ => by kernel_rfl)) (fun _ hs => ?_)
    refine bsplit (decide (((s1.length : Nat) : Int) ≥ 1)) decide_eq_true_iff (fun hb hc => ?_) (fun hb hc => ?_)
    · have hs := hs.bt hb
      have hS := hS.1 hc
      refine step_yes hs rfl rfl rfl ?_
      refine stepY (v := (Value.string (mkS s1))) hs rfl rfl (by decide) (Yl.pure rfl (fun _ => by kernel_rfl)) (fun _ hs => ?_)
      refine step_yes hs rfl rfl rfl ?_
      refine stepY (v := (Value.int .i64 ((s1.length : Nat) : Int))) hs rfl rfl (by decide) (Yl.pure rfl (fun _ => by kernel_rfl)) (fun _ hs => ?_)
      refine step_yes hs rfl rfl rfl ?_
      refine stepY (v := (Value.bool (decide (((s1.length : Nat) : Int) ≤ 8)))) hs rfl rfl (by decide) (Yl.pure rfl (fun _ => by kernel_rfl)) (fun _ hs => ?_)
      refine stepY (v := (Value.bool (decide (((s1.length : Nat) : Int) ≤ 8)))) hs rfl rfl (by decide) (Yl.pure rfl (fun _ => by kernel_rfl)) (fun _ hs => ?_)
      refine stepY (v := (Value.bool (decide (((s1.length : Nat) : Int) ≤ 8)))) hs rfl rfl (by decide) (Yl.pure rfl (fun _ => by kernel_rfl)) (fun _ hs => ?_)
      refine wpList_nil ?_
      refine Wp.ret ?_
      exact leaveE (K := fun v _ => K v) hs (resT hs rfl rfl) hMM.2 (fun _ _ => hS)
    · have hs := hs.bf hb
      have hS := hS.2 hc
      refine step_no hs rfl rfl rfl rfl rfl (by decide) (fun _ hs => ?_)
      refine step_no hs rfl rfl rfl rfl rfl (by decide) (fun _ hs => ?_)
      refine step_no hs rfl rfl rfl rfl rfl (by decide) (fun _ hs => ?_)
      refine stepY (v := (Value.bool false)) hs rfl rfl (by decide) (Yl.pure rfl (fun _ => by kernel_rfl)) (fun _ hs => ?_)
      refine stepY (v := (Value.bool false)) hs rfl rfl (by decide) (Yl.pure rfl (fun _ => by kernel_rfl)) (fun _ hs => ?_)
      refine wpList_nil ?_
      refine Wp.ret ?_
      exact leaveE (K := fun v _ => K v) hs (resT hs rfl rfl) hMM.2 (fun _ _ => hS)
theorem f_chaffref_Name (s1 : List UInt8) (M : Mem) (K : Value → Prop) (hS : S_chaffref_Name s1 M K) : CallF Try.prog (Value.func (.func 34) #[] #[]) [(Value.string (mkS s1))] M (fun v _ => K v) := ⟨34, _, _, _, rfl, Try.func34, rfl, (by decide), s_chaffref_Name _ _ _ hS⟩
set_option linter.unusedVariables false in
def S_expr_fit_J6 (e1 : X_api_Expr) (low8 : Int) (high9 : Int) (x10 : Bool) (K : Value → Prop) : Prop :=
  ((x10 = true → K (Value.bool false)) ∧ (¬ (x10 = true) → ((((e1.Kids_l : Nat) : Int) ≥ low8 → K (Value.bool (decide (((e1.Kids_l : Nat) : Int) ≤ high9)))) ∧ (¬ (((e1.Kids_l : Nat) : Int) ≥ low8) → K (Value.bool false)))))
set_option linter.unusedVariables false in
def S_expr_fit_J5 (e1 : X_api_Expr) (low8 : Int) (high9 : Int) (K : Value → Prop) : Prop :=
  (((e1.Kind : Int) ≠ 3 → (((e1.Kind : Int) ≠ 4 → ((e1.Text ≠ ([] : List UInt8) → (S_expr_fit_J6 e1 low8 high9 true K)) ∧ (¬ (e1.Text ≠ ([] : List UInt8)) → (((e1.Kind : Int) ≠ 2 → (S_expr_fit_J6 e1 low8 high9 (!(cellsEq [e1.Set.w0, e1.Set.w1, e1.Set.w2, e1.Set.w3] [0, 0, 0, 0])) K)) ∧ (¬ ((e1.Kind : Int) ≠ 2) → (S_expr_fit_J6 e1 low8 high9 false K)))))) ∧ (¬ ((e1.Kind : Int) ≠ 4) → (((e1.Kind : Int) ≠ 2 → (S_expr_fit_J6 e1 low8 high9 (!(cellsEq [e1.Set.w0, e1.Set.w1, e1.Set.w2, e1.Set.w3] [0, 0, 0, 0])) K)) ∧ (¬ ((e1.Kind : Int) ≠ 2) → (S_expr_fit_J6 e1 low8 high9 false K)))))) ∧ (¬ ((e1.Kind : Int) ≠ 3) → (((e1.Kind : Int) ≠ 2 → (S_expr_fit_J6 e1 low8 high9 (!(cellsEq [e1.Set.w0, e1.Set.w1, e1.Set.w2, e1.Set.w3] [0, 0, 0, 0])) K)) ∧ (¬ ((e1.Kind : Int) ≠ 2) → (S_expr_fit_J6 e1 low8 high9 false K)))))
set_option linter.unusedVariables false in
def S_expr_fit_J2 (e1 : X_api_Expr) (x4 : Bool) (K : Value → Prop) : Prop :=
  ((x4 = true → K (Value.bool false)) ∧ (¬ (x4 = true) → (S_expr_fit_J5 e1 0 0 K)))
set_option linter.unusedVariables false in
def S_expr_fit_J4 (e1 : X_api_Expr) (x7 : Bool) (K : Value → Prop) : Prop :=
  ((x7 = true → (S_expr_fit_J5 e1 1 1 K)) ∧ (¬ (x7 = true) → K (Value.bool false)))
set_option linter.unusedVariables false in
def S_expr_fit_J3 (e1 : X_api_Expr) (x6 : Bool) (K : Value → Prop) : Prop :=
  ((x6 = true → (S_expr_fit_J5 e1 2 8 K)) ∧ (¬ (x6 = true) → (((e1.Kind : Int) = 7 → (S_expr_fit_J4 e1 ((e1.Kind : Int) == (7 : Int)) K)) ∧ (¬ ((e1.Kind : Int) = 7) → (((e1.Kind : Int) = 8 → (S_expr_fit_J4 e1 ((e1.Kind : Int) == (8 : Int)) K)) ∧ (¬ ((e1.Kind : Int) = 8) → (((e1.Kind : Int) = 9 → (S_expr_fit_J4 e1 ((e1.Kind : Int) == (9 : Int)) K)) ∧ (¬ ((e1.Kind : Int) = 9) → (((e1.Kind : Int) = 10 → (S_expr_fit_J4 e1 ((e1.Kind : Int) == (10 : Int)) K)) ∧ (¬ ((e1.Kind : Int) = 10) → (S_expr_fit_J4 e1 ((e1.Kind : Int) == (11 : Int)) K)))))))))))
set_option linter.unusedVariables false in
def S_expr_fit_J1 (e1 : X_api_Expr) (M : Mem) (x3 : Bool) (K : Value → Prop) : Prop :=
  ((x3 = true → (S_expr_fit_J5 e1 0 0 K)) ∧ (¬ (x3 = true) → (((e1.Kind : Int) = 3 → ((e1.Text = ([] : List UInt8) → (S_expr_fit_J2 e1 true K)) ∧ (¬ (e1.Text = ([] : List UInt8)) → (S_expr_fit_J2 e1 (decide (((e1.Text.length : Nat) : Int) > 12)) K)))) ∧ (¬ ((e1.Kind : Int) = 3) → (((e1.Kind : Int) = 4 → (CallE Try.prog 33 #[(Value.string (mkS e1.Text))] M (fun v _ => ∃ (x5 : Bool), v = (Value.bool x5) ∧ ((¬ (x5 = true) → K (Value.bool false)) ∧ (¬ (¬ (x5 = true)) → (S_expr_fit_J5 e1 0 0 K)))))) ∧ (¬ ((e1.Kind : Int) = 4) → (((e1.Kind : Int) = 5 → (S_expr_fit_J3 e1 ((e1.Kind : Int) == (5 : Int)) K)) ∧ (¬ ((e1.Kind : Int) = 5) → (S_expr_fit_J3 e1 ((e1.Kind : Int) == (6 : Int)) K)))))))))
set_option linter.unusedVariables false in
def S_expr_fit (e1 : X_api_Expr) (M : Mem) (K : Value → Prop) : Prop :=
  (((e1.Kind : Int) = 1 → (S_expr_fit_J1 e1 M ((e1.Kind : Int) == (1 : Int)) K)) ∧ (¬ ((e1.Kind : Int) = 1) → (S_expr_fit_J1 e1 M ((e1.Kind : Int) == (2 : Int)) K)))
set_option linter.unusedVariables false in
set_option maxRecDepth 100000 in
theorem s_expr_fit (e1 : X_api_Expr) (M : Mem) (K : Value → Prop) (hS : S_expr_fit e1 M K) : CallE Try.prog 84 #[e1.val] M (fun v _ => K v) := by
  refine enterE Try.func84 rfl 72 rfl (Nat.le_of_ble_eq_true rfl) (fun E a hs => ?_)
  unfold S_expr_fit at hS
  have hMM := MX.refl M E
  change Sx 72 E [] M E a [(0, e1.val)] [] [] at hs
  refine Wp.seq ?_
  refine Wp.region ?_
  refine stepBox [(Value.int .i64 e1.Kind), (Value.int .u64 e1.Set.w0), (Value.int .u64 e1.Set.w1), (Value.int .u64 e1.Set.w2), (Value.int .u64 e1.Set.w3), (Value.string (mkS e1.Text)), (Value.slice e1.Kids_a e1.Kids_l e1.Kids_c)] hs rfl rfl rfl (by decide) (fun _ _ b2 hEb2 hs => ?_)
  refine stepY (v := (Value.bool false)) hs rfl rfl (by decide) (Yl.pure rfl (fun _ => by kernel_rfl)) (fun _ hs => ?_)
  refine wpList_nil ?_
  refine Wp.seq ?_
  refine Wp.region ?_
  refine stepY (v := (Value.int .i64 0)) hs rfl rfl (by decide) (Yl.pure rfl (fun _ => by kernel_rfl)) (fun _ hs => ?_)
  refine stepY (v := (Value.int .i64 0)) hs rfl rfl (by decide) (Yl.pure rfl (fun _ => by kernel_rfl)) (fun _ hs => ?_)
  refine wpList_nil ?_
  refine Wp.join (fun a w => ∃ (low8 : Int) (high9 : Int), Sx 72 E [] M w a [(1, (Value.pointer (some ⟨b2, 0, none⟩))), (3, (Value.int .i64 low8)), (4, (Value.int .i64 high9))] [⟨b2, 55, [(Value.int .i64 e1.Kind), (Value.int .u64 e1.Set.w0), (Value.int .u64 e1.Set.w1), (Value.int .u64 e1.Set.w2), (Value.int .u64 e1.Set.w3), (Value.string (mkS e1.Text)), (Value.slice e1.Kids_a e1.Kids_l e1.Kids_c)]⟩] [] ∧ (S_expr_fit_J5 e1 low8 high9 K)) ?_ ?_
  · refine Wp.seq ?_
    refine Wp.region ?_
    refine stepY (v := (Value.pointer (some ⟨b2, 0, none⟩))) hs rfl rfl (by decide) (Yl.pure rfl (fun _ => by kernel_rfl)) (fun _ hs => ?_)
    refine stepY (v := (Value.int .i64 e1.Kind)) hs rfl rfl (by decide) (Yl.loadB (vs := [(Value.int .i64 e1.Kind)]) false 0 rfl rfl rfl (by kernel_rfl) rfl) (fun _ hs => ?_)
    refine wpList_nil ?_
    refine Wp.block ?_
    refine Wp.join (fun a w => ∃ (x3 : Bool), Sx 72 E [] M w a [(1, (Value.pointer (some ⟨b2, 0, none⟩))), (3, (Value.int .i64 0)), (4, (Value.int .i64 0)), (6, (Value.int .i64 e1.Kind)), (7, (Value.bool x3))] [⟨b2, 55, [(Value.int .i64 e1.Kind), (Value.int .u64 e1.Set.w0), (Value.int .u64 e1.Set.w1), (Value.int .u64 e1.Set.w2), (Value.int .u64 e1.Set.w3), (Value.string (mkS e1.Text)), (Value.slice e1.Kids_a e1.Kids_l e1.Kids_c)]⟩] [] ∧ (S_expr_fit_J1 e1 M x3 K)) ?_ ?_
    · refine Wp.seq ?_
      refine Wp.region ?_
      refine stepY (v := (Value.bool ((e1.Kind : Int) == (1 : Int)))) hs rfl rfl (by decide) (Yl.pure rfl (fun _ => by kernel_rfl)) (fun _ hs => ?_)
      refine stepY (v := (Value.bool ((e1.Kind : Int) == (1 : Int)))) hs rfl rfl (by decide) (Yl.pure rfl (fun _ => by kernel_rfl)) (fun _ hs => ?_)
      refine wpList_nil ?_
      refine Wp.cond hs rfl rfl beq_iff_eq (fun hc => ?_) (fun hc => ?_)
      · have hS := hS.1 hc
        refine Wp.skip ?_
        exact ⟨((e1.Kind : Int) == (1 : Int)), (hs.weak (List.Sublist.refl _) (List.Sublist.refl _) ⟨rfl, rfl, rfl, rfl, rfl, trivial⟩), hS⟩
      · have hS := hS.2 hc
        refine Wp.region ?_
        refine stepY (v := (Value.bool ((e1.Kind : Int) == (2 : Int)))) hs rfl rfl (by decide) (Yl.pure rfl (fun _ => by kernel_rfl)) (fun _ hs => ?_)
        refine stepY (v := (Value.bool ((e1.Kind : Int) == (2 : Int)))) hs rfl rfl (by decide) (Yl.pure rfl (fun _ => by kernel_rfl)) (fun _ hs => ?_)
        refine wpList_nil ?_
        exact ⟨((e1.Kind : Int) == (2 : Int)), (hs.weak (List.Sublist.refl _) (List.Sublist.refl _) ⟨rfl, rfl, rfl, rfl, rfl, trivial⟩), hS⟩
    · intro a w hJ
      obtain ⟨x3, hs, hS⟩ := hJ
      unfold S_expr_fit_J1 at hS
      refine Wp.cond hs rfl rfl Iff.rfl (fun hc => ?_) (fun hc => ?_)
      · have hS := hS.1 hc
        refine Wp.skip ?_
        exact ⟨0, 0, (hs.weak (List.Sublist.refl _) (List.Sublist.refl _) ⟨rfl, rfl, rfl, trivial⟩), hS⟩
      · have hS := hS.2 hc
        refine Wp.seq ?_
        refine Wp.region ?_
        refine stepY (v := (Value.bool ((e1.Kind : Int) == (3 : Int)))) hs rfl rfl (by decide) (Yl.pure rfl (fun _ => by kernel_rfl)) (fun _ hs => ?_)
        refine stepY (v := (Value.bool ((e1.Kind : Int) == (3 : Int)))) hs rfl rfl (by decide) (Yl.pure rfl (fun _ => by kernel_rfl)) (fun _ hs => ?_)
        refine wpList_nil ?_
        refine Wp.cond hs rfl rfl beq_iff_eq (fun hc => ?_) (fun hc => ?_)
        · have hS := hS.1 hc
          refine Wp.join (fun a w => ∃ (x4 : Bool), Sx 72 E [] M w a [(1, (Value.pointer (some ⟨b2, 0, none⟩))), (3, (Value.int .i64 0)), (4, (Value.int .i64 0)), (20, (Value.bool x4))] [⟨b2, 55, [(Value.int .i64 e1.Kind), (Value.int .u64 e1.Set.w0), (Value.int .u64 e1.Set.w1), (Value.int .u64 e1.Set.w2), (Value.int .u64 e1.Set.w3), (Value.string (mkS e1.Text)), (Value.slice e1.Kids_a e1.Kids_l e1.Kids_c)]⟩] [] ∧ (S_expr_fit_J2 e1 x4 K)) ?_ ?_
          · refine Wp.region ?_
            refine stepY (v := (Value.pointer (some ⟨b2, 5, none⟩))) hs rfl rfl (by decide) (Yl.pure rfl (fun _ => by kernel_rfl)) (fun _ hs => ?_)
            refine stepY (v := (Value.string (mkS e1.Text))) hs rfl rfl (by decide) (Yl.loadB (vs := [(Value.string (mkS e1.Text))]) false 0 rfl rfl rfl (by kernel_rfl) rfl) (fun _ hs => ?_)
            refine stepY (v := (Value.bool ((mkS e1.Text).toList == (mkS ([] : List UInt8)).toList))) hs rfl rfl (by decide) (Yl.pure rfl (fun _ => by kernel_rfl)) (fun _ hs => ?_)
            refine stepY (v := (Value.bool ((mkS e1.Text).toList == (mkS ([] : List UInt8)).toList))) hs rfl rfl (by decide) (Yl.pure rfl (fun _ => by kernel_rfl)) (fun _ hs => ?_)
            refine bsplit ((mkS e1.Text).toList == (mkS ([] : List UInt8)).toList) mkS_beq (fun hb hc => ?_) (fun hb hc => ?_)
            · have hs := hs.bt hb
              have hS := hS.1 hc
              refine step_no hs rfl rfl rfl rfl rfl (by decide) (fun _ hs => ?_)
              refine step_no hs rfl rfl rfl rfl rfl (by decide) (fun _ hs => ?_)
              refine step_no hs rfl rfl rfl rfl rfl (by decide) (fun _ hs => ?_)
              refine step_no hs rfl rfl rfl rfl rfl (by decide) (fun _ hs => ?_)
              refine stepY (v := (Value.bool true)) hs rfl rfl (by decide) (Yl.pure rfl (fun _ => by kernel_rfl)) (fun _ hs => ?_)
              refine wpList_nil ?_
              exact ⟨true, (hs.weak (List.Sublist.refl _) (List.Sublist.refl _) ⟨rfl, rfl, rfl, rfl, trivial⟩), hS⟩
            · have hs := hs.bf hb
              have hS := hS.2 hc
              refine step_yes hs rfl rfl rfl ?_
              refine stepY (v := (Value.pointer (some ⟨b2, 5, none⟩))) hs rfl rfl (by decide) (Yl.pure rfl (fun _ => by kernel_rfl)) (fun _ hs => ?_)
              refine step_yes hs rfl rfl rfl ?_
              refine stepY (v := (Value.string (mkS e1.Text))) hs rfl rfl (by decide) (Yl.loadB (vs := [(Value.string (mkS e1.Text))]) false 0 rfl rfl rfl (by kernel_rfl) rfl) (fun _ hs => ?_)
              refine step_yes hs rfl rfl rfl ?_
              refine stepY (v := (Value.int .i64 ((e1.Text.length : Nat) : Int))) hs rfl rfl (by decide) (Yl.pure rfl (fun _ => by kernel_rfl)) (fun _ hs => ?_)
              refine step_yes hs rfl rfl rfl ?_
              refine stepY (v := (Value.bool (decide (((e1.Text.length : Nat) : Int) > 12)))) hs rfl rfl (by decide) (Yl.pure rfl (fun _ => by kernel_rfl)) (fun _ hs => ?_)
              refine stepY (v := (Value.bool (decide (((e1.Text.length : Nat) : Int) > 12)))) hs rfl rfl (by decide) (Yl.pure rfl (fun _ => by kernel_rfl)) (fun _ hs => ?_)
              refine wpList_nil ?_
              exact ⟨(decide (((e1.Text.length : Nat) : Int) > 12)), (hs.weak (List.Sublist.refl _) (List.Sublist.refl _) ⟨rfl, rfl, rfl, rfl, trivial⟩), hS⟩
          · intro a w hJ
            obtain ⟨x4, hs, hS⟩ := hJ
            unfold S_expr_fit_J2 at hS
            refine Wp.cond hs rfl rfl Iff.rfl (fun hc => ?_) (fun hc => ?_)
            · have hS := hS.1 hc
              refine Wp.seq ?_
              refine Wp.region ?_
              refine stepY (v := (Value.bool false)) hs rfl rfl (by decide) (Yl.pure rfl (fun _ => by kernel_rfl)) (fun _ hs => ?_)
              refine wpList_nil ?_
              refine Wp.ret ?_
              exact leaveE (K := fun v _ => K v) hs (resT hs rfl rfl) hMM.2 (fun _ _ => hS)
            · have hS := hS.2 hc
              refine Wp.skip ?_
              exact ⟨0, 0, (hs.weak (List.Sublist.refl _) (List.Sublist.refl _) ⟨rfl, rfl, rfl, trivial⟩), hS⟩
        · have hS := hS.2 hc
          refine Wp.seq ?_
          refine Wp.region ?_
          refine stepY (v := (Value.bool ((e1.Kind : Int) == (4 : Int)))) hs rfl rfl (by decide) (Yl.pure rfl (fun _ => by kernel_rfl)) (fun _ hs => ?_)
          refine stepY (v := (Value.bool ((e1.Kind : Int) == (4 : Int)))) hs rfl rfl (by decide) (Yl.pure rfl (fun _ => by kernel_rfl)) (fun _ hs => ?_)
          refine wpList_nil ?_
          refine Wp.cond hs rfl rfl beq_iff_eq (fun hc => ?_) (fun hc => ?_)
          · have hS := hS.1 hc
            refine Wp.seq ?_
            refine Wp.region ?_
            refine stepY (v := (Value.pointer (some ⟨b2, 5, none⟩))) hs rfl rfl (by decide) (Yl.pure rfl (fun _ => by kernel_rfl)) (fun _ hs => ?_)
            refine stepY (v := (Value.string (mkS e1.Text))) hs rfl rfl (by decide) (Yl.loadB (vs := [(Value.string (mkS e1.Text))]) false 0 rfl rfl rfl (by kernel_rfl) rfl) (fun _ hs => ?_)
            refine stepCallP [(Value.string (mkS e1.Text))] hs rfl ⟨_, rfl, rfl⟩ rfl Try.func33 rfl (by kernel_rfl) (by decide) hS (fun _ _ v hS hs => ?_)
            obtain ⟨x5, hv, hS⟩ := hS
            subst hv
            refine stepY (v := (Value.bool (!x5))) hs rfl rfl (by decide) (Yl.pure rfl (fun _ => by kernel_rfl)) (fun _ hs => ?_)
            refine wpList_nil ?_
            refine Wp.cond hs rfl rfl (bnot_iff Iff.rfl) (fun hc => ?_) (fun hc => ?_)
            · have hS := hS.1 hc
              refine Wp.seq ?_
              refine Wp.region ?_
              refine stepY (v := (Value.bool false)) hs rfl rfl (by decide) (Yl.pure rfl (fun _ => by kernel_rfl)) (fun _ hs => ?_)
              refine wpList_nil ?_
              refine Wp.ret ?_
              exact leaveE (K := fun v _ => K v) hs (resT hs rfl rfl) hMM.2 (fun _ _ => hS)
            · have hS := hS.2 hc
              refine Wp.skip ?_
              exact ⟨0, 0, (hs.weak (List.Sublist.refl _) (List.Sublist.refl _) ⟨rfl, rfl, rfl, trivial⟩), hS⟩
          · have hS := hS.2 hc
            refine Wp.join (fun a w => ∃ (x6 : Bool), Sx 72 E [] M w a [(1, (Value.pointer (some ⟨b2, 0, none⟩))), (6, (Value.int .i64 e1.Kind)), (27, (Value.bool x6))] [⟨b2, 55, [(Value.int .i64 e1.Kind), (Value.int .u64 e1.Set.w0), (Value.int .u64 e1.Set.w1), (Value.int .u64 e1.Set.w2), (Value.int .u64 e1.Set.w3), (Value.string (mkS e1.Text)), (Value.slice e1.Kids_a e1.Kids_l e1.Kids_c)]⟩] [] ∧ (S_expr_fit_J3 e1 x6 K)) ?_ ?_
            · refine Wp.seq ?_
              refine Wp.region ?_
              refine stepY (v := (Value.bool ((e1.Kind : Int) == (5 : Int)))) hs rfl rfl (by decide) (Yl.pure rfl (fun _ => by kernel_rfl)) (fun _ hs => ?_)
              refine stepY (v := (Value.bool ((e1.Kind : Int) == (5 : Int)))) hs rfl rfl (by decide) (Yl.pure rfl (fun _ => by kernel_rfl)) (fun _ hs => ?_)
              refine wpList_nil ?_
              refine Wp.cond hs rfl rfl beq_iff_eq (fun hc => ?_) (fun hc => ?_)
              · have hS := hS.1 hc
                refine Wp.skip ?_
                exact ⟨((e1.Kind : Int) == (5 : Int)), (hs.weak (List.Sublist.refl _) (List.Sublist.refl _) ⟨rfl, rfl, rfl, trivial⟩), hS⟩
              · have hS := hS.2 hc
                refine Wp.region ?_
                refine stepY (v := (Value.bool ((e1.Kind : Int) == (6 : Int)))) hs rfl rfl (by decide) (Yl.pure rfl (fun _ => by kernel_rfl)) (fun _ hs => ?_)
                refine stepY (v := (Value.bool ((e1.Kind : Int) == (6 : Int)))) hs rfl rfl (by decide) (Yl.pure rfl (fun _ => by kernel_rfl)) (fun _ hs => ?_)
                refine wpList_nil ?_
                exact ⟨((e1.Kind : Int) == (6 : Int)), (hs.weak (List.Sublist.refl _) (List.Sublist.refl _) ⟨rfl, rfl, rfl, trivial⟩), hS⟩
            · intro a w hJ
              obtain ⟨x6, hs, hS⟩ := hJ
              unfold S_expr_fit_J3 at hS
              refine Wp.cond hs rfl rfl Iff.rfl (fun hc => ?_) (fun hc => ?_)
              · have hS := hS.1 hc
                refine Wp.region ?_
                refine stepY (v := (Value.int .i64 2)) hs rfl rfl (by decide) (Yl.pure rfl (fun _ => by kernel_rfl)) (fun _ hs => ?_)
                refine stepY (v := (Value.int .i64 8)) hs rfl rfl (by decide) (Yl.pure rfl (fun _ => by kernel_rfl)) (fun _ hs => ?_)
                refine wpList_nil ?_
                exact ⟨2, 8, (hs.weak (List.Sublist.refl _) (List.Sublist.refl _) ⟨rfl, rfl, rfl, trivial⟩), hS⟩
              · have hS := hS.2 hc
                refine Wp.join (fun a w => ∃ (x7 : Bool), Sx 72 E [] M w a [(1, (Value.pointer (some ⟨b2, 0, none⟩))), (30, (Value.bool x7))] [⟨b2, 55, [(Value.int .i64 e1.Kind), (Value.int .u64 e1.Set.w0), (Value.int .u64 e1.Set.w1), (Value.int .u64 e1.Set.w2), (Value.int .u64 e1.Set.w3), (Value.string (mkS e1.Text)), (Value.slice e1.Kids_a e1.Kids_l e1.Kids_c)]⟩] [] ∧ (S_expr_fit_J4 e1 x7 K)) ?_ ?_
                · refine Wp.seq ?_
                  refine Wp.region ?_
                  refine stepY (v := (Value.bool ((e1.Kind : Int) == (7 : Int)))) hs rfl rfl (by decide) (Yl.pure rfl (fun _ => by kernel_rfl)) (fun _ hs => ?_)
                  refine stepY (v := (Value.bool ((e1.Kind : Int) == (7 : Int)))) hs rfl rfl (by decide) (Yl.pure rfl (fun _ => by kernel_rfl)) (fun _ hs => ?_)
                  refine wpList_nil ?_
                  refine Wp.cond hs rfl rfl beq_iff_eq (fun hc => ?_) (fun hc => ?_)
                  · have hS := hS.1 hc
                    refine Wp.skip ?_
                    exact ⟨((e1.Kind : Int) == (7 : Int)), (hs.weak (List.Sublist.refl _) (List.Sublist.refl _) ⟨rfl, rfl, trivial⟩), hS⟩
                  · have hS := hS.2 hc
                    refine Wp.seq ?_
                    refine Wp.region ?_
                    refine stepY (v := (Value.bool ((e1.Kind : Int) == (8 : Int)))) hs rfl rfl (by decide) (Yl.pure rfl (fun _ => by kernel_rfl)) (fun _ hs => ?_)
                    refine stepY (v := (Value.bool ((e1.Kind : Int) == (8 : Int)))) hs rfl rfl (by decide) (Yl.pure rfl (fun _ => by kernel_rfl)) (fun _ hs => ?_)
                    refine wpList_nil ?_
                    refine Wp.cond hs rfl rfl beq_iff_eq (fun hc => ?_) (fun hc => ?_)
                    · have hS := hS.1 hc
                      refine Wp.skip ?_
                      exact ⟨((e1.Kind : Int) == (8 : Int)), (hs.weak (List.Sublist.refl _) (List.Sublist.refl _) ⟨rfl, rfl, trivial⟩), hS⟩
                    · have hS := hS.2 hc
                      refine Wp.seq ?_
                      refine Wp.region ?_
                      refine stepY (v := (Value.bool ((e1.Kind : Int) == (9 : Int)))) hs rfl rfl (by decide) (Yl.pure rfl (fun _ => by kernel_rfl)) (fun _ hs => ?_)
                      refine stepY (v := (Value.bool ((e1.Kind : Int) == (9 : Int)))) hs rfl rfl (by decide) (Yl.pure rfl (fun _ => by kernel_rfl)) (fun _ hs => ?_)
                      refine wpList_nil ?_
                      refine Wp.cond hs rfl rfl beq_iff_eq (fun hc => ?_) (fun hc => ?_)
                      · have hS := hS.1 hc
                        refine Wp.skip ?_
                        exact ⟨((e1.Kind : Int) == (9 : Int)), (hs.weak (List.Sublist.refl _) (List.Sublist.refl _) ⟨rfl, rfl, trivial⟩), hS⟩
                      · have hS := hS.2 hc
                        refine Wp.seq ?_
                        refine Wp.region ?_
                        refine stepY (v := (Value.bool ((e1.Kind : Int) == (10 : Int)))) hs rfl rfl (by decide) (Yl.pure rfl (fun _ => by kernel_rfl)) (fun _ hs => ?_)
                        refine stepY (v := (Value.bool ((e1.Kind : Int) == (10 : Int)))) hs rfl rfl (by decide) (Yl.pure rfl (fun _ => by kernel_rfl)) (fun _ hs => ?_)
                        refine wpList_nil ?_
                        refine Wp.cond hs rfl rfl beq_iff_eq (fun hc => ?_) (fun hc => ?_)
                        · have hS := hS.1 hc
                          refine Wp.skip ?_
                          exact ⟨((e1.Kind : Int) == (10 : Int)), (hs.weak (List.Sublist.refl _) (List.Sublist.refl _) ⟨rfl, rfl, trivial⟩), hS⟩
                        · have hS := hS.2 hc
                          refine Wp.region ?_
                          refine stepY (v := (Value.bool ((e1.Kind : Int) == (11 : Int)))) hs rfl rfl (by decide) (Yl.pure rfl (fun _ => by kernel_rfl)) (fun _ hs => ?_)
                          refine stepY (v := (Value.bool ((e1.Kind : Int) == (11 : Int)))) hs rfl rfl (by decide) (Yl.pure rfl (fun _ => by kernel_rfl)) (fun _ hs => ?_)
                          refine wpList_nil ?_
                          exact ⟨((e1.Kind : Int) == (11 : Int)), (hs.weak (List.Sublist.refl _) (List.Sublist.refl _) ⟨rfl, rfl, trivial⟩), hS⟩
                · intro a w hJ
                  obtain ⟨x7, hs, hS⟩ := hJ
                  unfold S_expr_fit_J4 at hS
                  refine Wp.cond hs rfl rfl Iff.rfl (fun hc => ?_) (fun hc => ?_)
                  · have hS := hS.1 hc
                    refine Wp.region ?_
                    refine stepY (v := (Value.int .i64 1)) hs rfl rfl (by decide) (Yl.pure rfl (fun _ => by kernel_rfl)) (fun _ hs => ?_)
                    refine stepY (v := (Value.int .i64 1)) hs rfl rfl (by decide) (Yl.pure rfl (fun _ => by kernel_rfl)) (fun _ hs => ?_)
                    refine wpList_nil ?_
                    exact ⟨1, 1, (hs.weak (List.Sublist.refl _) (List.Sublist.refl _) ⟨rfl, rfl, rfl, trivial⟩), hS⟩
                  · have hS := hS.2 hc
                    refine Wp.seq ?_
                    refine Wp.region ?_
                    refine stepY (v := (Value.bool false)) hs rfl rfl (by decide) (Yl.pure rfl (fun _ => by kernel_rfl)) (fun _ hs => ?_)
                    refine wpList_nil ?_
                    refine Wp.ret ?_
                    exact leaveE (K := fun v _ => K v) hs (resT hs rfl rfl) hMM.2 (fun _ _ => hS)
  · intro a w hJ
    obtain ⟨low8, high9, hs, hS⟩ := hJ
    unfold S_expr_fit_J5 at hS
    refine Wp.seq ?_
    refine Wp.join (fun a w => ∃ (x10 : Bool), Sx 72 E [] M w a [(1, (Value.pointer (some ⟨b2, 0, none⟩))), (3, (Value.int .i64 low8)), (4, (Value.int .i64 high9)), (59, (Value.bool x10))] [⟨b2, 55, [(Value.int .i64 e1.Kind), (Value.int .u64 e1.Set.w0), (Value.int .u64 e1.Set.w1), (Value.int .u64 e1.Set.w2), (Value.int .u64 e1.Set.w3), (Value.string (mkS e1.Text)), (Value.slice e1.Kids_a e1.Kids_l e1.Kids_c)]⟩] [] ∧ (S_expr_fit_J6 e1 low8 high9 x10 K)) ?_ ?_
    · refine Wp.region ?_
      refine stepY (v := (Value.pointer (some ⟨b2, 0, none⟩))) hs rfl rfl (by decide) (Yl.pure rfl (fun _ => by kernel_rfl)) (fun _ hs => ?_)
      refine stepY (v := (Value.int .i64 e1.Kind)) hs rfl rfl (by decide) (Yl.loadB (vs := [(Value.int .i64 e1.Kind)]) false 0 rfl rfl rfl (by kernel_rfl) rfl) (fun _ hs => ?_)
      refine stepY (v := (Value.bool ((e1.Kind : Int) != (3 : Int)))) hs rfl rfl (by decide) (Yl.pure rfl (fun _ => by kernel_rfl)) (fun _ hs => ?_)
      refine stepY (v := (Value.bool ((e1.Kind : Int) != (3 : Int)))) hs rfl rfl (by decide) (Yl.pure rfl (fun _ => by kernel_rfl)) (fun _ hs => ?_)
      refine bsplit ((e1.Kind : Int) != (3 : Int)) bne_iff_ne (fun hb hc => ?_) (fun hb hc => ?_)
      · have hs := hs.bt hb
        have hS := hS.1 hc
        refine step_yes hs rfl rfl rfl ?_
        refine stepY (v := (Value.pointer (some ⟨b2, 0, none⟩))) hs rfl rfl (by decide) (Yl.pure rfl (fun _ => by kernel_rfl)) (fun _ hs => ?_)
        refine step_yes hs rfl rfl rfl ?_
        refine stepY (v := (Value.int .i64 e1.Kind)) hs rfl rfl (by decide) (Yl.loadB (vs := [(Value.int .i64 e1.Kind)]) false 0 rfl rfl rfl (by kernel_rfl) rfl) (fun _ hs => ?_)
        refine step_yes hs rfl rfl rfl ?_
        refine stepY (v := (Value.bool ((e1.Kind : Int) != (4 : Int)))) hs rfl rfl (by decide) (Yl.pure rfl (fun _ => by kernel_rfl)) (fun _ hs => ?_)
        refine stepY (v := (Value.bool ((e1.Kind : Int) != (4 : Int)))) hs rfl rfl (by decide) (Yl.pure rfl (fun _ => by kernel_rfl)) (fun _ hs => ?_)
        refine stepY (v := (Value.bool ((e1.Kind : Int) != (4 : Int)))) hs rfl rfl (by decide) (Yl.pure rfl (fun _ => by kernel_rfl)) (fun _ hs => ?_)
        refine bsplit ((e1.Kind : Int) != (4 : Int)) bne_iff_ne (fun hb hc => ?_) (fun hb hc => ?_)
        · have hs := hs.bt hb
          have hS := hS.1 hc
          refine step_yes hs rfl rfl rfl ?_
          refine stepY (v := (Value.pointer (some ⟨b2, 5, none⟩))) hs rfl rfl (by decide) (Yl.pure rfl (fun _ => by kernel_rfl)) (fun _ hs => ?_)
          refine step_yes hs rfl rfl rfl ?_
          refine stepY (v := (Value.string (mkS e1.Text))) hs rfl rfl (by decide) (Yl.loadB (vs := [(Value.string (mkS e1.Text))]) false 0 rfl rfl rfl (by kernel_rfl) rfl) (fun _ hs => ?_)
          refine step_yes hs rfl rfl rfl ?_
          refine stepY (v := (Value.bool (!((mkS e1.Text).toList == (mkS ([] : List UInt8)).toList)))) hs rfl rfl (by decide) (Yl.pure rfl (fun _ => by kernel_rfl)) (fun _ hs => ?_)
          refine stepY (v := (Value.bool (!((mkS e1.Text).toList == (mkS ([] : List UInt8)).toList)))) hs rfl rfl (by decide) (Yl.pure rfl (fun _ => by kernel_rfl)) (fun _ hs => ?_)
          refine stepY (v := (Value.bool (!((mkS e1.Text).toList == (mkS ([] : List UInt8)).toList)))) hs rfl rfl (by decide) (Yl.pure rfl (fun _ => by kernel_rfl)) (fun _ hs => ?_)
          refine bsplit (!((mkS e1.Text).toList == (mkS ([] : List UInt8)).toList)) mkS_bne (fun hb hc => ?_) (fun hb hc => ?_)
          · have hs := hs.bt hb
            have hS := hS.1 hc
            refine step_no hs rfl rfl rfl rfl rfl (by decide) (fun _ hs => ?_)
            refine step_no hs rfl rfl rfl rfl rfl (by decide) (fun _ hs => ?_)
            refine step_no hs rfl rfl rfl rfl rfl (by decide) (fun _ hs => ?_)
            refine step_no hs rfl rfl rfl rfl rfl (by decide) (fun _ hs => ?_)
            refine step_nou hs rfl rfl rfl rfl (by decide) (fun _ hs => ?_)
            refine step_nou hs rfl rfl rfl rfl (by decide) (fun _ hs => ?_)
            refine step_nou hs rfl rfl rfl rfl (by decide) (fun _ hs => ?_)
            refine step_nou hs rfl rfl rfl rfl (by decide) (fun _ hs => ?_)
            refine step_no hs rfl rfl rfl rfl rfl (by decide) (fun _ hs => ?_)
            refine stepY (v := (Value.bool true)) hs rfl rfl (by decide) (Yl.pure rfl (fun _ => by kernel_rfl)) (fun _ hs => ?_)
            refine wpList_nil ?_
            exact ⟨true, (hs.weak (List.Sublist.refl _) (List.Sublist.refl _) ⟨rfl, rfl, rfl, rfl, trivial⟩), hS⟩
          · have hs := hs.bf hb
            have hS := hS.2 hc
            refine step_yes hs rfl rfl rfl ?_
            refine stepY (v := (Value.pointer (some ⟨b2, 0, none⟩))) hs rfl rfl (by decide) (Yl.pure rfl (fun _ => by kernel_rfl)) (fun _ hs => ?_)
            refine step_yes hs rfl rfl rfl ?_
            refine stepY (v := (Value.int .i64 e1.Kind)) hs rfl rfl (by decide) (Yl.loadB (vs := [(Value.int .i64 e1.Kind)]) false 0 rfl rfl rfl (by kernel_rfl) rfl) (fun _ hs => ?_)
            refine step_yes hs rfl rfl rfl ?_
            refine stepY (v := (Value.bool ((e1.Kind : Int) != (2 : Int)))) hs rfl rfl (by decide) (Yl.pure rfl (fun _ => by kernel_rfl)) (fun _ hs => ?_)
            refine step_yes hs rfl rfl rfl ?_
            refine stepY (v := (Value.bool ((e1.Kind : Int) != (2 : Int)))) hs rfl rfl (by decide) (Yl.pure rfl (fun _ => by kernel_rfl)) (fun _ hs => ?_)
            refine bsplit ((e1.Kind : Int) != (2 : Int)) bne_iff_ne (fun hb hc => ?_) (fun hb hc => ?_)
            · have hs := hs.bt hb
              have hS := hS.1 hc
              refine step_yes hs rfl rfl rfl ?_
              refine stepY (v := (Value.pointer (some ⟨b2, 1, none⟩))) hs rfl rfl (by decide) (Yl.pure rfl (fun _ => by kernel_rfl)) (fun _ hs => ?_)
              refine step_yes hs rfl rfl rfl ?_
              refine stepY (v := e1.Set.val) hs rfl rfl (by decide) (Yl.loadB (vs := e1.Set.cells) true 0 rfl rfl rfl (by kernel_rfl) rfl) (fun _ hs => ?_)
              refine step_yes hs rfl rfl rfl ?_
              refine stepY (v := (X_api_Set.mk 0 0 0 0).val) hs rfl rfl (by decide) (Yl.pure rfl (fun _ => by kernel_rfl)) (fun _ hs => ?_)
              refine step_yes hs rfl rfl rfl ?_
              refine stepY (v := (Value.bool (!(cellsEq [e1.Set.w0, e1.Set.w1, e1.Set.w2, e1.Set.w3] [0, 0, 0, 0])))) hs rfl rfl (by decide) (Yl.neqA (n := 4) (e := 27) (k := .u64) (xs := [e1.Set.w0, e1.Set.w1, e1.Set.w2, e1.Set.w3]) (ys := [0, 0, 0, 0]) rfl (by kernel_rfl) (by kernel_rfl) (by kernel_rfl) (by kernel_rfl) rfl rfl rfl rfl rfl rfl) (fun _ hs => ?_)
              refine step_yes hs rfl rfl rfl ?_
              refine stepY (v := (Value.bool (!(cellsEq [e1.Set.w0, e1.Set.w1, e1.Set.w2, e1.Set.w3] [0, 0, 0, 0])))) hs rfl rfl (by decide) (Yl.pure rfl (fun _ => by kernel_rfl)) (fun _ hs => ?_)
              refine stepY (v := (Value.bool (!(cellsEq [e1.Set.w0, e1.Set.w1, e1.Set.w2, e1.Set.w3] [0, 0, 0, 0])))) hs rfl rfl (by decide) (Yl.pure rfl (fun _ => by kernel_rfl)) (fun _ hs => ?_)
              refine wpList_nil ?_
              exact ⟨(!(cellsEq [e1.Set.w0, e1.Set.w1, e1.Set.w2, e1.Set.w3] [0, 0, 0, 0])), (hs.weak (List.Sublist.refl _) (List.Sublist.refl _) ⟨rfl, rfl, rfl, rfl, trivial⟩), hS⟩
            · have hs := hs.bf hb
              have hS := hS.2 hc
              refine step_no hs rfl rfl rfl rfl rfl (by decide) (fun _ hs => ?_)
              refine step_no hs rfl rfl rfl rfl rfl (by decide) (fun _ hs => ?_)
              refine step_no hs rfl rfl rfl rfl rfl (by decide) (fun _ hs => ?_)
              refine step_no hs rfl rfl rfl rfl rfl (by decide) (fun _ hs => ?_)
              refine step_yes hs rfl rfl rfl ?_
              refine stepY (v := (Value.bool false)) hs rfl rfl (by decide) (Yl.pure rfl (fun _ => by kernel_rfl)) (fun _ hs => ?_)
              refine stepY (v := (Value.bool false)) hs rfl rfl (by decide) (Yl.pure rfl (fun _ => by kernel_rfl)) (fun _ hs => ?_)
              refine wpList_nil ?_
              exact ⟨false, (hs.weak (List.Sublist.refl _) (List.Sublist.refl _) ⟨rfl, rfl, rfl, rfl, trivial⟩), hS⟩
        · have hs := hs.bf hb
          have hS := hS.2 hc
          refine step_no hs rfl rfl rfl rfl rfl (by decide) (fun _ hs => ?_)
          refine step_no hs rfl rfl rfl rfl rfl (by decide) (fun _ hs => ?_)
          refine step_no hs rfl rfl rfl rfl rfl (by decide) (fun _ hs => ?_)
          refine stepY (v := (Value.bool false)) hs rfl rfl (by decide) (Yl.pure rfl (fun _ => by kernel_rfl)) (fun _ hs => ?_)
          refine stepY (v := (Value.bool false)) hs rfl rfl (by decide) (Yl.pure rfl (fun _ => by kernel_rfl)) (fun _ hs => ?_)
          refine step_yes hs rfl rfl rfl ?_
          refine stepY (v := (Value.pointer (some ⟨b2, 0, none⟩))) hs rfl rfl (by decide) (Yl.pure rfl (fun _ => by kernel_rfl)) (fun _ hs => ?_)
          refine step_yes hs rfl rfl rfl ?_
          refine stepY (v := (Value.int .i64 e1.Kind)) hs rfl rfl (by decide) (Yl.loadB (vs := [(Value.int .i64 e1.Kind)]) false 0 rfl rfl rfl (by kernel_rfl) rfl) (fun _ hs => ?_)
          refine step_yes hs rfl rfl rfl ?_
          refine stepY (v := (Value.bool ((e1.Kind : Int) != (2 : Int)))) hs rfl rfl (by decide) (Yl.pure rfl (fun _ => by kernel_rfl)) (fun _ hs => ?_)
          refine step_yes hs rfl rfl rfl ?_
          refine stepY (v := (Value.bool ((e1.Kind : Int) != (2 : Int)))) hs rfl rfl (by decide) (Yl.pure rfl (fun _ => by kernel_rfl)) (fun _ hs => ?_)
          refine bsplit ((e1.Kind : Int) != (2 : Int)) bne_iff_ne (fun hb hc => ?_) (fun hb hc => ?_)
          · have hs := hs.bt hb
            have hS := hS.1 hc
            refine step_yes hs rfl rfl rfl ?_
            refine stepY (v := (Value.pointer (some ⟨b2, 1, none⟩))) hs rfl rfl (by decide) (Yl.pure rfl (fun _ => by kernel_rfl)) (fun _ hs => ?_)
            refine step_yes hs rfl rfl rfl ?_
            refine stepY (v := e1.Set.val) hs rfl rfl (by decide) (Yl.loadB (vs := e1.Set.cells) true 0 rfl rfl rfl (by kernel_rfl) rfl) (fun _ hs => ?_)
            refine step_yes hs rfl rfl rfl ?_
            refine stepY (v := (X_api_Set.mk 0 0 0 0).val) hs rfl rfl (by decide) (Yl.pure rfl (fun _ => by kernel_rfl)) (fun _ hs => ?_)
            refine step_yes hs rfl rfl rfl ?_
            refine stepY (v := (Value.bool (!(cellsEq [e1.Set.w0, e1.Set.w1, e1.Set.w2, e1.Set.w3] [0, 0, 0, 0])))) hs rfl rfl (by decide) (Yl.neqA (n := 4) (e := 27) (k := .u64) (xs := [e1.Set.w0, e1.Set.w1, e1.Set.w2, e1.Set.w3]) (ys := [0, 0, 0, 0]) rfl (by kernel_rfl) (by kernel_rfl) (by kernel_rfl) (by kernel_rfl) rfl rfl rfl rfl rfl rfl) (fun _ hs => ?_)
            refine step_yes hs rfl rfl rfl ?_
            refine stepY (v := (Value.bool (!(cellsEq [e1.Set.w0, e1.Set.w1, e1.Set.w2, e1.Set.w3] [0, 0, 0, 0])))) hs rfl rfl (by decide) (Yl.pure rfl (fun _ => by kernel_rfl)) (fun _ hs => ?_)
            refine stepY (v := (Value.bool (!(cellsEq [e1.Set.w0, e1.Set.w1, e1.Set.w2, e1.Set.w3] [0, 0, 0, 0])))) hs rfl rfl (by decide) (Yl.pure rfl (fun _ => by kernel_rfl)) (fun _ hs => ?_)
            refine wpList_nil ?_
            exact ⟨(!(cellsEq [e1.Set.w0, e1.Set.w1, e1.Set.w2, e1.Set.w3] [0, 0, 0, 0])), (hs.weak (List.Sublist.refl _) (List.Sublist.refl _) ⟨rfl, rfl, rfl, rfl, trivial⟩), hS⟩
          · have hs := hs.bf hb
            have hS := hS.2 hc
            refine step_no hs rfl rfl rfl rfl rfl (by decide) (fun _ hs => ?_)
            refine step_no hs rfl rfl rfl rfl rfl (by decide) (fun _ hs => ?_)
            refine step_no hs rfl rfl rfl rfl rfl (by decide) (fun _ hs => ?_)
            refine step_no hs rfl rfl rfl rfl rfl (by decide) (fun _ hs => ?_)
            refine step_yes hs rfl rfl rfl ?_
            refine stepY (v := (Value.bool false)) hs rfl rfl (by decide) (Yl.pure rfl (fun _ => by kernel_rfl)) (fun _ hs => ?_)
            refine stepY (v := (Value.bool false)) hs rfl rfl (by decide) (Yl.pure rfl (fun _ => by kernel_rfl)) (fun _ hs => ?_)
            refine wpList_nil ?_
            exact ⟨false, (hs.weak (List.Sublist.refl _) (List.Sublist.refl _) ⟨rfl, rfl, rfl, rfl, trivial⟩), hS⟩
      · have hs := hs.bf hb
        have hS := hS.2 hc
        refine step_no hs rfl rfl rfl rfl rfl (by decide) (fun _ hs => ?_)
        refine step_no hs rfl rfl rfl rfl rfl (by decide) (fun _ hs => ?_)
        refine step_no hs rfl rfl rfl rfl rfl (by decide) (fun _ hs => ?_)
        refine stepY (v := (Value.bool false)) hs rfl rfl (by decide) (Yl.pure rfl (fun _ => by kernel_rfl)) (fun _ hs => ?_)
        refine stepY (v := (Value.bool false)) hs rfl rfl (by decide) (Yl.pure rfl (fun _ => by kernel_rfl)) (fun _ hs => ?_)
        refine step_no hs rfl rfl rfl rfl rfl (by decide) (fun _ hs => ?_)
        refine step_no hs rfl rfl rfl rfl rfl (by decide) (fun _ hs => ?_)
        refine step_no hs rfl rfl rfl rfl rfl (by decide) (fun _ hs => ?_)
        refine stepY (v := (Value.bool false)) hs rfl rfl (by decide) (Yl.pure rfl (fun _ => by kernel_rfl)) (fun _ hs => ?_)
        refine stepY (v := (Value.bool false)) hs rfl rfl (by decide) (Yl.pure rfl (fun _ => by kernel_rfl)) (fun _ hs => ?_)
        refine step_yes hs rfl rfl rfl ?_
        refine stepY (v := (Value.pointer (some ⟨b2, 0, none⟩))) hs rfl rfl (by decide) (Yl.pure rfl (fun _ => by kernel_rfl)) (fun _ hs => ?_)
        refine step_yes hs rfl rfl rfl ?_
        refine stepY (v := (Value.int .i64 e1.Kind)) hs rfl rfl (by decide) (Yl.loadB (vs := [(Value.int .i64 e1.Kind)]) false 0 rfl rfl rfl (by kernel_rfl) rfl) (fun _ hs => ?_)
        refine step_yes hs rfl rfl rfl ?_
        refine stepY (v := (Value.bool ((e1.Kind : Int) != (2 : Int)))) hs rfl rfl (by decide) (Yl.pure rfl (fun _ => by kernel_rfl)) (fun _ hs => ?_)
        refine step_yes hs rfl rfl rfl ?_
        refine stepY (v := (Value.bool ((e1.Kind : Int) != (2 : Int)))) hs rfl rfl (by decide) (Yl.pure rfl (fun _ => by kernel_rfl)) (fun _ hs => ?_)
        refine bsplit ((e1.Kind : Int) != (2 : Int)) bne_iff_ne (fun hb hc => ?_) (fun hb hc => ?_)
        · have hs := hs.bt hb
          have hS := hS.1 hc
          refine step_yes hs rfl rfl rfl ?_
          refine stepY (v := (Value.pointer (some ⟨b2, 1, none⟩))) hs rfl rfl (by decide) (Yl.pure rfl (fun _ => by kernel_rfl)) (fun _ hs => ?_)
          refine step_yes hs rfl rfl rfl ?_
          refine stepY (v := e1.Set.val) hs rfl rfl (by decide) (Yl.loadB (vs := e1.Set.cells) true 0 rfl rfl rfl (by kernel_rfl) rfl) (fun _ hs => ?_)
          refine step_yes hs rfl rfl rfl ?_
          refine stepY (v := (X_api_Set.mk 0 0 0 0).val) hs rfl rfl (by decide) (Yl.pure rfl (fun _ => by kernel_rfl)) (fun _ hs => ?_)
          refine step_yes hs rfl rfl rfl ?_
          refine stepY (v := (Value.bool (!(cellsEq [e1.Set.w0, e1.Set.w1, e1.Set.w2, e1.Set.w3] [0, 0, 0, 0])))) hs rfl rfl (by decide) (Yl.neqA (n := 4) (e := 27) (k := .u64) (xs := [e1.Set.w0, e1.Set.w1, e1.Set.w2, e1.Set.w3]) (ys := [0, 0, 0, 0]) rfl (by kernel_rfl) (by kernel_rfl) (by kernel_rfl) (by kernel_rfl) rfl rfl rfl rfl rfl rfl) (fun _ hs => ?_)
          refine step_yes hs rfl rfl rfl ?_
          refine stepY (v := (Value.bool (!(cellsEq [e1.Set.w0, e1.Set.w1, e1.Set.w2, e1.Set.w3] [0, 0, 0, 0])))) hs rfl rfl (by decide) (Yl.pure rfl (fun _ => by kernel_rfl)) (fun _ hs => ?_)
          refine stepY (v := (Value.bool (!(cellsEq [e1.Set.w0, e1.Set.w1, e1.Set.w2, e1.Set.w3] [0, 0, 0, 0])))) hs rfl rfl (by decide) (Yl.pure rfl (fun _ => by kernel_rfl)) (fun _ hs => ?_)
          refine wpList_nil ?_
          exact ⟨(!(cellsEq [e1.Set.w0, e1.Set.w1, e1.Set.w2, e1.Set.w3] [0, 0, 0, 0])), (hs.weak (List.Sublist.refl _) (List.Sublist.refl _) ⟨rfl, rfl, rfl, rfl, trivial⟩), hS⟩
        · have hs := hs.bf hb
          have hS := hS.2 hc
          refine step_no hs rfl rfl rfl rfl rfl (by decide) (fun _ hs => ?_)
          refine step_no hs rfl rfl rfl rfl rfl (by decide) (fun _ hs => ?_)
          refine step_no hs rfl rfl rfl rfl rfl (by decide) (fun _ hs => ?_)
          refine step_no hs rfl rfl rfl rfl rfl (by decide) (fun _ hs => ?_)
          refine step_yes hs rfl rfl rfl ?_
          refine stepY (v := (Value.bool false)) hs rfl rfl (by decide) (Yl.pure rfl (fun _ => by kernel_rfl)) (fun _ hs => ?_)
          refine stepY (v := (Value.bool false)) hs rfl rfl (by decide) (Yl.pure rfl (fun _ => by kernel_rfl)) (fun _ hs => ?_)
          refine wpList_nil ?_
          exact ⟨false, (hs.weak (List.Sublist.refl _) (List.Sublist.refl _) ⟨rfl, rfl, rfl, rfl, trivial⟩), hS⟩
    · intro a w hJ
      obtain ⟨x10, hs, hS⟩ := hJ
      unfold S_expr_fit_J6 at hS
      refine Wp.cond hs rfl rfl Iff.rfl (fun hc => ?_) (fun hc => ?_)
      · have hS := hS.1 hc
        refine Wp.seq ?_
        refine Wp.region ?_
        refine stepY (v := (Value.bool false)) hs rfl rfl (by decide) (Yl.pure rfl (fun _ => by kernel_rfl)) (fun _ hs => ?_)
        refine wpList_nil ?_
        refine Wp.ret ?_
        exact leaveE (K := fun v _ => K v) hs (resT hs rfl rfl) hMM.2 (fun _ _ => hS)
      · have hS := hS.2 hc
        refine Wp.skip ?_
        refine Wp.seq ?_
        refine Wp.region ?_
        refine stepY (v := (Value.pointer (some ⟨b2, 6, none⟩))) hs rfl rfl (by decide) (Yl.pure rfl (fun _ => by kernel_rfl)) (fun _ hs => ?_)
        refine stepY (v := (Value.slice e1.Kids_a e1.Kids_l e1.Kids_c)) hs rfl rfl (by decide) (Yl.loadB (vs := [(Value.slice e1.Kids_a e1.Kids_l e1.Kids_c)]) false 0 rfl rfl rfl (by kernel_rfl) rfl) (fun _ hs => ?_)
        refine stepY (v := (Value.int .i64 ((e1.Kids_l : Nat) : Int))) hs rfl rfl (by decide) (Yl.pure rfl (fun _ => by kernel_rfl)) (fun _ hs => ?_)
        refine stepY (v := (Value.int .i64 low8)) hs rfl rfl (by decide) (Yl.pure rfl (fun _ => by kernel_rfl)) (fun _ hs => ?_)
        refine stepY (v := (Value.bool (decide (((e1.Kids_l : Nat) : Int) ≥ low8)))) hs rfl rfl (by decide) (Yl.pure rfl (fun _ => by kernel_rfl)) (fun _ hs => ?_)
        refine stepY (v := (Value.bool (decide (((e1.Kids_l : Nat) : Int) ≥ low8)))) hs rfl rfl (by decide) (Yl.pure rfl (fun _ => by kernel_rfl)) (fun _ hs => ?_)
        refine bsplit (decide (((e1.Kids_l : Nat) : Int) ≥ low8)) decide_eq_true_iff (fun hb hc => ?_) (fun hb hc => ?_)
        · have hs := hs.bt hb
          have hS := hS.1 hc
          refine step_yes hs rfl rfl rfl ?_
          refine stepY (v := (Value.pointer (some ⟨b2, 6, none⟩))) hs rfl rfl (by decide) (Yl.pure rfl (fun _ => by kernel_rfl)) (fun _ hs => ?_)
          refine step_yes hs rfl rfl rfl ?_
          refine stepY (v := (Value.slice e1.Kids_a e1.Kids_l e1.Kids_c)) hs rfl rfl (by decide) (Yl.loadB (vs := [(Value.slice e1.Kids_a e1.Kids_l e1.Kids_c)]) false 0 rfl rfl rfl (by kernel_rfl) rfl) (fun _ hs => ?_)
          refine step_yes hs rfl rfl rfl ?_
          refine stepY (v := (Value.int .i64 ((e1.Kids_l : Nat) : Int))) hs rfl rfl (by decide) (Yl.pure rfl (fun _ => by kernel_rfl)) (fun _ hs => ?_)
          refine step_yes hs rfl rfl rfl ?_
          refine stepY (v := (Value.int .i64 high9)) hs rfl rfl (by decide) (Yl.pure rfl (fun _ => by kernel_rfl)) (fun _ hs => ?_)
          refine step_yes hs rfl rfl rfl ?_
          refine stepY (v := (Value.bool (decide (((e1.Kids_l : Nat) : Int) ≤ high9)))) hs rfl rfl (by decide) (Yl.pure rfl (fun _ => by kernel_rfl)) (fun _ hs => ?_)
          refine stepY (v := (Value.bool (decide (((e1.Kids_l : Nat) : Int) ≤ high9)))) hs rfl rfl (by decide) (Yl.pure rfl (fun _ => by kernel_rfl)) (fun _ hs => ?_)
          refine stepY (v := (Value.bool (decide (((e1.Kids_l : Nat) : Int) ≤ high9)))) hs rfl rfl (by decide) (Yl.pure rfl (fun _ => by kernel_rfl)) (fun _ hs => ?_)
          refine wpList_nil ?_
          refine Wp.ret ?_
          exact leaveE (K := fun v _ => K v) hs (resT hs rfl rfl) hMM.2 (fun _ _ => hS)
        · have hs := hs.bf hb
          have hS := hS.2 hc
          refine step_no hs rfl rfl rfl rfl rfl (by decide) (fun _ hs => ?_)
          refine step_no hs rfl rfl rfl rfl rfl (by decide) (fun _ hs => ?_)
          refine step_no hs rfl rfl rfl rfl rfl (by decide) (fun _ hs => ?_)
          refine step_no hs rfl rfl rfl rfl rfl (by decide) (fun _ hs => ?_)
          refine step_no hs rfl rfl rfl rfl rfl (by decide) (fun _ hs => ?_)
          refine stepY (v := (Value.bool false)) hs rfl rfl (by decide) (Yl.pure rfl (fun _ => by kernel_rfl)) (fun _ hs => ?_)
          refine stepY (v := (Value.bool false)) hs rfl rfl (by decide) (Yl.pure rfl (fun _ => by kernel_rfl)) (fun _ hs => ?_)
          refine wpList_nil ?_
          refine Wp.ret ?_
          exact leaveE (K := fun v _ => K v) hs (resT hs rfl rfl) hMM.2 (fun _ _ => hS)
theorem f_expr_fit (e1 : X_api_Expr) (M : Mem) (K : Value → Prop) (hS : S_expr_fit e1 M K) : CallF Try.prog (Value.func (.func 84) #[] #[]) [e1.val] M (fun v _ => K v) := ⟨84, _, _, _, rfl, Try.func84, rfl, (by decide), s_expr_fit _ _ _ hS⟩
set_option linter.unusedVariables false in
def S_expr_looker_look (e3 : X_api_Expr) (deep4 : Int) (l2 : Int) (M : Mem) (K : Value → Int → Mem → Prop) : Prop :=
  (InI (l2 + 1) ∧ ((l2 + 1 > 60 → K (Value.int .i64 2) (l2 + 1) M) ∧ (¬ (l2 + 1 > 60) → ((deep4 > 12 → K (Value.int .i64 5) (l2 + 1) M) ∧ (¬ (deep4 > 12) → (CallE Try.prog 84 #[e3.val] M (fun v _ => ∃ (x7 : Bool), v = (Value.bool x7) ∧ ((¬ (x7 = true) → K (Value.int .i64 3) (l2 + 1) M) ∧ (¬ (¬ (x7 = true)) → (∃ (I29 : Int → Int → Mem → Prop) (mu30 : Int → Int → Nat), I29 0 (l2 + 1) M ∧ ∀ (x26 : Int) (c27 : Int) (M28 : Mem), (I29 x26 c27 M28 → ((x26 < ((e3.Kids_l : Nat) : Int) → (∃ (b31 o32 : Nat), e3.Kids_a = some ⟨b31, o32, none⟩ ∧ (0 : Int) ≤ x26 ∧ x26 < ((e3.Kids_l : Nat) : Int) ∧ (∃ (x33 : X_api_Expr), At M28 b31 (o32 + x26.toNat * 7) x33.cells ∧ (InI (deep4 + 1) ∧ (C_expr_looker_look x33 (deep4 + 1) c27 M28 (fun v c37 M36 => ∃ (x35 : Int), v = (Value.int .i64 x35) ∧ (((x35 : Int) ≠ 0 → K (Value.int .i64 x35) c37 M36) ∧ (¬ ((x35 : Int) ≠ 0) → (InI (x26 + 1) ∧ I29 (x26 + 1) c37 M36 ∧ mu30 (x26 + 1) c37 < mu30 x26 c27))))))))) ∧ (¬ (x26 < ((e3.Kids_l : Nat) : Int)) → K (Value.int .i64 0) c27 M28)))))))))))))
set_option linter.unusedVariables false in
set_option maxRecDepth 100000 in
theorem s_expr_looker_look (e3 : X_api_Expr) (deep4 : Int) (l2 : Int) (M : Mem) (K : Value → Int → Mem → Prop) (hS : S_expr_looker_look e3 deep4 l2 M K) : C_expr_looker_look e3 deep4 l2 M K := by
  intro b1
  refine enterL Try.func68 rfl 46 rfl (Nat.le_of_ble_eq_true rfl) (fun E a hs => ?_)
  unfold S_expr_looker_look at hS
  have hMM := MX.refl M E
  change Sx 46 E (blk [⟨b1, 100, [(Value.int .i64 l2)]⟩] []) M E a [(0, (Value.pointer (some ⟨b1, 0, none⟩))), (1, e3.val), (2, (Value.int .i64 deep4))] [⟨b1, 100, [(Value.int .i64 l2)]⟩] [] at hs
  refine Wp.seq ?_
  refine Wp.region ?_
  refine stepBox [(Value.int .i64 e3.Kind), (Value.int .u64 e3.Set.w0), (Value.int .u64 e3.Set.w1), (Value.int .u64 e3.Set.w2), (Value.int .u64 e3.Set.w3), (Value.string (mkS e3.Text)), (Value.slice e3.Kids_a e3.Kids_l e3.Kids_c)] hs rfl rfl rfl (by decide) (fun _ _ b6 hEb6 hs => ?_)
  refine stepY (v := (Value.int .i64 0)) hs rfl rfl (by decide) (Yl.pure rfl (fun _ => by kernel_rfl)) (fun _ hs => ?_)
  refine wpList_nil ?_
  refine Wp.seq ?_
  refine Wp.region ?_
  refine stepY (v := (Value.pointer (some ⟨b1, 0, none⟩))) hs rfl rfl (by decide) (Yl.pure rfl (fun _ => by kernel_rfl)) (fun _ hs => ?_)
  refine stepY (v := (Value.pointer (some ⟨b1, 0, none⟩))) hs rfl rfl (by decide) (Yl.pure rfl (fun _ => by kernel_rfl)) (fun _ hs => ?_)
  refine stepY (v := (Value.pointer (some ⟨b1, 0, none⟩))) hs rfl rfl (by decide) (Yl.pure rfl (fun _ => by kernel_rfl)) (fun _ hs => ?_)
  refine stepY (v := (Value.int .i64 l2)) hs rfl rfl (by decide) (Yl.loadB (vs := [(Value.int .i64 l2)]) false 1 rfl rfl rfl (by kernel_rfl) rfl) (fun _ hs => ?_)
  obtain ⟨hI, hS⟩ := hS
  refine stepY (v := (Value.int .i64 (l2 + 1))) hs rfl rfl (by decide) (Yl.eq (Yl.pure (v := Value.int .i64 (IntKind.wrap .i64 (l2 + 1))) rfl (fun _ => by kernel_rfl)) (congrArg (Value.int .i64) (wrap_in hI))) (fun _ hs => ?_)
  refine stepY (v := (Value.pointer (some ⟨b1, 0, none⟩))) hs rfl rfl (by decide) (Yl.pure rfl (fun _ => by kernel_rfl)) (fun _ hs => ?_)
  refine stepY (v := (Value.pointer (some ⟨b1, 0, none⟩))) hs rfl rfl (by decide) (Yl.pure rfl (fun _ => by kernel_rfl)) (fun _ hs => ?_)
  refine stepStoreB 1 (vs := [(Value.int .i64 (l2 + 1))]) hs rfl rfl rfl rfl rfl rfl (by kernel_rfl) (Nat.le_of_ble_eq_true rfl) rfl (fun _ _ hs => ?_)
  replace hs := hs.chbx (bs' := [⟨b6, 55, [(Value.int .i64 e3.Kind), (Value.int .u64 e3.Set.w0), (Value.int .u64 e3.Set.w1), (Value.int .u64 e3.Set.w2), (Value.int .u64 e3.Set.w3), (Value.string (mkS e3.Text)), (Value.slice e3.Kids_a e3.Kids_l e3.Kids_c)]⟩, ⟨b1, 100, [(Value.int .i64 (l2 + 1))]⟩]) rfl
  refine wpList_nil ?_
  refine Wp.seq ?_
  refine Wp.block ?_
  refine Wp.seq ?_
  refine Wp.region ?_
  refine stepY (v := (Value.pointer (some ⟨b1, 0, none⟩))) hs rfl rfl (by decide) (Yl.pure rfl (fun _ => by kernel_rfl)) (fun _ hs => ?_)
  refine stepY (v := (Value.pointer (some ⟨b1, 0, none⟩))) hs rfl rfl (by decide) (Yl.pure rfl (fun _ => by kernel_rfl)) (fun _ hs => ?_)
  refine stepY (v := (Value.pointer (some ⟨b1, 0, none⟩))) hs rfl rfl (by decide) (Yl.pure rfl (fun _ => by kernel_rfl)) (fun _ hs => ?_)
  refine stepY (v := (Value.int .i64 (l2 + 1))) hs rfl rfl (by decide) (Yl.loadB (vs := [(Value.int .i64 (l2 + 1))]) false 1 rfl rfl rfl (by kernel_rfl) rfl) (fun _ hs => ?_)
  refine stepY (v := (Value.bool (decide (l2 + 1 > 60)))) hs rfl rfl (by decide) (Yl.pure rfl (fun _ => by kernel_rfl)) (fun _ hs => ?_)
  refine stepY (v := (Value.bool (decide (l2 + 1 > 60)))) hs rfl rfl (by decide) (Yl.pure rfl (fun _ => by kernel_rfl)) (fun _ hs => ?_)
  refine wpList_nil ?_
  refine Wp.cond hs rfl rfl decide_eq_true_iff (fun hc => ?_) (fun hc => ?_)
  · have hS := hS.1 hc
    refine Wp.seq ?_
    refine Wp.region ?_
    refine stepY (v := (Value.int .i64 2)) hs rfl rfl (by decide) (Yl.pure rfl (fun _ => by kernel_rfl)) (fun _ hs => ?_)
    refine wpList_nil ?_
    refine Wp.ret ?_
    replace hs := hs.bfront 1 rfl rfl
    exact leaveL hs (resT hs rfl rfl) hMM.1 hMM.2 [⟨b1, 100, [(Value.int .i64 (l2 + 1))]⟩] [] (.cons_cons _ (.cons _ List.Sublist.slnil)) (List.Sublist.refl _) rfl ⟨l2 + 1, rfl, rfl, hS⟩
  · have hS := hS.2 hc
    refine Wp.seq ?_
    refine Wp.region ?_
    refine stepY (v := (Value.int .i64 deep4)) hs rfl rfl (by decide) (Yl.pure rfl (fun _ => by kernel_rfl)) (fun _ hs => ?_)
    refine stepY (v := (Value.bool (decide (deep4 > 12)))) hs rfl rfl (by decide) (Yl.pure rfl (fun _ => by kernel_rfl)) (fun _ hs => ?_)
    refine stepY (v := (Value.bool (decide (deep4 > 12)))) hs rfl rfl (by decide) (Yl.pure rfl (fun _ => by kernel_rfl)) (fun _ hs => ?_)
    refine wpList_nil ?_
    refine Wp.cond hs rfl rfl decide_eq_true_iff (fun hc => ?_) (fun hc => ?_)
    · have hS := hS.1 hc
      refine Wp.seq ?_
      refine Wp.region ?_
      refine stepY (v := (Value.int .i64 5)) hs rfl rfl (by decide) (Yl.pure rfl (fun _ => by kernel_rfl)) (fun _ hs => ?_)
      refine wpList_nil ?_
      refine Wp.ret ?_
      replace hs := hs.bfront 1 rfl rfl
      exact leaveL hs (resT hs rfl rfl) hMM.1 hMM.2 [⟨b1, 100, [(Value.int .i64 (l2 + 1))]⟩] [] (.cons_cons _ (.cons _ List.Sublist.slnil)) (List.Sublist.refl _) rfl ⟨l2 + 1, rfl, rfl, hS⟩
    · have hS := hS.2 hc
      refine Wp.seq ?_
      refine Wp.region ?_
      refine stepY (v := e3.val) hs rfl rfl (by decide) (Yl.loadB (vs := e3.cells) true 0 rfl rfl rfl (by kernel_rfl) rfl) (fun _ hs => ?_)
      refine stepCallP [e3.val] hs rfl ⟨_, rfl, rfl⟩ rfl Try.func84 rfl (by kernel_rfl) (by decide) hS (fun _ _ v hS hs => ?_)
      obtain ⟨x7, hv, hS⟩ := hS
      subst hv
      refine stepY (v := (Value.bool (!x7))) hs rfl rfl (by decide) (Yl.pure rfl (fun _ => by kernel_rfl)) (fun _ hs => ?_)
      refine stepY (v := (Value.bool (!x7))) hs rfl rfl (by decide) (Yl.pure rfl (fun _ => by kernel_rfl)) (fun _ hs => ?_)
      refine wpList_nil ?_
      refine Wp.cond hs rfl rfl (bnot_iff Iff.rfl) (fun hc => ?_) (fun hc => ?_)
      · have hS := hS.1 hc
        refine Wp.seq ?_
        refine Wp.region ?_
        refine stepY (v := (Value.int .i64 3)) hs rfl rfl (by decide) (Yl.pure rfl (fun _ => by kernel_rfl)) (fun _ hs => ?_)
        refine wpList_nil ?_
        refine Wp.ret ?_
        replace hs := hs.bfront 1 rfl rfl
        exact leaveL hs (resT hs rfl rfl) hMM.1 hMM.2 [⟨b1, 100, [(Value.int .i64 (l2 + 1))]⟩] [] (.cons_cons _ (.cons _ List.Sublist.slnil)) (List.Sublist.refl _) rfl ⟨l2 + 1, rfl, rfl, hS⟩
      · have hS := hS.2 hc
        refine Wp.skip ?_
        refine Wp.seq ?_
        refine Wp.seq ?_
        refine Wp.region ?_
        refine stepY (v := (Value.pointer (some ⟨b6, 6, none⟩))) hs rfl rfl (by decide) (Yl.pure rfl (fun _ => by kernel_rfl)) (fun _ hs => ?_)
        refine stepY (v := (Value.slice e3.Kids_a e3.Kids_l e3.Kids_c)) hs rfl rfl (by decide) (Yl.loadB (vs := [(Value.slice e3.Kids_a e3.Kids_l e3.Kids_c)]) false 0 rfl rfl rfl (by kernel_rfl) rfl) (fun _ hs => ?_)
        refine stepY (v := (Value.int .i64 ((e3.Kids_l : Nat) : Int))) hs rfl rfl (by decide) (Yl.pure rfl (fun _ => by kernel_rfl)) (fun _ hs => ?_)
        refine stepY (v := (Value.int .i64 0)) hs rfl rfl (by decide) (Yl.pure rfl (fun _ => by kernel_rfl)) (fun _ hs => ?_)
        refine wpList_nil ?_
        refine Wp.block ?_
        obtain ⟨I29, mu30, hI0, hst⟩ := hS
        refine Wp.loop (σ := (Int) × (Int) × (Mem)) (fun s a w => match s with | (x26, c27, M28) => MX M28 M E ∧ Sx 46 E (blk [⟨b1, 100, [(Value.int .i64 l2)]⟩] []) M28 w a [(0, (Value.pointer (some ⟨b1, 0, none⟩))), (2, (Value.int .i64 deep4)), (31, (Value.slice e3.Kids_a e3.Kids_l e3.Kids_c)), (32, (Value.int .i64 ((e3.Kids_l : Nat) : Int))), (33, (Value.int .i64 x26))] [⟨b6, 55, [(Value.int .i64 e3.Kind), (Value.int .u64 e3.Set.w0), (Value.int .u64 e3.Set.w1), (Value.int .u64 e3.Set.w2), (Value.int .u64 e3.Set.w3), (Value.string (mkS e3.Text)), (Value.slice e3.Kids_a e3.Kids_l e3.Kids_c)]⟩, ⟨b1, 100, [(Value.int .i64 c27)]⟩] [] ∧ I29 x26 c27 M28) (fun s => match s with | (x26, c27, M28) => mu30 x26 c27) (0, l2 + 1, M) ⟨hMM, (hs.weak (List.Sublist.refl _) (List.Sublist.refl _) ⟨rfl, rfl, rfl, rfl, rfl, trivial⟩), hI0⟩ (fun s a w hI => ?_)
        obtain ⟨x26, c27, M28⟩ := s
        obtain ⟨hMM, hs, hI⟩ := hI
        have hS := hst x26 c27 M28 hI
        clear hst hI0 hI
        refine Wp.seq ?_
        refine Wp.region ?_
        refine stepY (v := (Value.bool (decide (x26 < ((e3.Kids_l : Nat) : Int))))) hs rfl rfl (by decide) (Yl.pure rfl (fun _ => by kernel_rfl)) (fun _ hs => ?_)
        refine wpList_nil ?_
        refine Wp.seq ?_
        refine Wp.cond hs rfl rfl decide_eq_true_iff (fun hc => ?_) (fun hc => ?_)
        · have hS := hS.1 hc
          refine Wp.skip ?_
          refine Wp.seq ?_
          refine Wp.block ?_
          refine Wp.seq ?_
          refine Wp.region ?_
          obtain ⟨b31, o32, ha, h0, hl, hS⟩ := hS
          refine stepY (v := (Value.pointer (some ⟨b31, o32 + x26.toNat * 7, none⟩))) hs rfl rfl (by decide) (Yl.indexS (e := 55) (sz := 7) rfl rfl rfl rfl (by kernel_rfl) (by kernel_rfl) ha h0 hl) (fun _ hs => ?_)
          obtain ⟨x33, hat, hS⟩ := hS
          refine stepY (v := x33.val) hs rfl rfl (by decide) (Yl.loadV (vs := x33.cells) true rfl rfl (by kernel_rfl) hat) (fun _ hs => ?_)
          refine stepAlloc [(Value.int .i64 0), (Value.int .u64 0), (Value.int .u64 0), (Value.int .u64 0), (Value.int .u64 0), (Value.string (mkS [])), (Value.slice none 0 0)] hs (by kernel_rfl) (by decide) (fun _ _ b34 hEb34 hs => ?_)
          refine stepStoreB 0 (vs := [(Value.int .i64 x33.Kind), (Value.int .u64 x33.Set.w0), (Value.int .u64 x33.Set.w1), (Value.int .u64 x33.Set.w2), (Value.int .u64 x33.Set.w3), (Value.string (mkS x33.Text)), (Value.slice x33.Kids_a x33.Kids_l x33.Kids_c)]) hs rfl rfl rfl rfl rfl rfl (by kernel_rfl) (Nat.le_of_ble_eq_true rfl) rfl (fun _ _ hs => ?_)
          replace hs := hs.chbx (bs' := [⟨b34, 55, [(Value.int .i64 x33.Kind), (Value.int .u64 x33.Set.w0), (Value.int .u64 x33.Set.w1), (Value.int .u64 x33.Set.w2), (Value.int .u64 x33.Set.w3), (Value.string (mkS x33.Text)), (Value.slice x33.Kids_a x33.Kids_l x33.Kids_c)]⟩, ⟨b6, 55, [(Value.int .i64 e3.Kind), (Value.int .u64 e3.Set.w0), (Value.int .u64 e3.Set.w1), (Value.int .u64 e3.Set.w2), (Value.int .u64 e3.Set.w3), (Value.string (mkS e3.Text)), (Value.slice e3.Kids_a e3.Kids_l e3.Kids_c)]⟩, ⟨b1, 100, [(Value.int .i64 c27)]⟩]) rfl
          refine wpList_nil ?_
          refine Wp.seq ?_
          refine Wp.region ?_
          refine stepY (v := (Value.pointer (some ⟨b1, 0, none⟩))) hs rfl rfl (by decide) (Yl.pure rfl (fun _ => by kernel_rfl)) (fun _ hs => ?_)
          refine stepY (v := x33.val) hs rfl rfl (by decide) (Yl.loadB (vs := x33.cells) true 0 rfl rfl rfl (by kernel_rfl) rfl) (fun _ hs => ?_)
          refine stepY (v := (Value.int .i64 deep4)) hs rfl rfl (by decide) (Yl.pure rfl (fun _ => by kernel_rfl)) (fun _ hs => ?_)
          obtain ⟨hI, hS⟩ := hS
          refine stepY (v := (Value.int .i64 (deep4 + 1))) hs rfl rfl (by decide) (Yl.eq (Yl.pure (v := Value.int .i64 (IntKind.wrap .i64 (deep4 + 1))) rfl (fun _ => by kernel_rfl)) (congrArg (Value.int .i64) (wrap_in hI))) (fun _ hs => ?_)
          replace hs := hs.bfront 2 rfl rfl
          refine stepCallL [(Value.pointer (some ⟨b1, 0, none⟩)), x33.val, (Value.int .i64 (deep4 + 1))] [⟨b1, 100, [(Value.int .i64 c27)]⟩] [⟨b34, 55, [(Value.int .i64 x33.Kind), (Value.int .u64 x33.Set.w0), (Value.int .u64 x33.Set.w1), (Value.int .u64 x33.Set.w2), (Value.int .u64 x33.Set.w3), (Value.string (mkS x33.Text)), (Value.slice x33.Kids_a x33.Kids_l x33.Kids_c)]⟩, ⟨b6, 55, [(Value.int .i64 e3.Kind), (Value.int .u64 e3.Set.w0), (Value.int .u64 e3.Set.w1), (Value.int .u64 e3.Set.w2), (Value.int .u64 e3.Set.w3), (Value.string (mkS e3.Text)), (Value.slice e3.Kids_a e3.Kids_l e3.Kids_c)]⟩] [] [] true hs rfl rfl rfl rfl ⟨_, rfl, rfl⟩ rfl Try.func68 rfl (by kernel_rfl) (by decide) (hS _) (fun _ _ M36 v lb lr hle hnew hS hs => ?_)
          have hMM := hMM.next hle hnew
          obtain ⟨c37, hlb, hlr, hS⟩ := hS
          subst hlb hlr
          obtain ⟨x35, hv, hS⟩ := hS
          subst hv
          replace hs := hs.chbx (bs' := [⟨b1, 100, [(Value.int .i64 c37)]⟩, ⟨b34, 55, [(Value.int .i64 x33.Kind), (Value.int .u64 x33.Set.w0), (Value.int .u64 x33.Set.w1), (Value.int .u64 x33.Set.w2), (Value.int .u64 x33.Set.w3), (Value.string (mkS x33.Text)), (Value.slice x33.Kids_a x33.Kids_l x33.Kids_c)]⟩, ⟨b6, 55, [(Value.int .i64 e3.Kind), (Value.int .u64 e3.Set.w0), (Value.int .u64 e3.Set.w1), (Value.int .u64 e3.Set.w2), (Value.int .u64 e3.Set.w3), (Value.string (mkS e3.Text)), (Value.slice e3.Kids_a e3.Kids_l e3.Kids_c)]⟩]) rfl
          replace hs := hs.chrs (rs' := []) rfl
          replace hs := hs.bback 2 (l' := [⟨b34, 55, [(Value.int .i64 x33.Kind), (Value.int .u64 x33.Set.w0), (Value.int .u64 x33.Set.w1), (Value.int .u64 x33.Set.w2), (Value.int .u64 x33.Set.w3), (Value.string (mkS x33.Text)), (Value.slice x33.Kids_a x33.Kids_l x33.Kids_c)]⟩, ⟨b6, 55, [(Value.int .i64 e3.Kind), (Value.int .u64 e3.Set.w0), (Value.int .u64 e3.Set.w1), (Value.int .u64 e3.Set.w2), (Value.int .u64 e3.Set.w3), (Value.string (mkS e3.Text)), (Value.slice e3.Kids_a e3.Kids_l e3.Kids_c)]⟩, ⟨b1, 100, [(Value.int .i64 c37)]⟩]) rfl
          refine stepY (v := (Value.int .i64 x35)) hs rfl rfl (by decide) (Yl.pure rfl (fun _ => by kernel_rfl)) (fun _ hs => ?_)
          refine wpList_nil ?_
          refine Wp.seq ?_
          refine Wp.region ?_
          refine stepY (v := (Value.int .i64 x35)) hs rfl rfl (by decide) (Yl.pure rfl (fun _ => by kernel_rfl)) (fun _ hs => ?_)
          refine stepY (v := (Value.bool ((x35 : Int) != (0 : Int)))) hs rfl rfl (by decide) (Yl.pure rfl (fun _ => by kernel_rfl)) (fun _ hs => ?_)
          refine wpList_nil ?_
          refine Wp.cond hs rfl rfl bne_iff_ne (fun hc => ?_) (fun hc => ?_)
          · have hS := hS.1 hc
            refine Wp.seq ?_
            refine Wp.region ?_
            refine stepY (v := (Value.int .i64 x35)) hs rfl rfl (by decide) (Yl.pure rfl (fun _ => by kernel_rfl)) (fun _ hs => ?_)
            refine stepY (v := (Value.int .i64 x35)) hs rfl rfl (by decide) (Yl.pure rfl (fun _ => by kernel_rfl)) (fun _ hs => ?_)
            refine wpList_nil ?_
            refine Wp.ret ?_
            replace hs := hs.bfront 2 rfl rfl
            exact leaveL hs (resT hs rfl rfl) hMM.1 hMM.2 [⟨b1, 100, [(Value.int .i64 c37)]⟩] [] (.cons_cons _ (.cons _ (.cons _ List.Sublist.slnil))) (List.Sublist.refl _) rfl ⟨c37, rfl, rfl, hS⟩
          · have hS := hS.2 hc
            refine Wp.skip ?_
            refine Wp.region ?_
            obtain ⟨hI, hS⟩ := hS
            refine stepY (v := (Value.int .i64 (x26 + 1))) hs rfl rfl (by decide) (Yl.eq (Yl.pure (v := Value.int .i64 (IntKind.wrap .i64 (x26 + 1))) rfl (fun _ => by kernel_rfl)) (congrArg (Value.int .i64) (wrap_in hI))) (fun _ hs => ?_)
            refine stepY (v := (Value.int .i64 (x26 + 1))) hs rfl rfl (by decide) (Yl.pure rfl (fun _ => by kernel_rfl)) (fun _ hs => ?_)
            refine wpList_nil ?_
            exact ⟨(x26 + 1, c37, M36), ⟨hMM, (hs.weak (.cons _ (.cons_cons _ (.cons_cons _ List.Sublist.slnil))) (List.Sublist.refl _) ⟨rfl, rfl, rfl, rfl, rfl, trivial⟩), hS.1⟩, hS.2⟩
        · have hS := hS.2 hc
          refine Wp.exit rfl ?_
          refine Wp.seq ?_
          refine Wp.region ?_
          refine stepY (v := (Value.int .i64 0)) hs rfl rfl (by decide) (Yl.pure rfl (fun _ => by kernel_rfl)) (fun _ hs => ?_)
          refine wpList_nil ?_
          refine Wp.ret ?_
          replace hs := hs.bfront 1 rfl rfl
          exact leaveL hs (resT hs rfl rfl) hMM.1 hMM.2 [⟨b1, 100, [(Value.int .i64 c27)]⟩] [] (.cons_cons _ (.cons _ List.Sublist.slnil)) (List.Sublist.refl _) rfl ⟨c27, rfl, rfl, hS⟩
set_option linter.unusedVariables false in
def S_expr_Check (e1 : X_api_Expr) (M : Mem) (K : Value → Prop) : Prop :=
  (C_expr_looker_look e1 1 0 M (fun v c6 M5 => ∃ (x4 : Int), v = (Value.int .i64 x4) ∧ K (Value.int .i64 x4)))
set_option linter.unusedVariables false in
set_option maxRecDepth 100000 in
theorem s_expr_Check (e1 : X_api_Expr) (M : Mem) (K : Value → Prop) (hS : S_expr_Check e1 M K) : CallE Try.prog 35 #[e1.val] M (fun v _ => K v) := by
  refine enterE Try.func35 rfl 6 rfl (Nat.le_of_ble_eq_true rfl) (fun E a hs => ?_)
  unfold S_expr_Check at hS
  have hMM := MX.refl M E
  change Sx 6 E [] M E a [(0, e1.val)] [] [] at hs
  refine Wp.seq ?_
  refine Wp.region ?_
  refine stepBox [(Value.int .i64 e1.Kind), (Value.int .u64 e1.Set.w0), (Value.int .u64 e1.Set.w1), (Value.int .u64 e1.Set.w2), (Value.int .u64 e1.Set.w3), (Value.string (mkS e1.Text)), (Value.slice e1.Kids_a e1.Kids_l e1.Kids_c)] hs rfl rfl rfl (by decide) (fun _ _ b2 hEb2 hs => ?_)
  refine stepY (v := (Value.int .i64 0)) hs rfl rfl (by decide) (Yl.pure rfl (fun _ => by kernel_rfl)) (fun _ hs => ?_)
  refine wpList_nil ?_
  refine Wp.seq ?_
  refine Wp.region ?_
  refine stepAlloc [(Value.int .i64 0)] hs (by kernel_rfl) (by decide) (fun _ _ b3 hEb3 hs => ?_)
  refine wpList_nil ?_
  refine Wp.seq ?_
  refine Wp.region ?_
  refine stepY (v := e1.val) hs rfl rfl (by decide) (Yl.loadB (vs := e1.cells) true 1 rfl rfl rfl (by kernel_rfl) rfl) (fun _ hs => ?_)
  refine stepCallL [(Value.pointer (some ⟨b3, 0, none⟩)), e1.val, (Value.int .i64 1)] [⟨b3, 100, [(Value.int .i64 0)]⟩] [⟨b2, 55, [(Value.int .i64 e1.Kind), (Value.int .u64 e1.Set.w0), (Value.int .u64 e1.Set.w1), (Value.int .u64 e1.Set.w2), (Value.int .u64 e1.Set.w3), (Value.string (mkS e1.Text)), (Value.slice e1.Kids_a e1.Kids_l e1.Kids_c)]⟩] [] [] true hs rfl rfl rfl rfl ⟨_, rfl, rfl⟩ rfl Try.func68 rfl (by kernel_rfl) (by decide) (hS _) (fun _ _ M5 v lb lr hle hnew hS hs => ?_)
  have hMM := hMM.next hle hnew
  obtain ⟨c6, hlb, hlr, hS⟩ := hS
  subst hlb hlr
  obtain ⟨x4, hv, hS⟩ := hS
  subst hv
  replace hs := hs.chbx (bs' := [⟨b3, 100, [(Value.int .i64 c6)]⟩, ⟨b2, 55, [(Value.int .i64 e1.Kind), (Value.int .u64 e1.Set.w0), (Value.int .u64 e1.Set.w1), (Value.int .u64 e1.Set.w2), (Value.int .u64 e1.Set.w3), (Value.string (mkS e1.Text)), (Value.slice e1.Kids_a e1.Kids_l e1.Kids_c)]⟩]) rfl
  replace hs := hs.chrs (rs' := []) rfl
  refine stepY (v := (Value.int .i64 x4)) hs rfl rfl (by decide) (Yl.pure rfl (fun _ => by kernel_rfl)) (fun _ hs => ?_)
  refine wpList_nil ?_
  refine Wp.ret ?_
  exact leaveE (K := fun v _ => K v) hs (resT hs rfl rfl) hMM.2 (fun _ _ => hS)
theorem f_expr_Check (e1 : X_api_Expr) (M : Mem) (K : Value → Prop) (hS : S_expr_Check e1 M K) : CallF Try.prog (Value.func (.func 35) #[] #[]) [e1.val] M (fun v _ => K v) := ⟨35, _, _, _, rfl, Try.func35, rfl, (by decide), s_expr_Check _ _ _ hS⟩
set_option linter.unusedVariables false in
def S_chaffref_Nodes_J3 (rn118 : Nat) (rx119 : List Value) (rn121 : Nat) (rx122 : List Value) (M123 : Mem) (I124 : Nat → List Value → Nat → List Value → Mem → Prop) (mu125 : Nat → List Value → Nat → List Value → Nat) (x131 : X_chaffref_Node) (rn174 : Nat) (rx175 : List Value) (K : Value → Mem → Prop) : Prop :=
  (∀ (M176 : Mem) (ad127 : Option Addr) (cap128 : Nat), M123.le M176 → SlV M176 ad127 rn118 cap128 8 rx119 → ((0 : Int) ≤ 1 ∧ (1 : Int) ≤ ((rn118 : Nat) : Int) ∧ (∃ (news177 : List Value), SlV M176 (slA ad127 (1 : Int).toNat cap128 8) (rn118 - (1 : Int).toNat) (cap128 - (1 : Int).toNat) 8 news177 ∧ (∀ u ∈ news177, u.oneCell' = true) ∧ (rn174 + (rn118 - (1 : Int).toNat)) * 88 ≤ 140737488355328 ∧ I124 (rn174 + (rn118 - (1 : Int).toNat)) (rx175 ++ news177) (rn121 + 1) (rx122 ++ x131.cells) M176 ∧ mu125 (rn174 + (rn118 - (1 : Int).toNat)) (rx175 ++ news177) (rn121 + 1) (rx122 ++ x131.cells) < mu125 rn118 rx119 rn121 rx122)))
set_option linter.unusedVariables false in
def S_chaffref_Nodes_J2 (rn118 : Nat) (rx119 : List Value) (rn121 : Nat) (rx122 : List Value) (M123 : Mem) (I124 : Nat → List Value → Nat → List Value → Mem → Prop) (mu125 : Nat → List Value → Nat → List Value → Nat) (x131 : X_chaffref_Node) (x137 : Bool) (K : Value → Mem → Prop) : Prop :=
  ((x137 = true → (∃ (I163 : Int → Nat → List Value → Prop) (mu164 : Int → Nat → List Value → Nat), I163 0 0 [] ∧ ∀ (x159 : Int) (rn161 : Nat) (rx162 : List Value), (I163 x159 rn161 rx162 → ((x159 < ((x131.Expr.Kids_l : Nat) : Int) → (∃ (b165 o166 : Nat), x131.Expr.Kids_a = some ⟨b165, o166, none⟩ ∧ (0 : Int) ≤ x159 ∧ x159 < ((x131.Expr.Kids_l : Nat) : Int) ∧ (∃ (x167 : X_api_Expr), At M123 b165 (o166 + x159.toNat * 7) x167.cells ∧ (InI (x131.Deep + 1) ∧ ((rn161 + 1) * 88 ≤ 140737488355328 ∧ (InI (x159 + 1) ∧ I163 (x159 + 1) (rn161 + 1) (rx162 ++ (X_chaffref_Node.mk x167 (x131.Deep + 1)).cells) ∧ mu164 (x159 + 1) (rn161 + 1) (rx162 ++ (X_chaffref_Node.mk x167 (x131.Deep + 1)).cells) < mu164 x159 rn161 rx162)))))) ∧ (¬ (x159 < ((x131.Expr.Kids_l : Nat) : Int)) → (S_chaffref_Nodes_J3 rn118 rx119 rn121 rx122 M123 I124 mu125 x131 rn161 rx162 K)))))) ∧ (¬ (x137 = true) → (S_chaffref_Nodes_J3 rn118 rx119 rn121 rx122 M123 I124 mu125 x131 0 [] K)))
set_option linter.unusedVariables false in
def S_chaffref_Nodes_J1 (rn118 : Nat) (rx119 : List Value) (rn121 : Nat) (rx122 : List Value) (M123 : Mem) (I124 : Nat → List Value → Nat → List Value → Mem → Prop) (mu125 : Nat → List Value → Nat → List Value → Nat) (x126 : Bool) (K : Value → Mem → Prop) : Prop :=
  ((x126 = true → ((0 : Int) ≤ 0 ∧ 0 < ((rn118 : Nat) : Int) ∧ (∃ (x131 : X_chaffref_Node), Cs rx119 (0 + (0 : Int).toNat * 8) x131.cells ∧ ((rn121 + 1) * 88 ≤ 140737488355328 ∧ ((x131.Deep ≤ 12 → (S_chaffref_Nodes_J2 rn118 rx119 rn121 rx122 M123 I124 mu125 x131 (decide (((x131.Expr.Kids_l : Nat) : Int) ≤ 8)) K)) ∧ (¬ (x131.Deep ≤ 12) → (S_chaffref_Nodes_J2 rn118 rx119 rn121 rx122 M123 I124 mu125 x131 false K))))))) ∧ (¬ (x126 = true) → (∀ (M181 : Mem) (ad179 : Option Addr) (cap180 : Nat), M123.le M181 → SlV M181 ad179 rn121 cap180 8 rx122 → (∀ M', M181.le M' → K (Value.slice ad179 rn121 cap180) M'))))
set_option linter.unusedVariables false in
def S_chaffref_Nodes (e1 : X_api_Expr) (M : Mem) (K : Value → Mem → Prop) : Prop :=
  (∃ (I124 : Nat → List Value → Nat → List Value → Mem → Prop) (mu125 : Nat → List Value → Nat → List Value → Nat), I124 1 ((X_chaffref_Node.mk e1 1).cells) 0 [] M ∧ ∀ (rn118 : Nat) (rx119 : List Value) (rn121 : Nat) (rx122 : List Value) (M123 : Mem), (I124 rn118 rx119 rn121 rx122 M123 → ((((rn118 : Nat) : Int) > 0 → (S_chaffref_Nodes_J1 rn118 rx119 rn121 rx122 M123 I124 mu125 (decide (((rn121 : Nat) : Int) < 61)) K)) ∧ (¬ (((rn118 : Nat) : Int) > 0) → (S_chaffref_Nodes_J1 rn118 rx119 rn121 rx122 M123 I124 mu125 false K)))))
set_option linter.unusedVariables false in
set_option maxRecDepth 100000 in
theorem s_chaffref_Nodes (e1 : X_api_Expr) (M : Mem) (K : Value → Mem → Prop) (hS : S_chaffref_Nodes e1 M K) : CallE Try.prog 42 #[e1.val] M K := by
  refine enterE Try.func42 rfl 59 rfl (Nat.le_of_ble_eq_true rfl) (fun E a hs => ?_)
  unfold S_chaffref_Nodes at hS
  have hMM := MX.refl M E
  change Sx 59 E [] M E a [(0, e1.val)] [] [] at hs
  refine Wp.seq ?_
  refine Wp.region ?_
  refine stepBox [(Value.int .i64 e1.Kind), (Value.int .u64 e1.Set.w0), (Value.int .u64 e1.Set.w1), (Value.int .u64 e1.Set.w2), (Value.int .u64 e1.Set.w3), (Value.string (mkS e1.Text)), (Value.slice e1.Kids_a e1.Kids_l e1.Kids_c)] hs rfl rfl rfl (by decide) (fun _ _ b2 hEb2 hs => ?_)
  refine stepY (v := (Value.slice none 0 0)) hs rfl rfl (by decide) (Yl.pure rfl (fun _ => by kernel_rfl)) (fun _ hs => ?_)
  refine wpList_nil ?_
  refine Wp.seq ?_
  refine Wp.region ?_
  refine stepY (v := Value.slice none 0 0) hs rfl rfl (by decide) (Yl.pure rfl (fun _ => by kernel_rfl)) (fun _ hs => ?_)
  have hs := hs.nilrow 103 8
  refine wpList_nil ?_
  refine Wp.seq ?_
  refine Wp.region ?_
  refine stepY (v := e1.val) hs rfl rfl (by decide) (Yl.loadB (vs := e1.cells) true 0 rfl rfl rfl (by kernel_rfl) rfl) (fun _ hs => ?_)
  refine stepY (v := (X_chaffref_Node.mk e1 1).val) hs rfl rfl (by decide) (Yl.pure rfl (fun _ => by kernel_rfl)) (fun _ hs => ?_)
  refine stepMake ((X_chaffref_Node.mk e1 1).cells) 103 8 1 hs rfl rfl rfl (fun _ => by kernel_rfl) rfl (by unfold maxLen; decide) (by decide) (fun _ _ rv3 hs => ?_)
  refine stepY (v := rv3) hs rfl rfl (by decide) (Yl.pure rfl (fun _ => by kernel_rfl)) (fun _ hs => ?_)
  refine wpList_nil ?_
  refine Wp.seq ?_
  refine Wp.block ?_
  obtain ⟨I124, mu125, hI0, hst⟩ := hS
  refine Wp.loop (σ := (Nat) × (List Value) × (Nat) × (List Value) × (Value) × (Value) × (Mem)) (fun s a w => match s with | (rn118, rx119, rn121, rx122, rv117, rv120, M123) => MX M123 M E ∧ Sx 59 E [] M123 w a [(3, rv120), (4, rv117)] [⟨b2, 55, [(Value.int .i64 e1.Kind), (Value.int .u64 e1.Set.w0), (Value.int .u64 e1.Set.w1), (Value.int .u64 e1.Set.w2), (Value.int .u64 e1.Set.w3), (Value.string (mkS e1.Text)), (Value.slice e1.Kids_a e1.Kids_l e1.Kids_c)]⟩] [⟨rv117, 103, 8, rn118, rx119, true⟩, ⟨rv120, 103, 8, rn121, rx122, true⟩] ∧ I124 rn118 rx119 rn121 rx122 M123) (fun s => match s with | (rn118, rx119, rn121, rx122, rv117, rv120, M123) => mu125 rn118 rx119 rn121 rx122) (1, (X_chaffref_Node.mk e1 1).cells, 0, [], rv3, (Value.slice none 0 0), M) ⟨hMM, (hs.weak (List.Sublist.refl _) (List.Sublist.refl _) ⟨rfl, rfl, trivial⟩), hI0⟩ (fun s a w hI => ?_)
  obtain ⟨rn118, rx119, rn121, rx122, rv117, rv120, M123⟩ := s
  obtain ⟨hMM, hs, hI⟩ := hI
  have hS := hst rn118 rx119 rn121 rx122 M123 hI
  clear hst hI0 hI
  refine Wp.seq ?_
  refine Wp.join (fun a w => ∃ (x126 : Bool), Sx 59 E [] M123 w a [(3, rv120), (4, rv117), (19, (Value.bool x126))] [⟨b2, 55, [(Value.int .i64 e1.Kind), (Value.int .u64 e1.Set.w0), (Value.int .u64 e1.Set.w1), (Value.int .u64 e1.Set.w2), (Value.int .u64 e1.Set.w3), (Value.string (mkS e1.Text)), (Value.slice e1.Kids_a e1.Kids_l e1.Kids_c)]⟩] [⟨rv117, 103, 8, rn118, rx119, true⟩, ⟨rv120, 103, 8, rn121, rx122, true⟩] ∧ (S_chaffref_Nodes_J1 rn118 rx119 rn121 rx122 M123 I124 mu125 x126 K)) ?_ ?_
  · refine Wp.region ?_
    refine stepY (v := rv117) hs rfl rfl (by decide) (Yl.pure rfl (fun _ => by kernel_rfl)) (fun _ hs => ?_)
    refine stepY (v := (Value.int .i64 ((rn118 : Nat) : Int))) hs rfl rfl (by decide) (Yl.lenR (e' := 103) 0 rfl rfl rfl (by kernel_rfl)) (fun _ hs => ?_)
    refine stepY (v := (Value.bool (decide (((rn118 : Nat) : Int) > 0)))) hs rfl rfl (by decide) (Yl.pure rfl (fun _ => by kernel_rfl)) (fun _ hs => ?_)
    refine stepY (v := (Value.bool (decide (((rn118 : Nat) : Int) > 0)))) hs rfl rfl (by decide) (Yl.pure rfl (fun _ => by kernel_rfl)) (fun _ hs => ?_)
    refine bsplit (decide (((rn118 : Nat) : Int) > 0)) decide_eq_true_iff (fun hb hc => ?_) (fun hb hc => ?_)
    · have hs := hs.bt hb
      have hS := hS.1 hc
      refine step_yes hs rfl rfl rfl ?_
      refine stepY (v := rv120) hs rfl rfl (by decide) (Yl.pure rfl (fun _ => by kernel_rfl)) (fun _ hs => ?_)
      refine step_yes hs rfl rfl rfl ?_
      refine stepY (v := (Value.int .i64 ((rn121 : Nat) : Int))) hs rfl rfl (by decide) (Yl.lenR (e' := 103) 1 rfl rfl rfl (by kernel_rfl)) (fun _ hs => ?_)
      refine step_yes hs rfl rfl rfl ?_
      refine stepY (v := (Value.bool (decide (((rn121 : Nat) : Int) < 61)))) hs rfl rfl (by decide) (Yl.pure rfl (fun _ => by kernel_rfl)) (fun _ hs => ?_)
      refine stepY (v := (Value.bool (decide (((rn121 : Nat) : Int) < 61)))) hs rfl rfl (by decide) (Yl.pure rfl (fun _ => by kernel_rfl)) (fun _ hs => ?_)
      refine wpList_nil ?_
      exact ⟨(decide (((rn121 : Nat) : Int) < 61)), (hs.weak (List.Sublist.refl _) (List.Sublist.refl _) ⟨rfl, rfl, rfl, trivial⟩), hS⟩
    · have hs := hs.bf hb
      have hS := hS.2 hc
      refine step_no hs rfl rfl rfl rfl rfl (by decide) (fun _ hs => ?_)
      refine step_no hs rfl rfl rfl rfl rfl (by decide) (fun _ hs => ?_)
      refine step_no hs rfl rfl rfl rfl rfl (by decide) (fun _ hs => ?_)
      refine stepY (v := (Value.bool false)) hs rfl rfl (by decide) (Yl.pure rfl (fun _ => by kernel_rfl)) (fun _ hs => ?_)
      refine wpList_nil ?_
      exact ⟨false, (hs.weak (List.Sublist.refl _) (List.Sublist.refl _) ⟨rfl, rfl, rfl, trivial⟩), hS⟩
  · intro a w hJ
    obtain ⟨x126, hs, hS⟩ := hJ
    unfold S_chaffref_Nodes_J1 at hS
    refine Wp.cond hs rfl rfl Iff.rfl (fun hc => ?_) (fun hc => ?_)
    · have hS := hS.1 hc
      refine Wp.skip ?_
      refine Wp.block ?_
      refine Wp.seq ?_
      refine Wp.region ?_
      refine stepY (v := rv117) hs rfl rfl (by decide) (Yl.pure rfl (fun _ => by kernel_rfl)) (fun _ hs => ?_)
      obtain ⟨ad127, cap128, hv, hcp, hxl⟩ := hs.rowform 0 rfl
      dsimp only at hv hcp hxl
      subst hv
      obtain ⟨h0, hl, hS⟩ := hS
      have hix129 : (0 : Int).toNat < rn118 := by omega
      obtain ⟨g130, hg130⟩ := hs.rowblk 0 rfl (by omega)
      refine stepY (v := (Value.pointer (some ⟨g130, 0 + (0 : Int).toNat * 8, none⟩))) hs rfl rfl (by decide) (Yl.indexS (e := 103) (sz := 8) rfl rfl rfl rfl (by kernel_rfl) (by kernel_rfl) hg130 h0 hl) (fun _ hs => ?_)
      obtain ⟨x131, hcs, hS⟩ := hS
      refine stepY (v := x131.val) hs rfl rfl (by decide) (Yl.loadR (vs := x131.cells) 0 true rfl hg130 rfl rfl (by kernel_rfl) hcs) (fun _ hs => ?_)
      refine stepAlloc [(Value.int .i64 0), (Value.int .u64 0), (Value.int .u64 0), (Value.int .u64 0), (Value.int .u64 0), (Value.string (mkS [])), (Value.slice none 0 0), (Value.int .i64 0)] hs (by kernel_rfl) (by decide) (fun _ _ b132 hEb132 hs => ?_)
      refine stepStoreB 0 (vs := [(Value.int .i64 x131.Expr.Kind), (Value.int .u64 x131.Expr.Set.w0), (Value.int .u64 x131.Expr.Set.w1), (Value.int .u64 x131.Expr.Set.w2), (Value.int .u64 x131.Expr.Set.w3), (Value.string (mkS x131.Expr.Text)), (Value.slice x131.Expr.Kids_a x131.Expr.Kids_l x131.Expr.Kids_c), (Value.int .i64 x131.Deep)]) hs rfl rfl rfl rfl rfl rfl (by kernel_rfl) (Nat.le_of_ble_eq_true rfl) rfl (fun _ _ hs => ?_)
      replace hs := hs.chbx (bs' := [⟨b132, 103, [(Value.int .i64 x131.Expr.Kind), (Value.int .u64 x131.Expr.Set.w0), (Value.int .u64 x131.Expr.Set.w1), (Value.int .u64 x131.Expr.Set.w2), (Value.int .u64 x131.Expr.Set.w3), (Value.string (mkS x131.Expr.Text)), (Value.slice x131.Expr.Kids_a x131.Expr.Kids_l x131.Expr.Kids_c), (Value.int .i64 x131.Deep)]⟩, ⟨b2, 55, [(Value.int .i64 e1.Kind), (Value.int .u64 e1.Set.w0), (Value.int .u64 e1.Set.w1), (Value.int .u64 e1.Set.w2), (Value.int .u64 e1.Set.w3), (Value.string (mkS e1.Text)), (Value.slice e1.Kids_a e1.Kids_l e1.Kids_c)]⟩]) rfl
      refine wpList_nil ?_
      refine Wp.seq ?_
      refine Wp.region ?_
      refine stepY (v := rv120) hs rfl rfl (by decide) (Yl.pure rfl (fun _ => by kernel_rfl)) (fun _ hs => ?_)
      refine stepY (v := x131.val) hs rfl rfl (by decide) (Yl.loadB (vs := x131.cells) true 0 rfl rfl rfl (by kernel_rfl) rfl) (fun _ hs => ?_)
      refine stepMake x131.cells 103 8 1 hs rfl rfl rfl (fun _ => by kernel_rfl) rfl (by unfold maxLen; decide) (by decide) (fun _ _ rv133 hs => ?_)
      obtain ⟨ad134, cap135, hv, hcp, hxl⟩ := hs.rowform 0 rfl
      dsimp only at hv hcp hxl
      subst hv
      obtain ⟨hB, hS⟩ := hS
      refine stepAppend 2 x131.cells hs rfl rfl rfl rfl rfl (by kernel_rfl) (by kernel_rfl) (by decide) (by decide) (hs.srcRow 0 rfl rfl) (lenb hB (by decide)) hB (fun _ _ rv136 hs => ?_)
      replace hs := hs.chrs (rs' := [⟨(Value.slice ad134 1 cap135), 103, 8, 1, x131.cells, true⟩, ⟨(Value.slice ad127 rn118 cap128), 103, 8, rn118, rx119, true⟩, ⟨rv136, 103, 8, (rn121 + 1), (rx122 ++ x131.cells), true⟩]) rfl
      refine stepY (v := rv136) hs rfl rfl (by decide) (Yl.pure rfl (fun _ => by kernel_rfl)) (fun _ hs => ?_)
      refine wpList_nil ?_
      refine Wp.seq ?_
      refine Wp.region ?_
      refine stepY (v := Value.slice none 0 0) hs rfl rfl (by decide) (Yl.pure rfl (fun _ => by kernel_rfl)) (fun _ hs => ?_)
      have hs := hs.nilrow 103 8
      refine wpList_nil ?_
      refine Wp.join (fun a w => ∃ (rn174 : Nat) (rx175 : List Value) (rv173 : Value), Sx 59 E [] M123 w a [(3, rv136), (4, (Value.slice ad127 rn118 cap128)), (6, rv173)] [⟨b132, 103, [(Value.int .i64 x131.Expr.Kind), (Value.int .u64 x131.Expr.Set.w0), (Value.int .u64 x131.Expr.Set.w1), (Value.int .u64 x131.Expr.Set.w2), (Value.int .u64 x131.Expr.Set.w3), (Value.string (mkS x131.Expr.Text)), (Value.slice x131.Expr.Kids_a x131.Expr.Kids_l x131.Expr.Kids_c), (Value.int .i64 x131.Deep)]⟩, ⟨b2, 55, [(Value.int .i64 e1.Kind), (Value.int .u64 e1.Set.w0), (Value.int .u64 e1.Set.w1), (Value.int .u64 e1.Set.w2), (Value.int .u64 e1.Set.w3), (Value.string (mkS e1.Text)), (Value.slice e1.Kids_a e1.Kids_l e1.Kids_c)]⟩] [⟨rv173, 103, 8, rn174, rx175, true⟩, ⟨(Value.slice ad127 rn118 cap128), 103, 8, rn118, rx119, true⟩, ⟨rv136, 103, 8, (rn121 + 1), (rx122 ++ x131.cells), true⟩] ∧ (S_chaffref_Nodes_J3 rn118 rx119 rn121 rx122 M123 I124 mu125 x131 rn174 rx175 K)) ?_ ?_
      · refine Wp.join (fun a w => ∃ (x137 : Bool), Sx 59 E [] M123 w a [(3, rv136), (4, (Value.slice ad127 rn118 cap128)), (5, (Value.pointer (some ⟨b132, 0, none⟩))), (6, (Value.slice none 0 0)), (36, (Value.bool x137))] [⟨b132, 103, [(Value.int .i64 x131.Expr.Kind), (Value.int .u64 x131.Expr.Set.w0), (Value.int .u64 x131.Expr.Set.w1), (Value.int .u64 x131.Expr.Set.w2), (Value.int .u64 x131.Expr.Set.w3), (Value.string (mkS x131.Expr.Text)), (Value.slice x131.Expr.Kids_a x131.Expr.Kids_l x131.Expr.Kids_c), (Value.int .i64 x131.Deep)]⟩, ⟨b2, 55, [(Value.int .i64 e1.Kind), (Value.int .u64 e1.Set.w0), (Value.int .u64 e1.Set.w1), (Value.int .u64 e1.Set.w2), (Value.int .u64 e1.Set.w3), (Value.string (mkS e1.Text)), (Value.slice e1.Kids_a e1.Kids_l e1.Kids_c)]⟩] [⟨(Value.slice none 0 0), 103, 8, 0, [], true⟩, ⟨(Value.slice ad127 rn118 cap128), 103, 8, rn118, rx119, true⟩, ⟨rv136, 103, 8, (rn121 + 1), (rx122 ++ x131.cells), true⟩] ∧ (S_chaffref_Nodes_J2 rn118 rx119 rn121 rx122 M123 I124 mu125 x131 x137 K)) ?_ ?_
        · refine Wp.region ?_
          refine stepY (v := (Value.pointer (some ⟨b132, 7, none⟩))) hs rfl rfl (by decide) (Yl.pure rfl (fun _ => by kernel_rfl)) (fun _ hs => ?_)
          refine stepY (v := (Value.int .i64 x131.Deep)) hs rfl rfl (by decide) (Yl.loadB (vs := [(Value.int .i64 x131.Deep)]) false 0 rfl rfl rfl (by kernel_rfl) rfl) (fun _ hs => ?_)
          refine stepY (v := (Value.bool (decide (x131.Deep ≤ 12)))) hs rfl rfl (by decide) (Yl.pure rfl (fun _ => by kernel_rfl)) (fun _ hs => ?_)
          refine stepY (v := (Value.bool (decide (x131.Deep ≤ 12)))) hs rfl rfl (by decide) (Yl.pure rfl (fun _ => by kernel_rfl)) (fun _ hs => ?_)
          refine bsplit (decide (x131.Deep ≤ 12)) decide_eq_true_iff (fun hb hc => ?_) (fun hb hc => ?_)
          · have hs := hs.bt hb
            have hS := hS.1 hc
            refine step_yes hs rfl rfl rfl ?_
            refine stepY (v := (Value.pointer (some ⟨b132, 0, none⟩))) hs rfl rfl (by decide) (Yl.pure rfl (fun _ => by kernel_rfl)) (fun _ hs => ?_)
            refine step_yes hs rfl rfl rfl ?_
            refine stepY (v := (Value.pointer (some ⟨b132, 6, none⟩))) hs rfl rfl (by decide) (Yl.pure rfl (fun _ => by kernel_rfl)) (fun _ hs => ?_)
            refine step_yes hs rfl rfl rfl ?_
            refine stepY (v := (Value.slice x131.Expr.Kids_a x131.Expr.Kids_l x131.Expr.Kids_c)) hs rfl rfl (by decide) (Yl.loadB (vs := [(Value.slice x131.Expr.Kids_a x131.Expr.Kids_l x131.Expr.Kids_c)]) false 0 rfl rfl rfl (by kernel_rfl) rfl) (fun _ hs => ?_)
            refine step_yes hs rfl rfl rfl ?_
            refine stepY (v := (Value.int .i64 ((x131.Expr.Kids_l : Nat) : Int))) hs rfl rfl (by decide) (Yl.pure rfl (fun _ => by kernel_rfl)) (fun _ hs => ?_)
            refine step_yes hs rfl rfl rfl ?_
            refine stepY (v := (Value.bool (decide (((x131.Expr.Kids_l : Nat) : Int) ≤ 8)))) hs rfl rfl (by decide) (Yl.pure rfl (fun _ => by kernel_rfl)) (fun _ hs => ?_)
            refine stepY (v := (Value.bool (decide (((x131.Expr.Kids_l : Nat) : Int) ≤ 8)))) hs rfl rfl (by decide) (Yl.pure rfl (fun _ => by kernel_rfl)) (fun _ hs => ?_)
            refine wpList_nil ?_
            exact ⟨(decide (((x131.Expr.Kids_l : Nat) : Int) ≤ 8)), (hs.weak (List.Sublist.refl _) (.cons_cons _ (.cons _ (.cons_cons _ (.cons_cons _ List.Sublist.slnil)))) ⟨rfl, rfl, rfl, rfl, rfl, trivial⟩), hS⟩
          · have hs := hs.bf hb
            have hS := hS.2 hc
            refine step_no hs rfl rfl rfl rfl rfl (by decide) (fun _ hs => ?_)
            refine step_no hs rfl rfl rfl rfl rfl (by decide) (fun _ hs => ?_)
            refine step_no hs rfl rfl rfl rfl rfl (by decide) (fun _ hs => ?_)
            refine step_no hs rfl rfl rfl rfl rfl (by decide) (fun _ hs => ?_)
            refine step_no hs rfl rfl rfl rfl rfl (by decide) (fun _ hs => ?_)
            refine stepY (v := (Value.bool false)) hs rfl rfl (by decide) (Yl.pure rfl (fun _ => by kernel_rfl)) (fun _ hs => ?_)
            refine wpList_nil ?_
            exact ⟨false, (hs.weak (List.Sublist.refl _) (.cons_cons _ (.cons _ (.cons_cons _ (.cons_cons _ List.Sublist.slnil)))) ⟨rfl, rfl, rfl, rfl, rfl, trivial⟩), hS⟩
        · intro a w hJ
          obtain ⟨x137, hs, hS⟩ := hJ
          unfold S_chaffref_Nodes_J2 at hS
          refine Wp.cond hs rfl rfl Iff.rfl (fun hc => ?_) (fun hc => ?_)
          · have hS := hS.1 hc
            refine Wp.seq ?_
            refine Wp.region ?_
            refine stepY (v := (Value.pointer (some ⟨b132, 0, none⟩))) hs rfl rfl (by decide) (Yl.pure rfl (fun _ => by kernel_rfl)) (fun _ hs => ?_)
            refine stepY (v := (Value.pointer (some ⟨b132, 6, none⟩))) hs rfl rfl (by decide) (Yl.pure rfl (fun _ => by kernel_rfl)) (fun _ hs => ?_)
            refine stepY (v := (Value.slice x131.Expr.Kids_a x131.Expr.Kids_l x131.Expr.Kids_c)) hs rfl rfl (by decide) (Yl.loadB (vs := [(Value.slice x131.Expr.Kids_a x131.Expr.Kids_l x131.Expr.Kids_c)]) false 0 rfl rfl rfl (by kernel_rfl) rfl) (fun _ hs => ?_)
            refine stepY (v := (Value.int .i64 ((x131.Expr.Kids_l : Nat) : Int))) hs rfl rfl (by decide) (Yl.pure rfl (fun _ => by kernel_rfl)) (fun _ hs => ?_)
            refine stepY (v := (Value.int .i64 0)) hs rfl rfl (by decide) (Yl.pure rfl (fun _ => by kernel_rfl)) (fun _ hs => ?_)
            refine wpList_nil ?_
            refine Wp.block ?_
            obtain ⟨I163, mu164, hI0, hst⟩ := hS
            refine Wp.loop (σ := (Int) × (Nat) × (List Value) × (Value)) (fun s a w => match s with | (x159, rn161, rx162, rv160) => Sx 59 E [] M123 w a [(3, rv136), (4, (Value.slice ad127 rn118 cap128)), (5, (Value.pointer (some ⟨b132, 0, none⟩))), (6, rv160), (39, (Value.slice x131.Expr.Kids_a x131.Expr.Kids_l x131.Expr.Kids_c)), (40, (Value.int .i64 ((x131.Expr.Kids_l : Nat) : Int))), (41, (Value.int .i64 x159))] [⟨b132, 103, [(Value.int .i64 x131.Expr.Kind), (Value.int .u64 x131.Expr.Set.w0), (Value.int .u64 x131.Expr.Set.w1), (Value.int .u64 x131.Expr.Set.w2), (Value.int .u64 x131.Expr.Set.w3), (Value.string (mkS x131.Expr.Text)), (Value.slice x131.Expr.Kids_a x131.Expr.Kids_l x131.Expr.Kids_c), (Value.int .i64 x131.Deep)]⟩, ⟨b2, 55, [(Value.int .i64 e1.Kind), (Value.int .u64 e1.Set.w0), (Value.int .u64 e1.Set.w1), (Value.int .u64 e1.Set.w2), (Value.int .u64 e1.Set.w3), (Value.string (mkS e1.Text)), (Value.slice e1.Kids_a e1.Kids_l e1.Kids_c)]⟩] [⟨rv160, 103, 8, rn161, rx162, true⟩, ⟨(Value.slice ad127 rn118 cap128), 103, 8, rn118, rx119, true⟩, ⟨rv136, 103, 8, (rn121 + 1), (rx122 ++ x131.cells), true⟩] ∧ I163 x159 rn161 rx162) (fun s => match s with | (x159, rn161, rx162, rv160) => mu164 x159 rn161 rx162) (0, 0, [], (Value.slice none 0 0)) ⟨(hs.weak (List.Sublist.refl _) (List.Sublist.refl _) ⟨rfl, rfl, rfl, rfl, rfl, rfl, rfl, trivial⟩), hI0⟩ (fun s a w hI => ?_)
            obtain ⟨x159, rn161, rx162, rv160⟩ := s
            obtain ⟨hs, hI⟩ := hI
            have hS := hst x159 rn161 rx162 hI
            clear hst hI0 hI
            refine Wp.seq ?_
            refine Wp.region ?_
            refine stepY (v := (Value.bool (decide (x159 < ((x131.Expr.Kids_l : Nat) : Int))))) hs rfl rfl (by decide) (Yl.pure rfl (fun _ => by kernel_rfl)) (fun _ hs => ?_)
            refine wpList_nil ?_
            refine Wp.seq ?_
            refine Wp.cond hs rfl rfl decide_eq_true_iff (fun hc => ?_) (fun hc => ?_)
            · have hS := hS.1 hc
              refine Wp.skip ?_
              refine Wp.seq ?_
              refine Wp.block ?_
              refine Wp.seq ?_
              refine Wp.region ?_
              obtain ⟨b165, o166, ha, h0, hl, hS⟩ := hS
              refine stepY (v := (Value.pointer (some ⟨b165, o166 + x159.toNat * 7, none⟩))) hs rfl rfl (by decide) (Yl.indexS (e := 55) (sz := 7) rfl rfl rfl rfl (by kernel_rfl) (by kernel_rfl) ha h0 hl) (fun _ hs => ?_)
              obtain ⟨x167, hat, hS⟩ := hS
              refine stepY (v := x167.val) hs rfl rfl (by decide) (Yl.loadV (vs := x167.cells) true rfl rfl (by kernel_rfl) hat) (fun _ hs => ?_)
              refine stepAlloc [(Value.int .i64 0), (Value.int .u64 0), (Value.int .u64 0), (Value.int .u64 0), (Value.int .u64 0), (Value.string (mkS [])), (Value.slice none 0 0)] hs (by kernel_rfl) (by decide) (fun _ _ b168 hEb168 hs => ?_)
              refine stepStoreB 0 (vs := [(Value.int .i64 x167.Kind), (Value.int .u64 x167.Set.w0), (Value.int .u64 x167.Set.w1), (Value.int .u64 x167.Set.w2), (Value.int .u64 x167.Set.w3), (Value.string (mkS x167.Text)), (Value.slice x167.Kids_a x167.Kids_l x167.Kids_c)]) hs rfl rfl rfl rfl rfl rfl (by kernel_rfl) (Nat.le_of_ble_eq_true rfl) rfl (fun _ _ hs => ?_)
              replace hs := hs.chbx (bs' := [⟨b168, 55, [(Value.int .i64 x167.Kind), (Value.int .u64 x167.Set.w0), (Value.int .u64 x167.Set.w1), (Value.int .u64 x167.Set.w2), (Value.int .u64 x167.Set.w3), (Value.string (mkS x167.Text)), (Value.slice x167.Kids_a x167.Kids_l x167.Kids_c)]⟩, ⟨b132, 103, [(Value.int .i64 x131.Expr.Kind), (Value.int .u64 x131.Expr.Set.w0), (Value.int .u64 x131.Expr.Set.w1), (Value.int .u64 x131.Expr.Set.w2), (Value.int .u64 x131.Expr.Set.w3), (Value.string (mkS x131.Expr.Text)), (Value.slice x131.Expr.Kids_a x131.Expr.Kids_l x131.Expr.Kids_c), (Value.int .i64 x131.Deep)]⟩, ⟨b2, 55, [(Value.int .i64 e1.Kind), (Value.int .u64 e1.Set.w0), (Value.int .u64 e1.Set.w1), (Value.int .u64 e1.Set.w2), (Value.int .u64 e1.Set.w3), (Value.string (mkS e1.Text)), (Value.slice e1.Kids_a e1.Kids_l e1.Kids_c)]⟩]) rfl
              refine wpList_nil ?_
              refine Wp.region ?_
              refine stepY (v := rv160) hs rfl rfl (by decide) (Yl.pure rfl (fun _ => by kernel_rfl)) (fun _ hs => ?_)
              refine stepY (v := x167.val) hs rfl rfl (by decide) (Yl.loadB (vs := x167.cells) true 0 rfl rfl rfl (by kernel_rfl) rfl) (fun _ hs => ?_)
              refine stepY (v := (Value.pointer (some ⟨b132, 7, none⟩))) hs rfl rfl (by decide) (Yl.pure rfl (fun _ => by kernel_rfl)) (fun _ hs => ?_)
              refine stepY (v := (Value.int .i64 x131.Deep)) hs rfl rfl (by decide) (Yl.loadB (vs := [(Value.int .i64 x131.Deep)]) false 1 rfl rfl rfl (by kernel_rfl) rfl) (fun _ hs => ?_)
              obtain ⟨hI, hS⟩ := hS
              refine stepY (v := (Value.int .i64 (x131.Deep + 1))) hs rfl rfl (by decide) (Yl.eq (Yl.pure (v := Value.int .i64 (IntKind.wrap .i64 (x131.Deep + 1))) rfl (fun _ => by kernel_rfl)) (congrArg (Value.int .i64) (wrap_in hI))) (fun _ hs => ?_)
              refine stepY (v := (X_chaffref_Node.mk x167 (x131.Deep + 1)).val) hs rfl rfl (by decide) (Yl.pure rfl (fun _ => by kernel_rfl)) (fun _ hs => ?_)
              refine stepMake ((X_chaffref_Node.mk x167 (x131.Deep + 1)).cells) 103 8 1 hs rfl rfl rfl (fun _ => by kernel_rfl) rfl (by unfold maxLen; decide) (by decide) (fun _ _ rv169 hs => ?_)
              obtain ⟨ad170, cap171, hv, hcp, hxl⟩ := hs.rowform 0 rfl
              dsimp only at hv hcp hxl
              subst hv
              obtain ⟨hB, hS⟩ := hS
              refine stepAppend 1 ((X_chaffref_Node.mk x167 (x131.Deep + 1)).cells) hs rfl rfl rfl rfl rfl (by kernel_rfl) (by kernel_rfl) (by decide) (by decide) (hs.srcRow 0 rfl rfl) (lenb hB (by decide)) hB (fun _ _ rv172 hs => ?_)
              replace hs := hs.chrs (rs' := [⟨(Value.slice ad170 1 cap171), 103, 8, 1, (X_chaffref_Node.mk x167 (x131.Deep + 1)).cells, true⟩, ⟨rv172, 103, 8, (rn161 + 1), (rx162 ++ (X_chaffref_Node.mk x167 (x131.Deep + 1)).cells), true⟩, ⟨(Value.slice ad127 rn118 cap128), 103, 8, rn118, rx119, true⟩, ⟨rv136, 103, 8, (rn121 + 1), (rx122 ++ x131.cells), true⟩]) rfl
              refine stepY (v := rv172) hs rfl rfl (by decide) (Yl.pure rfl (fun _ => by kernel_rfl)) (fun _ hs => ?_)
              refine wpList_nil ?_
              refine Wp.region ?_
              obtain ⟨hI, hS⟩ := hS
              refine stepY (v := (Value.int .i64 (x159 + 1))) hs rfl rfl (by decide) (Yl.eq (Yl.pure (v := Value.int .i64 (IntKind.wrap .i64 (x159 + 1))) rfl (fun _ => by kernel_rfl)) (congrArg (Value.int .i64) (wrap_in hI))) (fun _ hs => ?_)
              refine stepY (v := (Value.int .i64 (x159 + 1))) hs rfl rfl (by decide) (Yl.pure rfl (fun _ => by kernel_rfl)) (fun _ hs => ?_)
              refine wpList_nil ?_
              exact ⟨(x159 + 1, (rn161 + 1), (rx162 ++ (X_chaffref_Node.mk x167 (x131.Deep + 1)).cells), rv172), ⟨(hs.weak (.cons _ (.cons_cons _ (.cons_cons _ List.Sublist.slnil))) (.cons _ (.cons_cons _ (.cons_cons _ (.cons_cons _ List.Sublist.slnil)))) ⟨rfl, rfl, rfl, rfl, rfl, rfl, rfl, trivial⟩), hS.1⟩, hS.2⟩
            · have hS := hS.2 hc
              refine Wp.exit rfl ?_
              exact ⟨rn161, rx162, rv160, (hs.weak (List.Sublist.refl _) (List.Sublist.refl _) ⟨rfl, rfl, rfl, trivial⟩), hS⟩
          · have hS := hS.2 hc
            refine Wp.skip ?_
            exact ⟨0, [], (Value.slice none 0 0), (hs.weak (List.Sublist.refl _) (List.Sublist.refl _) ⟨rfl, rfl, rfl, trivial⟩), hS⟩
      · intro a w hJ
        obtain ⟨rn174, rx175, rv173, hs, hS⟩ := hJ
        unfold S_chaffref_Nodes_J3 at hS
        refine Wp.region ?_
        refine stepY (v := rv173) hs rfl rfl (by decide) (Yl.pure rfl (fun _ => by kernel_rfl)) (fun _ hs => ?_)
        refine stepY (v := (Value.slice ad127 rn118 cap128)) hs rfl rfl (by decide) (Yl.pure rfl (fun _ => by kernel_rfl)) (fun _ hs => ?_)
        obtain ⟨M176, hle, hsl, hnew, hs⟩ := hs.release 1 rfl [⟨rv173, 103, 8, rn174, rx175, true⟩, ⟨rv136, 103, 8, (rn121 + 1), (rx122 ++ x131.cells), true⟩] rfl
        have hMM := hMM.next hle hnew
        have hS := hS M176 ad127 cap128 hle hsl
        obtain ⟨h0, h1, hS⟩ := hS
        refine stepY (v := (Value.slice (slA ad127 (1 : Int).toNat cap128 8) (rn118 - (1 : Int).toNat) (cap128 - (1 : Int).toNat))) hs rfl rfl (by decide) (Yl.sliceSL (e := 103) rfl rfl rfl rfl (by kernel_rfl) (by kernel_rfl) h0 h1) (fun _ hs => ?_)
        obtain ⟨news177, hsl, ho, hS⟩ := hS
        obtain ⟨hB, hS⟩ := hS
        refine stepAppend 0 news177 hs rfl rfl rfl rfl rfl (by kernel_rfl) (by kernel_rfl) (by decide) (by decide) (hs.srcV hsl ho) (lenb hB (by decide)) hB (fun _ _ rv178 hs => ?_)
        replace hs := hs.chrs (rs' := [⟨rv178, 103, 8, (rn174 + (rn118 - (1 : Int).toNat)), (rx175 ++ news177), true⟩, ⟨rv136, 103, 8, (rn121 + 1), (rx122 ++ x131.cells), true⟩]) rfl
        refine stepY (v := rv178) hs rfl rfl (by decide) (Yl.pure rfl (fun _ => by kernel_rfl)) (fun _ hs => ?_)
        refine wpList_nil ?_
        exact ⟨((rn174 + (rn118 - (1 : Int).toNat)), (rx175 ++ news177), (rn121 + 1), (rx122 ++ x131.cells), rv178, rv136, M176), ⟨hMM, (hs.weak (.cons _ (.cons_cons _ List.Sublist.slnil)) (List.Sublist.refl _) ⟨rfl, rfl, trivial⟩), hS.1⟩, hS.2⟩
    · have hS := hS.2 hc
      refine Wp.exit rfl ?_
      refine Wp.seq ?_
      refine Wp.region ?_
      refine stepY (v := rv120) hs rfl rfl (by decide) (Yl.pure rfl (fun _ => by kernel_rfl)) (fun _ hs => ?_)
      refine stepY (v := rv120) hs rfl rfl (by decide) (Yl.pure rfl (fun _ => by kernel_rfl)) (fun _ hs => ?_)
      refine wpList_nil ?_
      refine Wp.ret ?_
      obtain ⟨ad179, cap180, hv, hcp, hxl⟩ := hs.rowform 1 rfl
      dsimp only at hv hcp hxl
      subst hv
      obtain ⟨M181, hle, hsl, hnew, hs⟩ := hs.release 1 rfl [⟨rv117, 103, 8, rn118, rx119, true⟩] rfl
      have hMM := hMM.next hle hnew
      have hS := hS M181 ad179 cap180 hle hsl
      exact leaveE (K := K) hs (resT hs rfl rfl) hMM.2 hS
theorem f_chaffref_Nodes (e1 : X_api_Expr) (M : Mem) (K : Value → Mem → Prop) (hS : S_chaffref_Nodes e1 M K) : CallF Try.prog (Value.func (.func 42) #[] #[]) [e1.val] M K := ⟨42, _, _, _, rfl, Try.func42, rfl, (by decide), s_chaffref_Nodes _ _ _ hS⟩
set_option linter.unusedVariables false in
def S_chaffref_right_J2 (e1 : X_api_Expr) (x5 : Bool) (K : Value → Prop) : Prop :=
  ((x5 = true → ((e1.Text = ([] : List UInt8) → (((cellsEq [e1.Set.w0, e1.Set.w1, e1.Set.w2, e1.Set.w3] [0, 0, 0, 0]) = true → K (Value.bool (((e1.Kids_l : Nat) : Int) == (1 : Int)))) ∧ (¬ ((cellsEq [e1.Set.w0, e1.Set.w1, e1.Set.w2, e1.Set.w3] [0, 0, 0, 0]) = true) → K (Value.bool false)))) ∧ (¬ (e1.Text = ([] : List UInt8)) → K (Value.bool false)))) ∧ (¬ (x5 = true) → K (Value.bool false)))
set_option linter.unusedVariables false in
def S_chaffref_right_J1 (e1 : X_api_Expr) (x4 : Bool) (K : Value → Prop) : Prop :=
  ((x4 = true → ((e1.Text = ([] : List UInt8) → (((cellsEq [e1.Set.w0, e1.Set.w1, e1.Set.w2, e1.Set.w3] [0, 0, 0, 0]) = true → ((((e1.Kids_l : Nat) : Int) ≥ 2 → K (Value.bool (decide (((e1.Kids_l : Nat) : Int) ≤ 8)))) ∧ (¬ (((e1.Kids_l : Nat) : Int) ≥ 2) → K (Value.bool false)))) ∧ (¬ ((cellsEq [e1.Set.w0, e1.Set.w1, e1.Set.w2, e1.Set.w3] [0, 0, 0, 0]) = true) → K (Value.bool false)))) ∧ (¬ (e1.Text = ([] : List UInt8)) → K (Value.bool false)))) ∧ (¬ (x4 = true) → ((e1.Kind ≥ 7 → (S_chaffref_right_J2 e1 (decide (e1.Kind ≤ 11)) K)) ∧ (¬ (e1.Kind ≥ 7) → (S_chaffref_right_J2 e1 false K)))))
set_option linter.unusedVariables false in
def S_chaffref_right (e1 : X_api_Expr) (M : Mem) (K : Value → Prop) : Prop :=
  (((e1.Kind : Int) = 1 → ((((e1.Kids_l : Nat) : Int) = 0 → ((e1.Text = ([] : List UInt8) → K (Value.bool (cellsEq [e1.Set.w0, e1.Set.w1, e1.Set.w2, e1.Set.w3] [0, 0, 0, 0]))) ∧ (¬ (e1.Text = ([] : List UInt8)) → K (Value.bool false)))) ∧ (¬ (((e1.Kids_l : Nat) : Int) = 0) → K (Value.bool false)))) ∧ (¬ ((e1.Kind : Int) = 1) → (((e1.Kind : Int) = 2 → ((((e1.Kids_l : Nat) : Int) = 0 → K (Value.bool ((mkS e1.Text).toList == (mkS ([] : List UInt8)).toList))) ∧ (¬ (((e1.Kids_l : Nat) : Int) = 0) → K (Value.bool false)))) ∧ (¬ ((e1.Kind : Int) = 2) → (((e1.Kind : Int) = 3 → ((((e1.Kids_l : Nat) : Int) = 0 → (((cellsEq [e1.Set.w0, e1.Set.w1, e1.Set.w2, e1.Set.w3] [0, 0, 0, 0]) = true → ((¬ (e1.Text = ([] : List UInt8)) → K (Value.bool (decide (((e1.Text.length : Nat) : Int) ≤ 12)))) ∧ (¬ (¬ (e1.Text = ([] : List UInt8))) → K (Value.bool false)))) ∧ (¬ ((cellsEq [e1.Set.w0, e1.Set.w1, e1.Set.w2, e1.Set.w3] [0, 0, 0, 0]) = true) → K (Value.bool false)))) ∧ (¬ (((e1.Kids_l : Nat) : Int) = 0) → K (Value.bool false)))) ∧ (¬ ((e1.Kind : Int) = 3) → (((e1.Kind : Int) = 4 → ((((e1.Kids_l : Nat) : Int) = 0 → (((cellsEq [e1.Set.w0, e1.Set.w1, e1.Set.w2, e1.Set.w3] [0, 0, 0, 0]) = true → (CallE Try.prog 34 #[(Value.string (mkS e1.Text))] M (fun v _ => ∃ (x3 : Bool), v = (Value.bool x3) ∧ K (Value.bool x3)))) ∧ (¬ ((cellsEq [e1.Set.w0, e1.Set.w1, e1.Set.w2, e1.Set.w3] [0, 0, 0, 0]) = true) → K (Value.bool false)))) ∧ (¬ (((e1.Kids_l : Nat) : Int) = 0) → K (Value.bool false)))) ∧ (¬ ((e1.Kind : Int) = 4) → (((e1.Kind : Int) = 5 → (S_chaffref_right_J1 e1 true K)) ∧ (¬ ((e1.Kind : Int) = 5) → (S_chaffref_right_J1 e1 ((e1.Kind : Int) == (6 : Int)) K)))))))))))
set_option linter.unusedVariables false in
set_option maxRecDepth 100000 in
theorem s_chaffref_right (e1 : X_api_Expr) (M : Mem) (K : Value → Prop) (hS : S_chaffref_right e1 M K) : CallE Try.prog 69 #[e1.val] M (fun v _ => K v) := by
  refine enterE Try.func69 rfl 111 rfl (Nat.le_of_ble_eq_true rfl) (fun E a hs => ?_)
  unfold S_chaffref_right at hS
  have hMM := MX.refl M E
  change Sx 111 E [] M E a [(0, e1.val)] [] [] at hs
  refine Wp.seq ?_
  refine Wp.region ?_
  refine stepBox [(Value.int .i64 e1.Kind), (Value.int .u64 e1.Set.w0), (Value.int .u64 e1.Set.w1), (Value.int .u64 e1.Set.w2), (Value.int .u64 e1.Set.w3), (Value.string (mkS e1.Text)), (Value.slice e1.Kids_a e1.Kids_l e1.Kids_c)] hs rfl rfl rfl (by decide) (fun _ _ b2 hEb2 hs => ?_)
  refine stepY (v := (Value.bool false)) hs rfl rfl (by decide) (Yl.pure rfl (fun _ => by kernel_rfl)) (fun _ hs => ?_)
  refine wpList_nil ?_
  refine Wp.seq ?_
  refine Wp.regionD [true, true, true, true, true, true, true, true, true, true, true, true, true, true] hs (by kernel_rfl) rfl [⟨b2, 55, [(Value.int .i64 e1.Kind), (Value.int .u64 e1.Set.w0), (Value.int .u64 e1.Set.w1), (Value.int .u64 e1.Set.w2), (Value.int .u64 e1.Set.w3), (Value.string (mkS e1.Text)), (Value.slice e1.Kids_a e1.Kids_l e1.Kids_c)]⟩] (fun _ h => h) [] (fun _ h => h) (fun _ hs hC => ?_)
  have hL := Mem.le.refl M
  refine stepDP (v := (Value.pointer (some ⟨b2, 6, none⟩))) 0 [1, 2, 3, 11, 12, 13] hs QZ.no rfl (wanted_none rfl) rfl (by decide) (by kernel_rfl) (by kernel_rfl) (by kernel_rfl) (Yl.pure rfl (fun _ => by kernel_rfl)) (fun _ hs => ?_)
  refine stepDY (v := (Value.slice e1.Kids_a e1.Kids_l e1.Kids_c)) 1 [2, 3, 11, 12, 13] hs hC QZ.no rfl (wanted_none rfl) rfl (by decide) (by kernel_rfl) (by kernel_rfl) (by kernel_rfl) (Yl.loadB (vs := [(Value.slice e1.Kids_a e1.Kids_l e1.Kids_c)]) false 0 rfl rfl rfl (by kernel_rfl) rfl) (fun _ hs => ?_)
  refine stepDP (v := (Value.int .i64 ((e1.Kids_l : Nat) : Int))) 2 [3, 11, 12, 13] hs QZ.no rfl (wanted_none rfl) rfl (by decide) (by kernel_rfl) (by kernel_rfl) (by kernel_rfl) (Yl.pure rfl (fun _ => by kernel_rfl)) (fun _ hs => ?_)
  refine stepDP (v := (Value.bool (((e1.Kids_l : Nat) : Int) == (0 : Int)))) 3 [11, 12, 13] hs QZ.no rfl (wanted_none rfl) rfl (by decide) (by kernel_rfl) (by kernel_rfl) (by kernel_rfl) (Yl.pure rfl (fun _ => by kernel_rfl)) (fun _ hs => ?_)
  refine stepDP (v := (Value.pointer (some ⟨b2, 5, none⟩))) 4 [5, 6, 12, 13] hs QZ.no rfl (wanted_none rfl) rfl (by decide) (by kernel_rfl) (by kernel_rfl) (by kernel_rfl) (Yl.pure rfl (fun _ => by kernel_rfl)) (fun _ hs => ?_)
  refine stepDY (v := (Value.string (mkS e1.Text))) 5 [6, 12, 13] hs hC QZ.no rfl (wanted_none rfl) rfl (by decide) (by kernel_rfl) (by kernel_rfl) (by kernel_rfl) (Yl.loadB (vs := [(Value.string (mkS e1.Text))]) false 0 rfl rfl rfl (by kernel_rfl) rfl) (fun _ hs => ?_)
  refine stepDP (v := (Value.bool ((mkS e1.Text).toList == (mkS ([] : List UInt8)).toList))) 6 [12, 13] hs QZ.no rfl (wanted_none rfl) rfl (by decide) (by kernel_rfl) (by kernel_rfl) (by kernel_rfl) (Yl.pure rfl (fun _ => by kernel_rfl)) (fun _ hs => ?_)
  refine stepDP (v := (Value.pointer (some ⟨b2, 1, none⟩))) 7 [8, 10, 13] hs QZ.no rfl (wanted_none rfl) rfl (by decide) (by kernel_rfl) (by kernel_rfl) (by kernel_rfl) (Yl.pure rfl (fun _ => by kernel_rfl)) (fun _ hs => ?_)
  refine stepDY (v := e1.Set.val) 8 [10, 13] hs hC QZ.no rfl (wanted_none rfl) rfl (by decide) (by kernel_rfl) (by kernel_rfl) (by kernel_rfl) (Yl.loadB (vs := e1.Set.cells) true 0 rfl rfl rfl (by kernel_rfl) rfl) (fun _ hs => ?_)
  refine stepDP (v := (X_api_Set.mk 0 0 0 0).val) 9 [10, 13] hs QZ.no rfl (wanted_none rfl) rfl (by decide) (by kernel_rfl) (by kernel_rfl) (by kernel_rfl) (Yl.pure rfl (fun _ => by kernel_rfl)) (fun _ hs => ?_)
  refine stepDP (v := (Value.bool (cellsEq [e1.Set.w0, e1.Set.w1, e1.Set.w2, e1.Set.w3] [0, 0, 0, 0]))) 10 [13] hs QZ.no rfl (wanted_none rfl) rfl (by decide) (by kernel_rfl) (by kernel_rfl) (by kernel_rfl) (Yl.eqlA (n := 4) (e := 27) (k := .u64) (xs := [e1.Set.w0, e1.Set.w1, e1.Set.w2, e1.Set.w3]) (ys := [0, 0, 0, 0]) rfl (by kernel_rfl) (by kernel_rfl) (by kernel_rfl) (by kernel_rfl) rfl rfl rfl rfl rfl rfl) (fun _ hs => ?_)
  refine stepDE 11 rfl (wanted_none rfl) (by kernel_rfl) #[] ?_
  refine stepY (v := (Value.bool (((e1.Kids_l : Nat) : Int) == (0 : Int)))) hs rfl rfl (by decide) (Yl.pure rfl (fun _ => by kernel_rfl)) (fun _ hs => ?_)
  refine wpList_nil ?_
  refine ⟨fun _ h => h, ?_⟩
  refine stepDE 12 rfl (wanted_none rfl) (by kernel_rfl) #[] ?_
  refine stepY (v := (Value.bool ((mkS e1.Text).toList == (mkS ([] : List UInt8)).toList))) hs rfl rfl (by decide) (Yl.pure rfl (fun _ => by kernel_rfl)) (fun _ hs => ?_)
  refine wpList_nil ?_
  refine ⟨fun _ h => h, ?_⟩
  refine stepDE 13 rfl (wanted_none rfl) (by kernel_rfl) #[] ?_
  refine stepY (v := (Value.bool (cellsEq [e1.Set.w0, e1.Set.w1, e1.Set.w2, e1.Set.w3] [0, 0, 0, 0]))) hs rfl rfl (by decide) (Yl.pure rfl (fun _ => by kernel_rfl)) (fun _ hs => ?_)
  refine wpList_nil ?_
  refine ⟨fun _ h => h, ?_⟩
  refine WpD.done (by kernel_rfl) ?_ _
  refine Wp.seq ?_
  refine Wp.block ?_
  refine Wp.seq ?_
  refine Wp.region ?_
  refine stepY (v := (Value.pointer (some ⟨b2, 0, none⟩))) hs rfl rfl (by decide) (Yl.pure rfl (fun _ => by kernel_rfl)) (fun _ hs => ?_)
  refine stepY (v := (Value.int .i64 e1.Kind)) hs rfl rfl (by decide) (Yl.loadB (vs := [(Value.int .i64 e1.Kind)]) false 0 rfl rfl rfl (by kernel_rfl) rfl) (fun _ hs => ?_)
  refine stepY (v := (Value.bool ((e1.Kind : Int) == (1 : Int)))) hs rfl rfl (by decide) (Yl.pure rfl (fun _ => by kernel_rfl)) (fun _ hs => ?_)
  refine stepY (v := (Value.bool ((e1.Kind : Int) == (1 : Int)))) hs rfl rfl (by decide) (Yl.pure rfl (fun _ => by kernel_rfl)) (fun _ hs => ?_)
  refine wpList_nil ?_
  refine Wp.cond hs rfl rfl beq_iff_eq (fun hc => ?_) (fun hc => ?_)
  · have hS := hS.1 hc
    refine Wp.seq ?_
    refine Wp.region ?_
    refine stepY (v := (Value.bool (((e1.Kids_l : Nat) : Int) == (0 : Int)))) hs rfl rfl (by decide) (Yl.pure rfl (fun _ => by kernel_rfl)) (fun _ hs => ?_)
    refine stepY (v := (Value.bool (((e1.Kids_l : Nat) : Int) == (0 : Int)))) hs rfl rfl (by decide) (Yl.pure rfl (fun _ => by kernel_rfl)) (fun _ hs => ?_)
    refine bsplit (((e1.Kids_l : Nat) : Int) == (0 : Int)) beq_iff_eq (fun hb hc => ?_) (fun hb hc => ?_)
    · have hs := hs.bt hb
      have hS := hS.1 hc
      refine step_yes hs rfl rfl rfl ?_
      refine stepY (v := (Value.bool ((mkS e1.Text).toList == (mkS ([] : List UInt8)).toList))) hs rfl rfl (by decide) (Yl.pure rfl (fun _ => by kernel_rfl)) (fun _ hs => ?_)
      refine stepY (v := (Value.bool ((mkS e1.Text).toList == (mkS ([] : List UInt8)).toList))) hs rfl rfl (by decide) (Yl.pure rfl (fun _ => by kernel_rfl)) (fun _ hs => ?_)
      refine stepY (v := (Value.bool ((mkS e1.Text).toList == (mkS ([] : List UInt8)).toList))) hs rfl rfl (by decide) (Yl.pure rfl (fun _ => by kernel_rfl)) (fun _ hs => ?_)
      refine bsplit ((mkS e1.Text).toList == (mkS ([] : List UInt8)).toList) mkS_beq (fun hb hc => ?_) (fun hb hc => ?_)
      · have hs := hs.bt hb
        have hS := hS.1 hc
        refine step_yes hs rfl rfl rfl ?_
        refine stepY (v := (Value.bool (cellsEq [e1.Set.w0, e1.Set.w1, e1.Set.w2, e1.Set.w3] [0, 0, 0, 0]))) hs rfl rfl (by decide) (Yl.pure rfl (fun _ => by kernel_rfl)) (fun _ hs => ?_)
        refine stepY (v := (Value.bool (cellsEq [e1.Set.w0, e1.Set.w1, e1.Set.w2, e1.Set.w3] [0, 0, 0, 0]))) hs rfl rfl (by decide) (Yl.pure rfl (fun _ => by kernel_rfl)) (fun _ hs => ?_)
        refine stepY (v := (Value.bool (cellsEq [e1.Set.w0, e1.Set.w1, e1.Set.w2, e1.Set.w3] [0, 0, 0, 0]))) hs rfl rfl (by decide) (Yl.pure rfl (fun _ => by kernel_rfl)) (fun _ hs => ?_)
        refine wpList_nil ?_
        refine Wp.ret ?_
        exact leaveE (K := fun v _ => K v) hs (resT hs rfl rfl) hMM.2 (fun _ _ => hS)
      · have hs := hs.bf hb
        have hS := hS.2 hc
        refine step_no hs rfl rfl rfl rfl rfl (by decide) (fun _ hs => ?_)
        refine stepY (v := (Value.bool false)) hs rfl rfl (by decide) (Yl.pure rfl (fun _ => by kernel_rfl)) (fun _ hs => ?_)
        refine stepY (v := (Value.bool false)) hs rfl rfl (by decide) (Yl.pure rfl (fun _ => by kernel_rfl)) (fun _ hs => ?_)
        refine wpList_nil ?_
        refine Wp.ret ?_
        exact leaveE (K := fun v _ => K v) hs (resT hs rfl rfl) hMM.2 (fun _ _ => hS)
    · have hs := hs.bf hb
      have hS := hS.2 hc
      refine step_no hs rfl rfl rfl rfl rfl (by decide) (fun _ hs => ?_)
      refine stepY (v := (Value.bool false)) hs rfl rfl (by decide) (Yl.pure rfl (fun _ => by kernel_rfl)) (fun _ hs => ?_)
      refine stepY (v := (Value.bool false)) hs rfl rfl (by decide) (Yl.pure rfl (fun _ => by kernel_rfl)) (fun _ hs => ?_)
      refine step_no hs rfl rfl rfl rfl rfl (by decide) (fun _ hs => ?_)
      refine stepY (v := (Value.bool false)) hs rfl rfl (by decide) (Yl.pure rfl (fun _ => by kernel_rfl)) (fun _ hs => ?_)
      refine stepY (v := (Value.bool false)) hs rfl rfl (by decide) (Yl.pure rfl (fun _ => by kernel_rfl)) (fun _ hs => ?_)
      refine wpList_nil ?_
      refine Wp.ret ?_
      exact leaveE (K := fun v _ => K v) hs (resT hs rfl rfl) hMM.2 (fun _ _ => hS)
  · have hS := hS.2 hc
    refine Wp.seq ?_
    refine Wp.region ?_
    refine stepY (v := (Value.pointer (some ⟨b2, 0, none⟩))) hs rfl rfl (by decide) (Yl.pure rfl (fun _ => by kernel_rfl)) (fun _ hs => ?_)
    refine stepY (v := (Value.int .i64 e1.Kind)) hs rfl rfl (by decide) (Yl.loadB (vs := [(Value.int .i64 e1.Kind)]) false 0 rfl rfl rfl (by kernel_rfl) rfl) (fun _ hs => ?_)
    refine stepY (v := (Value.bool ((e1.Kind : Int) == (2 : Int)))) hs rfl rfl (by decide) (Yl.pure rfl (fun _ => by kernel_rfl)) (fun _ hs => ?_)
    refine stepY (v := (Value.bool ((e1.Kind : Int) == (2 : Int)))) hs rfl rfl (by decide) (Yl.pure rfl (fun _ => by kernel_rfl)) (fun _ hs => ?_)
    refine wpList_nil ?_
    refine Wp.cond hs rfl rfl beq_iff_eq (fun hc => ?_) (fun hc => ?_)
    · have hS := hS.1 hc
      refine Wp.seq ?_
      refine Wp.region ?_
      refine stepY (v := (Value.bool (((e1.Kids_l : Nat) : Int) == (0 : Int)))) hs rfl rfl (by decide) (Yl.pure rfl (fun _ => by kernel_rfl)) (fun _ hs => ?_)
      refine stepY (v := (Value.bool (((e1.Kids_l : Nat) : Int) == (0 : Int)))) hs rfl rfl (by decide) (Yl.pure rfl (fun _ => by kernel_rfl)) (fun _ hs => ?_)
      refine bsplit (((e1.Kids_l : Nat) : Int) == (0 : Int)) beq_iff_eq (fun hb hc => ?_) (fun hb hc => ?_)
      · have hs := hs.bt hb
        have hS := hS.1 hc
        refine step_yes hs rfl rfl rfl ?_
        refine stepY (v := (Value.bool ((mkS e1.Text).toList == (mkS ([] : List UInt8)).toList))) hs rfl rfl (by decide) (Yl.pure rfl (fun _ => by kernel_rfl)) (fun _ hs => ?_)
        refine stepY (v := (Value.bool ((mkS e1.Text).toList == (mkS ([] : List UInt8)).toList))) hs rfl rfl (by decide) (Yl.pure rfl (fun _ => by kernel_rfl)) (fun _ hs => ?_)
        refine stepY (v := (Value.bool ((mkS e1.Text).toList == (mkS ([] : List UInt8)).toList))) hs rfl rfl (by decide) (Yl.pure rfl (fun _ => by kernel_rfl)) (fun _ hs => ?_)
        refine wpList_nil ?_
        refine Wp.ret ?_
        exact leaveE (K := fun v _ => K v) hs (resT hs rfl rfl) hMM.2 (fun _ _ => hS)
      · have hs := hs.bf hb
        have hS := hS.2 hc
        refine step_no hs rfl rfl rfl rfl rfl (by decide) (fun _ hs => ?_)
        refine stepY (v := (Value.bool false)) hs rfl rfl (by decide) (Yl.pure rfl (fun _ => by kernel_rfl)) (fun _ hs => ?_)
        refine stepY (v := (Value.bool false)) hs rfl rfl (by decide) (Yl.pure rfl (fun _ => by kernel_rfl)) (fun _ hs => ?_)
        refine wpList_nil ?_
        refine Wp.ret ?_
        exact leaveE (K := fun v _ => K v) hs (resT hs rfl rfl) hMM.2 (fun _ _ => hS)
    · have hS := hS.2 hc
      refine Wp.seq ?_
      refine Wp.region ?_
      refine stepY (v := (Value.pointer (some ⟨b2, 0, none⟩))) hs rfl rfl (by decide) (Yl.pure rfl (fun _ => by kernel_rfl)) (fun _ hs => ?_)
      refine stepY (v := (Value.int .i64 e1.Kind)) hs rfl rfl (by decide) (Yl.loadB (vs := [(Value.int .i64 e1.Kind)]) false 0 rfl rfl rfl (by kernel_rfl) rfl) (fun _ hs => ?_)
      refine stepY (v := (Value.bool ((e1.Kind : Int) == (3 : Int)))) hs rfl rfl (by decide) (Yl.pure rfl (fun _ => by kernel_rfl)) (fun _ hs => ?_)
      refine stepY (v := (Value.bool ((e1.Kind : Int) == (3 : Int)))) hs rfl rfl (by decide) (Yl.pure rfl (fun _ => by kernel_rfl)) (fun _ hs => ?_)
      refine wpList_nil ?_
      refine Wp.cond hs rfl rfl beq_iff_eq (fun hc => ?_) (fun hc => ?_)
      · have hS := hS.1 hc
        refine Wp.seq ?_
        refine Wp.region ?_
        refine stepY (v := (Value.bool (((e1.Kids_l : Nat) : Int) == (0 : Int)))) hs rfl rfl (by decide) (Yl.pure rfl (fun _ => by kernel_rfl)) (fun _ hs => ?_)
        refine stepY (v := (Value.bool (((e1.Kids_l : Nat) : Int) == (0 : Int)))) hs rfl rfl (by decide) (Yl.pure rfl (fun _ => by kernel_rfl)) (fun _ hs => ?_)
        refine bsplit (((e1.Kids_l : Nat) : Int) == (0 : Int)) beq_iff_eq (fun hb hc => ?_) (fun hb hc => ?_)
        · have hs := hs.bt hb
          have hS := hS.1 hc
          refine step_yes hs rfl rfl rfl ?_
          refine stepY (v := (Value.bool (cellsEq [e1.Set.w0, e1.Set.w1, e1.Set.w2, e1.Set.w3] [0, 0, 0, 0]))) hs rfl rfl (by decide) (Yl.pure rfl (fun _ => by kernel_rfl)) (fun _ hs => ?_)
          refine stepY (v := (Value.bool (cellsEq [e1.Set.w0, e1.Set.w1, e1.Set.w2, e1.Set.w3] [0, 0, 0, 0]))) hs rfl rfl (by decide) (Yl.pure rfl (fun _ => by kernel_rfl)) (fun _ hs => ?_)
          refine stepY (v := (Value.bool (cellsEq [e1.Set.w0, e1.Set.w1, e1.Set.w2, e1.Set.w3] [0, 0, 0, 0]))) hs rfl rfl (by decide) (Yl.pure rfl (fun _ => by kernel_rfl)) (fun _ hs => ?_)
          refine bsplit (cellsEq [e1.Set.w0, e1.Set.w1, e1.Set.w2, e1.Set.w3] [0, 0, 0, 0]) Iff.rfl (fun hb hc => ?_) (fun hb hc => ?_)
          · have hs := hs.bt hb
            have hS := hS.1 hc
            refine step_yes hs rfl rfl rfl ?_
            refine stepY (v := (Value.bool ((mkS e1.Text).toList == (mkS ([] : List UInt8)).toList))) hs rfl rfl (by decide) (Yl.pure rfl (fun _ => by kernel_rfl)) (fun _ hs => ?_)
            refine step_yes hs rfl rfl rfl ?_
            refine stepY (v := (Value.bool (!((mkS e1.Text).toList == (mkS ([] : List UInt8)).toList)))) hs rfl rfl (by decide) (Yl.pure rfl (fun _ => by kernel_rfl)) (fun _ hs => ?_)
            refine stepY (v := (Value.bool (!((mkS e1.Text).toList == (mkS ([] : List UInt8)).toList)))) hs rfl rfl (by decide) (Yl.pure rfl (fun _ => by kernel_rfl)) (fun _ hs => ?_)
            refine stepY (v := (Value.bool (!((mkS e1.Text).toList == (mkS ([] : List UInt8)).toList)))) hs rfl rfl (by decide) (Yl.pure rfl (fun _ => by kernel_rfl)) (fun _ hs => ?_)
            refine bsplit (!((mkS e1.Text).toList == (mkS ([] : List UInt8)).toList)) (bnot_iff mkS_beq) (fun hb hc => ?_) (fun hb hc => ?_)
            · have hs := hs.bt hb
              have hS := hS.1 hc
              refine step_yes hs rfl rfl rfl ?_
              refine stepY (v := (Value.pointer (some ⟨b2, 5, none⟩))) hs rfl rfl (by decide) (Yl.pure rfl (fun _ => by kernel_rfl)) (fun _ hs => ?_)
              refine step_yes hs rfl rfl rfl ?_
              refine stepY (v := (Value.string (mkS e1.Text))) hs rfl rfl (by decide) (Yl.loadB (vs := [(Value.string (mkS e1.Text))]) false 0 rfl rfl rfl (by kernel_rfl) rfl) (fun _ hs => ?_)
              refine step_yes hs rfl rfl rfl ?_
              refine stepY (v := (Value.int .i64 ((e1.Text.length : Nat) : Int))) hs rfl rfl (by decide) (Yl.pure rfl (fun _ => by kernel_rfl)) (fun _ hs => ?_)
              refine step_yes hs rfl rfl rfl ?_
              refine stepY (v := (Value.bool (decide (((e1.Text.length : Nat) : Int) ≤ 12)))) hs rfl rfl (by decide) (Yl.pure rfl (fun _ => by kernel_rfl)) (fun _ hs => ?_)
              refine stepY (v := (Value.bool (decide (((e1.Text.length : Nat) : Int) ≤ 12)))) hs rfl rfl (by decide) (Yl.pure rfl (fun _ => by kernel_rfl)) (fun _ hs => ?_)
              refine stepY (v := (Value.bool (decide (((e1.Text.length : Nat) : Int) ≤ 12)))) hs rfl rfl (by decide) (Yl.pure rfl (fun _ => by kernel_rfl)) (fun _ hs => ?_)
              refine wpList_nil ?_
              refine Wp.ret ?_
              exact leaveE (K := fun v _ => K v) hs (resT hs rfl rfl) hMM.2 (fun _ _ => hS)
            · have hs := hs.bf hb
              have hS := hS.2 hc
              refine step_no hs rfl rfl rfl rfl rfl (by decide) (fun _ hs => ?_)
              refine step_no hs rfl rfl rfl rfl rfl (by decide) (fun _ hs => ?_)
              refine step_no hs rfl rfl rfl rfl rfl (by decide) (fun _ hs => ?_)
              refine step_no hs rfl rfl rfl rfl rfl (by decide) (fun _ hs => ?_)
              refine stepY (v := (Value.bool false)) hs rfl rfl (by decide) (Yl.pure rfl (fun _ => by kernel_rfl)) (fun _ hs => ?_)
              refine stepY (v := (Value.bool false)) hs rfl rfl (by decide) (Yl.pure rfl (fun _ => by kernel_rfl)) (fun _ hs => ?_)
              refine wpList_nil ?_
              refine Wp.ret ?_
              exact leaveE (K := fun v _ => K v) hs (resT hs rfl rfl) hMM.2 (fun _ _ => hS)
          · have hs := hs.bf hb
            have hS := hS.2 hc
            refine step_no hs rfl rfl rfl rfl rfl (by decide) (fun _ hs => ?_)
            refine step_no hs rfl rfl rfl rfl rfl (by decide) (fun _ hs => ?_)
            refine stepY (v := (Value.bool false)) hs rfl rfl (by decide) (Yl.pure rfl (fun _ => by kernel_rfl)) (fun _ hs => ?_)
            refine stepY (v := (Value.bool false)) hs rfl rfl (by decide) (Yl.pure rfl (fun _ => by kernel_rfl)) (fun _ hs => ?_)
            refine step_no hs rfl rfl rfl rfl rfl (by decide) (fun _ hs => ?_)
            refine step_no hs rfl rfl rfl rfl rfl (by decide) (fun _ hs => ?_)
            refine step_no hs rfl rfl rfl rfl rfl (by decide) (fun _ hs => ?_)
            refine step_no hs rfl rfl rfl rfl rfl (by decide) (fun _ hs => ?_)
            refine stepY (v := (Value.bool false)) hs rfl rfl (by decide) (Yl.pure rfl (fun _ => by kernel_rfl)) (fun _ hs => ?_)
            refine stepY (v := (Value.bool false)) hs rfl rfl (by decide) (Yl.pure rfl (fun _ => by kernel_rfl)) (fun _ hs => ?_)
            refine wpList_nil ?_
            refine Wp.ret ?_
            exact leaveE (K := fun v _ => K v) hs (resT hs rfl rfl) hMM.2 (fun _ _ => hS)
        · have hs := hs.bf hb
          have hS := hS.2 hc
          refine step_no hs rfl rfl rfl rfl rfl (by decide) (fun _ hs => ?_)
          refine stepY (v := (Value.bool false)) hs rfl rfl (by decide) (Yl.pure rfl (fun _ => by kernel_rfl)) (fun _ hs => ?_)
          refine stepY (v := (Value.bool false)) hs rfl rfl (by decide) (Yl.pure rfl (fun _ => by kernel_rfl)) (fun _ hs => ?_)
          refine step_no hs rfl rfl rfl rfl rfl (by decide) (fun _ hs => ?_)
          refine step_no hs rfl rfl rfl rfl rfl (by decide) (fun _ hs => ?_)
          refine stepY (v := (Value.bool false)) hs rfl rfl (by decide) (Yl.pure rfl (fun _ => by kernel_rfl)) (fun _ hs => ?_)
          refine stepY (v := (Value.bool false)) hs rfl rfl (by decide) (Yl.pure rfl (fun _ => by kernel_rfl)) (fun _ hs => ?_)
          refine step_no hs rfl rfl rfl rfl rfl (by decide) (fun _ hs => ?_)
          refine step_no hs rfl rfl rfl rfl rfl (by decide) (fun _ hs => ?_)
          refine step_no hs rfl rfl rfl rfl rfl (by decide) (fun _ hs => ?_)
          refine step_no hs rfl rfl rfl rfl rfl (by decide) (fun _ hs => ?_)
          refine stepY (v := (Value.bool false)) hs rfl rfl (by decide) (Yl.pure rfl (fun _ => by kernel_rfl)) (fun _ hs => ?_)
          refine stepY (v := (Value.bool false)) hs rfl rfl (by decide) (Yl.pure rfl (fun _ => by kernel_rfl)) (fun _ hs => ?_)
          refine wpList_nil ?_
          refine Wp.ret ?_
          exact leaveE (K := fun v _ => K v) hs (resT hs rfl rfl) hMM.2 (fun _ _ => hS)
      · have hS := hS.2 hc
        refine Wp.seq ?_
        refine Wp.region ?_
        refine stepY (v := (Value.pointer (some ⟨b2, 0, none⟩))) hs rfl rfl (by decide) (Yl.pure rfl (fun _ => by kernel_rfl)) (fun _ hs => ?_)
        refine stepY (v := (Value.int .i64 e1.Kind)) hs rfl rfl (by decide) (Yl.loadB (vs := [(Value.int .i64 e1.Kind)]) false 0 rfl rfl rfl (by kernel_rfl) rfl) (fun _ hs => ?_)
        refine stepY (v := (Value.bool ((e1.Kind : Int) == (4 : Int)))) hs rfl rfl (by decide) (Yl.pure rfl (fun _ => by kernel_rfl)) (fun _ hs => ?_)
        refine stepY (v := (Value.bool ((e1.Kind : Int) == (4 : Int)))) hs rfl rfl (by decide) (Yl.pure rfl (fun _ => by kernel_rfl)) (fun _ hs => ?_)
        refine wpList_nil ?_
        refine Wp.cond hs rfl rfl beq_iff_eq (fun hc => ?_) (fun hc => ?_)
        · have hS := hS.1 hc
          refine Wp.seq ?_
          refine Wp.region ?_
          refine stepY (v := (Value.bool (((e1.Kids_l : Nat) : Int) == (0 : Int)))) hs rfl rfl (by decide) (Yl.pure rfl (fun _ => by kernel_rfl)) (fun _ hs => ?_)
          refine stepY (v := (Value.bool (((e1.Kids_l : Nat) : Int) == (0 : Int)))) hs rfl rfl (by decide) (Yl.pure rfl (fun _ => by kernel_rfl)) (fun _ hs => ?_)
          refine bsplit (((e1.Kids_l : Nat) : Int) == (0 : Int)) beq_iff_eq (fun hb hc => ?_) (fun hb hc => ?_)
          · have hs := hs.bt hb
            have hS := hS.1 hc
            refine step_yes hs rfl rfl rfl ?_
            refine stepY (v := (Value.bool (cellsEq [e1.Set.w0, e1.Set.w1, e1.Set.w2, e1.Set.w3] [0, 0, 0, 0]))) hs rfl rfl (by decide) (Yl.pure rfl (fun _ => by kernel_rfl)) (fun _ hs => ?_)
            refine stepY (v := (Value.bool (cellsEq [e1.Set.w0, e1.Set.w1, e1.Set.w2, e1.Set.w3] [0, 0, 0, 0]))) hs rfl rfl (by decide) (Yl.pure rfl (fun _ => by kernel_rfl)) (fun _ hs => ?_)
            refine stepY (v := (Value.bool (cellsEq [e1.Set.w0, e1.Set.w1, e1.Set.w2, e1.Set.w3] [0, 0, 0, 0]))) hs rfl rfl (by decide) (Yl.pure rfl (fun _ => by kernel_rfl)) (fun _ hs => ?_)
            refine bsplit (cellsEq [e1.Set.w0, e1.Set.w1, e1.Set.w2, e1.Set.w3] [0, 0, 0, 0]) Iff.rfl (fun hb hc => ?_) (fun hb hc => ?_)
            · have hs := hs.bt hb
              have hS := hS.1 hc
              refine step_yes hs rfl rfl rfl ?_
              refine stepY (v := (Value.pointer (some ⟨b2, 5, none⟩))) hs rfl rfl (by decide) (Yl.pure rfl (fun _ => by kernel_rfl)) (fun _ hs => ?_)
              refine step_yes hs rfl rfl rfl ?_
              refine stepY (v := (Value.string (mkS e1.Text))) hs rfl rfl (by decide) (Yl.loadB (vs := [(Value.string (mkS e1.Text))]) false 0 rfl rfl rfl (by kernel_rfl) rfl) (fun _ hs => ?_)
              refine step_yes hs rfl rfl rfl ?_
              refine stepCallP [(Value.string (mkS e1.Text))] hs rfl ⟨_, rfl, rfl⟩ rfl Try.func34 rfl (by kernel_rfl) (by decide) hS (fun _ _ v hS hs => ?_)
              obtain ⟨x3, hv, hS⟩ := hS
              subst hv
              refine stepY (v := (Value.bool x3)) hs rfl rfl (by decide) (Yl.pure rfl (fun _ => by kernel_rfl)) (fun _ hs => ?_)
              refine stepY (v := (Value.bool x3)) hs rfl rfl (by decide) (Yl.pure rfl (fun _ => by kernel_rfl)) (fun _ hs => ?_)
              refine wpList_nil ?_
              refine Wp.ret ?_
              exact leaveE (K := fun v _ => K v) hs (resT hs rfl rfl) hMM.2 (fun _ _ => hS)
            · have hs := hs.bf hb
              have hS := hS.2 hc
              refine step_no hs rfl rfl rfl rfl rfl (by decide) (fun _ hs => ?_)
              refine step_no hs rfl rfl rfl rfl rfl (by decide) (fun _ hs => ?_)
              refine step_no hs rfl rfl rfl rfl rfl (by decide) (fun _ hs => ?_)
              refine stepY (v := (Value.bool false)) hs rfl rfl (by decide) (Yl.pure rfl (fun _ => by kernel_rfl)) (fun _ hs => ?_)
              refine stepY (v := (Value.bool false)) hs rfl rfl (by decide) (Yl.pure rfl (fun _ => by kernel_rfl)) (fun _ hs => ?_)
              refine wpList_nil ?_
              refine Wp.ret ?_
              exact leaveE (K := fun v _ => K v) hs (resT hs rfl rfl) hMM.2 (fun _ _ => hS)
          · have hs := hs.bf hb
            have hS := hS.2 hc
            refine step_no hs rfl rfl rfl rfl rfl (by decide) (fun _ hs => ?_)
            refine stepY (v := (Value.bool false)) hs rfl rfl (by decide) (Yl.pure rfl (fun _ => by kernel_rfl)) (fun _ hs => ?_)
            refine stepY (v := (Value.bool false)) hs rfl rfl (by decide) (Yl.pure rfl (fun _ => by kernel_rfl)) (fun _ hs => ?_)
            refine step_no hs rfl rfl rfl rfl rfl (by decide) (fun _ hs => ?_)
            refine step_no hs rfl rfl rfl rfl rfl (by decide) (fun _ hs => ?_)
            refine step_no hs rfl rfl rfl rfl rfl (by decide) (fun _ hs => ?_)
            refine stepY (v := (Value.bool false)) hs rfl rfl (by decide) (Yl.pure rfl (fun _ => by kernel_rfl)) (fun _ hs => ?_)
            refine stepY (v := (Value.bool false)) hs rfl rfl (by decide) (Yl.pure rfl (fun _ => by kernel_rfl)) (fun _ hs => ?_)
            refine wpList_nil ?_
            refine Wp.ret ?_
            exact leaveE (K := fun v _ => K v) hs (resT hs rfl rfl) hMM.2 (fun _ _ => hS)
        · have hS := hS.2 hc
          refine Wp.join (fun a w => ∃ (x4 : Bool), Sx 111 E [] M w a [(1, (Value.pointer (some ⟨b2, 0, none⟩))), (4, (Value.bool ((mkS e1.Text).toList == (mkS ([] : List UInt8)).toList))), (5, (Value.bool (cellsEq [e1.Set.w0, e1.Set.w1, e1.Set.w2, e1.Set.w3] [0, 0, 0, 0]))), (67, (Value.bool x4))] [⟨b2, 55, [(Value.int .i64 e1.Kind), (Value.int .u64 e1.Set.w0), (Value.int .u64 e1.Set.w1), (Value.int .u64 e1.Set.w2), (Value.int .u64 e1.Set.w3), (Value.string (mkS e1.Text)), (Value.slice e1.Kids_a e1.Kids_l e1.Kids_c)]⟩] [] ∧ (S_chaffref_right_J1 e1 x4 K)) ?_ ?_
          · refine Wp.region ?_
            refine stepY (v := (Value.pointer (some ⟨b2, 0, none⟩))) hs rfl rfl (by decide) (Yl.pure rfl (fun _ => by kernel_rfl)) (fun _ hs => ?_)
            refine stepY (v := (Value.int .i64 e1.Kind)) hs rfl rfl (by decide) (Yl.loadB (vs := [(Value.int .i64 e1.Kind)]) false 0 rfl rfl rfl (by kernel_rfl) rfl) (fun _ hs => ?_)
            refine stepY (v := (Value.bool ((e1.Kind : Int) == (5 : Int)))) hs rfl rfl (by decide) (Yl.pure rfl (fun _ => by kernel_rfl)) (fun _ hs => ?_)
            refine stepY (v := (Value.bool ((e1.Kind : Int) == (5 : Int)))) hs rfl rfl (by decide) (Yl.pure rfl (fun _ => by kernel_rfl)) (fun _ hs => ?_)
            refine bsplit ((e1.Kind : Int) == (5 : Int)) beq_iff_eq (fun hb hc => ?_) (fun hb hc => ?_)
            · have hs := hs.bt hb
              have hS := hS.1 hc
              refine step_no hs rfl rfl rfl rfl rfl (by decide) (fun _ hs => ?_)
              refine step_no hs rfl rfl rfl rfl rfl (by decide) (fun _ hs => ?_)
              refine step_no hs rfl rfl rfl rfl rfl (by decide) (fun _ hs => ?_)
              refine stepY (v := (Value.bool true)) hs rfl rfl (by decide) (Yl.pure rfl (fun _ => by kernel_rfl)) (fun _ hs => ?_)
              refine stepY (v := (Value.bool true)) hs rfl rfl (by decide) (Yl.pure rfl (fun _ => by kernel_rfl)) (fun _ hs => ?_)
              refine wpList_nil ?_
              exact ⟨true, (hs.weak (List.Sublist.refl _) (List.Sublist.refl _) ⟨rfl, rfl, rfl, rfl, trivial⟩), hS⟩
            · have hs := hs.bf hb
              have hS := hS.2 hc
              refine step_yes hs rfl rfl rfl ?_
              refine stepY (v := (Value.pointer (some ⟨b2, 0, none⟩))) hs rfl rfl (by decide) (Yl.pure rfl (fun _ => by kernel_rfl)) (fun _ hs => ?_)
              refine step_yes hs rfl rfl rfl ?_
              refine stepY (v := (Value.int .i64 e1.Kind)) hs rfl rfl (by decide) (Yl.loadB (vs := [(Value.int .i64 e1.Kind)]) false 0 rfl rfl rfl (by kernel_rfl) rfl) (fun _ hs => ?_)
              refine step_yes hs rfl rfl rfl ?_
              refine stepY (v := (Value.bool ((e1.Kind : Int) == (6 : Int)))) hs rfl rfl (by decide) (Yl.pure rfl (fun _ => by kernel_rfl)) (fun _ hs => ?_)
              refine stepY (v := (Value.bool ((e1.Kind : Int) == (6 : Int)))) hs rfl rfl (by decide) (Yl.pure rfl (fun _ => by kernel_rfl)) (fun _ hs => ?_)
              refine stepY (v := (Value.bool ((e1.Kind : Int) == (6 : Int)))) hs rfl rfl (by decide) (Yl.pure rfl (fun _ => by kernel_rfl)) (fun _ hs => ?_)
              refine wpList_nil ?_
              exact ⟨((e1.Kind : Int) == (6 : Int)), (hs.weak (List.Sublist.refl _) (List.Sublist.refl _) ⟨rfl, rfl, rfl, rfl, trivial⟩), hS⟩
          · intro a w hJ
            obtain ⟨x4, hs, hS⟩ := hJ
            unfold S_chaffref_right_J1 at hS
            refine Wp.cond hs rfl rfl Iff.rfl (fun hc => ?_) (fun hc => ?_)
            · have hS := hS.1 hc
              refine Wp.seq ?_
              refine Wp.region ?_
              refine stepY (v := (Value.bool ((mkS e1.Text).toList == (mkS ([] : List UInt8)).toList))) hs rfl rfl (by decide) (Yl.pure rfl (fun _ => by kernel_rfl)) (fun _ hs => ?_)
              refine stepY (v := (Value.bool ((mkS e1.Text).toList == (mkS ([] : List UInt8)).toList))) hs rfl rfl (by decide) (Yl.pure rfl (fun _ => by kernel_rfl)) (fun _ hs => ?_)
              refine bsplit ((mkS e1.Text).toList == (mkS ([] : List UInt8)).toList) mkS_beq (fun hb hc => ?_) (fun hb hc => ?_)
              · have hs := hs.bt hb
                have hS := hS.1 hc
                refine step_yes hs rfl rfl rfl ?_
                refine stepY (v := (Value.bool (cellsEq [e1.Set.w0, e1.Set.w1, e1.Set.w2, e1.Set.w3] [0, 0, 0, 0]))) hs rfl rfl (by decide) (Yl.pure rfl (fun _ => by kernel_rfl)) (fun _ hs => ?_)
                refine stepY (v := (Value.bool (cellsEq [e1.Set.w0, e1.Set.w1, e1.Set.w2, e1.Set.w3] [0, 0, 0, 0]))) hs rfl rfl (by decide) (Yl.pure rfl (fun _ => by kernel_rfl)) (fun _ hs => ?_)
                refine stepY (v := (Value.bool (cellsEq [e1.Set.w0, e1.Set.w1, e1.Set.w2, e1.Set.w3] [0, 0, 0, 0]))) hs rfl rfl (by decide) (Yl.pure rfl (fun _ => by kernel_rfl)) (fun _ hs => ?_)
                refine bsplit (cellsEq [e1.Set.w0, e1.Set.w1, e1.Set.w2, e1.Set.w3] [0, 0, 0, 0]) Iff.rfl (fun hb hc => ?_) (fun hb hc => ?_)
                · have hs := hs.bt hb
                  have hS := hS.1 hc
                  refine step_yes hs rfl rfl rfl ?_
                  refine stepY (v := (Value.pointer (some ⟨b2, 6, none⟩))) hs rfl rfl (by decide) (Yl.pure rfl (fun _ => by kernel_rfl)) (fun _ hs => ?_)
                  refine step_yes hs rfl rfl rfl ?_
                  refine stepY (v := (Value.slice e1.Kids_a e1.Kids_l e1.Kids_c)) hs rfl rfl (by decide) (Yl.loadB (vs := [(Value.slice e1.Kids_a e1.Kids_l e1.Kids_c)]) false 0 rfl rfl rfl (by kernel_rfl) rfl) (fun _ hs => ?_)
                  refine step_yes hs rfl rfl rfl ?_
                  refine stepY (v := (Value.int .i64 ((e1.Kids_l : Nat) : Int))) hs rfl rfl (by decide) (Yl.pure rfl (fun _ => by kernel_rfl)) (fun _ hs => ?_)
                  refine step_yes hs rfl rfl rfl ?_
                  refine stepY (v := (Value.bool (decide (((e1.Kids_l : Nat) : Int) ≥ 2)))) hs rfl rfl (by decide) (Yl.pure rfl (fun _ => by kernel_rfl)) (fun _ hs => ?_)
                  refine stepY (v := (Value.bool (decide (((e1.Kids_l : Nat) : Int) ≥ 2)))) hs rfl rfl (by decide) (Yl.pure rfl (fun _ => by kernel_rfl)) (fun _ hs => ?_)
                  refine stepY (v := (Value.bool (decide (((e1.Kids_l : Nat) : Int) ≥ 2)))) hs rfl rfl (by decide) (Yl.pure rfl (fun _ => by kernel_rfl)) (fun _ hs => ?_)
                  refine bsplit (decide (((e1.Kids_l : Nat) : Int) ≥ 2)) decide_eq_true_iff (fun hb hc => ?_) (fun hb hc => ?_)
                  · have hs := hs.bt hb
                    have hS := hS.1 hc
                    refine step_yes hs rfl rfl rfl ?_
                    refine stepY (v := (Value.pointer (some ⟨b2, 6, none⟩))) hs rfl rfl (by decide) (Yl.pure rfl (fun _ => by kernel_rfl)) (fun _ hs => ?_)
                    refine step_yes hs rfl rfl rfl ?_
                    refine stepY (v := (Value.slice e1.Kids_a e1.Kids_l e1.Kids_c)) hs rfl rfl (by decide) (Yl.loadB (vs := [(Value.slice e1.Kids_a e1.Kids_l e1.Kids_c)]) false 0 rfl rfl rfl (by kernel_rfl) rfl) (fun _ hs => ?_)
                    refine step_yes hs rfl rfl rfl ?_
                    refine stepY (v := (Value.int .i64 ((e1.Kids_l : Nat) : Int))) hs rfl rfl (by decide) (Yl.pure rfl (fun _ => by kernel_rfl)) (fun _ hs => ?_)
                    refine step_yes hs rfl rfl rfl ?_
                    refine stepY (v := (Value.bool (decide (((e1.Kids_l : Nat) : Int) ≤ 8)))) hs rfl rfl (by decide) (Yl.pure rfl (fun _ => by kernel_rfl)) (fun _ hs => ?_)
                    refine stepY (v := (Value.bool (decide (((e1.Kids_l : Nat) : Int) ≤ 8)))) hs rfl rfl (by decide) (Yl.pure rfl (fun _ => by kernel_rfl)) (fun _ hs => ?_)
                    refine stepY (v := (Value.bool (decide (((e1.Kids_l : Nat) : Int) ≤ 8)))) hs rfl rfl (by decide) (Yl.pure rfl (fun _ => by kernel_rfl)) (fun _ hs => ?_)
                    refine wpList_nil ?_
                    refine Wp.ret ?_
                    exact leaveE (K := fun v _ => K v) hs (resT hs rfl rfl) hMM.2 (fun _ _ => hS)
                  · have hs := hs.bf hb
                    have hS := hS.2 hc
                    refine step_no hs rfl rfl rfl rfl rfl (by decide) (fun _ hs => ?_)
                    refine step_no hs rfl rfl rfl rfl rfl (by decide) (fun _ hs => ?_)
                    refine step_no hs rfl rfl rfl rfl rfl (by decide) (fun _ hs => ?_)
                    refine step_no hs rfl rfl rfl rfl rfl (by decide) (fun _ hs => ?_)
                    refine stepY (v := (Value.bool false)) hs rfl rfl (by decide) (Yl.pure rfl (fun _ => by kernel_rfl)) (fun _ hs => ?_)
                    refine stepY (v := (Value.bool false)) hs rfl rfl (by decide) (Yl.pure rfl (fun _ => by kernel_rfl)) (fun _ hs => ?_)
                    refine wpList_nil ?_
                    refine Wp.ret ?_
                    exact leaveE (K := fun v _ => K v) hs (resT hs rfl rfl) hMM.2 (fun _ _ => hS)
                · have hs := hs.bf hb
                  have hS := hS.2 hc
                  refine step_no hs rfl rfl rfl rfl rfl (by decide) (fun _ hs => ?_)
                  refine step_no hs rfl rfl rfl rfl rfl (by decide) (fun _ hs => ?_)
                  refine step_no hs rfl rfl rfl rfl rfl (by decide) (fun _ hs => ?_)
                  refine step_no hs rfl rfl rfl rfl rfl (by decide) (fun _ hs => ?_)
                  refine stepY (v := (Value.bool false)) hs rfl rfl (by decide) (Yl.pure rfl (fun _ => by kernel_rfl)) (fun _ hs => ?_)
                  refine stepY (v := (Value.bool false)) hs rfl rfl (by decide) (Yl.pure rfl (fun _ => by kernel_rfl)) (fun _ hs => ?_)
                  refine step_no hs rfl rfl rfl rfl rfl (by decide) (fun _ hs => ?_)
                  refine step_no hs rfl rfl rfl rfl rfl (by decide) (fun _ hs => ?_)
                  refine step_no hs rfl rfl rfl rfl rfl (by decide) (fun _ hs => ?_)
                  refine step_no hs rfl rfl rfl rfl rfl (by decide) (fun _ hs => ?_)
                  refine stepY (v := (Value.bool false)) hs rfl rfl (by decide) (Yl.pure rfl (fun _ => by kernel_rfl)) (fun _ hs => ?_)
                  refine stepY (v := (Value.bool false)) hs rfl rfl (by decide) (Yl.pure rfl (fun _ => by kernel_rfl)) (fun _ hs => ?_)
                  refine wpList_nil ?_
                  refine Wp.ret ?_
                  exact leaveE (K := fun v _ => K v) hs (resT hs rfl rfl) hMM.2 (fun _ _ => hS)
              · have hs := hs.bf hb
                have hS := hS.2 hc
                refine step_no hs rfl rfl rfl rfl rfl (by decide) (fun _ hs => ?_)
                refine stepY (v := (Value.bool false)) hs rfl rfl (by decide) (Yl.pure rfl (fun _ => by kernel_rfl)) (fun _ hs => ?_)
                refine stepY (v := (Value.bool false)) hs rfl rfl (by decide) (Yl.pure rfl (fun _ => by kernel_rfl)) (fun _ hs => ?_)
                refine step_no hs rfl rfl rfl rfl rfl (by decide) (fun _ hs => ?_)
                refine step_no hs rfl rfl rfl rfl rfl (by decide) (fun _ hs => ?_)
                refine step_no hs rfl rfl rfl rfl rfl (by decide) (fun _ hs => ?_)
                refine step_no hs rfl rfl rfl rfl rfl (by decide) (fun _ hs => ?_)
                refine stepY (v := (Value.bool false)) hs rfl rfl (by decide) (Yl.pure rfl (fun _ => by kernel_rfl)) (fun _ hs => ?_)
                refine stepY (v := (Value.bool false)) hs rfl rfl (by decide) (Yl.pure rfl (fun _ => by kernel_rfl)) (fun _ hs => ?_)
                refine step_no hs rfl rfl rfl rfl rfl (by decide) (fun _ hs => ?_)
                refine step_no hs rfl rfl rfl rfl rfl (by decide) (fun _ hs => ?_)
                refine step_no hs rfl rfl rfl rfl rfl (by decide) (fun _ hs => ?_)
                refine step_no hs rfl rfl rfl rfl rfl (by decide) (fun _ hs => ?_)
                refine stepY (v := (Value.bool false)) hs rfl rfl (by decide) (Yl.pure rfl (fun _ => by kernel_rfl)) (fun _ hs => ?_)
                refine stepY (v := (Value.bool false)) hs rfl rfl (by decide) (Yl.pure rfl (fun _ => by kernel_rfl)) (fun _ hs => ?_)
                refine wpList_nil ?_
                refine Wp.ret ?_
                exact leaveE (K := fun v _ => K v) hs (resT hs rfl rfl) hMM.2 (fun _ _ => hS)
            · have hS := hS.2 hc
              refine Wp.join (fun a w => ∃ (x5 : Bool), Sx 111 E [] M w a [(1, (Value.pointer (some ⟨b2, 0, none⟩))), (4, (Value.bool ((mkS e1.Text).toList == (mkS ([] : List UInt8)).toList))), (5, (Value.bool (cellsEq [e1.Set.w0, e1.Set.w1, e1.Set.w2, e1.Set.w3] [0, 0, 0, 0]))), (92, (Value.bool x5))] [⟨b2, 55, [(Value.int .i64 e1.Kind), (Value.int .u64 e1.Set.w0), (Value.int .u64 e1.Set.w1), (Value.int .u64 e1.Set.w2), (Value.int .u64 e1.Set.w3), (Value.string (mkS e1.Text)), (Value.slice e1.Kids_a e1.Kids_l e1.Kids_c)]⟩] [] ∧ (S_chaffref_right_J2 e1 x5 K)) ?_ ?_
              · refine Wp.region ?_
                refine stepY (v := (Value.pointer (some ⟨b2, 0, none⟩))) hs rfl rfl (by decide) (Yl.pure rfl (fun _ => by kernel_rfl)) (fun _ hs => ?_)
                refine stepY (v := (Value.int .i64 e1.Kind)) hs rfl rfl (by decide) (Yl.loadB (vs := [(Value.int .i64 e1.Kind)]) false 0 rfl rfl rfl (by kernel_rfl) rfl) (fun _ hs => ?_)
                refine stepY (v := (Value.bool (decide (e1.Kind ≥ 7)))) hs rfl rfl (by decide) (Yl.pure rfl (fun _ => by kernel_rfl)) (fun _ hs => ?_)
                refine stepY (v := (Value.bool (decide (e1.Kind ≥ 7)))) hs rfl rfl (by decide) (Yl.pure rfl (fun _ => by kernel_rfl)) (fun _ hs => ?_)
                refine bsplit (decide (e1.Kind ≥ 7)) decide_eq_true_iff (fun hb hc => ?_) (fun hb hc => ?_)
                · have hs := hs.bt hb
                  have hS := hS.1 hc
                  refine step_yes hs rfl rfl rfl ?_
                  refine stepY (v := (Value.pointer (some ⟨b2, 0, none⟩))) hs rfl rfl (by decide) (Yl.pure rfl (fun _ => by kernel_rfl)) (fun _ hs => ?_)
                  refine step_yes hs rfl rfl rfl ?_
                  refine stepY (v := (Value.int .i64 e1.Kind)) hs rfl rfl (by decide) (Yl.loadB (vs := [(Value.int .i64 e1.Kind)]) false 0 rfl rfl rfl (by kernel_rfl) rfl) (fun _ hs => ?_)
                  refine step_yes hs rfl rfl rfl ?_
                  refine stepY (v := (Value.bool (decide (e1.Kind ≤ 11)))) hs rfl rfl (by decide) (Yl.pure rfl (fun _ => by kernel_rfl)) (fun _ hs => ?_)
                  refine stepY (v := (Value.bool (decide (e1.Kind ≤ 11)))) hs rfl rfl (by decide) (Yl.pure rfl (fun _ => by kernel_rfl)) (fun _ hs => ?_)
                  refine stepY (v := (Value.bool (decide (e1.Kind ≤ 11)))) hs rfl rfl (by decide) (Yl.pure rfl (fun _ => by kernel_rfl)) (fun _ hs => ?_)
                  refine wpList_nil ?_
                  exact ⟨(decide (e1.Kind ≤ 11)), (hs.weak (List.Sublist.refl _) (List.Sublist.refl _) ⟨rfl, rfl, rfl, rfl, trivial⟩), hS⟩
                · have hs := hs.bf hb
                  have hS := hS.2 hc
                  refine step_no hs rfl rfl rfl rfl rfl (by decide) (fun _ hs => ?_)
                  refine step_no hs rfl rfl rfl rfl rfl (by decide) (fun _ hs => ?_)
                  refine step_no hs rfl rfl rfl rfl rfl (by decide) (fun _ hs => ?_)
                  refine stepY (v := (Value.bool false)) hs rfl rfl (by decide) (Yl.pure rfl (fun _ => by kernel_rfl)) (fun _ hs => ?_)
                  refine stepY (v := (Value.bool false)) hs rfl rfl (by decide) (Yl.pure rfl (fun _ => by kernel_rfl)) (fun _ hs => ?_)
                  refine wpList_nil ?_
                  exact ⟨false, (hs.weak (List.Sublist.refl _) (List.Sublist.refl _) ⟨rfl, rfl, rfl, rfl, trivial⟩), hS⟩
              · intro a w hJ
                obtain ⟨x5, hs, hS⟩ := hJ
                unfold S_chaffref_right_J2 at hS
                refine Wp.cond hs rfl rfl Iff.rfl (fun hc => ?_) (fun hc => ?_)
                · have hS := hS.1 hc
                  refine Wp.seq ?_
                  refine Wp.region ?_
                  refine stepY (v := (Value.bool ((mkS e1.Text).toList == (mkS ([] : List UInt8)).toList))) hs rfl rfl (by decide) (Yl.pure rfl (fun _ => by kernel_rfl)) (fun _ hs => ?_)
                  refine stepY (v := (Value.bool ((mkS e1.Text).toList == (mkS ([] : List UInt8)).toList))) hs rfl rfl (by decide) (Yl.pure rfl (fun _ => by kernel_rfl)) (fun _ hs => ?_)
                  refine bsplit ((mkS e1.Text).toList == (mkS ([] : List UInt8)).toList) mkS_beq (fun hb hc => ?_) (fun hb hc => ?_)
                  · have hs := hs.bt hb
                    have hS := hS.1 hc
                    refine step_yes hs rfl rfl rfl ?_
                    refine stepY (v := (Value.bool (cellsEq [e1.Set.w0, e1.Set.w1, e1.Set.w2, e1.Set.w3] [0, 0, 0, 0]))) hs rfl rfl (by decide) (Yl.pure rfl (fun _ => by kernel_rfl)) (fun _ hs => ?_)
                    refine stepY (v := (Value.bool (cellsEq [e1.Set.w0, e1.Set.w1, e1.Set.w2, e1.Set.w3] [0, 0, 0, 0]))) hs rfl rfl (by decide) (Yl.pure rfl (fun _ => by kernel_rfl)) (fun _ hs => ?_)
                    refine stepY (v := (Value.bool (cellsEq [e1.Set.w0, e1.Set.w1, e1.Set.w2, e1.Set.w3] [0, 0, 0, 0]))) hs rfl rfl (by decide) (Yl.pure rfl (fun _ => by kernel_rfl)) (fun _ hs => ?_)
                    refine bsplit (cellsEq [e1.Set.w0, e1.Set.w1, e1.Set.w2, e1.Set.w3] [0, 0, 0, 0]) Iff.rfl (fun hb hc => ?_) (fun hb hc => ?_)
                    · have hs := hs.bt hb
                      have hS := hS.1 hc
                      refine step_yes hs rfl rfl rfl ?_
                      refine stepY (v := (Value.pointer (some ⟨b2, 6, none⟩))) hs rfl rfl (by decide) (Yl.pure rfl (fun _ => by kernel_rfl)) (fun _ hs => ?_)
                      refine step_yes hs rfl rfl rfl ?_
                      refine stepY (v := (Value.slice e1.Kids_a e1.Kids_l e1.Kids_c)) hs rfl rfl (by decide) (Yl.loadB (vs := [(Value.slice e1.Kids_a e1.Kids_l e1.Kids_c)]) false 0 rfl rfl rfl (by kernel_rfl) rfl) (fun _ hs => ?_)
                      refine step_yes hs rfl rfl rfl ?_
                      refine stepY (v := (Value.int .i64 ((e1.Kids_l : Nat) : Int))) hs rfl rfl (by decide) (Yl.pure rfl (fun _ => by kernel_rfl)) (fun _ hs => ?_)
                      refine step_yes hs rfl rfl rfl ?_
                      refine stepY (v := (Value.bool (((e1.Kids_l : Nat) : Int) == (1 : Int)))) hs rfl rfl (by decide) (Yl.pure rfl (fun _ => by kernel_rfl)) (fun _ hs => ?_)
                      refine stepY (v := (Value.bool (((e1.Kids_l : Nat) : Int) == (1 : Int)))) hs rfl rfl (by decide) (Yl.pure rfl (fun _ => by kernel_rfl)) (fun _ hs => ?_)
                      refine stepY (v := (Value.bool (((e1.Kids_l : Nat) : Int) == (1 : Int)))) hs rfl rfl (by decide) (Yl.pure rfl (fun _ => by kernel_rfl)) (fun _ hs => ?_)
                      refine wpList_nil ?_
                      refine Wp.ret ?_
                      exact leaveE (K := fun v _ => K v) hs (resT hs rfl rfl) hMM.2 (fun _ _ => hS)
                    · have hs := hs.bf hb
                      have hS := hS.2 hc
                      refine step_no hs rfl rfl rfl rfl rfl (by decide) (fun _ hs => ?_)
                      refine step_no hs rfl rfl rfl rfl rfl (by decide) (fun _ hs => ?_)
                      refine step_no hs rfl rfl rfl rfl rfl (by decide) (fun _ hs => ?_)
                      refine step_no hs rfl rfl rfl rfl rfl (by decide) (fun _ hs => ?_)
                      refine stepY (v := (Value.bool false)) hs rfl rfl (by decide) (Yl.pure rfl (fun _ => by kernel_rfl)) (fun _ hs => ?_)
                      refine stepY (v := (Value.bool false)) hs rfl rfl (by decide) (Yl.pure rfl (fun _ => by kernel_rfl)) (fun _ hs => ?_)
                      refine wpList_nil ?_
                      refine Wp.ret ?_
                      exact leaveE (K := fun v _ => K v) hs (resT hs rfl rfl) hMM.2 (fun _ _ => hS)
                  · have hs := hs.bf hb
                    have hS := hS.2 hc
                    refine step_no hs rfl rfl rfl rfl rfl (by decide) (fun _ hs => ?_)
                    refine stepY (v := (Value.bool false)) hs rfl rfl (by decide) (Yl.pure rfl (fun _ => by kernel_rfl)) (fun _ hs => ?_)
                    refine stepY (v := (Value.bool false)) hs rfl rfl (by decide) (Yl.pure rfl (fun _ => by kernel_rfl)) (fun _ hs => ?_)
                    refine step_no hs rfl rfl rfl rfl rfl (by decide) (fun _ hs => ?_)
                    refine step_no hs rfl rfl rfl rfl rfl (by decide) (fun _ hs => ?_)
                    refine step_no hs rfl rfl rfl rfl rfl (by decide) (fun _ hs => ?_)
                    refine step_no hs rfl rfl rfl rfl rfl (by decide) (fun _ hs => ?_)
                    refine stepY (v := (Value.bool false)) hs rfl rfl (by decide) (Yl.pure rfl (fun _ => by kernel_rfl)) (fun _ hs => ?_)
                    refine stepY (v := (Value.bool false)) hs rfl rfl (by decide) (Yl.pure rfl (fun _ => by kernel_rfl)) (fun _ hs => ?_)
                    refine wpList_nil ?_
                    refine Wp.ret ?_
                    exact leaveE (K := fun v _ => K v) hs (resT hs rfl rfl) hMM.2 (fun _ _ => hS)
                · have hS := hS.2 hc
                  refine Wp.skip ?_
                  refine Wp.seq ?_
                  refine Wp.region ?_
                  refine stepY (v := (Value.bool false)) hs rfl rfl (by decide) (Yl.pure rfl (fun _ => by kernel_rfl)) (fun _ hs => ?_)
                  refine wpList_nil ?_
                  refine Wp.ret ?_
                  exact leaveE (K := fun v _ => K v) hs (resT hs rfl rfl) hMM.2 (fun _ _ => hS)
theorem f_chaffref_right (e1 : X_api_Expr) (M : Mem) (K : Value → Prop) (hS : S_chaffref_right e1 M K) : CallF Try.prog (Value.func (.func 69) #[] #[]) [e1.val] M (fun v _ => K v) := ⟨69, _, _, _, rfl, Try.func69, rfl, (by decide), s_chaffref_right _ _ _ hS⟩
set_option linter.unusedVariables false in
def S_chaffref_Expr (e1 : X_api_Expr) (M : Mem) (K : Value → Prop) : Prop :=
  (CallE Try.prog 42 #[e1.val] M (fun v M6 => ∃ (xa3 : Option Addr) (xl4 : Nat) (xc5 : Nat), v = (Value.slice xa3 xl4 xc5) ∧ (∃ (I14 : Int → Prop) (mu15 : Int → Nat), I14 0 ∧ ∀ (x13 : Int), (I14 x13 → ((x13 < ((xl4 : Nat) : Int) → (∃ (b16 o17 : Nat), xa3 = some ⟨b16, o17, none⟩ ∧ (0 : Int) ≤ x13 ∧ x13 < ((xl4 : Nat) : Int) ∧ (∃ (x18 : X_chaffref_Node), At M6 b16 (o17 + x13.toNat * 8) x18.cells ∧ (((x13 : Int) = 60 → K (Value.int .i64 2)) ∧ (¬ ((x13 : Int) = 60) → ((x18.Deep > 12 → K (Value.int .i64 5)) ∧ (¬ (x18.Deep > 12) → (CallE Try.prog 69 #[x18.Expr.val] M6 (fun v _ => ∃ (x20 : Bool), v = (Value.bool x20) ∧ ((¬ (x20 = true) → K (Value.int .i64 3)) ∧ (¬ (¬ (x20 = true)) → (InI (x13 + 1) ∧ I14 (x13 + 1) ∧ mu15 (x13 + 1) < mu15 x13)))))))))))) ∧ (¬ (x13 < ((xl4 : Nat) : Int)) → K (Value.int .i64 0)))))))
set_option linter.unusedVariables false in
set_option maxRecDepth 100000 in
theorem s_chaffref_Expr (e1 : X_api_Expr) (M : Mem) (K : Value → Prop) (hS : S_chaffref_Expr e1 M K) : CallE Try.prog 36 #[e1.val] M (fun v _ => K v) := by
  refine enterE Try.func36 rfl 26 rfl (Nat.le_of_ble_eq_true rfl) (fun E a hs => ?_)
  unfold S_chaffref_Expr at hS
  have hMM := MX.refl M E
  change Sx 26 E [] M E a [(0, e1.val)] [] [] at hs
  refine Wp.seq ?_
  refine Wp.region ?_
  refine stepBox [(Value.int .i64 e1.Kind), (Value.int .u64 e1.Set.w0), (Value.int .u64 e1.Set.w1), (Value.int .u64 e1.Set.w2), (Value.int .u64 e1.Set.w3), (Value.string (mkS e1.Text)), (Value.slice e1.Kids_a e1.Kids_l e1.Kids_c)] hs rfl rfl rfl (by decide) (fun _ _ b2 hEb2 hs => ?_)
  refine stepY (v := (Value.int .i64 0)) hs rfl rfl (by decide) (Yl.pure rfl (fun _ => by kernel_rfl)) (fun _ hs => ?_)
  refine wpList_nil ?_
  refine Wp.seq ?_
  refine Wp.seq ?_
  refine Wp.region ?_
  refine stepY (v := e1.val) hs rfl rfl (by decide) (Yl.loadB (vs := e1.cells) true 0 rfl rfl rfl (by kernel_rfl) rfl) (fun _ hs => ?_)
  refine stepCallE [e1.val] hs rfl ⟨_, rfl, rfl⟩ rfl Try.func42 rfl (by kernel_rfl) (by decide) hS (fun _ _ M6 v hle hnew hS hs => ?_)
  have hMM := hMM.next hle hnew
  obtain ⟨xa3, xl4, xc5, hv, hS⟩ := hS
  subst hv
  refine stepY (v := (Value.int .i64 ((xl4 : Nat) : Int))) hs rfl rfl (by decide) (Yl.pure rfl (fun _ => by kernel_rfl)) (fun _ hs => ?_)
  refine stepY (v := (Value.int .i64 0)) hs rfl rfl (by decide) (Yl.pure rfl (fun _ => by kernel_rfl)) (fun _ hs => ?_)
  refine wpList_nil ?_
  refine Wp.block ?_
  obtain ⟨I14, mu15, hI0, hst⟩ := hS
  refine Wp.loop (σ := (Int)) (fun s a w => match s with | (x13) => Sx 26 E [] M6 w a [(6, (Value.slice xa3 xl4 xc5)), (7, (Value.int .i64 ((xl4 : Nat) : Int))), (8, (Value.int .i64 x13))] [⟨b2, 55, [(Value.int .i64 e1.Kind), (Value.int .u64 e1.Set.w0), (Value.int .u64 e1.Set.w1), (Value.int .u64 e1.Set.w2), (Value.int .u64 e1.Set.w3), (Value.string (mkS e1.Text)), (Value.slice e1.Kids_a e1.Kids_l e1.Kids_c)]⟩] [] ∧ I14 x13) (fun s => match s with | (x13) => mu15 x13) (0) ⟨(hs.weak (List.Sublist.refl _) (List.Sublist.refl _) ⟨rfl, rfl, rfl, trivial⟩), hI0⟩ (fun x13 a w hI => ?_)
  obtain ⟨hs, hI⟩ := hI
  have hS := hst x13 hI
  clear hst hI0 hI
  refine Wp.seq ?_
  refine Wp.region ?_
  refine stepY (v := (Value.bool (decide (x13 < ((xl4 : Nat) : Int))))) hs rfl rfl (by decide) (Yl.pure rfl (fun _ => by kernel_rfl)) (fun _ hs => ?_)
  refine wpList_nil ?_
  refine Wp.seq ?_
  refine Wp.cond hs rfl rfl decide_eq_true_iff (fun hc => ?_) (fun hc => ?_)
  · have hS := hS.1 hc
    refine Wp.skip ?_
    refine Wp.seq ?_
    refine Wp.block ?_
    refine Wp.seq ?_
    refine Wp.region ?_
    refine stepY (v := (Value.int .i64 x13)) hs rfl rfl (by decide) (Yl.pure rfl (fun _ => by kernel_rfl)) (fun _ hs => ?_)
    obtain ⟨b16, o17, ha, h0, hl, hS⟩ := hS
    refine stepY (v := (Value.pointer (some ⟨b16, o17 + x13.toNat * 8, none⟩))) hs rfl rfl (by decide) (Yl.indexS (e := 103) (sz := 8) rfl rfl rfl rfl (by kernel_rfl) (by kernel_rfl) ha h0 hl) (fun _ hs => ?_)
    obtain ⟨x18, hat, hS⟩ := hS
    refine stepY (v := x18.val) hs rfl rfl (by decide) (Yl.loadV (vs := x18.cells) true rfl rfl (by kernel_rfl) hat) (fun _ hs => ?_)
    refine stepAlloc [(Value.int .i64 0), (Value.int .u64 0), (Value.int .u64 0), (Value.int .u64 0), (Value.int .u64 0), (Value.string (mkS [])), (Value.slice none 0 0), (Value.int .i64 0)] hs (by kernel_rfl) (by decide) (fun _ _ b19 hEb19 hs => ?_)
    refine stepY (v := (Value.int .i64 x13)) hs rfl rfl (by decide) (Yl.pure rfl (fun _ => by kernel_rfl)) (fun _ hs => ?_)
    refine stepStoreB 0 (vs := [(Value.int .i64 x18.Expr.Kind), (Value.int .u64 x18.Expr.Set.w0), (Value.int .u64 x18.Expr.Set.w1), (Value.int .u64 x18.Expr.Set.w2), (Value.int .u64 x18.Expr.Set.w3), (Value.string (mkS x18.Expr.Text)), (Value.slice x18.Expr.Kids_a x18.Expr.Kids_l x18.Expr.Kids_c), (Value.int .i64 x18.Deep)]) hs rfl rfl rfl rfl rfl rfl (by kernel_rfl) (Nat.le_of_ble_eq_true rfl) rfl (fun _ _ hs => ?_)
    replace hs := hs.chbx (bs' := [⟨b19, 103, [(Value.int .i64 x18.Expr.Kind), (Value.int .u64 x18.Expr.Set.w0), (Value.int .u64 x18.Expr.Set.w1), (Value.int .u64 x18.Expr.Set.w2), (Value.int .u64 x18.Expr.Set.w3), (Value.string (mkS x18.Expr.Text)), (Value.slice x18.Expr.Kids_a x18.Expr.Kids_l x18.Expr.Kids_c), (Value.int .i64 x18.Deep)]⟩, ⟨b2, 55, [(Value.int .i64 e1.Kind), (Value.int .u64 e1.Set.w0), (Value.int .u64 e1.Set.w1), (Value.int .u64 e1.Set.w2), (Value.int .u64 e1.Set.w3), (Value.string (mkS e1.Text)), (Value.slice e1.Kids_a e1.Kids_l e1.Kids_c)]⟩]) rfl
    refine wpList_nil ?_
    refine Wp.block ?_
    refine Wp.seq ?_
    refine Wp.region ?_
    refine stepY (v := (Value.int .i64 x13)) hs rfl rfl (by decide) (Yl.pure rfl (fun _ => by kernel_rfl)) (fun _ hs => ?_)
    refine stepY (v := (Value.bool ((x13 : Int) == (60 : Int)))) hs rfl rfl (by decide) (Yl.pure rfl (fun _ => by kernel_rfl)) (fun _ hs => ?_)
    refine stepY (v := (Value.bool ((x13 : Int) == (60 : Int)))) hs rfl rfl (by decide) (Yl.pure rfl (fun _ => by kernel_rfl)) (fun _ hs => ?_)
    refine wpList_nil ?_
    refine Wp.cond hs rfl rfl beq_iff_eq (fun hc => ?_) (fun hc => ?_)
    · have hS := hS.1 hc
      refine Wp.seq ?_
      refine Wp.region ?_
      refine stepY (v := (Value.int .i64 2)) hs rfl rfl (by decide) (Yl.pure rfl (fun _ => by kernel_rfl)) (fun _ hs => ?_)
      refine wpList_nil ?_
      refine Wp.ret ?_
      exact leaveE (K := fun v _ => K v) hs (resT hs rfl rfl) hMM.2 (fun _ _ => hS)
    · have hS := hS.2 hc
      refine Wp.seq ?_
      refine Wp.region ?_
      refine stepY (v := (Value.pointer (some ⟨b19, 7, none⟩))) hs rfl rfl (by decide) (Yl.pure rfl (fun _ => by kernel_rfl)) (fun _ hs => ?_)
      refine stepY (v := (Value.int .i64 x18.Deep)) hs rfl rfl (by decide) (Yl.loadB (vs := [(Value.int .i64 x18.Deep)]) false 0 rfl rfl rfl (by kernel_rfl) rfl) (fun _ hs => ?_)
      refine stepY (v := (Value.bool (decide (x18.Deep > 12)))) hs rfl rfl (by decide) (Yl.pure rfl (fun _ => by kernel_rfl)) (fun _ hs => ?_)
      refine stepY (v := (Value.bool (decide (x18.Deep > 12)))) hs rfl rfl (by decide) (Yl.pure rfl (fun _ => by kernel_rfl)) (fun _ hs => ?_)
      refine wpList_nil ?_
      refine Wp.cond hs rfl rfl decide_eq_true_iff (fun hc => ?_) (fun hc => ?_)
      · have hS := hS.1 hc
        refine Wp.seq ?_
        refine Wp.region ?_
        refine stepY (v := (Value.int .i64 5)) hs rfl rfl (by decide) (Yl.pure rfl (fun _ => by kernel_rfl)) (fun _ hs => ?_)
        refine wpList_nil ?_
        refine Wp.ret ?_
        exact leaveE (K := fun v _ => K v) hs (resT hs rfl rfl) hMM.2 (fun _ _ => hS)
      · have hS := hS.2 hc
        refine Wp.seq ?_
        refine Wp.region ?_
        refine stepY (v := (Value.pointer (some ⟨b19, 0, none⟩))) hs rfl rfl (by decide) (Yl.pure rfl (fun _ => by kernel_rfl)) (fun _ hs => ?_)
        refine stepY (v := x18.Expr.val) hs rfl rfl (by decide) (Yl.loadB (vs := x18.Expr.cells) true 0 rfl rfl rfl (by kernel_rfl) rfl) (fun _ hs => ?_)
        refine stepCallP [x18.Expr.val] hs rfl ⟨_, rfl, rfl⟩ rfl Try.func69 rfl (by kernel_rfl) (by decide) hS (fun _ _ v hS hs => ?_)
        obtain ⟨x20, hv, hS⟩ := hS
        subst hv
        refine stepY (v := (Value.bool (!x20))) hs rfl rfl (by decide) (Yl.pure rfl (fun _ => by kernel_rfl)) (fun _ hs => ?_)
        refine stepY (v := (Value.bool (!x20))) hs rfl rfl (by decide) (Yl.pure rfl (fun _ => by kernel_rfl)) (fun _ hs => ?_)
        refine wpList_nil ?_
        refine Wp.cond hs rfl rfl (bnot_iff Iff.rfl) (fun hc => ?_) (fun hc => ?_)
        · have hS := hS.1 hc
          refine Wp.seq ?_
          refine Wp.region ?_
          refine stepY (v := (Value.int .i64 3)) hs rfl rfl (by decide) (Yl.pure rfl (fun _ => by kernel_rfl)) (fun _ hs => ?_)
          refine wpList_nil ?_
          refine Wp.ret ?_
          exact leaveE (K := fun v _ => K v) hs (resT hs rfl rfl) hMM.2 (fun _ _ => hS)
        · have hS := hS.2 hc
          refine Wp.skip ?_
          refine Wp.region ?_
          obtain ⟨hI, hS⟩ := hS
          refine stepY (v := (Value.int .i64 (x13 + 1))) hs rfl rfl (by decide) (Yl.eq (Yl.pure (v := Value.int .i64 (IntKind.wrap .i64 (x13 + 1))) rfl (fun _ => by kernel_rfl)) (congrArg (Value.int .i64) (wrap_in hI))) (fun _ hs => ?_)
          refine stepY (v := (Value.int .i64 (x13 + 1))) hs rfl rfl (by decide) (Yl.pure rfl (fun _ => by kernel_rfl)) (fun _ hs => ?_)
          refine wpList_nil ?_
          exact ⟨(x13 + 1), ⟨(hs.weak (.cons _ (.cons_cons _ List.Sublist.slnil)) (List.Sublist.refl _) ⟨rfl, rfl, rfl, trivial⟩), hS.1⟩, hS.2⟩
  · have hS := hS.2 hc
    refine Wp.exit rfl ?_
    refine Wp.seq ?_
    refine Wp.region ?_
    refine stepY (v := (Value.int .i64 0)) hs rfl rfl (by decide) (Yl.pure rfl (fun _ => by kernel_rfl)) (fun _ hs => ?_)
    refine wpList_nil ?_
    refine Wp.ret ?_
    exact leaveE (K := fun v _ => K v) hs (resT hs rfl rfl) hMM.2 (fun _ _ => hS)
theorem f_chaffref_Expr (e1 : X_api_Expr) (M : Mem) (K : Value → Prop) (hS : S_chaffref_Expr e1 M K) : CallF Try.prog (Value.func (.func 36) #[] #[]) [e1.val] M (fun v _ => K v) := ⟨36, _, _, _, rfl, Try.func36, rfl, (by decide), s_chaffref_Expr _ _ _ hS⟩
set_option linter.unusedVariables false in
def S_chafflaw_ExprChecks (e1 : X_api_Expr) (s2 : List UInt8) (M : Mem) (K : Value → Prop) : Prop :=
  (CallE Try.prog 33 #[(Value.string (mkS s2))] M (fun v _ => ∃ (x4 : Bool), v = (Value.bool x4) ∧ (CallE Try.prog 34 #[(Value.string (mkS s2))] M (fun v _ => ∃ (x5 : Bool), v = (Value.bool x5) ∧ ((x4 = x5 → (CallE Try.prog 35 #[e1.val] M (fun v _ => ∃ (x6 : Int), v = (Value.int .i64 x6) ∧ (CallE Try.prog 36 #[e1.val] M (fun v _ => ∃ (x7 : Int), v = (Value.int .i64 x7) ∧ K (Value.bool ((x6 : Int) == (x7 : Int)))))))) ∧ (¬ (x4 = x5) → K (Value.bool false)))))))
set_option linter.unusedVariables false in
set_option maxRecDepth 100000 in
theorem s_chafflaw_ExprChecks (e1 : X_api_Expr) (s2 : List UInt8) (M : Mem) (K : Value → Prop) (hS : S_chafflaw_ExprChecks e1 s2 M K) : CallE Try.prog 8 #[e1.val, (Value.string (mkS s2))] M (fun v _ => K v) := by
  refine enterE Try.func8 rfl 17 rfl (Nat.le_of_ble_eq_true rfl) (fun E a hs => ?_)
  unfold S_chafflaw_ExprChecks at hS
  have hMM := MX.refl M E
  change Sx 17 E [] M E a [(0, e1.val), (1, (Value.string (mkS s2)))] [] [] at hs
  refine Wp.seq ?_
  refine Wp.region ?_
  refine stepBox [(Value.int .i64 e1.Kind), (Value.int .u64 e1.Set.w0), (Value.int .u64 e1.Set.w1), (Value.int .u64 e1.Set.w2), (Value.int .u64 e1.Set.w3), (Value.string (mkS e1.Text)), (Value.slice e1.Kids_a e1.Kids_l e1.Kids_c)] hs rfl rfl rfl (by decide) (fun _ _ b3 hEb3 hs => ?_)
  refine stepY (v := (Value.bool false)) hs rfl rfl (by decide) (Yl.pure rfl (fun _ => by kernel_rfl)) (fun _ hs => ?_)
  refine wpList_nil ?_
  refine Wp.seq ?_
  refine Wp.regionD [true, true, true, true, true, true, true, true, true, true, true, true, true] hs (by kernel_rfl) rfl [⟨b3, 55, [(Value.int .i64 e1.Kind), (Value.int .u64 e1.Set.w0), (Value.int .u64 e1.Set.w1), (Value.int .u64 e1.Set.w2), (Value.int .u64 e1.Set.w3), (Value.string (mkS e1.Text)), (Value.slice e1.Kids_a e1.Kids_l e1.Kids_c)]⟩] (fun _ h => h) [] (fun _ h => h) (fun _ hs hC => ?_)
  have hL := Mem.le.refl M
  refine stepDP (v := (Value.string (mkS s2))) 0 [1, 3, 4, 5, 6, 7, 8, 9, 10, 11, 12] hs QZ.no rfl (wanted_none rfl) rfl (by decide) (by kernel_rfl) (by kernel_rfl) (by kernel_rfl) (Yl.pure rfl (fun _ => by kernel_rfl)) (fun _ hs => ?_)
  refine stepDP (v := (Value.string (mkS s2))) 2 [3, 4, 5, 6, 7, 8, 9, 10, 11, 12] hs QZ.no rfl (wanted_none rfl) rfl (by decide) (by kernel_rfl) (by kernel_rfl) (by kernel_rfl) (Yl.pure rfl (fun _ => by kernel_rfl)) (fun _ hs => ?_)
  refine stepDE 1 rfl (wanted_none rfl) (by kernel_rfl) #[] ?_
  refine stepCallP [(Value.string (mkS s2))] hs rfl ⟨_, rfl, rfl⟩ rfl Try.func33 rfl (by kernel_rfl) (by decide) hS (fun _ _ v hS hs => ?_)
  obtain ⟨x4, hv, hS⟩ := hS
  subst hv
  refine wpList_nil ?_
  refine ⟨fun _ _ => hs.cxle hL (List.Sublist.refl _) (List.Sublist.refl _), ?_⟩
  have hC := hs.cxle hL (List.Sublist.refl _) (List.Sublist.refl _)
  refine stepDE 3 rfl (wanted_none rfl) (by kernel_rfl) #[] ?_
  refine stepCallP [(Value.string (mkS s2))] hs rfl ⟨_, rfl, rfl⟩ rfl Try.func34 rfl (by kernel_rfl) (by decide) hS (fun _ _ v hS hs => ?_)
  obtain ⟨x5, hv, hS⟩ := hS
  subst hv
  refine wpList_nil ?_
  refine ⟨fun _ _ => hs.cxle hL (List.Sublist.refl _) (List.Sublist.refl _), ?_⟩
  have hC := hs.cxle hL (List.Sublist.refl _) (List.Sublist.refl _)
  refine stepDE 4 rfl (wanted_none rfl) (by kernel_rfl) #[] ?_
  refine stepY (v := (Value.bool (x4 == x5))) hs rfl rfl (by decide) (Yl.eqlB rfl rfl rfl rfl (by kernel_rfl)) (fun _ hs => ?_)
  refine wpList_nil ?_
  refine ⟨fun _ h => h, ?_⟩
  refine stepDE 5 rfl (wanted_none rfl) (by kernel_rfl) #[] ?_
  refine stepY (v := (Value.bool (x4 == x5))) hs rfl rfl (by decide) (Yl.pure rfl (fun _ => by kernel_rfl)) (fun _ hs => ?_)
  refine wpList_nil ?_
  refine ⟨fun _ h => h, ?_⟩
  refine bsplit (x4 == x5) beq_iff_eq (fun hb hc => ?_) (fun hb hc => ?_)
  · have hs := hs.bt hb
    have hS := hS.1 hc
    refine stepDY (v := e1.val) 6 [7, 9, 10, 11, 12] hs hC QZ.no rfl (wanted_yes hs rfl rfl rfl) rfl (by decide) (by kernel_rfl) (by kernel_rfl) (by kernel_rfl) (Yl.loadB (vs := e1.cells) true 0 rfl rfl rfl (by kernel_rfl) rfl) (fun _ hs => ?_)
    refine stepDY (v := e1.val) 8 [9, 10, 11, 12] hs hC QZ.no rfl (wanted_yes hs rfl rfl rfl) rfl (by decide) (by kernel_rfl) (by kernel_rfl) (by kernel_rfl) (Yl.loadB (vs := e1.cells) true 0 rfl rfl rfl (by kernel_rfl) rfl) (fun _ hs => ?_)
    refine stepDE 7 rfl (wanted_yes hs rfl rfl rfl) (by kernel_rfl) #[] ?_
    refine stepCallP [e1.val] hs rfl ⟨_, rfl, rfl⟩ rfl Try.func35 rfl (by kernel_rfl) (by decide) hS (fun _ _ v hS hs => ?_)
    obtain ⟨x6, hv, hS⟩ := hS
    subst hv
    refine wpList_nil ?_
    refine ⟨fun _ _ => hs.cxle hL (List.Sublist.refl _) (List.Sublist.refl _), ?_⟩
    have hC := hs.cxle hL (List.Sublist.refl _) (List.Sublist.refl _)
    refine stepDE 9 rfl (wanted_yes hs rfl rfl rfl) (by kernel_rfl) #[] ?_
    refine stepCallP [e1.val] hs rfl ⟨_, rfl, rfl⟩ rfl Try.func36 rfl (by kernel_rfl) (by decide) hS (fun _ _ v hS hs => ?_)
    obtain ⟨x7, hv, hS⟩ := hS
    subst hv
    refine wpList_nil ?_
    refine ⟨fun _ _ => hs.cxle hL (List.Sublist.refl _) (List.Sublist.refl _), ?_⟩
    have hC := hs.cxle hL (List.Sublist.refl _) (List.Sublist.refl _)
    refine stepDE 10 rfl (wanted_yes hs rfl rfl rfl) (by kernel_rfl) #[] ?_
    refine stepY (v := (Value.bool ((x6 : Int) == (x7 : Int)))) hs rfl rfl (by decide) (Yl.pure rfl (fun _ => by kernel_rfl)) (fun _ hs => ?_)
    refine wpList_nil ?_
    refine ⟨fun _ h => h, ?_⟩
    refine stepDE 11 rfl (wanted_none rfl) (by kernel_rfl) #[] ?_
    refine stepY (v := (Value.bool ((x6 : Int) == (x7 : Int)))) hs rfl rfl (by decide) (Yl.pure rfl (fun _ => by kernel_rfl)) (fun _ hs => ?_)
    refine wpList_nil ?_
    refine ⟨fun _ h => h, ?_⟩
    refine stepDE 12 rfl (wanted_none rfl) (by kernel_rfl) #[] ?_
    refine stepY (v := (Value.bool ((x6 : Int) == (x7 : Int)))) hs rfl rfl (by decide) (Yl.pure rfl (fun _ => by kernel_rfl)) (fun _ hs => ?_)
    refine wpList_nil ?_
    refine ⟨fun _ h => h, ?_⟩
    refine WpD.done (by kernel_rfl) ?_ _
    refine Wp.ret ?_
    exact leaveE (K := fun v _ => K v) hs (resT hs rfl rfl) hMM.2 (fun _ _ => hS)
  · have hs := hs.bf hb
    have hS := hS.2 hc
    refine stepDN 6 [7, 9, 10, 11, 12] hs QZ.no rfl (wanted_no hs rfl rfl rfl rfl) rfl (by decide) (by kernel_rfl) (by kernel_rfl) (by kernel_rfl) (fun _ hs => ?_)
    refine stepDN 8 [9, 10, 11, 12] hs QZ.no rfl (wanted_no hs rfl rfl rfl rfl) rfl (by decide) (by kernel_rfl) (by kernel_rfl) (by kernel_rfl) (fun _ hs => ?_)
    refine stepDN 7 [9, 10, 11, 12] hs QZ.no rfl (wanted_no hs rfl rfl rfl rfl) rfl (by decide) (by kernel_rfl) (by kernel_rfl) (by kernel_rfl) (fun _ hs => ?_)
    refine stepDN 9 [10, 11, 12] hs QZ.no rfl (wanted_no hs rfl rfl rfl rfl) rfl (by decide) (by kernel_rfl) (by kernel_rfl) (by kernel_rfl) (fun _ hs => ?_)
    refine stepDN 10 [11, 12] hs QZ.no rfl (wanted_no hs rfl rfl rfl rfl) rfl (by decide) (by kernel_rfl) (by kernel_rfl) (by kernel_rfl) (fun _ hs => ?_)
    refine stepDE 11 rfl (wanted_none rfl) (by kernel_rfl) #[] ?_
    refine stepY (v := (Value.bool false)) hs rfl rfl (by decide) (Yl.pure rfl (fun _ => by kernel_rfl)) (fun _ hs => ?_)
    refine wpList_nil ?_
    refine ⟨fun _ h => h, ?_⟩
    refine stepDE 12 rfl (wanted_none rfl) (by kernel_rfl) #[] ?_
    refine stepY (v := (Value.bool false)) hs rfl rfl (by decide) (Yl.pure rfl (fun _ => by kernel_rfl)) (fun _ hs => ?_)
    refine wpList_nil ?_
    refine ⟨fun _ h => h, ?_⟩
    refine WpD.done (by kernel_rfl) ?_ _
    refine Wp.ret ?_
    exact leaveE (K := fun v _ => K v) hs (resT hs rfl rfl) hMM.2 (fun _ _ => hS)
theorem f_chafflaw_ExprChecks (e1 : X_api_Expr) (s2 : List UInt8) (M : Mem) (K : Value → Prop) (hS : S_chafflaw_ExprChecks e1 s2 M K) : CallF Try.prog (Value.func (.func 8) #[] #[]) [e1.val, (Value.string (mkS s2))] M (fun v _ => K v) := ⟨8, _, _, _, rfl, Try.func8, rfl, (by decide), s_chafflaw_ExprChecks _ _ _ _ hS⟩
end Go.Proofs.Ytdlfhmdojbejkaa.lawExprChecks
