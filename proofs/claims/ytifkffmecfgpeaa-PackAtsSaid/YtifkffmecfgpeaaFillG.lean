/- What the code computes, function for function, as shallow propositions; printed by program. -/
import Derived.Test.YtifkffmecfgpeaaWellG
import Derived.Test.YtifkffmecfgpeaaM2
namespace Go.Proofs.Ytifkffmecfgpeaa.core
open Go.Gx Go.RowKit Go.ChangeShapes Go.WideShapes Go.ChangeAt
set_option linter.unusedVariables false
structure X_chaffref_Table where
 G_Rules_a : Option Addr
 G_Rules_l : Nat
 G_Rules_c : Nat
 S : List UInt8
 Ends_a : Option Addr
 Ends_l : Nat
 Ends_c : Nat
def X_chaffref_Table.cells (x : X_chaffref_Table) : List Value := [(.slice x.G_Rules_a x.G_Rules_l x.G_Rules_c), (.string (mkS x.S)), (.slice x.Ends_a x.Ends_l x.Ends_c)]
def X_chaffref_Table.val (x : X_chaffref_Table) : Value := .agg x.cells.toArray
structure X_api_Outcome where
 Ok : Bool
 N : Int
def X_api_Outcome.cells (x : X_api_Outcome) : List Value := [(.bool x.Ok), (.int .i64 x.N)]
def X_api_Outcome.val (x : X_api_Outcome) : Value := .agg x.cells.toArray
def S_chaffref_Table_End_J1 (at3 : Int) (x13 : Bool) (K : Value → Prop) : Prop :=
 ((x13 = true → (InI (at3 + 1) ∧ K (Value.int .i64 (at3 + 1)))) ∧ (¬ (x13 = true) → K (Value.int .i64 (-1))))
def S_chaffref_Table_End_J2 (e2 : X_api_Expr) (at3 : Int) (x20 : Bool) (K : Value → Prop) : Prop :=
 ((x20 = true → (InI (at3 + ((e2.Text.length : Nat) : Int)) ∧ K (Value.int .i64 (at3 + ((e2.Text.length : Nat) : Int))))) ∧ (¬ (x20 = true) → K (Value.int .i64 (-1))))
def S_chaffref_Table_End_J4 (at78 : Int) (n79 : Int) (I80 : Int → Int → Prop) (mu81 : Int → Int → Nat) (x85 : Int) (x86 : Bool) (K : Value → Prop) : Prop :=
 ((x86 = true → K (Value.int .i64 x85)) ∧ (¬ (x86 = true) → ((x85 < 0 → K (Value.int .i64 at78)) ∧ (¬ (x85 < 0) → (InI (n79 + 1) ∧ I80 x85 (n79 + 1) ∧ mu81 x85 (n79 + 1) < mu81 at78 n79)))))
def S_chaffref_Table_End_J6 (at3 : Int) (x92 : Bool) (K : Value → Prop) : Prop :=
 ((x92 = true → K (Value.int .i64 (-1))) ∧ (¬ (x92 = true) → K (Value.int .i64 at3)))
def S_chaffref_Table_End_J5 (e2 : X_api_Expr) (at3 : Int) (x90 : Int) (x91 : Bool) (K : Value → Prop) : Prop :=
 ((x91 = true → K (Value.int .i64 x90)) ∧ (¬ (x91 = true) → (((e2.Kind : Int) = 10 → ((x90 < 0 → (S_chaffref_Table_End_J6 at3 true K)) ∧ (¬ (x90 < 0) → (((e2.Kind : Int) = 11 → (S_chaffref_Table_End_J6 at3 (decide (x90 ≥ 0)) K)) ∧ (¬ ((e2.Kind : Int) = 11) → (S_chaffref_Table_End_J6 at3 false K)))))) ∧ (¬ ((e2.Kind : Int) = 10) → (((e2.Kind : Int) = 11 → (S_chaffref_Table_End_J6 at3 (decide (x90 ≥ 0)) K)) ∧ (¬ ((e2.Kind : Int) = 11) → (S_chaffref_Table_End_J6 at3 false K)))))))
def S_chaffref_Table_End_J3 (t1 : Option Addr) (e2 : X_api_Expr) (at3 : Int) (M : Mem) (x70 : Bool) (K : Value → Prop) : Prop :=
 ((x70 = true → (∃ (I80 : Int → Int → Prop) (mu81 : Int → Int → Nat), I80 at3 0 ∧ ∀ (at78 : Int) (n79 : Int), (I80 at78 n79 → (∃ (b82 o83 : Nat), e2.Kids_a = some ⟨b82, o83, none⟩ ∧ (0 : Int) ≤ 0 ∧ 0 < ((e2.Kids_l : Nat) : Int) ∧ (∃ (x84 : X_api_Expr), At M b82 (o83 + (0 : Int).toNat * 7) x84.cells ∧ (CallE Try.prog 53 #[(.pointer t1), x84.val, (.int .i64 at78)] M (fun v _ => ∃ (x85 : Int), v = (Value.int .i64 x85) ∧ (((x85 : Int) = (-2) → (S_chaffref_Table_End_J4 at78 n79 I80 mu81 x85 true K)) ∧ (¬ ((x85 : Int) = (-2)) → ((x85 < 0 → (((n79 : Int) = 0 → (S_chaffref_Table_End_J4 at78 n79 I80 mu81 x85 ((e2.Kind : Int) == (8 : Int)) K)) ∧ (¬ ((n79 : Int) = 0) → (S_chaffref_Table_End_J4 at78 n79 I80 mu81 x85 false K)))) ∧ (¬ (x85 < 0) → (S_chaffref_Table_End_J4 at78 n79 I80 mu81 x85 false K)))))))))))) ∧ (¬ (x70 = true) → (∃ (b87 o88 : Nat), e2.Kids_a = some ⟨b87, o88, none⟩ ∧ (0 : Int) ≤ 0 ∧ 0 < ((e2.Kids_l : Nat) : Int) ∧ (∃ (x89 : X_api_Expr), At M b87 (o88 + (0 : Int).toNat * 7) x89.cells ∧ (CallE Try.prog 53 #[(.pointer t1), x89.val, (.int .i64 at3)] M (fun v _ => ∃ (x90 : Int), v = (Value.int .i64 x90) ∧ (((x90 : Int) = (-2) → K (Value.int .i64 (-2))) ∧ (¬ ((x90 : Int) = (-2)) → (((e2.Kind : Int) = 9 → (S_chaffref_Table_End_J5 e2 at3 x90 (decide (x90 ≥ 0)) K)) ∧ (¬ ((e2.Kind : Int) = 9) → (S_chaffref_Table_End_J5 e2 at3 x90 false K)))))))))))
def S_chaffref_Table_End (t1 : Option Addr) (e2 : X_api_Expr) (at3 : Int) (M : Mem) (K : Value → Prop) : Prop :=
 (((e2.Kind : Int) = 1 → K (Value.int .i64 at3)) ∧ (¬ ((e2.Kind : Int) = 1) → (((e2.Kind : Int) = 2 → (∃ (b5 o6 : Nat), t1 = some ⟨b5, o6, none⟩ ∧ (∃ (x7 : List UInt8), At M b5 (o6 + 1) [(.string (mkS x7))] ∧ ((at3 < ((x7.length : Nat) : Int) → (∃ (b8 o9 : Nat), t1 = some ⟨b8, o9, none⟩ ∧ (∃ (x10 : List UInt8), At M b8 (o9 + 1) [(.string (mkS x10))] ∧ (∃ c11 : UInt8, (0 : Int) ≤ at3 ∧ x10[at3.toNat]? = some c11 ∧ (CallE Try.prog 76 #[e2.Set.val, (.int .i64 (IntKind.wrap .i64 (c11.toNat : Int)))] M (fun v _ => ∃ (x12 : Bool), v = (Value.bool x12) ∧ (S_chaffref_Table_End_J1 at3 x12 K))))))) ∧ (¬ (at3 < ((x7.length : Nat) : Int)) → (S_chaffref_Table_End_J1 at3 false K)))))) ∧ (¬ ((e2.Kind : Int) = 2) → (((e2.Kind : Int) = 3 → (InI (at3 + ((e2.Text.length : Nat) : Int)) ∧ (∃ (b14 o15 : Nat), t1 = some ⟨b14, o15, none⟩ ∧ (∃ (x16 : List UInt8), At M b14 (o15 + 1) [(.string (mkS x16))] ∧ ((at3 + ((e2.Text.length : Nat) : Int) ≤ ((x16.length : Nat) : Int) → (∃ (b17 o18 : Nat), t1 = some ⟨b17, o18, none⟩ ∧ (∃ (x19 : List UInt8), At M b17 (o18 + 1) [(.string (mkS x19))] ∧ (InI (at3 + ((e2.Text.length : Nat) : Int)) ∧ ((0 : Int) ≤ at3 ∧ (at3 : Int) ≤ at3 + ((e2.Text.length : Nat) : Int) ∧ (at3 + ((e2.Text.length : Nat) : Int) : Int) ≤ ((x19.length : Nat) : Int) ∧ (S_chaffref_Table_End_J2 e2 at3 ((mkS ((x19.take (at3 + ((e2.Text.length : Nat) : Int)).toNat).drop at3.toNat)).toList == (mkS e2.Text).toList) K)))))) ∧ (¬ (at3 + ((e2.Text.length : Nat) : Int) ≤ ((x16.length : Nat) : Int)) → (S_chaffref_Table_End_J2 e2 at3 false K))))))) ∧ (¬ ((e2.Kind : Int) = 3) → (((e2.Kind : Int) = 4 → (∃ (b21 o22 : Nat), t1 = some ⟨b21, o22, none⟩ ∧ (∃ (xa23 : Option Addr) (xl24 : Nat) (xc25 : Nat), At M b21 (o22 + 2) [(.slice xa23 xl24 xc25)] ∧ (∃ (b26 o27 : Nat), xa23 = some ⟨b26, o27, none⟩ ∧ (0 : Int) ≤ at3 ∧ at3 < ((xl24 : Nat) : Int) ∧ (∃ (xa28 : Option Addr) (xl29 : Nat) (xc30 : Nat), At M b26 (o27 + at3.toNat * 1) [(.slice xa28 xl29 xc30)] ∧ (∃ (b31 o32 : Nat), t1 = some ⟨b31, o32, none⟩ ∧ (∃ (xa33 : Option Addr) (xl34 : Nat) (xc35 : Nat), At M b31 o32 [(.slice xa33 xl34 xc35)] ∧ (CallE Try.prog 100 #[(.agg #[(.slice xa33 xl34 xc35)]), (.string (mkS e2.Text))] M (fun v _ => ∃ (x36 : Int), v = (Value.int .i64 x36) ∧ (∃ (b37 o38 : Nat), xa28 = some ⟨b37, o38, none⟩ ∧ (0 : Int) ≤ x36 ∧ x36 < ((xl29 : Nat) : Int) ∧ (∃ (x39 : Int), At M b37 (o38 + x36.toNat * 1) [(.int .i64 x39)] ∧ K (Value.int .i64 x39)))))))))))) ∧ (¬ ((e2.Kind : Int) = 4) → (((e2.Kind : Int) = 5 → (∃ (I49 : Int → Int → Prop) (mu50 : Int → Int → Nat), I49 at3 0 ∧ ∀ (at47 : Int) (x48 : Int), (I49 at47 x48 → ((x48 < ((e2.Kids_l : Nat) : Int) → (∃ (b51 o52 : Nat), e2.Kids_a = some ⟨b51, o52, none⟩ ∧ (0 : Int) ≤ x48 ∧ x48 < ((e2.Kids_l : Nat) : Int) ∧ (∃ (x53 : X_api_Expr), At M b51 (o52 + x48.toNat * 7) x53.cells ∧ (CallE Try.prog 53 #[(.pointer t1), x53.val, (.int .i64 at47)] M (fun v _ => ∃ (x55 : Int), v = (Value.int .i64 x55) ∧ ((x55 < 0 → K (Value.int .i64 x55)) ∧ (¬ (x55 < 0) → (InI (x48 + 1) ∧ I49 x55 (x48 + 1) ∧ mu50 x55 (x48 + 1) < mu50 at47 x48)))))))) ∧ (¬ (x48 < ((e2.Kids_l : Nat) : Int)) → K (Value.int .i64 at47)))))) ∧ (¬ ((e2.Kind : Int) = 5) → (((e2.Kind : Int) = 6 → (∃ (I63 : Int → Prop) (mu64 : Int → Nat), I63 0 ∧ ∀ (x62 : Int), (I63 x62 → ((x62 < ((e2.Kids_l : Nat) : Int) → (∃ (b65 o66 : Nat), e2.Kids_a = some ⟨b65, o66, none⟩ ∧ (0 : Int) ≤ x62 ∧ x62 < ((e2.Kids_l : Nat) : Int) ∧ (∃ (x67 : X_api_Expr), At M b65 (o66 + x62.toNat * 7) x67.cells ∧ (CallE Try.prog 53 #[(.pointer t1), x67.val, (.int .i64 at3)] M (fun v _ => ∃ (x69 : Int), v = (Value.int .i64 x69) ∧ (((x69 : Int) ≠ (-1) → K (Value.int .i64 x69)) ∧ (¬ ((x69 : Int) ≠ (-1)) → (InI (x62 + 1) ∧ I63 (x62 + 1) ∧ mu64 (x62 + 1) < mu64 x62)))))))) ∧ (¬ (x62 < ((e2.Kids_l : Nat) : Int)) → K (Value.int .i64 (-1))))))) ∧ (¬ ((e2.Kind : Int) = 6) → (((e2.Kind : Int) = 7 → (S_chaffref_Table_End_J3 t1 e2 at3 M ((e2.Kind : Int) == (7 : Int)) K)) ∧ (¬ ((e2.Kind : Int) = 7) → (S_chaffref_Table_End_J3 t1 e2 at3 M ((e2.Kind : Int) == (8 : Int)) K)))))))))))))))
set_option maxRecDepth 100000 in
theorem s_chaffref_Table_End (t1 : Option Addr) (e2 : X_api_Expr) (at3 : Int) (M : Mem) (K : Value → Prop) (hS : S_chaffref_Table_End t1 e2 at3 M K) : CallE Try.prog 53 #[(Value.pointer t1), e2.val, (Value.int .i64 at3)] M (fun v _ => K v) := by
 refine enterE Try.func53 rfl 199 rfl (Nat.le_of_ble_eq_true rfl) (fun E a hs => ?_)
 unfold S_chaffref_Table_End at hS
 have hMM := MX.refl M E
 change Sx 199 E [] M E a [(0, (.pointer t1)), (1, e2.val), (2, (iv at3))] [] [] at hs
 refine Wp.seq (Wp.region (stepBox e2.cells hs rfl rfl rfl (by decide) (fun _ _ b4 hEb4 hs => ?_)))
 refine sP (iv 0) hs fun _ hs => ?_
 refine wpList_nil (Wp.seq (Wp.seq (Wp.region (sP (pt b4 0) hs fun _ hs => ?_))))
 refine sY (iv e2.Kind) hs (Yl.lB [(iv e2.Kind)] false 0) fun _ hs => ?_
 refine wpList_nil (Wp.block (Wp.seq (Wp.region (sP (.bool ((e2.Kind : Int) == (1 : Int))) hs fun _ hs => ?_))))
 refine sP (.bool ((e2.Kind : Int) == (1 : Int))) hs fun _ hs => ?_
 refine wpList_nil (Wp.cond hs rfl rfl beq_iff_eq (fun hc => ?_) (fun hc => ?_))
 ·have hS := hS.1 hc
  refine Wp.seq (Wp.region (sP (iv at3) hs fun _ hs => ?_))
  refine sP (iv at3) hs fun _ hs => ?_
  exact wpList_nil (Wp.ret (lvE K hs (resT hs rfl rfl) hMM.2 hS))
 ·have hS := hS.2 hc
  refine Wp.seq (Wp.region (sP (.bool ((e2.Kind : Int) == (2 : Int))) hs fun _ hs => ?_))
  refine sP (.bool ((e2.Kind : Int) == (2 : Int))) hs fun _ hs => ?_
  refine wpList_nil (Wp.cond hs rfl rfl beq_iff_eq (fun hc => ?_) (fun hc => ?_))
  ·have hS := hS.1 hc
   refine Wp.seq (Wp.join (fun a w => ∃ (x13 : Bool), Sx 199 E [] M w a [(2, (iv at3)), (40, (.bool x13))] [⟨b4, 109, e2.cells⟩] [] ∧ (S_chaffref_Table_End_J1 at3 x13 K)) ?_ ?_)
   ·refine Wp.regionD [true, true, true, true, true, true, true, true, true, true, true, true, true, true, true, true, true, true, true] hs (by kernel_rfl) rfl [⟨b4, 109, e2.cells⟩] (fun _ h => h) [] (fun _ h => h) (fun _ hs hC => ?_)
    have hL := Mem.le.refl M
    refine dP (iv at3) 0 [6, 7, 8, 9, 10, 11, 12, 13, 14, 15, 16, 17, 18] hs QZ.no (wanted_none rfl) fun _ hs => ?_
    refine sE 1 ?_
    refine sP (.pointer t1) hs fun _ hs => ?_
    refine wpList_nil (⟨fun _ h => h, ?_⟩)
    refine sE 2 ?_
    obtain ⟨b5, o6, hp, hS⟩ := hS
    refine sY (.pointer (some ⟨b5, o6, none⟩)) hs (Yl.nilck rfl rfl hp) fun _ hs => ?_
    refine wpList_nil (⟨fun _ h => h, ?_⟩)
    refine sE 3 ?_
    refine sP (.pointer (some ⟨b5, o6 + 1, none⟩)) hs fun _ hs => ?_
    refine wpList_nil (⟨fun _ h => h, ?_⟩)
    refine sE 4 ?_
    obtain ⟨x7, hat, hS⟩ := hS
    refine sY (.string (mkS x7)) hs (Yl.loadV (vs := [(.string (mkS x7))]) false rfl rfl (by kernel_rfl) hat) fun _ hs => ?_
    refine wpList_nil (⟨fun _ h => h, ?_⟩)
    refine sE 5 ?_
    refine sP (iv ((x7.length : Nat) : Int)) hs fun _ hs => ?_
    refine wpList_nil (⟨fun _ h => h, ?_⟩)
    refine sE 6 ?_
    refine sP (.bool (decide (at3 < ((x7.length : Nat) : Int)))) hs fun _ hs => ?_
    refine wpList_nil (⟨fun _ h => h, ?_⟩)
    refine sE 7 ?_
    refine sP (.bool (decide (at3 < ((x7.length : Nat) : Int)))) hs fun _ hs => ?_
    refine wpList_nil (⟨fun _ h => h, ?_⟩)
    refine bsplit (decide (at3 < ((x7.length : Nat) : Int))) decide_eq_true_iff (fun hb hc => ?_) (fun hb hc => ?_)
    ·have hs := hs.bt hb
     have hS := hS.1 hc
     refine dP (pt b4 1) 8 [9, 17, 18] hs QZ.no (wanted_yes hs rfl rfl rfl) fun _ hs => ?_
     refine stepDY (v := e2.Set.val) 9 [17, 18] hs hC QZ.no rfl (wanted_yes hs rfl rfl rfl) rfl (by decide) (by kernel_rfl) (by kernel_rfl) (by kernel_rfl) (Yl.lB e2.Set.cells true 0) (fun _ hs => ?_)
     refine dP (Value.pointer t1) 10 [11, 12, 13, 15, 16, 17, 18] hs QZ.no (wanted_yes hs rfl rfl rfl) fun _ hs => ?_
     obtain ⟨b8, o9, hp, hS⟩ := hS
     refine stepDP (v := (.pointer (some ⟨b8, o9, none⟩))) 11 [12, 13, 15, 16, 17, 18] hs QZ.no rfl (wanted_yes hs rfl rfl rfl) rfl (by decide) (by kernel_rfl) (by kernel_rfl) (by kernel_rfl) (Yl.nilck rfl rfl hp) (fun _ hs => ?_)
     refine dP (Value.pointer (some ⟨b8, o9 + 1, none⟩)) 12 [13, 15, 16, 17, 18] hs QZ.no (wanted_yes hs rfl rfl rfl) fun _ hs => ?_
     obtain ⟨x10, hat, hS⟩ := hS
     refine stepDY (v := (.string (mkS x10))) 13 [15, 16, 17, 18] hs hC QZ.no rfl (wanted_yes hs rfl rfl rfl) rfl (by decide) (by kernel_rfl) (by kernel_rfl) (by kernel_rfl) (Yl.loadV (vs := [(.string (mkS x10))]) false rfl rfl (by kernel_rfl) hat) (fun _ hs => ?_)
     refine stepDE 14 rfl (wanted_yes hs rfl rfl rfl) (by kernel_rfl) #[] ?_
     refine sP (iv at3) hs fun _ hs => ?_
     refine wpList_nil (⟨fun _ h => h, ?_⟩)
     refine stepDE 15 rfl (wanted_yes hs rfl rfl rfl) (by kernel_rfl) #[] ?_
     obtain ⟨c11, h0, hi, hS⟩ := hS
     refine sY (.int .u8 (c11.toNat : Int)) hs (Yl.indexStr rfl rfl rfl rfl (by kernel_rfl) h0 hi) fun _ hs => ?_
     refine wpList_nil (⟨fun _ h => h, ?_⟩)
     refine stepDE 16 rfl (wanted_yes hs rfl rfl rfl) (by kernel_rfl) #[] ?_
     refine sP (iv (IntKind.wrap .i64 (c11.toNat : Int))) hs fun _ hs => ?_
     refine wpList_nil (⟨fun _ h => h, ?_⟩)
     refine stepDE 17 rfl (wanted_yes hs rfl rfl rfl) (by kernel_rfl) #[] ?_
     refine stepCallP [e2.Set.val, (iv (IntKind.wrap .i64 (c11.toNat : Int)))] hs rfl ⟨_, rfl, rfl⟩ rfl Try.func76 rfl (by kernel_rfl) (by decide) hS (fun _ _ v hS hs => ?_)
     obtain ⟨x12, hv, hS⟩ := hS
     subst hv
     refine wpList_nil (⟨fun _ _ => hs.cxle hL (List.Sublist.refl _) (List.Sublist.refl _), ?_⟩)
     have hC := hs.cxle hL (List.Sublist.refl _) (List.Sublist.refl _)
     refine sE 18 ?_
     refine sP (.bool x12) hs fun _ hs => ?_
     refine wpList_nil (⟨fun _ h => h, ?_⟩)
     refine WpD.done (by kernel_rfl) ?_ _
     exact ⟨x12, (hs.wk ⟨rfl, rfl, trivial⟩), hS⟩
    ·have hs := hs.bf hb
     have hS := hS.2 hc
     refine dN 8 [9, 17, 18] hs QZ.no (wanted_no hs rfl rfl rfl rfl) fun _ hs => ?_
     refine dN 9 [17, 18] hs QZ.no (wanted_no hs rfl rfl rfl rfl) fun _ hs => ?_
     refine dN 10 [11, 12, 13, 15, 16, 17, 18] hs QZ.no (wanted_no hs rfl rfl rfl rfl) fun _ hs => ?_
     refine dN 11 [12, 13, 15, 16, 17, 18] hs QZ.no (wanted_no hs rfl rfl rfl rfl) fun _ hs => ?_
     refine dN 12 [13, 15, 16, 17, 18] hs QZ.no (wanted_no hs rfl rfl rfl rfl) fun _ hs => ?_
     refine dN 13 [15, 16, 17, 18] hs QZ.no (wanted_no hs rfl rfl rfl rfl) fun _ hs => ?_
     refine dN 14 [15, 16, 17, 18] hs QZ.no (wanted_no hs rfl rfl rfl rfl) fun _ hs => ?_
     refine dN 15 [16, 17, 18] hs QZ.no (wanted_no hs rfl rfl rfl rfl) fun _ hs => ?_
     refine dN 16 [17, 18] hs QZ.no (wanted_no hs rfl rfl rfl rfl) fun _ hs => ?_
     refine dN 17 [18] hs QZ.no (wanted_no hs rfl rfl rfl rfl) fun _ hs => ?_
     refine sE 18 ?_
     refine sP (.bool false) hs fun _ hs => ?_
     refine wpList_nil (⟨fun _ h => h, ?_⟩)
     refine WpD.done (by kernel_rfl) ?_ _
     exact ⟨false, (hs.wk ⟨rfl, rfl, trivial⟩), hS⟩
   ·intro a w hJ
    obtain ⟨x13, hs, hS⟩ := hJ
    unfold S_chaffref_Table_End_J1 at hS
    refine Wp.cond hs rfl rfl Iff.rfl (fun hc => ?_) (fun hc => ?_)
    ·have hS := hS.1 hc
     refine Wp.seq (Wp.region (sP (iv at3) hs fun _ hs => ?_))
     obtain ⟨hI, hS⟩ := hS
     refine sY (iv (at3 + 1)) hs (Yl.eq (Yl.pure (v := Value.int .i64 (IntKind.wrap .i64 (at3 + 1))) rfl (fun _ => by kernel_rfl)) (congrArg (Value.int .i64) (wrap_in hI))) fun _ hs => ?_
     refine sP (iv (at3 + 1)) hs fun _ hs => ?_
     exact wpList_nil (Wp.ret (lvE K hs (resT hs rfl rfl) hMM.2 hS))
    ·have hS := hS.2 hc
     refine Wp.skip (Wp.seq (Wp.region (sP (iv (-1)) hs fun _ hs => ?_)))
     exact wpList_nil (Wp.ret (lvE K hs (resT hs rfl rfl) hMM.2 hS))
  ·have hS := hS.2 hc
   refine Wp.seq (Wp.region (sP (.bool ((e2.Kind : Int) == (3 : Int))) hs fun _ hs => ?_))
   refine sP (.bool ((e2.Kind : Int) == (3 : Int))) hs fun _ hs => ?_
   refine wpList_nil (Wp.cond hs rfl rfl beq_iff_eq (fun hc => ?_) (fun hc => ?_))
   ·have hS := hS.1 hc
    refine Wp.seq (Wp.join (fun a w => ∃ (x20 : Bool), Sx 199 E [] M w a [(2, (iv at3)), (4, (pt b4 0)), (71, (.bool x20))] [⟨b4, 109, e2.cells⟩] [] ∧ (S_chaffref_Table_End_J2 e2 at3 x20 K)) ?_ ?_)
    ·refine Wp.regionD [true, true, true, true, true, true, true, true, true, true, true, true, true, true, true, true, true, true, true, true, true, true, true, true, true, true, true] hs (by kernel_rfl) rfl [⟨b4, 109, e2.cells⟩] (fun _ h => h) [] (fun _ h => h) (fun _ hs hC => ?_)
     have hL := Mem.le.refl M
     refine dP (iv at3) 0 [4, 10, 11, 12, 13, 14, 15, 16, 17, 18, 19, 20, 21, 22, 23, 24, 25, 26] hs QZ.no (wanted_none rfl) fun _ hs => ?_
     refine dP (pt b4 5) 1 [2, 3, 4, 10, 11, 12, 13, 14, 15, 16, 17, 18, 19, 20, 21, 22, 23, 24, 25, 26] hs QZ.no (wanted_none rfl) fun _ hs => ?_
     refine stepDY (v := (.string (mkS e2.Text))) 2 [3, 4, 10, 11, 12, 13, 14, 15, 16, 17, 18, 19, 20, 21, 22, 23, 24, 25, 26] hs hC QZ.no rfl (wanted_none rfl) rfl (by decide) (by kernel_rfl) (by kernel_rfl) (by kernel_rfl) (Yl.lB [(.string (mkS e2.Text))] false 0) (fun _ hs => ?_)
     refine dP (iv ((e2.Text.length : Nat) : Int)) 3 [4, 10, 11, 12, 13, 14, 15, 16, 17, 18, 19, 20, 21, 22, 23, 24, 25, 26] hs QZ.no (wanted_none rfl) fun _ hs => ?_
     obtain ⟨hI, hS⟩ := hS
     refine stepDP (v := (iv (at3 + ((e2.Text.length : Nat) : Int)))) 4 [10, 11, 12, 13, 14, 15, 16, 17, 18, 19, 20, 21, 22, 23, 24, 25, 26] hs QZ.no rfl (wanted_none rfl) rfl (by decide) (by kernel_rfl) (by kernel_rfl) (by kernel_rfl) (Yl.eq (Yl.pure (v := Value.int .i64 (IntKind.wrap .i64 (at3 + ((e2.Text.length : Nat) : Int)))) rfl (fun _ => by kernel_rfl)) (congrArg (Value.int .i64) (wrap_in hI))) (fun _ hs => ?_)
     refine sE 5 ?_
     refine sP (.pointer t1) hs fun _ hs => ?_
     refine wpList_nil (⟨fun _ h => h, ?_⟩)
     refine sE 6 ?_
     obtain ⟨b14, o15, hp, hS⟩ := hS
     refine sY (.pointer (some ⟨b14, o15, none⟩)) hs (Yl.nilck rfl rfl hp) fun _ hs => ?_
     refine wpList_nil (⟨fun _ h => h, ?_⟩)
     refine sE 7 ?_
     refine sP (.pointer (some ⟨b14, o15 + 1, none⟩)) hs fun _ hs => ?_
     refine wpList_nil (⟨fun _ h => h, ?_⟩)
     refine sE 8 ?_
     obtain ⟨x16, hat, hS⟩ := hS
     refine sY (.string (mkS x16)) hs (Yl.loadV (vs := [(.string (mkS x16))]) false rfl rfl (by kernel_rfl) hat) fun _ hs => ?_
     refine wpList_nil (⟨fun _ h => h, ?_⟩)
     refine sE 9 ?_
     refine sP (iv ((x16.length : Nat) : Int)) hs fun _ hs => ?_
     refine wpList_nil (⟨fun _ h => h, ?_⟩)
     refine sE 10 ?_
     refine sP (.bool (decide (at3 + ((e2.Text.length : Nat) : Int) ≤ ((x16.length : Nat) : Int)))) hs fun _ hs => ?_
     refine wpList_nil (⟨fun _ h => h, ?_⟩)
     refine sE 11 ?_
     refine sP (.bool (decide (at3 + ((e2.Text.length : Nat) : Int) ≤ ((x16.length : Nat) : Int)))) hs fun _ hs => ?_
     refine wpList_nil (⟨fun _ h => h, ?_⟩)
     refine bsplit (decide (at3 + ((e2.Text.length : Nat) : Int) ≤ ((x16.length : Nat) : Int))) decide_eq_true_iff (fun hb hc => ?_) (fun hb hc => ?_)
     ·have hs := hs.bt hb
      have hS := hS.1 hc
      refine dP (Value.pointer t1) 12 [13, 14, 15, 22, 25, 26] hs QZ.no (wanted_yes hs rfl rfl rfl) fun _ hs => ?_
      obtain ⟨b17, o18, hp, hS⟩ := hS
      refine stepDP (v := (.pointer (some ⟨b17, o18, none⟩))) 13 [14, 15, 22, 25, 26] hs QZ.no rfl (wanted_yes hs rfl rfl rfl) rfl (by decide) (by kernel_rfl) (by kernel_rfl) (by kernel_rfl) (Yl.nilck rfl rfl hp) (fun _ hs => ?_)
      refine dP (Value.pointer (some ⟨b17, o18 + 1, none⟩)) 14 [15, 22, 25, 26] hs QZ.no (wanted_yes hs rfl rfl rfl) fun _ hs => ?_
      obtain ⟨x19, hat, hS⟩ := hS
      refine stepDY (v := (.string (mkS x19))) 15 [22, 25, 26] hs hC QZ.no rfl (wanted_yes hs rfl rfl rfl) rfl (by decide) (by kernel_rfl) (by kernel_rfl) (by kernel_rfl) (Yl.loadV (vs := [(.string (mkS x19))]) false rfl rfl (by kernel_rfl) hat) (fun _ hs => ?_)
      refine dP (iv at3) 16 [22, 25, 26] hs QZ.no (wanted_yes hs rfl rfl rfl) fun _ hs => ?_
      refine dP (iv at3) 17 [21, 22, 25, 26] hs QZ.no (wanted_yes hs rfl rfl rfl) fun _ hs => ?_
      refine dP (pt b4 5) 18 [19, 20, 21, 22, 25, 26] hs QZ.no (wanted_yes hs rfl rfl rfl) fun _ hs => ?_
      refine stepDY (v := (.string (mkS e2.Text))) 19 [20, 21, 22, 25, 26] hs hC QZ.no rfl (wanted_yes hs rfl rfl rfl) rfl (by decide) (by kernel_rfl) (by kernel_rfl) (by kernel_rfl) (Yl.lB [(.string (mkS e2.Text))] false 0) (fun _ hs => ?_)
      refine dP (iv ((e2.Text.length : Nat) : Int)) 20 [21, 22, 25, 26] hs QZ.no (wanted_yes hs rfl rfl rfl) fun _ hs => ?_
      obtain ⟨hI, hS⟩ := hS
      refine stepDP (v := (iv (at3 + ((e2.Text.length : Nat) : Int)))) 21 [22, 25, 26] hs QZ.no rfl (wanted_yes hs rfl rfl rfl) rfl (by decide) (by kernel_rfl) (by kernel_rfl) (by kernel_rfl) (Yl.eq (Yl.pure (v := Value.int .i64 (IntKind.wrap .i64 (at3 + ((e2.Text.length : Nat) : Int)))) rfl (fun _ => by kernel_rfl)) (congrArg (Value.int .i64) (wrap_in hI))) (fun _ hs => ?_)
      obtain ⟨h0, h1, h2, hS⟩ := hS
      refine stepDP (v := (.string (mkS ((x19.take (at3 + ((e2.Text.length : Nat) : Int)).toNat).drop at3.toNat)))) 22 [25, 26] hs QZ.no rfl (wanted_yes hs rfl rfl rfl) rfl (by decide) (by kernel_rfl) (by kernel_rfl) (by kernel_rfl) (Yl.sliceStrLH rfl rfl rfl rfl rfl rfl (by kernel_rfl) h0 h1 h2) (fun _ hs => ?_)
      refine stepDE 23 rfl (wanted_yes hs rfl rfl rfl) (by kernel_rfl) #[] ?_
      refine sP (pt b4 5) hs fun _ hs => ?_
      refine wpList_nil (⟨fun _ h => h, ?_⟩)
      refine stepDE 24 rfl (wanted_yes hs rfl rfl rfl) (by kernel_rfl) #[] ?_
      refine sY (.string (mkS e2.Text)) hs (Yl.lB [(.string (mkS e2.Text))] false 0) fun _ hs => ?_
      refine wpList_nil (⟨fun _ h => h, ?_⟩)
      refine stepDE 25 rfl (wanted_yes hs rfl rfl rfl) (by kernel_rfl) #[] ?_
      refine sP (.bool ((mkS ((x19.take (at3 + ((e2.Text.length : Nat) : Int)).toNat).drop at3.toNat)).toList == (mkS e2.Text).toList)) hs fun _ hs => ?_
      refine wpList_nil (⟨fun _ h => h, ?_⟩)
      refine sE 26 ?_
      refine sP (.bool ((mkS ((x19.take (at3 + ((e2.Text.length : Nat) : Int)).toNat).drop at3.toNat)).toList == (mkS e2.Text).toList)) hs fun _ hs => ?_
      refine wpList_nil (⟨fun _ h => h, ?_⟩)
      refine WpD.done (by kernel_rfl) ?_ _
      exact ⟨((mkS ((x19.take (at3 + ((e2.Text.length : Nat) : Int)).toNat).drop at3.toNat)).toList == (mkS e2.Text).toList), (hs.wk ⟨rfl, rfl, rfl, trivial⟩), hS⟩
     ·have hs := hs.bf hb
      have hS := hS.2 hc
      refine dN 12 [13, 14, 15, 22, 25, 26] hs QZ.no (wanted_no hs rfl rfl rfl rfl) fun _ hs => ?_
      refine dN 13 [14, 15, 22, 25, 26] hs QZ.no (wanted_no hs rfl rfl rfl rfl) fun _ hs => ?_
      refine dN 14 [15, 22, 25, 26] hs QZ.no (wanted_no hs rfl rfl rfl rfl) fun _ hs => ?_
      refine dN 15 [22, 25, 26] hs QZ.no (wanted_no hs rfl rfl rfl rfl) fun _ hs => ?_
      refine dN 16 [22, 25, 26] hs QZ.no (wanted_no hs rfl rfl rfl rfl) fun _ hs => ?_
      refine dN 17 [21, 22, 25, 26] hs QZ.no (wanted_no hs rfl rfl rfl rfl) fun _ hs => ?_
      refine dN 18 [19, 20, 21, 22, 25, 26] hs QZ.no (wanted_no hs rfl rfl rfl rfl) fun _ hs => ?_
      refine dN 19 [20, 21, 22, 25, 26] hs QZ.no (wanted_no hs rfl rfl rfl rfl) fun _ hs => ?_
      refine dN 20 [21, 22, 25, 26] hs QZ.no (wanted_no hs rfl rfl rfl rfl) fun _ hs => ?_
      refine dN 21 [22, 25, 26] hs QZ.no (wanted_no hs rfl rfl rfl rfl) fun _ hs => ?_
      refine dN 22 [25, 26] hs QZ.no (wanted_no hs rfl rfl rfl rfl) fun _ hs => ?_
      refine dN 23 [24, 25, 26] hs QZ.no (wanted_no hs rfl rfl rfl rfl) fun _ hs => ?_
      refine dN 24 [25, 26] hs QZ.no (wanted_no hs rfl rfl rfl rfl) fun _ hs => ?_
      refine dN 25 [26] hs QZ.no (wanted_no hs rfl rfl rfl rfl) fun _ hs => ?_
      refine sE 26 ?_
      refine sP (.bool false) hs fun _ hs => ?_
      refine wpList_nil (⟨fun _ h => h, ?_⟩)
      refine WpD.done (by kernel_rfl) ?_ _
      exact ⟨false, (hs.wk ⟨rfl, rfl, rfl, trivial⟩), hS⟩
    ·intro a w hJ
     obtain ⟨x20, hs, hS⟩ := hJ
     unfold S_chaffref_Table_End_J2 at hS
     refine Wp.cond hs rfl rfl Iff.rfl (fun hc => ?_) (fun hc => ?_)
     ·have hS := hS.1 hc
      refine Wp.seq (Wp.region (sP (iv at3) hs fun _ hs => ?_))
      refine sP (pt b4 5) hs fun _ hs => ?_
      refine sY (.string (mkS e2.Text)) hs (Yl.lB [(.string (mkS e2.Text))] false 0) fun _ hs => ?_
      refine sP (iv ((e2.Text.length : Nat) : Int)) hs fun _ hs => ?_
      obtain ⟨hI, hS⟩ := hS
      refine sY (iv (at3 + ((e2.Text.length : Nat) : Int))) hs (Yl.eq (Yl.pure (v := Value.int .i64 (IntKind.wrap .i64 (at3 + ((e2.Text.length : Nat) : Int)))) rfl (fun _ => by kernel_rfl)) (congrArg (Value.int .i64) (wrap_in hI))) fun _ hs => ?_
      refine sP (iv (at3 + ((e2.Text.length : Nat) : Int))) hs fun _ hs => ?_
      exact wpList_nil (Wp.ret (lvE K hs (resT hs rfl rfl) hMM.2 hS))
     ·have hS := hS.2 hc
      refine Wp.skip (Wp.seq (Wp.region (sP (iv (-1)) hs fun _ hs => ?_)))
      exact wpList_nil (Wp.ret (lvE K hs (resT hs rfl rfl) hMM.2 hS))
   ·have hS := hS.2 hc
    refine Wp.seq (Wp.region (sP (.bool ((e2.Kind : Int) == (4 : Int))) hs fun _ hs => ?_))
    refine sP (.bool ((e2.Kind : Int) == (4 : Int))) hs fun _ hs => ?_
    refine wpList_nil (Wp.cond hs rfl rfl beq_iff_eq (fun hc => ?_) (fun hc => ?_))
    ·have hS := hS.1 hc
     refine Wp.seq (Wp.regionD [true, true, true, true, true, true, true, true, true, true, true, true, true, true, true, true, true] hs (by kernel_rfl) rfl [⟨b4, 109, e2.cells⟩] (fun _ h => h) [] (fun _ h => h) (fun _ hs hC => ?_))
     have hL := Mem.le.refl M
     refine dP (Value.pointer t1) 0 [1, 2, 3, 5, 6, 14, 15, 16] hs QZ.no (wanted_none rfl) fun _ hs => ?_
     obtain ⟨b21, o22, hp, hS⟩ := hS
     refine stepDP (v := (.pointer (some ⟨b21, o22, none⟩))) 1 [2, 3, 5, 6, 14, 15, 16] hs QZ.no rfl (wanted_none rfl) rfl (by decide) (by kernel_rfl) (by kernel_rfl) (by kernel_rfl) (Yl.nilck rfl rfl hp) (fun _ hs => ?_)
     refine dP (Value.pointer (some ⟨b21, o22 + 2, none⟩)) 2 [3, 5, 6, 14, 15, 16] hs QZ.no (wanted_none rfl) fun _ hs => ?_
     obtain ⟨xa23, xl24, xc25, hat, hS⟩ := hS
     refine stepDY (v := (.slice xa23 xl24 xc25)) 3 [5, 6, 14, 15, 16] hs hC QZ.no rfl (wanted_none rfl) rfl (by decide) (by kernel_rfl) (by kernel_rfl) (by kernel_rfl) (Yl.loadV (vs := [(.slice xa23 xl24 xc25)]) false rfl rfl (by kernel_rfl) hat) (fun _ hs => ?_)
     refine dP (iv at3) 4 [5, 6, 14, 15, 16] hs QZ.no (wanted_none rfl) fun _ hs => ?_
     obtain ⟨b26, o27, ha, h0, hl, hS⟩ := hS
     refine stepDP (v := (.pointer (some ⟨b26, o27 + at3.toNat * 1, none⟩))) 5 [6, 14, 15, 16] hs QZ.no rfl (wanted_none rfl) rfl (by decide) (by kernel_rfl) (by kernel_rfl) (by kernel_rfl) (Yl.indexS (e := 64) (sz := 1) rfl rfl rfl rfl (by kernel_rfl) (by kernel_rfl) ha h0 hl) (fun _ hs => ?_)
     obtain ⟨xa28, xl29, xc30, hat, hS⟩ := hS
     refine stepDY (v := (.slice xa28 xl29 xc30)) 6 [14, 15, 16] hs hC QZ.no rfl (wanted_none rfl) rfl (by decide) (by kernel_rfl) (by kernel_rfl) (by kernel_rfl) (Yl.loadV (vs := [(.slice xa28 xl29 xc30)]) false rfl rfl (by kernel_rfl) hat) (fun _ hs => ?_)
     refine dP (Value.pointer t1) 7 [8, 9, 10, 13, 14, 15, 16] hs QZ.no (wanted_none rfl) fun _ hs => ?_
     obtain ⟨b31, o32, hp, hS⟩ := hS
     refine stepDP (v := (.pointer (some ⟨b31, o32, none⟩))) 8 [9, 10, 13, 14, 15, 16] hs QZ.no rfl (wanted_none rfl) rfl (by decide) (by kernel_rfl) (by kernel_rfl) (by kernel_rfl) (Yl.nilck rfl rfl hp) (fun _ hs => ?_)
     refine dP (Value.pointer (some ⟨b31, o32, none⟩)) 9 [10, 13, 14, 15, 16] hs QZ.no (wanted_none rfl) fun _ hs => ?_
     obtain ⟨xa33, xl34, xc35, hat, hS⟩ := hS
     refine stepDY (v := (.agg #[(.slice xa33 xl34 xc35)])) 10 [13, 14, 15, 16] hs hC QZ.no rfl (wanted_none rfl) rfl (by decide) (by kernel_rfl) (by kernel_rfl) (by kernel_rfl) (Yl.loadV (vs := [(.slice xa33 xl34 xc35)]) true rfl rfl (by kernel_rfl) hat) (fun _ hs => ?_)
     refine sE 11 ?_
     refine sP (pt b4 5) hs fun _ hs => ?_
     refine wpList_nil (⟨fun _ h => h, ?_⟩)
     refine sE 12 ?_
     refine sY (.string (mkS e2.Text)) hs (Yl.lB [(.string (mkS e2.Text))] false 0) fun _ hs => ?_
     refine wpList_nil (⟨fun _ h => h, ?_⟩)
     refine sE 13 ?_
     refine stepCallP [(.agg #[(.slice xa33 xl34 xc35)]), (.string (mkS e2.Text))] hs rfl ⟨_, rfl, rfl⟩ rfl Try.func100 rfl (by kernel_rfl) (by decide) hS (fun _ _ v hS hs => ?_)
     obtain ⟨x36, hv, hS⟩ := hS
     subst hv
     refine wpList_nil (⟨fun _ _ => hs.cxle hL (List.Sublist.refl _) (List.Sublist.refl _), ?_⟩)
     have hC := hs.cxle hL (List.Sublist.refl _) (List.Sublist.refl _)
     refine sE 14 ?_
     obtain ⟨b37, o38, ha, h0, hl, hS⟩ := hS
     refine sY (.pointer (some ⟨b37, o38 + x36.toNat * 1, none⟩)) hs (Yl.indexS (e := 3) (sz := 1) rfl rfl rfl rfl (by kernel_rfl) (by kernel_rfl) ha h0 hl) fun _ hs => ?_
     refine wpList_nil (⟨fun _ h => h, ?_⟩)
     refine sE 15 ?_
     obtain ⟨x39, hat, hS⟩ := hS
     refine sY (iv x39) hs (Yl.loadV (vs := [(iv x39)]) false rfl rfl (by kernel_rfl) hat) fun _ hs => ?_
     refine wpList_nil (⟨fun _ h => h, ?_⟩)
     refine sE 16 ?_
     refine sP (iv x39) hs fun _ hs => ?_
     refine wpList_nil (⟨fun _ h => h, ?_⟩)
     refine WpD.done (by kernel_rfl) ?_ _
     exact Wp.ret (lvE K hs (resT hs rfl rfl) hMM.2 hS)
    ·have hS := hS.2 hc
     refine Wp.seq (Wp.region (sP (.bool ((e2.Kind : Int) == (5 : Int))) hs fun _ hs => ?_))
     refine sP (.bool ((e2.Kind : Int) == (5 : Int))) hs fun _ hs => ?_
     refine wpList_nil (Wp.cond hs rfl rfl beq_iff_eq (fun hc => ?_) (fun hc => ?_))
     ·have hS := hS.1 hc
      refine Wp.seq (Wp.seq (Wp.region (sP (pt b4 6) hs fun _ hs => ?_)))
      refine sY (.slice e2.Kids_a e2.Kids_l e2.Kids_c) hs (Yl.lB [(.slice e2.Kids_a e2.Kids_l e2.Kids_c)] false 0) fun _ hs => ?_
      refine sP (iv ((e2.Kids_l : Nat) : Int)) hs fun _ hs => ?_
      refine sP (iv 0) hs fun _ hs => ?_
      refine wpList_nil (Wp.block ?_)
      obtain ⟨I49, mu50, hI0, hst⟩ := hS
      refine Wp.loop (σ := (Int) × (Int)) (fun s a w => match s with | (at47, x48) => Sx 199 E [] M w a [(0, (.pointer t1)), (2, (iv at47)), (98, (.slice e2.Kids_a e2.Kids_l e2.Kids_c)), (99, (iv ((e2.Kids_l : Nat) : Int))), (100, (iv x48))] [⟨b4, 109, e2.cells⟩] [] ∧ I49 at47 x48) (fun s => match s with | (at47, x48) => mu50 at47 x48) (at3, 0) ⟨(hs.wk ⟨rfl, rfl, rfl, rfl, rfl, trivial⟩), hI0⟩ (fun s a w hI => ?_)
      obtain ⟨at47, x48⟩ := s
      obtain ⟨hs, hI⟩ := hI
      have hS := hst at47 x48 hI
      clear hst hI0 hI
      refine Wp.seq (Wp.region (sP (.bool (decide (x48 < ((e2.Kids_l : Nat) : Int)))) hs fun _ hs => ?_))
      refine wpList_nil (Wp.seq (Wp.cond hs rfl rfl decide_eq_true_iff (fun hc => ?_) (fun hc => ?_)))
      ·have hS := hS.1 hc
       refine Wp.skip (Wp.seq (Wp.block (Wp.seq (Wp.region ?_))))
       obtain ⟨b51, o52, ha, h0, hl, hS⟩ := hS
       refine sY (.pointer (some ⟨b51, o52 + x48.toNat * 7, none⟩)) hs (Yl.indexS (e := 109) (sz := 7) rfl rfl rfl rfl (by kernel_rfl) (by kernel_rfl) ha h0 hl) fun _ hs => ?_
       obtain ⟨x53, hat, hS⟩ := hS
       refine sY x53.val hs (Yl.loadV (vs := x53.cells) true rfl rfl (by kernel_rfl) hat) fun _ hs => ?_
       refine stepAlloc [(iv 0), (.int .u64 0), (.int .u64 0), (.int .u64 0), (.int .u64 0), (.string (mkS [])), (.slice none 0 0)] hs (by kernel_rfl) (by decide) (fun _ _ b54 hEb54 hs => ?_)
       have hs := hs.nilrow 109 7
       refine stB 0 x53.cells [⟨b54, 109, x53.cells⟩, ⟨b4, 109, e2.cells⟩] hs fun _ _ hs => ?_
       refine wpList_nil (Wp.seq (Wp.region (sP (.pointer t1) hs fun _ hs => ?_)))
       refine sY x53.val hs (Yl.lB x53.cells true 0) fun _ hs => ?_
       refine sP (iv at47) hs fun _ hs => ?_
       refine stepCallP [(.pointer t1), x53.val, (iv at47)] hs rfl ⟨_, rfl, rfl⟩ rfl Try.func53 rfl (by kernel_rfl) (by decide) hS (fun _ _ v hS hs => ?_)
       obtain ⟨x55, hv, hS⟩ := hS
       subst hv
       refine sP (iv x55) hs fun _ hs => ?_
       refine wpList_nil (Wp.seq (Wp.region (sP (iv x55) hs fun _ hs => ?_)))
       refine sP (.bool (decide (x55 < 0))) hs fun _ hs => ?_
       refine wpList_nil (Wp.cond hs rfl rfl decide_eq_true_iff (fun hc => ?_) (fun hc => ?_))
       ·have hS := hS.1 hc
        refine Wp.seq (Wp.region (sP (iv x55) hs fun _ hs => ?_))
        refine sP (iv x55) hs fun _ hs => ?_
        exact wpList_nil (Wp.ret (lvE K hs (resT hs rfl rfl) hMM.2 hS))
       ·have hS := hS.2 hc
        refine Wp.skip (Wp.region ?_)
        obtain ⟨hI, hS⟩ := hS
        refine sY (iv (x48 + 1)) hs (Yl.eq (Yl.pure (v := Value.int .i64 (IntKind.wrap .i64 (x48 + 1))) rfl (fun _ => by kernel_rfl)) (congrArg (Value.int .i64) (wrap_in hI))) fun _ hs => ?_
        refine sP (iv (x48 + 1)) hs fun _ hs => ?_
        exact wpList_nil (⟨(x55, x48 + 1), ⟨(hs.weak (.cons _ (.cons_cons _ List.Sublist.slnil)) (.cons _ List.Sublist.slnil) ⟨rfl, rfl, rfl, rfl, rfl, trivial⟩), hS.1⟩, hS.2⟩)
      ·have hS := hS.2 hc
       refine Wp.exit rfl (Wp.seq (Wp.region (sP (iv at47) hs fun _ hs => ?_)))
       refine sP (iv at47) hs fun _ hs => ?_
       exact wpList_nil (Wp.ret (lvE K hs (resT hs rfl rfl) hMM.2 hS))
     ·have hS := hS.2 hc
      refine Wp.seq (Wp.region (sP (.bool ((e2.Kind : Int) == (6 : Int))) hs fun _ hs => ?_))
      refine sP (.bool ((e2.Kind : Int) == (6 : Int))) hs fun _ hs => ?_
      refine wpList_nil (Wp.cond hs rfl rfl beq_iff_eq (fun hc => ?_) (fun hc => ?_))
      ·have hS := hS.1 hc
       refine Wp.seq (Wp.seq (Wp.region (sP (pt b4 6) hs fun _ hs => ?_)))
       refine sY (.slice e2.Kids_a e2.Kids_l e2.Kids_c) hs (Yl.lB [(.slice e2.Kids_a e2.Kids_l e2.Kids_c)] false 0) fun _ hs => ?_
       refine sP (iv ((e2.Kids_l : Nat) : Int)) hs fun _ hs => ?_
       refine sP (iv 0) hs fun _ hs => ?_
       refine wpList_nil (Wp.block ?_)
       obtain ⟨I63, mu64, hI0, hst⟩ := hS
       refine Wp.loop (σ := (Int)) (fun s a w => match s with | (x62) => Sx 199 E [] M w a [(0, (.pointer t1)), (2, (iv at3)), (116, (.slice e2.Kids_a e2.Kids_l e2.Kids_c)), (117, (iv ((e2.Kids_l : Nat) : Int))), (118, (iv x62))] [⟨b4, 109, e2.cells⟩] [] ∧ I63 x62) (fun s => match s with | (x62) => mu64 x62) (0) ⟨(hs.wk ⟨rfl, rfl, rfl, rfl, rfl, trivial⟩), hI0⟩ (fun x62 a w hI => ?_)
       obtain ⟨hs, hI⟩ := hI
       have hS := hst x62 hI
       clear hst hI0 hI
       refine Wp.seq (Wp.region (sP (.bool (decide (x62 < ((e2.Kids_l : Nat) : Int)))) hs fun _ hs => ?_))
       refine wpList_nil (Wp.seq (Wp.cond hs rfl rfl decide_eq_true_iff (fun hc => ?_) (fun hc => ?_)))
       ·have hS := hS.1 hc
        refine Wp.skip (Wp.seq (Wp.block (Wp.seq (Wp.region ?_))))
        obtain ⟨b65, o66, ha, h0, hl, hS⟩ := hS
        refine sY (.pointer (some ⟨b65, o66 + x62.toNat * 7, none⟩)) hs (Yl.indexS (e := 109) (sz := 7) rfl rfl rfl rfl (by kernel_rfl) (by kernel_rfl) ha h0 hl) fun _ hs => ?_
        obtain ⟨x67, hat, hS⟩ := hS
        refine sY x67.val hs (Yl.loadV (vs := x67.cells) true rfl rfl (by kernel_rfl) hat) fun _ hs => ?_
        refine stepAlloc [(iv 0), (.int .u64 0), (.int .u64 0), (.int .u64 0), (.int .u64 0), (.string (mkS [])), (.slice none 0 0)] hs (by kernel_rfl) (by decide) (fun _ _ b68 hEb68 hs => ?_)
        have hs := hs.nilrow 109 7
        refine stB 0 x67.cells [⟨b68, 109, x67.cells⟩, ⟨b4, 109, e2.cells⟩] hs fun _ _ hs => ?_
        refine wpList_nil (Wp.seq (Wp.region (sP (.pointer t1) hs fun _ hs => ?_)))
        refine sY x67.val hs (Yl.lB x67.cells true 0) fun _ hs => ?_
        refine sP (iv at3) hs fun _ hs => ?_
        refine stepCallP [(.pointer t1), x67.val, (iv at3)] hs rfl ⟨_, rfl, rfl⟩ rfl Try.func53 rfl (by kernel_rfl) (by decide) hS (fun _ _ v hS hs => ?_)
        obtain ⟨x69, hv, hS⟩ := hS
        subst hv
        refine sP (iv x69) hs fun _ hs => ?_
        refine wpList_nil (Wp.seq (Wp.region (sP (iv x69) hs fun _ hs => ?_)))
        refine sP (.bool ((x69 : Int) != ((-1) : Int))) hs fun _ hs => ?_
        refine wpList_nil (Wp.cond hs rfl rfl bne_iff_ne (fun hc => ?_) (fun hc => ?_))
        ·have hS := hS.1 hc
         refine Wp.seq (Wp.region (sP (iv x69) hs fun _ hs => ?_))
         refine sP (iv x69) hs fun _ hs => ?_
         exact wpList_nil (Wp.ret (lvE K hs (resT hs rfl rfl) hMM.2 hS))
        ·have hS := hS.2 hc
         refine Wp.skip (Wp.region ?_)
         obtain ⟨hI, hS⟩ := hS
         refine sY (iv (x62 + 1)) hs (Yl.eq (Yl.pure (v := Value.int .i64 (IntKind.wrap .i64 (x62 + 1))) rfl (fun _ => by kernel_rfl)) (congrArg (Value.int .i64) (wrap_in hI))) fun _ hs => ?_
         refine sP (iv (x62 + 1)) hs fun _ hs => ?_
         exact wpList_nil (⟨(x62 + 1), ⟨(hs.weak (.cons _ (.cons_cons _ List.Sublist.slnil)) (.cons _ List.Sublist.slnil) ⟨rfl, rfl, rfl, rfl, rfl, trivial⟩), hS.1⟩, hS.2⟩)
       ·have hS := hS.2 hc
        refine Wp.exit rfl (Wp.seq (Wp.region (sP (iv (-1)) hs fun _ hs => ?_)))
        exact wpList_nil (Wp.ret (lvE K hs (resT hs rfl rfl) hMM.2 hS))
      ·have hS := hS.2 hc
       refine Wp.join (fun a w => ∃ (x70 : Bool), Sx 199 E [] M w a [(0, (.pointer t1)), (2, (iv at3)), (4, (pt b4 0)), (130, (.bool x70))] [⟨b4, 109, e2.cells⟩] [] ∧ (S_chaffref_Table_End_J3 t1 e2 at3 M x70 K)) ?_ ?_
       ·refine Wp.seq (Wp.region (sP (.bool ((e2.Kind : Int) == (7 : Int))) hs fun _ hs => ?_))
        refine sP (.bool ((e2.Kind : Int) == (7 : Int))) hs fun _ hs => ?_
        refine wpList_nil (Wp.cond hs rfl rfl beq_iff_eq (fun hc => ?_) (fun hc => ?_))
        ·have hS := hS.1 hc
         exact Wp.skip (⟨((e2.Kind : Int) == (7 : Int)), (hs.wk ⟨rfl, rfl, rfl, rfl, trivial⟩), hS⟩)
        ·have hS := hS.2 hc
         refine Wp.region (sP (.bool ((e2.Kind : Int) == (8 : Int))) hs fun _ hs => ?_)
         refine sP (.bool ((e2.Kind : Int) == (8 : Int))) hs fun _ hs => ?_
         exact wpList_nil (⟨((e2.Kind : Int) == (8 : Int)), (hs.wk ⟨rfl, rfl, rfl, rfl, trivial⟩), hS⟩)
       ·intro a w hJ
        obtain ⟨x70, hs, hS⟩ := hJ
        unfold S_chaffref_Table_End_J3 at hS
        refine Wp.cond hs rfl rfl Iff.rfl (fun hc => ?_) (fun hc => ?_)
        ·have hS := hS.1 hc
         refine Wp.seq (Wp.region (sP (iv 0) hs fun _ hs => ?_))
         refine wpList_nil (Wp.block ?_)
         obtain ⟨I80, mu81, hI0, hst⟩ := hS
         refine Wp.loop (σ := (Int) × (Int)) (fun s a w => match s with | (at78, n79) => Sx 199 E [] M w a [(0, (.pointer t1)), (2, (iv at78)), (4, (pt b4 0)), (12, (iv n79))] [⟨b4, 109, e2.cells⟩] [] ∧ I80 at78 n79) (fun s => match s with | (at78, n79) => mu81 at78 n79) (at3, 0) ⟨(hs.wk ⟨rfl, rfl, rfl, rfl, trivial⟩), hI0⟩ (fun s a w hI => ?_)
         obtain ⟨at78, n79⟩ := s
         obtain ⟨hs, hI⟩ := hI
         have hS := hst at78 n79 hI
         clear hst hI0 hI
         refine Wp.seq (Wp.block (Wp.seq (Wp.region (sP (.pointer t1) hs fun _ hs => ?_))))
         refine sP (pt b4 6) hs fun _ hs => ?_
         refine sY (.slice e2.Kids_a e2.Kids_l e2.Kids_c) hs (Yl.lB [(.slice e2.Kids_a e2.Kids_l e2.Kids_c)] false 0) fun _ hs => ?_
         obtain ⟨b82, o83, ha, h0, hl, hS⟩ := hS
         refine sY (.pointer (some ⟨b82, o83 + (0 : Int).toNat * 7, none⟩)) hs (Yl.indexS (e := 109) (sz := 7) rfl rfl rfl rfl (by kernel_rfl) (by kernel_rfl) ha h0 hl) fun _ hs => ?_
         obtain ⟨x84, hat, hS⟩ := hS
         refine sY x84.val hs (Yl.loadV (vs := x84.cells) true rfl rfl (by kernel_rfl) hat) fun _ hs => ?_
         refine sP (iv at78) hs fun _ hs => ?_
         refine stepCallP [(.pointer t1), x84.val, (iv at78)] hs rfl ⟨_, rfl, rfl⟩ rfl Try.func53 rfl (by kernel_rfl) (by decide) hS (fun _ _ v hS hs => ?_)
         obtain ⟨x85, hv, hS⟩ := hS
         subst hv
         refine sP (iv x85) hs fun _ hs => ?_
         refine wpList_nil (Wp.seq (Wp.join (fun a w => ∃ (x86 : Bool), Sx 199 E [] M w a [(0, (.pointer t1)), (2, (iv at78)), (4, (pt b4 0)), (12, (iv n79)), (13, (iv x85)), (156, (.bool x86))] [⟨b4, 109, e2.cells⟩] [] ∧ (S_chaffref_Table_End_J4 at78 n79 I80 mu81 x85 x86 K)) ?_ ?_))
         ·refine Wp.region (sP (iv x85) hs fun _ hs => ?_)
          refine sP (.bool ((x85 : Int) == ((-2) : Int))) hs fun _ hs => ?_
          refine sP (.bool ((x85 : Int) == ((-2) : Int))) hs fun _ hs => ?_
          refine bsplit ((x85 : Int) == ((-2) : Int)) beq_iff_eq (fun hb hc => ?_) (fun hb hc => ?_)
          ·have hs := hs.bt hb
           have hS := hS.1 hc
           refine sNo hs fun _ hs => ?_
           refine sNo hs fun _ hs => ?_
           refine sNo hs fun _ hs => ?_
           refine sNu hs fun _ hs => ?_
           refine sNu hs fun _ hs => ?_
           refine sNo hs fun _ hs => ?_
           refine sNo hs fun _ hs => ?_
           refine sNu hs fun _ hs => ?_
           refine sNu hs fun _ hs => ?_
           refine sNu hs fun _ hs => ?_
           refine sNo hs fun _ hs => ?_
           refine sP (.bool true) hs fun _ hs => ?_
           exact wpList_nil (⟨true, (hs.wk ⟨rfl, rfl, rfl, rfl, rfl, rfl, trivial⟩), hS⟩)
          ·have hs := hs.bf hb
           have hS := hS.2 hc
           refine sYe hs (sP (iv x85) hs fun _ hs => ?_)
           refine sYe hs (sP (.bool (decide (x85 < 0))) hs fun _ hs => ?_)
           refine sYe hs (sP (.bool (decide (x85 < 0))) hs fun _ hs => ?_)
           refine bsplit (decide (x85 < 0)) decide_eq_true_iff (fun hb hc => ?_) (fun hb hc => ?_)
           ·have hs := hs.bt hb
            have hS := hS.1 hc
            refine sYe hs (sP (iv n79) hs fun _ hs => ?_)
            refine sYe hs (sP (.bool ((n79 : Int) == (0 : Int))) hs fun _ hs => ?_)
            refine sYe hs (sP (.bool ((n79 : Int) == (0 : Int))) hs fun _ hs => ?_)
            refine sYe hs (sP (.bool ((n79 : Int) == (0 : Int))) hs fun _ hs => ?_)
            refine bsplit ((n79 : Int) == (0 : Int)) beq_iff_eq (fun hb hc => ?_) (fun hb hc => ?_)
            ·have hs := hs.bt hb
             have hS := hS.1 hc
             refine sYe hs (sP (pt b4 0) hs fun _ hs => ?_)
             refine sYe hs (sY (iv e2.Kind) hs (Yl.lB [(iv e2.Kind)] false 0) fun _ hs => ?_)
             refine sYe hs (sP (.bool ((e2.Kind : Int) == (8 : Int))) hs fun _ hs => ?_)
             refine sYe hs (sP (.bool ((e2.Kind : Int) == (8 : Int))) hs fun _ hs => ?_)
             refine sP (.bool ((e2.Kind : Int) == (8 : Int))) hs fun _ hs => ?_
             exact wpList_nil (⟨((e2.Kind : Int) == (8 : Int)), (hs.wk ⟨rfl, rfl, rfl, rfl, rfl, rfl, trivial⟩), hS⟩)
            ·have hs := hs.bf hb
             have hS := hS.2 hc
             refine sNo hs fun _ hs => ?_
             refine sNo hs fun _ hs => ?_
             refine sNo hs fun _ hs => ?_
             refine sYe hs (sP (.bool false) hs fun _ hs => ?_)
             refine sP (.bool false) hs fun _ hs => ?_
             exact wpList_nil (⟨false, (hs.wk ⟨rfl, rfl, rfl, rfl, rfl, rfl, trivial⟩), hS⟩)
           ·have hs := hs.bf hb
            have hS := hS.2 hc
            refine sNo hs fun _ hs => ?_
            refine sNo hs fun _ hs => ?_
            refine sYe hs (sP (.bool false) hs fun _ hs => ?_)
            refine sYe hs (sP (.bool false) hs fun _ hs => ?_)
            refine sNo hs fun _ hs => ?_
            refine sNo hs fun _ hs => ?_
            refine sNo hs fun _ hs => ?_
            refine sYe hs (sP (.bool false) hs fun _ hs => ?_)
            refine sP (.bool false) hs fun _ hs => ?_
            exact wpList_nil (⟨false, (hs.wk ⟨rfl, rfl, rfl, rfl, rfl, rfl, trivial⟩), hS⟩)
         ·intro a w hJ
          obtain ⟨x86, hs, hS⟩ := hJ
          unfold S_chaffref_Table_End_J4 at hS
          refine Wp.cond hs rfl rfl Iff.rfl (fun hc => ?_) (fun hc => ?_)
          ·have hS := hS.1 hc
           refine Wp.seq (Wp.region (sP (iv x85) hs fun _ hs => ?_))
           refine sP (iv x85) hs fun _ hs => ?_
           exact wpList_nil (Wp.ret (lvE K hs (resT hs rfl rfl) hMM.2 hS))
          ·have hS := hS.2 hc
           refine Wp.skip (Wp.seq (Wp.seq (Wp.region (sP (iv x85) hs fun _ hs => ?_))))
           refine sP (.bool (decide (x85 < 0))) hs fun _ hs => ?_
           refine wpList_nil (Wp.cond hs rfl rfl decide_eq_true_iff (fun hc => ?_) (fun hc => ?_))
           ·have hS := hS.1 hc
            refine Wp.seq (Wp.region (sP (iv at78) hs fun _ hs => ?_))
            refine sP (iv at78) hs fun _ hs => ?_
            exact wpList_nil (Wp.ret (lvE K hs (resT hs rfl rfl) hMM.2 hS))
           ·have hS := hS.2 hc
            refine Wp.skip (Wp.region (sP (iv x85) hs fun _ hs => ?_))
            refine sP (iv x85) hs fun _ hs => ?_
            refine wpList_nil (Wp.region (sP (iv n79) hs fun _ hs => ?_))
            obtain ⟨hI, hS⟩ := hS
            refine sY (iv (n79 + 1)) hs (Yl.eq (Yl.pure (v := Value.int .i64 (IntKind.wrap .i64 (n79 + 1))) rfl (fun _ => by kernel_rfl)) (congrArg (Value.int .i64) (wrap_in hI))) fun _ hs => ?_
            refine sP (iv (n79 + 1)) hs fun _ hs => ?_
            exact wpList_nil (⟨(x85, n79 + 1), ⟨(hs.wk ⟨rfl, rfl, rfl, rfl, trivial⟩), hS.1⟩, hS.2⟩)
        ·have hS := hS.2 hc
         refine Wp.skip (Wp.seq (Wp.region (sP (.pointer t1) hs fun _ hs => ?_)))
         refine sP (pt b4 6) hs fun _ hs => ?_
         refine sY (.slice e2.Kids_a e2.Kids_l e2.Kids_c) hs (Yl.lB [(.slice e2.Kids_a e2.Kids_l e2.Kids_c)] false 0) fun _ hs => ?_
         obtain ⟨b87, o88, ha, h0, hl, hS⟩ := hS
         refine sY (.pointer (some ⟨b87, o88 + (0 : Int).toNat * 7, none⟩)) hs (Yl.indexS (e := 109) (sz := 7) rfl rfl rfl rfl (by kernel_rfl) (by kernel_rfl) ha h0 hl) fun _ hs => ?_
         obtain ⟨x89, hat, hS⟩ := hS
         refine sY x89.val hs (Yl.loadV (vs := x89.cells) true rfl rfl (by kernel_rfl) hat) fun _ hs => ?_
         refine sP (iv at3) hs fun _ hs => ?_
         refine stepCallP [(.pointer t1), x89.val, (iv at3)] hs rfl ⟨_, rfl, rfl⟩ rfl Try.func53 rfl (by kernel_rfl) (by decide) hS (fun _ _ v hS hs => ?_)
         obtain ⟨x90, hv, hS⟩ := hS
         subst hv
         refine sP (iv x90) hs fun _ hs => ?_
         refine wpList_nil (Wp.seq (Wp.block (Wp.seq (Wp.region (sP (iv x90) hs fun _ hs => ?_)))))
         refine sP (.bool ((x90 : Int) == ((-2) : Int))) hs fun _ hs => ?_
         refine sP (.bool ((x90 : Int) == ((-2) : Int))) hs fun _ hs => ?_
         refine wpList_nil (Wp.cond hs rfl rfl beq_iff_eq (fun hc => ?_) (fun hc => ?_))
         ·have hS := hS.1 hc
          refine Wp.seq (Wp.region (sP (iv (-2)) hs fun _ hs => ?_))
          exact wpList_nil (Wp.ret (lvE K hs (resT hs rfl rfl) hMM.2 hS))
         ·have hS := hS.2 hc
          refine Wp.join (fun a w => ∃ (x91 : Bool), Sx 199 E [] M w a [(2, (iv at3)), (4, (pt b4 0)), (14, (iv x90)), (172, (.bool x91))] [⟨b4, 109, e2.cells⟩] [] ∧ (S_chaffref_Table_End_J5 e2 at3 x90 x91 K)) ?_ ?_
          ·refine Wp.region (sP (pt b4 0) hs fun _ hs => ?_)
           refine sY (iv e2.Kind) hs (Yl.lB [(iv e2.Kind)] false 0) fun _ hs => ?_
           refine sP (.bool ((e2.Kind : Int) == (9 : Int))) hs fun _ hs => ?_
           refine sP (.bool ((e2.Kind : Int) == (9 : Int))) hs fun _ hs => ?_
           refine bsplit ((e2.Kind : Int) == (9 : Int)) beq_iff_eq (fun hb hc => ?_) (fun hb hc => ?_)
           ·have hs := hs.bt hb
            have hS := hS.1 hc
            refine sYe hs (sP (iv x90) hs fun _ hs => ?_)
            refine sYe hs (sP (.bool (decide (x90 ≥ 0))) hs fun _ hs => ?_)
            refine sP (.bool (decide (x90 ≥ 0))) hs fun _ hs => ?_
            refine sP (.bool (decide (x90 ≥ 0))) hs fun _ hs => ?_
            exact wpList_nil (⟨(decide (x90 ≥ 0)), (hs.wk ⟨rfl, rfl, rfl, rfl, trivial⟩), hS⟩)
           ·have hs := hs.bf hb
            have hS := hS.2 hc
            refine sNo hs fun _ hs => ?_
            refine sNo hs fun _ hs => ?_
            refine sP (.bool false) hs fun _ hs => ?_
            refine sP (.bool false) hs fun _ hs => ?_
            exact wpList_nil (⟨false, (hs.wk ⟨rfl, rfl, rfl, rfl, trivial⟩), hS⟩)
          ·intro a w hJ
           obtain ⟨x91, hs, hS⟩ := hJ
           unfold S_chaffref_Table_End_J5 at hS
           refine Wp.cond hs rfl rfl Iff.rfl (fun hc => ?_) (fun hc => ?_)
           ·have hS := hS.1 hc
            refine Wp.seq (Wp.region (sP (iv x90) hs fun _ hs => ?_))
            refine sP (iv x90) hs fun _ hs => ?_
            exact wpList_nil (Wp.ret (lvE K hs (resT hs rfl rfl) hMM.2 hS))
           ·have hS := hS.2 hc
            refine Wp.join (fun a w => ∃ (x92 : Bool), Sx 199 E [] M w a [(2, (iv at3)), (181, (.bool x92))] [⟨b4, 109, e2.cells⟩] [] ∧ (S_chaffref_Table_End_J6 at3 x92 K)) ?_ ?_
            ·refine Wp.region (sP (pt b4 0) hs fun _ hs => ?_)
             refine sY (iv e2.Kind) hs (Yl.lB [(iv e2.Kind)] false 0) fun _ hs => ?_
             refine sP (.bool ((e2.Kind : Int) == (10 : Int))) hs fun _ hs => ?_
             refine sP (.bool ((e2.Kind : Int) == (10 : Int))) hs fun _ hs => ?_
             refine bsplit ((e2.Kind : Int) == (10 : Int)) beq_iff_eq (fun hb hc => ?_) (fun hb hc => ?_)
             ·have hs := hs.bt hb
              have hS := hS.1 hc
              refine sYe hs (sP (iv x90) hs fun _ hs => ?_)
              refine sYe hs (sP (.bool (decide (x90 < 0))) hs fun _ hs => ?_)
              refine sP (.bool (decide (x90 < 0))) hs fun _ hs => ?_
              refine sP (.bool (decide (x90 < 0))) hs fun _ hs => ?_
              refine bsplit (decide (x90 < 0)) decide_eq_true_iff (fun hb hc => ?_) (fun hb hc => ?_)
              ·have hs := hs.bt hb
               have hS := hS.1 hc
               refine sNo hs fun _ hs => ?_
               refine sNo hs fun _ hs => ?_
               refine sNo hs fun _ hs => ?_
               refine sNo hs fun _ hs => ?_
               refine sNu hs fun _ hs => ?_
               refine sNu hs fun _ hs => ?_
               refine sNo hs fun _ hs => ?_
               refine sP (.bool true) hs fun _ hs => ?_
               refine sP (.bool true) hs fun _ hs => ?_
               exact wpList_nil (⟨true, (hs.wk ⟨rfl, rfl, trivial⟩), hS⟩)
              ·have hs := hs.bf hb
               have hS := hS.2 hc
               refine sYe hs (sP (pt b4 0) hs fun _ hs => ?_)
               refine sYe hs (sY (iv e2.Kind) hs (Yl.lB [(iv e2.Kind)] false 0) fun _ hs => ?_)
               refine sYe hs (sP (.bool ((e2.Kind : Int) == (11 : Int))) hs fun _ hs => ?_)
               refine sYe hs (sP (.bool ((e2.Kind : Int) == (11 : Int))) hs fun _ hs => ?_)
               refine bsplit ((e2.Kind : Int) == (11 : Int)) beq_iff_eq (fun hb hc => ?_) (fun hb hc => ?_)
               ·have hs := hs.bt hb
                have hS := hS.1 hc
                refine sYe hs (sP (iv x90) hs fun _ hs => ?_)
                refine sYe hs (sP (.bool (decide (x90 ≥ 0))) hs fun _ hs => ?_)
                refine sYe hs (sP (.bool (decide (x90 ≥ 0))) hs fun _ hs => ?_)
                refine sP (.bool (decide (x90 ≥ 0))) hs fun _ hs => ?_
                refine sP (.bool (decide (x90 ≥ 0))) hs fun _ hs => ?_
                exact wpList_nil (⟨(decide (x90 ≥ 0)), (hs.wk ⟨rfl, rfl, trivial⟩), hS⟩)
               ·have hs := hs.bf hb
                have hS := hS.2 hc
                refine sNo hs fun _ hs => ?_
                refine sNo hs fun _ hs => ?_
                refine sYe hs (sP (.bool false) hs fun _ hs => ?_)
                refine sP (.bool false) hs fun _ hs => ?_
                refine sP (.bool false) hs fun _ hs => ?_
                exact wpList_nil (⟨false, (hs.wk ⟨rfl, rfl, trivial⟩), hS⟩)
             ·have hs := hs.bf hb
              have hS := hS.2 hc
              refine sNo hs fun _ hs => ?_
              refine sNo hs fun _ hs => ?_
              refine sP (.bool false) hs fun _ hs => ?_
              refine sP (.bool false) hs fun _ hs => ?_
              refine sYe hs (sP (pt b4 0) hs fun _ hs => ?_)
              refine sYe hs (sY (iv e2.Kind) hs (Yl.lB [(iv e2.Kind)] false 0) fun _ hs => ?_)
              refine sYe hs (sP (.bool ((e2.Kind : Int) == (11 : Int))) hs fun _ hs => ?_)
              refine sYe hs (sP (.bool ((e2.Kind : Int) == (11 : Int))) hs fun _ hs => ?_)
              refine bsplit ((e2.Kind : Int) == (11 : Int)) beq_iff_eq (fun hb hc => ?_) (fun hb hc => ?_)
              ·have hs := hs.bt hb
               have hS := hS.1 hc
               refine sYe hs (sP (iv x90) hs fun _ hs => ?_)
               refine sYe hs (sP (.bool (decide (x90 ≥ 0))) hs fun _ hs => ?_)
               refine sYe hs (sP (.bool (decide (x90 ≥ 0))) hs fun _ hs => ?_)
               refine sP (.bool (decide (x90 ≥ 0))) hs fun _ hs => ?_
               refine sP (.bool (decide (x90 ≥ 0))) hs fun _ hs => ?_
               exact wpList_nil (⟨(decide (x90 ≥ 0)), (hs.wk ⟨rfl, rfl, trivial⟩), hS⟩)
              ·have hs := hs.bf hb
               have hS := hS.2 hc
               refine sNo hs fun _ hs => ?_
               refine sNo hs fun _ hs => ?_
               refine sYe hs (sP (.bool false) hs fun _ hs => ?_)
               refine sP (.bool false) hs fun _ hs => ?_
               refine sP (.bool false) hs fun _ hs => ?_
               exact wpList_nil (⟨false, (hs.wk ⟨rfl, rfl, trivial⟩), hS⟩)
            ·intro a w hJ
             obtain ⟨x92, hs, hS⟩ := hJ
             unfold S_chaffref_Table_End_J6 at hS
             refine Wp.cond hs rfl rfl Iff.rfl (fun hc => ?_) (fun hc => ?_)
             ·have hS := hS.1 hc
              refine Wp.seq (Wp.region (sP (iv (-1)) hs fun _ hs => ?_))
              exact wpList_nil (Wp.ret (lvE K hs (resT hs rfl rfl) hMM.2 hS))
             ·have hS := hS.2 hc
              refine Wp.skip (Wp.seq (Wp.region (sP (iv at3) hs fun _ hs => ?_)))
              refine sP (iv at3) hs fun _ hs => ?_
              exact wpList_nil (Wp.ret (lvE K hs (resT hs rfl rfl) hMM.2 hS))
def S_chaffref_Fill_J1 (x1022 : Int) (G1026 : Type) (gh1027 : G1026) (I1024 : G1026 → Int → Mem → Prop) (mu1025 : G1026 → Int → Nat) (M1056 : Mem) (K : Value → Mem → Prop) : Prop :=
 (InI (x1022 + 1) ∧ ∃ (gh : G1026), I1024 gh (x1022 + 1) M1056 ∧ mu1025 gh (x1022 + 1) < mu1025 gh1027 x1022)
def S_chaffref_Fill (ga1 : Option Addr) (gl2 : Nat) (gc3 : Nat) (s4 : List UInt8) (M : Mem) (L : Nat → Prop) (K : Value → Mem → Prop) : Prop :=
 (InI (((s4.length : Nat) : Int) + 1) ∧ ((0 : Int) ≤ ((s4.length : Nat) : Int) + 1 ∧ (((s4.length : Nat) : Int) + 1 : Int) ≤ ((s4.length : Nat) : Int) + 1 ∧ (((s4.length : Nat) : Int) + 1).toNat * 24 ≤ 140737488355328 ∧ (∀ (M9 : Mem) (ad7 : Option Addr) (cap8 : Nat), NewRow M M9 64 1 ad7 ((((s4.length : Nat) : Int) + 1).toNat) cap8 (repl (((s4.length : Nat) : Int) + 1).toNat [(.slice none 0 0)]) → (∀ (b10 : Nat), (∀ (M11 : Mem), M9 b10 = none → M11 = M9.add b10 (.cells [(.slice ga1 gl2 gc3), (.string (mkS s4)), (.slice ad7 ((((s4.length : Nat) : Int) + 1).toNat) cap8)].toArray 95 (0, 0)) → (∃ (G709 : Type) (I707 : G709 → Int → Mem → Prop) (mu708 : G709 → Int → Nat) (gz711 : G709), I707 gz711 ((s4.length : Nat) : Int) M11 ∧ ∀ (gh710 : G709) (at705 : Int) (M706 : Mem), (I707 gh710 at705 M706 → ((at705 ≥ 0 → (∃ (xa712 : Option Addr) (xl713 : Nat) (xc714 : Nat), At M706 b10 2 [(.slice xa712 xl713 xc714)] ∧ ((0 : Int) ≤ ((gl2 : Nat) : Int) ∧ ((gl2 : Nat) : Int) ≤ ((gl2 : Nat) : Int) ∧ ((gl2 : Nat) : Int).toNat * 8 ≤ 140737488355328 ∧ (∀ (M718 : Mem) (ad716 : Option Addr) (cap717 : Nat), NewRow M706 M718 3 1 ad716 (((gl2 : Nat) : Int).toNat) cap717 (repl ((gl2 : Nat) : Int).toNat [(.int .i64 0)]) → (∃ (b719 o720 : Nat), xa712 = some ⟨b719, o720, none⟩ ∧ (0 : Int) ≤ at705 ∧ at705 < ((xl713 : Nat) : Int) ∧ (Has M718 b719 (o720 + at705.toNat * 1) 1 ∧ Wr L M b719 ∧ ∀ (M721 : Mem), M721 = M718.put b719 (o720 + at705.toNat * 1) [(.slice ad716 (((gl2 : Nat) : Int).toNat) cap717)] → (∃ (G751 : Type) (I749 : G751 → Int → Mem → Prop) (mu750 : G751 → Int → Nat) (gz753 : G751), I749 gz753 0 M721 ∧ ∀ (gh752 : G751) (x747 : Int) (M748 : Mem), (I749 gh752 x747 M748 → ((x747 < ((gl2 : Nat) : Int) → (∃ (xa754 : Option Addr) (xl755 : Nat) (xc756 : Nat), At M748 b10 2 [(.slice xa754 xl755 xc756)] ∧ (∃ (b757 o758 : Nat), xa754 = some ⟨b757, o758, none⟩ ∧ (0 : Int) ≤ at705 ∧ at705 < ((xl755 : Nat) : Int) ∧ (∃ (xa759 : Option Addr) (xl760 : Nat) (xc761 : Nat), At M748 b757 (o758 + at705.toNat * 1) [(.slice xa759 xl760 xc761)] ∧ (∃ (b762 o763 : Nat), xa759 = some ⟨b762, o763, none⟩ ∧ (0 : Int) ≤ x747 ∧ x747 < ((xl760 : Nat) : Int) ∧ (Has M748 b762 (o763 + x747.toNat * 1) 1 ∧ Wr L M b762 ∧ ∀ (M764 : Mem), M764 = M748.put b762 (o763 + x747.toNat * 1) [(.int .i64 (-2))] → (InI (x747 + 1) ∧ ∃ (gh : G751), I749 gh (x747 + 1) M764 ∧ mu750 gh (x747 + 1) < mu750 gh752 x747))))))) ∧ (¬ (x747 < ((gl2 : Nat) : Int)) → (∃ (G960 : Type) (I958 : G960 → Int → Mem → Prop) (mu959 : G960 → Int → Nat) (gz962 : G960), I958 gz962 0 M748 ∧ ∀ (gh961 : G960) (x956 : Int) (M957 : Mem), (I958 gh961 x956 M957 → ((x956 < ((gl2 : Nat) : Int) → (∃ (G1026 : Type) (I1024 : G1026 → Int → Mem → Prop) (mu1025 : G1026 → Int → Nat) (gz1028 : G1026), I1024 gz1028 0 M957 ∧ ∀ (gh1027 : G1026) (x1022 : Int) (M1023 : Mem), (I1024 gh1027 x1022 M1023 → ((x1022 < ((gl2 : Nat) : Int) → (∃ (b1029 o1030 : Nat), ga1 = some ⟨b1029, o1030, none⟩ ∧ (0 : Int) ≤ x1022 ∧ x1022 < ((gl2 : Nat) : Int) ∧ (∃ (x1031 : X_api_Rule), At M1023 b1029 (o1030 + x1022.toNat * 8) x1031.cells ∧ (∃ (xa1033 : Option Addr) (xl1034 : Nat) (xc1035 : Nat), At M1023 b10 2 [(.slice xa1033 xl1034 xc1035)] ∧ (∃ (b1036 o1037 : Nat), xa1033 = some ⟨b1036, o1037, none⟩ ∧ (0 : Int) ≤ at705 ∧ at705 < ((xl1034 : Nat) : Int) ∧ (∃ (xa1038 : Option Addr) (xl1039 : Nat) (xc1040 : Nat), At M1023 b1036 (o1037 + at705.toNat * 1) [(.slice xa1038 xl1039 xc1040)] ∧ (∃ (b1041 o1042 : Nat), xa1038 = some ⟨b1041, o1042, none⟩ ∧ (0 : Int) ≤ x1022 ∧ x1022 < ((xl1039 : Nat) : Int) ∧ (∃ (x1043 : Int), At M1023 b1041 (o1042 + x1022.toNat * 1) [(.int .i64 x1043)] ∧ (((x1043 : Int) = (-2) → (∃ (xa1044 : Option Addr) (xl1045 : Nat) (xc1046 : Nat), At M1023 b10 2 [(.slice xa1044 xl1045 xc1046)] ∧ (∃ (b1047 o1048 : Nat), xa1044 = some ⟨b1047, o1048, none⟩ ∧ (0 : Int) ≤ at705 ∧ at705 < ((xl1045 : Nat) : Int) ∧ (∃ (xa1049 : Option Addr) (xl1050 : Nat) (xc1051 : Nat), At M1023 b1047 (o1048 + at705.toNat * 1) [(.slice xa1049 xl1050 xc1051)] ∧ (CallE Try.prog 53 #[(.pointer (some ⟨b10, 0, none⟩)), x1031.Body.val, (.int .i64 at705)] M1023 (fun v _ => ∃ (x1052 : Int), v = (Value.int .i64 x1052) ∧ (∃ (b1053 o1054 : Nat), xa1049 = some ⟨b1053, o1054, none⟩ ∧ (0 : Int) ≤ x1022 ∧ x1022 < ((xl1050 : Nat) : Int) ∧ (Has M1023 b1053 (o1054 + x1022.toNat * 1) 1 ∧ Wr L M b1053 ∧ ∀ (M1055 : Mem), M1055 = M1023.put b1053 (o1054 + x1022.toNat * 1) [(.int .i64 x1052)] → (S_chaffref_Fill_J1 x1022 G1026 gh1027 I1024 mu1025 M1055 K))))))))) ∧ (¬ ((x1043 : Int) = (-2)) → (S_chaffref_Fill_J1 x1022 G1026 gh1027 I1024 mu1025 M1023 K))))))))))) ∧ (¬ (x1022 < ((gl2 : Nat) : Int)) → (InI (x956 + 1) ∧ ∃ (gh : G960), I958 gh (x956 + 1) M1023 ∧ mu959 gh (x956 + 1) < mu959 gh961 x956)))))) ∧ (¬ (x956 < ((gl2 : Nat) : Int)) → (InI (at705 - 1) ∧ ∃ (gh : G709), I707 gh (at705 - 1) M957 ∧ mu708 gh (at705 - 1) < mu708 gh710 at705))))))))))))))) ∧ (¬ (at705 ≥ 0) → (∀ M', M706.le M' → K (Value.pointer (some ⟨b10, 0, none⟩)) M'))))))))))
set_option maxRecDepth 100000 in
theorem s_chaffref_Fill (ga1 : Option Addr) (gl2 : Nat) (gc3 : Nat) (s4 : List UInt8) (M : Mem) (L : Nat → Prop) (K : Value → Mem → Prop) (hS : S_chaffref_Fill ga1 gl2 gc3 s4 M L K) : CallW Try.prog 17 #[(Value.agg #[(Value.slice ga1 gl2 gc3)]), (Value.string (mkS s4))] M L K := by
 refine enterW Try.func17 rfl 91 rfl (Nat.le_of_ble_eq_true rfl) (fun E a hs => ?_)
 unfold S_chaffref_Fill at hS
 have hMM := WX.refl M E
 change Sx 91 E (bwW E M L) M E a [(0, (.agg #[(.slice ga1 gl2 gc3)])), (1, (.string (mkS s4)))] [] [] at hs
 refine Wp.seq (Wp.region (stepBox [(.slice ga1 gl2 gc3)] hs rfl rfl rfl (by decide) (fun _ _ b5 hEb5 hs => ?_)))
 refine sP (.pointer none) hs fun _ hs => ?_
 refine wpList_nil (Wp.seq (Wp.regionD [true, true, true, true, true, true, true, true, true] hs (by kernel_rfl) rfl [⟨b5, 24, [(.slice ga1 gl2 gc3)]⟩] (fun _ h => h) [] (fun _ h => h) (fun _ hs hC => ?_)))
 have hL := Mem.le.refl M
 refine stepDY (v := (.agg #[(.slice ga1 gl2 gc3)])) 0 [6, 7, 8] hs hC QZ.no rfl (wanted_none rfl) rfl (by decide) (by kernel_rfl) (by kernel_rfl) (by kernel_rfl) (Yl.lB [(.slice ga1 gl2 gc3)] true 0) (fun _ hs => ?_)
 refine dP (Value.string (mkS s4)) 1 [6, 7, 8] hs QZ.no (wanted_none rfl) fun _ hs => ?_
 refine sE 2 ?_
 refine sP (.string (mkS s4)) hs fun _ hs => ?_
 refine wpList_nil (⟨fun _ h => h, ?_⟩)
 refine sE 3 ?_
 refine sP (iv ((s4.length : Nat) : Int)) hs fun _ hs => ?_
 refine wpList_nil (⟨fun _ h => h, ?_⟩)
 refine sE 4 ?_
 obtain ⟨hI, hS⟩ := hS
 refine sY (iv (((s4.length : Nat) : Int) + 1)) hs (Yl.eq (Yl.pure (v := Value.int .i64 (IntKind.wrap .i64 (((s4.length : Nat) : Int) + 1))) rfl (fun _ => by kernel_rfl)) (congrArg (Value.int .i64) (wrap_in hI))) fun _ hs => ?_
 refine wpList_nil (⟨fun _ h => h, ?_⟩)
 refine sE 5 ?_
 obtain ⟨h0, h1, hB, hS⟩ := hS
 refine stepMakeN (e := 64) (size := 1) (bytes := 24) [(.slice none 0 0)] hs rfl rfl rfl rfl (by kernel_rfl) (by kernel_rfl) rfl (by decide) (by decide) h0 h1 hB (fun _ _ rv6 hs => ?_)
 obtain ⟨ad7, cap8, hv, hcp, hxl⟩ := hs.rowform 0 rfl
 dsimp only at hv hcp hxl
 subst hv
 obtain ⟨M9, hnr, hMM, hs⟩ := hs.releaseW hMM 0 rfl [] rfl
 have hS := hS M9 ad7 cap8 hnr
 replace hL := hL.trans hnr.le
 refine wpList_nil (⟨fun _ _ => hs.cxle hL (List.Sublist.refl _) (List.Sublist.refl _), ?_⟩)
 have hC := hs.cxle hL (List.Sublist.refl _) (List.Sublist.refl _)
 refine sE 6 ?_
 refine sP (X_chaffref_Table.mk ga1 gl2 gc3 s4 ad7 ((((s4.length : Nat) : Int) + 1).toNat) cap8).val hs fun _ hs => ?_
 refine wpList_nil (⟨fun _ h => h, ?_⟩)
 refine sE 7 ?_
 refine stepBox [(.slice ga1 gl2 gc3), (.string (mkS s4)), (.slice ad7 ((((s4.length : Nat) : Int) + 1).toNat) cap8)] hs rfl rfl rfl (by decide) (fun _ _ b10 hEb10 hs => ?_)
 have hS := hS b10
 obtain ⟨M11, hM2, hno, hMM, hs⟩ := hs.freezeW hMM 0 rfl hEb10 rfl
 have hS := hS M11 hno hM2
 replace hL := hL.trans (show Mem.le _ M11 from by rw [hM2]; exact Mem.add_le hno)
 refine wpList_nil (⟨fun _ _ => hs.cxle hL (List.Sublist.refl _) (List.Sublist.refl _), ?_⟩)
 have hC := hs.cxle hL (List.Sublist.refl _) (List.Sublist.refl _)
 refine sE 8 ?_
 refine sP (pt b10 0) hs fun _ hs => ?_
 refine wpList_nil (⟨fun _ h => h, ?_⟩)
 refine WpD.done (by kernel_rfl) ?_ _
 refine Wp.seq (Wp.seq (Wp.region (sP (.string (mkS s4)) hs fun _ hs => ?_)))
 refine sP (iv ((s4.length : Nat) : Int)) hs fun _ hs => ?_
 refine sP (iv ((s4.length : Nat) : Int)) hs fun _ hs => ?_
 refine wpList_nil (Wp.block ?_)
 obtain ⟨G709, I707, mu708, gz711, hI0, hst⟩ := hS
 refine Wp.loop (σ := G709 × (Int) × (Mem)) (fun s a w => match s with | (gh710, at705, M706) => WX M706 M E ∧ Sx 91 E (bwW E M L) M706 w a [(2, (pt b5 0)), (5, (pt b10 0)), (6, (iv at705))] [⟨b5, 24, [(.slice ga1 gl2 gc3)]⟩] [] ∧ I707 gh710 at705 M706) (fun s => match s with | (gh710, at705, M706) => mu708 gh710 at705) (gz711, ((s4.length : Nat) : Int), M11) ⟨hMM, (hs.wk ⟨rfl, rfl, rfl, trivial⟩), hI0⟩ (fun s a w hI => ?_)
 obtain ⟨gh710, at705, M706⟩ := s
 obtain ⟨hMM, hs, hI⟩ := hI
 have hS := hst gh710 at705 M706 hI
 clear hst hI0 hI
 refine Wp.seq (Wp.seq (Wp.region (sP (iv at705) hs fun _ hs => ?_)))
 refine sP (.bool (decide (at705 ≥ 0))) hs fun _ hs => ?_
 refine wpList_nil (Wp.cond hs rfl rfl decide_eq_true_iff (fun hc => ?_) (fun hc => ?_))
 ·have hS := hS.1 hc
  refine Wp.skip (Wp.seq (Wp.block (Wp.seq (Wp.regionD [true, true, true, true, true, true, true, true, true, true, false] hs (by kernel_rfl) rfl [⟨b5, 24, [(.slice ga1 gl2 gc3)]⟩] (fun _ h => h) [] (fun _ h => h) (fun _ hs hC => ?_)))))
  have hL := Mem.le.refl M706
  refine dP (pt b10 0) 0 [1, 2, 3, 9, 10] hs QZ.no (wanted_none rfl) fun _ hs => ?_
  refine dP (pt b10 0) 1 [2, 3, 9, 10] hs QZ.no (wanted_none rfl) fun _ hs => ?_
  refine dP (pt b10 2) 2 [3, 9, 10] hs QZ.no (wanted_none rfl) fun _ hs => ?_
  obtain ⟨xa712, xl713, xc714, hat, hS⟩ := hS
  refine stepDY (v := (.slice xa712 xl713 xc714)) 3 [9, 10] hs hC QZ.no rfl (wanted_none rfl) rfl (by decide) (by kernel_rfl) (by kernel_rfl) (by kernel_rfl) (Yl.loadV (vs := [(.slice xa712 xl713 xc714)]) false rfl rfl (by kernel_rfl) hat) (fun _ hs => ?_)
  refine dP (iv at705) 4 [9, 10] hs QZ.no (wanted_none rfl) fun _ hs => ?_
  refine sE 5 ?_
  refine sP (pt b5 0) hs fun _ hs => ?_
  refine wpList_nil (⟨fun _ h => h, ?_⟩)
  refine sE 6 ?_
  refine sY (.slice ga1 gl2 gc3) hs (Yl.lB [(.slice ga1 gl2 gc3)] false 0) fun _ hs => ?_
  refine wpList_nil (⟨fun _ h => h, ?_⟩)
  refine sE 7 ?_
  refine sP (iv ((gl2 : Nat) : Int)) hs fun _ hs => ?_
  refine wpList_nil (⟨fun _ h => h, ?_⟩)
  refine sE 8 ?_
  obtain ⟨h0, h1, hB, hS⟩ := hS
  refine stepMakeN (e := 3) (size := 1) (bytes := 8) [(iv 0)] hs rfl rfl rfl rfl (by kernel_rfl) (by kernel_rfl) rfl (by decide) (by decide) h0 h1 hB (fun _ _ rv715 hs => ?_)
  obtain ⟨ad716, cap717, hv, hcp, hxl⟩ := hs.rowform 0 rfl
  dsimp only at hv hcp hxl
  subst hv
  obtain ⟨M718, hnr, hMM, hs⟩ := hs.releaseW hMM 0 rfl [] rfl
  have hS := hS M718 ad716 cap717 hnr
  replace hL := hL.trans hnr.le
  refine wpList_nil (⟨fun _ _ => hs.cxle hL (List.Sublist.refl _) (List.Sublist.refl _), ?_⟩)
  have hC := hs.cxle hL (List.Sublist.refl _) (List.Sublist.refl _)
  refine sE 9 ?_
  obtain ⟨b719, o720, ha, h0, hl, hS⟩ := hS
  refine sY (.pointer (some ⟨b719, o720 + at705.toNat * 1, none⟩)) hs (Yl.indexS (e := 64) (sz := 1) rfl rfl rfl rfl (by kernel_rfl) (by kernel_rfl) ha h0 hl) fun _ hs => ?_
  refine wpList_nil (⟨fun _ h => h, ?_⟩)
  refine sE 10 ?_
  obtain ⟨hhas, hwr, hS⟩ := hS
  refine stepStoreW (vs := [(.slice ad716 (((gl2 : Nat) : Int).toNat) cap717)]) hs hMM rfl rfl rfl rfl rfl (by kernel_rfl) rfl hhas hwr (fun _ _ M721 hM2 hMM hs => ?_)
  have hS := hS M721 hM2
  refine wpList_nil (⟨fun h => absurd h (by decide), ?_⟩)
  refine WpD.done (by kernel_rfl) ?_ _
  refine Wp.seq (Wp.seq (Wp.region (sP (pt b5 0) hs fun _ hs => ?_)))
  refine sY (.slice ga1 gl2 gc3) hs (Yl.lB [(.slice ga1 gl2 gc3)] false 0) fun _ hs => ?_
  refine sP (iv ((gl2 : Nat) : Int)) hs fun _ hs => ?_
  refine sP (iv 0) hs fun _ hs => ?_
  refine wpList_nil (Wp.block ?_)
  obtain ⟨G751, I749, mu750, gz753, hI0, hst⟩ := hS
  refine Wp.loop (σ := G751 × (Int) × (Mem)) (fun s a w => match s with | (gh752, x747, M748) => WX M748 M E ∧ Sx 91 E (bwW E M L) M748 w a [(2, (pt b5 0)), (5, (pt b10 0)), (6, (iv at705)), (36, (iv ((gl2 : Nat) : Int))), (37, (iv x747))] [⟨b5, 24, [(.slice ga1 gl2 gc3)]⟩] [] ∧ I749 gh752 x747 M748) (fun s => match s with | (gh752, x747, M748) => mu750 gh752 x747) (gz753, 0, M721) ⟨hMM, (hs.wk ⟨rfl, rfl, rfl, rfl, rfl, trivial⟩), hI0⟩ (fun s a w hI => ?_)
  obtain ⟨gh752, x747, M748⟩ := s
  obtain ⟨hMM, hs, hI⟩ := hI
  have hS := hst gh752 x747 M748 hI
  clear hst hI0 hI
  refine Wp.seq (Wp.region (sP (.bool (decide (x747 < ((gl2 : Nat) : Int)))) hs fun _ hs => ?_))
  refine wpList_nil (Wp.seq (Wp.cond hs rfl rfl decide_eq_true_iff (fun hc => ?_) (fun hc => ?_)))
  ·have hS := hS.1 hc
   refine Wp.skip (Wp.seq (Wp.block (Wp.seq (Wp.region (sP (iv x747) hs fun _ hs => ?_)))))
   refine sP (iv x747) hs fun _ hs => ?_
   refine wpList_nil (Wp.region (sP (pt b10 0) hs fun _ hs => ?_))
   refine sP (pt b10 0) hs fun _ hs => ?_
   refine sP (pt b10 2) hs fun _ hs => ?_
   obtain ⟨xa754, xl755, xc756, hat, hS⟩ := hS
   refine sY (.slice xa754 xl755 xc756) hs (Yl.loadV (vs := [(.slice xa754 xl755 xc756)]) false rfl rfl (by kernel_rfl) hat) fun _ hs => ?_
   refine sP (iv at705) hs fun _ hs => ?_
   obtain ⟨b757, o758, ha, h0, hl, hS⟩ := hS
   refine sY (.pointer (some ⟨b757, o758 + at705.toNat * 1, none⟩)) hs (Yl.indexS (e := 64) (sz := 1) rfl rfl rfl rfl (by kernel_rfl) (by kernel_rfl) ha h0 hl) fun _ hs => ?_
   obtain ⟨xa759, xl760, xc761, hat, hS⟩ := hS
   refine sY (.slice xa759 xl760 xc761) hs (Yl.loadV (vs := [(.slice xa759 xl760 xc761)]) false rfl rfl (by kernel_rfl) hat) fun _ hs => ?_
   refine sP (iv x747) hs fun _ hs => ?_
   obtain ⟨b762, o763, ha, h0, hl, hS⟩ := hS
   refine sY (.pointer (some ⟨b762, o763 + x747.toNat * 1, none⟩)) hs (Yl.indexS (e := 3) (sz := 1) rfl rfl rfl rfl (by kernel_rfl) (by kernel_rfl) ha h0 hl) fun _ hs => ?_
   obtain ⟨hhas, hwr, hS⟩ := hS
   refine stepStoreW (vs := [(iv (-2))]) hs hMM rfl rfl rfl rfl rfl (by kernel_rfl) rfl hhas hwr (fun _ _ M764 hM2 hMM hs => ?_)
   have hS := hS M764 hM2
   refine wpList_nil (Wp.region ?_)
   obtain ⟨hI, hS⟩ := hS
   refine sY (iv (x747 + 1)) hs (Yl.eq (Yl.pure (v := Value.int .i64 (IntKind.wrap .i64 (x747 + 1))) rfl (fun _ => by kernel_rfl)) (congrArg (Value.int .i64) (wrap_in hI))) fun _ hs => ?_
   refine sP (iv (x747 + 1)) hs fun _ hs => ?_
   refine wpList_nil ?_
   obtain ⟨gh, hI1, hI2⟩ := hS
   exact ⟨(gh, x747 + 1, M764), ⟨hMM, (hs.wk ⟨rfl, rfl, rfl, rfl, rfl, trivial⟩), hI1⟩, hI2⟩
  ·have hS := hS.2 hc
   refine Wp.exit rfl (Wp.seq (Wp.region (sP (pt b5 0) hs fun _ hs => ?_)))
   refine sY (.slice ga1 gl2 gc3) hs (Yl.lB [(.slice ga1 gl2 gc3)] false 0) fun _ hs => ?_
   refine sP (iv ((gl2 : Nat) : Int)) hs fun _ hs => ?_
   refine sP (iv 0) hs fun _ hs => ?_
   refine wpList_nil (Wp.block ?_)
   obtain ⟨G960, I958, mu959, gz962, hI0, hst⟩ := hS
   refine Wp.loop (σ := G960 × (Int) × (Mem)) (fun s a w => match s with | (gh961, x956, M957) => WX M957 M E ∧ Sx 91 E (bwW E M L) M957 w a [(2, (pt b5 0)), (5, (pt b10 0)), (6, (iv at705)), (52, (iv ((gl2 : Nat) : Int))), (53, (iv x956))] [⟨b5, 24, [(.slice ga1 gl2 gc3)]⟩] [] ∧ I958 gh961 x956 M957) (fun s => match s with | (gh961, x956, M957) => mu959 gh961 x956) (gz962, 0, M748) ⟨hMM, (hs.wk ⟨rfl, rfl, rfl, rfl, rfl, trivial⟩), hI0⟩ (fun s a w hI => ?_)
   obtain ⟨gh961, x956, M957⟩ := s
   obtain ⟨hMM, hs, hI⟩ := hI
   have hS := hst gh961 x956 M957 hI
   clear hst hI0 hI
   refine Wp.seq (Wp.region (sP (.bool (decide (x956 < ((gl2 : Nat) : Int)))) hs fun _ hs => ?_))
   refine wpList_nil (Wp.seq (Wp.cond hs rfl rfl decide_eq_true_iff (fun hc => ?_) (fun hc => ?_)))
   ·have hS := hS.1 hc
    refine Wp.skip (Wp.seq (Wp.block (Wp.seq (Wp.region (sP (pt b5 0) hs fun _ hs => ?_)))))
    refine sY (.slice ga1 gl2 gc3) hs (Yl.lB [(.slice ga1 gl2 gc3)] false 0) fun _ hs => ?_
    refine sP (iv ((gl2 : Nat) : Int)) hs fun _ hs => ?_
    refine sP (iv 0) hs fun _ hs => ?_
    refine wpList_nil (Wp.block ?_)
    obtain ⟨G1026, I1024, mu1025, gz1028, hI0, hst⟩ := hS
    refine Wp.loop (σ := G1026 × (Int) × (Mem)) (fun s a w => match s with | (gh1027, x1022, M1023) => WX M1023 M E ∧ Sx 91 E (bwW E M L) M1023 w a [(2, (pt b5 0)), (5, (pt b10 0)), (6, (iv at705)), (52, (iv ((gl2 : Nat) : Int))), (53, (iv x956)), (56, (.slice ga1 gl2 gc3)), (57, (iv ((gl2 : Nat) : Int))), (58, (iv x1022))] [⟨b5, 24, [(.slice ga1 gl2 gc3)]⟩] [] ∧ I1024 gh1027 x1022 M1023) (fun s => match s with | (gh1027, x1022, M1023) => mu1025 gh1027 x1022) (gz1028, 0, M957) ⟨hMM, (hs.wk ⟨rfl, rfl, rfl, rfl, rfl, rfl, rfl, rfl, trivial⟩), hI0⟩ (fun s a w hI => ?_)
    obtain ⟨gh1027, x1022, M1023⟩ := s
    obtain ⟨hMM, hs, hI⟩ := hI
    have hS := hst gh1027 x1022 M1023 hI
    clear hst hI0 hI
    refine Wp.seq (Wp.region (sP (.bool (decide (x1022 < ((gl2 : Nat) : Int)))) hs fun _ hs => ?_))
    refine wpList_nil (Wp.seq (Wp.cond hs rfl rfl decide_eq_true_iff (fun hc => ?_) (fun hc => ?_)))
    ·have hS := hS.1 hc
     refine Wp.skip (Wp.join (fun a w => ∃ (M1056 : Mem), WX M1056 M E ∧ Sx 91 E (bwW E M L) M1056 w a [(2, (pt b5 0)), (5, (pt b10 0)), (6, (iv at705)), (52, (iv ((gl2 : Nat) : Int))), (53, (iv x956)), (56, (.slice ga1 gl2 gc3)), (57, (iv ((gl2 : Nat) : Int))), (58, (iv x1022))] [⟨b5, 24, [(.slice ga1 gl2 gc3)]⟩] [] ∧ (S_chaffref_Fill_J1 x1022 G1026 gh1027 I1024 mu1025 M1056 K)) ?_ ?_)
     ·refine Wp.block (Wp.seq (Wp.region (sP (iv x1022) hs fun _ hs => ?_)))
      obtain ⟨b1029, o1030, ha, h0, hl, hS⟩ := hS
      refine sY (.pointer (some ⟨b1029, o1030 + x1022.toNat * 8, none⟩)) hs (Yl.indexS (e := 111) (sz := 8) rfl rfl rfl rfl (by kernel_rfl) (by kernel_rfl) ha h0 hl) fun _ hs => ?_
      obtain ⟨x1031, hat, hS⟩ := hS
      refine sY x1031.val hs (Yl.loadV (vs := x1031.cells) true rfl rfl (by kernel_rfl) hat) fun _ hs => ?_
      refine stepAlloc [(.string (mkS [])), (iv 0), (.int .u64 0), (.int .u64 0), (.int .u64 0), (.int .u64 0), (.string (mkS [])), (.slice none 0 0)] hs (by kernel_rfl) (by decide) (fun _ _ b1032 hEb1032 hs => ?_)
      refine sP (iv x1022) hs fun _ hs => ?_
      refine stB 0 x1031.cells [⟨b1032, 111, x1031.cells⟩, ⟨b5, 24, [(.slice ga1 gl2 gc3)]⟩] hs fun _ _ hs => ?_
      refine wpList_nil (Wp.seq (Wp.region (sP (pt b10 0) hs fun _ hs => ?_)))
      refine sP (pt b10 0) hs fun _ hs => ?_
      refine sP (pt b10 2) hs fun _ hs => ?_
      obtain ⟨xa1033, xl1034, xc1035, hat, hS⟩ := hS
      refine sY (.slice xa1033 xl1034 xc1035) hs (Yl.loadV (vs := [(.slice xa1033 xl1034 xc1035)]) false rfl rfl (by kernel_rfl) hat) fun _ hs => ?_
      refine sP (iv at705) hs fun _ hs => ?_
      obtain ⟨b1036, o1037, ha, h0, hl, hS⟩ := hS
      refine sY (.pointer (some ⟨b1036, o1037 + at705.toNat * 1, none⟩)) hs (Yl.indexS (e := 64) (sz := 1) rfl rfl rfl rfl (by kernel_rfl) (by kernel_rfl) ha h0 hl) fun _ hs => ?_
      obtain ⟨xa1038, xl1039, xc1040, hat, hS⟩ := hS
      refine sY (.slice xa1038 xl1039 xc1040) hs (Yl.loadV (vs := [(.slice xa1038 xl1039 xc1040)]) false rfl rfl (by kernel_rfl) hat) fun _ hs => ?_
      refine sP (iv x1022) hs fun _ hs => ?_
      obtain ⟨b1041, o1042, ha, h0, hl, hS⟩ := hS
      refine sY (.pointer (some ⟨b1041, o1042 + x1022.toNat * 1, none⟩)) hs (Yl.indexS (e := 3) (sz := 1) rfl rfl rfl rfl (by kernel_rfl) (by kernel_rfl) ha h0 hl) fun _ hs => ?_
      obtain ⟨x1043, hat, hS⟩ := hS
      refine sY (iv x1043) hs (Yl.loadV (vs := [(iv x1043)]) false rfl rfl (by kernel_rfl) hat) fun _ hs => ?_
      refine sP (.bool ((x1043 : Int) == ((-2) : Int))) hs fun _ hs => ?_
      refine wpList_nil (Wp.cond hs rfl rfl beq_iff_eq (fun hc => ?_) (fun hc => ?_))
      ·have hS := hS.1 hc
       refine Wp.regionD [true, true, true, true, true, true, true, true, true, true, true, true, true, true, false] hs (by kernel_rfl) rfl [⟨b1032, 111, x1031.cells⟩, ⟨b5, 24, [(.slice ga1 gl2 gc3)]⟩] (fun _ h => h) [] (fun _ h => h) (fun _ hs hC => ?_)
       have hL := Mem.le.refl M1023
       refine dP (pt b10 0) 0 [1, 2, 3, 5, 6, 13, 14] hs QZ.no (wanted_none rfl) fun _ hs => ?_
       refine dP (pt b10 0) 1 [2, 3, 5, 6, 13, 14] hs QZ.no (wanted_none rfl) fun _ hs => ?_
       refine dP (pt b10 2) 2 [3, 5, 6, 13, 14] hs QZ.no (wanted_none rfl) fun _ hs => ?_
       obtain ⟨xa1044, xl1045, xc1046, hat, hS⟩ := hS
       refine stepDY (v := (.slice xa1044 xl1045 xc1046)) 3 [5, 6, 13, 14] hs hC QZ.no rfl (wanted_none rfl) rfl (by decide) (by kernel_rfl) (by kernel_rfl) (by kernel_rfl) (Yl.loadV (vs := [(.slice xa1044 xl1045 xc1046)]) false rfl rfl (by kernel_rfl) hat) (fun _ hs => ?_)
       refine dP (iv at705) 4 [5, 6, 13, 14] hs QZ.no (wanted_none rfl) fun _ hs => ?_
       obtain ⟨b1047, o1048, ha, h0, hl, hS⟩ := hS
       refine stepDP (v := (.pointer (some ⟨b1047, o1048 + at705.toNat * 1, none⟩))) 5 [6, 13, 14] hs QZ.no rfl (wanted_none rfl) rfl (by decide) (by kernel_rfl) (by kernel_rfl) (by kernel_rfl) (Yl.indexS (e := 64) (sz := 1) rfl rfl rfl rfl (by kernel_rfl) (by kernel_rfl) ha h0 hl) (fun _ hs => ?_)
       obtain ⟨xa1049, xl1050, xc1051, hat, hS⟩ := hS
       refine stepDY (v := (.slice xa1049 xl1050 xc1051)) 6 [13, 14] hs hC QZ.no rfl (wanted_none rfl) rfl (by decide) (by kernel_rfl) (by kernel_rfl) (by kernel_rfl) (Yl.loadV (vs := [(.slice xa1049 xl1050 xc1051)]) false rfl rfl (by kernel_rfl) hat) (fun _ hs => ?_)
       refine dP (iv x1022) 7 [13, 14] hs QZ.no (wanted_none rfl) fun _ hs => ?_
       refine dP (pt b10 0) 8 [12, 13, 14] hs QZ.no (wanted_none rfl) fun _ hs => ?_
       refine dP (pt b1032 1) 9 [10, 12, 13, 14] hs QZ.no (wanted_none rfl) fun _ hs => ?_
       refine stepDY (v := x1031.Body.val) 10 [12, 13, 14] hs hC QZ.no rfl (wanted_none rfl) rfl (by decide) (by kernel_rfl) (by kernel_rfl) (by kernel_rfl) (Yl.lB x1031.Body.cells true 0) (fun _ hs => ?_)
       refine sE 11 ?_
       refine sP (iv at705) hs fun _ hs => ?_
       refine wpList_nil (⟨fun _ h => h, ?_⟩)
       refine sE 12 ?_
       refine stepCallP [(pt b10 0), x1031.Body.val, (iv at705)] hs rfl ⟨_, rfl, rfl⟩ rfl Try.func53 rfl (by kernel_rfl) (by decide) hS (fun _ _ v hS hs => ?_)
       obtain ⟨x1052, hv, hS⟩ := hS
       subst hv
       refine wpList_nil (⟨fun _ _ => hs.cxle hL (List.Sublist.refl _) (List.Sublist.refl _), ?_⟩)
       have hC := hs.cxle hL (List.Sublist.refl _) (List.Sublist.refl _)
       refine sE 13 ?_
       obtain ⟨b1053, o1054, ha, h0, hl, hS⟩ := hS
       refine sY (.pointer (some ⟨b1053, o1054 + x1022.toNat * 1, none⟩)) hs (Yl.indexS (e := 3) (sz := 1) rfl rfl rfl rfl (by kernel_rfl) (by kernel_rfl) ha h0 hl) fun _ hs => ?_
       refine wpList_nil (⟨fun _ h => h, ?_⟩)
       refine sE 14 ?_
       obtain ⟨hhas, hwr, hS⟩ := hS
       refine stepStoreW (vs := [(iv x1052)]) hs hMM rfl rfl rfl rfl rfl (by kernel_rfl) rfl hhas hwr (fun _ _ M1055 hM2 hMM hs => ?_)
       have hS := hS M1055 hM2
       refine wpList_nil (⟨fun h => absurd h (by decide), ?_⟩)
       refine WpD.done (by kernel_rfl) ?_ _
       exact ⟨M1055, hMM, (hs.weak (.cons _ (.cons_cons _ List.Sublist.slnil)) (List.Sublist.refl _) ⟨rfl, rfl, rfl, rfl, rfl, rfl, rfl, rfl, trivial⟩), hS⟩
      ·have hS := hS.2 hc
       exact Wp.skip (⟨M1023, hMM, (hs.weak (.cons _ (.cons_cons _ List.Sublist.slnil)) (List.Sublist.refl _) ⟨rfl, rfl, rfl, rfl, rfl, rfl, rfl, rfl, trivial⟩), hS⟩)
     ·intro a w hJ
      obtain ⟨M1056, hMM, hs, hS⟩ := hJ
      unfold S_chaffref_Fill_J1 at hS
      refine Wp.region ?_
      obtain ⟨hI, hS⟩ := hS
      refine sY (iv (x1022 + 1)) hs (Yl.eq (Yl.pure (v := Value.int .i64 (IntKind.wrap .i64 (x1022 + 1))) rfl (fun _ => by kernel_rfl)) (congrArg (Value.int .i64) (wrap_in hI))) fun _ hs => ?_
      refine sP (iv (x1022 + 1)) hs fun _ hs => ?_
      refine wpList_nil ?_
      obtain ⟨gh, hI1, hI2⟩ := hS
      exact ⟨(gh, x1022 + 1, M1056), ⟨hMM, (hs.wk ⟨rfl, rfl, rfl, rfl, rfl, rfl, rfl, rfl, trivial⟩), hI1⟩, hI2⟩
    ·have hS := hS.2 hc
     refine Wp.exit rfl (Wp.region ?_)
     obtain ⟨hI, hS⟩ := hS
     refine sY (iv (x956 + 1)) hs (Yl.eq (Yl.pure (v := Value.int .i64 (IntKind.wrap .i64 (x956 + 1))) rfl (fun _ => by kernel_rfl)) (congrArg (Value.int .i64) (wrap_in hI))) fun _ hs => ?_
     refine sP (iv (x956 + 1)) hs fun _ hs => ?_
     refine wpList_nil ?_
     obtain ⟨gh, hI1, hI2⟩ := hS
     exact ⟨(gh, x956 + 1, M1023), ⟨hMM, (hs.wk ⟨rfl, rfl, rfl, rfl, rfl, trivial⟩), hI1⟩, hI2⟩
   ·have hS := hS.2 hc
    refine Wp.exit rfl (Wp.region (sP (iv at705) hs fun _ hs => ?_))
    obtain ⟨hI, hS⟩ := hS
    refine sY (iv (at705 - 1)) hs (Yl.eq (Yl.pure (v := Value.int .i64 (IntKind.wrap .i64 (at705 - 1))) rfl (fun _ => by kernel_rfl)) (congrArg (Value.int .i64) (wrap_in hI))) fun _ hs => ?_
    refine sP (iv (at705 - 1)) hs fun _ hs => ?_
    refine wpList_nil ?_
    obtain ⟨gh, hI1, hI2⟩ := hS
    exact ⟨(gh, at705 - 1, M957), ⟨hMM, (hs.wk ⟨rfl, rfl, rfl, trivial⟩), hI1⟩, hI2⟩
 ·have hS := hS.2 hc
  refine Wp.exit rfl (Wp.seq (Wp.region (sP (pt b10 0) hs fun _ hs => ?_)))
  refine sP (pt b10 0) hs fun _ hs => ?_
  exact wpList_nil (Wp.ret (leaveW (K := K) hs (resT hs rfl rfl) hMM hS))
theorem e_chaffref_Fill (ga1 : Option Addr) (gl2 : Nat) (gc3 : Nat) (s4 : List UInt8) (M : Mem) (K : Value → Mem → Prop) (hS : S_chaffref_Fill ga1 gl2 gc3 s4 M (fun _ => False) K) : CallE Try.prog 17 #[(Value.agg #[(Value.slice ga1 gl2 gc3)]), (Value.string (mkS s4))] M K := (s_chaffref_Fill _ _ _ _ _ _ _ hS).toE
def S_chaffref_Table_Out (t1 : Option Addr) (rule2 : Int) (at3 : Int) (M : Mem) (K : Value → Prop) : Prop :=
 (∃ (b5 o6 : Nat), t1 = some ⟨b5, o6, none⟩ ∧ (∃ (xa7 : Option Addr) (xl8 : Nat) (xc9 : Nat), At M b5 (o6 + 2) [(.slice xa7 xl8 xc9)] ∧ (∃ (b10 o11 : Nat), xa7 = some ⟨b10, o11, none⟩ ∧ (0 : Int) ≤ at3 ∧ at3 < ((xl8 : Nat) : Int) ∧ (∃ (xa12 : Option Addr) (xl13 : Nat) (xc14 : Nat), At M b10 (o11 + at3.toNat * 1) [(.slice xa12 xl13 xc14)] ∧ (∃ (b15 o16 : Nat), xa12 = some ⟨b15, o16, none⟩ ∧ (0 : Int) ≤ rule2 ∧ rule2 < ((xl13 : Nat) : Int) ∧ (∃ (x17 : Int), At M b15 (o16 + rule2.toNat * 1) [(.int .i64 x17)] ∧ ((x17 ≥ 0 → (InI (x17 - at3) ∧ K (X_api_Outcome.mk true (x17 - at3)).val)) ∧ (¬ (x17 ≥ 0) → K (X_api_Outcome.mk false 0).val))))))))
set_option maxRecDepth 100000 in
theorem s_chaffref_Table_Out (t1 : Option Addr) (rule2 : Int) (at3 : Int) (M : Mem) (K : Value → Prop) (hS : S_chaffref_Table_Out t1 rule2 at3 M K) : CallE Try.prog 19 #[(Value.pointer t1), (Value.int .i64 rule2), (Value.int .i64 at3)] M (fun v _ => K v) := by
 refine enterE Try.func19 rfl 25 rfl (Nat.le_of_ble_eq_true rfl) (fun E a hs => ?_)
 unfold S_chaffref_Table_Out at hS
 have hMM := MX.refl M E
 change Sx 25 E [] M E a [(0, (.pointer t1)), (1, (iv rule2)), (2, (iv at3))] [] [] at hs
 refine Wp.seq (Wp.region (stepAlloc [(.bool false), (iv 0)] hs (by kernel_rfl) (by decide) (fun _ _ b4 hEb4 hs => ?_)))
 refine wpList_nil (Wp.seq (Wp.seq (Wp.region (sP (.pointer t1) hs fun _ hs => ?_))))
 obtain ⟨b5, o6, hp, hS⟩ := hS
 refine sY (.pointer (some ⟨b5, o6, none⟩)) hs (Yl.nilck rfl rfl hp) fun _ hs => ?_
 refine sP (.pointer (some ⟨b5, o6 + 2, none⟩)) hs fun _ hs => ?_
 obtain ⟨xa7, xl8, xc9, hat, hS⟩ := hS
 refine sY (.slice xa7 xl8 xc9) hs (Yl.loadV (vs := [(.slice xa7 xl8 xc9)]) false rfl rfl (by kernel_rfl) hat) fun _ hs => ?_
 refine sP (iv at3) hs fun _ hs => ?_
 obtain ⟨b10, o11, ha, h0, hl, hS⟩ := hS
 refine sY (.pointer (some ⟨b10, o11 + at3.toNat * 1, none⟩)) hs (Yl.indexS (e := 64) (sz := 1) rfl rfl rfl rfl (by kernel_rfl) (by kernel_rfl) ha h0 hl) fun _ hs => ?_
 obtain ⟨xa12, xl13, xc14, hat, hS⟩ := hS
 refine sY (.slice xa12 xl13 xc14) hs (Yl.loadV (vs := [(.slice xa12 xl13 xc14)]) false rfl rfl (by kernel_rfl) hat) fun _ hs => ?_
 refine sP (iv rule2) hs fun _ hs => ?_
 obtain ⟨b15, o16, ha, h0, hl, hS⟩ := hS
 refine sY (.pointer (some ⟨b15, o16 + rule2.toNat * 1, none⟩)) hs (Yl.indexS (e := 3) (sz := 1) rfl rfl rfl rfl (by kernel_rfl) (by kernel_rfl) ha h0 hl) fun _ hs => ?_
 obtain ⟨x17, hat, hS⟩ := hS
 refine sY (iv x17) hs (Yl.loadV (vs := [(iv x17)]) false rfl rfl (by kernel_rfl) hat) fun _ hs => ?_
 refine sP (iv x17) hs fun _ hs => ?_
 refine wpList_nil (Wp.seq (Wp.region (sP (iv x17) hs fun _ hs => ?_)))
 refine sP (.bool (decide (x17 ≥ 0))) hs fun _ hs => ?_
 refine wpList_nil (Wp.cond hs rfl rfl decide_eq_true_iff (fun hc => ?_) (fun hc => ?_))
 ·have hS := hS.1 hc
  refine Wp.seq (Wp.region (sP (iv x17) hs fun _ hs => ?_))
  refine sP (iv at3) hs fun _ hs => ?_
  obtain ⟨hI, hS⟩ := hS
  refine sY (iv (x17 - at3)) hs (Yl.eq (Yl.pure (v := Value.int .i64 (IntKind.wrap .i64 (x17 - at3))) rfl (fun _ => by kernel_rfl)) (congrArg (Value.int .i64) (wrap_in hI))) fun _ hs => ?_
  refine sP (X_api_Outcome.mk true (x17 - at3)).val hs fun _ hs => ?_
  refine stB 0 [(.bool true), (iv (x17 - at3))] [⟨b4, 26, [(.bool true), (iv (x17 - at3))]⟩] hs fun _ _ hs => ?_
  exact wpList_nil (Wp.ret (lvE K hs (resC (vs := [(.bool true), (iv (x17 - at3))]) true 0 hs rfl rfl rfl (by kernel_rfl) rfl) hMM.2 hS))
 ·have hS := hS.2 hc
  refine Wp.skip (Wp.seq (Wp.region (sP (X_api_Outcome.mk false 0).val hs fun _ hs => ?_)))
  refine stB 0 [(.bool false), (iv 0)] [⟨b4, 26, [(.bool false), (iv 0)]⟩] hs fun _ _ hs => ?_
  exact wpList_nil (Wp.ret (lvE K hs (resC (vs := [(.bool false), (iv 0)]) true 0 hs rfl rfl rfl (by kernel_rfl) rfl) hMM.2 hS))

end Go.Proofs.Ytifkffmecfgpeaa.core
