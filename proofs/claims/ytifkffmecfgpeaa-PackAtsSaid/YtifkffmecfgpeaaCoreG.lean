/- What the code computes, function for function, as shallow propositions; printed by program. -/
import Derived.Test.YtifkffmecfgpeaaRows
import Derived.Test.YtifkffmecfgpeaaM1
namespace Go.Proofs.Ytifkffmecfgpeaa.core
open Go.Gx Go.RowKit Go.ChangeShapes Go.WideShapes Go.ChangeAt
set_option linter.unusedVariables false
structure X_api_Set where
 w0 : Int
 w1 : Int
 w2 : Int
 w3 : Int
def X_api_Set.cells (x : X_api_Set) : List Value := [(.int .u64 x.w0), (.int .u64 x.w1), (.int .u64 x.w2), (.int .u64 x.w3)]
def X_api_Set.val (x : X_api_Set) : Value := .agg x.cells.toArray
structure X_api_Expr where
 Kind : Int
 Set : X_api_Set
 Text : List UInt8
 Kids_a : Option Addr
 Kids_l : Nat
 Kids_c : Nat
def X_api_Expr.cells (x : X_api_Expr) : List Value := [(.int .i64 x.Kind), (.int .u64 x.Set.w0), (.int .u64 x.Set.w1), (.int .u64 x.Set.w2), (.int .u64 x.Set.w3), (.string (mkS x.Text)), (.slice x.Kids_a x.Kids_l x.Kids_c)]
def X_api_Expr.val (x : X_api_Expr) : Value := .agg x.cells.toArray
structure X_api_Rule where
 Name : List UInt8
 Body : X_api_Expr
def X_api_Rule.cells (x : X_api_Rule) : List Value := [(.string (mkS x.Name)), (.int .i64 x.Body.Kind), (.int .u64 x.Body.Set.w0), (.int .u64 x.Body.Set.w1), (.int .u64 x.Body.Set.w2), (.int .u64 x.Body.Set.w3), (.string (mkS x.Body.Text)), (.slice x.Body.Kids_a x.Body.Kids_l x.Body.Kids_c)]
def X_api_Rule.val (x : X_api_Rule) : Value := .agg x.cells.toArray
structure X_chaffref_Node where
 Expr : X_api_Expr
 Deep : Int
def X_chaffref_Node.cells (x : X_chaffref_Node) : List Value := [(.int .i64 x.Expr.Kind), (.int .u64 x.Expr.Set.w0), (.int .u64 x.Expr.Set.w1), (.int .u64 x.Expr.Set.w2), (.int .u64 x.Expr.Set.w3), (.string (mkS x.Expr.Text)), (.slice x.Expr.Kids_a x.Expr.Kids_l x.Expr.Kids_c), (.int .i64 x.Deep)]
def X_chaffref_Node.val (x : X_chaffref_Node) : Value := .agg x.cells.toArray
def C_expr_looker_look (e3 : X_api_Expr) (deep4 : Int) (l2 : Int) (M : Mem) (K : Value → Int → Mem → Prop) : Prop := ∀ (b1 : Nat), CallL Try.prog 152 #[(.pointer (some ⟨b1, 0, none⟩)), e3.val, (.int .i64 deep4)] M [⟨b1, 215, [(.int .i64 l2)]⟩] [] (fun v lb' lr' M' => ∃ (c5 : Int), lb' = [⟨b1, 215, [(.int .i64 c5)]⟩] ∧ lr' = [] ∧ K v c5 M')
def S_expr_Name_J3 (x10 : Int) (I11 : Int → Prop) (mu12 : Int → Nat) (x18 : Bool) (K : Value → Prop) : Prop :=
 ((x18 = true → K (Value.bool false)) ∧ (¬ (x18 = true) → (InI (x10 + 1) ∧ I11 (x10 + 1) ∧ mu12 (x10 + 1) < mu12 x10)))
def S_expr_Name_J2 (s1 : List UInt8) (x10 : Int) (I11 : Int → Prop) (mu12 : Int → Nat) (letter15 : Bool) (K : Value → Prop) : Prop :=
 ((¬ (letter15 = true) → (((x10 : Int) = 0 → (S_expr_Name_J3 x10 I11 mu12 true K)) ∧ (¬ ((x10 : Int) = 0) → (∃ c16 : UInt8, (0 : Int) ≤ x10 ∧ s1[x10.toNat]? = some c16 ∧ (((c16.toNat : Int) < 48 → (S_expr_Name_J3 x10 I11 mu12 true K)) ∧ (¬ ((c16.toNat : Int) < 48) → (∃ c17 : UInt8, (0 : Int) ≤ x10 ∧ s1[x10.toNat]? = some c17 ∧ (S_expr_Name_J3 x10 I11 mu12 (decide ((c17.toNat : Int) > 57)) K)))))))) ∧ (¬ (¬ (letter15 = true)) → (S_expr_Name_J3 x10 I11 mu12 false K)))
def S_expr_Name_J1 (s1 : List UInt8) (x2 : Bool) (K : Value → Prop) : Prop :=
 ((x2 = true → K (Value.bool false)) ∧ (¬ (x2 = true) → (∃ (I11 : Int → Prop) (mu12 : Int → Nat), I11 0 ∧ ∀ (x10 : Int), (I11 x10 → ((x10 < ((s1.length : Nat) : Int) → (∃ c13 : UInt8, (0 : Int) ≤ x10 ∧ s1[x10.toNat]? = some c13 ∧ ((bOr .u8 (c13.toNat : Int) 32 ≥ 97 → (∃ c14 : UInt8, (0 : Int) ≤ x10 ∧ s1[x10.toNat]? = some c14 ∧ (S_expr_Name_J2 s1 x10 I11 mu12 (decide (bOr .u8 (c14.toNat : Int) 32 ≤ 122)) K))) ∧ (¬ (bOr .u8 (c13.toNat : Int) 32 ≥ 97) → (S_expr_Name_J2 s1 x10 I11 mu12 false K))))) ∧ (¬ (x10 < ((s1.length : Nat) : Int)) → K (Value.bool true)))))))
def S_expr_Name (s1 : List UInt8) (M : Mem) (K : Value → Prop) : Prop :=
 ((s1 = ([] : List UInt8) → (S_expr_Name_J1 s1 true K)) ∧ (¬ (s1 = ([] : List UInt8)) → (S_expr_Name_J1 s1 (decide (((s1.length : Nat) : Int) > 8)) K)))
set_option maxRecDepth 100000 in
theorem s_expr_Name (s1 : List UInt8) (M : Mem) (K : Value → Prop) (hS : S_expr_Name s1 M K) : CallE Try.prog 136 #[(Value.string (mkS s1))] M (fun v _ => K v) := by
 refine enterE Try.func136 rfl 48 rfl (Nat.le_of_ble_eq_true rfl) (fun E a hs => ?_)
 unfold S_expr_Name at hS
 have hMM := MX.refl M E
 change Sx 48 E [] M E a [(0, (.string (mkS s1)))] [] [] at hs
 refine Wp.seq (Wp.region (sP (.bool false) hs fun _ hs => ?_))
 refine wpList_nil (Wp.seq (Wp.join (fun a w => ∃ (x2 : Bool), Sx 48 E [] M w a [(0, (.string (mkS s1))), (11, (.bool x2))] [] [] ∧ (S_expr_Name_J1 s1 x2 K)) ?_ ?_))
 ·refine Wp.region (sP (.string (mkS s1)) hs fun _ hs => ?_)
  refine sP (.bool ((mkS s1).toList == (mkS ([] : List UInt8)).toList)) hs fun _ hs => ?_
  refine sP (.bool ((mkS s1).toList == (mkS ([] : List UInt8)).toList)) hs fun _ hs => ?_
  refine bsplit ((mkS s1).toList == (mkS ([] : List UInt8)).toList) mkS_beq (fun hb hc => ?_) (fun hb hc => ?_)
  ·have hs := hs.bt hb
   have hS := hS.1 hc
   refine sNo hs fun _ hs => ?_
   refine sNo hs fun _ hs => ?_
   refine sNo hs fun _ hs => ?_
   refine sP (.bool true) hs fun _ hs => ?_
   exact wpList_nil (⟨true, (hs.wk ⟨rfl, rfl, trivial⟩), hS⟩)
  ·have hs := hs.bf hb
   have hS := hS.2 hc
   refine sYe hs (sP (.string (mkS s1)) hs fun _ hs => ?_)
   refine sYe hs (sP (iv ((s1.length : Nat) : Int)) hs fun _ hs => ?_)
   refine sYe hs (sP (.bool (decide (((s1.length : Nat) : Int) > 8))) hs fun _ hs => ?_)
   refine sP (.bool (decide (((s1.length : Nat) : Int) > 8))) hs fun _ hs => ?_
   exact wpList_nil (⟨(decide (((s1.length : Nat) : Int) > 8)), (hs.wk ⟨rfl, rfl, trivial⟩), hS⟩)
 ·intro a w hJ
  obtain ⟨x2, hs, hS⟩ := hJ
  unfold S_expr_Name_J1 at hS
  refine Wp.cond hs rfl rfl Iff.rfl (fun hc => ?_) (fun hc => ?_)
  ·have hS := hS.1 hc
   refine Wp.seq (Wp.region (sP (.bool false) hs fun _ hs => ?_))
   exact wpList_nil (Wp.ret (lvE K hs (resT hs rfl rfl) hMM.2 hS))
  ·have hS := hS.2 hc
   refine Wp.skip (Wp.seq (Wp.seq (Wp.region (sP (.string (mkS s1)) hs fun _ hs => ?_))))
   refine sP (iv ((s1.length : Nat) : Int)) hs fun _ hs => ?_
   refine sP (iv 0) hs fun _ hs => ?_
   refine wpList_nil (Wp.block ?_)
   obtain ⟨I11, mu12, hI0, hst⟩ := hS
   refine Wp.loop (σ := (Int)) (fun s a w => match s with | (x10) => Sx 48 E [] M w a [(0, (.string (mkS s1))), (13, (iv ((s1.length : Nat) : Int))), (14, (iv x10))] [] [] ∧ I11 x10) (fun s => match s with | (x10) => mu12 x10) (0) ⟨(hs.wk ⟨rfl, rfl, rfl, trivial⟩), hI0⟩ (fun x10 a w hI => ?_)
   obtain ⟨hs, hI⟩ := hI
   have hS := hst x10 hI
   clear hst hI0 hI
   refine Wp.seq (Wp.region (sP (.bool (decide (x10 < ((s1.length : Nat) : Int)))) hs fun _ hs => ?_))
   refine wpList_nil (Wp.seq (Wp.cond hs rfl rfl decide_eq_true_iff (fun hc => ?_) (fun hc => ?_)))
   ·have hS := hS.1 hc
    refine Wp.skip (Wp.seq (Wp.block (Wp.seq (Wp.region (sP (iv x10) hs fun _ hs => ?_)))))
    refine sP (iv x10) hs fun _ hs => ?_
    refine wpList_nil (Wp.join (fun a w => ∃ (letter15 : Bool), Sx 48 E [] M w a [(0, (.string (mkS s1))), (3, (iv x10)), (4, (.bool letter15)), (13, (iv ((s1.length : Nat) : Int))), (14, (iv x10))] [] [] ∧ (S_expr_Name_J2 s1 x10 I11 mu12 letter15 K)) ?_ ?_)
    ·refine Wp.region (sP (.string (mkS s1)) hs fun _ hs => ?_)
     refine sP (iv x10) hs fun _ hs => ?_
     obtain ⟨c13, h0, hi, hS⟩ := hS
     refine sY (.int .u8 (c13.toNat : Int)) hs (Yl.indexStr rfl rfl rfl rfl (by kernel_rfl) h0 hi) fun _ hs => ?_
     refine sP (.int .u8 (bOr .u8 (c13.toNat : Int) 32)) hs fun _ hs => ?_
     refine sP (.bool (decide (bOr .u8 (c13.toNat : Int) 32 ≥ 97))) hs fun _ hs => ?_
     refine sP (.bool (decide (bOr .u8 (c13.toNat : Int) 32 ≥ 97))) hs fun _ hs => ?_
     refine bsplit (decide (bOr .u8 (c13.toNat : Int) 32 ≥ 97)) decide_eq_true_iff (fun hb hc => ?_) (fun hb hc => ?_)
     ·have hs := hs.bt hb
      have hS := hS.1 hc
      refine sYe hs (sP (.string (mkS s1)) hs fun _ hs => ?_)
      refine sYe hs (sP (iv x10) hs fun _ hs => ?_)
      refine sYe hs ?_
      obtain ⟨c14, h0, hi, hS⟩ := hS
      refine sY (.int .u8 (c14.toNat : Int)) hs (Yl.indexStr rfl rfl rfl rfl (by kernel_rfl) h0 hi) fun _ hs => ?_
      refine sYe hs (sP (.int .u8 (bOr .u8 (c14.toNat : Int) 32)) hs fun _ hs => ?_)
      refine sYe hs (sP (.bool (decide (bOr .u8 (c14.toNat : Int) 32 ≤ 122))) hs fun _ hs => ?_)
      refine sP (.bool (decide (bOr .u8 (c14.toNat : Int) 32 ≤ 122))) hs fun _ hs => ?_
      refine sP (.bool (decide (bOr .u8 (c14.toNat : Int) 32 ≤ 122))) hs fun _ hs => ?_
      exact wpList_nil (⟨(decide (bOr .u8 (c14.toNat : Int) 32 ≤ 122)), (hs.wk ⟨rfl, rfl, rfl, rfl, rfl, trivial⟩), hS⟩)
     ·have hs := hs.bf hb
      have hS := hS.2 hc
      refine sNo hs fun _ hs => ?_
      refine sNo hs fun _ hs => ?_
      refine sNo hs fun _ hs => ?_
      refine sNo hs fun _ hs => ?_
      refine sNo hs fun _ hs => ?_
      refine sP (.bool false) hs fun _ hs => ?_
      refine sP (.bool false) hs fun _ hs => ?_
      exact wpList_nil (⟨false, (hs.wk ⟨rfl, rfl, rfl, rfl, rfl, trivial⟩), hS⟩)
    ·intro a w hJ
     obtain ⟨letter15, hs, hS⟩ := hJ
     unfold S_expr_Name_J2 at hS
     refine Wp.join (fun a w => ∃ (x18 : Bool), Sx 48 E [] M w a [(0, (.string (mkS s1))), (13, (iv ((s1.length : Nat) : Int))), (14, (iv x10)), (46, (.bool x18))] [] [] ∧ (S_expr_Name_J3 x10 I11 mu12 x18 K)) ?_ ?_
     ·refine Wp.region (sP (.bool letter15) hs fun _ hs => ?_)
      refine sP (.bool (!letter15)) hs fun _ hs => ?_
      refine sP (.bool (!letter15)) hs fun _ hs => ?_
      refine bsplit (!letter15) (bnot_iff Iff.rfl) (fun hb hc => ?_) (fun hb hc => ?_)
      ·have hs := hs.bt hb
       have hS := hS.1 hc
       refine sYe hs (sP (iv x10) hs fun _ hs => ?_)
       refine sYe hs (sP (.bool ((x10 : Int) == (0 : Int))) hs fun _ hs => ?_)
       refine sYe hs (sP (.bool ((x10 : Int) == (0 : Int))) hs fun _ hs => ?_)
       refine bsplit ((x10 : Int) == (0 : Int)) beq_iff_eq (fun hb hc => ?_) (fun hb hc => ?_)
       ·have hs := hs.bt hb
        have hS := hS.1 hc
        refine sNo hs fun _ hs => ?_
        refine sNo hs fun _ hs => ?_
        refine sNo hs fun _ hs => ?_
        refine sNo hs fun _ hs => ?_
        refine sYe hs (sP (.bool true) hs fun _ hs => ?_)
        refine sYe hs (sP (.bool true) hs fun _ hs => ?_)
        refine sNo hs fun _ hs => ?_
        refine sNo hs fun _ hs => ?_
        refine sNo hs fun _ hs => ?_
        refine sNo hs fun _ hs => ?_
        refine sYe hs (sP (.bool true) hs fun _ hs => ?_)
        refine sP (.bool true) hs fun _ hs => ?_
        exact wpList_nil (⟨true, (hs.wk ⟨rfl, rfl, rfl, rfl, trivial⟩), hS⟩)
       ·have hs := hs.bf hb
        have hS := hS.2 hc
        refine sYe hs (sP (.string (mkS s1)) hs fun _ hs => ?_)
        refine sYe hs (sP (iv x10) hs fun _ hs => ?_)
        refine sYe hs ?_
        obtain ⟨c16, h0, hi, hS⟩ := hS
        refine sY (.int .u8 (c16.toNat : Int)) hs (Yl.indexStr rfl rfl rfl rfl (by kernel_rfl) h0 hi) fun _ hs => ?_
        refine sYe hs (sP (.bool (decide ((c16.toNat : Int) < 48))) hs fun _ hs => ?_)
        refine sYe hs (sP (.bool (decide ((c16.toNat : Int) < 48))) hs fun _ hs => ?_)
        refine sYe hs (sP (.bool (decide ((c16.toNat : Int) < 48))) hs fun _ hs => ?_)
        refine bsplit (decide ((c16.toNat : Int) < 48)) decide_eq_true_iff (fun hb hc => ?_) (fun hb hc => ?_)
        ·have hs := hs.bt hb
         have hS := hS.1 hc
         refine sNo hs fun _ hs => ?_
         refine sNo hs fun _ hs => ?_
         refine sNo hs fun _ hs => ?_
         refine sNo hs fun _ hs => ?_
         refine sYe hs (sP (.bool true) hs fun _ hs => ?_)
         refine sP (.bool true) hs fun _ hs => ?_
         exact wpList_nil (⟨true, (hs.wk ⟨rfl, rfl, rfl, rfl, trivial⟩), hS⟩)
        ·have hs := hs.bf hb
         have hS := hS.2 hc
         refine sYe hs (sP (.string (mkS s1)) hs fun _ hs => ?_)
         refine sYe hs (sP (iv x10) hs fun _ hs => ?_)
         refine sYe hs ?_
         obtain ⟨c17, h0, hi, hS⟩ := hS
         refine sY (.int .u8 (c17.toNat : Int)) hs (Yl.indexStr rfl rfl rfl rfl (by kernel_rfl) h0 hi) fun _ hs => ?_
         refine sYe hs (sP (.bool (decide ((c17.toNat : Int) > 57))) hs fun _ hs => ?_)
         refine sYe hs (sP (.bool (decide ((c17.toNat : Int) > 57))) hs fun _ hs => ?_)
         refine sP (.bool (decide ((c17.toNat : Int) > 57))) hs fun _ hs => ?_
         exact wpList_nil (⟨(decide ((c17.toNat : Int) > 57)), (hs.wk ⟨rfl, rfl, rfl, rfl, trivial⟩), hS⟩)
      ·have hs := hs.bf hb
       have hS := hS.2 hc
       refine sNo hs fun _ hs => ?_
       refine sNo hs fun _ hs => ?_
       refine sNo hs fun _ hs => ?_
       refine sNu hs fun _ hs => ?_
       refine sNu hs fun _ hs => ?_
       refine sNu hs fun _ hs => ?_
       refine sNu hs fun _ hs => ?_
       refine sNo hs fun _ hs => ?_
       refine sNo hs fun _ hs => ?_
       refine sNu hs fun _ hs => ?_
       refine sNu hs fun _ hs => ?_
       refine sNu hs fun _ hs => ?_
       refine sNu hs fun _ hs => ?_
       refine sNo hs fun _ hs => ?_
       refine sP (.bool false) hs fun _ hs => ?_
       exact wpList_nil (⟨false, (hs.wk ⟨rfl, rfl, rfl, rfl, trivial⟩), hS⟩)
     ·intro a w hJ
      obtain ⟨x18, hs, hS⟩ := hJ
      unfold S_expr_Name_J3 at hS
      refine Wp.cond hs rfl rfl Iff.rfl (fun hc => ?_) (fun hc => ?_)
      ·have hS := hS.1 hc
       refine Wp.seq (Wp.region (sP (.bool false) hs fun _ hs => ?_))
       exact wpList_nil (Wp.ret (lvE K hs (resT hs rfl rfl) hMM.2 hS))
      ·have hS := hS.2 hc
       refine Wp.skip (Wp.region ?_)
       obtain ⟨hI, hS⟩ := hS
       refine sY (iv (x10 + 1)) hs (Yl.eq (Yl.pure (v := Value.int .i64 (IntKind.wrap .i64 (x10 + 1))) rfl (fun _ => by kernel_rfl)) (congrArg (Value.int .i64) (wrap_in hI))) fun _ hs => ?_
       refine sP (iv (x10 + 1)) hs fun _ hs => ?_
       exact wpList_nil (⟨(x10 + 1), ⟨(hs.wk ⟨rfl, rfl, rfl, trivial⟩), hS.1⟩, hS.2⟩)
   ·have hS := hS.2 hc
    refine Wp.exit rfl (Wp.seq (Wp.region (sP (.bool true) hs fun _ hs => ?_)))
    exact wpList_nil (Wp.ret (lvE K hs (resT hs rfl rfl) hMM.2 hS))
def S_gram_Find (ga1 : Option Addr) (gl2 : Nat) (gc3 : Nat) (name4 : List UInt8) (M : Mem) (K : Value → Prop) : Prop :=
 (∃ (I12 : Int → Prop) (mu13 : Int → Nat), I12 0 ∧ ∀ (x11 : Int), (I12 x11 → ((x11 < ((gl2 : Nat) : Int) → (∃ (b14 o15 : Nat), ga1 = some ⟨b14, o15, none⟩ ∧ (0 : Int) ≤ x11 ∧ x11 < ((gl2 : Nat) : Int) ∧ (∃ (x16 : X_api_Rule), At M b14 (o15 + x11.toNat * 8) x16.cells ∧ ((x16.Name = name4 → K (Value.int .i64 x11)) ∧ (¬ (x16.Name = name4) → (InI (x11 + 1) ∧ I12 (x11 + 1) ∧ mu13 (x11 + 1) < mu13 x11)))))) ∧ (¬ (x11 < ((gl2 : Nat) : Int)) → K (Value.int .i64 (-1))))))
set_option maxRecDepth 100000 in
theorem s_gram_Find (ga1 : Option Addr) (gl2 : Nat) (gc3 : Nat) (name4 : List UInt8) (M : Mem) (K : Value → Prop) (hS : S_gram_Find ga1 gl2 gc3 name4 M K) : CallE Try.prog 98 #[(Value.agg #[(Value.slice ga1 gl2 gc3)]), (Value.string (mkS name4))] M (fun v _ => K v) := by
 refine enterE Try.func98 rfl 21 rfl (Nat.le_of_ble_eq_true rfl) (fun E a hs => ?_)
 unfold S_gram_Find at hS
 have hMM := MX.refl M E
 change Sx 21 E [] M E a [(0, (.agg #[(.slice ga1 gl2 gc3)])), (1, (.string (mkS name4)))] [] [] at hs
 refine Wp.seq (Wp.region (stepBox [(.slice ga1 gl2 gc3)] hs rfl rfl rfl (by decide) (fun _ _ b5 hEb5 hs => ?_)))
 refine sP (iv 0) hs fun _ hs => ?_
 refine wpList_nil (Wp.seq (Wp.seq (Wp.region (sP (pt b5 0) hs fun _ hs => ?_))))
 refine sY (.slice ga1 gl2 gc3) hs (Yl.lB [(.slice ga1 gl2 gc3)] false 0) fun _ hs => ?_
 refine sP (iv ((gl2 : Nat) : Int)) hs fun _ hs => ?_
 refine sP (iv 0) hs fun _ hs => ?_
 refine wpList_nil (Wp.block ?_)
 obtain ⟨I12, mu13, hI0, hst⟩ := hS
 refine Wp.loop (σ := (Int)) (fun s a w => match s with | (x11) => Sx 21 E [] M w a [(1, (.string (mkS name4))), (8, (.slice ga1 gl2 gc3)), (9, (iv ((gl2 : Nat) : Int))), (10, (iv x11))] [⟨b5, 24, [(.slice ga1 gl2 gc3)]⟩] [] ∧ I12 x11) (fun s => match s with | (x11) => mu13 x11) (0) ⟨(hs.wk ⟨rfl, rfl, rfl, rfl, trivial⟩), hI0⟩ (fun x11 a w hI => ?_)
 obtain ⟨hs, hI⟩ := hI
 have hS := hst x11 hI
 clear hst hI0 hI
 refine Wp.seq (Wp.region (sP (.bool (decide (x11 < ((gl2 : Nat) : Int)))) hs fun _ hs => ?_))
 refine wpList_nil (Wp.seq (Wp.cond hs rfl rfl decide_eq_true_iff (fun hc => ?_) (fun hc => ?_)))
 ·have hS := hS.1 hc
  refine Wp.skip (Wp.seq (Wp.block (Wp.seq (Wp.region (sP (iv x11) hs fun _ hs => ?_)))))
  obtain ⟨b14, o15, ha, h0, hl, hS⟩ := hS
  refine sY (.pointer (some ⟨b14, o15 + x11.toNat * 8, none⟩)) hs (Yl.indexS (e := 111) (sz := 8) rfl rfl rfl rfl (by kernel_rfl) (by kernel_rfl) ha h0 hl) fun _ hs => ?_
  obtain ⟨x16, hat, hS⟩ := hS
  refine sY x16.val hs (Yl.loadV (vs := x16.cells) true rfl rfl (by kernel_rfl) hat) fun _ hs => ?_
  refine stepAlloc [(.string (mkS [])), (iv 0), (.int .u64 0), (.int .u64 0), (.int .u64 0), (.int .u64 0), (.string (mkS [])), (.slice none 0 0)] hs (by kernel_rfl) (by decide) (fun _ _ b17 hEb17 hs => ?_)
  refine sP (iv x11) hs fun _ hs => ?_
  refine stB 0 x16.cells [⟨b17, 111, x16.cells⟩, ⟨b5, 24, [(.slice ga1 gl2 gc3)]⟩] hs fun _ _ hs => ?_
  refine wpList_nil (Wp.seq (Wp.region (sP (pt b17 0) hs fun _ hs => ?_)))
  refine sY (.string (mkS x16.Name)) hs (Yl.lB [(.string (mkS x16.Name))] false 0) fun _ hs => ?_
  refine sP (.string (mkS name4)) hs fun _ hs => ?_
  refine sP (.bool ((mkS x16.Name).toList == (mkS name4).toList)) hs fun _ hs => ?_
  refine wpList_nil (Wp.cond hs rfl rfl mkS_beq (fun hc => ?_) (fun hc => ?_))
  ·have hS := hS.1 hc
   refine Wp.seq (Wp.region (sP (iv x11) hs fun _ hs => ?_))
   refine sP (iv x11) hs fun _ hs => ?_
   exact wpList_nil (Wp.ret (lvE K hs (resT hs rfl rfl) hMM.2 hS))
  ·have hS := hS.2 hc
   refine Wp.skip (Wp.region ?_)
   obtain ⟨hI, hS⟩ := hS
   refine sY (iv (x11 + 1)) hs (Yl.eq (Yl.pure (v := Value.int .i64 (IntKind.wrap .i64 (x11 + 1))) rfl (fun _ => by kernel_rfl)) (congrArg (Value.int .i64) (wrap_in hI))) fun _ hs => ?_
   refine sP (iv (x11 + 1)) hs fun _ hs => ?_
   exact wpList_nil (⟨(x11 + 1), ⟨(hs.weak (.cons _ (.cons_cons _ List.Sublist.slnil)) (List.Sublist.refl _) ⟨rfl, rfl, rfl, rfl, trivial⟩), hS.1⟩, hS.2⟩)
 ·have hS := hS.2 hc
  refine Wp.exit rfl (Wp.seq (Wp.region (sP (iv (-1)) hs fun _ hs => ?_)))
  exact wpList_nil (Wp.ret (lvE K hs (resT hs rfl rfl) hMM.2 hS))
def S_expr_fit_J6 (e1 : X_api_Expr) (low8 : Int) (high9 : Int) (x10 : Bool) (K : Value → Prop) : Prop :=
 ((x10 = true → K (Value.bool false)) ∧ (¬ (x10 = true) → ((((e1.Kids_l : Nat) : Int) ≥ low8 → K (Value.bool (decide (((e1.Kids_l : Nat) : Int) ≤ high9)))) ∧ (¬ (((e1.Kids_l : Nat) : Int) ≥ low8) → K (Value.bool false)))))
def S_expr_fit_J5 (e1 : X_api_Expr) (low8 : Int) (high9 : Int) (K : Value → Prop) : Prop :=
 (((e1.Kind : Int) ≠ 3 → (((e1.Kind : Int) ≠ 4 → ((e1.Text ≠ ([] : List UInt8) → (S_expr_fit_J6 e1 low8 high9 true K)) ∧ (¬ (e1.Text ≠ ([] : List UInt8)) → (((e1.Kind : Int) ≠ 2 → (S_expr_fit_J6 e1 low8 high9 (!(cellsEq [e1.Set.w0, e1.Set.w1, e1.Set.w2, e1.Set.w3] [0, 0, 0, 0])) K)) ∧ (¬ ((e1.Kind : Int) ≠ 2) → (S_expr_fit_J6 e1 low8 high9 false K)))))) ∧ (¬ ((e1.Kind : Int) ≠ 4) → (((e1.Kind : Int) ≠ 2 → (S_expr_fit_J6 e1 low8 high9 (!(cellsEq [e1.Set.w0, e1.Set.w1, e1.Set.w2, e1.Set.w3] [0, 0, 0, 0])) K)) ∧ (¬ ((e1.Kind : Int) ≠ 2) → (S_expr_fit_J6 e1 low8 high9 false K)))))) ∧ (¬ ((e1.Kind : Int) ≠ 3) → (((e1.Kind : Int) ≠ 2 → (S_expr_fit_J6 e1 low8 high9 (!(cellsEq [e1.Set.w0, e1.Set.w1, e1.Set.w2, e1.Set.w3] [0, 0, 0, 0])) K)) ∧ (¬ ((e1.Kind : Int) ≠ 2) → (S_expr_fit_J6 e1 low8 high9 false K)))))
def S_expr_fit_J2 (e1 : X_api_Expr) (x4 : Bool) (K : Value → Prop) : Prop :=
 ((x4 = true → K (Value.bool false)) ∧ (¬ (x4 = true) → (S_expr_fit_J5 e1 0 0 K)))
def S_expr_fit_J4 (e1 : X_api_Expr) (x7 : Bool) (K : Value → Prop) : Prop :=
 ((x7 = true → (S_expr_fit_J5 e1 1 1 K)) ∧ (¬ (x7 = true) → K (Value.bool false)))
def S_expr_fit_J3 (e1 : X_api_Expr) (x6 : Bool) (K : Value → Prop) : Prop :=
 ((x6 = true → (S_expr_fit_J5 e1 2 8 K)) ∧ (¬ (x6 = true) → (((e1.Kind : Int) = 7 → (S_expr_fit_J4 e1 ((e1.Kind : Int) == (7 : Int)) K)) ∧ (¬ ((e1.Kind : Int) = 7) → (((e1.Kind : Int) = 8 → (S_expr_fit_J4 e1 ((e1.Kind : Int) == (8 : Int)) K)) ∧ (¬ ((e1.Kind : Int) = 8) → (((e1.Kind : Int) = 9 → (S_expr_fit_J4 e1 ((e1.Kind : Int) == (9 : Int)) K)) ∧ (¬ ((e1.Kind : Int) = 9) → (((e1.Kind : Int) = 10 → (S_expr_fit_J4 e1 ((e1.Kind : Int) == (10 : Int)) K)) ∧ (¬ ((e1.Kind : Int) = 10) → (S_expr_fit_J4 e1 ((e1.Kind : Int) == (11 : Int)) K)))))))))))
def S_expr_fit_J1 (e1 : X_api_Expr) (M : Mem) (x3 : Bool) (K : Value → Prop) : Prop :=
 ((x3 = true → (S_expr_fit_J5 e1 0 0 K)) ∧ (¬ (x3 = true) → (((e1.Kind : Int) = 3 → ((e1.Text = ([] : List UInt8) → (S_expr_fit_J2 e1 true K)) ∧ (¬ (e1.Text = ([] : List UInt8)) → (S_expr_fit_J2 e1 (decide (((e1.Text.length : Nat) : Int) > 12)) K)))) ∧ (¬ ((e1.Kind : Int) = 3) → (((e1.Kind : Int) = 4 → (CallE Try.prog 136 #[(.string (mkS e1.Text))] M (fun v _ => ∃ (x5 : Bool), v = (Value.bool x5) ∧ ((¬ (x5 = true) → K (Value.bool false)) ∧ (¬ (¬ (x5 = true)) → (S_expr_fit_J5 e1 0 0 K)))))) ∧ (¬ ((e1.Kind : Int) = 4) → (((e1.Kind : Int) = 5 → (S_expr_fit_J3 e1 ((e1.Kind : Int) == (5 : Int)) K)) ∧ (¬ ((e1.Kind : Int) = 5) → (S_expr_fit_J3 e1 ((e1.Kind : Int) == (6 : Int)) K)))))))))
def S_expr_fit (e1 : X_api_Expr) (M : Mem) (K : Value → Prop) : Prop :=
 (((e1.Kind : Int) = 1 → (S_expr_fit_J1 e1 M ((e1.Kind : Int) == (1 : Int)) K)) ∧ (¬ ((e1.Kind : Int) = 1) → (S_expr_fit_J1 e1 M ((e1.Kind : Int) == (2 : Int)) K)))
set_option maxRecDepth 100000 in
theorem s_expr_fit (e1 : X_api_Expr) (M : Mem) (K : Value → Prop) (hS : S_expr_fit e1 M K) : CallE Try.prog 169 #[e1.val] M (fun v _ => K v) := by
 refine enterE Try.func169 rfl 72 rfl (Nat.le_of_ble_eq_true rfl) (fun E a hs => ?_)
 unfold S_expr_fit at hS
 have hMM := MX.refl M E
 change Sx 72 E [] M E a [(0, e1.val)] [] [] at hs
 refine Wp.seq (Wp.region (stepBox e1.cells hs rfl rfl rfl (by decide) (fun _ _ b2 hEb2 hs => ?_)))
 refine sP (.bool false) hs fun _ hs => ?_
 refine wpList_nil (Wp.seq (Wp.region (sP (iv 0) hs fun _ hs => ?_)))
 refine sP (iv 0) hs fun _ hs => ?_
 refine wpList_nil (Wp.join (fun a w => ∃ (low8 : Int) (high9 : Int), Sx 72 E [] M w a [(1, (pt b2 0)), (3, (iv low8)), (4, (iv high9))] [⟨b2, 109, e1.cells⟩] [] ∧ (S_expr_fit_J5 e1 low8 high9 K)) ?_ ?_)
 ·refine Wp.seq (Wp.region (sP (pt b2 0) hs fun _ hs => ?_))
  refine sY (iv e1.Kind) hs (Yl.lB [(iv e1.Kind)] false 0) fun _ hs => ?_
  refine wpList_nil (Wp.block (Wp.join (fun a w => ∃ (x3 : Bool), Sx 72 E [] M w a [(1, (pt b2 0)), (3, (iv 0)), (4, (iv 0)), (6, (iv e1.Kind)), (7, (.bool x3))] [⟨b2, 109, e1.cells⟩] [] ∧ (S_expr_fit_J1 e1 M x3 K)) ?_ ?_))
  ·refine Wp.seq (Wp.region (sP (.bool ((e1.Kind : Int) == (1 : Int))) hs fun _ hs => ?_))
   refine sP (.bool ((e1.Kind : Int) == (1 : Int))) hs fun _ hs => ?_
   refine wpList_nil (Wp.cond hs rfl rfl beq_iff_eq (fun hc => ?_) (fun hc => ?_))
   ·have hS := hS.1 hc
    exact Wp.skip (⟨((e1.Kind : Int) == (1 : Int)), (hs.wk ⟨rfl, rfl, rfl, rfl, rfl, trivial⟩), hS⟩)
   ·have hS := hS.2 hc
    refine Wp.region (sP (.bool ((e1.Kind : Int) == (2 : Int))) hs fun _ hs => ?_)
    refine sP (.bool ((e1.Kind : Int) == (2 : Int))) hs fun _ hs => ?_
    exact wpList_nil (⟨((e1.Kind : Int) == (2 : Int)), (hs.wk ⟨rfl, rfl, rfl, rfl, rfl, trivial⟩), hS⟩)
  ·intro a w hJ
   obtain ⟨x3, hs, hS⟩ := hJ
   unfold S_expr_fit_J1 at hS
   refine Wp.cond hs rfl rfl Iff.rfl (fun hc => ?_) (fun hc => ?_)
   ·have hS := hS.1 hc
    exact Wp.skip (⟨0, 0, (hs.wk ⟨rfl, rfl, rfl, trivial⟩), hS⟩)
   ·have hS := hS.2 hc
    refine Wp.seq (Wp.region (sP (.bool ((e1.Kind : Int) == (3 : Int))) hs fun _ hs => ?_))
    refine sP (.bool ((e1.Kind : Int) == (3 : Int))) hs fun _ hs => ?_
    refine wpList_nil (Wp.cond hs rfl rfl beq_iff_eq (fun hc => ?_) (fun hc => ?_))
    ·have hS := hS.1 hc
     refine Wp.join (fun a w => ∃ (x4 : Bool), Sx 72 E [] M w a [(1, (pt b2 0)), (3, (iv 0)), (4, (iv 0)), (20, (.bool x4))] [⟨b2, 109, e1.cells⟩] [] ∧ (S_expr_fit_J2 e1 x4 K)) ?_ ?_
     ·refine Wp.region (sP (pt b2 5) hs fun _ hs => ?_)
      refine sY (.string (mkS e1.Text)) hs (Yl.lB [(.string (mkS e1.Text))] false 0) fun _ hs => ?_
      refine sP (.bool ((mkS e1.Text).toList == (mkS ([] : List UInt8)).toList)) hs fun _ hs => ?_
      refine sP (.bool ((mkS e1.Text).toList == (mkS ([] : List UInt8)).toList)) hs fun _ hs => ?_
      refine bsplit ((mkS e1.Text).toList == (mkS ([] : List UInt8)).toList) mkS_beq (fun hb hc => ?_) (fun hb hc => ?_)
      ·have hs := hs.bt hb
       have hS := hS.1 hc
       refine sNo hs fun _ hs => ?_
       refine sNo hs fun _ hs => ?_
       refine sNo hs fun _ hs => ?_
       refine sNo hs fun _ hs => ?_
       refine sP (.bool true) hs fun _ hs => ?_
       exact wpList_nil (⟨true, (hs.wk ⟨rfl, rfl, rfl, rfl, trivial⟩), hS⟩)
      ·have hs := hs.bf hb
       have hS := hS.2 hc
       refine sYe hs (sP (pt b2 5) hs fun _ hs => ?_)
       refine sYe hs (sY (.string (mkS e1.Text)) hs (Yl.lB [(.string (mkS e1.Text))] false 0) fun _ hs => ?_)
       refine sYe hs (sP (iv ((e1.Text.length : Nat) : Int)) hs fun _ hs => ?_)
       refine sYe hs (sP (.bool (decide (((e1.Text.length : Nat) : Int) > 12))) hs fun _ hs => ?_)
       refine sP (.bool (decide (((e1.Text.length : Nat) : Int) > 12))) hs fun _ hs => ?_
       exact wpList_nil (⟨(decide (((e1.Text.length : Nat) : Int) > 12)), (hs.wk ⟨rfl, rfl, rfl, rfl, trivial⟩), hS⟩)
     ·intro a w hJ
      obtain ⟨x4, hs, hS⟩ := hJ
      unfold S_expr_fit_J2 at hS
      refine Wp.cond hs rfl rfl Iff.rfl (fun hc => ?_) (fun hc => ?_)
      ·have hS := hS.1 hc
       refine Wp.seq (Wp.region (sP (.bool false) hs fun _ hs => ?_))
       exact wpList_nil (Wp.ret (lvE K hs (resT hs rfl rfl) hMM.2 hS))
      ·have hS := hS.2 hc
       exact Wp.skip (⟨0, 0, (hs.wk ⟨rfl, rfl, rfl, trivial⟩), hS⟩)
    ·have hS := hS.2 hc
     refine Wp.seq (Wp.region (sP (.bool ((e1.Kind : Int) == (4 : Int))) hs fun _ hs => ?_))
     refine sP (.bool ((e1.Kind : Int) == (4 : Int))) hs fun _ hs => ?_
     refine wpList_nil (Wp.cond hs rfl rfl beq_iff_eq (fun hc => ?_) (fun hc => ?_))
     ·have hS := hS.1 hc
      refine Wp.seq (Wp.region (sP (pt b2 5) hs fun _ hs => ?_))
      refine sY (.string (mkS e1.Text)) hs (Yl.lB [(.string (mkS e1.Text))] false 0) fun _ hs => ?_
      refine stepCallP [(.string (mkS e1.Text))] hs rfl ⟨_, rfl, rfl⟩ rfl Try.func136 rfl (by kernel_rfl) (by decide) hS (fun _ _ v hS hs => ?_)
      obtain ⟨x5, hv, hS⟩ := hS
      subst hv
      refine sP (.bool (!x5)) hs fun _ hs => ?_
      refine wpList_nil (Wp.cond hs rfl rfl (bnot_iff Iff.rfl) (fun hc => ?_) (fun hc => ?_))
      ·have hS := hS.1 hc
       refine Wp.seq (Wp.region (sP (.bool false) hs fun _ hs => ?_))
       exact wpList_nil (Wp.ret (lvE K hs (resT hs rfl rfl) hMM.2 hS))
      ·have hS := hS.2 hc
       exact Wp.skip (⟨0, 0, (hs.wk ⟨rfl, rfl, rfl, trivial⟩), hS⟩)
     ·have hS := hS.2 hc
      refine Wp.join (fun a w => ∃ (x6 : Bool), Sx 72 E [] M w a [(1, (pt b2 0)), (6, (iv e1.Kind)), (27, (.bool x6))] [⟨b2, 109, e1.cells⟩] [] ∧ (S_expr_fit_J3 e1 x6 K)) ?_ ?_
      ·refine Wp.seq (Wp.region (sP (.bool ((e1.Kind : Int) == (5 : Int))) hs fun _ hs => ?_))
       refine sP (.bool ((e1.Kind : Int) == (5 : Int))) hs fun _ hs => ?_
       refine wpList_nil (Wp.cond hs rfl rfl beq_iff_eq (fun hc => ?_) (fun hc => ?_))
       ·have hS := hS.1 hc
        exact Wp.skip (⟨((e1.Kind : Int) == (5 : Int)), (hs.wk ⟨rfl, rfl, rfl, trivial⟩), hS⟩)
       ·have hS := hS.2 hc
        refine Wp.region (sP (.bool ((e1.Kind : Int) == (6 : Int))) hs fun _ hs => ?_)
        refine sP (.bool ((e1.Kind : Int) == (6 : Int))) hs fun _ hs => ?_
        exact wpList_nil (⟨((e1.Kind : Int) == (6 : Int)), (hs.wk ⟨rfl, rfl, rfl, trivial⟩), hS⟩)
      ·intro a w hJ
       obtain ⟨x6, hs, hS⟩ := hJ
       unfold S_expr_fit_J3 at hS
       refine Wp.cond hs rfl rfl Iff.rfl (fun hc => ?_) (fun hc => ?_)
       ·have hS := hS.1 hc
        refine Wp.region (sP (iv 2) hs fun _ hs => ?_)
        refine sP (iv 8) hs fun _ hs => ?_
        exact wpList_nil (⟨2, 8, (hs.wk ⟨rfl, rfl, rfl, trivial⟩), hS⟩)
       ·have hS := hS.2 hc
        refine Wp.join (fun a w => ∃ (x7 : Bool), Sx 72 E [] M w a [(1, (pt b2 0)), (30, (.bool x7))] [⟨b2, 109, e1.cells⟩] [] ∧ (S_expr_fit_J4 e1 x7 K)) ?_ ?_
        ·refine Wp.seq (Wp.region (sP (.bool ((e1.Kind : Int) == (7 : Int))) hs fun _ hs => ?_))
         refine sP (.bool ((e1.Kind : Int) == (7 : Int))) hs fun _ hs => ?_
         refine wpList_nil (Wp.cond hs rfl rfl beq_iff_eq (fun hc => ?_) (fun hc => ?_))
         ·have hS := hS.1 hc
          exact Wp.skip (⟨((e1.Kind : Int) == (7 : Int)), (hs.wk ⟨rfl, rfl, trivial⟩), hS⟩)
         ·have hS := hS.2 hc
          refine Wp.seq (Wp.region (sP (.bool ((e1.Kind : Int) == (8 : Int))) hs fun _ hs => ?_))
          refine sP (.bool ((e1.Kind : Int) == (8 : Int))) hs fun _ hs => ?_
          refine wpList_nil (Wp.cond hs rfl rfl beq_iff_eq (fun hc => ?_) (fun hc => ?_))
          ·have hS := hS.1 hc
           exact Wp.skip (⟨((e1.Kind : Int) == (8 : Int)), (hs.wk ⟨rfl, rfl, trivial⟩), hS⟩)
          ·have hS := hS.2 hc
           refine Wp.seq (Wp.region (sP (.bool ((e1.Kind : Int) == (9 : Int))) hs fun _ hs => ?_))
           refine sP (.bool ((e1.Kind : Int) == (9 : Int))) hs fun _ hs => ?_
           refine wpList_nil (Wp.cond hs rfl rfl beq_iff_eq (fun hc => ?_) (fun hc => ?_))
           ·have hS := hS.1 hc
            exact Wp.skip (⟨((e1.Kind : Int) == (9 : Int)), (hs.wk ⟨rfl, rfl, trivial⟩), hS⟩)
           ·have hS := hS.2 hc
            refine Wp.seq (Wp.region (sP (.bool ((e1.Kind : Int) == (10 : Int))) hs fun _ hs => ?_))
            refine sP (.bool ((e1.Kind : Int) == (10 : Int))) hs fun _ hs => ?_
            refine wpList_nil (Wp.cond hs rfl rfl beq_iff_eq (fun hc => ?_) (fun hc => ?_))
            ·have hS := hS.1 hc
             exact Wp.skip (⟨((e1.Kind : Int) == (10 : Int)), (hs.wk ⟨rfl, rfl, trivial⟩), hS⟩)
            ·have hS := hS.2 hc
             refine Wp.region (sP (.bool ((e1.Kind : Int) == (11 : Int))) hs fun _ hs => ?_)
             refine sP (.bool ((e1.Kind : Int) == (11 : Int))) hs fun _ hs => ?_
             exact wpList_nil (⟨((e1.Kind : Int) == (11 : Int)), (hs.wk ⟨rfl, rfl, trivial⟩), hS⟩)
        ·intro a w hJ
         obtain ⟨x7, hs, hS⟩ := hJ
         unfold S_expr_fit_J4 at hS
         refine Wp.cond hs rfl rfl Iff.rfl (fun hc => ?_) (fun hc => ?_)
         ·have hS := hS.1 hc
          refine Wp.region (sP (iv 1) hs fun _ hs => ?_)
          refine sP (iv 1) hs fun _ hs => ?_
          exact wpList_nil (⟨1, 1, (hs.wk ⟨rfl, rfl, rfl, trivial⟩), hS⟩)
         ·have hS := hS.2 hc
          refine Wp.seq (Wp.region (sP (.bool false) hs fun _ hs => ?_))
          exact wpList_nil (Wp.ret (lvE K hs (resT hs rfl rfl) hMM.2 hS))
 ·intro a w hJ
  obtain ⟨low8, high9, hs, hS⟩ := hJ
  unfold S_expr_fit_J5 at hS
  refine Wp.seq (Wp.join (fun a w => ∃ (x10 : Bool), Sx 72 E [] M w a [(1, (pt b2 0)), (3, (iv low8)), (4, (iv high9)), (59, (.bool x10))] [⟨b2, 109, e1.cells⟩] [] ∧ (S_expr_fit_J6 e1 low8 high9 x10 K)) ?_ ?_)
  ·refine Wp.region (sP (pt b2 0) hs fun _ hs => ?_)
   refine sY (iv e1.Kind) hs (Yl.lB [(iv e1.Kind)] false 0) fun _ hs => ?_
   refine sP (.bool ((e1.Kind : Int) != (3 : Int))) hs fun _ hs => ?_
   refine sP (.bool ((e1.Kind : Int) != (3 : Int))) hs fun _ hs => ?_
   refine bsplit ((e1.Kind : Int) != (3 : Int)) bne_iff_ne (fun hb hc => ?_) (fun hb hc => ?_)
   ·have hs := hs.bt hb
    have hS := hS.1 hc
    refine sYe hs (sP (pt b2 0) hs fun _ hs => ?_)
    refine sYe hs (sY (iv e1.Kind) hs (Yl.lB [(iv e1.Kind)] false 0) fun _ hs => ?_)
    refine sYe hs (sP (.bool ((e1.Kind : Int) != (4 : Int))) hs fun _ hs => ?_)
    refine sP (.bool ((e1.Kind : Int) != (4 : Int))) hs fun _ hs => ?_
    refine sP (.bool ((e1.Kind : Int) != (4 : Int))) hs fun _ hs => ?_
    refine bsplit ((e1.Kind : Int) != (4 : Int)) bne_iff_ne (fun hb hc => ?_) (fun hb hc => ?_)
    ·have hs := hs.bt hb
     have hS := hS.1 hc
     refine sYe hs (sP (pt b2 5) hs fun _ hs => ?_)
     refine sYe hs (sY (.string (mkS e1.Text)) hs (Yl.lB [(.string (mkS e1.Text))] false 0) fun _ hs => ?_)
     refine sYe hs (sP (.bool (!((mkS e1.Text).toList == (mkS ([] : List UInt8)).toList))) hs fun _ hs => ?_)
     refine sP (.bool (!((mkS e1.Text).toList == (mkS ([] : List UInt8)).toList))) hs fun _ hs => ?_
     refine sP (.bool (!((mkS e1.Text).toList == (mkS ([] : List UInt8)).toList))) hs fun _ hs => ?_
     refine bsplit (!((mkS e1.Text).toList == (mkS ([] : List UInt8)).toList)) mkS_bne (fun hb hc => ?_) (fun hb hc => ?_)
     ·have hs := hs.bt hb
      have hS := hS.1 hc
      refine sNo hs fun _ hs => ?_
      refine sNo hs fun _ hs => ?_
      refine sNo hs fun _ hs => ?_
      refine sNo hs fun _ hs => ?_
      refine sNu hs fun _ hs => ?_
      refine sNu hs fun _ hs => ?_
      refine sNu hs fun _ hs => ?_
      refine sNu hs fun _ hs => ?_
      refine sNo hs fun _ hs => ?_
      refine sP (.bool true) hs fun _ hs => ?_
      exact wpList_nil (⟨true, (hs.wk ⟨rfl, rfl, rfl, rfl, trivial⟩), hS⟩)
     ·have hs := hs.bf hb
      have hS := hS.2 hc
      refine sYe hs (sP (pt b2 0) hs fun _ hs => ?_)
      refine sYe hs (sY (iv e1.Kind) hs (Yl.lB [(iv e1.Kind)] false 0) fun _ hs => ?_)
      refine sYe hs (sP (.bool ((e1.Kind : Int) != (2 : Int))) hs fun _ hs => ?_)
      refine sYe hs (sP (.bool ((e1.Kind : Int) != (2 : Int))) hs fun _ hs => ?_)
      refine bsplit ((e1.Kind : Int) != (2 : Int)) bne_iff_ne (fun hb hc => ?_) (fun hb hc => ?_)
      ·have hs := hs.bt hb
       have hS := hS.1 hc
       refine sYe hs (sP (pt b2 1) hs fun _ hs => ?_)
       refine sYe hs (sY e1.Set.val hs (Yl.lB e1.Set.cells true 0) fun _ hs => ?_)
       refine sYe hs (sP (X_api_Set.mk 0 0 0 0).val hs fun _ hs => ?_)
       refine sYe hs (sY (.bool (!(cellsEq [e1.Set.w0, e1.Set.w1, e1.Set.w2, e1.Set.w3] [0, 0, 0, 0]))) hs (Yl.neqA (n := 4) (e := 46) (k := .u64) (xs := [e1.Set.w0, e1.Set.w1, e1.Set.w2, e1.Set.w3]) (ys := [0, 0, 0, 0]) rfl (by kernel_rfl) (by kernel_rfl) (by kernel_rfl) (by kernel_rfl) rfl rfl rfl rfl rfl rfl) fun _ hs => ?_)
       refine sYe hs (sP (.bool (!(cellsEq [e1.Set.w0, e1.Set.w1, e1.Set.w2, e1.Set.w3] [0, 0, 0, 0]))) hs fun _ hs => ?_)
       refine sP (.bool (!(cellsEq [e1.Set.w0, e1.Set.w1, e1.Set.w2, e1.Set.w3] [0, 0, 0, 0]))) hs fun _ hs => ?_
       exact wpList_nil (⟨(!(cellsEq [e1.Set.w0, e1.Set.w1, e1.Set.w2, e1.Set.w3] [0, 0, 0, 0])), (hs.wk ⟨rfl, rfl, rfl, rfl, trivial⟩), hS⟩)
      ·have hs := hs.bf hb
       have hS := hS.2 hc
       refine sNo hs fun _ hs => ?_
       refine sNo hs fun _ hs => ?_
       refine sNo hs fun _ hs => ?_
       refine sNo hs fun _ hs => ?_
       refine sYe hs (sP (.bool false) hs fun _ hs => ?_)
       refine sP (.bool false) hs fun _ hs => ?_
       exact wpList_nil (⟨false, (hs.wk ⟨rfl, rfl, rfl, rfl, trivial⟩), hS⟩)
    ·have hs := hs.bf hb
     have hS := hS.2 hc
     refine sNo hs fun _ hs => ?_
     refine sNo hs fun _ hs => ?_
     refine sNo hs fun _ hs => ?_
     refine sP (.bool false) hs fun _ hs => ?_
     refine sP (.bool false) hs fun _ hs => ?_
     refine sYe hs (sP (pt b2 0) hs fun _ hs => ?_)
     refine sYe hs (sY (iv e1.Kind) hs (Yl.lB [(iv e1.Kind)] false 0) fun _ hs => ?_)
     refine sYe hs (sP (.bool ((e1.Kind : Int) != (2 : Int))) hs fun _ hs => ?_)
     refine sYe hs (sP (.bool ((e1.Kind : Int) != (2 : Int))) hs fun _ hs => ?_)
     refine bsplit ((e1.Kind : Int) != (2 : Int)) bne_iff_ne (fun hb hc => ?_) (fun hb hc => ?_)
     ·have hs := hs.bt hb
      have hS := hS.1 hc
      refine sYe hs (sP (pt b2 1) hs fun _ hs => ?_)
      refine sYe hs (sY e1.Set.val hs (Yl.lB e1.Set.cells true 0) fun _ hs => ?_)
      refine sYe hs (sP (X_api_Set.mk 0 0 0 0).val hs fun _ hs => ?_)
      refine sYe hs (sY (.bool (!(cellsEq [e1.Set.w0, e1.Set.w1, e1.Set.w2, e1.Set.w3] [0, 0, 0, 0]))) hs (Yl.neqA (n := 4) (e := 46) (k := .u64) (xs := [e1.Set.w0, e1.Set.w1, e1.Set.w2, e1.Set.w3]) (ys := [0, 0, 0, 0]) rfl (by kernel_rfl) (by kernel_rfl) (by kernel_rfl) (by kernel_rfl) rfl rfl rfl rfl rfl rfl) fun _ hs => ?_)
      refine sYe hs (sP (.bool (!(cellsEq [e1.Set.w0, e1.Set.w1, e1.Set.w2, e1.Set.w3] [0, 0, 0, 0]))) hs fun _ hs => ?_)
      refine sP (.bool (!(cellsEq [e1.Set.w0, e1.Set.w1, e1.Set.w2, e1.Set.w3] [0, 0, 0, 0]))) hs fun _ hs => ?_
      exact wpList_nil (⟨(!(cellsEq [e1.Set.w0, e1.Set.w1, e1.Set.w2, e1.Set.w3] [0, 0, 0, 0])), (hs.wk ⟨rfl, rfl, rfl, rfl, trivial⟩), hS⟩)
     ·have hs := hs.bf hb
      have hS := hS.2 hc
      refine sNo hs fun _ hs => ?_
      refine sNo hs fun _ hs => ?_
      refine sNo hs fun _ hs => ?_
      refine sNo hs fun _ hs => ?_
      refine sYe hs (sP (.bool false) hs fun _ hs => ?_)
      refine sP (.bool false) hs fun _ hs => ?_
      exact wpList_nil (⟨false, (hs.wk ⟨rfl, rfl, rfl, rfl, trivial⟩), hS⟩)
   ·have hs := hs.bf hb
    have hS := hS.2 hc
    refine sNo hs fun _ hs => ?_
    refine sNo hs fun _ hs => ?_
    refine sNo hs fun _ hs => ?_
    refine sP (.bool false) hs fun _ hs => ?_
    refine sP (.bool false) hs fun _ hs => ?_
    refine sNo hs fun _ hs => ?_
    refine sNo hs fun _ hs => ?_
    refine sNo hs fun _ hs => ?_
    refine sP (.bool false) hs fun _ hs => ?_
    refine sP (.bool false) hs fun _ hs => ?_
    refine sYe hs (sP (pt b2 0) hs fun _ hs => ?_)
    refine sYe hs (sY (iv e1.Kind) hs (Yl.lB [(iv e1.Kind)] false 0) fun _ hs => ?_)
    refine sYe hs (sP (.bool ((e1.Kind : Int) != (2 : Int))) hs fun _ hs => ?_)
    refine sYe hs (sP (.bool ((e1.Kind : Int) != (2 : Int))) hs fun _ hs => ?_)
    refine bsplit ((e1.Kind : Int) != (2 : Int)) bne_iff_ne (fun hb hc => ?_) (fun hb hc => ?_)
    ·have hs := hs.bt hb
     have hS := hS.1 hc
     refine sYe hs (sP (pt b2 1) hs fun _ hs => ?_)
     refine sYe hs (sY e1.Set.val hs (Yl.lB e1.Set.cells true 0) fun _ hs => ?_)
     refine sYe hs (sP (X_api_Set.mk 0 0 0 0).val hs fun _ hs => ?_)
     refine sYe hs (sY (.bool (!(cellsEq [e1.Set.w0, e1.Set.w1, e1.Set.w2, e1.Set.w3] [0, 0, 0, 0]))) hs (Yl.neqA (n := 4) (e := 46) (k := .u64) (xs := [e1.Set.w0, e1.Set.w1, e1.Set.w2, e1.Set.w3]) (ys := [0, 0, 0, 0]) rfl (by kernel_rfl) (by kernel_rfl) (by kernel_rfl) (by kernel_rfl) rfl rfl rfl rfl rfl rfl) fun _ hs => ?_)
     refine sYe hs (sP (.bool (!(cellsEq [e1.Set.w0, e1.Set.w1, e1.Set.w2, e1.Set.w3] [0, 0, 0, 0]))) hs fun _ hs => ?_)
     refine sP (.bool (!(cellsEq [e1.Set.w0, e1.Set.w1, e1.Set.w2, e1.Set.w3] [0, 0, 0, 0]))) hs fun _ hs => ?_
     exact wpList_nil (⟨(!(cellsEq [e1.Set.w0, e1.Set.w1, e1.Set.w2, e1.Set.w3] [0, 0, 0, 0])), (hs.wk ⟨rfl, rfl, rfl, rfl, trivial⟩), hS⟩)
    ·have hs := hs.bf hb
     have hS := hS.2 hc
     refine sNo hs fun _ hs => ?_
     refine sNo hs fun _ hs => ?_
     refine sNo hs fun _ hs => ?_
     refine sNo hs fun _ hs => ?_
     refine sYe hs (sP (.bool false) hs fun _ hs => ?_)
     refine sP (.bool false) hs fun _ hs => ?_
     exact wpList_nil (⟨false, (hs.wk ⟨rfl, rfl, rfl, rfl, trivial⟩), hS⟩)
  ·intro a w hJ
   obtain ⟨x10, hs, hS⟩ := hJ
   unfold S_expr_fit_J6 at hS
   refine Wp.cond hs rfl rfl Iff.rfl (fun hc => ?_) (fun hc => ?_)
   ·have hS := hS.1 hc
    refine Wp.seq (Wp.region (sP (.bool false) hs fun _ hs => ?_))
    exact wpList_nil (Wp.ret (lvE K hs (resT hs rfl rfl) hMM.2 hS))
   ·have hS := hS.2 hc
    refine Wp.skip (Wp.seq (Wp.region (sP (pt b2 6) hs fun _ hs => ?_)))
    refine sY (.slice e1.Kids_a e1.Kids_l e1.Kids_c) hs (Yl.lB [(.slice e1.Kids_a e1.Kids_l e1.Kids_c)] false 0) fun _ hs => ?_
    refine sP (iv ((e1.Kids_l : Nat) : Int)) hs fun _ hs => ?_
    refine sP (iv low8) hs fun _ hs => ?_
    refine sP (.bool (decide (((e1.Kids_l : Nat) : Int) ≥ low8))) hs fun _ hs => ?_
    refine sP (.bool (decide (((e1.Kids_l : Nat) : Int) ≥ low8))) hs fun _ hs => ?_
    refine bsplit (decide (((e1.Kids_l : Nat) : Int) ≥ low8)) decide_eq_true_iff (fun hb hc => ?_) (fun hb hc => ?_)
    ·have hs := hs.bt hb
     have hS := hS.1 hc
     refine sYe hs (sP (pt b2 6) hs fun _ hs => ?_)
     refine sYe hs (sY (.slice e1.Kids_a e1.Kids_l e1.Kids_c) hs (Yl.lB [(.slice e1.Kids_a e1.Kids_l e1.Kids_c)] false 0) fun _ hs => ?_)
     refine sYe hs (sP (iv ((e1.Kids_l : Nat) : Int)) hs fun _ hs => ?_)
     refine sYe hs (sP (iv high9) hs fun _ hs => ?_)
     refine sYe hs (sP (.bool (decide (((e1.Kids_l : Nat) : Int) ≤ high9))) hs fun _ hs => ?_)
     refine sP (.bool (decide (((e1.Kids_l : Nat) : Int) ≤ high9))) hs fun _ hs => ?_
     refine sP (.bool (decide (((e1.Kids_l : Nat) : Int) ≤ high9))) hs fun _ hs => ?_
     exact wpList_nil (Wp.ret (lvE K hs (resT hs rfl rfl) hMM.2 hS))
    ·have hs := hs.bf hb
     have hS := hS.2 hc
     refine sNo hs fun _ hs => ?_
     refine sNo hs fun _ hs => ?_
     refine sNo hs fun _ hs => ?_
     refine sNo hs fun _ hs => ?_
     refine sNo hs fun _ hs => ?_
     refine sP (.bool false) hs fun _ hs => ?_
     refine sP (.bool false) hs fun _ hs => ?_
     exact wpList_nil (Wp.ret (lvE K hs (resT hs rfl rfl) hMM.2 hS))
def S_expr_looker_look (e3 : X_api_Expr) (deep4 : Int) (l2 : Int) (M : Mem) (K : Value → Int → Mem → Prop) : Prop :=
 (InI (l2 + 1) ∧ ((l2 + 1 > 60 → K (Value.int .i64 2) (l2 + 1) M) ∧ (¬ (l2 + 1 > 60) → ((deep4 > 12 → K (Value.int .i64 5) (l2 + 1) M) ∧ (¬ (deep4 > 12) → (CallE Try.prog 169 #[e3.val] M (fun v _ => ∃ (x8 : Bool), v = (Value.bool x8) ∧ ((¬ (x8 = true) → K (Value.int .i64 3) (l2 + 1) M) ∧ (¬ (¬ (x8 = true)) → (∃ (I30 : Int → Int → Mem → Prop) (mu31 : Int → Int → Nat), I30 0 (l2 + 1) M ∧ ∀ (x27 : Int) (c28 : Int) (M29 : Mem), (I30 x27 c28 M29 → ((x27 < ((e3.Kids_l : Nat) : Int) → (∃ (b32 o33 : Nat), e3.Kids_a = some ⟨b32, o33, none⟩ ∧ (0 : Int) ≤ x27 ∧ x27 < ((e3.Kids_l : Nat) : Int) ∧ (∃ (x34 : X_api_Expr), At M29 b32 (o33 + x27.toNat * 7) x34.cells ∧ (InI (deep4 + 1) ∧ (C_expr_looker_look x34 (deep4 + 1) c28 M29 (fun v c38 M37 => ∃ (x36 : Int), v = (Value.int .i64 x36) ∧ (((x36 : Int) ≠ 0 → K (Value.int .i64 x36) c38 M37) ∧ (¬ ((x36 : Int) ≠ 0) → (InI (x27 + 1) ∧ I30 (x27 + 1) c38 M37 ∧ mu31 (x27 + 1) c38 < mu31 x27 c28))))))))) ∧ (¬ (x27 < ((e3.Kids_l : Nat) : Int)) → K (Value.int .i64 0) c28 M29)))))))))))))
set_option maxRecDepth 100000 in
theorem s_expr_looker_look (e3 : X_api_Expr) (deep4 : Int) (l2 : Int) (M : Mem) (K : Value → Int → Mem → Prop) (hS : S_expr_looker_look e3 deep4 l2 M K) : C_expr_looker_look e3 deep4 l2 M K := by
 intro b1
 refine enterL Try.func152 rfl 46 rfl (Nat.le_of_ble_eq_true rfl) (fun E a hs => ?_)
 unfold S_expr_looker_look at hS
 have hMM := MX.refl M E
 change Sx 46 E (blk [⟨b1, 215, [(iv l2)]⟩] []) M E a [(0, (pt b1 0)), (1, e3.val), (2, (iv deep4))] [⟨b1, 215, [(iv l2)]⟩] [] at hs
 refine Wp.seq (Wp.region (stepBox e3.cells hs rfl rfl rfl (by decide) (fun _ _ b7 hEb7 hs => ?_)))
 refine sP (iv 0) hs fun _ hs => ?_
 refine wpList_nil (Wp.seq (Wp.region (sP (pt b1 0) hs fun _ hs => ?_)))
 refine sP (pt b1 0) hs fun _ hs => ?_
 refine sP (pt b1 0) hs fun _ hs => ?_
 refine sY (iv l2) hs (Yl.lB [(iv l2)] false 1) fun _ hs => ?_
 obtain ⟨hI, hS⟩ := hS
 refine sY (iv (l2 + 1)) hs (Yl.eq (Yl.pure (v := Value.int .i64 (IntKind.wrap .i64 (l2 + 1))) rfl (fun _ => by kernel_rfl)) (congrArg (Value.int .i64) (wrap_in hI))) fun _ hs => ?_
 refine sP (pt b1 0) hs fun _ hs => ?_
 refine sP (pt b1 0) hs fun _ hs => ?_
 refine stB 1 [(iv (l2 + 1))] [⟨b7, 109, e3.cells⟩, ⟨b1, 215, [(iv (l2 + 1))]⟩] hs fun _ _ hs => ?_
 refine wpList_nil (Wp.seq (Wp.block (Wp.seq (Wp.region (sP (pt b1 0) hs fun _ hs => ?_)))))
 refine sP (pt b1 0) hs fun _ hs => ?_
 refine sP (pt b1 0) hs fun _ hs => ?_
 refine sY (iv (l2 + 1)) hs (Yl.lB [(iv (l2 + 1))] false 1) fun _ hs => ?_
 refine sP (.bool (decide (l2 + 1 > 60))) hs fun _ hs => ?_
 refine sP (.bool (decide (l2 + 1 > 60))) hs fun _ hs => ?_
 refine wpList_nil (Wp.cond hs rfl rfl decide_eq_true_iff (fun hc => ?_) (fun hc => ?_))
 ·have hS := hS.1 hc
  refine Wp.seq (Wp.region (sP (iv 2) hs fun _ hs => ?_))
  refine wpList_nil (Wp.ret ?_)
  replace hs := hs.bfront 1 rfl rfl
  exact leaveL hs (resT hs rfl rfl) hMM.1 hMM.2 [⟨b1, 215, [(iv (l2 + 1))]⟩] [] (.cons_cons _ (.cons _ List.Sublist.slnil)) (List.Sublist.refl _) rfl ⟨l2 + 1, rfl, rfl, hS⟩
 ·have hS := hS.2 hc
  refine Wp.seq (Wp.region (sP (iv deep4) hs fun _ hs => ?_))
  refine sP (.bool (decide (deep4 > 12))) hs fun _ hs => ?_
  refine sP (.bool (decide (deep4 > 12))) hs fun _ hs => ?_
  refine wpList_nil (Wp.cond hs rfl rfl decide_eq_true_iff (fun hc => ?_) (fun hc => ?_))
  ·have hS := hS.1 hc
   refine Wp.seq (Wp.region (sP (iv 5) hs fun _ hs => ?_))
   refine wpList_nil (Wp.ret ?_)
   replace hs := hs.bfront 1 rfl rfl
   exact leaveL hs (resT hs rfl rfl) hMM.1 hMM.2 [⟨b1, 215, [(iv (l2 + 1))]⟩] [] (.cons_cons _ (.cons _ List.Sublist.slnil)) (List.Sublist.refl _) rfl ⟨l2 + 1, rfl, rfl, hS⟩
  ·have hS := hS.2 hc
   refine Wp.seq (Wp.region (sY e3.val hs (Yl.lB e3.cells true 0) fun _ hs => ?_))
   refine stepCallP [e3.val] hs rfl ⟨_, rfl, rfl⟩ rfl Try.func169 rfl (by kernel_rfl) (by decide) hS (fun _ _ v hS hs => ?_)
   obtain ⟨x8, hv, hS⟩ := hS
   subst hv
   refine sP (.bool (!x8)) hs fun _ hs => ?_
   refine sP (.bool (!x8)) hs fun _ hs => ?_
   refine wpList_nil (Wp.cond hs rfl rfl (bnot_iff Iff.rfl) (fun hc => ?_) (fun hc => ?_))
   ·have hS := hS.1 hc
    refine Wp.seq (Wp.region (sP (iv 3) hs fun _ hs => ?_))
    refine wpList_nil (Wp.ret ?_)
    replace hs := hs.bfront 1 rfl rfl
    exact leaveL hs (resT hs rfl rfl) hMM.1 hMM.2 [⟨b1, 215, [(iv (l2 + 1))]⟩] [] (.cons_cons _ (.cons _ List.Sublist.slnil)) (List.Sublist.refl _) rfl ⟨l2 + 1, rfl, rfl, hS⟩
   ·have hS := hS.2 hc
    refine Wp.skip (Wp.seq (Wp.seq (Wp.region (sP (pt b7 6) hs fun _ hs => ?_))))
    refine sY (.slice e3.Kids_a e3.Kids_l e3.Kids_c) hs (Yl.lB [(.slice e3.Kids_a e3.Kids_l e3.Kids_c)] false 0) fun _ hs => ?_
    refine sP (iv ((e3.Kids_l : Nat) : Int)) hs fun _ hs => ?_
    refine sP (iv 0) hs fun _ hs => ?_
    refine wpList_nil (Wp.block ?_)
    obtain ⟨I30, mu31, hI0, hst⟩ := hS
    refine Wp.loop (σ := (Int) × (Int) × (Mem)) (fun s a w => match s with | (x27, c28, M29) => MX M29 M E ∧ Sx 46 E (blk [⟨b1, 215, [(iv l2)]⟩] []) M29 w a [(0, (pt b1 0)), (2, (iv deep4)), (31, (.slice e3.Kids_a e3.Kids_l e3.Kids_c)), (32, (iv ((e3.Kids_l : Nat) : Int))), (33, (iv x27))] [⟨b7, 109, e3.cells⟩, ⟨b1, 215, [(iv c28)]⟩] [] ∧ I30 x27 c28 M29) (fun s => match s with | (x27, c28, M29) => mu31 x27 c28) (0, l2 + 1, M) ⟨hMM, (hs.wk ⟨rfl, rfl, rfl, rfl, rfl, trivial⟩), hI0⟩ (fun s a w hI => ?_)
    obtain ⟨x27, c28, M29⟩ := s
    obtain ⟨hMM, hs, hI⟩ := hI
    have hS := hst x27 c28 M29 hI
    clear hst hI0 hI
    refine Wp.seq (Wp.region (sP (.bool (decide (x27 < ((e3.Kids_l : Nat) : Int)))) hs fun _ hs => ?_))
    refine wpList_nil (Wp.seq (Wp.cond hs rfl rfl decide_eq_true_iff (fun hc => ?_) (fun hc => ?_)))
    ·have hS := hS.1 hc
     refine Wp.skip (Wp.seq (Wp.block (Wp.seq (Wp.region ?_))))
     obtain ⟨b32, o33, ha, h0, hl, hS⟩ := hS
     refine sY (.pointer (some ⟨b32, o33 + x27.toNat * 7, none⟩)) hs (Yl.indexS (e := 109) (sz := 7) rfl rfl rfl rfl (by kernel_rfl) (by kernel_rfl) ha h0 hl) fun _ hs => ?_
     obtain ⟨x34, hat, hS⟩ := hS
     refine sY x34.val hs (Yl.loadV (vs := x34.cells) true rfl rfl (by kernel_rfl) hat) fun _ hs => ?_
     refine stepAlloc [(iv 0), (.int .u64 0), (.int .u64 0), (.int .u64 0), (.int .u64 0), (.string (mkS [])), (.slice none 0 0)] hs (by kernel_rfl) (by decide) (fun _ _ b35 hEb35 hs => ?_)
     have hs := hs.nilrow 109 7
     refine stB 0 x34.cells [⟨b35, 109, x34.cells⟩, ⟨b7, 109, e3.cells⟩, ⟨b1, 215, [(iv c28)]⟩] hs fun _ _ hs => ?_
     refine wpList_nil (Wp.seq (Wp.region (sP (pt b1 0) hs fun _ hs => ?_)))
     refine sY x34.val hs (Yl.lB x34.cells true 0) fun _ hs => ?_
     refine sP (iv deep4) hs fun _ hs => ?_
     obtain ⟨hI, hS⟩ := hS
     refine sY (iv (deep4 + 1)) hs (Yl.eq (Yl.pure (v := Value.int .i64 (IntKind.wrap .i64 (deep4 + 1))) rfl (fun _ => by kernel_rfl)) (congrArg (Value.int .i64) (wrap_in hI))) fun _ hs => ?_
     replace hs := hs.bfront 2 rfl rfl
     refine stepCallL [(pt b1 0), x34.val, (iv (deep4 + 1))] [⟨b1, 215, [(iv c28)]⟩] [⟨b35, 109, x34.cells⟩, ⟨b7, 109, e3.cells⟩] [] [⟨(Value.slice none 0 0), 109, 7, 0, [], true⟩] true hs rfl rfl rfl rfl ⟨_, rfl, rfl⟩ rfl Try.func152 rfl (by kernel_rfl) (by decide) (hS _) (fun _ _ M37 v lb lr hle hnew hS hs => ?_)
     have hMM := hMM.next hle hnew
     obtain ⟨c38, hlb, hlr, hS⟩ := hS
     subst hlb hlr
     obtain ⟨x36, hv, hS⟩ := hS
     subst hv
     replace hs := hs.chbx (bs' := [⟨b1, 215, [(iv c38)]⟩, ⟨b35, 109, x34.cells⟩, ⟨b7, 109, e3.cells⟩]) rfl
     replace hs := hs.chrs (rs' := [⟨(Value.slice none 0 0), 109, 7, 0, [], true⟩]) rfl
     replace hs := hs.bback 2 (l' := [⟨b35, 109, x34.cells⟩, ⟨b7, 109, e3.cells⟩, ⟨b1, 215, [(iv c38)]⟩]) rfl
     refine sP (iv x36) hs fun _ hs => ?_
     refine wpList_nil (Wp.seq (Wp.region (sP (iv x36) hs fun _ hs => ?_)))
     refine sP (.bool ((x36 : Int) != (0 : Int))) hs fun _ hs => ?_
     refine wpList_nil (Wp.cond hs rfl rfl bne_iff_ne (fun hc => ?_) (fun hc => ?_))
     ·have hS := hS.1 hc
      refine Wp.seq (Wp.region (sP (iv x36) hs fun _ hs => ?_))
      refine sP (iv x36) hs fun _ hs => ?_
      refine wpList_nil (Wp.ret ?_)
      replace hs := hs.bfront 2 rfl rfl
      exact leaveL hs (resT hs rfl rfl) hMM.1 hMM.2 [⟨b1, 215, [(iv c38)]⟩] [] (.cons_cons _ (.cons _ (.cons _ List.Sublist.slnil))) (.cons _ List.Sublist.slnil) rfl ⟨c38, rfl, rfl, hS⟩
     ·have hS := hS.2 hc
      refine Wp.skip (Wp.region ?_)
      obtain ⟨hI, hS⟩ := hS
      refine sY (iv (x27 + 1)) hs (Yl.eq (Yl.pure (v := Value.int .i64 (IntKind.wrap .i64 (x27 + 1))) rfl (fun _ => by kernel_rfl)) (congrArg (Value.int .i64) (wrap_in hI))) fun _ hs => ?_
      refine sP (iv (x27 + 1)) hs fun _ hs => ?_
      exact wpList_nil (⟨(x27 + 1, c38, M37), ⟨hMM, (hs.weak (.cons _ (.cons_cons _ (.cons_cons _ List.Sublist.slnil))) (.cons _ List.Sublist.slnil) ⟨rfl, rfl, rfl, rfl, rfl, trivial⟩), hS.1⟩, hS.2⟩)
    ·have hS := hS.2 hc
     refine Wp.exit rfl (Wp.seq (Wp.region (sP (iv 0) hs fun _ hs => ?_)))
     refine wpList_nil (Wp.ret ?_)
     replace hs := hs.bfront 1 rfl rfl
     exact leaveL hs (resT hs rfl rfl) hMM.1 hMM.2 [⟨b1, 215, [(iv c28)]⟩] [] (.cons_cons _ (.cons _ List.Sublist.slnil)) (List.Sublist.refl _) rfl ⟨c28, rfl, rfl, hS⟩
def S_expr_Size (e1 : X_api_Expr) (M : Mem) (K : Value → Prop) : Prop :=
 (C_expr_looker_look e1 1 0 M (fun v c6 M5 => ∃ (x4 : Int), v = (Value.int .i64 x4) ∧ (((x4 : Int) ≠ 0 → K (Value.tuple #[(.int .i64 0), (.int .i64 x4)])) ∧ (¬ ((x4 : Int) ≠ 0) → K (Value.tuple #[(.int .i64 c6), (.int .i64 0)])))))
set_option maxRecDepth 100000 in
theorem s_expr_Size (e1 : X_api_Expr) (M : Mem) (K : Value → Prop) (hS : S_expr_Size e1 M K) : CallE Try.prog 124 #[e1.val] M (fun v _ => K v) := by
 refine enterE Try.func124 rfl 13 rfl (Nat.le_of_ble_eq_true rfl) (fun E a hs => ?_)
 unfold S_expr_Size at hS
 have hMM := MX.refl M E
 change Sx 13 E [] M E a [(0, e1.val)] [] [] at hs
 refine Wp.seq (Wp.region (stepBox e1.cells hs rfl rfl rfl (by decide) (fun _ _ b2 hEb2 hs => ?_)))
 refine sP (iv 0) hs fun _ hs => ?_
 refine sP (iv 0) hs fun _ hs => ?_
 refine wpList_nil (Wp.seq (Wp.region (stepAlloc [(iv 0)] hs (by kernel_rfl) (by decide) (fun _ _ b3 hEb3 hs => ?_))))
 refine wpList_nil (Wp.seq (Wp.seq (Wp.region (sY e1.val hs (Yl.lB e1.cells true 1) fun _ hs => ?_))))
 refine stepCallL [(pt b3 0), e1.val, (iv 1)] [⟨b3, 215, [(iv 0)]⟩] [⟨b2, 109, e1.cells⟩] [] [] true hs rfl rfl rfl rfl ⟨_, rfl, rfl⟩ rfl Try.func152 rfl (by kernel_rfl) (by decide) (hS _) (fun _ _ M5 v lb lr hle hnew hS hs => ?_)
 have hMM := hMM.next hle hnew
 obtain ⟨c6, hlb, hlr, hS⟩ := hS
 subst hlb hlr
 obtain ⟨x4, hv, hS⟩ := hS
 subst hv
 replace hs := hs.chbx (bs' := [⟨b3, 215, [(iv c6)]⟩, ⟨b2, 109, e1.cells⟩]) rfl
 replace hs := hs.chrs (rs' := []) rfl
 refine sP (iv x4) hs fun _ hs => ?_
 refine wpList_nil (Wp.seq (Wp.region (sP (iv x4) hs fun _ hs => ?_)))
 refine sP (.bool ((x4 : Int) != (0 : Int))) hs fun _ hs => ?_
 refine wpList_nil (Wp.cond hs rfl rfl bne_iff_ne (fun hc => ?_) (fun hc => ?_))
 ·have hS := hS.1 hc
  refine Wp.seq (Wp.region (sP (iv x4) hs fun _ hs => ?_))
  refine sP (iv 0) hs fun _ hs => ?_
  refine sP (iv x4) hs fun _ hs => ?_
  exact wpList_nil (Wp.ret (lvE K hs (resTT hs rfl rfl rfl) hMM.2 hS))
 ·have hS := hS.2 hc
  refine Wp.skip (Wp.seq (Wp.region (sP (pt b3 0) hs fun _ hs => ?_)))
  refine sY (iv c6) hs (Yl.lB [(iv c6)] false 0) fun _ hs => ?_
  refine sP (iv c6) hs fun _ hs => ?_
  refine sP (iv 0) hs fun _ hs => ?_
  exact wpList_nil (Wp.ret (lvE K hs (resTT hs rfl rfl rfl) hMM.2 hS))
def S_expr_Check (e1 : X_api_Expr) (M : Mem) (K : Value → Prop) : Prop :=
 (C_expr_looker_look e1 1 0 M (fun v c6 M5 => ∃ (x4 : Int), v = (Value.int .i64 x4) ∧ K (Value.int .i64 x4)))
set_option maxRecDepth 100000 in
theorem s_expr_Check (e1 : X_api_Expr) (M : Mem) (K : Value → Prop) (hS : S_expr_Check e1 M K) : CallE Try.prog 156 #[e1.val] M (fun v _ => K v) := by
 refine enterE Try.func156 rfl 6 rfl (Nat.le_of_ble_eq_true rfl) (fun E a hs => ?_)
 unfold S_expr_Check at hS
 have hMM := MX.refl M E
 change Sx 6 E [] M E a [(0, e1.val)] [] [] at hs
 refine Wp.seq (Wp.region (stepBox e1.cells hs rfl rfl rfl (by decide) (fun _ _ b2 hEb2 hs => ?_)))
 refine sP (iv 0) hs fun _ hs => ?_
 refine wpList_nil (Wp.seq (Wp.region (stepAlloc [(iv 0)] hs (by kernel_rfl) (by decide) (fun _ _ b3 hEb3 hs => ?_))))
 refine wpList_nil (Wp.seq (Wp.region (sY e1.val hs (Yl.lB e1.cells true 1) fun _ hs => ?_)))
 refine stepCallL [(pt b3 0), e1.val, (iv 1)] [⟨b3, 215, [(iv 0)]⟩] [⟨b2, 109, e1.cells⟩] [] [] true hs rfl rfl rfl rfl ⟨_, rfl, rfl⟩ rfl Try.func152 rfl (by kernel_rfl) (by decide) (hS _) (fun _ _ M5 v lb lr hle hnew hS hs => ?_)
 have hMM := hMM.next hle hnew
 obtain ⟨c6, hlb, hlr, hS⟩ := hS
 subst hlb hlr
 obtain ⟨x4, hv, hS⟩ := hS
 subst hv
 replace hs := hs.chbx (bs' := [⟨b3, 215, [(iv c6)]⟩, ⟨b2, 109, e1.cells⟩]) rfl
 replace hs := hs.chrs (rs' := []) rfl
 refine sP (iv x4) hs fun _ hs => ?_
 exact wpList_nil (Wp.ret (lvE K hs (resT hs rfl rfl) hMM.2 hS))
/- not served: expr.Refs: live rangeFunc -/
def S_gram_Check (ga1 : Option Addr) (gl2 : Nat) (gc3 : Nat) (M : Mem) (K : Value → Prop) : Prop :=
 ((((gl2 : Nat) : Int) = 0 → K (Value.int .i64 1)) ∧ (¬ (((gl2 : Nat) : Int) = 0) → ((((gl2 : Nat) : Int) > 10 → K (Value.int .i64 2)) ∧ (¬ (((gl2 : Nat) : Int) > 10) → (∃ (I17 : Int → Int → Prop) (mu18 : Int → Int → Nat), I17 0 0 ∧ ∀ (all15 : Int) (x16 : Int), (I17 all15 x16 → ((x16 < ((gl2 : Nat) : Int) → (∃ (b19 o20 : Nat), ga1 = some ⟨b19, o20, none⟩ ∧ (0 : Int) ≤ x16 ∧ x16 < ((gl2 : Nat) : Int) ∧ (∃ (x21 : X_api_Rule), At M b19 (o20 + x16.toNat * 8) x21.cells ∧ (CallE Try.prog 136 #[(.string (mkS x21.Name))] M (fun v _ => ∃ (x23 : Bool), v = (Value.bool x23) ∧ ((¬ (x23 = true) → K (Value.int .i64 6)) ∧ (¬ (¬ (x23 = true)) → (CallE Try.prog 98 #[(.agg #[(.slice ga1 gl2 gc3)]), (.string (mkS x21.Name))] M (fun v _ => ∃ (x24 : Int), v = (Value.int .i64 x24) ∧ (((x24 : Int) ≠ x16 → K (Value.int .i64 7)) ∧ (¬ ((x24 : Int) ≠ x16) → (CallE Try.prog 124 #[x21.Body.val] M (fun v _ => ∃ (x25 : Int) (x26 : Int), v = (Value.tuple #[(.int .i64 x25), (.int .i64 x26)]) ∧ (((x26 : Int) ≠ 0 → K (Value.int .i64 x26)) ∧ (¬ ((x26 : Int) ≠ 0) → (InI (all15 + x25) ∧ (InI (x16 + 1) ∧ I17 (all15 + x25) (x16 + 1) ∧ mu18 (all15 + x25) (x16 + 1) < mu18 all15 x16))))))))))))))))) ∧ (¬ (x16 < ((gl2 : Nat) : Int)) → ((all15 > 120 → K (Value.int .i64 2)) ∧ (¬ (all15 > 120) → (∃ (I74 : Int → Mem → Prop) (mu75 : Int → Nat), I74 0 M ∧ ∀ (x72 : Int) (M73 : Mem), (I74 x72 M73 → ((x72 < ((gl2 : Nat) : Int) → (∃ (b76 o77 : Nat), ga1 = some ⟨b76, o77, none⟩ ∧ (0 : Int) ≤ x72 ∧ x72 < ((gl2 : Nat) : Int) ∧ (∃ (x78 : X_api_Rule), At M73 b76 (o77 + x72.toNat * 8) x78.cells ∧ (CallE Try.prog 137 #[x78.Body.val] M73 (fun v M84 => ∃ (xa80 : Option Addr) (xl81 : Nat) (xc82 : Nat) (x83 : Int), v = (Value.tuple #[(.slice xa80 xl81 xc82), (.int .i64 x83)]) ∧ (∃ (I91 : Int → Prop) (mu92 : Int → Nat), I91 0 ∧ ∀ (x90 : Int), (I91 x90 → ((x90 < ((xl81 : Nat) : Int) → (∃ (b93 o94 : Nat), xa80 = some ⟨b93, o94, none⟩ ∧ (0 : Int) ≤ x90 ∧ x90 < ((xl81 : Nat) : Int) ∧ (∃ (x95 : List UInt8), At M84 b93 (o94 + x90.toNat * 1) [(.string (mkS x95))] ∧ (CallE Try.prog 98 #[(.agg #[(.slice ga1 gl2 gc3)]), (.string (mkS x95))] M84 (fun v _ => ∃ (x96 : Int), v = (Value.int .i64 x96) ∧ ((x96 < 0 → K (Value.int .i64 6)) ∧ (¬ (x96 < 0) → (InI (x90 + 1) ∧ I91 (x90 + 1) ∧ mu92 (x90 + 1) < mu92 x90)))))))) ∧ (¬ (x90 < ((xl81 : Nat) : Int)) → (InI (x72 + 1) ∧ I74 (x72 + 1) M84 ∧ mu75 (x72 + 1) < mu75 x72)))))))))) ∧ (¬ (x72 < ((gl2 : Nat) : Int)) → K (Value.int .i64 0)))))))))))))))
set_option maxRecDepth 100000 in
theorem s_gram_Check (ga1 : Option Addr) (gl2 : Nat) (gc3 : Nat) (M : Mem) (K : Value → Prop) (hS : S_gram_Check ga1 gl2 gc3 M K) : CallE Try.prog 102 #[(Value.agg #[(Value.slice ga1 gl2 gc3)])] M (fun v _ => K v) := by
 refine enterE Try.func102 rfl 80 rfl (Nat.le_of_ble_eq_true rfl) (fun E a hs => ?_)
 unfold S_gram_Check at hS
 have hMM := MX.refl M E
 change Sx 80 E [] M E a [(0, (.agg #[(.slice ga1 gl2 gc3)]))] [] [] at hs
 refine Wp.seq (Wp.region (stepBox [(.slice ga1 gl2 gc3)] hs rfl rfl rfl (by decide) (fun _ _ b4 hEb4 hs => ?_)))
 refine sP (iv 0) hs fun _ hs => ?_
 refine wpList_nil (Wp.seq (Wp.seq (Wp.region (sP (pt b4 0) hs fun _ hs => ?_))))
 refine sY (.slice ga1 gl2 gc3) hs (Yl.lB [(.slice ga1 gl2 gc3)] false 0) fun _ hs => ?_
 refine sP (iv ((gl2 : Nat) : Int)) hs fun _ hs => ?_
 refine sP (.bool (((gl2 : Nat) : Int) == (0 : Int))) hs fun _ hs => ?_
 refine wpList_nil (Wp.cond hs rfl rfl beq_iff_eq (fun hc => ?_) (fun hc => ?_))
 ·have hS := hS.1 hc
  refine Wp.seq (Wp.region (sP (iv 1) hs fun _ hs => ?_))
  exact wpList_nil (Wp.ret (lvE K hs (resT hs rfl rfl) hMM.2 hS))
 ·have hS := hS.2 hc
  refine Wp.skip (Wp.seq (Wp.seq (Wp.region (sP (pt b4 0) hs fun _ hs => ?_))))
  refine sY (.slice ga1 gl2 gc3) hs (Yl.lB [(.slice ga1 gl2 gc3)] false 0) fun _ hs => ?_
  refine sP (iv ((gl2 : Nat) : Int)) hs fun _ hs => ?_
  refine sP (.bool (decide (((gl2 : Nat) : Int) > 10))) hs fun _ hs => ?_
  refine wpList_nil (Wp.cond hs rfl rfl decide_eq_true_iff (fun hc => ?_) (fun hc => ?_))
  ·have hS := hS.1 hc
   refine Wp.seq (Wp.region (sP (iv 2) hs fun _ hs => ?_))
   exact wpList_nil (Wp.ret (lvE K hs (resT hs rfl rfl) hMM.2 hS))
  ·have hS := hS.2 hc
   refine Wp.skip (Wp.seq (Wp.region (sP (iv 0) hs fun _ hs => ?_)))
   refine wpList_nil (Wp.seq (Wp.seq (Wp.region (sP (pt b4 0) hs fun _ hs => ?_))))
   refine sY (.slice ga1 gl2 gc3) hs (Yl.lB [(.slice ga1 gl2 gc3)] false 0) fun _ hs => ?_
   refine sP (iv ((gl2 : Nat) : Int)) hs fun _ hs => ?_
   refine sP (iv 0) hs fun _ hs => ?_
   refine wpList_nil (Wp.block ?_)
   obtain ⟨I17, mu18, hI0, hst⟩ := hS
   refine Wp.loop (σ := (Int) × (Int)) (fun s a w => match s with | (all15, x16) => Sx 80 E [] M w a [(1, (pt b4 0)), (3, (iv all15)), (23, (.slice ga1 gl2 gc3)), (24, (iv ((gl2 : Nat) : Int))), (25, (iv x16))] [⟨b4, 24, [(.slice ga1 gl2 gc3)]⟩] [] ∧ I17 all15 x16) (fun s => match s with | (all15, x16) => mu18 all15 x16) (0, 0) ⟨(hs.wk ⟨rfl, rfl, rfl, rfl, rfl, trivial⟩), hI0⟩ (fun s a w hI => ?_)
   obtain ⟨all15, x16⟩ := s
   obtain ⟨hs, hI⟩ := hI
   have hS := hst all15 x16 hI
   clear hst hI0 hI
   refine Wp.seq (Wp.region (sP (.bool (decide (x16 < ((gl2 : Nat) : Int)))) hs fun _ hs => ?_))
   refine wpList_nil (Wp.seq (Wp.cond hs rfl rfl decide_eq_true_iff (fun hc => ?_) (fun hc => ?_)))
   ·have hS := hS.1 hc
    refine Wp.skip (Wp.seq (Wp.block (Wp.seq (Wp.region (sP (iv x16) hs fun _ hs => ?_)))))
    obtain ⟨b19, o20, ha, h0, hl, hS⟩ := hS
    refine sY (.pointer (some ⟨b19, o20 + x16.toNat * 8, none⟩)) hs (Yl.indexS (e := 111) (sz := 8) rfl rfl rfl rfl (by kernel_rfl) (by kernel_rfl) ha h0 hl) fun _ hs => ?_
    obtain ⟨x21, hat, hS⟩ := hS
    refine sY x21.val hs (Yl.loadV (vs := x21.cells) true rfl rfl (by kernel_rfl) hat) fun _ hs => ?_
    refine stepAlloc [(.string (mkS [])), (iv 0), (.int .u64 0), (.int .u64 0), (.int .u64 0), (.int .u64 0), (.string (mkS [])), (.slice none 0 0)] hs (by kernel_rfl) (by decide) (fun _ _ b22 hEb22 hs => ?_)
    refine sP (iv x16) hs fun _ hs => ?_
    refine stB 0 x21.cells [⟨b22, 111, x21.cells⟩, ⟨b4, 24, [(.slice ga1 gl2 gc3)]⟩] hs fun _ _ hs => ?_
    refine wpList_nil (Wp.seq (Wp.seq (Wp.region (sP (pt b22 0) hs fun _ hs => ?_))))
    refine sY (.string (mkS x21.Name)) hs (Yl.lB [(.string (mkS x21.Name))] false 0) fun _ hs => ?_
    refine stepCallP [(.string (mkS x21.Name))] hs rfl ⟨_, rfl, rfl⟩ rfl Try.func136 rfl (by kernel_rfl) (by decide) hS (fun _ _ v hS hs => ?_)
    obtain ⟨x23, hv, hS⟩ := hS
    subst hv
    refine sP (.bool (!x23)) hs fun _ hs => ?_
    refine wpList_nil (Wp.cond hs rfl rfl (bnot_iff Iff.rfl) (fun hc => ?_) (fun hc => ?_))
    ·have hS := hS.1 hc
     refine Wp.seq (Wp.region (sP (iv 6) hs fun _ hs => ?_))
     exact wpList_nil (Wp.ret (lvE K hs (resT hs rfl rfl) hMM.2 hS))
    ·have hS := hS.2 hc
     refine Wp.skip (Wp.seq (Wp.seq (Wp.region (sY (.agg #[(.slice ga1 gl2 gc3)]) hs (Yl.lB [(.slice ga1 gl2 gc3)] true 1) fun _ hs => ?_))))
     refine sP (pt b22 0) hs fun _ hs => ?_
     refine sY (.string (mkS x21.Name)) hs (Yl.lB [(.string (mkS x21.Name))] false 0) fun _ hs => ?_
     refine stepCallP [(.agg #[(.slice ga1 gl2 gc3)]), (.string (mkS x21.Name))] hs rfl ⟨_, rfl, rfl⟩ rfl Try.func98 rfl (by kernel_rfl) (by decide) hS (fun _ _ v hS hs => ?_)
     obtain ⟨x24, hv, hS⟩ := hS
     subst hv
     refine sP (iv x16) hs fun _ hs => ?_
     refine sP (.bool ((x24 : Int) != (x16 : Int))) hs fun _ hs => ?_
     refine wpList_nil (Wp.cond hs rfl rfl bne_iff_ne (fun hc => ?_) (fun hc => ?_))
     ·have hS := hS.1 hc
      refine Wp.seq (Wp.region (sP (iv 7) hs fun _ hs => ?_))
      exact wpList_nil (Wp.ret (lvE K hs (resT hs rfl rfl) hMM.2 hS))
     ·have hS := hS.2 hc
      refine Wp.skip (Wp.seq (Wp.region (sP (pt b22 1) hs fun _ hs => ?_)))
      refine sY x21.Body.val hs (Yl.lB x21.Body.cells true 0) fun _ hs => ?_
      refine stepCallP [x21.Body.val] hs rfl ⟨_, rfl, rfl⟩ rfl Try.func124 rfl (by kernel_rfl) (by decide) hS (fun _ _ v hS hs => ?_)
      obtain ⟨x25, x26, hv, hS⟩ := hS
      subst hv
      refine sP (Value.tuple #[(iv x25), (iv x26)]) hs fun _ hs => ?_
      refine sP (iv x25) hs fun _ hs => ?_
      refine sP (iv x26) hs fun _ hs => ?_
      refine sP (iv x25) hs fun _ hs => ?_
      refine sP (iv x26) hs fun _ hs => ?_
      refine wpList_nil (Wp.seq (Wp.seq (Wp.region (sP (iv x26) hs fun _ hs => ?_))))
      refine sP (.bool ((x26 : Int) != (0 : Int))) hs fun _ hs => ?_
      refine wpList_nil (Wp.cond hs rfl rfl bne_iff_ne (fun hc => ?_) (fun hc => ?_))
      ·have hS := hS.1 hc
       refine Wp.seq (Wp.region (sP (iv x26) hs fun _ hs => ?_))
       refine sP (iv x26) hs fun _ hs => ?_
       exact wpList_nil (Wp.ret (lvE K hs (resT hs rfl rfl) hMM.2 hS))
      ·have hS := hS.2 hc
       refine Wp.skip (Wp.region (sP (iv all15) hs fun _ hs => ?_))
       refine sP (iv x25) hs fun _ hs => ?_
       obtain ⟨hI, hS⟩ := hS
       refine sY (iv (all15 + x25)) hs (Yl.eq (Yl.pure (v := Value.int .i64 (IntKind.wrap .i64 (all15 + x25))) rfl (fun _ => by kernel_rfl)) (congrArg (Value.int .i64) (wrap_in hI))) fun _ hs => ?_
       refine sP (iv (all15 + x25)) hs fun _ hs => ?_
       refine wpList_nil (Wp.region ?_)
       obtain ⟨hI, hS⟩ := hS
       refine sY (iv (x16 + 1)) hs (Yl.eq (Yl.pure (v := Value.int .i64 (IntKind.wrap .i64 (x16 + 1))) rfl (fun _ => by kernel_rfl)) (congrArg (Value.int .i64) (wrap_in hI))) fun _ hs => ?_
       refine sP (iv (x16 + 1)) hs fun _ hs => ?_
       exact wpList_nil (⟨(all15 + x25, x16 + 1), ⟨(hs.weak (.cons _ (.cons_cons _ List.Sublist.slnil)) (List.Sublist.refl _) ⟨rfl, rfl, rfl, rfl, rfl, trivial⟩), hS.1⟩, hS.2⟩)
   ·have hS := hS.2 hc
    refine Wp.exit rfl (Wp.seq (Wp.seq (Wp.region (sP (iv all15) hs fun _ hs => ?_))))
    refine sP (.bool (decide (all15 > 120))) hs fun _ hs => ?_
    refine wpList_nil (Wp.cond hs rfl rfl decide_eq_true_iff (fun hc => ?_) (fun hc => ?_))
    ·have hS := hS.1 hc
     refine Wp.seq (Wp.region (sP (iv 2) hs fun _ hs => ?_))
     exact wpList_nil (Wp.ret (lvE K hs (resT hs rfl rfl) hMM.2 hS))
    ·have hS := hS.2 hc
     refine Wp.skip (Wp.seq (Wp.seq (Wp.region (sP (pt b4 0) hs fun _ hs => ?_))))
     refine sY (.slice ga1 gl2 gc3) hs (Yl.lB [(.slice ga1 gl2 gc3)] false 0) fun _ hs => ?_
     refine sP (iv ((gl2 : Nat) : Int)) hs fun _ hs => ?_
     refine sP (iv 0) hs fun _ hs => ?_
     refine wpList_nil (Wp.block ?_)
     obtain ⟨I74, mu75, hI0, hst⟩ := hS
     refine Wp.loop (σ := (Int) × (Mem)) (fun s a w => match s with | (x72, M73) => MX M73 M E ∧ Sx 80 E [] M73 w a [(1, (pt b4 0)), (56, (.slice ga1 gl2 gc3)), (57, (iv ((gl2 : Nat) : Int))), (58, (iv x72))] [⟨b4, 24, [(.slice ga1 gl2 gc3)]⟩] [] ∧ I74 x72 M73) (fun s => match s with | (x72, M73) => mu75 x72) (0, M) ⟨hMM, (hs.wk ⟨rfl, rfl, rfl, rfl, trivial⟩), hI0⟩ (fun s a w hI => ?_)
     obtain ⟨x72, M73⟩ := s
     obtain ⟨hMM, hs, hI⟩ := hI
     have hS := hst x72 M73 hI
     clear hst hI0 hI
     refine Wp.seq (Wp.region (sP (.bool (decide (x72 < ((gl2 : Nat) : Int)))) hs fun _ hs => ?_))
     refine wpList_nil (Wp.seq (Wp.cond hs rfl rfl decide_eq_true_iff (fun hc => ?_) (fun hc => ?_)))
     ·have hS := hS.1 hc
      refine Wp.skip (Wp.seq (Wp.block (Wp.seq (Wp.region ?_))))
      obtain ⟨b76, o77, ha, h0, hl, hS⟩ := hS
      refine sY (.pointer (some ⟨b76, o77 + x72.toNat * 8, none⟩)) hs (Yl.indexS (e := 111) (sz := 8) rfl rfl rfl rfl (by kernel_rfl) (by kernel_rfl) ha h0 hl) fun _ hs => ?_
      obtain ⟨x78, hat, hS⟩ := hS
      refine sY x78.val hs (Yl.loadV (vs := x78.cells) true rfl rfl (by kernel_rfl) hat) fun _ hs => ?_
      refine stepAlloc [(.string (mkS [])), (iv 0), (.int .u64 0), (.int .u64 0), (.int .u64 0), (.int .u64 0), (.string (mkS [])), (.slice none 0 0)] hs (by kernel_rfl) (by decide) (fun _ _ b79 hEb79 hs => ?_)
      refine stB 0 x78.cells [⟨b79, 111, x78.cells⟩, ⟨b4, 24, [(.slice ga1 gl2 gc3)]⟩] hs fun _ _ hs => ?_
      refine wpList_nil (Wp.seq (Wp.region (sP (pt b79 1) hs fun _ hs => ?_)))
      refine sY x78.Body.val hs (Yl.lB x78.Body.cells true 0) fun _ hs => ?_
      refine stepCallE [x78.Body.val] hs rfl ⟨_, rfl, rfl⟩ rfl Try.func137 rfl (by kernel_rfl) (by decide) hS (fun _ _ M84 v hle hnew hS hs => ?_)
      have hMM := hMM.next hle hnew
      obtain ⟨xa80, xl81, xc82, x83, hv, hS⟩ := hS
      subst hv
      refine sP (Value.tuple #[(.slice xa80 xl81 xc82), (iv x83)]) hs fun _ hs => ?_
      refine sP (.slice xa80 xl81 xc82) hs fun _ hs => ?_
      refine sP (iv x83) hs fun _ hs => ?_
      refine sP (.slice xa80 xl81 xc82) hs fun _ hs => ?_
      refine sP (iv x83) hs fun _ hs => ?_
      refine wpList_nil (Wp.seq (Wp.region (sP (.slice xa80 xl81 xc82) hs fun _ hs => ?_)))
      refine sP (iv ((xl81 : Nat) : Int)) hs fun _ hs => ?_
      refine sP (iv 0) hs fun _ hs => ?_
      refine wpList_nil (Wp.block ?_)
      obtain ⟨I91, mu92, hI0, hst⟩ := hS
      refine Wp.loop (σ := (Int)) (fun s a w => match s with | (x90) => Sx 80 E [] M84 w a [(1, (pt b4 0)), (56, (.slice ga1 gl2 gc3)), (57, (iv ((gl2 : Nat) : Int))), (58, (iv x72)), (68, (.slice xa80 xl81 xc82)), (69, (iv ((xl81 : Nat) : Int))), (70, (iv x90))] [⟨b79, 111, x78.cells⟩, ⟨b4, 24, [(.slice ga1 gl2 gc3)]⟩] [] ∧ I91 x90) (fun s => match s with | (x90) => mu92 x90) (0) ⟨(hs.wk ⟨rfl, rfl, rfl, rfl, rfl, rfl, rfl, trivial⟩), hI0⟩ (fun x90 a w hI => ?_)
      obtain ⟨hs, hI⟩ := hI
      have hS := hst x90 hI
      clear hst hI0 hI
      refine Wp.seq (Wp.region (sP (.bool (decide (x90 < ((xl81 : Nat) : Int)))) hs fun _ hs => ?_))
      refine wpList_nil (Wp.seq (Wp.cond hs rfl rfl decide_eq_true_iff (fun hc => ?_) (fun hc => ?_)))
      ·have hS := hS.1 hc
       refine Wp.skip (Wp.seq (Wp.block (Wp.seq (Wp.region ?_))))
       obtain ⟨b93, o94, ha, h0, hl, hS⟩ := hS
       refine sY (.pointer (some ⟨b93, o94 + x90.toNat * 1, none⟩)) hs (Yl.indexS (e := 9) (sz := 1) rfl rfl rfl rfl (by kernel_rfl) (by kernel_rfl) ha h0 hl) fun _ hs => ?_
       obtain ⟨x95, hat, hS⟩ := hS
       refine sY (.string (mkS x95)) hs (Yl.loadV (vs := [(.string (mkS x95))]) false rfl rfl (by kernel_rfl) hat) fun _ hs => ?_
       refine sP (.string (mkS x95)) hs fun _ hs => ?_
       refine wpList_nil (Wp.seq (Wp.region (sY (.agg #[(.slice ga1 gl2 gc3)]) hs (Yl.lB [(.slice ga1 gl2 gc3)] true 1) fun _ hs => ?_)))
       refine sP (.string (mkS x95)) hs fun _ hs => ?_
       refine stepCallP [(.agg #[(.slice ga1 gl2 gc3)]), (.string (mkS x95))] hs rfl ⟨_, rfl, rfl⟩ rfl Try.func98 rfl (by kernel_rfl) (by decide) hS (fun _ _ v hS hs => ?_)
       obtain ⟨x96, hv, hS⟩ := hS
       subst hv
       refine sP (.bool (decide (x96 < 0))) hs fun _ hs => ?_
       refine wpList_nil (Wp.cond hs rfl rfl decide_eq_true_iff (fun hc => ?_) (fun hc => ?_))
       ·have hS := hS.1 hc
        refine Wp.seq (Wp.region (sP (iv 6) hs fun _ hs => ?_))
        exact wpList_nil (Wp.ret (lvE K hs (resT hs rfl rfl) hMM.2 hS))
       ·have hS := hS.2 hc
        refine Wp.skip (Wp.region ?_)
        obtain ⟨hI, hS⟩ := hS
        refine sY (iv (x90 + 1)) hs (Yl.eq (Yl.pure (v := Value.int .i64 (IntKind.wrap .i64 (x90 + 1))) rfl (fun _ => by kernel_rfl)) (congrArg (Value.int .i64) (wrap_in hI))) fun _ hs => ?_
        refine sP (iv (x90 + 1)) hs fun _ hs => ?_
        exact wpList_nil (⟨(x90 + 1), ⟨(hs.wk ⟨rfl, rfl, rfl, rfl, rfl, rfl, rfl, trivial⟩), hS.1⟩, hS.2⟩)
      ·have hS := hS.2 hc
       refine Wp.exit rfl (Wp.region ?_)
       obtain ⟨hI, hS⟩ := hS
       refine sY (iv (x72 + 1)) hs (Yl.eq (Yl.pure (v := Value.int .i64 (IntKind.wrap .i64 (x72 + 1))) rfl (fun _ => by kernel_rfl)) (congrArg (Value.int .i64) (wrap_in hI))) fun _ hs => ?_
       refine sP (iv (x72 + 1)) hs fun _ hs => ?_
       exact wpList_nil (⟨(x72 + 1, M84), ⟨hMM, (hs.weak (.cons _ (.cons_cons _ List.Sublist.slnil)) (List.Sublist.refl _) ⟨rfl, rfl, rfl, rfl, trivial⟩), hS.1⟩, hS.2⟩)
     ·have hS := hS.2 hc
      refine Wp.exit rfl (Wp.seq (Wp.region (sP (iv 0) hs fun _ hs => ?_)))
      exact wpList_nil (Wp.ret (lvE K hs (resT hs rfl rfl) hMM.2 hS))
def S_chaffref_letter (b1 : Int) (M : Mem) (K : Value → Prop) : Prop :=
 ((b1 ≥ 97 → ((b1 ≤ 122 → K (Value.bool true)) ∧ (¬ (b1 ≤ 122) → ((b1 ≥ 65 → K (Value.bool (decide (b1 ≤ 90)))) ∧ (¬ (b1 ≥ 65) → K (Value.bool false)))))) ∧ (¬ (b1 ≥ 97) → ((b1 ≥ 65 → K (Value.bool (decide (b1 ≤ 90)))) ∧ (¬ (b1 ≥ 65) → K (Value.bool false)))))
set_option maxRecDepth 100000 in
theorem s_chaffref_letter (b1 : Int) (M : Mem) (K : Value → Prop) (hS : S_chaffref_letter b1 M K) : CallE Try.prog 144 #[(Value.int .u8 b1)] M (fun v _ => K v) := by
 refine enterE Try.func144 rfl 17 rfl (Nat.le_of_ble_eq_true rfl) (fun E a hs => ?_)
 unfold S_chaffref_letter at hS
 have hMM := MX.refl M E
 change Sx 17 E [] M E a [(0, (.int .u8 b1))] [] [] at hs
 refine Wp.seq (Wp.region (sP (.bool false) hs fun _ hs => ?_))
 refine wpList_nil (Wp.seq (Wp.region (sP (.int .u8 b1) hs fun _ hs => ?_)))
 refine sP (.bool (decide (b1 ≥ 97))) hs fun _ hs => ?_
 refine sP (.bool (decide (b1 ≥ 97))) hs fun _ hs => ?_
 refine bsplit (decide (b1 ≥ 97)) decide_eq_true_iff (fun hb hc => ?_) (fun hb hc => ?_)
 ·have hs := hs.bt hb
  have hS := hS.1 hc
  refine sYe hs (sP (.int .u8 b1) hs fun _ hs => ?_)
  refine sYe hs (sP (.bool (decide (b1 ≤ 122))) hs fun _ hs => ?_)
  refine sP (.bool (decide (b1 ≤ 122))) hs fun _ hs => ?_
  refine sP (.bool (decide (b1 ≤ 122))) hs fun _ hs => ?_
  refine bsplit (decide (b1 ≤ 122)) decide_eq_true_iff (fun hb hc => ?_) (fun hb hc => ?_)
  ·have hs := hs.bt hb
   have hS := hS.1 hc
   refine sNo hs fun _ hs => ?_
   refine sNo hs fun _ hs => ?_
   refine sNo hs fun _ hs => ?_
   refine sNu hs fun _ hs => ?_
   refine sNu hs fun _ hs => ?_
   refine sNo hs fun _ hs => ?_
   refine sP (.bool true) hs fun _ hs => ?_
   refine sP (.bool true) hs fun _ hs => ?_
   exact wpList_nil (Wp.ret (lvE K hs (resT hs rfl rfl) hMM.2 hS))
  ·have hs := hs.bf hb
   have hS := hS.2 hc
   refine sYe hs (sP (.int .u8 b1) hs fun _ hs => ?_)
   refine sYe hs (sP (.bool (decide (b1 ≥ 65))) hs fun _ hs => ?_)
   refine sYe hs (sP (.bool (decide (b1 ≥ 65))) hs fun _ hs => ?_)
   refine bsplit (decide (b1 ≥ 65)) decide_eq_true_iff (fun hb hc => ?_) (fun hb hc => ?_)
   ·have hs := hs.bt hb
    have hS := hS.1 hc
    refine sYe hs (sP (.int .u8 b1) hs fun _ hs => ?_)
    refine sYe hs (sP (.bool (decide (b1 ≤ 90))) hs fun _ hs => ?_)
    refine sYe hs (sP (.bool (decide (b1 ≤ 90))) hs fun _ hs => ?_)
    refine sP (.bool (decide (b1 ≤ 90))) hs fun _ hs => ?_
    refine sP (.bool (decide (b1 ≤ 90))) hs fun _ hs => ?_
    exact wpList_nil (Wp.ret (lvE K hs (resT hs rfl rfl) hMM.2 hS))
   ·have hs := hs.bf hb
    have hS := hS.2 hc
    refine sNo hs fun _ hs => ?_
    refine sNo hs fun _ hs => ?_
    refine sYe hs (sP (.bool false) hs fun _ hs => ?_)
    refine sP (.bool false) hs fun _ hs => ?_
    refine sP (.bool false) hs fun _ hs => ?_
    exact wpList_nil (Wp.ret (lvE K hs (resT hs rfl rfl) hMM.2 hS))
 ·have hs := hs.bf hb
  have hS := hS.2 hc
  refine sNo hs fun _ hs => ?_
  refine sNo hs fun _ hs => ?_
  refine sP (.bool false) hs fun _ hs => ?_
  refine sP (.bool false) hs fun _ hs => ?_
  refine sYe hs (sP (.int .u8 b1) hs fun _ hs => ?_)
  refine sYe hs (sP (.bool (decide (b1 ≥ 65))) hs fun _ hs => ?_)
  refine sYe hs (sP (.bool (decide (b1 ≥ 65))) hs fun _ hs => ?_)
  refine bsplit (decide (b1 ≥ 65)) decide_eq_true_iff (fun hb hc => ?_) (fun hb hc => ?_)
  ·have hs := hs.bt hb
   have hS := hS.1 hc
   refine sYe hs (sP (.int .u8 b1) hs fun _ hs => ?_)
   refine sYe hs (sP (.bool (decide (b1 ≤ 90))) hs fun _ hs => ?_)
   refine sYe hs (sP (.bool (decide (b1 ≤ 90))) hs fun _ hs => ?_)
   refine sP (.bool (decide (b1 ≤ 90))) hs fun _ hs => ?_
   refine sP (.bool (decide (b1 ≤ 90))) hs fun _ hs => ?_
   exact wpList_nil (Wp.ret (lvE K hs (resT hs rfl rfl) hMM.2 hS))
  ·have hs := hs.bf hb
   have hS := hS.2 hc
   refine sNo hs fun _ hs => ?_
   refine sNo hs fun _ hs => ?_
   refine sYe hs (sP (.bool false) hs fun _ hs => ?_)
   refine sP (.bool false) hs fun _ hs => ?_
   refine sP (.bool false) hs fun _ hs => ?_
   exact wpList_nil (Wp.ret (lvE K hs (resT hs rfl rfl) hMM.2 hS))
def S_chaffref_digits (b1 : Int) (M : Mem) (K : Value → Prop) : Prop :=
 ((b1 ≥ 48 → K (Value.bool (decide (b1 ≤ 57)))) ∧ (¬ (b1 ≥ 48) → K (Value.bool false)))
set_option maxRecDepth 100000 in
theorem s_chaffref_digits (b1 : Int) (M : Mem) (K : Value → Prop) (hS : S_chaffref_digits b1 M K) : CallE Try.prog 145 #[(Value.int .u8 b1)] M (fun v _ => K v) := by
 refine enterE Try.func145 rfl 9 rfl (Nat.le_of_ble_eq_true rfl) (fun E a hs => ?_)
 unfold S_chaffref_digits at hS
 have hMM := MX.refl M E
 change Sx 9 E [] M E a [(0, (.int .u8 b1))] [] [] at hs
 refine Wp.seq (Wp.region (sP (.bool false) hs fun _ hs => ?_))
 refine wpList_nil (Wp.seq (Wp.region (sP (.int .u8 b1) hs fun _ hs => ?_)))
 refine sP (.bool (decide (b1 ≥ 48))) hs fun _ hs => ?_
 refine sP (.bool (decide (b1 ≥ 48))) hs fun _ hs => ?_
 refine bsplit (decide (b1 ≥ 48)) decide_eq_true_iff (fun hb hc => ?_) (fun hb hc => ?_)
 ·have hs := hs.bt hb
  have hS := hS.1 hc
  refine sYe hs (sP (.int .u8 b1) hs fun _ hs => ?_)
  refine sYe hs (sP (.bool (decide (b1 ≤ 57))) hs fun _ hs => ?_)
  refine sP (.bool (decide (b1 ≤ 57))) hs fun _ hs => ?_
  refine sP (.bool (decide (b1 ≤ 57))) hs fun _ hs => ?_
  exact wpList_nil (Wp.ret (lvE K hs (resT hs rfl rfl) hMM.2 hS))
 ·have hs := hs.bf hb
  have hS := hS.2 hc
  refine sNo hs fun _ hs => ?_
  refine sNo hs fun _ hs => ?_
  refine sP (.bool false) hs fun _ hs => ?_
  refine sP (.bool false) hs fun _ hs => ?_
  exact wpList_nil (Wp.ret (lvE K hs (resT hs rfl rfl) hMM.2 hS))
def S_chaffref_Name_J1 (x8 : Int) (I9 : Int → Prop) (mu10 : Int → Nat) (x15 : Bool) (K : Value → Prop) : Prop :=
 ((x15 = true → K (Value.bool false)) ∧ (¬ (x15 = true) → (InI (x8 + 1) ∧ I9 (x8 + 1) ∧ mu10 (x8 + 1) < mu10 x8)))
def S_chaffref_Name (s1 : List UInt8) (M : Mem) (K : Value → Prop) : Prop :=
 (∃ (I9 : Int → Prop) (mu10 : Int → Nat), I9 0 ∧ ∀ (x8 : Int), (I9 x8 → ((x8 < ((s1.length : Nat) : Int) → (∃ c11 : UInt8, (0 : Int) ≤ x8 ∧ s1[x8.toNat]? = some c11 ∧ (CallE Try.prog 144 #[(.int .u8 (c11.toNat : Int))] M (fun v _ => ∃ (x12 : Bool), v = (Value.bool x12) ∧ ((¬ (x12 = true) → (((x8 : Int) = 0 → (S_chaffref_Name_J1 x8 I9 mu10 true K)) ∧ (¬ ((x8 : Int) = 0) → (∃ c13 : UInt8, (0 : Int) ≤ x8 ∧ s1[x8.toNat]? = some c13 ∧ (CallE Try.prog 145 #[(.int .u8 (c13.toNat : Int))] M (fun v _ => ∃ (x14 : Bool), v = (Value.bool x14) ∧ (S_chaffref_Name_J1 x8 I9 mu10 (!x14) K))))))) ∧ (¬ (¬ (x12 = true)) → (S_chaffref_Name_J1 x8 I9 mu10 false K))))))) ∧ (¬ (x8 < ((s1.length : Nat) : Int)) → ((((s1.length : Nat) : Int) ≥ 1 → K (Value.bool (decide (((s1.length : Nat) : Int) ≤ 8)))) ∧ (¬ (((s1.length : Nat) : Int) ≥ 1) → K (Value.bool false)))))))
set_option maxRecDepth 100000 in
theorem s_chaffref_Name (s1 : List UInt8) (M : Mem) (K : Value → Prop) (hS : S_chaffref_Name s1 M K) : CallE Try.prog 110 #[(Value.string (mkS s1))] M (fun v _ => K v) := by
 refine enterE Try.func110 rfl 34 rfl (Nat.le_of_ble_eq_true rfl) (fun E a hs => ?_)
 unfold S_chaffref_Name at hS
 have hMM := MX.refl M E
 change Sx 34 E [] M E a [(0, (.string (mkS s1)))] [] [] at hs
 refine Wp.seq (Wp.region (sP (.bool false) hs fun _ hs => ?_))
 refine wpList_nil (Wp.seq (Wp.seq (Wp.region (sP (.string (mkS s1)) hs fun _ hs => ?_))))
 refine sP (iv ((s1.length : Nat) : Int)) hs fun _ hs => ?_
 refine sP (iv 0) hs fun _ hs => ?_
 refine wpList_nil (Wp.block ?_)
 obtain ⟨I9, mu10, hI0, hst⟩ := hS
 refine Wp.loop (σ := (Int)) (fun s a w => match s with | (x8) => Sx 34 E [] M w a [(0, (.string (mkS s1))), (5, (iv ((s1.length : Nat) : Int))), (6, (iv x8))] [] [] ∧ I9 x8) (fun s => match s with | (x8) => mu10 x8) (0) ⟨(hs.wk ⟨rfl, rfl, rfl, trivial⟩), hI0⟩ (fun x8 a w hI => ?_)
 obtain ⟨hs, hI⟩ := hI
 have hS := hst x8 hI
 clear hst hI0 hI
 refine Wp.seq (Wp.region (sP (.bool (decide (x8 < ((s1.length : Nat) : Int)))) hs fun _ hs => ?_))
 refine wpList_nil (Wp.seq (Wp.cond hs rfl rfl decide_eq_true_iff (fun hc => ?_) (fun hc => ?_)))
 ·have hS := hS.1 hc
  refine Wp.skip (Wp.seq (Wp.block (Wp.seq (Wp.region (sP (iv x8) hs fun _ hs => ?_)))))
  refine sP (iv x8) hs fun _ hs => ?_
  refine wpList_nil (Wp.join (fun a w => ∃ (x15 : Bool), Sx 34 E [] M w a [(0, (.string (mkS s1))), (5, (iv ((s1.length : Nat) : Int))), (6, (iv x8)), (24, (.bool x15))] [] [] ∧ (S_chaffref_Name_J1 x8 I9 mu10 x15 K)) ?_ ?_)
  ·refine Wp.region (sP (.string (mkS s1)) hs fun _ hs => ?_)
   refine sP (iv x8) hs fun _ hs => ?_
   obtain ⟨c11, h0, hi, hS⟩ := hS
   refine sY (.int .u8 (c11.toNat : Int)) hs (Yl.indexStr rfl rfl rfl rfl (by kernel_rfl) h0 hi) fun _ hs => ?_
   refine stepCallP [(.int .u8 (c11.toNat : Int))] hs rfl ⟨_, rfl, rfl⟩ rfl Try.func144 rfl (by kernel_rfl) (by decide) hS (fun _ _ v hS hs => ?_)
   obtain ⟨x12, hv, hS⟩ := hS
   subst hv
   refine sP (.bool (!x12)) hs fun _ hs => ?_
   refine sP (.bool (!x12)) hs fun _ hs => ?_
   refine bsplit (!x12) (bnot_iff Iff.rfl) (fun hb hc => ?_) (fun hb hc => ?_)
   ·have hs := hs.bt hb
    have hS := hS.1 hc
    refine sYe hs (sP (iv x8) hs fun _ hs => ?_)
    refine sYe hs (sP (.bool ((x8 : Int) == (0 : Int))) hs fun _ hs => ?_)
    refine sYe hs (sP (.bool ((x8 : Int) == (0 : Int))) hs fun _ hs => ?_)
    refine bsplit ((x8 : Int) == (0 : Int)) beq_iff_eq (fun hb hc => ?_) (fun hb hc => ?_)
    ·have hs := hs.bt hb
     have hS := hS.1 hc
     refine sNo hs fun _ hs => ?_
     refine sNo hs fun _ hs => ?_
     refine sNo hs fun _ hs => ?_
     refine sNo hs fun _ hs => ?_
     refine sNo hs fun _ hs => ?_
     refine sYe hs (sP (.bool true) hs fun _ hs => ?_)
     refine sP (.bool true) hs fun _ hs => ?_
     exact wpList_nil (⟨true, (hs.wk ⟨rfl, rfl, rfl, rfl, trivial⟩), hS⟩)
    ·have hs := hs.bf hb
     have hS := hS.2 hc
     refine sYe hs (sP (.string (mkS s1)) hs fun _ hs => ?_)
     refine sYe hs (sP (iv x8) hs fun _ hs => ?_)
     refine sYe hs ?_
     obtain ⟨c13, h0, hi, hS⟩ := hS
     refine sY (.int .u8 (c13.toNat : Int)) hs (Yl.indexStr rfl rfl rfl rfl (by kernel_rfl) h0 hi) fun _ hs => ?_
     refine sYe hs (stepCallP [(.int .u8 (c13.toNat : Int))] hs rfl ⟨_, rfl, rfl⟩ rfl Try.func145 rfl (by kernel_rfl) (by decide) hS (fun _ _ v hS hs => ?_))
     obtain ⟨x14, hv, hS⟩ := hS
     subst hv
     refine sYe hs (sP (.bool (!x14)) hs fun _ hs => ?_)
     refine sYe hs (sP (.bool (!x14)) hs fun _ hs => ?_)
     refine sP (.bool (!x14)) hs fun _ hs => ?_
     exact wpList_nil (⟨(!x14), (hs.wk ⟨rfl, rfl, rfl, rfl, trivial⟩), hS⟩)
   ·have hs := hs.bf hb
    have hS := hS.2 hc
    refine sNo hs fun _ hs => ?_
    refine sNo hs fun _ hs => ?_
    refine sNo hs fun _ hs => ?_
    refine sNu hs fun _ hs => ?_
    refine sNu hs fun _ hs => ?_
    refine sNu hs fun _ hs => ?_
    refine sNu hs fun _ hs => ?_
    refine sNu hs fun _ hs => ?_
    refine sNo hs fun _ hs => ?_
    refine sP (.bool false) hs fun _ hs => ?_
    exact wpList_nil (⟨false, (hs.wk ⟨rfl, rfl, rfl, rfl, trivial⟩), hS⟩)
  ·intro a w hJ
   obtain ⟨x15, hs, hS⟩ := hJ
   unfold S_chaffref_Name_J1 at hS
   refine Wp.cond hs rfl rfl Iff.rfl (fun hc => ?_) (fun hc => ?_)
   ·have hS := hS.1 hc
    refine Wp.seq (Wp.region (sP (.bool false) hs fun _ hs => ?_))
    exact wpList_nil (Wp.ret (lvE K hs (resT hs rfl rfl) hMM.2 hS))
   ·have hS := hS.2 hc
    refine Wp.skip (Wp.region ?_)
    obtain ⟨hI, hS⟩ := hS
    refine sY (iv (x8 + 1)) hs (Yl.eq (Yl.pure (v := Value.int .i64 (IntKind.wrap .i64 (x8 + 1))) rfl (fun _ => by kernel_rfl)) (congrArg (Value.int .i64) (wrap_in hI))) fun _ hs => ?_
    refine sP (iv (x8 + 1)) hs fun _ hs => ?_
    exact wpList_nil (⟨(x8 + 1), ⟨(hs.wk ⟨rfl, rfl, rfl, trivial⟩), hS.1⟩, hS.2⟩)
 ·have hS := hS.2 hc
  refine Wp.exit rfl (Wp.seq (Wp.region (sP (.string (mkS s1)) hs fun _ hs => ?_)))
  refine sP (iv ((s1.length : Nat) : Int)) hs fun _ hs => ?_
  refine sP (.bool (decide (((s1.length : Nat) : Int) ≥ 1))) hs fun _ hs => ?_
  refine sP (.bool (decide (((s1.length : Nat) : Int) ≥ 1))) hs fun _ hs => ?_
  refine bsplit (decide (((s1.length : Nat) : Int) ≥ 1)) decide_eq_true_iff (fun hb hc => ?_) (fun hb hc => ?_)
  ·have hs := hs.bt hb
   have hS := hS.1 hc
   refine sYe hs (sP (.string (mkS s1)) hs fun _ hs => ?_)
   refine sYe hs (sP (iv ((s1.length : Nat) : Int)) hs fun _ hs => ?_)
   refine sYe hs (sP (.bool (decide (((s1.length : Nat) : Int) ≤ 8))) hs fun _ hs => ?_)
   refine sP (.bool (decide (((s1.length : Nat) : Int) ≤ 8))) hs fun _ hs => ?_
   refine sP (.bool (decide (((s1.length : Nat) : Int) ≤ 8))) hs fun _ hs => ?_
   exact wpList_nil (Wp.ret (lvE K hs (resT hs rfl rfl) hMM.2 hS))
  ·have hs := hs.bf hb
   have hS := hS.2 hc
   refine sNo hs fun _ hs => ?_
   refine sNo hs fun _ hs => ?_
   refine sNo hs fun _ hs => ?_
   refine sP (.bool false) hs fun _ hs => ?_
   refine sP (.bool false) hs fun _ hs => ?_
   exact wpList_nil (Wp.ret (lvE K hs (resT hs rfl rfl) hMM.2 hS))
def S_chaffref_Find (ga1 : Option Addr) (gl2 : Nat) (gc3 : Nat) (name4 : List UInt8) (M : Mem) (K : Value → Prop) : Prop :=
 (∃ (I11 : Int → Prop) (mu12 : Int → Nat), I11 0 ∧ ∀ (x10 : Int), (I11 x10 → ((x10 < ((gl2 : Nat) : Int) → (∃ (b13 o14 : Nat), ga1 = some ⟨b13, o14, none⟩ ∧ (0 : Int) ≤ x10 ∧ x10 < ((gl2 : Nat) : Int) ∧ (∃ (x15 : List UInt8), At M b13 (o14 + x10.toNat * 8) [(.string (mkS x15))] ∧ ((x15 = name4 → K (Value.int .i64 x10)) ∧ (¬ (x15 = name4) → (InI (x10 + 1) ∧ I11 (x10 + 1) ∧ mu12 (x10 + 1) < mu12 x10)))))) ∧ (¬ (x10 < ((gl2 : Nat) : Int)) → K (Value.int .i64 (-1))))))
set_option maxRecDepth 100000 in
theorem s_chaffref_Find (ga1 : Option Addr) (gl2 : Nat) (gc3 : Nat) (name4 : List UInt8) (M : Mem) (K : Value → Prop) (hS : S_chaffref_Find ga1 gl2 gc3 name4 M K) : CallE Try.prog 100 #[(Value.agg #[(Value.slice ga1 gl2 gc3)]), (Value.string (mkS name4))] M (fun v _ => K v) := by
 refine enterE Try.func100 rfl 22 rfl (Nat.le_of_ble_eq_true rfl) (fun E a hs => ?_)
 unfold S_chaffref_Find at hS
 have hMM := MX.refl M E
 change Sx 22 E [] M E a [(0, (.agg #[(.slice ga1 gl2 gc3)])), (1, (.string (mkS name4)))] [] [] at hs
 refine Wp.seq (Wp.region (stepBox [(.slice ga1 gl2 gc3)] hs rfl rfl rfl (by decide) (fun _ _ b5 hEb5 hs => ?_)))
 refine sP (iv 0) hs fun _ hs => ?_
 refine wpList_nil (Wp.seq (Wp.seq (Wp.region (sP (pt b5 0) hs fun _ hs => ?_))))
 refine sY (.slice ga1 gl2 gc3) hs (Yl.lB [(.slice ga1 gl2 gc3)] false 0) fun _ hs => ?_
 refine sP (iv ((gl2 : Nat) : Int)) hs fun _ hs => ?_
 refine sP (iv 0) hs fun _ hs => ?_
 refine wpList_nil (Wp.block ?_)
 obtain ⟨I11, mu12, hI0, hst⟩ := hS
 refine Wp.loop (σ := (Int)) (fun s a w => match s with | (x10) => Sx 22 E [] M w a [(1, (.string (mkS name4))), (2, (pt b5 0)), (8, (iv ((gl2 : Nat) : Int))), (9, (iv x10))] [⟨b5, 24, [(.slice ga1 gl2 gc3)]⟩] [] ∧ I11 x10) (fun s => match s with | (x10) => mu12 x10) (0) ⟨(hs.wk ⟨rfl, rfl, rfl, rfl, trivial⟩), hI0⟩ (fun x10 a w hI => ?_)
 obtain ⟨hs, hI⟩ := hI
 have hS := hst x10 hI
 clear hst hI0 hI
 refine Wp.seq (Wp.region (sP (.bool (decide (x10 < ((gl2 : Nat) : Int)))) hs fun _ hs => ?_))
 refine wpList_nil (Wp.seq (Wp.cond hs rfl rfl decide_eq_true_iff (fun hc => ?_) (fun hc => ?_)))
 ·have hS := hS.1 hc
  refine Wp.skip (Wp.seq (Wp.block (Wp.seq (Wp.region (sP (iv x10) hs fun _ hs => ?_)))))
  refine sP (iv x10) hs fun _ hs => ?_
  refine wpList_nil (Wp.seq (Wp.region (sP (pt b5 0) hs fun _ hs => ?_)))
  refine sY (.slice ga1 gl2 gc3) hs (Yl.lB [(.slice ga1 gl2 gc3)] false 0) fun _ hs => ?_
  refine sP (iv x10) hs fun _ hs => ?_
  obtain ⟨b13, o14, ha, h0, hl, hS⟩ := hS
  refine sY (.pointer (some ⟨b13, o14 + x10.toNat * 8, none⟩)) hs (Yl.indexS (e := 111) (sz := 8) rfl rfl rfl rfl (by kernel_rfl) (by kernel_rfl) ha h0 hl) fun _ hs => ?_
  refine sP (.pointer (some ⟨b13, o14 + x10.toNat * 8, none⟩)) hs fun _ hs => ?_
  obtain ⟨x15, hat, hS⟩ := hS
  refine sY (.string (mkS x15)) hs (Yl.loadV (vs := [(.string (mkS x15))]) false rfl rfl (by kernel_rfl) hat) fun _ hs => ?_
  refine sP (.string (mkS name4)) hs fun _ hs => ?_
  refine sP (.bool ((mkS x15).toList == (mkS name4).toList)) hs fun _ hs => ?_
  refine wpList_nil (Wp.cond hs rfl rfl mkS_beq (fun hc => ?_) (fun hc => ?_))
  ·have hS := hS.1 hc
   refine Wp.seq (Wp.region (sP (iv x10) hs fun _ hs => ?_))
   refine sP (iv x10) hs fun _ hs => ?_
   exact wpList_nil (Wp.ret (lvE K hs (resT hs rfl rfl) hMM.2 hS))
  ·have hS := hS.2 hc
   refine Wp.skip (Wp.region ?_)
   obtain ⟨hI, hS⟩ := hS
   refine sY (iv (x10 + 1)) hs (Yl.eq (Yl.pure (v := Value.int .i64 (IntKind.wrap .i64 (x10 + 1))) rfl (fun _ => by kernel_rfl)) (congrArg (Value.int .i64) (wrap_in hI))) fun _ hs => ?_
   refine sP (iv (x10 + 1)) hs fun _ hs => ?_
   exact wpList_nil (⟨(x10 + 1), ⟨(hs.wk ⟨rfl, rfl, rfl, rfl, trivial⟩), hS.1⟩, hS.2⟩)
 ·have hS := hS.2 hc
  refine Wp.exit rfl (Wp.seq (Wp.region (sP (iv (-1)) hs fun _ hs => ?_)))
  exact wpList_nil (Wp.ret (lvE K hs (resT hs rfl rfl) hMM.2 hS))
def S_chaffref_Nodes_J3 (rn118 : Nat) (rx119 : List Value) (rn121 : Nat) (rx122 : List Value) (M123 : Mem) (I124 : Nat → List Value → Nat → List Value → Mem → Prop) (mu125 : Nat → List Value → Nat → List Value → Nat) (x131 : X_chaffref_Node) (rn174 : Nat) (rx175 : List Value) (K : Value → Mem → Prop) : Prop :=
 (∀ (M176 : Mem) (ad127 : Option Addr) (cap128 : Nat), M123.le M176 → SlV M176 ad127 rn118 cap128 8 rx119 → ((0 : Int) ≤ 1 ∧ (1 : Int) ≤ ((rn118 : Nat) : Int) ∧ (∃ (news177 : List Value), SlV M176 (slA ad127 (1 : Int).toNat cap128 8) (rn118 - (1 : Int).toNat) (cap128 - (1 : Int).toNat) 8 news177 ∧ (∀ u ∈ news177, u.oneCell' = true) ∧ (rn174 + (rn118 - (1 : Int).toNat)) * 88 ≤ 140737488355328 ∧ I124 (rn174 + (rn118 - (1 : Int).toNat)) (rx175 ++ news177) (rn121 + 1) (rx122 ++ x131.cells) M176 ∧ mu125 (rn174 + (rn118 - (1 : Int).toNat)) (rx175 ++ news177) (rn121 + 1) (rx122 ++ x131.cells) < mu125 rn118 rx119 rn121 rx122)))
def S_chaffref_Nodes_J2 (rn118 : Nat) (rx119 : List Value) (rn121 : Nat) (rx122 : List Value) (M123 : Mem) (I124 : Nat → List Value → Nat → List Value → Mem → Prop) (mu125 : Nat → List Value → Nat → List Value → Nat) (x131 : X_chaffref_Node) (x137 : Bool) (K : Value → Mem → Prop) : Prop :=
 ((x137 = true → (∃ (I163 : Int → Nat → List Value → Prop) (mu164 : Int → Nat → List Value → Nat), I163 0 0 [] ∧ ∀ (x159 : Int) (rn161 : Nat) (rx162 : List Value), (I163 x159 rn161 rx162 → ((x159 < ((x131.Expr.Kids_l : Nat) : Int) → (∃ (b165 o166 : Nat), x131.Expr.Kids_a = some ⟨b165, o166, none⟩ ∧ (0 : Int) ≤ x159 ∧ x159 < ((x131.Expr.Kids_l : Nat) : Int) ∧ (∃ (x167 : X_api_Expr), At M123 b165 (o166 + x159.toNat * 7) x167.cells ∧ (InI (x131.Deep + 1) ∧ ((rn161 + 1) * 88 ≤ 140737488355328 ∧ (InI (x159 + 1) ∧ I163 (x159 + 1) (rn161 + 1) (rx162 ++ (X_chaffref_Node.mk x167 (x131.Deep + 1)).cells) ∧ mu164 (x159 + 1) (rn161 + 1) (rx162 ++ (X_chaffref_Node.mk x167 (x131.Deep + 1)).cells) < mu164 x159 rn161 rx162)))))) ∧ (¬ (x159 < ((x131.Expr.Kids_l : Nat) : Int)) → (S_chaffref_Nodes_J3 rn118 rx119 rn121 rx122 M123 I124 mu125 x131 rn161 rx162 K)))))) ∧ (¬ (x137 = true) → (S_chaffref_Nodes_J3 rn118 rx119 rn121 rx122 M123 I124 mu125 x131 0 [] K)))
def S_chaffref_Nodes_J1 (rn118 : Nat) (rx119 : List Value) (rn121 : Nat) (rx122 : List Value) (M123 : Mem) (I124 : Nat → List Value → Nat → List Value → Mem → Prop) (mu125 : Nat → List Value → Nat → List Value → Nat) (x126 : Bool) (K : Value → Mem → Prop) : Prop :=
 ((x126 = true → ((0 : Int) ≤ 0 ∧ 0 < ((rn118 : Nat) : Int) ∧ (∃ (x131 : X_chaffref_Node), Cs rx119 (0 + (0 : Int).toNat * 8) x131.cells ∧ ((rn121 + 1) * 88 ≤ 140737488355328 ∧ ((x131.Deep ≤ 12 → (S_chaffref_Nodes_J2 rn118 rx119 rn121 rx122 M123 I124 mu125 x131 (decide (((x131.Expr.Kids_l : Nat) : Int) ≤ 8)) K)) ∧ (¬ (x131.Deep ≤ 12) → (S_chaffref_Nodes_J2 rn118 rx119 rn121 rx122 M123 I124 mu125 x131 false K))))))) ∧ (¬ (x126 = true) → (∀ (M181 : Mem) (ad179 : Option Addr) (cap180 : Nat), M123.le M181 → SlV M181 ad179 rn121 cap180 8 rx122 → (∀ M', M181.le M' → K (Value.slice ad179 rn121 cap180) M'))))
def S_chaffref_Nodes (e1 : X_api_Expr) (M : Mem) (K : Value → Mem → Prop) : Prop :=
 (∃ (I124 : Nat → List Value → Nat → List Value → Mem → Prop) (mu125 : Nat → List Value → Nat → List Value → Nat), I124 1 ((X_chaffref_Node.mk e1 1).cells) 0 [] M ∧ ∀ (rn118 : Nat) (rx119 : List Value) (rn121 : Nat) (rx122 : List Value) (M123 : Mem), (I124 rn118 rx119 rn121 rx122 M123 → ((((rn118 : Nat) : Int) > 0 → (S_chaffref_Nodes_J1 rn118 rx119 rn121 rx122 M123 I124 mu125 (decide (((rn121 : Nat) : Int) < 61)) K)) ∧ (¬ (((rn118 : Nat) : Int) > 0) → (S_chaffref_Nodes_J1 rn118 rx119 rn121 rx122 M123 I124 mu125 false K)))))
set_option maxRecDepth 100000 in
theorem s_chaffref_Nodes (e1 : X_api_Expr) (M : Mem) (K : Value → Mem → Prop) (hS : S_chaffref_Nodes e1 M K) : CallE Try.prog 60 #[e1.val] M K := by
 refine enterE Try.func60 rfl 59 rfl (Nat.le_of_ble_eq_true rfl) (fun E a hs => ?_)
 unfold S_chaffref_Nodes at hS
 have hMM := MX.refl M E
 change Sx 59 E [] M E a [(0, e1.val)] [] [] at hs
 refine Wp.seq (Wp.region (stepBox e1.cells hs rfl rfl rfl (by decide) (fun _ _ b2 hEb2 hs => ?_)))
 refine sP (.slice none 0 0) hs fun _ hs => ?_
 refine wpList_nil (Wp.seq (Wp.region (sP (.slice none 0 0) hs fun _ hs => ?_)))
 have hs := hs.nilrow 122 8
 refine wpList_nil (Wp.seq (Wp.region (sY e1.val hs (Yl.lB e1.cells true 0) fun _ hs => ?_)))
 refine sP (X_chaffref_Node.mk e1 1).val hs fun _ hs => ?_
 refine stepMake ((X_chaffref_Node.mk e1 1).cells) 122 8 1 hs rfl rfl rfl (fun _ => by kernel_rfl) rfl (by unfold maxLen; decide) (by decide) (fun _ _ rv3 hs => ?_)
 refine sP rv3 hs fun _ hs => ?_
 refine wpList_nil (Wp.seq (Wp.block ?_))
 obtain ⟨I124, mu125, hI0, hst⟩ := hS
 refine Wp.loop (σ := (Nat) × (List Value) × (Nat) × (List Value) × (Value) × (Value) × (Mem)) (fun s a w => match s with | (rn118, rx119, rn121, rx122, rv117, rv120, M123) => MX M123 M E ∧ Sx 59 E [] M123 w a [(3, rv120), (4, rv117)] [⟨b2, 109, e1.cells⟩] [⟨rv117, 122, 8, rn118, rx119, true⟩, ⟨rv120, 122, 8, rn121, rx122, true⟩] ∧ I124 rn118 rx119 rn121 rx122 M123) (fun s => match s with | (rn118, rx119, rn121, rx122, rv117, rv120, M123) => mu125 rn118 rx119 rn121 rx122) (1, (X_chaffref_Node.mk e1 1).cells, 0, [], rv3, (.slice none 0 0), M) ⟨hMM, (hs.wk ⟨rfl, rfl, trivial⟩), hI0⟩ (fun s a w hI => ?_)
 obtain ⟨rn118, rx119, rn121, rx122, rv117, rv120, M123⟩ := s
 obtain ⟨hMM, hs, hI⟩ := hI
 have hS := hst rn118 rx119 rn121 rx122 M123 hI
 clear hst hI0 hI
 refine Wp.seq (Wp.join (fun a w => ∃ (x126 : Bool), Sx 59 E [] M123 w a [(3, rv120), (4, rv117), (19, (.bool x126))] [⟨b2, 109, e1.cells⟩] [⟨rv117, 122, 8, rn118, rx119, true⟩, ⟨rv120, 122, 8, rn121, rx122, true⟩] ∧ (S_chaffref_Nodes_J1 rn118 rx119 rn121 rx122 M123 I124 mu125 x126 K)) ?_ ?_)
 ·refine Wp.region (sP rv117 hs fun _ hs => ?_)
  refine sY (iv ((rn118 : Nat) : Int)) hs (Yl.lenR (e' := 122) 0 rfl rfl rfl (by kernel_rfl)) fun _ hs => ?_
  refine sP (.bool (decide (((rn118 : Nat) : Int) > 0))) hs fun _ hs => ?_
  refine sP (.bool (decide (((rn118 : Nat) : Int) > 0))) hs fun _ hs => ?_
  refine bsplit (decide (((rn118 : Nat) : Int) > 0)) decide_eq_true_iff (fun hb hc => ?_) (fun hb hc => ?_)
  ·have hs := hs.bt hb
   have hS := hS.1 hc
   refine sYe hs (sP rv120 hs fun _ hs => ?_)
   refine sYe hs (sY (iv ((rn121 : Nat) : Int)) hs (Yl.lenR (e' := 122) 1 rfl rfl rfl (by kernel_rfl)) fun _ hs => ?_)
   refine sYe hs (sP (.bool (decide (((rn121 : Nat) : Int) < 61))) hs fun _ hs => ?_)
   refine sP (.bool (decide (((rn121 : Nat) : Int) < 61))) hs fun _ hs => ?_
   exact wpList_nil (⟨(decide (((rn121 : Nat) : Int) < 61)), (hs.wk ⟨rfl, rfl, rfl, trivial⟩), hS⟩)
  ·have hs := hs.bf hb
   have hS := hS.2 hc
   refine sNo hs fun _ hs => ?_
   refine sNo hs fun _ hs => ?_
   refine sNo hs fun _ hs => ?_
   refine sP (.bool false) hs fun _ hs => ?_
   exact wpList_nil (⟨false, (hs.wk ⟨rfl, rfl, rfl, trivial⟩), hS⟩)
 ·intro a w hJ
  obtain ⟨x126, hs, hS⟩ := hJ
  unfold S_chaffref_Nodes_J1 at hS
  refine Wp.cond hs rfl rfl Iff.rfl (fun hc => ?_) (fun hc => ?_)
  ·have hS := hS.1 hc
   refine Wp.skip (Wp.block (Wp.seq (Wp.region (sP rv117 hs fun _ hs => ?_))))
   obtain ⟨ad127, cap128, hv, hcp, hxl⟩ := hs.rowform 0 rfl
   dsimp only at hv hcp hxl
   subst hv
   obtain ⟨h0, hl, hS⟩ := hS
   have hix129 : (0 : Int).toNat < rn118 := by omega
   obtain ⟨g130, hg130⟩ := hs.rowblk 0 rfl (by omega)
   refine sY (.pointer (some ⟨g130, 0 + (0 : Int).toNat * 8, none⟩)) hs (Yl.indexS (e := 122) (sz := 8) rfl rfl rfl rfl (by kernel_rfl) (by kernel_rfl) hg130 h0 hl) fun _ hs => ?_
   obtain ⟨x131, hcs, hS⟩ := hS
   refine sY x131.val hs (Yl.loadR (vs := x131.cells) 0 true rfl hg130 rfl rfl (by kernel_rfl) hcs) fun _ hs => ?_
   refine stepAlloc [(iv 0), (.int .u64 0), (.int .u64 0), (.int .u64 0), (.int .u64 0), (.string (mkS [])), (.slice none 0 0), (iv 0)] hs (by kernel_rfl) (by decide) (fun _ _ b132 hEb132 hs => ?_)
   refine stB 0 x131.cells [⟨b132, 122, x131.cells⟩, ⟨b2, 109, e1.cells⟩] hs fun _ _ hs => ?_
   refine wpList_nil (Wp.seq (Wp.region (sP rv120 hs fun _ hs => ?_)))
   refine sY x131.val hs (Yl.lB x131.cells true 0) fun _ hs => ?_
   refine stepMake x131.cells 122 8 1 hs rfl rfl rfl (fun _ => by kernel_rfl) rfl (by unfold maxLen; decide) (by decide) (fun _ _ rv133 hs => ?_)
   obtain ⟨ad134, cap135, hv, hcp, hxl⟩ := hs.rowform 0 rfl
   dsimp only at hv hcp hxl
   subst hv
   obtain ⟨hB, hS⟩ := hS
   refine stepAppend 2 x131.cells hs rfl rfl rfl rfl rfl (by kernel_rfl) (by kernel_rfl) (by decide) (by decide) (hs.srcRow 0 rfl rfl) (lenb hB (by decide)) hB (fun _ _ rv136 hs => ?_)
   replace hs := hs.chrs (rs' := [⟨(Value.slice ad134 1 cap135), 122, 8, 1, x131.cells, true⟩, ⟨(Value.slice ad127 rn118 cap128), 122, 8, rn118, rx119, true⟩, ⟨rv136, 122, 8, (rn121 + 1), (rx122 ++ x131.cells), true⟩]) rfl
   refine sP rv136 hs fun _ hs => ?_
   refine wpList_nil (Wp.seq (Wp.region (sP (.slice none 0 0) hs fun _ hs => ?_)))
   have hs := hs.nilrow 122 8
   refine wpList_nil (Wp.join (fun a w => ∃ (rn174 : Nat) (rx175 : List Value) (rv173 : Value), Sx 59 E [] M123 w a [(3, rv136), (4, (.slice ad127 rn118 cap128)), (6, rv173)] [⟨b132, 122, x131.cells⟩, ⟨b2, 109, e1.cells⟩] [⟨rv173, 122, 8, rn174, rx175, true⟩, ⟨(Value.slice ad127 rn118 cap128), 122, 8, rn118, rx119, true⟩, ⟨rv136, 122, 8, (rn121 + 1), (rx122 ++ x131.cells), true⟩] ∧ (S_chaffref_Nodes_J3 rn118 rx119 rn121 rx122 M123 I124 mu125 x131 rn174 rx175 K)) ?_ ?_)
   ·refine Wp.join (fun a w => ∃ (x137 : Bool), Sx 59 E [] M123 w a [(3, rv136), (4, (.slice ad127 rn118 cap128)), (5, (pt b132 0)), (6, (.slice none 0 0)), (36, (.bool x137))] [⟨b132, 122, x131.cells⟩, ⟨b2, 109, e1.cells⟩] [⟨(Value.slice none 0 0), 122, 8, 0, [], true⟩, ⟨(Value.slice ad127 rn118 cap128), 122, 8, rn118, rx119, true⟩, ⟨rv136, 122, 8, (rn121 + 1), (rx122 ++ x131.cells), true⟩] ∧ (S_chaffref_Nodes_J2 rn118 rx119 rn121 rx122 M123 I124 mu125 x131 x137 K)) ?_ ?_
    ·refine Wp.region (sP (pt b132 7) hs fun _ hs => ?_)
     refine sY (iv x131.Deep) hs (Yl.lB [(iv x131.Deep)] false 0) fun _ hs => ?_
     refine sP (.bool (decide (x131.Deep ≤ 12))) hs fun _ hs => ?_
     refine sP (.bool (decide (x131.Deep ≤ 12))) hs fun _ hs => ?_
     refine bsplit (decide (x131.Deep ≤ 12)) decide_eq_true_iff (fun hb hc => ?_) (fun hb hc => ?_)
     ·have hs := hs.bt hb
      have hS := hS.1 hc
      refine sYe hs (sP (pt b132 0) hs fun _ hs => ?_)
      refine sYe hs (sP (pt b132 6) hs fun _ hs => ?_)
      refine sYe hs (sY (.slice x131.Expr.Kids_a x131.Expr.Kids_l x131.Expr.Kids_c) hs (Yl.lB [(.slice x131.Expr.Kids_a x131.Expr.Kids_l x131.Expr.Kids_c)] false 0) fun _ hs => ?_)
      refine sYe hs (sP (iv ((x131.Expr.Kids_l : Nat) : Int)) hs fun _ hs => ?_)
      refine sYe hs (sP (.bool (decide (((x131.Expr.Kids_l : Nat) : Int) ≤ 8))) hs fun _ hs => ?_)
      refine sP (.bool (decide (((x131.Expr.Kids_l : Nat) : Int) ≤ 8))) hs fun _ hs => ?_
      exact wpList_nil (⟨(decide (((x131.Expr.Kids_l : Nat) : Int) ≤ 8)), (hs.weak (List.Sublist.refl _) (.cons_cons _ (.cons _ (.cons_cons _ (.cons_cons _ List.Sublist.slnil)))) ⟨rfl, rfl, rfl, rfl, rfl, trivial⟩), hS⟩)
     ·have hs := hs.bf hb
      have hS := hS.2 hc
      refine sNo hs fun _ hs => ?_
      refine sNo hs fun _ hs => ?_
      refine sNo hs fun _ hs => ?_
      refine sNo hs fun _ hs => ?_
      refine sNo hs fun _ hs => ?_
      refine sP (.bool false) hs fun _ hs => ?_
      exact wpList_nil (⟨false, (hs.weak (List.Sublist.refl _) (.cons_cons _ (.cons _ (.cons_cons _ (.cons_cons _ List.Sublist.slnil)))) ⟨rfl, rfl, rfl, rfl, rfl, trivial⟩), hS⟩)
    ·intro a w hJ
     obtain ⟨x137, hs, hS⟩ := hJ
     unfold S_chaffref_Nodes_J2 at hS
     refine Wp.cond hs rfl rfl Iff.rfl (fun hc => ?_) (fun hc => ?_)
     ·have hS := hS.1 hc
      refine Wp.seq (Wp.region (sP (pt b132 0) hs fun _ hs => ?_))
      refine sP (pt b132 6) hs fun _ hs => ?_
      refine sY (.slice x131.Expr.Kids_a x131.Expr.Kids_l x131.Expr.Kids_c) hs (Yl.lB [(.slice x131.Expr.Kids_a x131.Expr.Kids_l x131.Expr.Kids_c)] false 0) fun _ hs => ?_
      refine sP (iv ((x131.Expr.Kids_l : Nat) : Int)) hs fun _ hs => ?_
      refine sP (iv 0) hs fun _ hs => ?_
      refine wpList_nil (Wp.block ?_)
      obtain ⟨I163, mu164, hI0, hst⟩ := hS
      refine Wp.loop (σ := (Int) × (Nat) × (List Value) × (Value)) (fun s a w => match s with | (x159, rn161, rx162, rv160) => Sx 59 E [] M123 w a [(3, rv136), (4, (.slice ad127 rn118 cap128)), (5, (pt b132 0)), (6, rv160), (39, (.slice x131.Expr.Kids_a x131.Expr.Kids_l x131.Expr.Kids_c)), (40, (iv ((x131.Expr.Kids_l : Nat) : Int))), (41, (iv x159))] [⟨b132, 122, x131.cells⟩, ⟨b2, 109, e1.cells⟩] [⟨rv160, 122, 8, rn161, rx162, true⟩, ⟨(Value.slice ad127 rn118 cap128), 122, 8, rn118, rx119, true⟩, ⟨rv136, 122, 8, (rn121 + 1), (rx122 ++ x131.cells), true⟩] ∧ I163 x159 rn161 rx162) (fun s => match s with | (x159, rn161, rx162, rv160) => mu164 x159 rn161 rx162) (0, 0, [], (.slice none 0 0)) ⟨(hs.wk ⟨rfl, rfl, rfl, rfl, rfl, rfl, rfl, trivial⟩), hI0⟩ (fun s a w hI => ?_)
      obtain ⟨x159, rn161, rx162, rv160⟩ := s
      obtain ⟨hs, hI⟩ := hI
      have hS := hst x159 rn161 rx162 hI
      clear hst hI0 hI
      refine Wp.seq (Wp.region (sP (.bool (decide (x159 < ((x131.Expr.Kids_l : Nat) : Int)))) hs fun _ hs => ?_))
      refine wpList_nil (Wp.seq (Wp.cond hs rfl rfl decide_eq_true_iff (fun hc => ?_) (fun hc => ?_)))
      ·have hS := hS.1 hc
       refine Wp.skip (Wp.seq (Wp.block (Wp.seq (Wp.region ?_))))
       obtain ⟨b165, o166, ha, h0, hl, hS⟩ := hS
       refine sY (.pointer (some ⟨b165, o166 + x159.toNat * 7, none⟩)) hs (Yl.indexS (e := 109) (sz := 7) rfl rfl rfl rfl (by kernel_rfl) (by kernel_rfl) ha h0 hl) fun _ hs => ?_
       obtain ⟨x167, hat, hS⟩ := hS
       refine sY x167.val hs (Yl.loadV (vs := x167.cells) true rfl rfl (by kernel_rfl) hat) fun _ hs => ?_
       refine stepAlloc [(iv 0), (.int .u64 0), (.int .u64 0), (.int .u64 0), (.int .u64 0), (.string (mkS [])), (.slice none 0 0)] hs (by kernel_rfl) (by decide) (fun _ _ b168 hEb168 hs => ?_)
       have hs := hs.nilrow 109 7
       refine stB 0 x167.cells [⟨b168, 109, x167.cells⟩, ⟨b132, 122, x131.cells⟩, ⟨b2, 109, e1.cells⟩] hs fun _ _ hs => ?_
       refine wpList_nil (Wp.region (sP rv160 hs fun _ hs => ?_))
       refine sY x167.val hs (Yl.lB x167.cells true 0) fun _ hs => ?_
       refine sP (pt b132 7) hs fun _ hs => ?_
       refine sY (iv x131.Deep) hs (Yl.lB [(iv x131.Deep)] false 1) fun _ hs => ?_
       obtain ⟨hI, hS⟩ := hS
       refine sY (iv (x131.Deep + 1)) hs (Yl.eq (Yl.pure (v := Value.int .i64 (IntKind.wrap .i64 (x131.Deep + 1))) rfl (fun _ => by kernel_rfl)) (congrArg (Value.int .i64) (wrap_in hI))) fun _ hs => ?_
       refine sP (X_chaffref_Node.mk x167 (x131.Deep + 1)).val hs fun _ hs => ?_
       refine stepMake ((X_chaffref_Node.mk x167 (x131.Deep + 1)).cells) 122 8 1 hs rfl rfl rfl (fun _ => by kernel_rfl) rfl (by unfold maxLen; decide) (by decide) (fun _ _ rv169 hs => ?_)
       obtain ⟨ad170, cap171, hv, hcp, hxl⟩ := hs.rowform 0 rfl
       dsimp only at hv hcp hxl
       subst hv
       obtain ⟨hB, hS⟩ := hS
       refine stepAppend 2 ((X_chaffref_Node.mk x167 (x131.Deep + 1)).cells) hs rfl rfl rfl rfl rfl (by kernel_rfl) (by kernel_rfl) (by decide) (by decide) (hs.srcRow 0 rfl rfl) (lenb hB (by decide)) hB (fun _ _ rv172 hs => ?_)
       replace hs := hs.chrs (rs' := [⟨(Value.slice ad170 1 cap171), 122, 8, 1, (X_chaffref_Node.mk x167 (x131.Deep + 1)).cells, true⟩, ⟨(Value.slice none 0 0), 109, 7, 0, [], true⟩, ⟨rv172, 122, 8, (rn161 + 1), (rx162 ++ (X_chaffref_Node.mk x167 (x131.Deep + 1)).cells), true⟩, ⟨(Value.slice ad127 rn118 cap128), 122, 8, rn118, rx119, true⟩, ⟨rv136, 122, 8, (rn121 + 1), (rx122 ++ x131.cells), true⟩]) rfl
       refine sP rv172 hs fun _ hs => ?_
       refine wpList_nil (Wp.region ?_)
       obtain ⟨hI, hS⟩ := hS
       refine sY (iv (x159 + 1)) hs (Yl.eq (Yl.pure (v := Value.int .i64 (IntKind.wrap .i64 (x159 + 1))) rfl (fun _ => by kernel_rfl)) (congrArg (Value.int .i64) (wrap_in hI))) fun _ hs => ?_
       refine sP (iv (x159 + 1)) hs fun _ hs => ?_
       exact wpList_nil (⟨(x159 + 1, (rn161 + 1), (rx162 ++ (X_chaffref_Node.mk x167 (x131.Deep + 1)).cells), rv172), ⟨(hs.weak (.cons _ (.cons_cons _ (.cons_cons _ List.Sublist.slnil))) (.cons _ (.cons _ (.cons_cons _ (.cons_cons _ (.cons_cons _ List.Sublist.slnil))))) ⟨rfl, rfl, rfl, rfl, rfl, rfl, rfl, trivial⟩), hS.1⟩, hS.2⟩)
      ·have hS := hS.2 hc
       exact Wp.exit rfl (⟨rn161, rx162, rv160, (hs.wk ⟨rfl, rfl, rfl, trivial⟩), hS⟩)
     ·have hS := hS.2 hc
      exact Wp.skip (⟨0, [], (.slice none 0 0), (hs.wk ⟨rfl, rfl, rfl, trivial⟩), hS⟩)
   ·intro a w hJ
    obtain ⟨rn174, rx175, rv173, hs, hS⟩ := hJ
    unfold S_chaffref_Nodes_J3 at hS
    refine Wp.region (sP rv173 hs fun _ hs => ?_)
    refine sP (.slice ad127 rn118 cap128) hs fun _ hs => ?_
    obtain ⟨M176, hle, hsl, hnew, hs⟩ := hs.release 1 rfl [⟨rv173, 122, 8, rn174, rx175, true⟩, ⟨rv136, 122, 8, (rn121 + 1), (rx122 ++ x131.cells), true⟩] rfl
    have hMM := hMM.next hle hnew
    have hS := hS M176 ad127 cap128 hle hsl
    obtain ⟨h0, h1, hS⟩ := hS
    refine sY (.slice (slA ad127 (1 : Int).toNat cap128 8) (rn118 - (1 : Int).toNat) (cap128 - (1 : Int).toNat)) hs (Yl.sliceSL (e := 122) rfl rfl rfl rfl (by kernel_rfl) (by kernel_rfl) h0 h1) fun _ hs => ?_
    obtain ⟨news177, hsl, ho, hS⟩ := hS
    obtain ⟨hB, hS⟩ := hS
    refine stepAppend 0 news177 hs rfl rfl rfl rfl rfl (by kernel_rfl) (by kernel_rfl) (by decide) (by decide) (hs.srcV hsl ho) (lenb hB (by decide)) hB (fun _ _ rv178 hs => ?_)
    replace hs := hs.chrs (rs' := [⟨rv178, 122, 8, (rn174 + (rn118 - (1 : Int).toNat)), (rx175 ++ news177), true⟩, ⟨rv136, 122, 8, (rn121 + 1), (rx122 ++ x131.cells), true⟩]) rfl
    refine sP rv178 hs fun _ hs => ?_
    exact wpList_nil (⟨((rn174 + (rn118 - (1 : Int).toNat)), (rx175 ++ news177), (rn121 + 1), (rx122 ++ x131.cells), rv178, rv136, M176), ⟨hMM, (hs.weak (.cons _ (.cons_cons _ List.Sublist.slnil)) (List.Sublist.refl _) ⟨rfl, rfl, trivial⟩), hS.1⟩, hS.2⟩)
  ·have hS := hS.2 hc
   refine Wp.exit rfl (Wp.seq (Wp.region (sP rv120 hs fun _ hs => ?_)))
   refine sP rv120 hs fun _ hs => ?_
   refine wpList_nil (Wp.ret ?_)
   obtain ⟨ad179, cap180, hv, hcp, hxl⟩ := hs.rowform 1 rfl
   dsimp only at hv hcp hxl
   subst hv
   obtain ⟨M181, hle, hsl, hnew, hs⟩ := hs.release 1 rfl [⟨rv117, 122, 8, rn118, rx119, true⟩] rfl
   have hMM := hMM.next hle hnew
   have hS := hS M181 ad179 cap180 hle hsl
   exact leaveE (K := K) hs (resT hs rfl rfl) hMM.2 hS
def S_chaffref_right_J2 (e1 : X_api_Expr) (x5 : Bool) (K : Value → Prop) : Prop :=
 ((x5 = true → ((e1.Text = ([] : List UInt8) → (((cellsEq [e1.Set.w0, e1.Set.w1, e1.Set.w2, e1.Set.w3] [0, 0, 0, 0]) = true → K (Value.bool (((e1.Kids_l : Nat) : Int) == (1 : Int)))) ∧ (¬ ((cellsEq [e1.Set.w0, e1.Set.w1, e1.Set.w2, e1.Set.w3] [0, 0, 0, 0]) = true) → K (Value.bool false)))) ∧ (¬ (e1.Text = ([] : List UInt8)) → K (Value.bool false)))) ∧ (¬ (x5 = true) → K (Value.bool false)))
def S_chaffref_right_J1 (e1 : X_api_Expr) (x4 : Bool) (K : Value → Prop) : Prop :=
 ((x4 = true → ((e1.Text = ([] : List UInt8) → (((cellsEq [e1.Set.w0, e1.Set.w1, e1.Set.w2, e1.Set.w3] [0, 0, 0, 0]) = true → ((((e1.Kids_l : Nat) : Int) ≥ 2 → K (Value.bool (decide (((e1.Kids_l : Nat) : Int) ≤ 8)))) ∧ (¬ (((e1.Kids_l : Nat) : Int) ≥ 2) → K (Value.bool false)))) ∧ (¬ ((cellsEq [e1.Set.w0, e1.Set.w1, e1.Set.w2, e1.Set.w3] [0, 0, 0, 0]) = true) → K (Value.bool false)))) ∧ (¬ (e1.Text = ([] : List UInt8)) → K (Value.bool false)))) ∧ (¬ (x4 = true) → ((e1.Kind ≥ 7 → (S_chaffref_right_J2 e1 (decide (e1.Kind ≤ 11)) K)) ∧ (¬ (e1.Kind ≥ 7) → (S_chaffref_right_J2 e1 false K)))))
def S_chaffref_right (e1 : X_api_Expr) (M : Mem) (K : Value → Prop) : Prop :=
 (((e1.Kind : Int) = 1 → ((((e1.Kids_l : Nat) : Int) = 0 → ((e1.Text = ([] : List UInt8) → K (Value.bool (cellsEq [e1.Set.w0, e1.Set.w1, e1.Set.w2, e1.Set.w3] [0, 0, 0, 0]))) ∧ (¬ (e1.Text = ([] : List UInt8)) → K (Value.bool false)))) ∧ (¬ (((e1.Kids_l : Nat) : Int) = 0) → K (Value.bool false)))) ∧ (¬ ((e1.Kind : Int) = 1) → (((e1.Kind : Int) = 2 → ((((e1.Kids_l : Nat) : Int) = 0 → K (Value.bool ((mkS e1.Text).toList == (mkS ([] : List UInt8)).toList))) ∧ (¬ (((e1.Kids_l : Nat) : Int) = 0) → K (Value.bool false)))) ∧ (¬ ((e1.Kind : Int) = 2) → (((e1.Kind : Int) = 3 → ((((e1.Kids_l : Nat) : Int) = 0 → (((cellsEq [e1.Set.w0, e1.Set.w1, e1.Set.w2, e1.Set.w3] [0, 0, 0, 0]) = true → ((¬ (e1.Text = ([] : List UInt8)) → K (Value.bool (decide (((e1.Text.length : Nat) : Int) ≤ 12)))) ∧ (¬ (¬ (e1.Text = ([] : List UInt8))) → K (Value.bool false)))) ∧ (¬ ((cellsEq [e1.Set.w0, e1.Set.w1, e1.Set.w2, e1.Set.w3] [0, 0, 0, 0]) = true) → K (Value.bool false)))) ∧ (¬ (((e1.Kids_l : Nat) : Int) = 0) → K (Value.bool false)))) ∧ (¬ ((e1.Kind : Int) = 3) → (((e1.Kind : Int) = 4 → ((((e1.Kids_l : Nat) : Int) = 0 → (((cellsEq [e1.Set.w0, e1.Set.w1, e1.Set.w2, e1.Set.w3] [0, 0, 0, 0]) = true → (CallE Try.prog 110 #[(.string (mkS e1.Text))] M (fun v _ => ∃ (x3 : Bool), v = (Value.bool x3) ∧ K (Value.bool x3)))) ∧ (¬ ((cellsEq [e1.Set.w0, e1.Set.w1, e1.Set.w2, e1.Set.w3] [0, 0, 0, 0]) = true) → K (Value.bool false)))) ∧ (¬ (((e1.Kids_l : Nat) : Int) = 0) → K (Value.bool false)))) ∧ (¬ ((e1.Kind : Int) = 4) → (((e1.Kind : Int) = 5 → (S_chaffref_right_J1 e1 true K)) ∧ (¬ ((e1.Kind : Int) = 5) → (S_chaffref_right_J1 e1 ((e1.Kind : Int) == (6 : Int)) K)))))))))))
set_option maxRecDepth 100000 in
theorem s_chaffref_right (e1 : X_api_Expr) (M : Mem) (K : Value → Prop) (hS : S_chaffref_right e1 M K) : CallE Try.prog 146 #[e1.val] M (fun v _ => K v) := by
 refine enterE Try.func146 rfl 111 rfl (Nat.le_of_ble_eq_true rfl) (fun E a hs => ?_)
 unfold S_chaffref_right at hS
 have hMM := MX.refl M E
 change Sx 111 E [] M E a [(0, e1.val)] [] [] at hs
 refine Wp.seq (Wp.region (stepBox e1.cells hs rfl rfl rfl (by decide) (fun _ _ b2 hEb2 hs => ?_)))
 refine sP (.bool false) hs fun _ hs => ?_
 refine wpList_nil (Wp.seq (Wp.regionD [true, true, true, true, true, true, true, true, true, true, true, true, true, true] hs (by kernel_rfl) rfl [⟨b2, 109, e1.cells⟩] (fun _ h => h) [] (fun _ h => h) (fun _ hs hC => ?_)))
 have hL := Mem.le.refl M
 refine dP (pt b2 6) 0 [1, 2, 3, 11, 12, 13] hs QZ.no (wanted_none rfl) fun _ hs => ?_
 refine stepDY (v := (.slice e1.Kids_a e1.Kids_l e1.Kids_c)) 1 [2, 3, 11, 12, 13] hs hC QZ.no rfl (wanted_none rfl) rfl (by decide) (by kernel_rfl) (by kernel_rfl) (by kernel_rfl) (Yl.lB [(.slice e1.Kids_a e1.Kids_l e1.Kids_c)] false 0) (fun _ hs => ?_)
 refine dP (iv ((e1.Kids_l : Nat) : Int)) 2 [3, 11, 12, 13] hs QZ.no (wanted_none rfl) fun _ hs => ?_
 refine dP (Value.bool (((e1.Kids_l : Nat) : Int) == (0 : Int))) 3 [11, 12, 13] hs QZ.no (wanted_none rfl) fun _ hs => ?_
 refine dP (pt b2 5) 4 [5, 6, 12, 13] hs QZ.no (wanted_none rfl) fun _ hs => ?_
 refine stepDY (v := (.string (mkS e1.Text))) 5 [6, 12, 13] hs hC QZ.no rfl (wanted_none rfl) rfl (by decide) (by kernel_rfl) (by kernel_rfl) (by kernel_rfl) (Yl.lB [(.string (mkS e1.Text))] false 0) (fun _ hs => ?_)
 refine dP (Value.bool ((mkS e1.Text).toList == (mkS ([] : List UInt8)).toList)) 6 [12, 13] hs QZ.no (wanted_none rfl) fun _ hs => ?_
 refine dP (pt b2 1) 7 [8, 10, 13] hs QZ.no (wanted_none rfl) fun _ hs => ?_
 refine stepDY (v := e1.Set.val) 8 [10, 13] hs hC QZ.no rfl (wanted_none rfl) rfl (by decide) (by kernel_rfl) (by kernel_rfl) (by kernel_rfl) (Yl.lB e1.Set.cells true 0) (fun _ hs => ?_)
 refine dP (X_api_Set.mk 0 0 0 0).val 9 [10, 13] hs QZ.no (wanted_none rfl) fun _ hs => ?_
 refine stepDP (v := (.bool (cellsEq [e1.Set.w0, e1.Set.w1, e1.Set.w2, e1.Set.w3] [0, 0, 0, 0]))) 10 [13] hs QZ.no rfl (wanted_none rfl) rfl (by decide) (by kernel_rfl) (by kernel_rfl) (by kernel_rfl) (Yl.eqlA (n := 4) (e := 46) (k := .u64) (xs := [e1.Set.w0, e1.Set.w1, e1.Set.w2, e1.Set.w3]) (ys := [0, 0, 0, 0]) rfl (by kernel_rfl) (by kernel_rfl) (by kernel_rfl) (by kernel_rfl) rfl rfl rfl rfl rfl rfl) (fun _ hs => ?_)
 refine sE 11 ?_
 refine sP (.bool (((e1.Kids_l : Nat) : Int) == (0 : Int))) hs fun _ hs => ?_
 refine wpList_nil (⟨fun _ h => h, ?_⟩)
 refine sE 12 ?_
 refine sP (.bool ((mkS e1.Text).toList == (mkS ([] : List UInt8)).toList)) hs fun _ hs => ?_
 refine wpList_nil (⟨fun _ h => h, ?_⟩)
 refine sE 13 ?_
 refine sP (.bool (cellsEq [e1.Set.w0, e1.Set.w1, e1.Set.w2, e1.Set.w3] [0, 0, 0, 0])) hs fun _ hs => ?_
 refine wpList_nil (⟨fun _ h => h, ?_⟩)
 refine WpD.done (by kernel_rfl) ?_ _
 refine Wp.seq (Wp.block (Wp.seq (Wp.region (sP (pt b2 0) hs fun _ hs => ?_))))
 refine sY (iv e1.Kind) hs (Yl.lB [(iv e1.Kind)] false 0) fun _ hs => ?_
 refine sP (.bool ((e1.Kind : Int) == (1 : Int))) hs fun _ hs => ?_
 refine sP (.bool ((e1.Kind : Int) == (1 : Int))) hs fun _ hs => ?_
 refine wpList_nil (Wp.cond hs rfl rfl beq_iff_eq (fun hc => ?_) (fun hc => ?_))
 ·have hS := hS.1 hc
  refine Wp.seq (Wp.region (sP (.bool (((e1.Kids_l : Nat) : Int) == (0 : Int))) hs fun _ hs => ?_))
  refine sP (.bool (((e1.Kids_l : Nat) : Int) == (0 : Int))) hs fun _ hs => ?_
  refine bsplit (((e1.Kids_l : Nat) : Int) == (0 : Int)) beq_iff_eq (fun hb hc => ?_) (fun hb hc => ?_)
  ·have hs := hs.bt hb
   have hS := hS.1 hc
   refine sYe hs (sP (.bool ((mkS e1.Text).toList == (mkS ([] : List UInt8)).toList)) hs fun _ hs => ?_)
   refine sP (.bool ((mkS e1.Text).toList == (mkS ([] : List UInt8)).toList)) hs fun _ hs => ?_
   refine sP (.bool ((mkS e1.Text).toList == (mkS ([] : List UInt8)).toList)) hs fun _ hs => ?_
   refine bsplit ((mkS e1.Text).toList == (mkS ([] : List UInt8)).toList) mkS_beq (fun hb hc => ?_) (fun hb hc => ?_)
   ·have hs := hs.bt hb
    have hS := hS.1 hc
    refine sYe hs (sP (.bool (cellsEq [e1.Set.w0, e1.Set.w1, e1.Set.w2, e1.Set.w3] [0, 0, 0, 0])) hs fun _ hs => ?_)
    refine sP (.bool (cellsEq [e1.Set.w0, e1.Set.w1, e1.Set.w2, e1.Set.w3] [0, 0, 0, 0])) hs fun _ hs => ?_
    refine sP (.bool (cellsEq [e1.Set.w0, e1.Set.w1, e1.Set.w2, e1.Set.w3] [0, 0, 0, 0])) hs fun _ hs => ?_
    exact wpList_nil (Wp.ret (lvE K hs (resT hs rfl rfl) hMM.2 hS))
   ·have hs := hs.bf hb
    have hS := hS.2 hc
    refine sNo hs fun _ hs => ?_
    refine sP (.bool false) hs fun _ hs => ?_
    refine sP (.bool false) hs fun _ hs => ?_
    exact wpList_nil (Wp.ret (lvE K hs (resT hs rfl rfl) hMM.2 hS))
  ·have hs := hs.bf hb
   have hS := hS.2 hc
   refine sNo hs fun _ hs => ?_
   refine sP (.bool false) hs fun _ hs => ?_
   refine sP (.bool false) hs fun _ hs => ?_
   refine sNo hs fun _ hs => ?_
   refine sP (.bool false) hs fun _ hs => ?_
   refine sP (.bool false) hs fun _ hs => ?_
   exact wpList_nil (Wp.ret (lvE K hs (resT hs rfl rfl) hMM.2 hS))
 ·have hS := hS.2 hc
  refine Wp.seq (Wp.region (sP (pt b2 0) hs fun _ hs => ?_))
  refine sY (iv e1.Kind) hs (Yl.lB [(iv e1.Kind)] false 0) fun _ hs => ?_
  refine sP (.bool ((e1.Kind : Int) == (2 : Int))) hs fun _ hs => ?_
  refine sP (.bool ((e1.Kind : Int) == (2 : Int))) hs fun _ hs => ?_
  refine wpList_nil (Wp.cond hs rfl rfl beq_iff_eq (fun hc => ?_) (fun hc => ?_))
  ·have hS := hS.1 hc
   refine Wp.seq (Wp.region (sP (.bool (((e1.Kids_l : Nat) : Int) == (0 : Int))) hs fun _ hs => ?_))
   refine sP (.bool (((e1.Kids_l : Nat) : Int) == (0 : Int))) hs fun _ hs => ?_
   refine bsplit (((e1.Kids_l : Nat) : Int) == (0 : Int)) beq_iff_eq (fun hb hc => ?_) (fun hb hc => ?_)
   ·have hs := hs.bt hb
    have hS := hS.1 hc
    refine sYe hs (sP (.bool ((mkS e1.Text).toList == (mkS ([] : List UInt8)).toList)) hs fun _ hs => ?_)
    refine sP (.bool ((mkS e1.Text).toList == (mkS ([] : List UInt8)).toList)) hs fun _ hs => ?_
    refine sP (.bool ((mkS e1.Text).toList == (mkS ([] : List UInt8)).toList)) hs fun _ hs => ?_
    exact wpList_nil (Wp.ret (lvE K hs (resT hs rfl rfl) hMM.2 hS))
   ·have hs := hs.bf hb
    have hS := hS.2 hc
    refine sNo hs fun _ hs => ?_
    refine sP (.bool false) hs fun _ hs => ?_
    refine sP (.bool false) hs fun _ hs => ?_
    exact wpList_nil (Wp.ret (lvE K hs (resT hs rfl rfl) hMM.2 hS))
  ·have hS := hS.2 hc
   refine Wp.seq (Wp.region (sP (pt b2 0) hs fun _ hs => ?_))
   refine sY (iv e1.Kind) hs (Yl.lB [(iv e1.Kind)] false 0) fun _ hs => ?_
   refine sP (.bool ((e1.Kind : Int) == (3 : Int))) hs fun _ hs => ?_
   refine sP (.bool ((e1.Kind : Int) == (3 : Int))) hs fun _ hs => ?_
   refine wpList_nil (Wp.cond hs rfl rfl beq_iff_eq (fun hc => ?_) (fun hc => ?_))
   ·have hS := hS.1 hc
    refine Wp.seq (Wp.region (sP (.bool (((e1.Kids_l : Nat) : Int) == (0 : Int))) hs fun _ hs => ?_))
    refine sP (.bool (((e1.Kids_l : Nat) : Int) == (0 : Int))) hs fun _ hs => ?_
    refine bsplit (((e1.Kids_l : Nat) : Int) == (0 : Int)) beq_iff_eq (fun hb hc => ?_) (fun hb hc => ?_)
    ·have hs := hs.bt hb
     have hS := hS.1 hc
     refine sYe hs (sP (.bool (cellsEq [e1.Set.w0, e1.Set.w1, e1.Set.w2, e1.Set.w3] [0, 0, 0, 0])) hs fun _ hs => ?_)
     refine sP (.bool (cellsEq [e1.Set.w0, e1.Set.w1, e1.Set.w2, e1.Set.w3] [0, 0, 0, 0])) hs fun _ hs => ?_
     refine sP (.bool (cellsEq [e1.Set.w0, e1.Set.w1, e1.Set.w2, e1.Set.w3] [0, 0, 0, 0])) hs fun _ hs => ?_
     refine bsplit (cellsEq [e1.Set.w0, e1.Set.w1, e1.Set.w2, e1.Set.w3] [0, 0, 0, 0]) Iff.rfl (fun hb hc => ?_) (fun hb hc => ?_)
     ·have hs := hs.bt hb
      have hS := hS.1 hc
      refine sYe hs (sP (.bool ((mkS e1.Text).toList == (mkS ([] : List UInt8)).toList)) hs fun _ hs => ?_)
      refine sYe hs (sP (.bool (!((mkS e1.Text).toList == (mkS ([] : List UInt8)).toList))) hs fun _ hs => ?_)
      refine sP (.bool (!((mkS e1.Text).toList == (mkS ([] : List UInt8)).toList))) hs fun _ hs => ?_
      refine sP (.bool (!((mkS e1.Text).toList == (mkS ([] : List UInt8)).toList))) hs fun _ hs => ?_
      refine bsplit (!((mkS e1.Text).toList == (mkS ([] : List UInt8)).toList)) (bnot_iff mkS_beq) (fun hb hc => ?_) (fun hb hc => ?_)
      ·have hs := hs.bt hb
       have hS := hS.1 hc
       refine sYe hs (sP (pt b2 5) hs fun _ hs => ?_)
       refine sYe hs (sY (.string (mkS e1.Text)) hs (Yl.lB [(.string (mkS e1.Text))] false 0) fun _ hs => ?_)
       refine sYe hs (sP (iv ((e1.Text.length : Nat) : Int)) hs fun _ hs => ?_)
       refine sYe hs (sP (.bool (decide (((e1.Text.length : Nat) : Int) ≤ 12))) hs fun _ hs => ?_)
       refine sP (.bool (decide (((e1.Text.length : Nat) : Int) ≤ 12))) hs fun _ hs => ?_
       refine sP (.bool (decide (((e1.Text.length : Nat) : Int) ≤ 12))) hs fun _ hs => ?_
       exact wpList_nil (Wp.ret (lvE K hs (resT hs rfl rfl) hMM.2 hS))
      ·have hs := hs.bf hb
       have hS := hS.2 hc
       refine sNo hs fun _ hs => ?_
       refine sNo hs fun _ hs => ?_
       refine sNo hs fun _ hs => ?_
       refine sNo hs fun _ hs => ?_
       refine sP (.bool false) hs fun _ hs => ?_
       refine sP (.bool false) hs fun _ hs => ?_
       exact wpList_nil (Wp.ret (lvE K hs (resT hs rfl rfl) hMM.2 hS))
     ·have hs := hs.bf hb
      have hS := hS.2 hc
      refine sNo hs fun _ hs => ?_
      refine sNo hs fun _ hs => ?_
      refine sP (.bool false) hs fun _ hs => ?_
      refine sP (.bool false) hs fun _ hs => ?_
      refine sNo hs fun _ hs => ?_
      refine sNo hs fun _ hs => ?_
      refine sNo hs fun _ hs => ?_
      refine sNo hs fun _ hs => ?_
      refine sP (.bool false) hs fun _ hs => ?_
      refine sP (.bool false) hs fun _ hs => ?_
      exact wpList_nil (Wp.ret (lvE K hs (resT hs rfl rfl) hMM.2 hS))
    ·have hs := hs.bf hb
     have hS := hS.2 hc
     refine sNo hs fun _ hs => ?_
     refine sP (.bool false) hs fun _ hs => ?_
     refine sP (.bool false) hs fun _ hs => ?_
     refine sNo hs fun _ hs => ?_
     refine sNo hs fun _ hs => ?_
     refine sP (.bool false) hs fun _ hs => ?_
     refine sP (.bool false) hs fun _ hs => ?_
     refine sNo hs fun _ hs => ?_
     refine sNo hs fun _ hs => ?_
     refine sNo hs fun _ hs => ?_
     refine sNo hs fun _ hs => ?_
     refine sP (.bool false) hs fun _ hs => ?_
     refine sP (.bool false) hs fun _ hs => ?_
     exact wpList_nil (Wp.ret (lvE K hs (resT hs rfl rfl) hMM.2 hS))
   ·have hS := hS.2 hc
    refine Wp.seq (Wp.region (sP (pt b2 0) hs fun _ hs => ?_))
    refine sY (iv e1.Kind) hs (Yl.lB [(iv e1.Kind)] false 0) fun _ hs => ?_
    refine sP (.bool ((e1.Kind : Int) == (4 : Int))) hs fun _ hs => ?_
    refine sP (.bool ((e1.Kind : Int) == (4 : Int))) hs fun _ hs => ?_
    refine wpList_nil (Wp.cond hs rfl rfl beq_iff_eq (fun hc => ?_) (fun hc => ?_))
    ·have hS := hS.1 hc
     refine Wp.seq (Wp.region (sP (.bool (((e1.Kids_l : Nat) : Int) == (0 : Int))) hs fun _ hs => ?_))
     refine sP (.bool (((e1.Kids_l : Nat) : Int) == (0 : Int))) hs fun _ hs => ?_
     refine bsplit (((e1.Kids_l : Nat) : Int) == (0 : Int)) beq_iff_eq (fun hb hc => ?_) (fun hb hc => ?_)
     ·have hs := hs.bt hb
      have hS := hS.1 hc
      refine sYe hs (sP (.bool (cellsEq [e1.Set.w0, e1.Set.w1, e1.Set.w2, e1.Set.w3] [0, 0, 0, 0])) hs fun _ hs => ?_)
      refine sP (.bool (cellsEq [e1.Set.w0, e1.Set.w1, e1.Set.w2, e1.Set.w3] [0, 0, 0, 0])) hs fun _ hs => ?_
      refine sP (.bool (cellsEq [e1.Set.w0, e1.Set.w1, e1.Set.w2, e1.Set.w3] [0, 0, 0, 0])) hs fun _ hs => ?_
      refine bsplit (cellsEq [e1.Set.w0, e1.Set.w1, e1.Set.w2, e1.Set.w3] [0, 0, 0, 0]) Iff.rfl (fun hb hc => ?_) (fun hb hc => ?_)
      ·have hs := hs.bt hb
       have hS := hS.1 hc
       refine sYe hs (sP (pt b2 5) hs fun _ hs => ?_)
       refine sYe hs (sY (.string (mkS e1.Text)) hs (Yl.lB [(.string (mkS e1.Text))] false 0) fun _ hs => ?_)
       refine sYe hs (stepCallP [(.string (mkS e1.Text))] hs rfl ⟨_, rfl, rfl⟩ rfl Try.func110 rfl (by kernel_rfl) (by decide) hS (fun _ _ v hS hs => ?_))
       obtain ⟨x3, hv, hS⟩ := hS
       subst hv
       refine sP (.bool x3) hs fun _ hs => ?_
       refine sP (.bool x3) hs fun _ hs => ?_
       exact wpList_nil (Wp.ret (lvE K hs (resT hs rfl rfl) hMM.2 hS))
      ·have hs := hs.bf hb
       have hS := hS.2 hc
       refine sNo hs fun _ hs => ?_
       refine sNo hs fun _ hs => ?_
       refine sNo hs fun _ hs => ?_
       refine sP (.bool false) hs fun _ hs => ?_
       refine sP (.bool false) hs fun _ hs => ?_
       exact wpList_nil (Wp.ret (lvE K hs (resT hs rfl rfl) hMM.2 hS))
     ·have hs := hs.bf hb
      have hS := hS.2 hc
      refine sNo hs fun _ hs => ?_
      refine sP (.bool false) hs fun _ hs => ?_
      refine sP (.bool false) hs fun _ hs => ?_
      refine sNo hs fun _ hs => ?_
      refine sNo hs fun _ hs => ?_
      refine sNo hs fun _ hs => ?_
      refine sP (.bool false) hs fun _ hs => ?_
      refine sP (.bool false) hs fun _ hs => ?_
      exact wpList_nil (Wp.ret (lvE K hs (resT hs rfl rfl) hMM.2 hS))
    ·have hS := hS.2 hc
     refine Wp.join (fun a w => ∃ (x4 : Bool), Sx 111 E [] M w a [(1, (pt b2 0)), (4, (.bool ((mkS e1.Text).toList == (mkS ([] : List UInt8)).toList))), (5, (.bool (cellsEq [e1.Set.w0, e1.Set.w1, e1.Set.w2, e1.Set.w3] [0, 0, 0, 0]))), (67, (.bool x4))] [⟨b2, 109, e1.cells⟩] [] ∧ (S_chaffref_right_J1 e1 x4 K)) ?_ ?_
     ·refine Wp.region (sP (pt b2 0) hs fun _ hs => ?_)
      refine sY (iv e1.Kind) hs (Yl.lB [(iv e1.Kind)] false 0) fun _ hs => ?_
      refine sP (.bool ((e1.Kind : Int) == (5 : Int))) hs fun _ hs => ?_
      refine sP (.bool ((e1.Kind : Int) == (5 : Int))) hs fun _ hs => ?_
      refine bsplit ((e1.Kind : Int) == (5 : Int)) beq_iff_eq (fun hb hc => ?_) (fun hb hc => ?_)
      ·have hs := hs.bt hb
       have hS := hS.1 hc
       refine sNo hs fun _ hs => ?_
       refine sNo hs fun _ hs => ?_
       refine sNo hs fun _ hs => ?_
       refine sP (.bool true) hs fun _ hs => ?_
       refine sP (.bool true) hs fun _ hs => ?_
       exact wpList_nil (⟨true, (hs.wk ⟨rfl, rfl, rfl, rfl, trivial⟩), hS⟩)
      ·have hs := hs.bf hb
       have hS := hS.2 hc
       refine sYe hs (sP (pt b2 0) hs fun _ hs => ?_)
       refine sYe hs (sY (iv e1.Kind) hs (Yl.lB [(iv e1.Kind)] false 0) fun _ hs => ?_)
       refine sYe hs (sP (.bool ((e1.Kind : Int) == (6 : Int))) hs fun _ hs => ?_)
       refine sP (.bool ((e1.Kind : Int) == (6 : Int))) hs fun _ hs => ?_
       refine sP (.bool ((e1.Kind : Int) == (6 : Int))) hs fun _ hs => ?_
       exact wpList_nil (⟨((e1.Kind : Int) == (6 : Int)), (hs.wk ⟨rfl, rfl, rfl, rfl, trivial⟩), hS⟩)
     ·intro a w hJ
      obtain ⟨x4, hs, hS⟩ := hJ
      unfold S_chaffref_right_J1 at hS
      refine Wp.cond hs rfl rfl Iff.rfl (fun hc => ?_) (fun hc => ?_)
      ·have hS := hS.1 hc
       refine Wp.seq (Wp.region (sP (.bool ((mkS e1.Text).toList == (mkS ([] : List UInt8)).toList)) hs fun _ hs => ?_))
       refine sP (.bool ((mkS e1.Text).toList == (mkS ([] : List UInt8)).toList)) hs fun _ hs => ?_
       refine bsplit ((mkS e1.Text).toList == (mkS ([] : List UInt8)).toList) mkS_beq (fun hb hc => ?_) (fun hb hc => ?_)
       ·have hs := hs.bt hb
        have hS := hS.1 hc
        refine sYe hs (sP (.bool (cellsEq [e1.Set.w0, e1.Set.w1, e1.Set.w2, e1.Set.w3] [0, 0, 0, 0])) hs fun _ hs => ?_)
        refine sP (.bool (cellsEq [e1.Set.w0, e1.Set.w1, e1.Set.w2, e1.Set.w3] [0, 0, 0, 0])) hs fun _ hs => ?_
        refine sP (.bool (cellsEq [e1.Set.w0, e1.Set.w1, e1.Set.w2, e1.Set.w3] [0, 0, 0, 0])) hs fun _ hs => ?_
        refine bsplit (cellsEq [e1.Set.w0, e1.Set.w1, e1.Set.w2, e1.Set.w3] [0, 0, 0, 0]) Iff.rfl (fun hb hc => ?_) (fun hb hc => ?_)
        ·have hs := hs.bt hb
         have hS := hS.1 hc
         refine sYe hs (sP (pt b2 6) hs fun _ hs => ?_)
         refine sYe hs (sY (.slice e1.Kids_a e1.Kids_l e1.Kids_c) hs (Yl.lB [(.slice e1.Kids_a e1.Kids_l e1.Kids_c)] false 0) fun _ hs => ?_)
         refine sYe hs (sP (iv ((e1.Kids_l : Nat) : Int)) hs fun _ hs => ?_)
         refine sYe hs (sP (.bool (decide (((e1.Kids_l : Nat) : Int) ≥ 2))) hs fun _ hs => ?_)
         refine sP (.bool (decide (((e1.Kids_l : Nat) : Int) ≥ 2))) hs fun _ hs => ?_
         refine sP (.bool (decide (((e1.Kids_l : Nat) : Int) ≥ 2))) hs fun _ hs => ?_
         refine bsplit (decide (((e1.Kids_l : Nat) : Int) ≥ 2)) decide_eq_true_iff (fun hb hc => ?_) (fun hb hc => ?_)
         ·have hs := hs.bt hb
          have hS := hS.1 hc
          refine sYe hs (sP (pt b2 6) hs fun _ hs => ?_)
          refine sYe hs (sY (.slice e1.Kids_a e1.Kids_l e1.Kids_c) hs (Yl.lB [(.slice e1.Kids_a e1.Kids_l e1.Kids_c)] false 0) fun _ hs => ?_)
          refine sYe hs (sP (iv ((e1.Kids_l : Nat) : Int)) hs fun _ hs => ?_)
          refine sYe hs (sP (.bool (decide (((e1.Kids_l : Nat) : Int) ≤ 8))) hs fun _ hs => ?_)
          refine sP (.bool (decide (((e1.Kids_l : Nat) : Int) ≤ 8))) hs fun _ hs => ?_
          refine sP (.bool (decide (((e1.Kids_l : Nat) : Int) ≤ 8))) hs fun _ hs => ?_
          exact wpList_nil (Wp.ret (lvE K hs (resT hs rfl rfl) hMM.2 hS))
         ·have hs := hs.bf hb
          have hS := hS.2 hc
          refine sNo hs fun _ hs => ?_
          refine sNo hs fun _ hs => ?_
          refine sNo hs fun _ hs => ?_
          refine sNo hs fun _ hs => ?_
          refine sP (.bool false) hs fun _ hs => ?_
          refine sP (.bool false) hs fun _ hs => ?_
          exact wpList_nil (Wp.ret (lvE K hs (resT hs rfl rfl) hMM.2 hS))
        ·have hs := hs.bf hb
         have hS := hS.2 hc
         refine sNo hs fun _ hs => ?_
         refine sNo hs fun _ hs => ?_
         refine sNo hs fun _ hs => ?_
         refine sNo hs fun _ hs => ?_
         refine sP (.bool false) hs fun _ hs => ?_
         refine sP (.bool false) hs fun _ hs => ?_
         refine sNo hs fun _ hs => ?_
         refine sNo hs fun _ hs => ?_
         refine sNo hs fun _ hs => ?_
         refine sNo hs fun _ hs => ?_
         refine sP (.bool false) hs fun _ hs => ?_
         refine sP (.bool false) hs fun _ hs => ?_
         exact wpList_nil (Wp.ret (lvE K hs (resT hs rfl rfl) hMM.2 hS))
       ·have hs := hs.bf hb
        have hS := hS.2 hc
        refine sNo hs fun _ hs => ?_
        refine sP (.bool false) hs fun _ hs => ?_
        refine sP (.bool false) hs fun _ hs => ?_
        refine sNo hs fun _ hs => ?_
        refine sNo hs fun _ hs => ?_
        refine sNo hs fun _ hs => ?_
        refine sNo hs fun _ hs => ?_
        refine sP (.bool false) hs fun _ hs => ?_
        refine sP (.bool false) hs fun _ hs => ?_
        refine sNo hs fun _ hs => ?_
        refine sNo hs fun _ hs => ?_
        refine sNo hs fun _ hs => ?_
        refine sNo hs fun _ hs => ?_
        refine sP (.bool false) hs fun _ hs => ?_
        refine sP (.bool false) hs fun _ hs => ?_
        exact wpList_nil (Wp.ret (lvE K hs (resT hs rfl rfl) hMM.2 hS))
      ·have hS := hS.2 hc
       refine Wp.join (fun a w => ∃ (x5 : Bool), Sx 111 E [] M w a [(1, (pt b2 0)), (4, (.bool ((mkS e1.Text).toList == (mkS ([] : List UInt8)).toList))), (5, (.bool (cellsEq [e1.Set.w0, e1.Set.w1, e1.Set.w2, e1.Set.w3] [0, 0, 0, 0]))), (92, (.bool x5))] [⟨b2, 109, e1.cells⟩] [] ∧ (S_chaffref_right_J2 e1 x5 K)) ?_ ?_
       ·refine Wp.region (sP (pt b2 0) hs fun _ hs => ?_)
        refine sY (iv e1.Kind) hs (Yl.lB [(iv e1.Kind)] false 0) fun _ hs => ?_
        refine sP (.bool (decide (e1.Kind ≥ 7))) hs fun _ hs => ?_
        refine sP (.bool (decide (e1.Kind ≥ 7))) hs fun _ hs => ?_
        refine bsplit (decide (e1.Kind ≥ 7)) decide_eq_true_iff (fun hb hc => ?_) (fun hb hc => ?_)
        ·have hs := hs.bt hb
         have hS := hS.1 hc
         refine sYe hs (sP (pt b2 0) hs fun _ hs => ?_)
         refine sYe hs (sY (iv e1.Kind) hs (Yl.lB [(iv e1.Kind)] false 0) fun _ hs => ?_)
         refine sYe hs (sP (.bool (decide (e1.Kind ≤ 11))) hs fun _ hs => ?_)
         refine sP (.bool (decide (e1.Kind ≤ 11))) hs fun _ hs => ?_
         refine sP (.bool (decide (e1.Kind ≤ 11))) hs fun _ hs => ?_
         exact wpList_nil (⟨(decide (e1.Kind ≤ 11)), (hs.wk ⟨rfl, rfl, rfl, rfl, trivial⟩), hS⟩)
        ·have hs := hs.bf hb
         have hS := hS.2 hc
         refine sNo hs fun _ hs => ?_
         refine sNo hs fun _ hs => ?_
         refine sNo hs fun _ hs => ?_
         refine sP (.bool false) hs fun _ hs => ?_
         refine sP (.bool false) hs fun _ hs => ?_
         exact wpList_nil (⟨false, (hs.wk ⟨rfl, rfl, rfl, rfl, trivial⟩), hS⟩)
       ·intro a w hJ
        obtain ⟨x5, hs, hS⟩ := hJ
        unfold S_chaffref_right_J2 at hS
        refine Wp.cond hs rfl rfl Iff.rfl (fun hc => ?_) (fun hc => ?_)
        ·have hS := hS.1 hc
         refine Wp.seq (Wp.region (sP (.bool ((mkS e1.Text).toList == (mkS ([] : List UInt8)).toList)) hs fun _ hs => ?_))
         refine sP (.bool ((mkS e1.Text).toList == (mkS ([] : List UInt8)).toList)) hs fun _ hs => ?_
         refine bsplit ((mkS e1.Text).toList == (mkS ([] : List UInt8)).toList) mkS_beq (fun hb hc => ?_) (fun hb hc => ?_)
         ·have hs := hs.bt hb
          have hS := hS.1 hc
          refine sYe hs (sP (.bool (cellsEq [e1.Set.w0, e1.Set.w1, e1.Set.w2, e1.Set.w3] [0, 0, 0, 0])) hs fun _ hs => ?_)
          refine sP (.bool (cellsEq [e1.Set.w0, e1.Set.w1, e1.Set.w2, e1.Set.w3] [0, 0, 0, 0])) hs fun _ hs => ?_
          refine sP (.bool (cellsEq [e1.Set.w0, e1.Set.w1, e1.Set.w2, e1.Set.w3] [0, 0, 0, 0])) hs fun _ hs => ?_
          refine bsplit (cellsEq [e1.Set.w0, e1.Set.w1, e1.Set.w2, e1.Set.w3] [0, 0, 0, 0]) Iff.rfl (fun hb hc => ?_) (fun hb hc => ?_)
          ·have hs := hs.bt hb
           have hS := hS.1 hc
           refine sYe hs (sP (pt b2 6) hs fun _ hs => ?_)
           refine sYe hs (sY (.slice e1.Kids_a e1.Kids_l e1.Kids_c) hs (Yl.lB [(.slice e1.Kids_a e1.Kids_l e1.Kids_c)] false 0) fun _ hs => ?_)
           refine sYe hs (sP (iv ((e1.Kids_l : Nat) : Int)) hs fun _ hs => ?_)
           refine sYe hs (sP (.bool (((e1.Kids_l : Nat) : Int) == (1 : Int))) hs fun _ hs => ?_)
           refine sP (.bool (((e1.Kids_l : Nat) : Int) == (1 : Int))) hs fun _ hs => ?_
           refine sP (.bool (((e1.Kids_l : Nat) : Int) == (1 : Int))) hs fun _ hs => ?_
           exact wpList_nil (Wp.ret (lvE K hs (resT hs rfl rfl) hMM.2 hS))
          ·have hs := hs.bf hb
           have hS := hS.2 hc
           refine sNo hs fun _ hs => ?_
           refine sNo hs fun _ hs => ?_
           refine sNo hs fun _ hs => ?_
           refine sNo hs fun _ hs => ?_
           refine sP (.bool false) hs fun _ hs => ?_
           refine sP (.bool false) hs fun _ hs => ?_
           exact wpList_nil (Wp.ret (lvE K hs (resT hs rfl rfl) hMM.2 hS))
         ·have hs := hs.bf hb
          have hS := hS.2 hc
          refine sNo hs fun _ hs => ?_
          refine sP (.bool false) hs fun _ hs => ?_
          refine sP (.bool false) hs fun _ hs => ?_
          refine sNo hs fun _ hs => ?_
          refine sNo hs fun _ hs => ?_
          refine sNo hs fun _ hs => ?_
          refine sNo hs fun _ hs => ?_
          refine sP (.bool false) hs fun _ hs => ?_
          refine sP (.bool false) hs fun _ hs => ?_
          exact wpList_nil (Wp.ret (lvE K hs (resT hs rfl rfl) hMM.2 hS))
        ·have hS := hS.2 hc
         refine Wp.skip (Wp.seq (Wp.region (sP (.bool false) hs fun _ hs => ?_)))
         exact wpList_nil (Wp.ret (lvE K hs (resT hs rfl rfl) hMM.2 hS))
def S_chaffref_Expr (e1 : X_api_Expr) (M : Mem) (K : Value → Prop) : Prop :=
 (CallE Try.prog 60 #[e1.val] M (fun v M6 => ∃ (xa3 : Option Addr) (xl4 : Nat) (xc5 : Nat), v = (Value.slice xa3 xl4 xc5) ∧ (∃ (I14 : Int → Prop) (mu15 : Int → Nat), I14 0 ∧ ∀ (x13 : Int), (I14 x13 → ((x13 < ((xl4 : Nat) : Int) → (∃ (b16 o17 : Nat), xa3 = some ⟨b16, o17, none⟩ ∧ (0 : Int) ≤ x13 ∧ x13 < ((xl4 : Nat) : Int) ∧ (∃ (x18 : X_chaffref_Node), At M6 b16 (o17 + x13.toNat * 8) x18.cells ∧ (((x13 : Int) = 60 → K (Value.int .i64 2)) ∧ (¬ ((x13 : Int) = 60) → ((x18.Deep > 12 → K (Value.int .i64 5)) ∧ (¬ (x18.Deep > 12) → (CallE Try.prog 146 #[x18.Expr.val] M6 (fun v _ => ∃ (x20 : Bool), v = (Value.bool x20) ∧ ((¬ (x20 = true) → K (Value.int .i64 3)) ∧ (¬ (¬ (x20 = true)) → (InI (x13 + 1) ∧ I14 (x13 + 1) ∧ mu15 (x13 + 1) < mu15 x13)))))))))))) ∧ (¬ (x13 < ((xl4 : Nat) : Int)) → K (Value.int .i64 0)))))))
set_option maxRecDepth 100000 in
theorem s_chaffref_Expr (e1 : X_api_Expr) (M : Mem) (K : Value → Prop) (hS : S_chaffref_Expr e1 M K) : CallE Try.prog 111 #[e1.val] M (fun v _ => K v) := by
 refine enterE Try.func111 rfl 26 rfl (Nat.le_of_ble_eq_true rfl) (fun E a hs => ?_)
 unfold S_chaffref_Expr at hS
 have hMM := MX.refl M E
 change Sx 26 E [] M E a [(0, e1.val)] [] [] at hs
 refine Wp.seq (Wp.region (stepBox e1.cells hs rfl rfl rfl (by decide) (fun _ _ b2 hEb2 hs => ?_)))
 refine sP (iv 0) hs fun _ hs => ?_
 refine wpList_nil (Wp.seq (Wp.seq (Wp.region (sY e1.val hs (Yl.lB e1.cells true 0) fun _ hs => ?_))))
 refine stepCallE [e1.val] hs rfl ⟨_, rfl, rfl⟩ rfl Try.func60 rfl (by kernel_rfl) (by decide) hS (fun _ _ M6 v hle hnew hS hs => ?_)
 have hMM := hMM.next hle hnew
 obtain ⟨xa3, xl4, xc5, hv, hS⟩ := hS
 subst hv
 refine sP (iv ((xl4 : Nat) : Int)) hs fun _ hs => ?_
 refine sP (iv 0) hs fun _ hs => ?_
 refine wpList_nil (Wp.block ?_)
 obtain ⟨I14, mu15, hI0, hst⟩ := hS
 refine Wp.loop (σ := (Int)) (fun s a w => match s with | (x13) => Sx 26 E [] M6 w a [(6, (.slice xa3 xl4 xc5)), (7, (iv ((xl4 : Nat) : Int))), (8, (iv x13))] [⟨b2, 109, e1.cells⟩] [] ∧ I14 x13) (fun s => match s with | (x13) => mu15 x13) (0) ⟨(hs.wk ⟨rfl, rfl, rfl, trivial⟩), hI0⟩ (fun x13 a w hI => ?_)
 obtain ⟨hs, hI⟩ := hI
 have hS := hst x13 hI
 clear hst hI0 hI
 refine Wp.seq (Wp.region (sP (.bool (decide (x13 < ((xl4 : Nat) : Int)))) hs fun _ hs => ?_))
 refine wpList_nil (Wp.seq (Wp.cond hs rfl rfl decide_eq_true_iff (fun hc => ?_) (fun hc => ?_)))
 ·have hS := hS.1 hc
  refine Wp.skip (Wp.seq (Wp.block (Wp.seq (Wp.region (sP (iv x13) hs fun _ hs => ?_)))))
  obtain ⟨b16, o17, ha, h0, hl, hS⟩ := hS
  refine sY (.pointer (some ⟨b16, o17 + x13.toNat * 8, none⟩)) hs (Yl.indexS (e := 122) (sz := 8) rfl rfl rfl rfl (by kernel_rfl) (by kernel_rfl) ha h0 hl) fun _ hs => ?_
  obtain ⟨x18, hat, hS⟩ := hS
  refine sY x18.val hs (Yl.loadV (vs := x18.cells) true rfl rfl (by kernel_rfl) hat) fun _ hs => ?_
  refine stepAlloc [(iv 0), (.int .u64 0), (.int .u64 0), (.int .u64 0), (.int .u64 0), (.string (mkS [])), (.slice none 0 0), (iv 0)] hs (by kernel_rfl) (by decide) (fun _ _ b19 hEb19 hs => ?_)
  refine sP (iv x13) hs fun _ hs => ?_
  refine stB 0 x18.cells [⟨b19, 122, x18.cells⟩, ⟨b2, 109, e1.cells⟩] hs fun _ _ hs => ?_
  refine wpList_nil (Wp.block (Wp.seq (Wp.region (sP (iv x13) hs fun _ hs => ?_))))
  refine sP (.bool ((x13 : Int) == (60 : Int))) hs fun _ hs => ?_
  refine sP (.bool ((x13 : Int) == (60 : Int))) hs fun _ hs => ?_
  refine wpList_nil (Wp.cond hs rfl rfl beq_iff_eq (fun hc => ?_) (fun hc => ?_))
  ·have hS := hS.1 hc
   refine Wp.seq (Wp.region (sP (iv 2) hs fun _ hs => ?_))
   exact wpList_nil (Wp.ret (lvE K hs (resT hs rfl rfl) hMM.2 hS))
  ·have hS := hS.2 hc
   refine Wp.seq (Wp.region (sP (pt b19 7) hs fun _ hs => ?_))
   refine sY (iv x18.Deep) hs (Yl.lB [(iv x18.Deep)] false 0) fun _ hs => ?_
   refine sP (.bool (decide (x18.Deep > 12))) hs fun _ hs => ?_
   refine sP (.bool (decide (x18.Deep > 12))) hs fun _ hs => ?_
   refine wpList_nil (Wp.cond hs rfl rfl decide_eq_true_iff (fun hc => ?_) (fun hc => ?_))
   ·have hS := hS.1 hc
    refine Wp.seq (Wp.region (sP (iv 5) hs fun _ hs => ?_))
    exact wpList_nil (Wp.ret (lvE K hs (resT hs rfl rfl) hMM.2 hS))
   ·have hS := hS.2 hc
    refine Wp.seq (Wp.region (sP (pt b19 0) hs fun _ hs => ?_))
    refine sY x18.Expr.val hs (Yl.lB x18.Expr.cells true 0) fun _ hs => ?_
    refine stepCallP [x18.Expr.val] hs rfl ⟨_, rfl, rfl⟩ rfl Try.func146 rfl (by kernel_rfl) (by decide) hS (fun _ _ v hS hs => ?_)
    obtain ⟨x20, hv, hS⟩ := hS
    subst hv
    refine sP (.bool (!x20)) hs fun _ hs => ?_
    refine sP (.bool (!x20)) hs fun _ hs => ?_
    refine wpList_nil (Wp.cond hs rfl rfl (bnot_iff Iff.rfl) (fun hc => ?_) (fun hc => ?_))
    ·have hS := hS.1 hc
     refine Wp.seq (Wp.region (sP (iv 3) hs fun _ hs => ?_))
     exact wpList_nil (Wp.ret (lvE K hs (resT hs rfl rfl) hMM.2 hS))
    ·have hS := hS.2 hc
     refine Wp.skip (Wp.region ?_)
     obtain ⟨hI, hS⟩ := hS
     refine sY (iv (x13 + 1)) hs (Yl.eq (Yl.pure (v := Value.int .i64 (IntKind.wrap .i64 (x13 + 1))) rfl (fun _ => by kernel_rfl)) (congrArg (Value.int .i64) (wrap_in hI))) fun _ hs => ?_
     refine sP (iv (x13 + 1)) hs fun _ hs => ?_
     exact wpList_nil (⟨(x13 + 1), ⟨(hs.weak (.cons _ (.cons_cons _ List.Sublist.slnil)) (List.Sublist.refl _) ⟨rfl, rfl, rfl, trivial⟩), hS.1⟩, hS.2⟩)
 ·have hS := hS.2 hc
  refine Wp.exit rfl (Wp.seq (Wp.region (sP (iv 0) hs fun _ hs => ?_)))
  exact wpList_nil (Wp.ret (lvE K hs (resT hs rfl rfl) hMM.2 hS))
def S_slices_Index_string (sa1 : Option Addr) (sl2 : Nat) (sc3 : Nat) (v4 : List UInt8) (M : Mem) (K : Value → Prop) : Prop :=
 (∃ (I10 : Int → Prop) (mu11 : Int → Nat), I10 0 ∧ ∀ (x9 : Int), (I10 x9 → ((x9 < ((sl2 : Nat) : Int) → (∃ (b12 o13 : Nat), sa1 = some ⟨b12, o13, none⟩ ∧ (0 : Int) ≤ x9 ∧ x9 < ((sl2 : Nat) : Int) ∧ (∃ (x14 : List UInt8), At M b12 (o13 + x9.toNat * 1) [(.string (mkS x14))] ∧ ((v4 = x14 → K (Value.int .i64 x9)) ∧ (¬ (v4 = x14) → (InI (x9 + 1) ∧ I10 (x9 + 1) ∧ mu11 (x9 + 1) < mu11 x9)))))) ∧ (¬ (x9 < ((sl2 : Nat) : Int)) → K (Value.int .i64 (-1))))))
set_option maxRecDepth 100000 in
theorem s_slices_Index_string (sa1 : Option Addr) (sl2 : Nat) (sc3 : Nat) (v4 : List UInt8) (M : Mem) (K : Value → Prop) (hS : S_slices_Index_string sa1 sl2 sc3 v4 M K) : CallE Try.prog 85 #[(Value.slice sa1 sl2 sc3), (Value.string (mkS v4))] M (fun v _ => K v) := by
 refine enterE Try.func85 rfl 19 rfl (Nat.le_of_ble_eq_true rfl) (fun E a hs => ?_)
 unfold S_slices_Index_string at hS
 have hMM := MX.refl M E
 change Sx 19 E [] M E a [(0, (.slice sa1 sl2 sc3)), (1, (.string (mkS v4)))] [] [] at hs
 refine Wp.seq (Wp.region (sP (iv 0) hs fun _ hs => ?_))
 refine wpList_nil (Wp.seq (Wp.seq (Wp.region (sP (.slice sa1 sl2 sc3) hs fun _ hs => ?_))))
 refine sP (iv ((sl2 : Nat) : Int)) hs fun _ hs => ?_
 refine sP (iv 0) hs fun _ hs => ?_
 refine wpList_nil (Wp.block ?_)
 obtain ⟨I10, mu11, hI0, hst⟩ := hS
 refine Wp.loop (σ := (Int)) (fun s a w => match s with | (x9) => Sx 19 E [] M w a [(0, (.slice sa1 sl2 sc3)), (1, (.string (mkS v4))), (7, (iv ((sl2 : Nat) : Int))), (8, (iv x9))] [] [] ∧ I10 x9) (fun s => match s with | (x9) => mu11 x9) (0) ⟨(hs.wk ⟨rfl, rfl, rfl, rfl, trivial⟩), hI0⟩ (fun x9 a w hI => ?_)
 obtain ⟨hs, hI⟩ := hI
 have hS := hst x9 hI
 clear hst hI0 hI
 refine Wp.seq (Wp.region (sP (.bool (decide (x9 < ((sl2 : Nat) : Int)))) hs fun _ hs => ?_))
 refine wpList_nil (Wp.seq (Wp.cond hs rfl rfl decide_eq_true_iff (fun hc => ?_) (fun hc => ?_)))
 ·have hS := hS.1 hc
  refine Wp.skip (Wp.seq (Wp.block (Wp.seq (Wp.region (sP (iv x9) hs fun _ hs => ?_)))))
  refine sP (iv x9) hs fun _ hs => ?_
  refine wpList_nil (Wp.seq (Wp.region (sP (.string (mkS v4)) hs fun _ hs => ?_)))
  refine sP (.slice sa1 sl2 sc3) hs fun _ hs => ?_
  refine sP (iv x9) hs fun _ hs => ?_
  obtain ⟨b12, o13, ha, h0, hl, hS⟩ := hS
  refine sY (.pointer (some ⟨b12, o13 + x9.toNat * 1, none⟩)) hs (Yl.indexS (e := 9) (sz := 1) rfl rfl rfl rfl (by kernel_rfl) (by kernel_rfl) ha h0 hl) fun _ hs => ?_
  obtain ⟨x14, hat, hS⟩ := hS
  refine sY (.string (mkS x14)) hs (Yl.loadV (vs := [(.string (mkS x14))]) false rfl rfl (by kernel_rfl) hat) fun _ hs => ?_
  refine sP (.bool ((mkS v4).toList == (mkS x14).toList)) hs fun _ hs => ?_
  refine wpList_nil (Wp.cond hs rfl rfl mkS_beq (fun hc => ?_) (fun hc => ?_))
  ·have hS := hS.1 hc
   refine Wp.seq (Wp.region (sP (iv x9) hs fun _ hs => ?_))
   refine sP (iv x9) hs fun _ hs => ?_
   exact wpList_nil (Wp.ret (lvE K hs (resT hs rfl rfl) hMM.2 hS))
  ·have hS := hS.2 hc
   refine Wp.skip (Wp.region ?_)
   obtain ⟨hI, hS⟩ := hS
   refine sY (iv (x9 + 1)) hs (Yl.eq (Yl.pure (v := Value.int .i64 (IntKind.wrap .i64 (x9 + 1))) rfl (fun _ => by kernel_rfl)) (congrArg (Value.int .i64) (wrap_in hI))) fun _ hs => ?_
   refine sP (iv (x9 + 1)) hs fun _ hs => ?_
   exact wpList_nil (⟨(x9 + 1), ⟨(hs.wk ⟨rfl, rfl, rfl, rfl, trivial⟩), hS.1⟩, hS.2⟩)
 ·have hS := hS.2 hc
  refine Wp.exit rfl (Wp.seq (Wp.region (sP (iv (-1)) hs fun _ hs => ?_)))
  exact wpList_nil (Wp.ret (lvE K hs (resT hs rfl rfl) hMM.2 hS))
def S_slices_Contains_string (sa1 : Option Addr) (sl2 : Nat) (sc3 : Nat) (v4 : List UInt8) (M : Mem) (K : Value → Prop) : Prop :=
 (CallE Try.prog 85 #[(.slice sa1 sl2 sc3), (.string (mkS v4))] M (fun v _ => ∃ (x5 : Int), v = (Value.int .i64 x5) ∧ K (Value.bool (decide (x5 ≥ 0)))))
set_option maxRecDepth 100000 in
theorem s_slices_Contains_string (sa1 : Option Addr) (sl2 : Nat) (sc3 : Nat) (v4 : List UInt8) (M : Mem) (K : Value → Prop) (hS : S_slices_Contains_string sa1 sl2 sc3 v4 M K) : CallE Try.prog 147 #[(Value.slice sa1 sl2 sc3), (Value.string (mkS v4))] M (fun v _ => K v) := by
 refine enterE Try.func147 rfl 9 rfl (Nat.le_of_ble_eq_true rfl) (fun E a hs => ?_)
 unfold S_slices_Contains_string at hS
 have hMM := MX.refl M E
 change Sx 9 E [] M E a [(0, (.slice sa1 sl2 sc3)), (1, (.string (mkS v4)))] [] [] at hs
 refine Wp.seq (Wp.region (sP (.bool false) hs fun _ hs => ?_))
 refine wpList_nil (Wp.seq (Wp.region (sP (.slice sa1 sl2 sc3) hs fun _ hs => ?_)))
 refine sP (.string (mkS v4)) hs fun _ hs => ?_
 refine stepCallP [(.slice sa1 sl2 sc3), (.string (mkS v4))] hs rfl ⟨_, rfl, rfl⟩ rfl Try.func85 rfl (by kernel_rfl) (by decide) hS (fun _ _ v hS hs => ?_)
 obtain ⟨x5, hv, hS⟩ := hS
 subst hv
 refine sP (.bool (decide (x5 ≥ 0))) hs fun _ hs => ?_
 refine sP (.bool (decide (x5 ≥ 0))) hs fun _ hs => ?_
 exact wpList_nil (Wp.ret (lvE K hs (resT hs rfl rfl) hMM.2 hS))
def S_chaffref_Refs_J2 (x43 : Int) (rn45 : Nat) (rx46 : List Value) (I47 : Int → Nat → List Value → Prop) (mu48 : Int → Nat → List Value → Nat) (rn64 : Nat) (rx65 : List Value) (K : Value → Mem → Prop) : Prop :=
 (InI (x43 + 1) ∧ I47 (x43 + 1) rn64 rx65 ∧ mu48 (x43 + 1) rn64 rx65 < mu48 x43 rn45 rx46)
def S_chaffref_Refs_J1 (x43 : Int) (rn45 : Nat) (rx46 : List Value) (I47 : Int → Nat → List Value → Prop) (mu48 : Int → Nat → List Value → Nat) (x51 : X_chaffref_Node) (x57 : Bool) (K : Value → Mem → Prop) : Prop :=
 ((x57 = true → ((rn45 + 1) * 16 ≤ 140737488355328 ∧ (S_chaffref_Refs_J2 x43 rn45 rx46 I47 mu48 (rn45 + 1) (rx46 ++ [(.string (mkS x51.Expr.Text))]) K))) ∧ (¬ (x57 = true) → (S_chaffref_Refs_J2 x43 rn45 rx46 I47 mu48 rn45 rx46 K)))
def S_chaffref_Refs (e1 : X_api_Expr) (M : Mem) (K : Value → Mem → Prop) : Prop :=
 (CallE Try.prog 60 #[e1.val] M (fun v M6 => ∃ (xa3 : Option Addr) (xl4 : Nat) (xc5 : Nat), v = (Value.slice xa3 xl4 xc5) ∧ (∃ (I47 : Int → Nat → List Value → Prop) (mu48 : Int → Nat → List Value → Nat), I47 0 0 [] ∧ ∀ (x43 : Int) (rn45 : Nat) (rx46 : List Value), (I47 x43 rn45 rx46 → ((x43 < ((xl4 : Nat) : Int) → (∃ (b49 o50 : Nat), xa3 = some ⟨b49, o50, none⟩ ∧ (0 : Int) ≤ x43 ∧ x43 < ((xl4 : Nat) : Int) ∧ (∃ (x51 : X_chaffref_Node), At M6 b49 (o50 + x43.toNat * 8) x51.cells ∧ (((x51.Expr.Kind : Int) = 4 → (∀ (M56 : Mem) (ad54 : Option Addr) (cap55 : Nat), M6.le M56 → SlV M56 ad54 rn45 cap55 1 rx46 → (CallE Try.prog 147 #[(.slice ad54 rn45 cap55), (.string (mkS x51.Expr.Text))] M56 (fun v _ => ∃ (x53 : Bool), v = (Value.bool x53) ∧ (S_chaffref_Refs_J1 x43 rn45 rx46 I47 mu48 x51 (!x53) K))))) ∧ (¬ ((x51.Expr.Kind : Int) = 4) → (S_chaffref_Refs_J1 x43 rn45 rx46 I47 mu48 x51 false K)))))) ∧ (¬ (x43 < ((xl4 : Nat) : Int)) → (∀ (M68 : Mem) (ad66 : Option Addr) (cap67 : Nat), M6.le M68 → SlV M68 ad66 rn45 cap67 1 rx46 → (∀ M', M68.le M' → K (Value.slice ad66 rn45 cap67) M'))))))))
set_option maxRecDepth 100000 in
theorem s_chaffref_Refs (e1 : X_api_Expr) (M : Mem) (K : Value → Mem → Prop) (hS : S_chaffref_Refs e1 M K) : CallE Try.prog 112 #[e1.val] M K := by
 refine enterE Try.func112 rfl 33 rfl (Nat.le_of_ble_eq_true rfl) (fun E a hs => ?_)
 unfold S_chaffref_Refs at hS
 have hMM := MX.refl M E
 change Sx 33 E [] M E a [(0, e1.val)] [] [] at hs
 refine Wp.seq (Wp.region (stepBox e1.cells hs rfl rfl rfl (by decide) (fun _ _ b2 hEb2 hs => ?_)))
 refine sP (.slice none 0 0) hs fun _ hs => ?_
 refine wpList_nil (Wp.seq (Wp.region (sP (.slice none 0 0) hs fun _ hs => ?_)))
 have hs := hs.nilrow 9 1
 refine wpList_nil (Wp.seq (Wp.seq (Wp.region (sY e1.val hs (Yl.lB e1.cells true 0) fun _ hs => ?_))))
 refine stepCallE [e1.val] hs rfl ⟨_, rfl, rfl⟩ rfl Try.func60 rfl (by kernel_rfl) (by decide) hS (fun _ _ M6 v hle hnew hS hs => ?_)
 have hMM := hMM.next hle hnew
 obtain ⟨xa3, xl4, xc5, hv, hS⟩ := hS
 subst hv
 refine sP (iv ((xl4 : Nat) : Int)) hs fun _ hs => ?_
 refine sP (iv 0) hs fun _ hs => ?_
 refine wpList_nil (Wp.block ?_)
 obtain ⟨I47, mu48, hI0, hst⟩ := hS
 refine Wp.loop (σ := (Int) × (Nat) × (List Value) × (Value)) (fun s a w => match s with | (x43, rn45, rx46, rv44) => Sx 33 E [] M6 w a [(3, rv44), (7, (.slice xa3 xl4 xc5)), (8, (iv ((xl4 : Nat) : Int))), (9, (iv x43))] [⟨b2, 109, e1.cells⟩] [⟨rv44, 9, 1, rn45, rx46, true⟩] ∧ I47 x43 rn45 rx46) (fun s => match s with | (x43, rn45, rx46, rv44) => mu48 x43 rn45 rx46) (0, 0, [], (.slice none 0 0)) ⟨(hs.wk ⟨rfl, rfl, rfl, rfl, trivial⟩), hI0⟩ (fun s a w hI => ?_)
 obtain ⟨x43, rn45, rx46, rv44⟩ := s
 obtain ⟨hs, hI⟩ := hI
 have hS := hst x43 rn45 rx46 hI
 clear hst hI0 hI
 refine Wp.seq (Wp.region (sP (.bool (decide (x43 < ((xl4 : Nat) : Int)))) hs fun _ hs => ?_))
 refine wpList_nil (Wp.seq (Wp.cond hs rfl rfl decide_eq_true_iff (fun hc => ?_) (fun hc => ?_)))
 ·have hS := hS.1 hc
  refine Wp.skip (Wp.join (fun a w => ∃ (rn64 : Nat) (rx65 : List Value) (rv63 : Value), Sx 33 E [] M6 w a [(3, rv63), (7, (.slice xa3 xl4 xc5)), (8, (iv ((xl4 : Nat) : Int))), (9, (iv x43))] [⟨b2, 109, e1.cells⟩] [⟨rv63, 9, 1, rn64, rx65, true⟩] ∧ (S_chaffref_Refs_J2 x43 rn45 rx46 I47 mu48 rn64 rx65 K)) ?_ ?_)
  ·refine Wp.block (Wp.seq (Wp.region ?_))
   obtain ⟨b49, o50, ha, h0, hl, hS⟩ := hS
   refine sY (.pointer (some ⟨b49, o50 + x43.toNat * 8, none⟩)) hs (Yl.indexS (e := 122) (sz := 8) rfl rfl rfl rfl (by kernel_rfl) (by kernel_rfl) ha h0 hl) fun _ hs => ?_
   obtain ⟨x51, hat, hS⟩ := hS
   refine sY x51.val hs (Yl.loadV (vs := x51.cells) true rfl rfl (by kernel_rfl) hat) fun _ hs => ?_
   refine stepAlloc [(iv 0), (.int .u64 0), (.int .u64 0), (.int .u64 0), (.int .u64 0), (.string (mkS [])), (.slice none 0 0), (iv 0)] hs (by kernel_rfl) (by decide) (fun _ _ b52 hEb52 hs => ?_)
   refine stB 0 x51.cells [⟨b52, 122, x51.cells⟩, ⟨b2, 109, e1.cells⟩] hs fun _ _ hs => ?_
   refine wpList_nil (Wp.join (fun a w => ∃ (x57 : Bool) (rv58 : Value), Sx 33 E [] M6 w a [(3, rv58), (5, (pt b52 0)), (7, (.slice xa3 xl4 xc5)), (8, (iv ((xl4 : Nat) : Int))), (9, (iv x43)), (24, (.bool x57))] [⟨b52, 122, x51.cells⟩, ⟨b2, 109, e1.cells⟩] [⟨rv58, 9, 1, rn45, rx46, true⟩] ∧ (S_chaffref_Refs_J1 x43 rn45 rx46 I47 mu48 x51 x57 K)) ?_ ?_)
   ·refine Wp.region (sP (pt b52 0) hs fun _ hs => ?_)
    refine sP (pt b52 0) hs fun _ hs => ?_
    refine sY (iv x51.Expr.Kind) hs (Yl.lB [(iv x51.Expr.Kind)] false 0) fun _ hs => ?_
    refine sP (.bool ((x51.Expr.Kind : Int) == (4 : Int))) hs fun _ hs => ?_
    refine sP (.bool ((x51.Expr.Kind : Int) == (4 : Int))) hs fun _ hs => ?_
    refine bsplit ((x51.Expr.Kind : Int) == (4 : Int)) beq_iff_eq (fun hb hc => ?_) (fun hb hc => ?_)
    ·have hs := hs.bt hb
     have hS := hS.1 hc
     refine sYe hs (sP rv44 hs fun _ hs => ?_)
     refine sYe hs (sP (pt b52 0) hs fun _ hs => ?_)
     refine sYe hs (sP (pt b52 5) hs fun _ hs => ?_)
     refine sYe hs (sY (.string (mkS x51.Expr.Text)) hs (Yl.lB [(.string (mkS x51.Expr.Text))] false 0) fun _ hs => ?_)
     refine sYe hs ?_
     obtain ⟨ad54, cap55, hv, hcp, hxl⟩ := hs.rowform 0 rfl
     dsimp only at hv hcp hxl
     subst hv
     have hS := hS _ ad54 cap55 hs.on.hm (hs.peek 0 rfl)
     refine stepCallPr [(.slice ad54 rn45 cap55), (.string (mkS x51.Expr.Text))] hs rfl ⟨_, rfl, rfl⟩ rfl Try.func147 rfl (by kernel_rfl) (by decide) hS (fun _ _ v hS hs => ?_)
     obtain ⟨x53, hv, hS⟩ := hS
     subst hv
     refine sYe hs (sP (.bool (!x53)) hs fun _ hs => ?_)
     refine sP (.bool (!x53)) hs fun _ hs => ?_
     exact wpList_nil (⟨(!x53), (.slice ad54 rn45 cap55), (hs.wk ⟨rfl, rfl, rfl, rfl, rfl, rfl, trivial⟩), hS⟩)
    ·have hs := hs.bf hb
     have hS := hS.2 hc
     refine sNo hs fun _ hs => ?_
     refine sNo hs fun _ hs => ?_
     refine sNo hs fun _ hs => ?_
     refine sNo hs fun _ hs => ?_
     refine sNo hs fun _ hs => ?_
     refine sNo hs fun _ hs => ?_
     refine sP (.bool false) hs fun _ hs => ?_
     exact wpList_nil (⟨false, rv44, (hs.wk ⟨rfl, rfl, rfl, rfl, rfl, rfl, trivial⟩), hS⟩)
   ·intro a w hJ
    obtain ⟨x57, rv58, hs, hS⟩ := hJ
    unfold S_chaffref_Refs_J1 at hS
    refine Wp.cond hs rfl rfl Iff.rfl (fun hc => ?_) (fun hc => ?_)
    ·have hS := hS.1 hc
     refine Wp.region (sP rv58 hs fun _ hs => ?_)
     refine sP (pt b52 0) hs fun _ hs => ?_
     refine sP (pt b52 5) hs fun _ hs => ?_
     refine sY (.string (mkS x51.Expr.Text)) hs (Yl.lB [(.string (mkS x51.Expr.Text))] false 0) fun _ hs => ?_
     refine stepMake [(.string (mkS x51.Expr.Text))] 9 1 1 hs rfl rfl rfl (fun _ => by kernel_rfl) rfl (by unfold maxLen; decide) (by decide) (fun _ _ rv59 hs => ?_)
     obtain ⟨ad60, cap61, hv, hcp, hxl⟩ := hs.rowform 0 rfl
     dsimp only at hv hcp hxl
     subst hv
     obtain ⟨hB, hS⟩ := hS
     refine stepAppend 1 [(.string (mkS x51.Expr.Text))] hs rfl rfl rfl rfl rfl (by kernel_rfl) (by kernel_rfl) (by decide) (by decide) (hs.srcRow 0 rfl rfl) (lenb hB (by decide)) hB (fun _ _ rv62 hs => ?_)
     replace hs := hs.chrs (rs' := [⟨(Value.slice ad60 1 cap61), 9, 1, 1, [(.string (mkS x51.Expr.Text))], true⟩, ⟨rv62, 9, 1, (rn45 + 1), (rx46 ++ [(.string (mkS x51.Expr.Text))]), true⟩]) rfl
     refine sP rv62 hs fun _ hs => ?_
     exact wpList_nil (⟨(rn45 + 1), (rx46 ++ [(.string (mkS x51.Expr.Text))]), rv62, (hs.weak (.cons _ (.cons_cons _ List.Sublist.slnil)) (.cons _ (.cons_cons _ List.Sublist.slnil)) ⟨rfl, rfl, rfl, rfl, trivial⟩), hS⟩)
    ·have hS := hS.2 hc
     exact Wp.skip (⟨rn45, rx46, rv58, (hs.weak (.cons _ (.cons_cons _ List.Sublist.slnil)) (List.Sublist.refl _) ⟨rfl, rfl, rfl, rfl, trivial⟩), hS⟩)
  ·intro a w hJ
   obtain ⟨rn64, rx65, rv63, hs, hS⟩ := hJ
   unfold S_chaffref_Refs_J2 at hS
   refine Wp.region ?_
   obtain ⟨hI, hS⟩ := hS
   refine sY (iv (x43 + 1)) hs (Yl.eq (Yl.pure (v := Value.int .i64 (IntKind.wrap .i64 (x43 + 1))) rfl (fun _ => by kernel_rfl)) (congrArg (Value.int .i64) (wrap_in hI))) fun _ hs => ?_
   refine sP (iv (x43 + 1)) hs fun _ hs => ?_
   exact wpList_nil (⟨(x43 + 1, rn64, rx65, rv63), ⟨(hs.wk ⟨rfl, rfl, rfl, rfl, trivial⟩), hS.1⟩, hS.2⟩)
 ·have hS := hS.2 hc
  refine Wp.exit rfl (Wp.seq (Wp.region (sP rv44 hs fun _ hs => ?_)))
  refine sP rv44 hs fun _ hs => ?_
  refine wpList_nil (Wp.ret ?_)
  obtain ⟨ad66, cap67, hv, hcp, hxl⟩ := hs.rowform 0 rfl
  dsimp only at hv hcp hxl
  subst hv
  obtain ⟨M68, hle, hsl, hnew, hs⟩ := hs.release 0 rfl [] rfl
  have hMM := hMM.next hle hnew
  have hS := hS M68 ad66 cap67 hle hsl
  exact leaveE (K := K) hs (resT hs rfl rfl) hMM.2 hS
def S_chaffref_Gram (ga1 : Option Addr) (gl2 : Nat) (gc3 : Nat) (M : Mem) (K : Value → Prop) : Prop :=
 ((((gl2 : Nat) : Int) < 1 → K (Value.int .i64 1)) ∧ (¬ (((gl2 : Nat) : Int) < 1) → ((((gl2 : Nat) : Int) > 10 → K (Value.int .i64 2)) ∧ (¬ (((gl2 : Nat) : Int) > 10) → (∃ (I37 : Int → Int → Mem → Prop) (mu38 : Int → Int → Nat), I37 0 0 M ∧ ∀ (n34 : Int) (x35 : Int) (M36 : Mem), (I37 n34 x35 M36 → ((x35 < ((gl2 : Nat) : Int) → (∃ (b39 o40 : Nat), ga1 = some ⟨b39, o40, none⟩ ∧ (0 : Int) ≤ x35 ∧ x35 < ((gl2 : Nat) : Int) ∧ (∃ (x41 : X_api_Rule), At M36 b39 (o40 + x35.toNat * 8) x41.cells ∧ (CallE Try.prog 110 #[(.string (mkS x41.Name))] M36 (fun v _ => ∃ (x43 : Bool), v = (Value.bool x43) ∧ ((¬ (x43 = true) → K (Value.int .i64 6)) ∧ (¬ (¬ (x43 = true)) → (CallE Try.prog 100 #[(.agg #[(.slice ga1 gl2 gc3)]), (.string (mkS x41.Name))] M36 (fun v _ => ∃ (x44 : Int), v = (Value.int .i64 x44) ∧ ((x44 < x35 → K (Value.int .i64 7)) ∧ (¬ (x44 < x35) → (CallE Try.prog 111 #[x41.Body.val] M36 (fun v _ => ∃ (x45 : Int), v = (Value.int .i64 x45) ∧ (((x45 : Int) ≠ 0 → (CallE Try.prog 111 #[x41.Body.val] M36 (fun v _ => ∃ (x46 : Int), v = (Value.int .i64 x46) ∧ K (Value.int .i64 x46)))) ∧ (¬ ((x45 : Int) ≠ 0) → (CallE Try.prog 60 #[x41.Body.val] M36 (fun v M50 => ∃ (xa47 : Option Addr) (xl48 : Nat) (xc49 : Nat), v = (Value.slice xa47 xl48 xc49) ∧ (InI (n34 + ((xl48 : Nat) : Int)) ∧ (InI (x35 + 1) ∧ I37 (n34 + ((xl48 : Nat) : Int)) (x35 + 1) M50 ∧ mu38 (n34 + ((xl48 : Nat) : Int)) (x35 + 1) < mu38 n34 x35))))))))))))))))))) ∧ (¬ (x35 < ((gl2 : Nat) : Int)) → ((n34 > 120 → K (Value.int .i64 2)) ∧ (¬ (n34 > 120) → (∃ (I96 : Int → Mem → Prop) (mu97 : Int → Nat), I96 0 M36 ∧ ∀ (x94 : Int) (M95 : Mem), (I96 x94 M95 → ((x94 < ((gl2 : Nat) : Int) → (∃ (b98 o99 : Nat), ga1 = some ⟨b98, o99, none⟩ ∧ (0 : Int) ≤ x94 ∧ x94 < ((gl2 : Nat) : Int) ∧ (∃ (x100 : X_api_Rule), At M95 b98 (o99 + x94.toNat * 8) x100.cells ∧ (CallE Try.prog 112 #[x100.Body.val] M95 (fun v M105 => ∃ (xa102 : Option Addr) (xl103 : Nat) (xc104 : Nat), v = (Value.slice xa102 xl103 xc104) ∧ (∃ (I112 : Int → Prop) (mu113 : Int → Nat), I112 0 ∧ ∀ (x111 : Int), (I112 x111 → ((x111 < ((xl103 : Nat) : Int) → (∃ (b114 o115 : Nat), xa102 = some ⟨b114, o115, none⟩ ∧ (0 : Int) ≤ x111 ∧ x111 < ((xl103 : Nat) : Int) ∧ (∃ (x116 : List UInt8), At M105 b114 (o115 + x111.toNat * 1) [(.string (mkS x116))] ∧ (CallE Try.prog 100 #[(.agg #[(.slice ga1 gl2 gc3)]), (.string (mkS x116))] M105 (fun v _ => ∃ (x117 : Int), v = (Value.int .i64 x117) ∧ ((x117 < 0 → K (Value.int .i64 6)) ∧ (¬ (x117 < 0) → (InI (x111 + 1) ∧ I112 (x111 + 1) ∧ mu113 (x111 + 1) < mu113 x111)))))))) ∧ (¬ (x111 < ((xl103 : Nat) : Int)) → (InI (x94 + 1) ∧ I96 (x94 + 1) M105 ∧ mu97 (x94 + 1) < mu97 x94)))))))))) ∧ (¬ (x94 < ((gl2 : Nat) : Int)) → K (Value.int .i64 0)))))))))))))))
set_option maxRecDepth 100000 in
theorem s_chaffref_Gram (ga1 : Option Addr) (gl2 : Nat) (gc3 : Nat) (M : Mem) (K : Value → Prop) (hS : S_chaffref_Gram ga1 gl2 gc3 M K) : CallE Try.prog 58 #[(Value.agg #[(Value.slice ga1 gl2 gc3)])] M (fun v _ => K v) := by
 refine enterE Try.func58 rfl 76 rfl (Nat.le_of_ble_eq_true rfl) (fun E a hs => ?_)
 unfold S_chaffref_Gram at hS
 have hMM := MX.refl M E
 change Sx 76 E [] M E a [(0, (.agg #[(.slice ga1 gl2 gc3)]))] [] [] at hs
 refine Wp.seq (Wp.region (stepBox [(.slice ga1 gl2 gc3)] hs rfl rfl rfl (by decide) (fun _ _ b4 hEb4 hs => ?_)))
 refine sP (iv 0) hs fun _ hs => ?_
 refine wpList_nil (Wp.seq (Wp.seq (Wp.region (sP (pt b4 0) hs fun _ hs => ?_))))
 refine sY (.slice ga1 gl2 gc3) hs (Yl.lB [(.slice ga1 gl2 gc3)] false 0) fun _ hs => ?_
 refine sP (iv ((gl2 : Nat) : Int)) hs fun _ hs => ?_
 refine sP (.bool (decide (((gl2 : Nat) : Int) < 1))) hs fun _ hs => ?_
 refine wpList_nil (Wp.cond hs rfl rfl decide_eq_true_iff (fun hc => ?_) (fun hc => ?_))
 ·have hS := hS.1 hc
  refine Wp.seq (Wp.region (sP (iv 1) hs fun _ hs => ?_))
  exact wpList_nil (Wp.ret (lvE K hs (resT hs rfl rfl) hMM.2 hS))
 ·have hS := hS.2 hc
  refine Wp.skip (Wp.seq (Wp.seq (Wp.region (sP (pt b4 0) hs fun _ hs => ?_))))
  refine sY (.slice ga1 gl2 gc3) hs (Yl.lB [(.slice ga1 gl2 gc3)] false 0) fun _ hs => ?_
  refine sP (iv ((gl2 : Nat) : Int)) hs fun _ hs => ?_
  refine sP (.bool (decide (((gl2 : Nat) : Int) > 10))) hs fun _ hs => ?_
  refine wpList_nil (Wp.cond hs rfl rfl decide_eq_true_iff (fun hc => ?_) (fun hc => ?_))
  ·have hS := hS.1 hc
   refine Wp.seq (Wp.region (sP (iv 2) hs fun _ hs => ?_))
   exact wpList_nil (Wp.ret (lvE K hs (resT hs rfl rfl) hMM.2 hS))
  ·have hS := hS.2 hc
   refine Wp.skip (Wp.seq (Wp.region (sP (iv 0) hs fun _ hs => ?_)))
   refine wpList_nil (Wp.seq (Wp.seq (Wp.region (sP (pt b4 0) hs fun _ hs => ?_))))
   refine sY (.slice ga1 gl2 gc3) hs (Yl.lB [(.slice ga1 gl2 gc3)] false 0) fun _ hs => ?_
   refine sP (iv ((gl2 : Nat) : Int)) hs fun _ hs => ?_
   refine sP (iv 0) hs fun _ hs => ?_
   refine wpList_nil (Wp.block ?_)
   obtain ⟨I37, mu38, hI0, hst⟩ := hS
   refine Wp.loop (σ := (Int) × (Int) × (Mem)) (fun s a w => match s with | (n34, x35, M36) => MX M36 M E ∧ Sx 76 E [] M36 w a [(1, (pt b4 0)), (3, (iv n34)), (19, (.slice ga1 gl2 gc3)), (20, (iv ((gl2 : Nat) : Int))), (21, (iv x35))] [⟨b4, 24, [(.slice ga1 gl2 gc3)]⟩] [] ∧ I37 n34 x35 M36) (fun s => match s with | (n34, x35, M36) => mu38 n34 x35) (0, 0, M) ⟨hMM, (hs.wk ⟨rfl, rfl, rfl, rfl, rfl, trivial⟩), hI0⟩ (fun s a w hI => ?_)
   obtain ⟨n34, x35, M36⟩ := s
   obtain ⟨hMM, hs, hI⟩ := hI
   have hS := hst n34 x35 M36 hI
   clear hst hI0 hI
   refine Wp.seq (Wp.region (sP (.bool (decide (x35 < ((gl2 : Nat) : Int)))) hs fun _ hs => ?_))
   refine wpList_nil (Wp.seq (Wp.cond hs rfl rfl decide_eq_true_iff (fun hc => ?_) (fun hc => ?_)))
   ·have hS := hS.1 hc
    refine Wp.skip (Wp.seq (Wp.block (Wp.seq (Wp.region (sP (iv x35) hs fun _ hs => ?_)))))
    obtain ⟨b39, o40, ha, h0, hl, hS⟩ := hS
    refine sY (.pointer (some ⟨b39, o40 + x35.toNat * 8, none⟩)) hs (Yl.indexS (e := 111) (sz := 8) rfl rfl rfl rfl (by kernel_rfl) (by kernel_rfl) ha h0 hl) fun _ hs => ?_
    obtain ⟨x41, hat, hS⟩ := hS
    refine sY x41.val hs (Yl.loadV (vs := x41.cells) true rfl rfl (by kernel_rfl) hat) fun _ hs => ?_
    refine stepAlloc [(.string (mkS [])), (iv 0), (.int .u64 0), (.int .u64 0), (.int .u64 0), (.int .u64 0), (.string (mkS [])), (.slice none 0 0)] hs (by kernel_rfl) (by decide) (fun _ _ b42 hEb42 hs => ?_)
    refine sP (iv x35) hs fun _ hs => ?_
    refine stB 0 x41.cells [⟨b42, 111, x41.cells⟩, ⟨b4, 24, [(.slice ga1 gl2 gc3)]⟩] hs fun _ _ hs => ?_
    refine wpList_nil (Wp.seq (Wp.block (Wp.seq (Wp.region (sP (pt b42 0) hs fun _ hs => ?_)))))
    refine sY (.string (mkS x41.Name)) hs (Yl.lB [(.string (mkS x41.Name))] false 0) fun _ hs => ?_
    refine stepCallP [(.string (mkS x41.Name))] hs rfl ⟨_, rfl, rfl⟩ rfl Try.func110 rfl (by kernel_rfl) (by decide) hS (fun _ _ v hS hs => ?_)
    obtain ⟨x43, hv, hS⟩ := hS
    subst hv
    refine sP (.bool (!x43)) hs fun _ hs => ?_
    refine sP (.bool (!x43)) hs fun _ hs => ?_
    refine wpList_nil (Wp.cond hs rfl rfl (bnot_iff Iff.rfl) (fun hc => ?_) (fun hc => ?_))
    ·have hS := hS.1 hc
     refine Wp.seq (Wp.region (sP (iv 6) hs fun _ hs => ?_))
     exact wpList_nil (Wp.ret (lvE K hs (resT hs rfl rfl) hMM.2 hS))
    ·have hS := hS.2 hc
     refine Wp.seq (Wp.region (sY (.agg #[(.slice ga1 gl2 gc3)]) hs (Yl.lB [(.slice ga1 gl2 gc3)] true 1) fun _ hs => ?_))
     refine sP (pt b42 0) hs fun _ hs => ?_
     refine sY (.string (mkS x41.Name)) hs (Yl.lB [(.string (mkS x41.Name))] false 0) fun _ hs => ?_
     refine stepCallP [(.agg #[(.slice ga1 gl2 gc3)]), (.string (mkS x41.Name))] hs rfl ⟨_, rfl, rfl⟩ rfl Try.func100 rfl (by kernel_rfl) (by decide) hS (fun _ _ v hS hs => ?_)
     obtain ⟨x44, hv, hS⟩ := hS
     subst hv
     refine sP (iv x35) hs fun _ hs => ?_
     refine sP (.bool (decide (x44 < x35))) hs fun _ hs => ?_
     refine sP (.bool (decide (x44 < x35))) hs fun _ hs => ?_
     refine wpList_nil (Wp.cond hs rfl rfl decide_eq_true_iff (fun hc => ?_) (fun hc => ?_))
     ·have hS := hS.1 hc
      refine Wp.seq (Wp.region (sP (iv 7) hs fun _ hs => ?_))
      exact wpList_nil (Wp.ret (lvE K hs (resT hs rfl rfl) hMM.2 hS))
     ·have hS := hS.2 hc
      refine Wp.seq (Wp.region (sP (pt b42 1) hs fun _ hs => ?_))
      refine sY x41.Body.val hs (Yl.lB x41.Body.cells true 0) fun _ hs => ?_
      refine stepCallP [x41.Body.val] hs rfl ⟨_, rfl, rfl⟩ rfl Try.func111 rfl (by kernel_rfl) (by decide) hS (fun _ _ v hS hs => ?_)
      obtain ⟨x45, hv, hS⟩ := hS
      subst hv
      refine sP (.bool ((x45 : Int) != (0 : Int))) hs fun _ hs => ?_
      refine sP (.bool ((x45 : Int) != (0 : Int))) hs fun _ hs => ?_
      refine wpList_nil (Wp.cond hs rfl rfl bne_iff_ne (fun hc => ?_) (fun hc => ?_))
      ·have hS := hS.1 hc
       refine Wp.seq (Wp.region (sP (pt b42 1) hs fun _ hs => ?_))
       refine sY x41.Body.val hs (Yl.lB x41.Body.cells true 0) fun _ hs => ?_
       refine stepCallP [x41.Body.val] hs rfl ⟨_, rfl, rfl⟩ rfl Try.func111 rfl (by kernel_rfl) (by decide) hS (fun _ _ v hS hs => ?_)
       obtain ⟨x46, hv, hS⟩ := hS
       subst hv
       refine sP (iv x46) hs fun _ hs => ?_
       exact wpList_nil (Wp.ret (lvE K hs (resT hs rfl rfl) hMM.2 hS))
      ·have hS := hS.2 hc
       refine Wp.skip (Wp.region (sP (iv n34) hs fun _ hs => ?_))
       refine sP (pt b42 1) hs fun _ hs => ?_
       refine sY x41.Body.val hs (Yl.lB x41.Body.cells true 0) fun _ hs => ?_
       refine stepCallE [x41.Body.val] hs rfl ⟨_, rfl, rfl⟩ rfl Try.func60 rfl (by kernel_rfl) (by decide) hS (fun _ _ M50 v hle hnew hS hs => ?_)
       have hMM := hMM.next hle hnew
       obtain ⟨xa47, xl48, xc49, hv, hS⟩ := hS
       subst hv
       refine sP (iv ((xl48 : Nat) : Int)) hs fun _ hs => ?_
       obtain ⟨hI, hS⟩ := hS
       refine sY (iv (n34 + ((xl48 : Nat) : Int))) hs (Yl.eq (Yl.pure (v := Value.int .i64 (IntKind.wrap .i64 (n34 + ((xl48 : Nat) : Int)))) rfl (fun _ => by kernel_rfl)) (congrArg (Value.int .i64) (wrap_in hI))) fun _ hs => ?_
       refine sP (iv (n34 + ((xl48 : Nat) : Int))) hs fun _ hs => ?_
       refine wpList_nil (Wp.region ?_)
       obtain ⟨hI, hS⟩ := hS
       refine sY (iv (x35 + 1)) hs (Yl.eq (Yl.pure (v := Value.int .i64 (IntKind.wrap .i64 (x35 + 1))) rfl (fun _ => by kernel_rfl)) (congrArg (Value.int .i64) (wrap_in hI))) fun _ hs => ?_
       refine sP (iv (x35 + 1)) hs fun _ hs => ?_
       exact wpList_nil (⟨(n34 + ((xl48 : Nat) : Int), x35 + 1, M50), ⟨hMM, (hs.weak (.cons _ (.cons_cons _ List.Sublist.slnil)) (List.Sublist.refl _) ⟨rfl, rfl, rfl, rfl, rfl, trivial⟩), hS.1⟩, hS.2⟩)
   ·have hS := hS.2 hc
    refine Wp.exit rfl (Wp.seq (Wp.seq (Wp.region (sP (iv n34) hs fun _ hs => ?_))))
    refine sP (.bool (decide (n34 > 120))) hs fun _ hs => ?_
    refine wpList_nil (Wp.cond hs rfl rfl decide_eq_true_iff (fun hc => ?_) (fun hc => ?_))
    ·have hS := hS.1 hc
     refine Wp.seq (Wp.region (sP (iv 2) hs fun _ hs => ?_))
     exact wpList_nil (Wp.ret (lvE K hs (resT hs rfl rfl) hMM.2 hS))
    ·have hS := hS.2 hc
     refine Wp.skip (Wp.seq (Wp.seq (Wp.region (sP (pt b4 0) hs fun _ hs => ?_))))
     refine sY (.slice ga1 gl2 gc3) hs (Yl.lB [(.slice ga1 gl2 gc3)] false 0) fun _ hs => ?_
     refine sP (iv ((gl2 : Nat) : Int)) hs fun _ hs => ?_
     refine sP (iv 0) hs fun _ hs => ?_
     refine wpList_nil (Wp.block ?_)
     obtain ⟨I96, mu97, hI0, hst⟩ := hS
     refine Wp.loop (σ := (Int) × (Mem)) (fun s a w => match s with | (x94, M95) => MX M95 M E ∧ Sx 76 E [] M95 w a [(1, (pt b4 0)), (56, (.slice ga1 gl2 gc3)), (57, (iv ((gl2 : Nat) : Int))), (58, (iv x94))] [⟨b4, 24, [(.slice ga1 gl2 gc3)]⟩] [] ∧ I96 x94 M95) (fun s => match s with | (x94, M95) => mu97 x94) (0, M36) ⟨hMM, (hs.wk ⟨rfl, rfl, rfl, rfl, trivial⟩), hI0⟩ (fun s a w hI => ?_)
     obtain ⟨x94, M95⟩ := s
     obtain ⟨hMM, hs, hI⟩ := hI
     have hS := hst x94 M95 hI
     clear hst hI0 hI
     refine Wp.seq (Wp.region (sP (.bool (decide (x94 < ((gl2 : Nat) : Int)))) hs fun _ hs => ?_))
     refine wpList_nil (Wp.seq (Wp.cond hs rfl rfl decide_eq_true_iff (fun hc => ?_) (fun hc => ?_)))
     ·have hS := hS.1 hc
      refine Wp.skip (Wp.seq (Wp.block (Wp.seq (Wp.region ?_))))
      obtain ⟨b98, o99, ha, h0, hl, hS⟩ := hS
      refine sY (.pointer (some ⟨b98, o99 + x94.toNat * 8, none⟩)) hs (Yl.indexS (e := 111) (sz := 8) rfl rfl rfl rfl (by kernel_rfl) (by kernel_rfl) ha h0 hl) fun _ hs => ?_
      obtain ⟨x100, hat, hS⟩ := hS
      refine sY x100.val hs (Yl.loadV (vs := x100.cells) true rfl rfl (by kernel_rfl) hat) fun _ hs => ?_
      refine stepAlloc [(.string (mkS [])), (iv 0), (.int .u64 0), (.int .u64 0), (.int .u64 0), (.int .u64 0), (.string (mkS [])), (.slice none 0 0)] hs (by kernel_rfl) (by decide) (fun _ _ b101 hEb101 hs => ?_)
      refine stB 0 x100.cells [⟨b101, 111, x100.cells⟩, ⟨b4, 24, [(.slice ga1 gl2 gc3)]⟩] hs fun _ _ hs => ?_
      refine wpList_nil (Wp.seq (Wp.region (sP (pt b101 1) hs fun _ hs => ?_)))
      refine sY x100.Body.val hs (Yl.lB x100.Body.cells true 0) fun _ hs => ?_
      refine stepCallE [x100.Body.val] hs rfl ⟨_, rfl, rfl⟩ rfl Try.func112 rfl (by kernel_rfl) (by decide) hS (fun _ _ M105 v hle hnew hS hs => ?_)
      have hMM := hMM.next hle hnew
      obtain ⟨xa102, xl103, xc104, hv, hS⟩ := hS
      subst hv
      refine sP (iv ((xl103 : Nat) : Int)) hs fun _ hs => ?_
      refine sP (iv 0) hs fun _ hs => ?_
      refine wpList_nil (Wp.block ?_)
      obtain ⟨I112, mu113, hI0, hst⟩ := hS
      refine Wp.loop (σ := (Int)) (fun s a w => match s with | (x111) => Sx 76 E [] M105 w a [(1, (pt b4 0)), (56, (.slice ga1 gl2 gc3)), (57, (iv ((gl2 : Nat) : Int))), (58, (iv x94)), (64, (.slice xa102 xl103 xc104)), (65, (iv ((xl103 : Nat) : Int))), (66, (iv x111))] [⟨b101, 111, x100.cells⟩, ⟨b4, 24, [(.slice ga1 gl2 gc3)]⟩] [] ∧ I112 x111) (fun s => match s with | (x111) => mu113 x111) (0) ⟨(hs.wk ⟨rfl, rfl, rfl, rfl, rfl, rfl, rfl, trivial⟩), hI0⟩ (fun x111 a w hI => ?_)
      obtain ⟨hs, hI⟩ := hI
      have hS := hst x111 hI
      clear hst hI0 hI
      refine Wp.seq (Wp.region (sP (.bool (decide (x111 < ((xl103 : Nat) : Int)))) hs fun _ hs => ?_))
      refine wpList_nil (Wp.seq (Wp.cond hs rfl rfl decide_eq_true_iff (fun hc => ?_) (fun hc => ?_)))
      ·have hS := hS.1 hc
       refine Wp.skip (Wp.seq (Wp.block (Wp.seq (Wp.region ?_))))
       obtain ⟨b114, o115, ha, h0, hl, hS⟩ := hS
       refine sY (.pointer (some ⟨b114, o115 + x111.toNat * 1, none⟩)) hs (Yl.indexS (e := 9) (sz := 1) rfl rfl rfl rfl (by kernel_rfl) (by kernel_rfl) ha h0 hl) fun _ hs => ?_
       obtain ⟨x116, hat, hS⟩ := hS
       refine sY (.string (mkS x116)) hs (Yl.loadV (vs := [(.string (mkS x116))]) false rfl rfl (by kernel_rfl) hat) fun _ hs => ?_
       refine sP (.string (mkS x116)) hs fun _ hs => ?_
       refine wpList_nil (Wp.seq (Wp.region (sY (.agg #[(.slice ga1 gl2 gc3)]) hs (Yl.lB [(.slice ga1 gl2 gc3)] true 1) fun _ hs => ?_)))
       refine sP (.string (mkS x116)) hs fun _ hs => ?_
       refine stepCallP [(.agg #[(.slice ga1 gl2 gc3)]), (.string (mkS x116))] hs rfl ⟨_, rfl, rfl⟩ rfl Try.func100 rfl (by kernel_rfl) (by decide) hS (fun _ _ v hS hs => ?_)
       obtain ⟨x117, hv, hS⟩ := hS
       subst hv
       refine sP (.bool (decide (x117 < 0))) hs fun _ hs => ?_
       refine wpList_nil (Wp.cond hs rfl rfl decide_eq_true_iff (fun hc => ?_) (fun hc => ?_))
       ·have hS := hS.1 hc
        refine Wp.seq (Wp.region (sP (iv 6) hs fun _ hs => ?_))
        exact wpList_nil (Wp.ret (lvE K hs (resT hs rfl rfl) hMM.2 hS))
       ·have hS := hS.2 hc
        refine Wp.skip (Wp.region ?_)
        obtain ⟨hI, hS⟩ := hS
        refine sY (iv (x111 + 1)) hs (Yl.eq (Yl.pure (v := Value.int .i64 (IntKind.wrap .i64 (x111 + 1))) rfl (fun _ => by kernel_rfl)) (congrArg (Value.int .i64) (wrap_in hI))) fun _ hs => ?_
        refine sP (iv (x111 + 1)) hs fun _ hs => ?_
        exact wpList_nil (⟨(x111 + 1), ⟨(hs.wk ⟨rfl, rfl, rfl, rfl, rfl, rfl, rfl, trivial⟩), hS.1⟩, hS.2⟩)
      ·have hS := hS.2 hc
       refine Wp.exit rfl (Wp.region ?_)
       obtain ⟨hI, hS⟩ := hS
       refine sY (iv (x94 + 1)) hs (Yl.eq (Yl.pure (v := Value.int .i64 (IntKind.wrap .i64 (x94 + 1))) rfl (fun _ => by kernel_rfl)) (congrArg (Value.int .i64) (wrap_in hI))) fun _ hs => ?_
       refine sP (iv (x94 + 1)) hs fun _ hs => ?_
       exact wpList_nil (⟨(x94 + 1, M105), ⟨hMM, (hs.weak (.cons _ (.cons_cons _ List.Sublist.slnil)) (List.Sublist.refl _) ⟨rfl, rfl, rfl, rfl, trivial⟩), hS.1⟩, hS.2⟩)
     ·have hS := hS.2 hc
      refine Wp.exit rfl (Wp.seq (Wp.region (sP (iv 0) hs fun _ hs => ?_)))
      exact wpList_nil (Wp.ret (lvE K hs (resT hs rfl rfl) hMM.2 hS))
end Go.Proofs.Ytifkffmecfgpeaa.core
