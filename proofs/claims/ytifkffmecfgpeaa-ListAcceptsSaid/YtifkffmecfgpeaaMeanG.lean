/- What the code computes, function for function, as shallow propositions; printed by program. -/
import Derived.Test.YtifkffmecfgpeaaM2
import Derived.Test.YtifkffmecfgpeaaFillG
namespace Go.Proofs.Ytifkffmecfgpeaa.core
open Go.Gx Go.RowKit Go.ChangeShapes Go.WideShapes Go.ChangeAt
set_option linter.unusedVariables false
structure X_chaffref_Tried where
 Kid : Int
 At : Int
def X_chaffref_Tried.cells (x : X_chaffref_Tried) : List Value := [(.int .i64 x.Kid), (.int .i64 x.At)]
def X_chaffref_Tried.val (x : X_chaffref_Tried) : Value := .agg x.cells.toArray
def S_internal_stringslite_HasPrefix (s1 : List UInt8) (prefix2 : List UInt8) (M : Mem) (K : Value → Prop) : Prop :=
 ((((s1.length : Nat) : Int) ≥ ((prefix2.length : Nat) : Int) → ((0 : Int) ≤ 0 ∧ (0 : Int) ≤ ((prefix2.length : Nat) : Int) ∧ ((prefix2.length : Nat) : Int) ≤ ((s1.length : Nat) : Int) ∧ K (Value.bool ((mkS ((s1.take ((prefix2.length : Nat) : Int).toNat).drop (0 : Int).toNat)).toList == (mkS prefix2).toList)))) ∧ (¬ (((s1.length : Nat) : Int) ≥ ((prefix2.length : Nat) : Int)) → K (Value.bool false)))
set_option maxRecDepth 100000 in
theorem s_internal_stringslite_HasPrefix (s1 : List UInt8) (prefix2 : List UInt8) (M : Mem) (K : Value → Prop) (hS : S_internal_stringslite_HasPrefix s1 prefix2 M K) : CallE Try.prog 135 #[(Value.string (mkS s1)), (Value.string (mkS prefix2))] M (fun v _ => K v) := by
 refine enterE Try.func135 rfl 18 rfl (Nat.le_of_ble_eq_true rfl) (fun E a hs => ?_); unfold S_internal_stringslite_HasPrefix at hS; have hMM := MX.refl M E; change Sx 18 E [] M E a [(0, (.string (mkS s1))), (1, (.string (mkS prefix2)))] [] [] at hs; refine Wp.seq (Wp.region (sP (.bool false) hs fun _ hs => ?_)); refine wpList_nil (Wp.seq (Wp.region (sP (.string (mkS s1)) hs fun _ hs => ?_))); refine sP (iv (s1.length : Int)) hs fun _ hs => ?_; refine sP (.string (mkS prefix2)) hs fun _ hs => ?_; refine sP (iv (prefix2.length : Int)) hs fun _ hs => ?_; refine sP (.bool (decide ((s1.length : Int) ≥ (prefix2.length : Int)))) hs fun _ hs => ?_; refine sP (.bool (decide ((s1.length : Int) ≥ (prefix2.length : Int)))) hs fun _ hs => ?_; refine bsS decide_eq_true_iff hs hS (fun hs hS => ?_) (fun hs hS => ?_)
 ·refine sYe hs (sP (.string (mkS s1)) hs fun _ hs => ?_); refine sYe hs (sP (.string (mkS prefix2)) hs fun _ hs => ?_); refine sYe hs (sP (iv (prefix2.length : Int)) hs fun _ hs => ?_); refine sYe hs ?_; obtain ⟨h0, h1, h2, hS⟩ := hS; refine sY (.string (mkS ((s1.take (prefix2.length : Int).toNat).drop (0 : Int).toNat))) hs (Yl.sliceStrH rfl rfl rfl rfl (by kernel_rfl) h0 h1 h2) fun _ hs => ?_; refine sYe hs (sP (.string (mkS prefix2)) hs fun _ hs => ?_); refine sYe hs (sP (.bool ((mkS ((s1.take (prefix2.length : Int).toNat).drop (0 : Int).toNat)).toList == (mkS prefix2).toList)) hs fun _ hs => ?_); refine sP (.bool ((mkS ((s1.take (prefix2.length : Int).toNat).drop (0 : Int).toNat)).toList == (mkS prefix2).toList)) hs fun _ hs => ?_; refine sP (.bool ((mkS ((s1.take (prefix2.length : Int).toNat).drop (0 : Int).toNat)).toList == (mkS prefix2).toList)) hs fun _ hs => ?_; exact wpList_nil (Wp.ret (lvE K hs (resT hs rfl rfl) hMM.2 hS))
 ·repeat (first | refine sNo hs fun _ hs => ?_ | refine sNu hs fun _ hs => ?_)
  refine sP (.bool false) hs fun _ hs => ?_; refine sP (.bool false) hs fun _ hs => ?_; exact wpList_nil (Wp.ret (lvE K hs (resT hs rfl rfl) hMM.2 hS))
def S_strings_HasPrefix (s1 : List UInt8) (prefix2 : List UInt8) (M : Mem) (K : Value → Prop) : Prop :=
 (CallE Try.prog 135 #[(.string (mkS s1)), (.string (mkS prefix2))] M (fun v _ => ∃ (x3 : Bool), v = (Value.bool x3) ∧ K (Value.bool x3)))
set_option maxRecDepth 100000 in
theorem s_strings_HasPrefix (s1 : List UInt8) (prefix2 : List UInt8) (M : Mem) (K : Value → Prop) (hS : S_strings_HasPrefix s1 prefix2 M K) : CallE Try.prog 97 #[(Value.string (mkS s1)), (Value.string (mkS prefix2))] M (fun v _ => K v) := by
 refine enterE Try.func97 rfl 8 rfl (Nat.le_of_ble_eq_true rfl) (fun E a hs => ?_); unfold S_strings_HasPrefix at hS; have hMM := MX.refl M E; change Sx 8 E [] M E a [(0, (.string (mkS s1))), (1, (.string (mkS prefix2)))] [] [] at hs; refine Wp.seq (Wp.region (sP (.bool false) hs fun _ hs => ?_)); refine wpList_nil (Wp.seq (Wp.region (sP (.string (mkS s1)) hs fun _ hs => ?_))); refine sP (.string (mkS prefix2)) hs fun _ hs => ?_; refine cP [(.string (mkS s1)), (.string (mkS prefix2))] hs Try.func135 hS fun _ _ v hS hs => ?_; obtain ⟨x3, hv, hS⟩ := hS; subst hv; refine sP (.bool x3) hs fun _ hs => ?_; exact wpList_nil (Wp.ret (lvE K hs (resT hs rfl rfl) hMM.2 hS))
end Go.Proofs.Ytifkffmecfgpeaa.core
