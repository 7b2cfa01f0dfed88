/- What the code computes, function for function, as shallow propositions; printed by program. -/
import Derived.Test.YtifkffmecfgpeaaWellG
namespace Go.Proofs.Ytifkffmecfgpeaa.core
open Go.Gx Go.RowKit Go.ChangeShapes Go.WideShapes Go.ChangeAt
set_option linter.unusedVariables false
def S_mean_Look (ga1 : Option Addr) (gl2 : Nat) (gc3 : Nat) (s4 : List UInt8) (M : Mem) (K : Value → Prop) : Prop :=
 (CallE Try.prog 55 #[(.agg #[(.slice ga1 gl2 gc3)])] M (fun v _ => ∃ (x6 : Int) (x7 : Int), v = (Value.tuple #[(.int .i64 x6), (.int .i64 x7)]) ∧ (((x7 : Int) ≠ 0 → K (Value.int .i64 x7)) ∧ (¬ ((x7 : Int) ≠ 0) → ((((s4.length : Nat) : Int) > 60 → K (Value.int .i64 2)) ∧ (¬ (((s4.length : Nat) : Int) > 60) → K (Value.int .i64 0)))))))
set_option maxRecDepth 100000 in
theorem s_mean_Look (ga1 : Option Addr) (gl2 : Nat) (gc3 : Nat) (s4 : List UInt8) (M : Mem) (K : Value → Prop) (hS : S_mean_Look ga1 gl2 gc3 s4 M K) : CallE Try.prog 51 #[(Value.agg #[(Value.slice ga1 gl2 gc3)]), (Value.string (mkS s4))] M (fun v _ => K v) := by
 refine enterE Try.func51 rfl 18 rfl (Nat.le_of_ble_eq_true rfl) (fun E a hs => ?_)
 unfold S_mean_Look at hS
 have hMM := MX.refl M E
 change Sx 18 E [] M E a [(0, (.agg #[(.slice ga1 gl2 gc3)])), (1, (.string (mkS s4)))] [] [] at hs
 refine Wp.seq (Wp.region (stepBox [(.slice ga1 gl2 gc3)] hs rfl rfl rfl (by decide) (fun _ _ b5 hEb5 hs => ?_)))
 refine sP (iv 0) hs fun _ hs => ?_
 refine wpList_nil (Wp.seq (Wp.seq (Wp.region (sY (.agg #[(.slice ga1 gl2 gc3)]) hs (Yl.lB [(.slice ga1 gl2 gc3)] true 0) fun _ hs => ?_))))
 refine stepCallP [(.agg #[(.slice ga1 gl2 gc3)])] hs rfl ⟨_, rfl, rfl⟩ rfl Try.func55 rfl (by kernel_rfl) (by decide) hS (fun _ _ v hS hs => ?_)
 obtain ⟨x6, x7, hv, hS⟩ := hS
 subst hv
 refine sP (Value.tuple #[(iv x6), (iv x7)]) hs fun _ hs => ?_
 refine sP (iv x6) hs fun _ hs => ?_
 refine sP (iv x7) hs fun _ hs => ?_
 refine sP (iv x6) hs fun _ hs => ?_
 refine sP (iv x7) hs fun _ hs => ?_
 refine wpList_nil (Wp.seq (Wp.region (sP (iv x7) hs fun _ hs => ?_)))
 refine sP (.bool ((x7 : Int) != (0 : Int))) hs fun _ hs => ?_
 refine wpList_nil (Wp.cond hs rfl rfl bne_iff_ne (fun hc => ?_) (fun hc => ?_))
 ·have hS := hS.1 hc
  refine Wp.seq (Wp.region (sP (iv x7) hs fun _ hs => ?_))
  refine sP (iv x7) hs fun _ hs => ?_
  exact wpList_nil (Wp.ret (lvE K hs (resT hs rfl rfl) hMM.2 hS))
 ·have hS := hS.2 hc
  refine Wp.skip (Wp.seq (Wp.seq (Wp.region (sP (.string (mkS s4)) hs fun _ hs => ?_))))
  refine sP (iv ((s4.length : Nat) : Int)) hs fun _ hs => ?_
  refine sP (.bool (decide (((s4.length : Nat) : Int) > 60))) hs fun _ hs => ?_
  refine wpList_nil (Wp.cond hs rfl rfl decide_eq_true_iff (fun hc => ?_) (fun hc => ?_))
  ·have hS := hS.1 hc
   refine Wp.seq (Wp.region (sP (iv 2) hs fun _ hs => ?_))
   exact wpList_nil (Wp.ret (lvE K hs (resT hs rfl rfl) hMM.2 hS))
  ·have hS := hS.2 hc
   refine Wp.skip (Wp.seq (Wp.region (sP (iv 0) hs fun _ hs => ?_)))
   exact wpList_nil (Wp.ret (lvE K hs (resT hs rfl rfl) hMM.2 hS))
def S_chaffref_Look (ga1 : Option Addr) (gl2 : Nat) (gc3 : Nat) (s4 : List UInt8) (M : Mem) (K : Value → Prop) : Prop :=
 (CallE Try.prog 21 #[(.agg #[(.slice ga1 gl2 gc3)])] M (fun v _ => ∃ (x6 : Int) (x7 : Int), v = (Value.tuple #[(.int .i64 x6), (.int .i64 x7)]) ∧ (((x7 : Int) ≠ 0 → K (Value.int .i64 x7)) ∧ (¬ ((x7 : Int) ≠ 0) → ((((s4.length : Nat) : Int) > 60 → K (Value.int .i64 2)) ∧ (¬ (((s4.length : Nat) : Int) > 60) → K (Value.int .i64 0)))))))
set_option maxRecDepth 100000 in
theorem s_chaffref_Look (ga1 : Option Addr) (gl2 : Nat) (gc3 : Nat) (s4 : List UInt8) (M : Mem) (K : Value → Prop) (hS : S_chaffref_Look ga1 gl2 gc3 s4 M K) : CallE Try.prog 16 #[(Value.agg #[(Value.slice ga1 gl2 gc3)]), (Value.string (mkS s4))] M (fun v _ => K v) := by
 refine enterE Try.func16 rfl 18 rfl (Nat.le_of_ble_eq_true rfl) (fun E a hs => ?_)
 unfold S_chaffref_Look at hS
 have hMM := MX.refl M E
 change Sx 18 E [] M E a [(0, (.agg #[(.slice ga1 gl2 gc3)])), (1, (.string (mkS s4)))] [] [] at hs
 refine Wp.seq (Wp.region (stepBox [(.slice ga1 gl2 gc3)] hs rfl rfl rfl (by decide) (fun _ _ b5 hEb5 hs => ?_)))
 refine sP (iv 0) hs fun _ hs => ?_
 refine wpList_nil (Wp.seq (Wp.seq (Wp.region (sY (.agg #[(.slice ga1 gl2 gc3)]) hs (Yl.lB [(.slice ga1 gl2 gc3)] true 0) fun _ hs => ?_))))
 refine stepCallP [(.agg #[(.slice ga1 gl2 gc3)])] hs rfl ⟨_, rfl, rfl⟩ rfl Try.func21 rfl (by kernel_rfl) (by decide) hS (fun _ _ v hS hs => ?_)
 obtain ⟨x6, x7, hv, hS⟩ := hS
 subst hv
 refine sP (Value.tuple #[(iv x6), (iv x7)]) hs fun _ hs => ?_
 refine sP (iv x6) hs fun _ hs => ?_
 refine sP (iv x7) hs fun _ hs => ?_
 refine sP (iv x6) hs fun _ hs => ?_
 refine sP (iv x7) hs fun _ hs => ?_
 refine wpList_nil (Wp.seq (Wp.region (sP (iv x7) hs fun _ hs => ?_)))
 refine sP (.bool ((x7 : Int) != (0 : Int))) hs fun _ hs => ?_
 refine wpList_nil (Wp.cond hs rfl rfl bne_iff_ne (fun hc => ?_) (fun hc => ?_))
 ·have hS := hS.1 hc
  refine Wp.seq (Wp.region (sP (iv x7) hs fun _ hs => ?_))
  refine sP (iv x7) hs fun _ hs => ?_
  exact wpList_nil (Wp.ret (lvE K hs (resT hs rfl rfl) hMM.2 hS))
 ·have hS := hS.2 hc
  refine Wp.skip (Wp.seq (Wp.seq (Wp.region (sP (.string (mkS s4)) hs fun _ hs => ?_))))
  refine sP (iv ((s4.length : Nat) : Int)) hs fun _ hs => ?_
  refine sP (.bool (decide (((s4.length : Nat) : Int) > 60))) hs fun _ hs => ?_
  refine wpList_nil (Wp.cond hs rfl rfl decide_eq_true_iff (fun hc => ?_) (fun hc => ?_))
  ·have hS := hS.1 hc
   refine Wp.seq (Wp.region (sP (iv 2) hs fun _ hs => ?_))
   exact wpList_nil (Wp.ret (lvE K hs (resT hs rfl rfl) hMM.2 hS))
  ·have hS := hS.2 hc
   refine Wp.skip (Wp.seq (Wp.region (sP (iv 0) hs fun _ hs => ?_)))
   exact wpList_nil (Wp.ret (lvE K hs (resT hs rfl rfl) hMM.2 hS))

end Go.Proofs.Ytifkffmecfgpeaa.core
