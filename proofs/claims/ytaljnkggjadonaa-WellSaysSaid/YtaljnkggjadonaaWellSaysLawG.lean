/- What the code computes, function for function, as shallow propositions; printed by program. -/
import Derived.Test.YtaljnkggjadonaaWellG
namespace Go.Proofs.Ytaljnkggjadonaa.core
open Go.Gx Go.RowKit Go.ChangeShapes Go.WideShapes Go.ChangeAt
set_option linter.unusedVariables false in
def S_chafflaw_WellSays (ga1 : Option Addr) (gl2 : Nat) (gc3 : Nat) (M : Mem) (K : Value → Prop) : Prop :=
  (CallE Try.prog 26 #[(Value.agg #[(Value.slice ga1 gl2 gc3)])] M (fun v _ => ∃ (x5 : Int) (x6 : Int), v = (Value.tuple #[(Value.int .i64 x5), (Value.int .i64 x6)]) ∧ (CallE Try.prog 27 #[(Value.agg #[(Value.slice ga1 gl2 gc3)])] M (fun v _ => ∃ (x7 : Int) (x8 : Int), v = (Value.tuple #[(Value.int .i64 x7), (Value.int .i64 x8)]) ∧ (((x5 : Int) = x7 → K (Value.bool ((x6 : Int) == (x8 : Int)))) ∧ (¬ ((x5 : Int) = x7) → K (Value.bool false)))))))
set_option linter.unusedVariables false in
set_option maxRecDepth 100000 in
theorem s_chafflaw_WellSays (ga1 : Option Addr) (gl2 : Nat) (gc3 : Nat) (M : Mem) (K : Value → Prop) (hS : S_chafflaw_WellSays ga1 gl2 gc3 M K) : CallE Try.prog 6 #[(Value.agg #[(Value.slice ga1 gl2 gc3)])] M (fun v _ => K v) := by
  refine enterE Try.func6 rfl 25 rfl (Nat.le_of_ble_eq_true rfl) (fun E a hs => ?_)
  unfold S_chafflaw_WellSays at hS
  have hMM := MX.refl M E
  change Sx 25 E [] M E a [(0, (Value.agg #[(Value.slice ga1 gl2 gc3)]))] [] [] at hs
  refine Wp.seq (Wp.region (stepBox [(Value.slice ga1 gl2 gc3)] hs rfl rfl rfl (by decide) (fun _ _ b4 hEb4 hs => ?_)))
  refine sP (Value.bool false) hs fun _ hs => ?_
  refine wpList_nil (Wp.seq (Wp.region (sY (Value.agg #[(Value.slice ga1 gl2 gc3)]) hs (Yl.loadB (vs := [(Value.slice ga1 gl2 gc3)]) true 0 rfl rfl rfl (by kernel_rfl) rfl) fun _ hs => ?_)))
  refine stepCallP [(Value.agg #[(Value.slice ga1 gl2 gc3)])] hs rfl ⟨_, rfl, rfl⟩ rfl Try.func26 rfl (by kernel_rfl) (by decide) hS (fun _ _ v hS hs => ?_)
  obtain ⟨x5, x6, hv, hS⟩ := hS
  subst hv
  refine sP (Value.tuple #[(Value.int .i64 x5), (Value.int .i64 x6)]) hs fun _ hs => ?_
  refine sP (Value.int .i64 x5) hs fun _ hs => ?_
  refine sP (Value.int .i64 x6) hs fun _ hs => ?_
  refine sP (Value.int .i64 x5) hs fun _ hs => ?_
  refine sP (Value.int .i64 x6) hs fun _ hs => ?_
  refine wpList_nil (Wp.seq (Wp.region (sY (Value.agg #[(Value.slice ga1 gl2 gc3)]) hs (Yl.loadB (vs := [(Value.slice ga1 gl2 gc3)]) true 0 rfl rfl rfl (by kernel_rfl) rfl) fun _ hs => ?_)))
  refine stepCallP [(Value.agg #[(Value.slice ga1 gl2 gc3)])] hs rfl ⟨_, rfl, rfl⟩ rfl Try.func27 rfl (by kernel_rfl) (by decide) hS (fun _ _ v hS hs => ?_)
  obtain ⟨x7, x8, hv, hS⟩ := hS
  subst hv
  refine sP (Value.tuple #[(Value.int .i64 x7), (Value.int .i64 x8)]) hs fun _ hs => ?_
  refine sP (Value.int .i64 x7) hs fun _ hs => ?_
  refine sP (Value.int .i64 x8) hs fun _ hs => ?_
  refine sP (Value.int .i64 x7) hs fun _ hs => ?_
  refine sP (Value.int .i64 x8) hs fun _ hs => ?_
  refine wpList_nil (Wp.seq (Wp.region (sP (Value.int .i64 x5) hs fun _ hs => ?_)))
  refine sP (Value.int .i64 x7) hs fun _ hs => ?_
  refine sP (Value.bool ((x5 : Int) == (x7 : Int))) hs fun _ hs => ?_
  refine sP (Value.bool ((x5 : Int) == (x7 : Int))) hs fun _ hs => ?_
  refine bsplit ((x5 : Int) == (x7 : Int)) beq_iff_eq (fun hb hc => ?_) (fun hb hc => ?_)
  · have hs := hs.bt hb
    have hS := hS.1 hc
    refine sYe hs (sP (Value.int .i64 x6) hs fun _ hs => ?_)
    refine sYe hs (sP (Value.int .i64 x8) hs fun _ hs => ?_)
    refine sYe hs (sP (Value.bool ((x6 : Int) == (x8 : Int))) hs fun _ hs => ?_)
    refine sP (Value.bool ((x6 : Int) == (x8 : Int))) hs fun _ hs => ?_
    refine sP (Value.bool ((x6 : Int) == (x8 : Int))) hs fun _ hs => ?_
    exact wpList_nil (Wp.ret (leaveE (K := fun v _ => K v) hs (resT hs rfl rfl) hMM.2 (fun _ _ => hS)))
  · have hs := hs.bf hb
    have hS := hS.2 hc
    refine sNo hs fun _ hs => ?_
    refine sNo hs fun _ hs => ?_
    refine sNo hs fun _ hs => ?_
    refine sP (Value.bool false) hs fun _ hs => ?_
    refine sP (Value.bool false) hs fun _ hs => ?_
    exact wpList_nil (Wp.ret (leaveE (K := fun v _ => K v) hs (resT hs rfl rfl) hMM.2 (fun _ _ => hS)))

end Go.Proofs.Ytaljnkggjadonaa.core
