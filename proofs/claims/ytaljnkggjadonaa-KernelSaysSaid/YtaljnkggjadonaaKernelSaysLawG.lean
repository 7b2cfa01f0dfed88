/- What the code computes, function for function, as shallow propositions; printed by program. -/
import Derived.Test.YtaljnkggjadonaaKernelG
namespace Go.Proofs.Ytaljnkggjadonaa.core
open Go.Gx Go.RowKit Go.ChangeShapes Go.WideShapes Go.ChangeAt
set_option linter.unusedVariables false in
def S_chafflaw_KernelSays (ga1 : Option Addr) (gl2 : Nat) (gc3 : Nat) (M : Mem) (K : Value → Prop) : Prop :=
  (CallE Try.prog 21 #[(Value.agg #[(Value.slice ga1 gl2 gc3)])] M (fun v M9 => ∃ (xa5 : Option Addr) (xl6 : Nat) (xc7 : Nat) (x8 : Int), v = (Value.tuple #[(Value.agg #[(Value.slice xa5 xl6 xc7)]), (Value.int .i64 x8)]) ∧ (CallE Try.prog 22 #[(Value.agg #[(Value.slice ga1 gl2 gc3)])] M9 (fun v M15 => ∃ (xa11 : Option Addr) (xl12 : Nat) (xc13 : Nat) (x14 : Int), v = (Value.tuple #[(Value.agg #[(Value.slice xa11 xl12 xc13)]), (Value.int .i64 x14)]) ∧ (CallE Try.prog 23 #[(Value.agg #[(Value.slice xa5 xl6 xc7)]), (Value.agg #[(Value.slice xa11 xl12 xc13)])] M15 (fun v _ => ∃ (x17 : Bool), v = (Value.bool x17) ∧ ((x17 = true → K (Value.bool ((x8 : Int) == (x14 : Int)))) ∧ (¬ (x17 = true) → K (Value.bool false)))))))))
set_option linter.unusedVariables false in
set_option maxRecDepth 100000 in
theorem s_chafflaw_KernelSays (ga1 : Option Addr) (gl2 : Nat) (gc3 : Nat) (M : Mem) (K : Value → Prop) (hS : S_chafflaw_KernelSays ga1 gl2 gc3 M K) : CallE Try.prog 4 #[(Value.agg #[(Value.slice ga1 gl2 gc3)])] M (fun v _ => K v) := by
  refine enterE Try.func4 rfl 25 rfl (Nat.le_of_ble_eq_true rfl) (fun E a hs => ?_)
  unfold S_chafflaw_KernelSays at hS
  have hMM := MX.refl M E
  change Sx 25 E [] M E a [(0, (Value.agg #[(Value.slice ga1 gl2 gc3)]))] [] [] at hs
  refine Wp.seq (Wp.region (stepBox [(Value.slice ga1 gl2 gc3)] hs rfl rfl rfl (by decide) (fun _ _ b4 hEb4 hs => ?_)))
  refine sP (Value.bool false) hs fun _ hs => ?_
  refine wpList_nil (Wp.seq (Wp.region (sY (Value.agg #[(Value.slice ga1 gl2 gc3)]) hs (Yl.loadB (vs := [(Value.slice ga1 gl2 gc3)]) true 0 rfl rfl rfl (by kernel_rfl) rfl) fun _ hs => ?_)))
  refine stepCallE [(Value.agg #[(Value.slice ga1 gl2 gc3)])] hs rfl ⟨_, rfl, rfl⟩ rfl Try.func21 rfl (by kernel_rfl) (by decide) hS (fun _ _ M9 v hle hnew hS hs => ?_)
  have hMM := hMM.next hle hnew
  obtain ⟨xa5, xl6, xc7, x8, hv, hS⟩ := hS
  subst hv
  refine sP (Value.tuple #[(Value.agg #[(Value.slice xa5 xl6 xc7)]), (Value.int .i64 x8)]) hs fun _ hs => ?_
  refine sP (Value.agg #[(Value.slice xa5 xl6 xc7)]) hs fun _ hs => ?_
  refine sP (Value.int .i64 x8) hs fun _ hs => ?_
  refine stepAlloc [(Value.slice none 0 0)] hs (by kernel_rfl) (by decide) (fun _ _ b10 hEb10 hs => ?_)
  have hs := hs.nilrow 98 8
  refine stepStoreB 0 (vs := [(Value.slice xa5 xl6 xc7)]) hs rfl rfl rfl rfl rfl rfl (by kernel_rfl) (Nat.le_of_ble_eq_true rfl) rfl (fun _ _ hs => ?_)
  replace hs := hs.chbx (bs' := [⟨b10, 24, [(Value.slice xa5 xl6 xc7)]⟩, ⟨b4, 24, [(Value.slice ga1 gl2 gc3)]⟩]) rfl
  refine sP (Value.int .i64 x8) hs fun _ hs => ?_
  refine wpList_nil (Wp.seq (Wp.region (sY (Value.agg #[(Value.slice ga1 gl2 gc3)]) hs (Yl.loadB (vs := [(Value.slice ga1 gl2 gc3)]) true 1 rfl rfl rfl (by kernel_rfl) rfl) fun _ hs => ?_)))
  refine stepCallE [(Value.agg #[(Value.slice ga1 gl2 gc3)])] hs rfl ⟨_, rfl, rfl⟩ rfl Try.func22 rfl (by kernel_rfl) (by decide) hS (fun _ _ M15 v hle hnew hS hs => ?_)
  have hMM := hMM.next hle hnew
  obtain ⟨xa11, xl12, xc13, x14, hv, hS⟩ := hS
  subst hv
  refine sP (Value.tuple #[(Value.agg #[(Value.slice xa11 xl12 xc13)]), (Value.int .i64 x14)]) hs fun _ hs => ?_
  refine sP (Value.agg #[(Value.slice xa11 xl12 xc13)]) hs fun _ hs => ?_
  refine sP (Value.int .i64 x14) hs fun _ hs => ?_
  refine stepAlloc [(Value.slice none 0 0)] hs (by kernel_rfl) (by decide) (fun _ _ b16 hEb16 hs => ?_)
  have hs := hs.nilrow 98 8
  refine stepStoreB 0 (vs := [(Value.slice xa11 xl12 xc13)]) hs rfl rfl rfl rfl rfl rfl (by kernel_rfl) (Nat.le_of_ble_eq_true rfl) rfl (fun _ _ hs => ?_)
  replace hs := hs.chbx (bs' := [⟨b16, 24, [(Value.slice xa11 xl12 xc13)]⟩, ⟨b10, 24, [(Value.slice xa5 xl6 xc7)]⟩, ⟨b4, 24, [(Value.slice ga1 gl2 gc3)]⟩]) rfl
  refine sP (Value.int .i64 x14) hs fun _ hs => ?_
  refine wpList_nil (Wp.seq (Wp.region (sY (Value.agg #[(Value.slice xa5 xl6 xc7)]) hs (Yl.loadB (vs := [(Value.slice xa5 xl6 xc7)]) true 1 rfl rfl rfl (by kernel_rfl) rfl) fun _ hs => ?_)))
  refine sY (Value.agg #[(Value.slice xa11 xl12 xc13)]) hs (Yl.loadB (vs := [(Value.slice xa11 xl12 xc13)]) true 0 rfl rfl rfl (by kernel_rfl) rfl) fun _ hs => ?_
  refine stepCallP [(Value.agg #[(Value.slice xa5 xl6 xc7)]), (Value.agg #[(Value.slice xa11 xl12 xc13)])] hs rfl ⟨_, rfl, rfl⟩ rfl Try.func23 rfl (by kernel_rfl) (by decide) hS (fun _ _ v hS hs => ?_)
  obtain ⟨x17, hv, hS⟩ := hS
  subst hv
  refine sP (Value.bool x17) hs fun _ hs => ?_
  refine bsplit x17 Iff.rfl (fun hb hc => ?_) (fun hb hc => ?_)
  · have hs := hs.bt hb
    have hS := hS.1 hc
    refine sYe hs (sP (Value.int .i64 x8) hs fun _ hs => ?_)
    refine sYe hs (sP (Value.int .i64 x14) hs fun _ hs => ?_)
    refine sYe hs (sP (Value.bool ((x8 : Int) == (x14 : Int))) hs fun _ hs => ?_)
    refine sP (Value.bool ((x8 : Int) == (x14 : Int))) hs fun _ hs => ?_
    refine sP (Value.bool ((x8 : Int) == (x14 : Int))) hs fun _ hs => ?_
    exact wpList_nil (Wp.ret (leaveE (K := fun v _ => K v) hs (resT hs rfl rfl) hMM.2 (fun _ _ => hS)))
  · have hs := hs.bf hb
    have hS := hS.2 hc
    refine sNo hs fun _ hs => ?_
    refine sNo hs fun _ hs => ?_
    refine sNo hs fun _ hs => ?_
    refine sP (Value.bool false) hs fun _ hs => ?_
    refine sP (Value.bool false) hs fun _ hs => ?_
    exact wpList_nil (Wp.ret (leaveE (K := fun v _ => K v) hs (resT hs rfl rfl) hMM.2 (fun _ _ => hS)))

end Go.Proofs.Ytaljnkggjadonaa.core
