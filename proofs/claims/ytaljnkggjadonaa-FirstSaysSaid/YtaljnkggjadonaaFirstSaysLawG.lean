/- What the code computes, function for function, as shallow propositions; printed by program. -/
import Derived.Test.YtaljnkggjadonaaFirstG
namespace Go.Proofs.Ytaljnkggjadonaa.core
open Go.Gx Go.RowKit Go.ChangeShapes Go.WideShapes Go.ChangeAt
set_option linter.unusedVariables false in
def S_chafflaw_FirstSays (ga1 : Option Addr) (gl2 : Nat) (gc3 : Nat) (M : Mem) (K : Value → Prop) : Prop :=
  (CallE Try.prog 30 #[(Value.agg #[(Value.slice ga1 gl2 gc3)])] M (fun v M9 => ∃ (xa5 : Option Addr) (xl6 : Nat) (xc7 : Nat) (x8 : Int), v = (Value.tuple #[(Value.slice xa5 xl6 xc7), (Value.int .i64 x8)]) ∧ (CallE Try.prog 17 #[(Value.agg #[(Value.slice ga1 gl2 gc3)])] M9 (fun v _ => ∃ (x10 : Int), v = (Value.int .i64 x10) ∧ (((x10 : Int) ≠ 0 → (((x8 : Int) = x10 → K (Value.bool (((xl6 : Nat) : Int) == (0 : Int)))) ∧ (¬ ((x8 : Int) = x10) → K (Value.bool false)))) ∧ (¬ ((x10 : Int) ≠ 0) → (((x8 : Int) = 0 → (CallE Try.prog 32 #[(Value.agg #[(Value.slice ga1 gl2 gc3)])] M9 (fun v M14 => ∃ (xa11 : Option Addr) (xl12 : Nat) (xc13 : Nat), v = (Value.slice xa11 xl12 xc13) ∧ (CallE Try.prog 31 #[(Value.slice xa5 xl6 xc7), (Value.slice xa11 xl12 xc13)] M14 (fun v _ => ∃ (x15 : Bool), v = (Value.bool x15) ∧ K (Value.bool x15)))))) ∧ (¬ ((x8 : Int) = 0) → K (Value.bool false)))))))))
set_option linter.unusedVariables false in
set_option maxRecDepth 100000 in
theorem s_chafflaw_FirstSays (ga1 : Option Addr) (gl2 : Nat) (gc3 : Nat) (M : Mem) (K : Value → Prop) (hS : S_chafflaw_FirstSays ga1 gl2 gc3 M K) : CallE Try.prog 8 #[(Value.agg #[(Value.slice ga1 gl2 gc3)])] M (fun v _ => K v) := by
  refine enterE Try.func8 rfl 31 rfl (Nat.le_of_ble_eq_true rfl) (fun E a hs => ?_)
  unfold S_chafflaw_FirstSays at hS
  have hMM := MX.refl M E
  change Sx 31 E [] M E a [(0, (Value.agg #[(Value.slice ga1 gl2 gc3)]))] [] [] at hs
  refine Wp.seq (Wp.region (stepBox [(Value.slice ga1 gl2 gc3)] hs rfl rfl rfl (by decide) (fun _ _ b4 hEb4 hs => ?_)))
  refine sP (Value.bool false) hs fun _ hs => ?_
  refine wpList_nil (Wp.seq (Wp.region (sY (Value.agg #[(Value.slice ga1 gl2 gc3)]) hs (Yl.loadB (vs := [(Value.slice ga1 gl2 gc3)]) true 0 rfl rfl rfl (by kernel_rfl) rfl) fun _ hs => ?_)))
  refine stepCallE [(Value.agg #[(Value.slice ga1 gl2 gc3)])] hs rfl ⟨_, rfl, rfl⟩ rfl Try.func30 rfl (by kernel_rfl) (by decide) hS (fun _ _ M9 v hle hnew hS hs => ?_)
  have hMM := hMM.next hle hnew
  obtain ⟨xa5, xl6, xc7, x8, hv, hS⟩ := hS
  subst hv
  refine sP (Value.tuple #[(Value.slice xa5 xl6 xc7), (Value.int .i64 x8)]) hs fun _ hs => ?_
  refine sP (Value.slice xa5 xl6 xc7) hs fun _ hs => ?_
  refine sP (Value.int .i64 x8) hs fun _ hs => ?_
  refine sP (Value.slice xa5 xl6 xc7) hs fun _ hs => ?_
  refine sP (Value.int .i64 x8) hs fun _ hs => ?_
  refine wpList_nil (Wp.seq (Wp.seq (Wp.region (sY (Value.agg #[(Value.slice ga1 gl2 gc3)]) hs (Yl.loadB (vs := [(Value.slice ga1 gl2 gc3)]) true 0 rfl rfl rfl (by kernel_rfl) rfl) fun _ hs => ?_))))
  refine stepCallP [(Value.agg #[(Value.slice ga1 gl2 gc3)])] hs rfl ⟨_, rfl, rfl⟩ rfl Try.func17 rfl (by kernel_rfl) (by decide) hS (fun _ _ v hS hs => ?_)
  obtain ⟨x10, hv, hS⟩ := hS
  subst hv
  refine sP (Value.int .i64 x10) hs fun _ hs => ?_
  refine wpList_nil (Wp.seq (Wp.region (sP (Value.int .i64 x10) hs fun _ hs => ?_)))
  refine sP (Value.bool ((x10 : Int) != (0 : Int))) hs fun _ hs => ?_
  refine wpList_nil (Wp.cond hs rfl rfl bne_iff_ne (fun hc => ?_) (fun hc => ?_))
  · have hS := hS.1 hc
    refine Wp.seq (Wp.region (sP (Value.int .i64 x8) hs fun _ hs => ?_))
    refine sP (Value.int .i64 x10) hs fun _ hs => ?_
    refine sP (Value.bool ((x8 : Int) == (x10 : Int))) hs fun _ hs => ?_
    refine sP (Value.bool ((x8 : Int) == (x10 : Int))) hs fun _ hs => ?_
    refine bsplit ((x8 : Int) == (x10 : Int)) beq_iff_eq (fun hb hc => ?_) (fun hb hc => ?_)
    · have hs := hs.bt hb
      have hS := hS.1 hc
      refine sYe hs (sP (Value.slice xa5 xl6 xc7) hs fun _ hs => ?_)
      refine sYe hs (sP (Value.int .i64 ((xl6 : Nat) : Int)) hs fun _ hs => ?_)
      refine sYe hs (sP (Value.bool (((xl6 : Nat) : Int) == (0 : Int))) hs fun _ hs => ?_)
      refine sP (Value.bool (((xl6 : Nat) : Int) == (0 : Int))) hs fun _ hs => ?_
      refine sP (Value.bool (((xl6 : Nat) : Int) == (0 : Int))) hs fun _ hs => ?_
      exact wpList_nil (Wp.ret (leaveE (K := fun v _ => K v) hs (resT hs rfl rfl) hMM.2 (fun _ _ => hS)))
    · have hs := hs.bf hb
      have hS := hS.2 hc
      refine sNo hs fun _ hs => ?_
      refine sNo hs fun _ hs => ?_
      refine sNo hs fun _ hs => ?_
      refine sP (Value.bool false) hs fun _ hs => ?_
      refine sP (Value.bool false) hs fun _ hs => ?_
      exact wpList_nil (Wp.ret (leaveE (K := fun v _ => K v) hs (resT hs rfl rfl) hMM.2 (fun _ _ => hS)))
  · have hS := hS.2 hc
    refine Wp.skip (Wp.seq (Wp.region (sP (Value.int .i64 x8) hs fun _ hs => ?_)))
    refine sP (Value.bool ((x8 : Int) == (0 : Int))) hs fun _ hs => ?_
    refine sP (Value.bool ((x8 : Int) == (0 : Int))) hs fun _ hs => ?_
    refine bsplit ((x8 : Int) == (0 : Int)) beq_iff_eq (fun hb hc => ?_) (fun hb hc => ?_)
    · have hs := hs.bt hb
      have hS := hS.1 hc
      refine sYe hs (sP (Value.slice xa5 xl6 xc7) hs fun _ hs => ?_)
      refine sYe hs (sY (Value.agg #[(Value.slice ga1 gl2 gc3)]) hs (Yl.loadB (vs := [(Value.slice ga1 gl2 gc3)]) true 0 rfl rfl rfl (by kernel_rfl) rfl) fun _ hs => ?_)
      refine sYe hs (stepCallE [(Value.agg #[(Value.slice ga1 gl2 gc3)])] hs rfl ⟨_, rfl, rfl⟩ rfl Try.func32 rfl (by kernel_rfl) (by decide) hS (fun _ _ M14 v hle hnew hS hs => ?_))
      have hMM := hMM.next hle hnew
      obtain ⟨xa11, xl12, xc13, hv, hS⟩ := hS
      subst hv
      refine sYe hs (stepCallP [(Value.slice xa5 xl6 xc7), (Value.slice xa11 xl12 xc13)] hs rfl ⟨_, rfl, rfl⟩ rfl Try.func31 rfl (by kernel_rfl) (by decide) hS (fun _ _ v hS hs => ?_))
      obtain ⟨x15, hv, hS⟩ := hS
      subst hv
      refine sP (Value.bool x15) hs fun _ hs => ?_
      refine sP (Value.bool x15) hs fun _ hs => ?_
      exact wpList_nil (Wp.ret (leaveE (K := fun v _ => K v) hs (resT hs rfl rfl) hMM.2 (fun _ _ => hS)))
    · have hs := hs.bf hb
      have hS := hS.2 hc
      refine sNo hs fun _ hs => ?_
      refine sNo hs fun _ hs => ?_
      refine sNo hs fun _ hs => ?_
      refine sNo hs fun _ hs => ?_
      refine sP (Value.bool false) hs fun _ hs => ?_
      refine sP (Value.bool false) hs fun _ hs => ?_
      exact wpList_nil (Wp.ret (leaveE (K := fun v _ => K v) hs (resT hs rfl rfl) hMM.2 (fun _ _ => hS)))

end Go.Proofs.Ytaljnkggjadonaa.core
