/- What the code computes, function for function, as shallow propositions; printed by program. -/
import Derived.Test.YtaljnkggjadonaaReachG
namespace Go.Proofs.Ytaljnkggjadonaa.core
open Go.Gx Go.RowKit Go.ChangeShapes Go.WideShapes Go.ChangeAt
set_option linter.unusedVariables false in
def S_chafflaw_GramNodes (ga1 : Option Addr) (gl2 : Nat) (gc3 : Nat) (M : Mem) (K : Value → Prop) : Prop :=
  (CallE Try.prog 15 #[(Value.agg #[(Value.slice ga1 gl2 gc3)])] M (fun v _ => ∃ (x5 : Int) (x6 : Int), v = (Value.tuple #[(Value.int .i64 x5), (Value.int .i64 x6)]) ∧ (CallE Try.prog 16 #[(Value.agg #[(Value.slice ga1 gl2 gc3)])] M (fun v M11 => ∃ (xa7 : Option Addr) (xl8 : Nat) (xc9 : Nat) (x10 : Int), v = (Value.tuple #[(Value.slice xa7 xl8 xc9), (Value.int .i64 x10)]) ∧ (CallE Try.prog 17 #[(Value.agg #[(Value.slice ga1 gl2 gc3)])] M11 (fun v _ => ∃ (x12 : Int), v = (Value.int .i64 x12) ∧ (((x12 : Int) ≠ 0 → (((x6 : Int) = x12 → (((x10 : Int) = x12 → (((x5 : Int) = 0 → K (Value.bool (((xl8 : Nat) : Int) == (0 : Int)))) ∧ (¬ ((x5 : Int) = 0) → K (Value.bool false)))) ∧ (¬ ((x10 : Int) = x12) → K (Value.bool false)))) ∧ (¬ ((x6 : Int) = x12) → K (Value.bool false)))) ∧ (¬ ((x12 : Int) ≠ 0) → (((x6 : Int) = 0 → (((x10 : Int) = 0 → (CallE Try.prog 18 #[(Value.agg #[(Value.slice ga1 gl2 gc3)])] M11 (fun v M16 => ∃ (xa13 : Option Addr) (xl14 : Nat) (xc15 : Nat), v = (Value.slice xa13 xl14 xc15) ∧ (((x5 : Int) = ((xl14 : Nat) : Int) → (CallE Try.prog 20 #[(Value.agg #[(Value.slice ga1 gl2 gc3)])] M16 (fun v M20 => ∃ (xa17 : Option Addr) (xl18 : Nat) (xc19 : Nat), v = (Value.slice xa17 xl18 xc19) ∧ (CallE Try.prog 19 #[(Value.slice xa7 xl8 xc9), (Value.slice xa17 xl18 xc19)] M20 (fun v _ => ∃ (x21 : Bool), v = (Value.bool x21) ∧ K (Value.bool x21)))))) ∧ (¬ ((x5 : Int) = ((xl14 : Nat) : Int)) → K (Value.bool false)))))) ∧ (¬ ((x10 : Int) = 0) → K (Value.bool false)))) ∧ (¬ ((x6 : Int) = 0) → K (Value.bool false)))))))))))
set_option linter.unusedVariables false in
set_option maxRecDepth 100000 in
theorem s_chafflaw_GramNodes (ga1 : Option Addr) (gl2 : Nat) (gc3 : Nat) (M : Mem) (K : Value → Prop) (hS : S_chafflaw_GramNodes ga1 gl2 gc3 M K) : CallE Try.prog 3 #[(Value.agg #[(Value.slice ga1 gl2 gc3)])] M (fun v _ => K v) := by
  refine enterE Try.func3 rfl 58 rfl (Nat.le_of_ble_eq_true rfl) (fun E a hs => ?_)
  unfold S_chafflaw_GramNodes at hS
  have hMM := MX.refl M E
  change Sx 58 E [] M E a [(0, (Value.agg #[(Value.slice ga1 gl2 gc3)]))] [] [] at hs
  refine Wp.seq (Wp.region (stepBox [(Value.slice ga1 gl2 gc3)] hs rfl rfl rfl (by decide) (fun _ _ b4 hEb4 hs => ?_)))
  refine sP (Value.bool false) hs fun _ hs => ?_
  refine wpList_nil (Wp.seq (Wp.region (sY (Value.agg #[(Value.slice ga1 gl2 gc3)]) hs (Yl.loadB (vs := [(Value.slice ga1 gl2 gc3)]) true 0 rfl rfl rfl (by kernel_rfl) rfl) fun _ hs => ?_)))
  refine stepCallP [(Value.agg #[(Value.slice ga1 gl2 gc3)])] hs rfl ⟨_, rfl, rfl⟩ rfl Try.func15 rfl (by kernel_rfl) (by decide) hS (fun _ _ v hS hs => ?_)
  obtain ⟨x5, x6, hv, hS⟩ := hS
  subst hv
  refine sP (Value.tuple #[(Value.int .i64 x5), (Value.int .i64 x6)]) hs fun _ hs => ?_
  refine sP (Value.int .i64 x5) hs fun _ hs => ?_
  refine sP (Value.int .i64 x6) hs fun _ hs => ?_
  refine sP (Value.int .i64 x5) hs fun _ hs => ?_
  refine sP (Value.int .i64 x6) hs fun _ hs => ?_
  refine wpList_nil (Wp.seq (Wp.region (sY (Value.agg #[(Value.slice ga1 gl2 gc3)]) hs (Yl.loadB (vs := [(Value.slice ga1 gl2 gc3)]) true 0 rfl rfl rfl (by kernel_rfl) rfl) fun _ hs => ?_)))
  refine stepCallE [(Value.agg #[(Value.slice ga1 gl2 gc3)])] hs rfl ⟨_, rfl, rfl⟩ rfl Try.func16 rfl (by kernel_rfl) (by decide) hS (fun _ _ M11 v hle hnew hS hs => ?_)
  have hMM := hMM.next hle hnew
  obtain ⟨xa7, xl8, xc9, x10, hv, hS⟩ := hS
  subst hv
  refine sP (Value.tuple #[(Value.slice xa7 xl8 xc9), (Value.int .i64 x10)]) hs fun _ hs => ?_
  refine sP (Value.slice xa7 xl8 xc9) hs fun _ hs => ?_
  refine sP (Value.int .i64 x10) hs fun _ hs => ?_
  refine sP (Value.slice xa7 xl8 xc9) hs fun _ hs => ?_
  refine sP (Value.int .i64 x10) hs fun _ hs => ?_
  refine wpList_nil (Wp.seq (Wp.region (sY (Value.agg #[(Value.slice ga1 gl2 gc3)]) hs (Yl.loadB (vs := [(Value.slice ga1 gl2 gc3)]) true 0 rfl rfl rfl (by kernel_rfl) rfl) fun _ hs => ?_)))
  refine stepCallP [(Value.agg #[(Value.slice ga1 gl2 gc3)])] hs rfl ⟨_, rfl, rfl⟩ rfl Try.func17 rfl (by kernel_rfl) (by decide) hS (fun _ _ v hS hs => ?_)
  obtain ⟨x12, hv, hS⟩ := hS
  subst hv
  refine sP (Value.int .i64 x12) hs fun _ hs => ?_
  refine wpList_nil (Wp.seq (Wp.seq (Wp.region (sP (Value.int .i64 x12) hs fun _ hs => ?_))))
  refine sP (Value.bool ((x12 : Int) != (0 : Int))) hs fun _ hs => ?_
  refine wpList_nil (Wp.cond hs rfl rfl bne_iff_ne (fun hc => ?_) (fun hc => ?_))
  · have hS := hS.1 hc
    refine Wp.seq (Wp.region (sP (Value.int .i64 x6) hs fun _ hs => ?_))
    refine sP (Value.int .i64 x12) hs fun _ hs => ?_
    refine sP (Value.bool ((x6 : Int) == (x12 : Int))) hs fun _ hs => ?_
    refine sP (Value.bool ((x6 : Int) == (x12 : Int))) hs fun _ hs => ?_
    refine bsplit ((x6 : Int) == (x12 : Int)) beq_iff_eq (fun hb hc => ?_) (fun hb hc => ?_)
    · have hs := hs.bt hb
      have hS := hS.1 hc
      refine sYe hs (sP (Value.int .i64 x10) hs fun _ hs => ?_)
      refine sYe hs (sP (Value.int .i64 x12) hs fun _ hs => ?_)
      refine sYe hs (sP (Value.bool ((x10 : Int) == (x12 : Int))) hs fun _ hs => ?_)
      refine sP (Value.bool ((x10 : Int) == (x12 : Int))) hs fun _ hs => ?_
      refine sP (Value.bool ((x10 : Int) == (x12 : Int))) hs fun _ hs => ?_
      refine bsplit ((x10 : Int) == (x12 : Int)) beq_iff_eq (fun hb hc => ?_) (fun hb hc => ?_)
      · have hs := hs.bt hb
        have hS := hS.1 hc
        refine sYe hs (sP (Value.int .i64 x5) hs fun _ hs => ?_)
        refine sYe hs (sP (Value.bool ((x5 : Int) == (0 : Int))) hs fun _ hs => ?_)
        refine sP (Value.bool ((x5 : Int) == (0 : Int))) hs fun _ hs => ?_
        refine sP (Value.bool ((x5 : Int) == (0 : Int))) hs fun _ hs => ?_
        refine bsplit ((x5 : Int) == (0 : Int)) beq_iff_eq (fun hb hc => ?_) (fun hb hc => ?_)
        · have hs := hs.bt hb
          have hS := hS.1 hc
          refine sYe hs (sP (Value.slice xa7 xl8 xc9) hs fun _ hs => ?_)
          refine sYe hs (sP (Value.int .i64 ((xl8 : Nat) : Int)) hs fun _ hs => ?_)
          refine sYe hs (sP (Value.bool (((xl8 : Nat) : Int) == (0 : Int))) hs fun _ hs => ?_)
          refine sP (Value.bool (((xl8 : Nat) : Int) == (0 : Int))) hs fun _ hs => ?_
          refine sP (Value.bool (((xl8 : Nat) : Int) == (0 : Int))) hs fun _ hs => ?_
          exact wpList_nil (Wp.ret (leaveE (K := fun v _ => K v) hs (resT hs rfl rfl) hMM.2 (fun _ _ => hS)))
        · have hs := hs.bf hb
          have hS := hS.2 hc
          refine sNo hs fun _ hs => ?_
          refine sNo hs fun _ hs => ?_
          refine sNo hs fun _ hs => ?_
          refine sP (Value.bool false) hs fun _ hs => ?_
          refine sP (Value.bool false) hs fun _ hs => ?_
          exact wpList_nil (Wp.ret (leaveE (K := fun v _ => K v) hs (resT hs rfl rfl) hMM.2 (fun _ _ => hS)))
      · have hs := hs.bf hb
        have hS := hS.2 hc
        refine sNo hs fun _ hs => ?_
        refine sNo hs fun _ hs => ?_
        refine sP (Value.bool false) hs fun _ hs => ?_
        refine sP (Value.bool false) hs fun _ hs => ?_
        refine sNo hs fun _ hs => ?_
        refine sNo hs fun _ hs => ?_
        refine sNo hs fun _ hs => ?_
        refine sP (Value.bool false) hs fun _ hs => ?_
        refine sP (Value.bool false) hs fun _ hs => ?_
        exact wpList_nil (Wp.ret (leaveE (K := fun v _ => K v) hs (resT hs rfl rfl) hMM.2 (fun _ _ => hS)))
    · have hs := hs.bf hb
      have hS := hS.2 hc
      refine sNo hs fun _ hs => ?_
      refine sNo hs fun _ hs => ?_
      refine sNo hs fun _ hs => ?_
      refine sP (Value.bool false) hs fun _ hs => ?_
      refine sP (Value.bool false) hs fun _ hs => ?_
      refine sNo hs fun _ hs => ?_
      refine sNo hs fun _ hs => ?_
      refine sP (Value.bool false) hs fun _ hs => ?_
      refine sP (Value.bool false) hs fun _ hs => ?_
      refine sNo hs fun _ hs => ?_
      refine sNo hs fun _ hs => ?_
      refine sNo hs fun _ hs => ?_
      refine sP (Value.bool false) hs fun _ hs => ?_
      refine sP (Value.bool false) hs fun _ hs => ?_
      exact wpList_nil (Wp.ret (leaveE (K := fun v _ => K v) hs (resT hs rfl rfl) hMM.2 (fun _ _ => hS)))
  · have hS := hS.2 hc
    refine Wp.skip (Wp.seq (Wp.region (sP (Value.int .i64 x6) hs fun _ hs => ?_)))
    refine sP (Value.bool ((x6 : Int) == (0 : Int))) hs fun _ hs => ?_
    refine sP (Value.bool ((x6 : Int) == (0 : Int))) hs fun _ hs => ?_
    refine bsplit ((x6 : Int) == (0 : Int)) beq_iff_eq (fun hb hc => ?_) (fun hb hc => ?_)
    · have hs := hs.bt hb
      have hS := hS.1 hc
      refine sYe hs (sP (Value.int .i64 x10) hs fun _ hs => ?_)
      refine sYe hs (sP (Value.bool ((x10 : Int) == (0 : Int))) hs fun _ hs => ?_)
      refine sP (Value.bool ((x10 : Int) == (0 : Int))) hs fun _ hs => ?_
      refine sP (Value.bool ((x10 : Int) == (0 : Int))) hs fun _ hs => ?_
      refine bsplit ((x10 : Int) == (0 : Int)) beq_iff_eq (fun hb hc => ?_) (fun hb hc => ?_)
      · have hs := hs.bt hb
        have hS := hS.1 hc
        refine sYe hs (sP (Value.int .i64 x5) hs fun _ hs => ?_)
        refine sYe hs (sY (Value.agg #[(Value.slice ga1 gl2 gc3)]) hs (Yl.loadB (vs := [(Value.slice ga1 gl2 gc3)]) true 0 rfl rfl rfl (by kernel_rfl) rfl) fun _ hs => ?_)
        refine sYe hs (stepCallE [(Value.agg #[(Value.slice ga1 gl2 gc3)])] hs rfl ⟨_, rfl, rfl⟩ rfl Try.func18 rfl (by kernel_rfl) (by decide) hS (fun _ _ M16 v hle hnew hS hs => ?_))
        have hMM := hMM.next hle hnew
        obtain ⟨xa13, xl14, xc15, hv, hS⟩ := hS
        subst hv
        refine sYe hs (sP (Value.int .i64 ((xl14 : Nat) : Int)) hs fun _ hs => ?_)
        refine sYe hs (sP (Value.bool ((x5 : Int) == ((xl14 : Nat) : Int))) hs fun _ hs => ?_)
        refine sP (Value.bool ((x5 : Int) == ((xl14 : Nat) : Int))) hs fun _ hs => ?_
        refine sP (Value.bool ((x5 : Int) == ((xl14 : Nat) : Int))) hs fun _ hs => ?_
        refine bsplit ((x5 : Int) == ((xl14 : Nat) : Int)) beq_iff_eq (fun hb hc => ?_) (fun hb hc => ?_)
        · have hs := hs.bt hb
          have hS := hS.1 hc
          refine sYe hs (sP (Value.slice xa7 xl8 xc9) hs fun _ hs => ?_)
          refine sYe hs (sY (Value.agg #[(Value.slice ga1 gl2 gc3)]) hs (Yl.loadB (vs := [(Value.slice ga1 gl2 gc3)]) true 0 rfl rfl rfl (by kernel_rfl) rfl) fun _ hs => ?_)
          refine sYe hs (stepCallE [(Value.agg #[(Value.slice ga1 gl2 gc3)])] hs rfl ⟨_, rfl, rfl⟩ rfl Try.func20 rfl (by kernel_rfl) (by decide) hS (fun _ _ M20 v hle hnew hS hs => ?_))
          have hMM := hMM.next hle hnew
          obtain ⟨xa17, xl18, xc19, hv, hS⟩ := hS
          subst hv
          refine sYe hs (stepCallP [(Value.slice xa7 xl8 xc9), (Value.slice xa17 xl18 xc19)] hs rfl ⟨_, rfl, rfl⟩ rfl Try.func19 rfl (by kernel_rfl) (by decide) hS (fun _ _ v hS hs => ?_))
          obtain ⟨x21, hv, hS⟩ := hS
          subst hv
          refine sP (Value.bool x21) hs fun _ hs => ?_
          refine sP (Value.bool x21) hs fun _ hs => ?_
          exact wpList_nil (Wp.ret (leaveE (K := fun v _ => K v) hs (resT hs rfl rfl) hMM.2 (fun _ _ => hS)))
        · have hs := hs.bf hb
          have hS := hS.2 hc
          refine sNo hs fun _ hs => ?_
          refine sNo hs fun _ hs => ?_
          refine sNo hs fun _ hs => ?_
          refine sNo hs fun _ hs => ?_
          refine sP (Value.bool false) hs fun _ hs => ?_
          refine sP (Value.bool false) hs fun _ hs => ?_
          exact wpList_nil (Wp.ret (leaveE (K := fun v _ => K v) hs (resT hs rfl rfl) hMM.2 (fun _ _ => hS)))
      · have hs := hs.bf hb
        have hS := hS.2 hc
        refine sNo hs fun _ hs => ?_
        refine sNo hs fun _ hs => ?_
        refine sNo hs fun _ hs => ?_
        refine sNo hs fun _ hs => ?_
        refine sNo hs fun _ hs => ?_
        refine sP (Value.bool false) hs fun _ hs => ?_
        refine sP (Value.bool false) hs fun _ hs => ?_
        refine sNo hs fun _ hs => ?_
        refine sNo hs fun _ hs => ?_
        refine sNo hs fun _ hs => ?_
        refine sNo hs fun _ hs => ?_
        refine sP (Value.bool false) hs fun _ hs => ?_
        refine sP (Value.bool false) hs fun _ hs => ?_
        exact wpList_nil (Wp.ret (leaveE (K := fun v _ => K v) hs (resT hs rfl rfl) hMM.2 (fun _ _ => hS)))
    · have hs := hs.bf hb
      have hS := hS.2 hc
      refine sNo hs fun _ hs => ?_
      refine sNo hs fun _ hs => ?_
      refine sP (Value.bool false) hs fun _ hs => ?_
      refine sP (Value.bool false) hs fun _ hs => ?_
      refine sNo hs fun _ hs => ?_
      refine sNo hs fun _ hs => ?_
      refine sNo hs fun _ hs => ?_
      refine sNo hs fun _ hs => ?_
      refine sNo hs fun _ hs => ?_
      refine sP (Value.bool false) hs fun _ hs => ?_
      refine sP (Value.bool false) hs fun _ hs => ?_
      refine sNo hs fun _ hs => ?_
      refine sNo hs fun _ hs => ?_
      refine sNo hs fun _ hs => ?_
      refine sNo hs fun _ hs => ?_
      refine sP (Value.bool false) hs fun _ hs => ?_
      refine sP (Value.bool false) hs fun _ hs => ?_
      exact wpList_nil (Wp.ret (leaveE (K := fun v _ => K v) hs (resT hs rfl rfl) hMM.2 (fun _ _ => hS)))

end Go.Proofs.Ytaljnkggjadonaa.core
