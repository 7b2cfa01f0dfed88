/- What the code computes, function for function, as shallow propositions; printed by program. -/
import Derived.Test.YtaljnkggjadonaaLookG
namespace Go.Proofs.Ytaljnkggjadonaa.core
open Go.Gx Go.RowKit Go.ChangeShapes Go.WideShapes Go.ChangeAt
set_option linter.unusedVariables false in
def S_chafflaw_MeanLooks (ga1 : Option Addr) (gl2 : Nat) (gc3 : Nat) (s4 : List UInt8) (M : Mem) (K : Value → Prop) : Prop :=
  (CallE Try.prog 28 #[(Value.agg #[(Value.slice ga1 gl2 gc3)]), (Value.string (mkS s4))] M (fun v _ => ∃ (x6 : Int), v = (Value.int .i64 x6) ∧ (CallE Try.prog 29 #[(Value.agg #[(Value.slice ga1 gl2 gc3)]), (Value.string (mkS s4))] M (fun v _ => ∃ (x7 : Int), v = (Value.int .i64 x7) ∧ K (Value.bool ((x6 : Int) == (x7 : Int)))))))
set_option linter.unusedVariables false in
set_option maxRecDepth 100000 in
theorem s_chafflaw_MeanLooks (ga1 : Option Addr) (gl2 : Nat) (gc3 : Nat) (s4 : List UInt8) (M : Mem) (K : Value → Prop) (hS : S_chafflaw_MeanLooks ga1 gl2 gc3 s4 M K) : CallE Try.prog 7 #[(Value.agg #[(Value.slice ga1 gl2 gc3)]), (Value.string (mkS s4))] M (fun v _ => K v) := by
  refine enterE Try.func7 rfl 12 rfl (Nat.le_of_ble_eq_true rfl) (fun E a hs => ?_)
  unfold S_chafflaw_MeanLooks at hS
  have hMM := MX.refl M E
  change Sx 12 E [] M E a [(0, (Value.agg #[(Value.slice ga1 gl2 gc3)])), (1, (Value.string (mkS s4)))] [] [] at hs
  refine Wp.seq (Wp.region (stepBox [(Value.slice ga1 gl2 gc3)] hs rfl rfl rfl (by decide) (fun _ _ b5 hEb5 hs => ?_)))
  refine sP (Value.bool false) hs fun _ hs => ?_
  refine wpList_nil (Wp.seq (Wp.regionD [true, true, true, true, true, true, true, true] hs (by kernel_rfl) rfl [⟨b5, 24, [(Value.slice ga1 gl2 gc3)]⟩] (fun _ h => h) [] (fun _ h => h) (fun _ hs hC => ?_)))
  have hL := Mem.le.refl M
  refine stepDY (v := (Value.agg #[(Value.slice ga1 gl2 gc3)])) 0 [2, 5, 6, 7] hs hC QZ.no rfl (wanted_none rfl) rfl (by decide) (by kernel_rfl) (by kernel_rfl) (by kernel_rfl) (Yl.loadB (vs := [(Value.slice ga1 gl2 gc3)]) true 0 rfl rfl rfl (by kernel_rfl) rfl) (fun _ hs => ?_)
  refine dP (Value.string (mkS s4)) 1 [2, 5, 6, 7] hs QZ.no (wanted_none rfl) fun _ hs => ?_
  refine stepDY (v := (Value.agg #[(Value.slice ga1 gl2 gc3)])) 3 [5, 6, 7] hs hC QZ.no rfl (wanted_none rfl) rfl (by decide) (by kernel_rfl) (by kernel_rfl) (by kernel_rfl) (Yl.loadB (vs := [(Value.slice ga1 gl2 gc3)]) true 0 rfl rfl rfl (by kernel_rfl) rfl) (fun _ hs => ?_)
  refine dP (Value.string (mkS s4)) 4 [5, 6, 7] hs QZ.no (wanted_none rfl) fun _ hs => ?_
  refine stepDE 2 rfl (wanted_none rfl) (by kernel_rfl) #[] ?_
  refine stepCallP [(Value.agg #[(Value.slice ga1 gl2 gc3)]), (Value.string (mkS s4))] hs rfl ⟨_, rfl, rfl⟩ rfl Try.func28 rfl (by kernel_rfl) (by decide) hS (fun _ _ v hS hs => ?_)
  obtain ⟨x6, hv, hS⟩ := hS
  subst hv
  refine wpList_nil (⟨fun _ _ => hs.cxle hL (List.Sublist.refl _) (List.Sublist.refl _), ?_⟩)
  have hC := hs.cxle hL (List.Sublist.refl _) (List.Sublist.refl _)
  refine stepDE 5 rfl (wanted_none rfl) (by kernel_rfl) #[] ?_
  refine stepCallP [(Value.agg #[(Value.slice ga1 gl2 gc3)]), (Value.string (mkS s4))] hs rfl ⟨_, rfl, rfl⟩ rfl Try.func29 rfl (by kernel_rfl) (by decide) hS (fun _ _ v hS hs => ?_)
  obtain ⟨x7, hv, hS⟩ := hS
  subst hv
  refine wpList_nil (⟨fun _ _ => hs.cxle hL (List.Sublist.refl _) (List.Sublist.refl _), ?_⟩)
  have hC := hs.cxle hL (List.Sublist.refl _) (List.Sublist.refl _)
  refine stepDE 6 rfl (wanted_none rfl) (by kernel_rfl) #[] ?_
  refine sP (Value.bool ((x6 : Int) == (x7 : Int))) hs fun _ hs => ?_
  refine wpList_nil (⟨fun _ h => h, ?_⟩)
  refine stepDE 7 rfl (wanted_none rfl) (by kernel_rfl) #[] ?_
  refine sP (Value.bool ((x6 : Int) == (x7 : Int))) hs fun _ hs => ?_
  refine wpList_nil (⟨fun _ h => h, ?_⟩)
  refine WpD.done (by kernel_rfl) ?_ _
  exact Wp.ret (leaveE (K := fun v _ => K v) hs (resT hs rfl rfl) hMM.2 (fun _ _ => hS))

end Go.Proofs.Ytaljnkggjadonaa.core
