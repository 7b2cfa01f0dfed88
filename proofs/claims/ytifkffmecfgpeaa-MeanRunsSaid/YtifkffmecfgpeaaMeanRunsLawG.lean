/- What the code computes, function for function, as shallow propositions; printed by program. -/
import Derived.Test.YtifkffmecfgpeaaMeanG
namespace Go.Proofs.Ytifkffmecfgpeaa.core
open Go.Gx Go.RowKit Go.ChangeShapes Go.WideShapes Go.ChangeAt
set_option linter.unusedVariables false
def S_chafflaw_MeanRuns_J2 (ga1 : Option Addr) (gl2 : Nat) (gc3 : Nat) (s4 : List UInt8) (steps5 : Int) (M : Mem) (L : Nat → Prop) (x7 : X_api_Outcome) (x8 : Int) (x9 : Int) (M10 : Mem) (want14 : Int) (K : Value → Mem → Prop) : Prop :=
 (((want14 : Int) ≠ 0 → (((x9 : Int) = want14 → (((x7.Ok = false) ∧ ((x7.N : Int) = 0) → (∀ M', M10.le M' → K (Value.bool ((x8 : Int) == (0 : Int))) M')) ∧ (¬ ((x7.Ok = false) ∧ ((x7.N : Int) = 0)) → (∀ M', M10.le M' → K (Value.bool false) M')))) ∧ (¬ ((x9 : Int) = want14) → (∀ M', M10.le M' → K (Value.bool false) M')))) ∧ (¬ ((want14 : Int) ≠ 0) → (CallW Try.prog 17 #[(.agg #[(.slice ga1 gl2 gc3)]), (.string (mkS s4))] M10 (Wr L M) (fun v M16 => ∃ (x15 : Option Addr), v = (Value.pointer x15) ∧ (∀ (M17 : Mem) (r18 : Nat), M16 r18 = none → M17 = M16.add r18 (.map #[] 0) → M r18 = none → (CallW Try.prog 18 #[(.pointer x15), (.int .i64 0), (.int .i64 0), (.map (some r18))] M17 (Wr L M) (fun v M20 => ∃ (x19 : Int), v = (Value.int .i64 x19) ∧ ((x19 > steps5 → (((x9 : Int) = 10 → (((x7.Ok = false) ∧ ((x7.N : Int) = 0) → (∀ M', M20.le M' → K (Value.bool ((x8 : Int) == (0 : Int))) M')) ∧ (¬ ((x7.Ok = false) ∧ ((x7.N : Int) = 0)) → (∀ M', M20.le M' → K (Value.bool false) M')))) ∧ (¬ ((x9 : Int) = 10) → (∀ M', M20.le M' → K (Value.bool false) M')))) ∧ (¬ (x19 > steps5) → (((x9 : Int) = 0 → (CallE Try.prog 19 #[(.pointer x15), (.int .i64 0), (.int .i64 0)] M20 (fun v _ => ∃ (x21 : X_api_Outcome), v = x21.val ∧ (((x7.Ok = x21.Ok) ∧ ((x7.N : Int) = x21.N) → (∀ M', M20.le M' → K (Value.bool ((x8 : Int) == (x19 : Int))) M')) ∧ (¬ ((x7.Ok = x21.Ok) ∧ ((x7.N : Int) = x21.N)) → (∀ M', M20.le M' → K (Value.bool false) M')))))) ∧ (¬ ((x9 : Int) = 0) → (∀ M', M20.le M' → K (Value.bool false) M'))))))))))))
def S_chafflaw_MeanRuns_J1 (ga1 : Option Addr) (gl2 : Nat) (gc3 : Nat) (s4 : List UInt8) (steps5 : Int) (M : Mem) (L : Nat → Prop) (x7 : X_api_Outcome) (x8 : Int) (x9 : Int) (M10 : Mem) (x12 : Int) (x13 : Bool) (K : Value → Mem → Prop) : Prop :=
 ((x13 = true → (S_chafflaw_MeanRuns_J2 ga1 gl2 gc3 s4 steps5 M L x7 x8 x9 M10 1 K)) ∧ (¬ (x13 = true) → (S_chafflaw_MeanRuns_J2 ga1 gl2 gc3 s4 steps5 M L x7 x8 x9 M10 x12 K)))
def S_chafflaw_MeanRuns (ga1 : Option Addr) (gl2 : Nat) (gc3 : Nat) (s4 : List UInt8) (steps5 : Int) (M : Mem) (L : Nat → Prop) (K : Value → Mem → Prop) : Prop :=
 (CallW Try.prog 15 #[(.agg #[(.slice ga1 gl2 gc3)]), (.string (mkS s4)), (.int .i64 steps5)] M (Wr L M) (fun v M10 => ∃ (x7 : X_api_Outcome) (x8 : Int) (x9 : Int), v = (Value.tuple #[x7.val, (.int .i64 x8), (.int .i64 x9)]) ∧ (CallE Try.prog 16 #[(.agg #[(.slice ga1 gl2 gc3)]), (.string (mkS s4))] M10 (fun v _ => ∃ (x12 : Int), v = (Value.int .i64 x12) ∧ (((x12 : Int) = 0 → ((steps5 < 0 → (S_chafflaw_MeanRuns_J1 ga1 gl2 gc3 s4 steps5 M L x7 x8 x9 M10 x12 true K)) ∧ (¬ (steps5 < 0) → (S_chafflaw_MeanRuns_J1 ga1 gl2 gc3 s4 steps5 M L x7 x8 x9 M10 x12 (decide (steps5 > 1048576)) K)))) ∧ (¬ ((x12 : Int) = 0) → (S_chafflaw_MeanRuns_J1 ga1 gl2 gc3 s4 steps5 M L x7 x8 x9 M10 x12 false K)))))))
set_option maxRecDepth 100000 in
theorem s_chafflaw_MeanRuns (ga1 : Option Addr) (gl2 : Nat) (gc3 : Nat) (s4 : List UInt8) (steps5 : Int) (M : Mem) (L : Nat → Prop) (K : Value → Mem → Prop) (hS : S_chafflaw_MeanRuns ga1 gl2 gc3 s4 steps5 M L K) : CallW Try.prog 3 #[(Value.agg #[(Value.slice ga1 gl2 gc3)]), (Value.string (mkS s4)), (Value.int .i64 steps5)] M L K := by
 refine enterW Try.func3 rfl 81 rfl (Nat.le_of_ble_eq_true rfl) (fun E a hs => ?_)
 unfold S_chafflaw_MeanRuns at hS
 have hMM := WX.refl M E
 change Sx 81 E (bwW E M L) M E a [(0, (.agg #[(.slice ga1 gl2 gc3)])), (1, (.string (mkS s4))), (2, (iv steps5))] [] [] at hs
 refine Wp.seq (Wp.region (stepBox [(.slice ga1 gl2 gc3)] hs rfl rfl rfl (by decide) (fun _ _ b6 hEb6 hs => ?_)))
 refine sP (.bool false) hs fun _ hs => ?_
 refine wpList_nil (Wp.seq (Wp.region (sY (.agg #[(.slice ga1 gl2 gc3)]) hs (Yl.lB [(.slice ga1 gl2 gc3)] true 0) fun _ hs => ?_)))
 refine sP (.string (mkS s4)) hs fun _ hs => ?_
 refine sP (iv steps5) hs fun _ hs => ?_
 refine stepCallW [(.agg #[(.slice ga1 gl2 gc3)]), (.string (mkS s4)), (iv steps5)] hs hMM rfl ⟨_, rfl, rfl⟩ rfl Try.func15 rfl (by kernel_rfl) (by decide) hS (fun _ _ M10 v hMM hS hs => ?_)
 obtain ⟨x7, x8, x9, hv, hS⟩ := hS
 subst hv
 refine sP (Value.tuple #[x7.val, (iv x8), (iv x9)]) hs fun _ hs => ?_
 refine sP x7.val hs fun _ hs => ?_
 refine sP (iv x8) hs fun _ hs => ?_
 refine sP (iv x9) hs fun _ hs => ?_
 refine stepAlloc [(.bool false), (iv 0)] hs (by kernel_rfl) (by decide) (fun _ _ b11 hEb11 hs => ?_)
 refine stB 0 [(.bool x7.Ok), (iv x7.N)] [⟨b11, 26, [(.bool x7.Ok), (iv x7.N)]⟩, ⟨b6, 24, [(.slice ga1 gl2 gc3)]⟩] hs fun _ _ hs => ?_
 refine sP (iv x8) hs fun _ hs => ?_
 refine sP (iv x9) hs fun _ hs => ?_
 refine wpList_nil (Wp.seq (Wp.region (sY (.agg #[(.slice ga1 gl2 gc3)]) hs (Yl.lB [(.slice ga1 gl2 gc3)] true 1) fun _ hs => ?_)))
 refine sP (.string (mkS s4)) hs fun _ hs => ?_
 refine stepCallP [(.agg #[(.slice ga1 gl2 gc3)]), (.string (mkS s4))] hs rfl ⟨_, rfl, rfl⟩ rfl Try.func16 rfl (by kernel_rfl) (by decide) hS (fun _ _ v hS hs => ?_)
 obtain ⟨x12, hv, hS⟩ := hS
 subst hv
 refine sP (iv x12) hs fun _ hs => ?_
 refine wpList_nil (Wp.join (fun a w => ∃ (want14 : Int), Sx 81 E (bwW E M L) M10 w a [(1, (.string (mkS s4))), (2, (iv steps5)), (3, (pt b6 0)), (7, (pt b11 0)), (8, (iv x8)), (9, (iv x9)), (10, (iv want14))] [⟨b11, 26, [(.bool x7.Ok), (iv x7.N)]⟩, ⟨b6, 24, [(.slice ga1 gl2 gc3)]⟩] [] ∧ (S_chafflaw_MeanRuns_J2 ga1 gl2 gc3 s4 steps5 M L x7 x8 x9 M10 want14 K)) ?_ ?_)
 ·refine Wp.join (fun a w => ∃ (x13 : Bool), Sx 81 E (bwW E M L) M10 w a [(1, (.string (mkS s4))), (2, (iv steps5)), (3, (pt b6 0)), (7, (pt b11 0)), (8, (iv x8)), (9, (iv x9)), (10, (iv x12)), (33, (.bool x13))] [⟨b11, 26, [(.bool x7.Ok), (iv x7.N)]⟩, ⟨b6, 24, [(.slice ga1 gl2 gc3)]⟩] [] ∧ (S_chafflaw_MeanRuns_J1 ga1 gl2 gc3 s4 steps5 M L x7 x8 x9 M10 x12 x13 K)) ?_ ?_
  ·refine Wp.region (sP (iv x12) hs fun _ hs => ?_)
   refine sP (.bool ((x12 : Int) == (0 : Int))) hs fun _ hs => ?_
   refine sP (.bool ((x12 : Int) == (0 : Int))) hs fun _ hs => ?_
   refine bsplit ((x12 : Int) == (0 : Int)) beq_iff_eq (fun hb hc => ?_) (fun hb hc => ?_)
   ·have hs := hs.bt hb
    have hS := hS.1 hc
    refine sYe hs (sP (iv steps5) hs fun _ hs => ?_)
    refine sYe hs (sP (.bool (decide (steps5 < 0))) hs fun _ hs => ?_)
    refine sYe hs (sP (.bool (decide (steps5 < 0))) hs fun _ hs => ?_)
    refine bsplit (decide (steps5 < 0)) decide_eq_true_iff (fun hb hc => ?_) (fun hb hc => ?_)
    ·have hs := hs.bt hb
     have hS := hS.1 hc
     refine sNo hs fun _ hs => ?_
     refine sNo hs fun _ hs => ?_
     refine sYe hs (sP (.bool true) hs fun _ hs => ?_)
     refine sP (.bool true) hs fun _ hs => ?_
     exact wpList_nil (⟨true, (hs.wk ⟨rfl, rfl, rfl, rfl, rfl, rfl, rfl, rfl, trivial⟩), hS⟩)
    ·have hs := hs.bf hb
     have hS := hS.2 hc
     refine sYe hs (sP (iv steps5) hs fun _ hs => ?_)
     refine sYe hs (sP (.bool (decide (steps5 > 1048576))) hs fun _ hs => ?_)
     refine sYe hs (sP (.bool (decide (steps5 > 1048576))) hs fun _ hs => ?_)
     refine sP (.bool (decide (steps5 > 1048576))) hs fun _ hs => ?_
     exact wpList_nil (⟨(decide (steps5 > 1048576)), (hs.wk ⟨rfl, rfl, rfl, rfl, rfl, rfl, rfl, rfl, trivial⟩), hS⟩)
   ·have hs := hs.bf hb
    have hS := hS.2 hc
    refine sNo hs fun _ hs => ?_
    refine sNo hs fun _ hs => ?_
    refine sNo hs fun _ hs => ?_
    refine sNu hs fun _ hs => ?_
    refine sNu hs fun _ hs => ?_
    refine sNo hs fun _ hs => ?_
    refine sP (.bool false) hs fun _ hs => ?_
    exact wpList_nil (⟨false, (hs.wk ⟨rfl, rfl, rfl, rfl, rfl, rfl, rfl, rfl, trivial⟩), hS⟩)
  ·intro a w hJ
   obtain ⟨x13, hs, hS⟩ := hJ
   unfold S_chafflaw_MeanRuns_J1 at hS
   refine Wp.cond hs rfl rfl Iff.rfl (fun hc => ?_) (fun hc => ?_)
   ·have hS := hS.1 hc
    refine Wp.region (sP (iv 1) hs fun _ hs => ?_)
    exact wpList_nil (⟨1, (hs.wk ⟨rfl, rfl, rfl, rfl, rfl, rfl, rfl, trivial⟩), hS⟩)
   ·have hS := hS.2 hc
    exact Wp.skip (⟨x12, (hs.wk ⟨rfl, rfl, rfl, rfl, rfl, rfl, rfl, trivial⟩), hS⟩)
 ·intro a w hJ
  obtain ⟨want14, hs, hS⟩ := hJ
  unfold S_chafflaw_MeanRuns_J2 at hS
  refine Wp.seq (Wp.seq (Wp.region (sP (iv want14) hs fun _ hs => ?_)))
  refine sP (.bool ((want14 : Int) != (0 : Int))) hs fun _ hs => ?_
  refine wpList_nil (Wp.cond hs rfl rfl bne_iff_ne (fun hc => ?_) (fun hc => ?_))
  ·have hS := hS.1 hc
   refine Wp.seq (Wp.region (sP (iv x9) hs fun _ hs => ?_))
   refine sP (iv want14) hs fun _ hs => ?_
   refine sP (.bool ((x9 : Int) == (want14 : Int))) hs fun _ hs => ?_
   refine sP (.bool ((x9 : Int) == (want14 : Int))) hs fun _ hs => ?_
   refine bsplit ((x9 : Int) == (want14 : Int)) beq_iff_eq (fun hb hc => ?_) (fun hb hc => ?_)
   ·have hs := hs.bt hb
    have hS := hS.1 hc
    refine sYe hs (sY x7.val hs (Yl.lB x7.cells true 0) fun _ hs => ?_)
    refine sYe hs (sP (X_api_Outcome.mk false 0).val hs fun _ hs => ?_)
    refine sYe hs (sY (.bool ((x7.Ok == false) && ((x7.N : Int) == (0 : Int)))) hs (Yl.eqlC (b := ((x7.Ok == false) && ((x7.N : Int) == (0 : Int)))) [(.bool x7.Ok), (iv x7.N)] [(.bool false), (iv 0)] rfl (by kernel_rfl) (by kernel_rfl) rfl rfl (by kernel_rfl)) fun _ hs => ?_)
    refine sP (.bool ((x7.Ok == false) && ((x7.N : Int) == (0 : Int)))) hs fun _ hs => ?_
    refine sP (.bool ((x7.Ok == false) && ((x7.N : Int) == (0 : Int)))) hs fun _ hs => ?_
    refine bsplit ((x7.Ok == false) && ((x7.N : Int) == (0 : Int))) (band_iff beq_iff_eq beq_iff_eq) (fun hb hc => ?_) (fun hb hc => ?_)
    ·have hs := hs.bt hb
     have hS := hS.1 hc
     refine sYe hs (sP (iv x8) hs fun _ hs => ?_)
     refine sYe hs (sP (.bool ((x8 : Int) == (0 : Int))) hs fun _ hs => ?_)
     refine sP (.bool ((x8 : Int) == (0 : Int))) hs fun _ hs => ?_
     refine sP (.bool ((x8 : Int) == (0 : Int))) hs fun _ hs => ?_
     exact wpList_nil (Wp.ret (leaveW (K := K) hs (resT hs rfl rfl) hMM hS))
    ·have hs := hs.bf hb
     have hS := hS.2 hc
     refine sNo hs fun _ hs => ?_
     refine sNo hs fun _ hs => ?_
     refine sP (.bool false) hs fun _ hs => ?_
     refine sP (.bool false) hs fun _ hs => ?_
     exact wpList_nil (Wp.ret (leaveW (K := K) hs (resT hs rfl rfl) hMM hS))
   ·have hs := hs.bf hb
    have hS := hS.2 hc
    refine sNo hs fun _ hs => ?_
    refine sNo hs fun _ hs => ?_
    refine sNo hs fun _ hs => ?_
    refine sP (.bool false) hs fun _ hs => ?_
    refine sP (.bool false) hs fun _ hs => ?_
    refine sNo hs fun _ hs => ?_
    refine sNo hs fun _ hs => ?_
    refine sP (.bool false) hs fun _ hs => ?_
    refine sP (.bool false) hs fun _ hs => ?_
    exact wpList_nil (Wp.ret (leaveW (K := K) hs (resT hs rfl rfl) hMM hS))
  ·have hS := hS.2 hc
   refine Wp.skip (Wp.seq (Wp.region (sY (.agg #[(.slice ga1 gl2 gc3)]) hs (Yl.lB [(.slice ga1 gl2 gc3)] true 1) fun _ hs => ?_)))
   refine sP (.string (mkS s4)) hs fun _ hs => ?_
   refine stepCallW [(.agg #[(.slice ga1 gl2 gc3)]), (.string (mkS s4))] hs hMM rfl ⟨_, rfl, rfl⟩ rfl Try.func17 rfl (by kernel_rfl) (by decide) hS (fun _ _ M16 v hMM hS hs => ?_)
   obtain ⟨x15, hv, hS⟩ := hS
   subst hv
   refine sP (.pointer x15) hs fun _ hs => ?_
   refine wpList_nil (Wp.seq (Wp.region (sP (.pointer x15) hs fun _ hs => ?_)))
   refine stepMapNew hs hMM (by decide) (fun _ _ M17 r18 hMr hM2 hM0 hMM hs => ?_)
   have hS := hS M17 r18 hMr hM2 hM0
   refine stepCallW [(.pointer x15), (iv 0), (iv 0), (.map (some r18))] hs hMM rfl ⟨_, rfl, rfl⟩ rfl Try.func18 rfl (by kernel_rfl) (by decide) hS (fun _ _ M20 v hMM hS hs => ?_)
   obtain ⟨x19, hv, hS⟩ := hS
   subst hv
   refine sP (iv x19) hs fun _ hs => ?_
   refine wpList_nil (Wp.seq (Wp.seq (Wp.region (sP (iv x19) hs fun _ hs => ?_))))
   refine sP (iv steps5) hs fun _ hs => ?_
   refine sP (.bool (decide (x19 > steps5))) hs fun _ hs => ?_
   refine wpList_nil (Wp.cond hs rfl rfl decide_eq_true_iff (fun hc => ?_) (fun hc => ?_))
   ·have hS := hS.1 hc
    refine Wp.seq (Wp.region (sP (iv x9) hs fun _ hs => ?_))
    refine sP (.bool ((x9 : Int) == (10 : Int))) hs fun _ hs => ?_
    refine sP (.bool ((x9 : Int) == (10 : Int))) hs fun _ hs => ?_
    refine bsplit ((x9 : Int) == (10 : Int)) beq_iff_eq (fun hb hc => ?_) (fun hb hc => ?_)
    ·have hs := hs.bt hb
     have hS := hS.1 hc
     refine sYe hs (sY x7.val hs (Yl.lB x7.cells true 0) fun _ hs => ?_)
     refine sYe hs (sP (X_api_Outcome.mk false 0).val hs fun _ hs => ?_)
     refine sYe hs (sY (.bool ((x7.Ok == false) && ((x7.N : Int) == (0 : Int)))) hs (Yl.eqlC (b := ((x7.Ok == false) && ((x7.N : Int) == (0 : Int)))) [(.bool x7.Ok), (iv x7.N)] [(.bool false), (iv 0)] rfl (by kernel_rfl) (by kernel_rfl) rfl rfl (by kernel_rfl)) fun _ hs => ?_)
     refine sP (.bool ((x7.Ok == false) && ((x7.N : Int) == (0 : Int)))) hs fun _ hs => ?_
     refine sP (.bool ((x7.Ok == false) && ((x7.N : Int) == (0 : Int)))) hs fun _ hs => ?_
     refine bsplit ((x7.Ok == false) && ((x7.N : Int) == (0 : Int))) (band_iff beq_iff_eq beq_iff_eq) (fun hb hc => ?_) (fun hb hc => ?_)
     ·have hs := hs.bt hb
      have hS := hS.1 hc
      refine sYe hs (sP (iv x8) hs fun _ hs => ?_)
      refine sYe hs (sP (.bool ((x8 : Int) == (0 : Int))) hs fun _ hs => ?_)
      refine sP (.bool ((x8 : Int) == (0 : Int))) hs fun _ hs => ?_
      refine sP (.bool ((x8 : Int) == (0 : Int))) hs fun _ hs => ?_
      exact wpList_nil (Wp.ret (leaveW (K := K) hs (resT hs rfl rfl) hMM hS))
     ·have hs := hs.bf hb
      have hS := hS.2 hc
      refine sNo hs fun _ hs => ?_
      refine sNo hs fun _ hs => ?_
      refine sP (.bool false) hs fun _ hs => ?_
      refine sP (.bool false) hs fun _ hs => ?_
      exact wpList_nil (Wp.ret (leaveW (K := K) hs (resT hs rfl rfl) hMM hS))
    ·have hs := hs.bf hb
     have hS := hS.2 hc
     refine sNo hs fun _ hs => ?_
     refine sNo hs fun _ hs => ?_
     refine sNo hs fun _ hs => ?_
     refine sP (.bool false) hs fun _ hs => ?_
     refine sP (.bool false) hs fun _ hs => ?_
     refine sNo hs fun _ hs => ?_
     refine sNo hs fun _ hs => ?_
     refine sP (.bool false) hs fun _ hs => ?_
     refine sP (.bool false) hs fun _ hs => ?_
     exact wpList_nil (Wp.ret (leaveW (K := K) hs (resT hs rfl rfl) hMM hS))
   ·have hS := hS.2 hc
    refine Wp.skip (Wp.seq (Wp.regionD [true, true, true, true, true, false, true, true, true, true, true, true, true, true] hs (by kernel_rfl) rfl [⟨b11, 26, [(.bool x7.Ok), (iv x7.N)]⟩, ⟨b6, 24, [(.slice ga1 gl2 gc3)]⟩] (fun _ h => h) [] (fun _ h => h) (fun _ hs hC => ?_)))
    have hL := Mem.le.refl M20
    refine sE 0 ?_
    refine sP (iv x9) hs fun _ hs => ?_
    refine wpList_nil (⟨fun _ h => h, ?_⟩)
    refine sE 1 ?_
    refine sP (.bool ((x9 : Int) == (0 : Int))) hs fun _ hs => ?_
    refine wpList_nil (⟨fun _ h => h, ?_⟩)
    refine sE 2 ?_
    refine sP (.bool ((x9 : Int) == (0 : Int))) hs fun _ hs => ?_
    refine wpList_nil (⟨fun _ h => h, ?_⟩)
    refine bsplit ((x9 : Int) == (0 : Int)) beq_iff_eq (fun hb hc => ?_) (fun hb hc => ?_)
    ·have hs := hs.bt hb
     have hS := hS.1 hc
     refine dP (Value.pointer x15) 4 [5, 6, 7, 8, 9, 10, 11, 12, 13] hs QZ.no (wanted_yes hs rfl rfl rfl) fun _ hs => ?_
     refine WpD.ors (by kernel_rfl : _ = [3, 5]) ⟨?_, ?_, trivial⟩
     ·refine stepOne 3 rfl (wanted_yes hs rfl rfl rfl) #[] ?_
      refine sY x7.val hs (Yl.lB x7.cells true 0) fun _ hs => ?_
      refine wpList_nil (⟨fun _ h => h, ?_⟩)
      refine stepDE 5 rfl (wanted_yes hs rfl rfl rfl) (by kernel_rfl) #[] ?_
      refine stepCallP [(.pointer x15), (iv 0), (iv 0)] hs rfl ⟨_, rfl, rfl⟩ rfl Try.func19 rfl (by kernel_rfl) (by decide) hS (fun _ _ v hS hs => ?_)
      obtain ⟨x21, hv, hS⟩ := hS
      subst hv
      refine wpList_nil (⟨fun h => absurd h (by decide), ?_⟩)
      refine stepDE 6 rfl (wanted_yes hs rfl rfl rfl) (by kernel_rfl) #[] ?_
      refine sY (.bool ((x7.Ok == x21.Ok) && ((x7.N : Int) == (x21.N : Int)))) hs (Yl.eqlC (b := ((x7.Ok == x21.Ok) && ((x7.N : Int) == (x21.N : Int)))) [(.bool x7.Ok), (iv x7.N)] [(.bool x21.Ok), (iv x21.N)] rfl (by kernel_rfl) (by kernel_rfl) rfl rfl (by kernel_rfl)) fun _ hs => ?_
      refine wpList_nil (⟨fun _ h => h, ?_⟩)
      refine sE 7 ?_
      refine sP (.bool ((x7.Ok == x21.Ok) && ((x7.N : Int) == (x21.N : Int)))) hs fun _ hs => ?_
      refine wpList_nil (⟨fun _ h => h, ?_⟩)
      refine sE 8 ?_
      refine sP (.bool ((x7.Ok == x21.Ok) && ((x7.N : Int) == (x21.N : Int)))) hs fun _ hs => ?_
      refine wpList_nil (⟨fun _ h => h, ?_⟩)
      refine bsplit ((x7.Ok == x21.Ok) && ((x7.N : Int) == (x21.N : Int))) (band_iff beq_iff_eq beq_iff_eq) (fun hb hc => ?_) (fun hb hc => ?_)
      ·have hs := hs.bt hb
       have hS := hS.1 hc
       refine dP (iv x8) 9 [11, 12, 13] hs QZ.no (wanted_yes hs rfl rfl rfl) fun _ hs => ?_
       refine stepDE 10 rfl (wanted_yes hs rfl rfl rfl) (by kernel_rfl) #[] ?_
       refine sP (iv x19) hs fun _ hs => ?_
       refine wpList_nil (⟨fun _ h => h, ?_⟩)
       refine stepDE 11 rfl (wanted_yes hs rfl rfl rfl) (by kernel_rfl) #[] ?_
       refine sP (.bool ((x8 : Int) == (x19 : Int))) hs fun _ hs => ?_
       refine wpList_nil (⟨fun _ h => h, ?_⟩)
       refine sE 12 ?_
       refine sP (.bool ((x8 : Int) == (x19 : Int))) hs fun _ hs => ?_
       refine wpList_nil (⟨fun _ h => h, ?_⟩)
       refine sE 13 ?_
       refine sP (.bool ((x8 : Int) == (x19 : Int))) hs fun _ hs => ?_
       refine wpList_nil (⟨fun _ h => h, ?_⟩)
       refine WpD.done (by kernel_rfl) ?_ _
       exact Wp.ret (leaveW (K := K) hs (resT hs rfl rfl) hMM hS)
      ·have hs := hs.bf hb
       have hS := hS.2 hc
       refine dN 9 [11, 12, 13] hs QZ.no (wanted_no hs rfl rfl rfl rfl) fun _ hs => ?_
       refine dN 10 [11, 12, 13] hs QZ.no (wanted_no hs rfl rfl rfl rfl) fun _ hs => ?_
       refine dN 11 [12, 13] hs QZ.no (wanted_no hs rfl rfl rfl rfl) fun _ hs => ?_
       refine sE 12 ?_
       refine sP (.bool false) hs fun _ hs => ?_
       refine wpList_nil (⟨fun _ h => h, ?_⟩)
       refine sE 13 ?_
       refine sP (.bool false) hs fun _ hs => ?_
       refine wpList_nil (⟨fun _ h => h, ?_⟩)
       refine WpD.done (by kernel_rfl) ?_ _
       exact Wp.ret (leaveW (K := K) hs (resT hs rfl rfl) hMM hS)
     ·refine stepOne 5 rfl (wanted_yes hs rfl rfl rfl) #[] ?_
      refine stepCallP [(.pointer x15), (iv 0), (iv 0)] hs rfl ⟨_, rfl, rfl⟩ rfl Try.func19 rfl (by kernel_rfl) (by decide) hS (fun _ _ v hS hs => ?_)
      obtain ⟨x21, hv, hS⟩ := hS
      subst hv
      refine wpList_nil (⟨fun h => absurd h (by decide), ?_⟩)
      refine stepDE 3 rfl (wanted_yes hs rfl rfl rfl) (by kernel_rfl) #[] ?_
      refine sY x7.val hs (Yl.lB x7.cells true 0) fun _ hs => ?_
      refine wpList_nil (⟨fun _ h => h, ?_⟩)
      refine stepDE 6 rfl (wanted_yes hs rfl rfl rfl) (by kernel_rfl) #[] ?_
      refine sY (.bool ((x7.Ok == x21.Ok) && ((x7.N : Int) == (x21.N : Int)))) hs (Yl.eqlC (b := ((x7.Ok == x21.Ok) && ((x7.N : Int) == (x21.N : Int)))) [(.bool x7.Ok), (iv x7.N)] [(.bool x21.Ok), (iv x21.N)] rfl (by kernel_rfl) (by kernel_rfl) rfl rfl (by kernel_rfl)) fun _ hs => ?_
      refine wpList_nil (⟨fun _ h => h, ?_⟩)
      refine sE 7 ?_
      refine sP (.bool ((x7.Ok == x21.Ok) && ((x7.N : Int) == (x21.N : Int)))) hs fun _ hs => ?_
      refine wpList_nil (⟨fun _ h => h, ?_⟩)
      refine sE 8 ?_
      refine sP (.bool ((x7.Ok == x21.Ok) && ((x7.N : Int) == (x21.N : Int)))) hs fun _ hs => ?_
      refine wpList_nil (⟨fun _ h => h, ?_⟩)
      refine bsplit ((x7.Ok == x21.Ok) && ((x7.N : Int) == (x21.N : Int))) (band_iff beq_iff_eq beq_iff_eq) (fun hb hc => ?_) (fun hb hc => ?_)
      ·have hs := hs.bt hb
       have hS := hS.1 hc
       refine dP (iv x8) 9 [11, 12, 13] hs QZ.no (wanted_yes hs rfl rfl rfl) fun _ hs => ?_
       refine stepDE 10 rfl (wanted_yes hs rfl rfl rfl) (by kernel_rfl) #[] ?_
       refine sP (iv x19) hs fun _ hs => ?_
       refine wpList_nil (⟨fun _ h => h, ?_⟩)
       refine stepDE 11 rfl (wanted_yes hs rfl rfl rfl) (by kernel_rfl) #[] ?_
       refine sP (.bool ((x8 : Int) == (x19 : Int))) hs fun _ hs => ?_
       refine wpList_nil (⟨fun _ h => h, ?_⟩)
       refine sE 12 ?_
       refine sP (.bool ((x8 : Int) == (x19 : Int))) hs fun _ hs => ?_
       refine wpList_nil (⟨fun _ h => h, ?_⟩)
       refine sE 13 ?_
       refine sP (.bool ((x8 : Int) == (x19 : Int))) hs fun _ hs => ?_
       refine wpList_nil (⟨fun _ h => h, ?_⟩)
       refine WpD.done (by kernel_rfl) ?_ _
       exact Wp.ret (leaveW (K := K) hs (resT hs rfl rfl) hMM hS)
      ·have hs := hs.bf hb
       have hS := hS.2 hc
       refine dN 9 [11, 12, 13] hs QZ.no (wanted_no hs rfl rfl rfl rfl) fun _ hs => ?_
       refine dN 10 [11, 12, 13] hs QZ.no (wanted_no hs rfl rfl rfl rfl) fun _ hs => ?_
       refine dN 11 [12, 13] hs QZ.no (wanted_no hs rfl rfl rfl rfl) fun _ hs => ?_
       refine sE 12 ?_
       refine sP (.bool false) hs fun _ hs => ?_
       refine wpList_nil (⟨fun _ h => h, ?_⟩)
       refine sE 13 ?_
       refine sP (.bool false) hs fun _ hs => ?_
       refine wpList_nil (⟨fun _ h => h, ?_⟩)
       refine WpD.done (by kernel_rfl) ?_ _
       exact Wp.ret (leaveW (K := K) hs (resT hs rfl rfl) hMM hS)
    ·have hs := hs.bf hb
     have hS := hS.2 hc
     refine dN 3 [6, 7, 8, 9, 10, 11, 12, 13] hs QZ.no (wanted_no hs rfl rfl rfl rfl) fun _ hs => ?_
     refine dN 4 [5, 6, 7, 8, 9, 10, 11, 12, 13] hs QZ.no (wanted_no hs rfl rfl rfl rfl) fun _ hs => ?_
     refine dN 5 [6, 7, 8, 9, 10, 11, 12, 13] hs QZ.no (wanted_no hs rfl rfl rfl rfl) fun _ hs => ?_
     refine dN 6 [7, 8, 9, 10, 11, 12, 13] hs QZ.no (wanted_no hs rfl rfl rfl rfl) fun _ hs => ?_
     refine sE 7 ?_
     refine sP (.bool false) hs fun _ hs => ?_
     refine wpList_nil (⟨fun _ h => h, ?_⟩)
     refine sE 8 ?_
     refine sP (.bool false) hs fun _ hs => ?_
     refine wpList_nil (⟨fun _ h => h, ?_⟩)
     refine dN 9 [11, 12, 13] hs QZ.no (wanted_no hs rfl rfl rfl rfl) fun _ hs => ?_
     refine dN 10 [11, 12, 13] hs QZ.no (wanted_no hs rfl rfl rfl rfl) fun _ hs => ?_
     refine dN 11 [12, 13] hs QZ.no (wanted_no hs rfl rfl rfl rfl) fun _ hs => ?_
     refine sE 12 ?_
     refine sP (.bool false) hs fun _ hs => ?_
     refine wpList_nil (⟨fun _ h => h, ?_⟩)
     refine sE 13 ?_
     refine sP (.bool false) hs fun _ hs => ?_
     refine wpList_nil (⟨fun _ h => h, ?_⟩)
     refine WpD.done (by kernel_rfl) ?_ _
     exact Wp.ret (leaveW (K := K) hs (resT hs rfl rfl) hMM hS)
theorem e_chafflaw_MeanRuns (ga1 : Option Addr) (gl2 : Nat) (gc3 : Nat) (s4 : List UInt8) (steps5 : Int) (M : Mem) (K : Value → Mem → Prop) (hS : S_chafflaw_MeanRuns ga1 gl2 gc3 s4 steps5 M (fun _ => False) K) : CallE Try.prog 3 #[(Value.agg #[(Value.slice ga1 gl2 gc3)]), (Value.string (mkS s4)), (Value.int .i64 steps5)] M K := (s_chafflaw_MeanRuns _ _ _ _ _ _ _ _ hS).toE

end Go.Proofs.Ytifkffmecfgpeaa.core
