/- What the code computes, function for function, as shallow propositions; printed by program. -/
import Derived.Test.YtifkffmecfgpeaaPackG
namespace Go.Proofs.Ytifkffmecfgpeaa.core
open Go.Gx Go.RowKit Go.ChangeShapes Go.WideShapes Go.ChangeAt
set_option linter.unusedVariables false
def S_chafflaw_PackAts_J2 (ga1 : Option Addr) (gl2 : Nat) (gc3 : Nat) (rule4 : Int) (s5 : List UInt8) (at6 : Int) (M : Mem) (x8 : X_api_Outcome) (x9 : Int) (want13 : Int) (K : Value → Prop) : Prop :=
 (((want13 : Int) ≠ 0 → (((x9 : Int) = want13 → K (Value.bool ((x8.Ok == false) && ((x8.N : Int) == (0 : Int))))) ∧ (¬ ((x9 : Int) = want13) → K (Value.bool false)))) ∧ (¬ ((want13 : Int) ≠ 0) → (((x9 : Int) = 0 → (CallE Try.prog 17 #[(.agg #[(.slice ga1 gl2 gc3)]), (.string (mkS s5))] M (fun v M15 => ∃ (x14 : Option Addr), v = (Value.pointer x14) ∧ (CallE Try.prog 19 #[(.pointer x14), (.int .i64 rule4), (.int .i64 at6)] M15 (fun v _ => ∃ (x16 : X_api_Outcome), v = x16.val ∧ K (Value.bool ((x8.Ok == x16.Ok) && ((x8.N : Int) == (x16.N : Int))))))))) ∧ (¬ ((x9 : Int) = 0) → K (Value.bool false)))))
def S_chafflaw_PackAts_J1 (ga1 : Option Addr) (gl2 : Nat) (gc3 : Nat) (rule4 : Int) (s5 : List UInt8) (at6 : Int) (M : Mem) (x8 : X_api_Outcome) (x9 : Int) (x11 : Int) (x12 : Bool) (K : Value → Prop) : Prop :=
 ((x12 = true → (S_chafflaw_PackAts_J2 ga1 gl2 gc3 rule4 s5 at6 M x8 x9 1 K)) ∧ (¬ (x12 = true) → (S_chafflaw_PackAts_J2 ga1 gl2 gc3 rule4 s5 at6 M x8 x9 x11 K)))
def S_chafflaw_PackAts (ga1 : Option Addr) (gl2 : Nat) (gc3 : Nat) (rule4 : Int) (s5 : List UInt8) (at6 : Int) (M : Mem) (K : Value → Prop) : Prop :=
 (CallE Try.prog 27 #[(.agg #[(.slice ga1 gl2 gc3)]), (.int .i64 rule4), (.string (mkS s5)), (.int .i64 at6)] M (fun v _ => ∃ (x8 : X_api_Outcome) (x9 : Int), v = (Value.tuple #[x8.val, (.int .i64 x9)]) ∧ (CallE Try.prog 16 #[(.agg #[(.slice ga1 gl2 gc3)]), (.string (mkS s5))] M (fun v _ => ∃ (x11 : Int), v = (Value.int .i64 x11) ∧ (((x11 : Int) = 0 → ((rule4 < 0 → (S_chafflaw_PackAts_J1 ga1 gl2 gc3 rule4 s5 at6 M x8 x9 x11 true K)) ∧ (¬ (rule4 < 0) → ((rule4 ≥ ((gl2 : Nat) : Int) → (S_chafflaw_PackAts_J1 ga1 gl2 gc3 rule4 s5 at6 M x8 x9 x11 true K)) ∧ (¬ (rule4 ≥ ((gl2 : Nat) : Int)) → ((at6 < 0 → (S_chafflaw_PackAts_J1 ga1 gl2 gc3 rule4 s5 at6 M x8 x9 x11 true K)) ∧ (¬ (at6 < 0) → (S_chafflaw_PackAts_J1 ga1 gl2 gc3 rule4 s5 at6 M x8 x9 x11 (decide (at6 > ((s5.length : Nat) : Int))) K)))))))) ∧ (¬ ((x11 : Int) = 0) → (S_chafflaw_PackAts_J1 ga1 gl2 gc3 rule4 s5 at6 M x8 x9 x11 false K)))))))
set_option maxRecDepth 100000 in
theorem s_chafflaw_PackAts (ga1 : Option Addr) (gl2 : Nat) (gc3 : Nat) (rule4 : Int) (s5 : List UInt8) (at6 : Int) (M : Mem) (K : Value → Prop) (hS : S_chafflaw_PackAts ga1 gl2 gc3 rule4 s5 at6 M K) : CallE Try.prog 6 #[(Value.agg #[(Value.slice ga1 gl2 gc3)]), (Value.int .i64 rule4), (Value.string (mkS s5)), (Value.int .i64 at6)] M (fun v _ => K v) := by
 refine enterE Try.func6 rfl 68 rfl (Nat.le_of_ble_eq_true rfl) (fun E a hs => ?_)
 unfold S_chafflaw_PackAts at hS
 have hMM := MX.refl M E
 change Sx 68 E [] M E a [(0, (.agg #[(.slice ga1 gl2 gc3)])), (1, (iv rule4)), (2, (.string (mkS s5))), (3, (iv at6))] [] [] at hs
 refine Wp.seq (Wp.region (stepBox [(.slice ga1 gl2 gc3)] hs rfl rfl rfl (by decide) (fun _ _ b7 hEb7 hs => ?_)))
 refine sP (.bool false) hs fun _ hs => ?_
 refine wpList_nil (Wp.seq (Wp.region (sY (.agg #[(.slice ga1 gl2 gc3)]) hs (Yl.lB [(.slice ga1 gl2 gc3)] true 0) fun _ hs => ?_)))
 refine sP (iv rule4) hs fun _ hs => ?_
 refine sP (.string (mkS s5)) hs fun _ hs => ?_
 refine sP (iv at6) hs fun _ hs => ?_
 refine stepCallP [(.agg #[(.slice ga1 gl2 gc3)]), (iv rule4), (.string (mkS s5)), (iv at6)] hs rfl ⟨_, rfl, rfl⟩ rfl Try.func27 rfl (by kernel_rfl) (by decide) hS (fun _ _ v hS hs => ?_)
 obtain ⟨x8, x9, hv, hS⟩ := hS
 subst hv
 refine sP (Value.tuple #[x8.val, (iv x9)]) hs fun _ hs => ?_
 refine sP x8.val hs fun _ hs => ?_
 refine sP (iv x9) hs fun _ hs => ?_
 refine stepAlloc [(.bool false), (iv 0)] hs (by kernel_rfl) (by decide) (fun _ _ b10 hEb10 hs => ?_)
 refine stB 0 [(.bool x8.Ok), (iv x8.N)] [⟨b10, 26, [(.bool x8.Ok), (iv x8.N)]⟩, ⟨b7, 24, [(.slice ga1 gl2 gc3)]⟩] hs fun _ _ hs => ?_
 refine sP (iv x9) hs fun _ hs => ?_
 refine wpList_nil (Wp.seq (Wp.region (sY (.agg #[(.slice ga1 gl2 gc3)]) hs (Yl.lB [(.slice ga1 gl2 gc3)] true 1) fun _ hs => ?_)))
 refine sP (.string (mkS s5)) hs fun _ hs => ?_
 refine stepCallP [(.agg #[(.slice ga1 gl2 gc3)]), (.string (mkS s5))] hs rfl ⟨_, rfl, rfl⟩ rfl Try.func16 rfl (by kernel_rfl) (by decide) hS (fun _ _ v hS hs => ?_)
 obtain ⟨x11, hv, hS⟩ := hS
 subst hv
 refine sP (iv x11) hs fun _ hs => ?_
 refine wpList_nil (Wp.join (fun a w => ∃ (want13 : Int), Sx 68 E [] M w a [(1, (iv rule4)), (2, (.string (mkS s5))), (3, (iv at6)), (4, (pt b7 0)), (9, (pt b10 0)), (10, (iv x9)), (11, (iv want13))] [⟨b10, 26, [(.bool x8.Ok), (iv x8.N)]⟩, ⟨b7, 24, [(.slice ga1 gl2 gc3)]⟩] [] ∧ (S_chafflaw_PackAts_J2 ga1 gl2 gc3 rule4 s5 at6 M x8 x9 want13 K)) ?_ ?_)
 ·refine Wp.join (fun a w => ∃ (x12 : Bool), Sx 68 E [] M w a [(1, (iv rule4)), (2, (.string (mkS s5))), (3, (iv at6)), (4, (pt b7 0)), (9, (pt b10 0)), (10, (iv x9)), (11, (iv x11)), (45, (.bool x12))] [⟨b10, 26, [(.bool x8.Ok), (iv x8.N)]⟩, ⟨b7, 24, [(.slice ga1 gl2 gc3)]⟩] [] ∧ (S_chafflaw_PackAts_J1 ga1 gl2 gc3 rule4 s5 at6 M x8 x9 x11 x12 K)) ?_ ?_
  ·refine Wp.region (sP (iv x11) hs fun _ hs => ?_)
   refine sP (.bool ((x11 : Int) == (0 : Int))) hs fun _ hs => ?_
   refine sP (.bool ((x11 : Int) == (0 : Int))) hs fun _ hs => ?_
   refine bsplit ((x11 : Int) == (0 : Int)) beq_iff_eq (fun hb hc => ?_) (fun hb hc => ?_)
   ·have hs := hs.bt hb
    have hS := hS.1 hc
    refine sYe hs (sP (iv rule4) hs fun _ hs => ?_)
    refine sYe hs (sP (.bool (decide (rule4 < 0))) hs fun _ hs => ?_)
    refine sYe hs (sP (.bool (decide (rule4 < 0))) hs fun _ hs => ?_)
    refine bsplit (decide (rule4 < 0)) decide_eq_true_iff (fun hb hc => ?_) (fun hb hc => ?_)
    ·have hs := hs.bt hb
     have hS := hS.1 hc
     refine sNo hs fun _ hs => ?_
     refine sNo hs fun _ hs => ?_
     refine sNo hs fun _ hs => ?_
     refine sNo hs fun _ hs => ?_
     refine sNo hs fun _ hs => ?_
     refine sYe hs (sP (.bool true) hs fun _ hs => ?_)
     refine sYe hs (sP (.bool true) hs fun _ hs => ?_)
     refine sNo hs fun _ hs => ?_
     refine sNo hs fun _ hs => ?_
     refine sYe hs (sP (.bool true) hs fun _ hs => ?_)
     refine sYe hs (sP (.bool true) hs fun _ hs => ?_)
     refine sNo hs fun _ hs => ?_
     refine sNo hs fun _ hs => ?_
     refine sNo hs fun _ hs => ?_
     refine sNo hs fun _ hs => ?_
     refine sYe hs (sP (.bool true) hs fun _ hs => ?_)
     refine sP (.bool true) hs fun _ hs => ?_
     exact wpList_nil (⟨true, (hs.wk ⟨rfl, rfl, rfl, rfl, rfl, rfl, rfl, rfl, trivial⟩), hS⟩)
    ·have hs := hs.bf hb
     have hS := hS.2 hc
     refine sYe hs (sP (iv rule4) hs fun _ hs => ?_)
     refine sYe hs (sP (pt b7 0) hs fun _ hs => ?_)
     refine sYe hs (sY (.slice ga1 gl2 gc3) hs (Yl.lB [(.slice ga1 gl2 gc3)] false 1) fun _ hs => ?_)
     refine sYe hs (sP (iv ((gl2 : Nat) : Int)) hs fun _ hs => ?_)
     refine sYe hs (sP (.bool (decide (rule4 ≥ ((gl2 : Nat) : Int)))) hs fun _ hs => ?_)
     refine sYe hs (sP (.bool (decide (rule4 ≥ ((gl2 : Nat) : Int)))) hs fun _ hs => ?_)
     refine sYe hs (sP (.bool (decide (rule4 ≥ ((gl2 : Nat) : Int)))) hs fun _ hs => ?_)
     refine bsplit (decide (rule4 ≥ ((gl2 : Nat) : Int))) decide_eq_true_iff (fun hb hc => ?_) (fun hb hc => ?_)
     ·have hs := hs.bt hb
      have hS := hS.1 hc
      refine sNo hs fun _ hs => ?_
      refine sNo hs fun _ hs => ?_
      refine sYe hs (sP (.bool true) hs fun _ hs => ?_)
      refine sYe hs (sP (.bool true) hs fun _ hs => ?_)
      refine sNo hs fun _ hs => ?_
      refine sNo hs fun _ hs => ?_
      refine sNo hs fun _ hs => ?_
      refine sNo hs fun _ hs => ?_
      refine sYe hs (sP (.bool true) hs fun _ hs => ?_)
      refine sP (.bool true) hs fun _ hs => ?_
      exact wpList_nil (⟨true, (hs.wk ⟨rfl, rfl, rfl, rfl, rfl, rfl, rfl, rfl, trivial⟩), hS⟩)
     ·have hs := hs.bf hb
      have hS := hS.2 hc
      refine sYe hs (sP (iv at6) hs fun _ hs => ?_)
      refine sYe hs (sP (.bool (decide (at6 < 0))) hs fun _ hs => ?_)
      refine sYe hs (sP (.bool (decide (at6 < 0))) hs fun _ hs => ?_)
      refine sYe hs (sP (.bool (decide (at6 < 0))) hs fun _ hs => ?_)
      refine bsplit (decide (at6 < 0)) decide_eq_true_iff (fun hb hc => ?_) (fun hb hc => ?_)
      ·have hs := hs.bt hb
       have hS := hS.1 hc
       refine sNo hs fun _ hs => ?_
       refine sNo hs fun _ hs => ?_
       refine sNo hs fun _ hs => ?_
       refine sNo hs fun _ hs => ?_
       refine sYe hs (sP (.bool true) hs fun _ hs => ?_)
       refine sP (.bool true) hs fun _ hs => ?_
       exact wpList_nil (⟨true, (hs.wk ⟨rfl, rfl, rfl, rfl, rfl, rfl, rfl, rfl, trivial⟩), hS⟩)
      ·have hs := hs.bf hb
       have hS := hS.2 hc
       refine sYe hs (sP (iv at6) hs fun _ hs => ?_)
       refine sYe hs (sP (.string (mkS s5)) hs fun _ hs => ?_)
       refine sYe hs (sP (iv ((s5.length : Nat) : Int)) hs fun _ hs => ?_)
       refine sYe hs (sP (.bool (decide (at6 > ((s5.length : Nat) : Int)))) hs fun _ hs => ?_)
       refine sYe hs (sP (.bool (decide (at6 > ((s5.length : Nat) : Int)))) hs fun _ hs => ?_)
       refine sP (.bool (decide (at6 > ((s5.length : Nat) : Int)))) hs fun _ hs => ?_
       exact wpList_nil (⟨(decide (at6 > ((s5.length : Nat) : Int))), (hs.wk ⟨rfl, rfl, rfl, rfl, rfl, rfl, rfl, rfl, trivial⟩), hS⟩)
   ·have hs := hs.bf hb
    have hS := hS.2 hc
    refine sNo hs fun _ hs => ?_
    refine sNo hs fun _ hs => ?_
    refine sNo hs fun _ hs => ?_
    refine sNu hs fun _ hs => ?_
    refine sNu hs fun _ hs => ?_
    refine sNu hs fun _ hs => ?_
    refine sNu hs fun _ hs => ?_
    refine sNu hs fun _ hs => ?_
    refine sNo hs fun _ hs => ?_
    refine sNo hs fun _ hs => ?_
    refine sNu hs fun _ hs => ?_
    refine sNu hs fun _ hs => ?_
    refine sNo hs fun _ hs => ?_
    refine sNo hs fun _ hs => ?_
    refine sNu hs fun _ hs => ?_
    refine sNu hs fun _ hs => ?_
    refine sNu hs fun _ hs => ?_
    refine sNu hs fun _ hs => ?_
    refine sNo hs fun _ hs => ?_
    refine sP (.bool false) hs fun _ hs => ?_
    exact wpList_nil (⟨false, (hs.wk ⟨rfl, rfl, rfl, rfl, rfl, rfl, rfl, rfl, trivial⟩), hS⟩)
  ·intro a w hJ
   obtain ⟨x12, hs, hS⟩ := hJ
   unfold S_chafflaw_PackAts_J1 at hS
   refine Wp.cond hs rfl rfl Iff.rfl (fun hc => ?_) (fun hc => ?_)
   ·have hS := hS.1 hc
    refine Wp.region (sP (iv 1) hs fun _ hs => ?_)
    exact wpList_nil (⟨1, (hs.wk ⟨rfl, rfl, rfl, rfl, rfl, rfl, rfl, trivial⟩), hS⟩)
   ·have hS := hS.2 hc
    exact Wp.skip (⟨x11, (hs.wk ⟨rfl, rfl, rfl, rfl, rfl, rfl, rfl, trivial⟩), hS⟩)
 ·intro a w hJ
  obtain ⟨want13, hs, hS⟩ := hJ
  unfold S_chafflaw_PackAts_J2 at hS
  refine Wp.seq (Wp.seq (Wp.region (sP (iv want13) hs fun _ hs => ?_)))
  refine sP (.bool ((want13 : Int) != (0 : Int))) hs fun _ hs => ?_
  refine wpList_nil (Wp.cond hs rfl rfl bne_iff_ne (fun hc => ?_) (fun hc => ?_))
  ·have hS := hS.1 hc
   refine Wp.seq (Wp.region (sP (iv x9) hs fun _ hs => ?_))
   refine sP (iv want13) hs fun _ hs => ?_
   refine sP (.bool ((x9 : Int) == (want13 : Int))) hs fun _ hs => ?_
   refine sP (.bool ((x9 : Int) == (want13 : Int))) hs fun _ hs => ?_
   refine bsplit ((x9 : Int) == (want13 : Int)) beq_iff_eq (fun hb hc => ?_) (fun hb hc => ?_)
   ·have hs := hs.bt hb
    have hS := hS.1 hc
    refine sYe hs (sY x8.val hs (Yl.lB x8.cells true 0) fun _ hs => ?_)
    refine sYe hs (sP (X_api_Outcome.mk false 0).val hs fun _ hs => ?_)
    refine sYe hs (sY (.bool ((x8.Ok == false) && ((x8.N : Int) == (0 : Int)))) hs (Yl.eqlC (b := ((x8.Ok == false) && ((x8.N : Int) == (0 : Int)))) [(.bool x8.Ok), (iv x8.N)] [(.bool false), (iv 0)] rfl (by kernel_rfl) (by kernel_rfl) rfl rfl (by kernel_rfl)) fun _ hs => ?_)
    refine sP (.bool ((x8.Ok == false) && ((x8.N : Int) == (0 : Int)))) hs fun _ hs => ?_
    refine sP (.bool ((x8.Ok == false) && ((x8.N : Int) == (0 : Int)))) hs fun _ hs => ?_
    exact wpList_nil (Wp.ret (lvE K hs (resT hs rfl rfl) hMM.2 hS))
   ·have hs := hs.bf hb
    have hS := hS.2 hc
    refine sNo hs fun _ hs => ?_
    refine sNo hs fun _ hs => ?_
    refine sNo hs fun _ hs => ?_
    refine sP (.bool false) hs fun _ hs => ?_
    refine sP (.bool false) hs fun _ hs => ?_
    exact wpList_nil (Wp.ret (lvE K hs (resT hs rfl rfl) hMM.2 hS))
  ·have hS := hS.2 hc
   refine Wp.skip (Wp.seq (Wp.regionD [true, true, true, true, true, true, true, true, true, true, true, true, true] hs (by kernel_rfl) rfl [⟨b10, 26, [(.bool x8.Ok), (iv x8.N)]⟩, ⟨b7, 24, [(.slice ga1 gl2 gc3)]⟩] (fun _ h => h) [] (fun _ h => h) (fun _ hs hC => ?_)))
   have hL := Mem.le.refl M
   refine sE 0 ?_
   refine sP (iv x9) hs fun _ hs => ?_
   refine wpList_nil (⟨fun _ h => h, ?_⟩)
   refine sE 1 ?_
   refine sP (.bool ((x9 : Int) == (0 : Int))) hs fun _ hs => ?_
   refine wpList_nil (⟨fun _ h => h, ?_⟩)
   refine sE 2 ?_
   refine sP (.bool ((x9 : Int) == (0 : Int))) hs fun _ hs => ?_
   refine wpList_nil (⟨fun _ h => h, ?_⟩)
   refine bsplit ((x9 : Int) == (0 : Int)) beq_iff_eq (fun hb hc => ?_) (fun hb hc => ?_)
   ·have hs := hs.bt hb
    have hS := hS.1 hc
    refine stepDY (v := x8.val) 3 [10, 11, 12] hs hC QZ.no rfl (wanted_yes hs rfl rfl rfl) rfl (by decide) (by kernel_rfl) (by kernel_rfl) (by kernel_rfl) (Yl.lB x8.cells true 0) (fun _ hs => ?_)
    refine stepDY (v := (.agg #[(.slice ga1 gl2 gc3)])) 4 [6, 9, 10, 11, 12] hs hC QZ.no rfl (wanted_yes hs rfl rfl rfl) rfl (by decide) (by kernel_rfl) (by kernel_rfl) (by kernel_rfl) (Yl.lB [(.slice ga1 gl2 gc3)] true 1) (fun _ hs => ?_)
    refine dP (Value.string (mkS s5)) 5 [6, 9, 10, 11, 12] hs QZ.no (wanted_yes hs rfl rfl rfl) fun _ hs => ?_
    refine dP (iv rule4) 7 [9, 10, 11, 12] hs QZ.no (wanted_yes hs rfl rfl rfl) fun _ hs => ?_
    refine dP (iv at6) 8 [9, 10, 11, 12] hs QZ.no (wanted_yes hs rfl rfl rfl) fun _ hs => ?_
    refine stepDE 6 rfl (wanted_yes hs rfl rfl rfl) (by kernel_rfl) #[] ?_
    refine stepCallE [(.agg #[(.slice ga1 gl2 gc3)]), (.string (mkS s5))] hs rfl ⟨_, rfl, rfl⟩ rfl Try.func17 rfl (by kernel_rfl) (by decide) hS (fun _ _ M15 v hle hnew hS hs => ?_)
    have hMM := hMM.next hle hnew
    replace hL := hL.trans hle
    obtain ⟨x14, hv, hS⟩ := hS
    subst hv
    refine wpList_nil (⟨fun _ _ => hs.cxle hL (List.Sublist.refl _) (List.Sublist.refl _), ?_⟩)
    have hC := hs.cxle hL (List.Sublist.refl _) (List.Sublist.refl _)
    refine stepDE 9 rfl (wanted_yes hs rfl rfl rfl) (by kernel_rfl) #[] ?_
    refine stepCallP [(.pointer x14), (iv rule4), (iv at6)] hs rfl ⟨_, rfl, rfl⟩ rfl Try.func19 rfl (by kernel_rfl) (by decide) hS (fun _ _ v hS hs => ?_)
    obtain ⟨x16, hv, hS⟩ := hS
    subst hv
    refine wpList_nil (⟨fun _ _ => hs.cxle hL (List.Sublist.refl _) (List.Sublist.refl _), ?_⟩)
    have hC := hs.cxle hL (List.Sublist.refl _) (List.Sublist.refl _)
    refine stepDE 10 rfl (wanted_yes hs rfl rfl rfl) (by kernel_rfl) #[] ?_
    refine sY (.bool ((x8.Ok == x16.Ok) && ((x8.N : Int) == (x16.N : Int)))) hs (Yl.eqlC (b := ((x8.Ok == x16.Ok) && ((x8.N : Int) == (x16.N : Int)))) [(.bool x8.Ok), (iv x8.N)] [(.bool x16.Ok), (iv x16.N)] rfl (by kernel_rfl) (by kernel_rfl) rfl rfl (by kernel_rfl)) fun _ hs => ?_
    refine wpList_nil (⟨fun _ h => h, ?_⟩)
    refine sE 11 ?_
    refine sP (.bool ((x8.Ok == x16.Ok) && ((x8.N : Int) == (x16.N : Int)))) hs fun _ hs => ?_
    refine wpList_nil (⟨fun _ h => h, ?_⟩)
    refine sE 12 ?_
    refine sP (.bool ((x8.Ok == x16.Ok) && ((x8.N : Int) == (x16.N : Int)))) hs fun _ hs => ?_
    refine wpList_nil (⟨fun _ h => h, ?_⟩)
    refine WpD.done (by kernel_rfl) ?_ _
    exact Wp.ret (lvE K hs (resT hs rfl rfl) hMM.2 hS)
   ·have hs := hs.bf hb
    have hS := hS.2 hc
    refine dN 3 [10, 11, 12] hs QZ.no (wanted_no hs rfl rfl rfl rfl) fun _ hs => ?_
    refine dN 4 [6, 9, 10, 11, 12] hs QZ.no (wanted_no hs rfl rfl rfl rfl) fun _ hs => ?_
    refine dN 5 [6, 9, 10, 11, 12] hs QZ.no (wanted_no hs rfl rfl rfl rfl) fun _ hs => ?_
    refine dN 7 [9, 10, 11, 12] hs QZ.no (wanted_no hs rfl rfl rfl rfl) fun _ hs => ?_
    refine dN 8 [9, 10, 11, 12] hs QZ.no (wanted_no hs rfl rfl rfl rfl) fun _ hs => ?_
    refine dN 6 [9, 10, 11, 12] hs QZ.no (wanted_no hs rfl rfl rfl rfl) fun _ hs => ?_
    refine dN 9 [10, 11, 12] hs QZ.no (wanted_no hs rfl rfl rfl rfl) fun _ hs => ?_
    refine dN 10 [11, 12] hs QZ.no (wanted_no hs rfl rfl rfl rfl) fun _ hs => ?_
    refine sE 11 ?_
    refine sP (.bool false) hs fun _ hs => ?_
    refine wpList_nil (⟨fun _ h => h, ?_⟩)
    refine sE 12 ?_
    refine sP (.bool false) hs fun _ hs => ?_
    refine wpList_nil (⟨fun _ h => h, ?_⟩)
    refine WpD.done (by kernel_rfl) ?_ _
    exact Wp.ret (lvE K hs (resT hs rfl rfl) hMM.2 hS)

end Go.Proofs.Ytifkffmecfgpeaa.core
