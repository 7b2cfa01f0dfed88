/- What the code computes (Well), part 2; printed by program. -/
import Derived.Test.YtifkffmecfgpeaaWellGa
namespace Go.Proofs.Ytifkffmecfgpeaa.core
open Go.Gx Go.RowKit Go.ChangeShapes Go.WideShapes Go.ChangeAt
set_option linter.unusedVariables false
def S_chaffref_May_J1 (ga1 : Option Addr) (gl2 : Nat) (gc3 : Nat) (rulesa4 : Option Addr) (rulesl5 : Nat) (rulesc6 : Nat) (e7 : X_api_Expr) (M : Mem) (x10 : Bool) (K : Value → Prop) : Prop :=
 ((x10 = true → K (Value.int .i64 4)) ∧ (¬ (x10 = true) → ((e7.Kind ≤ 3 → K (Value.int .i64 6)) ∧ (¬ (e7.Kind ≤ 3) → (((e7.Kind : Int) = 4 → (CallE Try.prog 100 #[(.agg #[(.slice ga1 gl2 gc3)]), (.string (mkS e7.Text))] M (fun v _ => ∃ (x11 : Int), v = (Value.int .i64 x11) ∧ (∃ (b12 o13 : Nat), rulesa4 = some ⟨b12, o13, none⟩ ∧ (0 : Int) ≤ x11 ∧ x11 < ((rulesl5 : Nat) : Int) ∧ (∃ (x14 : Int), At M b12 (o13 + x11.toNat * 1) [(.int .i64 x14)] ∧ K (Value.int .i64 x14)))))) ∧ (¬ ((e7.Kind : Int) = 4) → (∃ (I42 : Int → Nat → List Value → Prop) (mu43 : Int → Nat → List Value → Nat), I42 0 0 [] ∧ ∀ (x38 : Int) (rn40 : Nat) (rx41 : List Value), (I42 x38 rn40 rx41 → ((x38 < ((e7.Kids_l : Nat) : Int) → (∃ (b44 o45 : Nat), e7.Kids_a = some ⟨b44, o45, none⟩ ∧ (0 : Int) ≤ x38 ∧ x38 < ((e7.Kids_l : Nat) : Int) ∧ (∃ (x46 : X_api_Expr), At M b44 (o45 + x38.toNat * 7) x46.cells ∧ (CallE Try.prog 61 #[(.agg #[(.slice ga1 gl2 gc3)]), (.slice rulesa4 rulesl5 rulesc6), x46.val] M (fun v _ => ∃ (x48 : Int), v = (Value.int .i64 x48) ∧ ((rn40 + 1) * 8 ≤ 140737488355328 ∧ (InI (x38 + 1) ∧ I42 (x38 + 1) (rn40 + 1) (rx41 ++ [(.int .i64 x48)]) ∧ mu43 (x38 + 1) (rn40 + 1) (rx41 ++ [(.int .i64 x48)]) < mu43 x38 rn40 rx41))))))) ∧ (¬ (x38 < ((e7.Kids_l : Nat) : Int)) → (((e7.Kind : Int) = 5 → (∀ (M56 : Mem) (ad54 : Option Addr) (cap55 : Nat), M.le M56 → SlV M56 ad54 rn40 cap55 1 rx41 → (CallE Try.prog 114 #[(.slice ad54 rn40 cap55)] M56 (fun v _ => ∃ (x53 : Int), v = (Value.int .i64 x53) ∧ K (Value.int .i64 x53))))) ∧ (¬ ((e7.Kind : Int) = 5) → (((e7.Kind : Int) = 6 → (∀ (M60 : Mem) (ad58 : Option Addr) (cap59 : Nat), M.le M60 → SlV M60 ad58 rn40 cap59 1 rx41 → (CallE Try.prog 115 #[(.slice ad58 rn40 cap59)] M60 (fun v _ => ∃ (x57 : Int), v = (Value.int .i64 x57) ∧ K (Value.int .i64 x57))))) ∧ (¬ ((e7.Kind : Int) = 6) → ((0 : Int) ≤ 0 ∧ 0 < ((rn40 : Nat) : Int) ∧ (∃ (x65 : Int), Cs rx41 (0 + (0 : Int).toNat * 1) [(.int .i64 x65)] ∧ (((e7.Kind : Int) = 7 → K (Value.int .i64 (bOr .i64 (bAnd .i64 x65 2) (bAnd .i64 (bShr .i64 x65 2) 1)))) ∧ (¬ ((e7.Kind : Int) = 7) → (((e7.Kind : Int) = 8 → (∀ (M70 : Mem) (ad68 : Option Addr) (cap69 : Nat), M.le M70 → SlV M70 ad68 2 cap69 1 [(.int .i64 x65), (.int .i64 (bOr .i64 (bAnd .i64 x65 2) (bAnd .i64 (bShr .i64 x65 2) 1)))] → (CallE Try.prog 114 #[(.slice ad68 2 cap69)] M70 (fun v _ => ∃ (x67 : Int), v = (Value.int .i64 x67) ∧ K (Value.int .i64 x67))))) ∧ (¬ ((e7.Kind : Int) = 8) → (((e7.Kind : Int) = 9 → (∀ (M75 : Mem) (ad73 : Option Addr) (cap74 : Nat), M.le M75 → SlV M75 ad73 2 cap74 1 [(.int .i64 x65), (.int .i64 1)] → (CallE Try.prog 115 #[(.slice ad73 2 cap74)] M75 (fun v _ => ∃ (x72 : Int), v = (Value.int .i64 x72) ∧ K (Value.int .i64 x72))))) ∧ (¬ ((e7.Kind : Int) = 9) → ((bAnd .i64 x65 3 > 0 → (S_chaffref_May_J2 e7 x65 1 K)) ∧ (¬ (bAnd .i64 x65 3 > 0) → (S_chaffref_May_J2 e7 x65 0 K)))))))))))))))))))))))))
def S_chaffref_May (ga1 : Option Addr) (gl2 : Nat) (gc3 : Nat) (rulesa4 : Option Addr) (rulesl5 : Nat) (rulesc6 : Nat) (e7 : X_api_Expr) (M : Mem) (K : Value → Prop) : Prop :=
 (((e7.Kind : Int) = 1 → K (Value.int .i64 1)) ∧ (¬ ((e7.Kind : Int) = 1) → (((e7.Kind : Int) = 2 → (S_chaffref_May_J1 ga1 gl2 gc3 rulesa4 rulesl5 rulesc6 e7 M (cellsEq [e7.Set.w0, e7.Set.w1, e7.Set.w2, e7.Set.w3] [0, 0, 0, 0]) K)) ∧ (¬ ((e7.Kind : Int) = 2) → (S_chaffref_May_J1 ga1 gl2 gc3 rulesa4 rulesl5 rulesc6 e7 M false K)))))
set_option maxRecDepth 100000 in
theorem s_chaffref_May (ga1 : Option Addr) (gl2 : Nat) (gc3 : Nat) (rulesa4 : Option Addr) (rulesl5 : Nat) (rulesc6 : Nat) (e7 : X_api_Expr) (M : Mem) (K : Value → Prop) (hS : S_chaffref_May ga1 gl2 gc3 rulesa4 rulesl5 rulesc6 e7 M K) : CallE Try.prog 61 #[(Value.agg #[(Value.slice ga1 gl2 gc3)]), (Value.slice rulesa4 rulesl5 rulesc6), e7.val] M (fun v _ => K v) := by
 refine enterE Try.func61 rfl 104 rfl (Nat.le_of_ble_eq_true rfl) (fun E a hs => ?_)
 unfold S_chaffref_May at hS
 have hMM := MX.refl M E
 change Sx 104 E [] M E a [(0, (.agg #[(.slice ga1 gl2 gc3)])), (1, (.slice rulesa4 rulesl5 rulesc6)), (2, e7.val)] [] [] at hs
 refine Wp.seq (Wp.region (stepBox [(.slice ga1 gl2 gc3)] hs rfl rfl rfl (by decide) (fun _ _ b8 hEb8 hs => ?_)))
 refine stepBox e7.cells hs rfl rfl rfl (by decide) (fun _ _ b9 hEb9 hs => ?_)
 refine sP (iv 0) hs fun _ hs => ?_
 refine wpList_nil (Wp.seq (Wp.seq (Wp.region (sP (pt b9 0) hs fun _ hs => ?_))))
 refine sY (iv e7.Kind) hs (Yl.lB [(iv e7.Kind)] false 0) fun _ hs => ?_
 refine sP (.bool ((e7.Kind : Int) == (1 : Int))) hs fun _ hs => ?_
 refine wpList_nil (Wp.cond hs rfl rfl beq_iff_eq (fun hc => ?_) (fun hc => ?_))
 ·have hS := hS.1 hc
  refine Wp.seq (Wp.region (sP (iv 1) hs fun _ hs => ?_))
  exact wpList_nil (Wp.ret (lvE K hs (resT hs rfl rfl) hMM.2 hS))
 ·have hS := hS.2 hc
  refine Wp.skip (Wp.seq (Wp.join (fun a w => ∃ (x10 : Bool), Sx 104 E [] M w a [(1, (.slice rulesa4 rulesl5 rulesc6)), (3, (pt b8 0)), (5, (pt b9 0)), (24, (.bool x10))] [⟨b9, 109, e7.cells⟩, ⟨b8, 24, [(.slice ga1 gl2 gc3)]⟩] [] ∧ (S_chaffref_May_J1 ga1 gl2 gc3 rulesa4 rulesl5 rulesc6 e7 M x10 K)) ?_ ?_))
  ·refine Wp.region (sP (pt b9 0) hs fun _ hs => ?_)
   refine sY (iv e7.Kind) hs (Yl.lB [(iv e7.Kind)] false 0) fun _ hs => ?_
   refine sP (.bool ((e7.Kind : Int) == (2 : Int))) hs fun _ hs => ?_
   refine sP (.bool ((e7.Kind : Int) == (2 : Int))) hs fun _ hs => ?_
   refine bsplit ((e7.Kind : Int) == (2 : Int)) beq_iff_eq (fun hb hc => ?_) (fun hb hc => ?_)
   ·have hs := hs.bt hb
    have hS := hS.1 hc
    refine sYe hs (sP (pt b9 1) hs fun _ hs => ?_)
    refine sYe hs (sY e7.Set.val hs (Yl.lB e7.Set.cells true 0) fun _ hs => ?_)
    refine sYe hs (sP (X_api_Set.mk 0 0 0 0).val hs fun _ hs => ?_)
    refine sYe hs (sY (.bool (cellsEq [e7.Set.w0, e7.Set.w1, e7.Set.w2, e7.Set.w3] [0, 0, 0, 0])) hs (Yl.eqlA (n := 4) (e := 46) (k := .u64) (xs := [e7.Set.w0, e7.Set.w1, e7.Set.w2, e7.Set.w3]) (ys := [0, 0, 0, 0]) rfl (by kernel_rfl) (by kernel_rfl) (by kernel_rfl) (by kernel_rfl) rfl rfl rfl rfl rfl rfl) fun _ hs => ?_)
    refine sP (.bool (cellsEq [e7.Set.w0, e7.Set.w1, e7.Set.w2, e7.Set.w3] [0, 0, 0, 0])) hs fun _ hs => ?_
    exact wpList_nil (⟨(cellsEq [e7.Set.w0, e7.Set.w1, e7.Set.w2, e7.Set.w3] [0, 0, 0, 0]), (hs.wk ⟨rfl, rfl, rfl, rfl, trivial⟩), hS⟩)
   ·have hs := hs.bf hb
    have hS := hS.2 hc
    refine sNo hs fun _ hs => ?_
    refine sNo hs fun _ hs => ?_
    refine sNo hs fun _ hs => ?_
    refine sNo hs fun _ hs => ?_
    refine sP (.bool false) hs fun _ hs => ?_
    exact wpList_nil (⟨false, (hs.wk ⟨rfl, rfl, rfl, rfl, trivial⟩), hS⟩)
  ·intro a w hJ
   obtain ⟨x10, hs, hS⟩ := hJ
   unfold S_chaffref_May_J1 at hS
   refine Wp.cond hs rfl rfl Iff.rfl (fun hc => ?_) (fun hc => ?_)
   ·have hS := hS.1 hc
    refine Wp.seq (Wp.region (sP (iv 4) hs fun _ hs => ?_))
    exact wpList_nil (Wp.ret (lvE K hs (resT hs rfl rfl) hMM.2 hS))
   ·have hS := hS.2 hc
    refine Wp.skip (Wp.seq (Wp.seq (Wp.region (sP (pt b9 0) hs fun _ hs => ?_))))
    refine sY (iv e7.Kind) hs (Yl.lB [(iv e7.Kind)] false 0) fun _ hs => ?_
    refine sP (.bool (decide (e7.Kind ≤ 3))) hs fun _ hs => ?_
    refine wpList_nil (Wp.cond hs rfl rfl decide_eq_true_iff (fun hc => ?_) (fun hc => ?_))
    ·have hS := hS.1 hc
     refine Wp.seq (Wp.region (sP (iv 6) hs fun _ hs => ?_))
     exact wpList_nil (Wp.ret (lvE K hs (resT hs rfl rfl) hMM.2 hS))
    ·have hS := hS.2 hc
     refine Wp.skip (Wp.seq (Wp.seq (Wp.region (sP (pt b9 0) hs fun _ hs => ?_))))
     refine sY (iv e7.Kind) hs (Yl.lB [(iv e7.Kind)] false 0) fun _ hs => ?_
     refine sP (.bool ((e7.Kind : Int) == (4 : Int))) hs fun _ hs => ?_
     refine wpList_nil (Wp.cond hs rfl rfl beq_iff_eq (fun hc => ?_) (fun hc => ?_))
     ·have hS := hS.1 hc
      refine Wp.seq (Wp.region (sP (.slice rulesa4 rulesl5 rulesc6) hs fun _ hs => ?_))
      refine sY (.agg #[(.slice ga1 gl2 gc3)]) hs (Yl.lB [(.slice ga1 gl2 gc3)] true 1) fun _ hs => ?_
      refine sP (pt b9 5) hs fun _ hs => ?_
      refine sY (.string (mkS e7.Text)) hs (Yl.lB [(.string (mkS e7.Text))] false 0) fun _ hs => ?_
      refine stepCallP [(.agg #[(.slice ga1 gl2 gc3)]), (.string (mkS e7.Text))] hs rfl ⟨_, rfl, rfl⟩ rfl Try.func100 rfl (by kernel_rfl) (by decide) hS (fun _ _ v hS hs => ?_)
      obtain ⟨x11, hv, hS⟩ := hS
      subst hv
      obtain ⟨b12, o13, ha, h0, hl, hS⟩ := hS
      refine sY (.pointer (some ⟨b12, o13 + x11.toNat * 1, none⟩)) hs (Yl.indexS (e := 3) (sz := 1) rfl rfl rfl rfl (by kernel_rfl) (by kernel_rfl) ha h0 hl) fun _ hs => ?_
      obtain ⟨x14, hat, hS⟩ := hS
      refine sY (iv x14) hs (Yl.loadV (vs := [(iv x14)]) false rfl rfl (by kernel_rfl) hat) fun _ hs => ?_
      refine sP (iv x14) hs fun _ hs => ?_
      exact wpList_nil (Wp.ret (lvE K hs (resT hs rfl rfl) hMM.2 hS))
     ·have hS := hS.2 hc
      refine Wp.skip (Wp.seq (Wp.region (sP (.slice none 0 0) hs fun _ hs => ?_)))
      have hs := hs.nilrow 3 1
      refine wpList_nil (Wp.seq (Wp.seq (Wp.region (sP (pt b9 6) hs fun _ hs => ?_))))
      refine sY (.slice e7.Kids_a e7.Kids_l e7.Kids_c) hs (Yl.lB [(.slice e7.Kids_a e7.Kids_l e7.Kids_c)] false 0) fun _ hs => ?_
      refine sP (iv ((e7.Kids_l : Nat) : Int)) hs fun _ hs => ?_
      refine sP (iv 0) hs fun _ hs => ?_
      refine wpList_nil (Wp.block ?_)
      obtain ⟨I42, mu43, hI0, hst⟩ := hS
      refine Wp.loop (σ := (Int) × (Nat) × (List Value) × (Value)) (fun s a w => match s with | (x38, rn40, rx41, rv39) => Sx 104 E [] M w a [(1, (.slice rulesa4 rulesl5 rulesc6)), (3, (pt b8 0)), (5, (pt b9 0)), (7, rv39), (39, (.slice e7.Kids_a e7.Kids_l e7.Kids_c)), (40, (iv ((e7.Kids_l : Nat) : Int))), (41, (iv x38))] [⟨b9, 109, e7.cells⟩, ⟨b8, 24, [(.slice ga1 gl2 gc3)]⟩] [⟨rv39, 3, 1, rn40, rx41, true⟩] ∧ I42 x38 rn40 rx41) (fun s => match s with | (x38, rn40, rx41, rv39) => mu43 x38 rn40 rx41) (0, 0, [], (.slice none 0 0)) ⟨(hs.wk ⟨rfl, rfl, rfl, rfl, rfl, rfl, rfl, trivial⟩), hI0⟩ (fun s a w hI => ?_)
      obtain ⟨x38, rn40, rx41, rv39⟩ := s
      obtain ⟨hs, hI⟩ := hI
      have hS := hst x38 rn40 rx41 hI
      clear hst hI0 hI
      refine Wp.seq (Wp.region (sP (.bool (decide (x38 < ((e7.Kids_l : Nat) : Int)))) hs fun _ hs => ?_))
      refine wpList_nil (Wp.seq (Wp.cond hs rfl rfl decide_eq_true_iff (fun hc => ?_) (fun hc => ?_)))
      ·have hS := hS.1 hc
       refine Wp.skip (Wp.seq (Wp.block (Wp.seq (Wp.region ?_))))
       obtain ⟨b44, o45, ha, h0, hl, hS⟩ := hS
       refine sY (.pointer (some ⟨b44, o45 + x38.toNat * 7, none⟩)) hs (Yl.indexS (e := 109) (sz := 7) rfl rfl rfl rfl (by kernel_rfl) (by kernel_rfl) ha h0 hl) fun _ hs => ?_
       obtain ⟨x46, hat, hS⟩ := hS
       refine sY x46.val hs (Yl.loadV (vs := x46.cells) true rfl rfl (by kernel_rfl) hat) fun _ hs => ?_
       refine stepAlloc [(iv 0), (.int .u64 0), (.int .u64 0), (.int .u64 0), (.int .u64 0), (.string (mkS [])), (.slice none 0 0)] hs (by kernel_rfl) (by decide) (fun _ _ b47 hEb47 hs => ?_)
       have hs := hs.nilrow 109 7
       refine stB 0 x46.cells [⟨b47, 109, x46.cells⟩, ⟨b9, 109, e7.cells⟩, ⟨b8, 24, [(.slice ga1 gl2 gc3)]⟩] hs fun _ _ hs => ?_
       refine wpList_nil (Wp.region (sP rv39 hs fun _ hs => ?_))
       refine sY (.agg #[(.slice ga1 gl2 gc3)]) hs (Yl.lB [(.slice ga1 gl2 gc3)] true 2) fun _ hs => ?_
       refine sP (.slice rulesa4 rulesl5 rulesc6) hs fun _ hs => ?_
       refine sY x46.val hs (Yl.lB x46.cells true 0) fun _ hs => ?_
       refine stepCallP [(.agg #[(.slice ga1 gl2 gc3)]), (.slice rulesa4 rulesl5 rulesc6), x46.val] hs rfl ⟨_, rfl, rfl⟩ rfl Try.func61 rfl (by kernel_rfl) (by decide) hS (fun _ _ v hS hs => ?_)
       obtain ⟨x48, hv, hS⟩ := hS
       subst hv
       refine stepMake [(iv x48)] 3 1 1 hs rfl rfl rfl (fun _ => by kernel_rfl) rfl (by unfold maxLen; decide) (by decide) (fun _ _ rv49 hs => ?_)
       obtain ⟨ad50, cap51, hv, hcp, hxl⟩ := hs.rowform 0 rfl
       dsimp only at hv hcp hxl
       subst hv
       obtain ⟨hB, hS⟩ := hS
       refine stepAppend 2 [(iv x48)] hs rfl rfl rfl rfl rfl (by kernel_rfl) (by kernel_rfl) (by decide) (by decide) (hs.srcRow 0 rfl rfl) (lenb hB (by decide)) hB (fun _ _ rv52 hs => ?_)
       replace hs := hs.chrs (rs' := [⟨(Value.slice ad50 1 cap51), 3, 1, 1, [(iv x48)], true⟩, ⟨(Value.slice none 0 0), 109, 7, 0, [], true⟩, ⟨rv52, 3, 1, (rn40 + 1), (rx41 ++ [(iv x48)]), true⟩]) rfl
       refine sP rv52 hs fun _ hs => ?_
       refine wpList_nil (Wp.region ?_)
       obtain ⟨hI, hS⟩ := hS
       refine sY (iv (x38 + 1)) hs (Yl.eq (Yl.pure (v := Value.int .i64 (IntKind.wrap .i64 (x38 + 1))) rfl (fun _ => by kernel_rfl)) (congrArg (Value.int .i64) (wrap_in hI))) fun _ hs => ?_
       refine sP (iv (x38 + 1)) hs fun _ hs => ?_
       exact wpList_nil (⟨(x38 + 1, (rn40 + 1), (rx41 ++ [(iv x48)]), rv52), ⟨(hs.weak (.cons _ (.cons_cons _ (.cons_cons _ List.Sublist.slnil))) (.cons _ (.cons _ (.cons_cons _ List.Sublist.slnil))) ⟨rfl, rfl, rfl, rfl, rfl, rfl, rfl, trivial⟩), hS.1⟩, hS.2⟩)
      ·have hS := hS.2 hc
       refine Wp.exit rfl (Wp.seq (Wp.seq (Wp.region (sP (pt b9 0) hs fun _ hs => ?_))))
       refine sY (iv e7.Kind) hs (Yl.lB [(iv e7.Kind)] false 0) fun _ hs => ?_
       refine wpList_nil (Wp.block (Wp.seq (Wp.region (sP (.bool ((e7.Kind : Int) == (5 : Int))) hs fun _ hs => ?_))))
       refine sP (.bool ((e7.Kind : Int) == (5 : Int))) hs fun _ hs => ?_
       refine wpList_nil (Wp.cond hs rfl rfl beq_iff_eq (fun hc => ?_) (fun hc => ?_))
       ·have hS := hS.1 hc
        refine Wp.seq (Wp.region (sP rv39 hs fun _ hs => ?_))
        obtain ⟨ad54, cap55, hv, hcp, hxl⟩ := hs.rowform 0 rfl
        dsimp only at hv hcp hxl
        subst hv
        have hS := hS _ ad54 cap55 hs.on.hm (hs.peek 0 rfl)
        refine stepCallPr [(.slice ad54 rn40 cap55)] hs rfl ⟨_, rfl, rfl⟩ rfl Try.func114 rfl (by kernel_rfl) (by decide) hS (fun _ _ v hS hs => ?_)
        obtain ⟨x53, hv, hS⟩ := hS
        subst hv
        refine sP (iv x53) hs fun _ hs => ?_
        exact wpList_nil (Wp.ret (lvE K hs (resT hs rfl rfl) hMM.2 hS))
       ·have hS := hS.2 hc
        refine Wp.seq (Wp.region (sP (.bool ((e7.Kind : Int) == (6 : Int))) hs fun _ hs => ?_))
        refine sP (.bool ((e7.Kind : Int) == (6 : Int))) hs fun _ hs => ?_
        refine wpList_nil (Wp.cond hs rfl rfl beq_iff_eq (fun hc => ?_) (fun hc => ?_))
        ·have hS := hS.1 hc
         refine Wp.seq (Wp.region (sP rv39 hs fun _ hs => ?_))
         obtain ⟨ad58, cap59, hv, hcp, hxl⟩ := hs.rowform 0 rfl
         dsimp only at hv hcp hxl
         subst hv
         have hS := hS _ ad58 cap59 hs.on.hm (hs.peek 0 rfl)
         refine stepCallPr [(.slice ad58 rn40 cap59)] hs rfl ⟨_, rfl, rfl⟩ rfl Try.func115 rfl (by kernel_rfl) (by decide) hS (fun _ _ v hS hs => ?_)
         obtain ⟨x57, hv, hS⟩ := hS
         subst hv
         refine sP (iv x57) hs fun _ hs => ?_
         exact wpList_nil (Wp.ret (lvE K hs (resT hs rfl rfl) hMM.2 hS))
        ·have hS := hS.2 hc
         refine Wp.skip (Wp.seq (Wp.region (sP rv39 hs fun _ hs => ?_)))
         obtain ⟨ad61, cap62, hv, hcp, hxl⟩ := hs.rowform 0 rfl
         dsimp only at hv hcp hxl
         subst hv
         obtain ⟨h0, hl, hS⟩ := hS
         have hix63 : (0 : Int).toNat < rn40 := by omega
         obtain ⟨g64, hg64⟩ := hs.rowblk 0 rfl (by omega)
         refine sY (.pointer (some ⟨g64, 0 + (0 : Int).toNat * 1, none⟩)) hs (Yl.indexS (e := 3) (sz := 1) rfl rfl rfl rfl (by kernel_rfl) (by kernel_rfl) hg64 h0 hl) fun _ hs => ?_
         obtain ⟨x65, hcs, hS⟩ := hS
         refine sY (iv x65) hs (Yl.loadR (vs := [(iv x65)]) 0 false rfl hg64 rfl rfl (by kernel_rfl) hcs) fun _ hs => ?_
         refine sP (iv x65) hs fun _ hs => ?_
         refine wpList_nil (Wp.seq (Wp.region (sP (iv x65) hs fun _ hs => ?_)))
         refine sP (iv (bAnd .i64 x65 2)) hs fun _ hs => ?_
         refine sP (iv x65) hs fun _ hs => ?_
         refine sP (iv (bShr .i64 x65 2)) hs fun _ hs => ?_
         refine sP (iv (bAnd .i64 (bShr .i64 x65 2) 1)) hs fun _ hs => ?_
         refine sP (iv (bOr .i64 (bAnd .i64 x65 2) (bAnd .i64 (bShr .i64 x65 2) 1))) hs fun _ hs => ?_
         refine sP (iv (bOr .i64 (bAnd .i64 x65 2) (bAnd .i64 (bShr .i64 x65 2) 1))) hs fun _ hs => ?_
         refine wpList_nil (Wp.seq (Wp.seq (Wp.region (sP (pt b9 0) hs fun _ hs => ?_))))
         refine sY (iv e7.Kind) hs (Yl.lB [(iv e7.Kind)] false 0) fun _ hs => ?_
         refine wpList_nil (Wp.block (Wp.seq (Wp.region (sP (.bool ((e7.Kind : Int) == (7 : Int))) hs fun _ hs => ?_))))
         refine sP (.bool ((e7.Kind : Int) == (7 : Int))) hs fun _ hs => ?_
         refine wpList_nil (Wp.cond hs rfl rfl beq_iff_eq (fun hc => ?_) (fun hc => ?_))
         ·have hS := hS.1 hc
          refine Wp.seq (Wp.region (sP (iv (bOr .i64 (bAnd .i64 x65 2) (bAnd .i64 (bShr .i64 x65 2) 1))) hs fun _ hs => ?_))
          refine sP (iv (bOr .i64 (bAnd .i64 x65 2) (bAnd .i64 (bShr .i64 x65 2) 1))) hs fun _ hs => ?_
          exact wpList_nil (Wp.ret (lvE K hs (resT hs rfl rfl) hMM.2 hS))
         ·have hS := hS.2 hc
          refine Wp.seq (Wp.region (sP (.bool ((e7.Kind : Int) == (8 : Int))) hs fun _ hs => ?_))
          refine sP (.bool ((e7.Kind : Int) == (8 : Int))) hs fun _ hs => ?_
          refine wpList_nil (Wp.cond hs rfl rfl beq_iff_eq (fun hc => ?_) (fun hc => ?_))
          ·have hS := hS.1 hc
           refine Wp.seq (Wp.region (sP (iv x65) hs fun _ hs => ?_))
           refine sP (iv (bOr .i64 (bAnd .i64 x65 2) (bAnd .i64 (bShr .i64 x65 2) 1))) hs fun _ hs => ?_
           refine stepMake [(iv x65), (iv (bOr .i64 (bAnd .i64 x65 2) (bAnd .i64 (bShr .i64 x65 2) 1)))] 3 1 2 hs rfl rfl rfl (fun _ => by kernel_rfl) rfl (by unfold maxLen; decide) (by decide) (fun _ _ rv66 hs => ?_)
           obtain ⟨ad68, cap69, hv, hcp, hxl⟩ := hs.rowform 0 rfl
           dsimp only at hv hcp hxl
           subst hv
           have hS := hS _ ad68 cap69 hs.on.hm (hs.peek 0 rfl)
           refine stepCallPr [(.slice ad68 2 cap69)] hs rfl ⟨_, rfl, rfl⟩ rfl Try.func114 rfl (by kernel_rfl) (by decide) hS (fun _ _ v hS hs => ?_)
           obtain ⟨x67, hv, hS⟩ := hS
           subst hv
           refine sP (iv x67) hs fun _ hs => ?_
           exact wpList_nil (Wp.ret (lvE K hs (resT hs rfl rfl) hMM.2 hS))
          ·have hS := hS.2 hc
           refine Wp.seq (Wp.region (sP (.bool ((e7.Kind : Int) == (9 : Int))) hs fun _ hs => ?_))
           refine sP (.bool ((e7.Kind : Int) == (9 : Int))) hs fun _ hs => ?_
           refine wpList_nil (Wp.cond hs rfl rfl beq_iff_eq (fun hc => ?_) (fun hc => ?_))
           ·have hS := hS.1 hc
            refine Wp.seq (Wp.region (sP (iv x65) hs fun _ hs => ?_))
            refine stepMake [(iv x65), (iv 1)] 3 1 2 hs rfl rfl rfl (fun _ => by kernel_rfl) rfl (by unfold maxLen; decide) (by decide) (fun _ _ rv71 hs => ?_)
            obtain ⟨ad73, cap74, hv, hcp, hxl⟩ := hs.rowform 0 rfl
            dsimp only at hv hcp hxl
            subst hv
            have hS := hS _ ad73 cap74 hs.on.hm (hs.peek 0 rfl)
            refine stepCallPr [(.slice ad73 2 cap74)] hs rfl ⟨_, rfl, rfl⟩ rfl Try.func115 rfl (by kernel_rfl) (by decide) hS (fun _ _ v hS hs => ?_)
            obtain ⟨x72, hv, hS⟩ := hS
            subst hv
            refine sP (iv x72) hs fun _ hs => ?_
            exact wpList_nil (Wp.ret (lvE K hs (resT hs rfl rfl) hMM.2 hS))
           ·have hS := hS.2 hc
            refine Wp.skip (Wp.seq (Wp.region (sP (iv 0) hs fun _ hs => ?_)))
            refine wpList_nil (Wp.join (fun a w => ∃ (some76 : Int), Sx 104 E [] M w a [(5, (pt b9 0)), (10, (iv x65)), (12, (iv some76))] [⟨b9, 109, e7.cells⟩, ⟨b8, 24, [(.slice ga1 gl2 gc3)]⟩] [] ∧ (S_chaffref_May_J2 e7 x65 some76 K)) ?_ ?_)
            ·refine Wp.seq (Wp.region (sP (iv x65) hs fun _ hs => ?_))
             refine sP (iv (bAnd .i64 x65 3)) hs fun _ hs => ?_
             refine sP (.bool (decide (bAnd .i64 x65 3 > 0))) hs fun _ hs => ?_
             refine wpList_nil (Wp.cond hs rfl rfl decide_eq_true_iff (fun hc => ?_) (fun hc => ?_))
             ·have hS := hS.1 hc
              refine Wp.region (sP (iv 1) hs fun _ hs => ?_)
              exact wpList_nil (⟨1, (hs.weak (List.Sublist.refl _) (.cons _ List.Sublist.slnil) ⟨rfl, rfl, rfl, trivial⟩), hS⟩)
             ·have hS := hS.2 hc
              exact Wp.skip (⟨0, (hs.weak (List.Sublist.refl _) (.cons _ List.Sublist.slnil) ⟨rfl, rfl, rfl, trivial⟩), hS⟩)
            ·intro a w hJ
             obtain ⟨some76, hs, hS⟩ := hJ
             unfold S_chaffref_May_J2 at hS
             refine Wp.seq (Wp.seq (Wp.region (sP (pt b9 0) hs fun _ hs => ?_)))
             refine sY (iv e7.Kind) hs (Yl.lB [(iv e7.Kind)] false 0) fun _ hs => ?_
             refine sP (.bool ((e7.Kind : Int) == (10 : Int))) hs fun _ hs => ?_
             refine wpList_nil (Wp.cond hs rfl rfl beq_iff_eq (fun hc => ?_) (fun hc => ?_))
             ·have hS := hS.1 hc
              refine Wp.seq (Wp.region (sP (iv some76) hs fun _ hs => ?_))
              refine sP (iv x65) hs fun _ hs => ?_
              refine sP (iv (bAnd .i64 x65 4)) hs fun _ hs => ?_
              refine sP (iv (bOr .i64 some76 (bAnd .i64 x65 4))) hs fun _ hs => ?_
              refine sP (iv (bOr .i64 some76 (bAnd .i64 x65 4))) hs fun _ hs => ?_
              exact wpList_nil (Wp.ret (lvE K hs (resT hs rfl rfl) hMM.2 hS))
             ·have hS := hS.2 hc
              refine Wp.skip (Wp.seq (Wp.region (sP (iv x65) hs fun _ hs => ?_)))
              refine sP (iv (bShr .i64 x65 2)) hs fun _ hs => ?_
              refine sP (iv (bAnd .i64 (bShr .i64 x65 2) 1)) hs fun _ hs => ?_
              refine sP (iv some76) hs fun _ hs => ?_
              refine sP (iv (bShl .i64 some76 2)) hs fun _ hs => ?_
              refine sP (iv (bOr .i64 (bAnd .i64 (bShr .i64 x65 2) 1) (bShl .i64 some76 2))) hs fun _ hs => ?_
              refine sP (iv (bOr .i64 (bAnd .i64 (bShr .i64 x65 2) 1) (bShl .i64 some76 2))) hs fun _ hs => ?_
              exact wpList_nil (Wp.ret (lvE K hs (resT hs rfl rfl) hMM.2 hS))
def S_chaffref_Mays (ga1 : Option Addr) (gl2 : Nat) (gc3 : Nat) (M : Mem) (K : Value → Mem → Prop) : Prop :=
 ((0 : Int) ≤ ((gl2 : Nat) : Int) ∧ ((gl2 : Nat) : Int) ≤ ((gl2 : Nat) : Int) ∧ ((gl2 : Nat) : Int).toNat * 8 ≤ 140737488355328 ∧ (InI (3 * ((gl2 : Nat) : Int)) ∧ (InI ((3 * ((gl2 : Nat) : Int)) + 1) ∧ (∃ (I123 : Int → Nat → List Value → Prop) (mu124 : Int → Nat → List Value → Nat), I123 0 (((gl2 : Nat) : Int).toNat) (repl ((gl2 : Nat) : Int).toNat [(.int .i64 0)]) ∧ ∀ (x119 : Int) (rn121 : Nat) (rx122 : List Value), (I123 x119 rn121 rx122 → ((x119 < (3 * ((gl2 : Nat) : Int)) + 1 → (∀ (M127 : Mem) (ad125 : Option Addr) (cap126 : Nat), M.le M127 → SlV M127 ad125 rn121 cap126 1 rx122 → (C_slices_Clone_int ad125 rn121 cap126 M127 (fun rn130 rx131 => (∃ (I165 : Int → Nat → List Value → Prop) (mu166 : Int → Nat → List Value → Nat), I165 0 rn130 rx131 ∧ ∀ (x161 : Int) (rn163 : Nat) (rx164 : List Value), (I165 x161 rn163 rx164 → ((x161 < ((gl2 : Nat) : Int) → (∃ (b167 o168 : Nat), ga1 = some ⟨b167, o168, none⟩ ∧ (0 : Int) ≤ x161 ∧ x161 < ((gl2 : Nat) : Int) ∧ (∃ (x169 : X_api_Rule), At M b167 (o168 + x161.toNat * 8) x169.cells ∧ ((0 : Int) ≤ x161 ∧ x161 < ((rn163 : Nat) : Int) ∧ (∃ (x175 : Int), Cs rx164 (0 + x161.toNat * 1) [(.int .i64 x175)] ∧ (∀ (M177 : Mem) (ad125 : Option Addr) (cap126 : Nat), M.le M177 → SlV M177 ad125 rn121 cap126 1 rx122 → (CallE Try.prog 61 #[(.agg #[(.slice ga1 gl2 gc3)]), (.slice ad125 rn121 cap126), x169.Body.val] M177 (fun v _ => ∃ (x176 : Int), v = (Value.int .i64 x176) ∧ ((0 : Int) ≤ x161 ∧ x161 < ((rn163 : Nat) : Int) ∧ (InI (x161 + 1) ∧ I165 (x161 + 1) rn163 (putAt rx164 (0 + x161.toNat * 1) [(.int .i64 (bOr .i64 x175 x176))]) ∧ mu166 (x161 + 1) rn163 (putAt rx164 (0 + x161.toNat * 1) [(.int .i64 (bOr .i64 x175 x176))]) < mu166 x161 rn163 rx164)))))))))) ∧ (¬ (x161 < ((gl2 : Nat) : Int)) → (InI (x119 + 1) ∧ I123 (x119 + 1) rn163 rx164 ∧ mu124 (x119 + 1) rn163 rx164 < mu124 x119 rn121 rx122))))))))) ∧ (¬ (x119 < (3 * ((gl2 : Nat) : Int)) + 1) → (∀ (M181 : Mem) (ad179 : Option Addr) (cap180 : Nat), M.le M181 → SlV M181 ad179 rn121 cap180 1 rx122 → (∀ M', M181.le M' → K (Value.slice ad179 rn121 cap180) M')))))))))
set_option maxRecDepth 100000 in
theorem s_chaffref_Mays (ga1 : Option Addr) (gl2 : Nat) (gc3 : Nat) (M : Mem) (K : Value → Mem → Prop) (hS : S_chaffref_Mays ga1 gl2 gc3 M K) : CallE Try.prog 59 #[(Value.agg #[(Value.slice ga1 gl2 gc3)])] M K := by
 refine enterE Try.func59 rfl 43 rfl (Nat.le_of_ble_eq_true rfl) (fun E a hs => ?_)
 unfold S_chaffref_Mays at hS
 have hMM := MX.refl M E
 change Sx 43 E [] M E a [(0, (.agg #[(.slice ga1 gl2 gc3)]))] [] [] at hs
 refine Wp.seq (Wp.region (stepBox [(.slice ga1 gl2 gc3)] hs rfl rfl rfl (by decide) (fun _ _ b4 hEb4 hs => ?_)))
 refine sP (.slice none 0 0) hs fun _ hs => ?_
 refine wpList_nil (Wp.seq (Wp.region (sP (pt b4 0) hs fun _ hs => ?_)))
 refine sY (.slice ga1 gl2 gc3) hs (Yl.lB [(.slice ga1 gl2 gc3)] false 0) fun _ hs => ?_
 refine sP (iv ((gl2 : Nat) : Int)) hs fun _ hs => ?_
 obtain ⟨h0, h1, hB, hS⟩ := hS
 refine stepMakeN (e := 3) (size := 1) (bytes := 8) [(iv 0)] hs rfl rfl rfl rfl (by kernel_rfl) (by kernel_rfl) rfl (by decide) (by decide) h0 h1 hB (fun _ _ rv5 hs => ?_)
 refine sP rv5 hs fun _ hs => ?_
 refine wpList_nil (Wp.seq (Wp.seq (Wp.region (sP (pt b4 0) hs fun _ hs => ?_))))
 refine sY (.slice ga1 gl2 gc3) hs (Yl.lB [(.slice ga1 gl2 gc3)] false 0) fun _ hs => ?_
 refine sP (iv ((gl2 : Nat) : Int)) hs fun _ hs => ?_
 obtain ⟨hI, hS⟩ := hS
 refine sY (iv (3 * ((gl2 : Nat) : Int))) hs (Yl.eq (Yl.pure (v := Value.int .i64 (IntKind.wrap .i64 (3 * ((gl2 : Nat) : Int)))) rfl (fun _ => by kernel_rfl)) (congrArg (Value.int .i64) (wrap_in hI))) fun _ hs => ?_
 obtain ⟨hI, hS⟩ := hS
 refine sY (iv ((3 * ((gl2 : Nat) : Int)) + 1)) hs (Yl.eq (Yl.pure (v := Value.int .i64 (IntKind.wrap .i64 ((3 * ((gl2 : Nat) : Int)) + 1))) rfl (fun _ => by kernel_rfl)) (congrArg (Value.int .i64) (wrap_in hI))) fun _ hs => ?_
 refine sP (iv 0) hs fun _ hs => ?_
 refine wpList_nil (Wp.block ?_)
 obtain ⟨I123, mu124, hI0, hst⟩ := hS
 refine Wp.loop (σ := (Int) × (Nat) × (List Value) × (Value)) (fun s a w => match s with | (x119, rn121, rx122, rv120) => Sx 43 E [] M w a [(1, (pt b4 0)), (3, rv120), (15, (iv ((3 * ((gl2 : Nat) : Int)) + 1))), (16, (iv x119))] [⟨b4, 24, [(.slice ga1 gl2 gc3)]⟩] [⟨rv120, 3, 1, rn121, rx122, true⟩] ∧ I123 x119 rn121 rx122) (fun s => match s with | (x119, rn121, rx122, rv120) => mu124 x119 rn121 rx122) (0, ((gl2 : Nat) : Int).toNat, (repl ((gl2 : Nat) : Int).toNat [(iv 0)]), rv5) ⟨(hs.wk ⟨rfl, rfl, rfl, rfl, trivial⟩), hI0⟩ (fun s a w hI => ?_)
 obtain ⟨x119, rn121, rx122, rv120⟩ := s
 obtain ⟨hs, hI⟩ := hI
 have hS := hst x119 rn121 rx122 hI
 clear hst hI0 hI
 refine Wp.seq (Wp.region (sP (.bool (decide (x119 < (3 * ((gl2 : Nat) : Int)) + 1))) hs fun _ hs => ?_))
 refine wpList_nil (Wp.seq (Wp.cond hs rfl rfl decide_eq_true_iff (fun hc => ?_) (fun hc => ?_)))
 ·have hS := hS.1 hc
  refine Wp.skip (Wp.seq (Wp.block (Wp.seq (Wp.region (sP rv120 hs fun _ hs => ?_)))))
  obtain ⟨ad125, cap126, hv, hcp, hxl⟩ := hs.rowform 0 rfl
  dsimp only at hv hcp hxl
  subst hv
  have hS := hS _ ad125 cap126 hs.on.hm (hs.peek 0 rfl)
  refine stepCallR [(.slice ad125 rn121 cap126)] hs rfl ⟨_, rfl, rfl⟩ rfl Try.func113 rfl (by kernel_rfl) (by decide) hS (fun _ _ _ v lb lr hS hs => ?_)
  obtain ⟨rn130, rx131, rv129, hv, hlb, hlr, hS⟩ := hS
  replace hv := hv.symm
  subst hv hlb hlr
  replace hs := hs.chbx (bs' := [⟨b4, 24, [(.slice ga1 gl2 gc3)]⟩]) rfl
  replace hs := hs.chrs (rs' := [⟨rv129, 3, 1, rn130, rx131, true⟩, ⟨(Value.slice ad125 rn121 cap126), 3, 1, rn121, rx122, true⟩]) rfl
  refine sP rv129 hs fun _ hs => ?_
  refine wpList_nil (Wp.seq (Wp.seq (Wp.region (sP (pt b4 0) hs fun _ hs => ?_))))
  refine sY (.slice ga1 gl2 gc3) hs (Yl.lB [(.slice ga1 gl2 gc3)] false 0) fun _ hs => ?_
  refine sP (iv ((gl2 : Nat) : Int)) hs fun _ hs => ?_
  refine sP (iv 0) hs fun _ hs => ?_
  refine wpList_nil (Wp.block ?_)
  obtain ⟨I165, mu166, hI0, hst⟩ := hS
  refine Wp.loop (σ := (Int) × (Nat) × (List Value) × (Value)) (fun s a w => match s with | (x161, rn163, rx164, rv162) => Sx 43 E [] M w a [(1, (pt b4 0)), (3, (.slice ad125 rn121 cap126)), (4, rv162), (15, (iv ((3 * ((gl2 : Nat) : Int)) + 1))), (16, (iv x119)), (21, (.slice ga1 gl2 gc3)), (22, (iv ((gl2 : Nat) : Int))), (23, (iv x161))] [⟨b4, 24, [(.slice ga1 gl2 gc3)]⟩] [⟨rv162, 3, 1, rn163, rx164, true⟩, ⟨(Value.slice ad125 rn121 cap126), 3, 1, rn121, rx122, true⟩] ∧ I165 x161 rn163 rx164) (fun s => match s with | (x161, rn163, rx164, rv162) => mu166 x161 rn163 rx164) (0, rn130, rx131, rv129) ⟨(hs.wk ⟨rfl, rfl, rfl, rfl, rfl, rfl, rfl, rfl, trivial⟩), hI0⟩ (fun s a w hI => ?_)
  obtain ⟨x161, rn163, rx164, rv162⟩ := s
  obtain ⟨hs, hI⟩ := hI
  have hS := hst x161 rn163 rx164 hI
  clear hst hI0 hI
  refine Wp.seq (Wp.region (sP (.bool (decide (x161 < ((gl2 : Nat) : Int)))) hs fun _ hs => ?_))
  refine wpList_nil (Wp.seq (Wp.cond hs rfl rfl decide_eq_true_iff (fun hc => ?_) (fun hc => ?_)))
  ·have hS := hS.1 hc
   refine Wp.skip (Wp.seq (Wp.block (Wp.seq (Wp.region (sP (iv x161) hs fun _ hs => ?_)))))
   obtain ⟨b167, o168, ha, h0, hl, hS⟩ := hS
   refine sY (.pointer (some ⟨b167, o168 + x161.toNat * 8, none⟩)) hs (Yl.indexS (e := 111) (sz := 8) rfl rfl rfl rfl (by kernel_rfl) (by kernel_rfl) ha h0 hl) fun _ hs => ?_
   obtain ⟨x169, hat, hS⟩ := hS
   refine sY x169.val hs (Yl.loadV (vs := x169.cells) true rfl rfl (by kernel_rfl) hat) fun _ hs => ?_
   refine stepAlloc [(.string (mkS [])), (iv 0), (.int .u64 0), (.int .u64 0), (.int .u64 0), (.int .u64 0), (.string (mkS [])), (.slice none 0 0)] hs (by kernel_rfl) (by decide) (fun _ _ b170 hEb170 hs => ?_)
   refine sP (iv x161) hs fun _ hs => ?_
   refine stB 0 x169.cells [⟨b170, 111, x169.cells⟩, ⟨b4, 24, [(.slice ga1 gl2 gc3)]⟩] hs fun _ _ hs => ?_
   refine wpList_nil (Wp.regionD [true, true, true, true, true, true, true, true, true, true, true, false] hs (by kernel_rfl) rfl [⟨b170, 111, x169.cells⟩, ⟨b4, 24, [(.slice ga1 gl2 gc3)]⟩] (fun _ h => h) [⟨rv162, 3, 1, rn163, rx164, true⟩, ⟨(Value.slice ad125 rn121 cap126), 3, 1, rn121, rx122, true⟩] (fun _ h => h) (fun _ hs hC => ?_))
   have hL := Mem.le.refl M
   refine dP rv162 0 [2, 3, 9, 10, 11] hs QZ.no (wanted_none rfl) fun _ hs => ?_
   refine dP (iv x161) 1 [2, 3, 9, 10, 11] hs QZ.no (wanted_none rfl) fun _ hs => ?_
   obtain ⟨ad171, cap172, hv, hcp, hxl⟩ := hs.rowform 0 rfl
   dsimp only at hv hcp hxl
   subst hv
   obtain ⟨h0, hl, hS⟩ := hS
   have hix173 : x161.toNat < rn163 := by omega
   obtain ⟨g174, hg174⟩ := hs.rowblk 0 rfl (by omega)
   refine stepDP (v := (.pointer (some ⟨g174, 0 + x161.toNat * 1, none⟩))) 2 [3, 9, 10, 11] hs QZ.no rfl (wanted_none rfl) rfl (by decide) (by kernel_rfl) (by kernel_rfl) (by kernel_rfl) (Yl.indexS (e := 3) (sz := 1) rfl rfl rfl rfl (by kernel_rfl) (by kernel_rfl) hg174 h0 hl) (fun _ hs => ?_)
   obtain ⟨x175, hcs, hS⟩ := hS
   refine stepDY (v := (iv x175)) 3 [9, 10, 11] hs hC QZ.no rfl (wanted_none rfl) rfl (by decide) (by kernel_rfl) (by kernel_rfl) (by kernel_rfl) (Yl.loadR (vs := [(iv x175)]) 0 false rfl hg174 rfl rfl (by kernel_rfl) hcs) (fun _ hs => ?_)
   refine stepDY (v := (.agg #[(.slice ga1 gl2 gc3)])) 4 [8, 9, 10, 11] hs hC QZ.no rfl (wanted_none rfl) rfl (by decide) (by kernel_rfl) (by kernel_rfl) (by kernel_rfl) (Yl.lB [(.slice ga1 gl2 gc3)] true 1) (fun _ hs => ?_)
   refine dP (Value.slice ad125 rn121 cap126) 5 [8, 9, 10, 11] hs QZ.no (wanted_none rfl) fun _ hs => ?_
   refine sE 6 ?_
   refine sP (pt b170 1) hs fun _ hs => ?_
   refine wpList_nil (⟨fun _ h => h, ?_⟩)
   refine sE 7 ?_
   refine sY x169.Body.val hs (Yl.lB x169.Body.cells true 0) fun _ hs => ?_
   refine wpList_nil (⟨fun _ h => h, ?_⟩)
   refine sE 8 ?_
   have hS := hS _ ad125 cap126 hs.on.hm (hs.peek 1 rfl)
   refine stepCallPr [(.agg #[(.slice ga1 gl2 gc3)]), (.slice ad125 rn121 cap126), x169.Body.val] hs rfl ⟨_, rfl, rfl⟩ rfl Try.func61 rfl (by kernel_rfl) (by decide) hS (fun _ _ v hS hs => ?_)
   obtain ⟨x176, hv, hS⟩ := hS
   subst hv
   refine wpList_nil (⟨fun _ _ => hs.cxle hL (List.Sublist.refl _) (List.Sublist.refl _), ?_⟩)
   have hC := hs.cxle hL (List.Sublist.refl _) (List.Sublist.refl _)
   refine sE 9 ?_
   refine sP (iv (bOr .i64 x175 x176)) hs fun _ hs => ?_
   refine wpList_nil (⟨fun _ h => h, ?_⟩)
   refine sE 10 ?_
   obtain ⟨h0, hl, hS⟩ := hS
   have hix178 : x161.toNat < rn163 := by omega
   refine sY (.pointer (some ⟨g174, 0 + x161.toNat * 1, none⟩)) hs (Yl.indexS (e := 3) (sz := 1) rfl rfl rfl rfl (by kernel_rfl) (by kernel_rfl) hg174 h0 hl) fun _ hs => ?_
   refine wpList_nil (⟨fun _ h => h, ?_⟩)
   refine sE 11 ?_
   refine stepStoreR 0 (vs := [(iv (bOr .i64 x175 x176))]) hs rfl hg174 rfl rfl rfl rfl rfl (by kernel_rfl) (by have := hix178; simp only [List.length_cons, List.length_nil]; omega) rfl (fun _ _ hs => ?_)
   replace hs := hs.chrs (rs' := [⟨(Value.slice ad171 rn163 cap172), 3, 1, rn163, (putAt rx164 (0 + x161.toNat * 1) [(iv (bOr .i64 x175 x176))]), true⟩, ⟨(Value.slice ad125 rn121 cap126), 3, 1, rn121, rx122, true⟩]) rfl
   refine wpList_nil (⟨fun h => absurd h (by decide), ?_⟩)
   refine WpD.done (by kernel_rfl) ?_ _
   refine Wp.region ?_
   obtain ⟨hI, hS⟩ := hS
   refine sY (iv (x161 + 1)) hs (Yl.eq (Yl.pure (v := Value.int .i64 (IntKind.wrap .i64 (x161 + 1))) rfl (fun _ => by kernel_rfl)) (congrArg (Value.int .i64) (wrap_in hI))) fun _ hs => ?_
   refine sP (iv (x161 + 1)) hs fun _ hs => ?_
   exact wpList_nil (⟨(x161 + 1, rn163, (putAt rx164 (0 + x161.toNat * 1) [(iv (bOr .i64 x175 x176))]), (.slice ad171 rn163 cap172)), ⟨(hs.weak (.cons _ (.cons_cons _ List.Sublist.slnil)) (List.Sublist.refl _) ⟨rfl, rfl, rfl, rfl, rfl, rfl, rfl, rfl, trivial⟩), hS.1⟩, hS.2⟩)
  ·have hS := hS.2 hc
   refine Wp.exit rfl (Wp.region (sP rv162 hs fun _ hs => ?_))
   refine sP rv162 hs fun _ hs => ?_
   refine wpList_nil (Wp.region ?_)
   obtain ⟨hI, hS⟩ := hS
   refine sY (iv (x119 + 1)) hs (Yl.eq (Yl.pure (v := Value.int .i64 (IntKind.wrap .i64 (x119 + 1))) rfl (fun _ => by kernel_rfl)) (congrArg (Value.int .i64) (wrap_in hI))) fun _ hs => ?_
   refine sP (iv (x119 + 1)) hs fun _ hs => ?_
   exact wpList_nil (⟨(x119 + 1, rn163, rx164, rv162), ⟨(hs.weak (List.Sublist.refl _) (.cons_cons _ (.cons _ List.Sublist.slnil)) ⟨rfl, rfl, rfl, rfl, trivial⟩), hS.1⟩, hS.2⟩)
 ·have hS := hS.2 hc
  refine Wp.exit rfl (Wp.seq (Wp.region (sP rv120 hs fun _ hs => ?_)))
  refine sP rv120 hs fun _ hs => ?_
  refine wpList_nil (Wp.ret ?_)
  obtain ⟨ad179, cap180, hv, hcp, hxl⟩ := hs.rowform 0 rfl
  dsimp only at hv hcp hxl
  subst hv
  obtain ⟨M181, hle, hsl, hnew, hs⟩ := hs.release 0 rfl [] rfl
  have hMM := hMM.next hle hnew
  have hS := hS M181 ad179 cap180 hle hsl
  exact leaveE (K := K) hs (resT hs rfl rfl) hMM.2 hS
def S_chaffref_needs_J1 (x45 : Int) (rn47 : Nat) (rx48 : List Value) (I50 : Int → Nat → List Value → Mem → Prop) (mu51 : Int → Nat → List Value → Nat) (xl57 : Nat) (M59 : Mem) (news60 : List Value) (x63 : Bool) (K : Value → Mem → Prop) : Prop :=
 ((x63 = true → (∀ (M69 : Mem) (ad67 : Option Addr) (cap68 : Nat), M59.le M69 → SlV M69 ad67 (rn47 + xl57) cap68 1 (rx48 ++ news60) → (∀ M', M69.le M' → K (Value.slice ad67 (rn47 + xl57) cap68) M'))) ∧ (¬ (x63 = true) → (InI (x45 + 1) ∧ I50 (x45 + 1) (rn47 + xl57) (rx48 ++ news60) M59 ∧ mu51 (x45 + 1) (rn47 + xl57) (rx48 ++ news60) < mu51 x45 rn47 rx48)))
def S_chaffref_needs (ga1 : Option Addr) (gl2 : Nat) (gc3 : Nat) (maya4 : Option Addr) (mayl5 : Nat) (mayc6 : Nat) (e7 : X_api_Expr) (M : Mem) (K : Value → Mem → Prop) : Prop :=
 (((e7.Kind : Int) = 4 → (CallE Try.prog 100 #[(.agg #[(.slice ga1 gl2 gc3)]), (.string (mkS e7.Text))] M (fun v _ => ∃ (x10 : Int), v = (Value.int .i64 x10) ∧ (∀ (M14 : Mem) (ad12 : Option Addr) (cap13 : Nat), M.le M14 → SlV M14 ad12 1 cap13 1 [(.int .i64 x10)] → (∀ M', M14.le M' → K (Value.slice ad12 1 cap13) M'))))) ∧ (¬ ((e7.Kind : Int) = 4) → (∃ (I50 : Int → Nat → List Value → Mem → Prop) (mu51 : Int → Nat → List Value → Nat), I50 0 0 [] M ∧ ∀ (x45 : Int) (rn47 : Nat) (rx48 : List Value) (M49 : Mem), (I50 x45 rn47 rx48 M49 → ((x45 < ((e7.Kids_l : Nat) : Int) → (∃ (b52 o53 : Nat), e7.Kids_a = some ⟨b52, o53, none⟩ ∧ (0 : Int) ≤ x45 ∧ x45 < ((e7.Kids_l : Nat) : Int) ∧ (∃ (x54 : X_api_Expr), At M49 b52 (o53 + x45.toNat * 7) x54.cells ∧ (CallE Try.prog 62 #[(.agg #[(.slice ga1 gl2 gc3)]), (.slice maya4 mayl5 mayc6), x54.val] M49 (fun v M59 => ∃ (xa56 : Option Addr) (xl57 : Nat) (xc58 : Nat), v = (Value.slice xa56 xl57 xc58) ∧ (∃ (news60 : List Value), SlV M59 xa56 xl57 xc58 1 news60 ∧ (∀ u ∈ news60, u.oneCell' = true) ∧ (rn47 + xl57) * 8 ≤ 140737488355328 ∧ (((e7.Kind : Int) = 5 → (CallE Try.prog 61 #[(.agg #[(.slice ga1 gl2 gc3)]), (.slice maya4 mayl5 mayc6), x54.val] M59 (fun v _ => ∃ (x62 : Int), v = (Value.int .i64 x62) ∧ (S_chaffref_needs_J1 x45 rn47 rx48 I50 mu51 xl57 M59 news60 ((bAnd .i64 x62 1 : Int) == (0 : Int)) K)))) ∧ (¬ ((e7.Kind : Int) = 5) → (S_chaffref_needs_J1 x45 rn47 rx48 I50 mu51 xl57 M59 news60 false K))))))))) ∧ (¬ (x45 < ((e7.Kids_l : Nat) : Int)) → (∀ (M66 : Mem) (ad64 : Option Addr) (cap65 : Nat), M49.le M66 → SlV M66 ad64 rn47 cap65 1 rx48 → (∀ M', M66.le M' → K (Value.slice ad64 rn47 cap65) M'))))))))
set_option maxRecDepth 100000 in
theorem s_chaffref_needs (ga1 : Option Addr) (gl2 : Nat) (gc3 : Nat) (maya4 : Option Addr) (mayl5 : Nat) (mayc6 : Nat) (e7 : X_api_Expr) (M : Mem) (K : Value → Mem → Prop) (hS : S_chaffref_needs ga1 gl2 gc3 maya4 mayl5 mayc6 e7 M K) : CallE Try.prog 62 #[(Value.agg #[(Value.slice ga1 gl2 gc3)]), (Value.slice maya4 mayl5 mayc6), e7.val] M K := by
 refine enterE Try.func62 rfl 44 rfl (Nat.le_of_ble_eq_true rfl) (fun E a hs => ?_)
 unfold S_chaffref_needs at hS
 have hMM := MX.refl M E
 change Sx 44 E [] M E a [(0, (.agg #[(.slice ga1 gl2 gc3)])), (1, (.slice maya4 mayl5 mayc6)), (2, e7.val)] [] [] at hs
 refine Wp.seq (Wp.region (stepBox [(.slice ga1 gl2 gc3)] hs rfl rfl rfl (by decide) (fun _ _ b8 hEb8 hs => ?_)))
 refine stepBox e7.cells hs rfl rfl rfl (by decide) (fun _ _ b9 hEb9 hs => ?_)
 refine sP (.slice none 0 0) hs fun _ hs => ?_
 refine wpList_nil (Wp.seq (Wp.seq (Wp.region (sP (pt b9 0) hs fun _ hs => ?_))))
 refine sY (iv e7.Kind) hs (Yl.lB [(iv e7.Kind)] false 0) fun _ hs => ?_
 refine sP (.bool ((e7.Kind : Int) == (4 : Int))) hs fun _ hs => ?_
 refine wpList_nil (Wp.cond hs rfl rfl beq_iff_eq (fun hc => ?_) (fun hc => ?_))
 ·have hS := hS.1 hc
  refine Wp.seq (Wp.region (sY (.agg #[(.slice ga1 gl2 gc3)]) hs (Yl.lB [(.slice ga1 gl2 gc3)] true 1) fun _ hs => ?_))
  refine sP (pt b9 5) hs fun _ hs => ?_
  refine sY (.string (mkS e7.Text)) hs (Yl.lB [(.string (mkS e7.Text))] false 0) fun _ hs => ?_
  refine stepCallP [(.agg #[(.slice ga1 gl2 gc3)]), (.string (mkS e7.Text))] hs rfl ⟨_, rfl, rfl⟩ rfl Try.func100 rfl (by kernel_rfl) (by decide) hS (fun _ _ v hS hs => ?_)
  obtain ⟨x10, hv, hS⟩ := hS
  subst hv
  refine stepMake [(iv x10)] 3 1 1 hs rfl rfl rfl (fun _ => by kernel_rfl) rfl (by unfold maxLen; decide) (by decide) (fun _ _ rv11 hs => ?_)
  refine sP rv11 hs fun _ hs => ?_
  refine wpList_nil (Wp.ret ?_)
  obtain ⟨ad12, cap13, hv, hcp, hxl⟩ := hs.rowform 0 rfl
  dsimp only at hv hcp hxl
  subst hv
  obtain ⟨M14, hle, hsl, hnew, hs⟩ := hs.release 0 rfl [] rfl
  have hMM := hMM.next hle hnew
  have hS := hS M14 ad12 cap13 hle hsl
  exact leaveE (K := K) hs (resT hs rfl rfl) hMM.2 hS
 ·have hS := hS.2 hc
  refine Wp.skip (Wp.seq (Wp.region (sP (.slice none 0 0) hs fun _ hs => ?_)))
  have hs := hs.nilrow 3 1
  refine wpList_nil (Wp.seq (Wp.seq (Wp.region (sP (pt b9 6) hs fun _ hs => ?_))))
  refine sY (.slice e7.Kids_a e7.Kids_l e7.Kids_c) hs (Yl.lB [(.slice e7.Kids_a e7.Kids_l e7.Kids_c)] false 0) fun _ hs => ?_
  refine sP (iv ((e7.Kids_l : Nat) : Int)) hs fun _ hs => ?_
  refine sP (iv 0) hs fun _ hs => ?_
  refine wpList_nil (Wp.block ?_)
  obtain ⟨I50, mu51, hI0, hst⟩ := hS
  refine Wp.loop (σ := (Int) × (Nat) × (List Value) × (Value) × (Mem)) (fun s a w => match s with | (x45, rn47, rx48, rv46, M49) => MX M49 M E ∧ Sx 44 E [] M49 w a [(1, (.slice maya4 mayl5 mayc6)), (3, (pt b8 0)), (5, (pt b9 0)), (7, rv46), (19, (.slice e7.Kids_a e7.Kids_l e7.Kids_c)), (20, (iv ((e7.Kids_l : Nat) : Int))), (21, (iv x45))] [⟨b9, 109, e7.cells⟩, ⟨b8, 24, [(.slice ga1 gl2 gc3)]⟩] [⟨rv46, 3, 1, rn47, rx48, true⟩] ∧ I50 x45 rn47 rx48 M49) (fun s => match s with | (x45, rn47, rx48, rv46, M49) => mu51 x45 rn47 rx48) (0, 0, [], (.slice none 0 0), M) ⟨hMM, (hs.wk ⟨rfl, rfl, rfl, rfl, rfl, rfl, rfl, trivial⟩), hI0⟩ (fun s a w hI => ?_)
  obtain ⟨x45, rn47, rx48, rv46, M49⟩ := s
  obtain ⟨hMM, hs, hI⟩ := hI
  have hS := hst x45 rn47 rx48 M49 hI
  clear hst hI0 hI
  refine Wp.seq (Wp.region (sP (.bool (decide (x45 < ((e7.Kids_l : Nat) : Int)))) hs fun _ hs => ?_))
  refine wpList_nil (Wp.seq (Wp.cond hs rfl rfl decide_eq_true_iff (fun hc => ?_) (fun hc => ?_)))
  ·have hS := hS.1 hc
   refine Wp.skip (Wp.seq (Wp.block (Wp.seq (Wp.region ?_))))
   obtain ⟨b52, o53, ha, h0, hl, hS⟩ := hS
   refine sY (.pointer (some ⟨b52, o53 + x45.toNat * 7, none⟩)) hs (Yl.indexS (e := 109) (sz := 7) rfl rfl rfl rfl (by kernel_rfl) (by kernel_rfl) ha h0 hl) fun _ hs => ?_
   obtain ⟨x54, hat, hS⟩ := hS
   refine sY x54.val hs (Yl.loadV (vs := x54.cells) true rfl rfl (by kernel_rfl) hat) fun _ hs => ?_
   refine stepAlloc [(iv 0), (.int .u64 0), (.int .u64 0), (.int .u64 0), (.int .u64 0), (.string (mkS [])), (.slice none 0 0)] hs (by kernel_rfl) (by decide) (fun _ _ b55 hEb55 hs => ?_)
   have hs := hs.nilrow 109 7
   refine stB 0 x54.cells [⟨b55, 109, x54.cells⟩, ⟨b9, 109, e7.cells⟩, ⟨b8, 24, [(.slice ga1 gl2 gc3)]⟩] hs fun _ _ hs => ?_
   refine wpList_nil (Wp.seq (Wp.region (sP rv46 hs fun _ hs => ?_)))
   refine sY (.agg #[(.slice ga1 gl2 gc3)]) hs (Yl.lB [(.slice ga1 gl2 gc3)] true 2) fun _ hs => ?_
   refine sP (.slice maya4 mayl5 mayc6) hs fun _ hs => ?_
   refine sY x54.val hs (Yl.lB x54.cells true 0) fun _ hs => ?_
   refine stepCallE [(.agg #[(.slice ga1 gl2 gc3)]), (.slice maya4 mayl5 mayc6), x54.val] hs rfl ⟨_, rfl, rfl⟩ rfl Try.func62 rfl (by kernel_rfl) (by decide) hS (fun _ _ M59 v hle hnew hS hs => ?_)
   have hMM := hMM.next hle hnew
   obtain ⟨xa56, xl57, xc58, hv, hS⟩ := hS
   subst hv
   obtain ⟨news60, hsl, ho, hS⟩ := hS
   obtain ⟨hB, hS⟩ := hS
   refine stepAppend 1 news60 hs rfl rfl rfl rfl rfl (by kernel_rfl) (by kernel_rfl) (by decide) (by decide) (hs.srcV hsl ho) (lenb hB (by decide)) hB (fun _ _ rv61 hs => ?_)
   replace hs := hs.chrs (rs' := [⟨(Value.slice none 0 0), 109, 7, 0, [], true⟩, ⟨rv61, 3, 1, (rn47 + xl57), (rx48 ++ news60), true⟩]) rfl
   refine sP rv61 hs fun _ hs => ?_
   refine wpList_nil (Wp.join (fun a w => ∃ (x63 : Bool), Sx 44 E [] M59 w a [(1, (.slice maya4 mayl5 mayc6)), (3, (pt b8 0)), (5, (pt b9 0)), (7, rv61), (19, (.slice e7.Kids_a e7.Kids_l e7.Kids_c)), (20, (iv ((e7.Kids_l : Nat) : Int))), (21, (iv x45)), (41, (.bool x63))] [⟨b55, 109, x54.cells⟩, ⟨b9, 109, e7.cells⟩, ⟨b8, 24, [(.slice ga1 gl2 gc3)]⟩] [⟨rv61, 3, 1, (rn47 + xl57), (rx48 ++ news60), true⟩] ∧ (S_chaffref_needs_J1 x45 rn47 rx48 I50 mu51 xl57 M59 news60 x63 K)) ?_ ?_)
   ·refine Wp.region (sP (pt b9 0) hs fun _ hs => ?_)
    refine sY (iv e7.Kind) hs (Yl.lB [(iv e7.Kind)] false 1) fun _ hs => ?_
    refine sP (.bool ((e7.Kind : Int) == (5 : Int))) hs fun _ hs => ?_
    refine sP (.bool ((e7.Kind : Int) == (5 : Int))) hs fun _ hs => ?_
    refine bsplit ((e7.Kind : Int) == (5 : Int)) beq_iff_eq (fun hb hc => ?_) (fun hb hc => ?_)
    ·have hs := hs.bt hb
     have hS := hS.1 hc
     refine sYe hs (sY (.agg #[(.slice ga1 gl2 gc3)]) hs (Yl.lB [(.slice ga1 gl2 gc3)] true 2) fun _ hs => ?_)
     refine sYe hs (sP (.slice maya4 mayl5 mayc6) hs fun _ hs => ?_)
     refine sYe hs (sY x54.val hs (Yl.lB x54.cells true 0) fun _ hs => ?_)
     refine sYe hs (stepCallP [(.agg #[(.slice ga1 gl2 gc3)]), (.slice maya4 mayl5 mayc6), x54.val] hs rfl ⟨_, rfl, rfl⟩ rfl Try.func61 rfl (by kernel_rfl) (by decide) hS (fun _ _ v hS hs => ?_))
     obtain ⟨x62, hv, hS⟩ := hS
     subst hv
     refine sYe hs (sP (iv (bAnd .i64 x62 1)) hs fun _ hs => ?_)
     refine sYe hs (sP (.bool ((bAnd .i64 x62 1 : Int) == (0 : Int))) hs fun _ hs => ?_)
     refine sP (.bool ((bAnd .i64 x62 1 : Int) == (0 : Int))) hs fun _ hs => ?_
     exact wpList_nil (⟨((bAnd .i64 x62 1 : Int) == (0 : Int)), (hs.weak (List.Sublist.refl _) (.cons _ (.cons_cons _ List.Sublist.slnil)) ⟨rfl, rfl, rfl, rfl, rfl, rfl, rfl, rfl, trivial⟩), hS⟩)
    ·have hs := hs.bf hb
     have hS := hS.2 hc
     refine sNo hs fun _ hs => ?_
     refine sNo hs fun _ hs => ?_
     refine sNo hs fun _ hs => ?_
     refine sNo hs fun _ hs => ?_
     refine sNo hs fun _ hs => ?_
     refine sNo hs fun _ hs => ?_
     refine sP (.bool false) hs fun _ hs => ?_
     exact wpList_nil (⟨false, (hs.weak (List.Sublist.refl _) (.cons _ (.cons_cons _ List.Sublist.slnil)) ⟨rfl, rfl, rfl, rfl, rfl, rfl, rfl, rfl, trivial⟩), hS⟩)
   ·intro a w hJ
    obtain ⟨x63, hs, hS⟩ := hJ
    unfold S_chaffref_needs_J1 at hS
    refine Wp.cond hs rfl rfl Iff.rfl (fun hc => ?_) (fun hc => ?_)
    ·have hS := hS.1 hc
     refine Wp.exit rfl (Wp.seq (Wp.region (sP rv61 hs fun _ hs => ?_)))
     refine sP rv61 hs fun _ hs => ?_
     refine wpList_nil (Wp.ret ?_)
     obtain ⟨ad67, cap68, hv, hcp, hxl⟩ := hs.rowform 0 rfl
     dsimp only at hv hcp hxl
     subst hv
     obtain ⟨M69, hle, hsl, hnew, hs⟩ := hs.release 0 rfl [] rfl
     have hMM := hMM.next hle hnew
     have hS := hS M69 ad67 cap68 hle hsl
     exact leaveE (K := K) hs (resT hs rfl rfl) hMM.2 hS
    ·have hS := hS.2 hc
     refine Wp.skip (Wp.region ?_)
     obtain ⟨hI, hS⟩ := hS
     refine sY (iv (x45 + 1)) hs (Yl.eq (Yl.pure (v := Value.int .i64 (IntKind.wrap .i64 (x45 + 1))) rfl (fun _ => by kernel_rfl)) (congrArg (Value.int .i64) (wrap_in hI))) fun _ hs => ?_
     refine sP (iv (x45 + 1)) hs fun _ hs => ?_
     exact wpList_nil (⟨(x45 + 1, (rn47 + xl57), (rx48 ++ news60), rv61, M59), ⟨hMM, (hs.weak (.cons _ (.cons_cons _ (.cons_cons _ List.Sublist.slnil))) (List.Sublist.refl _) ⟨rfl, rfl, rfl, rfl, rfl, rfl, rfl, trivial⟩), hS.1⟩, hS.2⟩)
  ·have hS := hS.2 hc
   refine Wp.exit rfl (Wp.seq (Wp.region (sP rv46 hs fun _ hs => ?_)))
   refine sP rv46 hs fun _ hs => ?_
   refine wpList_nil (Wp.ret ?_)
   obtain ⟨ad64, cap65, hv, hcp, hxl⟩ := hs.rowform 0 rfl
   dsimp only at hv hcp hxl
   subst hv
   obtain ⟨M66, hle, hsl, hnew, hs⟩ := hs.release 0 rfl [] rfl
   have hMM := hMM.next hle hnew
   have hS := hS M66 ad64 cap65 hle hsl
   exact leaveE (K := K) hs (resT hs rfl rfl) hMM.2 hS
def S_slices_Index_int (sa1 : Option Addr) (sl2 : Nat) (sc3 : Nat) (v4 : Int) (M : Mem) (K : Value → Prop) : Prop :=
 (∃ (I10 : Int → Prop) (mu11 : Int → Nat), I10 0 ∧ ∀ (x9 : Int), (I10 x9 → ((x9 < ((sl2 : Nat) : Int) → (∃ (b12 o13 : Nat), sa1 = some ⟨b12, o13, none⟩ ∧ (0 : Int) ≤ x9 ∧ x9 < ((sl2 : Nat) : Int) ∧ (∃ (x14 : Int), At M b12 (o13 + x9.toNat * 1) [(.int .i64 x14)] ∧ (((v4 : Int) = x14 → K (Value.int .i64 x9)) ∧ (¬ ((v4 : Int) = x14) → (InI (x9 + 1) ∧ I10 (x9 + 1) ∧ mu11 (x9 + 1) < mu11 x9)))))) ∧ (¬ (x9 < ((sl2 : Nat) : Int)) → K (Value.int .i64 (-1))))))
set_option maxRecDepth 100000 in
theorem s_slices_Index_int (sa1 : Option Addr) (sl2 : Nat) (sc3 : Nat) (v4 : Int) (M : Mem) (K : Value → Prop) (hS : S_slices_Index_int sa1 sl2 sc3 v4 M K) : CallE Try.prog 116 #[(Value.slice sa1 sl2 sc3), (Value.int .i64 v4)] M (fun v _ => K v) := by
 refine enterE Try.func116 rfl 19 rfl (Nat.le_of_ble_eq_true rfl) (fun E a hs => ?_)
 unfold S_slices_Index_int at hS
 have hMM := MX.refl M E
 change Sx 19 E [] M E a [(0, (.slice sa1 sl2 sc3)), (1, (iv v4))] [] [] at hs
 refine Wp.seq (Wp.region (sP (iv 0) hs fun _ hs => ?_))
 refine wpList_nil (Wp.seq (Wp.seq (Wp.region (sP (.slice sa1 sl2 sc3) hs fun _ hs => ?_))))
 refine sP (iv ((sl2 : Nat) : Int)) hs fun _ hs => ?_
 refine sP (iv 0) hs fun _ hs => ?_
 refine wpList_nil (Wp.block ?_)
 obtain ⟨I10, mu11, hI0, hst⟩ := hS
 refine Wp.loop (σ := (Int)) (fun s a w => match s with | (x9) => Sx 19 E [] M w a [(0, (.slice sa1 sl2 sc3)), (1, (iv v4)), (7, (iv ((sl2 : Nat) : Int))), (8, (iv x9))] [] [] ∧ I10 x9) (fun s => match s with | (x9) => mu11 x9) (0) ⟨(hs.wk ⟨rfl, rfl, rfl, rfl, trivial⟩), hI0⟩ (fun x9 a w hI => ?_)
 obtain ⟨hs, hI⟩ := hI
 have hS := hst x9 hI
 clear hst hI0 hI
 refine Wp.seq (Wp.region (sP (.bool (decide (x9 < ((sl2 : Nat) : Int)))) hs fun _ hs => ?_))
 refine wpList_nil (Wp.seq (Wp.cond hs rfl rfl decide_eq_true_iff (fun hc => ?_) (fun hc => ?_)))
 ·have hS := hS.1 hc
  refine Wp.skip (Wp.seq (Wp.block (Wp.seq (Wp.region (sP (iv x9) hs fun _ hs => ?_)))))
  refine sP (iv x9) hs fun _ hs => ?_
  refine wpList_nil (Wp.seq (Wp.region (sP (iv v4) hs fun _ hs => ?_)))
  refine sP (.slice sa1 sl2 sc3) hs fun _ hs => ?_
  refine sP (iv x9) hs fun _ hs => ?_
  obtain ⟨b12, o13, ha, h0, hl, hS⟩ := hS
  refine sY (.pointer (some ⟨b12, o13 + x9.toNat * 1, none⟩)) hs (Yl.indexS (e := 3) (sz := 1) rfl rfl rfl rfl (by kernel_rfl) (by kernel_rfl) ha h0 hl) fun _ hs => ?_
  obtain ⟨x14, hat, hS⟩ := hS
  refine sY (iv x14) hs (Yl.loadV (vs := [(iv x14)]) false rfl rfl (by kernel_rfl) hat) fun _ hs => ?_
  refine sP (.bool ((v4 : Int) == (x14 : Int))) hs fun _ hs => ?_
  refine wpList_nil (Wp.cond hs rfl rfl beq_iff_eq (fun hc => ?_) (fun hc => ?_))
  ·have hS := hS.1 hc
   refine Wp.seq (Wp.region (sP (iv x9) hs fun _ hs => ?_))
   refine sP (iv x9) hs fun _ hs => ?_
   exact wpList_nil (Wp.ret (lvE K hs (resT hs rfl rfl) hMM.2 hS))
  ·have hS := hS.2 hc
   refine Wp.skip (Wp.region ?_)
   obtain ⟨hI, hS⟩ := hS
   refine sY (iv (x9 + 1)) hs (Yl.eq (Yl.pure (v := Value.int .i64 (IntKind.wrap .i64 (x9 + 1))) rfl (fun _ => by kernel_rfl)) (congrArg (Value.int .i64) (wrap_in hI))) fun _ hs => ?_
   refine sP (iv (x9 + 1)) hs fun _ hs => ?_
   exact wpList_nil (⟨(x9 + 1), ⟨(hs.wk ⟨rfl, rfl, rfl, rfl, trivial⟩), hS.1⟩, hS.2⟩)
 ·have hS := hS.2 hc
  refine Wp.exit rfl (Wp.seq (Wp.region (sP (iv (-1)) hs fun _ hs => ?_)))
  exact wpList_nil (Wp.ret (lvE K hs (resT hs rfl rfl) hMM.2 hS))
def S_slices_Contains_int (sa1 : Option Addr) (sl2 : Nat) (sc3 : Nat) (v4 : Int) (M : Mem) (K : Value → Prop) : Prop :=
 (CallE Try.prog 116 #[(.slice sa1 sl2 sc3), (.int .i64 v4)] M (fun v _ => ∃ (x5 : Int), v = (Value.int .i64 x5) ∧ K (Value.bool (decide (x5 ≥ 0)))))
set_option maxRecDepth 100000 in
theorem s_slices_Contains_int (sa1 : Option Addr) (sl2 : Nat) (sc3 : Nat) (v4 : Int) (M : Mem) (K : Value → Prop) (hS : S_slices_Contains_int sa1 sl2 sc3 v4 M K) : CallE Try.prog 63 #[(Value.slice sa1 sl2 sc3), (Value.int .i64 v4)] M (fun v _ => K v) := by
 refine enterE Try.func63 rfl 9 rfl (Nat.le_of_ble_eq_true rfl) (fun E a hs => ?_)
 unfold S_slices_Contains_int at hS
 have hMM := MX.refl M E
 change Sx 9 E [] M E a [(0, (.slice sa1 sl2 sc3)), (1, (iv v4))] [] [] at hs
 refine Wp.seq (Wp.region (sP (.bool false) hs fun _ hs => ?_))
 refine wpList_nil (Wp.seq (Wp.region (sP (.slice sa1 sl2 sc3) hs fun _ hs => ?_)))
 refine sP (iv v4) hs fun _ hs => ?_
 refine stepCallP [(.slice sa1 sl2 sc3), (iv v4)] hs rfl ⟨_, rfl, rfl⟩ rfl Try.func116 rfl (by kernel_rfl) (by decide) hS (fun _ _ v hS hs => ?_)
 obtain ⟨x5, hv, hS⟩ := hS
 subst hv
 refine sP (.bool (decide (x5 ≥ 0))) hs fun _ hs => ?_
 refine sP (.bool (decide (x5 ≥ 0))) hs fun _ hs => ?_
 exact wpList_nil (Wp.ret (lvE K hs (resT hs rfl rfl) hMM.2 hS))
def S_chaffref_Well_J1 (x73 : Int) (x95 : Int) (I96 : Int → Prop) (mu97 : Int → Nat) (x106 : Bool) (K : Value → Prop) : Prop :=
 ((x106 = true → K (Value.tuple #[(.int .i64 x73), (.int .i64 9)])) ∧ (¬ (x106 = true) → (InI (x95 + 1) ∧ I96 (x95 + 1) ∧ mu97 (x95 + 1) < mu97 x95)))
def S_chaffref_Well_J2 (ok640 : Bool) (x641 : Int) (I643 : Bool → Int → Prop) (mu644 : Bool → Int → Nat) (ok652 : Bool) (K : Value → Prop) : Prop :=
 (InI (x641 + 1) ∧ I643 ok652 (x641 + 1) ∧ mu644 ok652 (x641 + 1) < mu644 ok640 x641)
def S_chaffref_Well_J4 (x602 : Int) (rn604 : Nat) (rx605 : List Value) (I607 : Int → Nat → List Value → Mem → Prop) (mu608 : Int → Nat → List Value → Nat) (rn665 : Nat) (rx666 : List Value) (M667 : Mem) (K : Value → Prop) : Prop :=
 (InI (x602 + 1) ∧ I607 (x602 + 1) rn665 rx666 M667 ∧ mu608 (x602 + 1) rn665 rx666 < mu608 x602 rn604 rx605)
def S_chaffref_Well_J3 (x602 : Int) (rn604 : Nat) (rx605 : List Value) (I607 : Int → Nat → List Value → Mem → Prop) (mu608 : Int → Nat → List Value → Nat) (M616 : Mem) (x658 : Bool) (K : Value → Prop) : Prop :=
 ((x658 = true → ((rn604 + 1) * 8 ≤ 140737488355328 ∧ (S_chaffref_Well_J4 x602 rn604 rx605 I607 mu608 (rn604 + 1) (rx605 ++ [(.int .i64 x602)]) M616 K))) ∧ (¬ (x658 = true) → (S_chaffref_Well_J4 x602 rn604 rx605 I607 mu608 rn604 rx605 M616 K)))
def S_chaffref_Well (ga1 : Option Addr) (gl2 : Nat) (gc3 : Nat) (M : Mem) (K : Value → Prop) : Prop :=
 (CallE Try.prog 58 #[(.agg #[(.slice ga1 gl2 gc3)])] M (fun v _ => ∃ (x5 : Int), v = (Value.int .i64 x5) ∧ (((x5 : Int) ≠ 0 → K (Value.tuple #[(.int .i64 0), (.int .i64 x5)])) ∧ (¬ ((x5 : Int) ≠ 0) → (CallE Try.prog 59 #[(.agg #[(.slice ga1 gl2 gc3)])] M (fun v M9 => ∃ (xa6 : Option Addr) (xl7 : Nat) (xc8 : Nat), v = (Value.slice xa6 xl7 xc8) ∧ (∃ (I75 : Int → Mem → Prop) (mu76 : Int → Nat), I75 0 M9 ∧ ∀ (x73 : Int) (M74 : Mem), (I75 x73 M74 → ((x73 < ((gl2 : Nat) : Int) → (∃ (b77 o78 : Nat), ga1 = some ⟨b77, o78, none⟩ ∧ (0 : Int) ≤ x73 ∧ x73 < ((gl2 : Nat) : Int) ∧ (∃ (x79 : X_api_Rule), At M74 b77 (o78 + x73.toNat * 8) x79.cells ∧ (CallE Try.prog 60 #[x79.Body.val] M74 (fun v M84 => ∃ (xa81 : Option Addr) (xl82 : Nat) (xc83 : Nat), v = (Value.slice xa81 xl82 xc83) ∧ (∃ (I96 : Int → Prop) (mu97 : Int → Nat), I96 0 ∧ ∀ (x95 : Int), (I96 x95 → ((x95 < ((xl82 : Nat) : Int) → (∃ (b98 o99 : Nat), xa81 = some ⟨b98, o99, none⟩ ∧ (0 : Int) ≤ x95 ∧ x95 < ((xl82 : Nat) : Int) ∧ (∃ (x100 : X_chaffref_Node), At M84 b98 (o99 + x95.toNat * 8) x100.cells ∧ (((x100.Expr.Kind : Int) = 7 → (∃ (b102 o103 : Nat), x100.Expr.Kids_a = some ⟨b102, o103, none⟩ ∧ (0 : Int) ≤ 0 ∧ 0 < ((x100.Expr.Kids_l : Nat) : Int) ∧ (∃ (x104 : X_api_Expr), At M84 b102 (o103 + (0 : Int).toNat * 7) x104.cells ∧ (CallE Try.prog 61 #[(.agg #[(.slice ga1 gl2 gc3)]), (.slice xa6 xl7 xc8), x104.val] M84 (fun v _ => ∃ (x105 : Int), v = (Value.int .i64 x105) ∧ (S_chaffref_Well_J1 x73 x95 I96 mu97 (decide (bAnd .i64 x105 1 > 0)) K)))))) ∧ (¬ ((x100.Expr.Kind : Int) = 7) → (((x100.Expr.Kind : Int) = 8 → (∃ (b102 o103 : Nat), x100.Expr.Kids_a = some ⟨b102, o103, none⟩ ∧ (0 : Int) ≤ 0 ∧ 0 < ((x100.Expr.Kids_l : Nat) : Int) ∧ (∃ (x104 : X_api_Expr), At M84 b102 (o103 + (0 : Int).toNat * 7) x104.cells ∧ (CallE Try.prog 61 #[(.agg #[(.slice ga1 gl2 gc3)]), (.slice xa6 xl7 xc8), x104.val] M84 (fun v _ => ∃ (x105 : Int), v = (Value.int .i64 x105) ∧ (S_chaffref_Well_J1 x73 x95 I96 mu97 (decide (bAnd .i64 x105 1 > 0)) K)))))) ∧ (¬ ((x100.Expr.Kind : Int) = 8) → (S_chaffref_Well_J1 x73 x95 I96 mu97 false K)))))))) ∧ (¬ (x95 < ((xl82 : Nat) : Int)) → (InI (x73 + 1) ∧ I75 (x73 + 1) M84 ∧ mu76 (x73 + 1) < mu76 x73)))))))))) ∧ (¬ (x73 < ((gl2 : Nat) : Int)) → (∃ (I476 : Int → Nat → List Value → Mem → Prop) (mu477 : Int → Nat → List Value → Nat), I476 0 0 [] M74 ∧ ∀ (x471 : Int) (rn473 : Nat) (rx474 : List Value) (M475 : Mem), (I476 x471 rn473 rx474 M475 → ((x471 < ((gl2 : Nat) : Int) → (∃ (I607 : Int → Nat → List Value → Mem → Prop) (mu608 : Int → Nat → List Value → Nat), I607 0 rn473 rx474 M475 ∧ ∀ (x602 : Int) (rn604 : Nat) (rx605 : List Value) (M606 : Mem), (I607 x602 rn604 rx605 M606 → ((x602 < ((gl2 : Nat) : Int) → (∃ (b609 o610 : Nat), ga1 = some ⟨b609, o610, none⟩ ∧ (0 : Int) ≤ x602 ∧ x602 < ((gl2 : Nat) : Int) ∧ (∃ (x611 : X_api_Rule), At M606 b609 (o610 + x602.toNat * 8) x611.cells ∧ (CallE Try.prog 62 #[(.agg #[(.slice ga1 gl2 gc3)]), (.slice xa6 xl7 xc8), x611.Body.val] M606 (fun v M616 => ∃ (xa613 : Option Addr) (xl614 : Nat) (xc615 : Nat), v = (Value.slice xa613 xl614 xc615) ∧ (∃ (I643 : Bool → Int → Prop) (mu644 : Bool → Int → Nat), I643 true 0 ∧ ∀ (ok640 : Bool) (x641 : Int), (I643 ok640 x641 → ((x641 < ((xl614 : Nat) : Int) → (∃ (b645 o646 : Nat), xa613 = some ⟨b645, o646, none⟩ ∧ (0 : Int) ≤ x641 ∧ x641 < ((xl614 : Nat) : Int) ∧ (∃ (x647 : Int), At M616 b645 (o646 + x641.toNat * 1) [(.int .i64 x647)] ∧ ((ok640 = true → (∀ (M651 : Mem) (ad649 : Option Addr) (cap650 : Nat), M616.le M651 → SlV M651 ad649 rn604 cap650 1 rx605 → (CallE Try.prog 63 #[(.slice ad649 rn604 cap650), (.int .i64 x647)] M651 (fun v _ => ∃ (x648 : Bool), v = (Value.bool x648) ∧ (S_chaffref_Well_J2 ok640 x641 I643 mu644 x648 K))))) ∧ (¬ (ok640 = true) → (S_chaffref_Well_J2 ok640 x641 I643 mu644 false K)))))) ∧ (¬ (x641 < ((xl614 : Nat) : Int)) → ((ok640 = true → (∀ (M657 : Mem) (ad655 : Option Addr) (cap656 : Nat), M616.le M657 → SlV M657 ad655 rn604 cap656 1 rx605 → (CallE Try.prog 63 #[(.slice ad655 rn604 cap656), (.int .i64 x602)] M657 (fun v _ => ∃ (x654 : Bool), v = (Value.bool x654) ∧ (S_chaffref_Well_J3 x602 rn604 rx605 I607 mu608 M616 (!x654) K))))) ∧ (¬ (ok640 = true) → (S_chaffref_Well_J3 x602 rn604 rx605 I607 mu608 M616 false K)))))))))))) ∧ (¬ (x602 < ((gl2 : Nat) : Int)) → (InI (x471 + 1) ∧ I476 (x471 + 1) rn604 rx605 M606 ∧ mu477 (x471 + 1) rn604 rx605 < mu477 x471 rn473 rx474)))))) ∧ (¬ (x471 < ((gl2 : Nat) : Int)) → (∃ (I681 : Int → Prop) (mu682 : Int → Nat), I681 0 ∧ ∀ (x679 : Int), (I681 x679 → ((x679 < ((gl2 : Nat) : Int) → (∀ (M686 : Mem) (ad684 : Option Addr) (cap685 : Nat), M475.le M686 → SlV M686 ad684 rn473 cap685 1 rx474 → (CallE Try.prog 63 #[(.slice ad684 rn473 cap685), (.int .i64 x679)] M686 (fun v _ => ∃ (x683 : Bool), v = (Value.bool x683) ∧ ((¬ (x683 = true) → K (Value.tuple #[(.int .i64 x679), (.int .i64 8)])) ∧ (¬ (¬ (x683 = true)) → (InI (x679 + 1) ∧ I681 (x679 + 1) ∧ mu682 (x679 + 1) < mu682 x679))))))) ∧ (¬ (x679 < ((gl2 : Nat) : Int)) → K (Value.tuple #[(.int .i64 0), (.int .i64 0)])))))))))))))))))))
set_option maxRecDepth 100000 in
theorem s_chaffref_Well (ga1 : Option Addr) (gl2 : Nat) (gc3 : Nat) (M : Mem) (K : Value → Prop) (hS : S_chaffref_Well ga1 gl2 gc3 M K) : CallE Try.prog 21 #[(Value.agg #[(Value.slice ga1 gl2 gc3)])] M (fun v _ => K v) := by
 refine enterE Try.func21 rfl 120 rfl (Nat.le_of_ble_eq_true rfl) (fun E a hs => ?_)
 unfold S_chaffref_Well at hS
 have hMM := MX.refl M E
 change Sx 120 E [] M E a [(0, (.agg #[(.slice ga1 gl2 gc3)]))] [] [] at hs
 refine Wp.seq (Wp.region (stepBox [(.slice ga1 gl2 gc3)] hs rfl rfl rfl (by decide) (fun _ _ b4 hEb4 hs => ?_)))
 refine sP (iv 0) hs fun _ hs => ?_
 refine sP (iv 0) hs fun _ hs => ?_
 refine wpList_nil (Wp.seq (Wp.seq (Wp.region (sY (.agg #[(.slice ga1 gl2 gc3)]) hs (Yl.lB [(.slice ga1 gl2 gc3)] true 0) fun _ hs => ?_))))
 refine stepCallP [(.agg #[(.slice ga1 gl2 gc3)])] hs rfl ⟨_, rfl, rfl⟩ rfl Try.func58 rfl (by kernel_rfl) (by decide) hS (fun _ _ v hS hs => ?_)
 obtain ⟨x5, hv, hS⟩ := hS
 subst hv
 refine sP (iv x5) hs fun _ hs => ?_
 refine wpList_nil (Wp.seq (Wp.region (sP (iv x5) hs fun _ hs => ?_)))
 refine sP (.bool ((x5 : Int) != (0 : Int))) hs fun _ hs => ?_
 refine wpList_nil (Wp.cond hs rfl rfl bne_iff_ne (fun hc => ?_) (fun hc => ?_))
 ·have hS := hS.1 hc
  refine Wp.seq (Wp.region (sP (iv x5) hs fun _ hs => ?_))
  refine sP (iv 0) hs fun _ hs => ?_
  refine sP (iv x5) hs fun _ hs => ?_
  exact wpList_nil (Wp.ret (lvE K hs (resTT hs rfl rfl rfl) hMM.2 hS))
 ·have hS := hS.2 hc
  refine Wp.skip (Wp.seq (Wp.region (sY (.agg #[(.slice ga1 gl2 gc3)]) hs (Yl.lB [(.slice ga1 gl2 gc3)] true 0) fun _ hs => ?_)))
  refine stepCallE [(.agg #[(.slice ga1 gl2 gc3)])] hs rfl ⟨_, rfl, rfl⟩ rfl Try.func59 rfl (by kernel_rfl) (by decide) hS (fun _ _ M9 v hle hnew hS hs => ?_)
  have hMM := hMM.next hle hnew
  obtain ⟨xa6, xl7, xc8, hv, hS⟩ := hS
  subst hv
  refine sP (.slice xa6 xl7 xc8) hs fun _ hs => ?_
  refine wpList_nil (Wp.seq (Wp.seq (Wp.region (sP (pt b4 0) hs fun _ hs => ?_))))
  refine sY (.slice ga1 gl2 gc3) hs (Yl.lB [(.slice ga1 gl2 gc3)] false 0) fun _ hs => ?_
  refine sP (iv ((gl2 : Nat) : Int)) hs fun _ hs => ?_
  refine sP (iv 0) hs fun _ hs => ?_
  refine wpList_nil (Wp.block ?_)
  obtain ⟨I75, mu76, hI0, hst⟩ := hS
  refine Wp.loop (σ := (Int) × (Mem)) (fun s a w => match s with | (x73, M74) => MX M74 M E ∧ Sx 120 E [] M74 w a [(1, (pt b4 0)), (5, (.slice xa6 xl7 xc8)), (25, (.slice ga1 gl2 gc3)), (26, (iv ((gl2 : Nat) : Int))), (27, (iv x73))] [⟨b4, 24, [(.slice ga1 gl2 gc3)]⟩] [] ∧ I75 x73 M74) (fun s => match s with | (x73, M74) => mu76 x73) (0, M9) ⟨hMM, (hs.wk ⟨rfl, rfl, rfl, rfl, rfl, trivial⟩), hI0⟩ (fun s a w hI => ?_)
  obtain ⟨x73, M74⟩ := s
  obtain ⟨hMM, hs, hI⟩ := hI
  have hS := hst x73 M74 hI
  clear hst hI0 hI
  refine Wp.seq (Wp.region (sP (.bool (decide (x73 < ((gl2 : Nat) : Int)))) hs fun _ hs => ?_))
  refine wpList_nil (Wp.seq (Wp.cond hs rfl rfl decide_eq_true_iff (fun hc => ?_) (fun hc => ?_)))
  ·have hS := hS.1 hc
   refine Wp.skip (Wp.seq (Wp.block (Wp.seq (Wp.region (sP (iv x73) hs fun _ hs => ?_)))))
   obtain ⟨b77, o78, ha, h0, hl, hS⟩ := hS
   refine sY (.pointer (some ⟨b77, o78 + x73.toNat * 8, none⟩)) hs (Yl.indexS (e := 111) (sz := 8) rfl rfl rfl rfl (by kernel_rfl) (by kernel_rfl) ha h0 hl) fun _ hs => ?_
   obtain ⟨x79, hat, hS⟩ := hS
   refine sY x79.val hs (Yl.loadV (vs := x79.cells) true rfl rfl (by kernel_rfl) hat) fun _ hs => ?_
   refine stepAlloc [(.string (mkS [])), (iv 0), (.int .u64 0), (.int .u64 0), (.int .u64 0), (.int .u64 0), (.string (mkS [])), (.slice none 0 0)] hs (by kernel_rfl) (by decide) (fun _ _ b80 hEb80 hs => ?_)
   refine sP (iv x73) hs fun _ hs => ?_
   refine stB 0 x79.cells [⟨b80, 111, x79.cells⟩, ⟨b4, 24, [(.slice ga1 gl2 gc3)]⟩] hs fun _ _ hs => ?_
   refine wpList_nil (Wp.seq (Wp.region (sP (pt b80 1) hs fun _ hs => ?_)))
   refine sY x79.Body.val hs (Yl.lB x79.Body.cells true 0) fun _ hs => ?_
   refine stepCallE [x79.Body.val] hs rfl ⟨_, rfl, rfl⟩ rfl Try.func60 rfl (by kernel_rfl) (by decide) hS (fun _ _ M84 v hle hnew hS hs => ?_)
   have hMM := hMM.next hle hnew
   obtain ⟨xa81, xl82, xc83, hv, hS⟩ := hS
   subst hv
   refine sP (iv ((xl82 : Nat) : Int)) hs fun _ hs => ?_
   refine sP (iv 0) hs fun _ hs => ?_
   refine wpList_nil (Wp.block ?_)
   obtain ⟨I96, mu97, hI0, hst⟩ := hS
   refine Wp.loop (σ := (Int)) (fun s a w => match s with | (x95) => Sx 120 E [] M84 w a [(1, (pt b4 0)), (5, (.slice xa6 xl7 xc8)), (6, (iv x73)), (25, (.slice ga1 gl2 gc3)), (26, (iv ((gl2 : Nat) : Int))), (27, (iv x73)), (34, (.slice xa81 xl82 xc83)), (35, (iv ((xl82 : Nat) : Int))), (36, (iv x95))] [⟨b80, 111, x79.cells⟩, ⟨b4, 24, [(.slice ga1 gl2 gc3)]⟩] [] ∧ I96 x95) (fun s => match s with | (x95) => mu97 x95) (0) ⟨(hs.wk ⟨rfl, rfl, rfl, rfl, rfl, rfl, rfl, rfl, rfl, trivial⟩), hI0⟩ (fun x95 a w hI => ?_)
   obtain ⟨hs, hI⟩ := hI
   have hS := hst x95 hI
   clear hst hI0 hI
   refine Wp.seq (Wp.region (sP (.bool (decide (x95 < ((xl82 : Nat) : Int)))) hs fun _ hs => ?_))
   refine wpList_nil (Wp.seq (Wp.cond hs rfl rfl decide_eq_true_iff (fun hc => ?_) (fun hc => ?_)))
   ·have hS := hS.1 hc
    refine Wp.skip (Wp.seq (Wp.block (Wp.seq (Wp.region ?_))))
    obtain ⟨b98, o99, ha, h0, hl, hS⟩ := hS
    refine sY (.pointer (some ⟨b98, o99 + x95.toNat * 8, none⟩)) hs (Yl.indexS (e := 122) (sz := 8) rfl rfl rfl rfl (by kernel_rfl) (by kernel_rfl) ha h0 hl) fun _ hs => ?_
    obtain ⟨x100, hat, hS⟩ := hS
    refine sY x100.val hs (Yl.loadV (vs := x100.cells) true rfl rfl (by kernel_rfl) hat) fun _ hs => ?_
    refine stepAlloc [(iv 0), (.int .u64 0), (.int .u64 0), (.int .u64 0), (.int .u64 0), (.string (mkS [])), (.slice none 0 0), (iv 0)] hs (by kernel_rfl) (by decide) (fun _ _ b101 hEb101 hs => ?_)
    refine stB 0 x100.cells [⟨b101, 122, x100.cells⟩, ⟨b80, 111, x79.cells⟩, ⟨b4, 24, [(.slice ga1 gl2 gc3)]⟩] hs fun _ _ hs => ?_
    refine wpList_nil (Wp.join (fun a w => ∃ (x106 : Bool), Sx 120 E [] M84 w a [(1, (pt b4 0)), (5, (.slice xa6 xl7 xc8)), (6, (iv x73)), (25, (.slice ga1 gl2 gc3)), (26, (iv ((gl2 : Nat) : Int))), (27, (iv x73)), (34, (.slice xa81 xl82 xc83)), (35, (iv ((xl82 : Nat) : Int))), (36, (iv x95)), (61, (.bool x106))] [⟨b101, 122, x100.cells⟩, ⟨b80, 111, x79.cells⟩, ⟨b4, 24, [(.slice ga1 gl2 gc3)]⟩] [] ∧ (S_chaffref_Well_J1 x73 x95 I96 mu97 x106 K)) ?_ ?_)
    ·refine Wp.regionD [true, true, true, true, true, true, true, true, true, true, true, true, true, true, true, true, true, true, true, true, true, true] hs (by kernel_rfl) rfl [⟨b101, 122, x100.cells⟩, ⟨b80, 111, x79.cells⟩, ⟨b4, 24, [(.slice ga1 gl2 gc3)]⟩] (fun _ h => h) [] (fun _ h => h) (fun _ hs hC => ?_)
     have hL := Mem.le.refl M84
     refine sE 0 ?_
     refine sP (pt b101 0) hs fun _ hs => ?_
     refine wpList_nil (⟨fun _ h => h, ?_⟩)
     refine sE 1 ?_
     refine sP (pt b101 0) hs fun _ hs => ?_
     refine wpList_nil (⟨fun _ h => h, ?_⟩)
     refine sE 2 ?_
     refine sY (iv x100.Expr.Kind) hs (Yl.lB [(iv x100.Expr.Kind)] false 0) fun _ hs => ?_
     refine wpList_nil (⟨fun _ h => h, ?_⟩)
     refine sE 3 ?_
     refine sP (.bool ((x100.Expr.Kind : Int) == (7 : Int))) hs fun _ hs => ?_
     refine wpList_nil (⟨fun _ h => h, ?_⟩)
     refine sE 4 ?_
     refine sP (.bool ((x100.Expr.Kind : Int) == (7 : Int))) hs fun _ hs => ?_
     refine wpList_nil (⟨fun _ h => h, ?_⟩)
     refine bsplit ((x100.Expr.Kind : Int) == (7 : Int)) beq_iff_eq (fun hb hc => ?_) (fun hb hc => ?_)
     ·have hs := hs.bt hb
      have hS := hS.1 hc
      refine dN 5 [6, 7, 8, 9, 10, 11, 12, 13, 14, 15, 16, 17, 18, 19, 20, 21] hs QZ.no (wanted_no hs rfl rfl rfl rfl) fun _ hs => ?_
      refine dN 6 [7, 8, 9, 10, 11, 12, 13, 14, 15, 16, 17, 18, 19, 20, 21] hs QZ.no (wanted_no hs rfl rfl rfl rfl) fun _ hs => ?_
      refine dN 7 [8, 9, 10, 11, 12, 13, 14, 15, 16, 17, 18, 19, 20, 21] hs QZ.no (wanted_no hs rfl rfl rfl rfl) fun _ hs => ?_
      refine dN 8 [9, 10, 11, 12, 13, 14, 15, 16, 17, 18, 19, 20, 21] hs QZ.no (wanted_no hs rfl rfl rfl rfl) fun _ hs => ?_
      refine sE 9 ?_
      refine sP (.bool true) hs fun _ hs => ?_
      refine wpList_nil (⟨fun _ h => h, ?_⟩)
      refine sE 10 ?_
      refine sP (.bool true) hs fun _ hs => ?_
      refine wpList_nil (⟨fun _ h => h, ?_⟩)
      refine stepDY (v := (.agg #[(.slice ga1 gl2 gc3)])) 11 [18, 19, 20, 21] hs hC QZ.no rfl (wanted_yes hs rfl rfl rfl) rfl (by decide) (by kernel_rfl) (by kernel_rfl) (by kernel_rfl) (Yl.lB [(.slice ga1 gl2 gc3)] true 2) (fun _ hs => ?_)
      refine dP (Value.slice xa6 xl7 xc8) 12 [18, 19, 20, 21] hs QZ.no (wanted_yes hs rfl rfl rfl) fun _ hs => ?_
      refine stepDE 13 rfl (wanted_yes hs rfl rfl rfl) (by kernel_rfl) #[] ?_
      refine sP (pt b101 0) hs fun _ hs => ?_
      refine wpList_nil (⟨fun _ h => h, ?_⟩)
      refine stepDE 14 rfl (wanted_yes hs rfl rfl rfl) (by kernel_rfl) #[] ?_
      refine sP (pt b101 6) hs fun _ hs => ?_
      refine wpList_nil (⟨fun _ h => h, ?_⟩)
      refine stepDE 15 rfl (wanted_yes hs rfl rfl rfl) (by kernel_rfl) #[] ?_
      refine sY (.slice x100.Expr.Kids_a x100.Expr.Kids_l x100.Expr.Kids_c) hs (Yl.lB [(.slice x100.Expr.Kids_a x100.Expr.Kids_l x100.Expr.Kids_c)] false 0) fun _ hs => ?_
      refine wpList_nil (⟨fun _ h => h, ?_⟩)
      refine stepDE 16 rfl (wanted_yes hs rfl rfl rfl) (by kernel_rfl) #[] ?_
      obtain ⟨b102, o103, ha, h0, hl, hS⟩ := hS
      refine sY (.pointer (some ⟨b102, o103 + (0 : Int).toNat * 7, none⟩)) hs (Yl.indexS (e := 109) (sz := 7) rfl rfl rfl rfl (by kernel_rfl) (by kernel_rfl) ha h0 hl) fun _ hs => ?_
      refine wpList_nil (⟨fun _ h => h, ?_⟩)
      refine stepDE 17 rfl (wanted_yes hs rfl rfl rfl) (by kernel_rfl) #[] ?_
      obtain ⟨x104, hat, hS⟩ := hS
      refine sY x104.val hs (Yl.loadV (vs := x104.cells) true rfl rfl (by kernel_rfl) hat) fun _ hs => ?_
      refine wpList_nil (⟨fun _ h => h, ?_⟩)
      refine stepDE 18 rfl (wanted_yes hs rfl rfl rfl) (by kernel_rfl) #[] ?_
      refine stepCallP [(.agg #[(.slice ga1 gl2 gc3)]), (.slice xa6 xl7 xc8), x104.val] hs rfl ⟨_, rfl, rfl⟩ rfl Try.func61 rfl (by kernel_rfl) (by decide) hS (fun _ _ v hS hs => ?_)
      obtain ⟨x105, hv, hS⟩ := hS
      subst hv
      refine wpList_nil (⟨fun _ _ => hs.cxle hL (List.Sublist.refl _) (List.Sublist.refl _), ?_⟩)
      have hC := hs.cxle hL (List.Sublist.refl _) (List.Sublist.refl _)
      refine stepDE 19 rfl (wanted_yes hs rfl rfl rfl) (by kernel_rfl) #[] ?_
      refine sP (iv (bAnd .i64 x105 1)) hs fun _ hs => ?_
      refine wpList_nil (⟨fun _ h => h, ?_⟩)
      refine stepDE 20 rfl (wanted_yes hs rfl rfl rfl) (by kernel_rfl) #[] ?_
      refine sP (.bool (decide (bAnd .i64 x105 1 > 0))) hs fun _ hs => ?_
      refine wpList_nil (⟨fun _ h => h, ?_⟩)
      refine sE 21 ?_
      refine sP (.bool (decide (bAnd .i64 x105 1 > 0))) hs fun _ hs => ?_
      refine wpList_nil (⟨fun _ h => h, ?_⟩)
      refine WpD.done (by kernel_rfl) ?_ _
      exact ⟨(decide (bAnd .i64 x105 1 > 0)), (hs.wk ⟨rfl, rfl, rfl, rfl, rfl, rfl, rfl, rfl, rfl, rfl, trivial⟩), hS⟩
     ·have hs := hs.bf hb
      have hS := hS.2 hc
      refine stepDE 5 rfl (wanted_yes hs rfl rfl rfl) (by kernel_rfl) #[] ?_
      refine sP (pt b101 0) hs fun _ hs => ?_
      refine wpList_nil (⟨fun _ h => h, ?_⟩)
      refine stepDE 6 rfl (wanted_yes hs rfl rfl rfl) (by kernel_rfl) #[] ?_
      refine sP (pt b101 0) hs fun _ hs => ?_
      refine wpList_nil (⟨fun _ h => h, ?_⟩)
      refine stepDE 7 rfl (wanted_yes hs rfl rfl rfl) (by kernel_rfl) #[] ?_
      refine sY (iv x100.Expr.Kind) hs (Yl.lB [(iv x100.Expr.Kind)] false 0) fun _ hs => ?_
      refine wpList_nil (⟨fun _ h => h, ?_⟩)
      refine stepDE 8 rfl (wanted_yes hs rfl rfl rfl) (by kernel_rfl) #[] ?_
      refine sP (.bool ((x100.Expr.Kind : Int) == (8 : Int))) hs fun _ hs => ?_
      refine wpList_nil (⟨fun _ h => h, ?_⟩)
      refine sE 9 ?_
      refine sP (.bool ((x100.Expr.Kind : Int) == (8 : Int))) hs fun _ hs => ?_
      refine wpList_nil (⟨fun _ h => h, ?_⟩)
      refine sE 10 ?_
      refine sP (.bool ((x100.Expr.Kind : Int) == (8 : Int))) hs fun _ hs => ?_
      refine wpList_nil (⟨fun _ h => h, ?_⟩)
      refine bsplit ((x100.Expr.Kind : Int) == (8 : Int)) beq_iff_eq (fun hb hc => ?_) (fun hb hc => ?_)
      ·have hs := hs.bt hb
       have hS := hS.1 hc
       refine stepDY (v := (.agg #[(.slice ga1 gl2 gc3)])) 11 [18, 19, 20, 21] hs hC QZ.no rfl (wanted_yes hs rfl rfl rfl) rfl (by decide) (by kernel_rfl) (by kernel_rfl) (by kernel_rfl) (Yl.lB [(.slice ga1 gl2 gc3)] true 2) (fun _ hs => ?_)
       refine dP (Value.slice xa6 xl7 xc8) 12 [18, 19, 20, 21] hs QZ.no (wanted_yes hs rfl rfl rfl) fun _ hs => ?_
       refine stepDE 13 rfl (wanted_yes hs rfl rfl rfl) (by kernel_rfl) #[] ?_
       refine sP (pt b101 0) hs fun _ hs => ?_
       refine wpList_nil (⟨fun _ h => h, ?_⟩)
       refine stepDE 14 rfl (wanted_yes hs rfl rfl rfl) (by kernel_rfl) #[] ?_
       refine sP (pt b101 6) hs fun _ hs => ?_
       refine wpList_nil (⟨fun _ h => h, ?_⟩)
       refine stepDE 15 rfl (wanted_yes hs rfl rfl rfl) (by kernel_rfl) #[] ?_
       refine sY (.slice x100.Expr.Kids_a x100.Expr.Kids_l x100.Expr.Kids_c) hs (Yl.lB [(.slice x100.Expr.Kids_a x100.Expr.Kids_l x100.Expr.Kids_c)] false 0) fun _ hs => ?_
       refine wpList_nil (⟨fun _ h => h, ?_⟩)
       refine stepDE 16 rfl (wanted_yes hs rfl rfl rfl) (by kernel_rfl) #[] ?_
       obtain ⟨b102, o103, ha, h0, hl, hS⟩ := hS
       refine sY (.pointer (some ⟨b102, o103 + (0 : Int).toNat * 7, none⟩)) hs (Yl.indexS (e := 109) (sz := 7) rfl rfl rfl rfl (by kernel_rfl) (by kernel_rfl) ha h0 hl) fun _ hs => ?_
       refine wpList_nil (⟨fun _ h => h, ?_⟩)
       refine stepDE 17 rfl (wanted_yes hs rfl rfl rfl) (by kernel_rfl) #[] ?_
       obtain ⟨x104, hat, hS⟩ := hS
       refine sY x104.val hs (Yl.loadV (vs := x104.cells) true rfl rfl (by kernel_rfl) hat) fun _ hs => ?_
       refine wpList_nil (⟨fun _ h => h, ?_⟩)
       refine stepDE 18 rfl (wanted_yes hs rfl rfl rfl) (by kernel_rfl) #[] ?_
       refine stepCallP [(.agg #[(.slice ga1 gl2 gc3)]), (.slice xa6 xl7 xc8), x104.val] hs rfl ⟨_, rfl, rfl⟩ rfl Try.func61 rfl (by kernel_rfl) (by decide) hS (fun _ _ v hS hs => ?_)
       obtain ⟨x105, hv, hS⟩ := hS
       subst hv
       refine wpList_nil (⟨fun _ _ => hs.cxle hL (List.Sublist.refl _) (List.Sublist.refl _), ?_⟩)
       have hC := hs.cxle hL (List.Sublist.refl _) (List.Sublist.refl _)
       refine stepDE 19 rfl (wanted_yes hs rfl rfl rfl) (by kernel_rfl) #[] ?_
       refine sP (iv (bAnd .i64 x105 1)) hs fun _ hs => ?_
       refine wpList_nil (⟨fun _ h => h, ?_⟩)
       refine stepDE 20 rfl (wanted_yes hs rfl rfl rfl) (by kernel_rfl) #[] ?_
       refine sP (.bool (decide (bAnd .i64 x105 1 > 0))) hs fun _ hs => ?_
       refine wpList_nil (⟨fun _ h => h, ?_⟩)
       refine sE 21 ?_
       refine sP (.bool (decide (bAnd .i64 x105 1 > 0))) hs fun _ hs => ?_
       refine wpList_nil (⟨fun _ h => h, ?_⟩)
       refine WpD.done (by kernel_rfl) ?_ _
       exact ⟨(decide (bAnd .i64 x105 1 > 0)), (hs.wk ⟨rfl, rfl, rfl, rfl, rfl, rfl, rfl, rfl, rfl, rfl, trivial⟩), hS⟩
      ·have hs := hs.bf hb
       have hS := hS.2 hc
       refine dN 11 [18, 19, 20, 21] hs QZ.no (wanted_no hs rfl rfl rfl rfl) fun _ hs => ?_
       refine dN 12 [18, 19, 20, 21] hs QZ.no (wanted_no hs rfl rfl rfl rfl) fun _ hs => ?_
       refine dN 13 [14, 15, 16, 17, 18, 19, 20, 21] hs QZ.no (wanted_no hs rfl rfl rfl rfl) fun _ hs => ?_
       refine dN 14 [15, 16, 17, 18, 19, 20, 21] hs QZ.no (wanted_no hs rfl rfl rfl rfl) fun _ hs => ?_
       refine dN 15 [16, 17, 18, 19, 20, 21] hs QZ.no (wanted_no hs rfl rfl rfl rfl) fun _ hs => ?_
       refine dN 16 [17, 18, 19, 20, 21] hs QZ.no (wanted_no hs rfl rfl rfl rfl) fun _ hs => ?_
       refine dN 17 [18, 19, 20, 21] hs QZ.no (wanted_no hs rfl rfl rfl rfl) fun _ hs => ?_
       refine dN 18 [19, 20, 21] hs QZ.no (wanted_no hs rfl rfl rfl rfl) fun _ hs => ?_
       refine dN 19 [20, 21] hs QZ.no (wanted_no hs rfl rfl rfl rfl) fun _ hs => ?_
       refine dN 20 [21] hs QZ.no (wanted_no hs rfl rfl rfl rfl) fun _ hs => ?_
       refine sE 21 ?_
       refine sP (.bool false) hs fun _ hs => ?_
       refine wpList_nil (⟨fun _ h => h, ?_⟩)
       refine WpD.done (by kernel_rfl) ?_ _
       exact ⟨false, (hs.wk ⟨rfl, rfl, rfl, rfl, rfl, rfl, rfl, rfl, rfl, rfl, trivial⟩), hS⟩
    ·intro a w hJ
     obtain ⟨x106, hs, hS⟩ := hJ
     unfold S_chaffref_Well_J1 at hS
     refine Wp.cond hs rfl rfl Iff.rfl (fun hc => ?_) (fun hc => ?_)
     ·have hS := hS.1 hc
      refine Wp.seq (Wp.region (sP (iv x73) hs fun _ hs => ?_))
      refine sP (iv x73) hs fun _ hs => ?_
      refine sP (iv 9) hs fun _ hs => ?_
      exact wpList_nil (Wp.ret (lvE K hs (resTT hs rfl rfl rfl) hMM.2 hS))
     ·have hS := hS.2 hc
      refine Wp.skip (Wp.region ?_)
      obtain ⟨hI, hS⟩ := hS
      refine sY (iv (x95 + 1)) hs (Yl.eq (Yl.pure (v := Value.int .i64 (IntKind.wrap .i64 (x95 + 1))) rfl (fun _ => by kernel_rfl)) (congrArg (Value.int .i64) (wrap_in hI))) fun _ hs => ?_
      refine sP (iv (x95 + 1)) hs fun _ hs => ?_
      exact wpList_nil (⟨(x95 + 1), ⟨(hs.weak (.cons _ (.cons_cons _ (.cons_cons _ List.Sublist.slnil))) (List.Sublist.refl _) ⟨rfl, rfl, rfl, rfl, rfl, rfl, rfl, rfl, rfl, trivial⟩), hS.1⟩, hS.2⟩)
   ·have hS := hS.2 hc
    refine Wp.exit rfl (Wp.region ?_)
    obtain ⟨hI, hS⟩ := hS
    refine sY (iv (x73 + 1)) hs (Yl.eq (Yl.pure (v := Value.int .i64 (IntKind.wrap .i64 (x73 + 1))) rfl (fun _ => by kernel_rfl)) (congrArg (Value.int .i64) (wrap_in hI))) fun _ hs => ?_
    refine sP (iv (x73 + 1)) hs fun _ hs => ?_
    exact wpList_nil (⟨(x73 + 1, M84), ⟨hMM, (hs.weak (.cons _ (.cons_cons _ List.Sublist.slnil)) (List.Sublist.refl _) ⟨rfl, rfl, rfl, rfl, rfl, trivial⟩), hS.1⟩, hS.2⟩)
  ·have hS := hS.2 hc
   refine Wp.exit rfl (Wp.seq (Wp.region (sP (.slice none 0 0) hs fun _ hs => ?_)))
   have hs := hs.nilrow 3 1
   refine wpList_nil (Wp.seq (Wp.seq (Wp.region (sP (pt b4 0) hs fun _ hs => ?_))))
   refine sY (.slice ga1 gl2 gc3) hs (Yl.lB [(.slice ga1 gl2 gc3)] false 0) fun _ hs => ?_
   refine sP (iv ((gl2 : Nat) : Int)) hs fun _ hs => ?_
   refine sP (iv 0) hs fun _ hs => ?_
   refine wpList_nil (Wp.block ?_)
   obtain ⟨I476, mu477, hI0, hst⟩ := hS
   refine Wp.loop (σ := (Int) × (Nat) × (List Value) × (Value) × (Mem)) (fun s a w => match s with | (x471, rn473, rx474, rv472, M475) => MX M475 M E ∧ Sx 120 E [] M475 w a [(1, (pt b4 0)), (5, (.slice xa6 xl7 xc8)), (10, rv472), (67, (iv ((gl2 : Nat) : Int))), (68, (iv x471))] [⟨b4, 24, [(.slice ga1 gl2 gc3)]⟩] [⟨rv472, 3, 1, rn473, rx474, true⟩] ∧ I476 x471 rn473 rx474 M475) (fun s => match s with | (x471, rn473, rx474, rv472, M475) => mu477 x471 rn473 rx474) (0, 0, [], (.slice none 0 0), M74) ⟨hMM, (hs.wk ⟨rfl, rfl, rfl, rfl, rfl, trivial⟩), hI0⟩ (fun s a w hI => ?_)
   obtain ⟨x471, rn473, rx474, rv472, M475⟩ := s
   obtain ⟨hMM, hs, hI⟩ := hI
   have hS := hst x471 rn473 rx474 M475 hI
   clear hst hI0 hI
   refine Wp.seq (Wp.region (sP (.bool (decide (x471 < ((gl2 : Nat) : Int)))) hs fun _ hs => ?_))
   refine wpList_nil (Wp.seq (Wp.cond hs rfl rfl decide_eq_true_iff (fun hc => ?_) (fun hc => ?_)))
   ·have hS := hS.1 hc
    refine Wp.skip (Wp.seq (Wp.block (Wp.seq (Wp.region (sP (pt b4 0) hs fun _ hs => ?_)))))
    refine sY (.slice ga1 gl2 gc3) hs (Yl.lB [(.slice ga1 gl2 gc3)] false 0) fun _ hs => ?_
    refine sP (iv ((gl2 : Nat) : Int)) hs fun _ hs => ?_
    refine sP (iv 0) hs fun _ hs => ?_
    refine wpList_nil (Wp.block ?_)
    obtain ⟨I607, mu608, hI0, hst⟩ := hS
    refine Wp.loop (σ := (Int) × (Nat) × (List Value) × (Value) × (Mem)) (fun s a w => match s with | (x602, rn604, rx605, rv603, M606) => MX M606 M E ∧ Sx 120 E [] M606 w a [(1, (pt b4 0)), (5, (.slice xa6 xl7 xc8)), (10, rv603), (67, (iv ((gl2 : Nat) : Int))), (68, (iv x471)), (71, (.slice ga1 gl2 gc3)), (72, (iv ((gl2 : Nat) : Int))), (73, (iv x602))] [⟨b4, 24, [(.slice ga1 gl2 gc3)]⟩] [⟨rv603, 3, 1, rn604, rx605, true⟩] ∧ I607 x602 rn604 rx605 M606) (fun s => match s with | (x602, rn604, rx605, rv603, M606) => mu608 x602 rn604 rx605) (0, rn473, rx474, rv472, M475) ⟨hMM, (hs.wk ⟨rfl, rfl, rfl, rfl, rfl, rfl, rfl, rfl, trivial⟩), hI0⟩ (fun s a w hI => ?_)
    obtain ⟨x602, rn604, rx605, rv603, M606⟩ := s
    obtain ⟨hMM, hs, hI⟩ := hI
    have hS := hst x602 rn604 rx605 M606 hI
    clear hst hI0 hI
    refine Wp.seq (Wp.region (sP (.bool (decide (x602 < ((gl2 : Nat) : Int)))) hs fun _ hs => ?_))
    refine wpList_nil (Wp.seq (Wp.cond hs rfl rfl decide_eq_true_iff (fun hc => ?_) (fun hc => ?_)))
    ·have hS := hS.1 hc
     refine Wp.skip (Wp.join (fun a w => ∃ (rn665 : Nat) (rx666 : List Value) (rv664 : Value) (M667 : Mem), MX M667 M E ∧ Sx 120 E [] M667 w a [(1, (pt b4 0)), (5, (.slice xa6 xl7 xc8)), (10, rv664), (67, (iv ((gl2 : Nat) : Int))), (68, (iv x471)), (71, (.slice ga1 gl2 gc3)), (72, (iv ((gl2 : Nat) : Int))), (73, (iv x602))] [⟨b4, 24, [(.slice ga1 gl2 gc3)]⟩] [⟨rv664, 3, 1, rn665, rx666, true⟩] ∧ (S_chaffref_Well_J4 x602 rn604 rx605 I607 mu608 rn665 rx666 M667 K)) ?_ ?_)
     ·refine Wp.block (Wp.seq (Wp.region (sP (iv x602) hs fun _ hs => ?_)))
      obtain ⟨b609, o610, ha, h0, hl, hS⟩ := hS
      refine sY (.pointer (some ⟨b609, o610 + x602.toNat * 8, none⟩)) hs (Yl.indexS (e := 111) (sz := 8) rfl rfl rfl rfl (by kernel_rfl) (by kernel_rfl) ha h0 hl) fun _ hs => ?_
      obtain ⟨x611, hat, hS⟩ := hS
      refine sY x611.val hs (Yl.loadV (vs := x611.cells) true rfl rfl (by kernel_rfl) hat) fun _ hs => ?_
      refine stepAlloc [(.string (mkS [])), (iv 0), (.int .u64 0), (.int .u64 0), (.int .u64 0), (.int .u64 0), (.string (mkS [])), (.slice none 0 0)] hs (by kernel_rfl) (by decide) (fun _ _ b612 hEb612 hs => ?_)
      refine sP (iv x602) hs fun _ hs => ?_
      refine stB 0 x611.cells [⟨b612, 111, x611.cells⟩, ⟨b4, 24, [(.slice ga1 gl2 gc3)]⟩] hs fun _ _ hs => ?_
      refine wpList_nil (Wp.seq (Wp.region (sP (.bool true) hs fun _ hs => ?_)))
      refine wpList_nil (Wp.seq (Wp.seq (Wp.region (sY (.agg #[(.slice ga1 gl2 gc3)]) hs (Yl.lB [(.slice ga1 gl2 gc3)] true 1) fun _ hs => ?_))))
      refine sP (.slice xa6 xl7 xc8) hs fun _ hs => ?_
      refine sP (pt b612 1) hs fun _ hs => ?_
      refine sY x611.Body.val hs (Yl.lB x611.Body.cells true 0) fun _ hs => ?_
      refine stepCallE [(.agg #[(.slice ga1 gl2 gc3)]), (.slice xa6 xl7 xc8), x611.Body.val] hs rfl ⟨_, rfl, rfl⟩ rfl Try.func62 rfl (by kernel_rfl) (by decide) hS (fun _ _ M616 v hle hnew hS hs => ?_)
      have hMM := hMM.next hle hnew
      obtain ⟨xa613, xl614, xc615, hv, hS⟩ := hS
      subst hv
      refine sP (iv ((xl614 : Nat) : Int)) hs fun _ hs => ?_
      refine sP (iv 0) hs fun _ hs => ?_
      refine wpList_nil (Wp.block ?_)
      obtain ⟨I643, mu644, hI0, hst⟩ := hS
      refine Wp.loop (σ := (Bool) × (Int) × (Value)) (fun s a w => match s with | (ok640, x641, rv642) => Sx 120 E [] M616 w a [(1, (pt b4 0)), (5, (.slice xa6 xl7 xc8)), (10, rv642), (11, (iv x602)), (13, (.bool ok640)), (67, (iv ((gl2 : Nat) : Int))), (68, (iv x471)), (71, (.slice ga1 gl2 gc3)), (72, (iv ((gl2 : Nat) : Int))), (73, (iv x602)), (82, (.slice xa613 xl614 xc615)), (83, (iv ((xl614 : Nat) : Int))), (84, (iv x641))] [⟨b612, 111, x611.cells⟩, ⟨b4, 24, [(.slice ga1 gl2 gc3)]⟩] [⟨rv642, 3, 1, rn604, rx605, true⟩] ∧ I643 ok640 x641) (fun s => match s with | (ok640, x641, rv642) => mu644 ok640 x641) (true, 0, rv603) ⟨(hs.wk ⟨rfl, rfl, rfl, rfl, rfl, rfl, rfl, rfl, rfl, rfl, rfl, rfl, rfl, trivial⟩), hI0⟩ (fun s a w hI => ?_)
      obtain ⟨ok640, x641, rv642⟩ := s
      obtain ⟨hs, hI⟩ := hI
      have hS := hst ok640 x641 hI
      clear hst hI0 hI
      refine Wp.seq (Wp.region (sP (.bool (decide (x641 < ((xl614 : Nat) : Int)))) hs fun _ hs => ?_))
      refine wpList_nil (Wp.seq (Wp.cond hs rfl rfl decide_eq_true_iff (fun hc => ?_) (fun hc => ?_)))
      ·have hS := hS.1 hc
       refine Wp.skip (Wp.join (fun a w => ∃ (ok652 : Bool) (rv653 : Value), Sx 120 E [] M616 w a [(1, (pt b4 0)), (5, (.slice xa6 xl7 xc8)), (10, rv653), (11, (iv x602)), (13, (.bool ok652)), (67, (iv ((gl2 : Nat) : Int))), (68, (iv x471)), (71, (.slice ga1 gl2 gc3)), (72, (iv ((gl2 : Nat) : Int))), (73, (iv x602)), (82, (.slice xa613 xl614 xc615)), (83, (iv ((xl614 : Nat) : Int))), (84, (iv x641))] [⟨b612, 111, x611.cells⟩, ⟨b4, 24, [(.slice ga1 gl2 gc3)]⟩] [⟨rv653, 3, 1, rn604, rx605, true⟩] ∧ (S_chaffref_Well_J2 ok640 x641 I643 mu644 ok652 K)) ?_ ?_)
       ·refine Wp.block (Wp.seq (Wp.region ?_))
        obtain ⟨b645, o646, ha, h0, hl, hS⟩ := hS
        refine sY (.pointer (some ⟨b645, o646 + x641.toNat * 1, none⟩)) hs (Yl.indexS (e := 3) (sz := 1) rfl rfl rfl rfl (by kernel_rfl) (by kernel_rfl) ha h0 hl) fun _ hs => ?_
        obtain ⟨x647, hat, hS⟩ := hS
        refine sY (iv x647) hs (Yl.loadV (vs := [(iv x647)]) false rfl rfl (by kernel_rfl) hat) fun _ hs => ?_
        refine sP (iv x647) hs fun _ hs => ?_
        refine wpList_nil (Wp.region (sP (.bool ok640) hs fun _ hs => ?_))
        refine sP (.bool ok640) hs fun _ hs => ?_
        refine bsplit ok640 Iff.rfl (fun hb hc => ?_) (fun hb hc => ?_)
        ·have hs := hs.bt hb
         have hS := hS.1 hc
         refine sYe hs (sP rv642 hs fun _ hs => ?_)
         refine sYe hs (sP (iv x647) hs fun _ hs => ?_)
         refine sYe hs ?_
         obtain ⟨ad649, cap650, hv, hcp, hxl⟩ := hs.rowform 0 rfl
         dsimp only at hv hcp hxl
         subst hv
         have hS := hS _ ad649 cap650 hs.on.hm (hs.peek 0 rfl)
         refine stepCallPr [(.slice ad649 rn604 cap650), (iv x647)] hs rfl ⟨_, rfl, rfl⟩ rfl Try.func63 rfl (by kernel_rfl) (by decide) hS (fun _ _ v hS hs => ?_)
         obtain ⟨x648, hv, hS⟩ := hS
         subst hv
         refine sP (.bool x648) hs fun _ hs => ?_
         refine sP (.bool x648) hs fun _ hs => ?_
         exact wpList_nil (⟨x648, (.slice ad649 rn604 cap650), (hs.wk ⟨rfl, rfl, rfl, rfl, rfl, rfl, rfl, rfl, rfl, rfl, rfl, rfl, rfl, trivial⟩), hS⟩)
        ·have hs := hs.bf hb
         have hS := hS.2 hc
         refine sNo hs fun _ hs => ?_
         refine sNo hs fun _ hs => ?_
         refine sNo hs fun _ hs => ?_
         refine sP (.bool false) hs fun _ hs => ?_
         refine sP (.bool false) hs fun _ hs => ?_
         exact wpList_nil (⟨false, rv642, (hs.wk ⟨rfl, rfl, rfl, rfl, rfl, rfl, rfl, rfl, rfl, rfl, rfl, rfl, rfl, trivial⟩), hS⟩)
       ·intro a w hJ
        obtain ⟨ok652, rv653, hs, hS⟩ := hJ
        unfold S_chaffref_Well_J2 at hS
        refine Wp.region ?_
        obtain ⟨hI, hS⟩ := hS
        refine sY (iv (x641 + 1)) hs (Yl.eq (Yl.pure (v := Value.int .i64 (IntKind.wrap .i64 (x641 + 1))) rfl (fun _ => by kernel_rfl)) (congrArg (Value.int .i64) (wrap_in hI))) fun _ hs => ?_
        refine sP (iv (x641 + 1)) hs fun _ hs => ?_
        exact wpList_nil (⟨(ok652, x641 + 1, rv653), ⟨(hs.wk ⟨rfl, rfl, rfl, rfl, rfl, rfl, rfl, rfl, rfl, rfl, rfl, rfl, rfl, trivial⟩), hS.1⟩, hS.2⟩)
      ·have hS := hS.2 hc
       refine Wp.exit rfl (Wp.join (fun a w => ∃ (x658 : Bool) (rv659 : Value), Sx 120 E [] M616 w a [(1, (pt b4 0)), (5, (.slice xa6 xl7 xc8)), (10, rv659), (11, (iv x602)), (67, (iv ((gl2 : Nat) : Int))), (68, (iv x471)), (71, (.slice ga1 gl2 gc3)), (72, (iv ((gl2 : Nat) : Int))), (73, (iv x602)), (101, (.bool x658))] [⟨b612, 111, x611.cells⟩, ⟨b4, 24, [(.slice ga1 gl2 gc3)]⟩] [⟨rv659, 3, 1, rn604, rx605, true⟩] ∧ (S_chaffref_Well_J3 x602 rn604 rx605 I607 mu608 M616 x658 K)) ?_ ?_)
       ·refine Wp.region (sP (.bool ok640) hs fun _ hs => ?_)
        refine sP (.bool ok640) hs fun _ hs => ?_
        refine bsplit ok640 Iff.rfl (fun hb hc => ?_) (fun hb hc => ?_)
        ·have hs := hs.bt hb
         have hS := hS.1 hc
         refine sYe hs (sP rv642 hs fun _ hs => ?_)
         refine sYe hs (sP (iv x602) hs fun _ hs => ?_)
         refine sYe hs ?_
         obtain ⟨ad655, cap656, hv, hcp, hxl⟩ := hs.rowform 0 rfl
         dsimp only at hv hcp hxl
         subst hv
         have hS := hS _ ad655 cap656 hs.on.hm (hs.peek 0 rfl)
         refine stepCallPr [(.slice ad655 rn604 cap656), (iv x602)] hs rfl ⟨_, rfl, rfl⟩ rfl Try.func63 rfl (by kernel_rfl) (by decide) hS (fun _ _ v hS hs => ?_)
         obtain ⟨x654, hv, hS⟩ := hS
         subst hv
         refine sYe hs (sP (.bool (!x654)) hs fun _ hs => ?_)
         refine sP (.bool (!x654)) hs fun _ hs => ?_
         exact wpList_nil (⟨(!x654), (.slice ad655 rn604 cap656), (hs.wk ⟨rfl, rfl, rfl, rfl, rfl, rfl, rfl, rfl, rfl, rfl, trivial⟩), hS⟩)
        ·have hs := hs.bf hb
         have hS := hS.2 hc
         refine sNo hs fun _ hs => ?_
         refine sNo hs fun _ hs => ?_
         refine sNo hs fun _ hs => ?_
         refine sNo hs fun _ hs => ?_
         refine sP (.bool false) hs fun _ hs => ?_
         exact wpList_nil (⟨false, rv642, (hs.wk ⟨rfl, rfl, rfl, rfl, rfl, rfl, rfl, rfl, rfl, rfl, trivial⟩), hS⟩)
       ·intro a w hJ
        obtain ⟨x658, rv659, hs, hS⟩ := hJ
        unfold S_chaffref_Well_J3 at hS
        refine Wp.cond hs rfl rfl Iff.rfl (fun hc => ?_) (fun hc => ?_)
        ·have hS := hS.1 hc
         refine Wp.region (sP rv659 hs fun _ hs => ?_)
         refine sP (iv x602) hs fun _ hs => ?_
         refine stepMake [(iv x602)] 3 1 1 hs rfl rfl rfl (fun _ => by kernel_rfl) rfl (by unfold maxLen; decide) (by decide) (fun _ _ rv660 hs => ?_)
         obtain ⟨ad661, cap662, hv, hcp, hxl⟩ := hs.rowform 0 rfl
         dsimp only at hv hcp hxl
         subst hv
         obtain ⟨hB, hS⟩ := hS
         refine stepAppend 1 [(iv x602)] hs rfl rfl rfl rfl rfl (by kernel_rfl) (by kernel_rfl) (by decide) (by decide) (hs.srcRow 0 rfl rfl) (lenb hB (by decide)) hB (fun _ _ rv663 hs => ?_)
         replace hs := hs.chrs (rs' := [⟨(Value.slice ad661 1 cap662), 3, 1, 1, [(iv x602)], true⟩, ⟨rv663, 3, 1, (rn604 + 1), (rx605 ++ [(iv x602)]), true⟩]) rfl
         refine sP rv663 hs fun _ hs => ?_
         exact wpList_nil (⟨(rn604 + 1), (rx605 ++ [(iv x602)]), rv663, M616, hMM, (hs.weak (.cons _ (.cons_cons _ List.Sublist.slnil)) (.cons _ (.cons_cons _ List.Sublist.slnil)) ⟨rfl, rfl, rfl, rfl, rfl, rfl, rfl, rfl, trivial⟩), hS⟩)
        ·have hS := hS.2 hc
         exact Wp.skip (⟨rn604, rx605, rv659, M616, hMM, (hs.weak (.cons _ (.cons_cons _ List.Sublist.slnil)) (List.Sublist.refl _) ⟨rfl, rfl, rfl, rfl, rfl, rfl, rfl, rfl, trivial⟩), hS⟩)
     ·intro a w hJ
      obtain ⟨rn665, rx666, rv664, M667, hMM, hs, hS⟩ := hJ
      unfold S_chaffref_Well_J4 at hS
      refine Wp.region ?_
      obtain ⟨hI, hS⟩ := hS
      refine sY (iv (x602 + 1)) hs (Yl.eq (Yl.pure (v := Value.int .i64 (IntKind.wrap .i64 (x602 + 1))) rfl (fun _ => by kernel_rfl)) (congrArg (Value.int .i64) (wrap_in hI))) fun _ hs => ?_
      refine sP (iv (x602 + 1)) hs fun _ hs => ?_
      exact wpList_nil (⟨(x602 + 1, rn665, rx666, rv664, M667), ⟨hMM, (hs.wk ⟨rfl, rfl, rfl, rfl, rfl, rfl, rfl, rfl, trivial⟩), hS.1⟩, hS.2⟩)
    ·have hS := hS.2 hc
     refine Wp.exit rfl (Wp.region ?_)
     obtain ⟨hI, hS⟩ := hS
     refine sY (iv (x471 + 1)) hs (Yl.eq (Yl.pure (v := Value.int .i64 (IntKind.wrap .i64 (x471 + 1))) rfl (fun _ => by kernel_rfl)) (congrArg (Value.int .i64) (wrap_in hI))) fun _ hs => ?_
     refine sP (iv (x471 + 1)) hs fun _ hs => ?_
     exact wpList_nil (⟨(x471 + 1, rn604, rx605, rv603, M606), ⟨hMM, (hs.wk ⟨rfl, rfl, rfl, rfl, rfl, trivial⟩), hS.1⟩, hS.2⟩)
   ·have hS := hS.2 hc
    refine Wp.exit rfl (Wp.seq (Wp.seq (Wp.region (sP (pt b4 0) hs fun _ hs => ?_))))
    refine sY (.slice ga1 gl2 gc3) hs (Yl.lB [(.slice ga1 gl2 gc3)] false 0) fun _ hs => ?_
    refine sP (iv ((gl2 : Nat) : Int)) hs fun _ hs => ?_
    refine sP (iv 0) hs fun _ hs => ?_
    refine wpList_nil (Wp.block ?_)
    obtain ⟨I681, mu682, hI0, hst⟩ := hS
    refine Wp.loop (σ := (Int) × (Value)) (fun s a w => match s with | (x679, rv680) => Sx 120 E [] M475 w a [(10, rv680), (110, (iv ((gl2 : Nat) : Int))), (111, (iv x679))] [⟨b4, 24, [(.slice ga1 gl2 gc3)]⟩] [⟨rv680, 3, 1, rn473, rx474, true⟩] ∧ I681 x679) (fun s => match s with | (x679, rv680) => mu682 x679) (0, rv472) ⟨(hs.wk ⟨rfl, rfl, rfl, trivial⟩), hI0⟩ (fun s a w hI => ?_)
    obtain ⟨x679, rv680⟩ := s
    obtain ⟨hs, hI⟩ := hI
    have hS := hst x679 hI
    clear hst hI0 hI
    refine Wp.seq (Wp.region (sP (.bool (decide (x679 < ((gl2 : Nat) : Int)))) hs fun _ hs => ?_))
    refine wpList_nil (Wp.seq (Wp.cond hs rfl rfl decide_eq_true_iff (fun hc => ?_) (fun hc => ?_)))
    ·have hS := hS.1 hc
     refine Wp.skip (Wp.seq (Wp.block (Wp.seq (Wp.region (sP (iv x679) hs fun _ hs => ?_)))))
     refine sP (iv x679) hs fun _ hs => ?_
     refine wpList_nil (Wp.seq (Wp.region (sP rv680 hs fun _ hs => ?_)))
     refine sP (iv x679) hs fun _ hs => ?_
     obtain ⟨ad684, cap685, hv, hcp, hxl⟩ := hs.rowform 0 rfl
     dsimp only at hv hcp hxl
     subst hv
     have hS := hS _ ad684 cap685 hs.on.hm (hs.peek 0 rfl)
     refine stepCallPr [(.slice ad684 rn473 cap685), (iv x679)] hs rfl ⟨_, rfl, rfl⟩ rfl Try.func63 rfl (by kernel_rfl) (by decide) hS (fun _ _ v hS hs => ?_)
     obtain ⟨x683, hv, hS⟩ := hS
     subst hv
     refine sP (.bool (!x683)) hs fun _ hs => ?_
     refine wpList_nil (Wp.cond hs rfl rfl (bnot_iff Iff.rfl) (fun hc => ?_) (fun hc => ?_))
     ·have hS := hS.1 hc
      refine Wp.seq (Wp.region (sP (iv x679) hs fun _ hs => ?_))
      refine sP (iv x679) hs fun _ hs => ?_
      refine sP (iv 8) hs fun _ hs => ?_
      exact wpList_nil (Wp.ret (lvE K hs (resTT hs rfl rfl rfl) hMM.2 hS))
     ·have hS := hS.2 hc
      refine Wp.skip (Wp.region ?_)
      obtain ⟨hI, hS⟩ := hS
      refine sY (iv (x679 + 1)) hs (Yl.eq (Yl.pure (v := Value.int .i64 (IntKind.wrap .i64 (x679 + 1))) rfl (fun _ => by kernel_rfl)) (congrArg (Value.int .i64) (wrap_in hI))) fun _ hs => ?_
      refine sP (iv (x679 + 1)) hs fun _ hs => ?_
      exact wpList_nil (⟨(x679 + 1, (.slice ad684 rn473 cap685)), ⟨(hs.wk ⟨rfl, rfl, rfl, trivial⟩), hS.1⟩, hS.2⟩)
    ·have hS := hS.2 hc
     refine Wp.exit rfl (Wp.seq (Wp.region (sP (iv 0) hs fun _ hs => ?_)))
     refine sP (iv 0) hs fun _ hs => ?_
     exact wpList_nil (Wp.ret (lvE K hs (resTT hs rfl rfl rfl) hMM.2 hS))

end Go.Proofs.Ytifkffmecfgpeaa.core
