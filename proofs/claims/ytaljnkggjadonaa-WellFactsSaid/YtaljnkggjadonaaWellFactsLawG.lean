/- What the code computes, function for function, as shallow propositions; printed by program. -/
import Derived.Test.YtaljnkggjadonaaWellG
namespace Go.Proofs.Ytaljnkggjadonaa.core
open Go.Gx Go.RowKit Go.ChangeShapes Go.WideShapes Go.ChangeAt
set_option linter.unusedVariables false in
def S_chafflaw_WellFacts_J1 (xa5 : Option Addr) (xl6 : Nat) (xa11 : Option Addr) (xl12 : Nat) (M14 : Mem) (x15 : Bool) (K : Value → Prop) : Prop :=
  ((x15 = true → K (Value.bool false)) ∧ (¬ (x15 = true) → (∃ (I31 : Int → Prop) (mu32 : Int → Nat), I31 0 ∧ ∀ (x30 : Int), (I31 x30 → ((x30 < ((xl6 : Nat) : Int) → (∃ (b33 o34 : Nat), xa5 = some ⟨b33, o34, none⟩ ∧ (0 : Int) ≤ x30 ∧ x30 < ((xl6 : Nat) : Int) ∧ (∃ (x35 : X_api_Facts), At M14 b33 (o34 + x30.toNat * 3) x35.cells ∧ (∃ (b37 o38 : Nat), xa11 = some ⟨b37, o38, none⟩ ∧ (0 : Int) ≤ x30 ∧ x30 < ((xl12 : Nat) : Int) ∧ (∃ (x39 : Int), At M14 b37 (o38 + x30.toNat * 1) [(Value.int .i64 x39)] ∧ (∃ (b40 o41 : Nat), xa11 = some ⟨b40, o41, none⟩ ∧ (0 : Int) ≤ x30 ∧ x30 < ((xl12 : Nat) : Int) ∧ (∃ (x42 : Int), At M14 b40 (o41 + x30.toNat * 1) [(Value.int .i64 x42)] ∧ (∃ (b43 o44 : Nat), xa11 = some ⟨b43, o44, none⟩ ∧ (0 : Int) ≤ x30 ∧ x30 < ((xl12 : Nat) : Int) ∧ (∃ (x45 : Int), At M14 b43 (o44 + x30.toNat * 1) [(Value.int .i64 x45)] ∧ ((¬ ((x35.Empty = (decide (bAnd .i64 x39 1 > 0))) ∧ ((x35.Eats = (decide (bAnd .i64 x42 2 > 0))) ∧ (x35.Fails = (decide (bAnd .i64 x45 4 > 0))))) → K (Value.bool false)) ∧ (¬ (¬ ((x35.Empty = (decide (bAnd .i64 x39 1 > 0))) ∧ ((x35.Eats = (decide (bAnd .i64 x42 2 > 0))) ∧ (x35.Fails = (decide (bAnd .i64 x45 4 > 0)))))) → (InI (x30 + 1) ∧ I31 (x30 + 1) ∧ mu32 (x30 + 1) < mu32 x30)))))))))))) ∧ (¬ (x30 < ((xl6 : Nat) : Int)) → K (Value.bool true)))))))
set_option linter.unusedVariables false in
def S_chafflaw_WellFacts (ga1 : Option Addr) (gl2 : Nat) (gc3 : Nat) (M : Mem) (K : Value → Prop) : Prop :=
  (CallE Try.prog 24 #[(Value.agg #[(Value.slice ga1 gl2 gc3)])] M (fun v M9 => ∃ (xa5 : Option Addr) (xl6 : Nat) (xc7 : Nat) (x8 : Int), v = (Value.tuple #[(Value.slice xa5 xl6 xc7), (Value.int .i64 x8)]) ∧ (CallE Try.prog 17 #[(Value.agg #[(Value.slice ga1 gl2 gc3)])] M9 (fun v _ => ∃ (x10 : Int), v = (Value.int .i64 x10) ∧ (((x10 : Int) ≠ 0 → (((x8 : Int) = x10 → K (Value.bool (((xl6 : Nat) : Int) == (0 : Int)))) ∧ (¬ ((x8 : Int) = x10) → K (Value.bool false)))) ∧ (¬ ((x10 : Int) ≠ 0) → (CallE Try.prog 25 #[(Value.agg #[(Value.slice ga1 gl2 gc3)])] M9 (fun v M14 => ∃ (xa11 : Option Addr) (xl12 : Nat) (xc13 : Nat), v = (Value.slice xa11 xl12 xc13) ∧ (((x8 : Int) ≠ 0 → (S_chafflaw_WellFacts_J1 xa5 xl6 xa11 xl12 M14 true K)) ∧ (¬ ((x8 : Int) ≠ 0) → (S_chafflaw_WellFacts_J1 xa5 xl6 xa11 xl12 M14 (((xl6 : Nat) : Int) != ((xl12 : Nat) : Int)) K)))))))))))
set_option linter.unusedVariables false in
set_option maxRecDepth 100000 in
theorem s_chafflaw_WellFacts (ga1 : Option Addr) (gl2 : Nat) (gc3 : Nat) (M : Mem) (K : Value → Prop) (hS : S_chafflaw_WellFacts ga1 gl2 gc3 M K) : CallE Try.prog 5 #[(Value.agg #[(Value.slice ga1 gl2 gc3)])] M (fun v _ => K v) := by
  refine enterE Try.func5 rfl 66 rfl (Nat.le_of_ble_eq_true rfl) (fun E a hs => ?_)
  unfold S_chafflaw_WellFacts at hS
  have hMM := MX.refl M E
  change Sx 66 E [] M E a [(0, (Value.agg #[(Value.slice ga1 gl2 gc3)]))] [] [] at hs
  refine Wp.seq (Wp.region (stepBox [(Value.slice ga1 gl2 gc3)] hs rfl rfl rfl (by decide) (fun _ _ b4 hEb4 hs => ?_)))
  refine sP (Value.bool false) hs fun _ hs => ?_
  refine wpList_nil (Wp.seq (Wp.region (sY (Value.agg #[(Value.slice ga1 gl2 gc3)]) hs (Yl.loadB (vs := [(Value.slice ga1 gl2 gc3)]) true 0 rfl rfl rfl (by kernel_rfl) rfl) fun _ hs => ?_)))
  refine stepCallE [(Value.agg #[(Value.slice ga1 gl2 gc3)])] hs rfl ⟨_, rfl, rfl⟩ rfl Try.func24 rfl (by kernel_rfl) (by decide) hS (fun _ _ M9 v hle hnew hS hs => ?_)
  have hMM := hMM.next hle hnew
  obtain ⟨xa5, xl6, xc7, x8, hv, hS⟩ := hS
  subst hv
  refine sP (Value.tuple #[(Value.slice xa5 xl6 xc7), (Value.int .i64 x8)]) hs fun _ hs => ?_
  refine sP (Value.slice xa5 xl6 xc7) hs fun _ hs => ?_
  refine sP (Value.int .i64 x8) hs fun _ hs => ?_
  refine sP (Value.slice xa5 xl6 xc7) hs fun _ hs => ?_
  refine sP (Value.int .i64 x8) hs fun _ hs => ?_
  refine wpList_nil (Wp.seq (Wp.seq (Wp.region (sY (Value.agg #[(Value.slice ga1 gl2 gc3)]) hs (Yl.loadB (vs := [(Value.slice ga1 gl2 gc3)]) true 0 rfl rfl rfl (by kernel_rfl) rfl) fun _ hs => ?_))))
  refine stepCallP [(Value.agg #[(Value.slice ga1 gl2 gc3)])] hs rfl ⟨_, rfl, rfl⟩ rfl Try.func17 rfl (by kernel_rfl) (by decide) hS (fun _ _ v hS hs => ?_)
  obtain ⟨x10, hv, hS⟩ := hS
  subst hv
  refine sP (Value.int .i64 x10) hs fun _ hs => ?_
  refine wpList_nil (Wp.seq (Wp.region (sP (Value.int .i64 x10) hs fun _ hs => ?_)))
  refine sP (Value.bool ((x10 : Int) != (0 : Int))) hs fun _ hs => ?_
  refine wpList_nil (Wp.cond hs rfl rfl bne_iff_ne (fun hc => ?_) (fun hc => ?_))
  · have hS := hS.1 hc
    refine Wp.seq (Wp.region (sP (Value.int .i64 x8) hs fun _ hs => ?_))
    refine sP (Value.int .i64 x10) hs fun _ hs => ?_
    refine sP (Value.bool ((x8 : Int) == (x10 : Int))) hs fun _ hs => ?_
    refine sP (Value.bool ((x8 : Int) == (x10 : Int))) hs fun _ hs => ?_
    refine bsplit ((x8 : Int) == (x10 : Int)) beq_iff_eq (fun hb hc => ?_) (fun hb hc => ?_)
    · have hs := hs.bt hb
      have hS := hS.1 hc
      refine sYe hs (sP (Value.slice xa5 xl6 xc7) hs fun _ hs => ?_)
      refine sYe hs (sP (Value.int .i64 ((xl6 : Nat) : Int)) hs fun _ hs => ?_)
      refine sYe hs (sP (Value.bool (((xl6 : Nat) : Int) == (0 : Int))) hs fun _ hs => ?_)
      refine sP (Value.bool (((xl6 : Nat) : Int) == (0 : Int))) hs fun _ hs => ?_
      refine sP (Value.bool (((xl6 : Nat) : Int) == (0 : Int))) hs fun _ hs => ?_
      exact wpList_nil (Wp.ret (leaveE (K := fun v _ => K v) hs (resT hs rfl rfl) hMM.2 (fun _ _ => hS)))
    · have hs := hs.bf hb
      have hS := hS.2 hc
      refine sNo hs fun _ hs => ?_
      refine sNo hs fun _ hs => ?_
      refine sNo hs fun _ hs => ?_
      refine sP (Value.bool false) hs fun _ hs => ?_
      refine sP (Value.bool false) hs fun _ hs => ?_
      exact wpList_nil (Wp.ret (leaveE (K := fun v _ => K v) hs (resT hs rfl rfl) hMM.2 (fun _ _ => hS)))
  · have hS := hS.2 hc
    refine Wp.skip (Wp.seq (Wp.region (sY (Value.agg #[(Value.slice ga1 gl2 gc3)]) hs (Yl.loadB (vs := [(Value.slice ga1 gl2 gc3)]) true 0 rfl rfl rfl (by kernel_rfl) rfl) fun _ hs => ?_)))
    refine stepCallE [(Value.agg #[(Value.slice ga1 gl2 gc3)])] hs rfl ⟨_, rfl, rfl⟩ rfl Try.func25 rfl (by kernel_rfl) (by decide) hS (fun _ _ M14 v hle hnew hS hs => ?_)
    have hMM := hMM.next hle hnew
    obtain ⟨xa11, xl12, xc13, hv, hS⟩ := hS
    subst hv
    refine sP (Value.slice xa11 xl12 xc13) hs fun _ hs => ?_
    refine wpList_nil (Wp.seq (Wp.join (fun a w => ∃ (x15 : Bool), Sx 66 E [] M14 w a [(3, (Value.slice xa5 xl6 xc7)), (6, (Value.slice xa11 xl12 xc13)), (36, (Value.bool x15))] [⟨b4, 24, [(Value.slice ga1 gl2 gc3)]⟩] [] ∧ (S_chafflaw_WellFacts_J1 xa5 xl6 xa11 xl12 M14 x15 K)) ?_ ?_))
    · refine Wp.region (sP (Value.int .i64 x8) hs fun _ hs => ?_)
      refine sP (Value.bool ((x8 : Int) != (0 : Int))) hs fun _ hs => ?_
      refine sP (Value.bool ((x8 : Int) != (0 : Int))) hs fun _ hs => ?_
      refine bsplit ((x8 : Int) != (0 : Int)) bne_iff_ne (fun hb hc => ?_) (fun hb hc => ?_)
      · have hs := hs.bt hb
        have hS := hS.1 hc
        refine sNo hs fun _ hs => ?_
        refine sNo hs fun _ hs => ?_
        refine sNo hs fun _ hs => ?_
        refine sNo hs fun _ hs => ?_
        refine sNo hs fun _ hs => ?_
        refine sP (Value.bool true) hs fun _ hs => ?_
        exact wpList_nil (⟨true, (hs.weak (List.Sublist.refl _) (List.Sublist.refl _) ⟨rfl, rfl, rfl, trivial⟩), hS⟩)
      · have hs := hs.bf hb
        have hS := hS.2 hc
        refine sYe hs (sP (Value.slice xa5 xl6 xc7) hs fun _ hs => ?_)
        refine sYe hs (sP (Value.int .i64 ((xl6 : Nat) : Int)) hs fun _ hs => ?_)
        refine sYe hs (sP (Value.slice xa11 xl12 xc13) hs fun _ hs => ?_)
        refine sYe hs (sP (Value.int .i64 ((xl12 : Nat) : Int)) hs fun _ hs => ?_)
        refine sYe hs (sP (Value.bool (((xl6 : Nat) : Int) != ((xl12 : Nat) : Int))) hs fun _ hs => ?_)
        refine sP (Value.bool (((xl6 : Nat) : Int) != ((xl12 : Nat) : Int))) hs fun _ hs => ?_
        exact wpList_nil (⟨(((xl6 : Nat) : Int) != ((xl12 : Nat) : Int)), (hs.weak (List.Sublist.refl _) (List.Sublist.refl _) ⟨rfl, rfl, rfl, trivial⟩), hS⟩)
    · intro a w hJ
      obtain ⟨x15, hs, hS⟩ := hJ
      unfold S_chafflaw_WellFacts_J1 at hS
      refine Wp.cond hs rfl rfl Iff.rfl (fun hc => ?_) (fun hc => ?_)
      · have hS := hS.1 hc
        refine Wp.seq (Wp.region (sP (Value.bool false) hs fun _ hs => ?_))
        exact wpList_nil (Wp.ret (leaveE (K := fun v _ => K v) hs (resT hs rfl rfl) hMM.2 (fun _ _ => hS)))
      · have hS := hS.2 hc
        refine Wp.skip (Wp.seq (Wp.seq (Wp.region (sP (Value.slice xa5 xl6 xc7) hs fun _ hs => ?_))))
        refine sP (Value.int .i64 ((xl6 : Nat) : Int)) hs fun _ hs => ?_
        refine sP (Value.int .i64 0) hs fun _ hs => ?_
        refine wpList_nil (Wp.block ?_)
        obtain ⟨I31, mu32, hI0, hst⟩ := hS
        refine Wp.loop (σ := (Int)) (fun s a w => match s with | (x30) => Sx 66 E [] M14 w a [(6, (Value.slice xa11 xl12 xc13)), (37, (Value.slice xa5 xl6 xc7)), (38, (Value.int .i64 ((xl6 : Nat) : Int))), (39, (Value.int .i64 x30))] [⟨b4, 24, [(Value.slice ga1 gl2 gc3)]⟩] [] ∧ I31 x30) (fun s => match s with | (x30) => mu32 x30) (0) ⟨(hs.weak (List.Sublist.refl _) (List.Sublist.refl _) ⟨rfl, rfl, rfl, rfl, trivial⟩), hI0⟩ (fun x30 a w hI => ?_)
        obtain ⟨hs, hI⟩ := hI
        have hS := hst x30 hI
        clear hst hI0 hI
        refine Wp.seq (Wp.region (sP (Value.bool (decide (x30 < ((xl6 : Nat) : Int)))) hs fun _ hs => ?_))
        refine wpList_nil (Wp.seq (Wp.cond hs rfl rfl decide_eq_true_iff (fun hc => ?_) (fun hc => ?_)))
        · have hS := hS.1 hc
          refine Wp.skip (Wp.seq (Wp.block (Wp.seq (Wp.region (sP (Value.int .i64 x30) hs fun _ hs => ?_)))))
          obtain ⟨b33, o34, ha, h0, hl, hS⟩ := hS
          refine sY (Value.pointer (some ⟨b33, o34 + x30.toNat * 3, none⟩)) hs (Yl.indexS (e := 46) (sz := 3) rfl rfl rfl rfl (by kernel_rfl) (by kernel_rfl) ha h0 hl) fun _ hs => ?_
          obtain ⟨x35, hat, hS⟩ := hS
          refine sY x35.val hs (Yl.loadV (vs := x35.cells) true rfl rfl (by kernel_rfl) hat) fun _ hs => ?_
          refine stepAlloc [(Value.bool false), (Value.bool false), (Value.bool false)] hs (by kernel_rfl) (by decide) (fun _ _ b36 hEb36 hs => ?_)
          refine sP (Value.int .i64 x30) hs fun _ hs => ?_
          refine stepStoreB 0 (vs := [(Value.bool x35.Empty), (Value.bool x35.Eats), (Value.bool x35.Fails)]) hs rfl rfl rfl rfl rfl rfl (by kernel_rfl) (Nat.le_of_ble_eq_true rfl) rfl (fun _ _ hs => ?_)
          replace hs := hs.chbx (bs' := [⟨b36, 46, [(Value.bool x35.Empty), (Value.bool x35.Eats), (Value.bool x35.Fails)]⟩, ⟨b4, 24, [(Value.slice ga1 gl2 gc3)]⟩]) rfl
          refine wpList_nil (Wp.seq (Wp.regionD [true, true, true, true, true, true, true, true, true, true, true, true, true, true, true, true, true, true, true, true, true] hs (by kernel_rfl) rfl [⟨b36, 46, [(Value.bool x35.Empty), (Value.bool x35.Eats), (Value.bool x35.Fails)]⟩, ⟨b4, 24, [(Value.slice ga1 gl2 gc3)]⟩] (fun _ h => h) [] (fun _ h => h) (fun _ hs hC => ?_)))
          have hL := Mem.le.refl M14
          refine stepDY (v := x35.val) 0 [20] hs hC QZ.no rfl (wanted_none rfl) rfl (by decide) (by kernel_rfl) (by kernel_rfl) (by kernel_rfl) (Yl.loadB (vs := x35.cells) true 0 rfl rfl rfl (by kernel_rfl) rfl) (fun _ hs => ?_)
          refine dP (Value.slice xa11 xl12 xc13) 1 [3, 4, 5, 6, 19, 20] hs QZ.no (wanted_none rfl) fun _ hs => ?_
          refine dP (Value.int .i64 x30) 2 [3, 4, 5, 6, 19, 20] hs QZ.no (wanted_none rfl) fun _ hs => ?_
          obtain ⟨b37, o38, ha, h0, hl, hS⟩ := hS
          refine stepDP (v := (Value.pointer (some ⟨b37, o38 + x30.toNat * 1, none⟩))) 3 [4, 5, 6, 19, 20] hs QZ.no rfl (wanted_none rfl) rfl (by decide) (by kernel_rfl) (by kernel_rfl) (by kernel_rfl) (Yl.indexS (e := 3) (sz := 1) rfl rfl rfl rfl (by kernel_rfl) (by kernel_rfl) ha h0 hl) (fun _ hs => ?_)
          obtain ⟨x39, hat, hS⟩ := hS
          refine stepDY (v := (Value.int .i64 x39)) 4 [5, 6, 19, 20] hs hC QZ.no rfl (wanted_none rfl) rfl (by decide) (by kernel_rfl) (by kernel_rfl) (by kernel_rfl) (Yl.loadV (vs := [(Value.int .i64 x39)]) false rfl rfl (by kernel_rfl) hat) (fun _ hs => ?_)
          refine dP (Value.int .i64 (bAnd .i64 x39 1)) 5 [6, 19, 20] hs QZ.no (wanted_none rfl) fun _ hs => ?_
          refine dP (Value.bool (decide (bAnd .i64 x39 1 > 0))) 6 [19, 20] hs QZ.no (wanted_none rfl) fun _ hs => ?_
          refine dP (Value.slice xa11 xl12 xc13) 7 [9, 10, 11, 12, 19, 20] hs QZ.no (wanted_none rfl) fun _ hs => ?_
          refine dP (Value.int .i64 x30) 8 [9, 10, 11, 12, 19, 20] hs QZ.no (wanted_none rfl) fun _ hs => ?_
          obtain ⟨b40, o41, ha, h0, hl, hS⟩ := hS
          refine stepDP (v := (Value.pointer (some ⟨b40, o41 + x30.toNat * 1, none⟩))) 9 [10, 11, 12, 19, 20] hs QZ.no rfl (wanted_none rfl) rfl (by decide) (by kernel_rfl) (by kernel_rfl) (by kernel_rfl) (Yl.indexS (e := 3) (sz := 1) rfl rfl rfl rfl (by kernel_rfl) (by kernel_rfl) ha h0 hl) (fun _ hs => ?_)
          obtain ⟨x42, hat, hS⟩ := hS
          refine stepDY (v := (Value.int .i64 x42)) 10 [11, 12, 19, 20] hs hC QZ.no rfl (wanted_none rfl) rfl (by decide) (by kernel_rfl) (by kernel_rfl) (by kernel_rfl) (Yl.loadV (vs := [(Value.int .i64 x42)]) false rfl rfl (by kernel_rfl) hat) (fun _ hs => ?_)
          refine dP (Value.int .i64 (bAnd .i64 x42 2)) 11 [12, 19, 20] hs QZ.no (wanted_none rfl) fun _ hs => ?_
          refine dP (Value.bool (decide (bAnd .i64 x42 2 > 0))) 12 [19, 20] hs QZ.no (wanted_none rfl) fun _ hs => ?_
          refine dP (Value.slice xa11 xl12 xc13) 13 [15, 16, 17, 18, 19, 20] hs QZ.no (wanted_none rfl) fun _ hs => ?_
          refine stepDE 14 rfl (wanted_none rfl) (by kernel_rfl) #[] ?_
          refine sP (Value.int .i64 x30) hs fun _ hs => ?_
          refine wpList_nil (⟨fun _ h => h, ?_⟩)
          refine stepDE 15 rfl (wanted_none rfl) (by kernel_rfl) #[] ?_
          obtain ⟨b43, o44, ha, h0, hl, hS⟩ := hS
          refine sY (Value.pointer (some ⟨b43, o44 + x30.toNat * 1, none⟩)) hs (Yl.indexS (e := 3) (sz := 1) rfl rfl rfl rfl (by kernel_rfl) (by kernel_rfl) ha h0 hl) fun _ hs => ?_
          refine wpList_nil (⟨fun _ h => h, ?_⟩)
          refine stepDE 16 rfl (wanted_none rfl) (by kernel_rfl) #[] ?_
          obtain ⟨x45, hat, hS⟩ := hS
          refine sY (Value.int .i64 x45) hs (Yl.loadV (vs := [(Value.int .i64 x45)]) false rfl rfl (by kernel_rfl) hat) fun _ hs => ?_
          refine wpList_nil (⟨fun _ h => h, ?_⟩)
          refine stepDE 17 rfl (wanted_none rfl) (by kernel_rfl) #[] ?_
          refine sP (Value.int .i64 (bAnd .i64 x45 4)) hs fun _ hs => ?_
          refine wpList_nil (⟨fun _ h => h, ?_⟩)
          refine stepDE 18 rfl (wanted_none rfl) (by kernel_rfl) #[] ?_
          refine sP (Value.bool (decide (bAnd .i64 x45 4 > 0))) hs fun _ hs => ?_
          refine wpList_nil (⟨fun _ h => h, ?_⟩)
          refine stepDE 19 rfl (wanted_none rfl) (by kernel_rfl) #[] ?_
          refine sP (X_api_Facts.mk (decide (bAnd .i64 x39 1 > 0)) (decide (bAnd .i64 x42 2 > 0)) (decide (bAnd .i64 x45 4 > 0))).val hs fun _ hs => ?_
          refine wpList_nil (⟨fun _ h => h, ?_⟩)
          refine stepDE 20 rfl (wanted_none rfl) (by kernel_rfl) #[] ?_
          refine sY (Value.bool (!((x35.Empty == (decide (bAnd .i64 x39 1 > 0))) && ((x35.Eats == (decide (bAnd .i64 x42 2 > 0))) && (x35.Fails == (decide (bAnd .i64 x45 4 > 0))))))) hs (Yl.neqC (b := ((x35.Empty == (decide (bAnd .i64 x39 1 > 0))) && ((x35.Eats == (decide (bAnd .i64 x42 2 > 0))) && (x35.Fails == (decide (bAnd .i64 x45 4 > 0)))))) [(Value.bool x35.Empty), (Value.bool x35.Eats), (Value.bool x35.Fails)] [(Value.bool (decide (bAnd .i64 x39 1 > 0))), (Value.bool (decide (bAnd .i64 x42 2 > 0))), (Value.bool (decide (bAnd .i64 x45 4 > 0)))] rfl (by kernel_rfl) (by kernel_rfl) rfl rfl (by kernel_rfl)) fun _ hs => ?_
          refine wpList_nil (⟨fun _ h => h, ?_⟩)
          refine WpD.done (by kernel_rfl) ?_ _
          refine Wp.cond hs rfl rfl (bnot_iff (band_iff beq_iff_eq (band_iff beq_iff_eq beq_iff_eq))) (fun hc => ?_) (fun hc => ?_)
          · have hS := hS.1 hc
            refine Wp.seq (Wp.region (sP (Value.bool false) hs fun _ hs => ?_))
            exact wpList_nil (Wp.ret (leaveE (K := fun v _ => K v) hs (resT hs rfl rfl) hMM.2 (fun _ _ => hS)))
          · have hS := hS.2 hc
            refine Wp.skip (Wp.region ?_)
            obtain ⟨hI, hS⟩ := hS
            refine sY (Value.int .i64 (x30 + 1)) hs (Yl.eq (Yl.pure (v := Value.int .i64 (IntKind.wrap .i64 (x30 + 1))) rfl (fun _ => by kernel_rfl)) (congrArg (Value.int .i64) (wrap_in hI))) fun _ hs => ?_
            refine sP (Value.int .i64 (x30 + 1)) hs fun _ hs => ?_
            exact wpList_nil (⟨(x30 + 1), ⟨(hs.weak (.cons _ (.cons_cons _ List.Sublist.slnil)) (List.Sublist.refl _) ⟨rfl, rfl, rfl, rfl, trivial⟩), hS.1⟩, hS.2⟩)
        · have hS := hS.2 hc
          refine Wp.exit rfl (Wp.seq (Wp.region (sP (Value.bool true) hs fun _ hs => ?_)))
          exact wpList_nil (Wp.ret (leaveE (K := fun v _ => K v) hs (resT hs rfl rfl) hMM.2 (fun _ _ => hS)))

end Go.Proofs.Ytaljnkggjadonaa.core
