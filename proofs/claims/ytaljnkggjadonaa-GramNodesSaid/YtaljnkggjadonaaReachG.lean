/- What the code computes, function for function, as shallow propositions; printed by program. -/
import Derived.Test.YtaljnkggjadonaaWellG
namespace Go.Proofs.Ytaljnkggjadonaa.core
open Go.Gx Go.RowKit Go.ChangeShapes Go.WideShapes Go.ChangeAt
set_option linter.unusedVariables false in
def S_gram_Reach_1_J1 (x51 : Int) (G55 : Type) (gh56 : G55) (I53 : G55 → Int → Mem → Prop) (mu54 : G55 → Int → Nat) (M67 : Mem) (K : Value → Mem → Prop) : Prop :=
  (InI (x51 + 1) ∧ ∃ (gh : G55), I53 gh (x51 + 1) M67 ∧ mu54 gh (x51 + 1) < mu54 gh56 x51)
set_option linter.unusedVariables false in
def S_gram_Reach_1 (i1 : Int) (b2 : Nat) (b3 : Nat) (b4 : Nat) (M : Mem) (L : Nat → Prop) (K : Value → Mem → Prop) : Prop :=
  (∃ (xa5 : Option Addr) (xl6 : Nat) (xc7 : Nat), At M b2 0 [(Value.slice xa5 xl6 xc7)] ∧ (∃ (b8 o9 : Nat), xa5 = some ⟨b8, o9, none⟩ ∧ (0 : Int) ≤ i1 ∧ i1 < ((xl6 : Nat) : Int) ∧ (∃ (x10 : Bool), At M b8 (o9 + i1.toNat * 1) [(Value.bool x10)] ∧ ((x10 = true → (∀ M', M.le M' → K (Value.tuple #[]) M')) ∧ (¬ (x10 = true) → (∃ (xa11 : Option Addr) (xl12 : Nat) (xc13 : Nat), At M b2 0 [(Value.slice xa11 xl12 xc13)] ∧ (∃ (b14 o15 : Nat), xa11 = some ⟨b14, o15, none⟩ ∧ (0 : Int) ≤ i1 ∧ i1 < ((xl12 : Nat) : Int) ∧ (Has M b14 (o15 + i1.toNat * 1) 1 ∧ Wr L M b14 ∧ ∀ (M16 : Mem), M16 = M.put b14 (o15 + i1.toNat * 1) [(Value.bool true)] → (∃ (xa17 : Option Addr) (xl18 : Nat) (xc19 : Nat), At M16 b3 0 [(Value.slice xa17 xl18 xc19)] ∧ (∃ (b20 o21 : Nat), xa17 = some ⟨b20, o21, none⟩ ∧ (0 : Int) ≤ i1 ∧ i1 < ((xl18 : Nat) : Int) ∧ (∃ (x22 : X_api_Expr), At M16 b20 (o21 + i1.toNat * 8 + 1) x22.cells ∧ (CallE Try.prog 52 #[x22.val] M16 (fun v M27 => ∃ (xa23 : Option Addr) (xl24 : Nat) (xc25 : Nat) (x26 : Int), v = (Value.tuple #[(Value.slice xa23 xl24 xc25), (Value.int .i64 x26)]) ∧ (∃ (G55 : Type) (I53 : G55 → Int → Mem → Prop) (mu54 : G55 → Int → Nat) (gz57 : G55), I53 gz57 0 M27 ∧ ∀ (gh56 : G55) (x51 : Int) (M52 : Mem), (I53 gh56 x51 M52 → ((x51 < ((xl24 : Nat) : Int) → (∃ (b58 o59 : Nat), xa23 = some ⟨b58, o59, none⟩ ∧ (0 : Int) ≤ x51 ∧ x51 < ((xl24 : Nat) : Int) ∧ (∃ (x60 : List UInt8), At M52 b58 (o59 + x51.toNat * 1) [(Value.string (mkS x60))] ∧ (∃ (x61 : Value), At M52 b4 0 [x61] ∧ (∃ (xa62 : Option Addr) (xl63 : Nat) (xc64 : Nat), At M52 b3 0 [(Value.slice xa62 xl63 xc64)] ∧ (CallE Try.prog 53 #[(Value.agg #[(Value.slice xa62 xl63 xc64)]), (Value.string (mkS x60))] M52 (fun v _ => ∃ (x65 : Int), v = (Value.int .i64 x65) ∧ (CallFW Try.prog x61 [(Value.int .i64 x65)] M52 (Wr L M) (fun v M66 => v = (Value.tuple #[]) ∧ (S_gram_Reach_1_J1 x51 G55 gh56 I53 mu54 M66 K)))))))))) ∧ (¬ (x51 < ((xl24 : Nat) : Int)) → (∀ M', M52.le M' → K (Value.tuple #[]) M'))))))))))))))))))
set_option linter.unusedVariables false in
set_option maxRecDepth 100000 in
theorem s_gram_Reach_1 (i1 : Int) (b2 : Nat) (b3 : Nat) (b4 : Nat) (M : Mem) (L : Nat → Prop) (K : Value → Mem → Prop) (hS : S_gram_Reach_1 i1 b2 b3 b4 M L K) : CallW Try.prog 51 #[(Value.int .i64 i1), (Value.pointer (some ⟨b2, 0, none⟩)), (Value.pointer (some ⟨b3, 0, none⟩)), (Value.pointer (some ⟨b4, 0, none⟩))] M L K := by
  refine enterW Try.func51 rfl 38 rfl (Nat.le_of_ble_eq_true rfl) (fun E a hs => ?_)
  unfold S_gram_Reach_1 at hS
  have hMM := WX.refl M E
  change Sx 38 E (bwW E M L) M E a [(0, (Value.int .i64 i1)), (1, (Value.pointer (some ⟨b2, 0, none⟩))), (2, (Value.pointer (some ⟨b3, 0, none⟩))), (3, (Value.pointer (some ⟨b4, 0, none⟩)))] [] [] at hs
  refine Wp.seq (Wp.seq (Wp.region ?_))
  obtain ⟨xa5, xl6, xc7, hat, hS⟩ := hS
  refine sY (Value.slice xa5 xl6 xc7) hs (Yl.loadV (vs := [(Value.slice xa5 xl6 xc7)]) false rfl rfl (by kernel_rfl) hat) fun _ hs => ?_
  refine sP (Value.int .i64 i1) hs fun _ hs => ?_
  obtain ⟨b8, o9, ha, h0, hl, hS⟩ := hS
  refine sY (Value.pointer (some ⟨b8, o9 + i1.toNat * 1, none⟩)) hs (Yl.indexS (e := 4) (sz := 1) rfl rfl rfl rfl (by kernel_rfl) (by kernel_rfl) ha h0 hl) fun _ hs => ?_
  obtain ⟨x10, hat, hS⟩ := hS
  refine sY (Value.bool x10) hs (Yl.loadV (vs := [(Value.bool x10)]) false rfl rfl (by kernel_rfl) hat) fun _ hs => ?_
  refine wpList_nil (Wp.cond hs rfl rfl Iff.rfl (fun hc => ?_) (fun hc => ?_))
  · have hS := hS.1 hc
    exact Wp.ret (leaveW (K := K) hs (res hs rfl) hMM hS)
  · have hS := hS.2 hc
    refine Wp.skip (Wp.seq (Wp.region ?_))
    obtain ⟨xa11, xl12, xc13, hat, hS⟩ := hS
    refine sY (Value.slice xa11 xl12 xc13) hs (Yl.loadV (vs := [(Value.slice xa11 xl12 xc13)]) false rfl rfl (by kernel_rfl) hat) fun _ hs => ?_
    refine sP (Value.int .i64 i1) hs fun _ hs => ?_
    obtain ⟨b14, o15, ha, h0, hl, hS⟩ := hS
    refine sY (Value.pointer (some ⟨b14, o15 + i1.toNat * 1, none⟩)) hs (Yl.indexS (e := 4) (sz := 1) rfl rfl rfl rfl (by kernel_rfl) (by kernel_rfl) ha h0 hl) fun _ hs => ?_
    obtain ⟨hhas, hwr, hS⟩ := hS
    refine stepStoreW (vs := [(Value.bool true)]) hs hMM rfl rfl rfl rfl rfl (by kernel_rfl) rfl hhas hwr (fun _ _ M16 hM2 hMM hs => ?_)
    have hS := hS M16 hM2
    refine wpList_nil (Wp.seq (Wp.region (sP (Value.pointer (some ⟨b3, 0, none⟩)) hs fun _ hs => ?_)))
    obtain ⟨xa17, xl18, xc19, hat, hS⟩ := hS
    refine sY (Value.slice xa17 xl18 xc19) hs (Yl.loadV (vs := [(Value.slice xa17 xl18 xc19)]) false rfl rfl (by kernel_rfl) hat) fun _ hs => ?_
    refine sP (Value.int .i64 i1) hs fun _ hs => ?_
    obtain ⟨b20, o21, ha, h0, hl, hS⟩ := hS
    refine sY (Value.pointer (some ⟨b20, o21 + i1.toNat * 8, none⟩)) hs (Yl.indexS (e := 98) (sz := 8) rfl rfl rfl rfl (by kernel_rfl) (by kernel_rfl) ha h0 hl) fun _ hs => ?_
    refine sP (Value.pointer (some ⟨b20, o21 + i1.toNat * 8 + 1, none⟩)) hs fun _ hs => ?_
    obtain ⟨x22, hat, hS⟩ := hS
    refine sY x22.val hs (Yl.loadV (vs := x22.cells) true rfl rfl (by kernel_rfl) hat) fun _ hs => ?_
    refine stepCallE [x22.val] hs rfl ⟨_, rfl, rfl⟩ rfl Try.func52 rfl (by kernel_rfl) (by decide) hS (fun _ _ M27 v hle hnew hS hs => ?_)
    have hMM := hMM.next hle hnew
    obtain ⟨xa23, xl24, xc25, x26, hv, hS⟩ := hS
    subst hv
    refine sP (Value.tuple #[(Value.slice xa23 xl24 xc25), (Value.int .i64 x26)]) hs fun _ hs => ?_
    refine sP (Value.slice xa23 xl24 xc25) hs fun _ hs => ?_
    refine sP (Value.int .i64 x26) hs fun _ hs => ?_
    refine sP (Value.slice xa23 xl24 xc25) hs fun _ hs => ?_
    refine sP (Value.int .i64 x26) hs fun _ hs => ?_
    refine wpList_nil (Wp.seq (Wp.region (sP (Value.slice xa23 xl24 xc25) hs fun _ hs => ?_)))
    refine sP (Value.int .i64 ((xl24 : Nat) : Int)) hs fun _ hs => ?_
    refine sP (Value.int .i64 0) hs fun _ hs => ?_
    refine wpList_nil (Wp.block ?_)
    obtain ⟨G55, I53, mu54, gz57, hI0, hst⟩ := hS
    refine Wp.loop (σ := G55 × (Int) × (Mem)) (fun s a w => match s with | (gh56, x51, M52) => WX M52 M E ∧ Sx 38 E (bwW E M L) M52 w a [(2, (Value.pointer (some ⟨b3, 0, none⟩))), (3, (Value.pointer (some ⟨b4, 0, none⟩))), (26, (Value.slice xa23 xl24 xc25)), (27, (Value.int .i64 ((xl24 : Nat) : Int))), (28, (Value.int .i64 x51))] [] [] ∧ I53 gh56 x51 M52) (fun s => match s with | (gh56, x51, M52) => mu54 gh56 x51) (gz57, 0, M27) ⟨hMM, (hs.weak (List.Sublist.refl _) (List.Sublist.refl _) ⟨rfl, rfl, rfl, rfl, rfl, trivial⟩), hI0⟩ (fun s a w hI => ?_)
    obtain ⟨gh56, x51, M52⟩ := s
    obtain ⟨hMM, hs, hI⟩ := hI
    have hS := hst gh56 x51 M52 hI
    clear hst hI0 hI
    refine Wp.seq (Wp.region (sP (Value.bool (decide (x51 < ((xl24 : Nat) : Int)))) hs fun _ hs => ?_))
    refine wpList_nil (Wp.seq (Wp.cond hs rfl rfl decide_eq_true_iff (fun hc => ?_) (fun hc => ?_)))
    · have hS := hS.1 hc
      refine Wp.skip (Wp.join (fun a w => ∃ (M67 : Mem), WX M67 M E ∧ Sx 38 E (bwW E M L) M67 w a [(2, (Value.pointer (some ⟨b3, 0, none⟩))), (3, (Value.pointer (some ⟨b4, 0, none⟩))), (26, (Value.slice xa23 xl24 xc25)), (27, (Value.int .i64 ((xl24 : Nat) : Int))), (28, (Value.int .i64 x51))] [] [] ∧ (S_gram_Reach_1_J1 x51 G55 gh56 I53 mu54 M67 K)) ?_ ?_)
      · refine Wp.block (Wp.seq (Wp.region ?_))
        obtain ⟨b58, o59, ha, h0, hl, hS⟩ := hS
        refine sY (Value.pointer (some ⟨b58, o59 + x51.toNat * 1, none⟩)) hs (Yl.indexS (e := 9) (sz := 1) rfl rfl rfl rfl (by kernel_rfl) (by kernel_rfl) ha h0 hl) fun _ hs => ?_
        obtain ⟨x60, hat, hS⟩ := hS
        refine sY (Value.string (mkS x60)) hs (Yl.loadV (vs := [(Value.string (mkS x60))]) false rfl rfl (by kernel_rfl) hat) fun _ hs => ?_
        refine sP (Value.string (mkS x60)) hs fun _ hs => ?_
        refine wpList_nil (Wp.regionD [true, true, true, true, false] hs (by kernel_rfl) rfl [] (fun _ h => h) [] (fun _ h => h) (fun _ hs hC => ?_))
        have hL := Mem.le.refl M52
        obtain ⟨x61, hat, hS⟩ := hS
        refine stepDY (v := x61) 0 [4] hs hC QZ.no rfl (wanted_none rfl) rfl (by decide) (by kernel_rfl) (by kernel_rfl) (by kernel_rfl) (Yl.loadV (vs := [x61]) false rfl rfl (by kernel_rfl) hat) (fun _ hs => ?_)
        obtain ⟨xa62, xl63, xc64, hat, hS⟩ := hS
        refine stepDY (v := (Value.agg #[(Value.slice xa62 xl63 xc64)])) 1 [3, 4] hs hC QZ.no rfl (wanted_none rfl) rfl (by decide) (by kernel_rfl) (by kernel_rfl) (by kernel_rfl) (Yl.loadV (vs := [(Value.slice xa62 xl63 xc64)]) true rfl rfl (by kernel_rfl) hat) (fun _ hs => ?_)
        refine stepDE 2 rfl (wanted_none rfl) (by kernel_rfl) #[] ?_
        refine sP (Value.string (mkS x60)) hs fun _ hs => ?_
        refine wpList_nil (⟨fun _ h => h, ?_⟩)
        refine stepDE 3 rfl (wanted_none rfl) (by kernel_rfl) #[] ?_
        refine stepCallP [(Value.agg #[(Value.slice xa62 xl63 xc64)]), (Value.string (mkS x60))] hs rfl ⟨_, rfl, rfl⟩ rfl Try.func53 rfl (by kernel_rfl) (by decide) hS (fun _ _ v hS hs => ?_)
        obtain ⟨x65, hv, hS⟩ := hS
        subst hv
        refine wpList_nil (⟨fun _ _ => hs.cxle hL (List.Sublist.refl _) (List.Sublist.refl _), ?_⟩)
        have hC := hs.cxle hL (List.Sublist.refl _) (List.Sublist.refl _)
        refine stepDE 4 rfl (wanted_none rfl) (by kernel_rfl) #[] ?_
        refine stepCallFW [(Value.int .i64 x65)] hs hMM rfl ⟨_, rfl, rfl⟩ rfl (by decide) hS (fun _ _ M66 v hMM hS hs => ?_)
        obtain ⟨hv, hS⟩ := hS
        subst hv
        refine wpList_nil (⟨fun h => absurd h (by decide), ?_⟩)
        refine WpD.done (by kernel_rfl) ?_ _
        exact ⟨M66, hMM, (hs.weak (List.Sublist.refl _) (List.Sublist.refl _) ⟨rfl, rfl, rfl, rfl, rfl, trivial⟩), hS⟩
      · intro a w hJ
        obtain ⟨M67, hMM, hs, hS⟩ := hJ
        unfold S_gram_Reach_1_J1 at hS
        refine Wp.region ?_
        obtain ⟨hI, hS⟩ := hS
        refine sY (Value.int .i64 (x51 + 1)) hs (Yl.eq (Yl.pure (v := Value.int .i64 (IntKind.wrap .i64 (x51 + 1))) rfl (fun _ => by kernel_rfl)) (congrArg (Value.int .i64) (wrap_in hI))) fun _ hs => ?_
        refine sP (Value.int .i64 (x51 + 1)) hs fun _ hs => ?_
        refine wpList_nil ?_
        obtain ⟨gh, hI1, hI2⟩ := hS
        exact ⟨(gh, x51 + 1, M67), ⟨hMM, (hs.weak (List.Sublist.refl _) (List.Sublist.refl _) ⟨rfl, rfl, rfl, rfl, rfl, trivial⟩), hI1⟩, hI2⟩
    · have hS := hS.2 hc
      exact Wp.exit rfl (leaveW (K := K) hs (res hs rfl) hMM hS)
theorem e_gram_Reach_1 (i1 : Int) (b2 : Nat) (b3 : Nat) (b4 : Nat) (M : Mem) (K : Value → Mem → Prop) (hS : S_gram_Reach_1 i1 b2 b3 b4 M (fun _ => False) K) : CallE Try.prog 51 #[(Value.int .i64 i1), (Value.pointer (some ⟨b2, 0, none⟩)), (Value.pointer (some ⟨b3, 0, none⟩)), (Value.pointer (some ⟨b4, 0, none⟩))] M K := (s_gram_Reach_1 _ _ _ _ _ _ _ hS).toE
theorem f_gram_Reach_1 (i1 : Int) (b2 : Nat) (b3 : Nat) (b4 : Nat) (M : Mem) (L : Nat → Prop) (K : Value → Mem → Prop) (hS : S_gram_Reach_1 i1 b2 b3 b4 M L K) : CallFW Try.prog (Value.func (.func 51) #[] #[(Value.pointer (some ⟨b2, 0, none⟩)), (Value.pointer (some ⟨b3, 0, none⟩)), (Value.pointer (some ⟨b4, 0, none⟩))]) [(Value.int .i64 i1)] M L K := ⟨51, _, _, _, rfl, Try.func51, rfl, (by decide), s_gram_Reach_1 _ _ _ _ _ _ _ hS⟩
set_option linter.unusedVariables false in
def S_gram_Reach (ga1 : Option Addr) (gl2 : Nat) (gc3 : Nat) (M : Mem) (L : Nat → Prop) (K : Value → Mem → Prop) : Prop :=
  (CallE Try.prog 49 #[(Value.agg #[(Value.slice ga1 gl2 gc3)])] M (fun v _ => ∃ (x5 : Int), v = (Value.int .i64 x5) ∧ (((x5 : Int) ≠ 0 → (∀ M', M.le M' → K (Value.tuple #[(Value.slice none 0 0), (Value.int .i64 x5)]) M')) ∧ (¬ ((x5 : Int) ≠ 0) → ((0 : Int) ≤ ((gl2 : Nat) : Int) ∧ ((gl2 : Nat) : Int) ≤ ((gl2 : Nat) : Int) ∧ ((gl2 : Nat) : Int).toNat * 1 ≤ 140737488355328 ∧ (∀ (M11 : Mem) (ad8 : Option Addr) (cap9 : Nat), NewRow M M11 4 1 ad8 (((gl2 : Nat) : Int).toNat) cap9 (repl ((gl2 : Nat) : Int).toNat [(Value.bool false)]) → (∀ (b7 : Nat), (∀ (M12 : Mem), M11 b7 = none → M12 = M11.add b7 (.cells [(Value.slice ad8 (((gl2 : Nat) : Int).toNat) cap9)].toArray 28 (0, 0)) → (∀ (b4 : Nat), (∀ (M13 : Mem), M12 b4 = none → M13 = M12.add b4 (.cells [(Value.slice ga1 gl2 gc3)].toArray 24 (0, 0)) → (∀ (b10 : Nat), (∀ (M14 : Mem), M13 b10 = none → M14 = M13.add b10 (.cells [(Value.func (.func 51) #[] #[(Value.pointer (some ⟨b7, 0, none⟩)), (Value.pointer (some ⟨b4, 0, none⟩)), (Value.pointer (some ⟨b10, 0, none⟩))])].toArray 100 (0, 0)) → (CallW Try.prog 51 #[(Value.int .i64 0), (Value.pointer (some ⟨b7, 0, none⟩)), (Value.pointer (some ⟨b4, 0, none⟩)), (Value.pointer (some ⟨b10, 0, none⟩))] M14 (Wr L M) (fun v M15 => v = (Value.tuple #[]) ∧ (∃ (xa16 : Option Addr) (xl17 : Nat) (xc18 : Nat), At M15 b7 0 [(Value.slice xa16 xl17 xc18)] ∧ (∀ M', M15.le M' → K (Value.tuple #[(Value.slice xa16 xl17 xc18), (Value.int .i64 0)]) M'))))))))))))))))
set_option linter.unusedVariables false in
set_option maxRecDepth 100000 in
theorem s_gram_Reach (ga1 : Option Addr) (gl2 : Nat) (gc3 : Nat) (M : Mem) (L : Nat → Prop) (K : Value → Mem → Prop) (hS : S_gram_Reach ga1 gl2 gc3 M L K) : CallW Try.prog 16 #[(Value.agg #[(Value.slice ga1 gl2 gc3)])] M L K := by
  refine enterW Try.func16 rfl 20 rfl (Nat.le_of_ble_eq_true rfl) (fun E a hs => ?_)
  unfold S_gram_Reach at hS
  have hMM := WX.refl M E
  change Sx 20 E (bwW E M L) M E a [(0, (Value.agg #[(Value.slice ga1 gl2 gc3)]))] [] [] at hs
  refine Wp.seq (Wp.region (stepBox [(Value.slice ga1 gl2 gc3)] hs rfl rfl rfl (by decide) (fun _ _ b4 hEb4 hs => ?_)))
  refine sP (Value.slice none 0 0) hs fun _ hs => ?_
  refine sP (Value.int .i64 0) hs fun _ hs => ?_
  refine wpList_nil (Wp.seq (Wp.seq (Wp.region (sY (Value.agg #[(Value.slice ga1 gl2 gc3)]) hs (Yl.loadB (vs := [(Value.slice ga1 gl2 gc3)]) true 0 rfl rfl rfl (by kernel_rfl) rfl) fun _ hs => ?_))))
  refine stepCallP [(Value.agg #[(Value.slice ga1 gl2 gc3)])] hs rfl ⟨_, rfl, rfl⟩ rfl Try.func49 rfl (by kernel_rfl) (by decide) hS (fun _ _ v hS hs => ?_)
  obtain ⟨x5, hv, hS⟩ := hS
  subst hv
  refine sP (Value.int .i64 x5) hs fun _ hs => ?_
  refine wpList_nil (Wp.seq (Wp.region (sP (Value.int .i64 x5) hs fun _ hs => ?_)))
  refine sP (Value.bool ((x5 : Int) != (0 : Int))) hs fun _ hs => ?_
  refine wpList_nil (Wp.cond hs rfl rfl bne_iff_ne (fun hc => ?_) (fun hc => ?_))
  · have hS := hS.1 hc
    refine Wp.seq (Wp.region (sP (Value.int .i64 x5) hs fun _ hs => ?_))
    refine sP (Value.slice none 0 0) hs fun _ hs => ?_
    refine sP (Value.int .i64 x5) hs fun _ hs => ?_
    exact wpList_nil (Wp.ret (leaveW (K := K) hs (resTT hs rfl rfl rfl) hMM hS))
  · have hS := hS.2 hc
    refine Wp.skip (Wp.seq (Wp.region (sP (Value.pointer (some ⟨b4, 0, none⟩)) hs fun _ hs => ?_)))
    refine sY (Value.slice ga1 gl2 gc3) hs (Yl.loadB (vs := [(Value.slice ga1 gl2 gc3)]) false 0 rfl rfl rfl (by kernel_rfl) rfl) fun _ hs => ?_
    refine sP (Value.int .i64 ((gl2 : Nat) : Int)) hs fun _ hs => ?_
    obtain ⟨h0, h1, hB, hS⟩ := hS
    refine stepMakeN (e := 4) (size := 1) (bytes := 1) [(Value.bool false)] hs rfl rfl rfl rfl (by kernel_rfl) (by kernel_rfl) rfl (by decide) (by decide) h0 h1 hB (fun _ _ rv6 hs => ?_)
    refine stepAlloc [(Value.slice none 0 0)] hs (by kernel_rfl) (by decide) (fun _ _ b7 hEb7 hs => ?_)
    obtain ⟨ad8, cap9, hv, hcp, hxl⟩ := hs.rowform 0 rfl
    dsimp only at hv hcp hxl
    subst hv
    refine stepStoreB 0 (vs := [(Value.slice ad8 (((gl2 : Nat) : Int).toNat) cap9)]) hs rfl rfl rfl rfl rfl rfl (by kernel_rfl) (Nat.le_of_ble_eq_true rfl) rfl (fun _ _ hs => ?_)
    replace hs := hs.chbx (bs' := [⟨b7, 28, [(Value.slice ad8 (((gl2 : Nat) : Int).toNat) cap9)]⟩, ⟨b4, 24, [(Value.slice ga1 gl2 gc3)]⟩]) rfl
    refine wpList_nil (Wp.seq (Wp.region (stepAlloc [Value.nilFunc] hs (by kernel_rfl) (by decide) (fun _ _ b10 hEb10 hs => ?_))))
    refine wpList_nil (Wp.seq (Wp.region (sP (Value.func (.func 51) #[] #[(Value.pointer (some ⟨b7, 0, none⟩)), (Value.pointer (some ⟨b4, 0, none⟩)), (Value.pointer (some ⟨b10, 0, none⟩))]) hs fun _ hs => ?_)))
    refine stepStoreB 0 (vs := [(Value.func (.func 51) #[] #[(Value.pointer (some ⟨b7, 0, none⟩)), (Value.pointer (some ⟨b4, 0, none⟩)), (Value.pointer (some ⟨b10, 0, none⟩))])]) hs rfl rfl rfl rfl rfl rfl (by kernel_rfl) (Nat.le_of_ble_eq_true rfl) rfl (fun _ _ hs => ?_)
    replace hs := hs.chbx (bs' := [⟨b10, 100, [(Value.func (.func 51) #[] #[(Value.pointer (some ⟨b7, 0, none⟩)), (Value.pointer (some ⟨b4, 0, none⟩)), (Value.pointer (some ⟨b10, 0, none⟩))])]⟩, ⟨b7, 28, [(Value.slice ad8 (((gl2 : Nat) : Int).toNat) cap9)]⟩, ⟨b4, 24, [(Value.slice ga1 gl2 gc3)]⟩]) rfl
    refine wpList_nil (Wp.seq (Wp.region (sY (Value.func (.func 51) #[] #[(Value.pointer (some ⟨b7, 0, none⟩)), (Value.pointer (some ⟨b4, 0, none⟩)), (Value.pointer (some ⟨b10, 0, none⟩))]) hs (Yl.loadB (vs := [(Value.func (.func 51) #[] #[(Value.pointer (some ⟨b7, 0, none⟩)), (Value.pointer (some ⟨b4, 0, none⟩)), (Value.pointer (some ⟨b10, 0, none⟩))])]) false 0 rfl rfl rfl (by kernel_rfl) rfl) fun _ hs => ?_)))
    obtain ⟨M11, hnr, hMM, hs⟩ := hs.releaseW hMM 0 rfl [] rfl
    have hS := hS M11 ad8 cap9 hnr
    have hS := hS b7
    obtain ⟨M12, hM2, hno, hMM, hs⟩ := hs.freezeW hMM 1 rfl hEb7 rfl
    have hS := hS M12 hno hM2
    have hS := hS b4
    obtain ⟨M13, hM2, hno, hMM, hs⟩ := hs.freezeW hMM 1 rfl hEb4 rfl
    have hS := hS M13 hno hM2
    have hS := hS b10
    obtain ⟨M14, hM2, hno, hMM, hs⟩ := hs.freezeW hMM 0 rfl hEb10 rfl
    have hS := hS M14 hno hM2
    refine stepCallW [(Value.int .i64 0), (Value.pointer (some ⟨b7, 0, none⟩)), (Value.pointer (some ⟨b4, 0, none⟩)), (Value.pointer (some ⟨b10, 0, none⟩))] hs hMM rfl ⟨_, rfl, rfl⟩ rfl Try.func51 rfl (by kernel_rfl) (by decide) hS (fun _ _ M15 v hMM hS hs => ?_)
    obtain ⟨hv, hS⟩ := hS
    subst hv
    refine wpList_nil (Wp.seq (Wp.region ?_))
    obtain ⟨xa16, xl17, xc18, hat, hS⟩ := hS
    refine sY (Value.slice xa16 xl17 xc18) hs (Yl.loadV (vs := [(Value.slice xa16 xl17 xc18)]) false rfl rfl (by kernel_rfl) hat) fun _ hs => ?_
    refine sP (Value.slice xa16 xl17 xc18) hs fun _ hs => ?_
    refine sP (Value.int .i64 0) hs fun _ hs => ?_
    exact wpList_nil (Wp.ret (leaveW (K := K) hs (resTT hs rfl rfl rfl) hMM hS))
theorem e_gram_Reach (ga1 : Option Addr) (gl2 : Nat) (gc3 : Nat) (M : Mem) (K : Value → Mem → Prop) (hS : S_gram_Reach ga1 gl2 gc3 M (fun _ => False) K) : CallE Try.prog 16 #[(Value.agg #[(Value.slice ga1 gl2 gc3)])] M K := (s_gram_Reach _ _ _ _ _ _ hS).toE
set_option linter.unusedVariables false in
def S_chaffref_Reach_J1 (x562 : Int) (rn564 : Nat) (rx565 : List Value) (I566 : Int → Nat → List Value → Prop) (mu567 : Int → Nat → List Value → Nat) (rn579 : Nat) (rx580 : List Value) (K : Value → Mem → Prop) : Prop :=
  (InI (x562 + 1) ∧ I566 (x562 + 1) rn579 rx580 ∧ mu567 (x562 + 1) rn579 rx580 < mu567 x562 rn564 rx565)
set_option linter.unusedVariables false in
def S_chaffref_Reach (ga1 : Option Addr) (gl2 : Nat) (gc3 : Nat) (M : Mem) (K : Value → Mem → Prop) : Prop :=
  ((0 : Int) ≤ ((gl2 : Nat) : Int) ∧ ((gl2 : Nat) : Int) ≤ ((gl2 : Nat) : Int) ∧ ((gl2 : Nat) : Int).toNat * 1 ≤ 140737488355328 ∧ ((0 : Int) ≤ 0 ∧ 0 < ((((gl2 : Nat) : Int).toNat : Nat) : Int) ∧ (∃ (I392 : Int → Nat → List Value → Mem → Prop) (mu393 : Int → Nat → List Value → Nat), I392 0 (((gl2 : Nat) : Int).toNat) (putAt (repl ((gl2 : Nat) : Int).toNat [(Value.bool false)]) (0 + (0 : Int).toNat * 1) [(Value.bool true)]) M ∧ ∀ (x387 : Int) (rn389 : Nat) (rx390 : List Value) (M391 : Mem), (I392 x387 rn389 rx390 M391 → ((x387 < ((gl2 : Nat) : Int) → (∃ (I521 : Int → Nat → List Value → Mem → Prop) (mu522 : Int → Nat → List Value → Nat), I521 0 rn389 rx390 M391 ∧ ∀ (x516 : Int) (rn518 : Nat) (rx519 : List Value) (M520 : Mem), (I521 x516 rn518 rx519 M520 → ((x516 < ((gl2 : Nat) : Int) → (∃ (b523 o524 : Nat), ga1 = some ⟨b523, o524, none⟩ ∧ (0 : Int) ≤ x516 ∧ x516 < ((gl2 : Nat) : Int) ∧ (∃ (x525 : X_api_Rule), At M520 b523 (o524 + x516.toNat * 8) x525.cells ∧ (CallE Try.prog 58 #[x525.Body.val] M520 (fun v M530 => ∃ (xa527 : Option Addr) (xl528 : Nat) (xc529 : Nat), v = (Value.slice xa527 xl528 xc529) ∧ (∃ (I566 : Int → Nat → List Value → Prop) (mu567 : Int → Nat → List Value → Nat), I566 0 rn518 rx519 ∧ ∀ (x562 : Int) (rn564 : Nat) (rx565 : List Value), (I566 x562 rn564 rx565 → ((x562 < ((xl528 : Nat) : Int) → (∃ (b568 o569 : Nat), xa527 = some ⟨b568, o569, none⟩ ∧ (0 : Int) ≤ x562 ∧ x562 < ((xl528 : Nat) : Int) ∧ (∃ (x570 : List UInt8), At M530 b568 (o569 + x562.toNat * 1) [(Value.string (mkS x570))] ∧ ((0 : Int) ≤ x516 ∧ x516 < ((rn564 : Nat) : Int) ∧ (∃ (x575 : Bool), Cs rx565 (0 + x516.toNat * 1) [(Value.bool x575)] ∧ ((x575 = true → (CallE Try.prog 55 #[(Value.agg #[(Value.slice ga1 gl2 gc3)]), (Value.string (mkS x570))] M530 (fun v _ => ∃ (x576 : Int), v = (Value.int .i64 x576) ∧ ((0 : Int) ≤ x576 ∧ x576 < ((rn564 : Nat) : Int) ∧ (S_chaffref_Reach_J1 x562 rn564 rx565 I566 mu567 rn564 (putAt rx565 (0 + x576.toNat * 1) [(Value.bool true)]) K))))) ∧ (¬ (x575 = true) → (S_chaffref_Reach_J1 x562 rn564 rx565 I566 mu567 rn564 rx565 K)))))))) ∧ (¬ (x562 < ((xl528 : Nat) : Int)) → (InI (x516 + 1) ∧ I521 (x516 + 1) rn564 rx565 M530 ∧ mu522 (x516 + 1) rn564 rx565 < mu522 x516 rn518 rx519)))))))))) ∧ (¬ (x516 < ((gl2 : Nat) : Int)) → (InI (x387 + 1) ∧ I392 (x387 + 1) rn518 rx519 M520 ∧ mu393 (x387 + 1) rn518 rx519 < mu393 x387 rn389 rx390)))))) ∧ (¬ (x387 < ((gl2 : Nat) : Int)) → (∀ (M583 : Mem) (ad581 : Option Addr) (cap582 : Nat), M391.le M583 → SlV M583 ad581 rn389 cap582 1 rx390 → (∀ M', M583.le M' → K (Value.slice ad581 rn389 cap582) M'))))))))
set_option linter.unusedVariables false in
set_option maxRecDepth 100000 in
theorem s_chaffref_Reach (ga1 : Option Addr) (gl2 : Nat) (gc3 : Nat) (M : Mem) (K : Value → Mem → Prop) (hS : S_chaffref_Reach ga1 gl2 gc3 M K) : CallE Try.prog 20 #[(Value.agg #[(Value.slice ga1 gl2 gc3)])] M K := by
  refine enterE Try.func20 rfl 48 rfl (Nat.le_of_ble_eq_true rfl) (fun E a hs => ?_)
  unfold S_chaffref_Reach at hS
  have hMM := MX.refl M E
  change Sx 48 E [] M E a [(0, (Value.agg #[(Value.slice ga1 gl2 gc3)]))] [] [] at hs
  refine Wp.seq (Wp.region (stepBox [(Value.slice ga1 gl2 gc3)] hs rfl rfl rfl (by decide) (fun _ _ b4 hEb4 hs => ?_)))
  refine sP (Value.slice none 0 0) hs fun _ hs => ?_
  refine wpList_nil (Wp.seq (Wp.region (sP (Value.pointer (some ⟨b4, 0, none⟩)) hs fun _ hs => ?_)))
  refine sY (Value.slice ga1 gl2 gc3) hs (Yl.loadB (vs := [(Value.slice ga1 gl2 gc3)]) false 0 rfl rfl rfl (by kernel_rfl) rfl) fun _ hs => ?_
  refine sP (Value.int .i64 ((gl2 : Nat) : Int)) hs fun _ hs => ?_
  obtain ⟨h0, h1, hB, hS⟩ := hS
  refine stepMakeN (e := 4) (size := 1) (bytes := 1) [(Value.bool false)] hs rfl rfl rfl rfl (by kernel_rfl) (by kernel_rfl) rfl (by decide) (by decide) h0 h1 hB (fun _ _ rv5 hs => ?_)
  refine sP rv5 hs fun _ hs => ?_
  refine wpList_nil (Wp.seq (Wp.region (sP rv5 hs fun _ hs => ?_)))
  obtain ⟨ad6, cap7, hv, hcp, hxl⟩ := hs.rowform 0 rfl
  dsimp only at hv hcp hxl
  subst hv
  obtain ⟨h0, hl, hS⟩ := hS
  have hix8 : (0 : Int).toNat < (((gl2 : Nat) : Int).toNat) := by omega
  obtain ⟨g9, hg9⟩ := hs.rowblk 0 rfl (by omega)
  refine sY (Value.pointer (some ⟨g9, 0 + (0 : Int).toNat * 1, none⟩)) hs (Yl.indexS (e := 4) (sz := 1) rfl rfl rfl rfl (by kernel_rfl) (by kernel_rfl) hg9 h0 hl) fun _ hs => ?_
  refine stepStoreR 0 (vs := [(Value.bool true)]) hs rfl hg9 rfl rfl rfl rfl rfl (by kernel_rfl) (by have := hix8; simp only [List.length_cons, List.length_nil]; omega) rfl (fun _ _ hs => ?_)
  replace hs := hs.chrs (rs' := [⟨(Value.slice ad6 (((gl2 : Nat) : Int).toNat) cap7), 4, 1, (((gl2 : Nat) : Int).toNat), (putAt (repl ((gl2 : Nat) : Int).toNat [(Value.bool false)]) (0 + (0 : Int).toNat * 1) [(Value.bool true)]), true⟩]) rfl
  refine wpList_nil (Wp.seq (Wp.seq (Wp.region (sP (Value.pointer (some ⟨b4, 0, none⟩)) hs fun _ hs => ?_))))
  refine sY (Value.slice ga1 gl2 gc3) hs (Yl.loadB (vs := [(Value.slice ga1 gl2 gc3)]) false 0 rfl rfl rfl (by kernel_rfl) rfl) fun _ hs => ?_
  refine sP (Value.int .i64 ((gl2 : Nat) : Int)) hs fun _ hs => ?_
  refine sP (Value.int .i64 0) hs fun _ hs => ?_
  refine wpList_nil (Wp.block ?_)
  obtain ⟨I392, mu393, hI0, hst⟩ := hS
  refine Wp.loop (σ := (Int) × (Nat) × (List Value) × (Value) × (Mem)) (fun s a w => match s with | (x387, rn389, rx390, rv388, M391) => MX M391 M E ∧ Sx 48 E [] M391 w a [(1, (Value.pointer (some ⟨b4, 0, none⟩))), (3, rv388), (16, (Value.int .i64 ((gl2 : Nat) : Int))), (17, (Value.int .i64 x387))] [⟨b4, 24, [(Value.slice ga1 gl2 gc3)]⟩] [⟨rv388, 4, 1, rn389, rx390, true⟩] ∧ I392 x387 rn389 rx390 M391) (fun s => match s with | (x387, rn389, rx390, rv388, M391) => mu393 x387 rn389 rx390) (0, ((gl2 : Nat) : Int).toNat, (putAt (repl ((gl2 : Nat) : Int).toNat [(Value.bool false)]) (0 + (0 : Int).toNat * 1) [(Value.bool true)]), (Value.slice ad6 (((gl2 : Nat) : Int).toNat) cap7), M) ⟨hMM, (hs.weak (List.Sublist.refl _) (List.Sublist.refl _) ⟨rfl, rfl, rfl, rfl, trivial⟩), hI0⟩ (fun s a w hI => ?_)
  obtain ⟨x387, rn389, rx390, rv388, M391⟩ := s
  obtain ⟨hMM, hs, hI⟩ := hI
  have hS := hst x387 rn389 rx390 M391 hI
  clear hst hI0 hI
  refine Wp.seq (Wp.region (sP (Value.bool (decide (x387 < ((gl2 : Nat) : Int)))) hs fun _ hs => ?_))
  refine wpList_nil (Wp.seq (Wp.cond hs rfl rfl decide_eq_true_iff (fun hc => ?_) (fun hc => ?_)))
  · have hS := hS.1 hc
    refine Wp.skip (Wp.seq (Wp.block (Wp.seq (Wp.region (sP (Value.pointer (some ⟨b4, 0, none⟩)) hs fun _ hs => ?_)))))
    refine sY (Value.slice ga1 gl2 gc3) hs (Yl.loadB (vs := [(Value.slice ga1 gl2 gc3)]) false 0 rfl rfl rfl (by kernel_rfl) rfl) fun _ hs => ?_
    refine sP (Value.int .i64 ((gl2 : Nat) : Int)) hs fun _ hs => ?_
    refine sP (Value.int .i64 0) hs fun _ hs => ?_
    refine wpList_nil (Wp.block ?_)
    obtain ⟨I521, mu522, hI0, hst⟩ := hS
    refine Wp.loop (σ := (Int) × (Nat) × (List Value) × (Value) × (Mem)) (fun s a w => match s with | (x516, rn518, rx519, rv517, M520) => MX M520 M E ∧ Sx 48 E [] M520 w a [(1, (Value.pointer (some ⟨b4, 0, none⟩))), (3, rv517), (16, (Value.int .i64 ((gl2 : Nat) : Int))), (17, (Value.int .i64 x387)), (20, (Value.slice ga1 gl2 gc3)), (21, (Value.int .i64 ((gl2 : Nat) : Int))), (22, (Value.int .i64 x516))] [⟨b4, 24, [(Value.slice ga1 gl2 gc3)]⟩] [⟨rv517, 4, 1, rn518, rx519, true⟩] ∧ I521 x516 rn518 rx519 M520) (fun s => match s with | (x516, rn518, rx519, rv517, M520) => mu522 x516 rn518 rx519) (0, rn389, rx390, rv388, M391) ⟨hMM, (hs.weak (List.Sublist.refl _) (List.Sublist.refl _) ⟨rfl, rfl, rfl, rfl, rfl, rfl, rfl, trivial⟩), hI0⟩ (fun s a w hI => ?_)
    obtain ⟨x516, rn518, rx519, rv517, M520⟩ := s
    obtain ⟨hMM, hs, hI⟩ := hI
    have hS := hst x516 rn518 rx519 M520 hI
    clear hst hI0 hI
    refine Wp.seq (Wp.region (sP (Value.bool (decide (x516 < ((gl2 : Nat) : Int)))) hs fun _ hs => ?_))
    refine wpList_nil (Wp.seq (Wp.cond hs rfl rfl decide_eq_true_iff (fun hc => ?_) (fun hc => ?_)))
    · have hS := hS.1 hc
      refine Wp.skip (Wp.seq (Wp.block (Wp.seq (Wp.region (sP (Value.int .i64 x516) hs fun _ hs => ?_)))))
      obtain ⟨b523, o524, ha, h0, hl, hS⟩ := hS
      refine sY (Value.pointer (some ⟨b523, o524 + x516.toNat * 8, none⟩)) hs (Yl.indexS (e := 98) (sz := 8) rfl rfl rfl rfl (by kernel_rfl) (by kernel_rfl) ha h0 hl) fun _ hs => ?_
      obtain ⟨x525, hat, hS⟩ := hS
      refine sY x525.val hs (Yl.loadV (vs := x525.cells) true rfl rfl (by kernel_rfl) hat) fun _ hs => ?_
      refine stepAlloc [(Value.string (mkS [])), (Value.int .i64 0), (Value.int .u64 0), (Value.int .u64 0), (Value.int .u64 0), (Value.int .u64 0), (Value.string (mkS [])), (Value.slice none 0 0)] hs (by kernel_rfl) (by decide) (fun _ _ b526 hEb526 hs => ?_)
      refine sP (Value.int .i64 x516) hs fun _ hs => ?_
      refine stepStoreB 0 (vs := [(Value.string (mkS x525.Name)), (Value.int .i64 x525.Body.Kind), (Value.int .u64 x525.Body.Set.w0), (Value.int .u64 x525.Body.Set.w1), (Value.int .u64 x525.Body.Set.w2), (Value.int .u64 x525.Body.Set.w3), (Value.string (mkS x525.Body.Text)), (Value.slice x525.Body.Kids_a x525.Body.Kids_l x525.Body.Kids_c)]) hs rfl rfl rfl rfl rfl rfl (by kernel_rfl) (Nat.le_of_ble_eq_true rfl) rfl (fun _ _ hs => ?_)
      replace hs := hs.chbx (bs' := [⟨b526, 98, [(Value.string (mkS x525.Name)), (Value.int .i64 x525.Body.Kind), (Value.int .u64 x525.Body.Set.w0), (Value.int .u64 x525.Body.Set.w1), (Value.int .u64 x525.Body.Set.w2), (Value.int .u64 x525.Body.Set.w3), (Value.string (mkS x525.Body.Text)), (Value.slice x525.Body.Kids_a x525.Body.Kids_l x525.Body.Kids_c)]⟩, ⟨b4, 24, [(Value.slice ga1 gl2 gc3)]⟩]) rfl
      refine wpList_nil (Wp.seq (Wp.region (sP (Value.pointer (some ⟨b526, 1, none⟩)) hs fun _ hs => ?_)))
      refine sY x525.Body.val hs (Yl.loadB (vs := x525.Body.cells) true 0 rfl rfl rfl (by kernel_rfl) rfl) fun _ hs => ?_
      refine stepCallE [x525.Body.val] hs rfl ⟨_, rfl, rfl⟩ rfl Try.func58 rfl (by kernel_rfl) (by decide) hS (fun _ _ M530 v hle hnew hS hs => ?_)
      have hMM := hMM.next hle hnew
      obtain ⟨xa527, xl528, xc529, hv, hS⟩ := hS
      subst hv
      refine sP (Value.int .i64 ((xl528 : Nat) : Int)) hs fun _ hs => ?_
      refine sP (Value.int .i64 0) hs fun _ hs => ?_
      refine wpList_nil (Wp.block ?_)
      obtain ⟨I566, mu567, hI0, hst⟩ := hS
      refine Wp.loop (σ := (Int) × (Nat) × (List Value) × (Value)) (fun s a w => match s with | (x562, rn564, rx565, rv563) => Sx 48 E [] M530 w a [(1, (Value.pointer (some ⟨b4, 0, none⟩))), (3, rv563), (4, (Value.int .i64 x516)), (16, (Value.int .i64 ((gl2 : Nat) : Int))), (17, (Value.int .i64 x387)), (20, (Value.slice ga1 gl2 gc3)), (21, (Value.int .i64 ((gl2 : Nat) : Int))), (22, (Value.int .i64 x516)), (29, (Value.slice xa527 xl528 xc529)), (30, (Value.int .i64 ((xl528 : Nat) : Int))), (31, (Value.int .i64 x562))] [⟨b526, 98, [(Value.string (mkS x525.Name)), (Value.int .i64 x525.Body.Kind), (Value.int .u64 x525.Body.Set.w0), (Value.int .u64 x525.Body.Set.w1), (Value.int .u64 x525.Body.Set.w2), (Value.int .u64 x525.Body.Set.w3), (Value.string (mkS x525.Body.Text)), (Value.slice x525.Body.Kids_a x525.Body.Kids_l x525.Body.Kids_c)]⟩, ⟨b4, 24, [(Value.slice ga1 gl2 gc3)]⟩] [⟨rv563, 4, 1, rn564, rx565, true⟩] ∧ I566 x562 rn564 rx565) (fun s => match s with | (x562, rn564, rx565, rv563) => mu567 x562 rn564 rx565) (0, rn518, rx519, rv517) ⟨(hs.weak (List.Sublist.refl _) (List.Sublist.refl _) ⟨rfl, rfl, rfl, rfl, rfl, rfl, rfl, rfl, rfl, rfl, rfl, trivial⟩), hI0⟩ (fun s a w hI => ?_)
      obtain ⟨x562, rn564, rx565, rv563⟩ := s
      obtain ⟨hs, hI⟩ := hI
      have hS := hst x562 rn564 rx565 hI
      clear hst hI0 hI
      refine Wp.seq (Wp.region (sP (Value.bool (decide (x562 < ((xl528 : Nat) : Int)))) hs fun _ hs => ?_))
      refine wpList_nil (Wp.seq (Wp.cond hs rfl rfl decide_eq_true_iff (fun hc => ?_) (fun hc => ?_)))
      · have hS := hS.1 hc
        refine Wp.skip (Wp.join (fun a w => ∃ (rn579 : Nat) (rx580 : List Value) (rv578 : Value), Sx 48 E [] M530 w a [(1, (Value.pointer (some ⟨b4, 0, none⟩))), (3, rv578), (4, (Value.int .i64 x516)), (16, (Value.int .i64 ((gl2 : Nat) : Int))), (17, (Value.int .i64 x387)), (20, (Value.slice ga1 gl2 gc3)), (21, (Value.int .i64 ((gl2 : Nat) : Int))), (22, (Value.int .i64 x516)), (29, (Value.slice xa527 xl528 xc529)), (30, (Value.int .i64 ((xl528 : Nat) : Int))), (31, (Value.int .i64 x562))] [⟨b526, 98, [(Value.string (mkS x525.Name)), (Value.int .i64 x525.Body.Kind), (Value.int .u64 x525.Body.Set.w0), (Value.int .u64 x525.Body.Set.w1), (Value.int .u64 x525.Body.Set.w2), (Value.int .u64 x525.Body.Set.w3), (Value.string (mkS x525.Body.Text)), (Value.slice x525.Body.Kids_a x525.Body.Kids_l x525.Body.Kids_c)]⟩, ⟨b4, 24, [(Value.slice ga1 gl2 gc3)]⟩] [⟨rv578, 4, 1, rn579, rx580, true⟩] ∧ (S_chaffref_Reach_J1 x562 rn564 rx565 I566 mu567 rn579 rx580 K)) ?_ ?_)
        · refine Wp.block (Wp.seq (Wp.region ?_))
          obtain ⟨b568, o569, ha, h0, hl, hS⟩ := hS
          refine sY (Value.pointer (some ⟨b568, o569 + x562.toNat * 1, none⟩)) hs (Yl.indexS (e := 9) (sz := 1) rfl rfl rfl rfl (by kernel_rfl) (by kernel_rfl) ha h0 hl) fun _ hs => ?_
          obtain ⟨x570, hat, hS⟩ := hS
          refine sY (Value.string (mkS x570)) hs (Yl.loadV (vs := [(Value.string (mkS x570))]) false rfl rfl (by kernel_rfl) hat) fun _ hs => ?_
          refine sP (Value.string (mkS x570)) hs fun _ hs => ?_
          refine wpList_nil (Wp.seq (Wp.region (sP rv563 hs fun _ hs => ?_)))
          refine sP (Value.int .i64 x516) hs fun _ hs => ?_
          obtain ⟨ad571, cap572, hv, hcp, hxl⟩ := hs.rowform 0 rfl
          dsimp only at hv hcp hxl
          subst hv
          obtain ⟨h0, hl, hS⟩ := hS
          have hix573 : x516.toNat < rn564 := by omega
          obtain ⟨g574, hg574⟩ := hs.rowblk 0 rfl (by omega)
          refine sY (Value.pointer (some ⟨g574, 0 + x516.toNat * 1, none⟩)) hs (Yl.indexS (e := 4) (sz := 1) rfl rfl rfl rfl (by kernel_rfl) (by kernel_rfl) hg574 h0 hl) fun _ hs => ?_
          obtain ⟨x575, hcs, hS⟩ := hS
          refine sY (Value.bool x575) hs (Yl.loadR (vs := [(Value.bool x575)]) 0 false rfl hg574 rfl rfl (by kernel_rfl) hcs) fun _ hs => ?_
          refine wpList_nil (Wp.cond hs rfl rfl Iff.rfl (fun hc => ?_) (fun hc => ?_))
          · have hS := hS.1 hc
            refine Wp.region (sP (Value.slice ad571 rn564 cap572) hs fun _ hs => ?_)
            refine sY (Value.agg #[(Value.slice ga1 gl2 gc3)]) hs (Yl.loadB (vs := [(Value.slice ga1 gl2 gc3)]) true 1 rfl rfl rfl (by kernel_rfl) rfl) fun _ hs => ?_
            refine sP (Value.string (mkS x570)) hs fun _ hs => ?_
            refine stepCallP [(Value.agg #[(Value.slice ga1 gl2 gc3)]), (Value.string (mkS x570))] hs rfl ⟨_, rfl, rfl⟩ rfl Try.func55 rfl (by kernel_rfl) (by decide) hS (fun _ _ v hS hs => ?_)
            obtain ⟨x576, hv, hS⟩ := hS
            subst hv
            obtain ⟨h0, hl, hS⟩ := hS
            have hix577 : x576.toNat < rn564 := by omega
            refine sY (Value.pointer (some ⟨g574, 0 + x576.toNat * 1, none⟩)) hs (Yl.indexS (e := 4) (sz := 1) rfl rfl rfl rfl (by kernel_rfl) (by kernel_rfl) hg574 h0 hl) fun _ hs => ?_
            refine stepStoreR 0 (vs := [(Value.bool true)]) hs rfl hg574 rfl rfl rfl rfl rfl (by kernel_rfl) (by have := hix577; simp only [List.length_cons, List.length_nil]; omega) rfl (fun _ _ hs => ?_)
            replace hs := hs.chrs (rs' := [⟨(Value.slice ad571 rn564 cap572), 4, 1, rn564, (putAt rx565 (0 + x576.toNat * 1) [(Value.bool true)]), true⟩]) rfl
            exact wpList_nil (⟨rn564, (putAt rx565 (0 + x576.toNat * 1) [(Value.bool true)]), (Value.slice ad571 rn564 cap572), (hs.weak (List.Sublist.refl _) (List.Sublist.refl _) ⟨rfl, rfl, rfl, rfl, rfl, rfl, rfl, rfl, rfl, rfl, rfl, trivial⟩), hS⟩)
          · have hS := hS.2 hc
            exact Wp.skip (⟨rn564, rx565, (Value.slice ad571 rn564 cap572), (hs.weak (List.Sublist.refl _) (List.Sublist.refl _) ⟨rfl, rfl, rfl, rfl, rfl, rfl, rfl, rfl, rfl, rfl, rfl, trivial⟩), hS⟩)
        · intro a w hJ
          obtain ⟨rn579, rx580, rv578, hs, hS⟩ := hJ
          unfold S_chaffref_Reach_J1 at hS
          refine Wp.region ?_
          obtain ⟨hI, hS⟩ := hS
          refine sY (Value.int .i64 (x562 + 1)) hs (Yl.eq (Yl.pure (v := Value.int .i64 (IntKind.wrap .i64 (x562 + 1))) rfl (fun _ => by kernel_rfl)) (congrArg (Value.int .i64) (wrap_in hI))) fun _ hs => ?_
          refine sP (Value.int .i64 (x562 + 1)) hs fun _ hs => ?_
          exact wpList_nil (⟨(x562 + 1, rn579, rx580, rv578), ⟨(hs.weak (List.Sublist.refl _) (List.Sublist.refl _) ⟨rfl, rfl, rfl, rfl, rfl, rfl, rfl, rfl, rfl, rfl, rfl, trivial⟩), hS.1⟩, hS.2⟩)
      · have hS := hS.2 hc
        refine Wp.exit rfl (Wp.region ?_)
        obtain ⟨hI, hS⟩ := hS
        refine sY (Value.int .i64 (x516 + 1)) hs (Yl.eq (Yl.pure (v := Value.int .i64 (IntKind.wrap .i64 (x516 + 1))) rfl (fun _ => by kernel_rfl)) (congrArg (Value.int .i64) (wrap_in hI))) fun _ hs => ?_
        refine sP (Value.int .i64 (x516 + 1)) hs fun _ hs => ?_
        exact wpList_nil (⟨(x516 + 1, rn564, rx565, rv563, M530), ⟨hMM, (hs.weak (.cons _ (.cons_cons _ List.Sublist.slnil)) (List.Sublist.refl _) ⟨rfl, rfl, rfl, rfl, rfl, rfl, rfl, trivial⟩), hS.1⟩, hS.2⟩)
    · have hS := hS.2 hc
      refine Wp.exit rfl (Wp.region ?_)
      obtain ⟨hI, hS⟩ := hS
      refine sY (Value.int .i64 (x387 + 1)) hs (Yl.eq (Yl.pure (v := Value.int .i64 (IntKind.wrap .i64 (x387 + 1))) rfl (fun _ => by kernel_rfl)) (congrArg (Value.int .i64) (wrap_in hI))) fun _ hs => ?_
      refine sP (Value.int .i64 (x387 + 1)) hs fun _ hs => ?_
      exact wpList_nil (⟨(x387 + 1, rn518, rx519, rv517, M520), ⟨hMM, (hs.weak (List.Sublist.refl _) (List.Sublist.refl _) ⟨rfl, rfl, rfl, rfl, trivial⟩), hS.1⟩, hS.2⟩)
  · have hS := hS.2 hc
    refine Wp.exit rfl (Wp.seq (Wp.region (sP rv388 hs fun _ hs => ?_)))
    refine sP rv388 hs fun _ hs => ?_
    refine wpList_nil (Wp.ret ?_)
    obtain ⟨ad581, cap582, hv, hcp, hxl⟩ := hs.rowform 0 rfl
    dsimp only at hv hcp hxl
    subst hv
    obtain ⟨M583, hle, hsl, hnew, hs⟩ := hs.release 0 rfl [] rfl
    have hMM := hMM.next hle hnew
    have hS := hS M583 ad581 cap582 hle hsl
    exact leaveE (K := K) hs (resT hs rfl rfl) hMM.2 hS
set_option linter.unusedVariables false in
def S_slices_Equal_bool (sa1 : Option Addr) (sl2 : Nat) (sc3 : Nat) (sa4 : Option Addr) (sl5 : Nat) (sc6 : Nat) (M : Mem) (K : Value → Prop) : Prop :=
  ((((sl2 : Nat) : Int) ≠ ((sl5 : Nat) : Int) → K (Value.bool false)) ∧ (¬ (((sl2 : Nat) : Int) ≠ ((sl5 : Nat) : Int)) → (∃ (I15 : Int → Prop) (mu16 : Int → Nat), I15 0 ∧ ∀ (x14 : Int), (I15 x14 → ((x14 < ((sl2 : Nat) : Int) → (∃ (b17 o18 : Nat), sa1 = some ⟨b17, o18, none⟩ ∧ (0 : Int) ≤ x14 ∧ x14 < ((sl2 : Nat) : Int) ∧ (∃ (x19 : Bool), At M b17 (o18 + x14.toNat * 1) [(Value.bool x19)] ∧ (∃ (b20 o21 : Nat), sa4 = some ⟨b20, o21, none⟩ ∧ (0 : Int) ≤ x14 ∧ x14 < ((sl5 : Nat) : Int) ∧ (∃ (x22 : Bool), At M b20 (o21 + x14.toNat * 1) [(Value.bool x22)] ∧ ((¬ (x19 = x22) → K (Value.bool false)) ∧ (¬ (¬ (x19 = x22)) → (InI (x14 + 1) ∧ I15 (x14 + 1) ∧ mu16 (x14 + 1) < mu16 x14)))))))) ∧ (¬ (x14 < ((sl2 : Nat) : Int)) → K (Value.bool true)))))))
set_option linter.unusedVariables false in
set_option maxRecDepth 100000 in
theorem s_slices_Equal_bool (sa1 : Option Addr) (sl2 : Nat) (sc3 : Nat) (sa4 : Option Addr) (sl5 : Nat) (sc6 : Nat) (M : Mem) (K : Value → Prop) (hS : S_slices_Equal_bool sa1 sl2 sc3 sa4 sl5 sc6 M K) : CallE Try.prog 19 #[(Value.slice sa1 sl2 sc3), (Value.slice sa4 sl5 sc6)] M (fun v _ => K v) := by
  refine enterE Try.func19 rfl 26 rfl (Nat.le_of_ble_eq_true rfl) (fun E a hs => ?_)
  unfold S_slices_Equal_bool at hS
  have hMM := MX.refl M E
  change Sx 26 E [] M E a [(0, (Value.slice sa1 sl2 sc3)), (1, (Value.slice sa4 sl5 sc6))] [] [] at hs
  refine Wp.seq (Wp.region (sP (Value.bool false) hs fun _ hs => ?_))
  refine wpList_nil (Wp.seq (Wp.seq (Wp.region (sP (Value.slice sa1 sl2 sc3) hs fun _ hs => ?_))))
  refine sP (Value.int .i64 ((sl2 : Nat) : Int)) hs fun _ hs => ?_
  refine sP (Value.slice sa4 sl5 sc6) hs fun _ hs => ?_
  refine sP (Value.int .i64 ((sl5 : Nat) : Int)) hs fun _ hs => ?_
  refine sP (Value.bool (((sl2 : Nat) : Int) != ((sl5 : Nat) : Int))) hs fun _ hs => ?_
  refine wpList_nil (Wp.cond hs rfl rfl bne_iff_ne (fun hc => ?_) (fun hc => ?_))
  · have hS := hS.1 hc
    refine Wp.seq (Wp.region (sP (Value.bool false) hs fun _ hs => ?_))
    exact wpList_nil (Wp.ret (leaveE (K := fun v _ => K v) hs (resT hs rfl rfl) hMM.2 (fun _ _ => hS)))
  · have hS := hS.2 hc
    refine Wp.skip (Wp.seq (Wp.seq (Wp.region (sP (Value.slice sa1 sl2 sc3) hs fun _ hs => ?_))))
    refine sP (Value.int .i64 ((sl2 : Nat) : Int)) hs fun _ hs => ?_
    refine sP (Value.int .i64 0) hs fun _ hs => ?_
    refine wpList_nil (Wp.block ?_)
    obtain ⟨I15, mu16, hI0, hst⟩ := hS
    refine Wp.loop (σ := (Int)) (fun s a w => match s with | (x14) => Sx 26 E [] M w a [(0, (Value.slice sa1 sl2 sc3)), (1, (Value.slice sa4 sl5 sc6)), (12, (Value.int .i64 ((sl2 : Nat) : Int))), (13, (Value.int .i64 x14))] [] [] ∧ I15 x14) (fun s => match s with | (x14) => mu16 x14) (0) ⟨(hs.weak (List.Sublist.refl _) (List.Sublist.refl _) ⟨rfl, rfl, rfl, rfl, trivial⟩), hI0⟩ (fun x14 a w hI => ?_)
    obtain ⟨hs, hI⟩ := hI
    have hS := hst x14 hI
    clear hst hI0 hI
    refine Wp.seq (Wp.region (sP (Value.bool (decide (x14 < ((sl2 : Nat) : Int)))) hs fun _ hs => ?_))
    refine wpList_nil (Wp.seq (Wp.cond hs rfl rfl decide_eq_true_iff (fun hc => ?_) (fun hc => ?_)))
    · have hS := hS.1 hc
      refine Wp.skip (Wp.seq (Wp.block (Wp.seq (Wp.region (sP (Value.int .i64 x14) hs fun _ hs => ?_)))))
      refine sP (Value.int .i64 x14) hs fun _ hs => ?_
      refine wpList_nil (Wp.seq (Wp.regionD [true, true, true, true, true, true, true, true, true] hs (by kernel_rfl) rfl [] (fun _ h => h) [] (fun _ h => h) (fun _ hs hC => ?_)))
      have hL := Mem.le.refl M
      refine dP (Value.slice sa1 sl2 sc3) 0 [2, 3, 8] hs QZ.no (wanted_none rfl) fun _ hs => ?_
      refine dP (Value.int .i64 x14) 1 [2, 3, 8] hs QZ.no (wanted_none rfl) fun _ hs => ?_
      obtain ⟨b17, o18, ha, h0, hl, hS⟩ := hS
      refine stepDP (v := (Value.pointer (some ⟨b17, o18 + x14.toNat * 1, none⟩))) 2 [3, 8] hs QZ.no rfl (wanted_none rfl) rfl (by decide) (by kernel_rfl) (by kernel_rfl) (by kernel_rfl) (Yl.indexS (e := 4) (sz := 1) rfl rfl rfl rfl (by kernel_rfl) (by kernel_rfl) ha h0 hl) (fun _ hs => ?_)
      obtain ⟨x19, hat, hS⟩ := hS
      refine stepDY (v := (Value.bool x19)) 3 [8] hs hC QZ.no rfl (wanted_none rfl) rfl (by decide) (by kernel_rfl) (by kernel_rfl) (by kernel_rfl) (Yl.loadV (vs := [(Value.bool x19)]) false rfl rfl (by kernel_rfl) hat) (fun _ hs => ?_)
      refine dP (Value.slice sa4 sl5 sc6) 4 [6, 7, 8] hs QZ.no (wanted_none rfl) fun _ hs => ?_
      refine stepDE 5 rfl (wanted_none rfl) (by kernel_rfl) #[] ?_
      refine sP (Value.int .i64 x14) hs fun _ hs => ?_
      refine wpList_nil (⟨fun _ h => h, ?_⟩)
      refine stepDE 6 rfl (wanted_none rfl) (by kernel_rfl) #[] ?_
      obtain ⟨b20, o21, ha, h0, hl, hS⟩ := hS
      refine sY (Value.pointer (some ⟨b20, o21 + x14.toNat * 1, none⟩)) hs (Yl.indexS (e := 4) (sz := 1) rfl rfl rfl rfl (by kernel_rfl) (by kernel_rfl) ha h0 hl) fun _ hs => ?_
      refine wpList_nil (⟨fun _ h => h, ?_⟩)
      refine stepDE 7 rfl (wanted_none rfl) (by kernel_rfl) #[] ?_
      obtain ⟨x22, hat, hS⟩ := hS
      refine sY (Value.bool x22) hs (Yl.loadV (vs := [(Value.bool x22)]) false rfl rfl (by kernel_rfl) hat) fun _ hs => ?_
      refine wpList_nil (⟨fun _ h => h, ?_⟩)
      refine stepDE 8 rfl (wanted_none rfl) (by kernel_rfl) #[] ?_
      refine sY (Value.bool (!(x19 == x22))) hs (Yl.neqB rfl rfl rfl rfl (by kernel_rfl)) fun _ hs => ?_
      refine wpList_nil (⟨fun _ h => h, ?_⟩)
      refine WpD.done (by kernel_rfl) ?_ _
      refine Wp.cond hs rfl rfl (bnot_iff beq_iff_eq) (fun hc => ?_) (fun hc => ?_)
      · have hS := hS.1 hc
        refine Wp.seq (Wp.region (sP (Value.bool false) hs fun _ hs => ?_))
        exact wpList_nil (Wp.ret (leaveE (K := fun v _ => K v) hs (resT hs rfl rfl) hMM.2 (fun _ _ => hS)))
      · have hS := hS.2 hc
        refine Wp.skip (Wp.region ?_)
        obtain ⟨hI, hS⟩ := hS
        refine sY (Value.int .i64 (x14 + 1)) hs (Yl.eq (Yl.pure (v := Value.int .i64 (IntKind.wrap .i64 (x14 + 1))) rfl (fun _ => by kernel_rfl)) (congrArg (Value.int .i64) (wrap_in hI))) fun _ hs => ?_
        refine sP (Value.int .i64 (x14 + 1)) hs fun _ hs => ?_
        exact wpList_nil (⟨(x14 + 1), ⟨(hs.weak (List.Sublist.refl _) (List.Sublist.refl _) ⟨rfl, rfl, rfl, rfl, trivial⟩), hS.1⟩, hS.2⟩)
    · have hS := hS.2 hc
      refine Wp.exit rfl (Wp.seq (Wp.region (sP (Value.bool true) hs fun _ hs => ?_)))
      exact wpList_nil (Wp.ret (leaveE (K := fun v _ => K v) hs (resT hs rfl rfl) hMM.2 (fun _ _ => hS)))

end Go.Proofs.Ytaljnkggjadonaa.core
