/- What the code of CodeRuns computes, part 2; printed by program. -/
import Derived.Test.YtdlfhmdojbejkaaCodeRunsGa
namespace Go.Proofs.Ytdlfhmdojbejkaa.lawCodeRuns
open Go.Gx Go.RowKit Go.ChangeShapes Go.WideShapes Go.ChangeAt
set_option linter.unusedVariables false in
set_option maxRecDepth 100000 in
theorem s_chaffref_Machine (la1 : Option Addr) (ll2 : Nat) (lc3 : Nat) (s4 : List UInt8) (steps5 : Int) (M : Mem) (K : Value → Prop) (hS : S_chaffref_Machine la1 ll2 lc3 s4 steps5 M K) : CallE Try.prog 46 #[(Value.slice la1 ll2 lc3), (Value.string (mkS s4)), (Value.int .i64 steps5)] M (fun v _ => K v) := by
  refine enterE Try.func46 rfl 220 rfl (Nat.le_of_ble_eq_true rfl) (fun E a hs => ?_)
  unfold S_chaffref_Machine at hS
  have hMM := MX.refl M E
  change Sx 220 E [] M E a [(0, (Value.slice la1 ll2 lc3)), (1, (Value.string (mkS s4))), (2, (Value.int .i64 steps5))] [] [] at hs
  refine Wp.seq (Wp.region (stepAlloc [(Value.bool false), (Value.int .i64 0)] hs (by kernel_rfl) (by decide) (fun _ _ b6 hEb6 hs => ?_)))
  refine sP (Value.int .i64 0) hs fun _ hs => ?_
  refine wpList_nil (Wp.seq (Wp.seq (Wp.region (sP (Value.slice la1 ll2 lc3) hs fun _ hs => ?_))))
  refine stepCallP [(Value.slice la1 ll2 lc3)] hs rfl ⟨_, rfl, rfl⟩ rfl Try.func24 rfl (by kernel_rfl) (by decide) hS (fun _ _ v hS hs => ?_)
  obtain ⟨x7, hv, hS⟩ := hS
  subst hv
  refine sP (Value.int .i64 x7) hs fun _ hs => ?_
  refine wpList_nil (Wp.seq (Wp.region (sP (Value.int .i64 x7) hs fun _ hs => ?_)))
  refine sP (Value.bool ((x7 : Int) != (0 : Int))) hs fun _ hs => ?_
  refine wpList_nil (Wp.cond hs rfl rfl bne_iff_ne (fun hc => ?_) (fun hc => ?_))
  · have hS := hS.1 hc
    refine Wp.seq (Wp.region (sP (X_api_Outcome.mk false 0).val hs fun _ hs => ?_))
    refine sP (Value.int .i64 x7) hs fun _ hs => ?_
    refine stepStoreB 0 (vs := [(Value.bool false), (Value.int .i64 0)]) hs rfl rfl rfl rfl rfl rfl (by kernel_rfl) (Nat.le_of_ble_eq_true rfl) rfl (fun _ _ hs => ?_)
    replace hs := hs.chbx (bs' := [⟨b6, 74, [(Value.bool false), (Value.int .i64 0)]⟩]) rfl
    refine sP (Value.int .i64 x7) hs fun _ hs => ?_
    exact wpList_nil (Wp.ret (leaveE (K := fun v _ => K v) hs (resCT (vs := [(Value.bool false), (Value.int .i64 0)]) true 0 hs rfl rfl rfl (by kernel_rfl) rfl rfl) hMM.2 (fun _ _ => hS)))
  · have hS := hS.2 hc
    refine Wp.skip (Wp.seq (Wp.seq (Wp.region (sP (Value.string (mkS s4)) hs fun _ hs => ?_))))
    refine sP (Value.int .i64 ((s4.length : Nat) : Int)) hs fun _ hs => ?_
    refine sP (Value.bool (decide (((s4.length : Nat) : Int) > 60))) hs fun _ hs => ?_
    refine wpList_nil (Wp.cond hs rfl rfl decide_eq_true_iff (fun hc => ?_) (fun hc => ?_))
    · have hS := hS.1 hc
      refine Wp.seq (Wp.region (sP (X_api_Outcome.mk false 0).val hs fun _ hs => ?_))
      refine stepStoreB 0 (vs := [(Value.bool false), (Value.int .i64 0)]) hs rfl rfl rfl rfl rfl rfl (by kernel_rfl) (Nat.le_of_ble_eq_true rfl) rfl (fun _ _ hs => ?_)
      replace hs := hs.chbx (bs' := [⟨b6, 74, [(Value.bool false), (Value.int .i64 0)]⟩]) rfl
      refine sP (Value.int .i64 2) hs fun _ hs => ?_
      exact wpList_nil (Wp.ret (leaveE (K := fun v _ => K v) hs (resCT (vs := [(Value.bool false), (Value.int .i64 0)]) true 0 hs rfl rfl rfl (by kernel_rfl) rfl rfl) hMM.2 (fun _ _ => hS)))
    · have hS := hS.2 hc
      refine Wp.skip (Wp.seq (Wp.join (fun a w => ∃ (x8 : Bool), Sx 220 E [] M w a [(0, (Value.slice la1 ll2 lc3)), (1, (Value.string (mkS s4))), (2, (Value.int .i64 steps5)), (6, (Value.pointer (some ⟨b6, 0, none⟩))), (30, (Value.bool x8))] [⟨b6, 74, [(Value.bool false), (Value.int .i64 0)]⟩] [] ∧ (S_chaffref_Machine_J1 la1 ll2 s4 steps5 M x8 K)) ?_ ?_))
      · refine Wp.region (sP (Value.int .i64 steps5) hs fun _ hs => ?_)
        refine sP (Value.bool (decide (steps5 < 0))) hs fun _ hs => ?_
        refine sP (Value.bool (decide (steps5 < 0))) hs fun _ hs => ?_
        refine bsplit (decide (steps5 < 0)) decide_eq_true_iff (fun hb hc => ?_) (fun hb hc => ?_)
        · have hs := hs.bt hb
          have hS := hS.1 hc
          refine sNo hs fun _ hs => ?_
          refine sNo hs fun _ hs => ?_
          refine sP (Value.bool true) hs fun _ hs => ?_
          exact wpList_nil (⟨true, (hs.weak (List.Sublist.refl _) (List.Sublist.refl _) ⟨rfl, rfl, rfl, rfl, rfl, trivial⟩), hS⟩)
        · have hs := hs.bf hb
          have hS := hS.2 hc
          refine sYe hs (sP (Value.int .i64 steps5) hs fun _ hs => ?_)
          refine sYe hs (sP (Value.bool (decide (steps5 > 16777216))) hs fun _ hs => ?_)
          refine sP (Value.bool (decide (steps5 > 16777216))) hs fun _ hs => ?_
          exact wpList_nil (⟨(decide (steps5 > 16777216)), (hs.weak (List.Sublist.refl _) (List.Sublist.refl _) ⟨rfl, rfl, rfl, rfl, rfl, trivial⟩), hS⟩)
      · intro a w hJ
        obtain ⟨x8, hs, hS⟩ := hJ
        unfold S_chaffref_Machine_J1 at hS
        refine Wp.cond hs rfl rfl Iff.rfl (fun hc => ?_) (fun hc => ?_)
        · have hS := hS.1 hc
          refine Wp.seq (Wp.region (sP (X_api_Outcome.mk false 0).val hs fun _ hs => ?_))
          refine stepStoreB 0 (vs := [(Value.bool false), (Value.int .i64 0)]) hs rfl rfl rfl rfl rfl rfl (by kernel_rfl) (Nat.le_of_ble_eq_true rfl) rfl (fun _ _ hs => ?_)
          replace hs := hs.chbx (bs' := [⟨b6, 74, [(Value.bool false), (Value.int .i64 0)]⟩]) rfl
          refine sP (Value.int .i64 1) hs fun _ hs => ?_
          exact wpList_nil (Wp.ret (leaveE (K := fun v _ => K v) hs (resCT (vs := [(Value.bool false), (Value.int .i64 0)]) true 0 hs rfl rfl rfl (by kernel_rfl) rfl rfl) hMM.2 (fun _ _ => hS)))
        · have hS := hS.2 hc
          refine Wp.skip (Wp.seq (Wp.region (sP (Value.int .i64 0) hs fun _ hs => ?_)))
          refine sP (Value.int .i64 0) hs fun _ hs => ?_
          refine wpList_nil (Wp.seq (Wp.region (sP (Value.pointer none) hs fun _ hs => ?_)))
          refine wpList_nil (Wp.seq (Wp.region (sP (Value.int .i64 0) hs fun _ hs => ?_)))
          refine wpList_nil (Wp.block ?_)
          obtain ⟨I205, mu206, hI0, hst⟩ := hS
          refine Wp.loop (σ := (Int) × (Int) × (Option Addr) × (Int) × (Mem)) (fun s a w => match s with | (pc200, at201, top202, n203, M204) => MX M204 M E ∧ Sx 220 E [] M204 w a [(0, (Value.slice la1 ll2 lc3)), (1, (Value.string (mkS s4))), (2, (Value.int .i64 steps5)), (6, (Value.pointer (some ⟨b6, 0, none⟩))), (9, (Value.int .i64 pc200)), (10, (Value.int .i64 at201)), (11, (Value.pointer top202)), (12, (Value.int .i64 n203))] [⟨b6, 74, [(Value.bool false), (Value.int .i64 0)]⟩] [] ∧ I205 pc200 at201 top202 n203 M204) (fun s => match s with | (pc200, at201, top202, n203, M204) => mu206 pc200 at201 top202 n203) (0, 0, none, 0, M) ⟨hMM, (hs.weak (List.Sublist.refl _) (List.Sublist.refl _) ⟨rfl, rfl, rfl, rfl, rfl, rfl, rfl, rfl, trivial⟩), hI0⟩ (fun s a w hI => ?_)
          obtain ⟨pc200, at201, top202, n203, M204⟩ := s
          obtain ⟨hMM, hs, hI⟩ := hI
          have hS := hst pc200 at201 top202 n203 M204 hI
          clear hst hI0 hI
          refine Wp.join (fun a w => ∃ (pc294 : Int) (at295 : Int) (top296 : Option Addr) (M297 : Mem), MX M297 M E ∧ Sx 220 E [] M297 w a [(0, (Value.slice la1 ll2 lc3)), (1, (Value.string (mkS s4))), (2, (Value.int .i64 steps5)), (6, (Value.pointer (some ⟨b6, 0, none⟩))), (9, (Value.int .i64 pc294)), (10, (Value.int .i64 at295)), (11, (Value.pointer top296)), (12, (Value.int .i64 n203))] [⟨b6, 74, [(Value.bool false), (Value.int .i64 0)]⟩] [] ∧ (S_chaffref_Machine_J8 pc200 at201 top202 n203 I205 mu206 pc294 at295 top296 M297 K)) ?_ ?_
          · refine Wp.block (Wp.seq (Wp.seq (Wp.region (sP (Value.int .i64 pc200) hs fun _ hs => ?_))))
            refine sP (Value.slice la1 ll2 lc3) hs fun _ hs => ?_
            refine sP (Value.int .i64 ((ll2 : Nat) : Int)) hs fun _ hs => ?_
            refine sP (Value.bool (decide (pc200 ≥ ((ll2 : Nat) : Int)))) hs fun _ hs => ?_
            refine wpList_nil (Wp.cond hs rfl rfl decide_eq_true_iff (fun hc => ?_) (fun hc => ?_))
            · have hS := hS.1 hc
              refine Wp.seq (Wp.region (sP (X_api_Outcome.mk false 0).val hs fun _ hs => ?_))
              refine stepStoreB 0 (vs := [(Value.bool false), (Value.int .i64 0)]) hs rfl rfl rfl rfl rfl rfl (by kernel_rfl) (Nat.le_of_ble_eq_true rfl) rfl (fun _ _ hs => ?_)
              replace hs := hs.chbx (bs' := [⟨b6, 74, [(Value.bool false), (Value.int .i64 0)]⟩]) rfl
              refine sP (Value.int .i64 13) hs fun _ hs => ?_
              exact wpList_nil (Wp.ret (leaveE (K := fun v _ => K v) hs (resCT (vs := [(Value.bool false), (Value.int .i64 0)]) true 0 hs rfl rfl rfl (by kernel_rfl) rfl rfl) hMM.2 (fun _ _ => hS)))
            · have hS := hS.2 hc
              refine Wp.skip (Wp.seq (Wp.seq (Wp.region (sP (Value.int .i64 n203) hs fun _ hs => ?_))))
              refine sP (Value.int .i64 steps5) hs fun _ hs => ?_
              refine sP (Value.bool ((n203 : Int) == (steps5 : Int))) hs fun _ hs => ?_
              refine wpList_nil (Wp.cond hs rfl rfl beq_iff_eq (fun hc => ?_) (fun hc => ?_))
              · have hS := hS.1 hc
                refine Wp.seq (Wp.region (sP (X_api_Outcome.mk false 0).val hs fun _ hs => ?_))
                refine stepStoreB 0 (vs := [(Value.bool false), (Value.int .i64 0)]) hs rfl rfl rfl rfl rfl rfl (by kernel_rfl) (Nat.le_of_ble_eq_true rfl) rfl (fun _ _ hs => ?_)
                replace hs := hs.chbx (bs' := [⟨b6, 74, [(Value.bool false), (Value.int .i64 0)]⟩]) rfl
                refine sP (Value.int .i64 10) hs fun _ hs => ?_
                exact wpList_nil (Wp.ret (leaveE (K := fun v _ => K v) hs (resCT (vs := [(Value.bool false), (Value.int .i64 0)]) true 0 hs rfl rfl rfl (by kernel_rfl) rfl rfl) hMM.2 (fun _ _ => hS)))
              · have hS := hS.2 hc
                refine Wp.skip (Wp.seq (Wp.region (sP (Value.slice la1 ll2 lc3) hs fun _ hs => ?_)))
                refine sP (Value.int .i64 pc200) hs fun _ hs => ?_
                obtain ⟨b207, o208, ha, h0, hl, hS⟩ := hS
                refine sY (Value.pointer (some ⟨b207, o208 + pc200.toNat * 6, none⟩)) hs (Yl.indexS (e := 95) (sz := 6) rfl rfl rfl rfl (by kernel_rfl) (by kernel_rfl) ha h0 hl) fun _ hs => ?_
                obtain ⟨x209, hat, hS⟩ := hS
                refine sY x209.val hs (Yl.loadV (vs := x209.cells) true rfl rfl (by kernel_rfl) hat) fun _ hs => ?_
                refine stepAlloc [(Value.int .i64 0), (Value.int .i64 0), (Value.int .u64 0), (Value.int .u64 0), (Value.int .u64 0), (Value.int .u64 0)] hs (by kernel_rfl) (by decide) (fun _ _ b210 hEb210 hs => ?_)
                refine stepStoreB 0 (vs := [(Value.int .i64 x209.Op), (Value.int .i64 x209.N), (Value.int .u64 x209.Set.w0), (Value.int .u64 x209.Set.w1), (Value.int .u64 x209.Set.w2), (Value.int .u64 x209.Set.w3)]) hs rfl rfl rfl rfl rfl rfl (by kernel_rfl) (Nat.le_of_ble_eq_true rfl) rfl (fun _ _ hs => ?_)
                replace hs := hs.chbx (bs' := [⟨b210, 95, [(Value.int .i64 x209.Op), (Value.int .i64 x209.N), (Value.int .u64 x209.Set.w0), (Value.int .u64 x209.Set.w1), (Value.int .u64 x209.Set.w2), (Value.int .u64 x209.Set.w3)]⟩, ⟨b6, 74, [(Value.bool false), (Value.int .i64 0)]⟩]) rfl
                refine wpList_nil (Wp.seq (Wp.region (sP (Value.int .i64 pc200) hs fun _ hs => ?_)))
                obtain ⟨hI, hS⟩ := hS
                refine sY (Value.int .i64 (pc200 + 1)) hs (Yl.eq (Yl.pure (v := Value.int .i64 (IntKind.wrap .i64 (pc200 + 1))) rfl (fun _ => by kernel_rfl)) (congrArg (Value.int .i64) (wrap_in hI))) fun _ hs => ?_
                refine sP (Value.int .i64 (pc200 + 1)) hs fun _ hs => ?_
                refine wpList_nil (Wp.seq (Wp.region (sP (Value.bool false) hs fun _ hs => ?_)))
                refine wpList_nil (Wp.seq (Wp.join (fun a w => ∃ (x219 : Bool) (M220 : Mem), MX M220 M E ∧ Sx 220 E [] M220 w a [(0, (Value.slice la1 ll2 lc3)), (1, (Value.string (mkS s4))), (2, (Value.int .i64 steps5)), (6, (Value.pointer (some ⟨b6, 0, none⟩))), (9, (Value.int .i64 (pc200 + 1))), (10, (Value.int .i64 at201)), (11, (Value.pointer top202)), (12, (Value.int .i64 n203)), (13, (Value.pointer (some ⟨b210, 0, none⟩))), (14, (Value.bool false)), (66, (Value.bool x219))] [⟨b210, 95, [(Value.int .i64 x209.Op), (Value.int .i64 x209.N), (Value.int .u64 x209.Set.w0), (Value.int .u64 x209.Set.w1), (Value.int .u64 x209.Set.w2), (Value.int .u64 x209.Set.w3)]⟩, ⟨b6, 74, [(Value.bool false), (Value.int .i64 0)]⟩] [] ∧ (S_chaffref_Machine_J2 s4 pc200 at201 top202 n203 I205 mu206 x209 x219 M220 K)) ?_ ?_))
                · refine Wp.regionD [true, true, true, true, true, true, true, true, true, true, true, true, true, true, true, true, true, true] hs (by kernel_rfl) rfl [⟨b210, 95, [(Value.int .i64 x209.Op), (Value.int .i64 x209.N), (Value.int .u64 x209.Set.w0), (Value.int .u64 x209.Set.w1), (Value.int .u64 x209.Set.w2), (Value.int .u64 x209.Set.w3)]⟩, ⟨b6, 74, [(Value.bool false), (Value.int .i64 0)]⟩] (fun _ h => h) [] (fun _ h => h) (fun _ hs hC => ?_)
                  have hL := Mem.le.refl M204
                  refine dP (Value.pointer (some ⟨b210, 0, none⟩)) 1 [2, 3, 4, 5, 6, 7, 8, 9, 10, 11, 12, 13, 14, 15, 16, 17] hs QZ.no (wanted_none rfl) fun _ hs => ?_
                  refine stepDY (v := (Value.int .i64 x209.Op)) 2 [3, 4, 5, 6, 7, 8, 9, 10, 11, 12, 13, 14, 15, 16, 17] hs hC QZ.no rfl (wanted_none rfl) rfl (by decide) (by kernel_rfl) (by kernel_rfl) (by kernel_rfl) (Yl.loadB (vs := [(Value.int .i64 x209.Op)]) false 0 rfl rfl rfl (by kernel_rfl) rfl) (fun _ hs => ?_)
                  refine stepDE 0 rfl (wanted_none rfl) (by kernel_rfl) #[] ?_
                  refine stepMake [(Value.int .i64 4), (Value.int .i64 6), (Value.int .i64 9), (Value.int .i64 10), (Value.int .i64 11)] 3 1 5 hs rfl rfl rfl (fun _ => by kernel_rfl) rfl (by unfold maxLen; decide) (by decide) (fun _ _ rv211 hs => ?_)
                  refine wpList_nil (⟨fun _ _ => hs.cxle hL (List.Sublist.refl _) (.cons _ List.Sublist.slnil), ?_⟩)
                  have hC := hs.cxle hL (List.Sublist.refl _) (.cons _ List.Sublist.slnil)
                  refine stepDE 3 rfl (wanted_none rfl) (by kernel_rfl) #[] ?_
                  obtain ⟨ad212, cap213, hv, hcp, hxl⟩ := hs.rowform 0 rfl
                  dsimp only at hv hcp hxl
                  subst hv
                  obtain ⟨M214, hle, hsl, hnew, hs⟩ := hs.release 0 rfl [] rfl
                  have hMM := hMM.next hle hnew
                  replace hL := hL.trans hle
                  have hS := hS M214 ad212 cap213 hle hsl
                  refine stepCallP [(Value.slice ad212 5 cap213), (Value.int .i64 x209.Op)] hs rfl ⟨_, rfl, rfl⟩ rfl Try.func64 rfl (by kernel_rfl) (by decide) hS (fun _ _ v hS hs => ?_)
                  obtain ⟨x215, hv, hS⟩ := hS
                  subst hv
                  refine wpList_nil (⟨fun _ _ => hs.cxle hL (List.Sublist.refl _) (List.Sublist.refl _), ?_⟩)
                  have hC := hs.cxle hL (List.Sublist.refl _) (List.Sublist.refl _)
                  refine stepDE 4 rfl (wanted_none rfl) (by kernel_rfl) #[] ?_
                  refine sP (Value.bool x215) hs fun _ hs => ?_
                  refine wpList_nil (⟨fun _ h => h, ?_⟩)
                  refine bsplit x215 Iff.rfl (fun hb hc => ?_) (fun hb hc => ?_)
                  · have hs := hs.bt hb
                    have hS := hS.1 hc
                    refine stepDE 5 rfl (wanted_yes hs rfl rfl rfl) (by kernel_rfl) #[] ?_
                    refine sP (Value.pointer top202) hs fun _ hs => ?_
                    refine wpList_nil (⟨fun _ h => h, ?_⟩)
                    refine stepDE 6 rfl (wanted_yes hs rfl rfl rfl) (by kernel_rfl) #[] ?_
                    refine sY (Value.bool top202.isNone) hs (Yl.ptrNil (e := 118) rfl (by kernel_rfl) rfl rfl) fun _ hs => ?_
                    refine wpList_nil (⟨fun _ h => h, ?_⟩)
                    refine stepDE 7 rfl (wanted_yes hs rfl rfl rfl) (by kernel_rfl) #[] ?_
                    refine sP (Value.bool top202.isNone) hs fun _ hs => ?_
                    refine wpList_nil (⟨fun _ h => h, ?_⟩)
                    refine bsplit top202.isNone Iff.rfl (fun hb hc => ?_) (fun hb hc => ?_)
                    · have hs := hs.bt hb
                      have hS := hS.1 hc
                      refine dN 8 [9, 10, 11, 15, 16, 17] hs QZ.no (wanted_no hs rfl rfl rfl rfl) fun _ hs => ?_
                      refine dN 9 [10, 11, 15, 16, 17] hs QZ.no (wanted_no hs rfl rfl rfl rfl) fun _ hs => ?_
                      refine dN 10 [11, 15, 16, 17] hs QZ.no (wanted_no hs rfl rfl rfl rfl) fun _ hs => ?_
                      refine dN 11 [15, 16, 17] hs QZ.no (wanted_no hs rfl rfl rfl rfl) fun _ hs => ?_
                      refine dN 12 [13, 14, 15, 16, 17] hs QZ.no (wanted_no hs rfl rfl rfl rfl) fun _ hs => ?_
                      refine dN 13 [14, 15, 16, 17] hs QZ.no (wanted_no hs rfl rfl rfl rfl) fun _ hs => ?_
                      refine dN 14 [15, 16, 17] hs QZ.no (wanted_no hs rfl rfl rfl rfl) fun _ hs => ?_
                      refine dN 15 [16, 17] hs QZ.no (wanted_no hs rfl rfl rfl rfl) fun _ hs => ?_
                      refine stepDE 16 rfl (wanted_yes hs rfl rfl rfl) (by kernel_rfl) #[] ?_
                      refine sP (Value.bool true) hs fun _ hs => ?_
                      refine wpList_nil (⟨fun _ h => h, ?_⟩)
                      refine stepDE 17 rfl (wanted_none rfl) (by kernel_rfl) #[] ?_
                      refine sP (Value.bool true) hs fun _ hs => ?_
                      refine wpList_nil (⟨fun _ h => h, ?_⟩)
                      refine WpD.done (by kernel_rfl) ?_ _
                      exact ⟨true, M214, hMM, (hs.weak (List.Sublist.refl _) (List.Sublist.refl _) ⟨rfl, rfl, rfl, rfl, rfl, rfl, rfl, rfl, rfl, rfl, rfl, trivial⟩), hS⟩
                    · have hs := hs.bf hb
                      have hS := hS.2 hc
                      refine dP (Value.pointer top202) 8 [9, 10, 11, 15, 16, 17] hs QZ.no (wanted_yes hs rfl rfl rfl) fun _ hs => ?_
                      obtain ⟨b216, o217, hp, hS⟩ := hS
                      refine stepDP (v := (Value.pointer (some ⟨b216, o217, none⟩))) 9 [10, 11, 15, 16, 17] hs QZ.no rfl (wanted_yes hs rfl rfl rfl) rfl (by decide) (by kernel_rfl) (by kernel_rfl) (by kernel_rfl) (Yl.nilck rfl rfl hp) (fun _ hs => ?_)
                      refine dP (Value.pointer (some ⟨b216, o217 + 2, none⟩)) 10 [11, 15, 16, 17] hs QZ.no (wanted_yes hs rfl rfl rfl) fun _ hs => ?_
                      obtain ⟨x218, hat, hS⟩ := hS
                      refine stepDY (v := (Value.bool x218)) 11 [15, 16, 17] hs hC QZ.no rfl (wanted_yes hs rfl rfl rfl) rfl (by decide) (by kernel_rfl) (by kernel_rfl) (by kernel_rfl) (Yl.loadV (vs := [(Value.bool x218)]) false rfl rfl (by kernel_rfl) hat) (fun _ hs => ?_)
                      refine stepDE 12 rfl (wanted_yes hs rfl rfl rfl) (by kernel_rfl) #[] ?_
                      refine sP (Value.pointer (some ⟨b210, 0, none⟩)) hs fun _ hs => ?_
                      refine wpList_nil (⟨fun _ h => h, ?_⟩)
                      refine stepDE 13 rfl (wanted_yes hs rfl rfl rfl) (by kernel_rfl) #[] ?_
                      refine sY (Value.int .i64 x209.Op) hs (Yl.loadB (vs := [(Value.int .i64 x209.Op)]) false 0 rfl rfl rfl (by kernel_rfl) rfl) fun _ hs => ?_
                      refine wpList_nil (⟨fun _ h => h, ?_⟩)
                      refine stepDE 14 rfl (wanted_yes hs rfl rfl rfl) (by kernel_rfl) #[] ?_
                      refine sP (Value.bool ((x209.Op : Int) == (6 : Int))) hs fun _ hs => ?_
                      refine wpList_nil (⟨fun _ h => h, ?_⟩)
                      refine stepDE 15 rfl (wanted_yes hs rfl rfl rfl) (by kernel_rfl) #[] ?_
                      refine sY (Value.bool (!(x218 == ((x209.Op : Int) == (6 : Int))))) hs (Yl.neqB rfl rfl rfl rfl (by kernel_rfl)) fun _ hs => ?_
                      refine wpList_nil (⟨fun _ h => h, ?_⟩)
                      refine stepDE 16 rfl (wanted_yes hs rfl rfl rfl) (by kernel_rfl) #[] ?_
                      refine sP (Value.bool (!(x218 == ((x209.Op : Int) == (6 : Int))))) hs fun _ hs => ?_
                      refine wpList_nil (⟨fun _ h => h, ?_⟩)
                      refine stepDE 17 rfl (wanted_none rfl) (by kernel_rfl) #[] ?_
                      refine sP (Value.bool (!(x218 == ((x209.Op : Int) == (6 : Int))))) hs fun _ hs => ?_
                      refine wpList_nil (⟨fun _ h => h, ?_⟩)
                      refine WpD.done (by kernel_rfl) ?_ _
                      exact ⟨(!(x218 == ((x209.Op : Int) == (6 : Int)))), M214, hMM, (hs.weak (List.Sublist.refl _) (List.Sublist.refl _) ⟨rfl, rfl, rfl, rfl, rfl, rfl, rfl, rfl, rfl, rfl, rfl, trivial⟩), hS⟩
                  · have hs := hs.bf hb
                    have hS := hS.2 hc
                    refine dN 5 [6, 7, 8, 9, 10, 11, 12, 13, 14, 15, 16, 17] hs QZ.no (wanted_no hs rfl rfl rfl rfl) fun _ hs => ?_
                    refine dN 6 [7, 8, 9, 10, 11, 12, 13, 14, 15, 16, 17] hs QZ.no (wanted_no hs rfl rfl rfl rfl) fun _ hs => ?_
                    refine dN 7 [8, 9, 10, 11, 12, 13, 14, 15, 16, 17] hs QZ.no (wanted_no hs rfl rfl rfl rfl) fun _ hs => ?_
                    refine dN 8 [9, 10, 11, 15, 16, 17] hs QZ.no (wanted_nou hs rfl rfl rfl) fun _ hs => ?_
                    refine dN 9 [10, 11, 15, 16, 17] hs QZ.no (wanted_nou hs rfl rfl rfl) fun _ hs => ?_
                    refine dN 10 [11, 15, 16, 17] hs QZ.no (wanted_nou hs rfl rfl rfl) fun _ hs => ?_
                    refine dN 11 [15, 16, 17] hs QZ.no (wanted_nou hs rfl rfl rfl) fun _ hs => ?_
                    refine dN 12 [13, 14, 15, 16, 17] hs QZ.no (wanted_nou hs rfl rfl rfl) fun _ hs => ?_
                    refine dN 13 [14, 15, 16, 17] hs QZ.no (wanted_nou hs rfl rfl rfl) fun _ hs => ?_
                    refine dN 14 [15, 16, 17] hs QZ.no (wanted_nou hs rfl rfl rfl) fun _ hs => ?_
                    refine dN 15 [16, 17] hs QZ.no (wanted_nou hs rfl rfl rfl) fun _ hs => ?_
                    refine dN 16 [17] hs QZ.no (wanted_no hs rfl rfl rfl rfl) fun _ hs => ?_
                    refine stepDE 17 rfl (wanted_none rfl) (by kernel_rfl) #[] ?_
                    refine sP (Value.bool false) hs fun _ hs => ?_
                    refine wpList_nil (⟨fun _ h => h, ?_⟩)
                    refine WpD.done (by kernel_rfl) ?_ _
                    exact ⟨false, M214, hMM, (hs.weak (List.Sublist.refl _) (List.Sublist.refl _) ⟨rfl, rfl, rfl, rfl, rfl, rfl, rfl, rfl, rfl, rfl, rfl, trivial⟩), hS⟩
                · intro a w hJ
                  obtain ⟨x219, M220, hMM, hs, hS⟩ := hJ
                  unfold S_chaffref_Machine_J2 at hS
                  refine Wp.cond hs rfl rfl Iff.rfl (fun hc => ?_) (fun hc => ?_)
                  · have hS := hS.1 hc
                    refine Wp.seq (Wp.region (sP (X_api_Outcome.mk false 0).val hs fun _ hs => ?_))
                    refine stepStoreB 1 (vs := [(Value.bool false), (Value.int .i64 0)]) hs rfl rfl rfl rfl rfl rfl (by kernel_rfl) (Nat.le_of_ble_eq_true rfl) rfl (fun _ _ hs => ?_)
                    replace hs := hs.chbx (bs' := [⟨b210, 95, [(Value.int .i64 x209.Op), (Value.int .i64 x209.N), (Value.int .u64 x209.Set.w0), (Value.int .u64 x209.Set.w1), (Value.int .u64 x209.Set.w2), (Value.int .u64 x209.Set.w3)]⟩, ⟨b6, 74, [(Value.bool false), (Value.int .i64 0)]⟩]) rfl
                    refine sP (Value.int .i64 13) hs fun _ hs => ?_
                    exact wpList_nil (Wp.ret (leaveE (K := fun v _ => K v) hs (resCT (vs := [(Value.bool false), (Value.int .i64 0)]) true 1 hs rfl rfl rfl (by kernel_rfl) rfl rfl) hMM.2 (fun _ _ => hS)))
                  · have hS := hS.2 hc
                    refine Wp.skip (Wp.seq (Wp.join (fun a w => ∃ (x227 : Bool), Sx 220 E [] M220 w a [(0, (Value.slice la1 ll2 lc3)), (1, (Value.string (mkS s4))), (2, (Value.int .i64 steps5)), (6, (Value.pointer (some ⟨b6, 0, none⟩))), (9, (Value.int .i64 (pc200 + 1))), (10, (Value.int .i64 at201)), (11, (Value.pointer top202)), (12, (Value.int .i64 n203)), (13, (Value.pointer (some ⟨b210, 0, none⟩))), (14, (Value.bool false)), (86, (Value.bool x227))] [⟨b210, 95, [(Value.int .i64 x209.Op), (Value.int .i64 x209.N), (Value.int .u64 x209.Set.w0), (Value.int .u64 x209.Set.w1), (Value.int .u64 x209.Set.w2), (Value.int .u64 x209.Set.w3)]⟩, ⟨b6, 74, [(Value.bool false), (Value.int .i64 0)]⟩] [] ∧ (S_chaffref_Machine_J3 s4 pc200 at201 top202 n203 I205 mu206 x209 M220 x227 K)) ?_ ?_))
                    · refine Wp.region (sP (Value.pointer (some ⟨b210, 0, none⟩)) hs fun _ hs => ?_)
                      refine sY (Value.int .i64 x209.Op) hs (Yl.loadB (vs := [(Value.int .i64 x209.Op)]) false 0 rfl rfl rfl (by kernel_rfl) rfl) fun _ hs => ?_
                      refine sP (Value.bool ((x209.Op : Int) == (3 : Int))) hs fun _ hs => ?_
                      refine sP (Value.bool ((x209.Op : Int) == (3 : Int))) hs fun _ hs => ?_
                      refine bsplit ((x209.Op : Int) == (3 : Int)) beq_iff_eq (fun hb hc => ?_) (fun hb hc => ?_)
                      · have hs := hs.bt hb
                        have hS := hS.1 hc
                        refine sNo hs fun _ hs => ?_
                        refine sNo hs fun _ hs => ?_
                        refine sNo hs fun _ hs => ?_
                        refine sP (Value.bool true) hs fun _ hs => ?_
                        refine sP (Value.bool true) hs fun _ hs => ?_
                        refine sYe hs (sP (Value.pointer top202) hs fun _ hs => ?_)
                        refine sYe hs (sY (Value.bool (!top202.isNone)) hs (Yl.ptrNotNil (e := 118) rfl (by kernel_rfl) rfl rfl) fun _ hs => ?_)
                        refine sP (Value.bool (!top202.isNone)) hs fun _ hs => ?_
                        refine sP (Value.bool (!top202.isNone)) hs fun _ hs => ?_
                        refine bsplit (!top202.isNone) (bnot_iff Iff.rfl) (fun hb hc => ?_) (fun hb hc => ?_)
                        · have hs := hs.bt hb
                          have hS := hS.1 hc
                          refine sYe hs (sP (Value.pointer top202) hs fun _ hs => ?_)
                          refine sYe hs ?_
                          obtain ⟨b221, o222, hp, hS⟩ := hS
                          refine sY (Value.pointer (some ⟨b221, o222, none⟩)) hs (Yl.nilck rfl rfl hp) fun _ hs => ?_
                          refine sYe hs (sP (Value.pointer (some ⟨b221, o222 + 4, none⟩)) hs fun _ hs => ?_)
                          refine sYe hs ?_
                          obtain ⟨x223, hat, hS⟩ := hS
                          refine sY (Value.int .i64 x223) hs (Yl.loadV (vs := [(Value.int .i64 x223)]) false rfl rfl (by kernel_rfl) hat) fun _ hs => ?_
                          refine sYe hs (sP (Value.bool ((x223 : Int) == (10000 : Int))) hs fun _ hs => ?_)
                          refine sP (Value.bool ((x223 : Int) == (10000 : Int))) hs fun _ hs => ?_
                          exact wpList_nil (⟨((x223 : Int) == (10000 : Int)), (hs.weak (List.Sublist.refl _) (List.Sublist.refl _) ⟨rfl, rfl, rfl, rfl, rfl, rfl, rfl, rfl, rfl, rfl, rfl, trivial⟩), hS⟩)
                        · have hs := hs.bf hb
                          have hS := hS.2 hc
                          refine sNo hs fun _ hs => ?_
                          refine sNo hs fun _ hs => ?_
                          refine sNo hs fun _ hs => ?_
                          refine sNo hs fun _ hs => ?_
                          refine sNo hs fun _ hs => ?_
                          refine sP (Value.bool false) hs fun _ hs => ?_
                          exact wpList_nil (⟨false, (hs.weak (List.Sublist.refl _) (List.Sublist.refl _) ⟨rfl, rfl, rfl, rfl, rfl, rfl, rfl, rfl, rfl, rfl, rfl, trivial⟩), hS⟩)
                      · have hs := hs.bf hb
                        have hS := hS.2 hc
                        refine sYe hs (sP (Value.pointer (some ⟨b210, 0, none⟩)) hs fun _ hs => ?_)
                        refine sYe hs (sY (Value.int .i64 x209.Op) hs (Yl.loadB (vs := [(Value.int .i64 x209.Op)]) false 0 rfl rfl rfl (by kernel_rfl) rfl) fun _ hs => ?_)
                        refine sYe hs (sP (Value.bool ((x209.Op : Int) == (5 : Int))) hs fun _ hs => ?_)
                        refine sP (Value.bool ((x209.Op : Int) == (5 : Int))) hs fun _ hs => ?_
                        refine sP (Value.bool ((x209.Op : Int) == (5 : Int))) hs fun _ hs => ?_
                        refine bsplit ((x209.Op : Int) == (5 : Int)) beq_iff_eq (fun hb hc => ?_) (fun hb hc => ?_)
                        · have hs := hs.bt hb
                          have hS := hS.1 hc
                          refine sYe hs (sP (Value.pointer top202) hs fun _ hs => ?_)
                          refine sYe hs (sY (Value.bool (!top202.isNone)) hs (Yl.ptrNotNil (e := 118) rfl (by kernel_rfl) rfl rfl) fun _ hs => ?_)
                          refine sP (Value.bool (!top202.isNone)) hs fun _ hs => ?_
                          refine sP (Value.bool (!top202.isNone)) hs fun _ hs => ?_
                          refine bsplit (!top202.isNone) (bnot_iff Iff.rfl) (fun hb hc => ?_) (fun hb hc => ?_)
                          · have hs := hs.bt hb
                            have hS := hS.1 hc
                            refine sYe hs (sP (Value.pointer top202) hs fun _ hs => ?_)
                            refine sYe hs ?_
                            obtain ⟨b224, o225, hp, hS⟩ := hS
                            refine sY (Value.pointer (some ⟨b224, o225, none⟩)) hs (Yl.nilck rfl rfl hp) fun _ hs => ?_
                            refine sYe hs (sP (Value.pointer (some ⟨b224, o225 + 4, none⟩)) hs fun _ hs => ?_)
                            refine sYe hs ?_
                            obtain ⟨x226, hat, hS⟩ := hS
                            refine sY (Value.int .i64 x226) hs (Yl.loadV (vs := [(Value.int .i64 x226)]) false rfl rfl (by kernel_rfl) hat) fun _ hs => ?_
                            refine sYe hs (sP (Value.bool ((x226 : Int) == (10000 : Int))) hs fun _ hs => ?_)
                            refine sP (Value.bool ((x226 : Int) == (10000 : Int))) hs fun _ hs => ?_
                            exact wpList_nil (⟨((x226 : Int) == (10000 : Int)), (hs.weak (List.Sublist.refl _) (List.Sublist.refl _) ⟨rfl, rfl, rfl, rfl, rfl, rfl, rfl, rfl, rfl, rfl, rfl, trivial⟩), hS⟩)
                          · have hs := hs.bf hb
                            have hS := hS.2 hc
                            refine sNo hs fun _ hs => ?_
                            refine sNo hs fun _ hs => ?_
                            refine sNo hs fun _ hs => ?_
                            refine sNo hs fun _ hs => ?_
                            refine sNo hs fun _ hs => ?_
                            refine sP (Value.bool false) hs fun _ hs => ?_
                            exact wpList_nil (⟨false, (hs.weak (List.Sublist.refl _) (List.Sublist.refl _) ⟨rfl, rfl, rfl, rfl, rfl, rfl, rfl, rfl, rfl, rfl, rfl, trivial⟩), hS⟩)
                        · have hs := hs.bf hb
                          have hS := hS.2 hc
                          refine sNo hs fun _ hs => ?_
                          refine sNo hs fun _ hs => ?_
                          refine sP (Value.bool false) hs fun _ hs => ?_
                          refine sP (Value.bool false) hs fun _ hs => ?_
                          refine sNo hs fun _ hs => ?_
                          refine sNo hs fun _ hs => ?_
                          refine sNo hs fun _ hs => ?_
                          refine sNo hs fun _ hs => ?_
                          refine sNo hs fun _ hs => ?_
                          refine sP (Value.bool false) hs fun _ hs => ?_
                          exact wpList_nil (⟨false, (hs.weak (List.Sublist.refl _) (List.Sublist.refl _) ⟨rfl, rfl, rfl, rfl, rfl, rfl, rfl, rfl, rfl, rfl, rfl, trivial⟩), hS⟩)
                    · intro a w hJ
                      obtain ⟨x227, hs, hS⟩ := hJ
                      unfold S_chaffref_Machine_J3 at hS
                      refine Wp.cond hs rfl rfl Iff.rfl (fun hc => ?_) (fun hc => ?_)
                      · have hS := hS.1 hc
                        refine Wp.seq (Wp.region (sP (X_api_Outcome.mk false 0).val hs fun _ hs => ?_))
                        refine stepStoreB 1 (vs := [(Value.bool false), (Value.int .i64 0)]) hs rfl rfl rfl rfl rfl rfl (by kernel_rfl) (Nat.le_of_ble_eq_true rfl) rfl (fun _ _ hs => ?_)
                        replace hs := hs.chbx (bs' := [⟨b210, 95, [(Value.int .i64 x209.Op), (Value.int .i64 x209.N), (Value.int .u64 x209.Set.w0), (Value.int .u64 x209.Set.w1), (Value.int .u64 x209.Set.w2), (Value.int .u64 x209.Set.w3)]⟩, ⟨b6, 74, [(Value.bool false), (Value.int .i64 0)]⟩]) rfl
                        refine sP (Value.int .i64 14) hs fun _ hs => ?_
                        exact wpList_nil (Wp.ret (leaveE (K := fun v _ => K v) hs (resCT (vs := [(Value.bool false), (Value.int .i64 0)]) true 1 hs rfl rfl rfl (by kernel_rfl) rfl rfl) hMM.2 (fun _ _ => hS)))
                      · have hS := hS.2 hc
                        refine Wp.skip (Wp.join (fun a w => ∃ (pc261 : Int) (at262 : Int) (top263 : Option Addr) (fails264 : Bool) (M265 : Mem), MX M265 M E ∧ Sx 220 E [] M265 w a [(0, (Value.slice la1 ll2 lc3)), (1, (Value.string (mkS s4))), (2, (Value.int .i64 steps5)), (6, (Value.pointer (some ⟨b6, 0, none⟩))), (9, (Value.int .i64 pc261)), (10, (Value.int .i64 at262)), (11, (Value.pointer top263)), (12, (Value.int .i64 n203)), (14, (Value.bool fails264))] [⟨b210, 95, [(Value.int .i64 x209.Op), (Value.int .i64 x209.N), (Value.int .u64 x209.Set.w0), (Value.int .u64 x209.Set.w1), (Value.int .u64 x209.Set.w2), (Value.int .u64 x209.Set.w3)]⟩, ⟨b6, 74, [(Value.bool false), (Value.int .i64 0)]⟩] [] ∧ (S_chaffref_Machine_J5 pc200 at201 top202 n203 I205 mu206 pc261 at262 top263 fails264 M265 K)) ?_ ?_)
                        · refine Wp.seq (Wp.region (sP (Value.pointer (some ⟨b210, 0, none⟩)) hs fun _ hs => ?_))
                          refine sY (Value.int .i64 x209.Op) hs (Yl.loadB (vs := [(Value.int .i64 x209.Op)]) false 0 rfl rfl rfl (by kernel_rfl) rfl) fun _ hs => ?_
                          refine wpList_nil (Wp.block (Wp.seq (Wp.region (sP (Value.bool ((x209.Op : Int) == (1 : Int))) hs fun _ hs => ?_))))
                          refine sP (Value.bool ((x209.Op : Int) == (1 : Int))) hs fun _ hs => ?_
                          refine wpList_nil (Wp.cond hs rfl rfl beq_iff_eq (fun hc => ?_) (fun hc => ?_))
                          · have hS := hS.1 hc
                            refine Wp.join (fun a w => ∃ (fails230 : Bool), Sx 220 E [] M220 w a [(0, (Value.slice la1 ll2 lc3)), (1, (Value.string (mkS s4))), (2, (Value.int .i64 steps5)), (6, (Value.pointer (some ⟨b6, 0, none⟩))), (9, (Value.int .i64 (pc200 + 1))), (10, (Value.int .i64 at201)), (11, (Value.pointer top202)), (12, (Value.int .i64 n203)), (14, (Value.bool fails230))] [⟨b210, 95, [(Value.int .i64 x209.Op), (Value.int .i64 x209.N), (Value.int .u64 x209.Set.w0), (Value.int .u64 x209.Set.w1), (Value.int .u64 x209.Set.w2), (Value.int .u64 x209.Set.w3)]⟩, ⟨b6, 74, [(Value.bool false), (Value.int .i64 0)]⟩] [] ∧ (S_chaffref_Machine_J4 pc200 at201 top202 n203 I205 mu206 M220 fails230 K)) ?_ ?_
                            · refine Wp.regionD [true, true, true, true, true, true, true, true, true, true, true, true, true, true, true, true, true, true, true] hs (by kernel_rfl) rfl [⟨b210, 95, [(Value.int .i64 x209.Op), (Value.int .i64 x209.N), (Value.int .u64 x209.Set.w0), (Value.int .u64 x209.Set.w1), (Value.int .u64 x209.Set.w2), (Value.int .u64 x209.Set.w3)]⟩, ⟨b6, 74, [(Value.bool false), (Value.int .i64 0)]⟩] (fun _ h => h) [] (fun _ h => h) (fun _ hs hC => ?_)
                              have hL := Mem.le.refl M220
                              refine dP (Value.int .i64 at201) 0 [3, 4, 5, 6, 7, 8, 9, 10, 11, 12, 13, 14, 15, 16, 17, 18] hs QZ.no (wanted_none rfl) fun _ hs => ?_
                              refine stepDE 1 rfl (wanted_none rfl) (by kernel_rfl) #[] ?_
                              refine sP (Value.string (mkS s4)) hs fun _ hs => ?_
                              refine wpList_nil (⟨fun _ h => h, ?_⟩)
                              refine stepDE 2 rfl (wanted_none rfl) (by kernel_rfl) #[] ?_
                              refine sP (Value.int .i64 ((s4.length : Nat) : Int)) hs fun _ hs => ?_
                              refine wpList_nil (⟨fun _ h => h, ?_⟩)
                              refine stepDE 3 rfl (wanted_none rfl) (by kernel_rfl) #[] ?_
                              refine sP (Value.bool (decide (at201 ≥ ((s4.length : Nat) : Int)))) hs fun _ hs => ?_
                              refine wpList_nil (⟨fun _ h => h, ?_⟩)
                              refine stepDE 4 rfl (wanted_none rfl) (by kernel_rfl) #[] ?_
                              refine sP (Value.bool (decide (at201 ≥ ((s4.length : Nat) : Int)))) hs fun _ hs => ?_
                              refine wpList_nil (⟨fun _ h => h, ?_⟩)
                              refine bsplit (decide (at201 ≥ ((s4.length : Nat) : Int))) decide_eq_true_iff (fun hb hc => ?_) (fun hb hc => ?_)
                              · have hs := hs.bt hb
                                have hS := hS.1 hc
                                refine dN 5 [6, 15, 16, 17, 18] hs QZ.no (wanted_no hs rfl rfl rfl rfl) fun _ hs => ?_
                                refine dN 6 [15, 16, 17, 18] hs QZ.no (wanted_no hs rfl rfl rfl rfl) fun _ hs => ?_
                                refine dN 7 [13, 14, 15, 16, 17, 18] hs QZ.no (wanted_no hs rfl rfl rfl rfl) fun _ hs => ?_
                                refine dN 8 [12, 13, 14, 15, 16, 17, 18] hs QZ.no (wanted_no hs rfl rfl rfl rfl) fun _ hs => ?_
                                refine dN 9 [10, 11, 12, 13, 14, 15, 16, 17, 18] hs QZ.no (wanted_no hs rfl rfl rfl rfl) fun _ hs => ?_
                                refine dN 10 [11, 12, 13, 14, 15, 16, 17, 18] hs QZ.no (wanted_no hs rfl rfl rfl rfl) fun _ hs => ?_
                                refine dN 11 [12, 13, 14, 15, 16, 17, 18] hs QZ.no (wanted_no hs rfl rfl rfl rfl) fun _ hs => ?_
                                refine dN 12 [13, 14, 15, 16, 17, 18] hs QZ.no (wanted_no hs rfl rfl rfl rfl) fun _ hs => ?_
                                refine dN 13 [14, 15, 16, 17, 18] hs QZ.no (wanted_no hs rfl rfl rfl rfl) fun _ hs => ?_
                                refine dN 14 [15, 16, 17, 18] hs QZ.no (wanted_no hs rfl rfl rfl rfl) fun _ hs => ?_
                                refine dN 15 [16, 17, 18] hs QZ.no (wanted_no hs rfl rfl rfl rfl) fun _ hs => ?_
                                refine dN 16 [17, 18] hs QZ.no (wanted_no hs rfl rfl rfl rfl) fun _ hs => ?_
                                refine stepDE 17 rfl (wanted_none rfl) (by kernel_rfl) #[] ?_
                                refine sP (Value.bool true) hs fun _ hs => ?_
                                refine wpList_nil (⟨fun _ h => h, ?_⟩)
                                refine stepDE 18 rfl (wanted_none rfl) (by kernel_rfl) #[] ?_
                                refine sP (Value.bool true) hs fun _ hs => ?_
                                refine wpList_nil (⟨fun _ h => h, ?_⟩)
                                refine WpD.done (by kernel_rfl) ?_ _
                                exact ⟨true, (hs.weak (List.Sublist.refl _) (List.Sublist.refl _) ⟨rfl, rfl, rfl, rfl, rfl, rfl, rfl, rfl, rfl, trivial⟩), hS⟩
                              · have hs := hs.bf hb
                                have hS := hS.2 hc
                                refine dP (Value.pointer (some ⟨b210, 2, none⟩)) 5 [6, 15, 16, 17, 18] hs QZ.no (wanted_yes hs rfl rfl rfl) fun _ hs => ?_
                                refine stepDY (v := x209.Set.val) 6 [15, 16, 17, 18] hs hC QZ.no rfl (wanted_yes hs rfl rfl rfl) rfl (by decide) (by kernel_rfl) (by kernel_rfl) (by kernel_rfl) (Yl.loadB (vs := x209.Set.cells) true 0 rfl rfl rfl (by kernel_rfl) rfl) (fun _ hs => ?_)
                                refine dP (Value.string (mkS s4)) 7 [13, 14, 15, 16, 17, 18] hs QZ.no (wanted_yes hs rfl rfl rfl) fun _ hs => ?_
                                refine dP (Value.int .i64 at201) 8 [12, 13, 14, 15, 16, 17, 18] hs QZ.no (wanted_yes hs rfl rfl rfl) fun _ hs => ?_
                                refine stepDE 9 rfl (wanted_yes hs rfl rfl rfl) (by kernel_rfl) #[] ?_
                                refine sP (Value.string (mkS s4)) hs fun _ hs => ?_
                                refine wpList_nil (⟨fun _ h => h, ?_⟩)
                                refine stepDE 10 rfl (wanted_yes hs rfl rfl rfl) (by kernel_rfl) #[] ?_
                                refine sP (Value.int .i64 ((s4.length : Nat) : Int)) hs fun _ hs => ?_
                                refine wpList_nil (⟨fun _ h => h, ?_⟩)
                                refine stepDE 11 rfl (wanted_yes hs rfl rfl rfl) (by kernel_rfl) #[] ?_
                                obtain ⟨hI, hS⟩ := hS
                                refine sY (Value.int .i64 (((s4.length : Nat) : Int) - 1)) hs (Yl.eq (Yl.pure (v := Value.int .i64 (IntKind.wrap .i64 (((s4.length : Nat) : Int) - 1))) rfl (fun _ => by kernel_rfl)) (congrArg (Value.int .i64) (wrap_in hI))) fun _ hs => ?_
                                refine wpList_nil (⟨fun _ h => h, ?_⟩)
                                refine stepDE 12 rfl (wanted_yes hs rfl rfl rfl) (by kernel_rfl) #[] ?_
                                refine sP (Value.int .i64 (if ((s4.length : Nat) : Int) - 1 < at201 then ((s4.length : Nat) : Int) - 1 else at201)) hs fun _ hs => ?_
                                refine wpList_nil (⟨fun _ h => h, ?_⟩)
                                refine stepDE 13 rfl (wanted_yes hs rfl rfl rfl) (by kernel_rfl) #[] ?_
                                obtain ⟨c228, h0, hi, hS⟩ := hS
                                refine sY (Value.int .u8 (c228.toNat : Int)) hs (Yl.indexStr rfl rfl rfl rfl (by kernel_rfl) h0 hi) fun _ hs => ?_
                                refine wpList_nil (⟨fun _ h => h, ?_⟩)
                                refine stepDE 14 rfl (wanted_yes hs rfl rfl rfl) (by kernel_rfl) #[] ?_
                                refine sP (Value.int .i64 (IntKind.wrap .i64 (c228.toNat : Int))) hs fun _ hs => ?_
                                refine wpList_nil (⟨fun _ h => h, ?_⟩)
                                refine stepDE 15 rfl (wanted_yes hs rfl rfl rfl) (by kernel_rfl) #[] ?_
                                refine stepCallP [x209.Set.val, (Value.int .i64 (IntKind.wrap .i64 (c228.toNat : Int)))] hs rfl ⟨_, rfl, rfl⟩ rfl Try.func18 rfl (by kernel_rfl) (by decide) hS (fun _ _ v hS hs => ?_)
                                obtain ⟨x229, hv, hS⟩ := hS
                                subst hv
                                refine wpList_nil (⟨fun _ _ => hs.cxle hL (List.Sublist.refl _) (List.Sublist.refl _), ?_⟩)
                                have hC := hs.cxle hL (List.Sublist.refl _) (List.Sublist.refl _)
                                refine stepDE 16 rfl (wanted_yes hs rfl rfl rfl) (by kernel_rfl) #[] ?_
                                refine sP (Value.bool (!x229)) hs fun _ hs => ?_
                                refine wpList_nil (⟨fun _ h => h, ?_⟩)
                                refine stepDE 17 rfl (wanted_none rfl) (by kernel_rfl) #[] ?_
                                refine sP (Value.bool (!x229)) hs fun _ hs => ?_
                                refine wpList_nil (⟨fun _ h => h, ?_⟩)
                                refine stepDE 18 rfl (wanted_none rfl) (by kernel_rfl) #[] ?_
                                refine sP (Value.bool (!x229)) hs fun _ hs => ?_
                                refine wpList_nil (⟨fun _ h => h, ?_⟩)
                                refine WpD.done (by kernel_rfl) ?_ _
                                exact ⟨(!x229), (hs.weak (List.Sublist.refl _) (List.Sublist.refl _) ⟨rfl, rfl, rfl, rfl, rfl, rfl, rfl, rfl, rfl, trivial⟩), hS⟩
                            · intro a w hJ
                              obtain ⟨fails230, hs, hS⟩ := hJ
                              unfold S_chaffref_Machine_J4 at hS
                              refine Wp.region (sP (Value.int .i64 at201) hs fun _ hs => ?_)
                              obtain ⟨hI, hS⟩ := hS
                              refine sY (Value.int .i64 (at201 + 1)) hs (Yl.eq (Yl.pure (v := Value.int .i64 (IntKind.wrap .i64 (at201 + 1))) rfl (fun _ => by kernel_rfl)) (congrArg (Value.int .i64) (wrap_in hI))) fun _ hs => ?_
                              refine sP (Value.int .i64 (at201 + 1)) hs fun _ hs => ?_
                              exact wpList_nil (⟨(pc200 + 1), (at201 + 1), top202, fails230, M220, hMM, (hs.weak (List.Sublist.refl _) (List.Sublist.refl _) ⟨rfl, rfl, rfl, rfl, rfl, rfl, rfl, rfl, rfl, trivial⟩), hS⟩)
                          · have hS := hS.2 hc
                            refine Wp.seq (Wp.region (sP (Value.bool ((x209.Op : Int) == (2 : Int))) hs fun _ hs => ?_))
                            refine sP (Value.bool ((x209.Op : Int) == (2 : Int))) hs fun _ hs => ?_
                            refine wpList_nil (Wp.cond hs rfl rfl beq_iff_eq (fun hc => ?_) (fun hc => ?_))
                            · have hS := hS.1 hc
                              refine Wp.region (sP (Value.pointer (some ⟨b210, 1, none⟩)) hs fun _ hs => ?_)
                              refine sY (Value.int .i64 x209.N) hs (Yl.loadB (vs := [(Value.int .i64 x209.N)]) false 0 rfl rfl rfl (by kernel_rfl) rfl) fun _ hs => ?_
                              refine sP (Value.int .i64 x209.N) hs fun _ hs => ?_
                              exact wpList_nil (⟨x209.N, at201, top202, false, M220, hMM, (hs.weak (List.Sublist.refl _) (List.Sublist.refl _) ⟨rfl, rfl, rfl, rfl, rfl, rfl, rfl, rfl, rfl, trivial⟩), hS⟩)
                            · have hS := hS.2 hc
                              refine Wp.seq (Wp.region (sP (Value.bool ((x209.Op : Int) == (3 : Int))) hs fun _ hs => ?_))
                              refine sP (Value.bool ((x209.Op : Int) == (3 : Int))) hs fun _ hs => ?_
                              refine wpList_nil (Wp.cond hs rfl rfl beq_iff_eq (fun hc => ?_) (fun hc => ?_))
                              · have hS := hS.1 hc
                                refine Wp.region (sP (Value.pointer top202) hs fun _ hs => ?_)
                                refine sP (Value.pointer (some ⟨b210, 1, none⟩)) hs fun _ hs => ?_
                                refine sY (Value.int .i64 x209.N) hs (Yl.loadB (vs := [(Value.int .i64 x209.N)]) false 0 rfl rfl rfl (by kernel_rfl) rfl) fun _ hs => ?_
                                refine sP (Value.int .i64 at201) hs fun _ hs => ?_
                                refine stepCallE [(Value.pointer top202), (Value.int .i64 x209.N), (Value.int .i64 at201), (Value.bool false)] hs rfl ⟨_, rfl, rfl⟩ rfl Try.func75 rfl (by kernel_rfl) (by decide) hS (fun _ _ M232 v hle hnew hS hs => ?_)
                                have hMM := hMM.next hle hnew
                                obtain ⟨x231, hv, hS⟩ := hS
                                subst hv
                                refine sP (Value.pointer x231) hs fun _ hs => ?_
                                exact wpList_nil (⟨(pc200 + 1), at201, x231, false, M232, hMM, (hs.weak (List.Sublist.refl _) (List.Sublist.refl _) ⟨rfl, rfl, rfl, rfl, rfl, rfl, rfl, rfl, rfl, trivial⟩), hS⟩)
                              · have hS := hS.2 hc
                                refine Wp.seq (Wp.region (sP (Value.bool ((x209.Op : Int) == (4 : Int))) hs fun _ hs => ?_))
                                refine sP (Value.bool ((x209.Op : Int) == (4 : Int))) hs fun _ hs => ?_
                                refine wpList_nil (Wp.cond hs rfl rfl beq_iff_eq (fun hc => ?_) (fun hc => ?_))
                                · have hS := hS.1 hc
                                  refine Wp.regionD [true, true, true, true, true, true, true, true] hs (by kernel_rfl) rfl [⟨b210, 95, [(Value.int .i64 x209.Op), (Value.int .i64 x209.N), (Value.int .u64 x209.Set.w0), (Value.int .u64 x209.Set.w1), (Value.int .u64 x209.Set.w2), (Value.int .u64 x209.Set.w3)]⟩, ⟨b6, 74, [(Value.bool false), (Value.int .i64 0)]⟩] (fun _ h => h) [] (fun _ h => h) (fun _ hs hC => ?_)
                                  have hL := Mem.le.refl M220
                                  refine dP (Value.pointer top202) 0 [1, 2, 3, 6, 7] hs QZ.no (wanted_none rfl) fun _ hs => ?_
                                  obtain ⟨b233, o234, hp, hS⟩ := hS
                                  refine stepDP (v := (Value.pointer (some ⟨b233, o234, none⟩))) 1 [2, 3, 6, 7] hs QZ.no rfl (wanted_none rfl) rfl (by decide) (by kernel_rfl) (by kernel_rfl) (by kernel_rfl) (Yl.nilck rfl rfl hp) (fun _ hs => ?_)
                                  refine dP (Value.pointer (some ⟨b233, o234 + 3, none⟩)) 2 [3, 6, 7] hs QZ.no (wanted_none rfl) fun _ hs => ?_
                                  obtain ⟨x235, hat, hS⟩ := hS
                                  refine stepDY (v := (Value.pointer x235)) 3 [6, 7] hs hC QZ.no rfl (wanted_none rfl) rfl (by decide) (by kernel_rfl) (by kernel_rfl) (by kernel_rfl) (Yl.loadV (vs := [(Value.pointer x235)]) false rfl rfl (by kernel_rfl) hat) (fun _ hs => ?_)
                                  refine dP (Value.pointer (some ⟨b210, 1, none⟩)) 4 [5, 7] hs QZ.no (wanted_none rfl) fun _ hs => ?_
                                  refine stepDY (v := (Value.int .i64 x209.N)) 5 [7] hs hC QZ.no rfl (wanted_none rfl) rfl (by decide) (by kernel_rfl) (by kernel_rfl) (by kernel_rfl) (Yl.loadB (vs := [(Value.int .i64 x209.N)]) false 0 rfl rfl rfl (by kernel_rfl) rfl) (fun _ hs => ?_)
                                  refine stepDE 6 rfl (wanted_none rfl) (by kernel_rfl) #[] ?_
                                  refine sP (Value.pointer x235) hs fun _ hs => ?_
                                  refine wpList_nil (⟨fun _ h => h, ?_⟩)
                                  refine stepDE 7 rfl (wanted_none rfl) (by kernel_rfl) #[] ?_
                                  refine sP (Value.int .i64 x209.N) hs fun _ hs => ?_
                                  refine wpList_nil (⟨fun _ h => h, ?_⟩)
                                  refine WpD.done (by kernel_rfl) ?_ _
                                  exact ⟨x209.N, at201, x235, false, M220, hMM, (hs.weak (List.Sublist.refl _) (List.Sublist.refl _) ⟨rfl, rfl, rfl, rfl, rfl, rfl, rfl, rfl, rfl, trivial⟩), hS⟩
                                · have hS := hS.2 hc
                                  refine Wp.seq (Wp.region (sP (Value.bool ((x209.Op : Int) == (5 : Int))) hs fun _ hs => ?_))
                                  refine sP (Value.bool ((x209.Op : Int) == (5 : Int))) hs fun _ hs => ?_
                                  refine wpList_nil (Wp.cond hs rfl rfl beq_iff_eq (fun hc => ?_) (fun hc => ?_))
                                  · have hS := hS.1 hc
                                    refine Wp.regionD [true, true, true, true, true, true, true] hs (by kernel_rfl) rfl [⟨b210, 95, [(Value.int .i64 x209.Op), (Value.int .i64 x209.N), (Value.int .u64 x209.Set.w0), (Value.int .u64 x209.Set.w1), (Value.int .u64 x209.Set.w2), (Value.int .u64 x209.Set.w3)]⟩, ⟨b6, 74, [(Value.bool false), (Value.int .i64 0)]⟩] (fun _ h => h) [] (fun _ h => h) (fun _ hs hC => ?_)
                                    have hL := Mem.le.refl M220
                                    refine dP (Value.pointer top202) 0 [2, 5, 6] hs QZ.no (wanted_none rfl) fun _ hs => ?_
                                    refine dP (Value.int .i64 (pc200 + 1)) 1 [2, 5, 6] hs QZ.no (wanted_none rfl) fun _ hs => ?_
                                    refine dP (Value.pointer (some ⟨b210, 1, none⟩)) 3 [4, 6] hs QZ.no (wanted_none rfl) fun _ hs => ?_
                                    refine stepDY (v := (Value.int .i64 x209.N)) 4 [6] hs hC QZ.no rfl (wanted_none rfl) rfl (by decide) (by kernel_rfl) (by kernel_rfl) (by kernel_rfl) (Yl.loadB (vs := [(Value.int .i64 x209.N)]) false 0 rfl rfl rfl (by kernel_rfl) rfl) (fun _ hs => ?_)
                                    refine stepDE 2 rfl (wanted_none rfl) (by kernel_rfl) #[] ?_
                                    refine stepCallE [(Value.pointer top202), (Value.int .i64 (pc200 + 1)), (Value.int .i64 0), (Value.bool true)] hs rfl ⟨_, rfl, rfl⟩ rfl Try.func75 rfl (by kernel_rfl) (by decide) hS (fun _ _ M237 v hle hnew hS hs => ?_)
                                    have hMM := hMM.next hle hnew
                                    replace hL := hL.trans hle
                                    obtain ⟨x236, hv, hS⟩ := hS
                                    subst hv
                                    refine wpList_nil (⟨fun _ _ => hs.cxle hL (List.Sublist.refl _) (List.Sublist.refl _), ?_⟩)
                                    have hC := hs.cxle hL (List.Sublist.refl _) (List.Sublist.refl _)
                                    refine stepDE 5 rfl (wanted_none rfl) (by kernel_rfl) #[] ?_
                                    refine sP (Value.pointer x236) hs fun _ hs => ?_
                                    refine wpList_nil (⟨fun _ h => h, ?_⟩)
                                    refine stepDE 6 rfl (wanted_none rfl) (by kernel_rfl) #[] ?_
                                    refine sP (Value.int .i64 x209.N) hs fun _ hs => ?_
                                    refine wpList_nil (⟨fun _ h => h, ?_⟩)
                                    refine WpD.done (by kernel_rfl) ?_ _
                                    exact ⟨x209.N, at201, x236, false, M237, hMM, (hs.weak (List.Sublist.refl _) (List.Sublist.refl _) ⟨rfl, rfl, rfl, rfl, rfl, rfl, rfl, rfl, rfl, trivial⟩), hS⟩
                                  · have hS := hS.2 hc
                                    refine Wp.seq (Wp.region (sP (Value.bool ((x209.Op : Int) == (6 : Int))) hs fun _ hs => ?_))
                                    refine sP (Value.bool ((x209.Op : Int) == (6 : Int))) hs fun _ hs => ?_
                                    refine wpList_nil (Wp.cond hs rfl rfl beq_iff_eq (fun hc => ?_) (fun hc => ?_))
                                    · have hS := hS.1 hc
                                      refine Wp.regionD [true, true, true, true, true, true, true, true, true, true] hs (by kernel_rfl) rfl [⟨b210, 95, [(Value.int .i64 x209.Op), (Value.int .i64 x209.N), (Value.int .u64 x209.Set.w0), (Value.int .u64 x209.Set.w1), (Value.int .u64 x209.Set.w2), (Value.int .u64 x209.Set.w3)]⟩, ⟨b6, 74, [(Value.bool false), (Value.int .i64 0)]⟩] (fun _ h => h) [] (fun _ h => h) (fun _ hs hC => ?_)
                                      have hL := Mem.le.refl M220
                                      refine dP (Value.pointer top202) 0 [1, 2, 3, 8, 9] hs QZ.no (wanted_none rfl) fun _ hs => ?_
                                      obtain ⟨b238, o239, hp, hS⟩ := hS
                                      refine stepDP (v := (Value.pointer (some ⟨b238, o239, none⟩))) 1 [2, 3, 8, 9] hs QZ.no rfl (wanted_none rfl) rfl (by decide) (by kernel_rfl) (by kernel_rfl) (by kernel_rfl) (Yl.nilck rfl rfl hp) (fun _ hs => ?_)
                                      refine dP (Value.pointer (some ⟨b238, o239 + 3, none⟩)) 2 [3, 8, 9] hs QZ.no (wanted_none rfl) fun _ hs => ?_
                                      obtain ⟨x240, hat, hS⟩ := hS
                                      refine stepDY (v := (Value.pointer x240)) 3 [8, 9] hs hC QZ.no rfl (wanted_none rfl) rfl (by decide) (by kernel_rfl) (by kernel_rfl) (by kernel_rfl) (Yl.loadV (vs := [(Value.pointer x240)]) false rfl rfl (by kernel_rfl) hat) (fun _ hs => ?_)
                                      refine stepDE 4 rfl (wanted_none rfl) (by kernel_rfl) #[] ?_
                                      refine sP (Value.pointer top202) hs fun _ hs => ?_
                                      refine wpList_nil (⟨fun _ h => h, ?_⟩)
                                      obtain ⟨b241, o242, hp, hS⟩ := hS
                                      refine stepDP (v := (Value.pointer (some ⟨b241, o242, none⟩))) 5 [6, 7, 9] hs QZ.no rfl (wanted_none rfl) rfl (by decide) (by kernel_rfl) (by kernel_rfl) (by kernel_rfl) (Yl.nilck rfl rfl hp) (fun _ hs => ?_)
                                      refine dP (Value.pointer (some ⟨b241, o242, none⟩)) 6 [7, 9] hs QZ.no (wanted_none rfl) fun _ hs => ?_
                                      obtain ⟨x243, hat, hS⟩ := hS
                                      refine stepDY (v := (Value.int .i64 x243)) 7 [9] hs hC QZ.no rfl (wanted_none rfl) rfl (by decide) (by kernel_rfl) (by kernel_rfl) (by kernel_rfl) (Yl.loadV (vs := [(Value.int .i64 x243)]) false rfl rfl (by kernel_rfl) hat) (fun _ hs => ?_)
                                      refine stepDE 8 rfl (wanted_none rfl) (by kernel_rfl) #[] ?_
                                      refine sP (Value.pointer x240) hs fun _ hs => ?_
                                      refine wpList_nil (⟨fun _ h => h, ?_⟩)
                                      refine stepDE 9 rfl (wanted_none rfl) (by kernel_rfl) #[] ?_
                                      refine sP (Value.int .i64 x243) hs fun _ hs => ?_
                                      refine wpList_nil (⟨fun _ h => h, ?_⟩)
                                      refine WpD.done (by kernel_rfl) ?_ _
                                      exact ⟨x243, at201, x240, false, M220, hMM, (hs.weak (List.Sublist.refl _) (List.Sublist.refl _) ⟨rfl, rfl, rfl, rfl, rfl, rfl, rfl, rfl, rfl, trivial⟩), hS⟩
                                    · have hS := hS.2 hc
                                      refine Wp.seq (Wp.region (sP (Value.bool ((x209.Op : Int) == (7 : Int))) hs fun _ hs => ?_))
                                      refine sP (Value.bool ((x209.Op : Int) == (7 : Int))) hs fun _ hs => ?_
                                      refine wpList_nil (Wp.cond hs rfl rfl beq_iff_eq (fun hc => ?_) (fun hc => ?_))
                                      · have hS := hS.1 hc
                                        refine Wp.region (sP (Value.bool true) hs fun _ hs => ?_)
                                        exact wpList_nil (⟨(pc200 + 1), at201, top202, true, M220, hMM, (hs.weak (List.Sublist.refl _) (List.Sublist.refl _) ⟨rfl, rfl, rfl, rfl, rfl, rfl, rfl, rfl, rfl, trivial⟩), hS⟩)
                                      · have hS := hS.2 hc
                                        refine Wp.seq (Wp.region (sP (Value.bool ((x209.Op : Int) == (8 : Int))) hs fun _ hs => ?_))
                                        refine sP (Value.bool ((x209.Op : Int) == (8 : Int))) hs fun _ hs => ?_
                                        refine wpList_nil (Wp.cond hs rfl rfl beq_iff_eq (fun hc => ?_) (fun hc => ?_))
                                        · have hS := hS.1 hc
                                          refine Wp.seq (Wp.region (sP (Value.int .i64 at201) hs fun _ hs => ?_))
                                          refine sP (X_api_Outcome.mk true at201).val hs fun _ hs => ?_
                                          refine stepStoreB 1 (vs := [(Value.bool true), (Value.int .i64 at201)]) hs rfl rfl rfl rfl rfl rfl (by kernel_rfl) (Nat.le_of_ble_eq_true rfl) rfl (fun _ _ hs => ?_)
                                          replace hs := hs.chbx (bs' := [⟨b210, 95, [(Value.int .i64 x209.Op), (Value.int .i64 x209.N), (Value.int .u64 x209.Set.w0), (Value.int .u64 x209.Set.w1), (Value.int .u64 x209.Set.w2), (Value.int .u64 x209.Set.w3)]⟩, ⟨b6, 74, [(Value.bool true), (Value.int .i64 at201)]⟩]) rfl
                                          refine sP (Value.int .i64 0) hs fun _ hs => ?_
                                          exact wpList_nil (Wp.ret (leaveE (K := fun v _ => K v) hs (resCT (vs := [(Value.bool true), (Value.int .i64 at201)]) true 1 hs rfl rfl rfl (by kernel_rfl) rfl rfl) hMM.2 (fun _ _ => hS)))
                                        · have hS := hS.2 hc
                                          refine Wp.seq (Wp.region (sP (Value.bool ((x209.Op : Int) == (9 : Int))) hs fun _ hs => ?_))
                                          refine sP (Value.bool ((x209.Op : Int) == (9 : Int))) hs fun _ hs => ?_
                                          refine wpList_nil (Wp.cond hs rfl rfl beq_iff_eq (fun hc => ?_) (fun hc => ?_))
                                          · have hS := hS.1 hc
                                            refine Wp.regionD [true, true, true, true, true, true, true, true, true, true, true, true, true, true] hs (by kernel_rfl) rfl [⟨b210, 95, [(Value.int .i64 x209.Op), (Value.int .i64 x209.N), (Value.int .u64 x209.Set.w0), (Value.int .u64 x209.Set.w1), (Value.int .u64 x209.Set.w2), (Value.int .u64 x209.Set.w3)]⟩, ⟨b6, 74, [(Value.bool false), (Value.int .i64 0)]⟩] (fun _ h => h) [] (fun _ h => h) (fun _ hs hC => ?_)
                                            have hL := Mem.le.refl M220
                                            refine dP (Value.pointer top202) 0 [1, 2, 3, 9, 12, 13] hs QZ.no (wanted_none rfl) fun _ hs => ?_
                                            obtain ⟨b244, o245, hp, hS⟩ := hS
                                            refine stepDP (v := (Value.pointer (some ⟨b244, o245, none⟩))) 1 [2, 3, 9, 12, 13] hs QZ.no rfl (wanted_none rfl) rfl (by decide) (by kernel_rfl) (by kernel_rfl) (by kernel_rfl) (Yl.nilck rfl rfl hp) (fun _ hs => ?_)
                                            refine dP (Value.pointer (some ⟨b244, o245 + 3, none⟩)) 2 [3, 9, 12, 13] hs QZ.no (wanted_none rfl) fun _ hs => ?_
                                            obtain ⟨x246, hat, hS⟩ := hS
                                            refine stepDY (v := (Value.pointer x246)) 3 [9, 12, 13] hs hC QZ.no rfl (wanted_none rfl) rfl (by decide) (by kernel_rfl) (by kernel_rfl) (by kernel_rfl) (Yl.loadV (vs := [(Value.pointer x246)]) false rfl rfl (by kernel_rfl) hat) (fun _ hs => ?_)
                                            refine dP (Value.pointer top202) 4 [5, 6, 7, 9, 12, 13] hs QZ.no (wanted_none rfl) fun _ hs => ?_
                                            obtain ⟨b247, o248, hp, hS⟩ := hS
                                            refine stepDP (v := (Value.pointer (some ⟨b247, o248, none⟩))) 5 [6, 7, 9, 12, 13] hs QZ.no rfl (wanted_none rfl) rfl (by decide) (by kernel_rfl) (by kernel_rfl) (by kernel_rfl) (Yl.nilck rfl rfl hp) (fun _ hs => ?_)
                                            refine dP (Value.pointer (some ⟨b247, o248, none⟩)) 6 [7, 9, 12, 13] hs QZ.no (wanted_none rfl) fun _ hs => ?_
                                            obtain ⟨x249, hat, hS⟩ := hS
                                            refine stepDY (v := (Value.int .i64 x249)) 7 [9, 12, 13] hs hC QZ.no rfl (wanted_none rfl) rfl (by decide) (by kernel_rfl) (by kernel_rfl) (by kernel_rfl) (Yl.loadV (vs := [(Value.int .i64 x249)]) false rfl rfl (by kernel_rfl) hat) (fun _ hs => ?_)
                                            refine dP (Value.int .i64 at201) 8 [9, 12, 13] hs QZ.no (wanted_none rfl) fun _ hs => ?_
                                            refine dP (Value.pointer (some ⟨b210, 1, none⟩)) 10 [11, 13] hs QZ.no (wanted_none rfl) fun _ hs => ?_
                                            refine stepDY (v := (Value.int .i64 x209.N)) 11 [13] hs hC QZ.no rfl (wanted_none rfl) rfl (by decide) (by kernel_rfl) (by kernel_rfl) (by kernel_rfl) (Yl.loadB (vs := [(Value.int .i64 x209.N)]) false 0 rfl rfl rfl (by kernel_rfl) rfl) (fun _ hs => ?_)
                                            refine stepDE 9 rfl (wanted_none rfl) (by kernel_rfl) #[] ?_
                                            refine stepCallE [(Value.pointer x246), (Value.int .i64 x249), (Value.int .i64 at201), (Value.bool false)] hs rfl ⟨_, rfl, rfl⟩ rfl Try.func75 rfl (by kernel_rfl) (by decide) hS (fun _ _ M251 v hle hnew hS hs => ?_)
                                            have hMM := hMM.next hle hnew
                                            replace hL := hL.trans hle
                                            obtain ⟨x250, hv, hS⟩ := hS
                                            subst hv
                                            refine wpList_nil (⟨fun _ _ => hs.cxle hL (List.Sublist.refl _) (List.Sublist.refl _), ?_⟩)
                                            have hC := hs.cxle hL (List.Sublist.refl _) (List.Sublist.refl _)
                                            refine stepDE 12 rfl (wanted_none rfl) (by kernel_rfl) #[] ?_
                                            refine sP (Value.pointer x250) hs fun _ hs => ?_
                                            refine wpList_nil (⟨fun _ h => h, ?_⟩)
                                            refine stepDE 13 rfl (wanted_none rfl) (by kernel_rfl) #[] ?_
                                            refine sP (Value.int .i64 x209.N) hs fun _ hs => ?_
                                            refine wpList_nil (⟨fun _ h => h, ?_⟩)
                                            refine WpD.done (by kernel_rfl) ?_ _
                                            exact ⟨x209.N, at201, x250, false, M251, hMM, (hs.weak (List.Sublist.refl _) (List.Sublist.refl _) ⟨rfl, rfl, rfl, rfl, rfl, rfl, rfl, rfl, rfl, trivial⟩), hS⟩
                                          · have hS := hS.2 hc
                                            refine Wp.seq (Wp.region (sP (Value.bool ((x209.Op : Int) == (10 : Int))) hs fun _ hs => ?_))
                                            refine sP (Value.bool ((x209.Op : Int) == (10 : Int))) hs fun _ hs => ?_
                                            refine wpList_nil (Wp.cond hs rfl rfl beq_iff_eq (fun hc => ?_) (fun hc => ?_))
                                            · have hS := hS.1 hc
                                              refine Wp.regionD [true, true, true, true, true, true, true, true, true, true, true, true, true] hs (by kernel_rfl) rfl [⟨b210, 95, [(Value.int .i64 x209.Op), (Value.int .i64 x209.N), (Value.int .u64 x209.Set.w0), (Value.int .u64 x209.Set.w1), (Value.int .u64 x209.Set.w2), (Value.int .u64 x209.Set.w3)]⟩, ⟨b6, 74, [(Value.bool false), (Value.int .i64 0)]⟩] (fun _ h => h) [] (fun _ h => h) (fun _ hs hC => ?_)
                                              have hL := Mem.le.refl M220
                                              refine dP (Value.pointer top202) 0 [1, 2, 3, 10, 11, 12] hs QZ.no (wanted_none rfl) fun _ hs => ?_
                                              obtain ⟨b252, o253, hp, hS⟩ := hS
                                              refine stepDP (v := (Value.pointer (some ⟨b252, o253, none⟩))) 1 [2, 3, 10, 11, 12] hs QZ.no rfl (wanted_none rfl) rfl (by decide) (by kernel_rfl) (by kernel_rfl) (by kernel_rfl) (Yl.nilck rfl rfl hp) (fun _ hs => ?_)
                                              refine dP (Value.pointer (some ⟨b252, o253 + 3, none⟩)) 2 [3, 10, 11, 12] hs QZ.no (wanted_none rfl) fun _ hs => ?_
                                              obtain ⟨x254, hat, hS⟩ := hS
                                              refine stepDY (v := (Value.pointer x254)) 3 [10, 11, 12] hs hC QZ.no rfl (wanted_none rfl) rfl (by decide) (by kernel_rfl) (by kernel_rfl) (by kernel_rfl) (Yl.loadV (vs := [(Value.pointer x254)]) false rfl rfl (by kernel_rfl) hat) (fun _ hs => ?_)
                                              refine dP (Value.pointer top202) 4 [5, 6, 7, 10, 11, 12] hs QZ.no (wanted_none rfl) fun _ hs => ?_
                                              obtain ⟨b255, o256, hp, hS⟩ := hS
                                              refine stepDP (v := (Value.pointer (some ⟨b255, o256, none⟩))) 5 [6, 7, 11, 12] hs QZ.no rfl (wanted_none rfl) rfl (by decide) (by kernel_rfl) (by kernel_rfl) (by kernel_rfl) (Yl.nilck rfl rfl hp) (fun _ hs => ?_)
                                              refine dP (Value.pointer (some ⟨b255, o256 + 1, none⟩)) 6 [7, 11, 12] hs QZ.no (wanted_none rfl) fun _ hs => ?_
                                              obtain ⟨x257, hat, hS⟩ := hS
                                              refine stepDY (v := (Value.int .i64 x257)) 7 [11, 12] hs hC QZ.no rfl (wanted_none rfl) rfl (by decide) (by kernel_rfl) (by kernel_rfl) (by kernel_rfl) (Yl.loadV (vs := [(Value.int .i64 x257)]) false rfl rfl (by kernel_rfl) hat) (fun _ hs => ?_)
                                              refine dP (Value.pointer (some ⟨b210, 1, none⟩)) 8 [9, 12] hs QZ.no (wanted_none rfl) fun _ hs => ?_
                                              refine stepDY (v := (Value.int .i64 x209.N)) 9 [12] hs hC QZ.no rfl (wanted_none rfl) rfl (by decide) (by kernel_rfl) (by kernel_rfl) (by kernel_rfl) (Yl.loadB (vs := [(Value.int .i64 x209.N)]) false 0 rfl rfl rfl (by kernel_rfl) rfl) (fun _ hs => ?_)
                                              refine stepDE 10 rfl (wanted_none rfl) (by kernel_rfl) #[] ?_
                                              refine sP (Value.pointer x254) hs fun _ hs => ?_
                                              refine wpList_nil (⟨fun _ h => h, ?_⟩)
                                              refine stepDE 11 rfl (wanted_none rfl) (by kernel_rfl) #[] ?_
                                              refine sP (Value.int .i64 x257) hs fun _ hs => ?_
                                              refine wpList_nil (⟨fun _ h => h, ?_⟩)
                                              refine stepDE 12 rfl (wanted_none rfl) (by kernel_rfl) #[] ?_
                                              refine sP (Value.int .i64 x209.N) hs fun _ hs => ?_
                                              refine wpList_nil (⟨fun _ h => h, ?_⟩)
                                              refine WpD.done (by kernel_rfl) ?_ _
                                              exact ⟨x209.N, x257, x254, false, M220, hMM, (hs.weak (List.Sublist.refl _) (List.Sublist.refl _) ⟨rfl, rfl, rfl, rfl, rfl, rfl, rfl, rfl, rfl, trivial⟩), hS⟩
                                            · have hS := hS.2 hc
                                              refine Wp.seq (Wp.region (sP (Value.bool ((x209.Op : Int) == (11 : Int))) hs fun _ hs => ?_))
                                              refine sP (Value.bool ((x209.Op : Int) == (11 : Int))) hs fun _ hs => ?_
                                              refine wpList_nil (Wp.cond hs rfl rfl beq_iff_eq (fun hc => ?_) (fun hc => ?_))
                                              · have hS := hS.1 hc
                                                refine Wp.region (sP (Value.pointer top202) hs fun _ hs => ?_)
                                                obtain ⟨b258, o259, hp, hS⟩ := hS
                                                refine sY (Value.pointer (some ⟨b258, o259, none⟩)) hs (Yl.nilck rfl rfl hp) fun _ hs => ?_
                                                refine sP (Value.pointer (some ⟨b258, o259 + 3, none⟩)) hs fun _ hs => ?_
                                                obtain ⟨x260, hat, hS⟩ := hS
                                                refine sY (Value.pointer x260) hs (Yl.loadV (vs := [(Value.pointer x260)]) false rfl rfl (by kernel_rfl) hat) fun _ hs => ?_
                                                refine sP (Value.pointer x260) hs fun _ hs => ?_
                                                refine sP (Value.bool true) hs fun _ hs => ?_
                                                exact wpList_nil (⟨(pc200 + 1), at201, x260, true, M220, hMM, (hs.weak (List.Sublist.refl _) (List.Sublist.refl _) ⟨rfl, rfl, rfl, rfl, rfl, rfl, rfl, rfl, rfl, trivial⟩), hS⟩)
                                              · have hS := hS.2 hc
                                                exact Wp.skip (⟨(pc200 + 1), at201, top202, false, M220, hMM, (hs.weak (List.Sublist.refl _) (List.Sublist.refl _) ⟨rfl, rfl, rfl, rfl, rfl, rfl, rfl, rfl, rfl, trivial⟩), hS⟩)
                        · intro a w hJ
                          obtain ⟨pc261, at262, top263, fails264, M265, hMM, hs, hS⟩ := hJ
                          unfold S_chaffref_Machine_J5 at hS
                          refine Wp.seq (Wp.block ?_)
                          obtain ⟨I275, mu276, hI0, hst⟩ := hS
                          refine Wp.loop (σ := (Option Addr)) (fun s a w => match s with | (top274) => Sx 220 E [] M265 w a [(0, (Value.slice la1 ll2 lc3)), (1, (Value.string (mkS s4))), (2, (Value.int .i64 steps5)), (6, (Value.pointer (some ⟨b6, 0, none⟩))), (9, (Value.int .i64 pc261)), (10, (Value.int .i64 at262)), (11, (Value.pointer top274)), (12, (Value.int .i64 n203)), (14, (Value.bool fails264))] [⟨b210, 95, [(Value.int .i64 x209.Op), (Value.int .i64 x209.N), (Value.int .u64 x209.Set.w0), (Value.int .u64 x209.Set.w1), (Value.int .u64 x209.Set.w2), (Value.int .u64 x209.Set.w3)]⟩, ⟨b6, 74, [(Value.bool false), (Value.int .i64 0)]⟩] [] ∧ I275 top274) (fun s => match s with | (top274) => mu276 top274) (top263) ⟨(hs.weak (List.Sublist.refl _) (List.Sublist.refl _) ⟨rfl, rfl, rfl, rfl, rfl, rfl, rfl, rfl, rfl, trivial⟩), hI0⟩ (fun top274 a w hI => ?_)
                          obtain ⟨hs, hI⟩ := hI
                          have hS := hst top274 hI
                          clear hst hI0 hI
                          refine Wp.seq (Wp.join (fun a w => ∃ (x280 : Bool), Sx 220 E [] M265 w a [(0, (Value.slice la1 ll2 lc3)), (1, (Value.string (mkS s4))), (2, (Value.int .i64 steps5)), (6, (Value.pointer (some ⟨b6, 0, none⟩))), (9, (Value.int .i64 pc261)), (10, (Value.int .i64 at262)), (11, (Value.pointer top274)), (12, (Value.int .i64 n203)), (14, (Value.bool fails264)), (196, (Value.bool x280))] [⟨b210, 95, [(Value.int .i64 x209.Op), (Value.int .i64 x209.N), (Value.int .u64 x209.Set.w0), (Value.int .u64 x209.Set.w1), (Value.int .u64 x209.Set.w2), (Value.int .u64 x209.Set.w3)]⟩, ⟨b6, 74, [(Value.bool false), (Value.int .i64 0)]⟩] [] ∧ (S_chaffref_Machine_J6 pc200 at201 top202 n203 I205 mu206 pc261 at262 fails264 M265 top274 I275 mu276 x280 K)) ?_ ?_)
                          · refine Wp.region (sP (Value.bool fails264) hs fun _ hs => ?_)
                            refine sP (Value.bool fails264) hs fun _ hs => ?_
                            refine bsplit fails264 Iff.rfl (fun hb hc => ?_) (fun hb hc => ?_)
                            · have hs := hs.bt hb
                              have hS := hS.1 hc
                              refine sYe hs (sP (Value.pointer top274) hs fun _ hs => ?_)
                              refine sYe hs (sY (Value.bool (!top274.isNone)) hs (Yl.ptrNotNil (e := 118) rfl (by kernel_rfl) rfl rfl) fun _ hs => ?_)
                              refine sP (Value.bool (!top274.isNone)) hs fun _ hs => ?_
                              refine sP (Value.bool (!top274.isNone)) hs fun _ hs => ?_
                              refine bsplit (!top274.isNone) (bnot_iff Iff.rfl) (fun hb hc => ?_) (fun hb hc => ?_)
                              · have hs := hs.bt hb
                                have hS := hS.1 hc
                                refine sYe hs (sP (Value.pointer top274) hs fun _ hs => ?_)
                                refine sYe hs ?_
                                obtain ⟨b277, o278, hp, hS⟩ := hS
                                refine sY (Value.pointer (some ⟨b277, o278, none⟩)) hs (Yl.nilck rfl rfl hp) fun _ hs => ?_
                                refine sYe hs (sP (Value.pointer (some ⟨b277, o278 + 2, none⟩)) hs fun _ hs => ?_)
                                refine sYe hs ?_
                                obtain ⟨x279, hat, hS⟩ := hS
                                refine sY (Value.bool x279) hs (Yl.loadV (vs := [(Value.bool x279)]) false rfl rfl (by kernel_rfl) hat) fun _ hs => ?_
                                refine sP (Value.bool x279) hs fun _ hs => ?_
                                exact wpList_nil (⟨x279, (hs.weak (List.Sublist.refl _) (List.Sublist.refl _) ⟨rfl, rfl, rfl, rfl, rfl, rfl, rfl, rfl, rfl, rfl, trivial⟩), hS⟩)
                              · have hs := hs.bf hb
                                have hS := hS.2 hc
                                refine sNo hs fun _ hs => ?_
                                refine sNo hs fun _ hs => ?_
                                refine sNo hs fun _ hs => ?_
                                refine sNo hs fun _ hs => ?_
                                refine sP (Value.bool false) hs fun _ hs => ?_
                                exact wpList_nil (⟨false, (hs.weak (List.Sublist.refl _) (List.Sublist.refl _) ⟨rfl, rfl, rfl, rfl, rfl, rfl, rfl, rfl, rfl, rfl, trivial⟩), hS⟩)
                            · have hs := hs.bf hb
                              have hS := hS.2 hc
                              refine sNo hs fun _ hs => ?_
                              refine sNo hs fun _ hs => ?_
                              refine sP (Value.bool false) hs fun _ hs => ?_
                              refine sP (Value.bool false) hs fun _ hs => ?_
                              refine sNo hs fun _ hs => ?_
                              refine sNo hs fun _ hs => ?_
                              refine sNo hs fun _ hs => ?_
                              refine sNo hs fun _ hs => ?_
                              refine sP (Value.bool false) hs fun _ hs => ?_
                              exact wpList_nil (⟨false, (hs.weak (List.Sublist.refl _) (List.Sublist.refl _) ⟨rfl, rfl, rfl, rfl, rfl, rfl, rfl, rfl, rfl, rfl, trivial⟩), hS⟩)
                          · intro a w hJ
                            obtain ⟨x280, hs, hS⟩ := hJ
                            unfold S_chaffref_Machine_J6 at hS
                            refine Wp.cond hs rfl rfl Iff.rfl (fun hc => ?_) (fun hc => ?_)
                            · have hS := hS.1 hc
                              refine Wp.skip (Wp.block (Wp.region (sP (Value.pointer top274) hs fun _ hs => ?_)))
                              obtain ⟨b281, o282, hp, hS⟩ := hS
                              refine sY (Value.pointer (some ⟨b281, o282, none⟩)) hs (Yl.nilck rfl rfl hp) fun _ hs => ?_
                              refine sP (Value.pointer (some ⟨b281, o282 + 3, none⟩)) hs fun _ hs => ?_
                              obtain ⟨x283, hat, hS⟩ := hS
                              refine sY (Value.pointer x283) hs (Yl.loadV (vs := [(Value.pointer x283)]) false rfl rfl (by kernel_rfl) hat) fun _ hs => ?_
                              refine sP (Value.pointer x283) hs fun _ hs => ?_
                              exact wpList_nil (⟨(x283), ⟨(hs.weak (List.Sublist.refl _) (List.Sublist.refl _) ⟨rfl, rfl, rfl, rfl, rfl, rfl, rfl, rfl, rfl, trivial⟩), hS.1⟩, hS.2⟩)
                            · have hS := hS.2 hc
                              refine Wp.exit rfl (Wp.seq (Wp.join (fun a w => ∃ (x284 : Bool), Sx 220 E [] M265 w a [(0, (Value.slice la1 ll2 lc3)), (1, (Value.string (mkS s4))), (2, (Value.int .i64 steps5)), (6, (Value.pointer (some ⟨b6, 0, none⟩))), (9, (Value.int .i64 pc261)), (10, (Value.int .i64 at262)), (11, (Value.pointer top274)), (12, (Value.int .i64 n203)), (14, (Value.bool fails264)), (205, (Value.bool x284))] [⟨b210, 95, [(Value.int .i64 x209.Op), (Value.int .i64 x209.N), (Value.int .u64 x209.Set.w0), (Value.int .u64 x209.Set.w1), (Value.int .u64 x209.Set.w2), (Value.int .u64 x209.Set.w3)]⟩, ⟨b6, 74, [(Value.bool false), (Value.int .i64 0)]⟩] [] ∧ (S_chaffref_Machine_J7 pc200 at201 top202 n203 I205 mu206 pc261 at262 fails264 M265 top274 x284 K)) ?_ ?_))
                              · refine Wp.region (sP (Value.bool fails264) hs fun _ hs => ?_)
                                refine sP (Value.bool fails264) hs fun _ hs => ?_
                                refine bsplit fails264 Iff.rfl (fun hb hc => ?_) (fun hb hc => ?_)
                                · have hs := hs.bt hb
                                  have hS := hS.1 hc
                                  refine sYe hs (sP (Value.pointer top274) hs fun _ hs => ?_)
                                  refine sYe hs (sY (Value.bool top274.isNone) hs (Yl.ptrNil (e := 118) rfl (by kernel_rfl) rfl rfl) fun _ hs => ?_)
                                  refine sP (Value.bool top274.isNone) hs fun _ hs => ?_
                                  exact wpList_nil (⟨top274.isNone, (hs.weak (List.Sublist.refl _) (List.Sublist.refl _) ⟨rfl, rfl, rfl, rfl, rfl, rfl, rfl, rfl, rfl, rfl, trivial⟩), hS⟩)
                                · have hs := hs.bf hb
                                  have hS := hS.2 hc
                                  refine sNo hs fun _ hs => ?_
                                  refine sNo hs fun _ hs => ?_
                                  refine sP (Value.bool false) hs fun _ hs => ?_
                                  exact wpList_nil (⟨false, (hs.weak (List.Sublist.refl _) (List.Sublist.refl _) ⟨rfl, rfl, rfl, rfl, rfl, rfl, rfl, rfl, rfl, rfl, trivial⟩), hS⟩)
                              · intro a w hJ
                                obtain ⟨x284, hs, hS⟩ := hJ
                                unfold S_chaffref_Machine_J7 at hS
                                refine Wp.cond hs rfl rfl Iff.rfl (fun hc => ?_) (fun hc => ?_)
                                · have hS := hS.1 hc
                                  refine Wp.seq (Wp.region (sP (X_api_Outcome.mk false 0).val hs fun _ hs => ?_))
                                  refine stepStoreB 1 (vs := [(Value.bool false), (Value.int .i64 0)]) hs rfl rfl rfl rfl rfl rfl (by kernel_rfl) (Nat.le_of_ble_eq_true rfl) rfl (fun _ _ hs => ?_)
                                  replace hs := hs.chbx (bs' := [⟨b210, 95, [(Value.int .i64 x209.Op), (Value.int .i64 x209.N), (Value.int .u64 x209.Set.w0), (Value.int .u64 x209.Set.w1), (Value.int .u64 x209.Set.w2), (Value.int .u64 x209.Set.w3)]⟩, ⟨b6, 74, [(Value.bool false), (Value.int .i64 0)]⟩]) rfl
                                  refine sP (Value.int .i64 0) hs fun _ hs => ?_
                                  exact wpList_nil (Wp.ret (leaveE (K := fun v _ => K v) hs (resCT (vs := [(Value.bool false), (Value.int .i64 0)]) true 1 hs rfl rfl rfl (by kernel_rfl) rfl rfl) hMM.2 (fun _ _ => hS)))
                                · have hS := hS.2 hc
                                  refine Wp.skip (Wp.seq (Wp.region (sP (Value.bool fails264) hs fun _ hs => ?_)))
                                  refine wpList_nil (Wp.cond hs rfl rfl Iff.rfl (fun hc => ?_) (fun hc => ?_))
                                  · have hS := hS.1 hc
                                    refine Wp.regionD [true, true, true, true, true, true, true, true, true, true, true, true, true, true, true] hs (by kernel_rfl) rfl [⟨b210, 95, [(Value.int .i64 x209.Op), (Value.int .i64 x209.N), (Value.int .u64 x209.Set.w0), (Value.int .u64 x209.Set.w1), (Value.int .u64 x209.Set.w2), (Value.int .u64 x209.Set.w3)]⟩, ⟨b6, 74, [(Value.bool false), (Value.int .i64 0)]⟩] (fun _ h => h) [] (fun _ h => h) (fun _ hs hC => ?_)
                                    have hL := Mem.le.refl M265
                                    refine dP (Value.pointer top274) 0 [1, 2, 3, 12, 13, 14] hs QZ.no (wanted_none rfl) fun _ hs => ?_
                                    obtain ⟨b285, o286, hp, hS⟩ := hS
                                    refine stepDP (v := (Value.pointer (some ⟨b285, o286, none⟩))) 1 [2, 3, 12, 13, 14] hs QZ.no rfl (wanted_none rfl) rfl (by decide) (by kernel_rfl) (by kernel_rfl) (by kernel_rfl) (Yl.nilck rfl rfl hp) (fun _ hs => ?_)
                                    refine dP (Value.pointer (some ⟨b285, o286, none⟩)) 2 [3, 12, 13, 14] hs QZ.no (wanted_none rfl) fun _ hs => ?_
                                    obtain ⟨x287, hat, hS⟩ := hS
                                    refine stepDY (v := (Value.int .i64 x287)) 3 [12, 13, 14] hs hC QZ.no rfl (wanted_none rfl) rfl (by decide) (by kernel_rfl) (by kernel_rfl) (by kernel_rfl) (Yl.loadV (vs := [(Value.int .i64 x287)]) false rfl rfl (by kernel_rfl) hat) (fun _ hs => ?_)
                                    refine dP (Value.pointer top274) 4 [5, 6, 7, 13, 14] hs QZ.no (wanted_none rfl) fun _ hs => ?_
                                    obtain ⟨b288, o289, hp, hS⟩ := hS
                                    refine stepDP (v := (Value.pointer (some ⟨b288, o289, none⟩))) 5 [6, 7, 13, 14] hs QZ.no rfl (wanted_none rfl) rfl (by decide) (by kernel_rfl) (by kernel_rfl) (by kernel_rfl) (Yl.nilck rfl rfl hp) (fun _ hs => ?_)
                                    refine dP (Value.pointer (some ⟨b288, o289 + 1, none⟩)) 6 [7, 13, 14] hs QZ.no (wanted_none rfl) fun _ hs => ?_
                                    obtain ⟨x290, hat, hS⟩ := hS
                                    refine stepDY (v := (Value.int .i64 x290)) 7 [13, 14] hs hC QZ.no rfl (wanted_none rfl) rfl (by decide) (by kernel_rfl) (by kernel_rfl) (by kernel_rfl) (Yl.loadV (vs := [(Value.int .i64 x290)]) false rfl rfl (by kernel_rfl) hat) (fun _ hs => ?_)
                                    refine dP (Value.pointer top274) 8 [9, 10, 11, 14] hs QZ.no (wanted_none rfl) fun _ hs => ?_
                                    obtain ⟨b291, o292, hp, hS⟩ := hS
                                    refine stepDP (v := (Value.pointer (some ⟨b291, o292, none⟩))) 9 [10, 11, 14] hs QZ.no rfl (wanted_none rfl) rfl (by decide) (by kernel_rfl) (by kernel_rfl) (by kernel_rfl) (Yl.nilck rfl rfl hp) (fun _ hs => ?_)
                                    refine dP (Value.pointer (some ⟨b291, o292 + 3, none⟩)) 10 [11, 14] hs QZ.no (wanted_none rfl) fun _ hs => ?_
                                    obtain ⟨x293, hat, hS⟩ := hS
                                    refine stepDY (v := (Value.pointer x293)) 11 [14] hs hC QZ.no rfl (wanted_none rfl) rfl (by decide) (by kernel_rfl) (by kernel_rfl) (by kernel_rfl) (Yl.loadV (vs := [(Value.pointer x293)]) false rfl rfl (by kernel_rfl) hat) (fun _ hs => ?_)
                                    refine stepDE 12 rfl (wanted_none rfl) (by kernel_rfl) #[] ?_
                                    refine sP (Value.int .i64 x287) hs fun _ hs => ?_
                                    refine wpList_nil (⟨fun _ h => h, ?_⟩)
                                    refine stepDE 13 rfl (wanted_none rfl) (by kernel_rfl) #[] ?_
                                    refine sP (Value.int .i64 x290) hs fun _ hs => ?_
                                    refine wpList_nil (⟨fun _ h => h, ?_⟩)
                                    refine stepDE 14 rfl (wanted_none rfl) (by kernel_rfl) #[] ?_
                                    refine sP (Value.pointer x293) hs fun _ hs => ?_
                                    refine wpList_nil (⟨fun _ h => h, ?_⟩)
                                    refine WpD.done (by kernel_rfl) ?_ _
                                    exact ⟨x287, x290, x293, M265, hMM, (hs.weak (.cons _ (.cons_cons _ List.Sublist.slnil)) (List.Sublist.refl _) ⟨rfl, rfl, rfl, rfl, rfl, rfl, rfl, rfl, trivial⟩), hS⟩
                                  · have hS := hS.2 hc
                                    exact Wp.skip (⟨pc261, at262, top274, M265, hMM, (hs.weak (.cons _ (.cons_cons _ List.Sublist.slnil)) (List.Sublist.refl _) ⟨rfl, rfl, rfl, rfl, rfl, rfl, rfl, rfl, trivial⟩), hS⟩)
          · intro a w hJ
            obtain ⟨pc294, at295, top296, M297, hMM, hs, hS⟩ := hJ
            unfold S_chaffref_Machine_J8 at hS
            refine Wp.region (sP (Value.int .i64 n203) hs fun _ hs => ?_)
            obtain ⟨hI, hS⟩ := hS
            refine sY (Value.int .i64 (n203 + 1)) hs (Yl.eq (Yl.pure (v := Value.int .i64 (IntKind.wrap .i64 (n203 + 1))) rfl (fun _ => by kernel_rfl)) (congrArg (Value.int .i64) (wrap_in hI))) fun _ hs => ?_
            refine sP (Value.int .i64 (n203 + 1)) hs fun _ hs => ?_
            exact wpList_nil (⟨(pc294, at295, top296, n203 + 1, M297), ⟨hMM, (hs.weak (List.Sublist.refl _) (List.Sublist.refl _) ⟨rfl, rfl, rfl, rfl, rfl, rfl, rfl, rfl, trivial⟩), hS.1⟩, hS.2⟩)
set_option linter.unusedVariables false in
def S_chafflaw_CodeRuns (la1 : Option Addr) (ll2 : Nat) (lc3 : Nat) (s4 : List UInt8) (steps5 : Int) (M : Mem) (K : Value → Prop) : Prop :=
  (CallE Try.prog 45 #[(Value.slice la1 ll2 lc3), (Value.string (mkS s4)), (Value.int .i64 steps5)] M (fun v _ => ∃ (x6 : X_api_Outcome) (x7 : Int), v = (Value.tuple #[x6.val, (Value.int .i64 x7)]) ∧ (CallE Try.prog 46 #[(Value.slice la1 ll2 lc3), (Value.string (mkS s4)), (Value.int .i64 steps5)] M (fun v _ => ∃ (x9 : X_api_Outcome) (x10 : Int), v = (Value.tuple #[x9.val, (Value.int .i64 x10)]) ∧ (((x6.Ok = x9.Ok) ∧ ((x6.N : Int) = x9.N) → K (Value.bool ((x7 : Int) == (x10 : Int)))) ∧ (¬ ((x6.Ok = x9.Ok) ∧ ((x6.N : Int) = x9.N)) → K (Value.bool false)))))))
set_option linter.unusedVariables false in
set_option maxRecDepth 100000 in
theorem s_chafflaw_CodeRuns (la1 : Option Addr) (ll2 : Nat) (lc3 : Nat) (s4 : List UInt8) (steps5 : Int) (M : Mem) (K : Value → Prop) (hS : S_chafflaw_CodeRuns la1 ll2 lc3 s4 steps5 M K) : CallE Try.prog 11 #[(Value.slice la1 ll2 lc3), (Value.string (mkS s4)), (Value.int .i64 steps5)] M (fun v _ => K v) := by
  refine enterE Try.func11 rfl 33 rfl (Nat.le_of_ble_eq_true rfl) (fun E a hs => ?_)
  unfold S_chafflaw_CodeRuns at hS
  have hMM := MX.refl M E
  change Sx 33 E [] M E a [(0, (Value.slice la1 ll2 lc3)), (1, (Value.string (mkS s4))), (2, (Value.int .i64 steps5))] [] [] at hs
  refine Wp.seq (Wp.region (sP (Value.bool false) hs fun _ hs => ?_))
  refine wpList_nil (Wp.seq (Wp.region (sP (Value.slice la1 ll2 lc3) hs fun _ hs => ?_)))
  refine sP (Value.string (mkS s4)) hs fun _ hs => ?_
  refine sP (Value.int .i64 steps5) hs fun _ hs => ?_
  refine stepCallP [(Value.slice la1 ll2 lc3), (Value.string (mkS s4)), (Value.int .i64 steps5)] hs rfl ⟨_, rfl, rfl⟩ rfl Try.func45 rfl (by kernel_rfl) (by decide) hS (fun _ _ v hS hs => ?_)
  obtain ⟨x6, x7, hv, hS⟩ := hS
  subst hv
  refine sP (Value.tuple #[x6.val, (Value.int .i64 x7)]) hs fun _ hs => ?_
  refine sP x6.val hs fun _ hs => ?_
  refine sP (Value.int .i64 x7) hs fun _ hs => ?_
  refine stepAlloc [(Value.bool false), (Value.int .i64 0)] hs (by kernel_rfl) (by decide) (fun _ _ b8 hEb8 hs => ?_)
  refine stepStoreB 0 (vs := [(Value.bool x6.Ok), (Value.int .i64 x6.N)]) hs rfl rfl rfl rfl rfl rfl (by kernel_rfl) (Nat.le_of_ble_eq_true rfl) rfl (fun _ _ hs => ?_)
  replace hs := hs.chbx (bs' := [⟨b8, 74, [(Value.bool x6.Ok), (Value.int .i64 x6.N)]⟩]) rfl
  refine sP (Value.int .i64 x7) hs fun _ hs => ?_
  refine wpList_nil (Wp.seq (Wp.region (sP (Value.slice la1 ll2 lc3) hs fun _ hs => ?_)))
  refine sP (Value.string (mkS s4)) hs fun _ hs => ?_
  refine sP (Value.int .i64 steps5) hs fun _ hs => ?_
  refine stepCallP [(Value.slice la1 ll2 lc3), (Value.string (mkS s4)), (Value.int .i64 steps5)] hs rfl ⟨_, rfl, rfl⟩ rfl Try.func46 rfl (by kernel_rfl) (by decide) hS (fun _ _ v hS hs => ?_)
  obtain ⟨x9, x10, hv, hS⟩ := hS
  subst hv
  refine sP (Value.tuple #[x9.val, (Value.int .i64 x10)]) hs fun _ hs => ?_
  refine sP x9.val hs fun _ hs => ?_
  refine sP (Value.int .i64 x10) hs fun _ hs => ?_
  refine stepAlloc [(Value.bool false), (Value.int .i64 0)] hs (by kernel_rfl) (by decide) (fun _ _ b11 hEb11 hs => ?_)
  refine stepStoreB 0 (vs := [(Value.bool x9.Ok), (Value.int .i64 x9.N)]) hs rfl rfl rfl rfl rfl rfl (by kernel_rfl) (Nat.le_of_ble_eq_true rfl) rfl (fun _ _ hs => ?_)
  replace hs := hs.chbx (bs' := [⟨b11, 74, [(Value.bool x9.Ok), (Value.int .i64 x9.N)]⟩, ⟨b8, 74, [(Value.bool x6.Ok), (Value.int .i64 x6.N)]⟩]) rfl
  refine sP (Value.int .i64 x10) hs fun _ hs => ?_
  refine wpList_nil (Wp.seq (Wp.region (sY x6.val hs (Yl.loadB (vs := x6.cells) true 1 rfl rfl rfl (by kernel_rfl) rfl) fun _ hs => ?_)))
  refine sY x9.val hs (Yl.loadB (vs := x9.cells) true 0 rfl rfl rfl (by kernel_rfl) rfl) fun _ hs => ?_
  refine sY (Value.bool ((x6.Ok == x9.Ok) && ((x6.N : Int) == (x9.N : Int)))) hs (Yl.eqlC (b := ((x6.Ok == x9.Ok) && ((x6.N : Int) == (x9.N : Int)))) [(Value.bool x6.Ok), (Value.int .i64 x6.N)] [(Value.bool x9.Ok), (Value.int .i64 x9.N)] rfl (by kernel_rfl) (by kernel_rfl) rfl rfl (by kernel_rfl)) fun _ hs => ?_
  refine sP (Value.bool ((x6.Ok == x9.Ok) && ((x6.N : Int) == (x9.N : Int)))) hs fun _ hs => ?_
  refine bsplit ((x6.Ok == x9.Ok) && ((x6.N : Int) == (x9.N : Int))) (band_iff beq_iff_eq beq_iff_eq) (fun hb hc => ?_) (fun hb hc => ?_)
  · have hs := hs.bt hb
    have hS := hS.1 hc
    refine sYe hs (sP (Value.int .i64 x7) hs fun _ hs => ?_)
    refine sYe hs (sP (Value.int .i64 x10) hs fun _ hs => ?_)
    refine sYe hs (sP (Value.bool ((x7 : Int) == (x10 : Int))) hs fun _ hs => ?_)
    refine sP (Value.bool ((x7 : Int) == (x10 : Int))) hs fun _ hs => ?_
    refine sP (Value.bool ((x7 : Int) == (x10 : Int))) hs fun _ hs => ?_
    exact wpList_nil (Wp.ret (leaveE (K := fun v _ => K v) hs (resT hs rfl rfl) hMM.2 (fun _ _ => hS)))
  · have hs := hs.bf hb
    have hS := hS.2 hc
    refine sNo hs fun _ hs => ?_
    refine sNo hs fun _ hs => ?_
    refine sNo hs fun _ hs => ?_
    refine sP (Value.bool false) hs fun _ hs => ?_
    refine sP (Value.bool false) hs fun _ hs => ?_
    exact wpList_nil (Wp.ret (leaveE (K := fun v _ => K v) hs (resT hs rfl rfl) hMM.2 (fun _ _ => hS)))

end Go.Proofs.Ytdlfhmdojbejkaa.lawCodeRuns
