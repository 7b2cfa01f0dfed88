/- What the code computes, function for function, as shallow propositions; printed by program. -/
import Derived.Test.YtaljnkggjadonaaCoreG
namespace Go.Proofs.Ytaljnkggjadonaa.core
open Go.Gx Go.RowKit Go.ChangeShapes Go.WideShapes Go.ChangeAt
structure X_api_Facts where
  Empty : Bool
  Eats : Bool
  Fails : Bool
def X_api_Facts.cells (x : X_api_Facts) : List Value := [(Value.bool x.Empty), (Value.bool x.Eats), (Value.bool x.Fails)]
def X_api_Facts.val (x : X_api_Facts) : Value := .agg x.cells.toArray
set_option linter.unusedVariables false in
def C_slices_Clone_int (sa1 : Option Addr) (sl2 : Nat) (sc3 : Nat) (M : Mem) (K : Nat → List Value → Prop) : Prop :=  CallL Try.prog 66 #[(Value.slice sa1 sl2 sc3)] M [] [] (fun v lb' lr' M' => ∃ (rn5 : Nat) (rx6 : List Value) (rv4 : Value), v = rv4 ∧ lb' = [] ∧ lr' = [⟨rv4, 3, 1, rn5, rx6, true⟩] ∧ K rn5 rx6)
set_option linter.unusedVariables false in
def S_well_of_1 (i1 : Int) (b2 : Nat) (b3 : Nat) (b4 : Nat) (M : Mem) (K : Value → Prop) : Prop :=
  (∃ (xa6 : Option Addr) (xl7 : Nat) (xc8 : Nat), At M b2 0 [(Value.slice xa6 xl7 xc8)] ∧ (∃ (xa9 : Option Addr) (xl10 : Nat) (xc11 : Nat), At M b3 0 [(Value.slice xa9 xl10 xc11)] ∧ (∃ (xa12 : Option Addr) (xl13 : Nat) (xc14 : Nat), At M b4 6 [(Value.slice xa12 xl13 xc14)] ∧ (∃ (b15 o16 : Nat), xa12 = some ⟨b15, o16, none⟩ ∧ (0 : Int) ≤ i1 ∧ i1 < ((xl13 : Nat) : Int) ∧ (∃ (x17 : X_api_Expr), At M b15 (o16 + i1.toNat * 7) x17.cells ∧ (CallE Try.prog 105 #[(Value.agg #[(Value.slice xa6 xl7 xc8)]), (Value.slice xa9 xl10 xc11), x17.val] M (fun v _ => ∃ (x18 : X_api_Facts), v = x18.val ∧ K x18.val)))))))
set_option linter.unusedVariables false in
set_option maxRecDepth 100000 in
theorem s_well_of_1 (i1 : Int) (b2 : Nat) (b3 : Nat) (b4 : Nat) (M : Mem) (K : Value → Prop) (hS : S_well_of_1 i1 b2 b3 b4 M K) : CallE Try.prog 124 #[(Value.int .i64 i1), (Value.pointer (some ⟨b2, 0, none⟩)), (Value.pointer (some ⟨b3, 0, none⟩)), (Value.pointer (some ⟨b4, 0, none⟩))] M (fun v _ => K v) := by
  refine enterE Try.func124 rfl 14 rfl (Nat.le_of_ble_eq_true rfl) (fun E a hs => ?_)
  unfold S_well_of_1 at hS
  have hMM := MX.refl M E
  change Sx 14 E [] M E a [(0, (Value.int .i64 i1)), (1, (Value.pointer (some ⟨b2, 0, none⟩))), (2, (Value.pointer (some ⟨b3, 0, none⟩))), (3, (Value.pointer (some ⟨b4, 0, none⟩)))] [] [] at hs
  refine Wp.seq (Wp.region (stepAlloc [(Value.bool false), (Value.bool false), (Value.bool false)] hs (by kernel_rfl) (by decide) (fun _ _ b5 hEb5 hs => ?_)))
  refine wpList_nil (Wp.seq (Wp.regionD [true, true, true, true, true, true, true, true, false] hs (by kernel_rfl) rfl [⟨b5, 46, [(Value.bool false), (Value.bool false), (Value.bool false)]⟩] (fun _ h => h) [] (fun _ h => h) (fun _ hs hC => ?_)))
  have hL := Mem.le.refl M
  obtain ⟨xa6, xl7, xc8, hat, hS⟩ := hS
  refine stepDY (v := (Value.agg #[(Value.slice xa6 xl7 xc8)])) 0 [7, 8] hs hC QZ.no rfl (wanted_none rfl) rfl (by decide) (by kernel_rfl) (by kernel_rfl) (by kernel_rfl) (Yl.loadV (vs := [(Value.slice xa6 xl7 xc8)]) true rfl rfl (by kernel_rfl) hat) (fun _ hs => ?_)
  obtain ⟨xa9, xl10, xc11, hat, hS⟩ := hS
  refine stepDY (v := (Value.slice xa9 xl10 xc11)) 1 [7, 8] hs hC QZ.no rfl (wanted_none rfl) rfl (by decide) (by kernel_rfl) (by kernel_rfl) (by kernel_rfl) (Yl.loadV (vs := [(Value.slice xa9 xl10 xc11)]) false rfl rfl (by kernel_rfl) hat) (fun _ hs => ?_)
  refine dP (Value.pointer (some ⟨b4, 6, none⟩)) 2 [3, 5, 6, 7, 8] hs QZ.no (wanted_none rfl) fun _ hs => ?_
  obtain ⟨xa12, xl13, xc14, hat, hS⟩ := hS
  refine stepDY (v := (Value.slice xa12 xl13 xc14)) 3 [5, 6, 7, 8] hs hC QZ.no rfl (wanted_none rfl) rfl (by decide) (by kernel_rfl) (by kernel_rfl) (by kernel_rfl) (Yl.loadV (vs := [(Value.slice xa12 xl13 xc14)]) false rfl rfl (by kernel_rfl) hat) (fun _ hs => ?_)
  refine stepDE 4 rfl (wanted_none rfl) (by kernel_rfl) #[] ?_
  refine sP (Value.int .i64 i1) hs fun _ hs => ?_
  refine wpList_nil (⟨fun _ h => h, ?_⟩)
  refine stepDE 5 rfl (wanted_none rfl) (by kernel_rfl) #[] ?_
  obtain ⟨b15, o16, ha, h0, hl, hS⟩ := hS
  refine sY (Value.pointer (some ⟨b15, o16 + i1.toNat * 7, none⟩)) hs (Yl.indexS (e := 96) (sz := 7) rfl rfl rfl rfl (by kernel_rfl) (by kernel_rfl) ha h0 hl) fun _ hs => ?_
  refine wpList_nil (⟨fun _ h => h, ?_⟩)
  refine stepDE 6 rfl (wanted_none rfl) (by kernel_rfl) #[] ?_
  obtain ⟨x17, hat, hS⟩ := hS
  refine sY x17.val hs (Yl.loadV (vs := x17.cells) true rfl rfl (by kernel_rfl) hat) fun _ hs => ?_
  refine wpList_nil (⟨fun _ h => h, ?_⟩)
  refine stepDE 7 rfl (wanted_none rfl) (by kernel_rfl) #[] ?_
  refine stepCallP [(Value.agg #[(Value.slice xa6 xl7 xc8)]), (Value.slice xa9 xl10 xc11), x17.val] hs rfl ⟨_, rfl, rfl⟩ rfl Try.func105 rfl (by kernel_rfl) (by decide) hS (fun _ _ v hS hs => ?_)
  obtain ⟨x18, hv, hS⟩ := hS
  subst hv
  refine wpList_nil (⟨fun _ _ => hs.cxle hL (List.Sublist.refl _) (List.Sublist.refl _), ?_⟩)
  have hC := hs.cxle hL (List.Sublist.refl _) (List.Sublist.refl _)
  refine stepDE 8 rfl (wanted_none rfl) (by kernel_rfl) #[] ?_
  refine stepStoreB 0 (vs := [(Value.bool x18.Empty), (Value.bool x18.Eats), (Value.bool x18.Fails)]) hs rfl rfl rfl rfl rfl rfl (by kernel_rfl) (Nat.le_of_ble_eq_true rfl) rfl (fun _ _ hs => ?_)
  replace hs := hs.chbx (bs' := [⟨b5, 46, [(Value.bool x18.Empty), (Value.bool x18.Eats), (Value.bool x18.Fails)]⟩]) rfl
  refine wpList_nil (⟨fun h => absurd h (by decide), ?_⟩)
  refine WpD.done (by kernel_rfl) ?_ _
  exact Wp.ret (leaveE (K := fun v _ => K v) hs (resC (vs := [(Value.bool x18.Empty), (Value.bool x18.Eats), (Value.bool x18.Fails)]) true 0 hs rfl rfl rfl (by kernel_rfl) rfl) hMM.2 (fun _ _ => hS))
theorem f_well_of_1 (i1 : Int) (b2 : Nat) (b3 : Nat) (b4 : Nat) (M : Mem) (K : Value → Prop) (hS : S_well_of_1 i1 b2 b3 b4 M K) : CallF Try.prog (Value.func (.func 124) #[] #[(Value.pointer (some ⟨b2, 0, none⟩)), (Value.pointer (some ⟨b3, 0, none⟩)), (Value.pointer (some ⟨b4, 0, none⟩))]) [(Value.int .i64 i1)] M (fun v _ => K v) := ⟨124, _, _, _, rfl, Try.func124, rfl, (by decide), s_well_of_1 _ _ _ _ _ _ hS⟩
set_option linter.unusedVariables false in
def S_well_then (a1 : X_api_Facts) (b2 : X_api_Facts) (M : Mem) (K : Value → Prop) : Prop :=
  ((a1.Empty = true → ((a1.Eats = true → ((b2.Empty = true → ((a1.Fails = true → K (X_api_Facts.mk b2.Empty true true).val) ∧ (¬ (a1.Fails = true) → ((a1.Empty = true → K (X_api_Facts.mk b2.Empty true b2.Fails).val) ∧ (¬ (a1.Empty = true) → ((a1.Eats = true → K (X_api_Facts.mk b2.Empty true b2.Fails).val) ∧ (¬ (a1.Eats = true) → K (X_api_Facts.mk b2.Empty true false).val))))))) ∧ (¬ (b2.Empty = true) → ((b2.Eats = true → ((a1.Fails = true → K (X_api_Facts.mk b2.Empty true true).val) ∧ (¬ (a1.Fails = true) → ((a1.Empty = true → K (X_api_Facts.mk b2.Empty true b2.Fails).val) ∧ (¬ (a1.Empty = true) → ((a1.Eats = true → K (X_api_Facts.mk b2.Empty true b2.Fails).val) ∧ (¬ (a1.Eats = true) → K (X_api_Facts.mk b2.Empty true false).val))))))) ∧ (¬ (b2.Eats = true) → ((a1.Empty = true → ((a1.Fails = true → K (X_api_Facts.mk b2.Empty b2.Eats true).val) ∧ (¬ (a1.Fails = true) → ((a1.Empty = true → K b2.val) ∧ (¬ (a1.Empty = true) → ((a1.Eats = true → K b2.val) ∧ (¬ (a1.Eats = true) → K (X_api_Facts.mk b2.Empty b2.Eats false).val))))))) ∧ (¬ (a1.Empty = true) → ((a1.Fails = true → K (X_api_Facts.mk b2.Empty false true).val) ∧ (¬ (a1.Fails = true) → ((a1.Empty = true → K (X_api_Facts.mk b2.Empty false b2.Fails).val) ∧ (¬ (a1.Empty = true) → ((a1.Eats = true → K (X_api_Facts.mk b2.Empty false b2.Fails).val) ∧ (¬ (a1.Eats = true) → K (X_api_Facts.mk b2.Empty false false).val))))))))))))) ∧ (¬ (a1.Eats = true) → ((a1.Empty = true → ((a1.Fails = true → K (X_api_Facts.mk b2.Empty b2.Eats true).val) ∧ (¬ (a1.Fails = true) → ((a1.Empty = true → K b2.val) ∧ (¬ (a1.Empty = true) → ((a1.Eats = true → K b2.val) ∧ (¬ (a1.Eats = true) → K (X_api_Facts.mk b2.Empty b2.Eats false).val))))))) ∧ (¬ (a1.Empty = true) → ((a1.Fails = true → K (X_api_Facts.mk b2.Empty false true).val) ∧ (¬ (a1.Fails = true) → ((a1.Empty = true → K (X_api_Facts.mk b2.Empty false b2.Fails).val) ∧ (¬ (a1.Empty = true) → ((a1.Eats = true → K (X_api_Facts.mk b2.Empty false b2.Fails).val) ∧ (¬ (a1.Eats = true) → K (X_api_Facts.mk b2.Empty false false).val))))))))))) ∧ (¬ (a1.Empty = true) → ((a1.Eats = true → ((b2.Empty = true → ((a1.Fails = true → K (X_api_Facts.mk false true true).val) ∧ (¬ (a1.Fails = true) → ((a1.Empty = true → K (X_api_Facts.mk false true b2.Fails).val) ∧ (¬ (a1.Empty = true) → ((a1.Eats = true → K (X_api_Facts.mk false true b2.Fails).val) ∧ (¬ (a1.Eats = true) → K (X_api_Facts.mk false true false).val))))))) ∧ (¬ (b2.Empty = true) → ((b2.Eats = true → ((a1.Fails = true → K (X_api_Facts.mk false true true).val) ∧ (¬ (a1.Fails = true) → ((a1.Empty = true → K (X_api_Facts.mk false true b2.Fails).val) ∧ (¬ (a1.Empty = true) → ((a1.Eats = true → K (X_api_Facts.mk false true b2.Fails).val) ∧ (¬ (a1.Eats = true) → K (X_api_Facts.mk false true false).val))))))) ∧ (¬ (b2.Eats = true) → ((a1.Empty = true → ((a1.Fails = true → K (X_api_Facts.mk false b2.Eats true).val) ∧ (¬ (a1.Fails = true) → ((a1.Empty = true → K (X_api_Facts.mk false b2.Eats b2.Fails).val) ∧ (¬ (a1.Empty = true) → ((a1.Eats = true → K (X_api_Facts.mk false b2.Eats b2.Fails).val) ∧ (¬ (a1.Eats = true) → K (X_api_Facts.mk false b2.Eats false).val))))))) ∧ (¬ (a1.Empty = true) → ((a1.Fails = true → K (X_api_Facts.mk false false true).val) ∧ (¬ (a1.Fails = true) → ((a1.Empty = true → K (X_api_Facts.mk false false b2.Fails).val) ∧ (¬ (a1.Empty = true) → ((a1.Eats = true → K (X_api_Facts.mk false false b2.Fails).val) ∧ (¬ (a1.Eats = true) → K (X_api_Facts.mk false false false).val))))))))))))) ∧ (¬ (a1.Eats = true) → ((a1.Empty = true → ((a1.Fails = true → K (X_api_Facts.mk false b2.Eats true).val) ∧ (¬ (a1.Fails = true) → ((a1.Empty = true → K (X_api_Facts.mk false b2.Eats b2.Fails).val) ∧ (¬ (a1.Empty = true) → ((a1.Eats = true → K (X_api_Facts.mk false b2.Eats b2.Fails).val) ∧ (¬ (a1.Eats = true) → K (X_api_Facts.mk false b2.Eats false).val))))))) ∧ (¬ (a1.Empty = true) → ((a1.Fails = true → K (X_api_Facts.mk false false true).val) ∧ (¬ (a1.Fails = true) → ((a1.Empty = true → K (X_api_Facts.mk false false b2.Fails).val) ∧ (¬ (a1.Empty = true) → ((a1.Eats = true → K (X_api_Facts.mk false false b2.Fails).val) ∧ (¬ (a1.Eats = true) → K (X_api_Facts.mk false false false).val))))))))))))
set_option linter.unusedVariables false in
set_option maxRecDepth 100000 in
theorem s_well_then (a1 : X_api_Facts) (b2 : X_api_Facts) (M : Mem) (K : Value → Prop) (hS : S_well_then a1 b2 M K) : CallE Try.prog 125 #[a1.val, b2.val] M (fun v _ => K v) := by
  refine enterE Try.func125 rfl 44 rfl (Nat.le_of_ble_eq_true rfl) (fun E a hs => ?_)
  unfold S_well_then at hS
  have hMM := MX.refl M E
  change Sx 44 E [] M E a [(0, a1.val), (1, b2.val)] [] [] at hs
  refine Wp.seq (Wp.region (stepBox [(Value.bool a1.Empty), (Value.bool a1.Eats), (Value.bool a1.Fails)] hs rfl rfl rfl (by decide) (fun _ _ b3 hEb3 hs => ?_)))
  refine stepBox [(Value.bool b2.Empty), (Value.bool b2.Eats), (Value.bool b2.Fails)] hs rfl rfl rfl (by decide) (fun _ _ b4 hEb4 hs => ?_)
  refine stepAlloc [(Value.bool false), (Value.bool false), (Value.bool false)] hs (by kernel_rfl) (by decide) (fun _ _ b5 hEb5 hs => ?_)
  refine wpList_nil (Wp.seq (Wp.region (sP (Value.pointer (some ⟨b3, 0, none⟩)) hs fun _ hs => ?_)))
  refine sY (Value.bool a1.Empty) hs (Yl.loadB (vs := [(Value.bool a1.Empty)]) false 2 rfl rfl rfl (by kernel_rfl) rfl) fun _ hs => ?_
  refine sP (Value.bool a1.Empty) hs fun _ hs => ?_
  refine bsplit a1.Empty Iff.rfl (fun hb hc => ?_) (fun hb hc => ?_)
  · have hs := hs.bt hb
    have hS := hS.1 hc
    refine sYe hs (sP (Value.pointer (some ⟨b4, 0, none⟩)) hs fun _ hs => ?_)
    refine sYe hs (sY (Value.bool b2.Empty) hs (Yl.loadB (vs := [(Value.bool b2.Empty)]) false 1 rfl rfl rfl (by kernel_rfl) rfl) fun _ hs => ?_)
    refine sP (Value.bool b2.Empty) hs fun _ hs => ?_
    refine sP (Value.pointer (some ⟨b3, 1, none⟩)) hs fun _ hs => ?_
    refine sY (Value.bool a1.Eats) hs (Yl.loadB (vs := [(Value.bool a1.Eats)]) false 2 rfl rfl rfl (by kernel_rfl) rfl) fun _ hs => ?_
    refine sP (Value.bool a1.Eats) hs fun _ hs => ?_
    refine bsplit a1.Eats Iff.rfl (fun hb hc => ?_) (fun hb hc => ?_)
    · have hs := hs.bt hb
      have hS := hS.1 hc
      refine sYe hs (sP (Value.pointer (some ⟨b4, 0, none⟩)) hs fun _ hs => ?_)
      refine sYe hs (sY (Value.bool b2.Empty) hs (Yl.loadB (vs := [(Value.bool b2.Empty)]) false 1 rfl rfl rfl (by kernel_rfl) rfl) fun _ hs => ?_)
      refine sYe hs (sP (Value.bool b2.Empty) hs fun _ hs => ?_)
      refine bsplit b2.Empty Iff.rfl (fun hb hc => ?_) (fun hb hc => ?_)
      · have hs := hs.bt hb
        have hS := hS.1 hc
        refine sNo hs fun _ hs => ?_
        refine sNo hs fun _ hs => ?_
        refine sYe hs (sP (Value.bool true) hs fun _ hs => ?_)
        refine sP (Value.bool true) hs fun _ hs => ?_
        refine sP (Value.bool true) hs fun _ hs => ?_
        refine sNo hs fun _ hs => ?_
        refine sNo hs fun _ hs => ?_
        refine sNo hs fun _ hs => ?_
        refine sNu hs fun _ hs => ?_
        refine sNu hs fun _ hs => ?_
        refine sNo hs fun _ hs => ?_
        refine sP (Value.bool true) hs fun _ hs => ?_
        refine sP (Value.pointer (some ⟨b3, 2, none⟩)) hs fun _ hs => ?_
        refine sY (Value.bool a1.Fails) hs (Yl.loadB (vs := [(Value.bool a1.Fails)]) false 2 rfl rfl rfl (by kernel_rfl) rfl) fun _ hs => ?_
        refine sP (Value.bool a1.Fails) hs fun _ hs => ?_
        refine bsplit a1.Fails Iff.rfl (fun hb hc => ?_) (fun hb hc => ?_)
        · have hs := hs.bt hb
          have hS := hS.1 hc
          refine sNo hs fun _ hs => ?_
          refine sNo hs fun _ hs => ?_
          refine sNo hs fun _ hs => ?_
          refine sNu hs fun _ hs => ?_
          refine sNu hs fun _ hs => ?_
          refine sNo hs fun _ hs => ?_
          refine sNo hs fun _ hs => ?_
          refine sNu hs fun _ hs => ?_
          refine sNu hs fun _ hs => ?_
          refine sNo hs fun _ hs => ?_
          refine sP (Value.bool true) hs fun _ hs => ?_
          refine sP (X_api_Facts.mk b2.Empty true true).val hs fun _ hs => ?_
          refine stepStoreB 0 (vs := [(Value.bool b2.Empty), (Value.bool true), (Value.bool true)]) hs rfl rfl rfl rfl rfl rfl (by kernel_rfl) (Nat.le_of_ble_eq_true rfl) rfl (fun _ _ hs => ?_)
          replace hs := hs.chbx (bs' := [⟨b5, 46, [(Value.bool b2.Empty), (Value.bool true), (Value.bool true)]⟩, ⟨b4, 46, [(Value.bool b2.Empty), (Value.bool b2.Eats), (Value.bool b2.Fails)]⟩, ⟨b3, 46, [(Value.bool a1.Empty), (Value.bool a1.Eats), (Value.bool a1.Fails)]⟩]) rfl
          exact wpList_nil (Wp.ret (leaveE (K := fun v _ => K v) hs (resC (vs := [(Value.bool b2.Empty), (Value.bool true), (Value.bool true)]) true 0 hs rfl rfl rfl (by kernel_rfl) rfl) hMM.2 (fun _ _ => hS)))
        · have hs := hs.bf hb
          have hS := hS.2 hc
          refine sYe hs (sP (Value.pointer (some ⟨b3, 0, none⟩)) hs fun _ hs => ?_)
          refine sYe hs (sY (Value.bool a1.Empty) hs (Yl.loadB (vs := [(Value.bool a1.Empty)]) false 2 rfl rfl rfl (by kernel_rfl) rfl) fun _ hs => ?_)
          refine sYe hs (sP (Value.bool a1.Empty) hs fun _ hs => ?_)
          refine bsplit a1.Empty Iff.rfl (fun hb hc => ?_) (fun hb hc => ?_)
          · have hs := hs.bt hb
            have hS := hS.1 hc
            refine sNo hs fun _ hs => ?_
            refine sNo hs fun _ hs => ?_
            refine sYe hs (sP (Value.bool true) hs fun _ hs => ?_)
            refine sYe hs (sP (Value.bool true) hs fun _ hs => ?_)
            refine sYe hs (sP (Value.pointer (some ⟨b4, 2, none⟩)) hs fun _ hs => ?_)
            refine sYe hs (sY (Value.bool b2.Fails) hs (Yl.loadB (vs := [(Value.bool b2.Fails)]) false 1 rfl rfl rfl (by kernel_rfl) rfl) fun _ hs => ?_)
            refine sYe hs (sP (Value.bool b2.Fails) hs fun _ hs => ?_)
            refine sP (Value.bool b2.Fails) hs fun _ hs => ?_
            refine sP (X_api_Facts.mk b2.Empty true b2.Fails).val hs fun _ hs => ?_
            refine stepStoreB 0 (vs := [(Value.bool b2.Empty), (Value.bool true), (Value.bool b2.Fails)]) hs rfl rfl rfl rfl rfl rfl (by kernel_rfl) (Nat.le_of_ble_eq_true rfl) rfl (fun _ _ hs => ?_)
            replace hs := hs.chbx (bs' := [⟨b5, 46, [(Value.bool b2.Empty), (Value.bool true), (Value.bool b2.Fails)]⟩, ⟨b4, 46, [(Value.bool b2.Empty), (Value.bool b2.Eats), (Value.bool b2.Fails)]⟩, ⟨b3, 46, [(Value.bool a1.Empty), (Value.bool a1.Eats), (Value.bool a1.Fails)]⟩]) rfl
            exact wpList_nil (Wp.ret (leaveE (K := fun v _ => K v) hs (resC (vs := [(Value.bool b2.Empty), (Value.bool true), (Value.bool b2.Fails)]) true 0 hs rfl rfl rfl (by kernel_rfl) rfl) hMM.2 (fun _ _ => hS)))
          · have hs := hs.bf hb
            have hS := hS.2 hc
            refine sYe hs (sP (Value.pointer (some ⟨b3, 1, none⟩)) hs fun _ hs => ?_)
            refine sYe hs (sY (Value.bool a1.Eats) hs (Yl.loadB (vs := [(Value.bool a1.Eats)]) false 2 rfl rfl rfl (by kernel_rfl) rfl) fun _ hs => ?_)
            refine sYe hs (sP (Value.bool a1.Eats) hs fun _ hs => ?_)
            refine sYe hs (sP (Value.bool a1.Eats) hs fun _ hs => ?_)
            refine bsplit a1.Eats Iff.rfl (fun hb hc => ?_) (fun hb hc => ?_)
            · have hs := hs.bt hb
              have hS := hS.1 hc
              refine sYe hs (sP (Value.pointer (some ⟨b4, 2, none⟩)) hs fun _ hs => ?_)
              refine sYe hs (sY (Value.bool b2.Fails) hs (Yl.loadB (vs := [(Value.bool b2.Fails)]) false 1 rfl rfl rfl (by kernel_rfl) rfl) fun _ hs => ?_)
              refine sYe hs (sP (Value.bool b2.Fails) hs fun _ hs => ?_)
              refine sP (Value.bool b2.Fails) hs fun _ hs => ?_
              refine sP (X_api_Facts.mk b2.Empty true b2.Fails).val hs fun _ hs => ?_
              refine stepStoreB 0 (vs := [(Value.bool b2.Empty), (Value.bool true), (Value.bool b2.Fails)]) hs rfl rfl rfl rfl rfl rfl (by kernel_rfl) (Nat.le_of_ble_eq_true rfl) rfl (fun _ _ hs => ?_)
              replace hs := hs.chbx (bs' := [⟨b5, 46, [(Value.bool b2.Empty), (Value.bool true), (Value.bool b2.Fails)]⟩, ⟨b4, 46, [(Value.bool b2.Empty), (Value.bool b2.Eats), (Value.bool b2.Fails)]⟩, ⟨b3, 46, [(Value.bool a1.Empty), (Value.bool a1.Eats), (Value.bool a1.Fails)]⟩]) rfl
              exact wpList_nil (Wp.ret (leaveE (K := fun v _ => K v) hs (resC (vs := [(Value.bool b2.Empty), (Value.bool true), (Value.bool b2.Fails)]) true 0 hs rfl rfl rfl (by kernel_rfl) rfl) hMM.2 (fun _ _ => hS)))
            · have hs := hs.bf hb
              have hS := hS.2 hc
              refine sNo hs fun _ hs => ?_
              refine sNo hs fun _ hs => ?_
              refine sYe hs (sP (Value.bool false) hs fun _ hs => ?_)
              refine sP (Value.bool false) hs fun _ hs => ?_
              refine sP (X_api_Facts.mk b2.Empty true false).val hs fun _ hs => ?_
              refine stepStoreB 0 (vs := [(Value.bool b2.Empty), (Value.bool true), (Value.bool false)]) hs rfl rfl rfl rfl rfl rfl (by kernel_rfl) (Nat.le_of_ble_eq_true rfl) rfl (fun _ _ hs => ?_)
              replace hs := hs.chbx (bs' := [⟨b5, 46, [(Value.bool b2.Empty), (Value.bool true), (Value.bool false)]⟩, ⟨b4, 46, [(Value.bool b2.Empty), (Value.bool b2.Eats), (Value.bool b2.Fails)]⟩, ⟨b3, 46, [(Value.bool a1.Empty), (Value.bool a1.Eats), (Value.bool a1.Fails)]⟩]) rfl
              exact wpList_nil (Wp.ret (leaveE (K := fun v _ => K v) hs (resC (vs := [(Value.bool b2.Empty), (Value.bool true), (Value.bool false)]) true 0 hs rfl rfl rfl (by kernel_rfl) rfl) hMM.2 (fun _ _ => hS)))
      · have hs := hs.bf hb
        have hS := hS.2 hc
        refine sYe hs (sP (Value.pointer (some ⟨b4, 1, none⟩)) hs fun _ hs => ?_)
        refine sYe hs (sY (Value.bool b2.Eats) hs (Yl.loadB (vs := [(Value.bool b2.Eats)]) false 1 rfl rfl rfl (by kernel_rfl) rfl) fun _ hs => ?_)
        refine sYe hs (sP (Value.bool b2.Eats) hs fun _ hs => ?_)
        refine sP (Value.bool b2.Eats) hs fun _ hs => ?_
        refine sP (Value.bool b2.Eats) hs fun _ hs => ?_
        refine bsplit b2.Eats Iff.rfl (fun hb hc => ?_) (fun hb hc => ?_)
        · have hs := hs.bt hb
          have hS := hS.1 hc
          refine sNo hs fun _ hs => ?_
          refine sNo hs fun _ hs => ?_
          refine sNo hs fun _ hs => ?_
          refine sNu hs fun _ hs => ?_
          refine sNu hs fun _ hs => ?_
          refine sNo hs fun _ hs => ?_
          refine sP (Value.bool true) hs fun _ hs => ?_
          refine sP (Value.pointer (some ⟨b3, 2, none⟩)) hs fun _ hs => ?_
          refine sY (Value.bool a1.Fails) hs (Yl.loadB (vs := [(Value.bool a1.Fails)]) false 2 rfl rfl rfl (by kernel_rfl) rfl) fun _ hs => ?_
          refine sP (Value.bool a1.Fails) hs fun _ hs => ?_
          refine bsplit a1.Fails Iff.rfl (fun hb hc => ?_) (fun hb hc => ?_)
          · have hs := hs.bt hb
            have hS := hS.1 hc
            refine sNo hs fun _ hs => ?_
            refine sNo hs fun _ hs => ?_
            refine sNo hs fun _ hs => ?_
            refine sNu hs fun _ hs => ?_
            refine sNu hs fun _ hs => ?_
            refine sNo hs fun _ hs => ?_
            refine sNo hs fun _ hs => ?_
            refine sNu hs fun _ hs => ?_
            refine sNu hs fun _ hs => ?_
            refine sNo hs fun _ hs => ?_
            refine sP (Value.bool true) hs fun _ hs => ?_
            refine sP (X_api_Facts.mk b2.Empty true true).val hs fun _ hs => ?_
            refine stepStoreB 0 (vs := [(Value.bool b2.Empty), (Value.bool true), (Value.bool true)]) hs rfl rfl rfl rfl rfl rfl (by kernel_rfl) (Nat.le_of_ble_eq_true rfl) rfl (fun _ _ hs => ?_)
            replace hs := hs.chbx (bs' := [⟨b5, 46, [(Value.bool b2.Empty), (Value.bool true), (Value.bool true)]⟩, ⟨b4, 46, [(Value.bool b2.Empty), (Value.bool b2.Eats), (Value.bool b2.Fails)]⟩, ⟨b3, 46, [(Value.bool a1.Empty), (Value.bool a1.Eats), (Value.bool a1.Fails)]⟩]) rfl
            exact wpList_nil (Wp.ret (leaveE (K := fun v _ => K v) hs (resC (vs := [(Value.bool b2.Empty), (Value.bool true), (Value.bool true)]) true 0 hs rfl rfl rfl (by kernel_rfl) rfl) hMM.2 (fun _ _ => hS)))
          · have hs := hs.bf hb
            have hS := hS.2 hc
            refine sYe hs (sP (Value.pointer (some ⟨b3, 0, none⟩)) hs fun _ hs => ?_)
            refine sYe hs (sY (Value.bool a1.Empty) hs (Yl.loadB (vs := [(Value.bool a1.Empty)]) false 2 rfl rfl rfl (by kernel_rfl) rfl) fun _ hs => ?_)
            refine sYe hs (sP (Value.bool a1.Empty) hs fun _ hs => ?_)
            refine bsplit a1.Empty Iff.rfl (fun hb hc => ?_) (fun hb hc => ?_)
            · have hs := hs.bt hb
              have hS := hS.1 hc
              refine sNo hs fun _ hs => ?_
              refine sNo hs fun _ hs => ?_
              refine sYe hs (sP (Value.bool true) hs fun _ hs => ?_)
              refine sYe hs (sP (Value.bool true) hs fun _ hs => ?_)
              refine sYe hs (sP (Value.pointer (some ⟨b4, 2, none⟩)) hs fun _ hs => ?_)
              refine sYe hs (sY (Value.bool b2.Fails) hs (Yl.loadB (vs := [(Value.bool b2.Fails)]) false 1 rfl rfl rfl (by kernel_rfl) rfl) fun _ hs => ?_)
              refine sYe hs (sP (Value.bool b2.Fails) hs fun _ hs => ?_)
              refine sP (Value.bool b2.Fails) hs fun _ hs => ?_
              refine sP (X_api_Facts.mk b2.Empty true b2.Fails).val hs fun _ hs => ?_
              refine stepStoreB 0 (vs := [(Value.bool b2.Empty), (Value.bool true), (Value.bool b2.Fails)]) hs rfl rfl rfl rfl rfl rfl (by kernel_rfl) (Nat.le_of_ble_eq_true rfl) rfl (fun _ _ hs => ?_)
              replace hs := hs.chbx (bs' := [⟨b5, 46, [(Value.bool b2.Empty), (Value.bool true), (Value.bool b2.Fails)]⟩, ⟨b4, 46, [(Value.bool b2.Empty), (Value.bool b2.Eats), (Value.bool b2.Fails)]⟩, ⟨b3, 46, [(Value.bool a1.Empty), (Value.bool a1.Eats), (Value.bool a1.Fails)]⟩]) rfl
              exact wpList_nil (Wp.ret (leaveE (K := fun v _ => K v) hs (resC (vs := [(Value.bool b2.Empty), (Value.bool true), (Value.bool b2.Fails)]) true 0 hs rfl rfl rfl (by kernel_rfl) rfl) hMM.2 (fun _ _ => hS)))
            · have hs := hs.bf hb
              have hS := hS.2 hc
              refine sYe hs (sP (Value.pointer (some ⟨b3, 1, none⟩)) hs fun _ hs => ?_)
              refine sYe hs (sY (Value.bool a1.Eats) hs (Yl.loadB (vs := [(Value.bool a1.Eats)]) false 2 rfl rfl rfl (by kernel_rfl) rfl) fun _ hs => ?_)
              refine sYe hs (sP (Value.bool a1.Eats) hs fun _ hs => ?_)
              refine sYe hs (sP (Value.bool a1.Eats) hs fun _ hs => ?_)
              refine bsplit a1.Eats Iff.rfl (fun hb hc => ?_) (fun hb hc => ?_)
              · have hs := hs.bt hb
                have hS := hS.1 hc
                refine sYe hs (sP (Value.pointer (some ⟨b4, 2, none⟩)) hs fun _ hs => ?_)
                refine sYe hs (sY (Value.bool b2.Fails) hs (Yl.loadB (vs := [(Value.bool b2.Fails)]) false 1 rfl rfl rfl (by kernel_rfl) rfl) fun _ hs => ?_)
                refine sYe hs (sP (Value.bool b2.Fails) hs fun _ hs => ?_)
                refine sP (Value.bool b2.Fails) hs fun _ hs => ?_
                refine sP (X_api_Facts.mk b2.Empty true b2.Fails).val hs fun _ hs => ?_
                refine stepStoreB 0 (vs := [(Value.bool b2.Empty), (Value.bool true), (Value.bool b2.Fails)]) hs rfl rfl rfl rfl rfl rfl (by kernel_rfl) (Nat.le_of_ble_eq_true rfl) rfl (fun _ _ hs => ?_)
                replace hs := hs.chbx (bs' := [⟨b5, 46, [(Value.bool b2.Empty), (Value.bool true), (Value.bool b2.Fails)]⟩, ⟨b4, 46, [(Value.bool b2.Empty), (Value.bool b2.Eats), (Value.bool b2.Fails)]⟩, ⟨b3, 46, [(Value.bool a1.Empty), (Value.bool a1.Eats), (Value.bool a1.Fails)]⟩]) rfl
                exact wpList_nil (Wp.ret (leaveE (K := fun v _ => K v) hs (resC (vs := [(Value.bool b2.Empty), (Value.bool true), (Value.bool b2.Fails)]) true 0 hs rfl rfl rfl (by kernel_rfl) rfl) hMM.2 (fun _ _ => hS)))
              · have hs := hs.bf hb
                have hS := hS.2 hc
                refine sNo hs fun _ hs => ?_
                refine sNo hs fun _ hs => ?_
                refine sYe hs (sP (Value.bool false) hs fun _ hs => ?_)
                refine sP (Value.bool false) hs fun _ hs => ?_
                refine sP (X_api_Facts.mk b2.Empty true false).val hs fun _ hs => ?_
                refine stepStoreB 0 (vs := [(Value.bool b2.Empty), (Value.bool true), (Value.bool false)]) hs rfl rfl rfl rfl rfl rfl (by kernel_rfl) (Nat.le_of_ble_eq_true rfl) rfl (fun _ _ hs => ?_)
                replace hs := hs.chbx (bs' := [⟨b5, 46, [(Value.bool b2.Empty), (Value.bool true), (Value.bool false)]⟩, ⟨b4, 46, [(Value.bool b2.Empty), (Value.bool b2.Eats), (Value.bool b2.Fails)]⟩, ⟨b3, 46, [(Value.bool a1.Empty), (Value.bool a1.Eats), (Value.bool a1.Fails)]⟩]) rfl
                exact wpList_nil (Wp.ret (leaveE (K := fun v _ => K v) hs (resC (vs := [(Value.bool b2.Empty), (Value.bool true), (Value.bool false)]) true 0 hs rfl rfl rfl (by kernel_rfl) rfl) hMM.2 (fun _ _ => hS)))
        · have hs := hs.bf hb
          have hS := hS.2 hc
          refine sYe hs (sP (Value.pointer (some ⟨b3, 0, none⟩)) hs fun _ hs => ?_)
          refine sYe hs (sY (Value.bool a1.Empty) hs (Yl.loadB (vs := [(Value.bool a1.Empty)]) false 2 rfl rfl rfl (by kernel_rfl) rfl) fun _ hs => ?_)
          refine sYe hs (sP (Value.bool a1.Empty) hs fun _ hs => ?_)
          refine bsplit a1.Empty Iff.rfl (fun hb hc => ?_) (fun hb hc => ?_)
          · have hs := hs.bt hb
            have hS := hS.1 hc
            refine sYe hs (sP (Value.pointer (some ⟨b4, 1, none⟩)) hs fun _ hs => ?_)
            refine sYe hs (sY (Value.bool b2.Eats) hs (Yl.loadB (vs := [(Value.bool b2.Eats)]) false 1 rfl rfl rfl (by kernel_rfl) rfl) fun _ hs => ?_)
            refine sYe hs (sP (Value.bool b2.Eats) hs fun _ hs => ?_)
            refine sP (Value.bool b2.Eats) hs fun _ hs => ?_
            refine sP (Value.pointer (some ⟨b3, 2, none⟩)) hs fun _ hs => ?_
            refine sY (Value.bool a1.Fails) hs (Yl.loadB (vs := [(Value.bool a1.Fails)]) false 2 rfl rfl rfl (by kernel_rfl) rfl) fun _ hs => ?_
            refine sP (Value.bool a1.Fails) hs fun _ hs => ?_
            refine bsplit a1.Fails Iff.rfl (fun hb hc => ?_) (fun hb hc => ?_)
            · have hs := hs.bt hb
              have hS := hS.1 hc
              refine sNo hs fun _ hs => ?_
              refine sNo hs fun _ hs => ?_
              refine sNo hs fun _ hs => ?_
              refine sNu hs fun _ hs => ?_
              refine sNu hs fun _ hs => ?_
              refine sNo hs fun _ hs => ?_
              refine sNo hs fun _ hs => ?_
              refine sNu hs fun _ hs => ?_
              refine sNu hs fun _ hs => ?_
              refine sNo hs fun _ hs => ?_
              refine sP (Value.bool true) hs fun _ hs => ?_
              refine sP (X_api_Facts.mk b2.Empty b2.Eats true).val hs fun _ hs => ?_
              refine stepStoreB 0 (vs := [(Value.bool b2.Empty), (Value.bool b2.Eats), (Value.bool true)]) hs rfl rfl rfl rfl rfl rfl (by kernel_rfl) (Nat.le_of_ble_eq_true rfl) rfl (fun _ _ hs => ?_)
              replace hs := hs.chbx (bs' := [⟨b5, 46, [(Value.bool b2.Empty), (Value.bool b2.Eats), (Value.bool true)]⟩, ⟨b4, 46, [(Value.bool b2.Empty), (Value.bool b2.Eats), (Value.bool b2.Fails)]⟩, ⟨b3, 46, [(Value.bool a1.Empty), (Value.bool a1.Eats), (Value.bool a1.Fails)]⟩]) rfl
              exact wpList_nil (Wp.ret (leaveE (K := fun v _ => K v) hs (resC (vs := [(Value.bool b2.Empty), (Value.bool b2.Eats), (Value.bool true)]) true 0 hs rfl rfl rfl (by kernel_rfl) rfl) hMM.2 (fun _ _ => hS)))
            · have hs := hs.bf hb
              have hS := hS.2 hc
              refine sYe hs (sP (Value.pointer (some ⟨b3, 0, none⟩)) hs fun _ hs => ?_)
              refine sYe hs (sY (Value.bool a1.Empty) hs (Yl.loadB (vs := [(Value.bool a1.Empty)]) false 2 rfl rfl rfl (by kernel_rfl) rfl) fun _ hs => ?_)
              refine sYe hs (sP (Value.bool a1.Empty) hs fun _ hs => ?_)
              refine bsplit a1.Empty Iff.rfl (fun hb hc => ?_) (fun hb hc => ?_)
              · have hs := hs.bt hb
                have hS := hS.1 hc
                refine sNo hs fun _ hs => ?_
                refine sNo hs fun _ hs => ?_
                refine sYe hs (sP (Value.bool true) hs fun _ hs => ?_)
                refine sYe hs (sP (Value.bool true) hs fun _ hs => ?_)
                refine sYe hs (sP (Value.pointer (some ⟨b4, 2, none⟩)) hs fun _ hs => ?_)
                refine sYe hs (sY (Value.bool b2.Fails) hs (Yl.loadB (vs := [(Value.bool b2.Fails)]) false 1 rfl rfl rfl (by kernel_rfl) rfl) fun _ hs => ?_)
                refine sYe hs (sP (Value.bool b2.Fails) hs fun _ hs => ?_)
                refine sP (Value.bool b2.Fails) hs fun _ hs => ?_
                refine sP b2.val hs fun _ hs => ?_
                refine stepStoreB 0 (vs := [(Value.bool b2.Empty), (Value.bool b2.Eats), (Value.bool b2.Fails)]) hs rfl rfl rfl rfl rfl rfl (by kernel_rfl) (Nat.le_of_ble_eq_true rfl) rfl (fun _ _ hs => ?_)
                replace hs := hs.chbx (bs' := [⟨b5, 46, [(Value.bool b2.Empty), (Value.bool b2.Eats), (Value.bool b2.Fails)]⟩, ⟨b4, 46, [(Value.bool b2.Empty), (Value.bool b2.Eats), (Value.bool b2.Fails)]⟩, ⟨b3, 46, [(Value.bool a1.Empty), (Value.bool a1.Eats), (Value.bool a1.Fails)]⟩]) rfl
                exact wpList_nil (Wp.ret (leaveE (K := fun v _ => K v) hs (resC (vs := [(Value.bool b2.Empty), (Value.bool b2.Eats), (Value.bool b2.Fails)]) true 0 hs rfl rfl rfl (by kernel_rfl) rfl) hMM.2 (fun _ _ => hS)))
              · have hs := hs.bf hb
                have hS := hS.2 hc
                refine sYe hs (sP (Value.pointer (some ⟨b3, 1, none⟩)) hs fun _ hs => ?_)
                refine sYe hs (sY (Value.bool a1.Eats) hs (Yl.loadB (vs := [(Value.bool a1.Eats)]) false 2 rfl rfl rfl (by kernel_rfl) rfl) fun _ hs => ?_)
                refine sYe hs (sP (Value.bool a1.Eats) hs fun _ hs => ?_)
                refine sYe hs (sP (Value.bool a1.Eats) hs fun _ hs => ?_)
                refine bsplit a1.Eats Iff.rfl (fun hb hc => ?_) (fun hb hc => ?_)
                · have hs := hs.bt hb
                  have hS := hS.1 hc
                  refine sYe hs (sP (Value.pointer (some ⟨b4, 2, none⟩)) hs fun _ hs => ?_)
                  refine sYe hs (sY (Value.bool b2.Fails) hs (Yl.loadB (vs := [(Value.bool b2.Fails)]) false 1 rfl rfl rfl (by kernel_rfl) rfl) fun _ hs => ?_)
                  refine sYe hs (sP (Value.bool b2.Fails) hs fun _ hs => ?_)
                  refine sP (Value.bool b2.Fails) hs fun _ hs => ?_
                  refine sP b2.val hs fun _ hs => ?_
                  refine stepStoreB 0 (vs := [(Value.bool b2.Empty), (Value.bool b2.Eats), (Value.bool b2.Fails)]) hs rfl rfl rfl rfl rfl rfl (by kernel_rfl) (Nat.le_of_ble_eq_true rfl) rfl (fun _ _ hs => ?_)
                  replace hs := hs.chbx (bs' := [⟨b5, 46, [(Value.bool b2.Empty), (Value.bool b2.Eats), (Value.bool b2.Fails)]⟩, ⟨b4, 46, [(Value.bool b2.Empty), (Value.bool b2.Eats), (Value.bool b2.Fails)]⟩, ⟨b3, 46, [(Value.bool a1.Empty), (Value.bool a1.Eats), (Value.bool a1.Fails)]⟩]) rfl
                  exact wpList_nil (Wp.ret (leaveE (K := fun v _ => K v) hs (resC (vs := [(Value.bool b2.Empty), (Value.bool b2.Eats), (Value.bool b2.Fails)]) true 0 hs rfl rfl rfl (by kernel_rfl) rfl) hMM.2 (fun _ _ => hS)))
                · have hs := hs.bf hb
                  have hS := hS.2 hc
                  refine sNo hs fun _ hs => ?_
                  refine sNo hs fun _ hs => ?_
                  refine sYe hs (sP (Value.bool false) hs fun _ hs => ?_)
                  refine sP (Value.bool false) hs fun _ hs => ?_
                  refine sP (X_api_Facts.mk b2.Empty b2.Eats false).val hs fun _ hs => ?_
                  refine stepStoreB 0 (vs := [(Value.bool b2.Empty), (Value.bool b2.Eats), (Value.bool false)]) hs rfl rfl rfl rfl rfl rfl (by kernel_rfl) (Nat.le_of_ble_eq_true rfl) rfl (fun _ _ hs => ?_)
                  replace hs := hs.chbx (bs' := [⟨b5, 46, [(Value.bool b2.Empty), (Value.bool b2.Eats), (Value.bool false)]⟩, ⟨b4, 46, [(Value.bool b2.Empty), (Value.bool b2.Eats), (Value.bool b2.Fails)]⟩, ⟨b3, 46, [(Value.bool a1.Empty), (Value.bool a1.Eats), (Value.bool a1.Fails)]⟩]) rfl
                  exact wpList_nil (Wp.ret (leaveE (K := fun v _ => K v) hs (resC (vs := [(Value.bool b2.Empty), (Value.bool b2.Eats), (Value.bool false)]) true 0 hs rfl rfl rfl (by kernel_rfl) rfl) hMM.2 (fun _ _ => hS)))
          · have hs := hs.bf hb
            have hS := hS.2 hc
            refine sNo hs fun _ hs => ?_
            refine sNo hs fun _ hs => ?_
            refine sYe hs (sP (Value.bool false) hs fun _ hs => ?_)
            refine sP (Value.bool false) hs fun _ hs => ?_
            refine sP (Value.pointer (some ⟨b3, 2, none⟩)) hs fun _ hs => ?_
            refine sY (Value.bool a1.Fails) hs (Yl.loadB (vs := [(Value.bool a1.Fails)]) false 2 rfl rfl rfl (by kernel_rfl) rfl) fun _ hs => ?_
            refine sP (Value.bool a1.Fails) hs fun _ hs => ?_
            refine bsplit a1.Fails Iff.rfl (fun hb hc => ?_) (fun hb hc => ?_)
            · have hs := hs.bt hb
              have hS := hS.1 hc
              refine sNo hs fun _ hs => ?_
              refine sNo hs fun _ hs => ?_
              refine sNo hs fun _ hs => ?_
              refine sNu hs fun _ hs => ?_
              refine sNu hs fun _ hs => ?_
              refine sNo hs fun _ hs => ?_
              refine sNo hs fun _ hs => ?_
              refine sNu hs fun _ hs => ?_
              refine sNu hs fun _ hs => ?_
              refine sNo hs fun _ hs => ?_
              refine sP (Value.bool true) hs fun _ hs => ?_
              refine sP (X_api_Facts.mk b2.Empty false true).val hs fun _ hs => ?_
              refine stepStoreB 0 (vs := [(Value.bool b2.Empty), (Value.bool false), (Value.bool true)]) hs rfl rfl rfl rfl rfl rfl (by kernel_rfl) (Nat.le_of_ble_eq_true rfl) rfl (fun _ _ hs => ?_)
              replace hs := hs.chbx (bs' := [⟨b5, 46, [(Value.bool b2.Empty), (Value.bool false), (Value.bool true)]⟩, ⟨b4, 46, [(Value.bool b2.Empty), (Value.bool b2.Eats), (Value.bool b2.Fails)]⟩, ⟨b3, 46, [(Value.bool a1.Empty), (Value.bool a1.Eats), (Value.bool a1.Fails)]⟩]) rfl
              exact wpList_nil (Wp.ret (leaveE (K := fun v _ => K v) hs (resC (vs := [(Value.bool b2.Empty), (Value.bool false), (Value.bool true)]) true 0 hs rfl rfl rfl (by kernel_rfl) rfl) hMM.2 (fun _ _ => hS)))
            · have hs := hs.bf hb
              have hS := hS.2 hc
              refine sYe hs (sP (Value.pointer (some ⟨b3, 0, none⟩)) hs fun _ hs => ?_)
              refine sYe hs (sY (Value.bool a1.Empty) hs (Yl.loadB (vs := [(Value.bool a1.Empty)]) false 2 rfl rfl rfl (by kernel_rfl) rfl) fun _ hs => ?_)
              refine sYe hs (sP (Value.bool a1.Empty) hs fun _ hs => ?_)
              refine bsplit a1.Empty Iff.rfl (fun hb hc => ?_) (fun hb hc => ?_)
              · have hs := hs.bt hb
                have hS := hS.1 hc
                refine sNo hs fun _ hs => ?_
                refine sNo hs fun _ hs => ?_
                refine sYe hs (sP (Value.bool true) hs fun _ hs => ?_)
                refine sYe hs (sP (Value.bool true) hs fun _ hs => ?_)
                refine sYe hs (sP (Value.pointer (some ⟨b4, 2, none⟩)) hs fun _ hs => ?_)
                refine sYe hs (sY (Value.bool b2.Fails) hs (Yl.loadB (vs := [(Value.bool b2.Fails)]) false 1 rfl rfl rfl (by kernel_rfl) rfl) fun _ hs => ?_)
                refine sYe hs (sP (Value.bool b2.Fails) hs fun _ hs => ?_)
                refine sP (Value.bool b2.Fails) hs fun _ hs => ?_
                refine sP (X_api_Facts.mk b2.Empty false b2.Fails).val hs fun _ hs => ?_
                refine stepStoreB 0 (vs := [(Value.bool b2.Empty), (Value.bool false), (Value.bool b2.Fails)]) hs rfl rfl rfl rfl rfl rfl (by kernel_rfl) (Nat.le_of_ble_eq_true rfl) rfl (fun _ _ hs => ?_)
                replace hs := hs.chbx (bs' := [⟨b5, 46, [(Value.bool b2.Empty), (Value.bool false), (Value.bool b2.Fails)]⟩, ⟨b4, 46, [(Value.bool b2.Empty), (Value.bool b2.Eats), (Value.bool b2.Fails)]⟩, ⟨b3, 46, [(Value.bool a1.Empty), (Value.bool a1.Eats), (Value.bool a1.Fails)]⟩]) rfl
                exact wpList_nil (Wp.ret (leaveE (K := fun v _ => K v) hs (resC (vs := [(Value.bool b2.Empty), (Value.bool false), (Value.bool b2.Fails)]) true 0 hs rfl rfl rfl (by kernel_rfl) rfl) hMM.2 (fun _ _ => hS)))
              · have hs := hs.bf hb
                have hS := hS.2 hc
                refine sYe hs (sP (Value.pointer (some ⟨b3, 1, none⟩)) hs fun _ hs => ?_)
                refine sYe hs (sY (Value.bool a1.Eats) hs (Yl.loadB (vs := [(Value.bool a1.Eats)]) false 2 rfl rfl rfl (by kernel_rfl) rfl) fun _ hs => ?_)
                refine sYe hs (sP (Value.bool a1.Eats) hs fun _ hs => ?_)
                refine sYe hs (sP (Value.bool a1.Eats) hs fun _ hs => ?_)
                refine bsplit a1.Eats Iff.rfl (fun hb hc => ?_) (fun hb hc => ?_)
                · have hs := hs.bt hb
                  have hS := hS.1 hc
                  refine sYe hs (sP (Value.pointer (some ⟨b4, 2, none⟩)) hs fun _ hs => ?_)
                  refine sYe hs (sY (Value.bool b2.Fails) hs (Yl.loadB (vs := [(Value.bool b2.Fails)]) false 1 rfl rfl rfl (by kernel_rfl) rfl) fun _ hs => ?_)
                  refine sYe hs (sP (Value.bool b2.Fails) hs fun _ hs => ?_)
                  refine sP (Value.bool b2.Fails) hs fun _ hs => ?_
                  refine sP (X_api_Facts.mk b2.Empty false b2.Fails).val hs fun _ hs => ?_
                  refine stepStoreB 0 (vs := [(Value.bool b2.Empty), (Value.bool false), (Value.bool b2.Fails)]) hs rfl rfl rfl rfl rfl rfl (by kernel_rfl) (Nat.le_of_ble_eq_true rfl) rfl (fun _ _ hs => ?_)
                  replace hs := hs.chbx (bs' := [⟨b5, 46, [(Value.bool b2.Empty), (Value.bool false), (Value.bool b2.Fails)]⟩, ⟨b4, 46, [(Value.bool b2.Empty), (Value.bool b2.Eats), (Value.bool b2.Fails)]⟩, ⟨b3, 46, [(Value.bool a1.Empty), (Value.bool a1.Eats), (Value.bool a1.Fails)]⟩]) rfl
                  exact wpList_nil (Wp.ret (leaveE (K := fun v _ => K v) hs (resC (vs := [(Value.bool b2.Empty), (Value.bool false), (Value.bool b2.Fails)]) true 0 hs rfl rfl rfl (by kernel_rfl) rfl) hMM.2 (fun _ _ => hS)))
                · have hs := hs.bf hb
                  have hS := hS.2 hc
                  refine sNo hs fun _ hs => ?_
                  refine sNo hs fun _ hs => ?_
                  refine sYe hs (sP (Value.bool false) hs fun _ hs => ?_)
                  refine sP (Value.bool false) hs fun _ hs => ?_
                  refine sP (X_api_Facts.mk b2.Empty false false).val hs fun _ hs => ?_
                  refine stepStoreB 0 (vs := [(Value.bool b2.Empty), (Value.bool false), (Value.bool false)]) hs rfl rfl rfl rfl rfl rfl (by kernel_rfl) (Nat.le_of_ble_eq_true rfl) rfl (fun _ _ hs => ?_)
                  replace hs := hs.chbx (bs' := [⟨b5, 46, [(Value.bool b2.Empty), (Value.bool false), (Value.bool false)]⟩, ⟨b4, 46, [(Value.bool b2.Empty), (Value.bool b2.Eats), (Value.bool b2.Fails)]⟩, ⟨b3, 46, [(Value.bool a1.Empty), (Value.bool a1.Eats), (Value.bool a1.Fails)]⟩]) rfl
                  exact wpList_nil (Wp.ret (leaveE (K := fun v _ => K v) hs (resC (vs := [(Value.bool b2.Empty), (Value.bool false), (Value.bool false)]) true 0 hs rfl rfl rfl (by kernel_rfl) rfl) hMM.2 (fun _ _ => hS)))
    · have hs := hs.bf hb
      have hS := hS.2 hc
      refine sNo hs fun _ hs => ?_
      refine sNo hs fun _ hs => ?_
      refine sNo hs fun _ hs => ?_
      refine sNu hs fun _ hs => ?_
      refine sNu hs fun _ hs => ?_
      refine sNo hs fun _ hs => ?_
      refine sP (Value.bool false) hs fun _ hs => ?_
      refine sP (Value.bool false) hs fun _ hs => ?_
      refine sYe hs (sP (Value.pointer (some ⟨b3, 0, none⟩)) hs fun _ hs => ?_)
      refine sYe hs (sY (Value.bool a1.Empty) hs (Yl.loadB (vs := [(Value.bool a1.Empty)]) false 2 rfl rfl rfl (by kernel_rfl) rfl) fun _ hs => ?_)
      refine sYe hs (sP (Value.bool a1.Empty) hs fun _ hs => ?_)
      refine bsplit a1.Empty Iff.rfl (fun hb hc => ?_) (fun hb hc => ?_)
      · have hs := hs.bt hb
        have hS := hS.1 hc
        refine sYe hs (sP (Value.pointer (some ⟨b4, 1, none⟩)) hs fun _ hs => ?_)
        refine sYe hs (sY (Value.bool b2.Eats) hs (Yl.loadB (vs := [(Value.bool b2.Eats)]) false 1 rfl rfl rfl (by kernel_rfl) rfl) fun _ hs => ?_)
        refine sYe hs (sP (Value.bool b2.Eats) hs fun _ hs => ?_)
        refine sP (Value.bool b2.Eats) hs fun _ hs => ?_
        refine sP (Value.pointer (some ⟨b3, 2, none⟩)) hs fun _ hs => ?_
        refine sY (Value.bool a1.Fails) hs (Yl.loadB (vs := [(Value.bool a1.Fails)]) false 2 rfl rfl rfl (by kernel_rfl) rfl) fun _ hs => ?_
        refine sP (Value.bool a1.Fails) hs fun _ hs => ?_
        refine bsplit a1.Fails Iff.rfl (fun hb hc => ?_) (fun hb hc => ?_)
        · have hs := hs.bt hb
          have hS := hS.1 hc
          refine sNo hs fun _ hs => ?_
          refine sNo hs fun _ hs => ?_
          refine sNo hs fun _ hs => ?_
          refine sNu hs fun _ hs => ?_
          refine sNu hs fun _ hs => ?_
          refine sNo hs fun _ hs => ?_
          refine sNo hs fun _ hs => ?_
          refine sNu hs fun _ hs => ?_
          refine sNu hs fun _ hs => ?_
          refine sNo hs fun _ hs => ?_
          refine sP (Value.bool true) hs fun _ hs => ?_
          refine sP (X_api_Facts.mk b2.Empty b2.Eats true).val hs fun _ hs => ?_
          refine stepStoreB 0 (vs := [(Value.bool b2.Empty), (Value.bool b2.Eats), (Value.bool true)]) hs rfl rfl rfl rfl rfl rfl (by kernel_rfl) (Nat.le_of_ble_eq_true rfl) rfl (fun _ _ hs => ?_)
          replace hs := hs.chbx (bs' := [⟨b5, 46, [(Value.bool b2.Empty), (Value.bool b2.Eats), (Value.bool true)]⟩, ⟨b4, 46, [(Value.bool b2.Empty), (Value.bool b2.Eats), (Value.bool b2.Fails)]⟩, ⟨b3, 46, [(Value.bool a1.Empty), (Value.bool a1.Eats), (Value.bool a1.Fails)]⟩]) rfl
          exact wpList_nil (Wp.ret (leaveE (K := fun v _ => K v) hs (resC (vs := [(Value.bool b2.Empty), (Value.bool b2.Eats), (Value.bool true)]) true 0 hs rfl rfl rfl (by kernel_rfl) rfl) hMM.2 (fun _ _ => hS)))
        · have hs := hs.bf hb
          have hS := hS.2 hc
          refine sYe hs (sP (Value.pointer (some ⟨b3, 0, none⟩)) hs fun _ hs => ?_)
          refine sYe hs (sY (Value.bool a1.Empty) hs (Yl.loadB (vs := [(Value.bool a1.Empty)]) false 2 rfl rfl rfl (by kernel_rfl) rfl) fun _ hs => ?_)
          refine sYe hs (sP (Value.bool a1.Empty) hs fun _ hs => ?_)
          refine bsplit a1.Empty Iff.rfl (fun hb hc => ?_) (fun hb hc => ?_)
          · have hs := hs.bt hb
            have hS := hS.1 hc
            refine sNo hs fun _ hs => ?_
            refine sNo hs fun _ hs => ?_
            refine sYe hs (sP (Value.bool true) hs fun _ hs => ?_)
            refine sYe hs (sP (Value.bool true) hs fun _ hs => ?_)
            refine sYe hs (sP (Value.pointer (some ⟨b4, 2, none⟩)) hs fun _ hs => ?_)
            refine sYe hs (sY (Value.bool b2.Fails) hs (Yl.loadB (vs := [(Value.bool b2.Fails)]) false 1 rfl rfl rfl (by kernel_rfl) rfl) fun _ hs => ?_)
            refine sYe hs (sP (Value.bool b2.Fails) hs fun _ hs => ?_)
            refine sP (Value.bool b2.Fails) hs fun _ hs => ?_
            refine sP b2.val hs fun _ hs => ?_
            refine stepStoreB 0 (vs := [(Value.bool b2.Empty), (Value.bool b2.Eats), (Value.bool b2.Fails)]) hs rfl rfl rfl rfl rfl rfl (by kernel_rfl) (Nat.le_of_ble_eq_true rfl) rfl (fun _ _ hs => ?_)
            replace hs := hs.chbx (bs' := [⟨b5, 46, [(Value.bool b2.Empty), (Value.bool b2.Eats), (Value.bool b2.Fails)]⟩, ⟨b4, 46, [(Value.bool b2.Empty), (Value.bool b2.Eats), (Value.bool b2.Fails)]⟩, ⟨b3, 46, [(Value.bool a1.Empty), (Value.bool a1.Eats), (Value.bool a1.Fails)]⟩]) rfl
            exact wpList_nil (Wp.ret (leaveE (K := fun v _ => K v) hs (resC (vs := [(Value.bool b2.Empty), (Value.bool b2.Eats), (Value.bool b2.Fails)]) true 0 hs rfl rfl rfl (by kernel_rfl) rfl) hMM.2 (fun _ _ => hS)))
          · have hs := hs.bf hb
            have hS := hS.2 hc
            refine sYe hs (sP (Value.pointer (some ⟨b3, 1, none⟩)) hs fun _ hs => ?_)
            refine sYe hs (sY (Value.bool a1.Eats) hs (Yl.loadB (vs := [(Value.bool a1.Eats)]) false 2 rfl rfl rfl (by kernel_rfl) rfl) fun _ hs => ?_)
            refine sYe hs (sP (Value.bool a1.Eats) hs fun _ hs => ?_)
            refine sYe hs (sP (Value.bool a1.Eats) hs fun _ hs => ?_)
            refine bsplit a1.Eats Iff.rfl (fun hb hc => ?_) (fun hb hc => ?_)
            · have hs := hs.bt hb
              have hS := hS.1 hc
              refine sYe hs (sP (Value.pointer (some ⟨b4, 2, none⟩)) hs fun _ hs => ?_)
              refine sYe hs (sY (Value.bool b2.Fails) hs (Yl.loadB (vs := [(Value.bool b2.Fails)]) false 1 rfl rfl rfl (by kernel_rfl) rfl) fun _ hs => ?_)
              refine sYe hs (sP (Value.bool b2.Fails) hs fun _ hs => ?_)
              refine sP (Value.bool b2.Fails) hs fun _ hs => ?_
              refine sP b2.val hs fun _ hs => ?_
              refine stepStoreB 0 (vs := [(Value.bool b2.Empty), (Value.bool b2.Eats), (Value.bool b2.Fails)]) hs rfl rfl rfl rfl rfl rfl (by kernel_rfl) (Nat.le_of_ble_eq_true rfl) rfl (fun _ _ hs => ?_)
              replace hs := hs.chbx (bs' := [⟨b5, 46, [(Value.bool b2.Empty), (Value.bool b2.Eats), (Value.bool b2.Fails)]⟩, ⟨b4, 46, [(Value.bool b2.Empty), (Value.bool b2.Eats), (Value.bool b2.Fails)]⟩, ⟨b3, 46, [(Value.bool a1.Empty), (Value.bool a1.Eats), (Value.bool a1.Fails)]⟩]) rfl
              exact wpList_nil (Wp.ret (leaveE (K := fun v _ => K v) hs (resC (vs := [(Value.bool b2.Empty), (Value.bool b2.Eats), (Value.bool b2.Fails)]) true 0 hs rfl rfl rfl (by kernel_rfl) rfl) hMM.2 (fun _ _ => hS)))
            · have hs := hs.bf hb
              have hS := hS.2 hc
              refine sNo hs fun _ hs => ?_
              refine sNo hs fun _ hs => ?_
              refine sYe hs (sP (Value.bool false) hs fun _ hs => ?_)
              refine sP (Value.bool false) hs fun _ hs => ?_
              refine sP (X_api_Facts.mk b2.Empty b2.Eats false).val hs fun _ hs => ?_
              refine stepStoreB 0 (vs := [(Value.bool b2.Empty), (Value.bool b2.Eats), (Value.bool false)]) hs rfl rfl rfl rfl rfl rfl (by kernel_rfl) (Nat.le_of_ble_eq_true rfl) rfl (fun _ _ hs => ?_)
              replace hs := hs.chbx (bs' := [⟨b5, 46, [(Value.bool b2.Empty), (Value.bool b2.Eats), (Value.bool false)]⟩, ⟨b4, 46, [(Value.bool b2.Empty), (Value.bool b2.Eats), (Value.bool b2.Fails)]⟩, ⟨b3, 46, [(Value.bool a1.Empty), (Value.bool a1.Eats), (Value.bool a1.Fails)]⟩]) rfl
              exact wpList_nil (Wp.ret (leaveE (K := fun v _ => K v) hs (resC (vs := [(Value.bool b2.Empty), (Value.bool b2.Eats), (Value.bool false)]) true 0 hs rfl rfl rfl (by kernel_rfl) rfl) hMM.2 (fun _ _ => hS)))
      · have hs := hs.bf hb
        have hS := hS.2 hc
        refine sNo hs fun _ hs => ?_
        refine sNo hs fun _ hs => ?_
        refine sYe hs (sP (Value.bool false) hs fun _ hs => ?_)
        refine sP (Value.bool false) hs fun _ hs => ?_
        refine sP (Value.pointer (some ⟨b3, 2, none⟩)) hs fun _ hs => ?_
        refine sY (Value.bool a1.Fails) hs (Yl.loadB (vs := [(Value.bool a1.Fails)]) false 2 rfl rfl rfl (by kernel_rfl) rfl) fun _ hs => ?_
        refine sP (Value.bool a1.Fails) hs fun _ hs => ?_
        refine bsplit a1.Fails Iff.rfl (fun hb hc => ?_) (fun hb hc => ?_)
        · have hs := hs.bt hb
          have hS := hS.1 hc
          refine sNo hs fun _ hs => ?_
          refine sNo hs fun _ hs => ?_
          refine sNo hs fun _ hs => ?_
          refine sNu hs fun _ hs => ?_
          refine sNu hs fun _ hs => ?_
          refine sNo hs fun _ hs => ?_
          refine sNo hs fun _ hs => ?_
          refine sNu hs fun _ hs => ?_
          refine sNu hs fun _ hs => ?_
          refine sNo hs fun _ hs => ?_
          refine sP (Value.bool true) hs fun _ hs => ?_
          refine sP (X_api_Facts.mk b2.Empty false true).val hs fun _ hs => ?_
          refine stepStoreB 0 (vs := [(Value.bool b2.Empty), (Value.bool false), (Value.bool true)]) hs rfl rfl rfl rfl rfl rfl (by kernel_rfl) (Nat.le_of_ble_eq_true rfl) rfl (fun _ _ hs => ?_)
          replace hs := hs.chbx (bs' := [⟨b5, 46, [(Value.bool b2.Empty), (Value.bool false), (Value.bool true)]⟩, ⟨b4, 46, [(Value.bool b2.Empty), (Value.bool b2.Eats), (Value.bool b2.Fails)]⟩, ⟨b3, 46, [(Value.bool a1.Empty), (Value.bool a1.Eats), (Value.bool a1.Fails)]⟩]) rfl
          exact wpList_nil (Wp.ret (leaveE (K := fun v _ => K v) hs (resC (vs := [(Value.bool b2.Empty), (Value.bool false), (Value.bool true)]) true 0 hs rfl rfl rfl (by kernel_rfl) rfl) hMM.2 (fun _ _ => hS)))
        · have hs := hs.bf hb
          have hS := hS.2 hc
          refine sYe hs (sP (Value.pointer (some ⟨b3, 0, none⟩)) hs fun _ hs => ?_)
          refine sYe hs (sY (Value.bool a1.Empty) hs (Yl.loadB (vs := [(Value.bool a1.Empty)]) false 2 rfl rfl rfl (by kernel_rfl) rfl) fun _ hs => ?_)
          refine sYe hs (sP (Value.bool a1.Empty) hs fun _ hs => ?_)
          refine bsplit a1.Empty Iff.rfl (fun hb hc => ?_) (fun hb hc => ?_)
          · have hs := hs.bt hb
            have hS := hS.1 hc
            refine sNo hs fun _ hs => ?_
            refine sNo hs fun _ hs => ?_
            refine sYe hs (sP (Value.bool true) hs fun _ hs => ?_)
            refine sYe hs (sP (Value.bool true) hs fun _ hs => ?_)
            refine sYe hs (sP (Value.pointer (some ⟨b4, 2, none⟩)) hs fun _ hs => ?_)
            refine sYe hs (sY (Value.bool b2.Fails) hs (Yl.loadB (vs := [(Value.bool b2.Fails)]) false 1 rfl rfl rfl (by kernel_rfl) rfl) fun _ hs => ?_)
            refine sYe hs (sP (Value.bool b2.Fails) hs fun _ hs => ?_)
            refine sP (Value.bool b2.Fails) hs fun _ hs => ?_
            refine sP (X_api_Facts.mk b2.Empty false b2.Fails).val hs fun _ hs => ?_
            refine stepStoreB 0 (vs := [(Value.bool b2.Empty), (Value.bool false), (Value.bool b2.Fails)]) hs rfl rfl rfl rfl rfl rfl (by kernel_rfl) (Nat.le_of_ble_eq_true rfl) rfl (fun _ _ hs => ?_)
            replace hs := hs.chbx (bs' := [⟨b5, 46, [(Value.bool b2.Empty), (Value.bool false), (Value.bool b2.Fails)]⟩, ⟨b4, 46, [(Value.bool b2.Empty), (Value.bool b2.Eats), (Value.bool b2.Fails)]⟩, ⟨b3, 46, [(Value.bool a1.Empty), (Value.bool a1.Eats), (Value.bool a1.Fails)]⟩]) rfl
            exact wpList_nil (Wp.ret (leaveE (K := fun v _ => K v) hs (resC (vs := [(Value.bool b2.Empty), (Value.bool false), (Value.bool b2.Fails)]) true 0 hs rfl rfl rfl (by kernel_rfl) rfl) hMM.2 (fun _ _ => hS)))
          · have hs := hs.bf hb
            have hS := hS.2 hc
            refine sYe hs (sP (Value.pointer (some ⟨b3, 1, none⟩)) hs fun _ hs => ?_)
            refine sYe hs (sY (Value.bool a1.Eats) hs (Yl.loadB (vs := [(Value.bool a1.Eats)]) false 2 rfl rfl rfl (by kernel_rfl) rfl) fun _ hs => ?_)
            refine sYe hs (sP (Value.bool a1.Eats) hs fun _ hs => ?_)
            refine sYe hs (sP (Value.bool a1.Eats) hs fun _ hs => ?_)
            refine bsplit a1.Eats Iff.rfl (fun hb hc => ?_) (fun hb hc => ?_)
            · have hs := hs.bt hb
              have hS := hS.1 hc
              refine sYe hs (sP (Value.pointer (some ⟨b4, 2, none⟩)) hs fun _ hs => ?_)
              refine sYe hs (sY (Value.bool b2.Fails) hs (Yl.loadB (vs := [(Value.bool b2.Fails)]) false 1 rfl rfl rfl (by kernel_rfl) rfl) fun _ hs => ?_)
              refine sYe hs (sP (Value.bool b2.Fails) hs fun _ hs => ?_)
              refine sP (Value.bool b2.Fails) hs fun _ hs => ?_
              refine sP (X_api_Facts.mk b2.Empty false b2.Fails).val hs fun _ hs => ?_
              refine stepStoreB 0 (vs := [(Value.bool b2.Empty), (Value.bool false), (Value.bool b2.Fails)]) hs rfl rfl rfl rfl rfl rfl (by kernel_rfl) (Nat.le_of_ble_eq_true rfl) rfl (fun _ _ hs => ?_)
              replace hs := hs.chbx (bs' := [⟨b5, 46, [(Value.bool b2.Empty), (Value.bool false), (Value.bool b2.Fails)]⟩, ⟨b4, 46, [(Value.bool b2.Empty), (Value.bool b2.Eats), (Value.bool b2.Fails)]⟩, ⟨b3, 46, [(Value.bool a1.Empty), (Value.bool a1.Eats), (Value.bool a1.Fails)]⟩]) rfl
              exact wpList_nil (Wp.ret (leaveE (K := fun v _ => K v) hs (resC (vs := [(Value.bool b2.Empty), (Value.bool false), (Value.bool b2.Fails)]) true 0 hs rfl rfl rfl (by kernel_rfl) rfl) hMM.2 (fun _ _ => hS)))
            · have hs := hs.bf hb
              have hS := hS.2 hc
              refine sNo hs fun _ hs => ?_
              refine sNo hs fun _ hs => ?_
              refine sYe hs (sP (Value.bool false) hs fun _ hs => ?_)
              refine sP (Value.bool false) hs fun _ hs => ?_
              refine sP (X_api_Facts.mk b2.Empty false false).val hs fun _ hs => ?_
              refine stepStoreB 0 (vs := [(Value.bool b2.Empty), (Value.bool false), (Value.bool false)]) hs rfl rfl rfl rfl rfl rfl (by kernel_rfl) (Nat.le_of_ble_eq_true rfl) rfl (fun _ _ hs => ?_)
              replace hs := hs.chbx (bs' := [⟨b5, 46, [(Value.bool b2.Empty), (Value.bool false), (Value.bool false)]⟩, ⟨b4, 46, [(Value.bool b2.Empty), (Value.bool b2.Eats), (Value.bool b2.Fails)]⟩, ⟨b3, 46, [(Value.bool a1.Empty), (Value.bool a1.Eats), (Value.bool a1.Fails)]⟩]) rfl
              exact wpList_nil (Wp.ret (leaveE (K := fun v _ => K v) hs (resC (vs := [(Value.bool b2.Empty), (Value.bool false), (Value.bool false)]) true 0 hs rfl rfl rfl (by kernel_rfl) rfl) hMM.2 (fun _ _ => hS)))
  · have hs := hs.bf hb
    have hS := hS.2 hc
    refine sNo hs fun _ hs => ?_
    refine sNo hs fun _ hs => ?_
    refine sP (Value.bool false) hs fun _ hs => ?_
    refine sP (Value.pointer (some ⟨b3, 1, none⟩)) hs fun _ hs => ?_
    refine sY (Value.bool a1.Eats) hs (Yl.loadB (vs := [(Value.bool a1.Eats)]) false 2 rfl rfl rfl (by kernel_rfl) rfl) fun _ hs => ?_
    refine sP (Value.bool a1.Eats) hs fun _ hs => ?_
    refine bsplit a1.Eats Iff.rfl (fun hb hc => ?_) (fun hb hc => ?_)
    · have hs := hs.bt hb
      have hS := hS.1 hc
      refine sYe hs (sP (Value.pointer (some ⟨b4, 0, none⟩)) hs fun _ hs => ?_)
      refine sYe hs (sY (Value.bool b2.Empty) hs (Yl.loadB (vs := [(Value.bool b2.Empty)]) false 1 rfl rfl rfl (by kernel_rfl) rfl) fun _ hs => ?_)
      refine sYe hs (sP (Value.bool b2.Empty) hs fun _ hs => ?_)
      refine bsplit b2.Empty Iff.rfl (fun hb hc => ?_) (fun hb hc => ?_)
      · have hs := hs.bt hb
        have hS := hS.1 hc
        refine sNo hs fun _ hs => ?_
        refine sNo hs fun _ hs => ?_
        refine sYe hs (sP (Value.bool true) hs fun _ hs => ?_)
        refine sP (Value.bool true) hs fun _ hs => ?_
        refine sP (Value.bool true) hs fun _ hs => ?_
        refine sNo hs fun _ hs => ?_
        refine sNo hs fun _ hs => ?_
        refine sNo hs fun _ hs => ?_
        refine sNu hs fun _ hs => ?_
        refine sNu hs fun _ hs => ?_
        refine sNo hs fun _ hs => ?_
        refine sP (Value.bool true) hs fun _ hs => ?_
        refine sP (Value.pointer (some ⟨b3, 2, none⟩)) hs fun _ hs => ?_
        refine sY (Value.bool a1.Fails) hs (Yl.loadB (vs := [(Value.bool a1.Fails)]) false 2 rfl rfl rfl (by kernel_rfl) rfl) fun _ hs => ?_
        refine sP (Value.bool a1.Fails) hs fun _ hs => ?_
        refine bsplit a1.Fails Iff.rfl (fun hb hc => ?_) (fun hb hc => ?_)
        · have hs := hs.bt hb
          have hS := hS.1 hc
          refine sNo hs fun _ hs => ?_
          refine sNo hs fun _ hs => ?_
          refine sNo hs fun _ hs => ?_
          refine sNu hs fun _ hs => ?_
          refine sNu hs fun _ hs => ?_
          refine sNo hs fun _ hs => ?_
          refine sNo hs fun _ hs => ?_
          refine sNu hs fun _ hs => ?_
          refine sNu hs fun _ hs => ?_
          refine sNo hs fun _ hs => ?_
          refine sP (Value.bool true) hs fun _ hs => ?_
          refine sP (X_api_Facts.mk false true true).val hs fun _ hs => ?_
          refine stepStoreB 0 (vs := [(Value.bool false), (Value.bool true), (Value.bool true)]) hs rfl rfl rfl rfl rfl rfl (by kernel_rfl) (Nat.le_of_ble_eq_true rfl) rfl (fun _ _ hs => ?_)
          replace hs := hs.chbx (bs' := [⟨b5, 46, [(Value.bool false), (Value.bool true), (Value.bool true)]⟩, ⟨b4, 46, [(Value.bool b2.Empty), (Value.bool b2.Eats), (Value.bool b2.Fails)]⟩, ⟨b3, 46, [(Value.bool a1.Empty), (Value.bool a1.Eats), (Value.bool a1.Fails)]⟩]) rfl
          exact wpList_nil (Wp.ret (leaveE (K := fun v _ => K v) hs (resC (vs := [(Value.bool false), (Value.bool true), (Value.bool true)]) true 0 hs rfl rfl rfl (by kernel_rfl) rfl) hMM.2 (fun _ _ => hS)))
        · have hs := hs.bf hb
          have hS := hS.2 hc
          refine sYe hs (sP (Value.pointer (some ⟨b3, 0, none⟩)) hs fun _ hs => ?_)
          refine sYe hs (sY (Value.bool a1.Empty) hs (Yl.loadB (vs := [(Value.bool a1.Empty)]) false 2 rfl rfl rfl (by kernel_rfl) rfl) fun _ hs => ?_)
          refine sYe hs (sP (Value.bool a1.Empty) hs fun _ hs => ?_)
          refine bsplit a1.Empty Iff.rfl (fun hb hc => ?_) (fun hb hc => ?_)
          · have hs := hs.bt hb
            have hS := hS.1 hc
            refine sNo hs fun _ hs => ?_
            refine sNo hs fun _ hs => ?_
            refine sYe hs (sP (Value.bool true) hs fun _ hs => ?_)
            refine sYe hs (sP (Value.bool true) hs fun _ hs => ?_)
            refine sYe hs (sP (Value.pointer (some ⟨b4, 2, none⟩)) hs fun _ hs => ?_)
            refine sYe hs (sY (Value.bool b2.Fails) hs (Yl.loadB (vs := [(Value.bool b2.Fails)]) false 1 rfl rfl rfl (by kernel_rfl) rfl) fun _ hs => ?_)
            refine sYe hs (sP (Value.bool b2.Fails) hs fun _ hs => ?_)
            refine sP (Value.bool b2.Fails) hs fun _ hs => ?_
            refine sP (X_api_Facts.mk false true b2.Fails).val hs fun _ hs => ?_
            refine stepStoreB 0 (vs := [(Value.bool false), (Value.bool true), (Value.bool b2.Fails)]) hs rfl rfl rfl rfl rfl rfl (by kernel_rfl) (Nat.le_of_ble_eq_true rfl) rfl (fun _ _ hs => ?_)
            replace hs := hs.chbx (bs' := [⟨b5, 46, [(Value.bool false), (Value.bool true), (Value.bool b2.Fails)]⟩, ⟨b4, 46, [(Value.bool b2.Empty), (Value.bool b2.Eats), (Value.bool b2.Fails)]⟩, ⟨b3, 46, [(Value.bool a1.Empty), (Value.bool a1.Eats), (Value.bool a1.Fails)]⟩]) rfl
            exact wpList_nil (Wp.ret (leaveE (K := fun v _ => K v) hs (resC (vs := [(Value.bool false), (Value.bool true), (Value.bool b2.Fails)]) true 0 hs rfl rfl rfl (by kernel_rfl) rfl) hMM.2 (fun _ _ => hS)))
          · have hs := hs.bf hb
            have hS := hS.2 hc
            refine sYe hs (sP (Value.pointer (some ⟨b3, 1, none⟩)) hs fun _ hs => ?_)
            refine sYe hs (sY (Value.bool a1.Eats) hs (Yl.loadB (vs := [(Value.bool a1.Eats)]) false 2 rfl rfl rfl (by kernel_rfl) rfl) fun _ hs => ?_)
            refine sYe hs (sP (Value.bool a1.Eats) hs fun _ hs => ?_)
            refine sYe hs (sP (Value.bool a1.Eats) hs fun _ hs => ?_)
            refine bsplit a1.Eats Iff.rfl (fun hb hc => ?_) (fun hb hc => ?_)
            · have hs := hs.bt hb
              have hS := hS.1 hc
              refine sYe hs (sP (Value.pointer (some ⟨b4, 2, none⟩)) hs fun _ hs => ?_)
              refine sYe hs (sY (Value.bool b2.Fails) hs (Yl.loadB (vs := [(Value.bool b2.Fails)]) false 1 rfl rfl rfl (by kernel_rfl) rfl) fun _ hs => ?_)
              refine sYe hs (sP (Value.bool b2.Fails) hs fun _ hs => ?_)
              refine sP (Value.bool b2.Fails) hs fun _ hs => ?_
              refine sP (X_api_Facts.mk false true b2.Fails).val hs fun _ hs => ?_
              refine stepStoreB 0 (vs := [(Value.bool false), (Value.bool true), (Value.bool b2.Fails)]) hs rfl rfl rfl rfl rfl rfl (by kernel_rfl) (Nat.le_of_ble_eq_true rfl) rfl (fun _ _ hs => ?_)
              replace hs := hs.chbx (bs' := [⟨b5, 46, [(Value.bool false), (Value.bool true), (Value.bool b2.Fails)]⟩, ⟨b4, 46, [(Value.bool b2.Empty), (Value.bool b2.Eats), (Value.bool b2.Fails)]⟩, ⟨b3, 46, [(Value.bool a1.Empty), (Value.bool a1.Eats), (Value.bool a1.Fails)]⟩]) rfl
              exact wpList_nil (Wp.ret (leaveE (K := fun v _ => K v) hs (resC (vs := [(Value.bool false), (Value.bool true), (Value.bool b2.Fails)]) true 0 hs rfl rfl rfl (by kernel_rfl) rfl) hMM.2 (fun _ _ => hS)))
            · have hs := hs.bf hb
              have hS := hS.2 hc
              refine sNo hs fun _ hs => ?_
              refine sNo hs fun _ hs => ?_
              refine sYe hs (sP (Value.bool false) hs fun _ hs => ?_)
              refine sP (Value.bool false) hs fun _ hs => ?_
              refine sP (X_api_Facts.mk false true false).val hs fun _ hs => ?_
              refine stepStoreB 0 (vs := [(Value.bool false), (Value.bool true), (Value.bool false)]) hs rfl rfl rfl rfl rfl rfl (by kernel_rfl) (Nat.le_of_ble_eq_true rfl) rfl (fun _ _ hs => ?_)
              replace hs := hs.chbx (bs' := [⟨b5, 46, [(Value.bool false), (Value.bool true), (Value.bool false)]⟩, ⟨b4, 46, [(Value.bool b2.Empty), (Value.bool b2.Eats), (Value.bool b2.Fails)]⟩, ⟨b3, 46, [(Value.bool a1.Empty), (Value.bool a1.Eats), (Value.bool a1.Fails)]⟩]) rfl
              exact wpList_nil (Wp.ret (leaveE (K := fun v _ => K v) hs (resC (vs := [(Value.bool false), (Value.bool true), (Value.bool false)]) true 0 hs rfl rfl rfl (by kernel_rfl) rfl) hMM.2 (fun _ _ => hS)))
      · have hs := hs.bf hb
        have hS := hS.2 hc
        refine sYe hs (sP (Value.pointer (some ⟨b4, 1, none⟩)) hs fun _ hs => ?_)
        refine sYe hs (sY (Value.bool b2.Eats) hs (Yl.loadB (vs := [(Value.bool b2.Eats)]) false 1 rfl rfl rfl (by kernel_rfl) rfl) fun _ hs => ?_)
        refine sYe hs (sP (Value.bool b2.Eats) hs fun _ hs => ?_)
        refine sP (Value.bool b2.Eats) hs fun _ hs => ?_
        refine sP (Value.bool b2.Eats) hs fun _ hs => ?_
        refine bsplit b2.Eats Iff.rfl (fun hb hc => ?_) (fun hb hc => ?_)
        · have hs := hs.bt hb
          have hS := hS.1 hc
          refine sNo hs fun _ hs => ?_
          refine sNo hs fun _ hs => ?_
          refine sNo hs fun _ hs => ?_
          refine sNu hs fun _ hs => ?_
          refine sNu hs fun _ hs => ?_
          refine sNo hs fun _ hs => ?_
          refine sP (Value.bool true) hs fun _ hs => ?_
          refine sP (Value.pointer (some ⟨b3, 2, none⟩)) hs fun _ hs => ?_
          refine sY (Value.bool a1.Fails) hs (Yl.loadB (vs := [(Value.bool a1.Fails)]) false 2 rfl rfl rfl (by kernel_rfl) rfl) fun _ hs => ?_
          refine sP (Value.bool a1.Fails) hs fun _ hs => ?_
          refine bsplit a1.Fails Iff.rfl (fun hb hc => ?_) (fun hb hc => ?_)
          · have hs := hs.bt hb
            have hS := hS.1 hc
            refine sNo hs fun _ hs => ?_
            refine sNo hs fun _ hs => ?_
            refine sNo hs fun _ hs => ?_
            refine sNu hs fun _ hs => ?_
            refine sNu hs fun _ hs => ?_
            refine sNo hs fun _ hs => ?_
            refine sNo hs fun _ hs => ?_
            refine sNu hs fun _ hs => ?_
            refine sNu hs fun _ hs => ?_
            refine sNo hs fun _ hs => ?_
            refine sP (Value.bool true) hs fun _ hs => ?_
            refine sP (X_api_Facts.mk false true true).val hs fun _ hs => ?_
            refine stepStoreB 0 (vs := [(Value.bool false), (Value.bool true), (Value.bool true)]) hs rfl rfl rfl rfl rfl rfl (by kernel_rfl) (Nat.le_of_ble_eq_true rfl) rfl (fun _ _ hs => ?_)
            replace hs := hs.chbx (bs' := [⟨b5, 46, [(Value.bool false), (Value.bool true), (Value.bool true)]⟩, ⟨b4, 46, [(Value.bool b2.Empty), (Value.bool b2.Eats), (Value.bool b2.Fails)]⟩, ⟨b3, 46, [(Value.bool a1.Empty), (Value.bool a1.Eats), (Value.bool a1.Fails)]⟩]) rfl
            exact wpList_nil (Wp.ret (leaveE (K := fun v _ => K v) hs (resC (vs := [(Value.bool false), (Value.bool true), (Value.bool true)]) true 0 hs rfl rfl rfl (by kernel_rfl) rfl) hMM.2 (fun _ _ => hS)))
          · have hs := hs.bf hb
            have hS := hS.2 hc
            refine sYe hs (sP (Value.pointer (some ⟨b3, 0, none⟩)) hs fun _ hs => ?_)
            refine sYe hs (sY (Value.bool a1.Empty) hs (Yl.loadB (vs := [(Value.bool a1.Empty)]) false 2 rfl rfl rfl (by kernel_rfl) rfl) fun _ hs => ?_)
            refine sYe hs (sP (Value.bool a1.Empty) hs fun _ hs => ?_)
            refine bsplit a1.Empty Iff.rfl (fun hb hc => ?_) (fun hb hc => ?_)
            · have hs := hs.bt hb
              have hS := hS.1 hc
              refine sNo hs fun _ hs => ?_
              refine sNo hs fun _ hs => ?_
              refine sYe hs (sP (Value.bool true) hs fun _ hs => ?_)
              refine sYe hs (sP (Value.bool true) hs fun _ hs => ?_)
              refine sYe hs (sP (Value.pointer (some ⟨b4, 2, none⟩)) hs fun _ hs => ?_)
              refine sYe hs (sY (Value.bool b2.Fails) hs (Yl.loadB (vs := [(Value.bool b2.Fails)]) false 1 rfl rfl rfl (by kernel_rfl) rfl) fun _ hs => ?_)
              refine sYe hs (sP (Value.bool b2.Fails) hs fun _ hs => ?_)
              refine sP (Value.bool b2.Fails) hs fun _ hs => ?_
              refine sP (X_api_Facts.mk false true b2.Fails).val hs fun _ hs => ?_
              refine stepStoreB 0 (vs := [(Value.bool false), (Value.bool true), (Value.bool b2.Fails)]) hs rfl rfl rfl rfl rfl rfl (by kernel_rfl) (Nat.le_of_ble_eq_true rfl) rfl (fun _ _ hs => ?_)
              replace hs := hs.chbx (bs' := [⟨b5, 46, [(Value.bool false), (Value.bool true), (Value.bool b2.Fails)]⟩, ⟨b4, 46, [(Value.bool b2.Empty), (Value.bool b2.Eats), (Value.bool b2.Fails)]⟩, ⟨b3, 46, [(Value.bool a1.Empty), (Value.bool a1.Eats), (Value.bool a1.Fails)]⟩]) rfl
              exact wpList_nil (Wp.ret (leaveE (K := fun v _ => K v) hs (resC (vs := [(Value.bool false), (Value.bool true), (Value.bool b2.Fails)]) true 0 hs rfl rfl rfl (by kernel_rfl) rfl) hMM.2 (fun _ _ => hS)))
            · have hs := hs.bf hb
              have hS := hS.2 hc
              refine sYe hs (sP (Value.pointer (some ⟨b3, 1, none⟩)) hs fun _ hs => ?_)
              refine sYe hs (sY (Value.bool a1.Eats) hs (Yl.loadB (vs := [(Value.bool a1.Eats)]) false 2 rfl rfl rfl (by kernel_rfl) rfl) fun _ hs => ?_)
              refine sYe hs (sP (Value.bool a1.Eats) hs fun _ hs => ?_)
              refine sYe hs (sP (Value.bool a1.Eats) hs fun _ hs => ?_)
              refine bsplit a1.Eats Iff.rfl (fun hb hc => ?_) (fun hb hc => ?_)
              · have hs := hs.bt hb
                have hS := hS.1 hc
                refine sYe hs (sP (Value.pointer (some ⟨b4, 2, none⟩)) hs fun _ hs => ?_)
                refine sYe hs (sY (Value.bool b2.Fails) hs (Yl.loadB (vs := [(Value.bool b2.Fails)]) false 1 rfl rfl rfl (by kernel_rfl) rfl) fun _ hs => ?_)
                refine sYe hs (sP (Value.bool b2.Fails) hs fun _ hs => ?_)
                refine sP (Value.bool b2.Fails) hs fun _ hs => ?_
                refine sP (X_api_Facts.mk false true b2.Fails).val hs fun _ hs => ?_
                refine stepStoreB 0 (vs := [(Value.bool false), (Value.bool true), (Value.bool b2.Fails)]) hs rfl rfl rfl rfl rfl rfl (by kernel_rfl) (Nat.le_of_ble_eq_true rfl) rfl (fun _ _ hs => ?_)
                replace hs := hs.chbx (bs' := [⟨b5, 46, [(Value.bool false), (Value.bool true), (Value.bool b2.Fails)]⟩, ⟨b4, 46, [(Value.bool b2.Empty), (Value.bool b2.Eats), (Value.bool b2.Fails)]⟩, ⟨b3, 46, [(Value.bool a1.Empty), (Value.bool a1.Eats), (Value.bool a1.Fails)]⟩]) rfl
                exact wpList_nil (Wp.ret (leaveE (K := fun v _ => K v) hs (resC (vs := [(Value.bool false), (Value.bool true), (Value.bool b2.Fails)]) true 0 hs rfl rfl rfl (by kernel_rfl) rfl) hMM.2 (fun _ _ => hS)))
              · have hs := hs.bf hb
                have hS := hS.2 hc
                refine sNo hs fun _ hs => ?_
                refine sNo hs fun _ hs => ?_
                refine sYe hs (sP (Value.bool false) hs fun _ hs => ?_)
                refine sP (Value.bool false) hs fun _ hs => ?_
                refine sP (X_api_Facts.mk false true false).val hs fun _ hs => ?_
                refine stepStoreB 0 (vs := [(Value.bool false), (Value.bool true), (Value.bool false)]) hs rfl rfl rfl rfl rfl rfl (by kernel_rfl) (Nat.le_of_ble_eq_true rfl) rfl (fun _ _ hs => ?_)
                replace hs := hs.chbx (bs' := [⟨b5, 46, [(Value.bool false), (Value.bool true), (Value.bool false)]⟩, ⟨b4, 46, [(Value.bool b2.Empty), (Value.bool b2.Eats), (Value.bool b2.Fails)]⟩, ⟨b3, 46, [(Value.bool a1.Empty), (Value.bool a1.Eats), (Value.bool a1.Fails)]⟩]) rfl
                exact wpList_nil (Wp.ret (leaveE (K := fun v _ => K v) hs (resC (vs := [(Value.bool false), (Value.bool true), (Value.bool false)]) true 0 hs rfl rfl rfl (by kernel_rfl) rfl) hMM.2 (fun _ _ => hS)))
        · have hs := hs.bf hb
          have hS := hS.2 hc
          refine sYe hs (sP (Value.pointer (some ⟨b3, 0, none⟩)) hs fun _ hs => ?_)
          refine sYe hs (sY (Value.bool a1.Empty) hs (Yl.loadB (vs := [(Value.bool a1.Empty)]) false 2 rfl rfl rfl (by kernel_rfl) rfl) fun _ hs => ?_)
          refine sYe hs (sP (Value.bool a1.Empty) hs fun _ hs => ?_)
          refine bsplit a1.Empty Iff.rfl (fun hb hc => ?_) (fun hb hc => ?_)
          · have hs := hs.bt hb
            have hS := hS.1 hc
            refine sYe hs (sP (Value.pointer (some ⟨b4, 1, none⟩)) hs fun _ hs => ?_)
            refine sYe hs (sY (Value.bool b2.Eats) hs (Yl.loadB (vs := [(Value.bool b2.Eats)]) false 1 rfl rfl rfl (by kernel_rfl) rfl) fun _ hs => ?_)
            refine sYe hs (sP (Value.bool b2.Eats) hs fun _ hs => ?_)
            refine sP (Value.bool b2.Eats) hs fun _ hs => ?_
            refine sP (Value.pointer (some ⟨b3, 2, none⟩)) hs fun _ hs => ?_
            refine sY (Value.bool a1.Fails) hs (Yl.loadB (vs := [(Value.bool a1.Fails)]) false 2 rfl rfl rfl (by kernel_rfl) rfl) fun _ hs => ?_
            refine sP (Value.bool a1.Fails) hs fun _ hs => ?_
            refine bsplit a1.Fails Iff.rfl (fun hb hc => ?_) (fun hb hc => ?_)
            · have hs := hs.bt hb
              have hS := hS.1 hc
              refine sNo hs fun _ hs => ?_
              refine sNo hs fun _ hs => ?_
              refine sNo hs fun _ hs => ?_
              refine sNu hs fun _ hs => ?_
              refine sNu hs fun _ hs => ?_
              refine sNo hs fun _ hs => ?_
              refine sNo hs fun _ hs => ?_
              refine sNu hs fun _ hs => ?_
              refine sNu hs fun _ hs => ?_
              refine sNo hs fun _ hs => ?_
              refine sP (Value.bool true) hs fun _ hs => ?_
              refine sP (X_api_Facts.mk false b2.Eats true).val hs fun _ hs => ?_
              refine stepStoreB 0 (vs := [(Value.bool false), (Value.bool b2.Eats), (Value.bool true)]) hs rfl rfl rfl rfl rfl rfl (by kernel_rfl) (Nat.le_of_ble_eq_true rfl) rfl (fun _ _ hs => ?_)
              replace hs := hs.chbx (bs' := [⟨b5, 46, [(Value.bool false), (Value.bool b2.Eats), (Value.bool true)]⟩, ⟨b4, 46, [(Value.bool b2.Empty), (Value.bool b2.Eats), (Value.bool b2.Fails)]⟩, ⟨b3, 46, [(Value.bool a1.Empty), (Value.bool a1.Eats), (Value.bool a1.Fails)]⟩]) rfl
              exact wpList_nil (Wp.ret (leaveE (K := fun v _ => K v) hs (resC (vs := [(Value.bool false), (Value.bool b2.Eats), (Value.bool true)]) true 0 hs rfl rfl rfl (by kernel_rfl) rfl) hMM.2 (fun _ _ => hS)))
            · have hs := hs.bf hb
              have hS := hS.2 hc
              refine sYe hs (sP (Value.pointer (some ⟨b3, 0, none⟩)) hs fun _ hs => ?_)
              refine sYe hs (sY (Value.bool a1.Empty) hs (Yl.loadB (vs := [(Value.bool a1.Empty)]) false 2 rfl rfl rfl (by kernel_rfl) rfl) fun _ hs => ?_)
              refine sYe hs (sP (Value.bool a1.Empty) hs fun _ hs => ?_)
              refine bsplit a1.Empty Iff.rfl (fun hb hc => ?_) (fun hb hc => ?_)
              · have hs := hs.bt hb
                have hS := hS.1 hc
                refine sNo hs fun _ hs => ?_
                refine sNo hs fun _ hs => ?_
                refine sYe hs (sP (Value.bool true) hs fun _ hs => ?_)
                refine sYe hs (sP (Value.bool true) hs fun _ hs => ?_)
                refine sYe hs (sP (Value.pointer (some ⟨b4, 2, none⟩)) hs fun _ hs => ?_)
                refine sYe hs (sY (Value.bool b2.Fails) hs (Yl.loadB (vs := [(Value.bool b2.Fails)]) false 1 rfl rfl rfl (by kernel_rfl) rfl) fun _ hs => ?_)
                refine sYe hs (sP (Value.bool b2.Fails) hs fun _ hs => ?_)
                refine sP (Value.bool b2.Fails) hs fun _ hs => ?_
                refine sP (X_api_Facts.mk false b2.Eats b2.Fails).val hs fun _ hs => ?_
                refine stepStoreB 0 (vs := [(Value.bool false), (Value.bool b2.Eats), (Value.bool b2.Fails)]) hs rfl rfl rfl rfl rfl rfl (by kernel_rfl) (Nat.le_of_ble_eq_true rfl) rfl (fun _ _ hs => ?_)
                replace hs := hs.chbx (bs' := [⟨b5, 46, [(Value.bool false), (Value.bool b2.Eats), (Value.bool b2.Fails)]⟩, ⟨b4, 46, [(Value.bool b2.Empty), (Value.bool b2.Eats), (Value.bool b2.Fails)]⟩, ⟨b3, 46, [(Value.bool a1.Empty), (Value.bool a1.Eats), (Value.bool a1.Fails)]⟩]) rfl
                exact wpList_nil (Wp.ret (leaveE (K := fun v _ => K v) hs (resC (vs := [(Value.bool false), (Value.bool b2.Eats), (Value.bool b2.Fails)]) true 0 hs rfl rfl rfl (by kernel_rfl) rfl) hMM.2 (fun _ _ => hS)))
              · have hs := hs.bf hb
                have hS := hS.2 hc
                refine sYe hs (sP (Value.pointer (some ⟨b3, 1, none⟩)) hs fun _ hs => ?_)
                refine sYe hs (sY (Value.bool a1.Eats) hs (Yl.loadB (vs := [(Value.bool a1.Eats)]) false 2 rfl rfl rfl (by kernel_rfl) rfl) fun _ hs => ?_)
                refine sYe hs (sP (Value.bool a1.Eats) hs fun _ hs => ?_)
                refine sYe hs (sP (Value.bool a1.Eats) hs fun _ hs => ?_)
                refine bsplit a1.Eats Iff.rfl (fun hb hc => ?_) (fun hb hc => ?_)
                · have hs := hs.bt hb
                  have hS := hS.1 hc
                  refine sYe hs (sP (Value.pointer (some ⟨b4, 2, none⟩)) hs fun _ hs => ?_)
                  refine sYe hs (sY (Value.bool b2.Fails) hs (Yl.loadB (vs := [(Value.bool b2.Fails)]) false 1 rfl rfl rfl (by kernel_rfl) rfl) fun _ hs => ?_)
                  refine sYe hs (sP (Value.bool b2.Fails) hs fun _ hs => ?_)
                  refine sP (Value.bool b2.Fails) hs fun _ hs => ?_
                  refine sP (X_api_Facts.mk false b2.Eats b2.Fails).val hs fun _ hs => ?_
                  refine stepStoreB 0 (vs := [(Value.bool false), (Value.bool b2.Eats), (Value.bool b2.Fails)]) hs rfl rfl rfl rfl rfl rfl (by kernel_rfl) (Nat.le_of_ble_eq_true rfl) rfl (fun _ _ hs => ?_)
                  replace hs := hs.chbx (bs' := [⟨b5, 46, [(Value.bool false), (Value.bool b2.Eats), (Value.bool b2.Fails)]⟩, ⟨b4, 46, [(Value.bool b2.Empty), (Value.bool b2.Eats), (Value.bool b2.Fails)]⟩, ⟨b3, 46, [(Value.bool a1.Empty), (Value.bool a1.Eats), (Value.bool a1.Fails)]⟩]) rfl
                  exact wpList_nil (Wp.ret (leaveE (K := fun v _ => K v) hs (resC (vs := [(Value.bool false), (Value.bool b2.Eats), (Value.bool b2.Fails)]) true 0 hs rfl rfl rfl (by kernel_rfl) rfl) hMM.2 (fun _ _ => hS)))
                · have hs := hs.bf hb
                  have hS := hS.2 hc
                  refine sNo hs fun _ hs => ?_
                  refine sNo hs fun _ hs => ?_
                  refine sYe hs (sP (Value.bool false) hs fun _ hs => ?_)
                  refine sP (Value.bool false) hs fun _ hs => ?_
                  refine sP (X_api_Facts.mk false b2.Eats false).val hs fun _ hs => ?_
                  refine stepStoreB 0 (vs := [(Value.bool false), (Value.bool b2.Eats), (Value.bool false)]) hs rfl rfl rfl rfl rfl rfl (by kernel_rfl) (Nat.le_of_ble_eq_true rfl) rfl (fun _ _ hs => ?_)
                  replace hs := hs.chbx (bs' := [⟨b5, 46, [(Value.bool false), (Value.bool b2.Eats), (Value.bool false)]⟩, ⟨b4, 46, [(Value.bool b2.Empty), (Value.bool b2.Eats), (Value.bool b2.Fails)]⟩, ⟨b3, 46, [(Value.bool a1.Empty), (Value.bool a1.Eats), (Value.bool a1.Fails)]⟩]) rfl
                  exact wpList_nil (Wp.ret (leaveE (K := fun v _ => K v) hs (resC (vs := [(Value.bool false), (Value.bool b2.Eats), (Value.bool false)]) true 0 hs rfl rfl rfl (by kernel_rfl) rfl) hMM.2 (fun _ _ => hS)))
          · have hs := hs.bf hb
            have hS := hS.2 hc
            refine sNo hs fun _ hs => ?_
            refine sNo hs fun _ hs => ?_
            refine sYe hs (sP (Value.bool false) hs fun _ hs => ?_)
            refine sP (Value.bool false) hs fun _ hs => ?_
            refine sP (Value.pointer (some ⟨b3, 2, none⟩)) hs fun _ hs => ?_
            refine sY (Value.bool a1.Fails) hs (Yl.loadB (vs := [(Value.bool a1.Fails)]) false 2 rfl rfl rfl (by kernel_rfl) rfl) fun _ hs => ?_
            refine sP (Value.bool a1.Fails) hs fun _ hs => ?_
            refine bsplit a1.Fails Iff.rfl (fun hb hc => ?_) (fun hb hc => ?_)
            · have hs := hs.bt hb
              have hS := hS.1 hc
              refine sNo hs fun _ hs => ?_
              refine sNo hs fun _ hs => ?_
              refine sNo hs fun _ hs => ?_
              refine sNu hs fun _ hs => ?_
              refine sNu hs fun _ hs => ?_
              refine sNo hs fun _ hs => ?_
              refine sNo hs fun _ hs => ?_
              refine sNu hs fun _ hs => ?_
              refine sNu hs fun _ hs => ?_
              refine sNo hs fun _ hs => ?_
              refine sP (Value.bool true) hs fun _ hs => ?_
              refine sP (X_api_Facts.mk false false true).val hs fun _ hs => ?_
              refine stepStoreB 0 (vs := [(Value.bool false), (Value.bool false), (Value.bool true)]) hs rfl rfl rfl rfl rfl rfl (by kernel_rfl) (Nat.le_of_ble_eq_true rfl) rfl (fun _ _ hs => ?_)
              replace hs := hs.chbx (bs' := [⟨b5, 46, [(Value.bool false), (Value.bool false), (Value.bool true)]⟩, ⟨b4, 46, [(Value.bool b2.Empty), (Value.bool b2.Eats), (Value.bool b2.Fails)]⟩, ⟨b3, 46, [(Value.bool a1.Empty), (Value.bool a1.Eats), (Value.bool a1.Fails)]⟩]) rfl
              exact wpList_nil (Wp.ret (leaveE (K := fun v _ => K v) hs (resC (vs := [(Value.bool false), (Value.bool false), (Value.bool true)]) true 0 hs rfl rfl rfl (by kernel_rfl) rfl) hMM.2 (fun _ _ => hS)))
            · have hs := hs.bf hb
              have hS := hS.2 hc
              refine sYe hs (sP (Value.pointer (some ⟨b3, 0, none⟩)) hs fun _ hs => ?_)
              refine sYe hs (sY (Value.bool a1.Empty) hs (Yl.loadB (vs := [(Value.bool a1.Empty)]) false 2 rfl rfl rfl (by kernel_rfl) rfl) fun _ hs => ?_)
              refine sYe hs (sP (Value.bool a1.Empty) hs fun _ hs => ?_)
              refine bsplit a1.Empty Iff.rfl (fun hb hc => ?_) (fun hb hc => ?_)
              · have hs := hs.bt hb
                have hS := hS.1 hc
                refine sNo hs fun _ hs => ?_
                refine sNo hs fun _ hs => ?_
                refine sYe hs (sP (Value.bool true) hs fun _ hs => ?_)
                refine sYe hs (sP (Value.bool true) hs fun _ hs => ?_)
                refine sYe hs (sP (Value.pointer (some ⟨b4, 2, none⟩)) hs fun _ hs => ?_)
                refine sYe hs (sY (Value.bool b2.Fails) hs (Yl.loadB (vs := [(Value.bool b2.Fails)]) false 1 rfl rfl rfl (by kernel_rfl) rfl) fun _ hs => ?_)
                refine sYe hs (sP (Value.bool b2.Fails) hs fun _ hs => ?_)
                refine sP (Value.bool b2.Fails) hs fun _ hs => ?_
                refine sP (X_api_Facts.mk false false b2.Fails).val hs fun _ hs => ?_
                refine stepStoreB 0 (vs := [(Value.bool false), (Value.bool false), (Value.bool b2.Fails)]) hs rfl rfl rfl rfl rfl rfl (by kernel_rfl) (Nat.le_of_ble_eq_true rfl) rfl (fun _ _ hs => ?_)
                replace hs := hs.chbx (bs' := [⟨b5, 46, [(Value.bool false), (Value.bool false), (Value.bool b2.Fails)]⟩, ⟨b4, 46, [(Value.bool b2.Empty), (Value.bool b2.Eats), (Value.bool b2.Fails)]⟩, ⟨b3, 46, [(Value.bool a1.Empty), (Value.bool a1.Eats), (Value.bool a1.Fails)]⟩]) rfl
                exact wpList_nil (Wp.ret (leaveE (K := fun v _ => K v) hs (resC (vs := [(Value.bool false), (Value.bool false), (Value.bool b2.Fails)]) true 0 hs rfl rfl rfl (by kernel_rfl) rfl) hMM.2 (fun _ _ => hS)))
              · have hs := hs.bf hb
                have hS := hS.2 hc
                refine sYe hs (sP (Value.pointer (some ⟨b3, 1, none⟩)) hs fun _ hs => ?_)
                refine sYe hs (sY (Value.bool a1.Eats) hs (Yl.loadB (vs := [(Value.bool a1.Eats)]) false 2 rfl rfl rfl (by kernel_rfl) rfl) fun _ hs => ?_)
                refine sYe hs (sP (Value.bool a1.Eats) hs fun _ hs => ?_)
                refine sYe hs (sP (Value.bool a1.Eats) hs fun _ hs => ?_)
                refine bsplit a1.Eats Iff.rfl (fun hb hc => ?_) (fun hb hc => ?_)
                · have hs := hs.bt hb
                  have hS := hS.1 hc
                  refine sYe hs (sP (Value.pointer (some ⟨b4, 2, none⟩)) hs fun _ hs => ?_)
                  refine sYe hs (sY (Value.bool b2.Fails) hs (Yl.loadB (vs := [(Value.bool b2.Fails)]) false 1 rfl rfl rfl (by kernel_rfl) rfl) fun _ hs => ?_)
                  refine sYe hs (sP (Value.bool b2.Fails) hs fun _ hs => ?_)
                  refine sP (Value.bool b2.Fails) hs fun _ hs => ?_
                  refine sP (X_api_Facts.mk false false b2.Fails).val hs fun _ hs => ?_
                  refine stepStoreB 0 (vs := [(Value.bool false), (Value.bool false), (Value.bool b2.Fails)]) hs rfl rfl rfl rfl rfl rfl (by kernel_rfl) (Nat.le_of_ble_eq_true rfl) rfl (fun _ _ hs => ?_)
                  replace hs := hs.chbx (bs' := [⟨b5, 46, [(Value.bool false), (Value.bool false), (Value.bool b2.Fails)]⟩, ⟨b4, 46, [(Value.bool b2.Empty), (Value.bool b2.Eats), (Value.bool b2.Fails)]⟩, ⟨b3, 46, [(Value.bool a1.Empty), (Value.bool a1.Eats), (Value.bool a1.Fails)]⟩]) rfl
                  exact wpList_nil (Wp.ret (leaveE (K := fun v _ => K v) hs (resC (vs := [(Value.bool false), (Value.bool false), (Value.bool b2.Fails)]) true 0 hs rfl rfl rfl (by kernel_rfl) rfl) hMM.2 (fun _ _ => hS)))
                · have hs := hs.bf hb
                  have hS := hS.2 hc
                  refine sNo hs fun _ hs => ?_
                  refine sNo hs fun _ hs => ?_
                  refine sYe hs (sP (Value.bool false) hs fun _ hs => ?_)
                  refine sP (Value.bool false) hs fun _ hs => ?_
                  refine sP (X_api_Facts.mk false false false).val hs fun _ hs => ?_
                  refine stepStoreB 0 (vs := [(Value.bool false), (Value.bool false), (Value.bool false)]) hs rfl rfl rfl rfl rfl rfl (by kernel_rfl) (Nat.le_of_ble_eq_true rfl) rfl (fun _ _ hs => ?_)
                  replace hs := hs.chbx (bs' := [⟨b5, 46, [(Value.bool false), (Value.bool false), (Value.bool false)]⟩, ⟨b4, 46, [(Value.bool b2.Empty), (Value.bool b2.Eats), (Value.bool b2.Fails)]⟩, ⟨b3, 46, [(Value.bool a1.Empty), (Value.bool a1.Eats), (Value.bool a1.Fails)]⟩]) rfl
                  exact wpList_nil (Wp.ret (leaveE (K := fun v _ => K v) hs (resC (vs := [(Value.bool false), (Value.bool false), (Value.bool false)]) true 0 hs rfl rfl rfl (by kernel_rfl) rfl) hMM.2 (fun _ _ => hS)))
    · have hs := hs.bf hb
      have hS := hS.2 hc
      refine sNo hs fun _ hs => ?_
      refine sNo hs fun _ hs => ?_
      refine sNo hs fun _ hs => ?_
      refine sNu hs fun _ hs => ?_
      refine sNu hs fun _ hs => ?_
      refine sNo hs fun _ hs => ?_
      refine sP (Value.bool false) hs fun _ hs => ?_
      refine sP (Value.bool false) hs fun _ hs => ?_
      refine sYe hs (sP (Value.pointer (some ⟨b3, 0, none⟩)) hs fun _ hs => ?_)
      refine sYe hs (sY (Value.bool a1.Empty) hs (Yl.loadB (vs := [(Value.bool a1.Empty)]) false 2 rfl rfl rfl (by kernel_rfl) rfl) fun _ hs => ?_)
      refine sYe hs (sP (Value.bool a1.Empty) hs fun _ hs => ?_)
      refine bsplit a1.Empty Iff.rfl (fun hb hc => ?_) (fun hb hc => ?_)
      · have hs := hs.bt hb
        have hS := hS.1 hc
        refine sYe hs (sP (Value.pointer (some ⟨b4, 1, none⟩)) hs fun _ hs => ?_)
        refine sYe hs (sY (Value.bool b2.Eats) hs (Yl.loadB (vs := [(Value.bool b2.Eats)]) false 1 rfl rfl rfl (by kernel_rfl) rfl) fun _ hs => ?_)
        refine sYe hs (sP (Value.bool b2.Eats) hs fun _ hs => ?_)
        refine sP (Value.bool b2.Eats) hs fun _ hs => ?_
        refine sP (Value.pointer (some ⟨b3, 2, none⟩)) hs fun _ hs => ?_
        refine sY (Value.bool a1.Fails) hs (Yl.loadB (vs := [(Value.bool a1.Fails)]) false 2 rfl rfl rfl (by kernel_rfl) rfl) fun _ hs => ?_
        refine sP (Value.bool a1.Fails) hs fun _ hs => ?_
        refine bsplit a1.Fails Iff.rfl (fun hb hc => ?_) (fun hb hc => ?_)
        · have hs := hs.bt hb
          have hS := hS.1 hc
          refine sNo hs fun _ hs => ?_
          refine sNo hs fun _ hs => ?_
          refine sNo hs fun _ hs => ?_
          refine sNu hs fun _ hs => ?_
          refine sNu hs fun _ hs => ?_
          refine sNo hs fun _ hs => ?_
          refine sNo hs fun _ hs => ?_
          refine sNu hs fun _ hs => ?_
          refine sNu hs fun _ hs => ?_
          refine sNo hs fun _ hs => ?_
          refine sP (Value.bool true) hs fun _ hs => ?_
          refine sP (X_api_Facts.mk false b2.Eats true).val hs fun _ hs => ?_
          refine stepStoreB 0 (vs := [(Value.bool false), (Value.bool b2.Eats), (Value.bool true)]) hs rfl rfl rfl rfl rfl rfl (by kernel_rfl) (Nat.le_of_ble_eq_true rfl) rfl (fun _ _ hs => ?_)
          replace hs := hs.chbx (bs' := [⟨b5, 46, [(Value.bool false), (Value.bool b2.Eats), (Value.bool true)]⟩, ⟨b4, 46, [(Value.bool b2.Empty), (Value.bool b2.Eats), (Value.bool b2.Fails)]⟩, ⟨b3, 46, [(Value.bool a1.Empty), (Value.bool a1.Eats), (Value.bool a1.Fails)]⟩]) rfl
          exact wpList_nil (Wp.ret (leaveE (K := fun v _ => K v) hs (resC (vs := [(Value.bool false), (Value.bool b2.Eats), (Value.bool true)]) true 0 hs rfl rfl rfl (by kernel_rfl) rfl) hMM.2 (fun _ _ => hS)))
        · have hs := hs.bf hb
          have hS := hS.2 hc
          refine sYe hs (sP (Value.pointer (some ⟨b3, 0, none⟩)) hs fun _ hs => ?_)
          refine sYe hs (sY (Value.bool a1.Empty) hs (Yl.loadB (vs := [(Value.bool a1.Empty)]) false 2 rfl rfl rfl (by kernel_rfl) rfl) fun _ hs => ?_)
          refine sYe hs (sP (Value.bool a1.Empty) hs fun _ hs => ?_)
          refine bsplit a1.Empty Iff.rfl (fun hb hc => ?_) (fun hb hc => ?_)
          · have hs := hs.bt hb
            have hS := hS.1 hc
            refine sNo hs fun _ hs => ?_
            refine sNo hs fun _ hs => ?_
            refine sYe hs (sP (Value.bool true) hs fun _ hs => ?_)
            refine sYe hs (sP (Value.bool true) hs fun _ hs => ?_)
            refine sYe hs (sP (Value.pointer (some ⟨b4, 2, none⟩)) hs fun _ hs => ?_)
            refine sYe hs (sY (Value.bool b2.Fails) hs (Yl.loadB (vs := [(Value.bool b2.Fails)]) false 1 rfl rfl rfl (by kernel_rfl) rfl) fun _ hs => ?_)
            refine sYe hs (sP (Value.bool b2.Fails) hs fun _ hs => ?_)
            refine sP (Value.bool b2.Fails) hs fun _ hs => ?_
            refine sP (X_api_Facts.mk false b2.Eats b2.Fails).val hs fun _ hs => ?_
            refine stepStoreB 0 (vs := [(Value.bool false), (Value.bool b2.Eats), (Value.bool b2.Fails)]) hs rfl rfl rfl rfl rfl rfl (by kernel_rfl) (Nat.le_of_ble_eq_true rfl) rfl (fun _ _ hs => ?_)
            replace hs := hs.chbx (bs' := [⟨b5, 46, [(Value.bool false), (Value.bool b2.Eats), (Value.bool b2.Fails)]⟩, ⟨b4, 46, [(Value.bool b2.Empty), (Value.bool b2.Eats), (Value.bool b2.Fails)]⟩, ⟨b3, 46, [(Value.bool a1.Empty), (Value.bool a1.Eats), (Value.bool a1.Fails)]⟩]) rfl
            exact wpList_nil (Wp.ret (leaveE (K := fun v _ => K v) hs (resC (vs := [(Value.bool false), (Value.bool b2.Eats), (Value.bool b2.Fails)]) true 0 hs rfl rfl rfl (by kernel_rfl) rfl) hMM.2 (fun _ _ => hS)))
          · have hs := hs.bf hb
            have hS := hS.2 hc
            refine sYe hs (sP (Value.pointer (some ⟨b3, 1, none⟩)) hs fun _ hs => ?_)
            refine sYe hs (sY (Value.bool a1.Eats) hs (Yl.loadB (vs := [(Value.bool a1.Eats)]) false 2 rfl rfl rfl (by kernel_rfl) rfl) fun _ hs => ?_)
            refine sYe hs (sP (Value.bool a1.Eats) hs fun _ hs => ?_)
            refine sYe hs (sP (Value.bool a1.Eats) hs fun _ hs => ?_)
            refine bsplit a1.Eats Iff.rfl (fun hb hc => ?_) (fun hb hc => ?_)
            · have hs := hs.bt hb
              have hS := hS.1 hc
              refine sYe hs (sP (Value.pointer (some ⟨b4, 2, none⟩)) hs fun _ hs => ?_)
              refine sYe hs (sY (Value.bool b2.Fails) hs (Yl.loadB (vs := [(Value.bool b2.Fails)]) false 1 rfl rfl rfl (by kernel_rfl) rfl) fun _ hs => ?_)
              refine sYe hs (sP (Value.bool b2.Fails) hs fun _ hs => ?_)
              refine sP (Value.bool b2.Fails) hs fun _ hs => ?_
              refine sP (X_api_Facts.mk false b2.Eats b2.Fails).val hs fun _ hs => ?_
              refine stepStoreB 0 (vs := [(Value.bool false), (Value.bool b2.Eats), (Value.bool b2.Fails)]) hs rfl rfl rfl rfl rfl rfl (by kernel_rfl) (Nat.le_of_ble_eq_true rfl) rfl (fun _ _ hs => ?_)
              replace hs := hs.chbx (bs' := [⟨b5, 46, [(Value.bool false), (Value.bool b2.Eats), (Value.bool b2.Fails)]⟩, ⟨b4, 46, [(Value.bool b2.Empty), (Value.bool b2.Eats), (Value.bool b2.Fails)]⟩, ⟨b3, 46, [(Value.bool a1.Empty), (Value.bool a1.Eats), (Value.bool a1.Fails)]⟩]) rfl
              exact wpList_nil (Wp.ret (leaveE (K := fun v _ => K v) hs (resC (vs := [(Value.bool false), (Value.bool b2.Eats), (Value.bool b2.Fails)]) true 0 hs rfl rfl rfl (by kernel_rfl) rfl) hMM.2 (fun _ _ => hS)))
            · have hs := hs.bf hb
              have hS := hS.2 hc
              refine sNo hs fun _ hs => ?_
              refine sNo hs fun _ hs => ?_
              refine sYe hs (sP (Value.bool false) hs fun _ hs => ?_)
              refine sP (Value.bool false) hs fun _ hs => ?_
              refine sP (X_api_Facts.mk false b2.Eats false).val hs fun _ hs => ?_
              refine stepStoreB 0 (vs := [(Value.bool false), (Value.bool b2.Eats), (Value.bool false)]) hs rfl rfl rfl rfl rfl rfl (by kernel_rfl) (Nat.le_of_ble_eq_true rfl) rfl (fun _ _ hs => ?_)
              replace hs := hs.chbx (bs' := [⟨b5, 46, [(Value.bool false), (Value.bool b2.Eats), (Value.bool false)]⟩, ⟨b4, 46, [(Value.bool b2.Empty), (Value.bool b2.Eats), (Value.bool b2.Fails)]⟩, ⟨b3, 46, [(Value.bool a1.Empty), (Value.bool a1.Eats), (Value.bool a1.Fails)]⟩]) rfl
              exact wpList_nil (Wp.ret (leaveE (K := fun v _ => K v) hs (resC (vs := [(Value.bool false), (Value.bool b2.Eats), (Value.bool false)]) true 0 hs rfl rfl rfl (by kernel_rfl) rfl) hMM.2 (fun _ _ => hS)))
      · have hs := hs.bf hb
        have hS := hS.2 hc
        refine sNo hs fun _ hs => ?_
        refine sNo hs fun _ hs => ?_
        refine sYe hs (sP (Value.bool false) hs fun _ hs => ?_)
        refine sP (Value.bool false) hs fun _ hs => ?_
        refine sP (Value.pointer (some ⟨b3, 2, none⟩)) hs fun _ hs => ?_
        refine sY (Value.bool a1.Fails) hs (Yl.loadB (vs := [(Value.bool a1.Fails)]) false 2 rfl rfl rfl (by kernel_rfl) rfl) fun _ hs => ?_
        refine sP (Value.bool a1.Fails) hs fun _ hs => ?_
        refine bsplit a1.Fails Iff.rfl (fun hb hc => ?_) (fun hb hc => ?_)
        · have hs := hs.bt hb
          have hS := hS.1 hc
          refine sNo hs fun _ hs => ?_
          refine sNo hs fun _ hs => ?_
          refine sNo hs fun _ hs => ?_
          refine sNu hs fun _ hs => ?_
          refine sNu hs fun _ hs => ?_
          refine sNo hs fun _ hs => ?_
          refine sNo hs fun _ hs => ?_
          refine sNu hs fun _ hs => ?_
          refine sNu hs fun _ hs => ?_
          refine sNo hs fun _ hs => ?_
          refine sP (Value.bool true) hs fun _ hs => ?_
          refine sP (X_api_Facts.mk false false true).val hs fun _ hs => ?_
          refine stepStoreB 0 (vs := [(Value.bool false), (Value.bool false), (Value.bool true)]) hs rfl rfl rfl rfl rfl rfl (by kernel_rfl) (Nat.le_of_ble_eq_true rfl) rfl (fun _ _ hs => ?_)
          replace hs := hs.chbx (bs' := [⟨b5, 46, [(Value.bool false), (Value.bool false), (Value.bool true)]⟩, ⟨b4, 46, [(Value.bool b2.Empty), (Value.bool b2.Eats), (Value.bool b2.Fails)]⟩, ⟨b3, 46, [(Value.bool a1.Empty), (Value.bool a1.Eats), (Value.bool a1.Fails)]⟩]) rfl
          exact wpList_nil (Wp.ret (leaveE (K := fun v _ => K v) hs (resC (vs := [(Value.bool false), (Value.bool false), (Value.bool true)]) true 0 hs rfl rfl rfl (by kernel_rfl) rfl) hMM.2 (fun _ _ => hS)))
        · have hs := hs.bf hb
          have hS := hS.2 hc
          refine sYe hs (sP (Value.pointer (some ⟨b3, 0, none⟩)) hs fun _ hs => ?_)
          refine sYe hs (sY (Value.bool a1.Empty) hs (Yl.loadB (vs := [(Value.bool a1.Empty)]) false 2 rfl rfl rfl (by kernel_rfl) rfl) fun _ hs => ?_)
          refine sYe hs (sP (Value.bool a1.Empty) hs fun _ hs => ?_)
          refine bsplit a1.Empty Iff.rfl (fun hb hc => ?_) (fun hb hc => ?_)
          · have hs := hs.bt hb
            have hS := hS.1 hc
            refine sNo hs fun _ hs => ?_
            refine sNo hs fun _ hs => ?_
            refine sYe hs (sP (Value.bool true) hs fun _ hs => ?_)
            refine sYe hs (sP (Value.bool true) hs fun _ hs => ?_)
            refine sYe hs (sP (Value.pointer (some ⟨b4, 2, none⟩)) hs fun _ hs => ?_)
            refine sYe hs (sY (Value.bool b2.Fails) hs (Yl.loadB (vs := [(Value.bool b2.Fails)]) false 1 rfl rfl rfl (by kernel_rfl) rfl) fun _ hs => ?_)
            refine sYe hs (sP (Value.bool b2.Fails) hs fun _ hs => ?_)
            refine sP (Value.bool b2.Fails) hs fun _ hs => ?_
            refine sP (X_api_Facts.mk false false b2.Fails).val hs fun _ hs => ?_
            refine stepStoreB 0 (vs := [(Value.bool false), (Value.bool false), (Value.bool b2.Fails)]) hs rfl rfl rfl rfl rfl rfl (by kernel_rfl) (Nat.le_of_ble_eq_true rfl) rfl (fun _ _ hs => ?_)
            replace hs := hs.chbx (bs' := [⟨b5, 46, [(Value.bool false), (Value.bool false), (Value.bool b2.Fails)]⟩, ⟨b4, 46, [(Value.bool b2.Empty), (Value.bool b2.Eats), (Value.bool b2.Fails)]⟩, ⟨b3, 46, [(Value.bool a1.Empty), (Value.bool a1.Eats), (Value.bool a1.Fails)]⟩]) rfl
            exact wpList_nil (Wp.ret (leaveE (K := fun v _ => K v) hs (resC (vs := [(Value.bool false), (Value.bool false), (Value.bool b2.Fails)]) true 0 hs rfl rfl rfl (by kernel_rfl) rfl) hMM.2 (fun _ _ => hS)))
          · have hs := hs.bf hb
            have hS := hS.2 hc
            refine sYe hs (sP (Value.pointer (some ⟨b3, 1, none⟩)) hs fun _ hs => ?_)
            refine sYe hs (sY (Value.bool a1.Eats) hs (Yl.loadB (vs := [(Value.bool a1.Eats)]) false 2 rfl rfl rfl (by kernel_rfl) rfl) fun _ hs => ?_)
            refine sYe hs (sP (Value.bool a1.Eats) hs fun _ hs => ?_)
            refine sYe hs (sP (Value.bool a1.Eats) hs fun _ hs => ?_)
            refine bsplit a1.Eats Iff.rfl (fun hb hc => ?_) (fun hb hc => ?_)
            · have hs := hs.bt hb
              have hS := hS.1 hc
              refine sYe hs (sP (Value.pointer (some ⟨b4, 2, none⟩)) hs fun _ hs => ?_)
              refine sYe hs (sY (Value.bool b2.Fails) hs (Yl.loadB (vs := [(Value.bool b2.Fails)]) false 1 rfl rfl rfl (by kernel_rfl) rfl) fun _ hs => ?_)
              refine sYe hs (sP (Value.bool b2.Fails) hs fun _ hs => ?_)
              refine sP (Value.bool b2.Fails) hs fun _ hs => ?_
              refine sP (X_api_Facts.mk false false b2.Fails).val hs fun _ hs => ?_
              refine stepStoreB 0 (vs := [(Value.bool false), (Value.bool false), (Value.bool b2.Fails)]) hs rfl rfl rfl rfl rfl rfl (by kernel_rfl) (Nat.le_of_ble_eq_true rfl) rfl (fun _ _ hs => ?_)
              replace hs := hs.chbx (bs' := [⟨b5, 46, [(Value.bool false), (Value.bool false), (Value.bool b2.Fails)]⟩, ⟨b4, 46, [(Value.bool b2.Empty), (Value.bool b2.Eats), (Value.bool b2.Fails)]⟩, ⟨b3, 46, [(Value.bool a1.Empty), (Value.bool a1.Eats), (Value.bool a1.Fails)]⟩]) rfl
              exact wpList_nil (Wp.ret (leaveE (K := fun v _ => K v) hs (resC (vs := [(Value.bool false), (Value.bool false), (Value.bool b2.Fails)]) true 0 hs rfl rfl rfl (by kernel_rfl) rfl) hMM.2 (fun _ _ => hS)))
            · have hs := hs.bf hb
              have hS := hS.2 hc
              refine sNo hs fun _ hs => ?_
              refine sNo hs fun _ hs => ?_
              refine sYe hs (sP (Value.bool false) hs fun _ hs => ?_)
              refine sP (Value.bool false) hs fun _ hs => ?_
              refine sP (X_api_Facts.mk false false false).val hs fun _ hs => ?_
              refine stepStoreB 0 (vs := [(Value.bool false), (Value.bool false), (Value.bool false)]) hs rfl rfl rfl rfl rfl rfl (by kernel_rfl) (Nat.le_of_ble_eq_true rfl) rfl (fun _ _ hs => ?_)
              replace hs := hs.chbx (bs' := [⟨b5, 46, [(Value.bool false), (Value.bool false), (Value.bool false)]⟩, ⟨b4, 46, [(Value.bool b2.Empty), (Value.bool b2.Eats), (Value.bool b2.Fails)]⟩, ⟨b3, 46, [(Value.bool a1.Empty), (Value.bool a1.Eats), (Value.bool a1.Fails)]⟩]) rfl
              exact wpList_nil (Wp.ret (leaveE (K := fun v _ => K v) hs (resC (vs := [(Value.bool false), (Value.bool false), (Value.bool false)]) true 0 hs rfl rfl rfl (by kernel_rfl) rfl) hMM.2 (fun _ _ => hS)))
set_option linter.unusedVariables false in
def S_well_or (a1 : X_api_Facts) (b2 : X_api_Facts) (M : Mem) (K : Value → Prop) : Prop :=
  ((a1.Empty = true → ((a1.Eats = true → ((a1.Fails = true → K (X_api_Facts.mk true true b2.Fails).val) ∧ (¬ (a1.Fails = true) → K (X_api_Facts.mk true true false).val))) ∧ (¬ (a1.Eats = true) → ((a1.Fails = true → ((a1.Fails = true → K (X_api_Facts.mk true b2.Eats b2.Fails).val) ∧ (¬ (a1.Fails = true) → K (X_api_Facts.mk true b2.Eats false).val))) ∧ (¬ (a1.Fails = true) → ((a1.Fails = true → K (X_api_Facts.mk true false b2.Fails).val) ∧ (¬ (a1.Fails = true) → K (X_api_Facts.mk true false false).val))))))) ∧ (¬ (a1.Empty = true) → ((a1.Fails = true → ((a1.Eats = true → ((a1.Fails = true → K (X_api_Facts.mk b2.Empty true b2.Fails).val) ∧ (¬ (a1.Fails = true) → K (X_api_Facts.mk b2.Empty true false).val))) ∧ (¬ (a1.Eats = true) → ((a1.Fails = true → ((a1.Fails = true → K b2.val) ∧ (¬ (a1.Fails = true) → K (X_api_Facts.mk b2.Empty b2.Eats false).val))) ∧ (¬ (a1.Fails = true) → ((a1.Fails = true → K (X_api_Facts.mk b2.Empty false b2.Fails).val) ∧ (¬ (a1.Fails = true) → K (X_api_Facts.mk b2.Empty false false).val))))))) ∧ (¬ (a1.Fails = true) → ((a1.Eats = true → ((a1.Fails = true → K (X_api_Facts.mk false true b2.Fails).val) ∧ (¬ (a1.Fails = true) → K (X_api_Facts.mk false true false).val))) ∧ (¬ (a1.Eats = true) → ((a1.Fails = true → ((a1.Fails = true → K (X_api_Facts.mk false b2.Eats b2.Fails).val) ∧ (¬ (a1.Fails = true) → K (X_api_Facts.mk false b2.Eats false).val))) ∧ (¬ (a1.Fails = true) → ((a1.Fails = true → K (X_api_Facts.mk false false b2.Fails).val) ∧ (¬ (a1.Fails = true) → K (X_api_Facts.mk false false false).val))))))))))
set_option linter.unusedVariables false in
set_option maxRecDepth 100000 in
theorem s_well_or (a1 : X_api_Facts) (b2 : X_api_Facts) (M : Mem) (K : Value → Prop) (hS : S_well_or a1 b2 M K) : CallE Try.prog 126 #[a1.val, b2.val] M (fun v _ => K v) := by
  refine enterE Try.func126 rfl 32 rfl (Nat.le_of_ble_eq_true rfl) (fun E a hs => ?_)
  unfold S_well_or at hS
  have hMM := MX.refl M E
  change Sx 32 E [] M E a [(0, a1.val), (1, b2.val)] [] [] at hs
  refine Wp.seq (Wp.region (stepBox [(Value.bool a1.Empty), (Value.bool a1.Eats), (Value.bool a1.Fails)] hs rfl rfl rfl (by decide) (fun _ _ b3 hEb3 hs => ?_)))
  refine stepBox [(Value.bool b2.Empty), (Value.bool b2.Eats), (Value.bool b2.Fails)] hs rfl rfl rfl (by decide) (fun _ _ b4 hEb4 hs => ?_)
  refine stepAlloc [(Value.bool false), (Value.bool false), (Value.bool false)] hs (by kernel_rfl) (by decide) (fun _ _ b5 hEb5 hs => ?_)
  refine wpList_nil (Wp.seq (Wp.region (sP (Value.pointer (some ⟨b3, 0, none⟩)) hs fun _ hs => ?_)))
  refine sY (Value.bool a1.Empty) hs (Yl.loadB (vs := [(Value.bool a1.Empty)]) false 2 rfl rfl rfl (by kernel_rfl) rfl) fun _ hs => ?_
  refine sP (Value.bool a1.Empty) hs fun _ hs => ?_
  refine bsplit a1.Empty Iff.rfl (fun hb hc => ?_) (fun hb hc => ?_)
  · have hs := hs.bt hb
    have hS := hS.1 hc
    refine sNo hs fun _ hs => ?_
    refine sNo hs fun _ hs => ?_
    refine sNo hs fun _ hs => ?_
    refine sNu hs fun _ hs => ?_
    refine sNu hs fun _ hs => ?_
    refine sNo hs fun _ hs => ?_
    refine sP (Value.bool true) hs fun _ hs => ?_
    refine sP (Value.pointer (some ⟨b3, 1, none⟩)) hs fun _ hs => ?_
    refine sY (Value.bool a1.Eats) hs (Yl.loadB (vs := [(Value.bool a1.Eats)]) false 2 rfl rfl rfl (by kernel_rfl) rfl) fun _ hs => ?_
    refine sP (Value.bool a1.Eats) hs fun _ hs => ?_
    refine bsplit a1.Eats Iff.rfl (fun hb hc => ?_) (fun hb hc => ?_)
    · have hs := hs.bt hb
      have hS := hS.1 hc
      refine sNo hs fun _ hs => ?_
      refine sNo hs fun _ hs => ?_
      refine sNo hs fun _ hs => ?_
      refine sNu hs fun _ hs => ?_
      refine sNu hs fun _ hs => ?_
      refine sNo hs fun _ hs => ?_
      refine sP (Value.bool true) hs fun _ hs => ?_
      refine sP (Value.pointer (some ⟨b3, 2, none⟩)) hs fun _ hs => ?_
      refine sY (Value.bool a1.Fails) hs (Yl.loadB (vs := [(Value.bool a1.Fails)]) false 2 rfl rfl rfl (by kernel_rfl) rfl) fun _ hs => ?_
      refine sP (Value.bool a1.Fails) hs fun _ hs => ?_
      refine bsplit a1.Fails Iff.rfl (fun hb hc => ?_) (fun hb hc => ?_)
      · have hs := hs.bt hb
        have hS := hS.1 hc
        refine sYe hs (sP (Value.pointer (some ⟨b4, 2, none⟩)) hs fun _ hs => ?_)
        refine sYe hs (sY (Value.bool b2.Fails) hs (Yl.loadB (vs := [(Value.bool b2.Fails)]) false 1 rfl rfl rfl (by kernel_rfl) rfl) fun _ hs => ?_)
        refine sP (Value.bool b2.Fails) hs fun _ hs => ?_
        refine sP (X_api_Facts.mk true true b2.Fails).val hs fun _ hs => ?_
        refine stepStoreB 0 (vs := [(Value.bool true), (Value.bool true), (Value.bool b2.Fails)]) hs rfl rfl rfl rfl rfl rfl (by kernel_rfl) (Nat.le_of_ble_eq_true rfl) rfl (fun _ _ hs => ?_)
        replace hs := hs.chbx (bs' := [⟨b5, 46, [(Value.bool true), (Value.bool true), (Value.bool b2.Fails)]⟩, ⟨b4, 46, [(Value.bool b2.Empty), (Value.bool b2.Eats), (Value.bool b2.Fails)]⟩, ⟨b3, 46, [(Value.bool a1.Empty), (Value.bool a1.Eats), (Value.bool a1.Fails)]⟩]) rfl
        exact wpList_nil (Wp.ret (leaveE (K := fun v _ => K v) hs (resC (vs := [(Value.bool true), (Value.bool true), (Value.bool b2.Fails)]) true 0 hs rfl rfl rfl (by kernel_rfl) rfl) hMM.2 (fun _ _ => hS)))
      · have hs := hs.bf hb
        have hS := hS.2 hc
        refine sNo hs fun _ hs => ?_
        refine sNo hs fun _ hs => ?_
        refine sP (Value.bool false) hs fun _ hs => ?_
        refine sP (X_api_Facts.mk true true false).val hs fun _ hs => ?_
        refine stepStoreB 0 (vs := [(Value.bool true), (Value.bool true), (Value.bool false)]) hs rfl rfl rfl rfl rfl rfl (by kernel_rfl) (Nat.le_of_ble_eq_true rfl) rfl (fun _ _ hs => ?_)
        replace hs := hs.chbx (bs' := [⟨b5, 46, [(Value.bool true), (Value.bool true), (Value.bool false)]⟩, ⟨b4, 46, [(Value.bool b2.Empty), (Value.bool b2.Eats), (Value.bool b2.Fails)]⟩, ⟨b3, 46, [(Value.bool a1.Empty), (Value.bool a1.Eats), (Value.bool a1.Fails)]⟩]) rfl
        exact wpList_nil (Wp.ret (leaveE (K := fun v _ => K v) hs (resC (vs := [(Value.bool true), (Value.bool true), (Value.bool false)]) true 0 hs rfl rfl rfl (by kernel_rfl) rfl) hMM.2 (fun _ _ => hS)))
    · have hs := hs.bf hb
      have hS := hS.2 hc
      refine sYe hs (sP (Value.pointer (some ⟨b3, 2, none⟩)) hs fun _ hs => ?_)
      refine sYe hs (sY (Value.bool a1.Fails) hs (Yl.loadB (vs := [(Value.bool a1.Fails)]) false 2 rfl rfl rfl (by kernel_rfl) rfl) fun _ hs => ?_)
      refine sYe hs (sP (Value.bool a1.Fails) hs fun _ hs => ?_)
      refine bsplit a1.Fails Iff.rfl (fun hb hc => ?_) (fun hb hc => ?_)
      · have hs := hs.bt hb
        have hS := hS.1 hc
        refine sYe hs (sP (Value.pointer (some ⟨b4, 1, none⟩)) hs fun _ hs => ?_)
        refine sYe hs (sY (Value.bool b2.Eats) hs (Yl.loadB (vs := [(Value.bool b2.Eats)]) false 1 rfl rfl rfl (by kernel_rfl) rfl) fun _ hs => ?_)
        refine sYe hs (sP (Value.bool b2.Eats) hs fun _ hs => ?_)
        refine sP (Value.bool b2.Eats) hs fun _ hs => ?_
        refine sP (Value.pointer (some ⟨b3, 2, none⟩)) hs fun _ hs => ?_
        refine sY (Value.bool a1.Fails) hs (Yl.loadB (vs := [(Value.bool a1.Fails)]) false 2 rfl rfl rfl (by kernel_rfl) rfl) fun _ hs => ?_
        refine sP (Value.bool a1.Fails) hs fun _ hs => ?_
        refine bsplit a1.Fails Iff.rfl (fun hb hc => ?_) (fun hb hc => ?_)
        · have hs := hs.bt hb
          have hS := hS.1 hc
          refine sYe hs (sP (Value.pointer (some ⟨b4, 2, none⟩)) hs fun _ hs => ?_)
          refine sYe hs (sY (Value.bool b2.Fails) hs (Yl.loadB (vs := [(Value.bool b2.Fails)]) false 1 rfl rfl rfl (by kernel_rfl) rfl) fun _ hs => ?_)
          refine sP (Value.bool b2.Fails) hs fun _ hs => ?_
          refine sP (X_api_Facts.mk true b2.Eats b2.Fails).val hs fun _ hs => ?_
          refine stepStoreB 0 (vs := [(Value.bool true), (Value.bool b2.Eats), (Value.bool b2.Fails)]) hs rfl rfl rfl rfl rfl rfl (by kernel_rfl) (Nat.le_of_ble_eq_true rfl) rfl (fun _ _ hs => ?_)
          replace hs := hs.chbx (bs' := [⟨b5, 46, [(Value.bool true), (Value.bool b2.Eats), (Value.bool b2.Fails)]⟩, ⟨b4, 46, [(Value.bool b2.Empty), (Value.bool b2.Eats), (Value.bool b2.Fails)]⟩, ⟨b3, 46, [(Value.bool a1.Empty), (Value.bool a1.Eats), (Value.bool a1.Fails)]⟩]) rfl
          exact wpList_nil (Wp.ret (leaveE (K := fun v _ => K v) hs (resC (vs := [(Value.bool true), (Value.bool b2.Eats), (Value.bool b2.Fails)]) true 0 hs rfl rfl rfl (by kernel_rfl) rfl) hMM.2 (fun _ _ => hS)))
        · have hs := hs.bf hb
          have hS := hS.2 hc
          refine sNo hs fun _ hs => ?_
          refine sNo hs fun _ hs => ?_
          refine sP (Value.bool false) hs fun _ hs => ?_
          refine sP (X_api_Facts.mk true b2.Eats false).val hs fun _ hs => ?_
          refine stepStoreB 0 (vs := [(Value.bool true), (Value.bool b2.Eats), (Value.bool false)]) hs rfl rfl rfl rfl rfl rfl (by kernel_rfl) (Nat.le_of_ble_eq_true rfl) rfl (fun _ _ hs => ?_)
          replace hs := hs.chbx (bs' := [⟨b5, 46, [(Value.bool true), (Value.bool b2.Eats), (Value.bool false)]⟩, ⟨b4, 46, [(Value.bool b2.Empty), (Value.bool b2.Eats), (Value.bool b2.Fails)]⟩, ⟨b3, 46, [(Value.bool a1.Empty), (Value.bool a1.Eats), (Value.bool a1.Fails)]⟩]) rfl
          exact wpList_nil (Wp.ret (leaveE (K := fun v _ => K v) hs (resC (vs := [(Value.bool true), (Value.bool b2.Eats), (Value.bool false)]) true 0 hs rfl rfl rfl (by kernel_rfl) rfl) hMM.2 (fun _ _ => hS)))
      · have hs := hs.bf hb
        have hS := hS.2 hc
        refine sNo hs fun _ hs => ?_
        refine sNo hs fun _ hs => ?_
        refine sYe hs (sP (Value.bool false) hs fun _ hs => ?_)
        refine sP (Value.bool false) hs fun _ hs => ?_
        refine sP (Value.pointer (some ⟨b3, 2, none⟩)) hs fun _ hs => ?_
        refine sY (Value.bool a1.Fails) hs (Yl.loadB (vs := [(Value.bool a1.Fails)]) false 2 rfl rfl rfl (by kernel_rfl) rfl) fun _ hs => ?_
        refine sP (Value.bool a1.Fails) hs fun _ hs => ?_
        refine bsplit a1.Fails Iff.rfl (fun hb hc => ?_) (fun hb hc => ?_)
        · have hs := hs.bt hb
          have hS := hS.1 hc
          refine sYe hs (sP (Value.pointer (some ⟨b4, 2, none⟩)) hs fun _ hs => ?_)
          refine sYe hs (sY (Value.bool b2.Fails) hs (Yl.loadB (vs := [(Value.bool b2.Fails)]) false 1 rfl rfl rfl (by kernel_rfl) rfl) fun _ hs => ?_)
          refine sP (Value.bool b2.Fails) hs fun _ hs => ?_
          refine sP (X_api_Facts.mk true false b2.Fails).val hs fun _ hs => ?_
          refine stepStoreB 0 (vs := [(Value.bool true), (Value.bool false), (Value.bool b2.Fails)]) hs rfl rfl rfl rfl rfl rfl (by kernel_rfl) (Nat.le_of_ble_eq_true rfl) rfl (fun _ _ hs => ?_)
          replace hs := hs.chbx (bs' := [⟨b5, 46, [(Value.bool true), (Value.bool false), (Value.bool b2.Fails)]⟩, ⟨b4, 46, [(Value.bool b2.Empty), (Value.bool b2.Eats), (Value.bool b2.Fails)]⟩, ⟨b3, 46, [(Value.bool a1.Empty), (Value.bool a1.Eats), (Value.bool a1.Fails)]⟩]) rfl
          exact wpList_nil (Wp.ret (leaveE (K := fun v _ => K v) hs (resC (vs := [(Value.bool true), (Value.bool false), (Value.bool b2.Fails)]) true 0 hs rfl rfl rfl (by kernel_rfl) rfl) hMM.2 (fun _ _ => hS)))
        · have hs := hs.bf hb
          have hS := hS.2 hc
          refine sNo hs fun _ hs => ?_
          refine sNo hs fun _ hs => ?_
          refine sP (Value.bool false) hs fun _ hs => ?_
          refine sP (X_api_Facts.mk true false false).val hs fun _ hs => ?_
          refine stepStoreB 0 (vs := [(Value.bool true), (Value.bool false), (Value.bool false)]) hs rfl rfl rfl rfl rfl rfl (by kernel_rfl) (Nat.le_of_ble_eq_true rfl) rfl (fun _ _ hs => ?_)
          replace hs := hs.chbx (bs' := [⟨b5, 46, [(Value.bool true), (Value.bool false), (Value.bool false)]⟩, ⟨b4, 46, [(Value.bool b2.Empty), (Value.bool b2.Eats), (Value.bool b2.Fails)]⟩, ⟨b3, 46, [(Value.bool a1.Empty), (Value.bool a1.Eats), (Value.bool a1.Fails)]⟩]) rfl
          exact wpList_nil (Wp.ret (leaveE (K := fun v _ => K v) hs (resC (vs := [(Value.bool true), (Value.bool false), (Value.bool false)]) true 0 hs rfl rfl rfl (by kernel_rfl) rfl) hMM.2 (fun _ _ => hS)))
  · have hs := hs.bf hb
    have hS := hS.2 hc
    refine sYe hs (sP (Value.pointer (some ⟨b3, 2, none⟩)) hs fun _ hs => ?_)
    refine sYe hs (sY (Value.bool a1.Fails) hs (Yl.loadB (vs := [(Value.bool a1.Fails)]) false 2 rfl rfl rfl (by kernel_rfl) rfl) fun _ hs => ?_)
    refine sYe hs (sP (Value.bool a1.Fails) hs fun _ hs => ?_)
    refine bsplit a1.Fails Iff.rfl (fun hb hc => ?_) (fun hb hc => ?_)
    · have hs := hs.bt hb
      have hS := hS.1 hc
      refine sYe hs (sP (Value.pointer (some ⟨b4, 0, none⟩)) hs fun _ hs => ?_)
      refine sYe hs (sY (Value.bool b2.Empty) hs (Yl.loadB (vs := [(Value.bool b2.Empty)]) false 1 rfl rfl rfl (by kernel_rfl) rfl) fun _ hs => ?_)
      refine sYe hs (sP (Value.bool b2.Empty) hs fun _ hs => ?_)
      refine sP (Value.bool b2.Empty) hs fun _ hs => ?_
      refine sP (Value.pointer (some ⟨b3, 1, none⟩)) hs fun _ hs => ?_
      refine sY (Value.bool a1.Eats) hs (Yl.loadB (vs := [(Value.bool a1.Eats)]) false 2 rfl rfl rfl (by kernel_rfl) rfl) fun _ hs => ?_
      refine sP (Value.bool a1.Eats) hs fun _ hs => ?_
      refine bsplit a1.Eats Iff.rfl (fun hb hc => ?_) (fun hb hc => ?_)
      · have hs := hs.bt hb
        have hS := hS.1 hc
        refine sNo hs fun _ hs => ?_
        refine sNo hs fun _ hs => ?_
        refine sNo hs fun _ hs => ?_
        refine sNu hs fun _ hs => ?_
        refine sNu hs fun _ hs => ?_
        refine sNo hs fun _ hs => ?_
        refine sP (Value.bool true) hs fun _ hs => ?_
        refine sP (Value.pointer (some ⟨b3, 2, none⟩)) hs fun _ hs => ?_
        refine sY (Value.bool a1.Fails) hs (Yl.loadB (vs := [(Value.bool a1.Fails)]) false 2 rfl rfl rfl (by kernel_rfl) rfl) fun _ hs => ?_
        refine sP (Value.bool a1.Fails) hs fun _ hs => ?_
        refine bsplit a1.Fails Iff.rfl (fun hb hc => ?_) (fun hb hc => ?_)
        · have hs := hs.bt hb
          have hS := hS.1 hc
          refine sYe hs (sP (Value.pointer (some ⟨b4, 2, none⟩)) hs fun _ hs => ?_)
          refine sYe hs (sY (Value.bool b2.Fails) hs (Yl.loadB (vs := [(Value.bool b2.Fails)]) false 1 rfl rfl rfl (by kernel_rfl) rfl) fun _ hs => ?_)
          refine sP (Value.bool b2.Fails) hs fun _ hs => ?_
          refine sP (X_api_Facts.mk b2.Empty true b2.Fails).val hs fun _ hs => ?_
          refine stepStoreB 0 (vs := [(Value.bool b2.Empty), (Value.bool true), (Value.bool b2.Fails)]) hs rfl rfl rfl rfl rfl rfl (by kernel_rfl) (Nat.le_of_ble_eq_true rfl) rfl (fun _ _ hs => ?_)
          replace hs := hs.chbx (bs' := [⟨b5, 46, [(Value.bool b2.Empty), (Value.bool true), (Value.bool b2.Fails)]⟩, ⟨b4, 46, [(Value.bool b2.Empty), (Value.bool b2.Eats), (Value.bool b2.Fails)]⟩, ⟨b3, 46, [(Value.bool a1.Empty), (Value.bool a1.Eats), (Value.bool a1.Fails)]⟩]) rfl
          exact wpList_nil (Wp.ret (leaveE (K := fun v _ => K v) hs (resC (vs := [(Value.bool b2.Empty), (Value.bool true), (Value.bool b2.Fails)]) true 0 hs rfl rfl rfl (by kernel_rfl) rfl) hMM.2 (fun _ _ => hS)))
        · have hs := hs.bf hb
          have hS := hS.2 hc
          refine sNo hs fun _ hs => ?_
          refine sNo hs fun _ hs => ?_
          refine sP (Value.bool false) hs fun _ hs => ?_
          refine sP (X_api_Facts.mk b2.Empty true false).val hs fun _ hs => ?_
          refine stepStoreB 0 (vs := [(Value.bool b2.Empty), (Value.bool true), (Value.bool false)]) hs rfl rfl rfl rfl rfl rfl (by kernel_rfl) (Nat.le_of_ble_eq_true rfl) rfl (fun _ _ hs => ?_)
          replace hs := hs.chbx (bs' := [⟨b5, 46, [(Value.bool b2.Empty), (Value.bool true), (Value.bool false)]⟩, ⟨b4, 46, [(Value.bool b2.Empty), (Value.bool b2.Eats), (Value.bool b2.Fails)]⟩, ⟨b3, 46, [(Value.bool a1.Empty), (Value.bool a1.Eats), (Value.bool a1.Fails)]⟩]) rfl
          exact wpList_nil (Wp.ret (leaveE (K := fun v _ => K v) hs (resC (vs := [(Value.bool b2.Empty), (Value.bool true), (Value.bool false)]) true 0 hs rfl rfl rfl (by kernel_rfl) rfl) hMM.2 (fun _ _ => hS)))
      · have hs := hs.bf hb
        have hS := hS.2 hc
        refine sYe hs (sP (Value.pointer (some ⟨b3, 2, none⟩)) hs fun _ hs => ?_)
        refine sYe hs (sY (Value.bool a1.Fails) hs (Yl.loadB (vs := [(Value.bool a1.Fails)]) false 2 rfl rfl rfl (by kernel_rfl) rfl) fun _ hs => ?_)
        refine sYe hs (sP (Value.bool a1.Fails) hs fun _ hs => ?_)
        refine bsplit a1.Fails Iff.rfl (fun hb hc => ?_) (fun hb hc => ?_)
        · have hs := hs.bt hb
          have hS := hS.1 hc
          refine sYe hs (sP (Value.pointer (some ⟨b4, 1, none⟩)) hs fun _ hs => ?_)
          refine sYe hs (sY (Value.bool b2.Eats) hs (Yl.loadB (vs := [(Value.bool b2.Eats)]) false 1 rfl rfl rfl (by kernel_rfl) rfl) fun _ hs => ?_)
          refine sYe hs (sP (Value.bool b2.Eats) hs fun _ hs => ?_)
          refine sP (Value.bool b2.Eats) hs fun _ hs => ?_
          refine sP (Value.pointer (some ⟨b3, 2, none⟩)) hs fun _ hs => ?_
          refine sY (Value.bool a1.Fails) hs (Yl.loadB (vs := [(Value.bool a1.Fails)]) false 2 rfl rfl rfl (by kernel_rfl) rfl) fun _ hs => ?_
          refine sP (Value.bool a1.Fails) hs fun _ hs => ?_
          refine bsplit a1.Fails Iff.rfl (fun hb hc => ?_) (fun hb hc => ?_)
          · have hs := hs.bt hb
            have hS := hS.1 hc
            refine sYe hs (sP (Value.pointer (some ⟨b4, 2, none⟩)) hs fun _ hs => ?_)
            refine sYe hs (sY (Value.bool b2.Fails) hs (Yl.loadB (vs := [(Value.bool b2.Fails)]) false 1 rfl rfl rfl (by kernel_rfl) rfl) fun _ hs => ?_)
            refine sP (Value.bool b2.Fails) hs fun _ hs => ?_
            refine sP b2.val hs fun _ hs => ?_
            refine stepStoreB 0 (vs := [(Value.bool b2.Empty), (Value.bool b2.Eats), (Value.bool b2.Fails)]) hs rfl rfl rfl rfl rfl rfl (by kernel_rfl) (Nat.le_of_ble_eq_true rfl) rfl (fun _ _ hs => ?_)
            replace hs := hs.chbx (bs' := [⟨b5, 46, [(Value.bool b2.Empty), (Value.bool b2.Eats), (Value.bool b2.Fails)]⟩, ⟨b4, 46, [(Value.bool b2.Empty), (Value.bool b2.Eats), (Value.bool b2.Fails)]⟩, ⟨b3, 46, [(Value.bool a1.Empty), (Value.bool a1.Eats), (Value.bool a1.Fails)]⟩]) rfl
            exact wpList_nil (Wp.ret (leaveE (K := fun v _ => K v) hs (resC (vs := [(Value.bool b2.Empty), (Value.bool b2.Eats), (Value.bool b2.Fails)]) true 0 hs rfl rfl rfl (by kernel_rfl) rfl) hMM.2 (fun _ _ => hS)))
          · have hs := hs.bf hb
            have hS := hS.2 hc
            refine sNo hs fun _ hs => ?_
            refine sNo hs fun _ hs => ?_
            refine sP (Value.bool false) hs fun _ hs => ?_
            refine sP (X_api_Facts.mk b2.Empty b2.Eats false).val hs fun _ hs => ?_
            refine stepStoreB 0 (vs := [(Value.bool b2.Empty), (Value.bool b2.Eats), (Value.bool false)]) hs rfl rfl rfl rfl rfl rfl (by kernel_rfl) (Nat.le_of_ble_eq_true rfl) rfl (fun _ _ hs => ?_)
            replace hs := hs.chbx (bs' := [⟨b5, 46, [(Value.bool b2.Empty), (Value.bool b2.Eats), (Value.bool false)]⟩, ⟨b4, 46, [(Value.bool b2.Empty), (Value.bool b2.Eats), (Value.bool b2.Fails)]⟩, ⟨b3, 46, [(Value.bool a1.Empty), (Value.bool a1.Eats), (Value.bool a1.Fails)]⟩]) rfl
            exact wpList_nil (Wp.ret (leaveE (K := fun v _ => K v) hs (resC (vs := [(Value.bool b2.Empty), (Value.bool b2.Eats), (Value.bool false)]) true 0 hs rfl rfl rfl (by kernel_rfl) rfl) hMM.2 (fun _ _ => hS)))
        · have hs := hs.bf hb
          have hS := hS.2 hc
          refine sNo hs fun _ hs => ?_
          refine sNo hs fun _ hs => ?_
          refine sYe hs (sP (Value.bool false) hs fun _ hs => ?_)
          refine sP (Value.bool false) hs fun _ hs => ?_
          refine sP (Value.pointer (some ⟨b3, 2, none⟩)) hs fun _ hs => ?_
          refine sY (Value.bool a1.Fails) hs (Yl.loadB (vs := [(Value.bool a1.Fails)]) false 2 rfl rfl rfl (by kernel_rfl) rfl) fun _ hs => ?_
          refine sP (Value.bool a1.Fails) hs fun _ hs => ?_
          refine bsplit a1.Fails Iff.rfl (fun hb hc => ?_) (fun hb hc => ?_)
          · have hs := hs.bt hb
            have hS := hS.1 hc
            refine sYe hs (sP (Value.pointer (some ⟨b4, 2, none⟩)) hs fun _ hs => ?_)
            refine sYe hs (sY (Value.bool b2.Fails) hs (Yl.loadB (vs := [(Value.bool b2.Fails)]) false 1 rfl rfl rfl (by kernel_rfl) rfl) fun _ hs => ?_)
            refine sP (Value.bool b2.Fails) hs fun _ hs => ?_
            refine sP (X_api_Facts.mk b2.Empty false b2.Fails).val hs fun _ hs => ?_
            refine stepStoreB 0 (vs := [(Value.bool b2.Empty), (Value.bool false), (Value.bool b2.Fails)]) hs rfl rfl rfl rfl rfl rfl (by kernel_rfl) (Nat.le_of_ble_eq_true rfl) rfl (fun _ _ hs => ?_)
            replace hs := hs.chbx (bs' := [⟨b5, 46, [(Value.bool b2.Empty), (Value.bool false), (Value.bool b2.Fails)]⟩, ⟨b4, 46, [(Value.bool b2.Empty), (Value.bool b2.Eats), (Value.bool b2.Fails)]⟩, ⟨b3, 46, [(Value.bool a1.Empty), (Value.bool a1.Eats), (Value.bool a1.Fails)]⟩]) rfl
            exact wpList_nil (Wp.ret (leaveE (K := fun v _ => K v) hs (resC (vs := [(Value.bool b2.Empty), (Value.bool false), (Value.bool b2.Fails)]) true 0 hs rfl rfl rfl (by kernel_rfl) rfl) hMM.2 (fun _ _ => hS)))
          · have hs := hs.bf hb
            have hS := hS.2 hc
            refine sNo hs fun _ hs => ?_
            refine sNo hs fun _ hs => ?_
            refine sP (Value.bool false) hs fun _ hs => ?_
            refine sP (X_api_Facts.mk b2.Empty false false).val hs fun _ hs => ?_
            refine stepStoreB 0 (vs := [(Value.bool b2.Empty), (Value.bool false), (Value.bool false)]) hs rfl rfl rfl rfl rfl rfl (by kernel_rfl) (Nat.le_of_ble_eq_true rfl) rfl (fun _ _ hs => ?_)
            replace hs := hs.chbx (bs' := [⟨b5, 46, [(Value.bool b2.Empty), (Value.bool false), (Value.bool false)]⟩, ⟨b4, 46, [(Value.bool b2.Empty), (Value.bool b2.Eats), (Value.bool b2.Fails)]⟩, ⟨b3, 46, [(Value.bool a1.Empty), (Value.bool a1.Eats), (Value.bool a1.Fails)]⟩]) rfl
            exact wpList_nil (Wp.ret (leaveE (K := fun v _ => K v) hs (resC (vs := [(Value.bool b2.Empty), (Value.bool false), (Value.bool false)]) true 0 hs rfl rfl rfl (by kernel_rfl) rfl) hMM.2 (fun _ _ => hS)))
    · have hs := hs.bf hb
      have hS := hS.2 hc
      refine sNo hs fun _ hs => ?_
      refine sNo hs fun _ hs => ?_
      refine sYe hs (sP (Value.bool false) hs fun _ hs => ?_)
      refine sP (Value.bool false) hs fun _ hs => ?_
      refine sP (Value.pointer (some ⟨b3, 1, none⟩)) hs fun _ hs => ?_
      refine sY (Value.bool a1.Eats) hs (Yl.loadB (vs := [(Value.bool a1.Eats)]) false 2 rfl rfl rfl (by kernel_rfl) rfl) fun _ hs => ?_
      refine sP (Value.bool a1.Eats) hs fun _ hs => ?_
      refine bsplit a1.Eats Iff.rfl (fun hb hc => ?_) (fun hb hc => ?_)
      · have hs := hs.bt hb
        have hS := hS.1 hc
        refine sNo hs fun _ hs => ?_
        refine sNo hs fun _ hs => ?_
        refine sNo hs fun _ hs => ?_
        refine sNu hs fun _ hs => ?_
        refine sNu hs fun _ hs => ?_
        refine sNo hs fun _ hs => ?_
        refine sP (Value.bool true) hs fun _ hs => ?_
        refine sP (Value.pointer (some ⟨b3, 2, none⟩)) hs fun _ hs => ?_
        refine sY (Value.bool a1.Fails) hs (Yl.loadB (vs := [(Value.bool a1.Fails)]) false 2 rfl rfl rfl (by kernel_rfl) rfl) fun _ hs => ?_
        refine sP (Value.bool a1.Fails) hs fun _ hs => ?_
        refine bsplit a1.Fails Iff.rfl (fun hb hc => ?_) (fun hb hc => ?_)
        · have hs := hs.bt hb
          have hS := hS.1 hc
          refine sYe hs (sP (Value.pointer (some ⟨b4, 2, none⟩)) hs fun _ hs => ?_)
          refine sYe hs (sY (Value.bool b2.Fails) hs (Yl.loadB (vs := [(Value.bool b2.Fails)]) false 1 rfl rfl rfl (by kernel_rfl) rfl) fun _ hs => ?_)
          refine sP (Value.bool b2.Fails) hs fun _ hs => ?_
          refine sP (X_api_Facts.mk false true b2.Fails).val hs fun _ hs => ?_
          refine stepStoreB 0 (vs := [(Value.bool false), (Value.bool true), (Value.bool b2.Fails)]) hs rfl rfl rfl rfl rfl rfl (by kernel_rfl) (Nat.le_of_ble_eq_true rfl) rfl (fun _ _ hs => ?_)
          replace hs := hs.chbx (bs' := [⟨b5, 46, [(Value.bool false), (Value.bool true), (Value.bool b2.Fails)]⟩, ⟨b4, 46, [(Value.bool b2.Empty), (Value.bool b2.Eats), (Value.bool b2.Fails)]⟩, ⟨b3, 46, [(Value.bool a1.Empty), (Value.bool a1.Eats), (Value.bool a1.Fails)]⟩]) rfl
          exact wpList_nil (Wp.ret (leaveE (K := fun v _ => K v) hs (resC (vs := [(Value.bool false), (Value.bool true), (Value.bool b2.Fails)]) true 0 hs rfl rfl rfl (by kernel_rfl) rfl) hMM.2 (fun _ _ => hS)))
        · have hs := hs.bf hb
          have hS := hS.2 hc
          refine sNo hs fun _ hs => ?_
          refine sNo hs fun _ hs => ?_
          refine sP (Value.bool false) hs fun _ hs => ?_
          refine sP (X_api_Facts.mk false true false).val hs fun _ hs => ?_
          refine stepStoreB 0 (vs := [(Value.bool false), (Value.bool true), (Value.bool false)]) hs rfl rfl rfl rfl rfl rfl (by kernel_rfl) (Nat.le_of_ble_eq_true rfl) rfl (fun _ _ hs => ?_)
          replace hs := hs.chbx (bs' := [⟨b5, 46, [(Value.bool false), (Value.bool true), (Value.bool false)]⟩, ⟨b4, 46, [(Value.bool b2.Empty), (Value.bool b2.Eats), (Value.bool b2.Fails)]⟩, ⟨b3, 46, [(Value.bool a1.Empty), (Value.bool a1.Eats), (Value.bool a1.Fails)]⟩]) rfl
          exact wpList_nil (Wp.ret (leaveE (K := fun v _ => K v) hs (resC (vs := [(Value.bool false), (Value.bool true), (Value.bool false)]) true 0 hs rfl rfl rfl (by kernel_rfl) rfl) hMM.2 (fun _ _ => hS)))
      · have hs := hs.bf hb
        have hS := hS.2 hc
        refine sYe hs (sP (Value.pointer (some ⟨b3, 2, none⟩)) hs fun _ hs => ?_)
        refine sYe hs (sY (Value.bool a1.Fails) hs (Yl.loadB (vs := [(Value.bool a1.Fails)]) false 2 rfl rfl rfl (by kernel_rfl) rfl) fun _ hs => ?_)
        refine sYe hs (sP (Value.bool a1.Fails) hs fun _ hs => ?_)
        refine bsplit a1.Fails Iff.rfl (fun hb hc => ?_) (fun hb hc => ?_)
        · have hs := hs.bt hb
          have hS := hS.1 hc
          refine sYe hs (sP (Value.pointer (some ⟨b4, 1, none⟩)) hs fun _ hs => ?_)
          refine sYe hs (sY (Value.bool b2.Eats) hs (Yl.loadB (vs := [(Value.bool b2.Eats)]) false 1 rfl rfl rfl (by kernel_rfl) rfl) fun _ hs => ?_)
          refine sYe hs (sP (Value.bool b2.Eats) hs fun _ hs => ?_)
          refine sP (Value.bool b2.Eats) hs fun _ hs => ?_
          refine sP (Value.pointer (some ⟨b3, 2, none⟩)) hs fun _ hs => ?_
          refine sY (Value.bool a1.Fails) hs (Yl.loadB (vs := [(Value.bool a1.Fails)]) false 2 rfl rfl rfl (by kernel_rfl) rfl) fun _ hs => ?_
          refine sP (Value.bool a1.Fails) hs fun _ hs => ?_
          refine bsplit a1.Fails Iff.rfl (fun hb hc => ?_) (fun hb hc => ?_)
          · have hs := hs.bt hb
            have hS := hS.1 hc
            refine sYe hs (sP (Value.pointer (some ⟨b4, 2, none⟩)) hs fun _ hs => ?_)
            refine sYe hs (sY (Value.bool b2.Fails) hs (Yl.loadB (vs := [(Value.bool b2.Fails)]) false 1 rfl rfl rfl (by kernel_rfl) rfl) fun _ hs => ?_)
            refine sP (Value.bool b2.Fails) hs fun _ hs => ?_
            refine sP (X_api_Facts.mk false b2.Eats b2.Fails).val hs fun _ hs => ?_
            refine stepStoreB 0 (vs := [(Value.bool false), (Value.bool b2.Eats), (Value.bool b2.Fails)]) hs rfl rfl rfl rfl rfl rfl (by kernel_rfl) (Nat.le_of_ble_eq_true rfl) rfl (fun _ _ hs => ?_)
            replace hs := hs.chbx (bs' := [⟨b5, 46, [(Value.bool false), (Value.bool b2.Eats), (Value.bool b2.Fails)]⟩, ⟨b4, 46, [(Value.bool b2.Empty), (Value.bool b2.Eats), (Value.bool b2.Fails)]⟩, ⟨b3, 46, [(Value.bool a1.Empty), (Value.bool a1.Eats), (Value.bool a1.Fails)]⟩]) rfl
            exact wpList_nil (Wp.ret (leaveE (K := fun v _ => K v) hs (resC (vs := [(Value.bool false), (Value.bool b2.Eats), (Value.bool b2.Fails)]) true 0 hs rfl rfl rfl (by kernel_rfl) rfl) hMM.2 (fun _ _ => hS)))
          · have hs := hs.bf hb
            have hS := hS.2 hc
            refine sNo hs fun _ hs => ?_
            refine sNo hs fun _ hs => ?_
            refine sP (Value.bool false) hs fun _ hs => ?_
            refine sP (X_api_Facts.mk false b2.Eats false).val hs fun _ hs => ?_
            refine stepStoreB 0 (vs := [(Value.bool false), (Value.bool b2.Eats), (Value.bool false)]) hs rfl rfl rfl rfl rfl rfl (by kernel_rfl) (Nat.le_of_ble_eq_true rfl) rfl (fun _ _ hs => ?_)
            replace hs := hs.chbx (bs' := [⟨b5, 46, [(Value.bool false), (Value.bool b2.Eats), (Value.bool false)]⟩, ⟨b4, 46, [(Value.bool b2.Empty), (Value.bool b2.Eats), (Value.bool b2.Fails)]⟩, ⟨b3, 46, [(Value.bool a1.Empty), (Value.bool a1.Eats), (Value.bool a1.Fails)]⟩]) rfl
            exact wpList_nil (Wp.ret (leaveE (K := fun v _ => K v) hs (resC (vs := [(Value.bool false), (Value.bool b2.Eats), (Value.bool false)]) true 0 hs rfl rfl rfl (by kernel_rfl) rfl) hMM.2 (fun _ _ => hS)))
        · have hs := hs.bf hb
          have hS := hS.2 hc
          refine sNo hs fun _ hs => ?_
          refine sNo hs fun _ hs => ?_
          refine sYe hs (sP (Value.bool false) hs fun _ hs => ?_)
          refine sP (Value.bool false) hs fun _ hs => ?_
          refine sP (Value.pointer (some ⟨b3, 2, none⟩)) hs fun _ hs => ?_
          refine sY (Value.bool a1.Fails) hs (Yl.loadB (vs := [(Value.bool a1.Fails)]) false 2 rfl rfl rfl (by kernel_rfl) rfl) fun _ hs => ?_
          refine sP (Value.bool a1.Fails) hs fun _ hs => ?_
          refine bsplit a1.Fails Iff.rfl (fun hb hc => ?_) (fun hb hc => ?_)
          · have hs := hs.bt hb
            have hS := hS.1 hc
            refine sYe hs (sP (Value.pointer (some ⟨b4, 2, none⟩)) hs fun _ hs => ?_)
            refine sYe hs (sY (Value.bool b2.Fails) hs (Yl.loadB (vs := [(Value.bool b2.Fails)]) false 1 rfl rfl rfl (by kernel_rfl) rfl) fun _ hs => ?_)
            refine sP (Value.bool b2.Fails) hs fun _ hs => ?_
            refine sP (X_api_Facts.mk false false b2.Fails).val hs fun _ hs => ?_
            refine stepStoreB 0 (vs := [(Value.bool false), (Value.bool false), (Value.bool b2.Fails)]) hs rfl rfl rfl rfl rfl rfl (by kernel_rfl) (Nat.le_of_ble_eq_true rfl) rfl (fun _ _ hs => ?_)
            replace hs := hs.chbx (bs' := [⟨b5, 46, [(Value.bool false), (Value.bool false), (Value.bool b2.Fails)]⟩, ⟨b4, 46, [(Value.bool b2.Empty), (Value.bool b2.Eats), (Value.bool b2.Fails)]⟩, ⟨b3, 46, [(Value.bool a1.Empty), (Value.bool a1.Eats), (Value.bool a1.Fails)]⟩]) rfl
            exact wpList_nil (Wp.ret (leaveE (K := fun v _ => K v) hs (resC (vs := [(Value.bool false), (Value.bool false), (Value.bool b2.Fails)]) true 0 hs rfl rfl rfl (by kernel_rfl) rfl) hMM.2 (fun _ _ => hS)))
          · have hs := hs.bf hb
            have hS := hS.2 hc
            refine sNo hs fun _ hs => ?_
            refine sNo hs fun _ hs => ?_
            refine sP (Value.bool false) hs fun _ hs => ?_
            refine sP (X_api_Facts.mk false false false).val hs fun _ hs => ?_
            refine stepStoreB 0 (vs := [(Value.bool false), (Value.bool false), (Value.bool false)]) hs rfl rfl rfl rfl rfl rfl (by kernel_rfl) (Nat.le_of_ble_eq_true rfl) rfl (fun _ _ hs => ?_)
            replace hs := hs.chbx (bs' := [⟨b5, 46, [(Value.bool false), (Value.bool false), (Value.bool false)]⟩, ⟨b4, 46, [(Value.bool b2.Empty), (Value.bool b2.Eats), (Value.bool b2.Fails)]⟩, ⟨b3, 46, [(Value.bool a1.Empty), (Value.bool a1.Eats), (Value.bool a1.Fails)]⟩]) rfl
            exact wpList_nil (Wp.ret (leaveE (K := fun v _ => K v) hs (resC (vs := [(Value.bool false), (Value.bool false), (Value.bool false)]) true 0 hs rfl rfl rfl (by kernel_rfl) rfl) hMM.2 (fun _ _ => hS)))
set_option linter.unusedVariables false in
def S_well_star (f1 : X_api_Facts) (M : Mem) (K : Value → Prop) : Prop :=
  K (X_api_Facts.mk f1.Fails f1.Eats false).val
set_option linter.unusedVariables false in
set_option maxRecDepth 100000 in
theorem s_well_star (f1 : X_api_Facts) (M : Mem) (K : Value → Prop) (hS : S_well_star f1 M K) : CallE Try.prog 127 #[f1.val] M (fun v _ => K v) := by
  refine enterE Try.func127 rfl 8 rfl (Nat.le_of_ble_eq_true rfl) (fun E a hs => ?_)
  unfold S_well_star at hS
  have hMM := MX.refl M E
  change Sx 8 E [] M E a [(0, f1.val)] [] [] at hs
  refine Wp.seq (Wp.region (stepBox [(Value.bool f1.Empty), (Value.bool f1.Eats), (Value.bool f1.Fails)] hs rfl rfl rfl (by decide) (fun _ _ b2 hEb2 hs => ?_)))
  refine stepAlloc [(Value.bool false), (Value.bool false), (Value.bool false)] hs (by kernel_rfl) (by decide) (fun _ _ b3 hEb3 hs => ?_)
  refine wpList_nil (Wp.seq (Wp.region (sP (Value.pointer (some ⟨b2, 1, none⟩)) hs fun _ hs => ?_)))
  refine sY (Value.bool f1.Eats) hs (Yl.loadB (vs := [(Value.bool f1.Eats)]) false 1 rfl rfl rfl (by kernel_rfl) rfl) fun _ hs => ?_
  refine sP (Value.pointer (some ⟨b2, 2, none⟩)) hs fun _ hs => ?_
  refine sY (Value.bool f1.Fails) hs (Yl.loadB (vs := [(Value.bool f1.Fails)]) false 1 rfl rfl rfl (by kernel_rfl) rfl) fun _ hs => ?_
  refine sP (X_api_Facts.mk f1.Fails f1.Eats false).val hs fun _ hs => ?_
  refine stepStoreB 0 (vs := [(Value.bool f1.Fails), (Value.bool f1.Eats), (Value.bool false)]) hs rfl rfl rfl rfl rfl rfl (by kernel_rfl) (Nat.le_of_ble_eq_true rfl) rfl (fun _ _ hs => ?_)
  replace hs := hs.chbx (bs' := [⟨b3, 46, [(Value.bool f1.Fails), (Value.bool f1.Eats), (Value.bool false)]⟩, ⟨b2, 46, [(Value.bool f1.Empty), (Value.bool f1.Eats), (Value.bool f1.Fails)]⟩]) rfl
  exact wpList_nil (Wp.ret (leaveE (K := fun v _ => K v) hs (resC (vs := [(Value.bool f1.Fails), (Value.bool f1.Eats), (Value.bool false)]) true 0 hs rfl rfl rfl (by kernel_rfl) rfl) hMM.2 (fun _ _ => hS)))
set_option linter.unusedVariables false in
def S_well_of_J1 (b10 : Nat) (M91 : Mem) (x92 : X_api_Facts) (some94 : Bool) (K : Value → Prop) : Prop :=
  (∃ (x95 : Int), At M91 b10 0 [(Value.int .i64 x95)] ∧ (((x95 : Int) = 10 → K (X_api_Facts.mk some94 false x92.Fails).val) ∧ (¬ ((x95 : Int) = 10) → K (X_api_Facts.mk x92.Fails false some94).val)))
set_option linter.unusedVariables false in
def S_well_of (ga1 : Option Addr) (gl2 : Nat) (gc3 : Nat) (rulesa4 : Option Addr) (rulesl5 : Nat) (rulesc6 : Nat) (e7 : X_api_Expr) (M : Mem) (K : Value → Prop) : Prop :=
  (((e7.Kind : Int) = 1 → K (X_api_Facts.mk true false false).val) ∧ (¬ ((e7.Kind : Int) = 1) → (((e7.Kind : Int) = 2 → K (X_api_Facts.mk false (!(cellsEq [e7.Set.w0, e7.Set.w1, e7.Set.w2, e7.Set.w3] [0, 0, 0, 0])) true).val) ∧ (¬ ((e7.Kind : Int) = 2) → (((e7.Kind : Int) = 3 → K (X_api_Facts.mk false true true).val) ∧ (¬ ((e7.Kind : Int) = 3) → (((e7.Kind : Int) = 4 → (CallE Try.prog 53 #[(Value.agg #[(Value.slice ga1 gl2 gc3)]), (Value.string (mkS e7.Text))] M (fun v _ => ∃ (x12 : Int), v = (Value.int .i64 x12) ∧ (∃ (b13 o14 : Nat), rulesa4 = some ⟨b13, o14, none⟩ ∧ (0 : Int) ≤ x12 ∧ x12 < ((rulesl5 : Nat) : Int) ∧ (∃ (x15 : X_api_Facts), At M b13 (o14 + x12.toNat * 3) x15.cells ∧ K x15.val))))) ∧ (¬ ((e7.Kind : Int) = 4) → (((e7.Kind : Int) = 5 → (∀ (M16 : Mem) (b8 : Nat), M.le M16 → At M16 b8 0 [(Value.slice ga1 gl2 gc3)] → (∀ (M17 : Mem) (b9 : Nat), M16.le M17 → At M17 b9 0 [(Value.slice rulesa4 rulesl5 rulesc6)] → (∀ (M18 : Mem) (b10 : Nat), M17.le M18 → At M18 b10 0 [(Value.int .i64 e7.Kind), (Value.int .u64 e7.Set.w0), (Value.int .u64 e7.Set.w1), (Value.int .u64 e7.Set.w2), (Value.int .u64 e7.Set.w3), (Value.string (mkS e7.Text)), (Value.slice e7.Kids_a e7.Kids_l e7.Kids_c)] → (CallE Try.prog 124 #[(Value.int .i64 0), (Value.pointer (some ⟨b8, 0, none⟩)), (Value.pointer (some ⟨b9, 0, none⟩)), (Value.pointer (some ⟨b10, 0, none⟩))] M18 (fun v _ => ∃ (x19 : X_api_Facts), v = x19.val ∧ (∃ (I40 : Int → Bool → Bool → Bool → Prop) (mu41 : Int → Bool → Bool → Bool → Nat), I40 1 x19.Empty x19.Eats x19.Fails ∧ ∀ (i36 : Int) (c37 : Bool) (c38 : Bool) (c39 : Bool), (I40 i36 c37 c38 c39 → (∃ (xa42 : Option Addr) (xl43 : Nat) (xc44 : Nat), At M18 b10 6 [(Value.slice xa42 xl43 xc44)] ∧ ((i36 < ((xl43 : Nat) : Int) → (CallE Try.prog 124 #[(Value.int .i64 i36), (Value.pointer (some ⟨b8, 0, none⟩)), (Value.pointer (some ⟨b9, 0, none⟩)), (Value.pointer (some ⟨b10, 0, none⟩))] M18 (fun v _ => ∃ (x45 : X_api_Facts), v = x45.val ∧ (CallE Try.prog 125 #[(X_api_Facts.mk c37 c38 c39).val, x45.val] M18 (fun v _ => ∃ (x46 : X_api_Facts), v = x46.val ∧ (InI (i36 + 1) ∧ I40 (i36 + 1) x46.Empty x46.Eats x46.Fails ∧ mu41 (i36 + 1) x46.Empty x46.Eats x46.Fails < mu41 i36 c37 c38 c39)))))) ∧ (¬ (i36 < ((xl43 : Nat) : Int)) → K (X_api_Facts.mk c37 c38 c39).val))))))))))) ∧ (¬ ((e7.Kind : Int) = 5) → (((e7.Kind : Int) = 6 → (InI (((e7.Kids_l : Nat) : Int) - 1) ∧ (∀ (M47 : Mem) (b8 : Nat), M.le M47 → At M47 b8 0 [(Value.slice ga1 gl2 gc3)] → (∀ (M48 : Mem) (b9 : Nat), M47.le M48 → At M48 b9 0 [(Value.slice rulesa4 rulesl5 rulesc6)] → (∀ (M49 : Mem) (b10 : Nat), M48.le M49 → At M49 b10 0 [(Value.int .i64 e7.Kind), (Value.int .u64 e7.Set.w0), (Value.int .u64 e7.Set.w1), (Value.int .u64 e7.Set.w2), (Value.int .u64 e7.Set.w3), (Value.string (mkS e7.Text)), (Value.slice e7.Kids_a e7.Kids_l e7.Kids_c)] → (CallE Try.prog 124 #[(Value.int .i64 (((e7.Kids_l : Nat) : Int) - 1)), (Value.pointer (some ⟨b8, 0, none⟩)), (Value.pointer (some ⟨b9, 0, none⟩)), (Value.pointer (some ⟨b10, 0, none⟩))] M49 (fun v _ => ∃ (x50 : X_api_Facts), v = x50.val ∧ (∃ (xa52 : Option Addr) (xl53 : Nat) (xc54 : Nat), At M49 b10 6 [(Value.slice xa52 xl53 xc54)] ∧ (InI (((xl53 : Nat) : Int) - 2) ∧ (∃ (I68 : Int → Bool → Bool → Bool → Prop) (mu69 : Int → Bool → Bool → Bool → Nat), I68 (((xl53 : Nat) : Int) - 2) x50.Empty x50.Eats x50.Fails ∧ ∀ (i_64 : Int) (c65 : Bool) (c66 : Bool) (c67 : Bool), (I68 i_64 c65 c66 c67 → ((i_64 ≥ 0 → (CallE Try.prog 124 #[(Value.int .i64 i_64), (Value.pointer (some ⟨b8, 0, none⟩)), (Value.pointer (some ⟨b9, 0, none⟩)), (Value.pointer (some ⟨b10, 0, none⟩))] M49 (fun v _ => ∃ (x70 : X_api_Facts), v = x70.val ∧ (CallE Try.prog 126 #[x70.val, (X_api_Facts.mk c65 c66 c67).val] M49 (fun v _ => ∃ (x71 : X_api_Facts), v = x71.val ∧ (InI (i_64 - 1) ∧ I68 (i_64 - 1) x71.Empty x71.Eats x71.Fails ∧ mu69 (i_64 - 1) x71.Empty x71.Eats x71.Fails < mu69 i_64 c65 c66 c67)))))) ∧ (¬ (i_64 ≥ 0) → K (X_api_Facts.mk c65 c66 c67).val))))))))))))) ∧ (¬ ((e7.Kind : Int) = 6) → (((e7.Kind : Int) = 7 → (∀ (M72 : Mem) (b8 : Nat), M.le M72 → At M72 b8 0 [(Value.slice ga1 gl2 gc3)] → (∀ (M73 : Mem) (b9 : Nat), M72.le M73 → At M73 b9 0 [(Value.slice rulesa4 rulesl5 rulesc6)] → (∀ (M74 : Mem) (b10 : Nat), M73.le M74 → At M74 b10 0 [(Value.int .i64 e7.Kind), (Value.int .u64 e7.Set.w0), (Value.int .u64 e7.Set.w1), (Value.int .u64 e7.Set.w2), (Value.int .u64 e7.Set.w3), (Value.string (mkS e7.Text)), (Value.slice e7.Kids_a e7.Kids_l e7.Kids_c)] → (CallE Try.prog 124 #[(Value.int .i64 0), (Value.pointer (some ⟨b8, 0, none⟩)), (Value.pointer (some ⟨b9, 0, none⟩)), (Value.pointer (some ⟨b10, 0, none⟩))] M74 (fun v _ => ∃ (x75 : X_api_Facts), v = x75.val ∧ (CallE Try.prog 127 #[x75.val] M74 (fun v _ => ∃ (x76 : X_api_Facts), v = x76.val ∧ K x76.val)))))))) ∧ (¬ ((e7.Kind : Int) = 7) → (((e7.Kind : Int) = 8 → (∀ (M77 : Mem) (b8 : Nat), M.le M77 → At M77 b8 0 [(Value.slice ga1 gl2 gc3)] → (∀ (M78 : Mem) (b9 : Nat), M77.le M78 → At M78 b9 0 [(Value.slice rulesa4 rulesl5 rulesc6)] → (∀ (M79 : Mem) (b10 : Nat), M78.le M79 → At M79 b10 0 [(Value.int .i64 e7.Kind), (Value.int .u64 e7.Set.w0), (Value.int .u64 e7.Set.w1), (Value.int .u64 e7.Set.w2), (Value.int .u64 e7.Set.w3), (Value.string (mkS e7.Text)), (Value.slice e7.Kids_a e7.Kids_l e7.Kids_c)] → (CallE Try.prog 124 #[(Value.int .i64 0), (Value.pointer (some ⟨b8, 0, none⟩)), (Value.pointer (some ⟨b9, 0, none⟩)), (Value.pointer (some ⟨b10, 0, none⟩))] M79 (fun v _ => ∃ (x80 : X_api_Facts), v = x80.val ∧ (CallE Try.prog 124 #[(Value.int .i64 0), (Value.pointer (some ⟨b8, 0, none⟩)), (Value.pointer (some ⟨b9, 0, none⟩)), (Value.pointer (some ⟨b10, 0, none⟩))] M79 (fun v _ => ∃ (x81 : X_api_Facts), v = x81.val ∧ (CallE Try.prog 127 #[x81.val] M79 (fun v _ => ∃ (x82 : X_api_Facts), v = x82.val ∧ (CallE Try.prog 125 #[x80.val, x82.val] M79 (fun v _ => ∃ (x83 : X_api_Facts), v = x83.val ∧ K x83.val)))))))))))) ∧ (¬ ((e7.Kind : Int) = 8) → (((e7.Kind : Int) = 9 → (∀ (M84 : Mem) (b8 : Nat), M.le M84 → At M84 b8 0 [(Value.slice ga1 gl2 gc3)] → (∀ (M85 : Mem) (b9 : Nat), M84.le M85 → At M85 b9 0 [(Value.slice rulesa4 rulesl5 rulesc6)] → (∀ (M86 : Mem) (b10 : Nat), M85.le M86 → At M86 b10 0 [(Value.int .i64 e7.Kind), (Value.int .u64 e7.Set.w0), (Value.int .u64 e7.Set.w1), (Value.int .u64 e7.Set.w2), (Value.int .u64 e7.Set.w3), (Value.string (mkS e7.Text)), (Value.slice e7.Kids_a e7.Kids_l e7.Kids_c)] → (CallE Try.prog 124 #[(Value.int .i64 0), (Value.pointer (some ⟨b8, 0, none⟩)), (Value.pointer (some ⟨b9, 0, none⟩)), (Value.pointer (some ⟨b10, 0, none⟩))] M86 (fun v _ => ∃ (x87 : X_api_Facts), v = x87.val ∧ (CallE Try.prog 126 #[x87.val, (X_api_Facts.mk true false false).val] M86 (fun v _ => ∃ (x88 : X_api_Facts), v = x88.val ∧ K x88.val)))))))) ∧ (¬ ((e7.Kind : Int) = 9) → (∀ (M89 : Mem) (b8 : Nat), M.le M89 → At M89 b8 0 [(Value.slice ga1 gl2 gc3)] → (∀ (M90 : Mem) (b9 : Nat), M89.le M90 → At M90 b9 0 [(Value.slice rulesa4 rulesl5 rulesc6)] → (∀ (M91 : Mem) (b10 : Nat), M90.le M91 → At M91 b10 0 [(Value.int .i64 e7.Kind), (Value.int .u64 e7.Set.w0), (Value.int .u64 e7.Set.w1), (Value.int .u64 e7.Set.w2), (Value.int .u64 e7.Set.w3), (Value.string (mkS e7.Text)), (Value.slice e7.Kids_a e7.Kids_l e7.Kids_c)] → (CallE Try.prog 124 #[(Value.int .i64 0), (Value.pointer (some ⟨b8, 0, none⟩)), (Value.pointer (some ⟨b9, 0, none⟩)), (Value.pointer (some ⟨b10, 0, none⟩))] M91 (fun v _ => ∃ (x92 : X_api_Facts), v = x92.val ∧ ((x92.Empty = true → (S_well_of_J1 b10 M91 x92 true K)) ∧ (¬ (x92.Empty = true) → (S_well_of_J1 b10 M91 x92 x92.Eats K))))))))))))))))))))))))))
set_option linter.unusedVariables false in
set_option maxRecDepth 100000 in
theorem s_well_of (ga1 : Option Addr) (gl2 : Nat) (gc3 : Nat) (rulesa4 : Option Addr) (rulesl5 : Nat) (rulesc6 : Nat) (e7 : X_api_Expr) (M : Mem) (K : Value → Prop) (hS : S_well_of ga1 gl2 gc3 rulesa4 rulesl5 rulesc6 e7 M K) : CallE Try.prog 105 #[(Value.agg #[(Value.slice ga1 gl2 gc3)]), (Value.slice rulesa4 rulesl5 rulesc6), e7.val] M (fun v _ => K v) := by
  refine enterE Try.func105 rfl 116 rfl (Nat.le_of_ble_eq_true rfl) (fun E a hs => ?_)
  unfold S_well_of at hS
  have hMM := MX.refl M E
  change Sx 116 E [] M E a [(0, (Value.agg #[(Value.slice ga1 gl2 gc3)])), (1, (Value.slice rulesa4 rulesl5 rulesc6)), (2, e7.val)] [] [] at hs
  refine Wp.seq (Wp.region (stepBox [(Value.slice ga1 gl2 gc3)] hs rfl rfl rfl (by decide) (fun _ _ b8 hEb8 hs => ?_)))
  refine stepBox [(Value.slice rulesa4 rulesl5 rulesc6)] hs rfl rfl rfl (by decide) (fun _ _ b9 hEb9 hs => ?_)
  refine stepBox [(Value.int .i64 e7.Kind), (Value.int .u64 e7.Set.w0), (Value.int .u64 e7.Set.w1), (Value.int .u64 e7.Set.w2), (Value.int .u64 e7.Set.w3), (Value.string (mkS e7.Text)), (Value.slice e7.Kids_a e7.Kids_l e7.Kids_c)] hs rfl rfl rfl (by decide) (fun _ _ b10 hEb10 hs => ?_)
  refine stepAlloc [(Value.bool false), (Value.bool false), (Value.bool false)] hs (by kernel_rfl) (by decide) (fun _ _ b11 hEb11 hs => ?_)
  refine wpList_nil (Wp.seq (Wp.region (sP (Value.func (.func 124) #[] #[(Value.pointer (some ⟨b8, 0, none⟩)), (Value.pointer (some ⟨b9, 0, none⟩)), (Value.pointer (some ⟨b10, 0, none⟩))]) hs fun _ hs => ?_)))
  refine sP (Value.func (.func 124) #[] #[(Value.pointer (some ⟨b8, 0, none⟩)), (Value.pointer (some ⟨b9, 0, none⟩)), (Value.pointer (some ⟨b10, 0, none⟩))]) hs fun _ hs => ?_
  refine wpList_nil (Wp.seq (Wp.seq (Wp.region (sP (Value.pointer (some ⟨b10, 0, none⟩)) hs fun _ hs => ?_))))
  refine sY (Value.int .i64 e7.Kind) hs (Yl.loadB (vs := [(Value.int .i64 e7.Kind)]) false 1 rfl rfl rfl (by kernel_rfl) rfl) fun _ hs => ?_
  refine wpList_nil (Wp.block (Wp.seq (Wp.region (sP (Value.bool ((e7.Kind : Int) == (1 : Int))) hs fun _ hs => ?_))))
  refine sP (Value.bool ((e7.Kind : Int) == (1 : Int))) hs fun _ hs => ?_
  refine wpList_nil (Wp.cond hs rfl rfl beq_iff_eq (fun hc => ?_) (fun hc => ?_))
  · have hS := hS.1 hc
    refine Wp.seq (Wp.region (sP (X_api_Facts.mk true false false).val hs fun _ hs => ?_))
    refine stepStoreB 0 (vs := [(Value.bool true), (Value.bool false), (Value.bool false)]) hs rfl rfl rfl rfl rfl rfl (by kernel_rfl) (Nat.le_of_ble_eq_true rfl) rfl (fun _ _ hs => ?_)
    replace hs := hs.chbx (bs' := [⟨b11, 46, [(Value.bool true), (Value.bool false), (Value.bool false)]⟩, ⟨b10, 96, [(Value.int .i64 e7.Kind), (Value.int .u64 e7.Set.w0), (Value.int .u64 e7.Set.w1), (Value.int .u64 e7.Set.w2), (Value.int .u64 e7.Set.w3), (Value.string (mkS e7.Text)), (Value.slice e7.Kids_a e7.Kids_l e7.Kids_c)]⟩, ⟨b9, 40, [(Value.slice rulesa4 rulesl5 rulesc6)]⟩, ⟨b8, 24, [(Value.slice ga1 gl2 gc3)]⟩]) rfl
    exact wpList_nil (Wp.ret (leaveE (K := fun v _ => K v) hs (resC (vs := [(Value.bool true), (Value.bool false), (Value.bool false)]) true 0 hs rfl rfl rfl (by kernel_rfl) rfl) hMM.2 (fun _ _ => hS)))
  · have hS := hS.2 hc
    refine Wp.seq (Wp.region (sP (Value.bool ((e7.Kind : Int) == (2 : Int))) hs fun _ hs => ?_))
    refine sP (Value.bool ((e7.Kind : Int) == (2 : Int))) hs fun _ hs => ?_
    refine wpList_nil (Wp.cond hs rfl rfl beq_iff_eq (fun hc => ?_) (fun hc => ?_))
    · have hS := hS.1 hc
      refine Wp.seq (Wp.region (sP (Value.pointer (some ⟨b10, 1, none⟩)) hs fun _ hs => ?_))
      refine sY e7.Set.val hs (Yl.loadB (vs := e7.Set.cells) true 1 rfl rfl rfl (by kernel_rfl) rfl) fun _ hs => ?_
      refine sP (X_api_Set.mk 0 0 0 0).val hs fun _ hs => ?_
      refine sY (Value.bool (!(cellsEq [e7.Set.w0, e7.Set.w1, e7.Set.w2, e7.Set.w3] [0, 0, 0, 0]))) hs (Yl.neqA (n := 4) (e := 53) (k := .u64) (xs := [e7.Set.w0, e7.Set.w1, e7.Set.w2, e7.Set.w3]) (ys := [0, 0, 0, 0]) rfl (by kernel_rfl) (by kernel_rfl) (by kernel_rfl) (by kernel_rfl) rfl rfl rfl rfl rfl rfl) fun _ hs => ?_
      refine sP (X_api_Facts.mk false (!(cellsEq [e7.Set.w0, e7.Set.w1, e7.Set.w2, e7.Set.w3] [0, 0, 0, 0])) true).val hs fun _ hs => ?_
      refine stepStoreB 0 (vs := [(Value.bool false), (Value.bool (!(cellsEq [e7.Set.w0, e7.Set.w1, e7.Set.w2, e7.Set.w3] [0, 0, 0, 0]))), (Value.bool true)]) hs rfl rfl rfl rfl rfl rfl (by kernel_rfl) (Nat.le_of_ble_eq_true rfl) rfl (fun _ _ hs => ?_)
      replace hs := hs.chbx (bs' := [⟨b11, 46, [(Value.bool false), (Value.bool (!(cellsEq [e7.Set.w0, e7.Set.w1, e7.Set.w2, e7.Set.w3] [0, 0, 0, 0]))), (Value.bool true)]⟩, ⟨b10, 96, [(Value.int .i64 e7.Kind), (Value.int .u64 e7.Set.w0), (Value.int .u64 e7.Set.w1), (Value.int .u64 e7.Set.w2), (Value.int .u64 e7.Set.w3), (Value.string (mkS e7.Text)), (Value.slice e7.Kids_a e7.Kids_l e7.Kids_c)]⟩, ⟨b9, 40, [(Value.slice rulesa4 rulesl5 rulesc6)]⟩, ⟨b8, 24, [(Value.slice ga1 gl2 gc3)]⟩]) rfl
      exact wpList_nil (Wp.ret (leaveE (K := fun v _ => K v) hs (resC (vs := [(Value.bool false), (Value.bool (!(cellsEq [e7.Set.w0, e7.Set.w1, e7.Set.w2, e7.Set.w3] [0, 0, 0, 0]))), (Value.bool true)]) true 0 hs rfl rfl rfl (by kernel_rfl) rfl) hMM.2 (fun _ _ => hS)))
    · have hS := hS.2 hc
      refine Wp.seq (Wp.region (sP (Value.bool ((e7.Kind : Int) == (3 : Int))) hs fun _ hs => ?_))
      refine sP (Value.bool ((e7.Kind : Int) == (3 : Int))) hs fun _ hs => ?_
      refine wpList_nil (Wp.cond hs rfl rfl beq_iff_eq (fun hc => ?_) (fun hc => ?_))
      · have hS := hS.1 hc
        refine Wp.seq (Wp.region (sP (X_api_Facts.mk false true true).val hs fun _ hs => ?_))
        refine stepStoreB 0 (vs := [(Value.bool false), (Value.bool true), (Value.bool true)]) hs rfl rfl rfl rfl rfl rfl (by kernel_rfl) (Nat.le_of_ble_eq_true rfl) rfl (fun _ _ hs => ?_)
        replace hs := hs.chbx (bs' := [⟨b11, 46, [(Value.bool false), (Value.bool true), (Value.bool true)]⟩, ⟨b10, 96, [(Value.int .i64 e7.Kind), (Value.int .u64 e7.Set.w0), (Value.int .u64 e7.Set.w1), (Value.int .u64 e7.Set.w2), (Value.int .u64 e7.Set.w3), (Value.string (mkS e7.Text)), (Value.slice e7.Kids_a e7.Kids_l e7.Kids_c)]⟩, ⟨b9, 40, [(Value.slice rulesa4 rulesl5 rulesc6)]⟩, ⟨b8, 24, [(Value.slice ga1 gl2 gc3)]⟩]) rfl
        exact wpList_nil (Wp.ret (leaveE (K := fun v _ => K v) hs (resC (vs := [(Value.bool false), (Value.bool true), (Value.bool true)]) true 0 hs rfl rfl rfl (by kernel_rfl) rfl) hMM.2 (fun _ _ => hS)))
      · have hS := hS.2 hc
        refine Wp.seq (Wp.region (sP (Value.bool ((e7.Kind : Int) == (4 : Int))) hs fun _ hs => ?_))
        refine sP (Value.bool ((e7.Kind : Int) == (4 : Int))) hs fun _ hs => ?_
        refine wpList_nil (Wp.cond hs rfl rfl beq_iff_eq (fun hc => ?_) (fun hc => ?_))
        · have hS := hS.1 hc
          refine Wp.seq (Wp.regionD [true, true, true, true, true, true, true, false] hs (by kernel_rfl) rfl [⟨b11, 46, [(Value.bool false), (Value.bool false), (Value.bool false)]⟩, ⟨b10, 96, [(Value.int .i64 e7.Kind), (Value.int .u64 e7.Set.w0), (Value.int .u64 e7.Set.w1), (Value.int .u64 e7.Set.w2), (Value.int .u64 e7.Set.w3), (Value.string (mkS e7.Text)), (Value.slice e7.Kids_a e7.Kids_l e7.Kids_c)]⟩, ⟨b9, 40, [(Value.slice rulesa4 rulesl5 rulesc6)]⟩, ⟨b8, 24, [(Value.slice ga1 gl2 gc3)]⟩] (fun _ h => h) [] (fun _ h => h) (fun _ hs hC => ?_))
          have hL := Mem.le.refl M
          refine stepDY (v := (Value.slice rulesa4 rulesl5 rulesc6)) 0 [5, 6, 7] hs hC QZ.no rfl (wanted_none rfl) rfl (by decide) (by kernel_rfl) (by kernel_rfl) (by kernel_rfl) (Yl.loadB (vs := [(Value.slice rulesa4 rulesl5 rulesc6)]) false 2 rfl rfl rfl (by kernel_rfl) rfl) (fun _ hs => ?_)
          refine stepDY (v := (Value.agg #[(Value.slice ga1 gl2 gc3)])) 1 [4, 5, 6, 7] hs hC QZ.no rfl (wanted_none rfl) rfl (by decide) (by kernel_rfl) (by kernel_rfl) (by kernel_rfl) (Yl.loadB (vs := [(Value.slice ga1 gl2 gc3)]) true 3 rfl rfl rfl (by kernel_rfl) rfl) (fun _ hs => ?_)
          refine stepDE 2 rfl (wanted_none rfl) (by kernel_rfl) #[] ?_
          refine sP (Value.pointer (some ⟨b10, 5, none⟩)) hs fun _ hs => ?_
          refine wpList_nil (⟨fun _ h => h, ?_⟩)
          refine stepDE 3 rfl (wanted_none rfl) (by kernel_rfl) #[] ?_
          refine sY (Value.string (mkS e7.Text)) hs (Yl.loadB (vs := [(Value.string (mkS e7.Text))]) false 1 rfl rfl rfl (by kernel_rfl) rfl) fun _ hs => ?_
          refine wpList_nil (⟨fun _ h => h, ?_⟩)
          refine stepDE 4 rfl (wanted_none rfl) (by kernel_rfl) #[] ?_
          refine stepCallP [(Value.agg #[(Value.slice ga1 gl2 gc3)]), (Value.string (mkS e7.Text))] hs rfl ⟨_, rfl, rfl⟩ rfl Try.func53 rfl (by kernel_rfl) (by decide) hS (fun _ _ v hS hs => ?_)
          obtain ⟨x12, hv, hS⟩ := hS
          subst hv
          refine wpList_nil (⟨fun _ _ => hs.cxle hL (List.Sublist.refl _) (List.Sublist.refl _), ?_⟩)
          have hC := hs.cxle hL (List.Sublist.refl _) (List.Sublist.refl _)
          refine stepDE 5 rfl (wanted_none rfl) (by kernel_rfl) #[] ?_
          obtain ⟨b13, o14, ha, h0, hl, hS⟩ := hS
          refine sY (Value.pointer (some ⟨b13, o14 + x12.toNat * 3, none⟩)) hs (Yl.indexS (e := 46) (sz := 3) rfl rfl rfl rfl (by kernel_rfl) (by kernel_rfl) ha h0 hl) fun _ hs => ?_
          refine wpList_nil (⟨fun _ h => h, ?_⟩)
          refine stepDE 6 rfl (wanted_none rfl) (by kernel_rfl) #[] ?_
          obtain ⟨x15, hat, hS⟩ := hS
          refine sY x15.val hs (Yl.loadV (vs := x15.cells) true rfl rfl (by kernel_rfl) hat) fun _ hs => ?_
          refine wpList_nil (⟨fun _ h => h, ?_⟩)
          refine stepDE 7 rfl (wanted_none rfl) (by kernel_rfl) #[] ?_
          refine stepStoreB 0 (vs := [(Value.bool x15.Empty), (Value.bool x15.Eats), (Value.bool x15.Fails)]) hs rfl rfl rfl rfl rfl rfl (by kernel_rfl) (Nat.le_of_ble_eq_true rfl) rfl (fun _ _ hs => ?_)
          replace hs := hs.chbx (bs' := [⟨b11, 46, [(Value.bool x15.Empty), (Value.bool x15.Eats), (Value.bool x15.Fails)]⟩, ⟨b10, 96, [(Value.int .i64 e7.Kind), (Value.int .u64 e7.Set.w0), (Value.int .u64 e7.Set.w1), (Value.int .u64 e7.Set.w2), (Value.int .u64 e7.Set.w3), (Value.string (mkS e7.Text)), (Value.slice e7.Kids_a e7.Kids_l e7.Kids_c)]⟩, ⟨b9, 40, [(Value.slice rulesa4 rulesl5 rulesc6)]⟩, ⟨b8, 24, [(Value.slice ga1 gl2 gc3)]⟩]) rfl
          refine wpList_nil (⟨fun h => absurd h (by decide), ?_⟩)
          refine WpD.done (by kernel_rfl) ?_ _
          exact Wp.ret (leaveE (K := fun v _ => K v) hs (resC (vs := [(Value.bool x15.Empty), (Value.bool x15.Eats), (Value.bool x15.Fails)]) true 0 hs rfl rfl rfl (by kernel_rfl) rfl) hMM.2 (fun _ _ => hS))
        · have hS := hS.2 hc
          refine Wp.seq (Wp.region (sP (Value.bool ((e7.Kind : Int) == (5 : Int))) hs fun _ hs => ?_))
          refine sP (Value.bool ((e7.Kind : Int) == (5 : Int))) hs fun _ hs => ?_
          refine wpList_nil (Wp.cond hs rfl rfl beq_iff_eq (fun hc => ?_) (fun hc => ?_))
          · have hS := hS.1 hc
            refine Wp.seq (Wp.region (sP (Value.func (.func 124) #[] #[(Value.pointer (some ⟨b8, 0, none⟩)), (Value.pointer (some ⟨b9, 0, none⟩)), (Value.pointer (some ⟨b10, 0, none⟩))]) hs fun _ hs => ?_))
            obtain ⟨M16, hle, hat, hnew, hs⟩ := hs.freeze 3 rfl hEb8 rfl
            have hMM := hMM.next hle hnew
            have hS := hS M16 b8 hle hat
            obtain ⟨M17, hle, hat, hnew, hs⟩ := hs.freeze 2 rfl hEb9 rfl
            have hMM := hMM.next hle hnew
            have hS := hS M17 b9 hle hat
            obtain ⟨M18, hle, hat, hnew, hs⟩ := hs.freeze 1 rfl hEb10 rfl
            have hMM := hMM.next hle hnew
            have hS := hS M18 b10 hle hat
            refine stepCallP [(Value.int .i64 0), (Value.pointer (some ⟨b8, 0, none⟩)), (Value.pointer (some ⟨b9, 0, none⟩)), (Value.pointer (some ⟨b10, 0, none⟩))] hs rfl ⟨_, rfl, rfl⟩ rfl Try.func124 rfl (by kernel_rfl) (by decide) hS (fun _ _ v hS hs => ?_)
            obtain ⟨x19, hv, hS⟩ := hS
            subst hv
            refine stepAlloc [(Value.bool false), (Value.bool false), (Value.bool false)] hs (by kernel_rfl) (by decide) (fun _ _ b20 hEb20 hs => ?_)
            refine stepStoreB 0 (vs := [(Value.bool x19.Empty), (Value.bool x19.Eats), (Value.bool x19.Fails)]) hs rfl rfl rfl rfl rfl rfl (by kernel_rfl) (Nat.le_of_ble_eq_true rfl) rfl (fun _ _ hs => ?_)
            replace hs := hs.chbx (bs' := [⟨b20, 46, [(Value.bool x19.Empty), (Value.bool x19.Eats), (Value.bool x19.Fails)]⟩, ⟨b11, 46, [(Value.bool false), (Value.bool false), (Value.bool false)]⟩]) rfl
            refine wpList_nil (Wp.seq (Wp.seq (Wp.region (sP (Value.int .i64 1) hs fun _ hs => ?_))))
            refine wpList_nil (Wp.block ?_)
            obtain ⟨I40, mu41, hI0, hst⟩ := hS
            refine Wp.loop (σ := (Int) × (Bool) × (Bool) × (Bool)) (fun s a w => match s with | (i36, c37, c38, c39) => Sx 116 E [] M18 w a [(5, (Value.pointer (some ⟨b10, 0, none⟩))), (6, (Value.pointer (some ⟨b11, 0, none⟩))), (7, (Value.func (.func 124) #[] #[(Value.pointer (some ⟨b8, 0, none⟩)), (Value.pointer (some ⟨b9, 0, none⟩)), (Value.pointer (some ⟨b10, 0, none⟩))])), (8, (Value.pointer (some ⟨b20, 0, none⟩))), (9, (Value.int .i64 i36))] [⟨b20, 46, [(Value.bool c37), (Value.bool c38), (Value.bool c39)]⟩, ⟨b11, 46, [(Value.bool false), (Value.bool false), (Value.bool false)]⟩] [] ∧ I40 i36 c37 c38 c39) (fun s => match s with | (i36, c37, c38, c39) => mu41 i36 c37 c38 c39) (1, x19.Empty, x19.Eats, x19.Fails) ⟨(hs.weak (List.Sublist.refl _) (List.Sublist.refl _) ⟨rfl, rfl, rfl, rfl, rfl, trivial⟩), hI0⟩ (fun s a w hI => ?_)
            obtain ⟨i36, c37, c38, c39⟩ := s
            obtain ⟨hs, hI⟩ := hI
            have hS := hst i36 c37 c38 c39 hI
            clear hst hI0 hI
            refine Wp.seq (Wp.seq (Wp.region (sP (Value.int .i64 i36) hs fun _ hs => ?_)))
            refine sP (Value.pointer (some ⟨b10, 6, none⟩)) hs fun _ hs => ?_
            obtain ⟨xa42, xl43, xc44, hat, hS⟩ := hS
            refine sY (Value.slice xa42 xl43 xc44) hs (Yl.loadV (vs := [(Value.slice xa42 xl43 xc44)]) false rfl rfl (by kernel_rfl) hat) fun _ hs => ?_
            refine sP (Value.int .i64 ((xl43 : Nat) : Int)) hs fun _ hs => ?_
            refine sP (Value.bool (decide (i36 < ((xl43 : Nat) : Int)))) hs fun _ hs => ?_
            refine wpList_nil (Wp.cond hs rfl rfl decide_eq_true_iff (fun hc => ?_) (fun hc => ?_))
            · have hS := hS.1 hc
              refine Wp.skip (Wp.seq (Wp.block (Wp.regionD [true, true, true, true, true, false] hs (by kernel_rfl) rfl [⟨b20, 46, [(Value.bool c37), (Value.bool c38), (Value.bool c39)]⟩, ⟨b11, 46, [(Value.bool false), (Value.bool false), (Value.bool false)]⟩] (fun _ h => h) [] (fun _ h => h) (fun _ hs hC => ?_))))
              have hL := Mem.le.refl M18
              refine stepDY (v := (X_api_Facts.mk c37 c38 c39).val) 0 [4, 5] hs hC QZ.no rfl (wanted_none rfl) rfl (by decide) (by kernel_rfl) (by kernel_rfl) (by kernel_rfl) (Yl.loadB (vs := (X_api_Facts.mk c37 c38 c39).cells) true 0 rfl rfl rfl (by kernel_rfl) rfl) (fun _ hs => ?_)
              refine dP (Value.func (.func 124) #[] #[(Value.pointer (some ⟨b8, 0, none⟩)), (Value.pointer (some ⟨b9, 0, none⟩)), (Value.pointer (some ⟨b10, 0, none⟩))]) 1 [3, 4, 5] hs QZ.no (wanted_none rfl) fun _ hs => ?_
              refine stepDE 2 rfl (wanted_none rfl) (by kernel_rfl) #[] ?_
              refine sP (Value.int .i64 i36) hs fun _ hs => ?_
              refine wpList_nil (⟨fun _ h => h, ?_⟩)
              refine stepDE 3 rfl (wanted_none rfl) (by kernel_rfl) #[] ?_
              refine stepCallP [(Value.int .i64 i36), (Value.pointer (some ⟨b8, 0, none⟩)), (Value.pointer (some ⟨b9, 0, none⟩)), (Value.pointer (some ⟨b10, 0, none⟩))] hs rfl ⟨_, rfl, rfl⟩ rfl Try.func124 rfl (by kernel_rfl) (by decide) hS (fun _ _ v hS hs => ?_)
              obtain ⟨x45, hv, hS⟩ := hS
              subst hv
              refine wpList_nil (⟨fun _ _ => hs.cxle hL (List.Sublist.refl _) (List.Sublist.refl _), ?_⟩)
              have hC := hs.cxle hL (List.Sublist.refl _) (List.Sublist.refl _)
              refine stepDE 4 rfl (wanted_none rfl) (by kernel_rfl) #[] ?_
              refine stepCallP [(X_api_Facts.mk c37 c38 c39).val, x45.val] hs rfl ⟨_, rfl, rfl⟩ rfl Try.func125 rfl (by kernel_rfl) (by decide) hS (fun _ _ v hS hs => ?_)
              obtain ⟨x46, hv, hS⟩ := hS
              subst hv
              refine wpList_nil (⟨fun _ _ => hs.cxle hL (List.Sublist.refl _) (List.Sublist.refl _), ?_⟩)
              have hC := hs.cxle hL (List.Sublist.refl _) (List.Sublist.refl _)
              refine stepDE 5 rfl (wanted_none rfl) (by kernel_rfl) #[] ?_
              refine stepStoreB 0 (vs := [(Value.bool x46.Empty), (Value.bool x46.Eats), (Value.bool x46.Fails)]) hs rfl rfl rfl rfl rfl rfl (by kernel_rfl) (Nat.le_of_ble_eq_true rfl) rfl (fun _ _ hs => ?_)
              replace hs := hs.chbx (bs' := [⟨b20, 46, [(Value.bool x46.Empty), (Value.bool x46.Eats), (Value.bool x46.Fails)]⟩, ⟨b11, 46, [(Value.bool false), (Value.bool false), (Value.bool false)]⟩]) rfl
              refine wpList_nil (⟨fun h => absurd h (by decide), ?_⟩)
              refine WpD.done (by kernel_rfl) ?_ _
              refine Wp.region (sP (Value.int .i64 i36) hs fun _ hs => ?_)
              obtain ⟨hI, hS⟩ := hS
              refine sY (Value.int .i64 (i36 + 1)) hs (Yl.eq (Yl.pure (v := Value.int .i64 (IntKind.wrap .i64 (i36 + 1))) rfl (fun _ => by kernel_rfl)) (congrArg (Value.int .i64) (wrap_in hI))) fun _ hs => ?_
              refine sP (Value.int .i64 (i36 + 1)) hs fun _ hs => ?_
              exact wpList_nil (⟨(i36 + 1, x46.Empty, x46.Eats, x46.Fails), ⟨(hs.weak (List.Sublist.refl _) (List.Sublist.refl _) ⟨rfl, rfl, rfl, rfl, rfl, trivial⟩), hS.1⟩, hS.2⟩)
            · have hS := hS.2 hc
              refine Wp.exit rfl (Wp.seq (Wp.region (sY (X_api_Facts.mk c37 c38 c39).val hs (Yl.loadB (vs := (X_api_Facts.mk c37 c38 c39).cells) true 0 rfl rfl rfl (by kernel_rfl) rfl) fun _ hs => ?_)))
              refine stepStoreB 1 (vs := [(Value.bool c37), (Value.bool c38), (Value.bool c39)]) hs rfl rfl rfl rfl rfl rfl (by kernel_rfl) (Nat.le_of_ble_eq_true rfl) rfl (fun _ _ hs => ?_)
              replace hs := hs.chbx (bs' := [⟨b20, 46, [(Value.bool c37), (Value.bool c38), (Value.bool c39)]⟩, ⟨b11, 46, [(Value.bool c37), (Value.bool c38), (Value.bool c39)]⟩]) rfl
              exact wpList_nil (Wp.ret (leaveE (K := fun v _ => K v) hs (resC (vs := [(Value.bool c37), (Value.bool c38), (Value.bool c39)]) true 1 hs rfl rfl rfl (by kernel_rfl) rfl) hMM.2 (fun _ _ => hS)))
          · have hS := hS.2 hc
            refine Wp.seq (Wp.region (sP (Value.bool ((e7.Kind : Int) == (6 : Int))) hs fun _ hs => ?_))
            refine sP (Value.bool ((e7.Kind : Int) == (6 : Int))) hs fun _ hs => ?_
            refine wpList_nil (Wp.cond hs rfl rfl beq_iff_eq (fun hc => ?_) (fun hc => ?_))
            · have hS := hS.1 hc
              refine Wp.seq (Wp.region (sP (Value.func (.func 124) #[] #[(Value.pointer (some ⟨b8, 0, none⟩)), (Value.pointer (some ⟨b9, 0, none⟩)), (Value.pointer (some ⟨b10, 0, none⟩))]) hs fun _ hs => ?_))
              refine sP (Value.pointer (some ⟨b10, 6, none⟩)) hs fun _ hs => ?_
              refine sY (Value.slice e7.Kids_a e7.Kids_l e7.Kids_c) hs (Yl.loadB (vs := [(Value.slice e7.Kids_a e7.Kids_l e7.Kids_c)]) false 1 rfl rfl rfl (by kernel_rfl) rfl) fun _ hs => ?_
              refine sP (Value.int .i64 ((e7.Kids_l : Nat) : Int)) hs fun _ hs => ?_
              obtain ⟨hI, hS⟩ := hS
              refine sY (Value.int .i64 (((e7.Kids_l : Nat) : Int) - 1)) hs (Yl.eq (Yl.pure (v := Value.int .i64 (IntKind.wrap .i64 (((e7.Kids_l : Nat) : Int) - 1))) rfl (fun _ => by kernel_rfl)) (congrArg (Value.int .i64) (wrap_in hI))) fun _ hs => ?_
              obtain ⟨M47, hle, hat, hnew, hs⟩ := hs.freeze 3 rfl hEb8 rfl
              have hMM := hMM.next hle hnew
              have hS := hS M47 b8 hle hat
              obtain ⟨M48, hle, hat, hnew, hs⟩ := hs.freeze 2 rfl hEb9 rfl
              have hMM := hMM.next hle hnew
              have hS := hS M48 b9 hle hat
              obtain ⟨M49, hle, hat, hnew, hs⟩ := hs.freeze 1 rfl hEb10 rfl
              have hMM := hMM.next hle hnew
              have hS := hS M49 b10 hle hat
              refine stepCallP [(Value.int .i64 (((e7.Kids_l : Nat) : Int) - 1)), (Value.pointer (some ⟨b8, 0, none⟩)), (Value.pointer (some ⟨b9, 0, none⟩)), (Value.pointer (some ⟨b10, 0, none⟩))] hs rfl ⟨_, rfl, rfl⟩ rfl Try.func124 rfl (by kernel_rfl) (by decide) hS (fun _ _ v hS hs => ?_)
              obtain ⟨x50, hv, hS⟩ := hS
              subst hv
              refine stepAlloc [(Value.bool false), (Value.bool false), (Value.bool false)] hs (by kernel_rfl) (by decide) (fun _ _ b51 hEb51 hs => ?_)
              refine stepStoreB 0 (vs := [(Value.bool x50.Empty), (Value.bool x50.Eats), (Value.bool x50.Fails)]) hs rfl rfl rfl rfl rfl rfl (by kernel_rfl) (Nat.le_of_ble_eq_true rfl) rfl (fun _ _ hs => ?_)
              replace hs := hs.chbx (bs' := [⟨b51, 46, [(Value.bool x50.Empty), (Value.bool x50.Eats), (Value.bool x50.Fails)]⟩, ⟨b11, 46, [(Value.bool false), (Value.bool false), (Value.bool false)]⟩]) rfl
              refine wpList_nil (Wp.seq (Wp.seq (Wp.region (sP (Value.pointer (some ⟨b10, 6, none⟩)) hs fun _ hs => ?_))))
              obtain ⟨xa52, xl53, xc54, hat, hS⟩ := hS
              refine sY (Value.slice xa52 xl53 xc54) hs (Yl.loadV (vs := [(Value.slice xa52 xl53 xc54)]) false rfl rfl (by kernel_rfl) hat) fun _ hs => ?_
              refine sP (Value.int .i64 ((xl53 : Nat) : Int)) hs fun _ hs => ?_
              obtain ⟨hI, hS⟩ := hS
              refine sY (Value.int .i64 (((xl53 : Nat) : Int) - 2)) hs (Yl.eq (Yl.pure (v := Value.int .i64 (IntKind.wrap .i64 (((xl53 : Nat) : Int) - 2))) rfl (fun _ => by kernel_rfl)) (congrArg (Value.int .i64) (wrap_in hI))) fun _ hs => ?_
              refine sP (Value.int .i64 (((xl53 : Nat) : Int) - 2)) hs fun _ hs => ?_
              refine wpList_nil (Wp.block ?_)
              obtain ⟨I68, mu69, hI0, hst⟩ := hS
              refine Wp.loop (σ := (Int) × (Bool) × (Bool) × (Bool)) (fun s a w => match s with | (i_64, c65, c66, c67) => Sx 116 E [] M49 w a [(6, (Value.pointer (some ⟨b11, 0, none⟩))), (7, (Value.func (.func 124) #[] #[(Value.pointer (some ⟨b8, 0, none⟩)), (Value.pointer (some ⟨b9, 0, none⟩)), (Value.pointer (some ⟨b10, 0, none⟩))])), (10, (Value.pointer (some ⟨b51, 0, none⟩))), (11, (Value.int .i64 i_64))] [⟨b51, 46, [(Value.bool c65), (Value.bool c66), (Value.bool c67)]⟩, ⟨b11, 46, [(Value.bool false), (Value.bool false), (Value.bool false)]⟩] [] ∧ I68 i_64 c65 c66 c67) (fun s => match s with | (i_64, c65, c66, c67) => mu69 i_64 c65 c66 c67) (((xl53 : Nat) : Int) - 2, x50.Empty, x50.Eats, x50.Fails) ⟨(hs.weak (List.Sublist.refl _) (List.Sublist.refl _) ⟨rfl, rfl, rfl, rfl, trivial⟩), hI0⟩ (fun s a w hI => ?_)
              obtain ⟨i_64, c65, c66, c67⟩ := s
              obtain ⟨hs, hI⟩ := hI
              have hS := hst i_64 c65 c66 c67 hI
              clear hst hI0 hI
              refine Wp.seq (Wp.seq (Wp.region (sP (Value.int .i64 i_64) hs fun _ hs => ?_)))
              refine sP (Value.bool (decide (i_64 ≥ 0))) hs fun _ hs => ?_
              refine wpList_nil (Wp.cond hs rfl rfl decide_eq_true_iff (fun hc => ?_) (fun hc => ?_))
              · have hS := hS.1 hc
                refine Wp.skip (Wp.seq (Wp.block (Wp.regionD [true, true, true, true, true, false] hs (by kernel_rfl) rfl [⟨b51, 46, [(Value.bool c65), (Value.bool c66), (Value.bool c67)]⟩, ⟨b11, 46, [(Value.bool false), (Value.bool false), (Value.bool false)]⟩] (fun _ h => h) [] (fun _ h => h) (fun _ hs hC => ?_))))
                have hL := Mem.le.refl M49
                refine dP (Value.func (.func 124) #[] #[(Value.pointer (some ⟨b8, 0, none⟩)), (Value.pointer (some ⟨b9, 0, none⟩)), (Value.pointer (some ⟨b10, 0, none⟩))]) 0 [2, 4, 5] hs QZ.no (wanted_none rfl) fun _ hs => ?_
                refine dP (Value.int .i64 i_64) 1 [2, 4, 5] hs QZ.no (wanted_none rfl) fun _ hs => ?_
                refine stepDY (v := (X_api_Facts.mk c65 c66 c67).val) 3 [4, 5] hs hC QZ.no rfl (wanted_none rfl) rfl (by decide) (by kernel_rfl) (by kernel_rfl) (by kernel_rfl) (Yl.loadB (vs := (X_api_Facts.mk c65 c66 c67).cells) true 0 rfl rfl rfl (by kernel_rfl) rfl) (fun _ hs => ?_)
                refine stepDE 2 rfl (wanted_none rfl) (by kernel_rfl) #[] ?_
                refine stepCallP [(Value.int .i64 i_64), (Value.pointer (some ⟨b8, 0, none⟩)), (Value.pointer (some ⟨b9, 0, none⟩)), (Value.pointer (some ⟨b10, 0, none⟩))] hs rfl ⟨_, rfl, rfl⟩ rfl Try.func124 rfl (by kernel_rfl) (by decide) hS (fun _ _ v hS hs => ?_)
                obtain ⟨x70, hv, hS⟩ := hS
                subst hv
                refine wpList_nil (⟨fun _ _ => hs.cxle hL (List.Sublist.refl _) (List.Sublist.refl _), ?_⟩)
                have hC := hs.cxle hL (List.Sublist.refl _) (List.Sublist.refl _)
                refine stepDE 4 rfl (wanted_none rfl) (by kernel_rfl) #[] ?_
                refine stepCallP [x70.val, (X_api_Facts.mk c65 c66 c67).val] hs rfl ⟨_, rfl, rfl⟩ rfl Try.func126 rfl (by kernel_rfl) (by decide) hS (fun _ _ v hS hs => ?_)
                obtain ⟨x71, hv, hS⟩ := hS
                subst hv
                refine wpList_nil (⟨fun _ _ => hs.cxle hL (List.Sublist.refl _) (List.Sublist.refl _), ?_⟩)
                have hC := hs.cxle hL (List.Sublist.refl _) (List.Sublist.refl _)
                refine stepDE 5 rfl (wanted_none rfl) (by kernel_rfl) #[] ?_
                refine stepStoreB 0 (vs := [(Value.bool x71.Empty), (Value.bool x71.Eats), (Value.bool x71.Fails)]) hs rfl rfl rfl rfl rfl rfl (by kernel_rfl) (Nat.le_of_ble_eq_true rfl) rfl (fun _ _ hs => ?_)
                replace hs := hs.chbx (bs' := [⟨b51, 46, [(Value.bool x71.Empty), (Value.bool x71.Eats), (Value.bool x71.Fails)]⟩, ⟨b11, 46, [(Value.bool false), (Value.bool false), (Value.bool false)]⟩]) rfl
                refine wpList_nil (⟨fun h => absurd h (by decide), ?_⟩)
                refine WpD.done (by kernel_rfl) ?_ _
                refine Wp.region (sP (Value.int .i64 i_64) hs fun _ hs => ?_)
                obtain ⟨hI, hS⟩ := hS
                refine sY (Value.int .i64 (i_64 - 1)) hs (Yl.eq (Yl.pure (v := Value.int .i64 (IntKind.wrap .i64 (i_64 - 1))) rfl (fun _ => by kernel_rfl)) (congrArg (Value.int .i64) (wrap_in hI))) fun _ hs => ?_
                refine sP (Value.int .i64 (i_64 - 1)) hs fun _ hs => ?_
                exact wpList_nil (⟨(i_64 - 1, x71.Empty, x71.Eats, x71.Fails), ⟨(hs.weak (List.Sublist.refl _) (List.Sublist.refl _) ⟨rfl, rfl, rfl, rfl, trivial⟩), hS.1⟩, hS.2⟩)
              · have hS := hS.2 hc
                refine Wp.exit rfl (Wp.seq (Wp.region (sY (X_api_Facts.mk c65 c66 c67).val hs (Yl.loadB (vs := (X_api_Facts.mk c65 c66 c67).cells) true 0 rfl rfl rfl (by kernel_rfl) rfl) fun _ hs => ?_)))
                refine stepStoreB 1 (vs := [(Value.bool c65), (Value.bool c66), (Value.bool c67)]) hs rfl rfl rfl rfl rfl rfl (by kernel_rfl) (Nat.le_of_ble_eq_true rfl) rfl (fun _ _ hs => ?_)
                replace hs := hs.chbx (bs' := [⟨b51, 46, [(Value.bool c65), (Value.bool c66), (Value.bool c67)]⟩, ⟨b11, 46, [(Value.bool c65), (Value.bool c66), (Value.bool c67)]⟩]) rfl
                exact wpList_nil (Wp.ret (leaveE (K := fun v _ => K v) hs (resC (vs := [(Value.bool c65), (Value.bool c66), (Value.bool c67)]) true 1 hs rfl rfl rfl (by kernel_rfl) rfl) hMM.2 (fun _ _ => hS)))
            · have hS := hS.2 hc
              refine Wp.seq (Wp.region (sP (Value.bool ((e7.Kind : Int) == (7 : Int))) hs fun _ hs => ?_))
              refine sP (Value.bool ((e7.Kind : Int) == (7 : Int))) hs fun _ hs => ?_
              refine wpList_nil (Wp.cond hs rfl rfl beq_iff_eq (fun hc => ?_) (fun hc => ?_))
              · have hS := hS.1 hc
                refine Wp.seq (Wp.region (sP (Value.func (.func 124) #[] #[(Value.pointer (some ⟨b8, 0, none⟩)), (Value.pointer (some ⟨b9, 0, none⟩)), (Value.pointer (some ⟨b10, 0, none⟩))]) hs fun _ hs => ?_))
                obtain ⟨M72, hle, hat, hnew, hs⟩ := hs.freeze 3 rfl hEb8 rfl
                have hMM := hMM.next hle hnew
                have hS := hS M72 b8 hle hat
                obtain ⟨M73, hle, hat, hnew, hs⟩ := hs.freeze 2 rfl hEb9 rfl
                have hMM := hMM.next hle hnew
                have hS := hS M73 b9 hle hat
                obtain ⟨M74, hle, hat, hnew, hs⟩ := hs.freeze 1 rfl hEb10 rfl
                have hMM := hMM.next hle hnew
                have hS := hS M74 b10 hle hat
                refine stepCallP [(Value.int .i64 0), (Value.pointer (some ⟨b8, 0, none⟩)), (Value.pointer (some ⟨b9, 0, none⟩)), (Value.pointer (some ⟨b10, 0, none⟩))] hs rfl ⟨_, rfl, rfl⟩ rfl Try.func124 rfl (by kernel_rfl) (by decide) hS (fun _ _ v hS hs => ?_)
                obtain ⟨x75, hv, hS⟩ := hS
                subst hv
                refine stepCallP [x75.val] hs rfl ⟨_, rfl, rfl⟩ rfl Try.func127 rfl (by kernel_rfl) (by decide) hS (fun _ _ v hS hs => ?_)
                obtain ⟨x76, hv, hS⟩ := hS
                subst hv
                refine stepStoreB 0 (vs := [(Value.bool x76.Empty), (Value.bool x76.Eats), (Value.bool x76.Fails)]) hs rfl rfl rfl rfl rfl rfl (by kernel_rfl) (Nat.le_of_ble_eq_true rfl) rfl (fun _ _ hs => ?_)
                replace hs := hs.chbx (bs' := [⟨b11, 46, [(Value.bool x76.Empty), (Value.bool x76.Eats), (Value.bool x76.Fails)]⟩]) rfl
                exact wpList_nil (Wp.ret (leaveE (K := fun v _ => K v) hs (resC (vs := [(Value.bool x76.Empty), (Value.bool x76.Eats), (Value.bool x76.Fails)]) true 0 hs rfl rfl rfl (by kernel_rfl) rfl) hMM.2 (fun _ _ => hS)))
              · have hS := hS.2 hc
                refine Wp.seq (Wp.region (sP (Value.bool ((e7.Kind : Int) == (8 : Int))) hs fun _ hs => ?_))
                refine sP (Value.bool ((e7.Kind : Int) == (8 : Int))) hs fun _ hs => ?_
                refine wpList_nil (Wp.cond hs rfl rfl beq_iff_eq (fun hc => ?_) (fun hc => ?_))
                · have hS := hS.1 hc
                  refine Wp.seq (Wp.region (sP (Value.func (.func 124) #[] #[(Value.pointer (some ⟨b8, 0, none⟩)), (Value.pointer (some ⟨b9, 0, none⟩)), (Value.pointer (some ⟨b10, 0, none⟩))]) hs fun _ hs => ?_))
                  obtain ⟨M77, hle, hat, hnew, hs⟩ := hs.freeze 3 rfl hEb8 rfl
                  have hMM := hMM.next hle hnew
                  have hS := hS M77 b8 hle hat
                  obtain ⟨M78, hle, hat, hnew, hs⟩ := hs.freeze 2 rfl hEb9 rfl
                  have hMM := hMM.next hle hnew
                  have hS := hS M78 b9 hle hat
                  obtain ⟨M79, hle, hat, hnew, hs⟩ := hs.freeze 1 rfl hEb10 rfl
                  have hMM := hMM.next hle hnew
                  have hS := hS M79 b10 hle hat
                  refine stepCallP [(Value.int .i64 0), (Value.pointer (some ⟨b8, 0, none⟩)), (Value.pointer (some ⟨b9, 0, none⟩)), (Value.pointer (some ⟨b10, 0, none⟩))] hs rfl ⟨_, rfl, rfl⟩ rfl Try.func124 rfl (by kernel_rfl) (by decide) hS (fun _ _ v hS hs => ?_)
                  obtain ⟨x80, hv, hS⟩ := hS
                  subst hv
                  refine sP (Value.func (.func 124) #[] #[(Value.pointer (some ⟨b8, 0, none⟩)), (Value.pointer (some ⟨b9, 0, none⟩)), (Value.pointer (some ⟨b10, 0, none⟩))]) hs fun _ hs => ?_
                  refine stepCallP [(Value.int .i64 0), (Value.pointer (some ⟨b8, 0, none⟩)), (Value.pointer (some ⟨b9, 0, none⟩)), (Value.pointer (some ⟨b10, 0, none⟩))] hs rfl ⟨_, rfl, rfl⟩ rfl Try.func124 rfl (by kernel_rfl) (by decide) hS (fun _ _ v hS hs => ?_)
                  obtain ⟨x81, hv, hS⟩ := hS
                  subst hv
                  refine stepCallP [x81.val] hs rfl ⟨_, rfl, rfl⟩ rfl Try.func127 rfl (by kernel_rfl) (by decide) hS (fun _ _ v hS hs => ?_)
                  obtain ⟨x82, hv, hS⟩ := hS
                  subst hv
                  refine stepCallP [x80.val, x82.val] hs rfl ⟨_, rfl, rfl⟩ rfl Try.func125 rfl (by kernel_rfl) (by decide) hS (fun _ _ v hS hs => ?_)
                  obtain ⟨x83, hv, hS⟩ := hS
                  subst hv
                  refine stepStoreB 0 (vs := [(Value.bool x83.Empty), (Value.bool x83.Eats), (Value.bool x83.Fails)]) hs rfl rfl rfl rfl rfl rfl (by kernel_rfl) (Nat.le_of_ble_eq_true rfl) rfl (fun _ _ hs => ?_)
                  replace hs := hs.chbx (bs' := [⟨b11, 46, [(Value.bool x83.Empty), (Value.bool x83.Eats), (Value.bool x83.Fails)]⟩]) rfl
                  exact wpList_nil (Wp.ret (leaveE (K := fun v _ => K v) hs (resC (vs := [(Value.bool x83.Empty), (Value.bool x83.Eats), (Value.bool x83.Fails)]) true 0 hs rfl rfl rfl (by kernel_rfl) rfl) hMM.2 (fun _ _ => hS)))
                · have hS := hS.2 hc
                  refine Wp.seq (Wp.region (sP (Value.bool ((e7.Kind : Int) == (9 : Int))) hs fun _ hs => ?_))
                  refine sP (Value.bool ((e7.Kind : Int) == (9 : Int))) hs fun _ hs => ?_
                  refine wpList_nil (Wp.cond hs rfl rfl beq_iff_eq (fun hc => ?_) (fun hc => ?_))
                  · have hS := hS.1 hc
                    refine Wp.seq (Wp.region (sP (Value.func (.func 124) #[] #[(Value.pointer (some ⟨b8, 0, none⟩)), (Value.pointer (some ⟨b9, 0, none⟩)), (Value.pointer (some ⟨b10, 0, none⟩))]) hs fun _ hs => ?_))
                    obtain ⟨M84, hle, hat, hnew, hs⟩ := hs.freeze 3 rfl hEb8 rfl
                    have hMM := hMM.next hle hnew
                    have hS := hS M84 b8 hle hat
                    obtain ⟨M85, hle, hat, hnew, hs⟩ := hs.freeze 2 rfl hEb9 rfl
                    have hMM := hMM.next hle hnew
                    have hS := hS M85 b9 hle hat
                    obtain ⟨M86, hle, hat, hnew, hs⟩ := hs.freeze 1 rfl hEb10 rfl
                    have hMM := hMM.next hle hnew
                    have hS := hS M86 b10 hle hat
                    refine stepCallP [(Value.int .i64 0), (Value.pointer (some ⟨b8, 0, none⟩)), (Value.pointer (some ⟨b9, 0, none⟩)), (Value.pointer (some ⟨b10, 0, none⟩))] hs rfl ⟨_, rfl, rfl⟩ rfl Try.func124 rfl (by kernel_rfl) (by decide) hS (fun _ _ v hS hs => ?_)
                    obtain ⟨x87, hv, hS⟩ := hS
                    subst hv
                    refine sP (X_api_Facts.mk true false false).val hs fun _ hs => ?_
                    refine stepCallP [x87.val, (X_api_Facts.mk true false false).val] hs rfl ⟨_, rfl, rfl⟩ rfl Try.func126 rfl (by kernel_rfl) (by decide) hS (fun _ _ v hS hs => ?_)
                    obtain ⟨x88, hv, hS⟩ := hS
                    subst hv
                    refine stepStoreB 0 (vs := [(Value.bool x88.Empty), (Value.bool x88.Eats), (Value.bool x88.Fails)]) hs rfl rfl rfl rfl rfl rfl (by kernel_rfl) (Nat.le_of_ble_eq_true rfl) rfl (fun _ _ hs => ?_)
                    replace hs := hs.chbx (bs' := [⟨b11, 46, [(Value.bool x88.Empty), (Value.bool x88.Eats), (Value.bool x88.Fails)]⟩]) rfl
                    exact wpList_nil (Wp.ret (leaveE (K := fun v _ => K v) hs (resC (vs := [(Value.bool x88.Empty), (Value.bool x88.Eats), (Value.bool x88.Fails)]) true 0 hs rfl rfl rfl (by kernel_rfl) rfl) hMM.2 (fun _ _ => hS)))
                  · have hS := hS.2 hc
                    refine Wp.skip (Wp.seq (Wp.region (sP (Value.func (.func 124) #[] #[(Value.pointer (some ⟨b8, 0, none⟩)), (Value.pointer (some ⟨b9, 0, none⟩)), (Value.pointer (some ⟨b10, 0, none⟩))]) hs fun _ hs => ?_)))
                    obtain ⟨M89, hle, hat, hnew, hs⟩ := hs.freeze 3 rfl hEb8 rfl
                    have hMM := hMM.next hle hnew
                    have hS := hS M89 b8 hle hat
                    obtain ⟨M90, hle, hat, hnew, hs⟩ := hs.freeze 2 rfl hEb9 rfl
                    have hMM := hMM.next hle hnew
                    have hS := hS M90 b9 hle hat
                    obtain ⟨M91, hle, hat, hnew, hs⟩ := hs.freeze 1 rfl hEb10 rfl
                    have hMM := hMM.next hle hnew
                    have hS := hS M91 b10 hle hat
                    refine stepCallP [(Value.int .i64 0), (Value.pointer (some ⟨b8, 0, none⟩)), (Value.pointer (some ⟨b9, 0, none⟩)), (Value.pointer (some ⟨b10, 0, none⟩))] hs rfl ⟨_, rfl, rfl⟩ rfl Try.func124 rfl (by kernel_rfl) (by decide) hS (fun _ _ v hS hs => ?_)
                    obtain ⟨x92, hv, hS⟩ := hS
                    subst hv
                    refine stepAlloc [(Value.bool false), (Value.bool false), (Value.bool false)] hs (by kernel_rfl) (by decide) (fun _ _ b93 hEb93 hs => ?_)
                    refine stepStoreB 0 (vs := [(Value.bool x92.Empty), (Value.bool x92.Eats), (Value.bool x92.Fails)]) hs rfl rfl rfl rfl rfl rfl (by kernel_rfl) (Nat.le_of_ble_eq_true rfl) rfl (fun _ _ hs => ?_)
                    replace hs := hs.chbx (bs' := [⟨b93, 46, [(Value.bool x92.Empty), (Value.bool x92.Eats), (Value.bool x92.Fails)]⟩, ⟨b11, 46, [(Value.bool false), (Value.bool false), (Value.bool false)]⟩]) rfl
                    refine wpList_nil (Wp.join (fun a w => ∃ (some94 : Bool), Sx 116 E [] M91 w a [(5, (Value.pointer (some ⟨b10, 0, none⟩))), (6, (Value.pointer (some ⟨b11, 0, none⟩))), (12, (Value.pointer (some ⟨b93, 0, none⟩))), (13, (Value.bool some94))] [⟨b93, 46, [(Value.bool x92.Empty), (Value.bool x92.Eats), (Value.bool x92.Fails)]⟩, ⟨b11, 46, [(Value.bool false), (Value.bool false), (Value.bool false)]⟩] [] ∧ (S_well_of_J1 b10 M91 x92 some94 K)) ?_ ?_)
                    · refine Wp.region (sP (Value.pointer (some ⟨b93, 0, none⟩)) hs fun _ hs => ?_)
                      refine sY (Value.bool x92.Empty) hs (Yl.loadB (vs := [(Value.bool x92.Empty)]) false 0 rfl rfl rfl (by kernel_rfl) rfl) fun _ hs => ?_
                      refine sP (Value.bool x92.Empty) hs fun _ hs => ?_
                      refine bsplit x92.Empty Iff.rfl (fun hb hc => ?_) (fun hb hc => ?_)
                      · have hs := hs.bt hb
                        have hS := hS.1 hc
                        refine sNo hs fun _ hs => ?_
                        refine sNo hs fun _ hs => ?_
                        refine sP (Value.bool true) hs fun _ hs => ?_
                        refine sP (Value.bool true) hs fun _ hs => ?_
                        exact wpList_nil (⟨true, (hs.weak (List.Sublist.refl _) (List.Sublist.refl _) ⟨rfl, rfl, rfl, rfl, trivial⟩), hS⟩)
                      · have hs := hs.bf hb
                        have hS := hS.2 hc
                        refine sYe hs (sP (Value.pointer (some ⟨b93, 1, none⟩)) hs fun _ hs => ?_)
                        refine sYe hs (sY (Value.bool x92.Eats) hs (Yl.loadB (vs := [(Value.bool x92.Eats)]) false 0 rfl rfl rfl (by kernel_rfl) rfl) fun _ hs => ?_)
                        refine sP (Value.bool x92.Eats) hs fun _ hs => ?_
                        refine sP (Value.bool x92.Eats) hs fun _ hs => ?_
                        exact wpList_nil (⟨x92.Eats, (hs.weak (List.Sublist.refl _) (List.Sublist.refl _) ⟨rfl, rfl, rfl, rfl, trivial⟩), hS⟩)
                    · intro a w hJ
                      obtain ⟨some94, hs, hS⟩ := hJ
                      unfold S_well_of_J1 at hS
                      refine Wp.seq (Wp.seq (Wp.region (sP (Value.pointer (some ⟨b10, 0, none⟩)) hs fun _ hs => ?_)))
                      obtain ⟨x95, hat, hS⟩ := hS
                      refine sY (Value.int .i64 x95) hs (Yl.loadV (vs := [(Value.int .i64 x95)]) false rfl rfl (by kernel_rfl) hat) fun _ hs => ?_
                      refine sP (Value.bool ((x95 : Int) == (10 : Int))) hs fun _ hs => ?_
                      refine wpList_nil (Wp.cond hs rfl rfl beq_iff_eq (fun hc => ?_) (fun hc => ?_))
                      · have hS := hS.1 hc
                        refine Wp.seq (Wp.region (sP (Value.bool some94) hs fun _ hs => ?_))
                        refine sP (Value.pointer (some ⟨b93, 2, none⟩)) hs fun _ hs => ?_
                        refine sY (Value.bool x92.Fails) hs (Yl.loadB (vs := [(Value.bool x92.Fails)]) false 0 rfl rfl rfl (by kernel_rfl) rfl) fun _ hs => ?_
                        refine sP (X_api_Facts.mk some94 false x92.Fails).val hs fun _ hs => ?_
                        refine stepStoreB 1 (vs := [(Value.bool some94), (Value.bool false), (Value.bool x92.Fails)]) hs rfl rfl rfl rfl rfl rfl (by kernel_rfl) (Nat.le_of_ble_eq_true rfl) rfl (fun _ _ hs => ?_)
                        replace hs := hs.chbx (bs' := [⟨b93, 46, [(Value.bool x92.Empty), (Value.bool x92.Eats), (Value.bool x92.Fails)]⟩, ⟨b11, 46, [(Value.bool some94), (Value.bool false), (Value.bool x92.Fails)]⟩]) rfl
                        exact wpList_nil (Wp.ret (leaveE (K := fun v _ => K v) hs (resC (vs := [(Value.bool some94), (Value.bool false), (Value.bool x92.Fails)]) true 1 hs rfl rfl rfl (by kernel_rfl) rfl) hMM.2 (fun _ _ => hS)))
                      · have hS := hS.2 hc
                        refine Wp.skip (Wp.seq (Wp.region (sP (Value.pointer (some ⟨b93, 2, none⟩)) hs fun _ hs => ?_)))
                        refine sY (Value.bool x92.Fails) hs (Yl.loadB (vs := [(Value.bool x92.Fails)]) false 0 rfl rfl rfl (by kernel_rfl) rfl) fun _ hs => ?_
                        refine sP (Value.bool some94) hs fun _ hs => ?_
                        refine sP (X_api_Facts.mk x92.Fails false some94).val hs fun _ hs => ?_
                        refine stepStoreB 1 (vs := [(Value.bool x92.Fails), (Value.bool false), (Value.bool some94)]) hs rfl rfl rfl rfl rfl rfl (by kernel_rfl) (Nat.le_of_ble_eq_true rfl) rfl (fun _ _ hs => ?_)
                        replace hs := hs.chbx (bs' := [⟨b93, 46, [(Value.bool x92.Empty), (Value.bool x92.Eats), (Value.bool x92.Fails)]⟩, ⟨b11, 46, [(Value.bool x92.Fails), (Value.bool false), (Value.bool some94)]⟩]) rfl
                        exact wpList_nil (Wp.ret (leaveE (K := fun v _ => K v) hs (resC (vs := [(Value.bool x92.Fails), (Value.bool false), (Value.bool some94)]) true 1 hs rfl rfl rfl (by kernel_rfl) rfl) hMM.2 (fun _ _ => hS)))
set_option linter.unusedVariables false in
def S_well_facts_1 (knowna1 : Option Addr) (knownl2 : Nat) (knownc3 : Nat) (i4 : Int) (b5 : Nat) (M : Mem) (K : Value → Prop) : Prop :=
  (∃ (xa7 : Option Addr) (xl8 : Nat) (xc9 : Nat), At M b5 0 [(Value.slice xa7 xl8 xc9)] ∧ (∃ (xa10 : Option Addr) (xl11 : Nat) (xc12 : Nat), At M b5 0 [(Value.slice xa10 xl11 xc12)] ∧ (∃ (b13 o14 : Nat), xa10 = some ⟨b13, o14, none⟩ ∧ (0 : Int) ≤ i4 ∧ i4 < ((xl11 : Nat) : Int) ∧ (∃ (x15 : X_api_Expr), At M b13 (o14 + i4.toNat * 8 + 1) x15.cells ∧ (CallE Try.prog 105 #[(Value.agg #[(Value.slice xa7 xl8 xc9)]), (Value.slice knowna1 knownl2 knownc3), x15.val] M (fun v _ => ∃ (x16 : X_api_Facts), v = x16.val ∧ K x16.val))))))
set_option linter.unusedVariables false in
set_option maxRecDepth 100000 in
theorem s_well_facts_1 (knowna1 : Option Addr) (knownl2 : Nat) (knownc3 : Nat) (i4 : Int) (b5 : Nat) (M : Mem) (K : Value → Prop) (hS : S_well_facts_1 knowna1 knownl2 knownc3 i4 b5 M K) : CallE Try.prog 104 #[(Value.slice knowna1 knownl2 knownc3), (Value.int .i64 i4), (Value.pointer (some ⟨b5, 0, none⟩))] M (fun v _ => K v) := by
  refine enterE Try.func104 rfl 15 rfl (Nat.le_of_ble_eq_true rfl) (fun E a hs => ?_)
  unfold S_well_facts_1 at hS
  have hMM := MX.refl M E
  change Sx 15 E [] M E a [(0, (Value.slice knowna1 knownl2 knownc3)), (1, (Value.int .i64 i4)), (2, (Value.pointer (some ⟨b5, 0, none⟩)))] [] [] at hs
  refine Wp.seq (Wp.region (stepAlloc [(Value.bool false), (Value.bool false), (Value.bool false)] hs (by kernel_rfl) (by decide) (fun _ _ b6 hEb6 hs => ?_)))
  refine wpList_nil (Wp.seq (Wp.regionD [true, true, true, true, true, true, true, true, true, false] hs (by kernel_rfl) rfl [⟨b6, 46, [(Value.bool false), (Value.bool false), (Value.bool false)]⟩] (fun _ h => h) [] (fun _ h => h) (fun _ hs hC => ?_)))
  have hL := Mem.le.refl M
  obtain ⟨xa7, xl8, xc9, hat, hS⟩ := hS
  refine stepDY (v := (Value.agg #[(Value.slice xa7 xl8 xc9)])) 0 [8, 9] hs hC QZ.no rfl (wanted_none rfl) rfl (by decide) (by kernel_rfl) (by kernel_rfl) (by kernel_rfl) (Yl.loadV (vs := [(Value.slice xa7 xl8 xc9)]) true rfl rfl (by kernel_rfl) hat) (fun _ hs => ?_)
  refine dP (Value.slice knowna1 knownl2 knownc3) 1 [8, 9] hs QZ.no (wanted_none rfl) fun _ hs => ?_
  refine dP (Value.pointer (some ⟨b5, 0, none⟩)) 2 [3, 5, 6, 7, 8, 9] hs QZ.no (wanted_none rfl) fun _ hs => ?_
  obtain ⟨xa10, xl11, xc12, hat, hS⟩ := hS
  refine stepDY (v := (Value.slice xa10 xl11 xc12)) 3 [5, 6, 7, 8, 9] hs hC QZ.no rfl (wanted_none rfl) rfl (by decide) (by kernel_rfl) (by kernel_rfl) (by kernel_rfl) (Yl.loadV (vs := [(Value.slice xa10 xl11 xc12)]) false rfl rfl (by kernel_rfl) hat) (fun _ hs => ?_)
  refine stepDE 4 rfl (wanted_none rfl) (by kernel_rfl) #[] ?_
  refine sP (Value.int .i64 i4) hs fun _ hs => ?_
  refine wpList_nil (⟨fun _ h => h, ?_⟩)
  refine stepDE 5 rfl (wanted_none rfl) (by kernel_rfl) #[] ?_
  obtain ⟨b13, o14, ha, h0, hl, hS⟩ := hS
  refine sY (Value.pointer (some ⟨b13, o14 + i4.toNat * 8, none⟩)) hs (Yl.indexS (e := 98) (sz := 8) rfl rfl rfl rfl (by kernel_rfl) (by kernel_rfl) ha h0 hl) fun _ hs => ?_
  refine wpList_nil (⟨fun _ h => h, ?_⟩)
  refine stepDE 6 rfl (wanted_none rfl) (by kernel_rfl) #[] ?_
  refine sP (Value.pointer (some ⟨b13, o14 + i4.toNat * 8 + 1, none⟩)) hs fun _ hs => ?_
  refine wpList_nil (⟨fun _ h => h, ?_⟩)
  refine stepDE 7 rfl (wanted_none rfl) (by kernel_rfl) #[] ?_
  obtain ⟨x15, hat, hS⟩ := hS
  refine sY x15.val hs (Yl.loadV (vs := x15.cells) true rfl rfl (by kernel_rfl) hat) fun _ hs => ?_
  refine wpList_nil (⟨fun _ h => h, ?_⟩)
  refine stepDE 8 rfl (wanted_none rfl) (by kernel_rfl) #[] ?_
  refine stepCallP [(Value.agg #[(Value.slice xa7 xl8 xc9)]), (Value.slice knowna1 knownl2 knownc3), x15.val] hs rfl ⟨_, rfl, rfl⟩ rfl Try.func105 rfl (by kernel_rfl) (by decide) hS (fun _ _ v hS hs => ?_)
  obtain ⟨x16, hv, hS⟩ := hS
  subst hv
  refine wpList_nil (⟨fun _ _ => hs.cxle hL (List.Sublist.refl _) (List.Sublist.refl _), ?_⟩)
  have hC := hs.cxle hL (List.Sublist.refl _) (List.Sublist.refl _)
  refine stepDE 9 rfl (wanted_none rfl) (by kernel_rfl) #[] ?_
  refine stepStoreB 0 (vs := [(Value.bool x16.Empty), (Value.bool x16.Eats), (Value.bool x16.Fails)]) hs rfl rfl rfl rfl rfl rfl (by kernel_rfl) (Nat.le_of_ble_eq_true rfl) rfl (fun _ _ hs => ?_)
  replace hs := hs.chbx (bs' := [⟨b6, 46, [(Value.bool x16.Empty), (Value.bool x16.Eats), (Value.bool x16.Fails)]⟩]) rfl
  refine wpList_nil (⟨fun h => absurd h (by decide), ?_⟩)
  refine WpD.done (by kernel_rfl) ?_ _
  exact Wp.ret (leaveE (K := fun v _ => K v) hs (resC (vs := [(Value.bool x16.Empty), (Value.bool x16.Eats), (Value.bool x16.Fails)]) true 0 hs rfl rfl rfl (by kernel_rfl) rfl) hMM.2 (fun _ _ => hS))
theorem f_well_facts_1 (knowna1 : Option Addr) (knownl2 : Nat) (knownc3 : Nat) (i4 : Int) (b5 : Nat) (M : Mem) (K : Value → Prop) (hS : S_well_facts_1 knowna1 knownl2 knownc3 i4 b5 M K) : CallF Try.prog (Value.func (.func 104) #[] #[(Value.pointer (some ⟨b5, 0, none⟩))]) [(Value.slice knowna1 knownl2 knownc3), (Value.int .i64 i4)] M (fun v _ => K v) := ⟨104, _, _, _, rfl, Try.func104, rfl, (by decide), s_well_facts_1 _ _ _ _ _ _ _ hS⟩
set_option linter.unusedVariables false in
def S_well_grow_Facts_J1 (more136 : Bool) (x137 : Int) (G141 : Type) (gh142 : G141) (I139 : G141 → Bool → Int → Mem → Prop) (mu140 : G141 → Bool → Int → Nat) (more153 : Bool) (M154 : Mem) (K : Value → Mem → Prop) : Prop :=
  (InI (x137 + 1) ∧ ∃ (gh : G141), I139 gh more153 (x137 + 1) M154 ∧ mu140 gh more153 (x137 + 1) < mu140 gh142 more136 x137)
set_option linter.unusedVariables false in
def S_well_grow_Facts (n1 : Int) (next2 : Value) (M : Mem) (L : Nat → Prop) (K : Value → Mem → Prop) : Prop :=
  ((0 : Int) ≤ n1 ∧ (n1 : Int) ≤ n1 ∧ n1.toNat * 3 ≤ 140737488355328 ∧ (∀ (M6 : Mem) (ad4 : Option Addr) (cap5 : Nat), NewRow M M6 46 3 ad4 n1.toNat cap5 (repl n1.toNat [(Value.bool false), (Value.bool false), (Value.bool false)]) → (∃ (G106 : Type) (I104 : G106 → Bool → Mem → Prop) (mu105 : G106 → Bool → Nat) (gz108 : G106), I104 gz108 true M6 ∧ ∀ (gh107 : G106) (more102 : Bool) (M103 : Mem), (I104 gh107 more102 M103 → ((more102 = true → (∃ (G141 : Type) (I139 : G141 → Bool → Int → Mem → Prop) (mu140 : G141 → Bool → Int → Nat) (gz143 : G141), I139 gz143 false 0 M103 ∧ ∀ (gh142 : G141) (more136 : Bool) (x137 : Int) (M138 : Mem), (I139 gh142 more136 x137 M138 → ((x137 < ((n1.toNat : Nat) : Int) → (CallFW Try.prog next2 [(Value.slice ad4 n1.toNat cap5), (Value.int .i64 x137)] M138 (Wr L M) (fun v M145 => ∃ (x144 : X_api_Facts), v = x144.val ∧ (∃ (b147 o148 : Nat), ad4 = some ⟨b147, o148, none⟩ ∧ (0 : Int) ≤ x137 ∧ x137 < ((n1.toNat : Nat) : Int) ∧ (∃ (x149 : X_api_Facts), At M145 b147 (o148 + x137.toNat * 3) x149.cells ∧ ((¬ ((x144.Empty = x149.Empty) ∧ ((x144.Eats = x149.Eats) ∧ (x144.Fails = x149.Fails))) → (∃ (b150 o151 : Nat), ad4 = some ⟨b150, o151, none⟩ ∧ (0 : Int) ≤ x137 ∧ x137 < ((n1.toNat : Nat) : Int) ∧ (Has M145 b150 (o151 + x137.toNat * 3) 3 ∧ Wr L M b150 ∧ ∀ (M152 : Mem), M152 = M145.put b150 (o151 + x137.toNat * 3) x144.cells → (S_well_grow_Facts_J1 more136 x137 G141 gh142 I139 mu140 true M152 K)))) ∧ (¬ (¬ ((x144.Empty = x149.Empty) ∧ ((x144.Eats = x149.Eats) ∧ (x144.Fails = x149.Fails)))) → (S_well_grow_Facts_J1 more136 x137 G141 gh142 I139 mu140 more136 M145 K)))))))) ∧ (¬ (x137 < ((n1.toNat : Nat) : Int)) → ∃ (gh : G106), I104 gh more136 M138 ∧ mu105 gh more136 < mu105 gh107 more102))))) ∧ (¬ (more102 = true) → (∀ M', M103.le M' → K (Value.slice ad4 n1.toNat cap5) M')))))))
set_option linter.unusedVariables false in
set_option maxRecDepth 100000 in
theorem s_well_grow_Facts (n1 : Int) (next2 : Value) (M : Mem) (L : Nat → Prop) (K : Value → Mem → Prop) (hS : S_well_grow_Facts n1 next2 M L K) : CallW Try.prog 103 #[(Value.int .i64 n1), next2] M L K := by
  refine enterW Try.func103 rfl 33 rfl (Nat.le_of_ble_eq_true rfl) (fun E a hs => ?_)
  unfold S_well_grow_Facts at hS
  have hMM := WX.refl M E
  change Sx 33 E (bwW E M L) M E a [(0, (Value.int .i64 n1)), (1, next2)] [] [] at hs
  refine Wp.seq (Wp.region (sP (Value.slice none 0 0) hs fun _ hs => ?_))
  refine wpList_nil (Wp.seq (Wp.region (sP (Value.int .i64 n1) hs fun _ hs => ?_)))
  obtain ⟨h0, h1, hB, hS⟩ := hS
  refine stepMakeN (e := 46) (size := 3) (bytes := 3) [(Value.bool false), (Value.bool false), (Value.bool false)] hs rfl rfl rfl rfl (by kernel_rfl) (by kernel_rfl) rfl (by decide) (by decide) h0 h1 hB (fun _ _ rv3 hs => ?_)
  refine sP rv3 hs fun _ hs => ?_
  refine wpList_nil (Wp.seq (Wp.seq (Wp.region (sP (Value.bool true) hs fun _ hs => ?_))))
  refine wpList_nil (Wp.block ?_)
  obtain ⟨ad4, cap5, hv, hcp, hxl⟩ := hs.rowform 0 rfl
  dsimp only at hv hcp hxl
  subst hv
  obtain ⟨M6, hnr, hMM, hs⟩ := hs.releaseW hMM 0 rfl [] rfl
  have hS := hS M6 ad4 cap5 hnr
  obtain ⟨G106, I104, mu105, gz108, hI0, hst⟩ := hS
  refine Wp.loop (σ := G106 × (Bool) × (Mem)) (fun s a w => match s with | (gh107, more102, M103) => WX M103 M E ∧ Sx 33 E (bwW E M L) M103 w a [(1, next2), (5, (Value.slice ad4 n1.toNat cap5)), (6, (Value.bool more102))] [] [] ∧ I104 gh107 more102 M103) (fun s => match s with | (gh107, more102, M103) => mu105 gh107 more102) (gz108, true, M6) ⟨hMM, (hs.weak (List.Sublist.refl _) (List.Sublist.refl _) ⟨rfl, rfl, rfl, trivial⟩), hI0⟩ (fun s a w hI => ?_)
  obtain ⟨gh107, more102, M103⟩ := s
  obtain ⟨hMM, hs, hI⟩ := hI
  have hS := hst gh107 more102 M103 hI
  clear hst hI0 hI
  refine Wp.seq (Wp.seq (Wp.region (sP (Value.bool more102) hs fun _ hs => ?_)))
  refine wpList_nil (Wp.cond hs rfl rfl Iff.rfl (fun hc => ?_) (fun hc => ?_))
  · have hS := hS.1 hc
    refine Wp.skip (Wp.block (Wp.seq (Wp.region (sP (Value.bool false) hs fun _ hs => ?_))))
    refine wpList_nil (Wp.seq (Wp.region (sP (Value.slice ad4 n1.toNat cap5) hs fun _ hs => ?_)))
    refine sP (Value.int .i64 ((n1.toNat : Nat) : Int)) hs fun _ hs => ?_
    refine sP (Value.int .i64 0) hs fun _ hs => ?_
    refine wpList_nil (Wp.block ?_)
    obtain ⟨G141, I139, mu140, gz143, hI0, hst⟩ := hS
    refine Wp.loop (σ := G141 × (Bool) × (Int) × (Mem)) (fun s a w => match s with | (gh142, more136, x137, M138) => WX M138 M E ∧ Sx 33 E (bwW E M L) M138 w a [(1, next2), (5, (Value.slice ad4 n1.toNat cap5)), (6, (Value.bool more136)), (13, (Value.int .i64 ((n1.toNat : Nat) : Int))), (14, (Value.int .i64 x137))] [] [] ∧ I139 gh142 more136 x137 M138) (fun s => match s with | (gh142, more136, x137, M138) => mu140 gh142 more136 x137) (gz143, false, 0, M103) ⟨hMM, (hs.weak (List.Sublist.refl _) (List.Sublist.refl _) ⟨rfl, rfl, rfl, rfl, rfl, trivial⟩), hI0⟩ (fun s a w hI => ?_)
    obtain ⟨gh142, more136, x137, M138⟩ := s
    obtain ⟨hMM, hs, hI⟩ := hI
    have hS := hst gh142 more136 x137 M138 hI
    clear hst hI0 hI
    refine Wp.seq (Wp.region (sP (Value.bool (decide (x137 < ((n1.toNat : Nat) : Int)))) hs fun _ hs => ?_))
    refine wpList_nil (Wp.seq (Wp.cond hs rfl rfl decide_eq_true_iff (fun hc => ?_) (fun hc => ?_)))
    · have hS := hS.1 hc
      refine Wp.skip (Wp.join (fun a w => ∃ (more153 : Bool) (M154 : Mem), WX M154 M E ∧ Sx 33 E (bwW E M L) M154 w a [(1, next2), (5, (Value.slice ad4 n1.toNat cap5)), (6, (Value.bool more153)), (13, (Value.int .i64 ((n1.toNat : Nat) : Int))), (14, (Value.int .i64 x137))] [] [] ∧ (S_well_grow_Facts_J1 more136 x137 G141 gh142 I139 mu140 more153 M154 K)) ?_ ?_)
      · refine Wp.block (Wp.seq (Wp.region (sP (Value.int .i64 x137) hs fun _ hs => ?_)))
        refine sP (Value.int .i64 x137) hs fun _ hs => ?_
        refine wpList_nil (Wp.seq (Wp.region (sP next2 hs fun _ hs => ?_)))
        refine sP (Value.slice ad4 n1.toNat cap5) hs fun _ hs => ?_
        refine sP (Value.int .i64 x137) hs fun _ hs => ?_
        refine stepCallFW [(Value.slice ad4 n1.toNat cap5), (Value.int .i64 x137)] hs hMM rfl ⟨_, rfl, rfl⟩ rfl (by decide) hS (fun _ _ M145 v hMM hS hs => ?_)
        obtain ⟨x144, hv, hS⟩ := hS
        subst hv
        refine stepAlloc [(Value.bool false), (Value.bool false), (Value.bool false)] hs (by kernel_rfl) (by decide) (fun _ _ b146 hEb146 hs => ?_)
        refine stepStoreB 0 (vs := [(Value.bool x144.Empty), (Value.bool x144.Eats), (Value.bool x144.Fails)]) hs rfl rfl rfl rfl rfl rfl (by kernel_rfl) (Nat.le_of_ble_eq_true rfl) rfl (fun _ _ hs => ?_)
        replace hs := hs.chbx (bs' := [⟨b146, 46, [(Value.bool x144.Empty), (Value.bool x144.Eats), (Value.bool x144.Fails)]⟩]) rfl
        refine wpList_nil (Wp.seq (Wp.regionD [true, true, true, true, true, true] hs (by kernel_rfl) rfl [⟨b146, 46, [(Value.bool x144.Empty), (Value.bool x144.Eats), (Value.bool x144.Fails)]⟩] (fun _ h => h) [] (fun _ h => h) (fun _ hs hC => ?_)))
        have hL := Mem.le.refl M145
        refine stepDY (v := x144.val) 0 [5] hs hC QZ.no rfl (wanted_none rfl) rfl (by decide) (by kernel_rfl) (by kernel_rfl) (by kernel_rfl) (Yl.loadB (vs := x144.cells) true 0 rfl rfl rfl (by kernel_rfl) rfl) (fun _ hs => ?_)
        refine dP (Value.slice ad4 n1.toNat cap5) 1 [3, 4, 5] hs QZ.no (wanted_none rfl) fun _ hs => ?_
        refine stepDE 2 rfl (wanted_none rfl) (by kernel_rfl) #[] ?_
        refine sP (Value.int .i64 x137) hs fun _ hs => ?_
        refine wpList_nil (⟨fun _ h => h, ?_⟩)
        refine stepDE 3 rfl (wanted_none rfl) (by kernel_rfl) #[] ?_
        obtain ⟨b147, o148, ha, h0, hl, hS⟩ := hS
        refine sY (Value.pointer (some ⟨b147, o148 + x137.toNat * 3, none⟩)) hs (Yl.indexS (e := 46) (sz := 3) rfl rfl rfl rfl (by kernel_rfl) (by kernel_rfl) ha h0 hl) fun _ hs => ?_
        refine wpList_nil (⟨fun _ h => h, ?_⟩)
        refine stepDE 4 rfl (wanted_none rfl) (by kernel_rfl) #[] ?_
        obtain ⟨x149, hat, hS⟩ := hS
        refine sY x149.val hs (Yl.loadV (vs := x149.cells) true rfl rfl (by kernel_rfl) hat) fun _ hs => ?_
        refine wpList_nil (⟨fun _ h => h, ?_⟩)
        refine stepDE 5 rfl (wanted_none rfl) (by kernel_rfl) #[] ?_
        refine sY (Value.bool (!((x144.Empty == x149.Empty) && ((x144.Eats == x149.Eats) && (x144.Fails == x149.Fails))))) hs (Yl.neqC (b := ((x144.Empty == x149.Empty) && ((x144.Eats == x149.Eats) && (x144.Fails == x149.Fails)))) [(Value.bool x144.Empty), (Value.bool x144.Eats), (Value.bool x144.Fails)] [(Value.bool x149.Empty), (Value.bool x149.Eats), (Value.bool x149.Fails)] rfl (by kernel_rfl) (by kernel_rfl) rfl rfl (by kernel_rfl)) fun _ hs => ?_
        refine wpList_nil (⟨fun _ h => h, ?_⟩)
        refine WpD.done (by kernel_rfl) ?_ _
        refine Wp.cond hs rfl rfl (bnot_iff (band_iff beq_iff_eq (band_iff beq_iff_eq beq_iff_eq))) (fun hc => ?_) (fun hc => ?_)
        · have hS := hS.1 hc
          refine Wp.region (sP (Value.slice ad4 n1.toNat cap5) hs fun _ hs => ?_)
          refine sP (Value.int .i64 x137) hs fun _ hs => ?_
          refine sY x144.val hs (Yl.loadB (vs := x144.cells) true 0 rfl rfl rfl (by kernel_rfl) rfl) fun _ hs => ?_
          obtain ⟨b150, o151, ha, h0, hl, hS⟩ := hS
          refine sY (Value.pointer (some ⟨b150, o151 + x137.toNat * 3, none⟩)) hs (Yl.indexS (e := 46) (sz := 3) rfl rfl rfl rfl (by kernel_rfl) (by kernel_rfl) ha h0 hl) fun _ hs => ?_
          obtain ⟨hhas, hwr, hS⟩ := hS
          refine stepStoreW (vs := x144.cells) hs hMM rfl rfl rfl rfl rfl (by kernel_rfl) rfl hhas hwr (fun _ _ M152 hM2 hMM hs => ?_)
          have hS := hS M152 hM2
          refine sP (Value.bool true) hs fun _ hs => ?_
          exact wpList_nil (⟨true, M152, hMM, (hs.weak (.cons _ List.Sublist.slnil) (List.Sublist.refl _) ⟨rfl, rfl, rfl, rfl, rfl, trivial⟩), hS⟩)
        · have hS := hS.2 hc
          exact Wp.skip (⟨more136, M145, hMM, (hs.weak (.cons _ List.Sublist.slnil) (List.Sublist.refl _) ⟨rfl, rfl, rfl, rfl, rfl, trivial⟩), hS⟩)
      · intro a w hJ
        obtain ⟨more153, M154, hMM, hs, hS⟩ := hJ
        unfold S_well_grow_Facts_J1 at hS
        refine Wp.region ?_
        obtain ⟨hI, hS⟩ := hS
        refine sY (Value.int .i64 (x137 + 1)) hs (Yl.eq (Yl.pure (v := Value.int .i64 (IntKind.wrap .i64 (x137 + 1))) rfl (fun _ => by kernel_rfl)) (congrArg (Value.int .i64) (wrap_in hI))) fun _ hs => ?_
        refine sP (Value.int .i64 (x137 + 1)) hs fun _ hs => ?_
        refine wpList_nil ?_
        obtain ⟨gh, hI1, hI2⟩ := hS
        exact ⟨(gh, more153, x137 + 1, M154), ⟨hMM, (hs.weak (List.Sublist.refl _) (List.Sublist.refl _) ⟨rfl, rfl, rfl, rfl, rfl, trivial⟩), hI1⟩, hI2⟩
    · have hS := hS.2 hc
      refine Wp.exit rfl ?_
      obtain ⟨gh, hI1, hI2⟩ := hS
      exact ⟨(gh, more136, M138), ⟨hMM, (hs.weak (List.Sublist.refl _) (List.Sublist.refl _) ⟨rfl, rfl, rfl, trivial⟩), hI1⟩, hI2⟩
  · have hS := hS.2 hc
    refine Wp.exit rfl (Wp.seq (Wp.region (sP (Value.slice ad4 n1.toNat cap5) hs fun _ hs => ?_)))
    refine sP (Value.slice ad4 n1.toNat cap5) hs fun _ hs => ?_
    exact wpList_nil (Wp.ret (leaveW (K := K) hs (resT hs rfl rfl) hMM hS))
theorem e_well_grow_Facts (n1 : Int) (next2 : Value) (M : Mem) (K : Value → Mem → Prop) (hS : S_well_grow_Facts n1 next2 M (fun _ => False) K) : CallE Try.prog 103 #[(Value.int .i64 n1), next2] M K := (s_well_grow_Facts _ _ _ _ _ hS).toE
set_option linter.unusedVariables false in
def S_well_facts (ga1 : Option Addr) (gl2 : Nat) (gc3 : Nat) (M : Mem) (K : Value → Mem → Prop) : Prop :=
  (∀ (M5 : Mem) (b4 : Nat), M.le M5 → At M5 b4 0 [(Value.slice ga1 gl2 gc3)] → (CallE Try.prog 103 #[(Value.int .i64 ((gl2 : Nat) : Int)), (Value.func (.func 104) #[] #[(Value.pointer (some ⟨b4, 0, none⟩))])] M5 (fun v M9 => ∃ (xa6 : Option Addr) (xl7 : Nat) (xc8 : Nat), v = (Value.slice xa6 xl7 xc8) ∧ (∀ M', M9.le M' → K (Value.slice xa6 xl7 xc8) M'))))
set_option linter.unusedVariables false in
set_option maxRecDepth 100000 in
theorem s_well_facts (ga1 : Option Addr) (gl2 : Nat) (gc3 : Nat) (M : Mem) (K : Value → Mem → Prop) (hS : S_well_facts ga1 gl2 gc3 M K) : CallE Try.prog 65 #[(Value.agg #[(Value.slice ga1 gl2 gc3)])] M K := by
  refine enterE Try.func65 rfl 8 rfl (Nat.le_of_ble_eq_true rfl) (fun E a hs => ?_)
  unfold S_well_facts at hS
  have hMM := MX.refl M E
  change Sx 8 E [] M E a [(0, (Value.agg #[(Value.slice ga1 gl2 gc3)]))] [] [] at hs
  refine Wp.seq (Wp.region (stepBox [(Value.slice ga1 gl2 gc3)] hs rfl rfl rfl (by decide) (fun _ _ b4 hEb4 hs => ?_)))
  refine sP (Value.slice none 0 0) hs fun _ hs => ?_
  refine wpList_nil (Wp.seq (Wp.region (sP (Value.pointer (some ⟨b4, 0, none⟩)) hs fun _ hs => ?_)))
  refine sY (Value.slice ga1 gl2 gc3) hs (Yl.loadB (vs := [(Value.slice ga1 gl2 gc3)]) false 0 rfl rfl rfl (by kernel_rfl) rfl) fun _ hs => ?_
  refine sP (Value.int .i64 ((gl2 : Nat) : Int)) hs fun _ hs => ?_
  refine sP (Value.func (.func 104) #[] #[(Value.pointer (some ⟨b4, 0, none⟩))]) hs fun _ hs => ?_
  obtain ⟨M5, hle, hat, hnew, hs⟩ := hs.freeze 0 rfl hEb4 rfl
  have hMM := hMM.next hle hnew
  have hS := hS M5 b4 hle hat
  refine stepCallE [(Value.int .i64 ((gl2 : Nat) : Int)), (Value.func (.func 104) #[] #[(Value.pointer (some ⟨b4, 0, none⟩))])] hs rfl ⟨_, rfl, rfl⟩ rfl Try.func103 rfl (by kernel_rfl) (by decide) hS (fun _ _ M9 v hle hnew hS hs => ?_)
  have hMM := hMM.next hle hnew
  obtain ⟨xa6, xl7, xc8, hv, hS⟩ := hS
  subst hv
  refine sP (Value.slice xa6 xl7 xc8) hs fun _ hs => ?_
  exact wpList_nil (Wp.ret (leaveE (K := K) hs (resT hs rfl rfl) hMM.2 hS))
set_option linter.unusedVariables false in
def S_well_Facts (ga1 : Option Addr) (gl2 : Nat) (gc3 : Nat) (M : Mem) (K : Value → Mem → Prop) : Prop :=
  (CallE Try.prog 49 #[(Value.agg #[(Value.slice ga1 gl2 gc3)])] M (fun v _ => ∃ (x5 : Int), v = (Value.int .i64 x5) ∧ (((x5 : Int) ≠ 0 → (∀ M', M.le M' → K (Value.tuple #[(Value.slice none 0 0), (Value.int .i64 x5)]) M')) ∧ (¬ ((x5 : Int) ≠ 0) → (CallE Try.prog 65 #[(Value.agg #[(Value.slice ga1 gl2 gc3)])] M (fun v M9 => ∃ (xa6 : Option Addr) (xl7 : Nat) (xc8 : Nat), v = (Value.slice xa6 xl7 xc8) ∧ (∀ M', M9.le M' → K (Value.tuple #[(Value.slice xa6 xl7 xc8), (Value.int .i64 0)]) M')))))))
set_option linter.unusedVariables false in
set_option maxRecDepth 100000 in
theorem s_well_Facts (ga1 : Option Addr) (gl2 : Nat) (gc3 : Nat) (M : Mem) (K : Value → Mem → Prop) (hS : S_well_Facts ga1 gl2 gc3 M K) : CallE Try.prog 24 #[(Value.agg #[(Value.slice ga1 gl2 gc3)])] M K := by
  refine enterE Try.func24 rfl 12 rfl (Nat.le_of_ble_eq_true rfl) (fun E a hs => ?_)
  unfold S_well_Facts at hS
  have hMM := MX.refl M E
  change Sx 12 E [] M E a [(0, (Value.agg #[(Value.slice ga1 gl2 gc3)]))] [] [] at hs
  refine Wp.seq (Wp.region (stepBox [(Value.slice ga1 gl2 gc3)] hs rfl rfl rfl (by decide) (fun _ _ b4 hEb4 hs => ?_)))
  refine sP (Value.slice none 0 0) hs fun _ hs => ?_
  refine sP (Value.int .i64 0) hs fun _ hs => ?_
  refine wpList_nil (Wp.seq (Wp.seq (Wp.region (sY (Value.agg #[(Value.slice ga1 gl2 gc3)]) hs (Yl.loadB (vs := [(Value.slice ga1 gl2 gc3)]) true 0 rfl rfl rfl (by kernel_rfl) rfl) fun _ hs => ?_))))
  refine stepCallP [(Value.agg #[(Value.slice ga1 gl2 gc3)])] hs rfl ⟨_, rfl, rfl⟩ rfl Try.func49 rfl (by kernel_rfl) (by decide) hS (fun _ _ v hS hs => ?_)
  obtain ⟨x5, hv, hS⟩ := hS
  subst hv
  refine sP (Value.int .i64 x5) hs fun _ hs => ?_
  refine wpList_nil (Wp.seq (Wp.region (sP (Value.int .i64 x5) hs fun _ hs => ?_)))
  refine sP (Value.bool ((x5 : Int) != (0 : Int))) hs fun _ hs => ?_
  refine wpList_nil (Wp.cond hs rfl rfl bne_iff_ne (fun hc => ?_) (fun hc => ?_))
  · have hS := hS.1 hc
    refine Wp.seq (Wp.region (sP (Value.int .i64 x5) hs fun _ hs => ?_))
    refine sP (Value.slice none 0 0) hs fun _ hs => ?_
    refine sP (Value.int .i64 x5) hs fun _ hs => ?_
    exact wpList_nil (Wp.ret (leaveE (K := K) hs (resTT hs rfl rfl rfl) hMM.2 hS))
  · have hS := hS.2 hc
    refine Wp.skip (Wp.seq (Wp.region (sY (Value.agg #[(Value.slice ga1 gl2 gc3)]) hs (Yl.loadB (vs := [(Value.slice ga1 gl2 gc3)]) true 0 rfl rfl rfl (by kernel_rfl) rfl) fun _ hs => ?_)))
    refine stepCallE [(Value.agg #[(Value.slice ga1 gl2 gc3)])] hs rfl ⟨_, rfl, rfl⟩ rfl Try.func65 rfl (by kernel_rfl) (by decide) hS (fun _ _ M9 v hle hnew hS hs => ?_)
    have hMM := hMM.next hle hnew
    obtain ⟨xa6, xl7, xc8, hv, hS⟩ := hS
    subst hv
    refine sP (Value.slice xa6 xl7 xc8) hs fun _ hs => ?_
    refine sP (Value.int .i64 0) hs fun _ hs => ?_
    exact wpList_nil (Wp.ret (leaveE (K := K) hs (resTT hs rfl rfl rfl) hMM.2 hS))
set_option linter.unusedVariables false in
def S_well_loops_J1 (ga1 : Option Addr) (gl2 : Nat) (gc3 : Nat) (fa4 : Option Addr) (fl5 : Nat) (fc6 : Nat) (e7 : X_api_Expr) (M : Mem) (x14 : Bool) (K : Value → Prop) : Prop :=
  ((x14 = true → K (Value.bool true)) ∧ (¬ (x14 = true) → (∃ (I22 : Int → Prop) (mu23 : Int → Nat), I22 0 ∧ ∀ (x21 : Int), (I22 x21 → ((x21 < ((e7.Kids_l : Nat) : Int) → (∃ (b24 o25 : Nat), e7.Kids_a = some ⟨b24, o25, none⟩ ∧ (0 : Int) ≤ x21 ∧ x21 < ((e7.Kids_l : Nat) : Int) ∧ (∃ (x26 : X_api_Expr), At M b24 (o25 + x21.toNat * 7) x26.cells ∧ (CallE Try.prog 68 #[(Value.agg #[(Value.slice ga1 gl2 gc3)]), (Value.slice fa4 fl5 fc6), x26.val] M (fun v _ => ∃ (x28 : Bool), v = (Value.bool x28) ∧ ((x28 = true → K (Value.bool true)) ∧ (¬ (x28 = true) → (InI (x21 + 1) ∧ I22 (x21 + 1) ∧ mu23 (x21 + 1) < mu23 x21)))))))) ∧ (¬ (x21 < ((e7.Kids_l : Nat) : Int)) → K (Value.bool false)))))))
set_option linter.unusedVariables false in
def S_well_loops (ga1 : Option Addr) (gl2 : Nat) (gc3 : Nat) (fa4 : Option Addr) (fl5 : Nat) (fc6 : Nat) (e7 : X_api_Expr) (M : Mem) (K : Value → Prop) : Prop :=
  (((e7.Kind : Int) = 7 → (∃ (b10 o11 : Nat), e7.Kids_a = some ⟨b10, o11, none⟩ ∧ (0 : Int) ≤ 0 ∧ 0 < ((e7.Kids_l : Nat) : Int) ∧ (∃ (x12 : X_api_Expr), At M b10 (o11 + (0 : Int).toNat * 7) x12.cells ∧ (CallE Try.prog 105 #[(Value.agg #[(Value.slice ga1 gl2 gc3)]), (Value.slice fa4 fl5 fc6), x12.val] M (fun v _ => ∃ (x13 : X_api_Facts), v = x13.val ∧ (S_well_loops_J1 ga1 gl2 gc3 fa4 fl5 fc6 e7 M x13.Empty K)))))) ∧ (¬ ((e7.Kind : Int) = 7) → (((e7.Kind : Int) = 8 → (∃ (b10 o11 : Nat), e7.Kids_a = some ⟨b10, o11, none⟩ ∧ (0 : Int) ≤ 0 ∧ 0 < ((e7.Kids_l : Nat) : Int) ∧ (∃ (x12 : X_api_Expr), At M b10 (o11 + (0 : Int).toNat * 7) x12.cells ∧ (CallE Try.prog 105 #[(Value.agg #[(Value.slice ga1 gl2 gc3)]), (Value.slice fa4 fl5 fc6), x12.val] M (fun v _ => ∃ (x13 : X_api_Facts), v = x13.val ∧ (S_well_loops_J1 ga1 gl2 gc3 fa4 fl5 fc6 e7 M x13.Empty K)))))) ∧ (¬ ((e7.Kind : Int) = 8) → (S_well_loops_J1 ga1 gl2 gc3 fa4 fl5 fc6 e7 M false K)))))
set_option linter.unusedVariables false in
set_option maxRecDepth 100000 in
theorem s_well_loops (ga1 : Option Addr) (gl2 : Nat) (gc3 : Nat) (fa4 : Option Addr) (fl5 : Nat) (fc6 : Nat) (e7 : X_api_Expr) (M : Mem) (K : Value → Prop) (hS : S_well_loops ga1 gl2 gc3 fa4 fl5 fc6 e7 M K) : CallE Try.prog 68 #[(Value.agg #[(Value.slice ga1 gl2 gc3)]), (Value.slice fa4 fl5 fc6), e7.val] M (fun v _ => K v) := by
  refine enterE Try.func68 rfl 39 rfl (Nat.le_of_ble_eq_true rfl) (fun E a hs => ?_)
  unfold S_well_loops at hS
  have hMM := MX.refl M E
  change Sx 39 E [] M E a [(0, (Value.agg #[(Value.slice ga1 gl2 gc3)])), (1, (Value.slice fa4 fl5 fc6)), (2, e7.val)] [] [] at hs
  refine Wp.seq (Wp.region (stepBox [(Value.slice ga1 gl2 gc3)] hs rfl rfl rfl (by decide) (fun _ _ b8 hEb8 hs => ?_)))
  refine stepBox [(Value.int .i64 e7.Kind), (Value.int .u64 e7.Set.w0), (Value.int .u64 e7.Set.w1), (Value.int .u64 e7.Set.w2), (Value.int .u64 e7.Set.w3), (Value.string (mkS e7.Text)), (Value.slice e7.Kids_a e7.Kids_l e7.Kids_c)] hs rfl rfl rfl (by decide) (fun _ _ b9 hEb9 hs => ?_)
  refine sP (Value.bool false) hs fun _ hs => ?_
  refine wpList_nil (Wp.seq (Wp.join (fun a w => ∃ (x14 : Bool), Sx 39 E [] M w a [(1, (Value.slice fa4 fl5 fc6)), (3, (Value.pointer (some ⟨b8, 0, none⟩))), (5, (Value.pointer (some ⟨b9, 0, none⟩))), (26, (Value.bool x14))] [⟨b9, 96, [(Value.int .i64 e7.Kind), (Value.int .u64 e7.Set.w0), (Value.int .u64 e7.Set.w1), (Value.int .u64 e7.Set.w2), (Value.int .u64 e7.Set.w3), (Value.string (mkS e7.Text)), (Value.slice e7.Kids_a e7.Kids_l e7.Kids_c)]⟩, ⟨b8, 24, [(Value.slice ga1 gl2 gc3)]⟩] [] ∧ (S_well_loops_J1 ga1 gl2 gc3 fa4 fl5 fc6 e7 M x14 K)) ?_ ?_))
  · refine Wp.regionD [true, true, true, true, true, true, true, true, true, true, true, true, true, true, true, true, true, true] hs (by kernel_rfl) rfl [⟨b9, 96, [(Value.int .i64 e7.Kind), (Value.int .u64 e7.Set.w0), (Value.int .u64 e7.Set.w1), (Value.int .u64 e7.Set.w2), (Value.int .u64 e7.Set.w3), (Value.string (mkS e7.Text)), (Value.slice e7.Kids_a e7.Kids_l e7.Kids_c)]⟩, ⟨b8, 24, [(Value.slice ga1 gl2 gc3)]⟩] (fun _ h => h) [] (fun _ h => h) (fun _ hs hC => ?_)
    have hL := Mem.le.refl M
    refine stepDE 0 rfl (wanted_none rfl) (by kernel_rfl) #[] ?_
    refine sP (Value.pointer (some ⟨b9, 0, none⟩)) hs fun _ hs => ?_
    refine wpList_nil (⟨fun _ h => h, ?_⟩)
    refine stepDE 1 rfl (wanted_none rfl) (by kernel_rfl) #[] ?_
    refine sY (Value.int .i64 e7.Kind) hs (Yl.loadB (vs := [(Value.int .i64 e7.Kind)]) false 0 rfl rfl rfl (by kernel_rfl) rfl) fun _ hs => ?_
    refine wpList_nil (⟨fun _ h => h, ?_⟩)
    refine stepDE 2 rfl (wanted_none rfl) (by kernel_rfl) #[] ?_
    refine sP (Value.bool ((e7.Kind : Int) == (7 : Int))) hs fun _ hs => ?_
    refine wpList_nil (⟨fun _ h => h, ?_⟩)
    refine stepDE 3 rfl (wanted_none rfl) (by kernel_rfl) #[] ?_
    refine sP (Value.bool ((e7.Kind : Int) == (7 : Int))) hs fun _ hs => ?_
    refine wpList_nil (⟨fun _ h => h, ?_⟩)
    refine bsplit ((e7.Kind : Int) == (7 : Int)) beq_iff_eq (fun hb hc => ?_) (fun hb hc => ?_)
    · have hs := hs.bt hb
      have hS := hS.1 hc
      refine dN 4 [5, 6, 7, 8, 9, 10, 11, 12, 13, 14, 15, 16, 17] hs QZ.no (wanted_no hs rfl rfl rfl rfl) fun _ hs => ?_
      refine dN 5 [6, 7, 8, 9, 10, 11, 12, 13, 14, 15, 16, 17] hs QZ.no (wanted_no hs rfl rfl rfl rfl) fun _ hs => ?_
      refine dN 6 [7, 8, 9, 10, 11, 12, 13, 14, 15, 16, 17] hs QZ.no (wanted_no hs rfl rfl rfl rfl) fun _ hs => ?_
      refine stepDE 7 rfl (wanted_none rfl) (by kernel_rfl) #[] ?_
      refine sP (Value.bool true) hs fun _ hs => ?_
      refine wpList_nil (⟨fun _ h => h, ?_⟩)
      refine stepDE 8 rfl (wanted_none rfl) (by kernel_rfl) #[] ?_
      refine sP (Value.bool true) hs fun _ hs => ?_
      refine wpList_nil (⟨fun _ h => h, ?_⟩)
      refine stepDY (v := (Value.agg #[(Value.slice ga1 gl2 gc3)])) 9 [15, 16, 17] hs hC QZ.no rfl (wanted_yes hs rfl rfl rfl) rfl (by decide) (by kernel_rfl) (by kernel_rfl) (by kernel_rfl) (Yl.loadB (vs := [(Value.slice ga1 gl2 gc3)]) true 1 rfl rfl rfl (by kernel_rfl) rfl) (fun _ hs => ?_)
      refine dP (Value.slice fa4 fl5 fc6) 10 [15, 16, 17] hs QZ.no (wanted_yes hs rfl rfl rfl) fun _ hs => ?_
      refine stepDE 11 rfl (wanted_yes hs rfl rfl rfl) (by kernel_rfl) #[] ?_
      refine sP (Value.pointer (some ⟨b9, 6, none⟩)) hs fun _ hs => ?_
      refine wpList_nil (⟨fun _ h => h, ?_⟩)
      refine stepDE 12 rfl (wanted_yes hs rfl rfl rfl) (by kernel_rfl) #[] ?_
      refine sY (Value.slice e7.Kids_a e7.Kids_l e7.Kids_c) hs (Yl.loadB (vs := [(Value.slice e7.Kids_a e7.Kids_l e7.Kids_c)]) false 0 rfl rfl rfl (by kernel_rfl) rfl) fun _ hs => ?_
      refine wpList_nil (⟨fun _ h => h, ?_⟩)
      refine stepDE 13 rfl (wanted_yes hs rfl rfl rfl) (by kernel_rfl) #[] ?_
      obtain ⟨b10, o11, ha, h0, hl, hS⟩ := hS
      refine sY (Value.pointer (some ⟨b10, o11 + (0 : Int).toNat * 7, none⟩)) hs (Yl.indexS (e := 96) (sz := 7) rfl rfl rfl rfl (by kernel_rfl) (by kernel_rfl) ha h0 hl) fun _ hs => ?_
      refine wpList_nil (⟨fun _ h => h, ?_⟩)
      refine stepDE 14 rfl (wanted_yes hs rfl rfl rfl) (by kernel_rfl) #[] ?_
      obtain ⟨x12, hat, hS⟩ := hS
      refine sY x12.val hs (Yl.loadV (vs := x12.cells) true rfl rfl (by kernel_rfl) hat) fun _ hs => ?_
      refine wpList_nil (⟨fun _ h => h, ?_⟩)
      refine stepDE 15 rfl (wanted_yes hs rfl rfl rfl) (by kernel_rfl) #[] ?_
      refine stepCallP [(Value.agg #[(Value.slice ga1 gl2 gc3)]), (Value.slice fa4 fl5 fc6), x12.val] hs rfl ⟨_, rfl, rfl⟩ rfl Try.func105 rfl (by kernel_rfl) (by decide) hS (fun _ _ v hS hs => ?_)
      obtain ⟨x13, hv, hS⟩ := hS
      subst hv
      refine wpList_nil (⟨fun _ _ => hs.cxle hL (List.Sublist.refl _) (List.Sublist.refl _), ?_⟩)
      have hC := hs.cxle hL (List.Sublist.refl _) (List.Sublist.refl _)
      refine stepDE 16 rfl (wanted_yes hs rfl rfl rfl) (by kernel_rfl) #[] ?_
      refine sP (Value.bool x13.Empty) hs fun _ hs => ?_
      refine wpList_nil (⟨fun _ h => h, ?_⟩)
      refine stepDE 17 rfl (wanted_none rfl) (by kernel_rfl) #[] ?_
      refine sP (Value.bool x13.Empty) hs fun _ hs => ?_
      refine wpList_nil (⟨fun _ h => h, ?_⟩)
      refine WpD.done (by kernel_rfl) ?_ _
      exact ⟨x13.Empty, (hs.weak (List.Sublist.refl _) (List.Sublist.refl _) ⟨rfl, rfl, rfl, rfl, trivial⟩), hS⟩
    · have hs := hs.bf hb
      have hS := hS.2 hc
      refine stepDE 4 rfl (wanted_yes hs rfl rfl rfl) (by kernel_rfl) #[] ?_
      refine sP (Value.pointer (some ⟨b9, 0, none⟩)) hs fun _ hs => ?_
      refine wpList_nil (⟨fun _ h => h, ?_⟩)
      refine stepDE 5 rfl (wanted_yes hs rfl rfl rfl) (by kernel_rfl) #[] ?_
      refine sY (Value.int .i64 e7.Kind) hs (Yl.loadB (vs := [(Value.int .i64 e7.Kind)]) false 0 rfl rfl rfl (by kernel_rfl) rfl) fun _ hs => ?_
      refine wpList_nil (⟨fun _ h => h, ?_⟩)
      refine stepDE 6 rfl (wanted_yes hs rfl rfl rfl) (by kernel_rfl) #[] ?_
      refine sP (Value.bool ((e7.Kind : Int) == (8 : Int))) hs fun _ hs => ?_
      refine wpList_nil (⟨fun _ h => h, ?_⟩)
      refine stepDE 7 rfl (wanted_none rfl) (by kernel_rfl) #[] ?_
      refine sP (Value.bool ((e7.Kind : Int) == (8 : Int))) hs fun _ hs => ?_
      refine wpList_nil (⟨fun _ h => h, ?_⟩)
      refine stepDE 8 rfl (wanted_none rfl) (by kernel_rfl) #[] ?_
      refine sP (Value.bool ((e7.Kind : Int) == (8 : Int))) hs fun _ hs => ?_
      refine wpList_nil (⟨fun _ h => h, ?_⟩)
      refine bsplit ((e7.Kind : Int) == (8 : Int)) beq_iff_eq (fun hb hc => ?_) (fun hb hc => ?_)
      · have hs := hs.bt hb
        have hS := hS.1 hc
        refine stepDY (v := (Value.agg #[(Value.slice ga1 gl2 gc3)])) 9 [15, 16, 17] hs hC QZ.no rfl (wanted_yes hs rfl rfl rfl) rfl (by decide) (by kernel_rfl) (by kernel_rfl) (by kernel_rfl) (Yl.loadB (vs := [(Value.slice ga1 gl2 gc3)]) true 1 rfl rfl rfl (by kernel_rfl) rfl) (fun _ hs => ?_)
        refine dP (Value.slice fa4 fl5 fc6) 10 [15, 16, 17] hs QZ.no (wanted_yes hs rfl rfl rfl) fun _ hs => ?_
        refine stepDE 11 rfl (wanted_yes hs rfl rfl rfl) (by kernel_rfl) #[] ?_
        refine sP (Value.pointer (some ⟨b9, 6, none⟩)) hs fun _ hs => ?_
        refine wpList_nil (⟨fun _ h => h, ?_⟩)
        refine stepDE 12 rfl (wanted_yes hs rfl rfl rfl) (by kernel_rfl) #[] ?_
        refine sY (Value.slice e7.Kids_a e7.Kids_l e7.Kids_c) hs (Yl.loadB (vs := [(Value.slice e7.Kids_a e7.Kids_l e7.Kids_c)]) false 0 rfl rfl rfl (by kernel_rfl) rfl) fun _ hs => ?_
        refine wpList_nil (⟨fun _ h => h, ?_⟩)
        refine stepDE 13 rfl (wanted_yes hs rfl rfl rfl) (by kernel_rfl) #[] ?_
        obtain ⟨b10, o11, ha, h0, hl, hS⟩ := hS
        refine sY (Value.pointer (some ⟨b10, o11 + (0 : Int).toNat * 7, none⟩)) hs (Yl.indexS (e := 96) (sz := 7) rfl rfl rfl rfl (by kernel_rfl) (by kernel_rfl) ha h0 hl) fun _ hs => ?_
        refine wpList_nil (⟨fun _ h => h, ?_⟩)
        refine stepDE 14 rfl (wanted_yes hs rfl rfl rfl) (by kernel_rfl) #[] ?_
        obtain ⟨x12, hat, hS⟩ := hS
        refine sY x12.val hs (Yl.loadV (vs := x12.cells) true rfl rfl (by kernel_rfl) hat) fun _ hs => ?_
        refine wpList_nil (⟨fun _ h => h, ?_⟩)
        refine stepDE 15 rfl (wanted_yes hs rfl rfl rfl) (by kernel_rfl) #[] ?_
        refine stepCallP [(Value.agg #[(Value.slice ga1 gl2 gc3)]), (Value.slice fa4 fl5 fc6), x12.val] hs rfl ⟨_, rfl, rfl⟩ rfl Try.func105 rfl (by kernel_rfl) (by decide) hS (fun _ _ v hS hs => ?_)
        obtain ⟨x13, hv, hS⟩ := hS
        subst hv
        refine wpList_nil (⟨fun _ _ => hs.cxle hL (List.Sublist.refl _) (List.Sublist.refl _), ?_⟩)
        have hC := hs.cxle hL (List.Sublist.refl _) (List.Sublist.refl _)
        refine stepDE 16 rfl (wanted_yes hs rfl rfl rfl) (by kernel_rfl) #[] ?_
        refine sP (Value.bool x13.Empty) hs fun _ hs => ?_
        refine wpList_nil (⟨fun _ h => h, ?_⟩)
        refine stepDE 17 rfl (wanted_none rfl) (by kernel_rfl) #[] ?_
        refine sP (Value.bool x13.Empty) hs fun _ hs => ?_
        refine wpList_nil (⟨fun _ h => h, ?_⟩)
        refine WpD.done (by kernel_rfl) ?_ _
        exact ⟨x13.Empty, (hs.weak (List.Sublist.refl _) (List.Sublist.refl _) ⟨rfl, rfl, rfl, rfl, trivial⟩), hS⟩
      · have hs := hs.bf hb
        have hS := hS.2 hc
        refine dN 9 [15, 16, 17] hs QZ.no (wanted_no hs rfl rfl rfl rfl) fun _ hs => ?_
        refine dN 10 [15, 16, 17] hs QZ.no (wanted_no hs rfl rfl rfl rfl) fun _ hs => ?_
        refine dN 11 [12, 13, 14, 15, 16, 17] hs QZ.no (wanted_no hs rfl rfl rfl rfl) fun _ hs => ?_
        refine dN 12 [13, 14, 15, 16, 17] hs QZ.no (wanted_no hs rfl rfl rfl rfl) fun _ hs => ?_
        refine dN 13 [14, 15, 16, 17] hs QZ.no (wanted_no hs rfl rfl rfl rfl) fun _ hs => ?_
        refine dN 14 [15, 16, 17] hs QZ.no (wanted_no hs rfl rfl rfl rfl) fun _ hs => ?_
        refine dN 15 [16, 17] hs QZ.no (wanted_no hs rfl rfl rfl rfl) fun _ hs => ?_
        refine dN 16 [17] hs QZ.no (wanted_no hs rfl rfl rfl rfl) fun _ hs => ?_
        refine stepDE 17 rfl (wanted_none rfl) (by kernel_rfl) #[] ?_
        refine sP (Value.bool false) hs fun _ hs => ?_
        refine wpList_nil (⟨fun _ h => h, ?_⟩)
        refine WpD.done (by kernel_rfl) ?_ _
        exact ⟨false, (hs.weak (List.Sublist.refl _) (List.Sublist.refl _) ⟨rfl, rfl, rfl, rfl, trivial⟩), hS⟩
  · intro a w hJ
    obtain ⟨x14, hs, hS⟩ := hJ
    unfold S_well_loops_J1 at hS
    refine Wp.cond hs rfl rfl Iff.rfl (fun hc => ?_) (fun hc => ?_)
    · have hS := hS.1 hc
      refine Wp.seq (Wp.region (sP (Value.bool true) hs fun _ hs => ?_))
      exact wpList_nil (Wp.ret (leaveE (K := fun v _ => K v) hs (resT hs rfl rfl) hMM.2 (fun _ _ => hS)))
    · have hS := hS.2 hc
      refine Wp.skip (Wp.seq (Wp.seq (Wp.region (sP (Value.pointer (some ⟨b9, 6, none⟩)) hs fun _ hs => ?_))))
      refine sY (Value.slice e7.Kids_a e7.Kids_l e7.Kids_c) hs (Yl.loadB (vs := [(Value.slice e7.Kids_a e7.Kids_l e7.Kids_c)]) false 0 rfl rfl rfl (by kernel_rfl) rfl) fun _ hs => ?_
      refine sP (Value.int .i64 ((e7.Kids_l : Nat) : Int)) hs fun _ hs => ?_
      refine sP (Value.int .i64 0) hs fun _ hs => ?_
      refine wpList_nil (Wp.block ?_)
      obtain ⟨I22, mu23, hI0, hst⟩ := hS
      refine Wp.loop (σ := (Int)) (fun s a w => match s with | (x21) => Sx 39 E [] M w a [(1, (Value.slice fa4 fl5 fc6)), (3, (Value.pointer (some ⟨b8, 0, none⟩))), (28, (Value.slice e7.Kids_a e7.Kids_l e7.Kids_c)), (29, (Value.int .i64 ((e7.Kids_l : Nat) : Int))), (30, (Value.int .i64 x21))] [⟨b9, 96, [(Value.int .i64 e7.Kind), (Value.int .u64 e7.Set.w0), (Value.int .u64 e7.Set.w1), (Value.int .u64 e7.Set.w2), (Value.int .u64 e7.Set.w3), (Value.string (mkS e7.Text)), (Value.slice e7.Kids_a e7.Kids_l e7.Kids_c)]⟩, ⟨b8, 24, [(Value.slice ga1 gl2 gc3)]⟩] [] ∧ I22 x21) (fun s => match s with | (x21) => mu23 x21) (0) ⟨(hs.weak (List.Sublist.refl _) (List.Sublist.refl _) ⟨rfl, rfl, rfl, rfl, rfl, trivial⟩), hI0⟩ (fun x21 a w hI => ?_)
      obtain ⟨hs, hI⟩ := hI
      have hS := hst x21 hI
      clear hst hI0 hI
      refine Wp.seq (Wp.region (sP (Value.bool (decide (x21 < ((e7.Kids_l : Nat) : Int)))) hs fun _ hs => ?_))
      refine wpList_nil (Wp.seq (Wp.cond hs rfl rfl decide_eq_true_iff (fun hc => ?_) (fun hc => ?_)))
      · have hS := hS.1 hc
        refine Wp.skip (Wp.seq (Wp.block (Wp.seq (Wp.region ?_))))
        obtain ⟨b24, o25, ha, h0, hl, hS⟩ := hS
        refine sY (Value.pointer (some ⟨b24, o25 + x21.toNat * 7, none⟩)) hs (Yl.indexS (e := 96) (sz := 7) rfl rfl rfl rfl (by kernel_rfl) (by kernel_rfl) ha h0 hl) fun _ hs => ?_
        obtain ⟨x26, hat, hS⟩ := hS
        refine sY x26.val hs (Yl.loadV (vs := x26.cells) true rfl rfl (by kernel_rfl) hat) fun _ hs => ?_
        refine stepAlloc [(Value.int .i64 0), (Value.int .u64 0), (Value.int .u64 0), (Value.int .u64 0), (Value.int .u64 0), (Value.string (mkS [])), (Value.slice none 0 0)] hs (by kernel_rfl) (by decide) (fun _ _ b27 hEb27 hs => ?_)
        have hs := hs.nilrow 96 7
        refine stepStoreB 0 (vs := [(Value.int .i64 x26.Kind), (Value.int .u64 x26.Set.w0), (Value.int .u64 x26.Set.w1), (Value.int .u64 x26.Set.w2), (Value.int .u64 x26.Set.w3), (Value.string (mkS x26.Text)), (Value.slice x26.Kids_a x26.Kids_l x26.Kids_c)]) hs rfl rfl rfl rfl rfl rfl (by kernel_rfl) (Nat.le_of_ble_eq_true rfl) rfl (fun _ _ hs => ?_)
        replace hs := hs.chbx (bs' := [⟨b27, 96, [(Value.int .i64 x26.Kind), (Value.int .u64 x26.Set.w0), (Value.int .u64 x26.Set.w1), (Value.int .u64 x26.Set.w2), (Value.int .u64 x26.Set.w3), (Value.string (mkS x26.Text)), (Value.slice x26.Kids_a x26.Kids_l x26.Kids_c)]⟩, ⟨b9, 96, [(Value.int .i64 e7.Kind), (Value.int .u64 e7.Set.w0), (Value.int .u64 e7.Set.w1), (Value.int .u64 e7.Set.w2), (Value.int .u64 e7.Set.w3), (Value.string (mkS e7.Text)), (Value.slice e7.Kids_a e7.Kids_l e7.Kids_c)]⟩, ⟨b8, 24, [(Value.slice ga1 gl2 gc3)]⟩]) rfl
        refine wpList_nil (Wp.seq (Wp.region (sY (Value.agg #[(Value.slice ga1 gl2 gc3)]) hs (Yl.loadB (vs := [(Value.slice ga1 gl2 gc3)]) true 2 rfl rfl rfl (by kernel_rfl) rfl) fun _ hs => ?_)))
        refine sP (Value.slice fa4 fl5 fc6) hs fun _ hs => ?_
        refine sY x26.val hs (Yl.loadB (vs := x26.cells) true 0 rfl rfl rfl (by kernel_rfl) rfl) fun _ hs => ?_
        refine stepCallP [(Value.agg #[(Value.slice ga1 gl2 gc3)]), (Value.slice fa4 fl5 fc6), x26.val] hs rfl ⟨_, rfl, rfl⟩ rfl Try.func68 rfl (by kernel_rfl) (by decide) hS (fun _ _ v hS hs => ?_)
        obtain ⟨x28, hv, hS⟩ := hS
        subst hv
        refine wpList_nil (Wp.cond hs rfl rfl Iff.rfl (fun hc => ?_) (fun hc => ?_))
        · have hS := hS.1 hc
          refine Wp.seq (Wp.region (sP (Value.bool true) hs fun _ hs => ?_))
          exact wpList_nil (Wp.ret (leaveE (K := fun v _ => K v) hs (resT hs rfl rfl) hMM.2 (fun _ _ => hS)))
        · have hS := hS.2 hc
          refine Wp.skip (Wp.region ?_)
          obtain ⟨hI, hS⟩ := hS
          refine sY (Value.int .i64 (x21 + 1)) hs (Yl.eq (Yl.pure (v := Value.int .i64 (IntKind.wrap .i64 (x21 + 1))) rfl (fun _ => by kernel_rfl)) (congrArg (Value.int .i64) (wrap_in hI))) fun _ hs => ?_
          refine sP (Value.int .i64 (x21 + 1)) hs fun _ hs => ?_
          exact wpList_nil (⟨(x21 + 1), ⟨(hs.weak (.cons _ (.cons_cons _ (.cons_cons _ List.Sublist.slnil))) (.cons _ List.Sublist.slnil) ⟨rfl, rfl, rfl, rfl, rfl, trivial⟩), hS.1⟩, hS.2⟩)
      · have hS := hS.2 hc
        refine Wp.exit rfl (Wp.seq (Wp.region (sP (Value.bool false) hs fun _ hs => ?_)))
        exact wpList_nil (Wp.ret (leaveE (K := fun v _ => K v) hs (resT hs rfl rfl) hMM.2 (fun _ _ => hS)))
set_option linter.unusedVariables false in
def S_well_sound (ga1 : Option Addr) (gl2 : Nat) (gc3 : Nat) (fa4 : Option Addr) (fl5 : Nat) (fc6 : Nat) (knowna7 : Option Addr) (knownl8 : Nat) (knownc9 : Nat) (e10 : X_api_Expr) (M : Mem) (K : Value → Prop) : Prop :=
  (((e10.Kind : Int) = 4 → (CallE Try.prog 53 #[(Value.agg #[(Value.slice ga1 gl2 gc3)]), (Value.string (mkS e10.Text))] M (fun v _ => ∃ (x13 : Int), v = (Value.int .i64 x13) ∧ (∃ (b14 o15 : Nat), knowna7 = some ⟨b14, o15, none⟩ ∧ (0 : Int) ≤ x13 ∧ x13 < ((knownl8 : Nat) : Int) ∧ (∃ (x16 : Bool), At M b14 (o15 + x13.toNat * 1) [(Value.bool x16)] ∧ K (Value.bool x16)))))) ∧ (¬ ((e10.Kind : Int) = 4) → (((e10.Kind : Int) = 5 → (∃ (I25 : Int → Prop) (mu26 : Int → Nat), I25 0 ∧ ∀ (x24 : Int), (I25 x24 → ((x24 < ((e10.Kids_l : Nat) : Int) → (∃ (b27 o28 : Nat), e10.Kids_a = some ⟨b27, o28, none⟩ ∧ (0 : Int) ≤ x24 ∧ x24 < ((e10.Kids_l : Nat) : Int) ∧ (∃ (x29 : X_api_Expr), At M b27 (o28 + x24.toNat * 7) x29.cells ∧ (CallE Try.prog 71 #[(Value.agg #[(Value.slice ga1 gl2 gc3)]), (Value.slice fa4 fl5 fc6), (Value.slice knowna7 knownl8 knownc9), x29.val] M (fun v _ => ∃ (x31 : Bool), v = (Value.bool x31) ∧ ((¬ (x31 = true) → K (Value.bool false)) ∧ (¬ (¬ (x31 = true)) → (CallE Try.prog 105 #[(Value.agg #[(Value.slice ga1 gl2 gc3)]), (Value.slice fa4 fl5 fc6), x29.val] M (fun v _ => ∃ (x32 : X_api_Facts), v = x32.val ∧ ((¬ (x32.Empty = true) → K (Value.bool true)) ∧ (¬ (¬ (x32.Empty = true)) → (InI (x24 + 1) ∧ I25 (x24 + 1) ∧ mu26 (x24 + 1) < mu26 x24)))))))))))) ∧ (¬ (x24 < ((e10.Kids_l : Nat) : Int)) → K (Value.bool true)))))) ∧ (¬ ((e10.Kind : Int) = 5) → (∃ (I40 : Int → Prop) (mu41 : Int → Nat), I40 0 ∧ ∀ (x39 : Int), (I40 x39 → ((x39 < ((e10.Kids_l : Nat) : Int) → (∃ (b42 o43 : Nat), e10.Kids_a = some ⟨b42, o43, none⟩ ∧ (0 : Int) ≤ x39 ∧ x39 < ((e10.Kids_l : Nat) : Int) ∧ (∃ (x44 : X_api_Expr), At M b42 (o43 + x39.toNat * 7) x44.cells ∧ (CallE Try.prog 71 #[(Value.agg #[(Value.slice ga1 gl2 gc3)]), (Value.slice fa4 fl5 fc6), (Value.slice knowna7 knownl8 knownc9), x44.val] M (fun v _ => ∃ (x46 : Bool), v = (Value.bool x46) ∧ ((¬ (x46 = true) → K (Value.bool false)) ∧ (¬ (¬ (x46 = true)) → (InI (x39 + 1) ∧ I40 (x39 + 1) ∧ mu41 (x39 + 1) < mu41 x39)))))))) ∧ (¬ (x39 < ((e10.Kids_l : Nat) : Int)) → K (Value.bool true)))))))))
set_option linter.unusedVariables false in
set_option maxRecDepth 100000 in
theorem s_well_sound (ga1 : Option Addr) (gl2 : Nat) (gc3 : Nat) (fa4 : Option Addr) (fl5 : Nat) (fc6 : Nat) (knowna7 : Option Addr) (knownl8 : Nat) (knownc9 : Nat) (e10 : X_api_Expr) (M : Mem) (K : Value → Prop) (hS : S_well_sound ga1 gl2 gc3 fa4 fl5 fc6 knowna7 knownl8 knownc9 e10 M K) : CallE Try.prog 71 #[(Value.agg #[(Value.slice ga1 gl2 gc3)]), (Value.slice fa4 fl5 fc6), (Value.slice knowna7 knownl8 knownc9), e10.val] M (fun v _ => K v) := by
  refine enterE Try.func71 rfl 60 rfl (Nat.le_of_ble_eq_true rfl) (fun E a hs => ?_)
  unfold S_well_sound at hS
  have hMM := MX.refl M E
  change Sx 60 E [] M E a [(0, (Value.agg #[(Value.slice ga1 gl2 gc3)])), (1, (Value.slice fa4 fl5 fc6)), (2, (Value.slice knowna7 knownl8 knownc9)), (3, e10.val)] [] [] at hs
  refine Wp.seq (Wp.region (stepBox [(Value.slice ga1 gl2 gc3)] hs rfl rfl rfl (by decide) (fun _ _ b11 hEb11 hs => ?_)))
  refine stepBox [(Value.int .i64 e10.Kind), (Value.int .u64 e10.Set.w0), (Value.int .u64 e10.Set.w1), (Value.int .u64 e10.Set.w2), (Value.int .u64 e10.Set.w3), (Value.string (mkS e10.Text)), (Value.slice e10.Kids_a e10.Kids_l e10.Kids_c)] hs rfl rfl rfl (by decide) (fun _ _ b12 hEb12 hs => ?_)
  refine sP (Value.bool false) hs fun _ hs => ?_
  refine wpList_nil (Wp.seq (Wp.seq (Wp.region (sP (Value.pointer (some ⟨b12, 0, none⟩)) hs fun _ hs => ?_))))
  refine sY (Value.int .i64 e10.Kind) hs (Yl.loadB (vs := [(Value.int .i64 e10.Kind)]) false 0 rfl rfl rfl (by kernel_rfl) rfl) fun _ hs => ?_
  refine wpList_nil (Wp.block (Wp.seq (Wp.region (sP (Value.bool ((e10.Kind : Int) == (4 : Int))) hs fun _ hs => ?_))))
  refine sP (Value.bool ((e10.Kind : Int) == (4 : Int))) hs fun _ hs => ?_
  refine wpList_nil (Wp.cond hs rfl rfl beq_iff_eq (fun hc => ?_) (fun hc => ?_))
  · have hS := hS.1 hc
    refine Wp.seq (Wp.region (sP (Value.slice knowna7 knownl8 knownc9) hs fun _ hs => ?_))
    refine sY (Value.agg #[(Value.slice ga1 gl2 gc3)]) hs (Yl.loadB (vs := [(Value.slice ga1 gl2 gc3)]) true 1 rfl rfl rfl (by kernel_rfl) rfl) fun _ hs => ?_
    refine sP (Value.pointer (some ⟨b12, 5, none⟩)) hs fun _ hs => ?_
    refine sY (Value.string (mkS e10.Text)) hs (Yl.loadB (vs := [(Value.string (mkS e10.Text))]) false 0 rfl rfl rfl (by kernel_rfl) rfl) fun _ hs => ?_
    refine stepCallP [(Value.agg #[(Value.slice ga1 gl2 gc3)]), (Value.string (mkS e10.Text))] hs rfl ⟨_, rfl, rfl⟩ rfl Try.func53 rfl (by kernel_rfl) (by decide) hS (fun _ _ v hS hs => ?_)
    obtain ⟨x13, hv, hS⟩ := hS
    subst hv
    obtain ⟨b14, o15, ha, h0, hl, hS⟩ := hS
    refine sY (Value.pointer (some ⟨b14, o15 + x13.toNat * 1, none⟩)) hs (Yl.indexS (e := 4) (sz := 1) rfl rfl rfl rfl (by kernel_rfl) (by kernel_rfl) ha h0 hl) fun _ hs => ?_
    obtain ⟨x16, hat, hS⟩ := hS
    refine sY (Value.bool x16) hs (Yl.loadV (vs := [(Value.bool x16)]) false rfl rfl (by kernel_rfl) hat) fun _ hs => ?_
    refine sP (Value.bool x16) hs fun _ hs => ?_
    exact wpList_nil (Wp.ret (leaveE (K := fun v _ => K v) hs (resT hs rfl rfl) hMM.2 (fun _ _ => hS)))
  · have hS := hS.2 hc
    refine Wp.seq (Wp.region (sP (Value.bool ((e10.Kind : Int) == (5 : Int))) hs fun _ hs => ?_))
    refine sP (Value.bool ((e10.Kind : Int) == (5 : Int))) hs fun _ hs => ?_
    refine wpList_nil (Wp.cond hs rfl rfl beq_iff_eq (fun hc => ?_) (fun hc => ?_))
    · have hS := hS.1 hc
      refine Wp.seq (Wp.seq (Wp.region (sP (Value.pointer (some ⟨b12, 6, none⟩)) hs fun _ hs => ?_)))
      refine sY (Value.slice e10.Kids_a e10.Kids_l e10.Kids_c) hs (Yl.loadB (vs := [(Value.slice e10.Kids_a e10.Kids_l e10.Kids_c)]) false 0 rfl rfl rfl (by kernel_rfl) rfl) fun _ hs => ?_
      refine sP (Value.int .i64 ((e10.Kids_l : Nat) : Int)) hs fun _ hs => ?_
      refine sP (Value.int .i64 0) hs fun _ hs => ?_
      refine wpList_nil (Wp.block ?_)
      obtain ⟨I25, mu26, hI0, hst⟩ := hS
      refine Wp.loop (σ := (Int)) (fun s a w => match s with | (x24) => Sx 60 E [] M w a [(1, (Value.slice fa4 fl5 fc6)), (2, (Value.slice knowna7 knownl8 knownc9)), (4, (Value.pointer (some ⟨b11, 0, none⟩))), (27, (Value.slice e10.Kids_a e10.Kids_l e10.Kids_c)), (28, (Value.int .i64 ((e10.Kids_l : Nat) : Int))), (29, (Value.int .i64 x24))] [⟨b12, 96, [(Value.int .i64 e10.Kind), (Value.int .u64 e10.Set.w0), (Value.int .u64 e10.Set.w1), (Value.int .u64 e10.Set.w2), (Value.int .u64 e10.Set.w3), (Value.string (mkS e10.Text)), (Value.slice e10.Kids_a e10.Kids_l e10.Kids_c)]⟩, ⟨b11, 24, [(Value.slice ga1 gl2 gc3)]⟩] [] ∧ I25 x24) (fun s => match s with | (x24) => mu26 x24) (0) ⟨(hs.weak (List.Sublist.refl _) (List.Sublist.refl _) ⟨rfl, rfl, rfl, rfl, rfl, rfl, trivial⟩), hI0⟩ (fun x24 a w hI => ?_)
      obtain ⟨hs, hI⟩ := hI
      have hS := hst x24 hI
      clear hst hI0 hI
      refine Wp.seq (Wp.region (sP (Value.bool (decide (x24 < ((e10.Kids_l : Nat) : Int)))) hs fun _ hs => ?_))
      refine wpList_nil (Wp.seq (Wp.cond hs rfl rfl decide_eq_true_iff (fun hc => ?_) (fun hc => ?_)))
      · have hS := hS.1 hc
        refine Wp.skip (Wp.seq (Wp.block (Wp.seq (Wp.region ?_))))
        obtain ⟨b27, o28, ha, h0, hl, hS⟩ := hS
        refine sY (Value.pointer (some ⟨b27, o28 + x24.toNat * 7, none⟩)) hs (Yl.indexS (e := 96) (sz := 7) rfl rfl rfl rfl (by kernel_rfl) (by kernel_rfl) ha h0 hl) fun _ hs => ?_
        obtain ⟨x29, hat, hS⟩ := hS
        refine sY x29.val hs (Yl.loadV (vs := x29.cells) true rfl rfl (by kernel_rfl) hat) fun _ hs => ?_
        refine stepAlloc [(Value.int .i64 0), (Value.int .u64 0), (Value.int .u64 0), (Value.int .u64 0), (Value.int .u64 0), (Value.string (mkS [])), (Value.slice none 0 0)] hs (by kernel_rfl) (by decide) (fun _ _ b30 hEb30 hs => ?_)
        have hs := hs.nilrow 96 7
        refine stepStoreB 0 (vs := [(Value.int .i64 x29.Kind), (Value.int .u64 x29.Set.w0), (Value.int .u64 x29.Set.w1), (Value.int .u64 x29.Set.w2), (Value.int .u64 x29.Set.w3), (Value.string (mkS x29.Text)), (Value.slice x29.Kids_a x29.Kids_l x29.Kids_c)]) hs rfl rfl rfl rfl rfl rfl (by kernel_rfl) (Nat.le_of_ble_eq_true rfl) rfl (fun _ _ hs => ?_)
        replace hs := hs.chbx (bs' := [⟨b30, 96, [(Value.int .i64 x29.Kind), (Value.int .u64 x29.Set.w0), (Value.int .u64 x29.Set.w1), (Value.int .u64 x29.Set.w2), (Value.int .u64 x29.Set.w3), (Value.string (mkS x29.Text)), (Value.slice x29.Kids_a x29.Kids_l x29.Kids_c)]⟩, ⟨b12, 96, [(Value.int .i64 e10.Kind), (Value.int .u64 e10.Set.w0), (Value.int .u64 e10.Set.w1), (Value.int .u64 e10.Set.w2), (Value.int .u64 e10.Set.w3), (Value.string (mkS e10.Text)), (Value.slice e10.Kids_a e10.Kids_l e10.Kids_c)]⟩, ⟨b11, 24, [(Value.slice ga1 gl2 gc3)]⟩]) rfl
        refine wpList_nil (Wp.seq (Wp.seq (Wp.region (sY (Value.agg #[(Value.slice ga1 gl2 gc3)]) hs (Yl.loadB (vs := [(Value.slice ga1 gl2 gc3)]) true 2 rfl rfl rfl (by kernel_rfl) rfl) fun _ hs => ?_))))
        refine sP (Value.slice fa4 fl5 fc6) hs fun _ hs => ?_
        refine sP (Value.slice knowna7 knownl8 knownc9) hs fun _ hs => ?_
        refine sY x29.val hs (Yl.loadB (vs := x29.cells) true 0 rfl rfl rfl (by kernel_rfl) rfl) fun _ hs => ?_
        refine stepCallP [(Value.agg #[(Value.slice ga1 gl2 gc3)]), (Value.slice fa4 fl5 fc6), (Value.slice knowna7 knownl8 knownc9), x29.val] hs rfl ⟨_, rfl, rfl⟩ rfl Try.func71 rfl (by kernel_rfl) (by decide) hS (fun _ _ v hS hs => ?_)
        obtain ⟨x31, hv, hS⟩ := hS
        subst hv
        refine sP (Value.bool (!x31)) hs fun _ hs => ?_
        refine wpList_nil (Wp.cond hs rfl rfl (bnot_iff Iff.rfl) (fun hc => ?_) (fun hc => ?_))
        · have hS := hS.1 hc
          refine Wp.seq (Wp.region (sP (Value.bool false) hs fun _ hs => ?_))
          exact wpList_nil (Wp.ret (leaveE (K := fun v _ => K v) hs (resT hs rfl rfl) hMM.2 (fun _ _ => hS)))
        · have hS := hS.2 hc
          refine Wp.skip (Wp.seq (Wp.region (sY (Value.agg #[(Value.slice ga1 gl2 gc3)]) hs (Yl.loadB (vs := [(Value.slice ga1 gl2 gc3)]) true 2 rfl rfl rfl (by kernel_rfl) rfl) fun _ hs => ?_)))
          refine sP (Value.slice fa4 fl5 fc6) hs fun _ hs => ?_
          refine sY x29.val hs (Yl.loadB (vs := x29.cells) true 0 rfl rfl rfl (by kernel_rfl) rfl) fun _ hs => ?_
          refine stepCallP [(Value.agg #[(Value.slice ga1 gl2 gc3)]), (Value.slice fa4 fl5 fc6), x29.val] hs rfl ⟨_, rfl, rfl⟩ rfl Try.func105 rfl (by kernel_rfl) (by decide) hS (fun _ _ v hS hs => ?_)
          obtain ⟨x32, hv, hS⟩ := hS
          subst hv
          refine sP (Value.bool x32.Empty) hs fun _ hs => ?_
          refine sP (Value.bool (!x32.Empty)) hs fun _ hs => ?_
          refine wpList_nil (Wp.cond hs rfl rfl (bnot_iff Iff.rfl) (fun hc => ?_) (fun hc => ?_))
          · have hS := hS.1 hc
            refine Wp.seq (Wp.region (sP (Value.bool true) hs fun _ hs => ?_))
            exact wpList_nil (Wp.ret (leaveE (K := fun v _ => K v) hs (resT hs rfl rfl) hMM.2 (fun _ _ => hS)))
          · have hS := hS.2 hc
            refine Wp.skip (Wp.region ?_)
            obtain ⟨hI, hS⟩ := hS
            refine sY (Value.int .i64 (x24 + 1)) hs (Yl.eq (Yl.pure (v := Value.int .i64 (IntKind.wrap .i64 (x24 + 1))) rfl (fun _ => by kernel_rfl)) (congrArg (Value.int .i64) (wrap_in hI))) fun _ hs => ?_
            refine sP (Value.int .i64 (x24 + 1)) hs fun _ hs => ?_
            exact wpList_nil (⟨(x24 + 1), ⟨(hs.weak (.cons _ (.cons_cons _ (.cons_cons _ List.Sublist.slnil))) (.cons _ List.Sublist.slnil) ⟨rfl, rfl, rfl, rfl, rfl, rfl, trivial⟩), hS.1⟩, hS.2⟩)
      · have hS := hS.2 hc
        refine Wp.exit rfl (Wp.seq (Wp.region (sP (Value.bool true) hs fun _ hs => ?_)))
        exact wpList_nil (Wp.ret (leaveE (K := fun v _ => K v) hs (resT hs rfl rfl) hMM.2 (fun _ _ => hS)))
    · have hS := hS.2 hc
      refine Wp.skip (Wp.seq (Wp.seq (Wp.region (sP (Value.pointer (some ⟨b12, 6, none⟩)) hs fun _ hs => ?_))))
      refine sY (Value.slice e10.Kids_a e10.Kids_l e10.Kids_c) hs (Yl.loadB (vs := [(Value.slice e10.Kids_a e10.Kids_l e10.Kids_c)]) false 0 rfl rfl rfl (by kernel_rfl) rfl) fun _ hs => ?_
      refine sP (Value.int .i64 ((e10.Kids_l : Nat) : Int)) hs fun _ hs => ?_
      refine sP (Value.int .i64 0) hs fun _ hs => ?_
      refine wpList_nil (Wp.block ?_)
      obtain ⟨I40, mu41, hI0, hst⟩ := hS
      refine Wp.loop (σ := (Int)) (fun s a w => match s with | (x39) => Sx 60 E [] M w a [(1, (Value.slice fa4 fl5 fc6)), (2, (Value.slice knowna7 knownl8 knownc9)), (4, (Value.pointer (some ⟨b11, 0, none⟩))), (47, (Value.slice e10.Kids_a e10.Kids_l e10.Kids_c)), (48, (Value.int .i64 ((e10.Kids_l : Nat) : Int))), (49, (Value.int .i64 x39))] [⟨b12, 96, [(Value.int .i64 e10.Kind), (Value.int .u64 e10.Set.w0), (Value.int .u64 e10.Set.w1), (Value.int .u64 e10.Set.w2), (Value.int .u64 e10.Set.w3), (Value.string (mkS e10.Text)), (Value.slice e10.Kids_a e10.Kids_l e10.Kids_c)]⟩, ⟨b11, 24, [(Value.slice ga1 gl2 gc3)]⟩] [] ∧ I40 x39) (fun s => match s with | (x39) => mu41 x39) (0) ⟨(hs.weak (List.Sublist.refl _) (List.Sublist.refl _) ⟨rfl, rfl, rfl, rfl, rfl, rfl, trivial⟩), hI0⟩ (fun x39 a w hI => ?_)
      obtain ⟨hs, hI⟩ := hI
      have hS := hst x39 hI
      clear hst hI0 hI
      refine Wp.seq (Wp.region (sP (Value.bool (decide (x39 < ((e10.Kids_l : Nat) : Int)))) hs fun _ hs => ?_))
      refine wpList_nil (Wp.seq (Wp.cond hs rfl rfl decide_eq_true_iff (fun hc => ?_) (fun hc => ?_)))
      · have hS := hS.1 hc
        refine Wp.skip (Wp.seq (Wp.block (Wp.seq (Wp.region ?_))))
        obtain ⟨b42, o43, ha, h0, hl, hS⟩ := hS
        refine sY (Value.pointer (some ⟨b42, o43 + x39.toNat * 7, none⟩)) hs (Yl.indexS (e := 96) (sz := 7) rfl rfl rfl rfl (by kernel_rfl) (by kernel_rfl) ha h0 hl) fun _ hs => ?_
        obtain ⟨x44, hat, hS⟩ := hS
        refine sY x44.val hs (Yl.loadV (vs := x44.cells) true rfl rfl (by kernel_rfl) hat) fun _ hs => ?_
        refine stepAlloc [(Value.int .i64 0), (Value.int .u64 0), (Value.int .u64 0), (Value.int .u64 0), (Value.int .u64 0), (Value.string (mkS [])), (Value.slice none 0 0)] hs (by kernel_rfl) (by decide) (fun _ _ b45 hEb45 hs => ?_)
        have hs := hs.nilrow 96 7
        refine stepStoreB 0 (vs := [(Value.int .i64 x44.Kind), (Value.int .u64 x44.Set.w0), (Value.int .u64 x44.Set.w1), (Value.int .u64 x44.Set.w2), (Value.int .u64 x44.Set.w3), (Value.string (mkS x44.Text)), (Value.slice x44.Kids_a x44.Kids_l x44.Kids_c)]) hs rfl rfl rfl rfl rfl rfl (by kernel_rfl) (Nat.le_of_ble_eq_true rfl) rfl (fun _ _ hs => ?_)
        replace hs := hs.chbx (bs' := [⟨b45, 96, [(Value.int .i64 x44.Kind), (Value.int .u64 x44.Set.w0), (Value.int .u64 x44.Set.w1), (Value.int .u64 x44.Set.w2), (Value.int .u64 x44.Set.w3), (Value.string (mkS x44.Text)), (Value.slice x44.Kids_a x44.Kids_l x44.Kids_c)]⟩, ⟨b12, 96, [(Value.int .i64 e10.Kind), (Value.int .u64 e10.Set.w0), (Value.int .u64 e10.Set.w1), (Value.int .u64 e10.Set.w2), (Value.int .u64 e10.Set.w3), (Value.string (mkS e10.Text)), (Value.slice e10.Kids_a e10.Kids_l e10.Kids_c)]⟩, ⟨b11, 24, [(Value.slice ga1 gl2 gc3)]⟩]) rfl
        refine wpList_nil (Wp.seq (Wp.region (sY (Value.agg #[(Value.slice ga1 gl2 gc3)]) hs (Yl.loadB (vs := [(Value.slice ga1 gl2 gc3)]) true 2 rfl rfl rfl (by kernel_rfl) rfl) fun _ hs => ?_)))
        refine sP (Value.slice fa4 fl5 fc6) hs fun _ hs => ?_
        refine sP (Value.slice knowna7 knownl8 knownc9) hs fun _ hs => ?_
        refine sY x44.val hs (Yl.loadB (vs := x44.cells) true 0 rfl rfl rfl (by kernel_rfl) rfl) fun _ hs => ?_
        refine stepCallP [(Value.agg #[(Value.slice ga1 gl2 gc3)]), (Value.slice fa4 fl5 fc6), (Value.slice knowna7 knownl8 knownc9), x44.val] hs rfl ⟨_, rfl, rfl⟩ rfl Try.func71 rfl (by kernel_rfl) (by decide) hS (fun _ _ v hS hs => ?_)
        obtain ⟨x46, hv, hS⟩ := hS
        subst hv
        refine sP (Value.bool (!x46)) hs fun _ hs => ?_
        refine wpList_nil (Wp.cond hs rfl rfl (bnot_iff Iff.rfl) (fun hc => ?_) (fun hc => ?_))
        · have hS := hS.1 hc
          refine Wp.seq (Wp.region (sP (Value.bool false) hs fun _ hs => ?_))
          exact wpList_nil (Wp.ret (leaveE (K := fun v _ => K v) hs (resT hs rfl rfl) hMM.2 (fun _ _ => hS)))
        · have hS := hS.2 hc
          refine Wp.skip (Wp.region ?_)
          obtain ⟨hI, hS⟩ := hS
          refine sY (Value.int .i64 (x39 + 1)) hs (Yl.eq (Yl.pure (v := Value.int .i64 (IntKind.wrap .i64 (x39 + 1))) rfl (fun _ => by kernel_rfl)) (congrArg (Value.int .i64) (wrap_in hI))) fun _ hs => ?_
          refine sP (Value.int .i64 (x39 + 1)) hs fun _ hs => ?_
          exact wpList_nil (⟨(x39 + 1), ⟨(hs.weak (.cons _ (.cons_cons _ (.cons_cons _ List.Sublist.slnil))) (.cons _ List.Sublist.slnil) ⟨rfl, rfl, rfl, rfl, rfl, rfl, trivial⟩), hS.1⟩, hS.2⟩)
      · have hS := hS.2 hc
        refine Wp.exit rfl (Wp.seq (Wp.region (sP (Value.bool true) hs fun _ hs => ?_)))
        exact wpList_nil (Wp.ret (leaveE (K := fun v _ => K v) hs (resT hs rfl rfl) hMM.2 (fun _ _ => hS)))
set_option linter.unusedVariables false in
def S_well_Well_1 (knowna1 : Option Addr) (knownl2 : Nat) (knownc3 : Nat) (i4 : Int) (b5 : Nat) (b6 : Nat) (M : Mem) (K : Value → Prop) : Prop :=
  (∃ (xa7 : Option Addr) (xl8 : Nat) (xc9 : Nat), At M b5 0 [(Value.slice xa7 xl8 xc9)] ∧ (∃ (xa10 : Option Addr) (xl11 : Nat) (xc12 : Nat), At M b6 0 [(Value.slice xa10 xl11 xc12)] ∧ (∃ (xa13 : Option Addr) (xl14 : Nat) (xc15 : Nat), At M b5 0 [(Value.slice xa13 xl14 xc15)] ∧ (∃ (b16 o17 : Nat), xa13 = some ⟨b16, o17, none⟩ ∧ (0 : Int) ≤ i4 ∧ i4 < ((xl14 : Nat) : Int) ∧ (∃ (x18 : X_api_Expr), At M b16 (o17 + i4.toNat * 8 + 1) x18.cells ∧ (CallE Try.prog 71 #[(Value.agg #[(Value.slice xa7 xl8 xc9)]), (Value.slice xa10 xl11 xc12), (Value.slice knowna1 knownl2 knownc3), x18.val] M (fun v _ => ∃ (x19 : Bool), v = (Value.bool x19) ∧ K (Value.bool x19))))))))
set_option linter.unusedVariables false in
set_option maxRecDepth 100000 in
theorem s_well_Well_1 (knowna1 : Option Addr) (knownl2 : Nat) (knownc3 : Nat) (i4 : Int) (b5 : Nat) (b6 : Nat) (M : Mem) (K : Value → Prop) (hS : S_well_Well_1 knowna1 knownl2 knownc3 i4 b5 b6 M K) : CallE Try.prog 70 #[(Value.slice knowna1 knownl2 knownc3), (Value.int .i64 i4), (Value.pointer (some ⟨b5, 0, none⟩)), (Value.pointer (some ⟨b6, 0, none⟩))] M (fun v _ => K v) := by
  refine enterE Try.func70 rfl 17 rfl (Nat.le_of_ble_eq_true rfl) (fun E a hs => ?_)
  unfold S_well_Well_1 at hS
  have hMM := MX.refl M E
  change Sx 17 E [] M E a [(0, (Value.slice knowna1 knownl2 knownc3)), (1, (Value.int .i64 i4)), (2, (Value.pointer (some ⟨b5, 0, none⟩))), (3, (Value.pointer (some ⟨b6, 0, none⟩)))] [] [] at hs
  refine Wp.seq (Wp.region (sP (Value.bool false) hs fun _ hs => ?_))
  refine wpList_nil (Wp.seq (Wp.regionD [true, true, true, true, true, true, true, true, true, true, true] hs (by kernel_rfl) rfl [] (fun _ h => h) [] (fun _ h => h) (fun _ hs hC => ?_)))
  have hL := Mem.le.refl M
  obtain ⟨xa7, xl8, xc9, hat, hS⟩ := hS
  refine stepDY (v := (Value.agg #[(Value.slice xa7 xl8 xc9)])) 0 [9, 10] hs hC QZ.no rfl (wanted_none rfl) rfl (by decide) (by kernel_rfl) (by kernel_rfl) (by kernel_rfl) (Yl.loadV (vs := [(Value.slice xa7 xl8 xc9)]) true rfl rfl (by kernel_rfl) hat) (fun _ hs => ?_)
  obtain ⟨xa10, xl11, xc12, hat, hS⟩ := hS
  refine stepDY (v := (Value.slice xa10 xl11 xc12)) 1 [9, 10] hs hC QZ.no rfl (wanted_none rfl) rfl (by decide) (by kernel_rfl) (by kernel_rfl) (by kernel_rfl) (Yl.loadV (vs := [(Value.slice xa10 xl11 xc12)]) false rfl rfl (by kernel_rfl) hat) (fun _ hs => ?_)
  refine dP (Value.slice knowna1 knownl2 knownc3) 2 [9, 10] hs QZ.no (wanted_none rfl) fun _ hs => ?_
  refine dP (Value.pointer (some ⟨b5, 0, none⟩)) 3 [4, 6, 7, 8, 9, 10] hs QZ.no (wanted_none rfl) fun _ hs => ?_
  obtain ⟨xa13, xl14, xc15, hat, hS⟩ := hS
  refine stepDY (v := (Value.slice xa13 xl14 xc15)) 4 [6, 7, 8, 9, 10] hs hC QZ.no rfl (wanted_none rfl) rfl (by decide) (by kernel_rfl) (by kernel_rfl) (by kernel_rfl) (Yl.loadV (vs := [(Value.slice xa13 xl14 xc15)]) false rfl rfl (by kernel_rfl) hat) (fun _ hs => ?_)
  refine stepDE 5 rfl (wanted_none rfl) (by kernel_rfl) #[] ?_
  refine sP (Value.int .i64 i4) hs fun _ hs => ?_
  refine wpList_nil (⟨fun _ h => h, ?_⟩)
  refine stepDE 6 rfl (wanted_none rfl) (by kernel_rfl) #[] ?_
  obtain ⟨b16, o17, ha, h0, hl, hS⟩ := hS
  refine sY (Value.pointer (some ⟨b16, o17 + i4.toNat * 8, none⟩)) hs (Yl.indexS (e := 98) (sz := 8) rfl rfl rfl rfl (by kernel_rfl) (by kernel_rfl) ha h0 hl) fun _ hs => ?_
  refine wpList_nil (⟨fun _ h => h, ?_⟩)
  refine stepDE 7 rfl (wanted_none rfl) (by kernel_rfl) #[] ?_
  refine sP (Value.pointer (some ⟨b16, o17 + i4.toNat * 8 + 1, none⟩)) hs fun _ hs => ?_
  refine wpList_nil (⟨fun _ h => h, ?_⟩)
  refine stepDE 8 rfl (wanted_none rfl) (by kernel_rfl) #[] ?_
  obtain ⟨x18, hat, hS⟩ := hS
  refine sY x18.val hs (Yl.loadV (vs := x18.cells) true rfl rfl (by kernel_rfl) hat) fun _ hs => ?_
  refine wpList_nil (⟨fun _ h => h, ?_⟩)
  refine stepDE 9 rfl (wanted_none rfl) (by kernel_rfl) #[] ?_
  refine stepCallP [(Value.agg #[(Value.slice xa7 xl8 xc9)]), (Value.slice xa10 xl11 xc12), (Value.slice knowna1 knownl2 knownc3), x18.val] hs rfl ⟨_, rfl, rfl⟩ rfl Try.func71 rfl (by kernel_rfl) (by decide) hS (fun _ _ v hS hs => ?_)
  obtain ⟨x19, hv, hS⟩ := hS
  subst hv
  refine wpList_nil (⟨fun _ _ => hs.cxle hL (List.Sublist.refl _) (List.Sublist.refl _), ?_⟩)
  have hC := hs.cxle hL (List.Sublist.refl _) (List.Sublist.refl _)
  refine stepDE 10 rfl (wanted_none rfl) (by kernel_rfl) #[] ?_
  refine sP (Value.bool x19) hs fun _ hs => ?_
  refine wpList_nil (⟨fun _ h => h, ?_⟩)
  refine WpD.done (by kernel_rfl) ?_ _
  exact Wp.ret (leaveE (K := fun v _ => K v) hs (resT hs rfl rfl) hMM.2 (fun _ _ => hS))
theorem f_well_Well_1 (knowna1 : Option Addr) (knownl2 : Nat) (knownc3 : Nat) (i4 : Int) (b5 : Nat) (b6 : Nat) (M : Mem) (K : Value → Prop) (hS : S_well_Well_1 knowna1 knownl2 knownc3 i4 b5 b6 M K) : CallF Try.prog (Value.func (.func 70) #[] #[(Value.pointer (some ⟨b5, 0, none⟩)), (Value.pointer (some ⟨b6, 0, none⟩))]) [(Value.slice knowna1 knownl2 knownc3), (Value.int .i64 i4)] M (fun v _ => K v) := ⟨70, _, _, _, rfl, Try.func70, rfl, (by decide), s_well_Well_1 _ _ _ _ _ _ _ _ hS⟩
set_option linter.unusedVariables false in
def S_well_grow_bool_J1 (more128 : Bool) (x129 : Int) (G133 : Type) (gh134 : G133) (I131 : G133 → Bool → Int → Mem → Prop) (mu132 : G133 → Bool → Int → Nat) (more144 : Bool) (M145 : Mem) (K : Value → Mem → Prop) : Prop :=
  (InI (x129 + 1) ∧ ∃ (gh : G133), I131 gh more144 (x129 + 1) M145 ∧ mu132 gh more144 (x129 + 1) < mu132 gh134 more128 x129)
set_option linter.unusedVariables false in
def S_well_grow_bool (n1 : Int) (next2 : Value) (M : Mem) (L : Nat → Prop) (K : Value → Mem → Prop) : Prop :=
  ((0 : Int) ≤ n1 ∧ (n1 : Int) ≤ n1 ∧ n1.toNat * 1 ≤ 140737488355328 ∧ (∀ (M6 : Mem) (ad4 : Option Addr) (cap5 : Nat), NewRow M M6 4 1 ad4 n1.toNat cap5 (repl n1.toNat [(Value.bool false)]) → (∃ (G100 : Type) (I98 : G100 → Bool → Mem → Prop) (mu99 : G100 → Bool → Nat) (gz102 : G100), I98 gz102 true M6 ∧ ∀ (gh101 : G100) (more96 : Bool) (M97 : Mem), (I98 gh101 more96 M97 → ((more96 = true → (∃ (G133 : Type) (I131 : G133 → Bool → Int → Mem → Prop) (mu132 : G133 → Bool → Int → Nat) (gz135 : G133), I131 gz135 false 0 M97 ∧ ∀ (gh134 : G133) (more128 : Bool) (x129 : Int) (M130 : Mem), (I131 gh134 more128 x129 M130 → ((x129 < ((n1.toNat : Nat) : Int) → (CallFW Try.prog next2 [(Value.slice ad4 n1.toNat cap5), (Value.int .i64 x129)] M130 (Wr L M) (fun v M137 => ∃ (x136 : Bool), v = (Value.bool x136) ∧ (∃ (b138 o139 : Nat), ad4 = some ⟨b138, o139, none⟩ ∧ (0 : Int) ≤ x129 ∧ x129 < ((n1.toNat : Nat) : Int) ∧ (∃ (x140 : Bool), At M137 b138 (o139 + x129.toNat * 1) [(Value.bool x140)] ∧ ((¬ (x136 = x140) → (∃ (b141 o142 : Nat), ad4 = some ⟨b141, o142, none⟩ ∧ (0 : Int) ≤ x129 ∧ x129 < ((n1.toNat : Nat) : Int) ∧ (Has M137 b141 (o142 + x129.toNat * 1) 1 ∧ Wr L M b141 ∧ ∀ (M143 : Mem), M143 = M137.put b141 (o142 + x129.toNat * 1) [(Value.bool x136)] → (S_well_grow_bool_J1 more128 x129 G133 gh134 I131 mu132 true M143 K)))) ∧ (¬ (¬ (x136 = x140)) → (S_well_grow_bool_J1 more128 x129 G133 gh134 I131 mu132 more128 M137 K)))))))) ∧ (¬ (x129 < ((n1.toNat : Nat) : Int)) → ∃ (gh : G100), I98 gh more128 M130 ∧ mu99 gh more128 < mu99 gh101 more96))))) ∧ (¬ (more96 = true) → (∀ M', M97.le M' → K (Value.slice ad4 n1.toNat cap5) M')))))))
set_option linter.unusedVariables false in
set_option maxRecDepth 100000 in
theorem s_well_grow_bool (n1 : Int) (next2 : Value) (M : Mem) (L : Nat → Prop) (K : Value → Mem → Prop) (hS : S_well_grow_bool n1 next2 M L K) : CallW Try.prog 69 #[(Value.int .i64 n1), next2] M L K := by
  refine enterW Try.func69 rfl 33 rfl (Nat.le_of_ble_eq_true rfl) (fun E a hs => ?_)
  unfold S_well_grow_bool at hS
  have hMM := WX.refl M E
  change Sx 33 E (bwW E M L) M E a [(0, (Value.int .i64 n1)), (1, next2)] [] [] at hs
  refine Wp.seq (Wp.region (sP (Value.slice none 0 0) hs fun _ hs => ?_))
  refine wpList_nil (Wp.seq (Wp.region (sP (Value.int .i64 n1) hs fun _ hs => ?_)))
  obtain ⟨h0, h1, hB, hS⟩ := hS
  refine stepMakeN (e := 4) (size := 1) (bytes := 1) [(Value.bool false)] hs rfl rfl rfl rfl (by kernel_rfl) (by kernel_rfl) rfl (by decide) (by decide) h0 h1 hB (fun _ _ rv3 hs => ?_)
  refine sP rv3 hs fun _ hs => ?_
  refine wpList_nil (Wp.seq (Wp.seq (Wp.region (sP (Value.bool true) hs fun _ hs => ?_))))
  refine wpList_nil (Wp.block ?_)
  obtain ⟨ad4, cap5, hv, hcp, hxl⟩ := hs.rowform 0 rfl
  dsimp only at hv hcp hxl
  subst hv
  obtain ⟨M6, hnr, hMM, hs⟩ := hs.releaseW hMM 0 rfl [] rfl
  have hS := hS M6 ad4 cap5 hnr
  obtain ⟨G100, I98, mu99, gz102, hI0, hst⟩ := hS
  refine Wp.loop (σ := G100 × (Bool) × (Mem)) (fun s a w => match s with | (gh101, more96, M97) => WX M97 M E ∧ Sx 33 E (bwW E M L) M97 w a [(1, next2), (5, (Value.slice ad4 n1.toNat cap5)), (6, (Value.bool more96))] [] [] ∧ I98 gh101 more96 M97) (fun s => match s with | (gh101, more96, M97) => mu99 gh101 more96) (gz102, true, M6) ⟨hMM, (hs.weak (List.Sublist.refl _) (List.Sublist.refl _) ⟨rfl, rfl, rfl, trivial⟩), hI0⟩ (fun s a w hI => ?_)
  obtain ⟨gh101, more96, M97⟩ := s
  obtain ⟨hMM, hs, hI⟩ := hI
  have hS := hst gh101 more96 M97 hI
  clear hst hI0 hI
  refine Wp.seq (Wp.seq (Wp.region (sP (Value.bool more96) hs fun _ hs => ?_)))
  refine wpList_nil (Wp.cond hs rfl rfl Iff.rfl (fun hc => ?_) (fun hc => ?_))
  · have hS := hS.1 hc
    refine Wp.skip (Wp.block (Wp.seq (Wp.region (sP (Value.bool false) hs fun _ hs => ?_))))
    refine wpList_nil (Wp.seq (Wp.region (sP (Value.slice ad4 n1.toNat cap5) hs fun _ hs => ?_)))
    refine sP (Value.int .i64 ((n1.toNat : Nat) : Int)) hs fun _ hs => ?_
    refine sP (Value.int .i64 0) hs fun _ hs => ?_
    refine wpList_nil (Wp.block ?_)
    obtain ⟨G133, I131, mu132, gz135, hI0, hst⟩ := hS
    refine Wp.loop (σ := G133 × (Bool) × (Int) × (Mem)) (fun s a w => match s with | (gh134, more128, x129, M130) => WX M130 M E ∧ Sx 33 E (bwW E M L) M130 w a [(1, next2), (5, (Value.slice ad4 n1.toNat cap5)), (6, (Value.bool more128)), (13, (Value.int .i64 ((n1.toNat : Nat) : Int))), (14, (Value.int .i64 x129))] [] [] ∧ I131 gh134 more128 x129 M130) (fun s => match s with | (gh134, more128, x129, M130) => mu132 gh134 more128 x129) (gz135, false, 0, M97) ⟨hMM, (hs.weak (List.Sublist.refl _) (List.Sublist.refl _) ⟨rfl, rfl, rfl, rfl, rfl, trivial⟩), hI0⟩ (fun s a w hI => ?_)
    obtain ⟨gh134, more128, x129, M130⟩ := s
    obtain ⟨hMM, hs, hI⟩ := hI
    have hS := hst gh134 more128 x129 M130 hI
    clear hst hI0 hI
    refine Wp.seq (Wp.region (sP (Value.bool (decide (x129 < ((n1.toNat : Nat) : Int)))) hs fun _ hs => ?_))
    refine wpList_nil (Wp.seq (Wp.cond hs rfl rfl decide_eq_true_iff (fun hc => ?_) (fun hc => ?_)))
    · have hS := hS.1 hc
      refine Wp.skip (Wp.join (fun a w => ∃ (more144 : Bool) (M145 : Mem), WX M145 M E ∧ Sx 33 E (bwW E M L) M145 w a [(1, next2), (5, (Value.slice ad4 n1.toNat cap5)), (6, (Value.bool more144)), (13, (Value.int .i64 ((n1.toNat : Nat) : Int))), (14, (Value.int .i64 x129))] [] [] ∧ (S_well_grow_bool_J1 more128 x129 G133 gh134 I131 mu132 more144 M145 K)) ?_ ?_)
      · refine Wp.block (Wp.seq (Wp.region (sP (Value.int .i64 x129) hs fun _ hs => ?_)))
        refine sP (Value.int .i64 x129) hs fun _ hs => ?_
        refine wpList_nil (Wp.seq (Wp.region (sP next2 hs fun _ hs => ?_)))
        refine sP (Value.slice ad4 n1.toNat cap5) hs fun _ hs => ?_
        refine sP (Value.int .i64 x129) hs fun _ hs => ?_
        refine stepCallFW [(Value.slice ad4 n1.toNat cap5), (Value.int .i64 x129)] hs hMM rfl ⟨_, rfl, rfl⟩ rfl (by decide) hS (fun _ _ M137 v hMM hS hs => ?_)
        obtain ⟨x136, hv, hS⟩ := hS
        subst hv
        refine sP (Value.bool x136) hs fun _ hs => ?_
        refine wpList_nil (Wp.seq (Wp.region (sP (Value.bool x136) hs fun _ hs => ?_)))
        refine sP (Value.slice ad4 n1.toNat cap5) hs fun _ hs => ?_
        refine sP (Value.int .i64 x129) hs fun _ hs => ?_
        obtain ⟨b138, o139, ha, h0, hl, hS⟩ := hS
        refine sY (Value.pointer (some ⟨b138, o139 + x129.toNat * 1, none⟩)) hs (Yl.indexS (e := 4) (sz := 1) rfl rfl rfl rfl (by kernel_rfl) (by kernel_rfl) ha h0 hl) fun _ hs => ?_
        obtain ⟨x140, hat, hS⟩ := hS
        refine sY (Value.bool x140) hs (Yl.loadV (vs := [(Value.bool x140)]) false rfl rfl (by kernel_rfl) hat) fun _ hs => ?_
        refine sY (Value.bool (!(x136 == x140))) hs (Yl.neqB rfl rfl rfl rfl (by kernel_rfl)) fun _ hs => ?_
        refine wpList_nil (Wp.cond hs rfl rfl (bnot_iff beq_iff_eq) (fun hc => ?_) (fun hc => ?_))
        · have hS := hS.1 hc
          refine Wp.region (sP (Value.slice ad4 n1.toNat cap5) hs fun _ hs => ?_)
          refine sP (Value.int .i64 x129) hs fun _ hs => ?_
          refine sP (Value.bool x136) hs fun _ hs => ?_
          obtain ⟨b141, o142, ha, h0, hl, hS⟩ := hS
          refine sY (Value.pointer (some ⟨b141, o142 + x129.toNat * 1, none⟩)) hs (Yl.indexS (e := 4) (sz := 1) rfl rfl rfl rfl (by kernel_rfl) (by kernel_rfl) ha h0 hl) fun _ hs => ?_
          obtain ⟨hhas, hwr, hS⟩ := hS
          refine stepStoreW (vs := [(Value.bool x136)]) hs hMM rfl rfl rfl rfl rfl (by kernel_rfl) rfl hhas hwr (fun _ _ M143 hM2 hMM hs => ?_)
          have hS := hS M143 hM2
          refine sP (Value.bool true) hs fun _ hs => ?_
          exact wpList_nil (⟨true, M143, hMM, (hs.weak (List.Sublist.refl _) (List.Sublist.refl _) ⟨rfl, rfl, rfl, rfl, rfl, trivial⟩), hS⟩)
        · have hS := hS.2 hc
          exact Wp.skip (⟨more128, M137, hMM, (hs.weak (List.Sublist.refl _) (List.Sublist.refl _) ⟨rfl, rfl, rfl, rfl, rfl, trivial⟩), hS⟩)
      · intro a w hJ
        obtain ⟨more144, M145, hMM, hs, hS⟩ := hJ
        unfold S_well_grow_bool_J1 at hS
        refine Wp.region ?_
        obtain ⟨hI, hS⟩ := hS
        refine sY (Value.int .i64 (x129 + 1)) hs (Yl.eq (Yl.pure (v := Value.int .i64 (IntKind.wrap .i64 (x129 + 1))) rfl (fun _ => by kernel_rfl)) (congrArg (Value.int .i64) (wrap_in hI))) fun _ hs => ?_
        refine sP (Value.int .i64 (x129 + 1)) hs fun _ hs => ?_
        refine wpList_nil ?_
        obtain ⟨gh, hI1, hI2⟩ := hS
        exact ⟨(gh, more144, x129 + 1, M145), ⟨hMM, (hs.weak (List.Sublist.refl _) (List.Sublist.refl _) ⟨rfl, rfl, rfl, rfl, rfl, trivial⟩), hI1⟩, hI2⟩
    · have hS := hS.2 hc
      refine Wp.exit rfl ?_
      obtain ⟨gh, hI1, hI2⟩ := hS
      exact ⟨(gh, more128, M130), ⟨hMM, (hs.weak (List.Sublist.refl _) (List.Sublist.refl _) ⟨rfl, rfl, rfl, trivial⟩), hI1⟩, hI2⟩
  · have hS := hS.2 hc
    refine Wp.exit rfl (Wp.seq (Wp.region (sP (Value.slice ad4 n1.toNat cap5) hs fun _ hs => ?_)))
    refine sP (Value.slice ad4 n1.toNat cap5) hs fun _ hs => ?_
    exact wpList_nil (Wp.ret (leaveW (K := K) hs (resT hs rfl rfl) hMM hS))
theorem e_well_grow_bool (n1 : Int) (next2 : Value) (M : Mem) (K : Value → Mem → Prop) (hS : S_well_grow_bool n1 next2 M (fun _ => False) K) : CallE Try.prog 69 #[(Value.int .i64 n1), next2] M K := (s_well_grow_bool _ _ _ _ _ hS).toE
set_option linter.unusedVariables false in
def S_well_Well (ga1 : Option Addr) (gl2 : Nat) (gc3 : Nat) (M : Mem) (K : Value → Prop) : Prop :=
  (CallE Try.prog 49 #[(Value.agg #[(Value.slice ga1 gl2 gc3)])] M (fun v _ => ∃ (x5 : Int), v = (Value.int .i64 x5) ∧ (((x5 : Int) ≠ 0 → K (Value.tuple #[(Value.int .i64 0), (Value.int .i64 x5)])) ∧ (¬ ((x5 : Int) ≠ 0) → (CallE Try.prog 65 #[(Value.agg #[(Value.slice ga1 gl2 gc3)])] M (fun v M9 => ∃ (xa6 : Option Addr) (xl7 : Nat) (xc8 : Nat), v = (Value.slice xa6 xl7 xc8) ∧ (∃ (I18 : Int → Prop) (mu19 : Int → Nat), I18 0 ∧ ∀ (x17 : Int), (I18 x17 → ((x17 < ((gl2 : Nat) : Int) → (∃ (b20 o21 : Nat), ga1 = some ⟨b20, o21, none⟩ ∧ (0 : Int) ≤ x17 ∧ x17 < ((gl2 : Nat) : Int) ∧ (∃ (x22 : X_api_Rule), At M9 b20 (o21 + x17.toNat * 8) x22.cells ∧ (CallE Try.prog 68 #[(Value.agg #[(Value.slice ga1 gl2 gc3)]), (Value.slice xa6 xl7 xc8), x22.Body.val] M9 (fun v _ => ∃ (x24 : Bool), v = (Value.bool x24) ∧ ((x24 = true → K (Value.tuple #[(Value.int .i64 x17), (Value.int .i64 9)])) ∧ (¬ (x24 = true) → (InI (x17 + 1) ∧ I18 (x17 + 1) ∧ mu19 (x17 + 1) < mu19 x17)))))))) ∧ (¬ (x17 < ((gl2 : Nat) : Int)) → (∀ (M25 : Mem) (b4 : Nat), M9.le M25 → At M25 b4 0 [(Value.slice ga1 gl2 gc3)] → (∀ (M26 : Mem) (b10 : Nat), M25.le M26 → At M26 b10 0 [(Value.slice xa6 xl7 xc8)] → (CallE Try.prog 69 #[(Value.int .i64 ((gl2 : Nat) : Int)), (Value.func (.func 70) #[] #[(Value.pointer (some ⟨b4, 0, none⟩)), (Value.pointer (some ⟨b10, 0, none⟩))])] M26 (fun v M30 => ∃ (xa27 : Option Addr) (xl28 : Nat) (xc29 : Nat), v = (Value.slice xa27 xl28 xc29) ∧ (∃ (I36 : Int → Prop) (mu37 : Int → Nat), I36 0 ∧ ∀ (x35 : Int), (I36 x35 → ((x35 < ((xl28 : Nat) : Int) → (∃ (b38 o39 : Nat), xa27 = some ⟨b38, o39, none⟩ ∧ (0 : Int) ≤ x35 ∧ x35 < ((xl28 : Nat) : Int) ∧ (∃ (x40 : Bool), At M30 b38 (o39 + x35.toNat * 1) [(Value.bool x40)] ∧ ((¬ (x40 = true) → K (Value.tuple #[(Value.int .i64 x35), (Value.int .i64 8)])) ∧ (¬ (¬ (x40 = true)) → (InI (x35 + 1) ∧ I36 (x35 + 1) ∧ mu37 (x35 + 1) < mu37 x35)))))) ∧ (¬ (x35 < ((xl28 : Nat) : Int)) → K (Value.tuple #[(Value.int .i64 0), (Value.int .i64 0)])))))))))))))))))))

end Go.Proofs.Ytaljnkggjadonaa.core
