/- What the code computes, function for function, as shallow propositions; printed by program. -/
import Derived.Test.YtifkffmecfgpeaaCoreG
namespace Go.Proofs.Ytifkffmecfgpeaa.core
open Go.Gx Go.RowKit Go.ChangeShapes Go.WideShapes Go.ChangeAt
set_option linter.unusedVariables false
structure X_api_Facts where
 Empty : Bool
 Eats : Bool
 Fails : Bool
def X_api_Facts.cells (x : X_api_Facts) : List Value := [(.bool x.Empty), (.bool x.Eats), (.bool x.Fails)]
def X_api_Facts.val (x : X_api_Facts) : Value := .agg x.cells.toArray
def C_slices_Clone_int (sa1 : Option Addr) (sl2 : Nat) (sc3 : Nat) (M : Mem) (K : Nat → List Value → Prop) : Prop :=  CallL Try.prog 113 #[(.slice sa1 sl2 sc3)] M [] [] (fun v lb' lr' M' => ∃ (rn5 : Nat) (rx6 : List Value) (rv4 : Value), v = rv4 ∧ lb' = [] ∧ lr' = [⟨rv4, 3, 1, rn5, rx6, true⟩] ∧ K rn5 rx6)
def S_well_of_1 (i1 : Int) (b2 : Nat) (b3 : Nat) (b4 : Nat) (M : Mem) (K : Value → Prop) : Prop :=
 (∃ (xa6 : Option Addr) (xl7 : Nat) (xc8 : Nat), At M b2 0 [(.slice xa6 xl7 xc8)] ∧ (∃ (xa9 : Option Addr) (xl10 : Nat) (xc11 : Nat), At M b3 0 [(.slice xa9 xl10 xc11)] ∧ (∃ (xa12 : Option Addr) (xl13 : Nat) (xc14 : Nat), At M b4 6 [(.slice xa12 xl13 xc14)] ∧ (∃ (b15 o16 : Nat), xa12 = some ⟨b15, o16, none⟩ ∧ (0 : Int) ≤ i1 ∧ i1 < ((xl13 : Nat) : Int) ∧ (∃ (x17 : X_api_Expr), At M b15 (o16 + i1.toNat * 7) x17.cells ∧ (CallE Try.prog 140 #[(.agg #[(.slice xa6 xl7 xc8)]), (.slice xa9 xl10 xc11), x17.val] M (fun v _ => ∃ (x18 : X_api_Facts), v = x18.val ∧ K x18.val)))))))
set_option maxRecDepth 100000 in
theorem s_well_of_1 (i1 : Int) (b2 : Nat) (b3 : Nat) (b4 : Nat) (M : Mem) (K : Value → Prop) (hS : S_well_of_1 i1 b2 b3 b4 M K) : CallE Try.prog 158 #[(Value.int .i64 i1), (Value.pointer (some ⟨b2, 0, none⟩)), (Value.pointer (some ⟨b3, 0, none⟩)), (Value.pointer (some ⟨b4, 0, none⟩))] M (fun v _ => K v) := by
 refine enterE Try.func158 rfl 14 rfl (Nat.le_of_ble_eq_true rfl) (fun E a hs => ?_)
 unfold S_well_of_1 at hS
 have hMM := MX.refl M E
 change Sx 14 E [] M E a [(0, (iv i1)), (1, (pt b2 0)), (2, (pt b3 0)), (3, (pt b4 0))] [] [] at hs
 refine Wp.seq (Wp.region (stepAlloc [(.bool false), (.bool false), (.bool false)] hs (by kernel_rfl) (by decide) (fun _ _ b5 hEb5 hs => ?_)))
 refine wpList_nil (Wp.seq (Wp.regionD [true, true, true, true, true, true, true, true, false] hs (by kernel_rfl) rfl [⟨b5, 202, [(.bool false), (.bool false), (.bool false)]⟩] (fun _ h => h) [] (fun _ h => h) (fun _ hs hC => ?_)))
 have hL := Mem.le.refl M
 obtain ⟨xa6, xl7, xc8, hat, hS⟩ := hS
 refine stepDY (v := (.agg #[(.slice xa6 xl7 xc8)])) 0 [7, 8] hs hC QZ.no rfl (wanted_none rfl) rfl (by decide) (by kernel_rfl) (by kernel_rfl) (by kernel_rfl) (Yl.loadV (vs := [(.slice xa6 xl7 xc8)]) true rfl rfl (by kernel_rfl) hat) (fun _ hs => ?_)
 obtain ⟨xa9, xl10, xc11, hat, hS⟩ := hS
 refine stepDY (v := (.slice xa9 xl10 xc11)) 1 [7, 8] hs hC QZ.no rfl (wanted_none rfl) rfl (by decide) (by kernel_rfl) (by kernel_rfl) (by kernel_rfl) (Yl.loadV (vs := [(.slice xa9 xl10 xc11)]) false rfl rfl (by kernel_rfl) hat) (fun _ hs => ?_)
 refine dP (pt b4 6) 2 [3, 5, 6, 7, 8] hs QZ.no (wanted_none rfl) fun _ hs => ?_
 obtain ⟨xa12, xl13, xc14, hat, hS⟩ := hS
 refine stepDY (v := (.slice xa12 xl13 xc14)) 3 [5, 6, 7, 8] hs hC QZ.no rfl (wanted_none rfl) rfl (by decide) (by kernel_rfl) (by kernel_rfl) (by kernel_rfl) (Yl.loadV (vs := [(.slice xa12 xl13 xc14)]) false rfl rfl (by kernel_rfl) hat) (fun _ hs => ?_)
 refine sE 4 ?_
 refine sP (iv i1) hs fun _ hs => ?_
 refine wpList_nil (⟨fun _ h => h, ?_⟩)
 refine sE 5 ?_
 obtain ⟨b15, o16, ha, h0, hl, hS⟩ := hS
 refine sY (.pointer (some ⟨b15, o16 + i1.toNat * 7, none⟩)) hs (Yl.indexS (e := 109) (sz := 7) rfl rfl rfl rfl (by kernel_rfl) (by kernel_rfl) ha h0 hl) fun _ hs => ?_
 refine wpList_nil (⟨fun _ h => h, ?_⟩)
 refine sE 6 ?_
 obtain ⟨x17, hat, hS⟩ := hS
 refine sY x17.val hs (Yl.loadV (vs := x17.cells) true rfl rfl (by kernel_rfl) hat) fun _ hs => ?_
 refine wpList_nil (⟨fun _ h => h, ?_⟩)
 refine sE 7 ?_
 refine stepCallP [(.agg #[(.slice xa6 xl7 xc8)]), (.slice xa9 xl10 xc11), x17.val] hs rfl ⟨_, rfl, rfl⟩ rfl Try.func140 rfl (by kernel_rfl) (by decide) hS (fun _ _ v hS hs => ?_)
 obtain ⟨x18, hv, hS⟩ := hS
 subst hv
 refine wpList_nil (⟨fun _ _ => hs.cxle hL (List.Sublist.refl _) (List.Sublist.refl _), ?_⟩)
 have hC := hs.cxle hL (List.Sublist.refl _) (List.Sublist.refl _)
 refine sE 8 ?_
 refine stB 0 x18.cells [⟨b5, 202, x18.cells⟩] hs fun _ _ hs => ?_
 refine wpList_nil (⟨fun h => absurd h (by decide), ?_⟩)
 refine WpD.done (by kernel_rfl) ?_ _
 exact Wp.ret (lvE K hs (resC (vs := x18.cells) true 0 hs rfl rfl rfl (by kernel_rfl) rfl) hMM.2 hS)
def S_well_then (a1 : X_api_Facts) (b2 : X_api_Facts) (M : Mem) (K : Value → Prop) : Prop :=
 ((a1.Empty = true → ((a1.Eats = true → ((b2.Empty = true → ((a1.Fails = true → K (X_api_Facts.mk b2.Empty true true).val) ∧ (¬ (a1.Fails = true) → ((a1.Empty = true → K (X_api_Facts.mk b2.Empty true b2.Fails).val) ∧ (¬ (a1.Empty = true) → ((a1.Eats = true → K (X_api_Facts.mk b2.Empty true b2.Fails).val) ∧ (¬ (a1.Eats = true) → K (X_api_Facts.mk b2.Empty true false).val))))))) ∧ (¬ (b2.Empty = true) → ((b2.Eats = true → ((a1.Fails = true → K (X_api_Facts.mk b2.Empty true true).val) ∧ (¬ (a1.Fails = true) → ((a1.Empty = true → K (X_api_Facts.mk b2.Empty true b2.Fails).val) ∧ (¬ (a1.Empty = true) → ((a1.Eats = true → K (X_api_Facts.mk b2.Empty true b2.Fails).val) ∧ (¬ (a1.Eats = true) → K (X_api_Facts.mk b2.Empty true false).val))))))) ∧ (¬ (b2.Eats = true) → ((a1.Empty = true → ((a1.Fails = true → K (X_api_Facts.mk b2.Empty b2.Eats true).val) ∧ (¬ (a1.Fails = true) → ((a1.Empty = true → K b2.val) ∧ (¬ (a1.Empty = true) → ((a1.Eats = true → K b2.val) ∧ (¬ (a1.Eats = true) → K (X_api_Facts.mk b2.Empty b2.Eats false).val))))))) ∧ (¬ (a1.Empty = true) → ((a1.Fails = true → K (X_api_Facts.mk b2.Empty false true).val) ∧ (¬ (a1.Fails = true) → ((a1.Empty = true → K (X_api_Facts.mk b2.Empty false b2.Fails).val) ∧ (¬ (a1.Empty = true) → ((a1.Eats = true → K (X_api_Facts.mk b2.Empty false b2.Fails).val) ∧ (¬ (a1.Eats = true) → K (X_api_Facts.mk b2.Empty false false).val))))))))))))) ∧ (¬ (a1.Eats = true) → ((a1.Empty = true → ((a1.Fails = true → K (X_api_Facts.mk b2.Empty b2.Eats true).val) ∧ (¬ (a1.Fails = true) → ((a1.Empty = true → K b2.val) ∧ (¬ (a1.Empty = true) → ((a1.Eats = true → K b2.val) ∧ (¬ (a1.Eats = true) → K (X_api_Facts.mk b2.Empty b2.Eats false).val))))))) ∧ (¬ (a1.Empty = true) → ((a1.Fails = true → K (X_api_Facts.mk b2.Empty false true).val) ∧ (¬ (a1.Fails = true) → ((a1.Empty = true → K (X_api_Facts.mk b2.Empty false b2.Fails).val) ∧ (¬ (a1.Empty = true) → ((a1.Eats = true → K (X_api_Facts.mk b2.Empty false b2.Fails).val) ∧ (¬ (a1.Eats = true) → K (X_api_Facts.mk b2.Empty false false).val))))))))))) ∧ (¬ (a1.Empty = true) → ((a1.Eats = true → ((b2.Empty = true → ((a1.Fails = true → K (X_api_Facts.mk false true true).val) ∧ (¬ (a1.Fails = true) → ((a1.Empty = true → K (X_api_Facts.mk false true b2.Fails).val) ∧ (¬ (a1.Empty = true) → ((a1.Eats = true → K (X_api_Facts.mk false true b2.Fails).val) ∧ (¬ (a1.Eats = true) → K (X_api_Facts.mk false true false).val))))))) ∧ (¬ (b2.Empty = true) → ((b2.Eats = true → ((a1.Fails = true → K (X_api_Facts.mk false true true).val) ∧ (¬ (a1.Fails = true) → ((a1.Empty = true → K (X_api_Facts.mk false true b2.Fails).val) ∧ (¬ (a1.Empty = true) → ((a1.Eats = true → K (X_api_Facts.mk false true b2.Fails).val) ∧ (¬ (a1.Eats = true) → K (X_api_Facts.mk false true false).val))))))) ∧ (¬ (b2.Eats = true) → ((a1.Empty = true → ((a1.Fails = true → K (X_api_Facts.mk false b2.Eats true).val) ∧ (¬ (a1.Fails = true) → ((a1.Empty = true → K (X_api_Facts.mk false b2.Eats b2.Fails).val) ∧ (¬ (a1.Empty = true) → ((a1.Eats = true → K (X_api_Facts.mk false b2.Eats b2.Fails).val) ∧ (¬ (a1.Eats = true) → K (X_api_Facts.mk false b2.Eats false).val))))))) ∧ (¬ (a1.Empty = true) → ((a1.Fails = true → K (X_api_Facts.mk false false true).val) ∧ (¬ (a1.Fails = true) → ((a1.Empty = true → K (X_api_Facts.mk false false b2.Fails).val) ∧ (¬ (a1.Empty = true) → ((a1.Eats = true → K (X_api_Facts.mk false false b2.Fails).val) ∧ (¬ (a1.Eats = true) → K (X_api_Facts.mk false false false).val))))))))))))) ∧ (¬ (a1.Eats = true) → ((a1.Empty = true → ((a1.Fails = true → K (X_api_Facts.mk false b2.Eats true).val) ∧ (¬ (a1.Fails = true) → ((a1.Empty = true → K (X_api_Facts.mk false b2.Eats b2.Fails).val) ∧ (¬ (a1.Empty = true) → ((a1.Eats = true → K (X_api_Facts.mk false b2.Eats b2.Fails).val) ∧ (¬ (a1.Eats = true) → K (X_api_Facts.mk false b2.Eats false).val))))))) ∧ (¬ (a1.Empty = true) → ((a1.Fails = true → K (X_api_Facts.mk false false true).val) ∧ (¬ (a1.Fails = true) → ((a1.Empty = true → K (X_api_Facts.mk false false b2.Fails).val) ∧ (¬ (a1.Empty = true) → ((a1.Eats = true → K (X_api_Facts.mk false false b2.Fails).val) ∧ (¬ (a1.Eats = true) → K (X_api_Facts.mk false false false).val))))))))))))
set_option maxRecDepth 100000 in
theorem s_well_then (a1 : X_api_Facts) (b2 : X_api_Facts) (M : Mem) (K : Value → Prop) (hS : S_well_then a1 b2 M K) : CallE Try.prog 159 #[a1.val, b2.val] M (fun v _ => K v) := by
 refine enterE Try.func159 rfl 44 rfl (Nat.le_of_ble_eq_true rfl) (fun E a hs => ?_)
 unfold S_well_then at hS
 have hMM := MX.refl M E
 change Sx 44 E [] M E a [(0, a1.val), (1, b2.val)] [] [] at hs
 refine Wp.seq (Wp.region (stepBox a1.cells hs rfl rfl rfl (by decide) (fun _ _ b3 hEb3 hs => ?_)))
 refine stepBox b2.cells hs rfl rfl rfl (by decide) (fun _ _ b4 hEb4 hs => ?_)
 refine stepAlloc [(.bool false), (.bool false), (.bool false)] hs (by kernel_rfl) (by decide) (fun _ _ b5 hEb5 hs => ?_)
 refine wpList_nil (Wp.seq (Wp.region (sP (pt b3 0) hs fun _ hs => ?_)))
 refine sY (.bool a1.Empty) hs (Yl.lB [(.bool a1.Empty)] false 2) fun _ hs => ?_
 refine sP (.bool a1.Empty) hs fun _ hs => ?_
 refine bsplit a1.Empty Iff.rfl (fun hb hc => ?_) (fun hb hc => ?_)
 ·have hs := hs.bt hb
  have hS := hS.1 hc
  refine sYe hs (sP (pt b4 0) hs fun _ hs => ?_)
  refine sYe hs (sY (.bool b2.Empty) hs (Yl.lB [(.bool b2.Empty)] false 1) fun _ hs => ?_)
  refine sP (.bool b2.Empty) hs fun _ hs => ?_
  refine sP (pt b3 1) hs fun _ hs => ?_
  refine sY (.bool a1.Eats) hs (Yl.lB [(.bool a1.Eats)] false 2) fun _ hs => ?_
  refine sP (.bool a1.Eats) hs fun _ hs => ?_
  refine bsplit a1.Eats Iff.rfl (fun hb hc => ?_) (fun hb hc => ?_)
  ·have hs := hs.bt hb
   have hS := hS.1 hc
   refine sYe hs (sP (pt b4 0) hs fun _ hs => ?_)
   refine sYe hs (sY (.bool b2.Empty) hs (Yl.lB [(.bool b2.Empty)] false 1) fun _ hs => ?_)
   refine sYe hs (sP (.bool b2.Empty) hs fun _ hs => ?_)
   refine bsplit b2.Empty Iff.rfl (fun hb hc => ?_) (fun hb hc => ?_)
   ·have hs := hs.bt hb
    have hS := hS.1 hc
    refine sNo hs fun _ hs => ?_
    refine sNo hs fun _ hs => ?_
    refine sYe hs (sP (.bool true) hs fun _ hs => ?_)
    refine sP (.bool true) hs fun _ hs => ?_
    refine sP (.bool true) hs fun _ hs => ?_
    refine sNo hs fun _ hs => ?_
    refine sNo hs fun _ hs => ?_
    refine sNo hs fun _ hs => ?_
    refine sNu hs fun _ hs => ?_
    refine sNu hs fun _ hs => ?_
    refine sNo hs fun _ hs => ?_
    refine sP (.bool true) hs fun _ hs => ?_
    refine sP (pt b3 2) hs fun _ hs => ?_
    refine sY (.bool a1.Fails) hs (Yl.lB [(.bool a1.Fails)] false 2) fun _ hs => ?_
    refine sP (.bool a1.Fails) hs fun _ hs => ?_
    refine bsplit a1.Fails Iff.rfl (fun hb hc => ?_) (fun hb hc => ?_)
    ·have hs := hs.bt hb
     have hS := hS.1 hc
     refine sNo hs fun _ hs => ?_
     refine sNo hs fun _ hs => ?_
     refine sNo hs fun _ hs => ?_
     refine sNu hs fun _ hs => ?_
     refine sNu hs fun _ hs => ?_
     refine sNo hs fun _ hs => ?_
     refine sNo hs fun _ hs => ?_
     refine sNu hs fun _ hs => ?_
     refine sNu hs fun _ hs => ?_
     refine sNo hs fun _ hs => ?_
     refine sP (.bool true) hs fun _ hs => ?_
     refine sP (X_api_Facts.mk b2.Empty true true).val hs fun _ hs => ?_
     refine stB 0 [(.bool b2.Empty), (.bool true), (.bool true)] [⟨b5, 202, [(.bool b2.Empty), (.bool true), (.bool true)]⟩, ⟨b4, 202, b2.cells⟩, ⟨b3, 202, a1.cells⟩] hs fun _ _ hs => ?_
     exact wpList_nil (Wp.ret (lvE K hs (resC (vs := [(.bool b2.Empty), (.bool true), (.bool true)]) true 0 hs rfl rfl rfl (by kernel_rfl) rfl) hMM.2 hS))
    ·have hs := hs.bf hb
     have hS := hS.2 hc
     refine sYe hs (sP (pt b3 0) hs fun _ hs => ?_)
     refine sYe hs (sY (.bool a1.Empty) hs (Yl.lB [(.bool a1.Empty)] false 2) fun _ hs => ?_)
     refine sYe hs (sP (.bool a1.Empty) hs fun _ hs => ?_)
     refine bsplit a1.Empty Iff.rfl (fun hb hc => ?_) (fun hb hc => ?_)
     ·have hs := hs.bt hb
      have hS := hS.1 hc
      refine sNo hs fun _ hs => ?_
      refine sNo hs fun _ hs => ?_
      refine sYe hs (sP (.bool true) hs fun _ hs => ?_)
      refine sYe hs (sP (.bool true) hs fun _ hs => ?_)
      refine sYe hs (sP (pt b4 2) hs fun _ hs => ?_)
      refine sYe hs (sY (.bool b2.Fails) hs (Yl.lB [(.bool b2.Fails)] false 1) fun _ hs => ?_)
      refine sYe hs (sP (.bool b2.Fails) hs fun _ hs => ?_)
      refine sP (.bool b2.Fails) hs fun _ hs => ?_
      refine sP (X_api_Facts.mk b2.Empty true b2.Fails).val hs fun _ hs => ?_
      refine stB 0 [(.bool b2.Empty), (.bool true), (.bool b2.Fails)] [⟨b5, 202, [(.bool b2.Empty), (.bool true), (.bool b2.Fails)]⟩, ⟨b4, 202, b2.cells⟩, ⟨b3, 202, a1.cells⟩] hs fun _ _ hs => ?_
      exact wpList_nil (Wp.ret (lvE K hs (resC (vs := [(.bool b2.Empty), (.bool true), (.bool b2.Fails)]) true 0 hs rfl rfl rfl (by kernel_rfl) rfl) hMM.2 hS))
     ·have hs := hs.bf hb
      have hS := hS.2 hc
      refine sYe hs (sP (pt b3 1) hs fun _ hs => ?_)
      refine sYe hs (sY (.bool a1.Eats) hs (Yl.lB [(.bool a1.Eats)] false 2) fun _ hs => ?_)
      refine sYe hs (sP (.bool a1.Eats) hs fun _ hs => ?_)
      refine sYe hs (sP (.bool a1.Eats) hs fun _ hs => ?_)
      refine bsplit a1.Eats Iff.rfl (fun hb hc => ?_) (fun hb hc => ?_)
      ·have hs := hs.bt hb
       have hS := hS.1 hc
       refine sYe hs (sP (pt b4 2) hs fun _ hs => ?_)
       refine sYe hs (sY (.bool b2.Fails) hs (Yl.lB [(.bool b2.Fails)] false 1) fun _ hs => ?_)
       refine sYe hs (sP (.bool b2.Fails) hs fun _ hs => ?_)
       refine sP (.bool b2.Fails) hs fun _ hs => ?_
       refine sP (X_api_Facts.mk b2.Empty true b2.Fails).val hs fun _ hs => ?_
       refine stB 0 [(.bool b2.Empty), (.bool true), (.bool b2.Fails)] [⟨b5, 202, [(.bool b2.Empty), (.bool true), (.bool b2.Fails)]⟩, ⟨b4, 202, b2.cells⟩, ⟨b3, 202, a1.cells⟩] hs fun _ _ hs => ?_
       exact wpList_nil (Wp.ret (lvE K hs (resC (vs := [(.bool b2.Empty), (.bool true), (.bool b2.Fails)]) true 0 hs rfl rfl rfl (by kernel_rfl) rfl) hMM.2 hS))
      ·have hs := hs.bf hb
       have hS := hS.2 hc
       refine sNo hs fun _ hs => ?_
       refine sNo hs fun _ hs => ?_
       refine sYe hs (sP (.bool false) hs fun _ hs => ?_)
       refine sP (.bool false) hs fun _ hs => ?_
       refine sP (X_api_Facts.mk b2.Empty true false).val hs fun _ hs => ?_
       refine stB 0 [(.bool b2.Empty), (.bool true), (.bool false)] [⟨b5, 202, [(.bool b2.Empty), (.bool true), (.bool false)]⟩, ⟨b4, 202, b2.cells⟩, ⟨b3, 202, a1.cells⟩] hs fun _ _ hs => ?_
       exact wpList_nil (Wp.ret (lvE K hs (resC (vs := [(.bool b2.Empty), (.bool true), (.bool false)]) true 0 hs rfl rfl rfl (by kernel_rfl) rfl) hMM.2 hS))
   ·have hs := hs.bf hb
    have hS := hS.2 hc
    refine sYe hs (sP (pt b4 1) hs fun _ hs => ?_)
    refine sYe hs (sY (.bool b2.Eats) hs (Yl.lB [(.bool b2.Eats)] false 1) fun _ hs => ?_)
    refine sYe hs (sP (.bool b2.Eats) hs fun _ hs => ?_)
    refine sP (.bool b2.Eats) hs fun _ hs => ?_
    refine sP (.bool b2.Eats) hs fun _ hs => ?_
    refine bsplit b2.Eats Iff.rfl (fun hb hc => ?_) (fun hb hc => ?_)
    ·have hs := hs.bt hb
     have hS := hS.1 hc
     refine sNo hs fun _ hs => ?_
     refine sNo hs fun _ hs => ?_
     refine sNo hs fun _ hs => ?_
     refine sNu hs fun _ hs => ?_
     refine sNu hs fun _ hs => ?_
     refine sNo hs fun _ hs => ?_
     refine sP (.bool true) hs fun _ hs => ?_
     refine sP (pt b3 2) hs fun _ hs => ?_
     refine sY (.bool a1.Fails) hs (Yl.lB [(.bool a1.Fails)] false 2) fun _ hs => ?_
     refine sP (.bool a1.Fails) hs fun _ hs => ?_
     refine bsplit a1.Fails Iff.rfl (fun hb hc => ?_) (fun hb hc => ?_)
     ·have hs := hs.bt hb
      have hS := hS.1 hc
      refine sNo hs fun _ hs => ?_
      refine sNo hs fun _ hs => ?_
      refine sNo hs fun _ hs => ?_
      refine sNu hs fun _ hs => ?_
      refine sNu hs fun _ hs => ?_
      refine sNo hs fun _ hs => ?_
      refine sNo hs fun _ hs => ?_
      refine sNu hs fun _ hs => ?_
      refine sNu hs fun _ hs => ?_
      refine sNo hs fun _ hs => ?_
      refine sP (.bool true) hs fun _ hs => ?_
      refine sP (X_api_Facts.mk b2.Empty true true).val hs fun _ hs => ?_
      refine stB 0 [(.bool b2.Empty), (.bool true), (.bool true)] [⟨b5, 202, [(.bool b2.Empty), (.bool true), (.bool true)]⟩, ⟨b4, 202, b2.cells⟩, ⟨b3, 202, a1.cells⟩] hs fun _ _ hs => ?_
      exact wpList_nil (Wp.ret (lvE K hs (resC (vs := [(.bool b2.Empty), (.bool true), (.bool true)]) true 0 hs rfl rfl rfl (by kernel_rfl) rfl) hMM.2 hS))
     ·have hs := hs.bf hb
      have hS := hS.2 hc
      refine sYe hs (sP (pt b3 0) hs fun _ hs => ?_)
      refine sYe hs (sY (.bool a1.Empty) hs (Yl.lB [(.bool a1.Empty)] false 2) fun _ hs => ?_)
      refine sYe hs (sP (.bool a1.Empty) hs fun _ hs => ?_)
      refine bsplit a1.Empty Iff.rfl (fun hb hc => ?_) (fun hb hc => ?_)
      ·have hs := hs.bt hb
       have hS := hS.1 hc
       refine sNo hs fun _ hs => ?_
       refine sNo hs fun _ hs => ?_
       refine sYe hs (sP (.bool true) hs fun _ hs => ?_)
       refine sYe hs (sP (.bool true) hs fun _ hs => ?_)
       refine sYe hs (sP (pt b4 2) hs fun _ hs => ?_)
       refine sYe hs (sY (.bool b2.Fails) hs (Yl.lB [(.bool b2.Fails)] false 1) fun _ hs => ?_)
       refine sYe hs (sP (.bool b2.Fails) hs fun _ hs => ?_)
       refine sP (.bool b2.Fails) hs fun _ hs => ?_
       refine sP (X_api_Facts.mk b2.Empty true b2.Fails).val hs fun _ hs => ?_
       refine stB 0 [(.bool b2.Empty), (.bool true), (.bool b2.Fails)] [⟨b5, 202, [(.bool b2.Empty), (.bool true), (.bool b2.Fails)]⟩, ⟨b4, 202, b2.cells⟩, ⟨b3, 202, a1.cells⟩] hs fun _ _ hs => ?_
       exact wpList_nil (Wp.ret (lvE K hs (resC (vs := [(.bool b2.Empty), (.bool true), (.bool b2.Fails)]) true 0 hs rfl rfl rfl (by kernel_rfl) rfl) hMM.2 hS))
      ·have hs := hs.bf hb
       have hS := hS.2 hc
       refine sYe hs (sP (pt b3 1) hs fun _ hs => ?_)
       refine sYe hs (sY (.bool a1.Eats) hs (Yl.lB [(.bool a1.Eats)] false 2) fun _ hs => ?_)
       refine sYe hs (sP (.bool a1.Eats) hs fun _ hs => ?_)
       refine sYe hs (sP (.bool a1.Eats) hs fun _ hs => ?_)
       refine bsplit a1.Eats Iff.rfl (fun hb hc => ?_) (fun hb hc => ?_)
       ·have hs := hs.bt hb
        have hS := hS.1 hc
        refine sYe hs (sP (pt b4 2) hs fun _ hs => ?_)
        refine sYe hs (sY (.bool b2.Fails) hs (Yl.lB [(.bool b2.Fails)] false 1) fun _ hs => ?_)
        refine sYe hs (sP (.bool b2.Fails) hs fun _ hs => ?_)
        refine sP (.bool b2.Fails) hs fun _ hs => ?_
        refine sP (X_api_Facts.mk b2.Empty true b2.Fails).val hs fun _ hs => ?_
        refine stB 0 [(.bool b2.Empty), (.bool true), (.bool b2.Fails)] [⟨b5, 202, [(.bool b2.Empty), (.bool true), (.bool b2.Fails)]⟩, ⟨b4, 202, b2.cells⟩, ⟨b3, 202, a1.cells⟩] hs fun _ _ hs => ?_
        exact wpList_nil (Wp.ret (lvE K hs (resC (vs := [(.bool b2.Empty), (.bool true), (.bool b2.Fails)]) true 0 hs rfl rfl rfl (by kernel_rfl) rfl) hMM.2 hS))
       ·have hs := hs.bf hb
        have hS := hS.2 hc
        refine sNo hs fun _ hs => ?_
        refine sNo hs fun _ hs => ?_
        refine sYe hs (sP (.bool false) hs fun _ hs => ?_)
        refine sP (.bool false) hs fun _ hs => ?_
        refine sP (X_api_Facts.mk b2.Empty true false).val hs fun _ hs => ?_
        refine stB 0 [(.bool b2.Empty), (.bool true), (.bool false)] [⟨b5, 202, [(.bool b2.Empty), (.bool true), (.bool false)]⟩, ⟨b4, 202, b2.cells⟩, ⟨b3, 202, a1.cells⟩] hs fun _ _ hs => ?_
        exact wpList_nil (Wp.ret (lvE K hs (resC (vs := [(.bool b2.Empty), (.bool true), (.bool false)]) true 0 hs rfl rfl rfl (by kernel_rfl) rfl) hMM.2 hS))
    ·have hs := hs.bf hb
     have hS := hS.2 hc
     refine sYe hs (sP (pt b3 0) hs fun _ hs => ?_)
     refine sYe hs (sY (.bool a1.Empty) hs (Yl.lB [(.bool a1.Empty)] false 2) fun _ hs => ?_)
     refine sYe hs (sP (.bool a1.Empty) hs fun _ hs => ?_)
     refine bsplit a1.Empty Iff.rfl (fun hb hc => ?_) (fun hb hc => ?_)
     ·have hs := hs.bt hb
      have hS := hS.1 hc
      refine sYe hs (sP (pt b4 1) hs fun _ hs => ?_)
      refine sYe hs (sY (.bool b2.Eats) hs (Yl.lB [(.bool b2.Eats)] false 1) fun _ hs => ?_)
      refine sYe hs (sP (.bool b2.Eats) hs fun _ hs => ?_)
      refine sP (.bool b2.Eats) hs fun _ hs => ?_
      refine sP (pt b3 2) hs fun _ hs => ?_
      refine sY (.bool a1.Fails) hs (Yl.lB [(.bool a1.Fails)] false 2) fun _ hs => ?_
      refine sP (.bool a1.Fails) hs fun _ hs => ?_
      refine bsplit a1.Fails Iff.rfl (fun hb hc => ?_) (fun hb hc => ?_)
      ·have hs := hs.bt hb
       have hS := hS.1 hc
       refine sNo hs fun _ hs => ?_
       refine sNo hs fun _ hs => ?_
       refine sNo hs fun _ hs => ?_
       refine sNu hs fun _ hs => ?_
       refine sNu hs fun _ hs => ?_
       refine sNo hs fun _ hs => ?_
       refine sNo hs fun _ hs => ?_
       refine sNu hs fun _ hs => ?_
       refine sNu hs fun _ hs => ?_
       refine sNo hs fun _ hs => ?_
       refine sP (.bool true) hs fun _ hs => ?_
       refine sP (X_api_Facts.mk b2.Empty b2.Eats true).val hs fun _ hs => ?_
       refine stB 0 [(.bool b2.Empty), (.bool b2.Eats), (.bool true)] [⟨b5, 202, [(.bool b2.Empty), (.bool b2.Eats), (.bool true)]⟩, ⟨b4, 202, b2.cells⟩, ⟨b3, 202, a1.cells⟩] hs fun _ _ hs => ?_
       exact wpList_nil (Wp.ret (lvE K hs (resC (vs := [(.bool b2.Empty), (.bool b2.Eats), (.bool true)]) true 0 hs rfl rfl rfl (by kernel_rfl) rfl) hMM.2 hS))
      ·have hs := hs.bf hb
       have hS := hS.2 hc
       refine sYe hs (sP (pt b3 0) hs fun _ hs => ?_)
       refine sYe hs (sY (.bool a1.Empty) hs (Yl.lB [(.bool a1.Empty)] false 2) fun _ hs => ?_)
       refine sYe hs (sP (.bool a1.Empty) hs fun _ hs => ?_)
       refine bsplit a1.Empty Iff.rfl (fun hb hc => ?_) (fun hb hc => ?_)
       ·have hs := hs.bt hb
        have hS := hS.1 hc
        refine sNo hs fun _ hs => ?_
        refine sNo hs fun _ hs => ?_
        refine sYe hs (sP (.bool true) hs fun _ hs => ?_)
        refine sYe hs (sP (.bool true) hs fun _ hs => ?_)
        refine sYe hs (sP (pt b4 2) hs fun _ hs => ?_)
        refine sYe hs (sY (.bool b2.Fails) hs (Yl.lB [(.bool b2.Fails)] false 1) fun _ hs => ?_)
        refine sYe hs (sP (.bool b2.Fails) hs fun _ hs => ?_)
        refine sP (.bool b2.Fails) hs fun _ hs => ?_
        refine sP b2.val hs fun _ hs => ?_
        refine stB 0 b2.cells [⟨b5, 202, b2.cells⟩, ⟨b4, 202, b2.cells⟩, ⟨b3, 202, a1.cells⟩] hs fun _ _ hs => ?_
        exact wpList_nil (Wp.ret (lvE K hs (resC (vs := b2.cells) true 0 hs rfl rfl rfl (by kernel_rfl) rfl) hMM.2 hS))
       ·have hs := hs.bf hb
        have hS := hS.2 hc
        refine sYe hs (sP (pt b3 1) hs fun _ hs => ?_)
        refine sYe hs (sY (.bool a1.Eats) hs (Yl.lB [(.bool a1.Eats)] false 2) fun _ hs => ?_)
        refine sYe hs (sP (.bool a1.Eats) hs fun _ hs => ?_)
        refine sYe hs (sP (.bool a1.Eats) hs fun _ hs => ?_)
        refine bsplit a1.Eats Iff.rfl (fun hb hc => ?_) (fun hb hc => ?_)
        ·have hs := hs.bt hb
         have hS := hS.1 hc
         refine sYe hs (sP (pt b4 2) hs fun _ hs => ?_)
         refine sYe hs (sY (.bool b2.Fails) hs (Yl.lB [(.bool b2.Fails)] false 1) fun _ hs => ?_)
         refine sYe hs (sP (.bool b2.Fails) hs fun _ hs => ?_)
         refine sP (.bool b2.Fails) hs fun _ hs => ?_
         refine sP b2.val hs fun _ hs => ?_
         refine stB 0 b2.cells [⟨b5, 202, b2.cells⟩, ⟨b4, 202, b2.cells⟩, ⟨b3, 202, a1.cells⟩] hs fun _ _ hs => ?_
         exact wpList_nil (Wp.ret (lvE K hs (resC (vs := b2.cells) true 0 hs rfl rfl rfl (by kernel_rfl) rfl) hMM.2 hS))
        ·have hs := hs.bf hb
         have hS := hS.2 hc
         refine sNo hs fun _ hs => ?_
         refine sNo hs fun _ hs => ?_
         refine sYe hs (sP (.bool false) hs fun _ hs => ?_)
         refine sP (.bool false) hs fun _ hs => ?_
         refine sP (X_api_Facts.mk b2.Empty b2.Eats false).val hs fun _ hs => ?_
         refine stB 0 [(.bool b2.Empty), (.bool b2.Eats), (.bool false)] [⟨b5, 202, [(.bool b2.Empty), (.bool b2.Eats), (.bool false)]⟩, ⟨b4, 202, b2.cells⟩, ⟨b3, 202, a1.cells⟩] hs fun _ _ hs => ?_
         exact wpList_nil (Wp.ret (lvE K hs (resC (vs := [(.bool b2.Empty), (.bool b2.Eats), (.bool false)]) true 0 hs rfl rfl rfl (by kernel_rfl) rfl) hMM.2 hS))
     ·have hs := hs.bf hb
      have hS := hS.2 hc
      refine sNo hs fun _ hs => ?_
      refine sNo hs fun _ hs => ?_
      refine sYe hs (sP (.bool false) hs fun _ hs => ?_)
      refine sP (.bool false) hs fun _ hs => ?_
      refine sP (pt b3 2) hs fun _ hs => ?_
      refine sY (.bool a1.Fails) hs (Yl.lB [(.bool a1.Fails)] false 2) fun _ hs => ?_
      refine sP (.bool a1.Fails) hs fun _ hs => ?_
      refine bsplit a1.Fails Iff.rfl (fun hb hc => ?_) (fun hb hc => ?_)
      ·have hs := hs.bt hb
       have hS := hS.1 hc
       refine sNo hs fun _ hs => ?_
       refine sNo hs fun _ hs => ?_
       refine sNo hs fun _ hs => ?_
       refine sNu hs fun _ hs => ?_
       refine sNu hs fun _ hs => ?_
       refine sNo hs fun _ hs => ?_
       refine sNo hs fun _ hs => ?_
       refine sNu hs fun _ hs => ?_
       refine sNu hs fun _ hs => ?_
       refine sNo hs fun _ hs => ?_
       refine sP (.bool true) hs fun _ hs => ?_
       refine sP (X_api_Facts.mk b2.Empty false true).val hs fun _ hs => ?_
       refine stB 0 [(.bool b2.Empty), (.bool false), (.bool true)] [⟨b5, 202, [(.bool b2.Empty), (.bool false), (.bool true)]⟩, ⟨b4, 202, b2.cells⟩, ⟨b3, 202, a1.cells⟩] hs fun _ _ hs => ?_
       exact wpList_nil (Wp.ret (lvE K hs (resC (vs := [(.bool b2.Empty), (.bool false), (.bool true)]) true 0 hs rfl rfl rfl (by kernel_rfl) rfl) hMM.2 hS))
      ·have hs := hs.bf hb
       have hS := hS.2 hc
       refine sYe hs (sP (pt b3 0) hs fun _ hs => ?_)
       refine sYe hs (sY (.bool a1.Empty) hs (Yl.lB [(.bool a1.Empty)] false 2) fun _ hs => ?_)
       refine sYe hs (sP (.bool a1.Empty) hs fun _ hs => ?_)
       refine bsplit a1.Empty Iff.rfl (fun hb hc => ?_) (fun hb hc => ?_)
       ·have hs := hs.bt hb
        have hS := hS.1 hc
        refine sNo hs fun _ hs => ?_
        refine sNo hs fun _ hs => ?_
        refine sYe hs (sP (.bool true) hs fun _ hs => ?_)
        refine sYe hs (sP (.bool true) hs fun _ hs => ?_)
        refine sYe hs (sP (pt b4 2) hs fun _ hs => ?_)
        refine sYe hs (sY (.bool b2.Fails) hs (Yl.lB [(.bool b2.Fails)] false 1) fun _ hs => ?_)
        refine sYe hs (sP (.bool b2.Fails) hs fun _ hs => ?_)
        refine sP (.bool b2.Fails) hs fun _ hs => ?_
        refine sP (X_api_Facts.mk b2.Empty false b2.Fails).val hs fun _ hs => ?_
        refine stB 0 [(.bool b2.Empty), (.bool false), (.bool b2.Fails)] [⟨b5, 202, [(.bool b2.Empty), (.bool false), (.bool b2.Fails)]⟩, ⟨b4, 202, b2.cells⟩, ⟨b3, 202, a1.cells⟩] hs fun _ _ hs => ?_
        exact wpList_nil (Wp.ret (lvE K hs (resC (vs := [(.bool b2.Empty), (.bool false), (.bool b2.Fails)]) true 0 hs rfl rfl rfl (by kernel_rfl) rfl) hMM.2 hS))
       ·have hs := hs.bf hb
        have hS := hS.2 hc
        refine sYe hs (sP (pt b3 1) hs fun _ hs => ?_)
        refine sYe hs (sY (.bool a1.Eats) hs (Yl.lB [(.bool a1.Eats)] false 2) fun _ hs => ?_)
        refine sYe hs (sP (.bool a1.Eats) hs fun _ hs => ?_)
        refine sYe hs (sP (.bool a1.Eats) hs fun _ hs => ?_)
        refine bsplit a1.Eats Iff.rfl (fun hb hc => ?_) (fun hb hc => ?_)
        ·have hs := hs.bt hb
         have hS := hS.1 hc
         refine sYe hs (sP (pt b4 2) hs fun _ hs => ?_)
         refine sYe hs (sY (.bool b2.Fails) hs (Yl.lB [(.bool b2.Fails)] false 1) fun _ hs => ?_)
         refine sYe hs (sP (.bool b2.Fails) hs fun _ hs => ?_)
         refine sP (.bool b2.Fails) hs fun _ hs => ?_
         refine sP (X_api_Facts.mk b2.Empty false b2.Fails).val hs fun _ hs => ?_
         refine stB 0 [(.bool b2.Empty), (.bool false), (.bool b2.Fails)] [⟨b5, 202, [(.bool b2.Empty), (.bool false), (.bool b2.Fails)]⟩, ⟨b4, 202, b2.cells⟩, ⟨b3, 202, a1.cells⟩] hs fun _ _ hs => ?_
         exact wpList_nil (Wp.ret (lvE K hs (resC (vs := [(.bool b2.Empty), (.bool false), (.bool b2.Fails)]) true 0 hs rfl rfl rfl (by kernel_rfl) rfl) hMM.2 hS))
        ·have hs := hs.bf hb
         have hS := hS.2 hc
         refine sNo hs fun _ hs => ?_
         refine sNo hs fun _ hs => ?_
         refine sYe hs (sP (.bool false) hs fun _ hs => ?_)
         refine sP (.bool false) hs fun _ hs => ?_
         refine sP (X_api_Facts.mk b2.Empty false false).val hs fun _ hs => ?_
         refine stB 0 [(.bool b2.Empty), (.bool false), (.bool false)] [⟨b5, 202, [(.bool b2.Empty), (.bool false), (.bool false)]⟩, ⟨b4, 202, b2.cells⟩, ⟨b3, 202, a1.cells⟩] hs fun _ _ hs => ?_
         exact wpList_nil (Wp.ret (lvE K hs (resC (vs := [(.bool b2.Empty), (.bool false), (.bool false)]) true 0 hs rfl rfl rfl (by kernel_rfl) rfl) hMM.2 hS))
  ·have hs := hs.bf hb
   have hS := hS.2 hc
   refine sNo hs fun _ hs => ?_
   refine sNo hs fun _ hs => ?_
   refine sNo hs fun _ hs => ?_
   refine sNu hs fun _ hs => ?_
   refine sNu hs fun _ hs => ?_
   refine sNo hs fun _ hs => ?_
   refine sP (.bool false) hs fun _ hs => ?_
   refine sP (.bool false) hs fun _ hs => ?_
   refine sYe hs (sP (pt b3 0) hs fun _ hs => ?_)
   refine sYe hs (sY (.bool a1.Empty) hs (Yl.lB [(.bool a1.Empty)] false 2) fun _ hs => ?_)
   refine sYe hs (sP (.bool a1.Empty) hs fun _ hs => ?_)
   refine bsplit a1.Empty Iff.rfl (fun hb hc => ?_) (fun hb hc => ?_)
   ·have hs := hs.bt hb
    have hS := hS.1 hc
    refine sYe hs (sP (pt b4 1) hs fun _ hs => ?_)
    refine sYe hs (sY (.bool b2.Eats) hs (Yl.lB [(.bool b2.Eats)] false 1) fun _ hs => ?_)
    refine sYe hs (sP (.bool b2.Eats) hs fun _ hs => ?_)
    refine sP (.bool b2.Eats) hs fun _ hs => ?_
    refine sP (pt b3 2) hs fun _ hs => ?_
    refine sY (.bool a1.Fails) hs (Yl.lB [(.bool a1.Fails)] false 2) fun _ hs => ?_
    refine sP (.bool a1.Fails) hs fun _ hs => ?_
    refine bsplit a1.Fails Iff.rfl (fun hb hc => ?_) (fun hb hc => ?_)
    ·have hs := hs.bt hb
     have hS := hS.1 hc
     refine sNo hs fun _ hs => ?_
     refine sNo hs fun _ hs => ?_
     refine sNo hs fun _ hs => ?_
     refine sNu hs fun _ hs => ?_
     refine sNu hs fun _ hs => ?_
     refine sNo hs fun _ hs => ?_
     refine sNo hs fun _ hs => ?_
     refine sNu hs fun _ hs => ?_
     refine sNu hs fun _ hs => ?_
     refine sNo hs fun _ hs => ?_
     refine sP (.bool true) hs fun _ hs => ?_
     refine sP (X_api_Facts.mk b2.Empty b2.Eats true).val hs fun _ hs => ?_
     refine stB 0 [(.bool b2.Empty), (.bool b2.Eats), (.bool true)] [⟨b5, 202, [(.bool b2.Empty), (.bool b2.Eats), (.bool true)]⟩, ⟨b4, 202, b2.cells⟩, ⟨b3, 202, a1.cells⟩] hs fun _ _ hs => ?_
     exact wpList_nil (Wp.ret (lvE K hs (resC (vs := [(.bool b2.Empty), (.bool b2.Eats), (.bool true)]) true 0 hs rfl rfl rfl (by kernel_rfl) rfl) hMM.2 hS))
    ·have hs := hs.bf hb
     have hS := hS.2 hc
     refine sYe hs (sP (pt b3 0) hs fun _ hs => ?_)
     refine sYe hs (sY (.bool a1.Empty) hs (Yl.lB [(.bool a1.Empty)] false 2) fun _ hs => ?_)
     refine sYe hs (sP (.bool a1.Empty) hs fun _ hs => ?_)
     refine bsplit a1.Empty Iff.rfl (fun hb hc => ?_) (fun hb hc => ?_)
     ·have hs := hs.bt hb
      have hS := hS.1 hc
      refine sNo hs fun _ hs => ?_
      refine sNo hs fun _ hs => ?_
      refine sYe hs (sP (.bool true) hs fun _ hs => ?_)
      refine sYe hs (sP (.bool true) hs fun _ hs => ?_)
      refine sYe hs (sP (pt b4 2) hs fun _ hs => ?_)
      refine sYe hs (sY (.bool b2.Fails) hs (Yl.lB [(.bool b2.Fails)] false 1) fun _ hs => ?_)
      refine sYe hs (sP (.bool b2.Fails) hs fun _ hs => ?_)
      refine sP (.bool b2.Fails) hs fun _ hs => ?_
      refine sP b2.val hs fun _ hs => ?_
      refine stB 0 b2.cells [⟨b5, 202, b2.cells⟩, ⟨b4, 202, b2.cells⟩, ⟨b3, 202, a1.cells⟩] hs fun _ _ hs => ?_
      exact wpList_nil (Wp.ret (lvE K hs (resC (vs := b2.cells) true 0 hs rfl rfl rfl (by kernel_rfl) rfl) hMM.2 hS))
     ·have hs := hs.bf hb
      have hS := hS.2 hc
      refine sYe hs (sP (pt b3 1) hs fun _ hs => ?_)
      refine sYe hs (sY (.bool a1.Eats) hs (Yl.lB [(.bool a1.Eats)] false 2) fun _ hs => ?_)
      refine sYe hs (sP (.bool a1.Eats) hs fun _ hs => ?_)
      refine sYe hs (sP (.bool a1.Eats) hs fun _ hs => ?_)
      refine bsplit a1.Eats Iff.rfl (fun hb hc => ?_) (fun hb hc => ?_)
      ·have hs := hs.bt hb
       have hS := hS.1 hc
       refine sYe hs (sP (pt b4 2) hs fun _ hs => ?_)
       refine sYe hs (sY (.bool b2.Fails) hs (Yl.lB [(.bool b2.Fails)] false 1) fun _ hs => ?_)
       refine sYe hs (sP (.bool b2.Fails) hs fun _ hs => ?_)
       refine sP (.bool b2.Fails) hs fun _ hs => ?_
       refine sP b2.val hs fun _ hs => ?_
       refine stB 0 b2.cells [⟨b5, 202, b2.cells⟩, ⟨b4, 202, b2.cells⟩, ⟨b3, 202, a1.cells⟩] hs fun _ _ hs => ?_
       exact wpList_nil (Wp.ret (lvE K hs (resC (vs := b2.cells) true 0 hs rfl rfl rfl (by kernel_rfl) rfl) hMM.2 hS))
      ·have hs := hs.bf hb
       have hS := hS.2 hc
       refine sNo hs fun _ hs => ?_
       refine sNo hs fun _ hs => ?_
       refine sYe hs (sP (.bool false) hs fun _ hs => ?_)
       refine sP (.bool false) hs fun _ hs => ?_
       refine sP (X_api_Facts.mk b2.Empty b2.Eats false).val hs fun _ hs => ?_
       refine stB 0 [(.bool b2.Empty), (.bool b2.Eats), (.bool false)] [⟨b5, 202, [(.bool b2.Empty), (.bool b2.Eats), (.bool false)]⟩, ⟨b4, 202, b2.cells⟩, ⟨b3, 202, a1.cells⟩] hs fun _ _ hs => ?_
       exact wpList_nil (Wp.ret (lvE K hs (resC (vs := [(.bool b2.Empty), (.bool b2.Eats), (.bool false)]) true 0 hs rfl rfl rfl (by kernel_rfl) rfl) hMM.2 hS))
   ·have hs := hs.bf hb
    have hS := hS.2 hc
    refine sNo hs fun _ hs => ?_
    refine sNo hs fun _ hs => ?_
    refine sYe hs (sP (.bool false) hs fun _ hs => ?_)
    refine sP (.bool false) hs fun _ hs => ?_
    refine sP (pt b3 2) hs fun _ hs => ?_
    refine sY (.bool a1.Fails) hs (Yl.lB [(.bool a1.Fails)] false 2) fun _ hs => ?_
    refine sP (.bool a1.Fails) hs fun _ hs => ?_
    refine bsplit a1.Fails Iff.rfl (fun hb hc => ?_) (fun hb hc => ?_)
    ·have hs := hs.bt hb
     have hS := hS.1 hc
     refine sNo hs fun _ hs => ?_
     refine sNo hs fun _ hs => ?_
     refine sNo hs fun _ hs => ?_
     refine sNu hs fun _ hs => ?_
     refine sNu hs fun _ hs => ?_
     refine sNo hs fun _ hs => ?_
     refine sNo hs fun _ hs => ?_
     refine sNu hs fun _ hs => ?_
     refine sNu hs fun _ hs => ?_
     refine sNo hs fun _ hs => ?_
     refine sP (.bool true) hs fun _ hs => ?_
     refine sP (X_api_Facts.mk b2.Empty false true).val hs fun _ hs => ?_
     refine stB 0 [(.bool b2.Empty), (.bool false), (.bool true)] [⟨b5, 202, [(.bool b2.Empty), (.bool false), (.bool true)]⟩, ⟨b4, 202, b2.cells⟩, ⟨b3, 202, a1.cells⟩] hs fun _ _ hs => ?_
     exact wpList_nil (Wp.ret (lvE K hs (resC (vs := [(.bool b2.Empty), (.bool false), (.bool true)]) true 0 hs rfl rfl rfl (by kernel_rfl) rfl) hMM.2 hS))
    ·have hs := hs.bf hb
     have hS := hS.2 hc
     refine sYe hs (sP (pt b3 0) hs fun _ hs => ?_)
     refine sYe hs (sY (.bool a1.Empty) hs (Yl.lB [(.bool a1.Empty)] false 2) fun _ hs => ?_)
     refine sYe hs (sP (.bool a1.Empty) hs fun _ hs => ?_)
     refine bsplit a1.Empty Iff.rfl (fun hb hc => ?_) (fun hb hc => ?_)
     ·have hs := hs.bt hb
      have hS := hS.1 hc
      refine sNo hs fun _ hs => ?_
      refine sNo hs fun _ hs => ?_
      refine sYe hs (sP (.bool true) hs fun _ hs => ?_)
      refine sYe hs (sP (.bool true) hs fun _ hs => ?_)
      refine sYe hs (sP (pt b4 2) hs fun _ hs => ?_)
      refine sYe hs (sY (.bool b2.Fails) hs (Yl.lB [(.bool b2.Fails)] false 1) fun _ hs => ?_)
      refine sYe hs (sP (.bool b2.Fails) hs fun _ hs => ?_)
      refine sP (.bool b2.Fails) hs fun _ hs => ?_
      refine sP (X_api_Facts.mk b2.Empty false b2.Fails).val hs fun _ hs => ?_
      refine stB 0 [(.bool b2.Empty), (.bool false), (.bool b2.Fails)] [⟨b5, 202, [(.bool b2.Empty), (.bool false), (.bool b2.Fails)]⟩, ⟨b4, 202, b2.cells⟩, ⟨b3, 202, a1.cells⟩] hs fun _ _ hs => ?_
      exact wpList_nil (Wp.ret (lvE K hs (resC (vs := [(.bool b2.Empty), (.bool false), (.bool b2.Fails)]) true 0 hs rfl rfl rfl (by kernel_rfl) rfl) hMM.2 hS))
     ·have hs := hs.bf hb
      have hS := hS.2 hc
      refine sYe hs (sP (pt b3 1) hs fun _ hs => ?_)
      refine sYe hs (sY (.bool a1.Eats) hs (Yl.lB [(.bool a1.Eats)] false 2) fun _ hs => ?_)
      refine sYe hs (sP (.bool a1.Eats) hs fun _ hs => ?_)
      refine sYe hs (sP (.bool a1.Eats) hs fun _ hs => ?_)
      refine bsplit a1.Eats Iff.rfl (fun hb hc => ?_) (fun hb hc => ?_)
      ·have hs := hs.bt hb
       have hS := hS.1 hc
       refine sYe hs (sP (pt b4 2) hs fun _ hs => ?_)
       refine sYe hs (sY (.bool b2.Fails) hs (Yl.lB [(.bool b2.Fails)] false 1) fun _ hs => ?_)
       refine sYe hs (sP (.bool b2.Fails) hs fun _ hs => ?_)
       refine sP (.bool b2.Fails) hs fun _ hs => ?_
       refine sP (X_api_Facts.mk b2.Empty false b2.Fails).val hs fun _ hs => ?_
       refine stB 0 [(.bool b2.Empty), (.bool false), (.bool b2.Fails)] [⟨b5, 202, [(.bool b2.Empty), (.bool false), (.bool b2.Fails)]⟩, ⟨b4, 202, b2.cells⟩, ⟨b3, 202, a1.cells⟩] hs fun _ _ hs => ?_
       exact wpList_nil (Wp.ret (lvE K hs (resC (vs := [(.bool b2.Empty), (.bool false), (.bool b2.Fails)]) true 0 hs rfl rfl rfl (by kernel_rfl) rfl) hMM.2 hS))
      ·have hs := hs.bf hb
       have hS := hS.2 hc
       refine sNo hs fun _ hs => ?_
       refine sNo hs fun _ hs => ?_
       refine sYe hs (sP (.bool false) hs fun _ hs => ?_)
       refine sP (.bool false) hs fun _ hs => ?_
       refine sP (X_api_Facts.mk b2.Empty false false).val hs fun _ hs => ?_
       refine stB 0 [(.bool b2.Empty), (.bool false), (.bool false)] [⟨b5, 202, [(.bool b2.Empty), (.bool false), (.bool false)]⟩, ⟨b4, 202, b2.cells⟩, ⟨b3, 202, a1.cells⟩] hs fun _ _ hs => ?_
       exact wpList_nil (Wp.ret (lvE K hs (resC (vs := [(.bool b2.Empty), (.bool false), (.bool false)]) true 0 hs rfl rfl rfl (by kernel_rfl) rfl) hMM.2 hS))
 ·have hs := hs.bf hb
  have hS := hS.2 hc
  refine sNo hs fun _ hs => ?_
  refine sNo hs fun _ hs => ?_
  refine sP (.bool false) hs fun _ hs => ?_
  refine sP (pt b3 1) hs fun _ hs => ?_
  refine sY (.bool a1.Eats) hs (Yl.lB [(.bool a1.Eats)] false 2) fun _ hs => ?_
  refine sP (.bool a1.Eats) hs fun _ hs => ?_
  refine bsplit a1.Eats Iff.rfl (fun hb hc => ?_) (fun hb hc => ?_)
  ·have hs := hs.bt hb
   have hS := hS.1 hc
   refine sYe hs (sP (pt b4 0) hs fun _ hs => ?_)
   refine sYe hs (sY (.bool b2.Empty) hs (Yl.lB [(.bool b2.Empty)] false 1) fun _ hs => ?_)
   refine sYe hs (sP (.bool b2.Empty) hs fun _ hs => ?_)
   refine bsplit b2.Empty Iff.rfl (fun hb hc => ?_) (fun hb hc => ?_)
   ·have hs := hs.bt hb
    have hS := hS.1 hc
    refine sNo hs fun _ hs => ?_
    refine sNo hs fun _ hs => ?_
    refine sYe hs (sP (.bool true) hs fun _ hs => ?_)
    refine sP (.bool true) hs fun _ hs => ?_
    refine sP (.bool true) hs fun _ hs => ?_
    refine sNo hs fun _ hs => ?_
    refine sNo hs fun _ hs => ?_
    refine sNo hs fun _ hs => ?_
    refine sNu hs fun _ hs => ?_
    refine sNu hs fun _ hs => ?_
    refine sNo hs fun _ hs => ?_
    refine sP (.bool true) hs fun _ hs => ?_
    refine sP (pt b3 2) hs fun _ hs => ?_
    refine sY (.bool a1.Fails) hs (Yl.lB [(.bool a1.Fails)] false 2) fun _ hs => ?_
    refine sP (.bool a1.Fails) hs fun _ hs => ?_
    refine bsplit a1.Fails Iff.rfl (fun hb hc => ?_) (fun hb hc => ?_)
    ·have hs := hs.bt hb
     have hS := hS.1 hc
     refine sNo hs fun _ hs => ?_
     refine sNo hs fun _ hs => ?_
     refine sNo hs fun _ hs => ?_
     refine sNu hs fun _ hs => ?_
     refine sNu hs fun _ hs => ?_
     refine sNo hs fun _ hs => ?_
     refine sNo hs fun _ hs => ?_
     refine sNu hs fun _ hs => ?_
     refine sNu hs fun _ hs => ?_
     refine sNo hs fun _ hs => ?_
     refine sP (.bool true) hs fun _ hs => ?_
     refine sP (X_api_Facts.mk false true true).val hs fun _ hs => ?_
     refine stB 0 [(.bool false), (.bool true), (.bool true)] [⟨b5, 202, [(.bool false), (.bool true), (.bool true)]⟩, ⟨b4, 202, b2.cells⟩, ⟨b3, 202, a1.cells⟩] hs fun _ _ hs => ?_
     exact wpList_nil (Wp.ret (lvE K hs (resC (vs := [(.bool false), (.bool true), (.bool true)]) true 0 hs rfl rfl rfl (by kernel_rfl) rfl) hMM.2 hS))
    ·have hs := hs.bf hb
     have hS := hS.2 hc
     refine sYe hs (sP (pt b3 0) hs fun _ hs => ?_)
     refine sYe hs (sY (.bool a1.Empty) hs (Yl.lB [(.bool a1.Empty)] false 2) fun _ hs => ?_)
     refine sYe hs (sP (.bool a1.Empty) hs fun _ hs => ?_)
     refine bsplit a1.Empty Iff.rfl (fun hb hc => ?_) (fun hb hc => ?_)
     ·have hs := hs.bt hb
      have hS := hS.1 hc
      refine sNo hs fun _ hs => ?_
      refine sNo hs fun _ hs => ?_
      refine sYe hs (sP (.bool true) hs fun _ hs => ?_)
      refine sYe hs (sP (.bool true) hs fun _ hs => ?_)
      refine sYe hs (sP (pt b4 2) hs fun _ hs => ?_)
      refine sYe hs (sY (.bool b2.Fails) hs (Yl.lB [(.bool b2.Fails)] false 1) fun _ hs => ?_)
      refine sYe hs (sP (.bool b2.Fails) hs fun _ hs => ?_)
      refine sP (.bool b2.Fails) hs fun _ hs => ?_
      refine sP (X_api_Facts.mk false true b2.Fails).val hs fun _ hs => ?_
      refine stB 0 [(.bool false), (.bool true), (.bool b2.Fails)] [⟨b5, 202, [(.bool false), (.bool true), (.bool b2.Fails)]⟩, ⟨b4, 202, b2.cells⟩, ⟨b3, 202, a1.cells⟩] hs fun _ _ hs => ?_
      exact wpList_nil (Wp.ret (lvE K hs (resC (vs := [(.bool false), (.bool true), (.bool b2.Fails)]) true 0 hs rfl rfl rfl (by kernel_rfl) rfl) hMM.2 hS))
     ·have hs := hs.bf hb
      have hS := hS.2 hc
      refine sYe hs (sP (pt b3 1) hs fun _ hs => ?_)
      refine sYe hs (sY (.bool a1.Eats) hs (Yl.lB [(.bool a1.Eats)] false 2) fun _ hs => ?_)
      refine sYe hs (sP (.bool a1.Eats) hs fun _ hs => ?_)
      refine sYe hs (sP (.bool a1.Eats) hs fun _ hs => ?_)
      refine bsplit a1.Eats Iff.rfl (fun hb hc => ?_) (fun hb hc => ?_)
      ·have hs := hs.bt hb
       have hS := hS.1 hc
       refine sYe hs (sP (pt b4 2) hs fun _ hs => ?_)
       refine sYe hs (sY (.bool b2.Fails) hs (Yl.lB [(.bool b2.Fails)] false 1) fun _ hs => ?_)
       refine sYe hs (sP (.bool b2.Fails) hs fun _ hs => ?_)
       refine sP (.bool b2.Fails) hs fun _ hs => ?_
       refine sP (X_api_Facts.mk false true b2.Fails).val hs fun _ hs => ?_
       refine stB 0 [(.bool false), (.bool true), (.bool b2.Fails)] [⟨b5, 202, [(.bool false), (.bool true), (.bool b2.Fails)]⟩, ⟨b4, 202, b2.cells⟩, ⟨b3, 202, a1.cells⟩] hs fun _ _ hs => ?_
       exact wpList_nil (Wp.ret (lvE K hs (resC (vs := [(.bool false), (.bool true), (.bool b2.Fails)]) true 0 hs rfl rfl rfl (by kernel_rfl) rfl) hMM.2 hS))
      ·have hs := hs.bf hb
       have hS := hS.2 hc
       refine sNo hs fun _ hs => ?_
       refine sNo hs fun _ hs => ?_
       refine sYe hs (sP (.bool false) hs fun _ hs => ?_)
       refine sP (.bool false) hs fun _ hs => ?_
       refine sP (X_api_Facts.mk false true false).val hs fun _ hs => ?_
       refine stB 0 [(.bool false), (.bool true), (.bool false)] [⟨b5, 202, [(.bool false), (.bool true), (.bool false)]⟩, ⟨b4, 202, b2.cells⟩, ⟨b3, 202, a1.cells⟩] hs fun _ _ hs => ?_
       exact wpList_nil (Wp.ret (lvE K hs (resC (vs := [(.bool false), (.bool true), (.bool false)]) true 0 hs rfl rfl rfl (by kernel_rfl) rfl) hMM.2 hS))
   ·have hs := hs.bf hb
    have hS := hS.2 hc
    refine sYe hs (sP (pt b4 1) hs fun _ hs => ?_)
    refine sYe hs (sY (.bool b2.Eats) hs (Yl.lB [(.bool b2.Eats)] false 1) fun _ hs => ?_)
    refine sYe hs (sP (.bool b2.Eats) hs fun _ hs => ?_)
    refine sP (.bool b2.Eats) hs fun _ hs => ?_
    refine sP (.bool b2.Eats) hs fun _ hs => ?_
    refine bsplit b2.Eats Iff.rfl (fun hb hc => ?_) (fun hb hc => ?_)
    ·have hs := hs.bt hb
     have hS := hS.1 hc
     refine sNo hs fun _ hs => ?_
     refine sNo hs fun _ hs => ?_
     refine sNo hs fun _ hs => ?_
     refine sNu hs fun _ hs => ?_
     refine sNu hs fun _ hs => ?_
     refine sNo hs fun _ hs => ?_
     refine sP (.bool true) hs fun _ hs => ?_
     refine sP (pt b3 2) hs fun _ hs => ?_
     refine sY (.bool a1.Fails) hs (Yl.lB [(.bool a1.Fails)] false 2) fun _ hs => ?_
     refine sP (.bool a1.Fails) hs fun _ hs => ?_
     refine bsplit a1.Fails Iff.rfl (fun hb hc => ?_) (fun hb hc => ?_)
     ·have hs := hs.bt hb
      have hS := hS.1 hc
      refine sNo hs fun _ hs => ?_
      refine sNo hs fun _ hs => ?_
      refine sNo hs fun _ hs => ?_
      refine sNu hs fun _ hs => ?_
      refine sNu hs fun _ hs => ?_
      refine sNo hs fun _ hs => ?_
      refine sNo hs fun _ hs => ?_
      refine sNu hs fun _ hs => ?_
      refine sNu hs fun _ hs => ?_
      refine sNo hs fun _ hs => ?_
      refine sP (.bool true) hs fun _ hs => ?_
      refine sP (X_api_Facts.mk false true true).val hs fun _ hs => ?_
      refine stB 0 [(.bool false), (.bool true), (.bool true)] [⟨b5, 202, [(.bool false), (.bool true), (.bool true)]⟩, ⟨b4, 202, b2.cells⟩, ⟨b3, 202, a1.cells⟩] hs fun _ _ hs => ?_
      exact wpList_nil (Wp.ret (lvE K hs (resC (vs := [(.bool false), (.bool true), (.bool true)]) true 0 hs rfl rfl rfl (by kernel_rfl) rfl) hMM.2 hS))
     ·have hs := hs.bf hb
      have hS := hS.2 hc
      refine sYe hs (sP (pt b3 0) hs fun _ hs => ?_)
      refine sYe hs (sY (.bool a1.Empty) hs (Yl.lB [(.bool a1.Empty)] false 2) fun _ hs => ?_)
      refine sYe hs (sP (.bool a1.Empty) hs fun _ hs => ?_)
      refine bsplit a1.Empty Iff.rfl (fun hb hc => ?_) (fun hb hc => ?_)
      ·have hs := hs.bt hb
       have hS := hS.1 hc
       refine sNo hs fun _ hs => ?_
       refine sNo hs fun _ hs => ?_
       refine sYe hs (sP (.bool true) hs fun _ hs => ?_)
       refine sYe hs (sP (.bool true) hs fun _ hs => ?_)
       refine sYe hs (sP (pt b4 2) hs fun _ hs => ?_)
       refine sYe hs (sY (.bool b2.Fails) hs (Yl.lB [(.bool b2.Fails)] false 1) fun _ hs => ?_)
       refine sYe hs (sP (.bool b2.Fails) hs fun _ hs => ?_)
       refine sP (.bool b2.Fails) hs fun _ hs => ?_
       refine sP (X_api_Facts.mk false true b2.Fails).val hs fun _ hs => ?_
       refine stB 0 [(.bool false), (.bool true), (.bool b2.Fails)] [⟨b5, 202, [(.bool false), (.bool true), (.bool b2.Fails)]⟩, ⟨b4, 202, b2.cells⟩, ⟨b3, 202, a1.cells⟩] hs fun _ _ hs => ?_
       exact wpList_nil (Wp.ret (lvE K hs (resC (vs := [(.bool false), (.bool true), (.bool b2.Fails)]) true 0 hs rfl rfl rfl (by kernel_rfl) rfl) hMM.2 hS))
      ·have hs := hs.bf hb
       have hS := hS.2 hc
       refine sYe hs (sP (pt b3 1) hs fun _ hs => ?_)
       refine sYe hs (sY (.bool a1.Eats) hs (Yl.lB [(.bool a1.Eats)] false 2) fun _ hs => ?_)
       refine sYe hs (sP (.bool a1.Eats) hs fun _ hs => ?_)
       refine sYe hs (sP (.bool a1.Eats) hs fun _ hs => ?_)
       refine bsplit a1.Eats Iff.rfl (fun hb hc => ?_) (fun hb hc => ?_)
       ·have hs := hs.bt hb
        have hS := hS.1 hc
        refine sYe hs (sP (pt b4 2) hs fun _ hs => ?_)
        refine sYe hs (sY (.bool b2.Fails) hs (Yl.lB [(.bool b2.Fails)] false 1) fun _ hs => ?_)
        refine sYe hs (sP (.bool b2.Fails) hs fun _ hs => ?_)
        refine sP (.bool b2.Fails) hs fun _ hs => ?_
        refine sP (X_api_Facts.mk false true b2.Fails).val hs fun _ hs => ?_
        refine stB 0 [(.bool false), (.bool true), (.bool b2.Fails)] [⟨b5, 202, [(.bool false), (.bool true), (.bool b2.Fails)]⟩, ⟨b4, 202, b2.cells⟩, ⟨b3, 202, a1.cells⟩] hs fun _ _ hs => ?_
        exact wpList_nil (Wp.ret (lvE K hs (resC (vs := [(.bool false), (.bool true), (.bool b2.Fails)]) true 0 hs rfl rfl rfl (by kernel_rfl) rfl) hMM.2 hS))
       ·have hs := hs.bf hb
        have hS := hS.2 hc
        refine sNo hs fun _ hs => ?_
        refine sNo hs fun _ hs => ?_
        refine sYe hs (sP (.bool false) hs fun _ hs => ?_)
        refine sP (.bool false) hs fun _ hs => ?_
        refine sP (X_api_Facts.mk false true false).val hs fun _ hs => ?_
        refine stB 0 [(.bool false), (.bool true), (.bool false)] [⟨b5, 202, [(.bool false), (.bool true), (.bool false)]⟩, ⟨b4, 202, b2.cells⟩, ⟨b3, 202, a1.cells⟩] hs fun _ _ hs => ?_
        exact wpList_nil (Wp.ret (lvE K hs (resC (vs := [(.bool false), (.bool true), (.bool false)]) true 0 hs rfl rfl rfl (by kernel_rfl) rfl) hMM.2 hS))
    ·have hs := hs.bf hb
     have hS := hS.2 hc
     refine sYe hs (sP (pt b3 0) hs fun _ hs => ?_)
     refine sYe hs (sY (.bool a1.Empty) hs (Yl.lB [(.bool a1.Empty)] false 2) fun _ hs => ?_)
     refine sYe hs (sP (.bool a1.Empty) hs fun _ hs => ?_)
     refine bsplit a1.Empty Iff.rfl (fun hb hc => ?_) (fun hb hc => ?_)
     ·have hs := hs.bt hb
      have hS := hS.1 hc
      refine sYe hs (sP (pt b4 1) hs fun _ hs => ?_)
      refine sYe hs (sY (.bool b2.Eats) hs (Yl.lB [(.bool b2.Eats)] false 1) fun _ hs => ?_)
      refine sYe hs (sP (.bool b2.Eats) hs fun _ hs => ?_)
      refine sP (.bool b2.Eats) hs fun _ hs => ?_
      refine sP (pt b3 2) hs fun _ hs => ?_
      refine sY (.bool a1.Fails) hs (Yl.lB [(.bool a1.Fails)] false 2) fun _ hs => ?_
      refine sP (.bool a1.Fails) hs fun _ hs => ?_
      refine bsplit a1.Fails Iff.rfl (fun hb hc => ?_) (fun hb hc => ?_)
      ·have hs := hs.bt hb
       have hS := hS.1 hc
       refine sNo hs fun _ hs => ?_
       refine sNo hs fun _ hs => ?_
       refine sNo hs fun _ hs => ?_
       refine sNu hs fun _ hs => ?_
       refine sNu hs fun _ hs => ?_
       refine sNo hs fun _ hs => ?_
       refine sNo hs fun _ hs => ?_
       refine sNu hs fun _ hs => ?_
       refine sNu hs fun _ hs => ?_
       refine sNo hs fun _ hs => ?_
       refine sP (.bool true) hs fun _ hs => ?_
       refine sP (X_api_Facts.mk false b2.Eats true).val hs fun _ hs => ?_
       refine stB 0 [(.bool false), (.bool b2.Eats), (.bool true)] [⟨b5, 202, [(.bool false), (.bool b2.Eats), (.bool true)]⟩, ⟨b4, 202, b2.cells⟩, ⟨b3, 202, a1.cells⟩] hs fun _ _ hs => ?_
       exact wpList_nil (Wp.ret (lvE K hs (resC (vs := [(.bool false), (.bool b2.Eats), (.bool true)]) true 0 hs rfl rfl rfl (by kernel_rfl) rfl) hMM.2 hS))
      ·have hs := hs.bf hb
       have hS := hS.2 hc
       refine sYe hs (sP (pt b3 0) hs fun _ hs => ?_)
       refine sYe hs (sY (.bool a1.Empty) hs (Yl.lB [(.bool a1.Empty)] false 2) fun _ hs => ?_)
       refine sYe hs (sP (.bool a1.Empty) hs fun _ hs => ?_)
       refine bsplit a1.Empty Iff.rfl (fun hb hc => ?_) (fun hb hc => ?_)
       ·have hs := hs.bt hb
        have hS := hS.1 hc
        refine sNo hs fun _ hs => ?_
        refine sNo hs fun _ hs => ?_
        refine sYe hs (sP (.bool true) hs fun _ hs => ?_)
        refine sYe hs (sP (.bool true) hs fun _ hs => ?_)
        refine sYe hs (sP (pt b4 2) hs fun _ hs => ?_)
        refine sYe hs (sY (.bool b2.Fails) hs (Yl.lB [(.bool b2.Fails)] false 1) fun _ hs => ?_)
        refine sYe hs (sP (.bool b2.Fails) hs fun _ hs => ?_)
        refine sP (.bool b2.Fails) hs fun _ hs => ?_
        refine sP (X_api_Facts.mk false b2.Eats b2.Fails).val hs fun _ hs => ?_
        refine stB 0 [(.bool false), (.bool b2.Eats), (.bool b2.Fails)] [⟨b5, 202, [(.bool false), (.bool b2.Eats), (.bool b2.Fails)]⟩, ⟨b4, 202, b2.cells⟩, ⟨b3, 202, a1.cells⟩] hs fun _ _ hs => ?_
        exact wpList_nil (Wp.ret (lvE K hs (resC (vs := [(.bool false), (.bool b2.Eats), (.bool b2.Fails)]) true 0 hs rfl rfl rfl (by kernel_rfl) rfl) hMM.2 hS))
       ·have hs := hs.bf hb
        have hS := hS.2 hc
        refine sYe hs (sP (pt b3 1) hs fun _ hs => ?_)
        refine sYe hs (sY (.bool a1.Eats) hs (Yl.lB [(.bool a1.Eats)] false 2) fun _ hs => ?_)
        refine sYe hs (sP (.bool a1.Eats) hs fun _ hs => ?_)
        refine sYe hs (sP (.bool a1.Eats) hs fun _ hs => ?_)
        refine bsplit a1.Eats Iff.rfl (fun hb hc => ?_) (fun hb hc => ?_)
        ·have hs := hs.bt hb
         have hS := hS.1 hc
         refine sYe hs (sP (pt b4 2) hs fun _ hs => ?_)
         refine sYe hs (sY (.bool b2.Fails) hs (Yl.lB [(.bool b2.Fails)] false 1) fun _ hs => ?_)
         refine sYe hs (sP (.bool b2.Fails) hs fun _ hs => ?_)
         refine sP (.bool b2.Fails) hs fun _ hs => ?_
         refine sP (X_api_Facts.mk false b2.Eats b2.Fails).val hs fun _ hs => ?_
         refine stB 0 [(.bool false), (.bool b2.Eats), (.bool b2.Fails)] [⟨b5, 202, [(.bool false), (.bool b2.Eats), (.bool b2.Fails)]⟩, ⟨b4, 202, b2.cells⟩, ⟨b3, 202, a1.cells⟩] hs fun _ _ hs => ?_
         exact wpList_nil (Wp.ret (lvE K hs (resC (vs := [(.bool false), (.bool b2.Eats), (.bool b2.Fails)]) true 0 hs rfl rfl rfl (by kernel_rfl) rfl) hMM.2 hS))
        ·have hs := hs.bf hb
         have hS := hS.2 hc
         refine sNo hs fun _ hs => ?_
         refine sNo hs fun _ hs => ?_
         refine sYe hs (sP (.bool false) hs fun _ hs => ?_)
         refine sP (.bool false) hs fun _ hs => ?_
         refine sP (X_api_Facts.mk false b2.Eats false).val hs fun _ hs => ?_
         refine stB 0 [(.bool false), (.bool b2.Eats), (.bool false)] [⟨b5, 202, [(.bool false), (.bool b2.Eats), (.bool false)]⟩, ⟨b4, 202, b2.cells⟩, ⟨b3, 202, a1.cells⟩] hs fun _ _ hs => ?_
         exact wpList_nil (Wp.ret (lvE K hs (resC (vs := [(.bool false), (.bool b2.Eats), (.bool false)]) true 0 hs rfl rfl rfl (by kernel_rfl) rfl) hMM.2 hS))
     ·have hs := hs.bf hb
      have hS := hS.2 hc
      refine sNo hs fun _ hs => ?_
      refine sNo hs fun _ hs => ?_
      refine sYe hs (sP (.bool false) hs fun _ hs => ?_)
      refine sP (.bool false) hs fun _ hs => ?_
      refine sP (pt b3 2) hs fun _ hs => ?_
      refine sY (.bool a1.Fails) hs (Yl.lB [(.bool a1.Fails)] false 2) fun _ hs => ?_
      refine sP (.bool a1.Fails) hs fun _ hs => ?_
      refine bsplit a1.Fails Iff.rfl (fun hb hc => ?_) (fun hb hc => ?_)
      ·have hs := hs.bt hb
       have hS := hS.1 hc
       refine sNo hs fun _ hs => ?_
       refine sNo hs fun _ hs => ?_
       refine sNo hs fun _ hs => ?_
       refine sNu hs fun _ hs => ?_
       refine sNu hs fun _ hs => ?_
       refine sNo hs fun _ hs => ?_
       refine sNo hs fun _ hs => ?_
       refine sNu hs fun _ hs => ?_
       refine sNu hs fun _ hs => ?_
       refine sNo hs fun _ hs => ?_
       refine sP (.bool true) hs fun _ hs => ?_
       refine sP (X_api_Facts.mk false false true).val hs fun _ hs => ?_
       refine stB 0 [(.bool false), (.bool false), (.bool true)] [⟨b5, 202, [(.bool false), (.bool false), (.bool true)]⟩, ⟨b4, 202, b2.cells⟩, ⟨b3, 202, a1.cells⟩] hs fun _ _ hs => ?_
       exact wpList_nil (Wp.ret (lvE K hs (resC (vs := [(.bool false), (.bool false), (.bool true)]) true 0 hs rfl rfl rfl (by kernel_rfl) rfl) hMM.2 hS))
      ·have hs := hs.bf hb
       have hS := hS.2 hc
       refine sYe hs (sP (pt b3 0) hs fun _ hs => ?_)
       refine sYe hs (sY (.bool a1.Empty) hs (Yl.lB [(.bool a1.Empty)] false 2) fun _ hs => ?_)
       refine sYe hs (sP (.bool a1.Empty) hs fun _ hs => ?_)
       refine bsplit a1.Empty Iff.rfl (fun hb hc => ?_) (fun hb hc => ?_)
       ·have hs := hs.bt hb
        have hS := hS.1 hc
        refine sNo hs fun _ hs => ?_
        refine sNo hs fun _ hs => ?_
        refine sYe hs (sP (.bool true) hs fun _ hs => ?_)
        refine sYe hs (sP (.bool true) hs fun _ hs => ?_)
        refine sYe hs (sP (pt b4 2) hs fun _ hs => ?_)
        refine sYe hs (sY (.bool b2.Fails) hs (Yl.lB [(.bool b2.Fails)] false 1) fun _ hs => ?_)
        refine sYe hs (sP (.bool b2.Fails) hs fun _ hs => ?_)
        refine sP (.bool b2.Fails) hs fun _ hs => ?_
        refine sP (X_api_Facts.mk false false b2.Fails).val hs fun _ hs => ?_
        refine stB 0 [(.bool false), (.bool false), (.bool b2.Fails)] [⟨b5, 202, [(.bool false), (.bool false), (.bool b2.Fails)]⟩, ⟨b4, 202, b2.cells⟩, ⟨b3, 202, a1.cells⟩] hs fun _ _ hs => ?_
        exact wpList_nil (Wp.ret (lvE K hs (resC (vs := [(.bool false), (.bool false), (.bool b2.Fails)]) true 0 hs rfl rfl rfl (by kernel_rfl) rfl) hMM.2 hS))
       ·have hs := hs.bf hb
        have hS := hS.2 hc
        refine sYe hs (sP (pt b3 1) hs fun _ hs => ?_)
        refine sYe hs (sY (.bool a1.Eats) hs (Yl.lB [(.bool a1.Eats)] false 2) fun _ hs => ?_)
        refine sYe hs (sP (.bool a1.Eats) hs fun _ hs => ?_)
        refine sYe hs (sP (.bool a1.Eats) hs fun _ hs => ?_)
        refine bsplit a1.Eats Iff.rfl (fun hb hc => ?_) (fun hb hc => ?_)
        ·have hs := hs.bt hb
         have hS := hS.1 hc
         refine sYe hs (sP (pt b4 2) hs fun _ hs => ?_)
         refine sYe hs (sY (.bool b2.Fails) hs (Yl.lB [(.bool b2.Fails)] false 1) fun _ hs => ?_)
         refine sYe hs (sP (.bool b2.Fails) hs fun _ hs => ?_)
         refine sP (.bool b2.Fails) hs fun _ hs => ?_
         refine sP (X_api_Facts.mk false false b2.Fails).val hs fun _ hs => ?_
         refine stB 0 [(.bool false), (.bool false), (.bool b2.Fails)] [⟨b5, 202, [(.bool false), (.bool false), (.bool b2.Fails)]⟩, ⟨b4, 202, b2.cells⟩, ⟨b3, 202, a1.cells⟩] hs fun _ _ hs => ?_
         exact wpList_nil (Wp.ret (lvE K hs (resC (vs := [(.bool false), (.bool false), (.bool b2.Fails)]) true 0 hs rfl rfl rfl (by kernel_rfl) rfl) hMM.2 hS))
        ·have hs := hs.bf hb
         have hS := hS.2 hc
         refine sNo hs fun _ hs => ?_
         refine sNo hs fun _ hs => ?_
         refine sYe hs (sP (.bool false) hs fun _ hs => ?_)
         refine sP (.bool false) hs fun _ hs => ?_
         refine sP (X_api_Facts.mk false false false).val hs fun _ hs => ?_
         refine stB 0 [(.bool false), (.bool false), (.bool false)] [⟨b5, 202, [(.bool false), (.bool false), (.bool false)]⟩, ⟨b4, 202, b2.cells⟩, ⟨b3, 202, a1.cells⟩] hs fun _ _ hs => ?_
         exact wpList_nil (Wp.ret (lvE K hs (resC (vs := [(.bool false), (.bool false), (.bool false)]) true 0 hs rfl rfl rfl (by kernel_rfl) rfl) hMM.2 hS))
  ·have hs := hs.bf hb
   have hS := hS.2 hc
   refine sNo hs fun _ hs => ?_
   refine sNo hs fun _ hs => ?_
   refine sNo hs fun _ hs => ?_
   refine sNu hs fun _ hs => ?_
   refine sNu hs fun _ hs => ?_
   refine sNo hs fun _ hs => ?_
   refine sP (.bool false) hs fun _ hs => ?_
   refine sP (.bool false) hs fun _ hs => ?_
   refine sYe hs (sP (pt b3 0) hs fun _ hs => ?_)
   refine sYe hs (sY (.bool a1.Empty) hs (Yl.lB [(.bool a1.Empty)] false 2) fun _ hs => ?_)
   refine sYe hs (sP (.bool a1.Empty) hs fun _ hs => ?_)
   refine bsplit a1.Empty Iff.rfl (fun hb hc => ?_) (fun hb hc => ?_)
   ·have hs := hs.bt hb
    have hS := hS.1 hc
    refine sYe hs (sP (pt b4 1) hs fun _ hs => ?_)
    refine sYe hs (sY (.bool b2.Eats) hs (Yl.lB [(.bool b2.Eats)] false 1) fun _ hs => ?_)
    refine sYe hs (sP (.bool b2.Eats) hs fun _ hs => ?_)
    refine sP (.bool b2.Eats) hs fun _ hs => ?_
    refine sP (pt b3 2) hs fun _ hs => ?_
    refine sY (.bool a1.Fails) hs (Yl.lB [(.bool a1.Fails)] false 2) fun _ hs => ?_
    refine sP (.bool a1.Fails) hs fun _ hs => ?_
    refine bsplit a1.Fails Iff.rfl (fun hb hc => ?_) (fun hb hc => ?_)
    ·have hs := hs.bt hb
     have hS := hS.1 hc
     refine sNo hs fun _ hs => ?_
     refine sNo hs fun _ hs => ?_
     refine sNo hs fun _ hs => ?_
     refine sNu hs fun _ hs => ?_
     refine sNu hs fun _ hs => ?_
     refine sNo hs fun _ hs => ?_
     refine sNo hs fun _ hs => ?_
     refine sNu hs fun _ hs => ?_
     refine sNu hs fun _ hs => ?_
     refine sNo hs fun _ hs => ?_
     refine sP (.bool true) hs fun _ hs => ?_
     refine sP (X_api_Facts.mk false b2.Eats true).val hs fun _ hs => ?_
     refine stB 0 [(.bool false), (.bool b2.Eats), (.bool true)] [⟨b5, 202, [(.bool false), (.bool b2.Eats), (.bool true)]⟩, ⟨b4, 202, b2.cells⟩, ⟨b3, 202, a1.cells⟩] hs fun _ _ hs => ?_
     exact wpList_nil (Wp.ret (lvE K hs (resC (vs := [(.bool false), (.bool b2.Eats), (.bool true)]) true 0 hs rfl rfl rfl (by kernel_rfl) rfl) hMM.2 hS))
    ·have hs := hs.bf hb
     have hS := hS.2 hc
     refine sYe hs (sP (pt b3 0) hs fun _ hs => ?_)
     refine sYe hs (sY (.bool a1.Empty) hs (Yl.lB [(.bool a1.Empty)] false 2) fun _ hs => ?_)
     refine sYe hs (sP (.bool a1.Empty) hs fun _ hs => ?_)
     refine bsplit a1.Empty Iff.rfl (fun hb hc => ?_) (fun hb hc => ?_)
     ·have hs := hs.bt hb
      have hS := hS.1 hc
      refine sNo hs fun _ hs => ?_
      refine sNo hs fun _ hs => ?_
      refine sYe hs (sP (.bool true) hs fun _ hs => ?_)
      refine sYe hs (sP (.bool true) hs fun _ hs => ?_)
      refine sYe hs (sP (pt b4 2) hs fun _ hs => ?_)
      refine sYe hs (sY (.bool b2.Fails) hs (Yl.lB [(.bool b2.Fails)] false 1) fun _ hs => ?_)
      refine sYe hs (sP (.bool b2.Fails) hs fun _ hs => ?_)
      refine sP (.bool b2.Fails) hs fun _ hs => ?_
      refine sP (X_api_Facts.mk false b2.Eats b2.Fails).val hs fun _ hs => ?_
      refine stB 0 [(.bool false), (.bool b2.Eats), (.bool b2.Fails)] [⟨b5, 202, [(.bool false), (.bool b2.Eats), (.bool b2.Fails)]⟩, ⟨b4, 202, b2.cells⟩, ⟨b3, 202, a1.cells⟩] hs fun _ _ hs => ?_
      exact wpList_nil (Wp.ret (lvE K hs (resC (vs := [(.bool false), (.bool b2.Eats), (.bool b2.Fails)]) true 0 hs rfl rfl rfl (by kernel_rfl) rfl) hMM.2 hS))
     ·have hs := hs.bf hb
      have hS := hS.2 hc
      refine sYe hs (sP (pt b3 1) hs fun _ hs => ?_)
      refine sYe hs (sY (.bool a1.Eats) hs (Yl.lB [(.bool a1.Eats)] false 2) fun _ hs => ?_)
      refine sYe hs (sP (.bool a1.Eats) hs fun _ hs => ?_)
      refine sYe hs (sP (.bool a1.Eats) hs fun _ hs => ?_)
      refine bsplit a1.Eats Iff.rfl (fun hb hc => ?_) (fun hb hc => ?_)
      ·have hs := hs.bt hb
       have hS := hS.1 hc
       refine sYe hs (sP (pt b4 2) hs fun _ hs => ?_)
       refine sYe hs (sY (.bool b2.Fails) hs (Yl.lB [(.bool b2.Fails)] false 1) fun _ hs => ?_)
       refine sYe hs (sP (.bool b2.Fails) hs fun _ hs => ?_)
       refine sP (.bool b2.Fails) hs fun _ hs => ?_
       refine sP (X_api_Facts.mk false b2.Eats b2.Fails).val hs fun _ hs => ?_
       refine stB 0 [(.bool false), (.bool b2.Eats), (.bool b2.Fails)] [⟨b5, 202, [(.bool false), (.bool b2.Eats), (.bool b2.Fails)]⟩, ⟨b4, 202, b2.cells⟩, ⟨b3, 202, a1.cells⟩] hs fun _ _ hs => ?_
       exact wpList_nil (Wp.ret (lvE K hs (resC (vs := [(.bool false), (.bool b2.Eats), (.bool b2.Fails)]) true 0 hs rfl rfl rfl (by kernel_rfl) rfl) hMM.2 hS))
      ·have hs := hs.bf hb
       have hS := hS.2 hc
       refine sNo hs fun _ hs => ?_
       refine sNo hs fun _ hs => ?_
       refine sYe hs (sP (.bool false) hs fun _ hs => ?_)
       refine sP (.bool false) hs fun _ hs => ?_
       refine sP (X_api_Facts.mk false b2.Eats false).val hs fun _ hs => ?_
       refine stB 0 [(.bool false), (.bool b2.Eats), (.bool false)] [⟨b5, 202, [(.bool false), (.bool b2.Eats), (.bool false)]⟩, ⟨b4, 202, b2.cells⟩, ⟨b3, 202, a1.cells⟩] hs fun _ _ hs => ?_
       exact wpList_nil (Wp.ret (lvE K hs (resC (vs := [(.bool false), (.bool b2.Eats), (.bool false)]) true 0 hs rfl rfl rfl (by kernel_rfl) rfl) hMM.2 hS))
   ·have hs := hs.bf hb
    have hS := hS.2 hc
    refine sNo hs fun _ hs => ?_
    refine sNo hs fun _ hs => ?_
    refine sYe hs (sP (.bool false) hs fun _ hs => ?_)
    refine sP (.bool false) hs fun _ hs => ?_
    refine sP (pt b3 2) hs fun _ hs => ?_
    refine sY (.bool a1.Fails) hs (Yl.lB [(.bool a1.Fails)] false 2) fun _ hs => ?_
    refine sP (.bool a1.Fails) hs fun _ hs => ?_
    refine bsplit a1.Fails Iff.rfl (fun hb hc => ?_) (fun hb hc => ?_)
    ·have hs := hs.bt hb
     have hS := hS.1 hc
     refine sNo hs fun _ hs => ?_
     refine sNo hs fun _ hs => ?_
     refine sNo hs fun _ hs => ?_
     refine sNu hs fun _ hs => ?_
     refine sNu hs fun _ hs => ?_
     refine sNo hs fun _ hs => ?_
     refine sNo hs fun _ hs => ?_
     refine sNu hs fun _ hs => ?_
     refine sNu hs fun _ hs => ?_
     refine sNo hs fun _ hs => ?_
     refine sP (.bool true) hs fun _ hs => ?_
     refine sP (X_api_Facts.mk false false true).val hs fun _ hs => ?_
     refine stB 0 [(.bool false), (.bool false), (.bool true)] [⟨b5, 202, [(.bool false), (.bool false), (.bool true)]⟩, ⟨b4, 202, b2.cells⟩, ⟨b3, 202, a1.cells⟩] hs fun _ _ hs => ?_
     exact wpList_nil (Wp.ret (lvE K hs (resC (vs := [(.bool false), (.bool false), (.bool true)]) true 0 hs rfl rfl rfl (by kernel_rfl) rfl) hMM.2 hS))
    ·have hs := hs.bf hb
     have hS := hS.2 hc
     refine sYe hs (sP (pt b3 0) hs fun _ hs => ?_)
     refine sYe hs (sY (.bool a1.Empty) hs (Yl.lB [(.bool a1.Empty)] false 2) fun _ hs => ?_)
     refine sYe hs (sP (.bool a1.Empty) hs fun _ hs => ?_)
     refine bsplit a1.Empty Iff.rfl (fun hb hc => ?_) (fun hb hc => ?_)
     ·have hs := hs.bt hb
      have hS := hS.1 hc
      refine sNo hs fun _ hs => ?_
      refine sNo hs fun _ hs => ?_
      refine sYe hs (sP (.bool true) hs fun _ hs => ?_)
      refine sYe hs (sP (.bool true) hs fun _ hs => ?_)
      refine sYe hs (sP (pt b4 2) hs fun _ hs => ?_)
      refine sYe hs (sY (.bool b2.Fails) hs (Yl.lB [(.bool b2.Fails)] false 1) fun _ hs => ?_)
      refine sYe hs (sP (.bool b2.Fails) hs fun _ hs => ?_)
      refine sP (.bool b2.Fails) hs fun _ hs => ?_
      refine sP (X_api_Facts.mk false false b2.Fails).val hs fun _ hs => ?_
      refine stB 0 [(.bool false), (.bool false), (.bool b2.Fails)] [⟨b5, 202, [(.bool false), (.bool false), (.bool b2.Fails)]⟩, ⟨b4, 202, b2.cells⟩, ⟨b3, 202, a1.cells⟩] hs fun _ _ hs => ?_
      exact wpList_nil (Wp.ret (lvE K hs (resC (vs := [(.bool false), (.bool false), (.bool b2.Fails)]) true 0 hs rfl rfl rfl (by kernel_rfl) rfl) hMM.2 hS))
     ·have hs := hs.bf hb
      have hS := hS.2 hc
      refine sYe hs (sP (pt b3 1) hs fun _ hs => ?_)
      refine sYe hs (sY (.bool a1.Eats) hs (Yl.lB [(.bool a1.Eats)] false 2) fun _ hs => ?_)
      refine sYe hs (sP (.bool a1.Eats) hs fun _ hs => ?_)
      refine sYe hs (sP (.bool a1.Eats) hs fun _ hs => ?_)
      refine bsplit a1.Eats Iff.rfl (fun hb hc => ?_) (fun hb hc => ?_)
      ·have hs := hs.bt hb
       have hS := hS.1 hc
       refine sYe hs (sP (pt b4 2) hs fun _ hs => ?_)
       refine sYe hs (sY (.bool b2.Fails) hs (Yl.lB [(.bool b2.Fails)] false 1) fun _ hs => ?_)
       refine sYe hs (sP (.bool b2.Fails) hs fun _ hs => ?_)
       refine sP (.bool b2.Fails) hs fun _ hs => ?_
       refine sP (X_api_Facts.mk false false b2.Fails).val hs fun _ hs => ?_
       refine stB 0 [(.bool false), (.bool false), (.bool b2.Fails)] [⟨b5, 202, [(.bool false), (.bool false), (.bool b2.Fails)]⟩, ⟨b4, 202, b2.cells⟩, ⟨b3, 202, a1.cells⟩] hs fun _ _ hs => ?_
       exact wpList_nil (Wp.ret (lvE K hs (resC (vs := [(.bool false), (.bool false), (.bool b2.Fails)]) true 0 hs rfl rfl rfl (by kernel_rfl) rfl) hMM.2 hS))
      ·have hs := hs.bf hb
       have hS := hS.2 hc
       refine sNo hs fun _ hs => ?_
       refine sNo hs fun _ hs => ?_
       refine sYe hs (sP (.bool false) hs fun _ hs => ?_)
       refine sP (.bool false) hs fun _ hs => ?_
       refine sP (X_api_Facts.mk false false false).val hs fun _ hs => ?_
       refine stB 0 [(.bool false), (.bool false), (.bool false)] [⟨b5, 202, [(.bool false), (.bool false), (.bool false)]⟩, ⟨b4, 202, b2.cells⟩, ⟨b3, 202, a1.cells⟩] hs fun _ _ hs => ?_
       exact wpList_nil (Wp.ret (lvE K hs (resC (vs := [(.bool false), (.bool false), (.bool false)]) true 0 hs rfl rfl rfl (by kernel_rfl) rfl) hMM.2 hS))
def S_well_or (a1 : X_api_Facts) (b2 : X_api_Facts) (M : Mem) (K : Value → Prop) : Prop :=
 ((a1.Empty = true → ((a1.Eats = true → ((a1.Fails = true → K (X_api_Facts.mk true true b2.Fails).val) ∧ (¬ (a1.Fails = true) → K (X_api_Facts.mk true true false).val))) ∧ (¬ (a1.Eats = true) → ((a1.Fails = true → ((a1.Fails = true → K (X_api_Facts.mk true b2.Eats b2.Fails).val) ∧ (¬ (a1.Fails = true) → K (X_api_Facts.mk true b2.Eats false).val))) ∧ (¬ (a1.Fails = true) → ((a1.Fails = true → K (X_api_Facts.mk true false b2.Fails).val) ∧ (¬ (a1.Fails = true) → K (X_api_Facts.mk true false false).val))))))) ∧ (¬ (a1.Empty = true) → ((a1.Fails = true → ((a1.Eats = true → ((a1.Fails = true → K (X_api_Facts.mk b2.Empty true b2.Fails).val) ∧ (¬ (a1.Fails = true) → K (X_api_Facts.mk b2.Empty true false).val))) ∧ (¬ (a1.Eats = true) → ((a1.Fails = true → ((a1.Fails = true → K b2.val) ∧ (¬ (a1.Fails = true) → K (X_api_Facts.mk b2.Empty b2.Eats false).val))) ∧ (¬ (a1.Fails = true) → ((a1.Fails = true → K (X_api_Facts.mk b2.Empty false b2.Fails).val) ∧ (¬ (a1.Fails = true) → K (X_api_Facts.mk b2.Empty false false).val))))))) ∧ (¬ (a1.Fails = true) → ((a1.Eats = true → ((a1.Fails = true → K (X_api_Facts.mk false true b2.Fails).val) ∧ (¬ (a1.Fails = true) → K (X_api_Facts.mk false true false).val))) ∧ (¬ (a1.Eats = true) → ((a1.Fails = true → ((a1.Fails = true → K (X_api_Facts.mk false b2.Eats b2.Fails).val) ∧ (¬ (a1.Fails = true) → K (X_api_Facts.mk false b2.Eats false).val))) ∧ (¬ (a1.Fails = true) → ((a1.Fails = true → K (X_api_Facts.mk false false b2.Fails).val) ∧ (¬ (a1.Fails = true) → K (X_api_Facts.mk false false false).val))))))))))
set_option maxRecDepth 100000 in
theorem s_well_or (a1 : X_api_Facts) (b2 : X_api_Facts) (M : Mem) (K : Value → Prop) (hS : S_well_or a1 b2 M K) : CallE Try.prog 160 #[a1.val, b2.val] M (fun v _ => K v) := by
 refine enterE Try.func160 rfl 32 rfl (Nat.le_of_ble_eq_true rfl) (fun E a hs => ?_)
 unfold S_well_or at hS
 have hMM := MX.refl M E
 change Sx 32 E [] M E a [(0, a1.val), (1, b2.val)] [] [] at hs
 refine Wp.seq (Wp.region (stepBox a1.cells hs rfl rfl rfl (by decide) (fun _ _ b3 hEb3 hs => ?_)))
 refine stepBox b2.cells hs rfl rfl rfl (by decide) (fun _ _ b4 hEb4 hs => ?_)
 refine stepAlloc [(.bool false), (.bool false), (.bool false)] hs (by kernel_rfl) (by decide) (fun _ _ b5 hEb5 hs => ?_)
 refine wpList_nil (Wp.seq (Wp.region (sP (pt b3 0) hs fun _ hs => ?_)))
 refine sY (.bool a1.Empty) hs (Yl.lB [(.bool a1.Empty)] false 2) fun _ hs => ?_
 refine sP (.bool a1.Empty) hs fun _ hs => ?_
 refine bsplit a1.Empty Iff.rfl (fun hb hc => ?_) (fun hb hc => ?_)
 ·have hs := hs.bt hb
  have hS := hS.1 hc
  refine sNo hs fun _ hs => ?_
  refine sNo hs fun _ hs => ?_
  refine sNo hs fun _ hs => ?_
  refine sNu hs fun _ hs => ?_
  refine sNu hs fun _ hs => ?_
  refine sNo hs fun _ hs => ?_
  refine sP (.bool true) hs fun _ hs => ?_
  refine sP (pt b3 1) hs fun _ hs => ?_
  refine sY (.bool a1.Eats) hs (Yl.lB [(.bool a1.Eats)] false 2) fun _ hs => ?_
  refine sP (.bool a1.Eats) hs fun _ hs => ?_
  refine bsplit a1.Eats Iff.rfl (fun hb hc => ?_) (fun hb hc => ?_)
  ·have hs := hs.bt hb
   have hS := hS.1 hc
   refine sNo hs fun _ hs => ?_
   refine sNo hs fun _ hs => ?_
   refine sNo hs fun _ hs => ?_
   refine sNu hs fun _ hs => ?_
   refine sNu hs fun _ hs => ?_
   refine sNo hs fun _ hs => ?_
   refine sP (.bool true) hs fun _ hs => ?_
   refine sP (pt b3 2) hs fun _ hs => ?_
   refine sY (.bool a1.Fails) hs (Yl.lB [(.bool a1.Fails)] false 2) fun _ hs => ?_
   refine sP (.bool a1.Fails) hs fun _ hs => ?_
   refine bsplit a1.Fails Iff.rfl (fun hb hc => ?_) (fun hb hc => ?_)
   ·have hs := hs.bt hb
    have hS := hS.1 hc
    refine sYe hs (sP (pt b4 2) hs fun _ hs => ?_)
    refine sYe hs (sY (.bool b2.Fails) hs (Yl.lB [(.bool b2.Fails)] false 1) fun _ hs => ?_)
    refine sP (.bool b2.Fails) hs fun _ hs => ?_
    refine sP (X_api_Facts.mk true true b2.Fails).val hs fun _ hs => ?_
    refine stB 0 [(.bool true), (.bool true), (.bool b2.Fails)] [⟨b5, 202, [(.bool true), (.bool true), (.bool b2.Fails)]⟩, ⟨b4, 202, b2.cells⟩, ⟨b3, 202, a1.cells⟩] hs fun _ _ hs => ?_
    exact wpList_nil (Wp.ret (lvE K hs (resC (vs := [(.bool true), (.bool true), (.bool b2.Fails)]) true 0 hs rfl rfl rfl (by kernel_rfl) rfl) hMM.2 hS))
   ·have hs := hs.bf hb
    have hS := hS.2 hc
    refine sNo hs fun _ hs => ?_
    refine sNo hs fun _ hs => ?_
    refine sP (.bool false) hs fun _ hs => ?_
    refine sP (X_api_Facts.mk true true false).val hs fun _ hs => ?_
    refine stB 0 [(.bool true), (.bool true), (.bool false)] [⟨b5, 202, [(.bool true), (.bool true), (.bool false)]⟩, ⟨b4, 202, b2.cells⟩, ⟨b3, 202, a1.cells⟩] hs fun _ _ hs => ?_
    exact wpList_nil (Wp.ret (lvE K hs (resC (vs := [(.bool true), (.bool true), (.bool false)]) true 0 hs rfl rfl rfl (by kernel_rfl) rfl) hMM.2 hS))
  ·have hs := hs.bf hb
   have hS := hS.2 hc
   refine sYe hs (sP (pt b3 2) hs fun _ hs => ?_)
   refine sYe hs (sY (.bool a1.Fails) hs (Yl.lB [(.bool a1.Fails)] false 2) fun _ hs => ?_)
   refine sYe hs (sP (.bool a1.Fails) hs fun _ hs => ?_)
   refine bsplit a1.Fails Iff.rfl (fun hb hc => ?_) (fun hb hc => ?_)
   ·have hs := hs.bt hb
    have hS := hS.1 hc
    refine sYe hs (sP (pt b4 1) hs fun _ hs => ?_)
    refine sYe hs (sY (.bool b2.Eats) hs (Yl.lB [(.bool b2.Eats)] false 1) fun _ hs => ?_)
    refine sYe hs (sP (.bool b2.Eats) hs fun _ hs => ?_)
    refine sP (.bool b2.Eats) hs fun _ hs => ?_
    refine sP (pt b3 2) hs fun _ hs => ?_
    refine sY (.bool a1.Fails) hs (Yl.lB [(.bool a1.Fails)] false 2) fun _ hs => ?_
    refine sP (.bool a1.Fails) hs fun _ hs => ?_
    refine bsplit a1.Fails Iff.rfl (fun hb hc => ?_) (fun hb hc => ?_)
    ·have hs := hs.bt hb
     have hS := hS.1 hc
     refine sYe hs (sP (pt b4 2) hs fun _ hs => ?_)
     refine sYe hs (sY (.bool b2.Fails) hs (Yl.lB [(.bool b2.Fails)] false 1) fun _ hs => ?_)
     refine sP (.bool b2.Fails) hs fun _ hs => ?_
     refine sP (X_api_Facts.mk true b2.Eats b2.Fails).val hs fun _ hs => ?_
     refine stB 0 [(.bool true), (.bool b2.Eats), (.bool b2.Fails)] [⟨b5, 202, [(.bool true), (.bool b2.Eats), (.bool b2.Fails)]⟩, ⟨b4, 202, b2.cells⟩, ⟨b3, 202, a1.cells⟩] hs fun _ _ hs => ?_
     exact wpList_nil (Wp.ret (lvE K hs (resC (vs := [(.bool true), (.bool b2.Eats), (.bool b2.Fails)]) true 0 hs rfl rfl rfl (by kernel_rfl) rfl) hMM.2 hS))
    ·have hs := hs.bf hb
     have hS := hS.2 hc
     refine sNo hs fun _ hs => ?_
     refine sNo hs fun _ hs => ?_
     refine sP (.bool false) hs fun _ hs => ?_
     refine sP (X_api_Facts.mk true b2.Eats false).val hs fun _ hs => ?_
     refine stB 0 [(.bool true), (.bool b2.Eats), (.bool false)] [⟨b5, 202, [(.bool true), (.bool b2.Eats), (.bool false)]⟩, ⟨b4, 202, b2.cells⟩, ⟨b3, 202, a1.cells⟩] hs fun _ _ hs => ?_
     exact wpList_nil (Wp.ret (lvE K hs (resC (vs := [(.bool true), (.bool b2.Eats), (.bool false)]) true 0 hs rfl rfl rfl (by kernel_rfl) rfl) hMM.2 hS))
   ·have hs := hs.bf hb
    have hS := hS.2 hc
    refine sNo hs fun _ hs => ?_
    refine sNo hs fun _ hs => ?_
    refine sYe hs (sP (.bool false) hs fun _ hs => ?_)
    refine sP (.bool false) hs fun _ hs => ?_
    refine sP (pt b3 2) hs fun _ hs => ?_
    refine sY (.bool a1.Fails) hs (Yl.lB [(.bool a1.Fails)] false 2) fun _ hs => ?_
    refine sP (.bool a1.Fails) hs fun _ hs => ?_
    refine bsplit a1.Fails Iff.rfl (fun hb hc => ?_) (fun hb hc => ?_)
    ·have hs := hs.bt hb
     have hS := hS.1 hc
     refine sYe hs (sP (pt b4 2) hs fun _ hs => ?_)
     refine sYe hs (sY (.bool b2.Fails) hs (Yl.lB [(.bool b2.Fails)] false 1) fun _ hs => ?_)
     refine sP (.bool b2.Fails) hs fun _ hs => ?_
     refine sP (X_api_Facts.mk true false b2.Fails).val hs fun _ hs => ?_
     refine stB 0 [(.bool true), (.bool false), (.bool b2.Fails)] [⟨b5, 202, [(.bool true), (.bool false), (.bool b2.Fails)]⟩, ⟨b4, 202, b2.cells⟩, ⟨b3, 202, a1.cells⟩] hs fun _ _ hs => ?_
     exact wpList_nil (Wp.ret (lvE K hs (resC (vs := [(.bool true), (.bool false), (.bool b2.Fails)]) true 0 hs rfl rfl rfl (by kernel_rfl) rfl) hMM.2 hS))
    ·have hs := hs.bf hb
     have hS := hS.2 hc
     refine sNo hs fun _ hs => ?_
     refine sNo hs fun _ hs => ?_
     refine sP (.bool false) hs fun _ hs => ?_
     refine sP (X_api_Facts.mk true false false).val hs fun _ hs => ?_
     refine stB 0 [(.bool true), (.bool false), (.bool false)] [⟨b5, 202, [(.bool true), (.bool false), (.bool false)]⟩, ⟨b4, 202, b2.cells⟩, ⟨b3, 202, a1.cells⟩] hs fun _ _ hs => ?_
     exact wpList_nil (Wp.ret (lvE K hs (resC (vs := [(.bool true), (.bool false), (.bool false)]) true 0 hs rfl rfl rfl (by kernel_rfl) rfl) hMM.2 hS))
 ·have hs := hs.bf hb
  have hS := hS.2 hc
  refine sYe hs (sP (pt b3 2) hs fun _ hs => ?_)
  refine sYe hs (sY (.bool a1.Fails) hs (Yl.lB [(.bool a1.Fails)] false 2) fun _ hs => ?_)
  refine sYe hs (sP (.bool a1.Fails) hs fun _ hs => ?_)
  refine bsplit a1.Fails Iff.rfl (fun hb hc => ?_) (fun hb hc => ?_)
  ·have hs := hs.bt hb
   have hS := hS.1 hc
   refine sYe hs (sP (pt b4 0) hs fun _ hs => ?_)
   refine sYe hs (sY (.bool b2.Empty) hs (Yl.lB [(.bool b2.Empty)] false 1) fun _ hs => ?_)
   refine sYe hs (sP (.bool b2.Empty) hs fun _ hs => ?_)
   refine sP (.bool b2.Empty) hs fun _ hs => ?_
   refine sP (pt b3 1) hs fun _ hs => ?_
   refine sY (.bool a1.Eats) hs (Yl.lB [(.bool a1.Eats)] false 2) fun _ hs => ?_
   refine sP (.bool a1.Eats) hs fun _ hs => ?_
   refine bsplit a1.Eats Iff.rfl (fun hb hc => ?_) (fun hb hc => ?_)
   ·have hs := hs.bt hb
    have hS := hS.1 hc
    refine sNo hs fun _ hs => ?_
    refine sNo hs fun _ hs => ?_
    refine sNo hs fun _ hs => ?_
    refine sNu hs fun _ hs => ?_
    refine sNu hs fun _ hs => ?_
    refine sNo hs fun _ hs => ?_
    refine sP (.bool true) hs fun _ hs => ?_
    refine sP (pt b3 2) hs fun _ hs => ?_
    refine sY (.bool a1.Fails) hs (Yl.lB [(.bool a1.Fails)] false 2) fun _ hs => ?_
    refine sP (.bool a1.Fails) hs fun _ hs => ?_
    refine bsplit a1.Fails Iff.rfl (fun hb hc => ?_) (fun hb hc => ?_)
    ·have hs := hs.bt hb
     have hS := hS.1 hc
     refine sYe hs (sP (pt b4 2) hs fun _ hs => ?_)
     refine sYe hs (sY (.bool b2.Fails) hs (Yl.lB [(.bool b2.Fails)] false 1) fun _ hs => ?_)
     refine sP (.bool b2.Fails) hs fun _ hs => ?_
     refine sP (X_api_Facts.mk b2.Empty true b2.Fails).val hs fun _ hs => ?_
     refine stB 0 [(.bool b2.Empty), (.bool true), (.bool b2.Fails)] [⟨b5, 202, [(.bool b2.Empty), (.bool true), (.bool b2.Fails)]⟩, ⟨b4, 202, b2.cells⟩, ⟨b3, 202, a1.cells⟩] hs fun _ _ hs => ?_
     exact wpList_nil (Wp.ret (lvE K hs (resC (vs := [(.bool b2.Empty), (.bool true), (.bool b2.Fails)]) true 0 hs rfl rfl rfl (by kernel_rfl) rfl) hMM.2 hS))
    ·have hs := hs.bf hb
     have hS := hS.2 hc
     refine sNo hs fun _ hs => ?_
     refine sNo hs fun _ hs => ?_
     refine sP (.bool false) hs fun _ hs => ?_
     refine sP (X_api_Facts.mk b2.Empty true false).val hs fun _ hs => ?_
     refine stB 0 [(.bool b2.Empty), (.bool true), (.bool false)] [⟨b5, 202, [(.bool b2.Empty), (.bool true), (.bool false)]⟩, ⟨b4, 202, b2.cells⟩, ⟨b3, 202, a1.cells⟩] hs fun _ _ hs => ?_
     exact wpList_nil (Wp.ret (lvE K hs (resC (vs := [(.bool b2.Empty), (.bool true), (.bool false)]) true 0 hs rfl rfl rfl (by kernel_rfl) rfl) hMM.2 hS))
   ·have hs := hs.bf hb
    have hS := hS.2 hc
    refine sYe hs (sP (pt b3 2) hs fun _ hs => ?_)
    refine sYe hs (sY (.bool a1.Fails) hs (Yl.lB [(.bool a1.Fails)] false 2) fun _ hs => ?_)
    refine sYe hs (sP (.bool a1.Fails) hs fun _ hs => ?_)
    refine bsplit a1.Fails Iff.rfl (fun hb hc => ?_) (fun hb hc => ?_)
    ·have hs := hs.bt hb
     have hS := hS.1 hc
     refine sYe hs (sP (pt b4 1) hs fun _ hs => ?_)
     refine sYe hs (sY (.bool b2.Eats) hs (Yl.lB [(.bool b2.Eats)] false 1) fun _ hs => ?_)
     refine sYe hs (sP (.bool b2.Eats) hs fun _ hs => ?_)
     refine sP (.bool b2.Eats) hs fun _ hs => ?_
     refine sP (pt b3 2) hs fun _ hs => ?_
     refine sY (.bool a1.Fails) hs (Yl.lB [(.bool a1.Fails)] false 2) fun _ hs => ?_
     refine sP (.bool a1.Fails) hs fun _ hs => ?_
     refine bsplit a1.Fails Iff.rfl (fun hb hc => ?_) (fun hb hc => ?_)
     ·have hs := hs.bt hb
      have hS := hS.1 hc
      refine sYe hs (sP (pt b4 2) hs fun _ hs => ?_)
      refine sYe hs (sY (.bool b2.Fails) hs (Yl.lB [(.bool b2.Fails)] false 1) fun _ hs => ?_)
      refine sP (.bool b2.Fails) hs fun _ hs => ?_
      refine sP b2.val hs fun _ hs => ?_
      refine stB 0 b2.cells [⟨b5, 202, b2.cells⟩, ⟨b4, 202, b2.cells⟩, ⟨b3, 202, a1.cells⟩] hs fun _ _ hs => ?_
      exact wpList_nil (Wp.ret (lvE K hs (resC (vs := b2.cells) true 0 hs rfl rfl rfl (by kernel_rfl) rfl) hMM.2 hS))
     ·have hs := hs.bf hb
      have hS := hS.2 hc
      refine sNo hs fun _ hs => ?_
      refine sNo hs fun _ hs => ?_
      refine sP (.bool false) hs fun _ hs => ?_
      refine sP (X_api_Facts.mk b2.Empty b2.Eats false).val hs fun _ hs => ?_
      refine stB 0 [(.bool b2.Empty), (.bool b2.Eats), (.bool false)] [⟨b5, 202, [(.bool b2.Empty), (.bool b2.Eats), (.bool false)]⟩, ⟨b4, 202, b2.cells⟩, ⟨b3, 202, a1.cells⟩] hs fun _ _ hs => ?_
      exact wpList_nil (Wp.ret (lvE K hs (resC (vs := [(.bool b2.Empty), (.bool b2.Eats), (.bool false)]) true 0 hs rfl rfl rfl (by kernel_rfl) rfl) hMM.2 hS))
    ·have hs := hs.bf hb
     have hS := hS.2 hc
     refine sNo hs fun _ hs => ?_
     refine sNo hs fun _ hs => ?_
     refine sYe hs (sP (.bool false) hs fun _ hs => ?_)
     refine sP (.bool false) hs fun _ hs => ?_
     refine sP (pt b3 2) hs fun _ hs => ?_
     refine sY (.bool a1.Fails) hs (Yl.lB [(.bool a1.Fails)] false 2) fun _ hs => ?_
     refine sP (.bool a1.Fails) hs fun _ hs => ?_
     refine bsplit a1.Fails Iff.rfl (fun hb hc => ?_) (fun hb hc => ?_)
     ·have hs := hs.bt hb
      have hS := hS.1 hc
      refine sYe hs (sP (pt b4 2) hs fun _ hs => ?_)
      refine sYe hs (sY (.bool b2.Fails) hs (Yl.lB [(.bool b2.Fails)] false 1) fun _ hs => ?_)
      refine sP (.bool b2.Fails) hs fun _ hs => ?_
      refine sP (X_api_Facts.mk b2.Empty false b2.Fails).val hs fun _ hs => ?_
      refine stB 0 [(.bool b2.Empty), (.bool false), (.bool b2.Fails)] [⟨b5, 202, [(.bool b2.Empty), (.bool false), (.bool b2.Fails)]⟩, ⟨b4, 202, b2.cells⟩, ⟨b3, 202, a1.cells⟩] hs fun _ _ hs => ?_
      exact wpList_nil (Wp.ret (lvE K hs (resC (vs := [(.bool b2.Empty), (.bool false), (.bool b2.Fails)]) true 0 hs rfl rfl rfl (by kernel_rfl) rfl) hMM.2 hS))
     ·have hs := hs.bf hb
      have hS := hS.2 hc
      refine sNo hs fun _ hs => ?_
      refine sNo hs fun _ hs => ?_
      refine sP (.bool false) hs fun _ hs => ?_
      refine sP (X_api_Facts.mk b2.Empty false false).val hs fun _ hs => ?_
      refine stB 0 [(.bool b2.Empty), (.bool false), (.bool false)] [⟨b5, 202, [(.bool b2.Empty), (.bool false), (.bool false)]⟩, ⟨b4, 202, b2.cells⟩, ⟨b3, 202, a1.cells⟩] hs fun _ _ hs => ?_
      exact wpList_nil (Wp.ret (lvE K hs (resC (vs := [(.bool b2.Empty), (.bool false), (.bool false)]) true 0 hs rfl rfl rfl (by kernel_rfl) rfl) hMM.2 hS))
  ·have hs := hs.bf hb
   have hS := hS.2 hc
   refine sNo hs fun _ hs => ?_
   refine sNo hs fun _ hs => ?_
   refine sYe hs (sP (.bool false) hs fun _ hs => ?_)
   refine sP (.bool false) hs fun _ hs => ?_
   refine sP (pt b3 1) hs fun _ hs => ?_
   refine sY (.bool a1.Eats) hs (Yl.lB [(.bool a1.Eats)] false 2) fun _ hs => ?_
   refine sP (.bool a1.Eats) hs fun _ hs => ?_
   refine bsplit a1.Eats Iff.rfl (fun hb hc => ?_) (fun hb hc => ?_)
   ·have hs := hs.bt hb
    have hS := hS.1 hc
    refine sNo hs fun _ hs => ?_
    refine sNo hs fun _ hs => ?_
    refine sNo hs fun _ hs => ?_
    refine sNu hs fun _ hs => ?_
    refine sNu hs fun _ hs => ?_
    refine sNo hs fun _ hs => ?_
    refine sP (.bool true) hs fun _ hs => ?_
    refine sP (pt b3 2) hs fun _ hs => ?_
    refine sY (.bool a1.Fails) hs (Yl.lB [(.bool a1.Fails)] false 2) fun _ hs => ?_
    refine sP (.bool a1.Fails) hs fun _ hs => ?_
    refine bsplit a1.Fails Iff.rfl (fun hb hc => ?_) (fun hb hc => ?_)
    ·have hs := hs.bt hb
     have hS := hS.1 hc
     refine sYe hs (sP (pt b4 2) hs fun _ hs => ?_)
     refine sYe hs (sY (.bool b2.Fails) hs (Yl.lB [(.bool b2.Fails)] false 1) fun _ hs => ?_)
     refine sP (.bool b2.Fails) hs fun _ hs => ?_
     refine sP (X_api_Facts.mk false true b2.Fails).val hs fun _ hs => ?_
     refine stB 0 [(.bool false), (.bool true), (.bool b2.Fails)] [⟨b5, 202, [(.bool false), (.bool true), (.bool b2.Fails)]⟩, ⟨b4, 202, b2.cells⟩, ⟨b3, 202, a1.cells⟩] hs fun _ _ hs => ?_
     exact wpList_nil (Wp.ret (lvE K hs (resC (vs := [(.bool false), (.bool true), (.bool b2.Fails)]) true 0 hs rfl rfl rfl (by kernel_rfl) rfl) hMM.2 hS))
    ·have hs := hs.bf hb
     have hS := hS.2 hc
     refine sNo hs fun _ hs => ?_
     refine sNo hs fun _ hs => ?_
     refine sP (.bool false) hs fun _ hs => ?_
     refine sP (X_api_Facts.mk false true false).val hs fun _ hs => ?_
     refine stB 0 [(.bool false), (.bool true), (.bool false)] [⟨b5, 202, [(.bool false), (.bool true), (.bool false)]⟩, ⟨b4, 202, b2.cells⟩, ⟨b3, 202, a1.cells⟩] hs fun _ _ hs => ?_
     exact wpList_nil (Wp.ret (lvE K hs (resC (vs := [(.bool false), (.bool true), (.bool false)]) true 0 hs rfl rfl rfl (by kernel_rfl) rfl) hMM.2 hS))
   ·have hs := hs.bf hb
    have hS := hS.2 hc
    refine sYe hs (sP (pt b3 2) hs fun _ hs => ?_)
    refine sYe hs (sY (.bool a1.Fails) hs (Yl.lB [(.bool a1.Fails)] false 2) fun _ hs => ?_)
    refine sYe hs (sP (.bool a1.Fails) hs fun _ hs => ?_)
    refine bsplit a1.Fails Iff.rfl (fun hb hc => ?_) (fun hb hc => ?_)
    ·have hs := hs.bt hb
     have hS := hS.1 hc
     refine sYe hs (sP (pt b4 1) hs fun _ hs => ?_)
     refine sYe hs (sY (.bool b2.Eats) hs (Yl.lB [(.bool b2.Eats)] false 1) fun _ hs => ?_)
     refine sYe hs (sP (.bool b2.Eats) hs fun _ hs => ?_)
     refine sP (.bool b2.Eats) hs fun _ hs => ?_
     refine sP (pt b3 2) hs fun _ hs => ?_
     refine sY (.bool a1.Fails) hs (Yl.lB [(.bool a1.Fails)] false 2) fun _ hs => ?_
     refine sP (.bool a1.Fails) hs fun _ hs => ?_
     refine bsplit a1.Fails Iff.rfl (fun hb hc => ?_) (fun hb hc => ?_)
     ·have hs := hs.bt hb
      have hS := hS.1 hc
      refine sYe hs (sP (pt b4 2) hs fun _ hs => ?_)
      refine sYe hs (sY (.bool b2.Fails) hs (Yl.lB [(.bool b2.Fails)] false 1) fun _ hs => ?_)
      refine sP (.bool b2.Fails) hs fun _ hs => ?_
      refine sP (X_api_Facts.mk false b2.Eats b2.Fails).val hs fun _ hs => ?_
      refine stB 0 [(.bool false), (.bool b2.Eats), (.bool b2.Fails)] [⟨b5, 202, [(.bool false), (.bool b2.Eats), (.bool b2.Fails)]⟩, ⟨b4, 202, b2.cells⟩, ⟨b3, 202, a1.cells⟩] hs fun _ _ hs => ?_
      exact wpList_nil (Wp.ret (lvE K hs (resC (vs := [(.bool false), (.bool b2.Eats), (.bool b2.Fails)]) true 0 hs rfl rfl rfl (by kernel_rfl) rfl) hMM.2 hS))
     ·have hs := hs.bf hb
      have hS := hS.2 hc
      refine sNo hs fun _ hs => ?_
      refine sNo hs fun _ hs => ?_
      refine sP (.bool false) hs fun _ hs => ?_
      refine sP (X_api_Facts.mk false b2.Eats false).val hs fun _ hs => ?_
      refine stB 0 [(.bool false), (.bool b2.Eats), (.bool false)] [⟨b5, 202, [(.bool false), (.bool b2.Eats), (.bool false)]⟩, ⟨b4, 202, b2.cells⟩, ⟨b3, 202, a1.cells⟩] hs fun _ _ hs => ?_
      exact wpList_nil (Wp.ret (lvE K hs (resC (vs := [(.bool false), (.bool b2.Eats), (.bool false)]) true 0 hs rfl rfl rfl (by kernel_rfl) rfl) hMM.2 hS))
    ·have hs := hs.bf hb
     have hS := hS.2 hc
     refine sNo hs fun _ hs => ?_
     refine sNo hs fun _ hs => ?_
     refine sYe hs (sP (.bool false) hs fun _ hs => ?_)
     refine sP (.bool false) hs fun _ hs => ?_
     refine sP (pt b3 2) hs fun _ hs => ?_
     refine sY (.bool a1.Fails) hs (Yl.lB [(.bool a1.Fails)] false 2) fun _ hs => ?_
     refine sP (.bool a1.Fails) hs fun _ hs => ?_
     refine bsplit a1.Fails Iff.rfl (fun hb hc => ?_) (fun hb hc => ?_)
     ·have hs := hs.bt hb
      have hS := hS.1 hc
      refine sYe hs (sP (pt b4 2) hs fun _ hs => ?_)
      refine sYe hs (sY (.bool b2.Fails) hs (Yl.lB [(.bool b2.Fails)] false 1) fun _ hs => ?_)
      refine sP (.bool b2.Fails) hs fun _ hs => ?_
      refine sP (X_api_Facts.mk false false b2.Fails).val hs fun _ hs => ?_
      refine stB 0 [(.bool false), (.bool false), (.bool b2.Fails)] [⟨b5, 202, [(.bool false), (.bool false), (.bool b2.Fails)]⟩, ⟨b4, 202, b2.cells⟩, ⟨b3, 202, a1.cells⟩] hs fun _ _ hs => ?_
      exact wpList_nil (Wp.ret (lvE K hs (resC (vs := [(.bool false), (.bool false), (.bool b2.Fails)]) true 0 hs rfl rfl rfl (by kernel_rfl) rfl) hMM.2 hS))
     ·have hs := hs.bf hb
      have hS := hS.2 hc
      refine sNo hs fun _ hs => ?_
      refine sNo hs fun _ hs => ?_
      refine sP (.bool false) hs fun _ hs => ?_
      refine sP (X_api_Facts.mk false false false).val hs fun _ hs => ?_
      refine stB 0 [(.bool false), (.bool false), (.bool false)] [⟨b5, 202, [(.bool false), (.bool false), (.bool false)]⟩, ⟨b4, 202, b2.cells⟩, ⟨b3, 202, a1.cells⟩] hs fun _ _ hs => ?_
      exact wpList_nil (Wp.ret (lvE K hs (resC (vs := [(.bool false), (.bool false), (.bool false)]) true 0 hs rfl rfl rfl (by kernel_rfl) rfl) hMM.2 hS))
def S_well_star (f1 : X_api_Facts) (M : Mem) (K : Value → Prop) : Prop :=
 K (X_api_Facts.mk f1.Fails f1.Eats false).val
set_option maxRecDepth 100000 in
theorem s_well_star (f1 : X_api_Facts) (M : Mem) (K : Value → Prop) (hS : S_well_star f1 M K) : CallE Try.prog 161 #[f1.val] M (fun v _ => K v) := by
 refine enterE Try.func161 rfl 8 rfl (Nat.le_of_ble_eq_true rfl) (fun E a hs => ?_)
 unfold S_well_star at hS
 have hMM := MX.refl M E
 change Sx 8 E [] M E a [(0, f1.val)] [] [] at hs
 refine Wp.seq (Wp.region (stepBox f1.cells hs rfl rfl rfl (by decide) (fun _ _ b2 hEb2 hs => ?_)))
 refine stepAlloc [(.bool false), (.bool false), (.bool false)] hs (by kernel_rfl) (by decide) (fun _ _ b3 hEb3 hs => ?_)
 refine wpList_nil (Wp.seq (Wp.region (sP (pt b2 1) hs fun _ hs => ?_)))
 refine sY (.bool f1.Eats) hs (Yl.lB [(.bool f1.Eats)] false 1) fun _ hs => ?_
 refine sP (pt b2 2) hs fun _ hs => ?_
 refine sY (.bool f1.Fails) hs (Yl.lB [(.bool f1.Fails)] false 1) fun _ hs => ?_
 refine sP (X_api_Facts.mk f1.Fails f1.Eats false).val hs fun _ hs => ?_
 refine stB 0 [(.bool f1.Fails), (.bool f1.Eats), (.bool false)] [⟨b3, 202, [(.bool f1.Fails), (.bool f1.Eats), (.bool false)]⟩, ⟨b2, 202, f1.cells⟩] hs fun _ _ hs => ?_
 exact wpList_nil (Wp.ret (lvE K hs (resC (vs := [(.bool f1.Fails), (.bool f1.Eats), (.bool false)]) true 0 hs rfl rfl rfl (by kernel_rfl) rfl) hMM.2 hS))
def S_well_of_J1 (b10 : Nat) (M91 : Mem) (x92 : X_api_Facts) (some94 : Bool) (K : Value → Prop) : Prop :=
 (∃ (x95 : Int), At M91 b10 0 [(.int .i64 x95)] ∧ (((x95 : Int) = 10 → K (X_api_Facts.mk some94 false x92.Fails).val) ∧ (¬ ((x95 : Int) = 10) → K (X_api_Facts.mk x92.Fails false some94).val)))
def S_well_of (ga1 : Option Addr) (gl2 : Nat) (gc3 : Nat) (rulesa4 : Option Addr) (rulesl5 : Nat) (rulesc6 : Nat) (e7 : X_api_Expr) (M : Mem) (K : Value → Prop) : Prop :=
 (((e7.Kind : Int) = 1 → K (X_api_Facts.mk true false false).val) ∧ (¬ ((e7.Kind : Int) = 1) → (((e7.Kind : Int) = 2 → K (X_api_Facts.mk false (!(cellsEq [e7.Set.w0, e7.Set.w1, e7.Set.w2, e7.Set.w3] [0, 0, 0, 0])) true).val) ∧ (¬ ((e7.Kind : Int) = 2) → (((e7.Kind : Int) = 3 → K (X_api_Facts.mk false true true).val) ∧ (¬ ((e7.Kind : Int) = 3) → (((e7.Kind : Int) = 4 → (CallE Try.prog 98 #[(.agg #[(.slice ga1 gl2 gc3)]), (.string (mkS e7.Text))] M (fun v _ => ∃ (x12 : Int), v = (Value.int .i64 x12) ∧ (∃ (b13 o14 : Nat), rulesa4 = some ⟨b13, o14, none⟩ ∧ (0 : Int) ≤ x12 ∧ x12 < ((rulesl5 : Nat) : Int) ∧ (∃ (x15 : X_api_Facts), At M b13 (o14 + x12.toNat * 3) x15.cells ∧ K x15.val))))) ∧ (¬ ((e7.Kind : Int) = 4) → (((e7.Kind : Int) = 5 → (∀ (M16 : Mem) (b8 : Nat), M.le M16 → At M16 b8 0 [(.slice ga1 gl2 gc3)] → (∀ (M17 : Mem) (b9 : Nat), M16.le M17 → At M17 b9 0 [(.slice rulesa4 rulesl5 rulesc6)] → (∀ (M18 : Mem) (b10 : Nat), M17.le M18 → At M18 b10 0 [(.int .i64 e7.Kind), (.int .u64 e7.Set.w0), (.int .u64 e7.Set.w1), (.int .u64 e7.Set.w2), (.int .u64 e7.Set.w3), (.string (mkS e7.Text)), (.slice e7.Kids_a e7.Kids_l e7.Kids_c)] → (CallE Try.prog 158 #[(.int .i64 0), (.pointer (some ⟨b8, 0, none⟩)), (.pointer (some ⟨b9, 0, none⟩)), (.pointer (some ⟨b10, 0, none⟩))] M18 (fun v _ => ∃ (x19 : X_api_Facts), v = x19.val ∧ (∃ (I40 : Int → Bool → Bool → Bool → Prop) (mu41 : Int → Bool → Bool → Bool → Nat), I40 1 x19.Empty x19.Eats x19.Fails ∧ ∀ (i36 : Int) (c37 : Bool) (c38 : Bool) (c39 : Bool), (I40 i36 c37 c38 c39 → (∃ (xa42 : Option Addr) (xl43 : Nat) (xc44 : Nat), At M18 b10 6 [(.slice xa42 xl43 xc44)] ∧ ((i36 < ((xl43 : Nat) : Int) → (CallE Try.prog 158 #[(.int .i64 i36), (.pointer (some ⟨b8, 0, none⟩)), (.pointer (some ⟨b9, 0, none⟩)), (.pointer (some ⟨b10, 0, none⟩))] M18 (fun v _ => ∃ (x45 : X_api_Facts), v = x45.val ∧ (CallE Try.prog 159 #[(X_api_Facts.mk c37 c38 c39).val, x45.val] M18 (fun v _ => ∃ (x46 : X_api_Facts), v = x46.val ∧ (InI (i36 + 1) ∧ I40 (i36 + 1) x46.Empty x46.Eats x46.Fails ∧ mu41 (i36 + 1) x46.Empty x46.Eats x46.Fails < mu41 i36 c37 c38 c39)))))) ∧ (¬ (i36 < ((xl43 : Nat) : Int)) → K (X_api_Facts.mk c37 c38 c39).val))))))))))) ∧ (¬ ((e7.Kind : Int) = 5) → (((e7.Kind : Int) = 6 → (InI (((e7.Kids_l : Nat) : Int) - 1) ∧ (∀ (M47 : Mem) (b8 : Nat), M.le M47 → At M47 b8 0 [(.slice ga1 gl2 gc3)] → (∀ (M48 : Mem) (b9 : Nat), M47.le M48 → At M48 b9 0 [(.slice rulesa4 rulesl5 rulesc6)] → (∀ (M49 : Mem) (b10 : Nat), M48.le M49 → At M49 b10 0 [(.int .i64 e7.Kind), (.int .u64 e7.Set.w0), (.int .u64 e7.Set.w1), (.int .u64 e7.Set.w2), (.int .u64 e7.Set.w3), (.string (mkS e7.Text)), (.slice e7.Kids_a e7.Kids_l e7.Kids_c)] → (CallE Try.prog 158 #[(.int .i64 (((e7.Kids_l : Nat) : Int) - 1)), (.pointer (some ⟨b8, 0, none⟩)), (.pointer (some ⟨b9, 0, none⟩)), (.pointer (some ⟨b10, 0, none⟩))] M49 (fun v _ => ∃ (x50 : X_api_Facts), v = x50.val ∧ (∃ (xa52 : Option Addr) (xl53 : Nat) (xc54 : Nat), At M49 b10 6 [(.slice xa52 xl53 xc54)] ∧ (InI (((xl53 : Nat) : Int) - 2) ∧ (∃ (I68 : Int → Bool → Bool → Bool → Prop) (mu69 : Int → Bool → Bool → Bool → Nat), I68 (((xl53 : Nat) : Int) - 2) x50.Empty x50.Eats x50.Fails ∧ ∀ (i_64 : Int) (c65 : Bool) (c66 : Bool) (c67 : Bool), (I68 i_64 c65 c66 c67 → ((i_64 ≥ 0 → (CallE Try.prog 158 #[(.int .i64 i_64), (.pointer (some ⟨b8, 0, none⟩)), (.pointer (some ⟨b9, 0, none⟩)), (.pointer (some ⟨b10, 0, none⟩))] M49 (fun v _ => ∃ (x70 : X_api_Facts), v = x70.val ∧ (CallE Try.prog 160 #[x70.val, (X_api_Facts.mk c65 c66 c67).val] M49 (fun v _ => ∃ (x71 : X_api_Facts), v = x71.val ∧ (InI (i_64 - 1) ∧ I68 (i_64 - 1) x71.Empty x71.Eats x71.Fails ∧ mu69 (i_64 - 1) x71.Empty x71.Eats x71.Fails < mu69 i_64 c65 c66 c67)))))) ∧ (¬ (i_64 ≥ 0) → K (X_api_Facts.mk c65 c66 c67).val))))))))))))) ∧ (¬ ((e7.Kind : Int) = 6) → (((e7.Kind : Int) = 7 → (∀ (M72 : Mem) (b8 : Nat), M.le M72 → At M72 b8 0 [(.slice ga1 gl2 gc3)] → (∀ (M73 : Mem) (b9 : Nat), M72.le M73 → At M73 b9 0 [(.slice rulesa4 rulesl5 rulesc6)] → (∀ (M74 : Mem) (b10 : Nat), M73.le M74 → At M74 b10 0 [(.int .i64 e7.Kind), (.int .u64 e7.Set.w0), (.int .u64 e7.Set.w1), (.int .u64 e7.Set.w2), (.int .u64 e7.Set.w3), (.string (mkS e7.Text)), (.slice e7.Kids_a e7.Kids_l e7.Kids_c)] → (CallE Try.prog 158 #[(.int .i64 0), (.pointer (some ⟨b8, 0, none⟩)), (.pointer (some ⟨b9, 0, none⟩)), (.pointer (some ⟨b10, 0, none⟩))] M74 (fun v _ => ∃ (x75 : X_api_Facts), v = x75.val ∧ (CallE Try.prog 161 #[x75.val] M74 (fun v _ => ∃ (x76 : X_api_Facts), v = x76.val ∧ K x76.val)))))))) ∧ (¬ ((e7.Kind : Int) = 7) → (((e7.Kind : Int) = 8 → (∀ (M77 : Mem) (b8 : Nat), M.le M77 → At M77 b8 0 [(.slice ga1 gl2 gc3)] → (∀ (M78 : Mem) (b9 : Nat), M77.le M78 → At M78 b9 0 [(.slice rulesa4 rulesl5 rulesc6)] → (∀ (M79 : Mem) (b10 : Nat), M78.le M79 → At M79 b10 0 [(.int .i64 e7.Kind), (.int .u64 e7.Set.w0), (.int .u64 e7.Set.w1), (.int .u64 e7.Set.w2), (.int .u64 e7.Set.w3), (.string (mkS e7.Text)), (.slice e7.Kids_a e7.Kids_l e7.Kids_c)] → (CallE Try.prog 158 #[(.int .i64 0), (.pointer (some ⟨b8, 0, none⟩)), (.pointer (some ⟨b9, 0, none⟩)), (.pointer (some ⟨b10, 0, none⟩))] M79 (fun v _ => ∃ (x80 : X_api_Facts), v = x80.val ∧ (CallE Try.prog 158 #[(.int .i64 0), (.pointer (some ⟨b8, 0, none⟩)), (.pointer (some ⟨b9, 0, none⟩)), (.pointer (some ⟨b10, 0, none⟩))] M79 (fun v _ => ∃ (x81 : X_api_Facts), v = x81.val ∧ (CallE Try.prog 161 #[x81.val] M79 (fun v _ => ∃ (x82 : X_api_Facts), v = x82.val ∧ (CallE Try.prog 159 #[x80.val, x82.val] M79 (fun v _ => ∃ (x83 : X_api_Facts), v = x83.val ∧ K x83.val)))))))))))) ∧ (¬ ((e7.Kind : Int) = 8) → (((e7.Kind : Int) = 9 → (∀ (M84 : Mem) (b8 : Nat), M.le M84 → At M84 b8 0 [(.slice ga1 gl2 gc3)] → (∀ (M85 : Mem) (b9 : Nat), M84.le M85 → At M85 b9 0 [(.slice rulesa4 rulesl5 rulesc6)] → (∀ (M86 : Mem) (b10 : Nat), M85.le M86 → At M86 b10 0 [(.int .i64 e7.Kind), (.int .u64 e7.Set.w0), (.int .u64 e7.Set.w1), (.int .u64 e7.Set.w2), (.int .u64 e7.Set.w3), (.string (mkS e7.Text)), (.slice e7.Kids_a e7.Kids_l e7.Kids_c)] → (CallE Try.prog 158 #[(.int .i64 0), (.pointer (some ⟨b8, 0, none⟩)), (.pointer (some ⟨b9, 0, none⟩)), (.pointer (some ⟨b10, 0, none⟩))] M86 (fun v _ => ∃ (x87 : X_api_Facts), v = x87.val ∧ (CallE Try.prog 160 #[x87.val, (X_api_Facts.mk true false false).val] M86 (fun v _ => ∃ (x88 : X_api_Facts), v = x88.val ∧ K x88.val)))))))) ∧ (¬ ((e7.Kind : Int) = 9) → (∀ (M89 : Mem) (b8 : Nat), M.le M89 → At M89 b8 0 [(.slice ga1 gl2 gc3)] → (∀ (M90 : Mem) (b9 : Nat), M89.le M90 → At M90 b9 0 [(.slice rulesa4 rulesl5 rulesc6)] → (∀ (M91 : Mem) (b10 : Nat), M90.le M91 → At M91 b10 0 [(.int .i64 e7.Kind), (.int .u64 e7.Set.w0), (.int .u64 e7.Set.w1), (.int .u64 e7.Set.w2), (.int .u64 e7.Set.w3), (.string (mkS e7.Text)), (.slice e7.Kids_a e7.Kids_l e7.Kids_c)] → (CallE Try.prog 158 #[(.int .i64 0), (.pointer (some ⟨b8, 0, none⟩)), (.pointer (some ⟨b9, 0, none⟩)), (.pointer (some ⟨b10, 0, none⟩))] M91 (fun v _ => ∃ (x92 : X_api_Facts), v = x92.val ∧ ((x92.Empty = true → (S_well_of_J1 b10 M91 x92 true K)) ∧ (¬ (x92.Empty = true) → (S_well_of_J1 b10 M91 x92 x92.Eats K))))))))))))))))))))))))))
set_option maxRecDepth 100000 in
theorem s_well_of (ga1 : Option Addr) (gl2 : Nat) (gc3 : Nat) (rulesa4 : Option Addr) (rulesl5 : Nat) (rulesc6 : Nat) (e7 : X_api_Expr) (M : Mem) (K : Value → Prop) (hS : S_well_of ga1 gl2 gc3 rulesa4 rulesl5 rulesc6 e7 M K) : CallE Try.prog 140 #[(Value.agg #[(Value.slice ga1 gl2 gc3)]), (Value.slice rulesa4 rulesl5 rulesc6), e7.val] M (fun v _ => K v) := by
 refine enterE Try.func140 rfl 116 rfl (Nat.le_of_ble_eq_true rfl) (fun E a hs => ?_)
 unfold S_well_of at hS
 have hMM := MX.refl M E
 change Sx 116 E [] M E a [(0, (.agg #[(.slice ga1 gl2 gc3)])), (1, (.slice rulesa4 rulesl5 rulesc6)), (2, e7.val)] [] [] at hs
 refine Wp.seq (Wp.region (stepBox [(.slice ga1 gl2 gc3)] hs rfl rfl rfl (by decide) (fun _ _ b8 hEb8 hs => ?_)))
 refine stepBox [(.slice rulesa4 rulesl5 rulesc6)] hs rfl rfl rfl (by decide) (fun _ _ b9 hEb9 hs => ?_)
 refine stepBox e7.cells hs rfl rfl rfl (by decide) (fun _ _ b10 hEb10 hs => ?_)
 refine stepAlloc [(.bool false), (.bool false), (.bool false)] hs (by kernel_rfl) (by decide) (fun _ _ b11 hEb11 hs => ?_)
 refine wpList_nil (Wp.seq (Wp.region (sP (Value.func (.func 158) #[] #[(pt b8 0), (pt b9 0), (pt b10 0)]) hs fun _ hs => ?_)))
 refine sP (Value.func (.func 158) #[] #[(pt b8 0), (pt b9 0), (pt b10 0)]) hs fun _ hs => ?_
 refine wpList_nil (Wp.seq (Wp.seq (Wp.region (sP (pt b10 0) hs fun _ hs => ?_))))
 refine sY (iv e7.Kind) hs (Yl.lB [(iv e7.Kind)] false 1) fun _ hs => ?_
 refine wpList_nil (Wp.block (Wp.seq (Wp.region (sP (.bool ((e7.Kind : Int) == (1 : Int))) hs fun _ hs => ?_))))
 refine sP (.bool ((e7.Kind : Int) == (1 : Int))) hs fun _ hs => ?_
 refine wpList_nil (Wp.cond hs rfl rfl beq_iff_eq (fun hc => ?_) (fun hc => ?_))
 ·have hS := hS.1 hc
  refine Wp.seq (Wp.region (sP (X_api_Facts.mk true false false).val hs fun _ hs => ?_))
  refine stB 0 [(.bool true), (.bool false), (.bool false)] [⟨b11, 202, [(.bool true), (.bool false), (.bool false)]⟩, ⟨b10, 109, e7.cells⟩, ⟨b9, 168, [(.slice rulesa4 rulesl5 rulesc6)]⟩, ⟨b8, 24, [(.slice ga1 gl2 gc3)]⟩] hs fun _ _ hs => ?_
  exact wpList_nil (Wp.ret (lvE K hs (resC (vs := [(.bool true), (.bool false), (.bool false)]) true 0 hs rfl rfl rfl (by kernel_rfl) rfl) hMM.2 hS))
 ·have hS := hS.2 hc
  refine Wp.seq (Wp.region (sP (.bool ((e7.Kind : Int) == (2 : Int))) hs fun _ hs => ?_))
  refine sP (.bool ((e7.Kind : Int) == (2 : Int))) hs fun _ hs => ?_
  refine wpList_nil (Wp.cond hs rfl rfl beq_iff_eq (fun hc => ?_) (fun hc => ?_))
  ·have hS := hS.1 hc
   refine Wp.seq (Wp.region (sP (pt b10 1) hs fun _ hs => ?_))
   refine sY e7.Set.val hs (Yl.lB e7.Set.cells true 1) fun _ hs => ?_
   refine sP (X_api_Set.mk 0 0 0 0).val hs fun _ hs => ?_
   refine sY (.bool (!(cellsEq [e7.Set.w0, e7.Set.w1, e7.Set.w2, e7.Set.w3] [0, 0, 0, 0]))) hs (Yl.neqA (n := 4) (e := 46) (k := .u64) (xs := [e7.Set.w0, e7.Set.w1, e7.Set.w2, e7.Set.w3]) (ys := [0, 0, 0, 0]) rfl (by kernel_rfl) (by kernel_rfl) (by kernel_rfl) (by kernel_rfl) rfl rfl rfl rfl rfl rfl) fun _ hs => ?_
   refine sP (X_api_Facts.mk false (!(cellsEq [e7.Set.w0, e7.Set.w1, e7.Set.w2, e7.Set.w3] [0, 0, 0, 0])) true).val hs fun _ hs => ?_
   refine stB 0 [(.bool false), (.bool (!(cellsEq [e7.Set.w0, e7.Set.w1, e7.Set.w2, e7.Set.w3] [0, 0, 0, 0]))), (.bool true)] [⟨b11, 202, [(.bool false), (.bool (!(cellsEq [e7.Set.w0, e7.Set.w1, e7.Set.w2, e7.Set.w3] [0, 0, 0, 0]))), (.bool true)]⟩, ⟨b10, 109, e7.cells⟩, ⟨b9, 168, [(.slice rulesa4 rulesl5 rulesc6)]⟩, ⟨b8, 24, [(.slice ga1 gl2 gc3)]⟩] hs fun _ _ hs => ?_
   exact wpList_nil (Wp.ret (lvE K hs (resC (vs := [(.bool false), (.bool (!(cellsEq [e7.Set.w0, e7.Set.w1, e7.Set.w2, e7.Set.w3] [0, 0, 0, 0]))), (.bool true)]) true 0 hs rfl rfl rfl (by kernel_rfl) rfl) hMM.2 hS))
  ·have hS := hS.2 hc
   refine Wp.seq (Wp.region (sP (.bool ((e7.Kind : Int) == (3 : Int))) hs fun _ hs => ?_))
   refine sP (.bool ((e7.Kind : Int) == (3 : Int))) hs fun _ hs => ?_
   refine wpList_nil (Wp.cond hs rfl rfl beq_iff_eq (fun hc => ?_) (fun hc => ?_))
   ·have hS := hS.1 hc
    refine Wp.seq (Wp.region (sP (X_api_Facts.mk false true true).val hs fun _ hs => ?_))
    refine stB 0 [(.bool false), (.bool true), (.bool true)] [⟨b11, 202, [(.bool false), (.bool true), (.bool true)]⟩, ⟨b10, 109, e7.cells⟩, ⟨b9, 168, [(.slice rulesa4 rulesl5 rulesc6)]⟩, ⟨b8, 24, [(.slice ga1 gl2 gc3)]⟩] hs fun _ _ hs => ?_
    exact wpList_nil (Wp.ret (lvE K hs (resC (vs := [(.bool false), (.bool true), (.bool true)]) true 0 hs rfl rfl rfl (by kernel_rfl) rfl) hMM.2 hS))
   ·have hS := hS.2 hc
    refine Wp.seq (Wp.region (sP (.bool ((e7.Kind : Int) == (4 : Int))) hs fun _ hs => ?_))
    refine sP (.bool ((e7.Kind : Int) == (4 : Int))) hs fun _ hs => ?_
    refine wpList_nil (Wp.cond hs rfl rfl beq_iff_eq (fun hc => ?_) (fun hc => ?_))
    ·have hS := hS.1 hc
     refine Wp.seq (Wp.regionD [true, true, true, true, true, true, true, false] hs (by kernel_rfl) rfl [⟨b11, 202, [(.bool false), (.bool false), (.bool false)]⟩, ⟨b10, 109, e7.cells⟩, ⟨b9, 168, [(.slice rulesa4 rulesl5 rulesc6)]⟩, ⟨b8, 24, [(.slice ga1 gl2 gc3)]⟩] (fun _ h => h) [] (fun _ h => h) (fun _ hs hC => ?_))
     have hL := Mem.le.refl M
     refine stepDY (v := (.slice rulesa4 rulesl5 rulesc6)) 0 [5, 6, 7] hs hC QZ.no rfl (wanted_none rfl) rfl (by decide) (by kernel_rfl) (by kernel_rfl) (by kernel_rfl) (Yl.lB [(.slice rulesa4 rulesl5 rulesc6)] false 2) (fun _ hs => ?_)
     refine stepDY (v := (.agg #[(.slice ga1 gl2 gc3)])) 1 [4, 5, 6, 7] hs hC QZ.no rfl (wanted_none rfl) rfl (by decide) (by kernel_rfl) (by kernel_rfl) (by kernel_rfl) (Yl.lB [(.slice ga1 gl2 gc3)] true 3) (fun _ hs => ?_)
     refine sE 2 ?_
     refine sP (pt b10 5) hs fun _ hs => ?_
     refine wpList_nil (⟨fun _ h => h, ?_⟩)
     refine sE 3 ?_
     refine sY (.string (mkS e7.Text)) hs (Yl.lB [(.string (mkS e7.Text))] false 1) fun _ hs => ?_
     refine wpList_nil (⟨fun _ h => h, ?_⟩)
     refine sE 4 ?_
     refine stepCallP [(.agg #[(.slice ga1 gl2 gc3)]), (.string (mkS e7.Text))] hs rfl ⟨_, rfl, rfl⟩ rfl Try.func98 rfl (by kernel_rfl) (by decide) hS (fun _ _ v hS hs => ?_)
     obtain ⟨x12, hv, hS⟩ := hS
     subst hv
     refine wpList_nil (⟨fun _ _ => hs.cxle hL (List.Sublist.refl _) (List.Sublist.refl _), ?_⟩)
     have hC := hs.cxle hL (List.Sublist.refl _) (List.Sublist.refl _)
     refine sE 5 ?_
     obtain ⟨b13, o14, ha, h0, hl, hS⟩ := hS
     refine sY (.pointer (some ⟨b13, o14 + x12.toNat * 3, none⟩)) hs (Yl.indexS (e := 202) (sz := 3) rfl rfl rfl rfl (by kernel_rfl) (by kernel_rfl) ha h0 hl) fun _ hs => ?_
     refine wpList_nil (⟨fun _ h => h, ?_⟩)
     refine sE 6 ?_
     obtain ⟨x15, hat, hS⟩ := hS
     refine sY x15.val hs (Yl.loadV (vs := x15.cells) true rfl rfl (by kernel_rfl) hat) fun _ hs => ?_
     refine wpList_nil (⟨fun _ h => h, ?_⟩)
     refine sE 7 ?_
     refine stB 0 x15.cells [⟨b11, 202, x15.cells⟩, ⟨b10, 109, e7.cells⟩, ⟨b9, 168, [(.slice rulesa4 rulesl5 rulesc6)]⟩, ⟨b8, 24, [(.slice ga1 gl2 gc3)]⟩] hs fun _ _ hs => ?_
     refine wpList_nil (⟨fun h => absurd h (by decide), ?_⟩)
     refine WpD.done (by kernel_rfl) ?_ _
     exact Wp.ret (lvE K hs (resC (vs := x15.cells) true 0 hs rfl rfl rfl (by kernel_rfl) rfl) hMM.2 hS)
    ·have hS := hS.2 hc
     refine Wp.seq (Wp.region (sP (.bool ((e7.Kind : Int) == (5 : Int))) hs fun _ hs => ?_))
     refine sP (.bool ((e7.Kind : Int) == (5 : Int))) hs fun _ hs => ?_
     refine wpList_nil (Wp.cond hs rfl rfl beq_iff_eq (fun hc => ?_) (fun hc => ?_))
     ·have hS := hS.1 hc
      refine Wp.seq (Wp.region (sP (Value.func (.func 158) #[] #[(pt b8 0), (pt b9 0), (pt b10 0)]) hs fun _ hs => ?_))
      obtain ⟨M16, hle, hat, hnew, hs⟩ := hs.freeze 3 rfl hEb8 rfl
      have hMM := hMM.next hle hnew
      have hS := hS M16 b8 hle hat
      obtain ⟨M17, hle, hat, hnew, hs⟩ := hs.freeze 2 rfl hEb9 rfl
      have hMM := hMM.next hle hnew
      have hS := hS M17 b9 hle hat
      obtain ⟨M18, hle, hat, hnew, hs⟩ := hs.freeze 1 rfl hEb10 rfl
      have hMM := hMM.next hle hnew
      have hS := hS M18 b10 hle hat
      refine stepCallP [(iv 0), (pt b8 0), (pt b9 0), (pt b10 0)] hs rfl ⟨_, rfl, rfl⟩ rfl Try.func158 rfl (by kernel_rfl) (by decide) hS (fun _ _ v hS hs => ?_)
      obtain ⟨x19, hv, hS⟩ := hS
      subst hv
      refine stepAlloc [(.bool false), (.bool false), (.bool false)] hs (by kernel_rfl) (by decide) (fun _ _ b20 hEb20 hs => ?_)
      refine stB 0 x19.cells [⟨b20, 202, x19.cells⟩, ⟨b11, 202, [(.bool false), (.bool false), (.bool false)]⟩] hs fun _ _ hs => ?_
      refine wpList_nil (Wp.seq (Wp.seq (Wp.region (sP (iv 1) hs fun _ hs => ?_))))
      refine wpList_nil (Wp.block ?_)
      obtain ⟨I40, mu41, hI0, hst⟩ := hS
      refine Wp.loop (σ := (Int) × (Bool) × (Bool) × (Bool)) (fun s a w => match s with | (i36, c37, c38, c39) => Sx 116 E [] M18 w a [(5, (pt b10 0)), (6, (pt b11 0)), (7, (Value.func (.func 158) #[] #[(pt b8 0), (pt b9 0), (pt b10 0)])), (8, (pt b20 0)), (9, (iv i36))] [⟨b20, 202, [(.bool c37), (.bool c38), (.bool c39)]⟩, ⟨b11, 202, [(.bool false), (.bool false), (.bool false)]⟩] [] ∧ I40 i36 c37 c38 c39) (fun s => match s with | (i36, c37, c38, c39) => mu41 i36 c37 c38 c39) (1, x19.Empty, x19.Eats, x19.Fails) ⟨(hs.wk ⟨rfl, rfl, rfl, rfl, rfl, trivial⟩), hI0⟩ (fun s a w hI => ?_)
      obtain ⟨i36, c37, c38, c39⟩ := s
      obtain ⟨hs, hI⟩ := hI
      have hS := hst i36 c37 c38 c39 hI
      clear hst hI0 hI
      refine Wp.seq (Wp.seq (Wp.region (sP (iv i36) hs fun _ hs => ?_)))
      refine sP (pt b10 6) hs fun _ hs => ?_
      obtain ⟨xa42, xl43, xc44, hat, hS⟩ := hS
      refine sY (.slice xa42 xl43 xc44) hs (Yl.loadV (vs := [(.slice xa42 xl43 xc44)]) false rfl rfl (by kernel_rfl) hat) fun _ hs => ?_
      refine sP (iv ((xl43 : Nat) : Int)) hs fun _ hs => ?_
      refine sP (.bool (decide (i36 < ((xl43 : Nat) : Int)))) hs fun _ hs => ?_
      refine wpList_nil (Wp.cond hs rfl rfl decide_eq_true_iff (fun hc => ?_) (fun hc => ?_))
      ·have hS := hS.1 hc
       refine Wp.skip (Wp.seq (Wp.block (Wp.regionD [true, true, true, true, true, false] hs (by kernel_rfl) rfl [⟨b20, 202, [(.bool c37), (.bool c38), (.bool c39)]⟩, ⟨b11, 202, [(.bool false), (.bool false), (.bool false)]⟩] (fun _ h => h) [] (fun _ h => h) (fun _ hs hC => ?_))))
       have hL := Mem.le.refl M18
       refine stepDY (v := (X_api_Facts.mk c37 c38 c39).val) 0 [4, 5] hs hC QZ.no rfl (wanted_none rfl) rfl (by decide) (by kernel_rfl) (by kernel_rfl) (by kernel_rfl) (Yl.lB (X_api_Facts.mk c37 c38 c39).cells true 0) (fun _ hs => ?_)
       refine dP (Value.func (.func 158) #[] #[(pt b8 0), (pt b9 0), (pt b10 0)]) 1 [3, 4, 5] hs QZ.no (wanted_none rfl) fun _ hs => ?_
       refine sE 2 ?_
       refine sP (iv i36) hs fun _ hs => ?_
       refine wpList_nil (⟨fun _ h => h, ?_⟩)
       refine sE 3 ?_
       refine stepCallP [(iv i36), (pt b8 0), (pt b9 0), (pt b10 0)] hs rfl ⟨_, rfl, rfl⟩ rfl Try.func158 rfl (by kernel_rfl) (by decide) hS (fun _ _ v hS hs => ?_)
       obtain ⟨x45, hv, hS⟩ := hS
       subst hv
       refine wpList_nil (⟨fun _ _ => hs.cxle hL (List.Sublist.refl _) (List.Sublist.refl _), ?_⟩)
       have hC := hs.cxle hL (List.Sublist.refl _) (List.Sublist.refl _)
       refine sE 4 ?_
       refine stepCallP [(X_api_Facts.mk c37 c38 c39).val, x45.val] hs rfl ⟨_, rfl, rfl⟩ rfl Try.func159 rfl (by kernel_rfl) (by decide) hS (fun _ _ v hS hs => ?_)
       obtain ⟨x46, hv, hS⟩ := hS
       subst hv
       refine wpList_nil (⟨fun _ _ => hs.cxle hL (List.Sublist.refl _) (List.Sublist.refl _), ?_⟩)
       have hC := hs.cxle hL (List.Sublist.refl _) (List.Sublist.refl _)
       refine sE 5 ?_
       refine stB 0 x46.cells [⟨b20, 202, x46.cells⟩, ⟨b11, 202, [(.bool false), (.bool false), (.bool false)]⟩] hs fun _ _ hs => ?_
       refine wpList_nil (⟨fun h => absurd h (by decide), ?_⟩)
       refine WpD.done (by kernel_rfl) ?_ _
       refine Wp.region (sP (iv i36) hs fun _ hs => ?_)
       obtain ⟨hI, hS⟩ := hS
       refine sY (iv (i36 + 1)) hs (Yl.eq (Yl.pure (v := Value.int .i64 (IntKind.wrap .i64 (i36 + 1))) rfl (fun _ => by kernel_rfl)) (congrArg (Value.int .i64) (wrap_in hI))) fun _ hs => ?_
       refine sP (iv (i36 + 1)) hs fun _ hs => ?_
       exact wpList_nil (⟨(i36 + 1, x46.Empty, x46.Eats, x46.Fails), ⟨(hs.wk ⟨rfl, rfl, rfl, rfl, rfl, trivial⟩), hS.1⟩, hS.2⟩)
      ·have hS := hS.2 hc
       refine Wp.exit rfl (Wp.seq (Wp.region (sY (X_api_Facts.mk c37 c38 c39).val hs (Yl.lB (X_api_Facts.mk c37 c38 c39).cells true 0) fun _ hs => ?_)))
       refine stB 1 [(.bool c37), (.bool c38), (.bool c39)] [⟨b20, 202, [(.bool c37), (.bool c38), (.bool c39)]⟩, ⟨b11, 202, [(.bool c37), (.bool c38), (.bool c39)]⟩] hs fun _ _ hs => ?_
       exact wpList_nil (Wp.ret (lvE K hs (resC (vs := [(.bool c37), (.bool c38), (.bool c39)]) true 1 hs rfl rfl rfl (by kernel_rfl) rfl) hMM.2 hS))
     ·have hS := hS.2 hc
      refine Wp.seq (Wp.region (sP (.bool ((e7.Kind : Int) == (6 : Int))) hs fun _ hs => ?_))
      refine sP (.bool ((e7.Kind : Int) == (6 : Int))) hs fun _ hs => ?_
      refine wpList_nil (Wp.cond hs rfl rfl beq_iff_eq (fun hc => ?_) (fun hc => ?_))
      ·have hS := hS.1 hc
       refine Wp.seq (Wp.region (sP (Value.func (.func 158) #[] #[(pt b8 0), (pt b9 0), (pt b10 0)]) hs fun _ hs => ?_))
       refine sP (pt b10 6) hs fun _ hs => ?_
       refine sY (.slice e7.Kids_a e7.Kids_l e7.Kids_c) hs (Yl.lB [(.slice e7.Kids_a e7.Kids_l e7.Kids_c)] false 1) fun _ hs => ?_
       refine sP (iv ((e7.Kids_l : Nat) : Int)) hs fun _ hs => ?_
       obtain ⟨hI, hS⟩ := hS
       refine sY (iv (((e7.Kids_l : Nat) : Int) - 1)) hs (Yl.eq (Yl.pure (v := Value.int .i64 (IntKind.wrap .i64 (((e7.Kids_l : Nat) : Int) - 1))) rfl (fun _ => by kernel_rfl)) (congrArg (Value.int .i64) (wrap_in hI))) fun _ hs => ?_
       obtain ⟨M47, hle, hat, hnew, hs⟩ := hs.freeze 3 rfl hEb8 rfl
       have hMM := hMM.next hle hnew
       have hS := hS M47 b8 hle hat
       obtain ⟨M48, hle, hat, hnew, hs⟩ := hs.freeze 2 rfl hEb9 rfl
       have hMM := hMM.next hle hnew
       have hS := hS M48 b9 hle hat
       obtain ⟨M49, hle, hat, hnew, hs⟩ := hs.freeze 1 rfl hEb10 rfl
       have hMM := hMM.next hle hnew
       have hS := hS M49 b10 hle hat
       refine stepCallP [(iv (((e7.Kids_l : Nat) : Int) - 1)), (pt b8 0), (pt b9 0), (pt b10 0)] hs rfl ⟨_, rfl, rfl⟩ rfl Try.func158 rfl (by kernel_rfl) (by decide) hS (fun _ _ v hS hs => ?_)
       obtain ⟨x50, hv, hS⟩ := hS
       subst hv
       refine stepAlloc [(.bool false), (.bool false), (.bool false)] hs (by kernel_rfl) (by decide) (fun _ _ b51 hEb51 hs => ?_)
       refine stB 0 x50.cells [⟨b51, 202, x50.cells⟩, ⟨b11, 202, [(.bool false), (.bool false), (.bool false)]⟩] hs fun _ _ hs => ?_
       refine wpList_nil (Wp.seq (Wp.seq (Wp.region (sP (pt b10 6) hs fun _ hs => ?_))))
       obtain ⟨xa52, xl53, xc54, hat, hS⟩ := hS
       refine sY (.slice xa52 xl53 xc54) hs (Yl.loadV (vs := [(.slice xa52 xl53 xc54)]) false rfl rfl (by kernel_rfl) hat) fun _ hs => ?_
       refine sP (iv ((xl53 : Nat) : Int)) hs fun _ hs => ?_
       obtain ⟨hI, hS⟩ := hS
       refine sY (iv (((xl53 : Nat) : Int) - 2)) hs (Yl.eq (Yl.pure (v := Value.int .i64 (IntKind.wrap .i64 (((xl53 : Nat) : Int) - 2))) rfl (fun _ => by kernel_rfl)) (congrArg (Value.int .i64) (wrap_in hI))) fun _ hs => ?_
       refine sP (iv (((xl53 : Nat) : Int) - 2)) hs fun _ hs => ?_
       refine wpList_nil (Wp.block ?_)
       obtain ⟨I68, mu69, hI0, hst⟩ := hS
       refine Wp.loop (σ := (Int) × (Bool) × (Bool) × (Bool)) (fun s a w => match s with | (i_64, c65, c66, c67) => Sx 116 E [] M49 w a [(6, (pt b11 0)), (7, (Value.func (.func 158) #[] #[(pt b8 0), (pt b9 0), (pt b10 0)])), (10, (pt b51 0)), (11, (iv i_64))] [⟨b51, 202, [(.bool c65), (.bool c66), (.bool c67)]⟩, ⟨b11, 202, [(.bool false), (.bool false), (.bool false)]⟩] [] ∧ I68 i_64 c65 c66 c67) (fun s => match s with | (i_64, c65, c66, c67) => mu69 i_64 c65 c66 c67) (((xl53 : Nat) : Int) - 2, x50.Empty, x50.Eats, x50.Fails) ⟨(hs.wk ⟨rfl, rfl, rfl, rfl, trivial⟩), hI0⟩ (fun s a w hI => ?_)
       obtain ⟨i_64, c65, c66, c67⟩ := s
       obtain ⟨hs, hI⟩ := hI
       have hS := hst i_64 c65 c66 c67 hI
       clear hst hI0 hI
       refine Wp.seq (Wp.seq (Wp.region (sP (iv i_64) hs fun _ hs => ?_)))
       refine sP (.bool (decide (i_64 ≥ 0))) hs fun _ hs => ?_
       refine wpList_nil (Wp.cond hs rfl rfl decide_eq_true_iff (fun hc => ?_) (fun hc => ?_))
       ·have hS := hS.1 hc
        refine Wp.skip (Wp.seq (Wp.block (Wp.regionD [true, true, true, true, true, false] hs (by kernel_rfl) rfl [⟨b51, 202, [(.bool c65), (.bool c66), (.bool c67)]⟩, ⟨b11, 202, [(.bool false), (.bool false), (.bool false)]⟩] (fun _ h => h) [] (fun _ h => h) (fun _ hs hC => ?_))))
        have hL := Mem.le.refl M49
        refine dP (Value.func (.func 158) #[] #[(pt b8 0), (pt b9 0), (pt b10 0)]) 0 [2, 4, 5] hs QZ.no (wanted_none rfl) fun _ hs => ?_
        refine dP (iv i_64) 1 [2, 4, 5] hs QZ.no (wanted_none rfl) fun _ hs => ?_
        refine stepDY (v := (X_api_Facts.mk c65 c66 c67).val) 3 [4, 5] hs hC QZ.no rfl (wanted_none rfl) rfl (by decide) (by kernel_rfl) (by kernel_rfl) (by kernel_rfl) (Yl.lB (X_api_Facts.mk c65 c66 c67).cells true 0) (fun _ hs => ?_)
        refine sE 2 ?_
        refine stepCallP [(iv i_64), (pt b8 0), (pt b9 0), (pt b10 0)] hs rfl ⟨_, rfl, rfl⟩ rfl Try.func158 rfl (by kernel_rfl) (by decide) hS (fun _ _ v hS hs => ?_)
        obtain ⟨x70, hv, hS⟩ := hS
        subst hv
        refine wpList_nil (⟨fun _ _ => hs.cxle hL (List.Sublist.refl _) (List.Sublist.refl _), ?_⟩)
        have hC := hs.cxle hL (List.Sublist.refl _) (List.Sublist.refl _)
        refine sE 4 ?_
        refine stepCallP [x70.val, (X_api_Facts.mk c65 c66 c67).val] hs rfl ⟨_, rfl, rfl⟩ rfl Try.func160 rfl (by kernel_rfl) (by decide) hS (fun _ _ v hS hs => ?_)
        obtain ⟨x71, hv, hS⟩ := hS
        subst hv
        refine wpList_nil (⟨fun _ _ => hs.cxle hL (List.Sublist.refl _) (List.Sublist.refl _), ?_⟩)
        have hC := hs.cxle hL (List.Sublist.refl _) (List.Sublist.refl _)
        refine sE 5 ?_
        refine stB 0 x71.cells [⟨b51, 202, x71.cells⟩, ⟨b11, 202, [(.bool false), (.bool false), (.bool false)]⟩] hs fun _ _ hs => ?_
        refine wpList_nil (⟨fun h => absurd h (by decide), ?_⟩)
        refine WpD.done (by kernel_rfl) ?_ _
        refine Wp.region (sP (iv i_64) hs fun _ hs => ?_)
        obtain ⟨hI, hS⟩ := hS
        refine sY (iv (i_64 - 1)) hs (Yl.eq (Yl.pure (v := Value.int .i64 (IntKind.wrap .i64 (i_64 - 1))) rfl (fun _ => by kernel_rfl)) (congrArg (Value.int .i64) (wrap_in hI))) fun _ hs => ?_
        refine sP (iv (i_64 - 1)) hs fun _ hs => ?_
        exact wpList_nil (⟨(i_64 - 1, x71.Empty, x71.Eats, x71.Fails), ⟨(hs.wk ⟨rfl, rfl, rfl, rfl, trivial⟩), hS.1⟩, hS.2⟩)
       ·have hS := hS.2 hc
        refine Wp.exit rfl (Wp.seq (Wp.region (sY (X_api_Facts.mk c65 c66 c67).val hs (Yl.lB (X_api_Facts.mk c65 c66 c67).cells true 0) fun _ hs => ?_)))
        refine stB 1 [(.bool c65), (.bool c66), (.bool c67)] [⟨b51, 202, [(.bool c65), (.bool c66), (.bool c67)]⟩, ⟨b11, 202, [(.bool c65), (.bool c66), (.bool c67)]⟩] hs fun _ _ hs => ?_
        exact wpList_nil (Wp.ret (lvE K hs (resC (vs := [(.bool c65), (.bool c66), (.bool c67)]) true 1 hs rfl rfl rfl (by kernel_rfl) rfl) hMM.2 hS))
      ·have hS := hS.2 hc
       refine Wp.seq (Wp.region (sP (.bool ((e7.Kind : Int) == (7 : Int))) hs fun _ hs => ?_))
       refine sP (.bool ((e7.Kind : Int) == (7 : Int))) hs fun _ hs => ?_
       refine wpList_nil (Wp.cond hs rfl rfl beq_iff_eq (fun hc => ?_) (fun hc => ?_))
       ·have hS := hS.1 hc
        refine Wp.seq (Wp.region (sP (Value.func (.func 158) #[] #[(pt b8 0), (pt b9 0), (pt b10 0)]) hs fun _ hs => ?_))
        obtain ⟨M72, hle, hat, hnew, hs⟩ := hs.freeze 3 rfl hEb8 rfl
        have hMM := hMM.next hle hnew
        have hS := hS M72 b8 hle hat
        obtain ⟨M73, hle, hat, hnew, hs⟩ := hs.freeze 2 rfl hEb9 rfl
        have hMM := hMM.next hle hnew
        have hS := hS M73 b9 hle hat
        obtain ⟨M74, hle, hat, hnew, hs⟩ := hs.freeze 1 rfl hEb10 rfl
        have hMM := hMM.next hle hnew
        have hS := hS M74 b10 hle hat
        refine stepCallP [(iv 0), (pt b8 0), (pt b9 0), (pt b10 0)] hs rfl ⟨_, rfl, rfl⟩ rfl Try.func158 rfl (by kernel_rfl) (by decide) hS (fun _ _ v hS hs => ?_)
        obtain ⟨x75, hv, hS⟩ := hS
        subst hv
        refine stepCallP [x75.val] hs rfl ⟨_, rfl, rfl⟩ rfl Try.func161 rfl (by kernel_rfl) (by decide) hS (fun _ _ v hS hs => ?_)
        obtain ⟨x76, hv, hS⟩ := hS
        subst hv
        refine stB 0 x76.cells [⟨b11, 202, x76.cells⟩] hs fun _ _ hs => ?_
        exact wpList_nil (Wp.ret (lvE K hs (resC (vs := x76.cells) true 0 hs rfl rfl rfl (by kernel_rfl) rfl) hMM.2 hS))
       ·have hS := hS.2 hc
        refine Wp.seq (Wp.region (sP (.bool ((e7.Kind : Int) == (8 : Int))) hs fun _ hs => ?_))
        refine sP (.bool ((e7.Kind : Int) == (8 : Int))) hs fun _ hs => ?_
        refine wpList_nil (Wp.cond hs rfl rfl beq_iff_eq (fun hc => ?_) (fun hc => ?_))
        ·have hS := hS.1 hc
         refine Wp.seq (Wp.region (sP (Value.func (.func 158) #[] #[(pt b8 0), (pt b9 0), (pt b10 0)]) hs fun _ hs => ?_))
         obtain ⟨M77, hle, hat, hnew, hs⟩ := hs.freeze 3 rfl hEb8 rfl
         have hMM := hMM.next hle hnew
         have hS := hS M77 b8 hle hat
         obtain ⟨M78, hle, hat, hnew, hs⟩ := hs.freeze 2 rfl hEb9 rfl
         have hMM := hMM.next hle hnew
         have hS := hS M78 b9 hle hat
         obtain ⟨M79, hle, hat, hnew, hs⟩ := hs.freeze 1 rfl hEb10 rfl
         have hMM := hMM.next hle hnew
         have hS := hS M79 b10 hle hat
         refine stepCallP [(iv 0), (pt b8 0), (pt b9 0), (pt b10 0)] hs rfl ⟨_, rfl, rfl⟩ rfl Try.func158 rfl (by kernel_rfl) (by decide) hS (fun _ _ v hS hs => ?_)
         obtain ⟨x80, hv, hS⟩ := hS
         subst hv
         refine sP (Value.func (.func 158) #[] #[(pt b8 0), (pt b9 0), (pt b10 0)]) hs fun _ hs => ?_
         refine stepCallP [(iv 0), (pt b8 0), (pt b9 0), (pt b10 0)] hs rfl ⟨_, rfl, rfl⟩ rfl Try.func158 rfl (by kernel_rfl) (by decide) hS (fun _ _ v hS hs => ?_)
         obtain ⟨x81, hv, hS⟩ := hS
         subst hv
         refine stepCallP [x81.val] hs rfl ⟨_, rfl, rfl⟩ rfl Try.func161 rfl (by kernel_rfl) (by decide) hS (fun _ _ v hS hs => ?_)
         obtain ⟨x82, hv, hS⟩ := hS
         subst hv
         refine stepCallP [x80.val, x82.val] hs rfl ⟨_, rfl, rfl⟩ rfl Try.func159 rfl (by kernel_rfl) (by decide) hS (fun _ _ v hS hs => ?_)
         obtain ⟨x83, hv, hS⟩ := hS
         subst hv
         refine stB 0 x83.cells [⟨b11, 202, x83.cells⟩] hs fun _ _ hs => ?_
         exact wpList_nil (Wp.ret (lvE K hs (resC (vs := x83.cells) true 0 hs rfl rfl rfl (by kernel_rfl) rfl) hMM.2 hS))
        ·have hS := hS.2 hc
         refine Wp.seq (Wp.region (sP (.bool ((e7.Kind : Int) == (9 : Int))) hs fun _ hs => ?_))
         refine sP (.bool ((e7.Kind : Int) == (9 : Int))) hs fun _ hs => ?_
         refine wpList_nil (Wp.cond hs rfl rfl beq_iff_eq (fun hc => ?_) (fun hc => ?_))
         ·have hS := hS.1 hc
          refine Wp.seq (Wp.region (sP (Value.func (.func 158) #[] #[(pt b8 0), (pt b9 0), (pt b10 0)]) hs fun _ hs => ?_))
          obtain ⟨M84, hle, hat, hnew, hs⟩ := hs.freeze 3 rfl hEb8 rfl
          have hMM := hMM.next hle hnew
          have hS := hS M84 b8 hle hat
          obtain ⟨M85, hle, hat, hnew, hs⟩ := hs.freeze 2 rfl hEb9 rfl
          have hMM := hMM.next hle hnew
          have hS := hS M85 b9 hle hat
          obtain ⟨M86, hle, hat, hnew, hs⟩ := hs.freeze 1 rfl hEb10 rfl
          have hMM := hMM.next hle hnew
          have hS := hS M86 b10 hle hat
          refine stepCallP [(iv 0), (pt b8 0), (pt b9 0), (pt b10 0)] hs rfl ⟨_, rfl, rfl⟩ rfl Try.func158 rfl (by kernel_rfl) (by decide) hS (fun _ _ v hS hs => ?_)
          obtain ⟨x87, hv, hS⟩ := hS
          subst hv
          refine sP (X_api_Facts.mk true false false).val hs fun _ hs => ?_
          refine stepCallP [x87.val, (X_api_Facts.mk true false false).val] hs rfl ⟨_, rfl, rfl⟩ rfl Try.func160 rfl (by kernel_rfl) (by decide) hS (fun _ _ v hS hs => ?_)
          obtain ⟨x88, hv, hS⟩ := hS
          subst hv
          refine stB 0 x88.cells [⟨b11, 202, x88.cells⟩] hs fun _ _ hs => ?_
          exact wpList_nil (Wp.ret (lvE K hs (resC (vs := x88.cells) true 0 hs rfl rfl rfl (by kernel_rfl) rfl) hMM.2 hS))
         ·have hS := hS.2 hc
          refine Wp.skip (Wp.seq (Wp.region (sP (Value.func (.func 158) #[] #[(pt b8 0), (pt b9 0), (pt b10 0)]) hs fun _ hs => ?_)))
          obtain ⟨M89, hle, hat, hnew, hs⟩ := hs.freeze 3 rfl hEb8 rfl
          have hMM := hMM.next hle hnew
          have hS := hS M89 b8 hle hat
          obtain ⟨M90, hle, hat, hnew, hs⟩ := hs.freeze 2 rfl hEb9 rfl
          have hMM := hMM.next hle hnew
          have hS := hS M90 b9 hle hat
          obtain ⟨M91, hle, hat, hnew, hs⟩ := hs.freeze 1 rfl hEb10 rfl
          have hMM := hMM.next hle hnew
          have hS := hS M91 b10 hle hat
          refine stepCallP [(iv 0), (pt b8 0), (pt b9 0), (pt b10 0)] hs rfl ⟨_, rfl, rfl⟩ rfl Try.func158 rfl (by kernel_rfl) (by decide) hS (fun _ _ v hS hs => ?_)
          obtain ⟨x92, hv, hS⟩ := hS
          subst hv
          refine stepAlloc [(.bool false), (.bool false), (.bool false)] hs (by kernel_rfl) (by decide) (fun _ _ b93 hEb93 hs => ?_)
          refine stB 0 x92.cells [⟨b93, 202, x92.cells⟩, ⟨b11, 202, [(.bool false), (.bool false), (.bool false)]⟩] hs fun _ _ hs => ?_
          refine wpList_nil (Wp.join (fun a w => ∃ (some94 : Bool), Sx 116 E [] M91 w a [(5, (pt b10 0)), (6, (pt b11 0)), (12, (pt b93 0)), (13, (.bool some94))] [⟨b93, 202, x92.cells⟩, ⟨b11, 202, [(.bool false), (.bool false), (.bool false)]⟩] [] ∧ (S_well_of_J1 b10 M91 x92 some94 K)) ?_ ?_)
          ·refine Wp.region (sP (pt b93 0) hs fun _ hs => ?_)
           refine sY (.bool x92.Empty) hs (Yl.lB [(.bool x92.Empty)] false 0) fun _ hs => ?_
           refine sP (.bool x92.Empty) hs fun _ hs => ?_
           refine bsplit x92.Empty Iff.rfl (fun hb hc => ?_) (fun hb hc => ?_)
           ·have hs := hs.bt hb
            have hS := hS.1 hc
            refine sNo hs fun _ hs => ?_
            refine sNo hs fun _ hs => ?_
            refine sP (.bool true) hs fun _ hs => ?_
            refine sP (.bool true) hs fun _ hs => ?_
            exact wpList_nil (⟨true, (hs.wk ⟨rfl, rfl, rfl, rfl, trivial⟩), hS⟩)
           ·have hs := hs.bf hb
            have hS := hS.2 hc
            refine sYe hs (sP (pt b93 1) hs fun _ hs => ?_)
            refine sYe hs (sY (.bool x92.Eats) hs (Yl.lB [(.bool x92.Eats)] false 0) fun _ hs => ?_)
            refine sP (.bool x92.Eats) hs fun _ hs => ?_
            refine sP (.bool x92.Eats) hs fun _ hs => ?_
            exact wpList_nil (⟨x92.Eats, (hs.wk ⟨rfl, rfl, rfl, rfl, trivial⟩), hS⟩)
          ·intro a w hJ
           obtain ⟨some94, hs, hS⟩ := hJ
           unfold S_well_of_J1 at hS
           refine Wp.seq (Wp.seq (Wp.region (sP (pt b10 0) hs fun _ hs => ?_)))
           obtain ⟨x95, hat, hS⟩ := hS
           refine sY (iv x95) hs (Yl.loadV (vs := [(iv x95)]) false rfl rfl (by kernel_rfl) hat) fun _ hs => ?_
           refine sP (.bool ((x95 : Int) == (10 : Int))) hs fun _ hs => ?_
           refine wpList_nil (Wp.cond hs rfl rfl beq_iff_eq (fun hc => ?_) (fun hc => ?_))
           ·have hS := hS.1 hc
            refine Wp.seq (Wp.region (sP (.bool some94) hs fun _ hs => ?_))
            refine sP (pt b93 2) hs fun _ hs => ?_
            refine sY (.bool x92.Fails) hs (Yl.lB [(.bool x92.Fails)] false 0) fun _ hs => ?_
            refine sP (X_api_Facts.mk some94 false x92.Fails).val hs fun _ hs => ?_
            refine stB 1 [(.bool some94), (.bool false), (.bool x92.Fails)] [⟨b93, 202, x92.cells⟩, ⟨b11, 202, [(.bool some94), (.bool false), (.bool x92.Fails)]⟩] hs fun _ _ hs => ?_
            exact wpList_nil (Wp.ret (lvE K hs (resC (vs := [(.bool some94), (.bool false), (.bool x92.Fails)]) true 1 hs rfl rfl rfl (by kernel_rfl) rfl) hMM.2 hS))
           ·have hS := hS.2 hc
            refine Wp.skip (Wp.seq (Wp.region (sP (pt b93 2) hs fun _ hs => ?_)))
            refine sY (.bool x92.Fails) hs (Yl.lB [(.bool x92.Fails)] false 0) fun _ hs => ?_
            refine sP (.bool some94) hs fun _ hs => ?_
            refine sP (X_api_Facts.mk x92.Fails false some94).val hs fun _ hs => ?_
            refine stB 1 [(.bool x92.Fails), (.bool false), (.bool some94)] [⟨b93, 202, x92.cells⟩, ⟨b11, 202, [(.bool x92.Fails), (.bool false), (.bool some94)]⟩] hs fun _ _ hs => ?_
            exact wpList_nil (Wp.ret (lvE K hs (resC (vs := [(.bool x92.Fails), (.bool false), (.bool some94)]) true 1 hs rfl rfl rfl (by kernel_rfl) rfl) hMM.2 hS))
def S_well_facts_1 (knowna1 : Option Addr) (knownl2 : Nat) (knownc3 : Nat) (i4 : Int) (b5 : Nat) (M : Mem) (K : Value → Prop) : Prop :=
 (∃ (xa7 : Option Addr) (xl8 : Nat) (xc9 : Nat), At M b5 0 [(.slice xa7 xl8 xc9)] ∧ (∃ (xa10 : Option Addr) (xl11 : Nat) (xc12 : Nat), At M b5 0 [(.slice xa10 xl11 xc12)] ∧ (∃ (b13 o14 : Nat), xa10 = some ⟨b13, o14, none⟩ ∧ (0 : Int) ≤ i4 ∧ i4 < ((xl11 : Nat) : Int) ∧ (∃ (x15 : X_api_Expr), At M b13 (o14 + i4.toNat * 8 + 1) x15.cells ∧ (CallE Try.prog 140 #[(.agg #[(.slice xa7 xl8 xc9)]), (.slice knowna1 knownl2 knownc3), x15.val] M (fun v _ => ∃ (x16 : X_api_Facts), v = x16.val ∧ K x16.val))))))
set_option maxRecDepth 100000 in
theorem s_well_facts_1 (knowna1 : Option Addr) (knownl2 : Nat) (knownc3 : Nat) (i4 : Int) (b5 : Nat) (M : Mem) (K : Value → Prop) (hS : S_well_facts_1 knowna1 knownl2 knownc3 i4 b5 M K) : CallE Try.prog 139 #[(Value.slice knowna1 knownl2 knownc3), (Value.int .i64 i4), (Value.pointer (some ⟨b5, 0, none⟩))] M (fun v _ => K v) := by
 refine enterE Try.func139 rfl 15 rfl (Nat.le_of_ble_eq_true rfl) (fun E a hs => ?_)
 unfold S_well_facts_1 at hS
 have hMM := MX.refl M E
 change Sx 15 E [] M E a [(0, (.slice knowna1 knownl2 knownc3)), (1, (iv i4)), (2, (pt b5 0))] [] [] at hs
 refine Wp.seq (Wp.region (stepAlloc [(.bool false), (.bool false), (.bool false)] hs (by kernel_rfl) (by decide) (fun _ _ b6 hEb6 hs => ?_)))
 refine wpList_nil (Wp.seq (Wp.regionD [true, true, true, true, true, true, true, true, true, false] hs (by kernel_rfl) rfl [⟨b6, 202, [(.bool false), (.bool false), (.bool false)]⟩] (fun _ h => h) [] (fun _ h => h) (fun _ hs hC => ?_)))
 have hL := Mem.le.refl M
 obtain ⟨xa7, xl8, xc9, hat, hS⟩ := hS
 refine stepDY (v := (.agg #[(.slice xa7 xl8 xc9)])) 0 [8, 9] hs hC QZ.no rfl (wanted_none rfl) rfl (by decide) (by kernel_rfl) (by kernel_rfl) (by kernel_rfl) (Yl.loadV (vs := [(.slice xa7 xl8 xc9)]) true rfl rfl (by kernel_rfl) hat) (fun _ hs => ?_)
 refine dP (Value.slice knowna1 knownl2 knownc3) 1 [8, 9] hs QZ.no (wanted_none rfl) fun _ hs => ?_
 refine dP (pt b5 0) 2 [3, 5, 6, 7, 8, 9] hs QZ.no (wanted_none rfl) fun _ hs => ?_
 obtain ⟨xa10, xl11, xc12, hat, hS⟩ := hS
 refine stepDY (v := (.slice xa10 xl11 xc12)) 3 [5, 6, 7, 8, 9] hs hC QZ.no rfl (wanted_none rfl) rfl (by decide) (by kernel_rfl) (by kernel_rfl) (by kernel_rfl) (Yl.loadV (vs := [(.slice xa10 xl11 xc12)]) false rfl rfl (by kernel_rfl) hat) (fun _ hs => ?_)
 refine sE 4 ?_
 refine sP (iv i4) hs fun _ hs => ?_
 refine wpList_nil (⟨fun _ h => h, ?_⟩)
 refine sE 5 ?_
 obtain ⟨b13, o14, ha, h0, hl, hS⟩ := hS
 refine sY (.pointer (some ⟨b13, o14 + i4.toNat * 8, none⟩)) hs (Yl.indexS (e := 111) (sz := 8) rfl rfl rfl rfl (by kernel_rfl) (by kernel_rfl) ha h0 hl) fun _ hs => ?_
 refine wpList_nil (⟨fun _ h => h, ?_⟩)
 refine sE 6 ?_
 refine sP (.pointer (some ⟨b13, o14 + i4.toNat * 8 + 1, none⟩)) hs fun _ hs => ?_
 refine wpList_nil (⟨fun _ h => h, ?_⟩)
 refine sE 7 ?_
 obtain ⟨x15, hat, hS⟩ := hS
 refine sY x15.val hs (Yl.loadV (vs := x15.cells) true rfl rfl (by kernel_rfl) hat) fun _ hs => ?_
 refine wpList_nil (⟨fun _ h => h, ?_⟩)
 refine sE 8 ?_
 refine stepCallP [(.agg #[(.slice xa7 xl8 xc9)]), (.slice knowna1 knownl2 knownc3), x15.val] hs rfl ⟨_, rfl, rfl⟩ rfl Try.func140 rfl (by kernel_rfl) (by decide) hS (fun _ _ v hS hs => ?_)
 obtain ⟨x16, hv, hS⟩ := hS
 subst hv
 refine wpList_nil (⟨fun _ _ => hs.cxle hL (List.Sublist.refl _) (List.Sublist.refl _), ?_⟩)
 have hC := hs.cxle hL (List.Sublist.refl _) (List.Sublist.refl _)
 refine sE 9 ?_
 refine stB 0 x16.cells [⟨b6, 202, x16.cells⟩] hs fun _ _ hs => ?_
 refine wpList_nil (⟨fun h => absurd h (by decide), ?_⟩)
 refine WpD.done (by kernel_rfl) ?_ _
 exact Wp.ret (lvE K hs (resC (vs := x16.cells) true 0 hs rfl rfl rfl (by kernel_rfl) rfl) hMM.2 hS)
theorem f_well_facts_1 (knowna1 : Option Addr) (knownl2 : Nat) (knownc3 : Nat) (i4 : Int) (b5 : Nat) (M : Mem) (K : Value → Prop) (hS : S_well_facts_1 knowna1 knownl2 knownc3 i4 b5 M K) : CallF Try.prog (Value.func (.func 139) #[] #[(Value.pointer (some ⟨b5, 0, none⟩))]) [(Value.slice knowna1 knownl2 knownc3), (Value.int .i64 i4)] M (fun v _ => K v) := ⟨139, _, _, _, rfl, Try.func139, rfl, (by decide), s_well_facts_1 _ _ _ _ _ _ _ hS⟩
def S_well_grow_Facts_J1 (more136 : Bool) (x137 : Int) (G141 : Type) (gh142 : G141) (I139 : G141 → Bool → Int → Mem → Prop) (mu140 : G141 → Bool → Int → Nat) (more153 : Bool) (M154 : Mem) (K : Value → Mem → Prop) : Prop :=
 (InI (x137 + 1) ∧ ∃ (gh : G141), I139 gh more153 (x137 + 1) M154 ∧ mu140 gh more153 (x137 + 1) < mu140 gh142 more136 x137)
def S_well_grow_Facts (n1 : Int) (next2 : Value) (M : Mem) (L : Nat → Prop) (K : Value → Mem → Prop) : Prop :=
 ((0 : Int) ≤ n1 ∧ (n1 : Int) ≤ n1 ∧ n1.toNat * 3 ≤ 140737488355328 ∧ (∀ (M6 : Mem) (ad4 : Option Addr) (cap5 : Nat), NewRow M M6 202 3 ad4 n1.toNat cap5 (repl n1.toNat [(.bool false), (.bool false), (.bool false)]) → (∃ (G106 : Type) (I104 : G106 → Bool → Mem → Prop) (mu105 : G106 → Bool → Nat) (gz108 : G106), I104 gz108 true M6 ∧ ∀ (gh107 : G106) (more102 : Bool) (M103 : Mem), (I104 gh107 more102 M103 → ((more102 = true → (∃ (G141 : Type) (I139 : G141 → Bool → Int → Mem → Prop) (mu140 : G141 → Bool → Int → Nat) (gz143 : G141), I139 gz143 false 0 M103 ∧ ∀ (gh142 : G141) (more136 : Bool) (x137 : Int) (M138 : Mem), (I139 gh142 more136 x137 M138 → ((x137 < ((n1.toNat : Nat) : Int) → (CallFW Try.prog next2 [(.slice ad4 n1.toNat cap5), (.int .i64 x137)] M138 (Wr L M) (fun v M145 => ∃ (x144 : X_api_Facts), v = x144.val ∧ (∃ (b147 o148 : Nat), ad4 = some ⟨b147, o148, none⟩ ∧ (0 : Int) ≤ x137 ∧ x137 < ((n1.toNat : Nat) : Int) ∧ (∃ (x149 : X_api_Facts), At M145 b147 (o148 + x137.toNat * 3) x149.cells ∧ ((¬ ((x144.Empty = x149.Empty) ∧ ((x144.Eats = x149.Eats) ∧ (x144.Fails = x149.Fails))) → (∃ (b150 o151 : Nat), ad4 = some ⟨b150, o151, none⟩ ∧ (0 : Int) ≤ x137 ∧ x137 < ((n1.toNat : Nat) : Int) ∧ (Has M145 b150 (o151 + x137.toNat * 3) 3 ∧ Wr L M b150 ∧ ∀ (M152 : Mem), M152 = M145.put b150 (o151 + x137.toNat * 3) x144.cells → (S_well_grow_Facts_J1 more136 x137 G141 gh142 I139 mu140 true M152 K)))) ∧ (¬ (¬ ((x144.Empty = x149.Empty) ∧ ((x144.Eats = x149.Eats) ∧ (x144.Fails = x149.Fails)))) → (S_well_grow_Facts_J1 more136 x137 G141 gh142 I139 mu140 more136 M145 K)))))))) ∧ (¬ (x137 < ((n1.toNat : Nat) : Int)) → ∃ (gh : G106), I104 gh more136 M138 ∧ mu105 gh more136 < mu105 gh107 more102))))) ∧ (¬ (more102 = true) → (∀ M', M103.le M' → K (Value.slice ad4 n1.toNat cap5) M')))))))
set_option maxRecDepth 100000 in
theorem s_well_grow_Facts (n1 : Int) (next2 : Value) (M : Mem) (L : Nat → Prop) (K : Value → Mem → Prop) (hS : S_well_grow_Facts n1 next2 M L K) : CallW Try.prog 138 #[(Value.int .i64 n1), next2] M L K := by
 refine enterW Try.func138 rfl 33 rfl (Nat.le_of_ble_eq_true rfl) (fun E a hs => ?_)
 unfold S_well_grow_Facts at hS
 have hMM := WX.refl M E
 change Sx 33 E (bwW E M L) M E a [(0, (iv n1)), (1, next2)] [] [] at hs
 refine Wp.seq (Wp.region (sP (.slice none 0 0) hs fun _ hs => ?_))
 refine wpList_nil (Wp.seq (Wp.region (sP (iv n1) hs fun _ hs => ?_)))
 obtain ⟨h0, h1, hB, hS⟩ := hS
 refine stepMakeN (e := 202) (size := 3) (bytes := 3) [(.bool false), (.bool false), (.bool false)] hs rfl rfl rfl rfl (by kernel_rfl) (by kernel_rfl) rfl (by decide) (by decide) h0 h1 hB (fun _ _ rv3 hs => ?_)
 refine sP rv3 hs fun _ hs => ?_
 refine wpList_nil (Wp.seq (Wp.seq (Wp.region (sP (.bool true) hs fun _ hs => ?_))))
 refine wpList_nil (Wp.block ?_)
 obtain ⟨ad4, cap5, hv, hcp, hxl⟩ := hs.rowform 0 rfl
 dsimp only at hv hcp hxl
 subst hv
 obtain ⟨M6, hnr, hMM, hs⟩ := hs.releaseW hMM 0 rfl [] rfl
 have hS := hS M6 ad4 cap5 hnr
 obtain ⟨G106, I104, mu105, gz108, hI0, hst⟩ := hS
 refine Wp.loop (σ := G106 × (Bool) × (Mem)) (fun s a w => match s with | (gh107, more102, M103) => WX M103 M E ∧ Sx 33 E (bwW E M L) M103 w a [(1, next2), (5, (.slice ad4 n1.toNat cap5)), (6, (.bool more102))] [] [] ∧ I104 gh107 more102 M103) (fun s => match s with | (gh107, more102, M103) => mu105 gh107 more102) (gz108, true, M6) ⟨hMM, (hs.wk ⟨rfl, rfl, rfl, trivial⟩), hI0⟩ (fun s a w hI => ?_)
 obtain ⟨gh107, more102, M103⟩ := s
 obtain ⟨hMM, hs, hI⟩ := hI
 have hS := hst gh107 more102 M103 hI
 clear hst hI0 hI
 refine Wp.seq (Wp.seq (Wp.region (sP (.bool more102) hs fun _ hs => ?_)))
 refine wpList_nil (Wp.cond hs rfl rfl Iff.rfl (fun hc => ?_) (fun hc => ?_))
 ·have hS := hS.1 hc
  refine Wp.skip (Wp.block (Wp.seq (Wp.region (sP (.bool false) hs fun _ hs => ?_))))
  refine wpList_nil (Wp.seq (Wp.region (sP (.slice ad4 n1.toNat cap5) hs fun _ hs => ?_)))
  refine sP (iv ((n1.toNat : Nat) : Int)) hs fun _ hs => ?_
  refine sP (iv 0) hs fun _ hs => ?_
  refine wpList_nil (Wp.block ?_)
  obtain ⟨G141, I139, mu140, gz143, hI0, hst⟩ := hS
  refine Wp.loop (σ := G141 × (Bool) × (Int) × (Mem)) (fun s a w => match s with | (gh142, more136, x137, M138) => WX M138 M E ∧ Sx 33 E (bwW E M L) M138 w a [(1, next2), (5, (.slice ad4 n1.toNat cap5)), (6, (.bool more136)), (13, (iv ((n1.toNat : Nat) : Int))), (14, (iv x137))] [] [] ∧ I139 gh142 more136 x137 M138) (fun s => match s with | (gh142, more136, x137, M138) => mu140 gh142 more136 x137) (gz143, false, 0, M103) ⟨hMM, (hs.wk ⟨rfl, rfl, rfl, rfl, rfl, trivial⟩), hI0⟩ (fun s a w hI => ?_)
  obtain ⟨gh142, more136, x137, M138⟩ := s
  obtain ⟨hMM, hs, hI⟩ := hI
  have hS := hst gh142 more136 x137 M138 hI
  clear hst hI0 hI
  refine Wp.seq (Wp.region (sP (.bool (decide (x137 < ((n1.toNat : Nat) : Int)))) hs fun _ hs => ?_))
  refine wpList_nil (Wp.seq (Wp.cond hs rfl rfl decide_eq_true_iff (fun hc => ?_) (fun hc => ?_)))
  ·have hS := hS.1 hc
   refine Wp.skip (Wp.join (fun a w => ∃ (more153 : Bool) (M154 : Mem), WX M154 M E ∧ Sx 33 E (bwW E M L) M154 w a [(1, next2), (5, (.slice ad4 n1.toNat cap5)), (6, (.bool more153)), (13, (iv ((n1.toNat : Nat) : Int))), (14, (iv x137))] [] [] ∧ (S_well_grow_Facts_J1 more136 x137 G141 gh142 I139 mu140 more153 M154 K)) ?_ ?_)
   ·refine Wp.block (Wp.seq (Wp.region (sP (iv x137) hs fun _ hs => ?_)))
    refine sP (iv x137) hs fun _ hs => ?_
    refine wpList_nil (Wp.seq (Wp.region (sP next2 hs fun _ hs => ?_)))
    refine sP (.slice ad4 n1.toNat cap5) hs fun _ hs => ?_
    refine sP (iv x137) hs fun _ hs => ?_
    refine stepCallFW [(.slice ad4 n1.toNat cap5), (iv x137)] hs hMM rfl ⟨_, rfl, rfl⟩ rfl (by decide) hS (fun _ _ M145 v hMM hS hs => ?_)
    obtain ⟨x144, hv, hS⟩ := hS
    subst hv
    refine stepAlloc [(.bool false), (.bool false), (.bool false)] hs (by kernel_rfl) (by decide) (fun _ _ b146 hEb146 hs => ?_)
    refine stB 0 x144.cells [⟨b146, 202, x144.cells⟩] hs fun _ _ hs => ?_
    refine wpList_nil (Wp.seq (Wp.regionD [true, true, true, true, true, true] hs (by kernel_rfl) rfl [⟨b146, 202, x144.cells⟩] (fun _ h => h) [] (fun _ h => h) (fun _ hs hC => ?_)))
    have hL := Mem.le.refl M145
    refine stepDY (v := x144.val) 0 [5] hs hC QZ.no rfl (wanted_none rfl) rfl (by decide) (by kernel_rfl) (by kernel_rfl) (by kernel_rfl) (Yl.lB x144.cells true 0) (fun _ hs => ?_)
    refine dP (Value.slice ad4 n1.toNat cap5) 1 [3, 4, 5] hs QZ.no (wanted_none rfl) fun _ hs => ?_
    refine sE 2 ?_
    refine sP (iv x137) hs fun _ hs => ?_
    refine wpList_nil (⟨fun _ h => h, ?_⟩)
    refine sE 3 ?_
    obtain ⟨b147, o148, ha, h0, hl, hS⟩ := hS
    refine sY (.pointer (some ⟨b147, o148 + x137.toNat * 3, none⟩)) hs (Yl.indexS (e := 202) (sz := 3) rfl rfl rfl rfl (by kernel_rfl) (by kernel_rfl) ha h0 hl) fun _ hs => ?_
    refine wpList_nil (⟨fun _ h => h, ?_⟩)
    refine sE 4 ?_
    obtain ⟨x149, hat, hS⟩ := hS
    refine sY x149.val hs (Yl.loadV (vs := x149.cells) true rfl rfl (by kernel_rfl) hat) fun _ hs => ?_
    refine wpList_nil (⟨fun _ h => h, ?_⟩)
    refine sE 5 ?_
    refine sY (.bool (!((x144.Empty == x149.Empty) && ((x144.Eats == x149.Eats) && (x144.Fails == x149.Fails))))) hs (Yl.neqC (b := ((x144.Empty == x149.Empty) && ((x144.Eats == x149.Eats) && (x144.Fails == x149.Fails)))) x144.cells x149.cells rfl (by kernel_rfl) (by kernel_rfl) rfl rfl (by kernel_rfl)) fun _ hs => ?_
    refine wpList_nil (⟨fun _ h => h, ?_⟩)
    refine WpD.done (by kernel_rfl) ?_ _
    refine Wp.cond hs rfl rfl (bnot_iff (band_iff beq_iff_eq (band_iff beq_iff_eq beq_iff_eq))) (fun hc => ?_) (fun hc => ?_)
    ·have hS := hS.1 hc
     refine Wp.region (sP (.slice ad4 n1.toNat cap5) hs fun _ hs => ?_)
     refine sP (iv x137) hs fun _ hs => ?_
     refine sY x144.val hs (Yl.lB x144.cells true 0) fun _ hs => ?_
     obtain ⟨b150, o151, ha, h0, hl, hS⟩ := hS
     refine sY (.pointer (some ⟨b150, o151 + x137.toNat * 3, none⟩)) hs (Yl.indexS (e := 202) (sz := 3) rfl rfl rfl rfl (by kernel_rfl) (by kernel_rfl) ha h0 hl) fun _ hs => ?_
     obtain ⟨hhas, hwr, hS⟩ := hS
     refine stepStoreW (vs := x144.cells) hs hMM rfl rfl rfl rfl rfl (by kernel_rfl) rfl hhas hwr (fun _ _ M152 hM2 hMM hs => ?_)
     have hS := hS M152 hM2
     refine sP (.bool true) hs fun _ hs => ?_
     exact wpList_nil (⟨true, M152, hMM, (hs.weak (.cons _ List.Sublist.slnil) (List.Sublist.refl _) ⟨rfl, rfl, rfl, rfl, rfl, trivial⟩), hS⟩)
    ·have hS := hS.2 hc
     exact Wp.skip (⟨more136, M145, hMM, (hs.weak (.cons _ List.Sublist.slnil) (List.Sublist.refl _) ⟨rfl, rfl, rfl, rfl, rfl, trivial⟩), hS⟩)
   ·intro a w hJ
    obtain ⟨more153, M154, hMM, hs, hS⟩ := hJ
    unfold S_well_grow_Facts_J1 at hS
    refine Wp.region ?_
    obtain ⟨hI, hS⟩ := hS
    refine sY (iv (x137 + 1)) hs (Yl.eq (Yl.pure (v := Value.int .i64 (IntKind.wrap .i64 (x137 + 1))) rfl (fun _ => by kernel_rfl)) (congrArg (Value.int .i64) (wrap_in hI))) fun _ hs => ?_
    refine sP (iv (x137 + 1)) hs fun _ hs => ?_
    refine wpList_nil ?_
    obtain ⟨gh, hI1, hI2⟩ := hS
    exact ⟨(gh, more153, x137 + 1, M154), ⟨hMM, (hs.wk ⟨rfl, rfl, rfl, rfl, rfl, trivial⟩), hI1⟩, hI2⟩
  ·have hS := hS.2 hc
   refine Wp.exit rfl ?_
   obtain ⟨gh, hI1, hI2⟩ := hS
   exact ⟨(gh, more136, M138), ⟨hMM, (hs.wk ⟨rfl, rfl, rfl, trivial⟩), hI1⟩, hI2⟩
 ·have hS := hS.2 hc
  refine Wp.exit rfl (Wp.seq (Wp.region (sP (.slice ad4 n1.toNat cap5) hs fun _ hs => ?_)))
  refine sP (.slice ad4 n1.toNat cap5) hs fun _ hs => ?_
  exact wpList_nil (Wp.ret (leaveW (K := K) hs (resT hs rfl rfl) hMM hS))
theorem e_well_grow_Facts (n1 : Int) (next2 : Value) (M : Mem) (K : Value → Mem → Prop) (hS : S_well_grow_Facts n1 next2 M (fun _ => False) K) : CallE Try.prog 138 #[(Value.int .i64 n1), next2] M K := (s_well_grow_Facts _ _ _ _ _ hS).toE
def S_well_facts (ga1 : Option Addr) (gl2 : Nat) (gc3 : Nat) (M : Mem) (K : Value → Mem → Prop) : Prop :=
 (∀ (M5 : Mem) (b4 : Nat), M.le M5 → At M5 b4 0 [(.slice ga1 gl2 gc3)] → (CallE Try.prog 138 #[(.int .i64 ((gl2 : Nat) : Int)), (Value.func (.func 139) #[] #[(.pointer (some ⟨b4, 0, none⟩))])] M5 (fun v M9 => ∃ (xa6 : Option Addr) (xl7 : Nat) (xc8 : Nat), v = (Value.slice xa6 xl7 xc8) ∧ (∀ M', M9.le M' → K (Value.slice xa6 xl7 xc8) M'))))
set_option maxRecDepth 100000 in
theorem s_well_facts (ga1 : Option Addr) (gl2 : Nat) (gc3 : Nat) (M : Mem) (K : Value → Mem → Prop) (hS : S_well_facts ga1 gl2 gc3 M K) : CallE Try.prog 103 #[(Value.agg #[(Value.slice ga1 gl2 gc3)])] M K := by
 refine enterE Try.func103 rfl 8 rfl (Nat.le_of_ble_eq_true rfl) (fun E a hs => ?_)
 unfold S_well_facts at hS
 have hMM := MX.refl M E
 change Sx 8 E [] M E a [(0, (.agg #[(.slice ga1 gl2 gc3)]))] [] [] at hs
 refine Wp.seq (Wp.region (stepBox [(.slice ga1 gl2 gc3)] hs rfl rfl rfl (by decide) (fun _ _ b4 hEb4 hs => ?_)))
 refine sP (.slice none 0 0) hs fun _ hs => ?_
 refine wpList_nil (Wp.seq (Wp.region (sP (pt b4 0) hs fun _ hs => ?_)))
 refine sY (.slice ga1 gl2 gc3) hs (Yl.lB [(.slice ga1 gl2 gc3)] false 0) fun _ hs => ?_
 refine sP (iv ((gl2 : Nat) : Int)) hs fun _ hs => ?_
 refine sP (Value.func (.func 139) #[] #[(pt b4 0)]) hs fun _ hs => ?_
 obtain ⟨M5, hle, hat, hnew, hs⟩ := hs.freeze 0 rfl hEb4 rfl
 have hMM := hMM.next hle hnew
 have hS := hS M5 b4 hle hat
 refine stepCallE [(iv ((gl2 : Nat) : Int)), (Value.func (.func 139) #[] #[(pt b4 0)])] hs rfl ⟨_, rfl, rfl⟩ rfl Try.func138 rfl (by kernel_rfl) (by decide) hS (fun _ _ M9 v hle hnew hS hs => ?_)
 have hMM := hMM.next hle hnew
 obtain ⟨xa6, xl7, xc8, hv, hS⟩ := hS
 subst hv
 refine sP (.slice xa6 xl7 xc8) hs fun _ hs => ?_
 exact wpList_nil (Wp.ret (leaveE (K := K) hs (resT hs rfl rfl) hMM.2 hS))
def S_well_loops_J1 (ga1 : Option Addr) (gl2 : Nat) (gc3 : Nat) (fa4 : Option Addr) (fl5 : Nat) (fc6 : Nat) (e7 : X_api_Expr) (M : Mem) (x14 : Bool) (K : Value → Prop) : Prop :=
 ((x14 = true → K (Value.bool true)) ∧ (¬ (x14 = true) → (∃ (I22 : Int → Prop) (mu23 : Int → Nat), I22 0 ∧ ∀ (x21 : Int), (I22 x21 → ((x21 < ((e7.Kids_l : Nat) : Int) → (∃ (b24 o25 : Nat), e7.Kids_a = some ⟨b24, o25, none⟩ ∧ (0 : Int) ≤ x21 ∧ x21 < ((e7.Kids_l : Nat) : Int) ∧ (∃ (x26 : X_api_Expr), At M b24 (o25 + x21.toNat * 7) x26.cells ∧ (CallE Try.prog 104 #[(.agg #[(.slice ga1 gl2 gc3)]), (.slice fa4 fl5 fc6), x26.val] M (fun v _ => ∃ (x28 : Bool), v = (Value.bool x28) ∧ ((x28 = true → K (Value.bool true)) ∧ (¬ (x28 = true) → (InI (x21 + 1) ∧ I22 (x21 + 1) ∧ mu23 (x21 + 1) < mu23 x21)))))))) ∧ (¬ (x21 < ((e7.Kids_l : Nat) : Int)) → K (Value.bool false)))))))
def S_well_loops (ga1 : Option Addr) (gl2 : Nat) (gc3 : Nat) (fa4 : Option Addr) (fl5 : Nat) (fc6 : Nat) (e7 : X_api_Expr) (M : Mem) (K : Value → Prop) : Prop :=
 (((e7.Kind : Int) = 7 → (∃ (b10 o11 : Nat), e7.Kids_a = some ⟨b10, o11, none⟩ ∧ (0 : Int) ≤ 0 ∧ 0 < ((e7.Kids_l : Nat) : Int) ∧ (∃ (x12 : X_api_Expr), At M b10 (o11 + (0 : Int).toNat * 7) x12.cells ∧ (CallE Try.prog 140 #[(.agg #[(.slice ga1 gl2 gc3)]), (.slice fa4 fl5 fc6), x12.val] M (fun v _ => ∃ (x13 : X_api_Facts), v = x13.val ∧ (S_well_loops_J1 ga1 gl2 gc3 fa4 fl5 fc6 e7 M x13.Empty K)))))) ∧ (¬ ((e7.Kind : Int) = 7) → (((e7.Kind : Int) = 8 → (∃ (b10 o11 : Nat), e7.Kids_a = some ⟨b10, o11, none⟩ ∧ (0 : Int) ≤ 0 ∧ 0 < ((e7.Kids_l : Nat) : Int) ∧ (∃ (x12 : X_api_Expr), At M b10 (o11 + (0 : Int).toNat * 7) x12.cells ∧ (CallE Try.prog 140 #[(.agg #[(.slice ga1 gl2 gc3)]), (.slice fa4 fl5 fc6), x12.val] M (fun v _ => ∃ (x13 : X_api_Facts), v = x13.val ∧ (S_well_loops_J1 ga1 gl2 gc3 fa4 fl5 fc6 e7 M x13.Empty K)))))) ∧ (¬ ((e7.Kind : Int) = 8) → (S_well_loops_J1 ga1 gl2 gc3 fa4 fl5 fc6 e7 M false K)))))
set_option maxRecDepth 100000 in
theorem s_well_loops (ga1 : Option Addr) (gl2 : Nat) (gc3 : Nat) (fa4 : Option Addr) (fl5 : Nat) (fc6 : Nat) (e7 : X_api_Expr) (M : Mem) (K : Value → Prop) (hS : S_well_loops ga1 gl2 gc3 fa4 fl5 fc6 e7 M K) : CallE Try.prog 104 #[(Value.agg #[(Value.slice ga1 gl2 gc3)]), (Value.slice fa4 fl5 fc6), e7.val] M (fun v _ => K v) := by
 refine enterE Try.func104 rfl 39 rfl (Nat.le_of_ble_eq_true rfl) (fun E a hs => ?_)
 unfold S_well_loops at hS
 have hMM := MX.refl M E
 change Sx 39 E [] M E a [(0, (.agg #[(.slice ga1 gl2 gc3)])), (1, (.slice fa4 fl5 fc6)), (2, e7.val)] [] [] at hs
 refine Wp.seq (Wp.region (stepBox [(.slice ga1 gl2 gc3)] hs rfl rfl rfl (by decide) (fun _ _ b8 hEb8 hs => ?_)))
 refine stepBox e7.cells hs rfl rfl rfl (by decide) (fun _ _ b9 hEb9 hs => ?_)
 refine sP (.bool false) hs fun _ hs => ?_
 refine wpList_nil (Wp.seq (Wp.join (fun a w => ∃ (x14 : Bool), Sx 39 E [] M w a [(1, (.slice fa4 fl5 fc6)), (3, (pt b8 0)), (5, (pt b9 0)), (26, (.bool x14))] [⟨b9, 109, e7.cells⟩, ⟨b8, 24, [(.slice ga1 gl2 gc3)]⟩] [] ∧ (S_well_loops_J1 ga1 gl2 gc3 fa4 fl5 fc6 e7 M x14 K)) ?_ ?_))
 ·refine Wp.regionD [true, true, true, true, true, true, true, true, true, true, true, true, true, true, true, true, true, true] hs (by kernel_rfl) rfl [⟨b9, 109, e7.cells⟩, ⟨b8, 24, [(.slice ga1 gl2 gc3)]⟩] (fun _ h => h) [] (fun _ h => h) (fun _ hs hC => ?_)
  have hL := Mem.le.refl M
  refine sE 0 ?_
  refine sP (pt b9 0) hs fun _ hs => ?_
  refine wpList_nil (⟨fun _ h => h, ?_⟩)
  refine sE 1 ?_
  refine sY (iv e7.Kind) hs (Yl.lB [(iv e7.Kind)] false 0) fun _ hs => ?_
  refine wpList_nil (⟨fun _ h => h, ?_⟩)
  refine sE 2 ?_
  refine sP (.bool ((e7.Kind : Int) == (7 : Int))) hs fun _ hs => ?_
  refine wpList_nil (⟨fun _ h => h, ?_⟩)
  refine sE 3 ?_
  refine sP (.bool ((e7.Kind : Int) == (7 : Int))) hs fun _ hs => ?_
  refine wpList_nil (⟨fun _ h => h, ?_⟩)
  refine bsplit ((e7.Kind : Int) == (7 : Int)) beq_iff_eq (fun hb hc => ?_) (fun hb hc => ?_)
  ·have hs := hs.bt hb
   have hS := hS.1 hc
   refine dN 4 [5, 6, 7, 8, 9, 10, 11, 12, 13, 14, 15, 16, 17] hs QZ.no (wanted_no hs rfl rfl rfl rfl) fun _ hs => ?_
   refine dN 5 [6, 7, 8, 9, 10, 11, 12, 13, 14, 15, 16, 17] hs QZ.no (wanted_no hs rfl rfl rfl rfl) fun _ hs => ?_
   refine dN 6 [7, 8, 9, 10, 11, 12, 13, 14, 15, 16, 17] hs QZ.no (wanted_no hs rfl rfl rfl rfl) fun _ hs => ?_
   refine sE 7 ?_
   refine sP (.bool true) hs fun _ hs => ?_
   refine wpList_nil (⟨fun _ h => h, ?_⟩)
   refine sE 8 ?_
   refine sP (.bool true) hs fun _ hs => ?_
   refine wpList_nil (⟨fun _ h => h, ?_⟩)
   refine stepDY (v := (.agg #[(.slice ga1 gl2 gc3)])) 9 [15, 16, 17] hs hC QZ.no rfl (wanted_yes hs rfl rfl rfl) rfl (by decide) (by kernel_rfl) (by kernel_rfl) (by kernel_rfl) (Yl.lB [(.slice ga1 gl2 gc3)] true 1) (fun _ hs => ?_)
   refine dP (Value.slice fa4 fl5 fc6) 10 [15, 16, 17] hs QZ.no (wanted_yes hs rfl rfl rfl) fun _ hs => ?_
   refine stepDE 11 rfl (wanted_yes hs rfl rfl rfl) (by kernel_rfl) #[] ?_
   refine sP (pt b9 6) hs fun _ hs => ?_
   refine wpList_nil (⟨fun _ h => h, ?_⟩)
   refine stepDE 12 rfl (wanted_yes hs rfl rfl rfl) (by kernel_rfl) #[] ?_
   refine sY (.slice e7.Kids_a e7.Kids_l e7.Kids_c) hs (Yl.lB [(.slice e7.Kids_a e7.Kids_l e7.Kids_c)] false 0) fun _ hs => ?_
   refine wpList_nil (⟨fun _ h => h, ?_⟩)
   refine stepDE 13 rfl (wanted_yes hs rfl rfl rfl) (by kernel_rfl) #[] ?_
   obtain ⟨b10, o11, ha, h0, hl, hS⟩ := hS
   refine sY (.pointer (some ⟨b10, o11 + (0 : Int).toNat * 7, none⟩)) hs (Yl.indexS (e := 109) (sz := 7) rfl rfl rfl rfl (by kernel_rfl) (by kernel_rfl) ha h0 hl) fun _ hs => ?_
   refine wpList_nil (⟨fun _ h => h, ?_⟩)
   refine stepDE 14 rfl (wanted_yes hs rfl rfl rfl) (by kernel_rfl) #[] ?_
   obtain ⟨x12, hat, hS⟩ := hS
   refine sY x12.val hs (Yl.loadV (vs := x12.cells) true rfl rfl (by kernel_rfl) hat) fun _ hs => ?_
   refine wpList_nil (⟨fun _ h => h, ?_⟩)
   refine stepDE 15 rfl (wanted_yes hs rfl rfl rfl) (by kernel_rfl) #[] ?_
   refine stepCallP [(.agg #[(.slice ga1 gl2 gc3)]), (.slice fa4 fl5 fc6), x12.val] hs rfl ⟨_, rfl, rfl⟩ rfl Try.func140 rfl (by kernel_rfl) (by decide) hS (fun _ _ v hS hs => ?_)
   obtain ⟨x13, hv, hS⟩ := hS
   subst hv
   refine wpList_nil (⟨fun _ _ => hs.cxle hL (List.Sublist.refl _) (List.Sublist.refl _), ?_⟩)
   have hC := hs.cxle hL (List.Sublist.refl _) (List.Sublist.refl _)
   refine stepDE 16 rfl (wanted_yes hs rfl rfl rfl) (by kernel_rfl) #[] ?_
   refine sP (.bool x13.Empty) hs fun _ hs => ?_
   refine wpList_nil (⟨fun _ h => h, ?_⟩)
   refine sE 17 ?_
   refine sP (.bool x13.Empty) hs fun _ hs => ?_
   refine wpList_nil (⟨fun _ h => h, ?_⟩)
   refine WpD.done (by kernel_rfl) ?_ _
   exact ⟨x13.Empty, (hs.wk ⟨rfl, rfl, rfl, rfl, trivial⟩), hS⟩
  ·have hs := hs.bf hb
   have hS := hS.2 hc
   refine stepDE 4 rfl (wanted_yes hs rfl rfl rfl) (by kernel_rfl) #[] ?_
   refine sP (pt b9 0) hs fun _ hs => ?_
   refine wpList_nil (⟨fun _ h => h, ?_⟩)
   refine stepDE 5 rfl (wanted_yes hs rfl rfl rfl) (by kernel_rfl) #[] ?_
   refine sY (iv e7.Kind) hs (Yl.lB [(iv e7.Kind)] false 0) fun _ hs => ?_
   refine wpList_nil (⟨fun _ h => h, ?_⟩)
   refine stepDE 6 rfl (wanted_yes hs rfl rfl rfl) (by kernel_rfl) #[] ?_
   refine sP (.bool ((e7.Kind : Int) == (8 : Int))) hs fun _ hs => ?_
   refine wpList_nil (⟨fun _ h => h, ?_⟩)
   refine sE 7 ?_
   refine sP (.bool ((e7.Kind : Int) == (8 : Int))) hs fun _ hs => ?_
   refine wpList_nil (⟨fun _ h => h, ?_⟩)
   refine sE 8 ?_
   refine sP (.bool ((e7.Kind : Int) == (8 : Int))) hs fun _ hs => ?_
   refine wpList_nil (⟨fun _ h => h, ?_⟩)
   refine bsplit ((e7.Kind : Int) == (8 : Int)) beq_iff_eq (fun hb hc => ?_) (fun hb hc => ?_)
   ·have hs := hs.bt hb
    have hS := hS.1 hc
    refine stepDY (v := (.agg #[(.slice ga1 gl2 gc3)])) 9 [15, 16, 17] hs hC QZ.no rfl (wanted_yes hs rfl rfl rfl) rfl (by decide) (by kernel_rfl) (by kernel_rfl) (by kernel_rfl) (Yl.lB [(.slice ga1 gl2 gc3)] true 1) (fun _ hs => ?_)
    refine dP (Value.slice fa4 fl5 fc6) 10 [15, 16, 17] hs QZ.no (wanted_yes hs rfl rfl rfl) fun _ hs => ?_
    refine stepDE 11 rfl (wanted_yes hs rfl rfl rfl) (by kernel_rfl) #[] ?_
    refine sP (pt b9 6) hs fun _ hs => ?_
    refine wpList_nil (⟨fun _ h => h, ?_⟩)
    refine stepDE 12 rfl (wanted_yes hs rfl rfl rfl) (by kernel_rfl) #[] ?_
    refine sY (.slice e7.Kids_a e7.Kids_l e7.Kids_c) hs (Yl.lB [(.slice e7.Kids_a e7.Kids_l e7.Kids_c)] false 0) fun _ hs => ?_
    refine wpList_nil (⟨fun _ h => h, ?_⟩)
    refine stepDE 13 rfl (wanted_yes hs rfl rfl rfl) (by kernel_rfl) #[] ?_
    obtain ⟨b10, o11, ha, h0, hl, hS⟩ := hS
    refine sY (.pointer (some ⟨b10, o11 + (0 : Int).toNat * 7, none⟩)) hs (Yl.indexS (e := 109) (sz := 7) rfl rfl rfl rfl (by kernel_rfl) (by kernel_rfl) ha h0 hl) fun _ hs => ?_
    refine wpList_nil (⟨fun _ h => h, ?_⟩)
    refine stepDE 14 rfl (wanted_yes hs rfl rfl rfl) (by kernel_rfl) #[] ?_
    obtain ⟨x12, hat, hS⟩ := hS
    refine sY x12.val hs (Yl.loadV (vs := x12.cells) true rfl rfl (by kernel_rfl) hat) fun _ hs => ?_
    refine wpList_nil (⟨fun _ h => h, ?_⟩)
    refine stepDE 15 rfl (wanted_yes hs rfl rfl rfl) (by kernel_rfl) #[] ?_
    refine stepCallP [(.agg #[(.slice ga1 gl2 gc3)]), (.slice fa4 fl5 fc6), x12.val] hs rfl ⟨_, rfl, rfl⟩ rfl Try.func140 rfl (by kernel_rfl) (by decide) hS (fun _ _ v hS hs => ?_)
    obtain ⟨x13, hv, hS⟩ := hS
    subst hv
    refine wpList_nil (⟨fun _ _ => hs.cxle hL (List.Sublist.refl _) (List.Sublist.refl _), ?_⟩)
    have hC := hs.cxle hL (List.Sublist.refl _) (List.Sublist.refl _)
    refine stepDE 16 rfl (wanted_yes hs rfl rfl rfl) (by kernel_rfl) #[] ?_
    refine sP (.bool x13.Empty) hs fun _ hs => ?_
    refine wpList_nil (⟨fun _ h => h, ?_⟩)
    refine sE 17 ?_
    refine sP (.bool x13.Empty) hs fun _ hs => ?_
    refine wpList_nil (⟨fun _ h => h, ?_⟩)
    refine WpD.done (by kernel_rfl) ?_ _
    exact ⟨x13.Empty, (hs.wk ⟨rfl, rfl, rfl, rfl, trivial⟩), hS⟩
   ·have hs := hs.bf hb
    have hS := hS.2 hc
    refine dN 9 [15, 16, 17] hs QZ.no (wanted_no hs rfl rfl rfl rfl) fun _ hs => ?_
    refine dN 10 [15, 16, 17] hs QZ.no (wanted_no hs rfl rfl rfl rfl) fun _ hs => ?_
    refine dN 11 [12, 13, 14, 15, 16, 17] hs QZ.no (wanted_no hs rfl rfl rfl rfl) fun _ hs => ?_
    refine dN 12 [13, 14, 15, 16, 17] hs QZ.no (wanted_no hs rfl rfl rfl rfl) fun _ hs => ?_
    refine dN 13 [14, 15, 16, 17] hs QZ.no (wanted_no hs rfl rfl rfl rfl) fun _ hs => ?_
    refine dN 14 [15, 16, 17] hs QZ.no (wanted_no hs rfl rfl rfl rfl) fun _ hs => ?_
    refine dN 15 [16, 17] hs QZ.no (wanted_no hs rfl rfl rfl rfl) fun _ hs => ?_
    refine dN 16 [17] hs QZ.no (wanted_no hs rfl rfl rfl rfl) fun _ hs => ?_
    refine sE 17 ?_
    refine sP (.bool false) hs fun _ hs => ?_
    refine wpList_nil (⟨fun _ h => h, ?_⟩)
    refine WpD.done (by kernel_rfl) ?_ _
    exact ⟨false, (hs.wk ⟨rfl, rfl, rfl, rfl, trivial⟩), hS⟩
 ·intro a w hJ
  obtain ⟨x14, hs, hS⟩ := hJ
  unfold S_well_loops_J1 at hS
  refine Wp.cond hs rfl rfl Iff.rfl (fun hc => ?_) (fun hc => ?_)
  ·have hS := hS.1 hc
   refine Wp.seq (Wp.region (sP (.bool true) hs fun _ hs => ?_))
   exact wpList_nil (Wp.ret (lvE K hs (resT hs rfl rfl) hMM.2 hS))
  ·have hS := hS.2 hc
   refine Wp.skip (Wp.seq (Wp.seq (Wp.region (sP (pt b9 6) hs fun _ hs => ?_))))
   refine sY (.slice e7.Kids_a e7.Kids_l e7.Kids_c) hs (Yl.lB [(.slice e7.Kids_a e7.Kids_l e7.Kids_c)] false 0) fun _ hs => ?_
   refine sP (iv ((e7.Kids_l : Nat) : Int)) hs fun _ hs => ?_
   refine sP (iv 0) hs fun _ hs => ?_
   refine wpList_nil (Wp.block ?_)
   obtain ⟨I22, mu23, hI0, hst⟩ := hS
   refine Wp.loop (σ := (Int)) (fun s a w => match s with | (x21) => Sx 39 E [] M w a [(1, (.slice fa4 fl5 fc6)), (3, (pt b8 0)), (28, (.slice e7.Kids_a e7.Kids_l e7.Kids_c)), (29, (iv ((e7.Kids_l : Nat) : Int))), (30, (iv x21))] [⟨b9, 109, e7.cells⟩, ⟨b8, 24, [(.slice ga1 gl2 gc3)]⟩] [] ∧ I22 x21) (fun s => match s with | (x21) => mu23 x21) (0) ⟨(hs.wk ⟨rfl, rfl, rfl, rfl, rfl, trivial⟩), hI0⟩ (fun x21 a w hI => ?_)
   obtain ⟨hs, hI⟩ := hI
   have hS := hst x21 hI
   clear hst hI0 hI
   refine Wp.seq (Wp.region (sP (.bool (decide (x21 < ((e7.Kids_l : Nat) : Int)))) hs fun _ hs => ?_))
   refine wpList_nil (Wp.seq (Wp.cond hs rfl rfl decide_eq_true_iff (fun hc => ?_) (fun hc => ?_)))
   ·have hS := hS.1 hc
    refine Wp.skip (Wp.seq (Wp.block (Wp.seq (Wp.region ?_))))
    obtain ⟨b24, o25, ha, h0, hl, hS⟩ := hS
    refine sY (.pointer (some ⟨b24, o25 + x21.toNat * 7, none⟩)) hs (Yl.indexS (e := 109) (sz := 7) rfl rfl rfl rfl (by kernel_rfl) (by kernel_rfl) ha h0 hl) fun _ hs => ?_
    obtain ⟨x26, hat, hS⟩ := hS
    refine sY x26.val hs (Yl.loadV (vs := x26.cells) true rfl rfl (by kernel_rfl) hat) fun _ hs => ?_
    refine stepAlloc [(iv 0), (.int .u64 0), (.int .u64 0), (.int .u64 0), (.int .u64 0), (.string (mkS [])), (.slice none 0 0)] hs (by kernel_rfl) (by decide) (fun _ _ b27 hEb27 hs => ?_)
    have hs := hs.nilrow 109 7
    refine stB 0 x26.cells [⟨b27, 109, x26.cells⟩, ⟨b9, 109, e7.cells⟩, ⟨b8, 24, [(.slice ga1 gl2 gc3)]⟩] hs fun _ _ hs => ?_
    refine wpList_nil (Wp.seq (Wp.region (sY (.agg #[(.slice ga1 gl2 gc3)]) hs (Yl.lB [(.slice ga1 gl2 gc3)] true 2) fun _ hs => ?_)))
    refine sP (.slice fa4 fl5 fc6) hs fun _ hs => ?_
    refine sY x26.val hs (Yl.lB x26.cells true 0) fun _ hs => ?_
    refine stepCallP [(.agg #[(.slice ga1 gl2 gc3)]), (.slice fa4 fl5 fc6), x26.val] hs rfl ⟨_, rfl, rfl⟩ rfl Try.func104 rfl (by kernel_rfl) (by decide) hS (fun _ _ v hS hs => ?_)
    obtain ⟨x28, hv, hS⟩ := hS
    subst hv
    refine wpList_nil (Wp.cond hs rfl rfl Iff.rfl (fun hc => ?_) (fun hc => ?_))
    ·have hS := hS.1 hc
     refine Wp.seq (Wp.region (sP (.bool true) hs fun _ hs => ?_))
     exact wpList_nil (Wp.ret (lvE K hs (resT hs rfl rfl) hMM.2 hS))
    ·have hS := hS.2 hc
     refine Wp.skip (Wp.region ?_)
     obtain ⟨hI, hS⟩ := hS
     refine sY (iv (x21 + 1)) hs (Yl.eq (Yl.pure (v := Value.int .i64 (IntKind.wrap .i64 (x21 + 1))) rfl (fun _ => by kernel_rfl)) (congrArg (Value.int .i64) (wrap_in hI))) fun _ hs => ?_
     refine sP (iv (x21 + 1)) hs fun _ hs => ?_
     exact wpList_nil (⟨(x21 + 1), ⟨(hs.weak (.cons _ (.cons_cons _ (.cons_cons _ List.Sublist.slnil))) (.cons _ List.Sublist.slnil) ⟨rfl, rfl, rfl, rfl, rfl, trivial⟩), hS.1⟩, hS.2⟩)
   ·have hS := hS.2 hc
    refine Wp.exit rfl (Wp.seq (Wp.region (sP (.bool false) hs fun _ hs => ?_)))
    exact wpList_nil (Wp.ret (lvE K hs (resT hs rfl rfl) hMM.2 hS))
def S_well_sound (ga1 : Option Addr) (gl2 : Nat) (gc3 : Nat) (fa4 : Option Addr) (fl5 : Nat) (fc6 : Nat) (knowna7 : Option Addr) (knownl8 : Nat) (knownc9 : Nat) (e10 : X_api_Expr) (M : Mem) (K : Value → Prop) : Prop :=
 (((e10.Kind : Int) = 4 → (CallE Try.prog 98 #[(.agg #[(.slice ga1 gl2 gc3)]), (.string (mkS e10.Text))] M (fun v _ => ∃ (x13 : Int), v = (Value.int .i64 x13) ∧ (∃ (b14 o15 : Nat), knowna7 = some ⟨b14, o15, none⟩ ∧ (0 : Int) ≤ x13 ∧ x13 < ((knownl8 : Nat) : Int) ∧ (∃ (x16 : Bool), At M b14 (o15 + x13.toNat * 1) [(.bool x16)] ∧ K (Value.bool x16)))))) ∧ (¬ ((e10.Kind : Int) = 4) → (((e10.Kind : Int) = 5 → (∃ (I25 : Int → Prop) (mu26 : Int → Nat), I25 0 ∧ ∀ (x24 : Int), (I25 x24 → ((x24 < ((e10.Kids_l : Nat) : Int) → (∃ (b27 o28 : Nat), e10.Kids_a = some ⟨b27, o28, none⟩ ∧ (0 : Int) ≤ x24 ∧ x24 < ((e10.Kids_l : Nat) : Int) ∧ (∃ (x29 : X_api_Expr), At M b27 (o28 + x24.toNat * 7) x29.cells ∧ (CallE Try.prog 107 #[(.agg #[(.slice ga1 gl2 gc3)]), (.slice fa4 fl5 fc6), (.slice knowna7 knownl8 knownc9), x29.val] M (fun v _ => ∃ (x31 : Bool), v = (Value.bool x31) ∧ ((¬ (x31 = true) → K (Value.bool false)) ∧ (¬ (¬ (x31 = true)) → (CallE Try.prog 140 #[(.agg #[(.slice ga1 gl2 gc3)]), (.slice fa4 fl5 fc6), x29.val] M (fun v _ => ∃ (x32 : X_api_Facts), v = x32.val ∧ ((¬ (x32.Empty = true) → K (Value.bool true)) ∧ (¬ (¬ (x32.Empty = true)) → (InI (x24 + 1) ∧ I25 (x24 + 1) ∧ mu26 (x24 + 1) < mu26 x24)))))))))))) ∧ (¬ (x24 < ((e10.Kids_l : Nat) : Int)) → K (Value.bool true)))))) ∧ (¬ ((e10.Kind : Int) = 5) → (∃ (I40 : Int → Prop) (mu41 : Int → Nat), I40 0 ∧ ∀ (x39 : Int), (I40 x39 → ((x39 < ((e10.Kids_l : Nat) : Int) → (∃ (b42 o43 : Nat), e10.Kids_a = some ⟨b42, o43, none⟩ ∧ (0 : Int) ≤ x39 ∧ x39 < ((e10.Kids_l : Nat) : Int) ∧ (∃ (x44 : X_api_Expr), At M b42 (o43 + x39.toNat * 7) x44.cells ∧ (CallE Try.prog 107 #[(.agg #[(.slice ga1 gl2 gc3)]), (.slice fa4 fl5 fc6), (.slice knowna7 knownl8 knownc9), x44.val] M (fun v _ => ∃ (x46 : Bool), v = (Value.bool x46) ∧ ((¬ (x46 = true) → K (Value.bool false)) ∧ (¬ (¬ (x46 = true)) → (InI (x39 + 1) ∧ I40 (x39 + 1) ∧ mu41 (x39 + 1) < mu41 x39)))))))) ∧ (¬ (x39 < ((e10.Kids_l : Nat) : Int)) → K (Value.bool true)))))))))
set_option maxRecDepth 100000 in
theorem s_well_sound (ga1 : Option Addr) (gl2 : Nat) (gc3 : Nat) (fa4 : Option Addr) (fl5 : Nat) (fc6 : Nat) (knowna7 : Option Addr) (knownl8 : Nat) (knownc9 : Nat) (e10 : X_api_Expr) (M : Mem) (K : Value → Prop) (hS : S_well_sound ga1 gl2 gc3 fa4 fl5 fc6 knowna7 knownl8 knownc9 e10 M K) : CallE Try.prog 107 #[(Value.agg #[(Value.slice ga1 gl2 gc3)]), (Value.slice fa4 fl5 fc6), (Value.slice knowna7 knownl8 knownc9), e10.val] M (fun v _ => K v) := by
 refine enterE Try.func107 rfl 60 rfl (Nat.le_of_ble_eq_true rfl) (fun E a hs => ?_)
 unfold S_well_sound at hS
 have hMM := MX.refl M E
 change Sx 60 E [] M E a [(0, (.agg #[(.slice ga1 gl2 gc3)])), (1, (.slice fa4 fl5 fc6)), (2, (.slice knowna7 knownl8 knownc9)), (3, e10.val)] [] [] at hs
 refine Wp.seq (Wp.region (stepBox [(.slice ga1 gl2 gc3)] hs rfl rfl rfl (by decide) (fun _ _ b11 hEb11 hs => ?_)))
 refine stepBox e10.cells hs rfl rfl rfl (by decide) (fun _ _ b12 hEb12 hs => ?_)
 refine sP (.bool false) hs fun _ hs => ?_
 refine wpList_nil (Wp.seq (Wp.seq (Wp.region (sP (pt b12 0) hs fun _ hs => ?_))))
 refine sY (iv e10.Kind) hs (Yl.lB [(iv e10.Kind)] false 0) fun _ hs => ?_
 refine wpList_nil (Wp.block (Wp.seq (Wp.region (sP (.bool ((e10.Kind : Int) == (4 : Int))) hs fun _ hs => ?_))))
 refine sP (.bool ((e10.Kind : Int) == (4 : Int))) hs fun _ hs => ?_
 refine wpList_nil (Wp.cond hs rfl rfl beq_iff_eq (fun hc => ?_) (fun hc => ?_))
 ·have hS := hS.1 hc
  refine Wp.seq (Wp.region (sP (.slice knowna7 knownl8 knownc9) hs fun _ hs => ?_))
  refine sY (.agg #[(.slice ga1 gl2 gc3)]) hs (Yl.lB [(.slice ga1 gl2 gc3)] true 1) fun _ hs => ?_
  refine sP (pt b12 5) hs fun _ hs => ?_
  refine sY (.string (mkS e10.Text)) hs (Yl.lB [(.string (mkS e10.Text))] false 0) fun _ hs => ?_
  refine stepCallP [(.agg #[(.slice ga1 gl2 gc3)]), (.string (mkS e10.Text))] hs rfl ⟨_, rfl, rfl⟩ rfl Try.func98 rfl (by kernel_rfl) (by decide) hS (fun _ _ v hS hs => ?_)
  obtain ⟨x13, hv, hS⟩ := hS
  subst hv
  obtain ⟨b14, o15, ha, h0, hl, hS⟩ := hS
  refine sY (.pointer (some ⟨b14, o15 + x13.toNat * 1, none⟩)) hs (Yl.indexS (e := 4) (sz := 1) rfl rfl rfl rfl (by kernel_rfl) (by kernel_rfl) ha h0 hl) fun _ hs => ?_
  obtain ⟨x16, hat, hS⟩ := hS
  refine sY (.bool x16) hs (Yl.loadV (vs := [(.bool x16)]) false rfl rfl (by kernel_rfl) hat) fun _ hs => ?_
  refine sP (.bool x16) hs fun _ hs => ?_
  exact wpList_nil (Wp.ret (lvE K hs (resT hs rfl rfl) hMM.2 hS))
 ·have hS := hS.2 hc
  refine Wp.seq (Wp.region (sP (.bool ((e10.Kind : Int) == (5 : Int))) hs fun _ hs => ?_))
  refine sP (.bool ((e10.Kind : Int) == (5 : Int))) hs fun _ hs => ?_
  refine wpList_nil (Wp.cond hs rfl rfl beq_iff_eq (fun hc => ?_) (fun hc => ?_))
  ·have hS := hS.1 hc
   refine Wp.seq (Wp.seq (Wp.region (sP (pt b12 6) hs fun _ hs => ?_)))
   refine sY (.slice e10.Kids_a e10.Kids_l e10.Kids_c) hs (Yl.lB [(.slice e10.Kids_a e10.Kids_l e10.Kids_c)] false 0) fun _ hs => ?_
   refine sP (iv ((e10.Kids_l : Nat) : Int)) hs fun _ hs => ?_
   refine sP (iv 0) hs fun _ hs => ?_
   refine wpList_nil (Wp.block ?_)
   obtain ⟨I25, mu26, hI0, hst⟩ := hS
   refine Wp.loop (σ := (Int)) (fun s a w => match s with | (x24) => Sx 60 E [] M w a [(1, (.slice fa4 fl5 fc6)), (2, (.slice knowna7 knownl8 knownc9)), (4, (pt b11 0)), (27, (.slice e10.Kids_a e10.Kids_l e10.Kids_c)), (28, (iv ((e10.Kids_l : Nat) : Int))), (29, (iv x24))] [⟨b12, 109, e10.cells⟩, ⟨b11, 24, [(.slice ga1 gl2 gc3)]⟩] [] ∧ I25 x24) (fun s => match s with | (x24) => mu26 x24) (0) ⟨(hs.wk ⟨rfl, rfl, rfl, rfl, rfl, rfl, trivial⟩), hI0⟩ (fun x24 a w hI => ?_)
   obtain ⟨hs, hI⟩ := hI
   have hS := hst x24 hI
   clear hst hI0 hI
   refine Wp.seq (Wp.region (sP (.bool (decide (x24 < ((e10.Kids_l : Nat) : Int)))) hs fun _ hs => ?_))
   refine wpList_nil (Wp.seq (Wp.cond hs rfl rfl decide_eq_true_iff (fun hc => ?_) (fun hc => ?_)))
   ·have hS := hS.1 hc
    refine Wp.skip (Wp.seq (Wp.block (Wp.seq (Wp.region ?_))))
    obtain ⟨b27, o28, ha, h0, hl, hS⟩ := hS
    refine sY (.pointer (some ⟨b27, o28 + x24.toNat * 7, none⟩)) hs (Yl.indexS (e := 109) (sz := 7) rfl rfl rfl rfl (by kernel_rfl) (by kernel_rfl) ha h0 hl) fun _ hs => ?_
    obtain ⟨x29, hat, hS⟩ := hS
    refine sY x29.val hs (Yl.loadV (vs := x29.cells) true rfl rfl (by kernel_rfl) hat) fun _ hs => ?_
    refine stepAlloc [(iv 0), (.int .u64 0), (.int .u64 0), (.int .u64 0), (.int .u64 0), (.string (mkS [])), (.slice none 0 0)] hs (by kernel_rfl) (by decide) (fun _ _ b30 hEb30 hs => ?_)
    have hs := hs.nilrow 109 7
    refine stB 0 x29.cells [⟨b30, 109, x29.cells⟩, ⟨b12, 109, e10.cells⟩, ⟨b11, 24, [(.slice ga1 gl2 gc3)]⟩] hs fun _ _ hs => ?_
    refine wpList_nil (Wp.seq (Wp.seq (Wp.region (sY (.agg #[(.slice ga1 gl2 gc3)]) hs (Yl.lB [(.slice ga1 gl2 gc3)] true 2) fun _ hs => ?_))))
    refine sP (.slice fa4 fl5 fc6) hs fun _ hs => ?_
    refine sP (.slice knowna7 knownl8 knownc9) hs fun _ hs => ?_
    refine sY x29.val hs (Yl.lB x29.cells true 0) fun _ hs => ?_
    refine stepCallP [(.agg #[(.slice ga1 gl2 gc3)]), (.slice fa4 fl5 fc6), (.slice knowna7 knownl8 knownc9), x29.val] hs rfl ⟨_, rfl, rfl⟩ rfl Try.func107 rfl (by kernel_rfl) (by decide) hS (fun _ _ v hS hs => ?_)
    obtain ⟨x31, hv, hS⟩ := hS
    subst hv
    refine sP (.bool (!x31)) hs fun _ hs => ?_
    refine wpList_nil (Wp.cond hs rfl rfl (bnot_iff Iff.rfl) (fun hc => ?_) (fun hc => ?_))
    ·have hS := hS.1 hc
     refine Wp.seq (Wp.region (sP (.bool false) hs fun _ hs => ?_))
     exact wpList_nil (Wp.ret (lvE K hs (resT hs rfl rfl) hMM.2 hS))
    ·have hS := hS.2 hc
     refine Wp.skip (Wp.seq (Wp.region (sY (.agg #[(.slice ga1 gl2 gc3)]) hs (Yl.lB [(.slice ga1 gl2 gc3)] true 2) fun _ hs => ?_)))
     refine sP (.slice fa4 fl5 fc6) hs fun _ hs => ?_
     refine sY x29.val hs (Yl.lB x29.cells true 0) fun _ hs => ?_
     refine stepCallP [(.agg #[(.slice ga1 gl2 gc3)]), (.slice fa4 fl5 fc6), x29.val] hs rfl ⟨_, rfl, rfl⟩ rfl Try.func140 rfl (by kernel_rfl) (by decide) hS (fun _ _ v hS hs => ?_)
     obtain ⟨x32, hv, hS⟩ := hS
     subst hv
     refine sP (.bool x32.Empty) hs fun _ hs => ?_
     refine sP (.bool (!x32.Empty)) hs fun _ hs => ?_
     refine wpList_nil (Wp.cond hs rfl rfl (bnot_iff Iff.rfl) (fun hc => ?_) (fun hc => ?_))
     ·have hS := hS.1 hc
      refine Wp.seq (Wp.region (sP (.bool true) hs fun _ hs => ?_))
      exact wpList_nil (Wp.ret (lvE K hs (resT hs rfl rfl) hMM.2 hS))
     ·have hS := hS.2 hc
      refine Wp.skip (Wp.region ?_)
      obtain ⟨hI, hS⟩ := hS
      refine sY (iv (x24 + 1)) hs (Yl.eq (Yl.pure (v := Value.int .i64 (IntKind.wrap .i64 (x24 + 1))) rfl (fun _ => by kernel_rfl)) (congrArg (Value.int .i64) (wrap_in hI))) fun _ hs => ?_
      refine sP (iv (x24 + 1)) hs fun _ hs => ?_
      exact wpList_nil (⟨(x24 + 1), ⟨(hs.weak (.cons _ (.cons_cons _ (.cons_cons _ List.Sublist.slnil))) (.cons _ List.Sublist.slnil) ⟨rfl, rfl, rfl, rfl, rfl, rfl, trivial⟩), hS.1⟩, hS.2⟩)
   ·have hS := hS.2 hc
    refine Wp.exit rfl (Wp.seq (Wp.region (sP (.bool true) hs fun _ hs => ?_)))
    exact wpList_nil (Wp.ret (lvE K hs (resT hs rfl rfl) hMM.2 hS))
  ·have hS := hS.2 hc
   refine Wp.skip (Wp.seq (Wp.seq (Wp.region (sP (pt b12 6) hs fun _ hs => ?_))))
   refine sY (.slice e10.Kids_a e10.Kids_l e10.Kids_c) hs (Yl.lB [(.slice e10.Kids_a e10.Kids_l e10.Kids_c)] false 0) fun _ hs => ?_
   refine sP (iv ((e10.Kids_l : Nat) : Int)) hs fun _ hs => ?_
   refine sP (iv 0) hs fun _ hs => ?_
   refine wpList_nil (Wp.block ?_)
   obtain ⟨I40, mu41, hI0, hst⟩ := hS
   refine Wp.loop (σ := (Int)) (fun s a w => match s with | (x39) => Sx 60 E [] M w a [(1, (.slice fa4 fl5 fc6)), (2, (.slice knowna7 knownl8 knownc9)), (4, (pt b11 0)), (47, (.slice e10.Kids_a e10.Kids_l e10.Kids_c)), (48, (iv ((e10.Kids_l : Nat) : Int))), (49, (iv x39))] [⟨b12, 109, e10.cells⟩, ⟨b11, 24, [(.slice ga1 gl2 gc3)]⟩] [] ∧ I40 x39) (fun s => match s with | (x39) => mu41 x39) (0) ⟨(hs.wk ⟨rfl, rfl, rfl, rfl, rfl, rfl, trivial⟩), hI0⟩ (fun x39 a w hI => ?_)
   obtain ⟨hs, hI⟩ := hI
   have hS := hst x39 hI
   clear hst hI0 hI
   refine Wp.seq (Wp.region (sP (.bool (decide (x39 < ((e10.Kids_l : Nat) : Int)))) hs fun _ hs => ?_))
   refine wpList_nil (Wp.seq (Wp.cond hs rfl rfl decide_eq_true_iff (fun hc => ?_) (fun hc => ?_)))
   ·have hS := hS.1 hc
    refine Wp.skip (Wp.seq (Wp.block (Wp.seq (Wp.region ?_))))
    obtain ⟨b42, o43, ha, h0, hl, hS⟩ := hS
    refine sY (.pointer (some ⟨b42, o43 + x39.toNat * 7, none⟩)) hs (Yl.indexS (e := 109) (sz := 7) rfl rfl rfl rfl (by kernel_rfl) (by kernel_rfl) ha h0 hl) fun _ hs => ?_
    obtain ⟨x44, hat, hS⟩ := hS
    refine sY x44.val hs (Yl.loadV (vs := x44.cells) true rfl rfl (by kernel_rfl) hat) fun _ hs => ?_
    refine stepAlloc [(iv 0), (.int .u64 0), (.int .u64 0), (.int .u64 0), (.int .u64 0), (.string (mkS [])), (.slice none 0 0)] hs (by kernel_rfl) (by decide) (fun _ _ b45 hEb45 hs => ?_)
    have hs := hs.nilrow 109 7
    refine stB 0 x44.cells [⟨b45, 109, x44.cells⟩, ⟨b12, 109, e10.cells⟩, ⟨b11, 24, [(.slice ga1 gl2 gc3)]⟩] hs fun _ _ hs => ?_
    refine wpList_nil (Wp.seq (Wp.region (sY (.agg #[(.slice ga1 gl2 gc3)]) hs (Yl.lB [(.slice ga1 gl2 gc3)] true 2) fun _ hs => ?_)))
    refine sP (.slice fa4 fl5 fc6) hs fun _ hs => ?_
    refine sP (.slice knowna7 knownl8 knownc9) hs fun _ hs => ?_
    refine sY x44.val hs (Yl.lB x44.cells true 0) fun _ hs => ?_
    refine stepCallP [(.agg #[(.slice ga1 gl2 gc3)]), (.slice fa4 fl5 fc6), (.slice knowna7 knownl8 knownc9), x44.val] hs rfl ⟨_, rfl, rfl⟩ rfl Try.func107 rfl (by kernel_rfl) (by decide) hS (fun _ _ v hS hs => ?_)
    obtain ⟨x46, hv, hS⟩ := hS
    subst hv
    refine sP (.bool (!x46)) hs fun _ hs => ?_
    refine wpList_nil (Wp.cond hs rfl rfl (bnot_iff Iff.rfl) (fun hc => ?_) (fun hc => ?_))
    ·have hS := hS.1 hc
     refine Wp.seq (Wp.region (sP (.bool false) hs fun _ hs => ?_))
     exact wpList_nil (Wp.ret (lvE K hs (resT hs rfl rfl) hMM.2 hS))
    ·have hS := hS.2 hc
     refine Wp.skip (Wp.region ?_)
     obtain ⟨hI, hS⟩ := hS
     refine sY (iv (x39 + 1)) hs (Yl.eq (Yl.pure (v := Value.int .i64 (IntKind.wrap .i64 (x39 + 1))) rfl (fun _ => by kernel_rfl)) (congrArg (Value.int .i64) (wrap_in hI))) fun _ hs => ?_
     refine sP (iv (x39 + 1)) hs fun _ hs => ?_
     exact wpList_nil (⟨(x39 + 1), ⟨(hs.weak (.cons _ (.cons_cons _ (.cons_cons _ List.Sublist.slnil))) (.cons _ List.Sublist.slnil) ⟨rfl, rfl, rfl, rfl, rfl, rfl, trivial⟩), hS.1⟩, hS.2⟩)
   ·have hS := hS.2 hc
    refine Wp.exit rfl (Wp.seq (Wp.region (sP (.bool true) hs fun _ hs => ?_)))
    exact wpList_nil (Wp.ret (lvE K hs (resT hs rfl rfl) hMM.2 hS))
def S_well_Well_1 (knowna1 : Option Addr) (knownl2 : Nat) (knownc3 : Nat) (i4 : Int) (b5 : Nat) (b6 : Nat) (M : Mem) (K : Value → Prop) : Prop :=
 (∃ (xa7 : Option Addr) (xl8 : Nat) (xc9 : Nat), At M b5 0 [(.slice xa7 xl8 xc9)] ∧ (∃ (xa10 : Option Addr) (xl11 : Nat) (xc12 : Nat), At M b6 0 [(.slice xa10 xl11 xc12)] ∧ (∃ (xa13 : Option Addr) (xl14 : Nat) (xc15 : Nat), At M b5 0 [(.slice xa13 xl14 xc15)] ∧ (∃ (b16 o17 : Nat), xa13 = some ⟨b16, o17, none⟩ ∧ (0 : Int) ≤ i4 ∧ i4 < ((xl14 : Nat) : Int) ∧ (∃ (x18 : X_api_Expr), At M b16 (o17 + i4.toNat * 8 + 1) x18.cells ∧ (CallE Try.prog 107 #[(.agg #[(.slice xa7 xl8 xc9)]), (.slice xa10 xl11 xc12), (.slice knowna1 knownl2 knownc3), x18.val] M (fun v _ => ∃ (x19 : Bool), v = (Value.bool x19) ∧ K (Value.bool x19))))))))
set_option maxRecDepth 100000 in
theorem s_well_Well_1 (knowna1 : Option Addr) (knownl2 : Nat) (knownc3 : Nat) (i4 : Int) (b5 : Nat) (b6 : Nat) (M : Mem) (K : Value → Prop) (hS : S_well_Well_1 knowna1 knownl2 knownc3 i4 b5 b6 M K) : CallE Try.prog 106 #[(Value.slice knowna1 knownl2 knownc3), (Value.int .i64 i4), (Value.pointer (some ⟨b5, 0, none⟩)), (Value.pointer (some ⟨b6, 0, none⟩))] M (fun v _ => K v) := by
 refine enterE Try.func106 rfl 17 rfl (Nat.le_of_ble_eq_true rfl) (fun E a hs => ?_)
 unfold S_well_Well_1 at hS
 have hMM := MX.refl M E
 change Sx 17 E [] M E a [(0, (.slice knowna1 knownl2 knownc3)), (1, (iv i4)), (2, (pt b5 0)), (3, (pt b6 0))] [] [] at hs
 refine Wp.seq (Wp.region (sP (.bool false) hs fun _ hs => ?_))
 refine wpList_nil (Wp.seq (Wp.regionD [true, true, true, true, true, true, true, true, true, true, true] hs (by kernel_rfl) rfl [] (fun _ h => h) [] (fun _ h => h) (fun _ hs hC => ?_)))
 have hL := Mem.le.refl M
 obtain ⟨xa7, xl8, xc9, hat, hS⟩ := hS
 refine stepDY (v := (.agg #[(.slice xa7 xl8 xc9)])) 0 [9, 10] hs hC QZ.no rfl (wanted_none rfl) rfl (by decide) (by kernel_rfl) (by kernel_rfl) (by kernel_rfl) (Yl.loadV (vs := [(.slice xa7 xl8 xc9)]) true rfl rfl (by kernel_rfl) hat) (fun _ hs => ?_)
 obtain ⟨xa10, xl11, xc12, hat, hS⟩ := hS
 refine stepDY (v := (.slice xa10 xl11 xc12)) 1 [9, 10] hs hC QZ.no rfl (wanted_none rfl) rfl (by decide) (by kernel_rfl) (by kernel_rfl) (by kernel_rfl) (Yl.loadV (vs := [(.slice xa10 xl11 xc12)]) false rfl rfl (by kernel_rfl) hat) (fun _ hs => ?_)
 refine dP (Value.slice knowna1 knownl2 knownc3) 2 [9, 10] hs QZ.no (wanted_none rfl) fun _ hs => ?_
 refine dP (pt b5 0) 3 [4, 6, 7, 8, 9, 10] hs QZ.no (wanted_none rfl) fun _ hs => ?_
 obtain ⟨xa13, xl14, xc15, hat, hS⟩ := hS
 refine stepDY (v := (.slice xa13 xl14 xc15)) 4 [6, 7, 8, 9, 10] hs hC QZ.no rfl (wanted_none rfl) rfl (by decide) (by kernel_rfl) (by kernel_rfl) (by kernel_rfl) (Yl.loadV (vs := [(.slice xa13 xl14 xc15)]) false rfl rfl (by kernel_rfl) hat) (fun _ hs => ?_)
 refine sE 5 ?_
 refine sP (iv i4) hs fun _ hs => ?_
 refine wpList_nil (⟨fun _ h => h, ?_⟩)
 refine sE 6 ?_
 obtain ⟨b16, o17, ha, h0, hl, hS⟩ := hS
 refine sY (.pointer (some ⟨b16, o17 + i4.toNat * 8, none⟩)) hs (Yl.indexS (e := 111) (sz := 8) rfl rfl rfl rfl (by kernel_rfl) (by kernel_rfl) ha h0 hl) fun _ hs => ?_
 refine wpList_nil (⟨fun _ h => h, ?_⟩)
 refine sE 7 ?_
 refine sP (.pointer (some ⟨b16, o17 + i4.toNat * 8 + 1, none⟩)) hs fun _ hs => ?_
 refine wpList_nil (⟨fun _ h => h, ?_⟩)
 refine sE 8 ?_
 obtain ⟨x18, hat, hS⟩ := hS
 refine sY x18.val hs (Yl.loadV (vs := x18.cells) true rfl rfl (by kernel_rfl) hat) fun _ hs => ?_
 refine wpList_nil (⟨fun _ h => h, ?_⟩)
 refine sE 9 ?_
 refine stepCallP [(.agg #[(.slice xa7 xl8 xc9)]), (.slice xa10 xl11 xc12), (.slice knowna1 knownl2 knownc3), x18.val] hs rfl ⟨_, rfl, rfl⟩ rfl Try.func107 rfl (by kernel_rfl) (by decide) hS (fun _ _ v hS hs => ?_)
 obtain ⟨x19, hv, hS⟩ := hS
 subst hv
 refine wpList_nil (⟨fun _ _ => hs.cxle hL (List.Sublist.refl _) (List.Sublist.refl _), ?_⟩)
 have hC := hs.cxle hL (List.Sublist.refl _) (List.Sublist.refl _)
 refine sE 10 ?_
 refine sP (.bool x19) hs fun _ hs => ?_
 refine wpList_nil (⟨fun _ h => h, ?_⟩)
 refine WpD.done (by kernel_rfl) ?_ _
 exact Wp.ret (lvE K hs (resT hs rfl rfl) hMM.2 hS)
theorem f_well_Well_1 (knowna1 : Option Addr) (knownl2 : Nat) (knownc3 : Nat) (i4 : Int) (b5 : Nat) (b6 : Nat) (M : Mem) (K : Value → Prop) (hS : S_well_Well_1 knowna1 knownl2 knownc3 i4 b5 b6 M K) : CallF Try.prog (Value.func (.func 106) #[] #[(Value.pointer (some ⟨b5, 0, none⟩)), (Value.pointer (some ⟨b6, 0, none⟩))]) [(Value.slice knowna1 knownl2 knownc3), (Value.int .i64 i4)] M (fun v _ => K v) := ⟨106, _, _, _, rfl, Try.func106, rfl, (by decide), s_well_Well_1 _ _ _ _ _ _ _ _ hS⟩
def S_well_grow_bool_J1 (more128 : Bool) (x129 : Int) (G133 : Type) (gh134 : G133) (I131 : G133 → Bool → Int → Mem → Prop) (mu132 : G133 → Bool → Int → Nat) (more144 : Bool) (M145 : Mem) (K : Value → Mem → Prop) : Prop :=
 (InI (x129 + 1) ∧ ∃ (gh : G133), I131 gh more144 (x129 + 1) M145 ∧ mu132 gh more144 (x129 + 1) < mu132 gh134 more128 x129)
def S_well_grow_bool (n1 : Int) (next2 : Value) (M : Mem) (L : Nat → Prop) (K : Value → Mem → Prop) : Prop :=
 ((0 : Int) ≤ n1 ∧ (n1 : Int) ≤ n1 ∧ n1.toNat * 1 ≤ 140737488355328 ∧ (∀ (M6 : Mem) (ad4 : Option Addr) (cap5 : Nat), NewRow M M6 4 1 ad4 n1.toNat cap5 (repl n1.toNat [(.bool false)]) → (∃ (G100 : Type) (I98 : G100 → Bool → Mem → Prop) (mu99 : G100 → Bool → Nat) (gz102 : G100), I98 gz102 true M6 ∧ ∀ (gh101 : G100) (more96 : Bool) (M97 : Mem), (I98 gh101 more96 M97 → ((more96 = true → (∃ (G133 : Type) (I131 : G133 → Bool → Int → Mem → Prop) (mu132 : G133 → Bool → Int → Nat) (gz135 : G133), I131 gz135 false 0 M97 ∧ ∀ (gh134 : G133) (more128 : Bool) (x129 : Int) (M130 : Mem), (I131 gh134 more128 x129 M130 → ((x129 < ((n1.toNat : Nat) : Int) → (CallFW Try.prog next2 [(.slice ad4 n1.toNat cap5), (.int .i64 x129)] M130 (Wr L M) (fun v M137 => ∃ (x136 : Bool), v = (Value.bool x136) ∧ (∃ (b138 o139 : Nat), ad4 = some ⟨b138, o139, none⟩ ∧ (0 : Int) ≤ x129 ∧ x129 < ((n1.toNat : Nat) : Int) ∧ (∃ (x140 : Bool), At M137 b138 (o139 + x129.toNat * 1) [(.bool x140)] ∧ ((¬ (x136 = x140) → (∃ (b141 o142 : Nat), ad4 = some ⟨b141, o142, none⟩ ∧ (0 : Int) ≤ x129 ∧ x129 < ((n1.toNat : Nat) : Int) ∧ (Has M137 b141 (o142 + x129.toNat * 1) 1 ∧ Wr L M b141 ∧ ∀ (M143 : Mem), M143 = M137.put b141 (o142 + x129.toNat * 1) [(.bool x136)] → (S_well_grow_bool_J1 more128 x129 G133 gh134 I131 mu132 true M143 K)))) ∧ (¬ (¬ (x136 = x140)) → (S_well_grow_bool_J1 more128 x129 G133 gh134 I131 mu132 more128 M137 K)))))))) ∧ (¬ (x129 < ((n1.toNat : Nat) : Int)) → ∃ (gh : G100), I98 gh more128 M130 ∧ mu99 gh more128 < mu99 gh101 more96))))) ∧ (¬ (more96 = true) → (∀ M', M97.le M' → K (Value.slice ad4 n1.toNat cap5) M')))))))
set_option maxRecDepth 100000 in
theorem s_well_grow_bool (n1 : Int) (next2 : Value) (M : Mem) (L : Nat → Prop) (K : Value → Mem → Prop) (hS : S_well_grow_bool n1 next2 M L K) : CallW Try.prog 105 #[(Value.int .i64 n1), next2] M L K := by
 refine enterW Try.func105 rfl 33 rfl (Nat.le_of_ble_eq_true rfl) (fun E a hs => ?_)
 unfold S_well_grow_bool at hS
 have hMM := WX.refl M E
 change Sx 33 E (bwW E M L) M E a [(0, (iv n1)), (1, next2)] [] [] at hs
 refine Wp.seq (Wp.region (sP (.slice none 0 0) hs fun _ hs => ?_))
 refine wpList_nil (Wp.seq (Wp.region (sP (iv n1) hs fun _ hs => ?_)))
 obtain ⟨h0, h1, hB, hS⟩ := hS
 refine stepMakeN (e := 4) (size := 1) (bytes := 1) [(.bool false)] hs rfl rfl rfl rfl (by kernel_rfl) (by kernel_rfl) rfl (by decide) (by decide) h0 h1 hB (fun _ _ rv3 hs => ?_)
 refine sP rv3 hs fun _ hs => ?_
 refine wpList_nil (Wp.seq (Wp.seq (Wp.region (sP (.bool true) hs fun _ hs => ?_))))
 refine wpList_nil (Wp.block ?_)
 obtain ⟨ad4, cap5, hv, hcp, hxl⟩ := hs.rowform 0 rfl
 dsimp only at hv hcp hxl
 subst hv
 obtain ⟨M6, hnr, hMM, hs⟩ := hs.releaseW hMM 0 rfl [] rfl
 have hS := hS M6 ad4 cap5 hnr
 obtain ⟨G100, I98, mu99, gz102, hI0, hst⟩ := hS
 refine Wp.loop (σ := G100 × (Bool) × (Mem)) (fun s a w => match s with | (gh101, more96, M97) => WX M97 M E ∧ Sx 33 E (bwW E M L) M97 w a [(1, next2), (5, (.slice ad4 n1.toNat cap5)), (6, (.bool more96))] [] [] ∧ I98 gh101 more96 M97) (fun s => match s with | (gh101, more96, M97) => mu99 gh101 more96) (gz102, true, M6) ⟨hMM, (hs.wk ⟨rfl, rfl, rfl, trivial⟩), hI0⟩ (fun s a w hI => ?_)
 obtain ⟨gh101, more96, M97⟩ := s
 obtain ⟨hMM, hs, hI⟩ := hI
 have hS := hst gh101 more96 M97 hI
 clear hst hI0 hI
 refine Wp.seq (Wp.seq (Wp.region (sP (.bool more96) hs fun _ hs => ?_)))
 refine wpList_nil (Wp.cond hs rfl rfl Iff.rfl (fun hc => ?_) (fun hc => ?_))
 ·have hS := hS.1 hc
  refine Wp.skip (Wp.block (Wp.seq (Wp.region (sP (.bool false) hs fun _ hs => ?_))))
  refine wpList_nil (Wp.seq (Wp.region (sP (.slice ad4 n1.toNat cap5) hs fun _ hs => ?_)))
  refine sP (iv ((n1.toNat : Nat) : Int)) hs fun _ hs => ?_
  refine sP (iv 0) hs fun _ hs => ?_
  refine wpList_nil (Wp.block ?_)
  obtain ⟨G133, I131, mu132, gz135, hI0, hst⟩ := hS
  refine Wp.loop (σ := G133 × (Bool) × (Int) × (Mem)) (fun s a w => match s with | (gh134, more128, x129, M130) => WX M130 M E ∧ Sx 33 E (bwW E M L) M130 w a [(1, next2), (5, (.slice ad4 n1.toNat cap5)), (6, (.bool more128)), (13, (iv ((n1.toNat : Nat) : Int))), (14, (iv x129))] [] [] ∧ I131 gh134 more128 x129 M130) (fun s => match s with | (gh134, more128, x129, M130) => mu132 gh134 more128 x129) (gz135, false, 0, M97) ⟨hMM, (hs.wk ⟨rfl, rfl, rfl, rfl, rfl, trivial⟩), hI0⟩ (fun s a w hI => ?_)
  obtain ⟨gh134, more128, x129, M130⟩ := s
  obtain ⟨hMM, hs, hI⟩ := hI
  have hS := hst gh134 more128 x129 M130 hI
  clear hst hI0 hI
  refine Wp.seq (Wp.region (sP (.bool (decide (x129 < ((n1.toNat : Nat) : Int)))) hs fun _ hs => ?_))
  refine wpList_nil (Wp.seq (Wp.cond hs rfl rfl decide_eq_true_iff (fun hc => ?_) (fun hc => ?_)))
  ·have hS := hS.1 hc
   refine Wp.skip (Wp.join (fun a w => ∃ (more144 : Bool) (M145 : Mem), WX M145 M E ∧ Sx 33 E (bwW E M L) M145 w a [(1, next2), (5, (.slice ad4 n1.toNat cap5)), (6, (.bool more144)), (13, (iv ((n1.toNat : Nat) : Int))), (14, (iv x129))] [] [] ∧ (S_well_grow_bool_J1 more128 x129 G133 gh134 I131 mu132 more144 M145 K)) ?_ ?_)
   ·refine Wp.block (Wp.seq (Wp.region (sP (iv x129) hs fun _ hs => ?_)))
    refine sP (iv x129) hs fun _ hs => ?_
    refine wpList_nil (Wp.seq (Wp.region (sP next2 hs fun _ hs => ?_)))
    refine sP (.slice ad4 n1.toNat cap5) hs fun _ hs => ?_
    refine sP (iv x129) hs fun _ hs => ?_
    refine stepCallFW [(.slice ad4 n1.toNat cap5), (iv x129)] hs hMM rfl ⟨_, rfl, rfl⟩ rfl (by decide) hS (fun _ _ M137 v hMM hS hs => ?_)
    obtain ⟨x136, hv, hS⟩ := hS
    subst hv
    refine sP (.bool x136) hs fun _ hs => ?_
    refine wpList_nil (Wp.seq (Wp.region (sP (.bool x136) hs fun _ hs => ?_)))
    refine sP (.slice ad4 n1.toNat cap5) hs fun _ hs => ?_
    refine sP (iv x129) hs fun _ hs => ?_
    obtain ⟨b138, o139, ha, h0, hl, hS⟩ := hS
    refine sY (.pointer (some ⟨b138, o139 + x129.toNat * 1, none⟩)) hs (Yl.indexS (e := 4) (sz := 1) rfl rfl rfl rfl (by kernel_rfl) (by kernel_rfl) ha h0 hl) fun _ hs => ?_
    obtain ⟨x140, hat, hS⟩ := hS
    refine sY (.bool x140) hs (Yl.loadV (vs := [(.bool x140)]) false rfl rfl (by kernel_rfl) hat) fun _ hs => ?_
    refine sY (.bool (!(x136 == x140))) hs (Yl.neqB rfl rfl rfl rfl (by kernel_rfl)) fun _ hs => ?_
    refine wpList_nil (Wp.cond hs rfl rfl (bnot_iff beq_iff_eq) (fun hc => ?_) (fun hc => ?_))
    ·have hS := hS.1 hc
     refine Wp.region (sP (.slice ad4 n1.toNat cap5) hs fun _ hs => ?_)
     refine sP (iv x129) hs fun _ hs => ?_
     refine sP (.bool x136) hs fun _ hs => ?_
     obtain ⟨b141, o142, ha, h0, hl, hS⟩ := hS
     refine sY (.pointer (some ⟨b141, o142 + x129.toNat * 1, none⟩)) hs (Yl.indexS (e := 4) (sz := 1) rfl rfl rfl rfl (by kernel_rfl) (by kernel_rfl) ha h0 hl) fun _ hs => ?_
     obtain ⟨hhas, hwr, hS⟩ := hS
     refine stepStoreW (vs := [(.bool x136)]) hs hMM rfl rfl rfl rfl rfl (by kernel_rfl) rfl hhas hwr (fun _ _ M143 hM2 hMM hs => ?_)
     have hS := hS M143 hM2
     refine sP (.bool true) hs fun _ hs => ?_
     exact wpList_nil (⟨true, M143, hMM, (hs.wk ⟨rfl, rfl, rfl, rfl, rfl, trivial⟩), hS⟩)
    ·have hS := hS.2 hc
     exact Wp.skip (⟨more128, M137, hMM, (hs.wk ⟨rfl, rfl, rfl, rfl, rfl, trivial⟩), hS⟩)
   ·intro a w hJ
    obtain ⟨more144, M145, hMM, hs, hS⟩ := hJ
    unfold S_well_grow_bool_J1 at hS
    refine Wp.region ?_
    obtain ⟨hI, hS⟩ := hS
    refine sY (iv (x129 + 1)) hs (Yl.eq (Yl.pure (v := Value.int .i64 (IntKind.wrap .i64 (x129 + 1))) rfl (fun _ => by kernel_rfl)) (congrArg (Value.int .i64) (wrap_in hI))) fun _ hs => ?_
    refine sP (iv (x129 + 1)) hs fun _ hs => ?_
    refine wpList_nil ?_
    obtain ⟨gh, hI1, hI2⟩ := hS
    exact ⟨(gh, more144, x129 + 1, M145), ⟨hMM, (hs.wk ⟨rfl, rfl, rfl, rfl, rfl, trivial⟩), hI1⟩, hI2⟩
  ·have hS := hS.2 hc
   refine Wp.exit rfl ?_
   obtain ⟨gh, hI1, hI2⟩ := hS
   exact ⟨(gh, more128, M130), ⟨hMM, (hs.wk ⟨rfl, rfl, rfl, trivial⟩), hI1⟩, hI2⟩
 ·have hS := hS.2 hc
  refine Wp.exit rfl (Wp.seq (Wp.region (sP (.slice ad4 n1.toNat cap5) hs fun _ hs => ?_)))
  refine sP (.slice ad4 n1.toNat cap5) hs fun _ hs => ?_
  exact wpList_nil (Wp.ret (leaveW (K := K) hs (resT hs rfl rfl) hMM hS))
theorem e_well_grow_bool (n1 : Int) (next2 : Value) (M : Mem) (K : Value → Mem → Prop) (hS : S_well_grow_bool n1 next2 M (fun _ => False) K) : CallE Try.prog 105 #[(Value.int .i64 n1), next2] M K := (s_well_grow_bool _ _ _ _ _ hS).toE
def S_well_Well (ga1 : Option Addr) (gl2 : Nat) (gc3 : Nat) (M : Mem) (K : Value → Prop) : Prop :=
 (CallE Try.prog 102 #[(.agg #[(.slice ga1 gl2 gc3)])] M (fun v _ => ∃ (x5 : Int), v = (Value.int .i64 x5) ∧ (((x5 : Int) ≠ 0 → K (Value.tuple #[(.int .i64 0), (.int .i64 x5)])) ∧ (¬ ((x5 : Int) ≠ 0) → (CallE Try.prog 103 #[(.agg #[(.slice ga1 gl2 gc3)])] M (fun v M9 => ∃ (xa6 : Option Addr) (xl7 : Nat) (xc8 : Nat), v = (Value.slice xa6 xl7 xc8) ∧ (∃ (I18 : Int → Prop) (mu19 : Int → Nat), I18 0 ∧ ∀ (x17 : Int), (I18 x17 → ((x17 < ((gl2 : Nat) : Int) → (∃ (b20 o21 : Nat), ga1 = some ⟨b20, o21, none⟩ ∧ (0 : Int) ≤ x17 ∧ x17 < ((gl2 : Nat) : Int) ∧ (∃ (x22 : X_api_Rule), At M9 b20 (o21 + x17.toNat * 8) x22.cells ∧ (CallE Try.prog 104 #[(.agg #[(.slice ga1 gl2 gc3)]), (.slice xa6 xl7 xc8), x22.Body.val] M9 (fun v _ => ∃ (x24 : Bool), v = (Value.bool x24) ∧ ((x24 = true → K (Value.tuple #[(.int .i64 x17), (.int .i64 9)])) ∧ (¬ (x24 = true) → (InI (x17 + 1) ∧ I18 (x17 + 1) ∧ mu19 (x17 + 1) < mu19 x17)))))))) ∧ (¬ (x17 < ((gl2 : Nat) : Int)) → (∀ (M25 : Mem) (b4 : Nat), M9.le M25 → At M25 b4 0 [(.slice ga1 gl2 gc3)] → (∀ (M26 : Mem) (b10 : Nat), M25.le M26 → At M26 b10 0 [(.slice xa6 xl7 xc8)] → (CallE Try.prog 105 #[(.int .i64 ((gl2 : Nat) : Int)), (Value.func (.func 106) #[] #[(.pointer (some ⟨b4, 0, none⟩)), (.pointer (some ⟨b10, 0, none⟩))])] M26 (fun v M30 => ∃ (xa27 : Option Addr) (xl28 : Nat) (xc29 : Nat), v = (Value.slice xa27 xl28 xc29) ∧ (∃ (I36 : Int → Prop) (mu37 : Int → Nat), I36 0 ∧ ∀ (x35 : Int), (I36 x35 → ((x35 < ((xl28 : Nat) : Int) → (∃ (b38 o39 : Nat), xa27 = some ⟨b38, o39, none⟩ ∧ (0 : Int) ≤ x35 ∧ x35 < ((xl28 : Nat) : Int) ∧ (∃ (x40 : Bool), At M30 b38 (o39 + x35.toNat * 1) [(.bool x40)] ∧ ((¬ (x40 = true) → K (Value.tuple #[(.int .i64 x35), (.int .i64 8)])) ∧ (¬ (¬ (x40 = true)) → (InI (x35 + 1) ∧ I36 (x35 + 1) ∧ mu37 (x35 + 1) < mu37 x35)))))) ∧ (¬ (x35 < ((xl28 : Nat) : Int)) → K (Value.tuple #[(.int .i64 0), (.int .i64 0)])))))))))))))))))))
set_option maxRecDepth 100000 in
theorem s_well_Well (ga1 : Option Addr) (gl2 : Nat) (gc3 : Nat) (M : Mem) (K : Value → Prop) (hS : S_well_Well ga1 gl2 gc3 M K) : CallE Try.prog 55 #[(Value.agg #[(Value.slice ga1 gl2 gc3)])] M (fun v _ => K v) := by
 refine enterE Try.func55 rfl 49 rfl (Nat.le_of_ble_eq_true rfl) (fun E a hs => ?_)
 unfold S_well_Well at hS
 have hMM := MX.refl M E
 change Sx 49 E [] M E a [(0, (.agg #[(.slice ga1 gl2 gc3)]))] [] [] at hs
 refine Wp.seq (Wp.region (stepBox [(.slice ga1 gl2 gc3)] hs rfl rfl rfl (by decide) (fun _ _ b4 hEb4 hs => ?_)))
 refine sP (iv 0) hs fun _ hs => ?_
 refine sP (iv 0) hs fun _ hs => ?_
 refine wpList_nil (Wp.seq (Wp.seq (Wp.region (sY (.agg #[(.slice ga1 gl2 gc3)]) hs (Yl.lB [(.slice ga1 gl2 gc3)] true 0) fun _ hs => ?_))))
 refine stepCallP [(.agg #[(.slice ga1 gl2 gc3)])] hs rfl ⟨_, rfl, rfl⟩ rfl Try.func102 rfl (by kernel_rfl) (by decide) hS (fun _ _ v hS hs => ?_)
 obtain ⟨x5, hv, hS⟩ := hS
 subst hv
 refine sP (iv x5) hs fun _ hs => ?_
 refine wpList_nil (Wp.seq (Wp.region (sP (iv x5) hs fun _ hs => ?_)))
 refine sP (.bool ((x5 : Int) != (0 : Int))) hs fun _ hs => ?_
 refine wpList_nil (Wp.cond hs rfl rfl bne_iff_ne (fun hc => ?_) (fun hc => ?_))
 ·have hS := hS.1 hc
  refine Wp.seq (Wp.region (sP (iv x5) hs fun _ hs => ?_))
  refine sP (iv 0) hs fun _ hs => ?_
  refine sP (iv x5) hs fun _ hs => ?_
  exact wpList_nil (Wp.ret (lvE K hs (resTT hs rfl rfl rfl) hMM.2 hS))
 ·have hS := hS.2 hc
  refine Wp.skip (Wp.seq (Wp.region (sY (.agg #[(.slice ga1 gl2 gc3)]) hs (Yl.lB [(.slice ga1 gl2 gc3)] true 0) fun _ hs => ?_)))
  refine stepCallE [(.agg #[(.slice ga1 gl2 gc3)])] hs rfl ⟨_, rfl, rfl⟩ rfl Try.func103 rfl (by kernel_rfl) (by decide) hS (fun _ _ M9 v hle hnew hS hs => ?_)
  have hMM := hMM.next hle hnew
  obtain ⟨xa6, xl7, xc8, hv, hS⟩ := hS
  subst hv
  refine stepAlloc [(.slice none 0 0)] hs (by kernel_rfl) (by decide) (fun _ _ b10 hEb10 hs => ?_)
  refine stB 0 [(.slice xa6 xl7 xc8)] [⟨b10, 168, [(.slice xa6 xl7 xc8)]⟩, ⟨b4, 24, [(.slice ga1 gl2 gc3)]⟩] hs fun _ _ hs => ?_
  refine wpList_nil (Wp.seq (Wp.seq (Wp.region (sP (pt b4 0) hs fun _ hs => ?_))))
  refine sY (.slice ga1 gl2 gc3) hs (Yl.lB [(.slice ga1 gl2 gc3)] false 1) fun _ hs => ?_
  refine sP (iv ((gl2 : Nat) : Int)) hs fun _ hs => ?_
  refine sP (iv 0) hs fun _ hs => ?_
  refine wpList_nil (Wp.block ?_)
  obtain ⟨I18, mu19, hI0, hst⟩ := hS
  refine Wp.loop (σ := (Int)) (fun s a w => match s with | (x17) => Sx 49 E [] M9 w a [(1, (pt b4 0)), (5, (pt b10 0)), (19, (.slice ga1 gl2 gc3)), (20, (iv ((gl2 : Nat) : Int))), (21, (iv x17))] [⟨b10, 168, [(.slice xa6 xl7 xc8)]⟩, ⟨b4, 24, [(.slice ga1 gl2 gc3)]⟩] [] ∧ I18 x17) (fun s => match s with | (x17) => mu19 x17) (0) ⟨(hs.wk ⟨rfl, rfl, rfl, rfl, rfl, trivial⟩), hI0⟩ (fun x17 a w hI => ?_)
  obtain ⟨hs, hI⟩ := hI
  have hS := hst x17 hI
  clear hst hI0 hI
  refine Wp.seq (Wp.region (sP (.bool (decide (x17 < ((gl2 : Nat) : Int)))) hs fun _ hs => ?_))
  refine wpList_nil (Wp.seq (Wp.cond hs rfl rfl decide_eq_true_iff (fun hc => ?_) (fun hc => ?_)))
  ·have hS := hS.1 hc
   refine Wp.skip (Wp.seq (Wp.block (Wp.seq (Wp.region (sP (iv x17) hs fun _ hs => ?_)))))
   obtain ⟨b20, o21, ha, h0, hl, hS⟩ := hS
   refine sY (.pointer (some ⟨b20, o21 + x17.toNat * 8, none⟩)) hs (Yl.indexS (e := 111) (sz := 8) rfl rfl rfl rfl (by kernel_rfl) (by kernel_rfl) ha h0 hl) fun _ hs => ?_
   obtain ⟨x22, hat, hS⟩ := hS
   refine sY x22.val hs (Yl.loadV (vs := x22.cells) true rfl rfl (by kernel_rfl) hat) fun _ hs => ?_
   refine stepAlloc [(.string (mkS [])), (iv 0), (.int .u64 0), (.int .u64 0), (.int .u64 0), (.int .u64 0), (.string (mkS [])), (.slice none 0 0)] hs (by kernel_rfl) (by decide) (fun _ _ b23 hEb23 hs => ?_)
   refine sP (iv x17) hs fun _ hs => ?_
   refine stB 0 x22.cells [⟨b23, 111, x22.cells⟩, ⟨b10, 168, [(.slice xa6 xl7 xc8)]⟩, ⟨b4, 24, [(.slice ga1 gl2 gc3)]⟩] hs fun _ _ hs => ?_
   refine wpList_nil (Wp.seq (Wp.region (sY (.agg #[(.slice ga1 gl2 gc3)]) hs (Yl.lB [(.slice ga1 gl2 gc3)] true 2) fun _ hs => ?_)))
   refine sY (.slice xa6 xl7 xc8) hs (Yl.lB [(.slice xa6 xl7 xc8)] false 1) fun _ hs => ?_
   refine sP (pt b23 1) hs fun _ hs => ?_
   refine sY x22.Body.val hs (Yl.lB x22.Body.cells true 0) fun _ hs => ?_
   refine stepCallP [(.agg #[(.slice ga1 gl2 gc3)]), (.slice xa6 xl7 xc8), x22.Body.val] hs rfl ⟨_, rfl, rfl⟩ rfl Try.func104 rfl (by kernel_rfl) (by decide) hS (fun _ _ v hS hs => ?_)
   obtain ⟨x24, hv, hS⟩ := hS
   subst hv
   refine wpList_nil (Wp.cond hs rfl rfl Iff.rfl (fun hc => ?_) (fun hc => ?_))
   ·have hS := hS.1 hc
    refine Wp.seq (Wp.region (sP (iv x17) hs fun _ hs => ?_))
    refine sP (iv x17) hs fun _ hs => ?_
    refine sP (iv 9) hs fun _ hs => ?_
    exact wpList_nil (Wp.ret (lvE K hs (resTT hs rfl rfl rfl) hMM.2 hS))
   ·have hS := hS.2 hc
    refine Wp.skip (Wp.region ?_)
    obtain ⟨hI, hS⟩ := hS
    refine sY (iv (x17 + 1)) hs (Yl.eq (Yl.pure (v := Value.int .i64 (IntKind.wrap .i64 (x17 + 1))) rfl (fun _ => by kernel_rfl)) (congrArg (Value.int .i64) (wrap_in hI))) fun _ hs => ?_
    refine sP (iv (x17 + 1)) hs fun _ hs => ?_
    exact wpList_nil (⟨(x17 + 1), ⟨(hs.weak (.cons _ (.cons_cons _ (.cons_cons _ List.Sublist.slnil))) (List.Sublist.refl _) ⟨rfl, rfl, rfl, rfl, rfl, trivial⟩), hS.1⟩, hS.2⟩)
  ·have hS := hS.2 hc
   refine Wp.exit rfl (Wp.seq (Wp.region (sP (pt b4 0) hs fun _ hs => ?_)))
   refine sY (.slice ga1 gl2 gc3) hs (Yl.lB [(.slice ga1 gl2 gc3)] false 1) fun _ hs => ?_
   refine sP (iv ((gl2 : Nat) : Int)) hs fun _ hs => ?_
   refine sP (Value.func (.func 106) #[] #[(pt b4 0), (pt b10 0)]) hs fun _ hs => ?_
   obtain ⟨M25, hle, hat, hnew, hs⟩ := hs.freeze 1 rfl hEb4 rfl
   have hMM := hMM.next hle hnew
   have hS := hS M25 b4 hle hat
   obtain ⟨M26, hle, hat, hnew, hs⟩ := hs.freeze 0 rfl hEb10 rfl
   have hMM := hMM.next hle hnew
   have hS := hS M26 b10 hle hat
   refine stepCallE [(iv ((gl2 : Nat) : Int)), (Value.func (.func 106) #[] #[(pt b4 0), (pt b10 0)])] hs rfl ⟨_, rfl, rfl⟩ rfl Try.func105 rfl (by kernel_rfl) (by decide) hS (fun _ _ M30 v hle hnew hS hs => ?_)
   have hMM := hMM.next hle hnew
   obtain ⟨xa27, xl28, xc29, hv, hS⟩ := hS
   subst hv
   refine sP (.slice xa27 xl28 xc29) hs fun _ hs => ?_
   refine wpList_nil (Wp.seq (Wp.seq (Wp.region (sP (.slice xa27 xl28 xc29) hs fun _ hs => ?_))))
   refine sP (iv ((xl28 : Nat) : Int)) hs fun _ hs => ?_
   refine sP (iv 0) hs fun _ hs => ?_
   refine wpList_nil (Wp.block ?_)
   obtain ⟨I36, mu37, hI0, hst⟩ := hS
   refine Wp.loop (σ := (Int)) (fun s a w => match s with | (x35) => Sx 49 E [] M30 w a [(38, (.slice xa27 xl28 xc29)), (39, (iv ((xl28 : Nat) : Int))), (40, (iv x35))] [] [] ∧ I36 x35) (fun s => match s with | (x35) => mu37 x35) (0) ⟨(hs.wk ⟨rfl, rfl, rfl, trivial⟩), hI0⟩ (fun x35 a w hI => ?_)
   obtain ⟨hs, hI⟩ := hI
   have hS := hst x35 hI
   clear hst hI0 hI
   refine Wp.seq (Wp.region (sP (.bool (decide (x35 < ((xl28 : Nat) : Int)))) hs fun _ hs => ?_))
   refine wpList_nil (Wp.seq (Wp.cond hs rfl rfl decide_eq_true_iff (fun hc => ?_) (fun hc => ?_)))
   ·have hS := hS.1 hc
    refine Wp.skip (Wp.seq (Wp.block (Wp.seq (Wp.region (sP (iv x35) hs fun _ hs => ?_)))))
    obtain ⟨b38, o39, ha, h0, hl, hS⟩ := hS
    refine sY (.pointer (some ⟨b38, o39 + x35.toNat * 1, none⟩)) hs (Yl.indexS (e := 4) (sz := 1) rfl rfl rfl rfl (by kernel_rfl) (by kernel_rfl) ha h0 hl) fun _ hs => ?_
    obtain ⟨x40, hat, hS⟩ := hS
    refine sY (.bool x40) hs (Yl.loadV (vs := [(.bool x40)]) false rfl rfl (by kernel_rfl) hat) fun _ hs => ?_
    refine sP (iv x35) hs fun _ hs => ?_
    refine sP (.bool x40) hs fun _ hs => ?_
    refine wpList_nil (Wp.seq (Wp.region (sP (.bool x40) hs fun _ hs => ?_)))
    refine sP (.bool (!x40)) hs fun _ hs => ?_
    refine wpList_nil (Wp.cond hs rfl rfl (bnot_iff Iff.rfl) (fun hc => ?_) (fun hc => ?_))
    ·have hS := hS.1 hc
     refine Wp.seq (Wp.region (sP (iv x35) hs fun _ hs => ?_))
     refine sP (iv x35) hs fun _ hs => ?_
     refine sP (iv 8) hs fun _ hs => ?_
     exact wpList_nil (Wp.ret (lvE K hs (resTT hs rfl rfl rfl) hMM.2 hS))
    ·have hS := hS.2 hc
     refine Wp.skip (Wp.region ?_)
     obtain ⟨hI, hS⟩ := hS
     refine sY (iv (x35 + 1)) hs (Yl.eq (Yl.pure (v := Value.int .i64 (IntKind.wrap .i64 (x35 + 1))) rfl (fun _ => by kernel_rfl)) (congrArg (Value.int .i64) (wrap_in hI))) fun _ hs => ?_
     refine sP (iv (x35 + 1)) hs fun _ hs => ?_
     exact wpList_nil (⟨(x35 + 1), ⟨(hs.wk ⟨rfl, rfl, rfl, trivial⟩), hS.1⟩, hS.2⟩)
   ·have hS := hS.2 hc
    refine Wp.exit rfl (Wp.seq (Wp.region (sP (iv 0) hs fun _ hs => ?_)))
    refine sP (iv 0) hs fun _ hs => ?_
    exact wpList_nil (Wp.ret (lvE K hs (resTT hs rfl rfl rfl) hMM.2 hS))
def S_slices_Clone_int (sa1 : Option Addr) (sl2 : Nat) (sc3 : Nat) (M : Mem) (K : Nat → List Value → Prop) : Prop :=
 ((sa1.isNone = true → K 0 []) ∧ (¬ (sa1.isNone = true) → (∃ (news8 : List Value), SlV M sa1 sl2 sc3 1 news8 ∧ (∀ u ∈ news8, u.oneCell' = true) ∧ (0 + sl2) * 8 ≤ 140737488355328 ∧ K (0 + sl2) ([] ++ news8))))
set_option maxRecDepth 100000 in
theorem s_slices_Clone_int (sa1 : Option Addr) (sl2 : Nat) (sc3 : Nat) (M : Mem) (K : Nat → List Value → Prop) (hS : S_slices_Clone_int sa1 sl2 sc3 M K) : C_slices_Clone_int sa1 sl2 sc3 M K := by
 unfold C_slices_Clone_int
 refine enterL Try.func113 rfl 8 rfl (Nat.le_of_ble_eq_true rfl) (fun E a hs => ?_)
 unfold S_slices_Clone_int at hS
 have hMM := MX.refl M E
 change Sx 8 E (blk [] []) M E a [(0, (.slice sa1 sl2 sc3))] [] [] at hs
 refine Wp.seq (Wp.region (sP (.slice none 0 0) hs fun _ hs => ?_))
 refine wpList_nil (Wp.seq (Wp.seq (Wp.region (sP (.slice sa1 sl2 sc3) hs fun _ hs => ?_))))
 refine sY (.bool sa1.isNone) hs (Yl.slNil (e := 3) rfl (by kernel_rfl) rfl rfl) fun _ hs => ?_
 refine wpList_nil (Wp.cond hs rfl rfl Iff.rfl (fun hc => ?_) (fun hc => ?_))
 ·have hS := hS.1 hc
  refine Wp.seq (Wp.region (sP (.slice none 0 0) hs fun _ hs => ?_))
  refine wpList_nil (Wp.ret ?_)
  have hs := hs.nilrow 3 1
  exact leaveL hs (resT hs rfl rfl) hMM.1 hMM.2 [] [⟨(Value.slice none 0 0), 3, 1, 0, [], true⟩] (List.Sublist.refl _) (List.Sublist.refl _) rfl ⟨0, [], (.slice none 0 0), rfl, rfl, rfl, hS⟩
 ·have hS := hS.2 hc
  refine Wp.skip (Wp.seq (Wp.region (stepMake [] 3 1 0 hs rfl rfl rfl (fun _ => by kernel_rfl) rfl (by unfold maxLen; decide) (by decide) (fun _ _ rv7 hs => ?_))))
  refine sP (.slice sa1 sl2 sc3) hs fun _ hs => ?_
  obtain ⟨news8, hsl, ho, hS⟩ := hS
  obtain ⟨hB, hS⟩ := hS
  refine stepAppend 0 news8 hs rfl rfl rfl rfl rfl (by kernel_rfl) (by kernel_rfl) (by decide) (by decide) (hs.srcV hsl ho) (lenb hB (by decide)) hB (fun _ _ rv9 hs => ?_)
  replace hs := hs.chrs (rs' := [⟨rv9, 3, 1, (0 + sl2), ([] ++ news8), true⟩]) rfl
  refine sP rv9 hs fun _ hs => ?_
  exact wpList_nil (Wp.ret (leaveL hs (resT hs rfl rfl) hMM.1 hMM.2 [] [⟨rv9, 3, 1, (0 + sl2), ([] ++ news8), true⟩] (List.Sublist.refl _) (List.Sublist.refl _) rfl ⟨(0 + sl2), ([] ++ news8), rv9, rfl, rfl, rfl, hS⟩))
def S_chaffref_mayAll_J4 (out13 : Int) (x14 : Bool) (K : Value → Prop) : Prop :=
 ((x14 = true → K (Value.int .i64 (bOr .i64 out13 2))) ∧ (¬ (x14 = true) → K (Value.int .i64 out13)))
def S_chaffref_mayAll_J3 (x9 : Int) (x10 : Int) (out13 : Int) (K : Value → Prop) : Prop :=
 ((bAnd .i64 x9 2 > 0 → ((bAnd .i64 x10 3 > 0 → (S_chaffref_mayAll_J4 out13 true K)) ∧ (¬ (bAnd .i64 x10 3 > 0) → ((bAnd .i64 x9 3 > 0 → (S_chaffref_mayAll_J4 out13 (decide (bAnd .i64 x10 2 > 0)) K)) ∧ (¬ (bAnd .i64 x9 3 > 0) → (S_chaffref_mayAll_J4 out13 false K)))))) ∧ (¬ (bAnd .i64 x9 2 > 0) → ((bAnd .i64 x9 3 > 0 → (S_chaffref_mayAll_J4 out13 (decide (bAnd .i64 x10 2 > 0)) K)) ∧ (¬ (bAnd .i64 x9 3 > 0) → (S_chaffref_mayAll_J4 out13 false K)))))
def S_chaffref_mayAll_J2 (x9 : Int) (x10 : Int) (out11 : Int) (x12 : Bool) (K : Value → Prop) : Prop :=
 ((x12 = true → (S_chaffref_mayAll_J3 x9 x10 (bOr .i64 out11 1) K)) ∧ (¬ (x12 = true) → (S_chaffref_mayAll_J3 x9 x10 out11 K)))
def S_chaffref_mayAll_J1 (x9 : Int) (x10 : Int) (out11 : Int) (K : Value → Prop) : Prop :=
 ((bAnd .i64 x9 1 > 0 → (S_chaffref_mayAll_J2 x9 x10 out11 (decide (bAnd .i64 x10 1 > 0)) K)) ∧ (¬ (bAnd .i64 x9 1 > 0) → (S_chaffref_mayAll_J2 x9 x10 out11 false K)))
def S_chaffref_mayAll (la1 : Option Addr) (ll2 : Nat) (lc3 : Nat) (M : Mem) (K : Value → Prop) : Prop :=
 ((((ll2 : Nat) : Int) = 1 → (∃ (b4 o5 : Nat), la1 = some ⟨b4, o5, none⟩ ∧ (0 : Int) ≤ 0 ∧ 0 < ((ll2 : Nat) : Int) ∧ (∃ (x6 : Int), At M b4 (o5 + (0 : Int).toNat * 1) [(.int .i64 x6)] ∧ K (Value.int .i64 x6)))) ∧ (¬ (((ll2 : Nat) : Int) = 1) → (∃ (b7 o8 : Nat), la1 = some ⟨b7, o8, none⟩ ∧ (0 : Int) ≤ 0 ∧ 0 < ((ll2 : Nat) : Int) ∧ (∃ (x9 : Int), At M b7 (o8 + (0 : Int).toNat * 1) [(.int .i64 x9)] ∧ ((0 : Int) ≤ 1 ∧ (1 : Int) ≤ ((ll2 : Nat) : Int) ∧ (CallE Try.prog 114 #[(.slice (slA la1 (1 : Int).toNat lc3 1) (ll2 - (1 : Int).toNat) (lc3 - (1 : Int).toNat))] M (fun v _ => ∃ (x10 : Int), v = (Value.int .i64 x10) ∧ ((bAnd .i64 x9 3 > 0 → (S_chaffref_mayAll_J1 x9 x10 (bOr .i64 (bAnd .i64 x9 4) (bAnd .i64 x10 4)) K)) ∧ (¬ (bAnd .i64 x9 3 > 0) → (S_chaffref_mayAll_J1 x9 x10 (bAnd .i64 x9 4) K))))))))))
set_option maxRecDepth 100000 in
theorem s_chaffref_mayAll (la1 : Option Addr) (ll2 : Nat) (lc3 : Nat) (M : Mem) (K : Value → Prop) (hS : S_chaffref_mayAll la1 ll2 lc3 M K) : CallE Try.prog 114 #[(Value.slice la1 ll2 lc3)] M (fun v _ => K v) := by
 refine enterE Try.func114 rfl 58 rfl (Nat.le_of_ble_eq_true rfl) (fun E a hs => ?_)
 unfold S_chaffref_mayAll at hS
 have hMM := MX.refl M E
 change Sx 58 E [] M E a [(0, (.slice la1 ll2 lc3))] [] [] at hs
 refine Wp.seq (Wp.region (sP (iv 0) hs fun _ hs => ?_))
 refine wpList_nil (Wp.seq (Wp.seq (Wp.region (sP (.slice la1 ll2 lc3) hs fun _ hs => ?_))))
 refine sP (iv ((ll2 : Nat) : Int)) hs fun _ hs => ?_
 refine sP (.bool (((ll2 : Nat) : Int) == (1 : Int))) hs fun _ hs => ?_
 refine wpList_nil (Wp.cond hs rfl rfl beq_iff_eq (fun hc => ?_) (fun hc => ?_))
 ·have hS := hS.1 hc
  refine Wp.seq (Wp.region (sP (.slice la1 ll2 lc3) hs fun _ hs => ?_))
  obtain ⟨b4, o5, ha, h0, hl, hS⟩ := hS
  refine sY (.pointer (some ⟨b4, o5 + (0 : Int).toNat * 1, none⟩)) hs (Yl.indexS (e := 3) (sz := 1) rfl rfl rfl rfl (by kernel_rfl) (by kernel_rfl) ha h0 hl) fun _ hs => ?_
  obtain ⟨x6, hat, hS⟩ := hS
  refine sY (iv x6) hs (Yl.loadV (vs := [(iv x6)]) false rfl rfl (by kernel_rfl) hat) fun _ hs => ?_
  refine sP (iv x6) hs fun _ hs => ?_
  exact wpList_nil (Wp.ret (lvE K hs (resT hs rfl rfl) hMM.2 hS))
 ·have hS := hS.2 hc
  refine Wp.skip (Wp.seq (Wp.regionD [true, true, true, true, true, true, true, true] hs (by kernel_rfl) rfl [] (fun _ h => h) [] (fun _ h => h) (fun _ hs hC => ?_)))
  have hL := Mem.le.refl M
  refine dP (Value.slice la1 ll2 lc3) 0 [1, 2, 6, 7] hs QZ.no (wanted_none rfl) fun _ hs => ?_
  obtain ⟨b7, o8, ha, h0, hl, hS⟩ := hS
  refine stepDP (v := (.pointer (some ⟨b7, o8 + (0 : Int).toNat * 1, none⟩))) 1 [2, 6, 7] hs QZ.no rfl (wanted_none rfl) rfl (by decide) (by kernel_rfl) (by kernel_rfl) (by kernel_rfl) (Yl.indexS (e := 3) (sz := 1) rfl rfl rfl rfl (by kernel_rfl) (by kernel_rfl) ha h0 hl) (fun _ hs => ?_)
  obtain ⟨x9, hat, hS⟩ := hS
  refine stepDY (v := (iv x9)) 2 [6, 7] hs hC QZ.no rfl (wanted_none rfl) rfl (by decide) (by kernel_rfl) (by kernel_rfl) (by kernel_rfl) (Yl.loadV (vs := [(iv x9)]) false rfl rfl (by kernel_rfl) hat) (fun _ hs => ?_)
  refine sE 3 ?_
  refine sP (.slice la1 ll2 lc3) hs fun _ hs => ?_
  refine wpList_nil (⟨fun _ h => h, ?_⟩)
  refine sE 4 ?_
  obtain ⟨h0, h1, hS⟩ := hS
  refine sY (.slice (slA la1 (1 : Int).toNat lc3 1) (ll2 - (1 : Int).toNat) (lc3 - (1 : Int).toNat)) hs (Yl.sliceSL (e := 3) rfl rfl rfl rfl (by kernel_rfl) (by kernel_rfl) h0 h1) fun _ hs => ?_
  refine wpList_nil (⟨fun _ h => h, ?_⟩)
  refine sE 5 ?_
  refine stepCallP [(.slice (slA la1 (1 : Int).toNat lc3 1) (ll2 - (1 : Int).toNat) (lc3 - (1 : Int).toNat))] hs rfl ⟨_, rfl, rfl⟩ rfl Try.func114 rfl (by kernel_rfl) (by decide) hS (fun _ _ v hS hs => ?_)
  obtain ⟨x10, hv, hS⟩ := hS
  subst hv
  refine wpList_nil (⟨fun _ _ => hs.cxle hL (List.Sublist.refl _) (List.Sublist.refl _), ?_⟩)
  have hC := hs.cxle hL (List.Sublist.refl _) (List.Sublist.refl _)
  refine sE 6 ?_
  refine sP (iv x9) hs fun _ hs => ?_
  refine wpList_nil (⟨fun _ h => h, ?_⟩)
  refine sE 7 ?_
  refine sP (iv x10) hs fun _ hs => ?_
  refine wpList_nil (⟨fun _ h => h, ?_⟩)
  refine WpD.done (by kernel_rfl) ?_ _
  refine Wp.seq (Wp.region (sP (iv x9) hs fun _ hs => ?_))
  refine sP (iv (bAnd .i64 x9 4)) hs fun _ hs => ?_
  refine sP (iv (bAnd .i64 x9 4)) hs fun _ hs => ?_
  refine wpList_nil (Wp.join (fun a w => ∃ (out11 : Int), Sx 58 E [] M w a [(3, (iv x9)), (4, (iv x10)), (5, (iv out11))] [] [] ∧ (S_chaffref_mayAll_J1 x9 x10 out11 K)) ?_ ?_)
  ·refine Wp.seq (Wp.region (sP (iv x9) hs fun _ hs => ?_))
   refine sP (iv (bAnd .i64 x9 3)) hs fun _ hs => ?_
   refine sP (.bool (decide (bAnd .i64 x9 3 > 0))) hs fun _ hs => ?_
   refine wpList_nil (Wp.cond hs rfl rfl decide_eq_true_iff (fun hc => ?_) (fun hc => ?_))
   ·have hS := hS.1 hc
    refine Wp.region (sP (iv (bAnd .i64 x9 4)) hs fun _ hs => ?_)
    refine sP (iv x10) hs fun _ hs => ?_
    refine sP (iv (bAnd .i64 x10 4)) hs fun _ hs => ?_
    refine sP (iv (bOr .i64 (bAnd .i64 x9 4) (bAnd .i64 x10 4))) hs fun _ hs => ?_
    refine sP (iv (bOr .i64 (bAnd .i64 x9 4) (bAnd .i64 x10 4))) hs fun _ hs => ?_
    exact wpList_nil (⟨(bOr .i64 (bAnd .i64 x9 4) (bAnd .i64 x10 4)), (hs.wk ⟨rfl, rfl, rfl, trivial⟩), hS⟩)
   ·have hS := hS.2 hc
    exact Wp.skip (⟨(bAnd .i64 x9 4), (hs.wk ⟨rfl, rfl, rfl, trivial⟩), hS⟩)
  ·intro a w hJ
   obtain ⟨out11, hs, hS⟩ := hJ
   unfold S_chaffref_mayAll_J1 at hS
   refine Wp.join (fun a w => ∃ (out13 : Int), Sx 58 E [] M w a [(3, (iv x9)), (4, (iv x10)), (5, (iv out13))] [] [] ∧ (S_chaffref_mayAll_J3 x9 x10 out13 K)) ?_ ?_
   ·refine Wp.join (fun a w => ∃ (x12 : Bool), Sx 58 E [] M w a [(3, (iv x9)), (4, (iv x10)), (5, (iv out11)), (34, (.bool x12))] [] [] ∧ (S_chaffref_mayAll_J2 x9 x10 out11 x12 K)) ?_ ?_
    ·refine Wp.region (sP (iv x9) hs fun _ hs => ?_)
     refine sP (iv (bAnd .i64 x9 1)) hs fun _ hs => ?_
     refine sP (.bool (decide (bAnd .i64 x9 1 > 0))) hs fun _ hs => ?_
     refine sP (.bool (decide (bAnd .i64 x9 1 > 0))) hs fun _ hs => ?_
     refine bsplit (decide (bAnd .i64 x9 1 > 0)) decide_eq_true_iff (fun hb hc => ?_) (fun hb hc => ?_)
     ·have hs := hs.bt hb
      have hS := hS.1 hc
      refine sYe hs (sP (iv x10) hs fun _ hs => ?_)
      refine sYe hs (sP (iv (bAnd .i64 x10 1)) hs fun _ hs => ?_)
      refine sYe hs (sP (.bool (decide (bAnd .i64 x10 1 > 0))) hs fun _ hs => ?_)
      refine sP (.bool (decide (bAnd .i64 x10 1 > 0))) hs fun _ hs => ?_
      exact wpList_nil (⟨(decide (bAnd .i64 x10 1 > 0)), (hs.wk ⟨rfl, rfl, rfl, rfl, trivial⟩), hS⟩)
     ·have hs := hs.bf hb
      have hS := hS.2 hc
      refine sNo hs fun _ hs => ?_
      refine sNo hs fun _ hs => ?_
      refine sNo hs fun _ hs => ?_
      refine sP (.bool false) hs fun _ hs => ?_
      exact wpList_nil (⟨false, (hs.wk ⟨rfl, rfl, rfl, rfl, trivial⟩), hS⟩)
    ·intro a w hJ
     obtain ⟨x12, hs, hS⟩ := hJ
     unfold S_chaffref_mayAll_J2 at hS
     refine Wp.cond hs rfl rfl Iff.rfl (fun hc => ?_) (fun hc => ?_)
     ·have hS := hS.1 hc
      refine Wp.region (sP (iv out11) hs fun _ hs => ?_)
      refine sP (iv (bOr .i64 out11 1)) hs fun _ hs => ?_
      refine sP (iv (bOr .i64 out11 1)) hs fun _ hs => ?_
      exact wpList_nil (⟨(bOr .i64 out11 1), (hs.wk ⟨rfl, rfl, rfl, trivial⟩), hS⟩)
     ·have hS := hS.2 hc
      exact Wp.skip (⟨out11, (hs.wk ⟨rfl, rfl, rfl, trivial⟩), hS⟩)
   ·intro a w hJ
    obtain ⟨out13, hs, hS⟩ := hJ
    unfold S_chaffref_mayAll_J3 at hS
    refine Wp.seq (Wp.join (fun a w => ∃ (x14 : Bool), Sx 58 E [] M w a [(5, (iv out13)), (54, (.bool x14))] [] [] ∧ (S_chaffref_mayAll_J4 out13 x14 K)) ?_ ?_)
    ·refine Wp.region (sP (iv x9) hs fun _ hs => ?_)
     refine sP (iv (bAnd .i64 x9 2)) hs fun _ hs => ?_
     refine sP (.bool (decide (bAnd .i64 x9 2 > 0))) hs fun _ hs => ?_
     refine sP (.bool (decide (bAnd .i64 x9 2 > 0))) hs fun _ hs => ?_
     refine bsplit (decide (bAnd .i64 x9 2 > 0)) decide_eq_true_iff (fun hb hc => ?_) (fun hb hc => ?_)
     ·have hs := hs.bt hb
      have hS := hS.1 hc
      refine sYe hs (sP (iv x10) hs fun _ hs => ?_)
      refine sYe hs (sP (iv (bAnd .i64 x10 3)) hs fun _ hs => ?_)
      refine sYe hs (sP (.bool (decide (bAnd .i64 x10 3 > 0))) hs fun _ hs => ?_)
      refine sP (.bool (decide (bAnd .i64 x10 3 > 0))) hs fun _ hs => ?_
      refine sP (.bool (decide (bAnd .i64 x10 3 > 0))) hs fun _ hs => ?_
      refine bsplit (decide (bAnd .i64 x10 3 > 0)) decide_eq_true_iff (fun hb hc => ?_) (fun hb hc => ?_)
      ·have hs := hs.bt hb
       have hS := hS.1 hc
       refine sNo hs fun _ hs => ?_
       refine sNo hs fun _ hs => ?_
       refine sNo hs fun _ hs => ?_
       refine sNo hs fun _ hs => ?_
       refine sNu hs fun _ hs => ?_
       refine sNu hs fun _ hs => ?_
       refine sNu hs fun _ hs => ?_
       refine sNo hs fun _ hs => ?_
       refine sP (.bool true) hs fun _ hs => ?_
       exact wpList_nil (⟨true, (hs.wk ⟨rfl, rfl, trivial⟩), hS⟩)
      ·have hs := hs.bf hb
       have hS := hS.2 hc
       refine sYe hs (sP (iv x9) hs fun _ hs => ?_)
       refine sYe hs (sP (iv (bAnd .i64 x9 3)) hs fun _ hs => ?_)
       refine sYe hs (sP (.bool (decide (bAnd .i64 x9 3 > 0))) hs fun _ hs => ?_)
       refine sYe hs (sP (.bool (decide (bAnd .i64 x9 3 > 0))) hs fun _ hs => ?_)
       refine bsplit (decide (bAnd .i64 x9 3 > 0)) decide_eq_true_iff (fun hb hc => ?_) (fun hb hc => ?_)
       ·have hs := hs.bt hb
        have hS := hS.1 hc
        refine sYe hs (sP (iv x10) hs fun _ hs => ?_)
        refine sYe hs (sP (iv (bAnd .i64 x10 2)) hs fun _ hs => ?_)
        refine sYe hs (sP (.bool (decide (bAnd .i64 x10 2 > 0))) hs fun _ hs => ?_)
        refine sYe hs (sP (.bool (decide (bAnd .i64 x10 2 > 0))) hs fun _ hs => ?_)
        refine sP (.bool (decide (bAnd .i64 x10 2 > 0))) hs fun _ hs => ?_
        exact wpList_nil (⟨(decide (bAnd .i64 x10 2 > 0)), (hs.wk ⟨rfl, rfl, trivial⟩), hS⟩)
       ·have hs := hs.bf hb
        have hS := hS.2 hc
        refine sNo hs fun _ hs => ?_
        refine sNo hs fun _ hs => ?_
        refine sNo hs fun _ hs => ?_
        refine sYe hs (sP (.bool false) hs fun _ hs => ?_)
        refine sP (.bool false) hs fun _ hs => ?_
        exact wpList_nil (⟨false, (hs.wk ⟨rfl, rfl, trivial⟩), hS⟩)
     ·have hs := hs.bf hb
      have hS := hS.2 hc
      refine sNo hs fun _ hs => ?_
      refine sNo hs fun _ hs => ?_
      refine sNo hs fun _ hs => ?_
      refine sP (.bool false) hs fun _ hs => ?_
      refine sP (.bool false) hs fun _ hs => ?_
      refine sYe hs (sP (iv x9) hs fun _ hs => ?_)
      refine sYe hs (sP (iv (bAnd .i64 x9 3)) hs fun _ hs => ?_)
      refine sYe hs (sP (.bool (decide (bAnd .i64 x9 3 > 0))) hs fun _ hs => ?_)
      refine sYe hs (sP (.bool (decide (bAnd .i64 x9 3 > 0))) hs fun _ hs => ?_)
      refine bsplit (decide (bAnd .i64 x9 3 > 0)) decide_eq_true_iff (fun hb hc => ?_) (fun hb hc => ?_)
      ·have hs := hs.bt hb
       have hS := hS.1 hc
       refine sYe hs (sP (iv x10) hs fun _ hs => ?_)
       refine sYe hs (sP (iv (bAnd .i64 x10 2)) hs fun _ hs => ?_)
       refine sYe hs (sP (.bool (decide (bAnd .i64 x10 2 > 0))) hs fun _ hs => ?_)
       refine sYe hs (sP (.bool (decide (bAnd .i64 x10 2 > 0))) hs fun _ hs => ?_)
       refine sP (.bool (decide (bAnd .i64 x10 2 > 0))) hs fun _ hs => ?_
       exact wpList_nil (⟨(decide (bAnd .i64 x10 2 > 0)), (hs.wk ⟨rfl, rfl, trivial⟩), hS⟩)
      ·have hs := hs.bf hb
       have hS := hS.2 hc
       refine sNo hs fun _ hs => ?_
       refine sNo hs fun _ hs => ?_
       refine sNo hs fun _ hs => ?_
       refine sYe hs (sP (.bool false) hs fun _ hs => ?_)
       refine sP (.bool false) hs fun _ hs => ?_
       exact wpList_nil (⟨false, (hs.wk ⟨rfl, rfl, trivial⟩), hS⟩)
    ·intro a w hJ
     obtain ⟨x14, hs, hS⟩ := hJ
     unfold S_chaffref_mayAll_J4 at hS
     refine Wp.cond hs rfl rfl Iff.rfl (fun hc => ?_) (fun hc => ?_)
     ·have hS := hS.1 hc
      refine Wp.region (sP (iv out13) hs fun _ hs => ?_)
      refine sP (iv (bOr .i64 out13 2)) hs fun _ hs => ?_
      refine sP (iv (bOr .i64 out13 2)) hs fun _ hs => ?_
      refine wpList_nil (Wp.seq (Wp.region (sP (iv (bOr .i64 out13 2)) hs fun _ hs => ?_)))
      refine sP (iv (bOr .i64 out13 2)) hs fun _ hs => ?_
      exact wpList_nil (Wp.ret (lvE K hs (resT hs rfl rfl) hMM.2 hS))
     ·have hS := hS.2 hc
      refine Wp.skip (Wp.seq (Wp.region (sP (iv out13) hs fun _ hs => ?_)))
      refine sP (iv out13) hs fun _ hs => ?_
      exact wpList_nil (Wp.ret (lvE K hs (resT hs rfl rfl) hMM.2 hS))
def S_chaffref_mayOne_J1 (la1 : Option Addr) (ll2 : Nat) (lc3 : Nat) (M : Mem) (x7 : Bool) (K : Value → Prop) : Prop :=
 ((x7 = true → (∃ (b8 o9 : Nat), la1 = some ⟨b8, o9, none⟩ ∧ (0 : Int) ≤ 0 ∧ 0 < ((ll2 : Nat) : Int) ∧ (∃ (x10 : Int), At M b8 (o9 + (0 : Int).toNat * 1) [(.int .i64 x10)] ∧ K (Value.int .i64 x10)))) ∧ (¬ (x7 = true) → (∃ (b11 o12 : Nat), la1 = some ⟨b11, o12, none⟩ ∧ (0 : Int) ≤ 0 ∧ 0 < ((ll2 : Nat) : Int) ∧ (∃ (x13 : Int), At M b11 (o12 + (0 : Int).toNat * 1) [(.int .i64 x13)] ∧ ((0 : Int) ≤ 1 ∧ (1 : Int) ≤ ((ll2 : Nat) : Int) ∧ (CallE Try.prog 115 #[(.slice (slA la1 (1 : Int).toNat lc3 1) (ll2 - (1 : Int).toNat) (lc3 - (1 : Int).toNat))] M (fun v _ => ∃ (x14 : Int), v = (Value.int .i64 x14) ∧ K (Value.int .i64 (bOr .i64 (bAnd .i64 x13 3) x14)))))))))
def S_chaffref_mayOne (la1 : Option Addr) (ll2 : Nat) (lc3 : Nat) (M : Mem) (K : Value → Prop) : Prop :=
 ((((ll2 : Nat) : Int) = 1 → (S_chaffref_mayOne_J1 la1 ll2 lc3 M true K)) ∧ (¬ (((ll2 : Nat) : Int) = 1) → (∃ (b4 o5 : Nat), la1 = some ⟨b4, o5, none⟩ ∧ (0 : Int) ≤ 0 ∧ 0 < ((ll2 : Nat) : Int) ∧ (∃ (x6 : Int), At M b4 (o5 + (0 : Int).toNat * 1) [(.int .i64 x6)] ∧ (S_chaffref_mayOne_J1 la1 ll2 lc3 M ((bAnd .i64 x6 4 : Int) == (0 : Int)) K)))))
set_option maxRecDepth 100000 in
theorem s_chaffref_mayOne (la1 : Option Addr) (ll2 : Nat) (lc3 : Nat) (M : Mem) (K : Value → Prop) (hS : S_chaffref_mayOne la1 ll2 lc3 M K) : CallE Try.prog 115 #[(Value.slice la1 ll2 lc3)] M (fun v _ => K v) := by
 refine enterE Try.func115 rfl 24 rfl (Nat.le_of_ble_eq_true rfl) (fun E a hs => ?_)
 unfold S_chaffref_mayOne at hS
 have hMM := MX.refl M E
 change Sx 24 E [] M E a [(0, (.slice la1 ll2 lc3))] [] [] at hs
 refine Wp.seq (Wp.region (sP (iv 0) hs fun _ hs => ?_))
 refine wpList_nil (Wp.seq (Wp.join (fun a w => ∃ (x7 : Bool), Sx 24 E [] M w a [(0, (.slice la1 ll2 lc3)), (12, (.bool x7))] [] [] ∧ (S_chaffref_mayOne_J1 la1 ll2 lc3 M x7 K)) ?_ ?_))
 ·refine Wp.region (sP (.slice la1 ll2 lc3) hs fun _ hs => ?_)
  refine sP (iv ((ll2 : Nat) : Int)) hs fun _ hs => ?_
  refine sP (.bool (((ll2 : Nat) : Int) == (1 : Int))) hs fun _ hs => ?_
  refine sP (.bool (((ll2 : Nat) : Int) == (1 : Int))) hs fun _ hs => ?_
  refine bsplit (((ll2 : Nat) : Int) == (1 : Int)) beq_iff_eq (fun hb hc => ?_) (fun hb hc => ?_)
  ·have hs := hs.bt hb
   have hS := hS.1 hc
   refine sNo hs fun _ hs => ?_
   refine sNo hs fun _ hs => ?_
   refine sNo hs fun _ hs => ?_
   refine sNo hs fun _ hs => ?_
   refine sNo hs fun _ hs => ?_
   refine sP (.bool true) hs fun _ hs => ?_
   exact wpList_nil (⟨true, (hs.wk ⟨rfl, rfl, trivial⟩), hS⟩)
  ·have hs := hs.bf hb
   have hS := hS.2 hc
   refine sYe hs (sP (.slice la1 ll2 lc3) hs fun _ hs => ?_)
   refine sYe hs ?_
   obtain ⟨b4, o5, ha, h0, hl, hS⟩ := hS
   refine sY (.pointer (some ⟨b4, o5 + (0 : Int).toNat * 1, none⟩)) hs (Yl.indexS (e := 3) (sz := 1) rfl rfl rfl rfl (by kernel_rfl) (by kernel_rfl) ha h0 hl) fun _ hs => ?_
   refine sYe hs ?_
   obtain ⟨x6, hat, hS⟩ := hS
   refine sY (iv x6) hs (Yl.loadV (vs := [(iv x6)]) false rfl rfl (by kernel_rfl) hat) fun _ hs => ?_
   refine sYe hs (sP (iv (bAnd .i64 x6 4)) hs fun _ hs => ?_)
   refine sYe hs (sP (.bool ((bAnd .i64 x6 4 : Int) == (0 : Int))) hs fun _ hs => ?_)
   refine sP (.bool ((bAnd .i64 x6 4 : Int) == (0 : Int))) hs fun _ hs => ?_
   exact wpList_nil (⟨((bAnd .i64 x6 4 : Int) == (0 : Int)), (hs.wk ⟨rfl, rfl, trivial⟩), hS⟩)
 ·intro a w hJ
  obtain ⟨x7, hs, hS⟩ := hJ
  unfold S_chaffref_mayOne_J1 at hS
  refine Wp.cond hs rfl rfl Iff.rfl (fun hc => ?_) (fun hc => ?_)
  ·have hS := hS.1 hc
   refine Wp.seq (Wp.region (sP (.slice la1 ll2 lc3) hs fun _ hs => ?_))
   obtain ⟨b8, o9, ha, h0, hl, hS⟩ := hS
   refine sY (.pointer (some ⟨b8, o9 + (0 : Int).toNat * 1, none⟩)) hs (Yl.indexS (e := 3) (sz := 1) rfl rfl rfl rfl (by kernel_rfl) (by kernel_rfl) ha h0 hl) fun _ hs => ?_
   obtain ⟨x10, hat, hS⟩ := hS
   refine sY (iv x10) hs (Yl.loadV (vs := [(iv x10)]) false rfl rfl (by kernel_rfl) hat) fun _ hs => ?_
   refine sP (iv x10) hs fun _ hs => ?_
   exact wpList_nil (Wp.ret (lvE K hs (resT hs rfl rfl) hMM.2 hS))
  ·have hS := hS.2 hc
   refine Wp.skip (Wp.seq (Wp.regionD [true, true, true, true, true, true, true, true, true] hs (by kernel_rfl) rfl [] (fun _ h => h) [] (fun _ h => h) (fun _ hs hC => ?_)))
   have hL := Mem.le.refl M
   refine dP (Value.slice la1 ll2 lc3) 0 [1, 2, 3, 7, 8] hs QZ.no (wanted_none rfl) fun _ hs => ?_
   obtain ⟨b11, o12, ha, h0, hl, hS⟩ := hS
   refine stepDP (v := (.pointer (some ⟨b11, o12 + (0 : Int).toNat * 1, none⟩))) 1 [2, 3, 7, 8] hs QZ.no rfl (wanted_none rfl) rfl (by decide) (by kernel_rfl) (by kernel_rfl) (by kernel_rfl) (Yl.indexS (e := 3) (sz := 1) rfl rfl rfl rfl (by kernel_rfl) (by kernel_rfl) ha h0 hl) (fun _ hs => ?_)
   obtain ⟨x13, hat, hS⟩ := hS
   refine stepDY (v := (iv x13)) 2 [3, 7, 8] hs hC QZ.no rfl (wanted_none rfl) rfl (by decide) (by kernel_rfl) (by kernel_rfl) (by kernel_rfl) (Yl.loadV (vs := [(iv x13)]) false rfl rfl (by kernel_rfl) hat) (fun _ hs => ?_)
   refine dP (iv (bAnd .i64 x13 3)) 3 [7, 8] hs QZ.no (wanted_none rfl) fun _ hs => ?_
   refine sE 4 ?_
   refine sP (.slice la1 ll2 lc3) hs fun _ hs => ?_
   refine wpList_nil (⟨fun _ h => h, ?_⟩)
   refine sE 5 ?_
   obtain ⟨h0, h1, hS⟩ := hS
   refine sY (.slice (slA la1 (1 : Int).toNat lc3 1) (ll2 - (1 : Int).toNat) (lc3 - (1 : Int).toNat)) hs (Yl.sliceSL (e := 3) rfl rfl rfl rfl (by kernel_rfl) (by kernel_rfl) h0 h1) fun _ hs => ?_
   refine wpList_nil (⟨fun _ h => h, ?_⟩)
   refine sE 6 ?_
   refine stepCallP [(.slice (slA la1 (1 : Int).toNat lc3 1) (ll2 - (1 : Int).toNat) (lc3 - (1 : Int).toNat))] hs rfl ⟨_, rfl, rfl⟩ rfl Try.func115 rfl (by kernel_rfl) (by decide) hS (fun _ _ v hS hs => ?_)
   obtain ⟨x14, hv, hS⟩ := hS
   subst hv
   refine wpList_nil (⟨fun _ _ => hs.cxle hL (List.Sublist.refl _) (List.Sublist.refl _), ?_⟩)
   have hC := hs.cxle hL (List.Sublist.refl _) (List.Sublist.refl _)
   refine sE 7 ?_
   refine sP (iv (bOr .i64 (bAnd .i64 x13 3) x14)) hs fun _ hs => ?_
   refine wpList_nil (⟨fun _ h => h, ?_⟩)
   refine sE 8 ?_
   refine sP (iv (bOr .i64 (bAnd .i64 x13 3) x14)) hs fun _ hs => ?_
   refine wpList_nil (⟨fun _ h => h, ?_⟩)
   refine WpD.done (by kernel_rfl) ?_ _
   exact Wp.ret (lvE K hs (resT hs rfl rfl) hMM.2 hS)
def S_chaffref_May_J2 (e7 : X_api_Expr) (x65 : Int) (some76 : Int) (K : Value → Prop) : Prop :=
 (((e7.Kind : Int) = 10 → K (Value.int .i64 (bOr .i64 some76 (bAnd .i64 x65 4)))) ∧ (¬ ((e7.Kind : Int) = 10) → K (Value.int .i64 (bOr .i64 (bAnd .i64 (bShr .i64 x65 2) 1) (bShl .i64 some76 2)))))

end Go.Proofs.Ytifkffmecfgpeaa.core
