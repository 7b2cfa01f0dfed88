/- What the code computes, function for function, as shallow propositions; printed by program. -/
import Derived.Test.YtifkffmecfgpeaaCoreG
namespace Go.Proofs.Ytifkffmecfgpeaa.core
open Go.Gx Go.RowKit Go.ChangeShapes Go.WideShapes Go.ChangeAt
set_option linter.unusedVariables false
def S_set_Has (s1 : X_api_Set) (b2 : Int) (M : Mem) (K : Value → Prop) : Prop :=
 ((0 : Int) ≤ bShr .u8 b2 6 ∧ bShr .u8 b2 6 < (4 : Int) ∧ (∃ x4 : Int, [s1.w0, s1.w1, s1.w2, s1.w3][0 + (bShr .u8 b2 6).toNat * 1]? = some x4 ∧ ((0 : Int) ≤ bAnd .u8 b2 63 ∧ K (Value.bool ((bAnd .u64 (bShr .u64 x4 (bAnd .u8 b2 63)) 1 : Int) == (1 : Int))))))
set_option maxRecDepth 100000 in
theorem s_set_Has (s1 : X_api_Set) (b2 : Int) (M : Mem) (K : Value → Prop) (hS : S_set_Has s1 b2 M K) : CallE Try.prog 96 #[s1.val, (Value.int .u8 b2)] M (fun v _ => K v) := by
 refine enterE Try.func96 rfl 14 rfl (Nat.le_of_ble_eq_true rfl) (fun E a hs => ?_)
 unfold S_set_Has at hS
 have hMM := MX.refl M E
 change Sx 14 E [] M E a [(0, s1.val), (1, (.int .u8 b2))] [] [] at hs
 refine Wp.seq (Wp.region (stepBox s1.cells hs rfl rfl rfl (by decide) (fun _ _ b3 hEb3 hs => ?_)))
 replace hs := hs.chbx (bs' := [⟨b3, 48, (List.map (Value.int .u64) [s1.w0, s1.w1, s1.w2, s1.w3])⟩]) rfl
 refine sP (.bool false) hs fun _ hs => ?_
 refine wpList_nil (Wp.seq (Wp.region (sP (.int .u8 b2) hs fun _ hs => ?_)))
 refine sP (.int .u8 (bShr .u8 b2 6)) hs fun _ hs => ?_
 obtain ⟨h0, hl, hS⟩ := hS
 refine sY (.pointer (some ⟨b3, 0 + (bShr .u8 b2 6).toNat * 1, none⟩)) hs (Yl.indexA (e := 46) (sz := 1) rfl rfl rfl rfl (by kernel_rfl) (by kernel_rfl) h0 hl) fun _ hs => ?_
 obtain ⟨x4, hz, hS⟩ := hS
 refine sY (.int .u64 x4) hs (Yl.loadBD 0 rfl rfl rfl (by kernel_rfl) hz) fun _ hs => ?_
 refine sP (.int .u8 b2) hs fun _ hs => ?_
 refine sP (.int .u8 (bAnd .u8 b2 63)) hs fun _ hs => ?_
 obtain ⟨h0, hS⟩ := hS
 refine sY (.int .u64 (bShr .u64 x4 (bAnd .u8 b2 63))) hs (Yl.shr rfl rfl rfl rfl h0) fun _ hs => ?_
 refine sP (.int .u64 (bAnd .u64 (bShr .u64 x4 (bAnd .u8 b2 63)) 1)) hs fun _ hs => ?_
 refine sP (.bool ((bAnd .u64 (bShr .u64 x4 (bAnd .u8 b2 63)) 1 : Int) == (1 : Int))) hs fun _ hs => ?_
 refine sP (.bool ((bAnd .u64 (bShr .u64 x4 (bAnd .u8 b2 63)) 1 : Int) == (1 : Int))) hs fun _ hs => ?_
 exact wpList_nil (Wp.ret (lvE K hs (resT hs rfl rfl) hMM.2 hS))
def S_chaffref_Has (s1 : X_api_Set) (b2 : Int) (M : Mem) (K : Value → Prop) : Prop :=
 (InI (b2.tdiv 64) ∧ ((0 : Int) ≤ b2.tdiv 64 ∧ b2.tdiv 64 < (4 : Int) ∧ (∃ x4 : Int, [s1.w0, s1.w1, s1.w2, s1.w3][0 + (b2.tdiv 64).toNat * 1]? = some x4 ∧ ((0 : Int) ≤ b2.tmod 64 ∧ K (Value.bool (((bShr .u64 x4 (b2.tmod 64)).tmod 2 : Int) == (1 : Int)))))))
set_option maxRecDepth 100000 in
theorem s_chaffref_Has (s1 : X_api_Set) (b2 : Int) (M : Mem) (K : Value → Prop) (hS : S_chaffref_Has s1 b2 M K) : CallE Try.prog 76 #[s1.val, (Value.int .i64 b2)] M (fun v _ => K v) := by
 refine enterE Try.func76 rfl 14 rfl (Nat.le_of_ble_eq_true rfl) (fun E a hs => ?_)
 unfold S_chaffref_Has at hS
 have hMM := MX.refl M E
 change Sx 14 E [] M E a [(0, s1.val), (1, (iv b2))] [] [] at hs
 refine Wp.seq (Wp.region (stepBox s1.cells hs rfl rfl rfl (by decide) (fun _ _ b3 hEb3 hs => ?_)))
 replace hs := hs.chbx (bs' := [⟨b3, 48, (List.map (Value.int .u64) [s1.w0, s1.w1, s1.w2, s1.w3])⟩]) rfl
 refine sP (.bool false) hs fun _ hs => ?_
 refine wpList_nil (Wp.seq (Wp.region (sP (iv b2) hs fun _ hs => ?_)))
 obtain ⟨hI, hS⟩ := hS
 refine sY (iv (b2.tdiv 64)) hs (Yl.eq (Yl.pure (v := Value.int .i64 (IntKind.wrap .i64 (b2.tdiv 64))) rfl (fun _ => by kernel_rfl)) (congrArg (Value.int .i64) (wrap_in hI))) fun _ hs => ?_
 obtain ⟨h0, hl, hS⟩ := hS
 refine sY (.pointer (some ⟨b3, 0 + (b2.tdiv 64).toNat * 1, none⟩)) hs (Yl.indexA (e := 46) (sz := 1) rfl rfl rfl rfl (by kernel_rfl) (by kernel_rfl) h0 hl) fun _ hs => ?_
 obtain ⟨x4, hz, hS⟩ := hS
 refine sY (.int .u64 x4) hs (Yl.loadBD 0 rfl rfl rfl (by kernel_rfl) hz) fun _ hs => ?_
 refine sP (iv b2) hs fun _ hs => ?_
 refine sP (iv (b2.tmod 64)) hs fun _ hs => ?_
 obtain ⟨h0, hS⟩ := hS
 refine sY (.int .u64 (bShr .u64 x4 (b2.tmod 64))) hs (Yl.shr rfl rfl rfl rfl h0) fun _ hs => ?_
 refine sP (.int .u64 ((bShr .u64 x4 (b2.tmod 64)).tmod 2)) hs fun _ hs => ?_
 refine sP (.bool (((bShr .u64 x4 (b2.tmod 64)).tmod 2 : Int) == (1 : Int))) hs fun _ hs => ?_
 refine sP (.bool (((bShr .u64 x4 (b2.tmod 64)).tmod 2 : Int) == (1 : Int))) hs fun _ hs => ?_
 exact wpList_nil (Wp.ret (lvE K hs (resT hs rfl rfl) hMM.2 hS))
end Go.Proofs.Ytifkffmecfgpeaa.core
