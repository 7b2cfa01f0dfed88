/- Contracts and what they hang on, of several parts. No condition. -/
import Derived.Test.YtifkffmecfgpeaaWellG
import Derived.Test.YtifkffmecfgpeaaCoreG
namespace Go.Proofs.Ytifkffmecfgpeaa.core
open Go.Gx Go.RowKit Go.ChangeShapes Go.WideShapes Go.ChangeAt
set_option linter.unusedVariables false
def S_mean_Look (ga1 : Option Addr) (gl2 : Nat) (gc3 : Nat) (s4 : List UInt8) (M : Mem) (K : Value → Prop) : Prop :=
 (CallE Try.prog 55 #[(.agg #[(.slice ga1 gl2 gc3)])] M (fun v _ => ∃ (x6 : Int) (x7 : Int), v = (Value.tuple #[(.int .i64 x6), (.int .i64 x7)]) ∧ (((x7 : Int) ≠ 0 → K (Value.int .i64 x7)) ∧ (¬ ((x7 : Int) ≠ 0) → ((((s4.length : Nat) : Int) > 60 → K (Value.int .i64 2)) ∧ (¬ (((s4.length : Nat) : Int) > 60) → K (Value.int .i64 0)))))))
set_option maxRecDepth 100000 in
theorem s_mean_Look (ga1 : Option Addr) (gl2 : Nat) (gc3 : Nat) (s4 : List UInt8) (M : Mem) (K : Value → Prop) (hS : S_mean_Look ga1 gl2 gc3 s4 M K) : CallE Try.prog 51 #[(Value.agg #[(Value.slice ga1 gl2 gc3)]), (Value.string (mkS s4))] M (fun v _ => K v) := by
 refine enterE Try.func51 rfl 18 rfl (Nat.le_of_ble_eq_true rfl) (fun E a hs => ?_)
 unfold S_mean_Look at hS
 have hMM := MX.refl M E
 change Sx 18 E [] M E a [(0, (.agg #[(.slice ga1 gl2 gc3)])), (1, (.string (mkS s4)))] [] [] at hs
 refine Wp.seq (Wp.region (stepBox [(.slice ga1 gl2 gc3)] hs rfl rfl rfl (by decide) (fun _ _ b5 hEb5 hs => ?_)))
 refine sP (iv 0) hs fun _ hs => ?_
 refine wpList_nil (Wp.seq (Wp.seq (Wp.region (sY (.agg #[(.slice ga1 gl2 gc3)]) hs (Yl.lB [(.slice ga1 gl2 gc3)] true 0) fun _ hs => ?_))))
 refine stepCallP [(.agg #[(.slice ga1 gl2 gc3)])] hs rfl ⟨_, rfl, rfl⟩ rfl Try.func55 rfl (by kernel_rfl) (by decide) hS (fun _ _ v hS hs => ?_)
 obtain ⟨x6, x7, hv, hS⟩ := hS
 subst hv
 refine sP (Value.tuple #[(iv x6), (iv x7)]) hs fun _ hs => ?_
 refine sP (iv x6) hs fun _ hs => ?_
 refine sP (iv x7) hs fun _ hs => ?_
 refine sP (iv x6) hs fun _ hs => ?_
 refine sP (iv x7) hs fun _ hs => ?_
 refine wpList_nil (Wp.seq (Wp.region (sP (iv x7) hs fun _ hs => ?_)))
 refine sP (.bool ((x7 : Int) != (0 : Int))) hs fun _ hs => ?_
 refine wpList_nil (Wp.cond hs rfl rfl bne_iff_ne (fun hc => ?_) (fun hc => ?_))
 ·have hS := hS.1 hc
  refine Wp.seq (Wp.region (sP (iv x7) hs fun _ hs => ?_))
  refine sP (iv x7) hs fun _ hs => ?_
  exact wpList_nil (Wp.ret (lvE K hs (resT hs rfl rfl) hMM.2 hS))
 ·have hS := hS.2 hc
  refine Wp.skip (Wp.seq (Wp.seq (Wp.region (sP (.string (mkS s4)) hs fun _ hs => ?_))))
  refine sP (iv ((s4.length : Nat) : Int)) hs fun _ hs => ?_
  refine sP (.bool (decide (((s4.length : Nat) : Int) > 60))) hs fun _ hs => ?_
  refine wpList_nil (Wp.cond hs rfl rfl decide_eq_true_iff (fun hc => ?_) (fun hc => ?_))
  ·have hS := hS.1 hc
   refine Wp.seq (Wp.region (sP (iv 2) hs fun _ hs => ?_))
   exact wpList_nil (Wp.ret (lvE K hs (resT hs rfl rfl) hMM.2 hS))
  ·have hS := hS.2 hc
   refine Wp.skip (Wp.seq (Wp.region (sP (iv 0) hs fun _ hs => ?_)))
   exact wpList_nil (Wp.ret (lvE K hs (resT hs rfl rfl) hMM.2 hS))
def S_chaffref_Look (ga1 : Option Addr) (gl2 : Nat) (gc3 : Nat) (s4 : List UInt8) (M : Mem) (K : Value → Prop) : Prop :=
 (CallE Try.prog 21 #[(.agg #[(.slice ga1 gl2 gc3)])] M (fun v _ => ∃ (x6 : Int) (x7 : Int), v = (Value.tuple #[(.int .i64 x6), (.int .i64 x7)]) ∧ (((x7 : Int) ≠ 0 → K (Value.int .i64 x7)) ∧ (¬ ((x7 : Int) ≠ 0) → ((((s4.length : Nat) : Int) > 60 → K (Value.int .i64 2)) ∧ (¬ (((s4.length : Nat) : Int) > 60) → K (Value.int .i64 0)))))))
set_option maxRecDepth 100000 in
theorem s_chaffref_Look (ga1 : Option Addr) (gl2 : Nat) (gc3 : Nat) (s4 : List UInt8) (M : Mem) (K : Value → Prop) (hS : S_chaffref_Look ga1 gl2 gc3 s4 M K) : CallE Try.prog 16 #[(Value.agg #[(Value.slice ga1 gl2 gc3)]), (Value.string (mkS s4))] M (fun v _ => K v) := by
 refine enterE Try.func16 rfl 18 rfl (Nat.le_of_ble_eq_true rfl) (fun E a hs => ?_)
 unfold S_chaffref_Look at hS
 have hMM := MX.refl M E
 change Sx 18 E [] M E a [(0, (.agg #[(.slice ga1 gl2 gc3)])), (1, (.string (mkS s4)))] [] [] at hs
 refine Wp.seq (Wp.region (stepBox [(.slice ga1 gl2 gc3)] hs rfl rfl rfl (by decide) (fun _ _ b5 hEb5 hs => ?_)))
 refine sP (iv 0) hs fun _ hs => ?_
 refine wpList_nil (Wp.seq (Wp.seq (Wp.region (sY (.agg #[(.slice ga1 gl2 gc3)]) hs (Yl.lB [(.slice ga1 gl2 gc3)] true 0) fun _ hs => ?_))))
 refine stepCallP [(.agg #[(.slice ga1 gl2 gc3)])] hs rfl ⟨_, rfl, rfl⟩ rfl Try.func21 rfl (by kernel_rfl) (by decide) hS (fun _ _ v hS hs => ?_)
 obtain ⟨x6, x7, hv, hS⟩ := hS
 subst hv
 refine sP (Value.tuple #[(iv x6), (iv x7)]) hs fun _ hs => ?_
 refine sP (iv x6) hs fun _ hs => ?_
 refine sP (iv x7) hs fun _ hs => ?_
 refine sP (iv x6) hs fun _ hs => ?_
 refine sP (iv x7) hs fun _ hs => ?_
 refine wpList_nil (Wp.seq (Wp.region (sP (iv x7) hs fun _ hs => ?_)))
 refine sP (.bool ((x7 : Int) != (0 : Int))) hs fun _ hs => ?_
 refine wpList_nil (Wp.cond hs rfl rfl bne_iff_ne (fun hc => ?_) (fun hc => ?_))
 ·have hS := hS.1 hc
  refine Wp.seq (Wp.region (sP (iv x7) hs fun _ hs => ?_))
  refine sP (iv x7) hs fun _ hs => ?_
  exact wpList_nil (Wp.ret (lvE K hs (resT hs rfl rfl) hMM.2 hS))
 ·have hS := hS.2 hc
  refine Wp.skip (Wp.seq (Wp.seq (Wp.region (sP (.string (mkS s4)) hs fun _ hs => ?_))))
  refine sP (iv ((s4.length : Nat) : Int)) hs fun _ hs => ?_
  refine sP (.bool (decide (((s4.length : Nat) : Int) > 60))) hs fun _ hs => ?_
  refine wpList_nil (Wp.cond hs rfl rfl decide_eq_true_iff (fun hc => ?_) (fun hc => ?_))
  ·have hS := hS.1 hc
   refine Wp.seq (Wp.region (sP (iv 2) hs fun _ hs => ?_))
   exact wpList_nil (Wp.ret (lvE K hs (resT hs rfl rfl) hMM.2 hS))
  ·have hS := hS.2 hc
   refine Wp.skip (Wp.seq (Wp.region (sP (iv 0) hs fun _ hs => ?_)))
   exact wpList_nil (Wp.ret (lvE K hs (resT hs rfl rfl) hMM.2 hS))

end Go.Proofs.Ytifkffmecfgpeaa.core

namespace Go.Proofs.Ytifkffmecfgpeaa.core
open Go.Gx Go.RowKit Go.ChangeShapes Go.WideShapes Go.ChangeAt
set_option linter.unusedVariables false
def S_set_both (s1 : X_api_Set) (t2 : X_api_Set) (f3 : Value) (M : Mem) (K : Value → Prop) : Prop :=
 (∃ (I18 : Int → List Int → Prop) (mu19 : Int → List Int → Nat), I18 0 [s1.w0, s1.w1, s1.w2, s1.w3] ∧ ∀ (x16 : Int) (zs17 : List Int), (I18 x16 zs17 → ((x16 < 4 → ((0 : Int) ≤ x16 ∧ x16 < (4 : Int) ∧ (∃ x20 : Int, zs17[0 + x16.toNat * 1]? = some x20 ∧ ((0 : Int) ≤ x16 ∧ x16 < (4 : Int) ∧ (∃ x21 : Int, [t2.w0, t2.w1, t2.w2, t2.w3][0 + x16.toNat * 1]? = some x21 ∧ (CallF Try.prog f3 [(.int .u64 x20), (.int .u64 x21)] M (fun v _ => ∃ (x22 : Int), v = (Value.int .u64 x22) ∧ ((0 : Int) ≤ x16 ∧ x16 < (4 : Int) ∧ (0 + x16.toNat * 1 < (zs17).length ∧ (InI (x16 + 1) ∧ I18 (x16 + 1) ((zs17).set (0 + x16.toNat * 1) x22) ∧ mu19 (x16 + 1) ((zs17).set (0 + x16.toNat * 1) x22) < mu19 x16 zs17)))))))))) ∧ (¬ (x16 < 4) → (∃ z23 z24 z25 z26 : Int, zs17 = [z23, z24, z25, z26] ∧ (([0, 0, 0, 0]).length = 4 ∧ (∃ z27 z28 z29 z30 : Int, [z23, z24, z25, z26] = [z27, z28, z29, z30] ∧ K (X_api_Set.mk z27 z28 z29 z30).val)))))))
set_option maxRecDepth 100000 in
theorem s_set_both (s1 : X_api_Set) (t2 : X_api_Set) (f3 : Value) (M : Mem) (K : Value → Prop) (hS : S_set_both s1 t2 f3 M K) : CallE Try.prog 162 #[s1.val, t2.val, f3] M (fun v _ => K v) := by
 refine enterE Try.func162 rfl 23 rfl (Nat.le_of_ble_eq_true rfl) (fun E a hs => ?_)
 unfold S_set_both at hS
 have hMM := MX.refl M E
 change Sx 23 E [] M E a [(0, s1.val), (1, t2.val), (2, f3)] [] [] at hs
 refine Wp.seq (Wp.region (stepBox s1.cells hs rfl rfl rfl (by decide) (fun _ _ b4 hEb4 hs => ?_)))
 replace hs := hs.chbx (bs' := [⟨b4, 48, (List.map (Value.int .u64) [s1.w0, s1.w1, s1.w2, s1.w3])⟩]) rfl
 refine stepBox t2.cells hs rfl rfl rfl (by decide) (fun _ _ b5 hEb5 hs => ?_)
 replace hs := hs.chbx (bs' := [⟨b5, 48, (List.map (Value.int .u64) [t2.w0, t2.w1, t2.w2, t2.w3])⟩, ⟨b4, 48, (List.map (Value.int .u64) [s1.w0, s1.w1, s1.w2, s1.w3])⟩]) rfl
 refine stepAlloc [(.int .u64 0), (.int .u64 0), (.int .u64 0), (.int .u64 0)] hs (by kernel_rfl) (by decide) (fun _ _ b6 hEb6 hs => ?_)
 replace hs := hs.chbx (bs' := [⟨b6, 48, (List.map (Value.int .u64) [0, 0, 0, 0])⟩, ⟨b5, 48, (List.map (Value.int .u64) [t2.w0, t2.w1, t2.w2, t2.w3])⟩, ⟨b4, 48, (List.map (Value.int .u64) [s1.w0, s1.w1, s1.w2, s1.w3])⟩]) rfl
 refine wpList_nil (Wp.seq (Wp.seq (Wp.region (sP (iv 0) hs fun _ hs => ?_))))
 refine wpList_nil (Wp.block ?_)
 obtain ⟨I18, mu19, hI0, hst⟩ := hS
 refine Wp.loop (σ := (Int) × (List Int)) (fun s a w => match s with | (x16, zs17) => Sx 23 E [] M w a [(2, f3), (3, (pt b4 0)), (4, (pt b5 0)), (6, (pt b6 0)), (8, (iv x16))] [⟨b6, 48, (List.map (Value.int .u64) [0, 0, 0, 0])⟩, ⟨b5, 48, (List.map (Value.int .u64) [t2.w0, t2.w1, t2.w2, t2.w3])⟩, ⟨b4, 48, (List.map (Value.int .u64) zs17)⟩] [] ∧ I18 x16 zs17) (fun s => match s with | (x16, zs17) => mu19 x16 zs17) (0, [s1.w0, s1.w1, s1.w2, s1.w3]) ⟨(hs.wk ⟨rfl, rfl, rfl, rfl, rfl, trivial⟩), hI0⟩ (fun s a w hI => ?_)
 obtain ⟨x16, zs17⟩ := s
 obtain ⟨hs, hI⟩ := hI
 have hS := hst x16 zs17 hI
 clear hst hI0 hI
 refine Wp.seq (Wp.region (sP (.bool (decide (x16 < 4))) hs fun _ hs => ?_))
 refine wpList_nil (Wp.seq (Wp.cond hs rfl rfl decide_eq_true_iff (fun hc => ?_) (fun hc => ?_)))
 ·have hS := hS.1 hc
  refine Wp.skip (Wp.seq (Wp.block (Wp.seq (Wp.region (sP (iv x16) hs fun _ hs => ?_)))))
  refine sP (iv x16) hs fun _ hs => ?_
  refine wpList_nil (Wp.regionD [true, true, true, true, true, true, true, true, true, true, false] hs (by kernel_rfl) rfl [⟨b6, 48, (List.map (Value.int .u64) [0, 0, 0, 0])⟩, ⟨b5, 48, (List.map (Value.int .u64) [t2.w0, t2.w1, t2.w2, t2.w3])⟩, ⟨b4, 48, (List.map (Value.int .u64) zs17)⟩] (fun _ h => h) [] (fun _ h => h) (fun _ hs hC => ?_))
  have hL := Mem.le.refl M
  refine dP (iv x16) 0 [9, 10] hs QZ.no (wanted_none rfl) fun _ hs => ?_
  refine dP f3 1 [8, 9, 10] hs QZ.no (wanted_none rfl) fun _ hs => ?_
  refine dP (iv x16) 2 [3, 4, 8, 9, 10] hs QZ.no (wanted_none rfl) fun _ hs => ?_
  obtain ⟨h0, hl, hS⟩ := hS
  refine stepDP (v := (.pointer (some ⟨b4, 0 + x16.toNat * 1, none⟩))) 3 [4, 8, 9, 10] hs QZ.no rfl (wanted_none rfl) rfl (by decide) (by kernel_rfl) (by kernel_rfl) (by kernel_rfl) (Yl.indexA (e := 46) (sz := 1) rfl rfl rfl rfl (by kernel_rfl) (by kernel_rfl) h0 hl) (fun _ hs => ?_)
  obtain ⟨x20, hz, hS⟩ := hS
  refine stepDY (v := (.int .u64 x20)) 4 [8, 9, 10] hs hC QZ.no rfl (wanted_none rfl) rfl (by decide) (by kernel_rfl) (by kernel_rfl) (by kernel_rfl) (Yl.loadBD 2 rfl rfl rfl (by kernel_rfl) hz) (fun _ hs => ?_)
  refine sE 5 ?_
  refine sP (iv x16) hs fun _ hs => ?_
  refine wpList_nil (⟨fun _ h => h, ?_⟩)
  refine sE 6 ?_
  obtain ⟨h0, hl, hS⟩ := hS
  refine sY (.pointer (some ⟨b5, 0 + x16.toNat * 1, none⟩)) hs (Yl.indexA (e := 46) (sz := 1) rfl rfl rfl rfl (by kernel_rfl) (by kernel_rfl) h0 hl) fun _ hs => ?_
  refine wpList_nil (⟨fun _ h => h, ?_⟩)
  refine sE 7 ?_
  obtain ⟨x21, hz, hS⟩ := hS
  refine sY (.int .u64 x21) hs (Yl.loadBD 1 rfl rfl rfl (by kernel_rfl) hz) fun _ hs => ?_
  refine wpList_nil (⟨fun _ h => h, ?_⟩)
  refine sE 8 ?_
  refine stepCallG [(.int .u64 x20), (.int .u64 x21)] hs rfl ⟨_, rfl, rfl⟩ rfl (by decide) hS (fun _ _ v hS hs => ?_)
  obtain ⟨x22, hv, hS⟩ := hS
  subst hv
  refine wpList_nil (⟨fun _ _ => hs.cxle hL (List.Sublist.refl _) (List.Sublist.refl _), ?_⟩)
  have hC := hs.cxle hL (List.Sublist.refl _) (List.Sublist.refl _)
  refine sE 9 ?_
  obtain ⟨h0, hl, hS⟩ := hS
  refine sY (.pointer (some ⟨b4, 0 + x16.toNat * 1, none⟩)) hs (Yl.indexA (e := 46) (sz := 1) rfl rfl rfl rfl (by kernel_rfl) (by kernel_rfl) h0 hl) fun _ hs => ?_
  refine wpList_nil (⟨fun _ h => h, ?_⟩)
  refine sE 10 ?_
  obtain ⟨hlt, hS⟩ := hS
  refine stepStoreBD 2 (zs := zs17) hs rfl rfl rfl rfl rfl (by kernel_rfl) hlt (fun _ _ hs => ?_)
  replace hs := hs.chbx (bs' := [⟨b6, 48, (List.map (Value.int .u64) [0, 0, 0, 0])⟩, ⟨b5, 48, (List.map (Value.int .u64) [t2.w0, t2.w1, t2.w2, t2.w3])⟩, ⟨b4, 48, (List.map (Value.int .u64) ((zs17).set (0 + x16.toNat * 1) x22))⟩]) rfl
  refine wpList_nil (⟨fun h => absurd h (by decide), ?_⟩)
  refine WpD.done (by kernel_rfl) ?_ _
  refine Wp.region ?_
  obtain ⟨hI, hS⟩ := hS
  refine sY (iv (x16 + 1)) hs (Yl.eq (Yl.pure (v := Value.int .i64 (IntKind.wrap .i64 (x16 + 1))) rfl (fun _ => by kernel_rfl)) (congrArg (Value.int .i64) (wrap_in hI))) fun _ hs => ?_
  refine sP (iv (x16 + 1)) hs fun _ hs => ?_
  exact wpList_nil (⟨(x16 + 1, (zs17).set (0 + x16.toNat * 1) x22), ⟨(hs.wk ⟨rfl, rfl, rfl, rfl, rfl, trivial⟩), hS.1⟩, hS.2⟩)
 ·have hS := hS.2 hc
  refine Wp.exit rfl (Wp.seq (Wp.region ?_))
  obtain ⟨z23, z24, z25, z26, hz, hS⟩ := hS
  refine sY (X_api_Set.mk z23 z24 z25 z26).val hs (Yl.loadBA 2 rfl rfl rfl rfl (by kernel_rfl) hz) fun _ hs => ?_
  obtain ⟨hlt, hS⟩ := hS
  refine stepStoreBA 0 (zs := [0, 0, 0, 0]) (ys := [z23, z24, z25, z26]) hs rfl rfl rfl rfl rfl (by kernel_rfl) hlt (fun _ _ hs => ?_)
  replace hs := hs.chbx (bs' := [⟨b6, 48, (List.map (Value.int .u64) [z23, z24, z25, z26])⟩, ⟨b5, 48, (List.map (Value.int .u64) [t2.w0, t2.w1, t2.w2, t2.w3])⟩, ⟨b4, 48, (List.map (Value.int .u64) zs17)⟩]) rfl
  refine wpList_nil (Wp.ret ?_)
  obtain ⟨z27, z28, z29, z30, hz, hS⟩ := hS
  replace hs := hs.chbx (bs' := [⟨b6, 48, [(.int .u64 z27), (.int .u64 z28), (.int .u64 z29), (.int .u64 z30)]⟩, ⟨b5, 48, (List.map (Value.int .u64) [t2.w0, t2.w1, t2.w2, t2.w3])⟩, ⟨b4, 48, (List.map (Value.int .u64) zs17)⟩]) (by first | rw [hz]; rfl | rfl)
  exact lvE K hs (resC (vs := [(.int .u64 z27), (.int .u64 z28), (.int .u64 z29), (.int .u64 z30)]) true 0 hs rfl rfl rfl (by kernel_rfl) rfl) hMM.2 hS
def S_set_Join_1 (a1 : Int) (b2 : Int) (M : Mem) (K : Value → Prop) : Prop :=
 K (Value.int .u64 (bOr .u64 a1 b2))
set_option maxRecDepth 100000 in
theorem s_set_Join_1 (a1 : Int) (b2 : Int) (M : Mem) (K : Value → Prop) (hS : S_set_Join_1 a1 b2 M K) : CallE Try.prog 190 #[(Value.int .u64 a1), (Value.int .u64 b2)] M (fun v _ => K v) := by
 refine enterE Try.func190 rfl 8 rfl (Nat.le_of_ble_eq_true rfl) (fun E a hs => ?_)
 unfold S_set_Join_1 at hS
 have hMM := MX.refl M E
 change Sx 8 E [] M E a [(0, (.int .u64 a1)), (1, (.int .u64 b2))] [] [] at hs
 refine Wp.seq (Wp.region (sP (.int .u64 0) hs fun _ hs => ?_))
 refine wpList_nil (Wp.seq (Wp.region (sP (.int .u64 a1) hs fun _ hs => ?_)))
 refine sP (.int .u64 b2) hs fun _ hs => ?_
 refine sP (.int .u64 (bOr .u64 a1 b2)) hs fun _ hs => ?_
 refine sP (.int .u64 (bOr .u64 a1 b2)) hs fun _ hs => ?_
 exact wpList_nil (Wp.ret (lvE K hs (resT hs rfl rfl) hMM.2 hS))
theorem f_set_Join_1 (a1 : Int) (b2 : Int) (M : Mem) (K : Value → Prop) (hS : S_set_Join_1 a1 b2 M K) : CallF Try.prog (Value.func (.func 190) #[] #[]) [(Value.int .u64 a1), (Value.int .u64 b2)] M (fun v _ => K v) := ⟨190, _, _, _, rfl, Try.func190, rfl, (by decide), s_set_Join_1 _ _ _ _ hS⟩
def S_set_Join (s1 : X_api_Set) (t2 : X_api_Set) (M : Mem) (K : Value → Prop) : Prop :=
 (CallE Try.prog 162 #[s1.val, t2.val, (Value.func (.func 190) #[] #[])] M (fun v _ => ∃ (x6 : X_api_Set), v = x6.val ∧ K x6.val))
set_option maxRecDepth 100000 in
theorem s_set_Join (s1 : X_api_Set) (t2 : X_api_Set) (M : Mem) (K : Value → Prop) (hS : S_set_Join s1 t2 M K) : CallE Try.prog 183 #[s1.val, t2.val] M (fun v _ => K v) := by
 refine enterE Try.func183 rfl 8 rfl (Nat.le_of_ble_eq_true rfl) (fun E a hs => ?_)
 unfold S_set_Join at hS
 have hMM := MX.refl M E
 change Sx 8 E [] M E a [(0, s1.val), (1, t2.val)] [] [] at hs
 refine Wp.seq (Wp.region (stepBox s1.cells hs rfl rfl rfl (by decide) (fun _ _ b3 hEb3 hs => ?_)))
 refine stepBox t2.cells hs rfl rfl rfl (by decide) (fun _ _ b4 hEb4 hs => ?_)
 refine stepAlloc [(.int .u64 0), (.int .u64 0), (.int .u64 0), (.int .u64 0)] hs (by kernel_rfl) (by decide) (fun _ _ b5 hEb5 hs => ?_)
 refine wpList_nil (Wp.seq (Wp.region (sY s1.val hs (Yl.lB s1.cells true 2) fun _ hs => ?_)))
 refine sY t2.val hs (Yl.lB t2.cells true 1) fun _ hs => ?_
 refine stepCallP [s1.val, t2.val, (Value.func (.func 190) #[] #[])] hs rfl ⟨_, rfl, rfl⟩ rfl Try.func162 rfl (by kernel_rfl) (by decide) hS (fun _ _ v hS hs => ?_)
 obtain ⟨x6, hv, hS⟩ := hS
 subst hv
 refine stB 0 x6.cells [⟨b5, 48, x6.cells⟩, ⟨b4, 48, t2.cells⟩, ⟨b3, 48, s1.cells⟩] hs fun _ _ hs => ?_
 exact wpList_nil (Wp.ret (lvE K hs (resC (vs := x6.cells) true 0 hs rfl rfl rfl (by kernel_rfl) rfl) hMM.2 hS))
def S_set_Range (low1 : Int) (high2 : Int) (M : Mem) (K : Value → Prop) : Prop :=
 (∃ (I11 : Int → List Int → Prop) (mu12 : Int → List Int → Nat), I11 (if low1 > 0 then low1 else 0) [0, 0, 0, 0] ∧ ∀ (b9 : Int) (zs10 : List Int), (I11 b9 zs10 → ((b9 ≤ (if high2 < 255 then high2 else 255) → ((0 : Int) ≤ bShr .i64 b9 6 ∧ bShr .i64 b9 6 < (4 : Int) ∧ (∃ x13 : Int, zs10[0 + (bShr .i64 b9 6).toNat * 1]? = some x13 ∧ ((0 : Int) ≤ bAnd .i64 b9 63 ∧ ((0 : Int) ≤ bShr .i64 b9 6 ∧ bShr .i64 b9 6 < (4 : Int) ∧ (0 + (bShr .i64 b9 6).toNat * 1 < (zs10).length ∧ (InI (b9 + 1) ∧ I11 (b9 + 1) ((zs10).set (0 + (bShr .i64 b9 6).toNat * 1) (bOr .u64 x13 (bShl .u64 1 (bAnd .i64 b9 63)))) ∧ mu12 (b9 + 1) ((zs10).set (0 + (bShr .i64 b9 6).toNat * 1) (bOr .u64 x13 (bShl .u64 1 (bAnd .i64 b9 63)))) < mu12 b9 zs10))))))) ∧ (¬ (b9 ≤ (if high2 < 255 then high2 else 255)) → (∃ z14 z15 z16 z17 : Int, zs10 = [z14, z15, z16, z17] ∧ ((zs10).length = 4 ∧ (∃ z18 z19 z20 z21 : Int, [z14, z15, z16, z17] = [z18, z19, z20, z21] ∧ K (X_api_Set.mk z18 z19 z20 z21).val)))))))
set_option maxRecDepth 100000 in
theorem s_set_Range (low1 : Int) (high2 : Int) (M : Mem) (K : Value → Prop) (hS : S_set_Range low1 high2 M K) : CallE Try.prog 165 #[(Value.int .i64 low1), (Value.int .i64 high2)] M (fun v _ => K v) := by
 refine enterE Try.func165 rfl 24 rfl (Nat.le_of_ble_eq_true rfl) (fun E a hs => ?_)
 unfold S_set_Range at hS
 have hMM := MX.refl M E
 change Sx 24 E [] M E a [(0, (iv low1)), (1, (iv high2))] [] [] at hs
 refine Wp.seq (Wp.region (stepAlloc [(.int .u64 0), (.int .u64 0), (.int .u64 0), (.int .u64 0)] hs (by kernel_rfl) (by decide) (fun _ _ b3 hEb3 hs => ?_)))
 replace hs := hs.chbx (bs' := [⟨b3, 48, (List.map (Value.int .u64) [0, 0, 0, 0])⟩]) rfl
 refine wpList_nil (Wp.seq (Wp.seq (Wp.region (sP (iv low1) hs fun _ hs => ?_))))
 refine sP (iv (if low1 > 0 then low1 else 0)) hs fun _ hs => ?_
 refine sP (iv (if low1 > 0 then low1 else 0)) hs fun _ hs => ?_
 refine wpList_nil (Wp.block ?_)
 obtain ⟨I11, mu12, hI0, hst⟩ := hS
 refine Wp.loop (σ := (Int) × (List Int)) (fun s a w => match s with | (b9, zs10) => Sx 24 E [] M w a [(1, (iv high2)), (4, (pt b3 0)), (5, (iv b9))] [⟨b3, 48, (List.map (Value.int .u64) zs10)⟩] [] ∧ I11 b9 zs10) (fun s => match s with | (b9, zs10) => mu12 b9 zs10) ((if low1 > 0 then low1 else 0), [0, 0, 0, 0]) ⟨(hs.wk ⟨rfl, rfl, rfl, trivial⟩), hI0⟩ (fun s a w hI => ?_)
 obtain ⟨b9, zs10⟩ := s
 obtain ⟨hs, hI⟩ := hI
 have hS := hst b9 zs10 hI
 clear hst hI0 hI
 refine Wp.seq (Wp.seq (Wp.region (sP (iv b9) hs fun _ hs => ?_)))
 refine sP (iv high2) hs fun _ hs => ?_
 refine sP (iv (if high2 < 255 then high2 else 255)) hs fun _ hs => ?_
 refine sP (.bool (decide (b9 ≤ (if high2 < 255 then high2 else 255)))) hs fun _ hs => ?_
 refine wpList_nil (Wp.cond hs rfl rfl decide_eq_true_iff (fun hc => ?_) (fun hc => ?_))
 ·have hS := hS.1 hc
  refine Wp.skip (Wp.seq (Wp.block (Wp.regionD [true, true, true, true, true, true, true, true, true, false] hs (by kernel_rfl) rfl [⟨b3, 48, (List.map (Value.int .u64) zs10)⟩] (fun _ h => h) [] (fun _ h => h) (fun _ hs hC => ?_))))
  have hL := Mem.le.refl M
  refine dP (iv b9) 0 [1, 2, 3, 7, 8, 9] hs QZ.no (wanted_none rfl) fun _ hs => ?_
  refine dP (iv (bShr .i64 b9 6)) 1 [2, 3, 7, 8, 9] hs QZ.no (wanted_none rfl) fun _ hs => ?_
  obtain ⟨h0, hl, hS⟩ := hS
  refine stepDP (v := (.pointer (some ⟨b3, 0 + (bShr .i64 b9 6).toNat * 1, none⟩))) 2 [3, 7, 8, 9] hs QZ.no rfl (wanted_none rfl) rfl (by decide) (by kernel_rfl) (by kernel_rfl) (by kernel_rfl) (Yl.indexA (e := 46) (sz := 1) rfl rfl rfl rfl (by kernel_rfl) (by kernel_rfl) h0 hl) (fun _ hs => ?_)
  obtain ⟨x13, hz, hS⟩ := hS
  refine stepDY (v := (.int .u64 x13)) 3 [7, 8, 9] hs hC QZ.no rfl (wanted_none rfl) rfl (by decide) (by kernel_rfl) (by kernel_rfl) (by kernel_rfl) (Yl.loadBD 0 rfl rfl rfl (by kernel_rfl) hz) (fun _ hs => ?_)
  refine sE 4 ?_
  refine sP (iv b9) hs fun _ hs => ?_
  refine wpList_nil (⟨fun _ h => h, ?_⟩)
  refine sE 5 ?_
  refine sP (iv (bAnd .i64 b9 63)) hs fun _ hs => ?_
  refine wpList_nil (⟨fun _ h => h, ?_⟩)
  refine sE 6 ?_
  obtain ⟨h0, hS⟩ := hS
  refine sY (.int .u64 (bShl .u64 1 (bAnd .i64 b9 63))) hs (Yl.shl rfl rfl rfl rfl h0) fun _ hs => ?_
  refine wpList_nil (⟨fun _ h => h, ?_⟩)
  refine sE 7 ?_
  refine sP (.int .u64 (bOr .u64 x13 (bShl .u64 1 (bAnd .i64 b9 63)))) hs fun _ hs => ?_
  refine wpList_nil (⟨fun _ h => h, ?_⟩)
  refine sE 8 ?_
  obtain ⟨h0, hl, hS⟩ := hS
  refine sY (.pointer (some ⟨b3, 0 + (bShr .i64 b9 6).toNat * 1, none⟩)) hs (Yl.indexA (e := 46) (sz := 1) rfl rfl rfl rfl (by kernel_rfl) (by kernel_rfl) h0 hl) fun _ hs => ?_
  refine wpList_nil (⟨fun _ h => h, ?_⟩)
  refine sE 9 ?_
  obtain ⟨hlt, hS⟩ := hS
  refine stepStoreBD 0 (zs := zs10) hs rfl rfl rfl rfl rfl (by kernel_rfl) hlt (fun _ _ hs => ?_)
  replace hs := hs.chbx (bs' := [⟨b3, 48, (List.map (Value.int .u64) ((zs10).set (0 + (bShr .i64 b9 6).toNat * 1) (bOr .u64 x13 (bShl .u64 1 (bAnd .i64 b9 63)))))⟩]) rfl
  refine wpList_nil (⟨fun h => absurd h (by decide), ?_⟩)
  refine WpD.done (by kernel_rfl) ?_ _
  refine Wp.region (sP (iv b9) hs fun _ hs => ?_)
  obtain ⟨hI, hS⟩ := hS
  refine sY (iv (b9 + 1)) hs (Yl.eq (Yl.pure (v := Value.int .i64 (IntKind.wrap .i64 (b9 + 1))) rfl (fun _ => by kernel_rfl)) (congrArg (Value.int .i64) (wrap_in hI))) fun _ hs => ?_
  refine sP (iv (b9 + 1)) hs fun _ hs => ?_
  exact wpList_nil (⟨(b9 + 1, (zs10).set (0 + (bShr .i64 b9 6).toNat * 1) (bOr .u64 x13 (bShl .u64 1 (bAnd .i64 b9 63)))), ⟨(hs.wk ⟨rfl, rfl, rfl, trivial⟩), hS.1⟩, hS.2⟩)
 ·have hS := hS.2 hc
  refine Wp.exit rfl (Wp.seq (Wp.region ?_))
  obtain ⟨z14, z15, z16, z17, hz, hS⟩ := hS
  refine sY (X_api_Set.mk z14 z15 z16 z17).val hs (Yl.loadBA 0 rfl rfl rfl rfl (by kernel_rfl) hz) fun _ hs => ?_
  obtain ⟨hlt, hS⟩ := hS
  refine stepStoreBA 0 (zs := zs10) (ys := [z14, z15, z16, z17]) hs rfl rfl rfl rfl rfl (by kernel_rfl) hlt (fun _ _ hs => ?_)
  replace hs := hs.chbx (bs' := [⟨b3, 48, (List.map (Value.int .u64) [z14, z15, z16, z17])⟩]) rfl
  refine wpList_nil (Wp.ret ?_)
  obtain ⟨z18, z19, z20, z21, hz, hS⟩ := hS
  replace hs := hs.chbx (bs' := [⟨b3, 48, [(.int .u64 z18), (.int .u64 z19), (.int .u64 z20), (.int .u64 z21)]⟩]) (by first | rw [hz]; rfl | rfl)
  exact lvE K hs (resC (vs := [(.int .u64 z18), (.int .u64 z19), (.int .u64 z20), (.int .u64 z21)]) true 0 hs rfl rfl rfl (by kernel_rfl) rfl) hMM.2 hS
def S_set_Has (s1 : X_api_Set) (b2 : Int) (M : Mem) (K : Value → Prop) : Prop :=
 ((0 : Int) ≤ bShr .u8 b2 6 ∧ bShr .u8 b2 6 < (4 : Int) ∧ (∃ x4 : Int, [s1.w0, s1.w1, s1.w2, s1.w3][0 + (bShr .u8 b2 6).toNat * 1]? = some x4 ∧ ((0 : Int) ≤ bAnd .u8 b2 63 ∧ K (Value.bool ((bAnd .u64 (bShr .u64 x4 (bAnd .u8 b2 63)) 1 : Int) == (1 : Int))))))
set_option maxRecDepth 100000 in
theorem s_set_Has (s1 : X_api_Set) (b2 : Int) (M : Mem) (K : Value → Prop) (hS : S_set_Has s1 b2 M K) : CallE Try.prog 96 #[s1.val, (Value.int .u8 b2)] M (fun v _ => K v) := by
 refine enterE Try.func96 rfl 14 rfl (Nat.le_of_ble_eq_true rfl) (fun E a hs => ?_)
 unfold S_set_Has at hS
 have hMM := MX.refl M E
 change Sx 14 E [] M E a [(0, s1.val), (1, (.int .u8 b2))] [] [] at hs
 refine Wp.seq (Wp.region (stepBox s1.cells hs rfl rfl rfl (by decide) (fun _ _ b3 hEb3 hs => ?_)))
 replace hs := hs.chbx (bs' := [⟨b3, 48, (List.map (Value.int .u64) [s1.w0, s1.w1, s1.w2, s1.w3])⟩]) rfl
 refine sP (.bool false) hs fun _ hs => ?_
 refine wpList_nil (Wp.seq (Wp.region (sP (.int .u8 b2) hs fun _ hs => ?_)))
 refine sP (.int .u8 (bShr .u8 b2 6)) hs fun _ hs => ?_
 obtain ⟨h0, hl, hS⟩ := hS
 refine sY (.pointer (some ⟨b3, 0 + (bShr .u8 b2 6).toNat * 1, none⟩)) hs (Yl.indexA (e := 46) (sz := 1) rfl rfl rfl rfl (by kernel_rfl) (by kernel_rfl) h0 hl) fun _ hs => ?_
 obtain ⟨x4, hz, hS⟩ := hS
 refine sY (.int .u64 x4) hs (Yl.loadBD 0 rfl rfl rfl (by kernel_rfl) hz) fun _ hs => ?_
 refine sP (.int .u8 b2) hs fun _ hs => ?_
 refine sP (.int .u8 (bAnd .u8 b2 63)) hs fun _ hs => ?_
 obtain ⟨h0, hS⟩ := hS
 refine sY (.int .u64 (bShr .u64 x4 (bAnd .u8 b2 63))) hs (Yl.shr rfl rfl rfl rfl h0) fun _ hs => ?_
 refine sP (.int .u64 (bAnd .u64 (bShr .u64 x4 (bAnd .u8 b2 63)) 1)) hs fun _ hs => ?_
 refine sP (.bool ((bAnd .u64 (bShr .u64 x4 (bAnd .u8 b2 63)) 1 : Int) == (1 : Int))) hs fun _ hs => ?_
 refine sP (.bool ((bAnd .u64 (bShr .u64 x4 (bAnd .u8 b2 63)) 1 : Int) == (1 : Int))) hs fun _ hs => ?_
 exact wpList_nil (Wp.ret (lvE K hs (resT hs rfl rfl) hMM.2 hS))
def S_chaffref_Has (s1 : X_api_Set) (b2 : Int) (M : Mem) (K : Value → Prop) : Prop :=
 (InI (b2.tdiv 64) ∧ ((0 : Int) ≤ b2.tdiv 64 ∧ b2.tdiv 64 < (4 : Int) ∧ (∃ x4 : Int, [s1.w0, s1.w1, s1.w2, s1.w3][0 + (b2.tdiv 64).toNat * 1]? = some x4 ∧ ((0 : Int) ≤ b2.tmod 64 ∧ K (Value.bool (((bShr .u64 x4 (b2.tmod 64)).tmod 2 : Int) == (1 : Int)))))))
set_option maxRecDepth 100000 in
theorem s_chaffref_Has (s1 : X_api_Set) (b2 : Int) (M : Mem) (K : Value → Prop) (hS : S_chaffref_Has s1 b2 M K) : CallE Try.prog 76 #[s1.val, (Value.int .i64 b2)] M (fun v _ => K v) := by
 refine enterE Try.func76 rfl 14 rfl (Nat.le_of_ble_eq_true rfl) (fun E a hs => ?_)
 unfold S_chaffref_Has at hS
 have hMM := MX.refl M E
 change Sx 14 E [] M E a [(0, s1.val), (1, (iv b2))] [] [] at hs
 refine Wp.seq (Wp.region (stepBox s1.cells hs rfl rfl rfl (by decide) (fun _ _ b3 hEb3 hs => ?_)))
 replace hs := hs.chbx (bs' := [⟨b3, 48, (List.map (Value.int .u64) [s1.w0, s1.w1, s1.w2, s1.w3])⟩]) rfl
 refine sP (.bool false) hs fun _ hs => ?_
 refine wpList_nil (Wp.seq (Wp.region (sP (iv b2) hs fun _ hs => ?_)))
 obtain ⟨hI, hS⟩ := hS
 refine sY (iv (b2.tdiv 64)) hs (Yl.eq (Yl.pure (v := Value.int .i64 (IntKind.wrap .i64 (b2.tdiv 64))) rfl (fun _ => by kernel_rfl)) (congrArg (Value.int .i64) (wrap_in hI))) fun _ hs => ?_
 obtain ⟨h0, hl, hS⟩ := hS
 refine sY (.pointer (some ⟨b3, 0 + (b2.tdiv 64).toNat * 1, none⟩)) hs (Yl.indexA (e := 46) (sz := 1) rfl rfl rfl rfl (by kernel_rfl) (by kernel_rfl) h0 hl) fun _ hs => ?_
 obtain ⟨x4, hz, hS⟩ := hS
 refine sY (.int .u64 x4) hs (Yl.loadBD 0 rfl rfl rfl (by kernel_rfl) hz) fun _ hs => ?_
 refine sP (iv b2) hs fun _ hs => ?_
 refine sP (iv (b2.tmod 64)) hs fun _ hs => ?_
 obtain ⟨h0, hS⟩ := hS
 refine sY (.int .u64 (bShr .u64 x4 (b2.tmod 64))) hs (Yl.shr rfl rfl rfl rfl h0) fun _ hs => ?_
 refine sP (.int .u64 ((bShr .u64 x4 (b2.tmod 64)).tmod 2)) hs fun _ hs => ?_
 refine sP (.bool (((bShr .u64 x4 (b2.tmod 64)).tmod 2 : Int) == (1 : Int))) hs fun _ hs => ?_
 refine sP (.bool (((bShr .u64 x4 (b2.tmod 64)).tmod 2 : Int) == (1 : Int))) hs fun _ hs => ?_
 exact wpList_nil (Wp.ret (lvE K hs (resT hs rfl rfl) hMM.2 hS))
end Go.Proofs.Ytifkffmecfgpeaa.core

