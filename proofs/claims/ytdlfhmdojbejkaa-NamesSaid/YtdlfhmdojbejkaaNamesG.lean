/- What the code that Names reaches computes, function for function, as shallow propositions; printed by program. -/
import Derived.Test.YtdlfhmdojbejkaaRows
import Derived.Test.YtdlfhmdojbejkaaGxD
import Derived.Test.YtdlfhmdojbejkaaGxE
import Derived.Test.YtdlfhmdojbejkaaGxS
import Derived.Test.YtdlfhmdojbejkaaGxT
namespace Go.Proofs.Ytdlfhmdojbejkaa.lawNames
open Go.Gx Go.RowKit Go.ChangeShapes Go.WideShapes Go.ChangeAt
set_option linter.unusedVariables false in
def S_chafflaw_Names (M : Mem) (K : Value → Prop) : Prop :=
  (∃ (I17 : Int → Prop) (mu18 : Int → Nat), I17 0 ∧ ∀ (x15 : Int), (I17 x15 → ((x15 < ((16 : Nat) : Int) → ((0 : Int) ≤ x15 ∧ x15 < ((16 : Nat) : Int) ∧ (∃ (x23 : Int), Cs [(Value.int .i64 0), (Value.int .i64 1), (Value.int .i64 2), (Value.int .i64 3), (Value.int .i64 4), (Value.int .i64 5), (Value.int .i64 6), (Value.int .i64 7), (Value.int .i64 8), (Value.int .i64 9), (Value.int .i64 10), (Value.int .i64 11), (Value.int .i64 12), (Value.int .i64 13), (Value.int .i64 14), (Value.int .i64 15)] (0 + x15.toNat * 1) [(Value.int .i64 x23)] ∧ (((x23 : Int) ≠ x15 → K (Value.bool false)) ∧ (¬ ((x23 : Int) ≠ x15) → (InI (x15 + 1) ∧ I17 (x15 + 1) ∧ mu18 (x15 + 1) < mu18 x15)))))) ∧ (¬ (x15 < ((16 : Nat) : Int)) → (∀ (M30 : Mem) (ad28 : Option Addr) (cap29 : Nat), M.le M30 → SlV M30 ad28 11 cap29 1 [(Value.int .i64 1), (Value.int .i64 2), (Value.int .i64 3), (Value.int .i64 4), (Value.int .i64 5), (Value.int .i64 6), (Value.int .i64 7), (Value.int .i64 8), (Value.int .i64 9), (Value.int .i64 10), (Value.int .i64 11)] → (∀ (M33 : Mem) (ad31 : Option Addr) (cap32 : Nat), M30.le M33 → SlV M33 ad31 2 cap32 1 [(Value.int .i64 1), (Value.int .i64 2)] → (∀ (M36 : Mem) (ad34 : Option Addr) (cap35 : Nat), M33.le M36 → SlV M36 ad34 11 cap35 1 [(Value.int .i64 1), (Value.int .i64 2), (Value.int .i64 3), (Value.int .i64 4), (Value.int .i64 5), (Value.int .i64 6), (Value.int .i64 7), (Value.int .i64 8), (Value.int .i64 9), (Value.int .i64 10), (Value.int .i64 11)] → (∀ (M39 : Mem) (ad37 : Option Addr) (cap38 : Nat), M36.le M39 → SlV M39 ad37 4 cap38 1 [(Value.int .i64 1), (Value.int .i64 2), (Value.int .i64 3), (Value.int .i64 4)] → (∃ (I80 : Int → Prop) (mu81 : Int → Nat), I80 0 ∧ ∀ (x78 : Int), (I80 x78 → ((x78 < ((4 : Nat) : Int) → ((0 : Int) ≤ x78 ∧ x78 < ((4 : Nat) : Int) ∧ (∃ (xa86 : Option Addr) (xl87 : Nat) (xc88 : Nat), Cs [(Value.slice ad28 11 cap29), (Value.slice ad31 2 cap32), (Value.slice ad34 11 cap35), (Value.slice ad37 4 cap38)] (0 + x78.toNat * 1) [(Value.slice xa86 xl87 xc88)] ∧ (∃ (I94 : Int → Prop) (mu95 : Int → Nat), I94 0 ∧ ∀ (x93 : Int), (I94 x93 → ((x93 < ((xl87 : Nat) : Int) → (∃ (b96 o97 : Nat), xa86 = some ⟨b96, o97, none⟩ ∧ (0 : Int) ≤ x93 ∧ x93 < ((xl87 : Nat) : Int) ∧ (∃ (x98 : Int), At M39 b96 (o97 + x93.toNat * 1) [(Value.int .i64 x98)] ∧ (InI (x93 + 1) ∧ (((x98 : Int) ≠ x93 + 1 → K (Value.bool false)) ∧ (¬ ((x98 : Int) ≠ x93 + 1) → (InI (x93 + 1) ∧ I94 (x93 + 1) ∧ mu95 (x93 + 1) < mu95 x93))))))) ∧ (¬ (x93 < ((xl87 : Nat) : Int)) → (InI (x78 + 1) ∧ I80 (x78 + 1) ∧ mu81 (x78 + 1) < mu81 x78)))))))) ∧ (¬ (x78 < ((4 : Nat) : Int)) → K (Value.bool true)))))))))))))
set_option linter.unusedVariables false in
set_option maxRecDepth 100000 in
theorem s_chafflaw_Names (M : Mem) (K : Value → Prop) (hS : S_chafflaw_Names M K) : CallE Try.prog 3 #[] M (fun v _ => K v) := by
  refine enterE Try.func3 rfl 43 rfl (Nat.le_of_ble_eq_true rfl) (fun E a hs => ?_)
  unfold S_chafflaw_Names at hS
  have hMM := MX.refl M E
  change Sx 43 E [] M E a [] [] [] at hs
  refine Wp.seq ?_
  refine Wp.region ?_
  refine stepY (v := (Value.bool false)) hs rfl rfl (by decide) (Yl.pure rfl (fun _ => by kernel_rfl)) (fun _ hs => ?_)
  refine wpList_nil ?_
  refine Wp.seq ?_
  refine Wp.region ?_
  refine stepMake [(Value.int .i64 0), (Value.int .i64 1), (Value.int .i64 2), (Value.int .i64 3), (Value.int .i64 4), (Value.int .i64 5), (Value.int .i64 6), (Value.int .i64 7), (Value.int .i64 8), (Value.int .i64 9), (Value.int .i64 10), (Value.int .i64 11), (Value.int .i64 12), (Value.int .i64 13), (Value.int .i64 14), (Value.int .i64 15)] 22 1 16 hs rfl rfl rfl (fun _ => by kernel_rfl) rfl (by unfold maxLen; decide) (by decide) (fun _ _ rv1 hs => ?_)
  refine stepY (v := rv1) hs rfl rfl (by decide) (Yl.pure rfl (fun _ => by kernel_rfl)) (fun _ hs => ?_)
  refine wpList_nil ?_
  refine Wp.seq ?_
  refine Wp.seq ?_
  refine Wp.region ?_
  refine stepY (v := rv1) hs rfl rfl (by decide) (Yl.pure rfl (fun _ => by kernel_rfl)) (fun _ hs => ?_)
  refine stepY (v := (Value.int .i64 ((16 : Nat) : Int))) hs rfl rfl (by decide) (Yl.lenR (e' := 22) 0 rfl rfl rfl (by kernel_rfl)) (fun _ hs => ?_)
  refine stepY (v := (Value.int .i64 0)) hs rfl rfl (by decide) (Yl.pure rfl (fun _ => by kernel_rfl)) (fun _ hs => ?_)
  refine wpList_nil ?_
  refine Wp.block ?_
  obtain ⟨I17, mu18, hI0, hst⟩ := hS
  refine Wp.loop (σ := (Int) × (Value)) (fun s a w => match s with | (x15, rv16) => Sx 43 E [] M w a [(1, rv16), (8, (Value.int .i64 ((16 : Nat) : Int))), (9, (Value.int .i64 x15))] [] [⟨rv16, 22, 1, 16, [(Value.int .i64 0), (Value.int .i64 1), (Value.int .i64 2), (Value.int .i64 3), (Value.int .i64 4), (Value.int .i64 5), (Value.int .i64 6), (Value.int .i64 7), (Value.int .i64 8), (Value.int .i64 9), (Value.int .i64 10), (Value.int .i64 11), (Value.int .i64 12), (Value.int .i64 13), (Value.int .i64 14), (Value.int .i64 15)], true⟩] ∧ I17 x15) (fun s => match s with | (x15, rv16) => mu18 x15) (0, rv1) ⟨(hs.weak (List.Sublist.refl _) (List.Sublist.refl _) ⟨rfl, rfl, rfl, trivial⟩), hI0⟩ (fun s a w hI => ?_)
  obtain ⟨x15, rv16⟩ := s
  obtain ⟨hs, hI⟩ := hI
  have hS := hst x15 hI
  clear hst hI0 hI
  refine Wp.seq ?_
  refine Wp.region ?_
  refine stepY (v := (Value.bool (decide (x15 < ((16 : Nat) : Int))))) hs rfl rfl (by decide) (Yl.pure rfl (fun _ => by kernel_rfl)) (fun _ hs => ?_)
  refine wpList_nil ?_
  refine Wp.seq ?_
  refine Wp.cond hs rfl rfl decide_eq_true_iff (fun hc => ?_) (fun hc => ?_)
  · have hS := hS.1 hc
    refine Wp.skip ?_
    refine Wp.seq ?_
    refine Wp.block ?_
    refine Wp.seq ?_
    refine Wp.region ?_
    refine stepY (v := (Value.int .i64 x15)) hs rfl rfl (by decide) (Yl.pure rfl (fun _ => by kernel_rfl)) (fun _ hs => ?_)
    refine stepY (v := (Value.int .i64 x15)) hs rfl rfl (by decide) (Yl.pure rfl (fun _ => by kernel_rfl)) (fun _ hs => ?_)
    refine wpList_nil ?_
    refine Wp.seq ?_
    refine Wp.region ?_
    refine stepY (v := rv16) hs rfl rfl (by decide) (Yl.pure rfl (fun _ => by kernel_rfl)) (fun _ hs => ?_)
    refine stepY (v := (Value.int .i64 x15)) hs rfl rfl (by decide) (Yl.pure rfl (fun _ => by kernel_rfl)) (fun _ hs => ?_)
    obtain ⟨ad19, cap20, hv, hcp, hxl⟩ := hs.rowform 0 rfl
    dsimp only at hv hcp hxl
    subst hv
    obtain ⟨h0, hl, hS⟩ := hS
    have hix21 : x15.toNat < 16 := by omega
    obtain ⟨g22, hg22⟩ := hs.rowblk 0 rfl (by omega)
    refine stepY (v := (Value.pointer (some ⟨g22, 0 + x15.toNat * 1, none⟩))) hs rfl rfl (by decide) (Yl.indexS (e := 22) (sz := 1) rfl rfl rfl rfl (by kernel_rfl) (by kernel_rfl) hg22 h0 hl) (fun _ hs => ?_)
    obtain ⟨x23, hcs, hS⟩ := hS
    refine stepY (v := (Value.int .i64 x23)) hs rfl rfl (by decide) (Yl.loadR (vs := [(Value.int .i64 x23)]) 0 false rfl hg22 rfl rfl (by kernel_rfl) hcs) (fun _ hs => ?_)
    refine stepY (v := (Value.int .i64 x15)) hs rfl rfl (by decide) (Yl.pure rfl (fun _ => by kernel_rfl)) (fun _ hs => ?_)
    refine stepY (v := (Value.bool ((x23 : Int) != (x15 : Int)))) hs rfl rfl (by decide) (Yl.pure rfl (fun _ => by kernel_rfl)) (fun _ hs => ?_)
    refine wpList_nil ?_
    refine Wp.cond hs rfl rfl bne_iff_ne (fun hc => ?_) (fun hc => ?_)
    · have hS := hS.1 hc
      refine Wp.seq ?_
      refine Wp.region ?_
      refine stepY (v := (Value.bool false)) hs rfl rfl (by decide) (Yl.pure rfl (fun _ => by kernel_rfl)) (fun _ hs => ?_)
      refine wpList_nil ?_
      refine Wp.ret ?_
      exact leaveE (K := fun v _ => K v) hs (resT hs rfl rfl) hMM.2 (fun _ _ => hS)
    · have hS := hS.2 hc
      refine Wp.skip ?_
      refine Wp.region ?_
      obtain ⟨hI, hS⟩ := hS
      refine stepY (v := (Value.int .i64 (x15 + 1))) hs rfl rfl (by decide) (Yl.eq (Yl.pure (v := Value.int .i64 (IntKind.wrap .i64 (x15 + 1))) rfl (fun _ => by kernel_rfl)) (congrArg (Value.int .i64) (wrap_in hI))) (fun _ hs => ?_)
      refine stepY (v := (Value.int .i64 (x15 + 1))) hs rfl rfl (by decide) (Yl.pure rfl (fun _ => by kernel_rfl)) (fun _ hs => ?_)
      refine wpList_nil ?_
      exact ⟨(x15 + 1, (Value.slice ad19 16 cap20)), ⟨(hs.weak (List.Sublist.refl _) (List.Sublist.refl _) ⟨rfl, rfl, rfl, trivial⟩), hS.1⟩, hS.2⟩
  · have hS := hS.2 hc
    refine Wp.exit rfl ?_
    refine Wp.seq ?_
    refine Wp.seq ?_
    refine Wp.region ?_
    refine stepMake [(Value.int .i64 1), (Value.int .i64 2), (Value.int .i64 3), (Value.int .i64 4), (Value.int .i64 5), (Value.int .i64 6), (Value.int .i64 7), (Value.int .i64 8), (Value.int .i64 9), (Value.int .i64 10), (Value.int .i64 11)] 3 1 11 hs rfl rfl rfl (fun _ => by kernel_rfl) rfl (by unfold maxLen; decide) (by decide) (fun _ _ rv24 hs => ?_)
    refine stepMake [(Value.int .i64 1), (Value.int .i64 2)] 3 1 2 hs rfl rfl rfl (fun _ => by kernel_rfl) rfl (by unfold maxLen; decide) (by decide) (fun _ _ rv25 hs => ?_)
    refine stepMake [(Value.int .i64 1), (Value.int .i64 2), (Value.int .i64 3), (Value.int .i64 4), (Value.int .i64 5), (Value.int .i64 6), (Value.int .i64 7), (Value.int .i64 8), (Value.int .i64 9), (Value.int .i64 10), (Value.int .i64 11)] 3 1 11 hs rfl rfl rfl (fun _ => by kernel_rfl) rfl (by unfold maxLen; decide) (by decide) (fun _ _ rv26 hs => ?_)
    refine stepMake [(Value.int .i64 1), (Value.int .i64 2), (Value.int .i64 3), (Value.int .i64 4)] 3 1 4 hs rfl rfl rfl (fun _ => by kernel_rfl) rfl (by unfold maxLen; decide) (by decide) (fun _ _ rv27 hs => ?_)
    obtain ⟨ad28, cap29, hv, hcp, hxl⟩ := hs.rowform 3 rfl
    dsimp only at hv hcp hxl
    subst hv
    obtain ⟨M30, hle, hsl, hnew, hs⟩ := hs.release 3 rfl [⟨rv27, 3, 1, 4, [(Value.int .i64 1), (Value.int .i64 2), (Value.int .i64 3), (Value.int .i64 4)], true⟩, ⟨rv26, 3, 1, 11, [(Value.int .i64 1), (Value.int .i64 2), (Value.int .i64 3), (Value.int .i64 4), (Value.int .i64 5), (Value.int .i64 6), (Value.int .i64 7), (Value.int .i64 8), (Value.int .i64 9), (Value.int .i64 10), (Value.int .i64 11)], true⟩, ⟨rv25, 3, 1, 2, [(Value.int .i64 1), (Value.int .i64 2)], true⟩, ⟨rv16, 22, 1, 16, [(Value.int .i64 0), (Value.int .i64 1), (Value.int .i64 2), (Value.int .i64 3), (Value.int .i64 4), (Value.int .i64 5), (Value.int .i64 6), (Value.int .i64 7), (Value.int .i64 8), (Value.int .i64 9), (Value.int .i64 10), (Value.int .i64 11), (Value.int .i64 12), (Value.int .i64 13), (Value.int .i64 14), (Value.int .i64 15)], true⟩] rfl
    have hMM := hMM.next hle hnew
    have hS := hS M30 ad28 cap29 hle hsl
    obtain ⟨ad31, cap32, hv, hcp, hxl⟩ := hs.rowform 2 rfl
    dsimp only at hv hcp hxl
    subst hv
    obtain ⟨M33, hle, hsl, hnew, hs⟩ := hs.release 2 rfl [⟨rv27, 3, 1, 4, [(Value.int .i64 1), (Value.int .i64 2), (Value.int .i64 3), (Value.int .i64 4)], true⟩, ⟨rv26, 3, 1, 11, [(Value.int .i64 1), (Value.int .i64 2), (Value.int .i64 3), (Value.int .i64 4), (Value.int .i64 5), (Value.int .i64 6), (Value.int .i64 7), (Value.int .i64 8), (Value.int .i64 9), (Value.int .i64 10), (Value.int .i64 11)], true⟩, ⟨rv16, 22, 1, 16, [(Value.int .i64 0), (Value.int .i64 1), (Value.int .i64 2), (Value.int .i64 3), (Value.int .i64 4), (Value.int .i64 5), (Value.int .i64 6), (Value.int .i64 7), (Value.int .i64 8), (Value.int .i64 9), (Value.int .i64 10), (Value.int .i64 11), (Value.int .i64 12), (Value.int .i64 13), (Value.int .i64 14), (Value.int .i64 15)], true⟩] rfl
    have hMM := hMM.next hle hnew
    have hS := hS M33 ad31 cap32 hle hsl
    obtain ⟨ad34, cap35, hv, hcp, hxl⟩ := hs.rowform 1 rfl
    dsimp only at hv hcp hxl
    subst hv
    obtain ⟨M36, hle, hsl, hnew, hs⟩ := hs.release 1 rfl [⟨rv27, 3, 1, 4, [(Value.int .i64 1), (Value.int .i64 2), (Value.int .i64 3), (Value.int .i64 4)], true⟩, ⟨rv16, 22, 1, 16, [(Value.int .i64 0), (Value.int .i64 1), (Value.int .i64 2), (Value.int .i64 3), (Value.int .i64 4), (Value.int .i64 5), (Value.int .i64 6), (Value.int .i64 7), (Value.int .i64 8), (Value.int .i64 9), (Value.int .i64 10), (Value.int .i64 11), (Value.int .i64 12), (Value.int .i64 13), (Value.int .i64 14), (Value.int .i64 15)], true⟩] rfl
    have hMM := hMM.next hle hnew
    have hS := hS M36 ad34 cap35 hle hsl
    obtain ⟨ad37, cap38, hv, hcp, hxl⟩ := hs.rowform 0 rfl
    dsimp only at hv hcp hxl
    subst hv
    obtain ⟨M39, hle, hsl, hnew, hs⟩ := hs.release 0 rfl [⟨rv16, 22, 1, 16, [(Value.int .i64 0), (Value.int .i64 1), (Value.int .i64 2), (Value.int .i64 3), (Value.int .i64 4), (Value.int .i64 5), (Value.int .i64 6), (Value.int .i64 7), (Value.int .i64 8), (Value.int .i64 9), (Value.int .i64 10), (Value.int .i64 11), (Value.int .i64 12), (Value.int .i64 13), (Value.int .i64 14), (Value.int .i64 15)], true⟩] rfl
    have hMM := hMM.next hle hnew
    have hS := hS M39 ad37 cap38 hle hsl
    refine stepMake [(Value.slice ad28 11 cap29), (Value.slice ad31 2 cap32), (Value.slice ad34 11 cap35), (Value.slice ad37 4 cap38)] 24 1 4 hs rfl rfl rfl (fun _ => by kernel_rfl) rfl (by unfold maxLen; decide) (by decide) (fun _ _ rv40 hs => ?_)
    refine stepY (v := (Value.int .i64 ((4 : Nat) : Int))) hs rfl rfl (by decide) (Yl.lenR (e' := 24) 0 rfl rfl rfl (by kernel_rfl)) (fun _ hs => ?_)
    refine stepY (v := (Value.int .i64 0)) hs rfl rfl (by decide) (Yl.pure rfl (fun _ => by kernel_rfl)) (fun _ hs => ?_)
    refine wpList_nil ?_
    refine Wp.block ?_
    obtain ⟨I80, mu81, hI0, hst⟩ := hS
    refine Wp.loop (σ := (Int) × (Value)) (fun s a w => match s with | (x78, rv79) => Sx 43 E [] M39 w a [(23, rv79), (24, (Value.int .i64 ((4 : Nat) : Int))), (25, (Value.int .i64 x78))] [] [⟨rv79, 24, 1, 4, [(Value.slice ad28 11 cap29), (Value.slice ad31 2 cap32), (Value.slice ad34 11 cap35), (Value.slice ad37 4 cap38)], true⟩, ⟨rv16, 22, 1, 16, [(Value.int .i64 0), (Value.int .i64 1), (Value.int .i64 2), (Value.int .i64 3), (Value.int .i64 4), (Value.int .i64 5), (Value.int .i64 6), (Value.int .i64 7), (Value.int .i64 8), (Value.int .i64 9), (Value.int .i64 10), (Value.int .i64 11), (Value.int .i64 12), (Value.int .i64 13), (Value.int .i64 14), (Value.int .i64 15)], true⟩] ∧ I80 x78) (fun s => match s with | (x78, rv79) => mu81 x78) (0, rv40) ⟨(hs.weak (List.Sublist.refl _) (List.Sublist.refl _) ⟨rfl, rfl, rfl, trivial⟩), hI0⟩ (fun s a w hI => ?_)
    obtain ⟨x78, rv79⟩ := s
    obtain ⟨hs, hI⟩ := hI
    have hS := hst x78 hI
    clear hst hI0 hI
    refine Wp.seq ?_
    refine Wp.region ?_
    refine stepY (v := (Value.bool (decide (x78 < ((4 : Nat) : Int))))) hs rfl rfl (by decide) (Yl.pure rfl (fun _ => by kernel_rfl)) (fun _ hs => ?_)
    refine wpList_nil ?_
    refine Wp.seq ?_
    refine Wp.cond hs rfl rfl decide_eq_true_iff (fun hc => ?_) (fun hc => ?_)
    · have hS := hS.1 hc
      refine Wp.skip ?_
      refine Wp.seq ?_
      refine Wp.block ?_
      refine Wp.seq ?_
      refine Wp.region ?_
      obtain ⟨ad82, cap83, hv, hcp, hxl⟩ := hs.rowform 0 rfl
      dsimp only at hv hcp hxl
      subst hv
      obtain ⟨h0, hl, hS⟩ := hS
      have hix84 : x78.toNat < 4 := by omega
      obtain ⟨g85, hg85⟩ := hs.rowblk 0 rfl (by omega)
      refine stepY (v := (Value.pointer (some ⟨g85, 0 + x78.toNat * 1, none⟩))) hs rfl rfl (by decide) (Yl.indexS (e := 24) (sz := 1) rfl rfl rfl rfl (by kernel_rfl) (by kernel_rfl) hg85 h0 hl) (fun _ hs => ?_)
      obtain ⟨xa86, xl87, xc88, hcs, hS⟩ := hS
      refine stepY (v := (Value.slice xa86 xl87 xc88)) hs rfl rfl (by decide) (Yl.loadR (vs := [(Value.slice xa86 xl87 xc88)]) 0 false rfl hg85 rfl rfl (by kernel_rfl) hcs) (fun _ hs => ?_)
      refine stepY (v := (Value.slice xa86 xl87 xc88)) hs rfl rfl (by decide) (Yl.pure rfl (fun _ => by kernel_rfl)) (fun _ hs => ?_)
      refine wpList_nil ?_
      refine Wp.seq ?_
      refine Wp.region ?_
      refine stepY (v := (Value.slice xa86 xl87 xc88)) hs rfl rfl (by decide) (Yl.pure rfl (fun _ => by kernel_rfl)) (fun _ hs => ?_)
      refine stepY (v := (Value.int .i64 ((xl87 : Nat) : Int))) hs rfl rfl (by decide) (Yl.pure rfl (fun _ => by kernel_rfl)) (fun _ hs => ?_)
      refine stepY (v := (Value.int .i64 0)) hs rfl rfl (by decide) (Yl.pure rfl (fun _ => by kernel_rfl)) (fun _ hs => ?_)
      refine wpList_nil ?_
      refine Wp.block ?_
      obtain ⟨I94, mu95, hI0, hst⟩ := hS
      refine Wp.loop (σ := (Int)) (fun s a w => match s with | (x93) => Sx 43 E [] M39 w a [(4, (Value.slice xa86 xl87 xc88)), (23, (Value.slice ad82 4 cap83)), (24, (Value.int .i64 ((4 : Nat) : Int))), (25, (Value.int .i64 x78)), (30, (Value.int .i64 ((xl87 : Nat) : Int))), (31, (Value.int .i64 x93))] [] [⟨(Value.slice ad82 4 cap83), 24, 1, 4, [(Value.slice ad28 11 cap29), (Value.slice ad31 2 cap32), (Value.slice ad34 11 cap35), (Value.slice ad37 4 cap38)], true⟩, ⟨rv16, 22, 1, 16, [(Value.int .i64 0), (Value.int .i64 1), (Value.int .i64 2), (Value.int .i64 3), (Value.int .i64 4), (Value.int .i64 5), (Value.int .i64 6), (Value.int .i64 7), (Value.int .i64 8), (Value.int .i64 9), (Value.int .i64 10), (Value.int .i64 11), (Value.int .i64 12), (Value.int .i64 13), (Value.int .i64 14), (Value.int .i64 15)], true⟩] ∧ I94 x93) (fun s => match s with | (x93) => mu95 x93) (0) ⟨(hs.weak (List.Sublist.refl _) (List.Sublist.refl _) ⟨rfl, rfl, rfl, rfl, rfl, rfl, trivial⟩), hI0⟩ (fun x93 a w hI => ?_)
      obtain ⟨hs, hI⟩ := hI
      have hS := hst x93 hI
      clear hst hI0 hI
      refine Wp.seq ?_
      refine Wp.region ?_
      refine stepY (v := (Value.bool (decide (x93 < ((xl87 : Nat) : Int))))) hs rfl rfl (by decide) (Yl.pure rfl (fun _ => by kernel_rfl)) (fun _ hs => ?_)
      refine wpList_nil ?_
      refine Wp.seq ?_
      refine Wp.cond hs rfl rfl decide_eq_true_iff (fun hc => ?_) (fun hc => ?_)
      · have hS := hS.1 hc
        refine Wp.skip ?_
        refine Wp.seq ?_
        refine Wp.block ?_
        refine Wp.seq ?_
        refine Wp.region ?_
        refine stepY (v := (Value.int .i64 x93)) hs rfl rfl (by decide) (Yl.pure rfl (fun _ => by kernel_rfl)) (fun _ hs => ?_)
        refine stepY (v := (Value.int .i64 x93)) hs rfl rfl (by decide) (Yl.pure rfl (fun _ => by kernel_rfl)) (fun _ hs => ?_)
        refine wpList_nil ?_
        refine Wp.seq ?_
        refine Wp.region ?_
        refine stepY (v := (Value.slice xa86 xl87 xc88)) hs rfl rfl (by decide) (Yl.pure rfl (fun _ => by kernel_rfl)) (fun _ hs => ?_)
        refine stepY (v := (Value.int .i64 x93)) hs rfl rfl (by decide) (Yl.pure rfl (fun _ => by kernel_rfl)) (fun _ hs => ?_)
        obtain ⟨b96, o97, ha, h0, hl, hS⟩ := hS
        refine stepY (v := (Value.pointer (some ⟨b96, o97 + x93.toNat * 1, none⟩))) hs rfl rfl (by decide) (Yl.indexS (e := 3) (sz := 1) rfl rfl rfl rfl (by kernel_rfl) (by kernel_rfl) ha h0 hl) (fun _ hs => ?_)
        obtain ⟨x98, hat, hS⟩ := hS
        refine stepY (v := (Value.int .i64 x98)) hs rfl rfl (by decide) (Yl.loadV (vs := [(Value.int .i64 x98)]) false rfl rfl (by kernel_rfl) hat) (fun _ hs => ?_)
        refine stepY (v := (Value.int .i64 x93)) hs rfl rfl (by decide) (Yl.pure rfl (fun _ => by kernel_rfl)) (fun _ hs => ?_)
        obtain ⟨hI, hS⟩ := hS
        refine stepY (v := (Value.int .i64 (x93 + 1))) hs rfl rfl (by decide) (Yl.eq (Yl.pure (v := Value.int .i64 (IntKind.wrap .i64 (x93 + 1))) rfl (fun _ => by kernel_rfl)) (congrArg (Value.int .i64) (wrap_in hI))) (fun _ hs => ?_)
        refine stepY (v := (Value.bool ((x98 : Int) != (x93 + 1 : Int)))) hs rfl rfl (by decide) (Yl.pure rfl (fun _ => by kernel_rfl)) (fun _ hs => ?_)
        refine wpList_nil ?_
        refine Wp.cond hs rfl rfl bne_iff_ne (fun hc => ?_) (fun hc => ?_)
        · have hS := hS.1 hc
          refine Wp.seq ?_
          refine Wp.region ?_
          refine stepY (v := (Value.bool false)) hs rfl rfl (by decide) (Yl.pure rfl (fun _ => by kernel_rfl)) (fun _ hs => ?_)
          refine wpList_nil ?_
          refine Wp.ret ?_
          exact leaveE (K := fun v _ => K v) hs (resT hs rfl rfl) hMM.2 (fun _ _ => hS)
        · have hS := hS.2 hc
          refine Wp.skip ?_
          refine Wp.region ?_
          obtain ⟨hI, hS⟩ := hS
          refine stepY (v := (Value.int .i64 (x93 + 1))) hs rfl rfl (by decide) (Yl.eq (Yl.pure (v := Value.int .i64 (IntKind.wrap .i64 (x93 + 1))) rfl (fun _ => by kernel_rfl)) (congrArg (Value.int .i64) (wrap_in hI))) (fun _ hs => ?_)
          refine stepY (v := (Value.int .i64 (x93 + 1))) hs rfl rfl (by decide) (Yl.pure rfl (fun _ => by kernel_rfl)) (fun _ hs => ?_)
          refine wpList_nil ?_
          exact ⟨(x93 + 1), ⟨(hs.weak (List.Sublist.refl _) (List.Sublist.refl _) ⟨rfl, rfl, rfl, rfl, rfl, rfl, trivial⟩), hS.1⟩, hS.2⟩
      · have hS := hS.2 hc
        refine Wp.exit rfl ?_
        refine Wp.region ?_
        obtain ⟨hI, hS⟩ := hS
        refine stepY (v := (Value.int .i64 (x78 + 1))) hs rfl rfl (by decide) (Yl.eq (Yl.pure (v := Value.int .i64 (IntKind.wrap .i64 (x78 + 1))) rfl (fun _ => by kernel_rfl)) (congrArg (Value.int .i64) (wrap_in hI))) (fun _ hs => ?_)
        refine stepY (v := (Value.int .i64 (x78 + 1))) hs rfl rfl (by decide) (Yl.pure rfl (fun _ => by kernel_rfl)) (fun _ hs => ?_)
        refine wpList_nil ?_
        exact ⟨(x78 + 1, (Value.slice ad82 4 cap83)), ⟨(hs.weak (List.Sublist.refl _) (List.Sublist.refl _) ⟨rfl, rfl, rfl, trivial⟩), hS.1⟩, hS.2⟩
    · have hS := hS.2 hc
      refine Wp.exit rfl ?_
      refine Wp.seq ?_
      refine Wp.region ?_
      refine stepY (v := (Value.bool true)) hs rfl rfl (by decide) (Yl.pure rfl (fun _ => by kernel_rfl)) (fun _ hs => ?_)
      refine wpList_nil ?_
      refine Wp.ret ?_
      exact leaveE (K := fun v _ => K v) hs (resT hs rfl rfl) hMM.2 (fun _ _ => hS)
theorem f_chafflaw_Names (M : Mem) (K : Value → Prop) (hS : S_chafflaw_Names M K) : CallF Try.prog (Value.func (.func 3) #[] #[]) [] M (fun v _ => K v) := ⟨3, _, _, _, rfl, Try.func3, rfl, (by decide), s_chafflaw_Names _ _ hS⟩

def WalkGoal : Prop := ∀ (H : Type) (enc : TypeId × Value → H) (W : World) , CallE Try.prog 3 #[] (HM W) (fun v _ => v = .bool true)
theorem top_own : ownKnob Try.prog.godebug = none := by kernel_rfl
theorem top_laidOut : laidOutB Try.prog = true := by kernel_rfl
set_option linter.unusedVariables false in
set_option maxRecDepth 100000 in
theorem top_lifted (walk : WalkGoal) (os : Os) (started : os.Started) (H : Type) (enc : TypeId × Value → H) :
    ReturnsInHanded {} Try.checked os 3 .any (Rows.namesSpec.pre6 enc Try.prog Try.f3 Rows.namesRow.domain false) (Rows.namesSpec.post enc Try.prog Try.f3 false true false false) := by
  refine returnsInHanded_of_change (C := Try.checked) top_own started (by kernel_rfl) Try.func3
    (ChangeSpec.witness6 (enc := enc) (C := Try.checked) false ⟨#[], #[], []⟩ 9 (by kernel_rfl) (by kernel_rfl) (by kernel_rfl) (by kernel_rfl)) ?_
  intro W base args ds gs before hval0 hW hcnd _
  have hval : ∀ (j : Nat) t v, Try.f3.params[j]? = some t → args[j]? = some v → Value.okWide Try.prog W .any base t v := hval0
  have hW' := hW
  obtain ⟨p, q, hA0, hV, rfl, hfz, hnd⟩ := hW
  have hA : DataW.TrodAll enc Try.prog W 0 (fun _ => true) true Try.f3.params.toList args.toList ds p := hA0
  have hA1 := hA
  rw [Try.params3] at hA hval
  obtain ⟨rfl, rfl, rfl⟩ := trodAll_none hA
  obtain ⟨rfl, rfl⟩ := trodVars_none hV
  clear hA0 hval0
  refine (walk H enc W  W (HM.on W)).mono fun e W' ⟨v, he, bel, hv⟩ => ?_
  subst he
  subst hv
  exact ⟨_, rfl, _, _, _, [], _, [], hW', trodAll_mk1 (shut_bool Try.underlying4 _), trodAll_below top_laidOut bel (by kernel_rfl) hA1, rfl, bel.frame _, fun h => by cases h⟩
theorem top (walk : WalkGoal) : Rows.NamesSaid :=
  OpenClaim.holds_of_wide 3 Try.f3 rfl rfl rfl rfl rfl rfl rfl ⟨rfl, rfl, rfl, rfl, rfl⟩ rfl rfl rfl rfl rfl (by kernel_rfl) Try.func3 (by kernel_rfl)
    (of_decide_eq_true (by kernel_rfl)) (by unfold Func.isWrapper; first | (rw [if_pos (by decide +kernel)]; kernel_rfl) | (rw [if_neg (by decide +kernel)]; exact ⟨rfl, rfl⟩))
    (fun os started H enc _ => top_lifted walk os started H enc)
end Go.Proofs.Ytdlfhmdojbejkaa.lawNames
