/- What the code that CoverMerges reaches computes, function for function, as shallow propositions; printed by program. -/
import Derived.Test.YtdlfhmdojbejkaaRows
import Derived.Test.YtdlfhmdojbejkaaGxD
import Derived.Test.YtdlfhmdojbejkaaGxE
import Derived.Test.YtdlfhmdojbejkaaGxS
import Derived.Test.YtdlfhmdojbejkaaGxT
namespace Go.Proofs.Ytdlfhmdojbejkaa.lawCoverMerges
open Go.Gx Go.RowKit Go.ChangeShapes Go.WideShapes Go.ChangeAt
set_option linter.unusedVariables false in
def S_cover_Check_J1 (x9 : Int) (I10 : Int → Prop) (mu11 : Int → Nat) (x15 : Bool) (K : Value → Prop) : Prop :=
  ((x15 = true → K (Value.int .i64 3)) ∧ (¬ (x15 = true) → (InI (x9 + 1) ∧ I10 (x9 + 1) ∧ mu11 (x9 + 1) < mu11 x9)))
set_option linter.unusedVariables false in
def S_cover_Check (la1 : Option Addr) (ll2 : Nat) (lc3 : Nat) (M : Mem) (K : Value → Prop) : Prop :=
  ((((ll2 : Nat) : Int) > 120 → K (Value.int .i64 2)) ∧ (¬ (((ll2 : Nat) : Int) > 120) → (∃ (I10 : Int → Prop) (mu11 : Int → Nat), I10 0 ∧ ∀ (x9 : Int), (I10 x9 → ((x9 < ((ll2 : Nat) : Int) → (∃ (b12 o13 : Nat), la1 = some ⟨b12, o13, none⟩ ∧ (0 : Int) ≤ x9 ∧ x9 < ((ll2 : Nat) : Int) ∧ (∃ (x14 : Int), At M b12 (o13 + x9.toNat * 1) [(Value.int .i64 x14)] ∧ ((x14 < 0 → (S_cover_Check_J1 x9 I10 mu11 true K)) ∧ (¬ (x14 < 0) → (S_cover_Check_J1 x9 I10 mu11 (decide (x14 > 3)) K)))))) ∧ (¬ (x9 < ((ll2 : Nat) : Int)) → K (Value.int .i64 0)))))))
set_option linter.unusedVariables false in
set_option maxRecDepth 100000 in
theorem s_cover_Check (la1 : Option Addr) (ll2 : Nat) (lc3 : Nat) (M : Mem) (K : Value → Prop) (hS : S_cover_Check la1 ll2 lc3 M K) : CallE Try.prog 28 #[(Value.slice la1 ll2 lc3)] M (fun v _ => K v) := by
  refine enterE Try.func28 rfl 21 rfl (Nat.le_of_ble_eq_true rfl) (fun E a hs => ?_)
  unfold S_cover_Check at hS
  have hMM := MX.refl M E
  change Sx 21 E [] M E a [(0, (Value.slice la1 ll2 lc3))] [] [] at hs
  refine Wp.seq ?_
  refine Wp.region ?_
  refine stepY (v := (Value.int .i64 0)) hs rfl rfl (by decide) (Yl.pure rfl (fun _ => by kernel_rfl)) (fun _ hs => ?_)
  refine wpList_nil ?_
  refine Wp.seq ?_
  refine Wp.seq ?_
  refine Wp.region ?_
  refine stepY (v := (Value.slice la1 ll2 lc3)) hs rfl rfl (by decide) (Yl.pure rfl (fun _ => by kernel_rfl)) (fun _ hs => ?_)
  refine stepY (v := (Value.int .i64 ((ll2 : Nat) : Int))) hs rfl rfl (by decide) (Yl.pure rfl (fun _ => by kernel_rfl)) (fun _ hs => ?_)
  refine stepY (v := (Value.bool (decide (((ll2 : Nat) : Int) > 120)))) hs rfl rfl (by decide) (Yl.pure rfl (fun _ => by kernel_rfl)) (fun _ hs => ?_)
  refine wpList_nil ?_
  refine Wp.cond hs rfl rfl decide_eq_true_iff (fun hc => ?_) (fun hc => ?_)
  · have hS := hS.1 hc
    refine Wp.seq ?_
    refine Wp.region ?_
    refine stepY (v := (Value.int .i64 2)) hs rfl rfl (by decide) (Yl.pure rfl (fun _ => by kernel_rfl)) (fun _ hs => ?_)
    refine wpList_nil ?_
    refine Wp.ret ?_
    exact leaveE (K := fun v _ => K v) hs (resT hs rfl rfl) hMM.2 (fun _ _ => hS)
  · have hS := hS.2 hc
    refine Wp.skip ?_
    refine Wp.seq ?_
    refine Wp.seq ?_
    refine Wp.region ?_
    refine stepY (v := (Value.slice la1 ll2 lc3)) hs rfl rfl (by decide) (Yl.pure rfl (fun _ => by kernel_rfl)) (fun _ hs => ?_)
    refine stepY (v := (Value.int .i64 ((ll2 : Nat) : Int))) hs rfl rfl (by decide) (Yl.pure rfl (fun _ => by kernel_rfl)) (fun _ hs => ?_)
    refine stepY (v := (Value.int .i64 0)) hs rfl rfl (by decide) (Yl.pure rfl (fun _ => by kernel_rfl)) (fun _ hs => ?_)
    refine wpList_nil ?_
    refine Wp.block ?_
    obtain ⟨I10, mu11, hI0, hst⟩ := hS
    refine Wp.loop (σ := (Int)) (fun s a w => match s with | (x9) => Sx 21 E [] M w a [(8, (Value.slice la1 ll2 lc3)), (9, (Value.int .i64 ((ll2 : Nat) : Int))), (10, (Value.int .i64 x9))] [] [] ∧ I10 x9) (fun s => match s with | (x9) => mu11 x9) (0) ⟨(hs.weak (List.Sublist.refl _) (List.Sublist.refl _) ⟨rfl, rfl, rfl, trivial⟩), hI0⟩ (fun x9 a w hI => ?_)
    obtain ⟨hs, hI⟩ := hI
    have hS := hst x9 hI
    clear hst hI0 hI
    refine Wp.seq ?_
    refine Wp.region ?_
    refine stepY (v := (Value.bool (decide (x9 < ((ll2 : Nat) : Int))))) hs rfl rfl (by decide) (Yl.pure rfl (fun _ => by kernel_rfl)) (fun _ hs => ?_)
    refine wpList_nil ?_
    refine Wp.seq ?_
    refine Wp.cond hs rfl rfl decide_eq_true_iff (fun hc => ?_) (fun hc => ?_)
    · have hS := hS.1 hc
      refine Wp.skip ?_
      refine Wp.seq ?_
      refine Wp.block ?_
      refine Wp.seq ?_
      refine Wp.region ?_
      obtain ⟨b12, o13, ha, h0, hl, hS⟩ := hS
      refine stepY (v := (Value.pointer (some ⟨b12, o13 + x9.toNat * 1, none⟩))) hs rfl rfl (by decide) (Yl.indexS (e := 3) (sz := 1) rfl rfl rfl rfl (by kernel_rfl) (by kernel_rfl) ha h0 hl) (fun _ hs => ?_)
      obtain ⟨x14, hat, hS⟩ := hS
      refine stepY (v := (Value.int .i64 x14)) hs rfl rfl (by decide) (Yl.loadV (vs := [(Value.int .i64 x14)]) false rfl rfl (by kernel_rfl) hat) (fun _ hs => ?_)
      refine stepY (v := (Value.int .i64 x14)) hs rfl rfl (by decide) (Yl.pure rfl (fun _ => by kernel_rfl)) (fun _ hs => ?_)
      refine wpList_nil ?_
      refine Wp.join (fun a w => ∃ (x15 : Bool), Sx 21 E [] M w a [(8, (Value.slice la1 ll2 lc3)), (9, (Value.int .i64 ((ll2 : Nat) : Int))), (10, (Value.int .i64 x9)), (19, (Value.bool x15))] [] [] ∧ (S_cover_Check_J1 x9 I10 mu11 x15 K)) ?_ ?_
      · refine Wp.region ?_
        refine stepY (v := (Value.int .i64 x14)) hs rfl rfl (by decide) (Yl.pure rfl (fun _ => by kernel_rfl)) (fun _ hs => ?_)
        refine stepY (v := (Value.bool (decide (x14 < 0)))) hs rfl rfl (by decide) (Yl.pure rfl (fun _ => by kernel_rfl)) (fun _ hs => ?_)
        refine stepY (v := (Value.bool (decide (x14 < 0)))) hs rfl rfl (by decide) (Yl.pure rfl (fun _ => by kernel_rfl)) (fun _ hs => ?_)
        refine bsplit (decide (x14 < 0)) decide_eq_true_iff (fun hb hc => ?_) (fun hb hc => ?_)
        · have hs := hs.bt hb
          have hS := hS.1 hc
          refine step_no hs rfl rfl rfl rfl rfl (by decide) (fun _ hs => ?_)
          refine step_no hs rfl rfl rfl rfl rfl (by decide) (fun _ hs => ?_)
          refine stepY (v := (Value.bool true)) hs rfl rfl (by decide) (Yl.pure rfl (fun _ => by kernel_rfl)) (fun _ hs => ?_)
          refine wpList_nil ?_
          exact ⟨true, (hs.weak (List.Sublist.refl _) (List.Sublist.refl _) ⟨rfl, rfl, rfl, rfl, trivial⟩), hS⟩
        · have hs := hs.bf hb
          have hS := hS.2 hc
          refine step_yes hs rfl rfl rfl ?_
          refine stepY (v := (Value.int .i64 x14)) hs rfl rfl (by decide) (Yl.pure rfl (fun _ => by kernel_rfl)) (fun _ hs => ?_)
          refine step_yes hs rfl rfl rfl ?_
          refine stepY (v := (Value.bool (decide (x14 > 3)))) hs rfl rfl (by decide) (Yl.pure rfl (fun _ => by kernel_rfl)) (fun _ hs => ?_)
          refine stepY (v := (Value.bool (decide (x14 > 3)))) hs rfl rfl (by decide) (Yl.pure rfl (fun _ => by kernel_rfl)) (fun _ hs => ?_)
          refine wpList_nil ?_
          exact ⟨(decide (x14 > 3)), (hs.weak (List.Sublist.refl _) (List.Sublist.refl _) ⟨rfl, rfl, rfl, rfl, trivial⟩), hS⟩
      · intro a w hJ
        obtain ⟨x15, hs, hS⟩ := hJ
        unfold S_cover_Check_J1 at hS
        refine Wp.cond hs rfl rfl Iff.rfl (fun hc => ?_) (fun hc => ?_)
        · have hS := hS.1 hc
          refine Wp.seq ?_
          refine Wp.region ?_
          refine stepY (v := (Value.int .i64 3)) hs rfl rfl (by decide) (Yl.pure rfl (fun _ => by kernel_rfl)) (fun _ hs => ?_)
          refine wpList_nil ?_
          refine Wp.ret ?_
          exact leaveE (K := fun v _ => K v) hs (resT hs rfl rfl) hMM.2 (fun _ _ => hS)
        · have hS := hS.2 hc
          refine Wp.skip ?_
          refine Wp.region ?_
          obtain ⟨hI, hS⟩ := hS
          refine stepY (v := (Value.int .i64 (x9 + 1))) hs rfl rfl (by decide) (Yl.eq (Yl.pure (v := Value.int .i64 (IntKind.wrap .i64 (x9 + 1))) rfl (fun _ => by kernel_rfl)) (congrArg (Value.int .i64) (wrap_in hI))) (fun _ hs => ?_)
          refine stepY (v := (Value.int .i64 (x9 + 1))) hs rfl rfl (by decide) (Yl.pure rfl (fun _ => by kernel_rfl)) (fun _ hs => ?_)
          refine wpList_nil ?_
          exact ⟨(x9 + 1), ⟨(hs.weak (List.Sublist.refl _) (List.Sublist.refl _) ⟨rfl, rfl, rfl, trivial⟩), hS.1⟩, hS.2⟩
    · have hS := hS.2 hc
      refine Wp.exit rfl ?_
      refine Wp.seq ?_
      refine Wp.region ?_
      refine stepY (v := (Value.int .i64 0)) hs rfl rfl (by decide) (Yl.pure rfl (fun _ => by kernel_rfl)) (fun _ hs => ?_)
      refine wpList_nil ?_
      refine Wp.ret ?_
      exact leaveE (K := fun v _ => K v) hs (resT hs rfl rfl) hMM.2 (fun _ _ => hS)
theorem f_cover_Check (la1 : Option Addr) (ll2 : Nat) (lc3 : Nat) (M : Mem) (K : Value → Prop) (hS : S_cover_Check la1 ll2 lc3 M K) : CallF Try.prog (Value.func (.func 28) #[] #[]) [(Value.slice la1 ll2 lc3)] M (fun v _ => K v) := ⟨28, _, _, _, rfl, Try.func28, rfl, (by decide), s_cover_Check _ _ _ _ _ hS⟩
set_option linter.unusedVariables false in
def S_chaffref_Marks_J1 (x9 : Int) (I10 : Int → Prop) (mu11 : Int → Nat) (x15 : Bool) (K : Value → Prop) : Prop :=
  ((x15 = true → K (Value.int .i64 3)) ∧ (¬ (x15 = true) → (InI (x9 + 1) ∧ I10 (x9 + 1) ∧ mu11 (x9 + 1) < mu11 x9)))
set_option linter.unusedVariables false in
def S_chaffref_Marks (la1 : Option Addr) (ll2 : Nat) (lc3 : Nat) (M : Mem) (K : Value → Prop) : Prop :=
  ((((ll2 : Nat) : Int) > 120 → K (Value.int .i64 2)) ∧ (¬ (((ll2 : Nat) : Int) > 120) → (∃ (I10 : Int → Prop) (mu11 : Int → Nat), I10 0 ∧ ∀ (x9 : Int), (I10 x9 → ((x9 < ((ll2 : Nat) : Int) → (∃ (b12 o13 : Nat), la1 = some ⟨b12, o13, none⟩ ∧ (0 : Int) ≤ x9 ∧ x9 < ((ll2 : Nat) : Int) ∧ (∃ (x14 : Int), At M b12 (o13 + x9.toNat * 1) [(Value.int .i64 x14)] ∧ ((x14 < 0 → (S_chaffref_Marks_J1 x9 I10 mu11 true K)) ∧ (¬ (x14 < 0) → (S_chaffref_Marks_J1 x9 I10 mu11 (decide (x14 > 3)) K)))))) ∧ (¬ (x9 < ((ll2 : Nat) : Int)) → K (Value.int .i64 0)))))))
set_option linter.unusedVariables false in
set_option maxRecDepth 100000 in
theorem s_chaffref_Marks (la1 : Option Addr) (ll2 : Nat) (lc3 : Nat) (M : Mem) (K : Value → Prop) (hS : S_chaffref_Marks la1 ll2 lc3 M K) : CallE Try.prog 29 #[(Value.slice la1 ll2 lc3)] M (fun v _ => K v) := by
  refine enterE Try.func29 rfl 21 rfl (Nat.le_of_ble_eq_true rfl) (fun E a hs => ?_)
  unfold S_chaffref_Marks at hS
  have hMM := MX.refl M E
  change Sx 21 E [] M E a [(0, (Value.slice la1 ll2 lc3))] [] [] at hs
  refine Wp.seq ?_
  refine Wp.region ?_
  refine stepY (v := (Value.int .i64 0)) hs rfl rfl (by decide) (Yl.pure rfl (fun _ => by kernel_rfl)) (fun _ hs => ?_)
  refine wpList_nil ?_
  refine Wp.seq ?_
  refine Wp.seq ?_
  refine Wp.region ?_
  refine stepY (v := (Value.slice la1 ll2 lc3)) hs rfl rfl (by decide) (Yl.pure rfl (fun _ => by kernel_rfl)) (fun _ hs => ?_)
  refine stepY (v := (Value.int .i64 ((ll2 : Nat) : Int))) hs rfl rfl (by decide) (Yl.pure rfl (fun _ => by kernel_rfl)) (fun _ hs => ?_)
  refine stepY (v := (Value.bool (decide (((ll2 : Nat) : Int) > 120)))) hs rfl rfl (by decide) (Yl.pure rfl (fun _ => by kernel_rfl)) (fun _ hs => ?_)
  refine wpList_nil ?_
  refine Wp.cond hs rfl rfl decide_eq_true_iff (fun hc => ?_) (fun hc => ?_)
  · have hS := hS.1 hc
    refine Wp.seq ?_
    refine Wp.region ?_
    refine stepY (v := (Value.int .i64 2)) hs rfl rfl (by decide) (Yl.pure rfl (fun _ => by kernel_rfl)) (fun _ hs => ?_)
    refine wpList_nil ?_
    refine Wp.ret ?_
    exact leaveE (K := fun v _ => K v) hs (resT hs rfl rfl) hMM.2 (fun _ _ => hS)
  · have hS := hS.2 hc
    refine Wp.skip ?_
    refine Wp.seq ?_
    refine Wp.seq ?_
    refine Wp.region ?_
    refine stepY (v := (Value.slice la1 ll2 lc3)) hs rfl rfl (by decide) (Yl.pure rfl (fun _ => by kernel_rfl)) (fun _ hs => ?_)
    refine stepY (v := (Value.int .i64 ((ll2 : Nat) : Int))) hs rfl rfl (by decide) (Yl.pure rfl (fun _ => by kernel_rfl)) (fun _ hs => ?_)
    refine stepY (v := (Value.int .i64 0)) hs rfl rfl (by decide) (Yl.pure rfl (fun _ => by kernel_rfl)) (fun _ hs => ?_)
    refine wpList_nil ?_
    refine Wp.block ?_
    obtain ⟨I10, mu11, hI0, hst⟩ := hS
    refine Wp.loop (σ := (Int)) (fun s a w => match s with | (x9) => Sx 21 E [] M w a [(8, (Value.slice la1 ll2 lc3)), (9, (Value.int .i64 ((ll2 : Nat) : Int))), (10, (Value.int .i64 x9))] [] [] ∧ I10 x9) (fun s => match s with | (x9) => mu11 x9) (0) ⟨(hs.weak (List.Sublist.refl _) (List.Sublist.refl _) ⟨rfl, rfl, rfl, trivial⟩), hI0⟩ (fun x9 a w hI => ?_)
    obtain ⟨hs, hI⟩ := hI
    have hS := hst x9 hI
    clear hst hI0 hI
    refine Wp.seq ?_
    refine Wp.region ?_
    refine stepY (v := (Value.bool (decide (x9 < ((ll2 : Nat) : Int))))) hs rfl rfl (by decide) (Yl.pure rfl (fun _ => by kernel_rfl)) (fun _ hs => ?_)
    refine wpList_nil ?_
    refine Wp.seq ?_
    refine Wp.cond hs rfl rfl decide_eq_true_iff (fun hc => ?_) (fun hc => ?_)
    · have hS := hS.1 hc
      refine Wp.skip ?_
      refine Wp.seq ?_
      refine Wp.block ?_
      refine Wp.seq ?_
      refine Wp.region ?_
      obtain ⟨b12, o13, ha, h0, hl, hS⟩ := hS
      refine stepY (v := (Value.pointer (some ⟨b12, o13 + x9.toNat * 1, none⟩))) hs rfl rfl (by decide) (Yl.indexS (e := 3) (sz := 1) rfl rfl rfl rfl (by kernel_rfl) (by kernel_rfl) ha h0 hl) (fun _ hs => ?_)
      obtain ⟨x14, hat, hS⟩ := hS
      refine stepY (v := (Value.int .i64 x14)) hs rfl rfl (by decide) (Yl.loadV (vs := [(Value.int .i64 x14)]) false rfl rfl (by kernel_rfl) hat) (fun _ hs => ?_)
      refine stepY (v := (Value.int .i64 x14)) hs rfl rfl (by decide) (Yl.pure rfl (fun _ => by kernel_rfl)) (fun _ hs => ?_)
      refine wpList_nil ?_
      refine Wp.join (fun a w => ∃ (x15 : Bool), Sx 21 E [] M w a [(8, (Value.slice la1 ll2 lc3)), (9, (Value.int .i64 ((ll2 : Nat) : Int))), (10, (Value.int .i64 x9)), (19, (Value.bool x15))] [] [] ∧ (S_chaffref_Marks_J1 x9 I10 mu11 x15 K)) ?_ ?_
      · refine Wp.region ?_
        refine stepY (v := (Value.int .i64 x14)) hs rfl rfl (by decide) (Yl.pure rfl (fun _ => by kernel_rfl)) (fun _ hs => ?_)
        refine stepY (v := (Value.bool (decide (x14 < 0)))) hs rfl rfl (by decide) (Yl.pure rfl (fun _ => by kernel_rfl)) (fun _ hs => ?_)
        refine stepY (v := (Value.bool (decide (x14 < 0)))) hs rfl rfl (by decide) (Yl.pure rfl (fun _ => by kernel_rfl)) (fun _ hs => ?_)
        refine bsplit (decide (x14 < 0)) decide_eq_true_iff (fun hb hc => ?_) (fun hb hc => ?_)
        · have hs := hs.bt hb
          have hS := hS.1 hc
          refine step_no hs rfl rfl rfl rfl rfl (by decide) (fun _ hs => ?_)
          refine step_no hs rfl rfl rfl rfl rfl (by decide) (fun _ hs => ?_)
          refine stepY (v := (Value.bool true)) hs rfl rfl (by decide) (Yl.pure rfl (fun _ => by kernel_rfl)) (fun _ hs => ?_)
          refine wpList_nil ?_
          exact ⟨true, (hs.weak (List.Sublist.refl _) (List.Sublist.refl _) ⟨rfl, rfl, rfl, rfl, trivial⟩), hS⟩
        · have hs := hs.bf hb
          have hS := hS.2 hc
          refine step_yes hs rfl rfl rfl ?_
          refine stepY (v := (Value.int .i64 x14)) hs rfl rfl (by decide) (Yl.pure rfl (fun _ => by kernel_rfl)) (fun _ hs => ?_)
          refine step_yes hs rfl rfl rfl ?_
          refine stepY (v := (Value.bool (decide (x14 > 3)))) hs rfl rfl (by decide) (Yl.pure rfl (fun _ => by kernel_rfl)) (fun _ hs => ?_)
          refine stepY (v := (Value.bool (decide (x14 > 3)))) hs rfl rfl (by decide) (Yl.pure rfl (fun _ => by kernel_rfl)) (fun _ hs => ?_)
          refine wpList_nil ?_
          exact ⟨(decide (x14 > 3)), (hs.weak (List.Sublist.refl _) (List.Sublist.refl _) ⟨rfl, rfl, rfl, rfl, trivial⟩), hS⟩
      · intro a w hJ
        obtain ⟨x15, hs, hS⟩ := hJ
        unfold S_chaffref_Marks_J1 at hS
        refine Wp.cond hs rfl rfl Iff.rfl (fun hc => ?_) (fun hc => ?_)
        · have hS := hS.1 hc
          refine Wp.seq ?_
          refine Wp.region ?_
          refine stepY (v := (Value.int .i64 3)) hs rfl rfl (by decide) (Yl.pure rfl (fun _ => by kernel_rfl)) (fun _ hs => ?_)
          refine wpList_nil ?_
          refine Wp.ret ?_
          exact leaveE (K := fun v _ => K v) hs (resT hs rfl rfl) hMM.2 (fun _ _ => hS)
        · have hS := hS.2 hc
          refine Wp.skip ?_
          refine Wp.region ?_
          obtain ⟨hI, hS⟩ := hS
          refine stepY (v := (Value.int .i64 (x9 + 1))) hs rfl rfl (by decide) (Yl.eq (Yl.pure (v := Value.int .i64 (IntKind.wrap .i64 (x9 + 1))) rfl (fun _ => by kernel_rfl)) (congrArg (Value.int .i64) (wrap_in hI))) (fun _ hs => ?_)
          refine stepY (v := (Value.int .i64 (x9 + 1))) hs rfl rfl (by decide) (Yl.pure rfl (fun _ => by kernel_rfl)) (fun _ hs => ?_)
          refine wpList_nil ?_
          exact ⟨(x9 + 1), ⟨(hs.weak (List.Sublist.refl _) (List.Sublist.refl _) ⟨rfl, rfl, rfl, trivial⟩), hS.1⟩, hS.2⟩
    · have hS := hS.2 hc
      refine Wp.exit rfl ?_
      refine Wp.seq ?_
      refine Wp.region ?_
      refine stepY (v := (Value.int .i64 0)) hs rfl rfl (by decide) (Yl.pure rfl (fun _ => by kernel_rfl)) (fun _ hs => ?_)
      refine wpList_nil ?_
      refine Wp.ret ?_
      exact leaveE (K := fun v _ => K v) hs (resT hs rfl rfl) hMM.2 (fun _ _ => hS)
theorem f_chaffref_Marks (la1 : Option Addr) (ll2 : Nat) (lc3 : Nat) (M : Mem) (K : Value → Prop) (hS : S_chaffref_Marks la1 ll2 lc3 M K) : CallF Try.prog (Value.func (.func 29) #[] #[]) [(Value.slice la1 ll2 lc3)] M (fun v _ => K v) := ⟨29, _, _, _, rfl, Try.func29, rfl, (by decide), s_chaffref_Marks _ _ _ _ _ hS⟩
set_option linter.unusedVariables false in
def S_cover_Left_J1 (x30 : Int) (rn32 : Nat) (rx33 : List Value) (I34 : Int → Nat → List Value → Prop) (mu35 : Int → Nat → List Value → Nat) (rn44 : Nat) (rx45 : List Value) (K : Value → Mem → Prop) : Prop :=
  (InI (x30 + 1) ∧ I34 (x30 + 1) rn44 rx45 ∧ mu35 (x30 + 1) rn44 rx45 < mu35 x30 rn32 rx33)
set_option linter.unusedVariables false in
def S_cover_Left (la1 : Option Addr) (ll2 : Nat) (lc3 : Nat) (M : Mem) (K : Value → Mem → Prop) : Prop :=
  (CallE Try.prog 28 #[(Value.slice la1 ll2 lc3)] M (fun v _ => ∃ (x4 : Int), v = (Value.int .i64 x4) ∧ (((x4 : Int) ≠ 0 → (∀ M', M.le M' → K (Value.tuple #[(Value.slice none 0 0), (Value.int .i64 x4)]) M')) ∧ (¬ ((x4 : Int) ≠ 0) → (∃ (I34 : Int → Nat → List Value → Prop) (mu35 : Int → Nat → List Value → Nat), I34 0 0 [] ∧ ∀ (x30 : Int) (rn32 : Nat) (rx33 : List Value), (I34 x30 rn32 rx33 → ((x30 < ((ll2 : Nat) : Int) → (∃ (b36 o37 : Nat), la1 = some ⟨b36, o37, none⟩ ∧ (0 : Int) ≤ x30 ∧ x30 < ((ll2 : Nat) : Int) ∧ (∃ (x38 : Int), At M b36 (o37 + x30.toNat * 1) [(Value.int .i64 x38)] ∧ (((bAnd .i64 x38 1 : Int) = 0 → ((rn32 + 1) * 8 ≤ 140737488355328 ∧ (S_cover_Left_J1 x30 rn32 rx33 I34 mu35 (rn32 + 1) (rx33 ++ [(Value.int .i64 x30)]) K))) ∧ (¬ ((bAnd .i64 x38 1 : Int) = 0) → (S_cover_Left_J1 x30 rn32 rx33 I34 mu35 rn32 rx33 K)))))) ∧ (¬ (x30 < ((ll2 : Nat) : Int)) → (∀ (M48 : Mem) (ad46 : Option Addr) (cap47 : Nat), M.le M48 → SlV M48 ad46 rn32 cap47 1 rx33 → (∀ M', M48.le M' → K (Value.tuple #[(Value.slice ad46 rn32 cap47), (Value.int .i64 0)]) M'))))))))))
set_option linter.unusedVariables false in
set_option maxRecDepth 100000 in
theorem s_cover_Left (la1 : Option Addr) (ll2 : Nat) (lc3 : Nat) (M : Mem) (K : Value → Mem → Prop) (hS : S_cover_Left la1 ll2 lc3 M K) : CallE Try.prog 30 #[(Value.slice la1 ll2 lc3)] M K := by
  refine enterE Try.func30 rfl 29 rfl (Nat.le_of_ble_eq_true rfl) (fun E a hs => ?_)
  unfold S_cover_Left at hS
  have hMM := MX.refl M E
  change Sx 29 E [] M E a [(0, (Value.slice la1 ll2 lc3))] [] [] at hs
  refine Wp.seq ?_
  refine Wp.region ?_
  refine stepY (v := (Value.slice none 0 0)) hs rfl rfl (by decide) (Yl.pure rfl (fun _ => by kernel_rfl)) (fun _ hs => ?_)
  refine stepY (v := (Value.int .i64 0)) hs rfl rfl (by decide) (Yl.pure rfl (fun _ => by kernel_rfl)) (fun _ hs => ?_)
  refine wpList_nil ?_
  refine Wp.seq ?_
  refine Wp.seq ?_
  refine Wp.region ?_
  refine stepY (v := (Value.slice la1 ll2 lc3)) hs rfl rfl (by decide) (Yl.pure rfl (fun _ => by kernel_rfl)) (fun _ hs => ?_)
  refine stepCallP [(Value.slice la1 ll2 lc3)] hs rfl ⟨_, rfl, rfl⟩ rfl Try.func28 rfl (by kernel_rfl) (by decide) hS (fun _ _ v hS hs => ?_)
  obtain ⟨x4, hv, hS⟩ := hS
  subst hv
  refine stepY (v := (Value.int .i64 x4)) hs rfl rfl (by decide) (Yl.pure rfl (fun _ => by kernel_rfl)) (fun _ hs => ?_)
  refine wpList_nil ?_
  refine Wp.seq ?_
  refine Wp.region ?_
  refine stepY (v := (Value.int .i64 x4)) hs rfl rfl (by decide) (Yl.pure rfl (fun _ => by kernel_rfl)) (fun _ hs => ?_)
  refine stepY (v := (Value.bool ((x4 : Int) != (0 : Int)))) hs rfl rfl (by decide) (Yl.pure rfl (fun _ => by kernel_rfl)) (fun _ hs => ?_)
  refine wpList_nil ?_
  refine Wp.cond hs rfl rfl bne_iff_ne (fun hc => ?_) (fun hc => ?_)
  · have hS := hS.1 hc
    refine Wp.seq ?_
    refine Wp.region ?_
    refine stepY (v := (Value.int .i64 x4)) hs rfl rfl (by decide) (Yl.pure rfl (fun _ => by kernel_rfl)) (fun _ hs => ?_)
    refine stepY (v := (Value.slice none 0 0)) hs rfl rfl (by decide) (Yl.pure rfl (fun _ => by kernel_rfl)) (fun _ hs => ?_)
    refine stepY (v := (Value.int .i64 x4)) hs rfl rfl (by decide) (Yl.pure rfl (fun _ => by kernel_rfl)) (fun _ hs => ?_)
    refine wpList_nil ?_
    refine Wp.ret ?_
    exact leaveE (K := K) hs (resTT hs rfl rfl rfl) hMM.2 hS
  · have hS := hS.2 hc
    refine Wp.skip ?_
    refine Wp.seq ?_
    refine Wp.region ?_
    refine stepY (v := Value.slice none 0 0) hs rfl rfl (by decide) (Yl.pure rfl (fun _ => by kernel_rfl)) (fun _ hs => ?_)
    have hs := hs.nilrow 3 1
    refine wpList_nil ?_
    refine Wp.seq ?_
    refine Wp.seq ?_
    refine Wp.region ?_
    refine stepY (v := (Value.slice la1 ll2 lc3)) hs rfl rfl (by decide) (Yl.pure rfl (fun _ => by kernel_rfl)) (fun _ hs => ?_)
    refine stepY (v := (Value.int .i64 ((ll2 : Nat) : Int))) hs rfl rfl (by decide) (Yl.pure rfl (fun _ => by kernel_rfl)) (fun _ hs => ?_)
    refine stepY (v := (Value.int .i64 0)) hs rfl rfl (by decide) (Yl.pure rfl (fun _ => by kernel_rfl)) (fun _ hs => ?_)
    refine wpList_nil ?_
    refine Wp.block ?_
    obtain ⟨I34, mu35, hI0, hst⟩ := hS
    refine Wp.loop (σ := (Int) × (Nat) × (List Value) × (Value)) (fun s a w => match s with | (x30, rn32, rx33, rv31) => Sx 29 E [] M w a [(5, rv31), (13, (Value.slice la1 ll2 lc3)), (14, (Value.int .i64 ((ll2 : Nat) : Int))), (15, (Value.int .i64 x30))] [] [⟨rv31, 3, 1, rn32, rx33, true⟩] ∧ I34 x30 rn32 rx33) (fun s => match s with | (x30, rn32, rx33, rv31) => mu35 x30 rn32 rx33) (0, 0, [], (Value.slice none 0 0)) ⟨(hs.weak (List.Sublist.refl _) (List.Sublist.refl _) ⟨rfl, rfl, rfl, rfl, trivial⟩), hI0⟩ (fun s a w hI => ?_)
    obtain ⟨x30, rn32, rx33, rv31⟩ := s
    obtain ⟨hs, hI⟩ := hI
    have hS := hst x30 rn32 rx33 hI
    clear hst hI0 hI
    refine Wp.seq ?_
    refine Wp.region ?_
    refine stepY (v := (Value.bool (decide (x30 < ((ll2 : Nat) : Int))))) hs rfl rfl (by decide) (Yl.pure rfl (fun _ => by kernel_rfl)) (fun _ hs => ?_)
    refine wpList_nil ?_
    refine Wp.seq ?_
    refine Wp.cond hs rfl rfl decide_eq_true_iff (fun hc => ?_) (fun hc => ?_)
    · have hS := hS.1 hc
      refine Wp.skip ?_
      refine Wp.join (fun a w => ∃ (rn44 : Nat) (rx45 : List Value) (rv43 : Value), Sx 29 E [] M w a [(5, rv43), (13, (Value.slice la1 ll2 lc3)), (14, (Value.int .i64 ((ll2 : Nat) : Int))), (15, (Value.int .i64 x30))] [] [⟨rv43, 3, 1, rn44, rx45, true⟩] ∧ (S_cover_Left_J1 x30 rn32 rx33 I34 mu35 rn44 rx45 K)) ?_ ?_
      · refine Wp.block ?_
        refine Wp.seq ?_
        refine Wp.region ?_
        refine stepY (v := (Value.int .i64 x30)) hs rfl rfl (by decide) (Yl.pure rfl (fun _ => by kernel_rfl)) (fun _ hs => ?_)
        obtain ⟨b36, o37, ha, h0, hl, hS⟩ := hS
        refine stepY (v := (Value.pointer (some ⟨b36, o37 + x30.toNat * 1, none⟩))) hs rfl rfl (by decide) (Yl.indexS (e := 3) (sz := 1) rfl rfl rfl rfl (by kernel_rfl) (by kernel_rfl) ha h0 hl) (fun _ hs => ?_)
        obtain ⟨x38, hat, hS⟩ := hS
        refine stepY (v := (Value.int .i64 x38)) hs rfl rfl (by decide) (Yl.loadV (vs := [(Value.int .i64 x38)]) false rfl rfl (by kernel_rfl) hat) (fun _ hs => ?_)
        refine stepY (v := (Value.int .i64 x30)) hs rfl rfl (by decide) (Yl.pure rfl (fun _ => by kernel_rfl)) (fun _ hs => ?_)
        refine stepY (v := (Value.int .i64 x38)) hs rfl rfl (by decide) (Yl.pure rfl (fun _ => by kernel_rfl)) (fun _ hs => ?_)
        refine wpList_nil ?_
        refine Wp.seq ?_
        refine Wp.region ?_
        refine stepY (v := (Value.int .i64 x38)) hs rfl rfl (by decide) (Yl.pure rfl (fun _ => by kernel_rfl)) (fun _ hs => ?_)
        refine stepY (v := (Value.int .i64 (bAnd .i64 x38 1))) hs rfl rfl (by decide) (Yl.pure rfl (fun _ => by kernel_rfl)) (fun _ hs => ?_)
        refine stepY (v := (Value.bool ((bAnd .i64 x38 1 : Int) == (0 : Int)))) hs rfl rfl (by decide) (Yl.pure rfl (fun _ => by kernel_rfl)) (fun _ hs => ?_)
        refine wpList_nil ?_
        refine Wp.cond hs rfl rfl beq_iff_eq (fun hc => ?_) (fun hc => ?_)
        · have hS := hS.1 hc
          refine Wp.region ?_
          refine stepY (v := rv31) hs rfl rfl (by decide) (Yl.pure rfl (fun _ => by kernel_rfl)) (fun _ hs => ?_)
          refine stepY (v := (Value.int .i64 x30)) hs rfl rfl (by decide) (Yl.pure rfl (fun _ => by kernel_rfl)) (fun _ hs => ?_)
          refine stepMake [(Value.int .i64 x30)] 3 1 1 hs rfl rfl rfl (fun _ => by kernel_rfl) rfl (by unfold maxLen; decide) (by decide) (fun _ _ rv39 hs => ?_)
          obtain ⟨ad40, cap41, hv, hcp, hxl⟩ := hs.rowform 0 rfl
          dsimp only at hv hcp hxl
          subst hv
          obtain ⟨hB, hS⟩ := hS
          refine stepAppend 1 [(Value.int .i64 x30)] hs rfl rfl rfl rfl rfl (by kernel_rfl) (by kernel_rfl) (by decide) (by decide) (hs.srcRow 0 rfl rfl) (lenb hB (by decide)) hB (fun _ _ rv42 hs => ?_)
          replace hs := hs.chrs (rs' := [⟨(Value.slice ad40 1 cap41), 3, 1, 1, [(Value.int .i64 x30)], true⟩, ⟨rv42, 3, 1, (rn32 + 1), (rx33 ++ [(Value.int .i64 x30)]), true⟩]) rfl
          refine stepY (v := rv42) hs rfl rfl (by decide) (Yl.pure rfl (fun _ => by kernel_rfl)) (fun _ hs => ?_)
          refine wpList_nil ?_
          exact ⟨(rn32 + 1), (rx33 ++ [(Value.int .i64 x30)]), rv42, (hs.weak (List.Sublist.refl _) (.cons _ (.cons_cons _ List.Sublist.slnil)) ⟨rfl, rfl, rfl, rfl, trivial⟩), hS⟩
        · have hS := hS.2 hc
          refine Wp.skip ?_
          exact ⟨rn32, rx33, rv31, (hs.weak (List.Sublist.refl _) (List.Sublist.refl _) ⟨rfl, rfl, rfl, rfl, trivial⟩), hS⟩
      · intro a w hJ
        obtain ⟨rn44, rx45, rv43, hs, hS⟩ := hJ
        unfold S_cover_Left_J1 at hS
        refine Wp.region ?_
        obtain ⟨hI, hS⟩ := hS
        refine stepY (v := (Value.int .i64 (x30 + 1))) hs rfl rfl (by decide) (Yl.eq (Yl.pure (v := Value.int .i64 (IntKind.wrap .i64 (x30 + 1))) rfl (fun _ => by kernel_rfl)) (congrArg (Value.int .i64) (wrap_in hI))) (fun _ hs => ?_)
        refine stepY (v := (Value.int .i64 (x30 + 1))) hs rfl rfl (by decide) (Yl.pure rfl (fun _ => by kernel_rfl)) (fun _ hs => ?_)
        refine wpList_nil ?_
        exact ⟨(x30 + 1, rn44, rx45, rv43), ⟨(hs.weak (List.Sublist.refl _) (List.Sublist.refl _) ⟨rfl, rfl, rfl, rfl, trivial⟩), hS.1⟩, hS.2⟩
    · have hS := hS.2 hc
      refine Wp.exit rfl ?_
      refine Wp.seq ?_
      refine Wp.region ?_
      refine stepY (v := rv31) hs rfl rfl (by decide) (Yl.pure rfl (fun _ => by kernel_rfl)) (fun _ hs => ?_)
      refine stepY (v := rv31) hs rfl rfl (by decide) (Yl.pure rfl (fun _ => by kernel_rfl)) (fun _ hs => ?_)
      refine stepY (v := (Value.int .i64 0)) hs rfl rfl (by decide) (Yl.pure rfl (fun _ => by kernel_rfl)) (fun _ hs => ?_)
      refine wpList_nil ?_
      refine Wp.ret ?_
      obtain ⟨ad46, cap47, hv, hcp, hxl⟩ := hs.rowform 0 rfl
      dsimp only at hv hcp hxl
      subst hv
      obtain ⟨M48, hle, hsl, hnew, hs⟩ := hs.release 0 rfl [] rfl
      have hMM := hMM.next hle hnew
      have hS := hS M48 ad46 cap47 hle hsl
      exact leaveE (K := K) hs (resTT hs rfl rfl rfl) hMM.2 hS
theorem f_cover_Left (la1 : Option Addr) (ll2 : Nat) (lc3 : Nat) (M : Mem) (K : Value → Mem → Prop) (hS : S_cover_Left la1 ll2 lc3 M K) : CallF Try.prog (Value.func (.func 30) #[] #[]) [(Value.slice la1 ll2 lc3)] M K := ⟨30, _, _, _, rfl, Try.func30, rfl, (by decide), s_cover_Left _ _ _ _ _ hS⟩
set_option linter.unusedVariables false in
def S_slices_Equal_int (sa1 : Option Addr) (sl2 : Nat) (sc3 : Nat) (sa4 : Option Addr) (sl5 : Nat) (sc6 : Nat) (M : Mem) (K : Value → Prop) : Prop :=
  ((((sl2 : Nat) : Int) ≠ ((sl5 : Nat) : Int) → K (Value.bool false)) ∧ (¬ (((sl2 : Nat) : Int) ≠ ((sl5 : Nat) : Int)) → (∃ (I15 : Int → Prop) (mu16 : Int → Nat), I15 0 ∧ ∀ (x14 : Int), (I15 x14 → ((x14 < ((sl2 : Nat) : Int) → (∃ (b17 o18 : Nat), sa1 = some ⟨b17, o18, none⟩ ∧ (0 : Int) ≤ x14 ∧ x14 < ((sl2 : Nat) : Int) ∧ (∃ (x19 : Int), At M b17 (o18 + x14.toNat * 1) [(Value.int .i64 x19)] ∧ (∃ (b20 o21 : Nat), sa4 = some ⟨b20, o21, none⟩ ∧ (0 : Int) ≤ x14 ∧ x14 < ((sl5 : Nat) : Int) ∧ (∃ (x22 : Int), At M b20 (o21 + x14.toNat * 1) [(Value.int .i64 x22)] ∧ (((x19 : Int) ≠ x22 → K (Value.bool false)) ∧ (¬ ((x19 : Int) ≠ x22) → (InI (x14 + 1) ∧ I15 (x14 + 1) ∧ mu16 (x14 + 1) < mu16 x14)))))))) ∧ (¬ (x14 < ((sl2 : Nat) : Int)) → K (Value.bool true)))))))
set_option linter.unusedVariables false in
set_option maxRecDepth 100000 in
theorem s_slices_Equal_int (sa1 : Option Addr) (sl2 : Nat) (sc3 : Nat) (sa4 : Option Addr) (sl5 : Nat) (sc6 : Nat) (M : Mem) (K : Value → Prop) (hS : S_slices_Equal_int sa1 sl2 sc3 sa4 sl5 sc6 M K) : CallE Try.prog 31 #[(Value.slice sa1 sl2 sc3), (Value.slice sa4 sl5 sc6)] M (fun v _ => K v) := by
  refine enterE Try.func31 rfl 26 rfl (Nat.le_of_ble_eq_true rfl) (fun E a hs => ?_)
  unfold S_slices_Equal_int at hS
  have hMM := MX.refl M E
  change Sx 26 E [] M E a [(0, (Value.slice sa1 sl2 sc3)), (1, (Value.slice sa4 sl5 sc6))] [] [] at hs
  refine Wp.seq ?_
  refine Wp.region ?_
  refine stepY (v := (Value.bool false)) hs rfl rfl (by decide) (Yl.pure rfl (fun _ => by kernel_rfl)) (fun _ hs => ?_)
  refine wpList_nil ?_
  refine Wp.seq ?_
  refine Wp.seq ?_
  refine Wp.region ?_
  refine stepY (v := (Value.slice sa1 sl2 sc3)) hs rfl rfl (by decide) (Yl.pure rfl (fun _ => by kernel_rfl)) (fun _ hs => ?_)
  refine stepY (v := (Value.int .i64 ((sl2 : Nat) : Int))) hs rfl rfl (by decide) (Yl.pure rfl (fun _ => by kernel_rfl)) (fun _ hs => ?_)
  refine stepY (v := (Value.slice sa4 sl5 sc6)) hs rfl rfl (by decide) (Yl.pure rfl (fun _ => by kernel_rfl)) (fun _ hs => ?_)
  refine stepY (v := (Value.int .i64 ((sl5 : Nat) : Int))) hs rfl rfl (by decide) (Yl.pure rfl (fun _ => by kernel_rfl)) (fun _ hs => ?_)
  refine stepY (v := (Value.bool (((sl2 : Nat) : Int) != ((sl5 : Nat) : Int)))) hs rfl rfl (by decide) (Yl.pure rfl (fun _ => by kernel_rfl)) (fun _ hs => ?_)
  refine wpList_nil ?_
  refine Wp.cond hs rfl rfl bne_iff_ne (fun hc => ?_) (fun hc => ?_)
  · have hS := hS.1 hc
    refine Wp.seq ?_
    refine Wp.region ?_
    refine stepY (v := (Value.bool false)) hs rfl rfl (by decide) (Yl.pure rfl (fun _ => by kernel_rfl)) (fun _ hs => ?_)
    refine wpList_nil ?_
    refine Wp.ret ?_
    exact leaveE (K := fun v _ => K v) hs (resT hs rfl rfl) hMM.2 (fun _ _ => hS)
  · have hS := hS.2 hc
    refine Wp.skip ?_
    refine Wp.seq ?_
    refine Wp.seq ?_
    refine Wp.region ?_
    refine stepY (v := (Value.slice sa1 sl2 sc3)) hs rfl rfl (by decide) (Yl.pure rfl (fun _ => by kernel_rfl)) (fun _ hs => ?_)
    refine stepY (v := (Value.int .i64 ((sl2 : Nat) : Int))) hs rfl rfl (by decide) (Yl.pure rfl (fun _ => by kernel_rfl)) (fun _ hs => ?_)
    refine stepY (v := (Value.int .i64 0)) hs rfl rfl (by decide) (Yl.pure rfl (fun _ => by kernel_rfl)) (fun _ hs => ?_)
    refine wpList_nil ?_
    refine Wp.block ?_
    obtain ⟨I15, mu16, hI0, hst⟩ := hS
    refine Wp.loop (σ := (Int)) (fun s a w => match s with | (x14) => Sx 26 E [] M w a [(0, (Value.slice sa1 sl2 sc3)), (1, (Value.slice sa4 sl5 sc6)), (12, (Value.int .i64 ((sl2 : Nat) : Int))), (13, (Value.int .i64 x14))] [] [] ∧ I15 x14) (fun s => match s with | (x14) => mu16 x14) (0) ⟨(hs.weak (List.Sublist.refl _) (List.Sublist.refl _) ⟨rfl, rfl, rfl, rfl, trivial⟩), hI0⟩ (fun x14 a w hI => ?_)
    obtain ⟨hs, hI⟩ := hI
    have hS := hst x14 hI
    clear hst hI0 hI
    refine Wp.seq ?_
    refine Wp.region ?_
    refine stepY (v := (Value.bool (decide (x14 < ((sl2 : Nat) : Int))))) hs rfl rfl (by decide) (Yl.pure rfl (fun _ => by kernel_rfl)) (fun _ hs => ?_)
    refine wpList_nil ?_
    refine Wp.seq ?_
    refine Wp.cond hs rfl rfl decide_eq_true_iff (fun hc => ?_) (fun hc => ?_)
    · have hS := hS.1 hc
      refine Wp.skip ?_
      refine Wp.seq ?_
      refine Wp.block ?_
      refine Wp.seq ?_
      refine Wp.region ?_
      refine stepY (v := (Value.int .i64 x14)) hs rfl rfl (by decide) (Yl.pure rfl (fun _ => by kernel_rfl)) (fun _ hs => ?_)
      refine stepY (v := (Value.int .i64 x14)) hs rfl rfl (by decide) (Yl.pure rfl (fun _ => by kernel_rfl)) (fun _ hs => ?_)
      refine wpList_nil ?_
      refine Wp.seq ?_
      refine Wp.regionD [true, true, true, true, true, true, true, true, true] hs (by kernel_rfl) rfl [] (fun _ h => h) [] (fun _ h => h) (fun _ hs hC => ?_)
      have hL := Mem.le.refl M
      refine stepDP (v := (Value.slice sa1 sl2 sc3)) 0 [2, 3, 8] hs QZ.no rfl (wanted_none rfl) rfl (by decide) (by kernel_rfl) (by kernel_rfl) (by kernel_rfl) (Yl.pure rfl (fun _ => by kernel_rfl)) (fun _ hs => ?_)
      refine stepDP (v := (Value.int .i64 x14)) 1 [2, 3, 8] hs QZ.no rfl (wanted_none rfl) rfl (by decide) (by kernel_rfl) (by kernel_rfl) (by kernel_rfl) (Yl.pure rfl (fun _ => by kernel_rfl)) (fun _ hs => ?_)
      obtain ⟨b17, o18, ha, h0, hl, hS⟩ := hS
      refine stepDP (v := (Value.pointer (some ⟨b17, o18 + x14.toNat * 1, none⟩))) 2 [3, 8] hs QZ.no rfl (wanted_none rfl) rfl (by decide) (by kernel_rfl) (by kernel_rfl) (by kernel_rfl) (Yl.indexS (e := 3) (sz := 1) rfl rfl rfl rfl (by kernel_rfl) (by kernel_rfl) ha h0 hl) (fun _ hs => ?_)
      obtain ⟨x19, hat, hS⟩ := hS
      refine stepDY (v := (Value.int .i64 x19)) 3 [8] hs hC QZ.no rfl (wanted_none rfl) rfl (by decide) (by kernel_rfl) (by kernel_rfl) (by kernel_rfl) (Yl.loadV (vs := [(Value.int .i64 x19)]) false rfl rfl (by kernel_rfl) hat) (fun _ hs => ?_)
      refine stepDP (v := (Value.slice sa4 sl5 sc6)) 4 [6, 7, 8] hs QZ.no rfl (wanted_none rfl) rfl (by decide) (by kernel_rfl) (by kernel_rfl) (by kernel_rfl) (Yl.pure rfl (fun _ => by kernel_rfl)) (fun _ hs => ?_)
      refine stepDE 5 rfl (wanted_none rfl) (by kernel_rfl) #[] ?_
      refine stepY (v := (Value.int .i64 x14)) hs rfl rfl (by decide) (Yl.pure rfl (fun _ => by kernel_rfl)) (fun _ hs => ?_)
      refine wpList_nil ?_
      refine ⟨fun _ h => h, ?_⟩
      refine stepDE 6 rfl (wanted_none rfl) (by kernel_rfl) #[] ?_
      obtain ⟨b20, o21, ha, h0, hl, hS⟩ := hS
      refine stepY (v := (Value.pointer (some ⟨b20, o21 + x14.toNat * 1, none⟩))) hs rfl rfl (by decide) (Yl.indexS (e := 3) (sz := 1) rfl rfl rfl rfl (by kernel_rfl) (by kernel_rfl) ha h0 hl) (fun _ hs => ?_)
      refine wpList_nil ?_
      refine ⟨fun _ h => h, ?_⟩
      refine stepDE 7 rfl (wanted_none rfl) (by kernel_rfl) #[] ?_
      obtain ⟨x22, hat, hS⟩ := hS
      refine stepY (v := (Value.int .i64 x22)) hs rfl rfl (by decide) (Yl.loadV (vs := [(Value.int .i64 x22)]) false rfl rfl (by kernel_rfl) hat) (fun _ hs => ?_)
      refine wpList_nil ?_
      refine ⟨fun _ h => h, ?_⟩
      refine stepDE 8 rfl (wanted_none rfl) (by kernel_rfl) #[] ?_
      refine stepY (v := (Value.bool ((x19 : Int) != (x22 : Int)))) hs rfl rfl (by decide) (Yl.pure rfl (fun _ => by kernel_rfl)) (fun _ hs => ?_)
      refine wpList_nil ?_
      refine ⟨fun _ h => h, ?_⟩
      refine WpD.done (by kernel_rfl) ?_ _
      refine Wp.cond hs rfl rfl bne_iff_ne (fun hc => ?_) (fun hc => ?_)
      · have hS := hS.1 hc
        refine Wp.seq ?_
        refine Wp.region ?_
        refine stepY (v := (Value.bool false)) hs rfl rfl (by decide) (Yl.pure rfl (fun _ => by kernel_rfl)) (fun _ hs => ?_)
        refine wpList_nil ?_
        refine Wp.ret ?_
        exact leaveE (K := fun v _ => K v) hs (resT hs rfl rfl) hMM.2 (fun _ _ => hS)
      · have hS := hS.2 hc
        refine Wp.skip ?_
        refine Wp.region ?_
        obtain ⟨hI, hS⟩ := hS
        refine stepY (v := (Value.int .i64 (x14 + 1))) hs rfl rfl (by decide) (Yl.eq (Yl.pure (v := Value.int .i64 (IntKind.wrap .i64 (x14 + 1))) rfl (fun _ => by kernel_rfl)) (congrArg (Value.int .i64) (wrap_in hI))) (fun _ hs => ?_)
        refine stepY (v := (Value.int .i64 (x14 + 1))) hs rfl rfl (by decide) (Yl.pure rfl (fun _ => by kernel_rfl)) (fun _ hs => ?_)
        refine wpList_nil ?_
        exact ⟨(x14 + 1), ⟨(hs.weak (List.Sublist.refl _) (List.Sublist.refl _) ⟨rfl, rfl, rfl, rfl, trivial⟩), hS.1⟩, hS.2⟩
    · have hS := hS.2 hc
      refine Wp.exit rfl ?_
      refine Wp.seq ?_
      refine Wp.region ?_
      refine stepY (v := (Value.bool true)) hs rfl rfl (by decide) (Yl.pure rfl (fun _ => by kernel_rfl)) (fun _ hs => ?_)
      refine wpList_nil ?_
      refine Wp.ret ?_
      exact leaveE (K := fun v _ => K v) hs (resT hs rfl rfl) hMM.2 (fun _ _ => hS)
theorem f_slices_Equal_int (sa1 : Option Addr) (sl2 : Nat) (sc3 : Nat) (sa4 : Option Addr) (sl5 : Nat) (sc6 : Nat) (M : Mem) (K : Value → Prop) (hS : S_slices_Equal_int sa1 sl2 sc3 sa4 sl5 sc6 M K) : CallF Try.prog (Value.func (.func 31) #[] #[]) [(Value.slice sa1 sl2 sc3), (Value.slice sa4 sl5 sc6)] M (fun v _ => K v) := ⟨31, _, _, _, rfl, Try.func31, rfl, (by decide), s_slices_Equal_int _ _ _ _ _ _ _ _ hS⟩
set_option linter.unusedVariables false in
def S_cover_Merge (aa1 : Option Addr) (al2 : Nat) (ac3 : Nat) (ba4 : Option Addr) (bl5 : Nat) (bc6 : Nat) (M : Mem) (K : Value → Mem → Prop) : Prop :=
  (CallE Try.prog 28 #[(Value.slice aa1 al2 ac3)] M (fun v _ => ∃ (x7 : Int), v = (Value.int .i64 x7) ∧ (((x7 : Int) ≠ 0 → (∀ M', M.le M' → K (Value.tuple #[(Value.slice none 0 0), (Value.int .i64 x7)]) M')) ∧ (¬ ((x7 : Int) ≠ 0) → (CallE Try.prog 28 #[(Value.slice ba4 bl5 bc6)] M (fun v _ => ∃ (x8 : Int), v = (Value.int .i64 x8) ∧ (((x8 : Int) ≠ 0 → (∀ M', M.le M' → K (Value.tuple #[(Value.slice none 0 0), (Value.int .i64 x8)]) M')) ∧ (¬ ((x8 : Int) ≠ 0) → ((((al2 : Nat) : Int) ≠ ((bl5 : Nat) : Int) → (∀ M', M.le M' → K (Value.tuple #[(Value.slice none 0 0), (Value.int .i64 1)]) M')) ∧ (¬ (((al2 : Nat) : Int) ≠ ((bl5 : Nat) : Int)) → (∃ (I38 : Int → Nat → List Value → Prop) (mu39 : Int → Nat → List Value → Nat), I38 0 0 [] ∧ ∀ (x34 : Int) (rn36 : Nat) (rx37 : List Value), (I38 x34 rn36 rx37 → ((x34 < ((al2 : Nat) : Int) → (∃ (b40 o41 : Nat), aa1 = some ⟨b40, o41, none⟩ ∧ (0 : Int) ≤ x34 ∧ x34 < ((al2 : Nat) : Int) ∧ (∃ (x42 : Int), At M b40 (o41 + x34.toNat * 1) [(Value.int .i64 x42)] ∧ (∃ (b43 o44 : Nat), ba4 = some ⟨b43, o44, none⟩ ∧ (0 : Int) ≤ x34 ∧ x34 < ((bl5 : Nat) : Int) ∧ (∃ (x45 : Int), At M b43 (o44 + x34.toNat * 1) [(Value.int .i64 x45)] ∧ ((rn36 + 1) * 8 ≤ 140737488355328 ∧ (InI (x34 + 1) ∧ I38 (x34 + 1) (rn36 + 1) (rx37 ++ [(Value.int .i64 (bOr .i64 x42 x45))]) ∧ mu39 (x34 + 1) (rn36 + 1) (rx37 ++ [(Value.int .i64 (bOr .i64 x42 x45))]) < mu39 x34 rn36 rx37))))))) ∧ (¬ (x34 < ((al2 : Nat) : Int)) → (∀ (M52 : Mem) (ad50 : Option Addr) (cap51 : Nat), M.le M52 → SlV M52 ad50 rn36 cap51 1 rx37 → (∀ M', M52.le M' → K (Value.tuple #[(Value.slice ad50 rn36 cap51), (Value.int .i64 0)]) M'))))))))))))))))
set_option linter.unusedVariables false in
set_option maxRecDepth 100000 in
theorem s_cover_Merge (aa1 : Option Addr) (al2 : Nat) (ac3 : Nat) (ba4 : Option Addr) (bl5 : Nat) (bc6 : Nat) (M : Mem) (K : Value → Mem → Prop) (hS : S_cover_Merge aa1 al2 ac3 ba4 bl5 bc6 M K) : CallE Try.prog 32 #[(Value.slice aa1 al2 ac3), (Value.slice ba4 bl5 bc6)] M K := by
  refine enterE Try.func32 rfl 44 rfl (Nat.le_of_ble_eq_true rfl) (fun E a hs => ?_)
  unfold S_cover_Merge at hS
  have hMM := MX.refl M E
  change Sx 44 E [] M E a [(0, (Value.slice aa1 al2 ac3)), (1, (Value.slice ba4 bl5 bc6))] [] [] at hs
  refine Wp.seq ?_
  refine Wp.region ?_
  refine stepY (v := (Value.slice none 0 0)) hs rfl rfl (by decide) (Yl.pure rfl (fun _ => by kernel_rfl)) (fun _ hs => ?_)
  refine stepY (v := (Value.int .i64 0)) hs rfl rfl (by decide) (Yl.pure rfl (fun _ => by kernel_rfl)) (fun _ hs => ?_)
  refine wpList_nil ?_
  refine Wp.seq ?_
  refine Wp.seq ?_
  refine Wp.region ?_
  refine stepY (v := (Value.slice aa1 al2 ac3)) hs rfl rfl (by decide) (Yl.pure rfl (fun _ => by kernel_rfl)) (fun _ hs => ?_)
  refine stepCallP [(Value.slice aa1 al2 ac3)] hs rfl ⟨_, rfl, rfl⟩ rfl Try.func28 rfl (by kernel_rfl) (by decide) hS (fun _ _ v hS hs => ?_)
  obtain ⟨x7, hv, hS⟩ := hS
  subst hv
  refine stepY (v := (Value.int .i64 x7)) hs rfl rfl (by decide) (Yl.pure rfl (fun _ => by kernel_rfl)) (fun _ hs => ?_)
  refine wpList_nil ?_
  refine Wp.seq ?_
  refine Wp.region ?_
  refine stepY (v := (Value.int .i64 x7)) hs rfl rfl (by decide) (Yl.pure rfl (fun _ => by kernel_rfl)) (fun _ hs => ?_)
  refine stepY (v := (Value.bool ((x7 : Int) != (0 : Int)))) hs rfl rfl (by decide) (Yl.pure rfl (fun _ => by kernel_rfl)) (fun _ hs => ?_)
  refine wpList_nil ?_
  refine Wp.cond hs rfl rfl bne_iff_ne (fun hc => ?_) (fun hc => ?_)
  · have hS := hS.1 hc
    refine Wp.seq ?_
    refine Wp.region ?_
    refine stepY (v := (Value.int .i64 x7)) hs rfl rfl (by decide) (Yl.pure rfl (fun _ => by kernel_rfl)) (fun _ hs => ?_)
    refine stepY (v := (Value.slice none 0 0)) hs rfl rfl (by decide) (Yl.pure rfl (fun _ => by kernel_rfl)) (fun _ hs => ?_)
    refine stepY (v := (Value.int .i64 x7)) hs rfl rfl (by decide) (Yl.pure rfl (fun _ => by kernel_rfl)) (fun _ hs => ?_)
    refine wpList_nil ?_
    refine Wp.ret ?_
    exact leaveE (K := K) hs (resTT hs rfl rfl rfl) hMM.2 hS
  · have hS := hS.2 hc
    refine Wp.skip ?_
    refine Wp.seq ?_
    refine Wp.seq ?_
    refine Wp.region ?_
    refine stepY (v := (Value.slice ba4 bl5 bc6)) hs rfl rfl (by decide) (Yl.pure rfl (fun _ => by kernel_rfl)) (fun _ hs => ?_)
    refine stepCallP [(Value.slice ba4 bl5 bc6)] hs rfl ⟨_, rfl, rfl⟩ rfl Try.func28 rfl (by kernel_rfl) (by decide) hS (fun _ _ v hS hs => ?_)
    obtain ⟨x8, hv, hS⟩ := hS
    subst hv
    refine stepY (v := (Value.int .i64 x8)) hs rfl rfl (by decide) (Yl.pure rfl (fun _ => by kernel_rfl)) (fun _ hs => ?_)
    refine wpList_nil ?_
    refine Wp.seq ?_
    refine Wp.region ?_
    refine stepY (v := (Value.int .i64 x8)) hs rfl rfl (by decide) (Yl.pure rfl (fun _ => by kernel_rfl)) (fun _ hs => ?_)
    refine stepY (v := (Value.bool ((x8 : Int) != (0 : Int)))) hs rfl rfl (by decide) (Yl.pure rfl (fun _ => by kernel_rfl)) (fun _ hs => ?_)
    refine wpList_nil ?_
    refine Wp.cond hs rfl rfl bne_iff_ne (fun hc => ?_) (fun hc => ?_)
    · have hS := hS.1 hc
      refine Wp.seq ?_
      refine Wp.region ?_
      refine stepY (v := (Value.int .i64 x8)) hs rfl rfl (by decide) (Yl.pure rfl (fun _ => by kernel_rfl)) (fun _ hs => ?_)
      refine stepY (v := (Value.slice none 0 0)) hs rfl rfl (by decide) (Yl.pure rfl (fun _ => by kernel_rfl)) (fun _ hs => ?_)
      refine stepY (v := (Value.int .i64 x8)) hs rfl rfl (by decide) (Yl.pure rfl (fun _ => by kernel_rfl)) (fun _ hs => ?_)
      refine wpList_nil ?_
      refine Wp.ret ?_
      exact leaveE (K := K) hs (resTT hs rfl rfl rfl) hMM.2 hS
    · have hS := hS.2 hc
      refine Wp.skip ?_
      refine Wp.seq ?_
      refine Wp.seq ?_
      refine Wp.region ?_
      refine stepY (v := (Value.slice aa1 al2 ac3)) hs rfl rfl (by decide) (Yl.pure rfl (fun _ => by kernel_rfl)) (fun _ hs => ?_)
      refine stepY (v := (Value.int .i64 ((al2 : Nat) : Int))) hs rfl rfl (by decide) (Yl.pure rfl (fun _ => by kernel_rfl)) (fun _ hs => ?_)
      refine stepY (v := (Value.slice ba4 bl5 bc6)) hs rfl rfl (by decide) (Yl.pure rfl (fun _ => by kernel_rfl)) (fun _ hs => ?_)
      refine stepY (v := (Value.int .i64 ((bl5 : Nat) : Int))) hs rfl rfl (by decide) (Yl.pure rfl (fun _ => by kernel_rfl)) (fun _ hs => ?_)
      refine stepY (v := (Value.bool (((al2 : Nat) : Int) != ((bl5 : Nat) : Int)))) hs rfl rfl (by decide) (Yl.pure rfl (fun _ => by kernel_rfl)) (fun _ hs => ?_)
      refine wpList_nil ?_
      refine Wp.cond hs rfl rfl bne_iff_ne (fun hc => ?_) (fun hc => ?_)
      · have hS := hS.1 hc
        refine Wp.seq ?_
        refine Wp.region ?_
        refine stepY (v := (Value.slice none 0 0)) hs rfl rfl (by decide) (Yl.pure rfl (fun _ => by kernel_rfl)) (fun _ hs => ?_)
        refine stepY (v := (Value.int .i64 1)) hs rfl rfl (by decide) (Yl.pure rfl (fun _ => by kernel_rfl)) (fun _ hs => ?_)
        refine wpList_nil ?_
        refine Wp.ret ?_
        exact leaveE (K := K) hs (resTT hs rfl rfl rfl) hMM.2 hS
      · have hS := hS.2 hc
        refine Wp.skip ?_
        refine Wp.seq ?_
        refine Wp.region ?_
        refine stepY (v := Value.slice none 0 0) hs rfl rfl (by decide) (Yl.pure rfl (fun _ => by kernel_rfl)) (fun _ hs => ?_)
        have hs := hs.nilrow 3 1
        refine wpList_nil ?_
        refine Wp.seq ?_
        refine Wp.seq ?_
        refine Wp.region ?_
        refine stepY (v := (Value.slice aa1 al2 ac3)) hs rfl rfl (by decide) (Yl.pure rfl (fun _ => by kernel_rfl)) (fun _ hs => ?_)
        refine stepY (v := (Value.int .i64 ((al2 : Nat) : Int))) hs rfl rfl (by decide) (Yl.pure rfl (fun _ => by kernel_rfl)) (fun _ hs => ?_)
        refine stepY (v := (Value.int .i64 0)) hs rfl rfl (by decide) (Yl.pure rfl (fun _ => by kernel_rfl)) (fun _ hs => ?_)
        refine wpList_nil ?_
        refine Wp.block ?_
        obtain ⟨I38, mu39, hI0, hst⟩ := hS
        refine Wp.loop (σ := (Int) × (Nat) × (List Value) × (Value)) (fun s a w => match s with | (x34, rn36, rx37, rv35) => Sx 44 E [] M w a [(0, (Value.slice aa1 al2 ac3)), (1, (Value.slice ba4 bl5 bc6)), (8, rv35), (26, (Value.int .i64 ((al2 : Nat) : Int))), (27, (Value.int .i64 x34))] [] [⟨rv35, 3, 1, rn36, rx37, true⟩] ∧ I38 x34 rn36 rx37) (fun s => match s with | (x34, rn36, rx37, rv35) => mu39 x34 rn36 rx37) (0, 0, [], (Value.slice none 0 0)) ⟨(hs.weak (List.Sublist.refl _) (List.Sublist.refl _) ⟨rfl, rfl, rfl, rfl, rfl, trivial⟩), hI0⟩ (fun s a w hI => ?_)
        obtain ⟨x34, rn36, rx37, rv35⟩ := s
        obtain ⟨hs, hI⟩ := hI
        have hS := hst x34 rn36 rx37 hI
        clear hst hI0 hI
        refine Wp.seq ?_
        refine Wp.region ?_
        refine stepY (v := (Value.bool (decide (x34 < ((al2 : Nat) : Int))))) hs rfl rfl (by decide) (Yl.pure rfl (fun _ => by kernel_rfl)) (fun _ hs => ?_)
        refine wpList_nil ?_
        refine Wp.seq ?_
        refine Wp.cond hs rfl rfl decide_eq_true_iff (fun hc => ?_) (fun hc => ?_)
        · have hS := hS.1 hc
          refine Wp.skip ?_
          refine Wp.seq ?_
          refine Wp.block ?_
          refine Wp.seq ?_
          refine Wp.region ?_
          refine stepY (v := (Value.int .i64 x34)) hs rfl rfl (by decide) (Yl.pure rfl (fun _ => by kernel_rfl)) (fun _ hs => ?_)
          refine stepY (v := (Value.int .i64 x34)) hs rfl rfl (by decide) (Yl.pure rfl (fun _ => by kernel_rfl)) (fun _ hs => ?_)
          refine wpList_nil ?_
          refine Wp.regionD [true, true, true, true, true, true, true, true, true, true, true, false, true] hs (by kernel_rfl) rfl [] (fun _ h => h) [⟨rv35, 3, 1, rn36, rx37, true⟩] (fun _ h => h) (fun _ hs hC => ?_)
          have hL := Mem.le.refl M
          refine stepDP (v := rv35) 0 [11, 12] hs QZ.no rfl (wanted_none rfl) rfl (by decide) (by kernel_rfl) (by kernel_rfl) (by kernel_rfl) (Yl.pure rfl (fun _ => by kernel_rfl)) (fun _ hs => ?_)
          refine stepDP (v := (Value.slice aa1 al2 ac3)) 1 [3, 4, 9, 10, 11, 12] hs QZ.no rfl (wanted_none rfl) rfl (by decide) (by kernel_rfl) (by kernel_rfl) (by kernel_rfl) (Yl.pure rfl (fun _ => by kernel_rfl)) (fun _ hs => ?_)
          refine stepDP (v := (Value.int .i64 x34)) 2 [3, 4, 9, 10, 11, 12] hs QZ.no rfl (wanted_none rfl) rfl (by decide) (by kernel_rfl) (by kernel_rfl) (by kernel_rfl) (Yl.pure rfl (fun _ => by kernel_rfl)) (fun _ hs => ?_)
          obtain ⟨b40, o41, ha, h0, hl, hS⟩ := hS
          refine stepDP (v := (Value.pointer (some ⟨b40, o41 + x34.toNat * 1, none⟩))) 3 [4, 9, 10, 11, 12] hs QZ.no rfl (wanted_none rfl) rfl (by decide) (by kernel_rfl) (by kernel_rfl) (by kernel_rfl) (Yl.indexS (e := 3) (sz := 1) rfl rfl rfl rfl (by kernel_rfl) (by kernel_rfl) ha h0 hl) (fun _ hs => ?_)
          obtain ⟨x42, hat, hS⟩ := hS
          refine stepDY (v := (Value.int .i64 x42)) 4 [9, 10, 11, 12] hs hC QZ.no rfl (wanted_none rfl) rfl (by decide) (by kernel_rfl) (by kernel_rfl) (by kernel_rfl) (Yl.loadV (vs := [(Value.int .i64 x42)]) false rfl rfl (by kernel_rfl) hat) (fun _ hs => ?_)
          refine stepDP (v := (Value.slice ba4 bl5 bc6)) 5 [7, 8, 9, 10, 11, 12] hs QZ.no rfl (wanted_none rfl) rfl (by decide) (by kernel_rfl) (by kernel_rfl) (by kernel_rfl) (Yl.pure rfl (fun _ => by kernel_rfl)) (fun _ hs => ?_)
          refine stepDE 6 rfl (wanted_none rfl) (by kernel_rfl) #[] ?_
          refine stepY (v := (Value.int .i64 x34)) hs rfl rfl (by decide) (Yl.pure rfl (fun _ => by kernel_rfl)) (fun _ hs => ?_)
          refine wpList_nil ?_
          refine ⟨fun _ h => h, ?_⟩
          refine stepDE 7 rfl (wanted_none rfl) (by kernel_rfl) #[] ?_
          obtain ⟨b43, o44, ha, h0, hl, hS⟩ := hS
          refine stepY (v := (Value.pointer (some ⟨b43, o44 + x34.toNat * 1, none⟩))) hs rfl rfl (by decide) (Yl.indexS (e := 3) (sz := 1) rfl rfl rfl rfl (by kernel_rfl) (by kernel_rfl) ha h0 hl) (fun _ hs => ?_)
          refine wpList_nil ?_
          refine ⟨fun _ h => h, ?_⟩
          refine stepDE 8 rfl (wanted_none rfl) (by kernel_rfl) #[] ?_
          obtain ⟨x45, hat, hS⟩ := hS
          refine stepY (v := (Value.int .i64 x45)) hs rfl rfl (by decide) (Yl.loadV (vs := [(Value.int .i64 x45)]) false rfl rfl (by kernel_rfl) hat) (fun _ hs => ?_)
          refine wpList_nil ?_
          refine ⟨fun _ h => h, ?_⟩
          refine stepDE 9 rfl (wanted_none rfl) (by kernel_rfl) #[] ?_
          refine stepY (v := (Value.int .i64 (bOr .i64 x42 x45))) hs rfl rfl (by decide) (Yl.pure rfl (fun _ => by kernel_rfl)) (fun _ hs => ?_)
          refine wpList_nil ?_
          refine ⟨fun _ h => h, ?_⟩
          refine stepDE 10 rfl (wanted_none rfl) (by kernel_rfl) #[] ?_
          refine stepMake [(Value.int .i64 (bOr .i64 x42 x45))] 3 1 1 hs rfl rfl rfl (fun _ => by kernel_rfl) rfl (by unfold maxLen; decide) (by decide) (fun _ _ rv46 hs => ?_)
          refine wpList_nil ?_
          refine ⟨fun _ _ => hs.cxle hL (List.Sublist.refl _) (.cons _ (.cons_cons _ List.Sublist.slnil)), ?_⟩
          have hC := hs.cxle hL (List.Sublist.refl _) (.cons _ (.cons_cons _ List.Sublist.slnil))
          refine stepDE 11 rfl (wanted_none rfl) (by kernel_rfl) #[] ?_
          obtain ⟨ad47, cap48, hv, hcp, hxl⟩ := hs.rowform 0 rfl
          dsimp only at hv hcp hxl
          subst hv
          obtain ⟨hB, hS⟩ := hS
          refine stepAppend 1 [(Value.int .i64 (bOr .i64 x42 x45))] hs rfl rfl rfl rfl rfl (by kernel_rfl) (by kernel_rfl) (by decide) (by decide) (hs.srcRow 0 rfl rfl) (lenb hB (by decide)) hB (fun _ _ rv49 hs => ?_)
          replace hs := hs.chrs (rs' := [⟨(Value.slice ad47 1 cap48), 3, 1, 1, [(Value.int .i64 (bOr .i64 x42 x45))], true⟩, ⟨rv49, 3, 1, (rn36 + 1), (rx37 ++ [(Value.int .i64 (bOr .i64 x42 x45))]), true⟩]) rfl
          refine wpList_nil ?_
          refine ⟨fun h => absurd h (by decide), ?_⟩
          refine stepDE 12 rfl (wanted_none rfl) (by kernel_rfl) #[] ?_
          refine stepY (v := rv49) hs rfl rfl (by decide) (Yl.pure rfl (fun _ => by kernel_rfl)) (fun _ hs => ?_)
          refine wpList_nil ?_
          refine ⟨fun _ h => h, ?_⟩
          refine WpD.done (by kernel_rfl) ?_ _
          refine Wp.region ?_
          obtain ⟨hI, hS⟩ := hS
          refine stepY (v := (Value.int .i64 (x34 + 1))) hs rfl rfl (by decide) (Yl.eq (Yl.pure (v := Value.int .i64 (IntKind.wrap .i64 (x34 + 1))) rfl (fun _ => by kernel_rfl)) (congrArg (Value.int .i64) (wrap_in hI))) (fun _ hs => ?_)
          refine stepY (v := (Value.int .i64 (x34 + 1))) hs rfl rfl (by decide) (Yl.pure rfl (fun _ => by kernel_rfl)) (fun _ hs => ?_)
          refine wpList_nil ?_
          exact ⟨(x34 + 1, (rn36 + 1), (rx37 ++ [(Value.int .i64 (bOr .i64 x42 x45))]), rv49), ⟨(hs.weak (List.Sublist.refl _) (.cons _ (.cons_cons _ List.Sublist.slnil)) ⟨rfl, rfl, rfl, rfl, rfl, trivial⟩), hS.1⟩, hS.2⟩
        · have hS := hS.2 hc
          refine Wp.exit rfl ?_
          refine Wp.seq ?_
          refine Wp.region ?_
          refine stepY (v := rv35) hs rfl rfl (by decide) (Yl.pure rfl (fun _ => by kernel_rfl)) (fun _ hs => ?_)
          refine stepY (v := rv35) hs rfl rfl (by decide) (Yl.pure rfl (fun _ => by kernel_rfl)) (fun _ hs => ?_)
          refine stepY (v := (Value.int .i64 0)) hs rfl rfl (by decide) (Yl.pure rfl (fun _ => by kernel_rfl)) (fun _ hs => ?_)
          refine wpList_nil ?_
          refine Wp.ret ?_
          obtain ⟨ad50, cap51, hv, hcp, hxl⟩ := hs.rowform 0 rfl
          dsimp only at hv hcp hxl
          subst hv
          obtain ⟨M52, hle, hsl, hnew, hs⟩ := hs.release 0 rfl [] rfl
          have hMM := hMM.next hle hnew
          have hS := hS M52 ad50 cap51 hle hsl
          exact leaveE (K := K) hs (resTT hs rfl rfl rfl) hMM.2 hS
theorem f_cover_Merge (aa1 : Option Addr) (al2 : Nat) (ac3 : Nat) (ba4 : Option Addr) (bl5 : Nat) (bc6 : Nat) (M : Mem) (K : Value → Mem → Prop) (hS : S_cover_Merge aa1 al2 ac3 ba4 bl5 bc6 M K) : CallF Try.prog (Value.func (.func 32) #[] #[]) [(Value.slice aa1 al2 ac3), (Value.slice ba4 bl5 bc6)] M K := ⟨32, _, _, _, rfl, Try.func32, rfl, (by decide), s_cover_Merge _ _ _ _ _ _ _ _ hS⟩
set_option linter.unusedVariables false in
def S_chafflaw_CoverMerges_J8 (aa1 : Option Addr) (al2 : Nat) (ba4 : Option Addr) (bl5 : Nat) (xa64 : Option Addr) (xl65 : Nat) (M68 : Mem) (x74 : Bool) (K : Value → Prop) : Prop :=
  ((x74 = true → K (Value.bool false)) ∧ (¬ (x74 = true) → (∃ (I92 : Int → Prop) (mu93 : Int → Nat), I92 0 ∧ ∀ (x91 : Int), (I92 x91 → ((x91 < ((xl65 : Nat) : Int) → (∃ (b94 o95 : Nat), xa64 = some ⟨b94, o95, none⟩ ∧ (0 : Int) ≤ x91 ∧ x91 < ((xl65 : Nat) : Int) ∧ (∃ (x96 : Int), At M68 b94 (o95 + x91.toNat * 1) [(Value.int .i64 x96)] ∧ (∃ (b97 o98 : Nat), aa1 = some ⟨b97, o98, none⟩ ∧ (0 : Int) ≤ x91 ∧ x91 < ((al2 : Nat) : Int) ∧ (∃ (x99 : Int), At M68 b97 (o98 + x91.toNat * 1) [(Value.int .i64 x99)] ∧ (∃ (b100 o101 : Nat), ba4 = some ⟨b100, o101, none⟩ ∧ (0 : Int) ≤ x91 ∧ x91 < ((bl5 : Nat) : Int) ∧ (∃ (x102 : Int), At M68 b100 (o101 + x91.toNat * 1) [(Value.int .i64 x102)] ∧ (∃ (b103 o104 : Nat), aa1 = some ⟨b103, o104, none⟩ ∧ (0 : Int) ≤ x91 ∧ x91 < ((al2 : Nat) : Int) ∧ (∃ (x105 : Int), At M68 b103 (o104 + x91.toNat * 1) [(Value.int .i64 x105)] ∧ (InI (x105.tdiv 2) ∧ (∃ (b106 o107 : Nat), ba4 = some ⟨b106, o107, none⟩ ∧ (0 : Int) ≤ x91 ∧ x91 < ((bl5 : Nat) : Int) ∧ (∃ (x108 : Int), At M68 b106 (o107 + x91.toNat * 1) [(Value.int .i64 x108)] ∧ (InI (x108.tdiv 2) ∧ (InI (2 * (if x108.tdiv 2 > x105.tdiv 2 then x108.tdiv 2 else x105.tdiv 2)) ∧ (InI ((if x102.tmod 2 > x99.tmod 2 then x102.tmod 2 else x99.tmod 2) + (2 * (if x108.tdiv 2 > x105.tdiv 2 then x108.tdiv 2 else x105.tdiv 2))) ∧ (((x96 : Int) ≠ (if x102.tmod 2 > x99.tmod 2 then x102.tmod 2 else x99.tmod 2) + (2 * (if x108.tdiv 2 > x105.tdiv 2 then x108.tdiv 2 else x105.tdiv 2)) → K (Value.bool false)) ∧ (¬ ((x96 : Int) ≠ (if x102.tmod 2 > x99.tmod 2 then x102.tmod 2 else x99.tmod 2) + (2 * (if x108.tdiv 2 > x105.tdiv 2 then x108.tdiv 2 else x105.tdiv 2))) → (InI (x91 + 1) ∧ I92 (x91 + 1) ∧ mu93 (x91 + 1) < mu93 x91)))))))))))))))))) ∧ (¬ (x91 < ((xl65 : Nat) : Int)) → K (Value.bool true)))))))
set_option linter.unusedVariables false in
def S_chafflaw_CoverMerges_J7 (aa1 : Option Addr) (al2 : Nat) (ba4 : Option Addr) (bl5 : Nat) (xa64 : Option Addr) (xl65 : Nat) (x67 : Int) (M68 : Mem) (want73 : Int) (K : Value → Prop) : Prop :=
  (((want73 : Int) ≠ 0 → (((x67 : Int) = want73 → K (Value.bool (((xl65 : Nat) : Int) == (0 : Int)))) ∧ (¬ ((x67 : Int) = want73) → K (Value.bool false)))) ∧ (¬ ((want73 : Int) ≠ 0) → (((x67 : Int) ≠ 0 → (S_chafflaw_CoverMerges_J8 aa1 al2 ba4 bl5 xa64 xl65 M68 true K)) ∧ (¬ ((x67 : Int) ≠ 0) → (S_chafflaw_CoverMerges_J8 aa1 al2 ba4 bl5 xa64 xl65 M68 (((xl65 : Nat) : Int) != ((al2 : Nat) : Int)) K)))))
set_option linter.unusedVariables false in
def S_chafflaw_CoverMerges_J6 (aa1 : Option Addr) (al2 : Nat) (ba4 : Option Addr) (bl5 : Nat) (xa64 : Option Addr) (xl65 : Nat) (x67 : Int) (M68 : Mem) (want71 : Int) (x72 : Bool) (K : Value → Prop) : Prop :=
  ((x72 = true → (S_chafflaw_CoverMerges_J7 aa1 al2 ba4 bl5 xa64 xl65 x67 M68 1 K)) ∧ (¬ (x72 = true) → (S_chafflaw_CoverMerges_J7 aa1 al2 ba4 bl5 xa64 xl65 x67 M68 want71 K)))
set_option linter.unusedVariables false in
def S_chafflaw_CoverMerges_J5 (aa1 : Option Addr) (al2 : Nat) (ba4 : Option Addr) (bl5 : Nat) (xa64 : Option Addr) (xl65 : Nat) (x67 : Int) (M68 : Mem) (want71 : Int) (K : Value → Prop) : Prop :=
  (((want71 : Int) = 0 → (S_chafflaw_CoverMerges_J6 aa1 al2 ba4 bl5 xa64 xl65 x67 M68 want71 (((al2 : Nat) : Int) != ((bl5 : Nat) : Int)) K)) ∧ (¬ ((want71 : Int) = 0) → (S_chafflaw_CoverMerges_J6 aa1 al2 ba4 bl5 xa64 xl65 x67 M68 want71 false K)))
set_option linter.unusedVariables false in
def S_chafflaw_CoverMerges_J4 (aa1 : Option Addr) (al2 : Nat) (ac3 : Nat) (ba4 : Option Addr) (bl5 : Nat) (bc6 : Nat) (M63 : Mem) (K : Value → Prop) : Prop :=
  (CallE Try.prog 32 #[(Value.slice aa1 al2 ac3), (Value.slice ba4 bl5 bc6)] M63 (fun v M68 => ∃ (xa64 : Option Addr) (xl65 : Nat) (xc66 : Nat) (x67 : Int), v = (Value.tuple #[(Value.slice xa64 xl65 xc66), (Value.int .i64 x67)]) ∧ (CallE Try.prog 29 #[(Value.slice aa1 al2 ac3)] M68 (fun v _ => ∃ (x69 : Int), v = (Value.int .i64 x69) ∧ (((x69 : Int) = 0 → (CallE Try.prog 29 #[(Value.slice ba4 bl5 bc6)] M68 (fun v _ => ∃ (x70 : Int), v = (Value.int .i64 x70) ∧ (S_chafflaw_CoverMerges_J5 aa1 al2 ba4 bl5 xa64 xl65 x67 M68 x70 K)))) ∧ (¬ ((x69 : Int) = 0) → (S_chafflaw_CoverMerges_J5 aa1 al2 ba4 bl5 xa64 xl65 x67 M68 x69 K)))))))
set_option linter.unusedVariables false in
def S_chafflaw_CoverMerges_J1 (aa1 : Option Addr) (al2 : Nat) (ac3 : Nat) (ba4 : Option Addr) (bl5 : Nat) (bc6 : Nat) (M13 : Mem) (x15 : Bool) (K : Value → Prop) : Prop :=
  ((x15 = true → K (Value.bool false)) ∧ (¬ (x15 = true) → (S_chafflaw_CoverMerges_J4 aa1 al2 ac3 ba4 bl5 bc6 M13 K)))
set_option linter.unusedVariables false in
def S_chafflaw_CoverMerges_J2 (x41 : Int) (rn43 : Nat) (rx44 : List Value) (I45 : Int → Nat → List Value → Prop) (mu46 : Int → Nat → List Value → Nat) (rn55 : Nat) (rx56 : List Value) (K : Value → Prop) : Prop :=
  (InI (x41 + 1) ∧ I45 (x41 + 1) rn55 rx56 ∧ mu46 (x41 + 1) rn55 rx56 < mu46 x41 rn43 rx44)
set_option linter.unusedVariables false in
def S_chafflaw_CoverMerges_J3 (aa1 : Option Addr) (al2 : Nat) (ac3 : Nat) (ba4 : Option Addr) (bl5 : Nat) (bc6 : Nat) (x61 : Bool) (M62 : Mem) (K : Value → Prop) : Prop :=
  ((x61 = true → K (Value.bool false)) ∧ (¬ (x61 = true) → (S_chafflaw_CoverMerges_J4 aa1 al2 ac3 ba4 bl5 bc6 M62 K)))
set_option linter.unusedVariables false in
def S_chafflaw_CoverMerges (aa1 : Option Addr) (al2 : Nat) (ac3 : Nat) (ba4 : Option Addr) (bl5 : Nat) (bc6 : Nat) (M : Mem) (K : Value → Prop) : Prop :=
  (CallE Try.prog 28 #[(Value.slice aa1 al2 ac3)] M (fun v _ => ∃ (x7 : Int), v = (Value.int .i64 x7) ∧ (CallE Try.prog 29 #[(Value.slice aa1 al2 ac3)] M (fun v _ => ∃ (x8 : Int), v = (Value.int .i64 x8) ∧ (((x7 : Int) ≠ x8 → K (Value.bool false)) ∧ (¬ ((x7 : Int) ≠ x8) → (CallE Try.prog 30 #[(Value.slice aa1 al2 ac3)] M (fun v M13 => ∃ (xa9 : Option Addr) (xl10 : Nat) (xc11 : Nat) (x12 : Int), v = (Value.tuple #[(Value.slice xa9 xl10 xc11), (Value.int .i64 x12)]) ∧ (CallE Try.prog 29 #[(Value.slice aa1 al2 ac3)] M13 (fun v _ => ∃ (x14 : Int), v = (Value.int .i64 x14) ∧ (((x14 : Int) ≠ 0 → (((x12 : Int) ≠ x14 → (S_chafflaw_CoverMerges_J1 aa1 al2 ac3 ba4 bl5 bc6 M13 true K)) ∧ (¬ ((x12 : Int) ≠ x14) → (S_chafflaw_CoverMerges_J1 aa1 al2 ac3 ba4 bl5 bc6 M13 (((xl10 : Nat) : Int) != (0 : Int)) K)))) ∧ (¬ ((x14 : Int) ≠ 0) → (∃ (I45 : Int → Nat → List Value → Prop) (mu46 : Int → Nat → List Value → Nat), I45 0 0 [] ∧ ∀ (x41 : Int) (rn43 : Nat) (rx44 : List Value), (I45 x41 rn43 rx44 → ((x41 < ((al2 : Nat) : Int) → (∃ (b47 o48 : Nat), aa1 = some ⟨b47, o48, none⟩ ∧ (0 : Int) ≤ x41 ∧ x41 < ((al2 : Nat) : Int) ∧ (∃ (x49 : Int), At M13 b47 (o48 + x41.toNat * 1) [(Value.int .i64 x49)] ∧ (((x49.tmod 2 : Int) = 0 → ((rn43 + 1) * 8 ≤ 140737488355328 ∧ (S_chafflaw_CoverMerges_J2 x41 rn43 rx44 I45 mu46 (rn43 + 1) (rx44 ++ [(Value.int .i64 x41)]) K))) ∧ (¬ ((x49.tmod 2 : Int) = 0) → (S_chafflaw_CoverMerges_J2 x41 rn43 rx44 I45 mu46 rn43 rx44 K)))))) ∧ (¬ (x41 < ((al2 : Nat) : Int)) → (((x12 : Int) ≠ 0 → (S_chafflaw_CoverMerges_J3 aa1 al2 ac3 ba4 bl5 bc6 true M13 K)) ∧ (¬ ((x12 : Int) ≠ 0) → (∀ (M59 : Mem) (ad57 : Option Addr) (cap58 : Nat), M13.le M59 → SlV M59 ad57 rn43 cap58 1 rx44 → (CallE Try.prog 31 #[(Value.slice xa9 xl10 xc11), (Value.slice ad57 rn43 cap58)] M59 (fun v _ => ∃ (x60 : Bool), v = (Value.bool x60) ∧ (S_chafflaw_CoverMerges_J3 aa1 al2 ac3 ba4 bl5 bc6 (!x60) M59 K))))))))))))))))))))))
set_option linter.unusedVariables false in
set_option maxRecDepth 100000 in
theorem s_chafflaw_CoverMerges (aa1 : Option Addr) (al2 : Nat) (ac3 : Nat) (ba4 : Option Addr) (bl5 : Nat) (bc6 : Nat) (M : Mem) (K : Value → Prop) (hS : S_chafflaw_CoverMerges aa1 al2 ac3 ba4 bl5 bc6 M K) : CallE Try.prog 7 #[(Value.slice aa1 al2 ac3), (Value.slice ba4 bl5 bc6)] M (fun v _ => K v) := by
  refine enterE Try.func7 rfl 134 rfl (Nat.le_of_ble_eq_true rfl) (fun E a hs => ?_)
  unfold S_chafflaw_CoverMerges at hS
  have hMM := MX.refl M E
  change Sx 134 E [] M E a [(0, (Value.slice aa1 al2 ac3)), (1, (Value.slice ba4 bl5 bc6))] [] [] at hs
  refine Wp.seq ?_
  refine Wp.region ?_
  refine stepY (v := (Value.bool false)) hs rfl rfl (by decide) (Yl.pure rfl (fun _ => by kernel_rfl)) (fun _ hs => ?_)
  refine wpList_nil ?_
  refine Wp.seq ?_
  refine Wp.seq ?_
  refine Wp.region ?_
  refine stepY (v := (Value.slice aa1 al2 ac3)) hs rfl rfl (by decide) (Yl.pure rfl (fun _ => by kernel_rfl)) (fun _ hs => ?_)
  refine stepCallP [(Value.slice aa1 al2 ac3)] hs rfl ⟨_, rfl, rfl⟩ rfl Try.func28 rfl (by kernel_rfl) (by decide) hS (fun _ _ v hS hs => ?_)
  obtain ⟨x7, hv, hS⟩ := hS
  subst hv
  refine stepY (v := (Value.slice aa1 al2 ac3)) hs rfl rfl (by decide) (Yl.pure rfl (fun _ => by kernel_rfl)) (fun _ hs => ?_)
  refine stepCallP [(Value.slice aa1 al2 ac3)] hs rfl ⟨_, rfl, rfl⟩ rfl Try.func29 rfl (by kernel_rfl) (by decide) hS (fun _ _ v hS hs => ?_)
  obtain ⟨x8, hv, hS⟩ := hS
  subst hv
  refine stepY (v := (Value.bool ((x7 : Int) != (x8 : Int)))) hs rfl rfl (by decide) (Yl.pure rfl (fun _ => by kernel_rfl)) (fun _ hs => ?_)
  refine wpList_nil ?_
  refine Wp.cond hs rfl rfl bne_iff_ne (fun hc => ?_) (fun hc => ?_)
  · have hS := hS.1 hc
    refine Wp.seq ?_
    refine Wp.region ?_
    refine stepY (v := (Value.bool false)) hs rfl rfl (by decide) (Yl.pure rfl (fun _ => by kernel_rfl)) (fun _ hs => ?_)
    refine wpList_nil ?_
    refine Wp.ret ?_
    exact leaveE (K := fun v _ => K v) hs (resT hs rfl rfl) hMM.2 (fun _ _ => hS)
  · have hS := hS.2 hc
    refine Wp.skip ?_
    refine Wp.seq ?_
    refine Wp.region ?_
    refine stepY (v := (Value.slice aa1 al2 ac3)) hs rfl rfl (by decide) (Yl.pure rfl (fun _ => by kernel_rfl)) (fun _ hs => ?_)
    refine stepCallE [(Value.slice aa1 al2 ac3)] hs rfl ⟨_, rfl, rfl⟩ rfl Try.func30 rfl (by kernel_rfl) (by decide) hS (fun _ _ M13 v hle hnew hS hs => ?_)
    have hMM := hMM.next hle hnew
    obtain ⟨xa9, xl10, xc11, x12, hv, hS⟩ := hS
    subst hv
    refine stepY (v := (Value.tuple #[(Value.slice xa9 xl10 xc11), (Value.int .i64 x12)])) hs rfl rfl (by decide) (Yl.pure rfl (fun _ => by kernel_rfl)) (fun _ hs => ?_)
    refine stepY (v := (Value.slice xa9 xl10 xc11)) hs rfl rfl (by decide) (Yl.pure rfl (fun _ => by kernel_rfl)) (fun _ hs => ?_)
    refine stepY (v := (Value.int .i64 x12)) hs rfl rfl (by decide) (Yl.pure rfl (fun _ => by kernel_rfl)) (fun _ hs => ?_)
    refine stepY (v := (Value.slice xa9 xl10 xc11)) hs rfl rfl (by decide) (Yl.pure rfl (fun _ => by kernel_rfl)) (fun _ hs => ?_)
    refine stepY (v := (Value.int .i64 x12)) hs rfl rfl (by decide) (Yl.pure rfl (fun _ => by kernel_rfl)) (fun _ hs => ?_)
    refine wpList_nil ?_
    refine Wp.join (fun a w => ∃ (M63 : Mem), MX M63 M E ∧ Sx 134 E [] M63 w a [(0, (Value.slice aa1 al2 ac3)), (1, (Value.slice ba4 bl5 bc6))] [] [] ∧ (S_chafflaw_CoverMerges_J4 aa1 al2 ac3 ba4 bl5 bc6 M63 K)) ?_ ?_
    · refine Wp.seq ?_
      refine Wp.region ?_
      refine stepY (v := (Value.slice aa1 al2 ac3)) hs rfl rfl (by decide) (Yl.pure rfl (fun _ => by kernel_rfl)) (fun _ hs => ?_)
      refine stepCallP [(Value.slice aa1 al2 ac3)] hs rfl ⟨_, rfl, rfl⟩ rfl Try.func29 rfl (by kernel_rfl) (by decide) hS (fun _ _ v hS hs => ?_)
      obtain ⟨x14, hv, hS⟩ := hS
      subst hv
      refine stepY (v := (Value.int .i64 x14)) hs rfl rfl (by decide) (Yl.pure rfl (fun _ => by kernel_rfl)) (fun _ hs => ?_)
      refine wpList_nil ?_
      refine Wp.seq ?_
      refine Wp.region ?_
      refine stepY (v := (Value.int .i64 x14)) hs rfl rfl (by decide) (Yl.pure rfl (fun _ => by kernel_rfl)) (fun _ hs => ?_)
      refine stepY (v := (Value.bool ((x14 : Int) != (0 : Int)))) hs rfl rfl (by decide) (Yl.pure rfl (fun _ => by kernel_rfl)) (fun _ hs => ?_)
      refine wpList_nil ?_
      refine Wp.cond hs rfl rfl bne_iff_ne (fun hc => ?_) (fun hc => ?_)
      · have hS := hS.1 hc
        refine Wp.join (fun a w => ∃ (x15 : Bool), Sx 134 E [] M13 w a [(0, (Value.slice aa1 al2 ac3)), (1, (Value.slice ba4 bl5 bc6)), (35, (Value.bool x15))] [] [] ∧ (S_chafflaw_CoverMerges_J1 aa1 al2 ac3 ba4 bl5 bc6 M13 x15 K)) ?_ ?_
        · refine Wp.region ?_
          refine stepY (v := (Value.int .i64 x12)) hs rfl rfl (by decide) (Yl.pure rfl (fun _ => by kernel_rfl)) (fun _ hs => ?_)
          refine stepY (v := (Value.int .i64 x14)) hs rfl rfl (by decide) (Yl.pure rfl (fun _ => by kernel_rfl)) (fun _ hs => ?_)
          refine stepY (v := (Value.bool ((x12 : Int) != (x14 : Int)))) hs rfl rfl (by decide) (Yl.pure rfl (fun _ => by kernel_rfl)) (fun _ hs => ?_)
          refine stepY (v := (Value.bool ((x12 : Int) != (x14 : Int)))) hs rfl rfl (by decide) (Yl.pure rfl (fun _ => by kernel_rfl)) (fun _ hs => ?_)
          refine bsplit ((x12 : Int) != (x14 : Int)) bne_iff_ne (fun hb hc => ?_) (fun hb hc => ?_)
          · have hs := hs.bt hb
            have hS := hS.1 hc
            refine step_no hs rfl rfl rfl rfl rfl (by decide) (fun _ hs => ?_)
            refine step_no hs rfl rfl rfl rfl rfl (by decide) (fun _ hs => ?_)
            refine step_no hs rfl rfl rfl rfl rfl (by decide) (fun _ hs => ?_)
            refine stepY (v := (Value.bool true)) hs rfl rfl (by decide) (Yl.pure rfl (fun _ => by kernel_rfl)) (fun _ hs => ?_)
            refine wpList_nil ?_
            exact ⟨true, (hs.weak (List.Sublist.refl _) (List.Sublist.refl _) ⟨rfl, rfl, rfl, trivial⟩), hS⟩
          · have hs := hs.bf hb
            have hS := hS.2 hc
            refine step_yes hs rfl rfl rfl ?_
            refine stepY (v := (Value.slice xa9 xl10 xc11)) hs rfl rfl (by decide) (Yl.pure rfl (fun _ => by kernel_rfl)) (fun _ hs => ?_)
            refine step_yes hs rfl rfl rfl ?_
            refine stepY (v := (Value.int .i64 ((xl10 : Nat) : Int))) hs rfl rfl (by decide) (Yl.pure rfl (fun _ => by kernel_rfl)) (fun _ hs => ?_)
            refine step_yes hs rfl rfl rfl ?_
            refine stepY (v := (Value.bool (((xl10 : Nat) : Int) != (0 : Int)))) hs rfl rfl (by decide) (Yl.pure rfl (fun _ => by kernel_rfl)) (fun _ hs => ?_)
            refine stepY (v := (Value.bool (((xl10 : Nat) : Int) != (0 : Int)))) hs rfl rfl (by decide) (Yl.pure rfl (fun _ => by kernel_rfl)) (fun _ hs => ?_)
            refine wpList_nil ?_
            exact ⟨(((xl10 : Nat) : Int) != (0 : Int)), (hs.weak (List.Sublist.refl _) (List.Sublist.refl _) ⟨rfl, rfl, rfl, trivial⟩), hS⟩
        · intro a w hJ
          obtain ⟨x15, hs, hS⟩ := hJ
          unfold S_chafflaw_CoverMerges_J1 at hS
          refine Wp.cond hs rfl rfl Iff.rfl (fun hc => ?_) (fun hc => ?_)
          · have hS := hS.1 hc
            refine Wp.seq ?_
            refine Wp.region ?_
            refine stepY (v := (Value.bool false)) hs rfl rfl (by decide) (Yl.pure rfl (fun _ => by kernel_rfl)) (fun _ hs => ?_)
            refine wpList_nil ?_
            refine Wp.ret ?_
            exact leaveE (K := fun v _ => K v) hs (resT hs rfl rfl) hMM.2 (fun _ _ => hS)
          · have hS := hS.2 hc
            refine Wp.skip ?_
            exact ⟨M13, hMM, (hs.weak (List.Sublist.refl _) (List.Sublist.refl _) ⟨rfl, rfl, trivial⟩), hS⟩
      · have hS := hS.2 hc
        refine Wp.seq ?_
        refine Wp.region ?_
        refine stepY (v := Value.slice none 0 0) hs rfl rfl (by decide) (Yl.pure rfl (fun _ => by kernel_rfl)) (fun _ hs => ?_)
        have hs := hs.nilrow 3 1
        refine wpList_nil ?_
        refine Wp.seq ?_
        refine Wp.seq ?_
        refine Wp.region ?_
        refine stepY (v := (Value.slice aa1 al2 ac3)) hs rfl rfl (by decide) (Yl.pure rfl (fun _ => by kernel_rfl)) (fun _ hs => ?_)
        refine stepY (v := (Value.int .i64 ((al2 : Nat) : Int))) hs rfl rfl (by decide) (Yl.pure rfl (fun _ => by kernel_rfl)) (fun _ hs => ?_)
        refine stepY (v := (Value.int .i64 0)) hs rfl rfl (by decide) (Yl.pure rfl (fun _ => by kernel_rfl)) (fun _ hs => ?_)
        refine wpList_nil ?_
        refine Wp.block ?_
        obtain ⟨I45, mu46, hI0, hst⟩ := hS
        refine Wp.loop (σ := (Int) × (Nat) × (List Value) × (Value)) (fun s a w => match s with | (x41, rn43, rx44, rv42) => Sx 134 E [] M13 w a [(0, (Value.slice aa1 al2 ac3)), (1, (Value.slice ba4 bl5 bc6)), (5, (Value.slice xa9 xl10 xc11)), (6, (Value.int .i64 x12)), (8, rv42), (36, (Value.slice aa1 al2 ac3)), (37, (Value.int .i64 ((al2 : Nat) : Int))), (38, (Value.int .i64 x41))] [] [⟨rv42, 3, 1, rn43, rx44, true⟩] ∧ I45 x41 rn43 rx44) (fun s => match s with | (x41, rn43, rx44, rv42) => mu46 x41 rn43 rx44) (0, 0, [], (Value.slice none 0 0)) ⟨(hs.weak (List.Sublist.refl _) (List.Sublist.refl _) ⟨rfl, rfl, rfl, rfl, rfl, rfl, rfl, rfl, trivial⟩), hI0⟩ (fun s a w hI => ?_)
        obtain ⟨x41, rn43, rx44, rv42⟩ := s
        obtain ⟨hs, hI⟩ := hI
        have hS := hst x41 rn43 rx44 hI
        clear hst hI0 hI
        refine Wp.seq ?_
        refine Wp.region ?_
        refine stepY (v := (Value.bool (decide (x41 < ((al2 : Nat) : Int))))) hs rfl rfl (by decide) (Yl.pure rfl (fun _ => by kernel_rfl)) (fun _ hs => ?_)
        refine wpList_nil ?_
        refine Wp.seq ?_
        refine Wp.cond hs rfl rfl decide_eq_true_iff (fun hc => ?_) (fun hc => ?_)
        · have hS := hS.1 hc
          refine Wp.skip ?_
          refine Wp.join (fun a w => ∃ (rn55 : Nat) (rx56 : List Value) (rv54 : Value), Sx 134 E [] M13 w a [(0, (Value.slice aa1 al2 ac3)), (1, (Value.slice ba4 bl5 bc6)), (5, (Value.slice xa9 xl10 xc11)), (6, (Value.int .i64 x12)), (8, rv54), (36, (Value.slice aa1 al2 ac3)), (37, (Value.int .i64 ((al2 : Nat) : Int))), (38, (Value.int .i64 x41))] [] [⟨rv54, 3, 1, rn55, rx56, true⟩] ∧ (S_chafflaw_CoverMerges_J2 x41 rn43 rx44 I45 mu46 rn55 rx56 K)) ?_ ?_
          · refine Wp.block ?_
            refine Wp.seq ?_
            refine Wp.region ?_
            refine stepY (v := (Value.int .i64 x41)) hs rfl rfl (by decide) (Yl.pure rfl (fun _ => by kernel_rfl)) (fun _ hs => ?_)
            obtain ⟨b47, o48, ha, h0, hl, hS⟩ := hS
            refine stepY (v := (Value.pointer (some ⟨b47, o48 + x41.toNat * 1, none⟩))) hs rfl rfl (by decide) (Yl.indexS (e := 3) (sz := 1) rfl rfl rfl rfl (by kernel_rfl) (by kernel_rfl) ha h0 hl) (fun _ hs => ?_)
            obtain ⟨x49, hat, hS⟩ := hS
            refine stepY (v := (Value.int .i64 x49)) hs rfl rfl (by decide) (Yl.loadV (vs := [(Value.int .i64 x49)]) false rfl rfl (by kernel_rfl) hat) (fun _ hs => ?_)
            refine stepY (v := (Value.int .i64 x41)) hs rfl rfl (by decide) (Yl.pure rfl (fun _ => by kernel_rfl)) (fun _ hs => ?_)
            refine stepY (v := (Value.int .i64 x49)) hs rfl rfl (by decide) (Yl.pure rfl (fun _ => by kernel_rfl)) (fun _ hs => ?_)
            refine wpList_nil ?_
            refine Wp.seq ?_
            refine Wp.region ?_
            refine stepY (v := (Value.int .i64 x49)) hs rfl rfl (by decide) (Yl.pure rfl (fun _ => by kernel_rfl)) (fun _ hs => ?_)
            refine stepY (v := (Value.int .i64 (x49.tmod 2))) hs rfl rfl (by decide) (Yl.pure rfl (fun _ => by kernel_rfl)) (fun _ hs => ?_)
            refine stepY (v := (Value.bool ((x49.tmod 2 : Int) == (0 : Int)))) hs rfl rfl (by decide) (Yl.pure rfl (fun _ => by kernel_rfl)) (fun _ hs => ?_)
            refine wpList_nil ?_
            refine Wp.cond hs rfl rfl beq_iff_eq (fun hc => ?_) (fun hc => ?_)
            · have hS := hS.1 hc
              refine Wp.region ?_
              refine stepY (v := rv42) hs rfl rfl (by decide) (Yl.pure rfl (fun _ => by kernel_rfl)) (fun _ hs => ?_)
              refine stepY (v := (Value.int .i64 x41)) hs rfl rfl (by decide) (Yl.pure rfl (fun _ => by kernel_rfl)) (fun _ hs => ?_)
              refine stepMake [(Value.int .i64 x41)] 3 1 1 hs rfl rfl rfl (fun _ => by kernel_rfl) rfl (by unfold maxLen; decide) (by decide) (fun _ _ rv50 hs => ?_)
              obtain ⟨ad51, cap52, hv, hcp, hxl⟩ := hs.rowform 0 rfl
              dsimp only at hv hcp hxl
              subst hv
              obtain ⟨hB, hS⟩ := hS
              refine stepAppend 1 [(Value.int .i64 x41)] hs rfl rfl rfl rfl rfl (by kernel_rfl) (by kernel_rfl) (by decide) (by decide) (hs.srcRow 0 rfl rfl) (lenb hB (by decide)) hB (fun _ _ rv53 hs => ?_)
              replace hs := hs.chrs (rs' := [⟨(Value.slice ad51 1 cap52), 3, 1, 1, [(Value.int .i64 x41)], true⟩, ⟨rv53, 3, 1, (rn43 + 1), (rx44 ++ [(Value.int .i64 x41)]), true⟩]) rfl
              refine stepY (v := rv53) hs rfl rfl (by decide) (Yl.pure rfl (fun _ => by kernel_rfl)) (fun _ hs => ?_)
              refine wpList_nil ?_
              exact ⟨(rn43 + 1), (rx44 ++ [(Value.int .i64 x41)]), rv53, (hs.weak (List.Sublist.refl _) (.cons _ (.cons_cons _ List.Sublist.slnil)) ⟨rfl, rfl, rfl, rfl, rfl, rfl, rfl, rfl, trivial⟩), hS⟩
            · have hS := hS.2 hc
              refine Wp.skip ?_
              exact ⟨rn43, rx44, rv42, (hs.weak (List.Sublist.refl _) (List.Sublist.refl _) ⟨rfl, rfl, rfl, rfl, rfl, rfl, rfl, rfl, trivial⟩), hS⟩
          · intro a w hJ
            obtain ⟨rn55, rx56, rv54, hs, hS⟩ := hJ
            unfold S_chafflaw_CoverMerges_J2 at hS
            refine Wp.region ?_
            obtain ⟨hI, hS⟩ := hS
            refine stepY (v := (Value.int .i64 (x41 + 1))) hs rfl rfl (by decide) (Yl.eq (Yl.pure (v := Value.int .i64 (IntKind.wrap .i64 (x41 + 1))) rfl (fun _ => by kernel_rfl)) (congrArg (Value.int .i64) (wrap_in hI))) (fun _ hs => ?_)
            refine stepY (v := (Value.int .i64 (x41 + 1))) hs rfl rfl (by decide) (Yl.pure rfl (fun _ => by kernel_rfl)) (fun _ hs => ?_)
            refine wpList_nil ?_
            exact ⟨(x41 + 1, rn55, rx56, rv54), ⟨(hs.weak (List.Sublist.refl _) (List.Sublist.refl _) ⟨rfl, rfl, rfl, rfl, rfl, rfl, rfl, rfl, trivial⟩), hS.1⟩, hS.2⟩
        · have hS := hS.2 hc
          refine Wp.exit rfl ?_
          refine Wp.join (fun a w => ∃ (x61 : Bool) (M62 : Mem), MX M62 M E ∧ Sx 134 E [] M62 w a [(0, (Value.slice aa1 al2 ac3)), (1, (Value.slice ba4 bl5 bc6)), (58, (Value.bool x61))] [] [] ∧ (S_chafflaw_CoverMerges_J3 aa1 al2 ac3 ba4 bl5 bc6 x61 M62 K)) ?_ ?_
          · refine Wp.region ?_
            refine stepY (v := (Value.int .i64 x12)) hs rfl rfl (by decide) (Yl.pure rfl (fun _ => by kernel_rfl)) (fun _ hs => ?_)
            refine stepY (v := (Value.bool ((x12 : Int) != (0 : Int)))) hs rfl rfl (by decide) (Yl.pure rfl (fun _ => by kernel_rfl)) (fun _ hs => ?_)
            refine stepY (v := (Value.bool ((x12 : Int) != (0 : Int)))) hs rfl rfl (by decide) (Yl.pure rfl (fun _ => by kernel_rfl)) (fun _ hs => ?_)
            refine bsplit ((x12 : Int) != (0 : Int)) bne_iff_ne (fun hb hc => ?_) (fun hb hc => ?_)
            · have hs := hs.bt hb
              have hS := hS.1 hc
              refine step_no hs rfl rfl rfl rfl rfl (by decide) (fun _ hs => ?_)
              refine step_no hs rfl rfl rfl rfl rfl (by decide) (fun _ hs => ?_)
              refine step_no hs rfl rfl rfl rfl rfl (by decide) (fun _ hs => ?_)
              refine step_no hs rfl rfl rfl rfl rfl (by decide) (fun _ hs => ?_)
              refine stepY (v := (Value.bool true)) hs rfl rfl (by decide) (Yl.pure rfl (fun _ => by kernel_rfl)) (fun _ hs => ?_)
              refine wpList_nil ?_
              exact ⟨true, M13, hMM, (hs.weak (List.Sublist.refl _) (.cons _ List.Sublist.slnil) ⟨rfl, rfl, rfl, trivial⟩), hS⟩
            · have hs := hs.bf hb
              have hS := hS.2 hc
              refine step_yes hs rfl rfl rfl ?_
              refine stepY (v := (Value.slice xa9 xl10 xc11)) hs rfl rfl (by decide) (Yl.pure rfl (fun _ => by kernel_rfl)) (fun _ hs => ?_)
              refine step_yes hs rfl rfl rfl ?_
              refine stepY (v := rv42) hs rfl rfl (by decide) (Yl.pure rfl (fun _ => by kernel_rfl)) (fun _ hs => ?_)
              refine step_yes hs rfl rfl rfl ?_
              obtain ⟨ad57, cap58, hv, hcp, hxl⟩ := hs.rowform 0 rfl
              dsimp only at hv hcp hxl
              subst hv
              obtain ⟨M59, hle, hsl, hnew, hs⟩ := hs.release 0 rfl [] rfl
              have hMM := hMM.next hle hnew
              have hS := hS M59 ad57 cap58 hle hsl
              refine stepCallP [(Value.slice xa9 xl10 xc11), (Value.slice ad57 rn43 cap58)] hs rfl ⟨_, rfl, rfl⟩ rfl Try.func31 rfl (by kernel_rfl) (by decide) hS (fun _ _ v hS hs => ?_)
              obtain ⟨x60, hv, hS⟩ := hS
              subst hv
              refine step_yes hs rfl rfl rfl ?_
              refine stepY (v := (Value.bool (!x60))) hs rfl rfl (by decide) (Yl.pure rfl (fun _ => by kernel_rfl)) (fun _ hs => ?_)
              refine stepY (v := (Value.bool (!x60))) hs rfl rfl (by decide) (Yl.pure rfl (fun _ => by kernel_rfl)) (fun _ hs => ?_)
              refine wpList_nil ?_
              exact ⟨(!x60), M59, hMM, (hs.weak (List.Sublist.refl _) (List.Sublist.refl _) ⟨rfl, rfl, rfl, trivial⟩), hS⟩
          · intro a w hJ
            obtain ⟨x61, M62, hMM, hs, hS⟩ := hJ
            unfold S_chafflaw_CoverMerges_J3 at hS
            refine Wp.cond hs rfl rfl Iff.rfl (fun hc => ?_) (fun hc => ?_)
            · have hS := hS.1 hc
              refine Wp.seq ?_
              refine Wp.region ?_
              refine stepY (v := (Value.bool false)) hs rfl rfl (by decide) (Yl.pure rfl (fun _ => by kernel_rfl)) (fun _ hs => ?_)
              refine wpList_nil ?_
              refine Wp.ret ?_
              exact leaveE (K := fun v _ => K v) hs (resT hs rfl rfl) hMM.2 (fun _ _ => hS)
            · have hS := hS.2 hc
              refine Wp.skip ?_
              exact ⟨M62, hMM, (hs.weak (List.Sublist.refl _) (List.Sublist.refl _) ⟨rfl, rfl, trivial⟩), hS⟩
    · intro a w hJ
      obtain ⟨M63, hMM, hs, hS⟩ := hJ
      unfold S_chafflaw_CoverMerges_J4 at hS
      refine Wp.seq ?_
      refine Wp.region ?_
      refine stepY (v := (Value.slice aa1 al2 ac3)) hs rfl rfl (by decide) (Yl.pure rfl (fun _ => by kernel_rfl)) (fun _ hs => ?_)
      refine stepY (v := (Value.slice ba4 bl5 bc6)) hs rfl rfl (by decide) (Yl.pure rfl (fun _ => by kernel_rfl)) (fun _ hs => ?_)
      refine stepCallE [(Value.slice aa1 al2 ac3), (Value.slice ba4 bl5 bc6)] hs rfl ⟨_, rfl, rfl⟩ rfl Try.func32 rfl (by kernel_rfl) (by decide) hS (fun _ _ M68 v hle hnew hS hs => ?_)
      have hMM := hMM.next hle hnew
      obtain ⟨xa64, xl65, xc66, x67, hv, hS⟩ := hS
      subst hv
      refine stepY (v := (Value.tuple #[(Value.slice xa64 xl65 xc66), (Value.int .i64 x67)])) hs rfl rfl (by decide) (Yl.pure rfl (fun _ => by kernel_rfl)) (fun _ hs => ?_)
      refine stepY (v := (Value.slice xa64 xl65 xc66)) hs rfl rfl (by decide) (Yl.pure rfl (fun _ => by kernel_rfl)) (fun _ hs => ?_)
      refine stepY (v := (Value.int .i64 x67)) hs rfl rfl (by decide) (Yl.pure rfl (fun _ => by kernel_rfl)) (fun _ hs => ?_)
      refine stepY (v := (Value.slice xa64 xl65 xc66)) hs rfl rfl (by decide) (Yl.pure rfl (fun _ => by kernel_rfl)) (fun _ hs => ?_)
      refine stepY (v := (Value.int .i64 x67)) hs rfl rfl (by decide) (Yl.pure rfl (fun _ => by kernel_rfl)) (fun _ hs => ?_)
      refine wpList_nil ?_
      refine Wp.seq ?_
      refine Wp.region ?_
      refine stepY (v := (Value.slice aa1 al2 ac3)) hs rfl rfl (by decide) (Yl.pure rfl (fun _ => by kernel_rfl)) (fun _ hs => ?_)
      refine stepCallP [(Value.slice aa1 al2 ac3)] hs rfl ⟨_, rfl, rfl⟩ rfl Try.func29 rfl (by kernel_rfl) (by decide) hS (fun _ _ v hS hs => ?_)
      obtain ⟨x69, hv, hS⟩ := hS
      subst hv
      refine stepY (v := (Value.int .i64 x69)) hs rfl rfl (by decide) (Yl.pure rfl (fun _ => by kernel_rfl)) (fun _ hs => ?_)
      refine wpList_nil ?_
      refine Wp.join (fun a w => ∃ (want71 : Int), Sx 134 E [] M68 w a [(0, (Value.slice aa1 al2 ac3)), (1, (Value.slice ba4 bl5 bc6)), (6, (Value.int .i64 x67)), (11, (Value.slice xa64 xl65 xc66)), (12, (Value.int .i64 want71))] [] [] ∧ (S_chafflaw_CoverMerges_J5 aa1 al2 ba4 bl5 xa64 xl65 x67 M68 want71 K)) ?_ ?_
      · refine Wp.seq ?_
        refine Wp.region ?_
        refine stepY (v := (Value.int .i64 x69)) hs rfl rfl (by decide) (Yl.pure rfl (fun _ => by kernel_rfl)) (fun _ hs => ?_)
        refine stepY (v := (Value.bool ((x69 : Int) == (0 : Int)))) hs rfl rfl (by decide) (Yl.pure rfl (fun _ => by kernel_rfl)) (fun _ hs => ?_)
        refine wpList_nil ?_
        refine Wp.cond hs rfl rfl beq_iff_eq (fun hc => ?_) (fun hc => ?_)
        · have hS := hS.1 hc
          refine Wp.region ?_
          refine stepY (v := (Value.slice ba4 bl5 bc6)) hs rfl rfl (by decide) (Yl.pure rfl (fun _ => by kernel_rfl)) (fun _ hs => ?_)
          refine stepCallP [(Value.slice ba4 bl5 bc6)] hs rfl ⟨_, rfl, rfl⟩ rfl Try.func29 rfl (by kernel_rfl) (by decide) hS (fun _ _ v hS hs => ?_)
          obtain ⟨x70, hv, hS⟩ := hS
          subst hv
          refine stepY (v := (Value.int .i64 x70)) hs rfl rfl (by decide) (Yl.pure rfl (fun _ => by kernel_rfl)) (fun _ hs => ?_)
          refine wpList_nil ?_
          exact ⟨x70, (hs.weak (List.Sublist.refl _) (List.Sublist.refl _) ⟨rfl, rfl, rfl, rfl, rfl, trivial⟩), hS⟩
        · have hS := hS.2 hc
          refine Wp.skip ?_
          exact ⟨x69, (hs.weak (List.Sublist.refl _) (List.Sublist.refl _) ⟨rfl, rfl, rfl, rfl, rfl, trivial⟩), hS⟩
      · intro a w hJ
        obtain ⟨want71, hs, hS⟩ := hJ
        unfold S_chafflaw_CoverMerges_J5 at hS
        refine Wp.join (fun a w => ∃ (want73 : Int), Sx 134 E [] M68 w a [(0, (Value.slice aa1 al2 ac3)), (1, (Value.slice ba4 bl5 bc6)), (6, (Value.int .i64 x67)), (11, (Value.slice xa64 xl65 xc66)), (12, (Value.int .i64 want73))] [] [] ∧ (S_chafflaw_CoverMerges_J7 aa1 al2 ba4 bl5 xa64 xl65 x67 M68 want73 K)) ?_ ?_
        · refine Wp.join (fun a w => ∃ (x72 : Bool), Sx 134 E [] M68 w a [(0, (Value.slice aa1 al2 ac3)), (1, (Value.slice ba4 bl5 bc6)), (6, (Value.int .i64 x67)), (11, (Value.slice xa64 xl65 xc66)), (12, (Value.int .i64 want71)), (79, (Value.bool x72))] [] [] ∧ (S_chafflaw_CoverMerges_J6 aa1 al2 ba4 bl5 xa64 xl65 x67 M68 want71 x72 K)) ?_ ?_
          · refine Wp.region ?_
            refine stepY (v := (Value.int .i64 want71)) hs rfl rfl (by decide) (Yl.pure rfl (fun _ => by kernel_rfl)) (fun _ hs => ?_)
            refine stepY (v := (Value.bool ((want71 : Int) == (0 : Int)))) hs rfl rfl (by decide) (Yl.pure rfl (fun _ => by kernel_rfl)) (fun _ hs => ?_)
            refine stepY (v := (Value.bool ((want71 : Int) == (0 : Int)))) hs rfl rfl (by decide) (Yl.pure rfl (fun _ => by kernel_rfl)) (fun _ hs => ?_)
            refine bsplit ((want71 : Int) == (0 : Int)) beq_iff_eq (fun hb hc => ?_) (fun hb hc => ?_)
            · have hs := hs.bt hb
              have hS := hS.1 hc
              refine step_yes hs rfl rfl rfl ?_
              refine stepY (v := (Value.slice aa1 al2 ac3)) hs rfl rfl (by decide) (Yl.pure rfl (fun _ => by kernel_rfl)) (fun _ hs => ?_)
              refine step_yes hs rfl rfl rfl ?_
              refine stepY (v := (Value.int .i64 ((al2 : Nat) : Int))) hs rfl rfl (by decide) (Yl.pure rfl (fun _ => by kernel_rfl)) (fun _ hs => ?_)
              refine step_yes hs rfl rfl rfl ?_
              refine stepY (v := (Value.slice ba4 bl5 bc6)) hs rfl rfl (by decide) (Yl.pure rfl (fun _ => by kernel_rfl)) (fun _ hs => ?_)
              refine step_yes hs rfl rfl rfl ?_
              refine stepY (v := (Value.int .i64 ((bl5 : Nat) : Int))) hs rfl rfl (by decide) (Yl.pure rfl (fun _ => by kernel_rfl)) (fun _ hs => ?_)
              refine step_yes hs rfl rfl rfl ?_
              refine stepY (v := (Value.bool (((al2 : Nat) : Int) != ((bl5 : Nat) : Int)))) hs rfl rfl (by decide) (Yl.pure rfl (fun _ => by kernel_rfl)) (fun _ hs => ?_)
              refine stepY (v := (Value.bool (((al2 : Nat) : Int) != ((bl5 : Nat) : Int)))) hs rfl rfl (by decide) (Yl.pure rfl (fun _ => by kernel_rfl)) (fun _ hs => ?_)
              refine wpList_nil ?_
              exact ⟨(((al2 : Nat) : Int) != ((bl5 : Nat) : Int)), (hs.weak (List.Sublist.refl _) (List.Sublist.refl _) ⟨rfl, rfl, rfl, rfl, rfl, rfl, trivial⟩), hS⟩
            · have hs := hs.bf hb
              have hS := hS.2 hc
              refine step_no hs rfl rfl rfl rfl rfl (by decide) (fun _ hs => ?_)
              refine step_no hs rfl rfl rfl rfl rfl (by decide) (fun _ hs => ?_)
              refine step_no hs rfl rfl rfl rfl rfl (by decide) (fun _ hs => ?_)
              refine step_no hs rfl rfl rfl rfl rfl (by decide) (fun _ hs => ?_)
              refine step_no hs rfl rfl rfl rfl rfl (by decide) (fun _ hs => ?_)
              refine stepY (v := (Value.bool false)) hs rfl rfl (by decide) (Yl.pure rfl (fun _ => by kernel_rfl)) (fun _ hs => ?_)
              refine wpList_nil ?_
              exact ⟨false, (hs.weak (List.Sublist.refl _) (List.Sublist.refl _) ⟨rfl, rfl, rfl, rfl, rfl, rfl, trivial⟩), hS⟩
          · intro a w hJ
            obtain ⟨x72, hs, hS⟩ := hJ
            unfold S_chafflaw_CoverMerges_J6 at hS
            refine Wp.cond hs rfl rfl Iff.rfl (fun hc => ?_) (fun hc => ?_)
            · have hS := hS.1 hc
              refine Wp.region ?_
              refine stepY (v := (Value.int .i64 1)) hs rfl rfl (by decide) (Yl.pure rfl (fun _ => by kernel_rfl)) (fun _ hs => ?_)
              refine wpList_nil ?_
              exact ⟨1, (hs.weak (List.Sublist.refl _) (List.Sublist.refl _) ⟨rfl, rfl, rfl, rfl, rfl, trivial⟩), hS⟩
            · have hS := hS.2 hc
              refine Wp.skip ?_
              exact ⟨want71, (hs.weak (List.Sublist.refl _) (List.Sublist.refl _) ⟨rfl, rfl, rfl, rfl, rfl, trivial⟩), hS⟩
        · intro a w hJ
          obtain ⟨want73, hs, hS⟩ := hJ
          unfold S_chafflaw_CoverMerges_J7 at hS
          refine Wp.seq ?_
          refine Wp.seq ?_
          refine Wp.region ?_
          refine stepY (v := (Value.int .i64 want73)) hs rfl rfl (by decide) (Yl.pure rfl (fun _ => by kernel_rfl)) (fun _ hs => ?_)
          refine stepY (v := (Value.bool ((want73 : Int) != (0 : Int)))) hs rfl rfl (by decide) (Yl.pure rfl (fun _ => by kernel_rfl)) (fun _ hs => ?_)
          refine wpList_nil ?_
          refine Wp.cond hs rfl rfl bne_iff_ne (fun hc => ?_) (fun hc => ?_)
          · have hS := hS.1 hc
            refine Wp.seq ?_
            refine Wp.region ?_
            refine stepY (v := (Value.int .i64 x67)) hs rfl rfl (by decide) (Yl.pure rfl (fun _ => by kernel_rfl)) (fun _ hs => ?_)
            refine stepY (v := (Value.int .i64 want73)) hs rfl rfl (by decide) (Yl.pure rfl (fun _ => by kernel_rfl)) (fun _ hs => ?_)
            refine stepY (v := (Value.bool ((x67 : Int) == (want73 : Int)))) hs rfl rfl (by decide) (Yl.pure rfl (fun _ => by kernel_rfl)) (fun _ hs => ?_)
            refine stepY (v := (Value.bool ((x67 : Int) == (want73 : Int)))) hs rfl rfl (by decide) (Yl.pure rfl (fun _ => by kernel_rfl)) (fun _ hs => ?_)
            refine bsplit ((x67 : Int) == (want73 : Int)) beq_iff_eq (fun hb hc => ?_) (fun hb hc => ?_)
            · have hs := hs.bt hb
              have hS := hS.1 hc
              refine step_yes hs rfl rfl rfl ?_
              refine stepY (v := (Value.slice xa64 xl65 xc66)) hs rfl rfl (by decide) (Yl.pure rfl (fun _ => by kernel_rfl)) (fun _ hs => ?_)
              refine step_yes hs rfl rfl rfl ?_
              refine stepY (v := (Value.int .i64 ((xl65 : Nat) : Int))) hs rfl rfl (by decide) (Yl.pure rfl (fun _ => by kernel_rfl)) (fun _ hs => ?_)
              refine step_yes hs rfl rfl rfl ?_
              refine stepY (v := (Value.bool (((xl65 : Nat) : Int) == (0 : Int)))) hs rfl rfl (by decide) (Yl.pure rfl (fun _ => by kernel_rfl)) (fun _ hs => ?_)
              refine stepY (v := (Value.bool (((xl65 : Nat) : Int) == (0 : Int)))) hs rfl rfl (by decide) (Yl.pure rfl (fun _ => by kernel_rfl)) (fun _ hs => ?_)
              refine stepY (v := (Value.bool (((xl65 : Nat) : Int) == (0 : Int)))) hs rfl rfl (by decide) (Yl.pure rfl (fun _ => by kernel_rfl)) (fun _ hs => ?_)
              refine wpList_nil ?_
              refine Wp.ret ?_
              exact leaveE (K := fun v _ => K v) hs (resT hs rfl rfl) hMM.2 (fun _ _ => hS)
            · have hs := hs.bf hb
              have hS := hS.2 hc
              refine step_no hs rfl rfl rfl rfl rfl (by decide) (fun _ hs => ?_)
              refine step_no hs rfl rfl rfl rfl rfl (by decide) (fun _ hs => ?_)
              refine step_no hs rfl rfl rfl rfl rfl (by decide) (fun _ hs => ?_)
              refine stepY (v := (Value.bool false)) hs rfl rfl (by decide) (Yl.pure rfl (fun _ => by kernel_rfl)) (fun _ hs => ?_)
              refine stepY (v := (Value.bool false)) hs rfl rfl (by decide) (Yl.pure rfl (fun _ => by kernel_rfl)) (fun _ hs => ?_)
              refine wpList_nil ?_
              refine Wp.ret ?_
              exact leaveE (K := fun v _ => K v) hs (resT hs rfl rfl) hMM.2 (fun _ _ => hS)
          · have hS := hS.2 hc
            refine Wp.skip ?_
            refine Wp.seq ?_
            refine Wp.join (fun a w => ∃ (x74 : Bool), Sx 134 E [] M68 w a [(0, (Value.slice aa1 al2 ac3)), (1, (Value.slice ba4 bl5 bc6)), (11, (Value.slice xa64 xl65 xc66)), (98, (Value.bool x74))] [] [] ∧ (S_chafflaw_CoverMerges_J8 aa1 al2 ba4 bl5 xa64 xl65 M68 x74 K)) ?_ ?_
            · refine Wp.region ?_
              refine stepY (v := (Value.int .i64 x67)) hs rfl rfl (by decide) (Yl.pure rfl (fun _ => by kernel_rfl)) (fun _ hs => ?_)
              refine stepY (v := (Value.bool ((x67 : Int) != (0 : Int)))) hs rfl rfl (by decide) (Yl.pure rfl (fun _ => by kernel_rfl)) (fun _ hs => ?_)
              refine stepY (v := (Value.bool ((x67 : Int) != (0 : Int)))) hs rfl rfl (by decide) (Yl.pure rfl (fun _ => by kernel_rfl)) (fun _ hs => ?_)
              refine bsplit ((x67 : Int) != (0 : Int)) bne_iff_ne (fun hb hc => ?_) (fun hb hc => ?_)
              · have hs := hs.bt hb
                have hS := hS.1 hc
                refine step_no hs rfl rfl rfl rfl rfl (by decide) (fun _ hs => ?_)
                refine step_no hs rfl rfl rfl rfl rfl (by decide) (fun _ hs => ?_)
                refine step_no hs rfl rfl rfl rfl rfl (by decide) (fun _ hs => ?_)
                refine step_no hs rfl rfl rfl rfl rfl (by decide) (fun _ hs => ?_)
                refine step_no hs rfl rfl rfl rfl rfl (by decide) (fun _ hs => ?_)
                refine stepY (v := (Value.bool true)) hs rfl rfl (by decide) (Yl.pure rfl (fun _ => by kernel_rfl)) (fun _ hs => ?_)
                refine wpList_nil ?_
                exact ⟨true, (hs.weak (List.Sublist.refl _) (List.Sublist.refl _) ⟨rfl, rfl, rfl, rfl, trivial⟩), hS⟩
              · have hs := hs.bf hb
                have hS := hS.2 hc
                refine step_yes hs rfl rfl rfl ?_
                refine stepY (v := (Value.slice xa64 xl65 xc66)) hs rfl rfl (by decide) (Yl.pure rfl (fun _ => by kernel_rfl)) (fun _ hs => ?_)
                refine step_yes hs rfl rfl rfl ?_
                refine stepY (v := (Value.int .i64 ((xl65 : Nat) : Int))) hs rfl rfl (by decide) (Yl.pure rfl (fun _ => by kernel_rfl)) (fun _ hs => ?_)
                refine step_yes hs rfl rfl rfl ?_
                refine stepY (v := (Value.slice aa1 al2 ac3)) hs rfl rfl (by decide) (Yl.pure rfl (fun _ => by kernel_rfl)) (fun _ hs => ?_)
                refine step_yes hs rfl rfl rfl ?_
                refine stepY (v := (Value.int .i64 ((al2 : Nat) : Int))) hs rfl rfl (by decide) (Yl.pure rfl (fun _ => by kernel_rfl)) (fun _ hs => ?_)
                refine step_yes hs rfl rfl rfl ?_
                refine stepY (v := (Value.bool (((xl65 : Nat) : Int) != ((al2 : Nat) : Int)))) hs rfl rfl (by decide) (Yl.pure rfl (fun _ => by kernel_rfl)) (fun _ hs => ?_)
                refine stepY (v := (Value.bool (((xl65 : Nat) : Int) != ((al2 : Nat) : Int)))) hs rfl rfl (by decide) (Yl.pure rfl (fun _ => by kernel_rfl)) (fun _ hs => ?_)
                refine wpList_nil ?_
                exact ⟨(((xl65 : Nat) : Int) != ((al2 : Nat) : Int)), (hs.weak (List.Sublist.refl _) (List.Sublist.refl _) ⟨rfl, rfl, rfl, rfl, trivial⟩), hS⟩
            · intro a w hJ
              obtain ⟨x74, hs, hS⟩ := hJ
              unfold S_chafflaw_CoverMerges_J8 at hS
              refine Wp.cond hs rfl rfl Iff.rfl (fun hc => ?_) (fun hc => ?_)
              · have hS := hS.1 hc
                refine Wp.seq ?_
                refine Wp.region ?_
                refine stepY (v := (Value.bool false)) hs rfl rfl (by decide) (Yl.pure rfl (fun _ => by kernel_rfl)) (fun _ hs => ?_)
                refine wpList_nil ?_
                refine Wp.ret ?_
                exact leaveE (K := fun v _ => K v) hs (resT hs rfl rfl) hMM.2 (fun _ _ => hS)
              · have hS := hS.2 hc
                refine Wp.skip ?_
                refine Wp.seq ?_
                refine Wp.seq ?_
                refine Wp.region ?_
                refine stepY (v := (Value.slice xa64 xl65 xc66)) hs rfl rfl (by decide) (Yl.pure rfl (fun _ => by kernel_rfl)) (fun _ hs => ?_)
                refine stepY (v := (Value.int .i64 ((xl65 : Nat) : Int))) hs rfl rfl (by decide) (Yl.pure rfl (fun _ => by kernel_rfl)) (fun _ hs => ?_)
                refine stepY (v := (Value.int .i64 0)) hs rfl rfl (by decide) (Yl.pure rfl (fun _ => by kernel_rfl)) (fun _ hs => ?_)
                refine wpList_nil ?_
                refine Wp.block ?_
                obtain ⟨I92, mu93, hI0, hst⟩ := hS
                refine Wp.loop (σ := (Int)) (fun s a w => match s with | (x91) => Sx 134 E [] M68 w a [(0, (Value.slice aa1 al2 ac3)), (1, (Value.slice ba4 bl5 bc6)), (11, (Value.slice xa64 xl65 xc66)), (100, (Value.int .i64 ((xl65 : Nat) : Int))), (101, (Value.int .i64 x91))] [] [] ∧ I92 x91) (fun s => match s with | (x91) => mu93 x91) (0) ⟨(hs.weak (List.Sublist.refl _) (List.Sublist.refl _) ⟨rfl, rfl, rfl, rfl, rfl, trivial⟩), hI0⟩ (fun x91 a w hI => ?_)
                obtain ⟨hs, hI⟩ := hI
                have hS := hst x91 hI
                clear hst hI0 hI
                refine Wp.seq ?_
                refine Wp.region ?_
                refine stepY (v := (Value.bool (decide (x91 < ((xl65 : Nat) : Int))))) hs rfl rfl (by decide) (Yl.pure rfl (fun _ => by kernel_rfl)) (fun _ hs => ?_)
                refine wpList_nil ?_
                refine Wp.seq ?_
                refine Wp.cond hs rfl rfl decide_eq_true_iff (fun hc => ?_) (fun hc => ?_)
                · have hS := hS.1 hc
                  refine Wp.skip ?_
                  refine Wp.seq ?_
                  refine Wp.block ?_
                  refine Wp.seq ?_
                  refine Wp.region ?_
                  refine stepY (v := (Value.int .i64 x91)) hs rfl rfl (by decide) (Yl.pure rfl (fun _ => by kernel_rfl)) (fun _ hs => ?_)
                  refine stepY (v := (Value.int .i64 x91)) hs rfl rfl (by decide) (Yl.pure rfl (fun _ => by kernel_rfl)) (fun _ hs => ?_)
                  refine wpList_nil ?_
                  refine Wp.seq ?_
                  refine Wp.regionD [true, true, true, true, true, true, true, true, true, true, true, true, true, true, true, true, true, true, true, true, true, true, true, true, true, true, true, true, true] hs (by kernel_rfl) rfl [] (fun _ h => h) [] (fun _ h => h) (fun _ hs hC => ?_)
                  have hL := Mem.le.refl M68
                  refine stepDP (v := (Value.slice xa64 xl65 xc66)) 0 [2, 3, 28] hs QZ.no rfl (wanted_none rfl) rfl (by decide) (by kernel_rfl) (by kernel_rfl) (by kernel_rfl) (Yl.pure rfl (fun _ => by kernel_rfl)) (fun _ hs => ?_)
                  refine stepDP (v := (Value.int .i64 x91)) 1 [2, 3, 28] hs QZ.no rfl (wanted_none rfl) rfl (by decide) (by kernel_rfl) (by kernel_rfl) (by kernel_rfl) (Yl.pure rfl (fun _ => by kernel_rfl)) (fun _ hs => ?_)
                  obtain ⟨b94, o95, ha, h0, hl, hS⟩ := hS
                  refine stepDP (v := (Value.pointer (some ⟨b94, o95 + x91.toNat * 1, none⟩))) 2 [3, 28] hs QZ.no rfl (wanted_none rfl) rfl (by decide) (by kernel_rfl) (by kernel_rfl) (by kernel_rfl) (Yl.indexS (e := 3) (sz := 1) rfl rfl rfl rfl (by kernel_rfl) (by kernel_rfl) ha h0 hl) (fun _ hs => ?_)
                  obtain ⟨x96, hat, hS⟩ := hS
                  refine stepDY (v := (Value.int .i64 x96)) 3 [28] hs hC QZ.no rfl (wanted_none rfl) rfl (by decide) (by kernel_rfl) (by kernel_rfl) (by kernel_rfl) (Yl.loadV (vs := [(Value.int .i64 x96)]) false rfl rfl (by kernel_rfl) hat) (fun _ hs => ?_)
                  refine stepDP (v := (Value.slice aa1 al2 ac3)) 4 [6, 7, 8, 14, 27, 28] hs QZ.no rfl (wanted_none rfl) rfl (by decide) (by kernel_rfl) (by kernel_rfl) (by kernel_rfl) (Yl.pure rfl (fun _ => by kernel_rfl)) (fun _ hs => ?_)
                  refine stepDP (v := (Value.int .i64 x91)) 5 [6, 7, 8, 14, 27, 28] hs QZ.no rfl (wanted_none rfl) rfl (by decide) (by kernel_rfl) (by kernel_rfl) (by kernel_rfl) (Yl.pure rfl (fun _ => by kernel_rfl)) (fun _ hs => ?_)
                  obtain ⟨b97, o98, ha, h0, hl, hS⟩ := hS
                  refine stepDP (v := (Value.pointer (some ⟨b97, o98 + x91.toNat * 1, none⟩))) 6 [7, 8, 14, 27, 28] hs QZ.no rfl (wanted_none rfl) rfl (by decide) (by kernel_rfl) (by kernel_rfl) (by kernel_rfl) (Yl.indexS (e := 3) (sz := 1) rfl rfl rfl rfl (by kernel_rfl) (by kernel_rfl) ha h0 hl) (fun _ hs => ?_)
                  obtain ⟨x99, hat, hS⟩ := hS
                  refine stepDY (v := (Value.int .i64 x99)) 7 [8, 14, 27, 28] hs hC QZ.no rfl (wanted_none rfl) rfl (by decide) (by kernel_rfl) (by kernel_rfl) (by kernel_rfl) (Yl.loadV (vs := [(Value.int .i64 x99)]) false rfl rfl (by kernel_rfl) hat) (fun _ hs => ?_)
                  refine stepDP (v := (Value.int .i64 (x99.tmod 2))) 8 [14, 27, 28] hs QZ.no rfl (wanted_none rfl) rfl (by decide) (by kernel_rfl) (by kernel_rfl) (by kernel_rfl) (Yl.pure rfl (fun _ => by kernel_rfl)) (fun _ hs => ?_)
                  refine stepDP (v := (Value.slice ba4 bl5 bc6)) 9 [11, 12, 13, 14, 27, 28] hs QZ.no rfl (wanted_none rfl) rfl (by decide) (by kernel_rfl) (by kernel_rfl) (by kernel_rfl) (Yl.pure rfl (fun _ => by kernel_rfl)) (fun _ hs => ?_)
                  refine stepDP (v := (Value.int .i64 x91)) 10 [11, 12, 13, 14, 27, 28] hs QZ.no rfl (wanted_none rfl) rfl (by decide) (by kernel_rfl) (by kernel_rfl) (by kernel_rfl) (Yl.pure rfl (fun _ => by kernel_rfl)) (fun _ hs => ?_)
                  obtain ⟨b100, o101, ha, h0, hl, hS⟩ := hS
                  refine stepDP (v := (Value.pointer (some ⟨b100, o101 + x91.toNat * 1, none⟩))) 11 [12, 13, 14, 27, 28] hs QZ.no rfl (wanted_none rfl) rfl (by decide) (by kernel_rfl) (by kernel_rfl) (by kernel_rfl) (Yl.indexS (e := 3) (sz := 1) rfl rfl rfl rfl (by kernel_rfl) (by kernel_rfl) ha h0 hl) (fun _ hs => ?_)
                  obtain ⟨x102, hat, hS⟩ := hS
                  refine stepDY (v := (Value.int .i64 x102)) 12 [13, 14, 27, 28] hs hC QZ.no rfl (wanted_none rfl) rfl (by decide) (by kernel_rfl) (by kernel_rfl) (by kernel_rfl) (Yl.loadV (vs := [(Value.int .i64 x102)]) false rfl rfl (by kernel_rfl) hat) (fun _ hs => ?_)
                  refine stepDP (v := (Value.int .i64 (x102.tmod 2))) 13 [14, 27, 28] hs QZ.no rfl (wanted_none rfl) rfl (by decide) (by kernel_rfl) (by kernel_rfl) (by kernel_rfl) (Yl.pure rfl (fun _ => by kernel_rfl)) (fun _ hs => ?_)
                  refine stepDP (v := (Value.int .i64 (if x102.tmod 2 > x99.tmod 2 then x102.tmod 2 else x99.tmod 2))) 14 [27, 28] hs QZ.no rfl (wanted_none rfl) rfl (by decide) (by kernel_rfl) (by kernel_rfl) (by kernel_rfl) (Yl.pure rfl (fun _ => by kernel_rfl)) (fun _ hs => ?_)
                  refine stepDP (v := (Value.slice aa1 al2 ac3)) 15 [17, 18, 19, 25, 26, 27, 28] hs QZ.no rfl (wanted_none rfl) rfl (by decide) (by kernel_rfl) (by kernel_rfl) (by kernel_rfl) (Yl.pure rfl (fun _ => by kernel_rfl)) (fun _ hs => ?_)
                  refine stepDP (v := (Value.int .i64 x91)) 16 [17, 18, 19, 25, 26, 27, 28] hs QZ.no rfl (wanted_none rfl) rfl (by decide) (by kernel_rfl) (by kernel_rfl) (by kernel_rfl) (Yl.pure rfl (fun _ => by kernel_rfl)) (fun _ hs => ?_)
                  obtain ⟨b103, o104, ha, h0, hl, hS⟩ := hS
                  refine stepDP (v := (Value.pointer (some ⟨b103, o104 + x91.toNat * 1, none⟩))) 17 [18, 19, 25, 26, 27, 28] hs QZ.no rfl (wanted_none rfl) rfl (by decide) (by kernel_rfl) (by kernel_rfl) (by kernel_rfl) (Yl.indexS (e := 3) (sz := 1) rfl rfl rfl rfl (by kernel_rfl) (by kernel_rfl) ha h0 hl) (fun _ hs => ?_)
                  obtain ⟨x105, hat, hS⟩ := hS
                  refine stepDY (v := (Value.int .i64 x105)) 18 [19, 25, 26, 27, 28] hs hC QZ.no rfl (wanted_none rfl) rfl (by decide) (by kernel_rfl) (by kernel_rfl) (by kernel_rfl) (Yl.loadV (vs := [(Value.int .i64 x105)]) false rfl rfl (by kernel_rfl) hat) (fun _ hs => ?_)
                  obtain ⟨hI, hS⟩ := hS
                  refine stepDP (v := (Value.int .i64 (x105.tdiv 2))) 19 [25, 26, 27, 28] hs QZ.no rfl (wanted_none rfl) rfl (by decide) (by kernel_rfl) (by kernel_rfl) (by kernel_rfl) (Yl.eq (Yl.pure (v := Value.int .i64 (IntKind.wrap .i64 (x105.tdiv 2))) rfl (fun _ => by kernel_rfl)) (congrArg (Value.int .i64) (wrap_in hI))) (fun _ hs => ?_)
                  refine stepDP (v := (Value.slice ba4 bl5 bc6)) 20 [22, 23, 24, 25, 26, 27, 28] hs QZ.no rfl (wanted_none rfl) rfl (by decide) (by kernel_rfl) (by kernel_rfl) (by kernel_rfl) (Yl.pure rfl (fun _ => by kernel_rfl)) (fun _ hs => ?_)
                  refine stepDE 21 rfl (wanted_none rfl) (by kernel_rfl) #[] ?_
                  refine stepY (v := (Value.int .i64 x91)) hs rfl rfl (by decide) (Yl.pure rfl (fun _ => by kernel_rfl)) (fun _ hs => ?_)
                  refine wpList_nil ?_
                  refine ⟨fun _ h => h, ?_⟩
                  refine stepDE 22 rfl (wanted_none rfl) (by kernel_rfl) #[] ?_
                  obtain ⟨b106, o107, ha, h0, hl, hS⟩ := hS
                  refine stepY (v := (Value.pointer (some ⟨b106, o107 + x91.toNat * 1, none⟩))) hs rfl rfl (by decide) (Yl.indexS (e := 3) (sz := 1) rfl rfl rfl rfl (by kernel_rfl) (by kernel_rfl) ha h0 hl) (fun _ hs => ?_)
                  refine wpList_nil ?_
                  refine ⟨fun _ h => h, ?_⟩
                  refine stepDE 23 rfl (wanted_none rfl) (by kernel_rfl) #[] ?_
                  obtain ⟨x108, hat, hS⟩ := hS
                  refine stepY (v := (Value.int .i64 x108)) hs rfl rfl (by decide) (Yl.loadV (vs := [(Value.int .i64 x108)]) false rfl rfl (by kernel_rfl) hat) (fun _ hs => ?_)
                  refine wpList_nil ?_
                  refine ⟨fun _ h => h, ?_⟩
                  refine stepDE 24 rfl (wanted_none rfl) (by kernel_rfl) #[] ?_
                  obtain ⟨hI, hS⟩ := hS
                  refine stepY (v := (Value.int .i64 (x108.tdiv 2))) hs rfl rfl (by decide) (Yl.eq (Yl.pure (v := Value.int .i64 (IntKind.wrap .i64 (x108.tdiv 2))) rfl (fun _ => by kernel_rfl)) (congrArg (Value.int .i64) (wrap_in hI))) (fun _ hs => ?_)
                  refine wpList_nil ?_
                  refine ⟨fun _ h => h, ?_⟩
                  refine stepDE 25 rfl (wanted_none rfl) (by kernel_rfl) #[] ?_
                  refine stepY (v := (Value.int .i64 (if x108.tdiv 2 > x105.tdiv 2 then x108.tdiv 2 else x105.tdiv 2))) hs rfl rfl (by decide) (Yl.pure rfl (fun _ => by kernel_rfl)) (fun _ hs => ?_)
                  refine wpList_nil ?_
                  refine ⟨fun _ h => h, ?_⟩
                  refine stepDE 26 rfl (wanted_none rfl) (by kernel_rfl) #[] ?_
                  obtain ⟨hI, hS⟩ := hS
                  refine stepY (v := (Value.int .i64 (2 * (if x108.tdiv 2 > x105.tdiv 2 then x108.tdiv 2 else x105.tdiv 2)))) hs rfl rfl (by decide) (Yl.eq (Yl.pure (v := Value.int .i64 (IntKind.wrap .i64 (2 * (if x108.tdiv 2 > x105.tdiv 2 then x108.tdiv 2 else x105.tdiv 2)))) rfl (fun _ => by kernel_rfl)) (congrArg (Value.int .i64) (wrap_in hI))) (fun _ hs => ?_)
                  refine wpList_nil ?_
                  refine ⟨fun _ h => h, ?_⟩
                  refine stepDE 27 rfl (wanted_none rfl) (by kernel_rfl) #[] ?_
                  obtain ⟨hI, hS⟩ := hS
                  refine stepY (v := (Value.int .i64 ((if x102.tmod 2 > x99.tmod 2 then x102.tmod 2 else x99.tmod 2) + (2 * (if x108.tdiv 2 > x105.tdiv 2 then x108.tdiv 2 else x105.tdiv 2))))) hs rfl rfl (by decide) (Yl.eq (Yl.pure (v := Value.int .i64 (IntKind.wrap .i64 ((if x102.tmod 2 > x99.tmod 2 then x102.tmod 2 else x99.tmod 2) + (2 * (if x108.tdiv 2 > x105.tdiv 2 then x108.tdiv 2 else x105.tdiv 2))))) rfl (fun _ => by kernel_rfl)) (congrArg (Value.int .i64) (wrap_in hI))) (fun _ hs => ?_)
                  refine wpList_nil ?_
                  refine ⟨fun _ h => h, ?_⟩
                  refine stepDE 28 rfl (wanted_none rfl) (by kernel_rfl) #[] ?_
                  refine stepY (v := (Value.bool ((x96 : Int) != ((if x102.tmod 2 > x99.tmod 2 then x102.tmod 2 else x99.tmod 2) + (2 * (if x108.tdiv 2 > x105.tdiv 2 then x108.tdiv 2 else x105.tdiv 2)) : Int)))) hs rfl rfl (by decide) (Yl.pure rfl (fun _ => by kernel_rfl)) (fun _ hs => ?_)
                  refine wpList_nil ?_
                  refine ⟨fun _ h => h, ?_⟩
                  refine WpD.done (by kernel_rfl) ?_ _
                  refine Wp.cond hs rfl rfl bne_iff_ne (fun hc => ?_) (fun hc => ?_)
                  · have hS := hS.1 hc
                    refine Wp.seq ?_
                    refine Wp.region ?_
                    refine stepY (v := (Value.bool false)) hs rfl rfl (by decide) (Yl.pure rfl (fun _ => by kernel_rfl)) (fun _ hs => ?_)
                    refine wpList_nil ?_
                    refine Wp.ret ?_
                    exact leaveE (K := fun v _ => K v) hs (resT hs rfl rfl) hMM.2 (fun _ _ => hS)
                  · have hS := hS.2 hc
                    refine Wp.skip ?_
                    refine Wp.region ?_
                    obtain ⟨hI, hS⟩ := hS
                    refine stepY (v := (Value.int .i64 (x91 + 1))) hs rfl rfl (by decide) (Yl.eq (Yl.pure (v := Value.int .i64 (IntKind.wrap .i64 (x91 + 1))) rfl (fun _ => by kernel_rfl)) (congrArg (Value.int .i64) (wrap_in hI))) (fun _ hs => ?_)
                    refine stepY (v := (Value.int .i64 (x91 + 1))) hs rfl rfl (by decide) (Yl.pure rfl (fun _ => by kernel_rfl)) (fun _ hs => ?_)
                    refine wpList_nil ?_
                    exact ⟨(x91 + 1), ⟨(hs.weak (List.Sublist.refl _) (List.Sublist.refl _) ⟨rfl, rfl, rfl, rfl, rfl, trivial⟩), hS.1⟩, hS.2⟩
                · have hS := hS.2 hc
                  refine Wp.exit rfl ?_
                  refine Wp.seq ?_
                  refine Wp.region ?_
                  refine stepY (v := (Value.bool true)) hs rfl rfl (by decide) (Yl.pure rfl (fun _ => by kernel_rfl)) (fun _ hs => ?_)
                  refine wpList_nil ?_
                  refine Wp.ret ?_
                  exact leaveE (K := fun v _ => K v) hs (resT hs rfl rfl) hMM.2 (fun _ _ => hS)
theorem f_chafflaw_CoverMerges (aa1 : Option Addr) (al2 : Nat) (ac3 : Nat) (ba4 : Option Addr) (bl5 : Nat) (bc6 : Nat) (M : Mem) (K : Value → Prop) (hS : S_chafflaw_CoverMerges aa1 al2 ac3 ba4 bl5 bc6 M K) : CallF Try.prog (Value.func (.func 7) #[] #[]) [(Value.slice aa1 al2 ac3), (Value.slice ba4 bl5 bc6)] M (fun v _ => K v) := ⟨7, _, _, _, rfl, Try.func7, rfl, (by decide), s_chafflaw_CoverMerges _ _ _ _ _ _ _ _ hS⟩
theorem open_L_int {H : Type} {enc : TypeId × Value → H} {w : World} {fuel : Nat} {v : Value} (h : LeafR enc Try.prog w fuel (.sl 24 3) v) : ∃ A l c xss, v = .slice A l c ∧ SlV (HM w) A l c 1 (List.flatten xss) ∧ xss.length = l ∧ l ≤ maxLen ∧ ∀ cs ∈ xss, ∃ n, n < fuel ∧ All2 (LeafR enc Try.prog w n) [.int .i64] cs :=
  open_sl 9 1 (by kernel_rfl) (by kernel_rfl) rfl (by decide) h
def WalkGoal : Prop := ∀ (H : Type) (enc : TypeId × Value → H) (W : World) (A0 : Option Addr) (l0 c0 fuel0 : Nat) (_ : LeafR enc Try.prog W fuel0 (.sl 24 3) (.slice A0 l0 c0)) (A1 : Option Addr) (l1 c1 fuel1 : Nat) (_ : LeafR enc Try.prog W fuel1 (.sl 24 3) (.slice A1 l1 c1)), CallE Try.prog 7 #[.slice A0 l0 c0, .slice A1 l1 c1] (HM W) (fun v _ => v = .bool true)
theorem top_own : ownKnob Try.prog.godebug = none := by kernel_rfl
theorem top_laidOut : laidOutB Try.prog = true := by kernel_rfl
set_option linter.unusedVariables false in
set_option maxRecDepth 100000 in
theorem top_lifted (walk : WalkGoal) (os : Os) (started : os.Started) (H : Type) (enc : TypeId × Value → H) :
    ReturnsInHanded {} Try.checked os 7 .any (Rows.coverMergesSpec.pre6 enc Try.prog Try.f7 Rows.coverMergesRow.domain false) (Rows.coverMergesSpec.post enc Try.prog Try.f7 false true false false) := by
  refine returnsInHanded_of_change (C := Try.checked) top_own started (by kernel_rfl) Try.func7
    (ChangeSpec.witness6 (enc := enc) (C := Try.checked) false ⟨#[], #[.slice none 0 0, .slice none 0 0], []⟩ 9 (by kernel_rfl) (by kernel_rfl) (by kernel_rfl) (by kernel_rfl)) ?_
  intro W base args ds gs before hval0 hW hcnd _
  have hval : ∀ (j : Nat) t v, Try.f7.params[j]? = some t → args[j]? = some v → Value.okWide Try.prog W .any base t v := hval0
  have hW' := hW
  obtain ⟨p, q, hA0, hV, rfl, hfz, hnd⟩ := hW
  have hA : DataW.TrodAll enc Try.prog W 0 (fun _ => true) true Try.f7.params.toList args.toList ds p := hA0
  have hA1 := hA
  rw [Try.params7] at hA hval
  obtain ⟨v0, vs0, d0, ds0, p0, q0, hargs, rfl, rfl, h0, r0⟩ := trodAll_cons hA
  obtain ⟨v1, vs1, d1, ds1, p1, q1, rfl, rfl, rfl, h1, r1⟩ := trodAll_cons r0
  obtain ⟨rfl, rfl, rfl⟩ := trodAll_nil r1
  obtain rfl : args = #[v0, v1] := by cases args; simp_all
  obtain ⟨rfl, rfl⟩ := trodVars_none hV
  obtain ⟨A0, l0, c0, f0, rfl, w0⟩ := argSl Try.underlying24 (hval 0 24 _ rfl rfl) h0
  obtain ⟨A1, l1, c1, f1, rfl, w1⟩ := argSl Try.underlying24 (hval 1 24 _ rfl rfl) h1
  clear hA0 hval0
  refine (walk H enc W A0 l0 c0 f0 w0 A1 l1 c1 f1 w1 W (HM.on W)).mono fun e W' ⟨v, he, bel, hv⟩ => ?_
  subst he
  subst hv
  exact ⟨_, rfl, _, _, _, [], _, [], hW', trodAll_mk1 (shut_bool Try.underlying4 _), trodAll_below top_laidOut bel (by kernel_rfl) hA1, rfl, bel.frame _, fun h => by cases h⟩
theorem top (walk : WalkGoal) : Rows.CoverMergesSaid :=
  OpenClaim.holds_of_wide 7 Try.f7 rfl rfl rfl rfl rfl rfl rfl ⟨rfl, rfl, rfl, rfl, rfl⟩ rfl rfl rfl rfl rfl (by kernel_rfl) Try.func7 (by kernel_rfl)
    (of_decide_eq_true (by kernel_rfl)) (by unfold Func.isWrapper; first | (rw [if_pos (by decide +kernel)]; kernel_rfl) | (rw [if_neg (by decide +kernel)]; exact ⟨rfl, rfl⟩))
    (fun os started H enc _ => top_lifted walk os started H enc)
end Go.Proofs.Ytdlfhmdojbejkaa.lawCoverMerges
