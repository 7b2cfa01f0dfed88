/- What the code computes, function for function, as shallow propositions; printed by program. -/
import Derived.Test.YtifkffmecfgpeaaLookG
import Derived.Test.YtifkffmecfgpeaaFillG
namespace Go.Proofs.Ytifkffmecfgpeaa.core
open Go.Gx Go.RowKit Go.ChangeShapes Go.WideShapes Go.ChangeAt
set_option linter.unusedVariables false
structure X_mean_runner where
 g_Rules_a : Option Addr
 g_Rules_l : Nat
 g_Rules_c : Nat
 s : List UInt8
 left : Int
 over : Bool
def X_mean_runner.cells (x : X_mean_runner) : List Value := [(.slice x.g_Rules_a x.g_Rules_l x.g_Rules_c), (.string (mkS x.s)), (.int .i64 x.left), (.bool x.over)]
def X_mean_runner.val (x : X_mean_runner) : Value := .agg x.cells.toArray
structure X_chaffref_Tried where
 Kid : Int
 At : Int
def X_chaffref_Tried.cells (x : X_chaffref_Tried) : List Value := [(.int .i64 x.Kid), (.int .i64 x.At)]
def X_chaffref_Tried.val (x : X_chaffref_Tried) : Value := .agg x.cells.toArray
structure X_A2_i64 where
 w0 : Int
 w1 : Int
def X_A2_i64.cells (x : X_A2_i64) : List Value := [(.int .i64 x.w0), (.int .i64 x.w1)]
def X_A2_i64.val (x : X_A2_i64) : Value := .agg x.cells.toArray
def C_mean_runner_again (e8 : X_api_Expr) (at9 : Int) (ra2 : Option Addr) (rl3 : Nat) (rc4 : Nat) (r5 : List UInt8) (r6 : Int) (r7 : Bool) (M : Mem) (K : Value → Int → Bool → Mem → Prop) : Prop := ∀ (b1 : Nat), CallL Try.prog 99 #[(.pointer (some ⟨b1, 0, none⟩)), e8.val, (.int .i64 at9)] M [⟨b1, 104, [(.slice ra2 rl3 rc4), (.string (mkS r5)), (.int .i64 r6), (.bool r7)]⟩] [] (fun v lb' lr' M' => ∃ (c10 : Int) (c11 : Bool), lb' = [⟨b1, 104, [(.slice ra2 rl3 rc4), (.string (mkS r5)), (.int .i64 c10), (.bool c11)]⟩] ∧ lr' = [] ∧ K v c10 c11 M')
def C_mean_runner_run (e8 : X_api_Expr) (at9 : Int) (ra2 : Option Addr) (rl3 : Nat) (rc4 : Nat) (r5 : List UInt8) (r6 : Int) (r7 : Bool) (M : Mem) (K : Value → Int → Bool → Mem → Prop) : Prop := ∀ (b1 : Nat), CallL Try.prog 52 #[(.pointer (some ⟨b1, 0, none⟩)), e8.val, (.int .i64 at9)] M [⟨b1, 104, [(.slice ra2 rl3 rc4), (.string (mkS r5)), (.int .i64 r6), (.bool r7)]⟩] [] (fun v lb' lr' M' => ∃ (c10 : Int) (c11 : Bool), lb' = [⟨b1, 104, [(.slice ra2 rl3 rc4), (.string (mkS r5)), (.int .i64 c10), (.bool c11)]⟩] ∧ lr' = [] ∧ K v c10 c11 M')
def S_internal_stringslite_HasPrefix (s1 : List UInt8) (prefix2 : List UInt8) (M : Mem) (K : Value → Prop) : Prop :=
 ((((s1.length : Nat) : Int) ≥ ((prefix2.length : Nat) : Int) → ((0 : Int) ≤ 0 ∧ (0 : Int) ≤ ((prefix2.length : Nat) : Int) ∧ ((prefix2.length : Nat) : Int) ≤ ((s1.length : Nat) : Int) ∧ K (Value.bool ((mkS ((s1.take ((prefix2.length : Nat) : Int).toNat).drop (0 : Int).toNat)).toList == (mkS prefix2).toList)))) ∧ (¬ (((s1.length : Nat) : Int) ≥ ((prefix2.length : Nat) : Int)) → K (Value.bool false)))
set_option maxRecDepth 100000 in
theorem s_internal_stringslite_HasPrefix (s1 : List UInt8) (prefix2 : List UInt8) (M : Mem) (K : Value → Prop) (hS : S_internal_stringslite_HasPrefix s1 prefix2 M K) : CallE Try.prog 135 #[(Value.string (mkS s1)), (Value.string (mkS prefix2))] M (fun v _ => K v) := by
 refine enterE Try.func135 rfl 18 rfl (Nat.le_of_ble_eq_true rfl) (fun E a hs => ?_)
 unfold S_internal_stringslite_HasPrefix at hS
 have hMM := MX.refl M E
 change Sx 18 E [] M E a [(0, (.string (mkS s1))), (1, (.string (mkS prefix2)))] [] [] at hs
 refine Wp.seq (Wp.region (sP (.bool false) hs fun _ hs => ?_))
 refine wpList_nil (Wp.seq (Wp.region (sP (.string (mkS s1)) hs fun _ hs => ?_)))
 refine sP (iv ((s1.length : Nat) : Int)) hs fun _ hs => ?_
 refine sP (.string (mkS prefix2)) hs fun _ hs => ?_
 refine sP (iv ((prefix2.length : Nat) : Int)) hs fun _ hs => ?_
 refine sP (.bool (decide (((s1.length : Nat) : Int) ≥ ((prefix2.length : Nat) : Int)))) hs fun _ hs => ?_
 refine sP (.bool (decide (((s1.length : Nat) : Int) ≥ ((prefix2.length : Nat) : Int)))) hs fun _ hs => ?_
 refine bsplit (decide (((s1.length : Nat) : Int) ≥ ((prefix2.length : Nat) : Int))) decide_eq_true_iff (fun hb hc => ?_) (fun hb hc => ?_)
 ·have hs := hs.bt hb
  have hS := hS.1 hc
  refine sYe hs (sP (.string (mkS s1)) hs fun _ hs => ?_)
  refine sYe hs (sP (.string (mkS prefix2)) hs fun _ hs => ?_)
  refine sYe hs (sP (iv ((prefix2.length : Nat) : Int)) hs fun _ hs => ?_)
  refine sYe hs ?_
  obtain ⟨h0, h1, h2, hS⟩ := hS
  refine sY (.string (mkS ((s1.take ((prefix2.length : Nat) : Int).toNat).drop (0 : Int).toNat))) hs (Yl.sliceStrH rfl rfl rfl rfl (by kernel_rfl) h0 h1 h2) fun _ hs => ?_
  refine sYe hs (sP (.string (mkS prefix2)) hs fun _ hs => ?_)
  refine sYe hs (sP (.bool ((mkS ((s1.take ((prefix2.length : Nat) : Int).toNat).drop (0 : Int).toNat)).toList == (mkS prefix2).toList)) hs fun _ hs => ?_)
  refine sP (.bool ((mkS ((s1.take ((prefix2.length : Nat) : Int).toNat).drop (0 : Int).toNat)).toList == (mkS prefix2).toList)) hs fun _ hs => ?_
  refine sP (.bool ((mkS ((s1.take ((prefix2.length : Nat) : Int).toNat).drop (0 : Int).toNat)).toList == (mkS prefix2).toList)) hs fun _ hs => ?_
  exact wpList_nil (Wp.ret (lvE K hs (resT hs rfl rfl) hMM.2 hS))
 ·have hs := hs.bf hb
  have hS := hS.2 hc
  refine sNo hs fun _ hs => ?_
  refine sNo hs fun _ hs => ?_
  refine sNo hs fun _ hs => ?_
  refine sNo hs fun _ hs => ?_
  refine sNo hs fun _ hs => ?_
  refine sNo hs fun _ hs => ?_
  refine sP (.bool false) hs fun _ hs => ?_
  refine sP (.bool false) hs fun _ hs => ?_
  exact wpList_nil (Wp.ret (lvE K hs (resT hs rfl rfl) hMM.2 hS))
def S_strings_HasPrefix (s1 : List UInt8) (prefix2 : List UInt8) (M : Mem) (K : Value → Prop) : Prop :=
 (CallE Try.prog 135 #[(.string (mkS s1)), (.string (mkS prefix2))] M (fun v _ => ∃ (x3 : Bool), v = (Value.bool x3) ∧ K (Value.bool x3)))
set_option maxRecDepth 100000 in
theorem s_strings_HasPrefix (s1 : List UInt8) (prefix2 : List UInt8) (M : Mem) (K : Value → Prop) (hS : S_strings_HasPrefix s1 prefix2 M K) : CallE Try.prog 97 #[(Value.string (mkS s1)), (Value.string (mkS prefix2))] M (fun v _ => K v) := by
 refine enterE Try.func97 rfl 8 rfl (Nat.le_of_ble_eq_true rfl) (fun E a hs => ?_)
 unfold S_strings_HasPrefix at hS
 have hMM := MX.refl M E
 change Sx 8 E [] M E a [(0, (.string (mkS s1))), (1, (.string (mkS prefix2)))] [] [] at hs
 refine Wp.seq (Wp.region (sP (.bool false) hs fun _ hs => ?_))
 refine wpList_nil (Wp.seq (Wp.region (sP (.string (mkS s1)) hs fun _ hs => ?_)))
 refine sP (.string (mkS prefix2)) hs fun _ hs => ?_
 refine stepCallP [(.string (mkS s1)), (.string (mkS prefix2))] hs rfl ⟨_, rfl, rfl⟩ rfl Try.func135 rfl (by kernel_rfl) (by decide) hS (fun _ _ v hS hs => ?_)
 obtain ⟨x3, hv, hS⟩ := hS
 subst hv
 refine sP (.bool x3) hs fun _ hs => ?_
 exact wpList_nil (Wp.ret (lvE K hs (resT hs rfl rfl) hMM.2 hS))
def S_mean_runner_again (e8 : X_api_Expr) (at9 : Int) (ra2 : Option Addr) (rl3 : Nat) (rc4 : Nat) (r5 : List UInt8) (r6 : Int) (r7 : Bool) (M : Mem) (K : Value → Int → Bool → Mem → Prop) : Prop :=
 (∃ (I33 : Int → Int → Bool → Mem → Prop) (mu34 : Int → Int → Bool → Nat), I33 at9 r6 r7 M ∧ ∀ (at29 : Int) (c30 : Int) (c31 : Bool) (M32 : Mem), (I33 at29 c30 c31 M32 → (C_mean_runner_run e8 at29 ra2 rl3 rc4 r5 c30 c31 M32 (fun v c38 c39 M37 => ∃ (x35 : Int) (x36 : Bool), v = (Value.tuple #[(.int .i64 x35), (.bool x36)]) ∧ ((¬ (x36 = true) → K (Value.int .i64 at29) c38 c39 M37) ∧ (¬ (¬ (x36 = true)) → I33 x35 c38 c39 M37 ∧ mu34 x35 c38 c39 < mu34 at29 c30 c31))))))
set_option maxRecDepth 100000 in
theorem s_mean_runner_again (e8 : X_api_Expr) (at9 : Int) (ra2 : Option Addr) (rl3 : Nat) (rc4 : Nat) (r5 : List UInt8) (r6 : Int) (r7 : Bool) (M : Mem) (K : Value → Int → Bool → Mem → Prop) (hS : S_mean_runner_again e8 at9 ra2 rl3 rc4 r5 r6 r7 M K) : C_mean_runner_again e8 at9 ra2 rl3 rc4 r5 r6 r7 M K := by
 intro b1
 refine enterL Try.func99 rfl 20 rfl (Nat.le_of_ble_eq_true rfl) (fun E a hs => ?_)
 unfold S_mean_runner_again at hS
 have hMM := MX.refl M E
 change Sx 20 E (blk [⟨b1, 104, [(.slice ra2 rl3 rc4), (.string (mkS r5)), (iv r6), (.bool r7)]⟩] []) M E a [(0, (pt b1 0)), (1, e8.val), (2, (iv at9))] [⟨b1, 104, [(.slice ra2 rl3 rc4), (.string (mkS r5)), (iv r6), (.bool r7)]⟩] [] at hs
 refine Wp.seq (Wp.region (stepBox e8.cells hs rfl rfl rfl (by decide) (fun _ _ b13 hEb13 hs => ?_)))
 refine sP (iv 0) hs fun _ hs => ?_
 refine wpList_nil (Wp.block ?_)
 obtain ⟨I33, mu34, hI0, hst⟩ := hS
 refine Wp.loop (σ := (Int) × (Int) × (Bool) × (Mem)) (fun s a w => match s with | (at29, c30, c31, M32) => MX M32 M E ∧ Sx 20 E (blk [⟨b1, 104, [(.slice ra2 rl3 rc4), (.string (mkS r5)), (iv r6), (.bool r7)]⟩] []) M32 w a [(0, (pt b1 0)), (2, (iv at29)), (4, (pt b13 0))] [⟨b13, 109, e8.cells⟩, ⟨b1, 104, [(.slice ra2 rl3 rc4), (.string (mkS r5)), (iv c30), (.bool c31)]⟩] [] ∧ I33 at29 c30 c31 M32) (fun s => match s with | (at29, c30, c31, M32) => mu34 at29 c30 c31) (at9, r6, r7, M) ⟨hMM, (hs.wk ⟨rfl, rfl, rfl, trivial⟩), hI0⟩ (fun s a w hI => ?_)
 obtain ⟨at29, c30, c31, M32⟩ := s
 obtain ⟨hMM, hs, hI⟩ := hI
 have hS := hst at29 c30 c31 M32 hI
 clear hst hI0 hI
 refine Wp.block (Wp.seq (Wp.region (sP (pt b1 0) hs fun _ hs => ?_)))
 refine sY e8.val hs (Yl.lB e8.cells true 0) fun _ hs => ?_
 refine sP (iv at29) hs fun _ hs => ?_
 replace hs := hs.bfront 1 rfl rfl
 refine stepCallL [(pt b1 0), e8.val, (iv at29)] [⟨b1, 104, [(.slice ra2 rl3 rc4), (.string (mkS r5)), (iv c30), (.bool c31)]⟩] [⟨b13, 109, e8.cells⟩] [] [] true hs rfl rfl rfl rfl ⟨_, rfl, rfl⟩ rfl Try.func52 rfl (by kernel_rfl) (by decide) (hS _) (fun _ _ M37 v lb lr hle hnew hS hs => ?_)
 have hMM := hMM.next hle hnew
 obtain ⟨c38, c39, hlb, hlr, hS⟩ := hS
 subst hlb hlr
 obtain ⟨x35, x36, hv, hS⟩ := hS
 subst hv
 replace hs := hs.chbx (bs' := [⟨b1, 104, [(.slice ra2 rl3 rc4), (.string (mkS r5)), (iv c38), (.bool c39)]⟩, ⟨b13, 109, e8.cells⟩]) rfl
 replace hs := hs.chrs (rs' := []) rfl
 replace hs := hs.bback 1 (l' := [⟨b13, 109, e8.cells⟩, ⟨b1, 104, [(.slice ra2 rl3 rc4), (.string (mkS r5)), (iv c38), (.bool c39)]⟩]) rfl
 refine sP (Value.tuple #[(iv x35), (.bool x36)]) hs fun _ hs => ?_
 refine sP (iv x35) hs fun _ hs => ?_
 refine sP (.bool x36) hs fun _ hs => ?_
 refine sP (iv x35) hs fun _ hs => ?_
 refine sP (.bool x36) hs fun _ hs => ?_
 refine wpList_nil (Wp.seq (Wp.seq (Wp.region (sP (.bool x36) hs fun _ hs => ?_))))
 refine sP (.bool (!x36)) hs fun _ hs => ?_
 refine wpList_nil (Wp.cond hs rfl rfl (bnot_iff Iff.rfl) (fun hc => ?_) (fun hc => ?_))
 ·have hS := hS.1 hc
  refine Wp.seq (Wp.region (sP (iv at29) hs fun _ hs => ?_))
  refine sP (iv at29) hs fun _ hs => ?_
  refine wpList_nil (Wp.ret ?_)
  replace hs := hs.bfront 1 rfl rfl
  exact leaveL hs (resT hs rfl rfl) hMM.1 hMM.2 [⟨b1, 104, [(.slice ra2 rl3 rc4), (.string (mkS r5)), (iv c38), (.bool c39)]⟩] [] (.cons_cons _ (.cons _ List.Sublist.slnil)) (List.Sublist.refl _) rfl ⟨c38, c39, rfl, rfl, hS⟩
 ·have hS := hS.2 hc
  refine Wp.skip (Wp.region (sP (iv x35) hs fun _ hs => ?_))
  refine sP (iv x35) hs fun _ hs => ?_
  exact wpList_nil (⟨(x35, c38, c39, M37), ⟨hMM, (hs.wk ⟨rfl, rfl, rfl, trivial⟩), hS.1⟩, hS.2⟩)
def S_mean_runner_run_J2 (ra2 : Option Addr) (rl3 : Nat) (rc4 : Nat) (r5 : List UInt8) (e8 : X_api_Expr) (at55 : Int) (ok56 : Bool) (i57 : Int) (c58 : Int) (c59 : Bool) (M60 : Mem) (I61 : Int → Bool → Int → Int → Bool → Mem → Prop) (mu62 : Int → Bool → Int → Int → Bool → Nat) (x63 : Bool) (K : Value → Int → Bool → Mem → Prop) : Prop :=
 ((x63 = true → (∃ (b64 o65 : Nat), e8.Kids_a = some ⟨b64, o65, none⟩ ∧ (0 : Int) ≤ i57 ∧ i57 < ((e8.Kids_l : Nat) : Int) ∧ (∃ (x66 : X_api_Expr), At M60 b64 (o65 + i57.toNat * 7) x66.cells ∧ (C_mean_runner_run x66 at55 ra2 rl3 rc4 r5 c58 c59 M60 (fun v c70 c71 M69 => ∃ (x67 : Int) (x68 : Bool), v = (Value.tuple #[(.int .i64 x67), (.bool x68)]) ∧ (InI (i57 + 1) ∧ I61 x67 x68 (i57 + 1) c70 c71 M69 ∧ mu62 x67 x68 (i57 + 1) c70 c71 < mu62 at55 ok56 i57 c58 c59)))))) ∧ (¬ (x63 = true) → K (Value.tuple #[(.int .i64 at55), (.bool ok56)]) c58 c59 M60))
def S_mean_runner_run_J3 (x97 : Int) (c98 : Int) (c99 : Bool) (I101 : Int → Int → Bool → Mem → Prop) (mu102 : Int → Int → Bool → Nat) (x107 : Int) (x108 : Bool) (M109 : Mem) (c110 : Int) (c111 : Bool) (x112 : Bool) (K : Value → Int → Bool → Mem → Prop) : Prop :=
 ((x112 = true → K (Value.tuple #[(.int .i64 x107), (.bool x108)]) c110 c111 M109) ∧ (¬ (x112 = true) → (InI (x97 + 1) ∧ I101 (x97 + 1) c110 c111 M109 ∧ mu102 (x97 + 1) c110 c111 < mu102 x97 c98 c99)))
def S_mean_runner_run_J4 (M140 : Mem) (c141 : Int) (c142 : Bool) (to143 : Int) (K : Value → Int → Bool → Mem → Prop) : Prop :=
 K (Value.tuple #[(.int .i64 to143), (.bool (!c142))]) c141 c142 M140
def S_mean_runner_run_J1 (ra2 : Option Addr) (rl3 : Nat) (rc4 : Nat) (r5 : List UInt8) (r6 : Int) (e8 : X_api_Expr) (at9 : Int) (M : Mem) (c15 : Bool) (K : Value → Int → Bool → Mem → Prop) : Prop :=
 ((c15 = true → K (Value.tuple #[(.int .i64 0), (.bool false)]) r6 c15 M) ∧ (¬ (c15 = true) → (InI (r6 - 1) ∧ (((e8.Kind : Int) = 1 → K (Value.tuple #[(.int .i64 at9), (.bool true)]) (r6 - 1) c15 M) ∧ (¬ ((e8.Kind : Int) = 1) → (((e8.Kind : Int) = 2 → (InI (at9 + 1) ∧ ((at9 < ((r5.length : Nat) : Int) → (∃ c16 : UInt8, (0 : Int) ≤ at9 ∧ r5[at9.toNat]? = some c16 ∧ (CallE Try.prog 96 #[e8.Set.val, (.int .u8 (c16.toNat : Int))] M (fun v _ => ∃ (x17 : Bool), v = (Value.bool x17) ∧ K (Value.tuple #[(.int .i64 (at9 + 1)), (.bool x17)]) (r6 - 1) c15 M)))) ∧ (¬ (at9 < ((r5.length : Nat) : Int)) → K (Value.tuple #[(.int .i64 (at9 + 1)), (.bool false)]) (r6 - 1) c15 M)))) ∧ (¬ ((e8.Kind : Int) = 2) → (((e8.Kind : Int) = 3 → (InI (at9 + ((e8.Text.length : Nat) : Int)) ∧ ((0 : Int) ≤ at9 ∧ (at9 : Int) ≤ ((r5.length : Nat) : Int) ∧ ((r5.length : Nat) : Int) ≤ ((r5.length : Nat) : Int) ∧ (CallE Try.prog 97 #[(.string (mkS ((r5.take ((r5.length : Nat) : Int).toNat).drop at9.toNat))), (.string (mkS e8.Text))] M (fun v _ => ∃ (x18 : Bool), v = (Value.bool x18) ∧ K (Value.tuple #[(.int .i64 (at9 + ((e8.Text.length : Nat) : Int))), (.bool x18)]) (r6 - 1) c15 M))))) ∧ (¬ ((e8.Kind : Int) = 3) → (((e8.Kind : Int) = 4 → (CallE Try.prog 98 #[(.agg #[(.slice ra2 rl3 rc4)]), (.string (mkS e8.Text))] M (fun v _ => ∃ (x19 : Int), v = (Value.int .i64 x19) ∧ (∃ (b20 o21 : Nat), ra2 = some ⟨b20, o21, none⟩ ∧ (0 : Int) ≤ x19 ∧ x19 < ((rl3 : Nat) : Int) ∧ (∃ (x22 : X_api_Expr), At M b20 (o21 + x19.toNat * 8 + 1) x22.cells ∧ (C_mean_runner_run x22 at9 ra2 rl3 rc4 r5 (r6 - 1) c15 M (fun v c26 c27 M25 => ∃ (x23 : Int) (x24 : Bool), v = (Value.tuple #[(.int .i64 x23), (.bool x24)]) ∧ K (Value.tuple #[(.int .i64 x23), (.bool x24)]) c26 c27 M25))))))) ∧ (¬ ((e8.Kind : Int) = 4) → (((e8.Kind : Int) = 5 → (∃ (I61 : Int → Bool → Int → Int → Bool → Mem → Prop) (mu62 : Int → Bool → Int → Int → Bool → Nat), I61 at9 true 0 (r6 - 1) c15 M ∧ ∀ (at55 : Int) (ok56 : Bool) (i57 : Int) (c58 : Int) (c59 : Bool) (M60 : Mem), (I61 at55 ok56 i57 c58 c59 M60 → ((i57 < ((e8.Kids_l : Nat) : Int) → (S_mean_runner_run_J2 ra2 rl3 rc4 r5 e8 at55 ok56 i57 c58 c59 M60 I61 mu62 ok56 K)) ∧ (¬ (i57 < ((e8.Kids_l : Nat) : Int)) → (S_mean_runner_run_J2 ra2 rl3 rc4 r5 e8 at55 ok56 i57 c58 c59 M60 I61 mu62 false K)))))) ∧ (¬ ((e8.Kind : Int) = 5) → (((e8.Kind : Int) = 6 → (∃ (I101 : Int → Int → Bool → Mem → Prop) (mu102 : Int → Int → Bool → Nat), I101 0 (r6 - 1) c15 M ∧ ∀ (x97 : Int) (c98 : Int) (c99 : Bool) (M100 : Mem), (I101 x97 c98 c99 M100 → ((x97 < ((e8.Kids_l : Nat) : Int) → (∃ (b103 o104 : Nat), e8.Kids_a = some ⟨b103, o104, none⟩ ∧ (0 : Int) ≤ x97 ∧ x97 < ((e8.Kids_l : Nat) : Int) ∧ (∃ (x105 : X_api_Expr), At M100 b103 (o104 + x97.toNat * 7) x105.cells ∧ (C_mean_runner_run x105 at9 ra2 rl3 rc4 r5 c98 c99 M100 (fun v c110 c111 M109 => ∃ (x107 : Int) (x108 : Bool), v = (Value.tuple #[(.int .i64 x107), (.bool x108)]) ∧ ((x108 = true → (S_mean_runner_run_J3 x97 c98 c99 I101 mu102 x107 x108 M109 c110 c111 true K)) ∧ (¬ (x108 = true) → (S_mean_runner_run_J3 x97 c98 c99 I101 mu102 x107 x108 M109 c110 c111 c111 K)))))))) ∧ (¬ (x97 < ((e8.Kids_l : Nat) : Int)) → K (Value.tuple #[(.int .i64 0), (.bool false)]) c98 c99 M100))))) ∧ (¬ ((e8.Kind : Int) = 6) → (((e8.Kind : Int) = 8 → (∃ (b113 o114 : Nat), e8.Kids_a = some ⟨b113, o114, none⟩ ∧ (0 : Int) ≤ 0 ∧ 0 < ((e8.Kids_l : Nat) : Int) ∧ (∃ (x115 : X_api_Expr), At M b113 (o114 + (0 : Int).toNat * 7) x115.cells ∧ (C_mean_runner_run x115 at9 ra2 rl3 rc4 r5 (r6 - 1) c15 M (fun v c119 c120 M118 => ∃ (x116 : Int) (x117 : Bool), v = (Value.tuple #[(.int .i64 x116), (.bool x117)]) ∧ ((¬ (x117 = true) → K (Value.tuple #[(.int .i64 0), (.bool false)]) c119 c120 M118) ∧ (¬ (¬ (x117 = true)) → (∃ (b121 o122 : Nat), e8.Kids_a = some ⟨b121, o122, none⟩ ∧ (0 : Int) ≤ 0 ∧ 0 < ((e8.Kids_l : Nat) : Int) ∧ (∃ (x123 : X_api_Expr), At M118 b121 (o122 + (0 : Int).toNat * 7) x123.cells ∧ (C_mean_runner_again x123 x116 ra2 rl3 rc4 r5 c119 c120 M118 (fun v c126 c127 M125 => ∃ (x124 : Int), v = (Value.int .i64 x124) ∧ K (Value.tuple #[(.int .i64 x124), (.bool (!c127))]) c126 c127 M125))))))))))) ∧ (¬ ((e8.Kind : Int) = 8) → (((e8.Kind : Int) = 7 → (∃ (b128 o129 : Nat), e8.Kids_a = some ⟨b128, o129, none⟩ ∧ (0 : Int) ≤ 0 ∧ 0 < ((e8.Kids_l : Nat) : Int) ∧ (∃ (x130 : X_api_Expr), At M b128 (o129 + (0 : Int).toNat * 7) x130.cells ∧ (C_mean_runner_again x130 at9 ra2 rl3 rc4 r5 (r6 - 1) c15 M (fun v c133 c134 M132 => ∃ (x131 : Int), v = (Value.int .i64 x131) ∧ K (Value.tuple #[(.int .i64 x131), (.bool (!c134))]) c133 c134 M132))))) ∧ (¬ ((e8.Kind : Int) = 7) → (∃ (b135 o136 : Nat), e8.Kids_a = some ⟨b135, o136, none⟩ ∧ (0 : Int) ≤ 0 ∧ 0 < ((e8.Kids_l : Nat) : Int) ∧ (∃ (x137 : X_api_Expr), At M b135 (o136 + (0 : Int).toNat * 7) x137.cells ∧ (C_mean_runner_run x137 at9 ra2 rl3 rc4 r5 (r6 - 1) c15 M (fun v c141 c142 M140 => ∃ (x138 : Int) (x139 : Bool), v = (Value.tuple #[(.int .i64 x138), (.bool x139)]) ∧ (((e8.Kind : Int) = 10 → K (Value.tuple #[(.int .i64 at9), (.bool x139)]) c141 c142 M140) ∧ (¬ ((e8.Kind : Int) = 10) → (((e8.Kind : Int) = 11 → ((¬ (x139 = true) → K (Value.tuple #[(.int .i64 at9), (.bool (!c142))]) c141 c142 M140) ∧ (¬ (¬ (x139 = true)) → K (Value.tuple #[(.int .i64 at9), (.bool false)]) c141 c142 M140))) ∧ (¬ ((e8.Kind : Int) = 11) → ((¬ (x139 = true) → (S_mean_runner_run_J4 M140 c141 c142 at9 K)) ∧ (¬ (¬ (x139 = true)) → (S_mean_runner_run_J4 M140 c141 c142 x138 K))))))))))))))))))))))))))))))
def S_mean_runner_run (e8 : X_api_Expr) (at9 : Int) (ra2 : Option Addr) (rl3 : Nat) (rc4 : Nat) (r5 : List UInt8) (r6 : Int) (r7 : Bool) (M : Mem) (K : Value → Int → Bool → Mem → Prop) : Prop :=
 (((r6 : Int) = 0 → (S_mean_runner_run_J1 ra2 rl3 rc4 r5 r6 e8 at9 M true K)) ∧ (¬ ((r6 : Int) = 0) → (S_mean_runner_run_J1 ra2 rl3 rc4 r5 r6 e8 at9 M r7 K)))
set_option maxRecDepth 100000 in
theorem s_mean_runner_run (e8 : X_api_Expr) (at9 : Int) (ra2 : Option Addr) (rl3 : Nat) (rc4 : Nat) (r5 : List UInt8) (r6 : Int) (r7 : Bool) (M : Mem) (K : Value → Int → Bool → Mem → Prop) (hS : S_mean_runner_run e8 at9 ra2 rl3 rc4 r5 r6 r7 M K) : C_mean_runner_run e8 at9 ra2 rl3 rc4 r5 r6 r7 M K := by
 intro b1
 refine enterL Try.func52 rfl 233 rfl (Nat.le_of_ble_eq_true rfl) (fun E a hs => ?_)
 unfold S_mean_runner_run at hS
 have hMM := MX.refl M E
 change Sx 233 E (blk [⟨b1, 104, [(.slice ra2 rl3 rc4), (.string (mkS r5)), (iv r6), (.bool r7)]⟩] []) M E a [(0, (pt b1 0)), (1, e8.val), (2, (iv at9))] [⟨b1, 104, [(.slice ra2 rl3 rc4), (.string (mkS r5)), (iv r6), (.bool r7)]⟩] [] at hs
 refine Wp.seq (Wp.region (stepBox e8.cells hs rfl rfl rfl (by decide) (fun _ _ b14 hEb14 hs => ?_)))
 refine sP (iv 0) hs fun _ hs => ?_
 refine sP (.bool false) hs fun _ hs => ?_
 refine wpList_nil (Wp.join (fun a w => ∃ (c15 : Bool), Sx 233 E (blk [⟨b1, 104, [(.slice ra2 rl3 rc4), (.string (mkS r5)), (iv r6), (.bool r7)]⟩] []) M w a [(0, (pt b1 0)), (2, (iv at9)), (4, (pt b14 0))] [⟨b14, 109, e8.cells⟩, ⟨b1, 104, [(.slice ra2 rl3 rc4), (.string (mkS r5)), (iv r6), (.bool c15)]⟩] [] ∧ (S_mean_runner_run_J1 ra2 rl3 rc4 r5 r6 e8 at9 M c15 K)) ?_ ?_)
 ·refine Wp.seq (Wp.region (sP (pt b1 0) hs fun _ hs => ?_))
  refine sP (pt b1 0) hs fun _ hs => ?_
  refine sP (pt b1 2) hs fun _ hs => ?_
  refine sY (iv r6) hs (Yl.lB [(iv r6)] false 1) fun _ hs => ?_
  refine sP (.bool ((r6 : Int) == (0 : Int))) hs fun _ hs => ?_
  refine wpList_nil (Wp.cond hs rfl rfl beq_iff_eq (fun hc => ?_) (fun hc => ?_))
  ·have hS := hS.1 hc
   refine Wp.region (sP (pt b1 0) hs fun _ hs => ?_)
   refine sP (pt b1 0) hs fun _ hs => ?_
   refine sP (pt b1 3) hs fun _ hs => ?_
   refine stB 1 [(.bool true)] [⟨b14, 109, e8.cells⟩, ⟨b1, 104, [(.slice ra2 rl3 rc4), (.string (mkS r5)), (iv r6), (.bool true)]⟩] hs fun _ _ hs => ?_
   exact wpList_nil (⟨true, (hs.wk ⟨rfl, rfl, rfl, trivial⟩), hS⟩)
  ·have hS := hS.2 hc
   exact Wp.skip (⟨r7, (hs.wk ⟨rfl, rfl, rfl, trivial⟩), hS⟩)
 ·intro a w hJ
  obtain ⟨c15, hs, hS⟩ := hJ
  unfold S_mean_runner_run_J1 at hS
  refine Wp.seq (Wp.seq (Wp.region (sP (pt b1 0) hs fun _ hs => ?_)))
  refine sP (pt b1 0) hs fun _ hs => ?_
  refine sP (pt b1 3) hs fun _ hs => ?_
  refine sY (.bool c15) hs (Yl.lB [(.bool c15)] false 1) fun _ hs => ?_
  refine wpList_nil (Wp.cond hs rfl rfl Iff.rfl (fun hc => ?_) (fun hc => ?_))
  ·have hS := hS.1 hc
   refine Wp.seq (Wp.region (sP (iv 0) hs fun _ hs => ?_))
   refine sP (.bool false) hs fun _ hs => ?_
   refine wpList_nil (Wp.ret ?_)
   replace hs := hs.bfront 1 rfl rfl
   exact leaveL hs (resTT hs rfl rfl rfl) hMM.1 hMM.2 [⟨b1, 104, [(.slice ra2 rl3 rc4), (.string (mkS r5)), (iv r6), (.bool c15)]⟩] [] (.cons_cons _ (.cons _ List.Sublist.slnil)) (List.Sublist.refl _) rfl ⟨r6, c15, rfl, rfl, hS⟩
  ·have hS := hS.2 hc
   refine Wp.skip (Wp.seq (Wp.region (sP (pt b1 0) hs fun _ hs => ?_)))
   refine sP (pt b1 0) hs fun _ hs => ?_
   refine sP (pt b1 2) hs fun _ hs => ?_
   refine sY (iv r6) hs (Yl.lB [(iv r6)] false 1) fun _ hs => ?_
   obtain ⟨hI, hS⟩ := hS
   refine sY (iv (r6 - 1)) hs (Yl.eq (Yl.pure (v := Value.int .i64 (IntKind.wrap .i64 (r6 - 1))) rfl (fun _ => by kernel_rfl)) (congrArg (Value.int .i64) (wrap_in hI))) fun _ hs => ?_
   refine sP (pt b1 0) hs fun _ hs => ?_
   refine sP (pt b1 2) hs fun _ hs => ?_
   refine stB 1 [(iv (r6 - 1))] [⟨b14, 109, e8.cells⟩, ⟨b1, 104, [(.slice ra2 rl3 rc4), (.string (mkS r5)), (iv (r6 - 1)), (.bool c15)]⟩] hs fun _ _ hs => ?_
   refine wpList_nil (Wp.seq (Wp.seq (Wp.region (sP (pt b14 0) hs fun _ hs => ?_))))
   refine sY (iv e8.Kind) hs (Yl.lB [(iv e8.Kind)] false 0) fun _ hs => ?_
   refine wpList_nil (Wp.block (Wp.seq (Wp.region (sP (.bool ((e8.Kind : Int) == (1 : Int))) hs fun _ hs => ?_))))
   refine sP (.bool ((e8.Kind : Int) == (1 : Int))) hs fun _ hs => ?_
   refine wpList_nil (Wp.cond hs rfl rfl beq_iff_eq (fun hc => ?_) (fun hc => ?_))
   ·have hS := hS.1 hc
    refine Wp.seq (Wp.region (sP (iv at9) hs fun _ hs => ?_))
    refine sP (iv at9) hs fun _ hs => ?_
    refine sP (.bool true) hs fun _ hs => ?_
    refine wpList_nil (Wp.ret ?_)
    replace hs := hs.bfront 1 rfl rfl
    exact leaveL hs (resTT hs rfl rfl rfl) hMM.1 hMM.2 [⟨b1, 104, [(.slice ra2 rl3 rc4), (.string (mkS r5)), (iv (r6 - 1)), (.bool c15)]⟩] [] (.cons_cons _ (.cons _ List.Sublist.slnil)) (List.Sublist.refl _) rfl ⟨r6 - 1, c15, rfl, rfl, hS⟩
   ·have hS := hS.2 hc
    refine Wp.seq (Wp.region (sP (.bool ((e8.Kind : Int) == (2 : Int))) hs fun _ hs => ?_))
    refine sP (.bool ((e8.Kind : Int) == (2 : Int))) hs fun _ hs => ?_
    refine wpList_nil (Wp.cond hs rfl rfl beq_iff_eq (fun hc => ?_) (fun hc => ?_))
    ·have hS := hS.1 hc
     refine Wp.seq (Wp.regionD [true, true, true, true, true, true, true, true, true, true, true, true, true, true, true, true, true, true, true, true, true, true] hs (by kernel_rfl) rfl [⟨b14, 109, e8.cells⟩, ⟨b1, 104, [(.slice ra2 rl3 rc4), (.string (mkS r5)), (iv (r6 - 1)), (.bool c15)]⟩] (fun _ h => h) [] (fun _ h => h) (fun _ hs hC => ?_))
     have hL := Mem.le.refl M
     refine dP (iv at9) 0 [1, 20, 21] hs QZ.no (wanted_none rfl) fun _ hs => ?_
     obtain ⟨hI, hS⟩ := hS
     refine stepDP (v := (iv (at9 + 1))) 1 [20, 21] hs QZ.no rfl (wanted_none rfl) rfl (by decide) (by kernel_rfl) (by kernel_rfl) (by kernel_rfl) (Yl.eq (Yl.pure (v := Value.int .i64 (IntKind.wrap .i64 (at9 + 1))) rfl (fun _ => by kernel_rfl)) (congrArg (Value.int .i64) (wrap_in hI))) (fun _ hs => ?_)
     refine dP (iv at9) 2 [8, 9, 10, 11, 12, 13, 14, 15, 16, 17, 18, 19, 20, 21] hs QZ.no (wanted_none rfl) fun _ hs => ?_
     refine sE 3 ?_
     refine sP (pt b1 0) hs fun _ hs => ?_
     refine wpList_nil (⟨fun _ h => h, ?_⟩)
     refine sE 4 ?_
     refine sP (pt b1 0) hs fun _ hs => ?_
     refine wpList_nil (⟨fun _ h => h, ?_⟩)
     refine sE 5 ?_
     refine sP (pt b1 1) hs fun _ hs => ?_
     refine wpList_nil (⟨fun _ h => h, ?_⟩)
     refine sE 6 ?_
     refine sY (.string (mkS r5)) hs (Yl.lB [(.string (mkS r5))] false 1) fun _ hs => ?_
     refine wpList_nil (⟨fun _ h => h, ?_⟩)
     refine sE 7 ?_
     refine sP (iv ((r5.length : Nat) : Int)) hs fun _ hs => ?_
     refine wpList_nil (⟨fun _ h => h, ?_⟩)
     refine sE 8 ?_
     refine sP (.bool (decide (at9 < ((r5.length : Nat) : Int)))) hs fun _ hs => ?_
     refine wpList_nil (⟨fun _ h => h, ?_⟩)
     refine sE 9 ?_
     refine sP (.bool (decide (at9 < ((r5.length : Nat) : Int)))) hs fun _ hs => ?_
     refine wpList_nil (⟨fun _ h => h, ?_⟩)
     refine bsplit (decide (at9 < ((r5.length : Nat) : Int))) decide_eq_true_iff (fun hb hc => ?_) (fun hb hc => ?_)
     ·have hs := hs.bt hb
      have hS := hS.1 hc
      refine dP (pt b14 1) 10 [11, 18, 19, 20, 21] hs QZ.no (wanted_yes hs rfl rfl rfl) fun _ hs => ?_
      refine stepDY (v := e8.Set.val) 11 [18, 19, 20, 21] hs hC QZ.no rfl (wanted_yes hs rfl rfl rfl) rfl (by decide) (by kernel_rfl) (by kernel_rfl) (by kernel_rfl) (Yl.lB e8.Set.cells true 0) (fun _ hs => ?_)
      refine dP (pt b1 0) 12 [13, 14, 15, 17, 18, 19, 20, 21] hs QZ.no (wanted_yes hs rfl rfl rfl) fun _ hs => ?_
      refine dP (pt b1 0) 13 [14, 15, 17, 18, 19, 20, 21] hs QZ.no (wanted_yes hs rfl rfl rfl) fun _ hs => ?_
      refine dP (pt b1 1) 14 [15, 17, 18, 19, 20, 21] hs QZ.no (wanted_yes hs rfl rfl rfl) fun _ hs => ?_
      refine stepDY (v := (.string (mkS r5))) 15 [17, 18, 19, 20, 21] hs hC QZ.no rfl (wanted_yes hs rfl rfl rfl) rfl (by decide) (by kernel_rfl) (by kernel_rfl) (by kernel_rfl) (Yl.lB [(.string (mkS r5))] false 1) (fun _ hs => ?_)
      refine stepDE 16 rfl (wanted_yes hs rfl rfl rfl) (by kernel_rfl) #[] ?_
      refine sP (iv at9) hs fun _ hs => ?_
      refine wpList_nil (⟨fun _ h => h, ?_⟩)
      refine stepDE 17 rfl (wanted_yes hs rfl rfl rfl) (by kernel_rfl) #[] ?_
      obtain ⟨c16, h0, hi, hS⟩ := hS
      refine sY (.int .u8 (c16.toNat : Int)) hs (Yl.indexStr rfl rfl rfl rfl (by kernel_rfl) h0 hi) fun _ hs => ?_
      refine wpList_nil (⟨fun _ h => h, ?_⟩)
      refine stepDE 18 rfl (wanted_yes hs rfl rfl rfl) (by kernel_rfl) #[] ?_
      refine stepCallP [e8.Set.val, (.int .u8 (c16.toNat : Int))] hs rfl ⟨_, rfl, rfl⟩ rfl Try.func96 rfl (by kernel_rfl) (by decide) hS (fun _ _ v hS hs => ?_)
      obtain ⟨x17, hv, hS⟩ := hS
      subst hv
      refine wpList_nil (⟨fun _ _ => hs.cxle hL (List.Sublist.refl _) (List.Sublist.refl _), ?_⟩)
      have hC := hs.cxle hL (List.Sublist.refl _) (List.Sublist.refl _)
      refine dP (Value.bool x17) 19 [21] hs QZ.no (wanted_none rfl) fun _ hs => ?_
      refine sE 20 ?_
      refine sP (iv (at9 + 1)) hs fun _ hs => ?_
      refine wpList_nil (⟨fun _ h => h, ?_⟩)
      refine sE 21 ?_
      refine sP (.bool x17) hs fun _ hs => ?_
      refine wpList_nil (⟨fun _ h => h, ?_⟩)
      refine WpD.done (by kernel_rfl) ?_ _
      refine Wp.ret ?_
      replace hs := hs.bfront 1 rfl rfl
      exact leaveL hs (resTT hs rfl rfl rfl) hMM.1 hMM.2 [⟨b1, 104, [(.slice ra2 rl3 rc4), (.string (mkS r5)), (iv (r6 - 1)), (.bool c15)]⟩] [] (.cons_cons _ (.cons _ List.Sublist.slnil)) (List.Sublist.refl _) rfl ⟨r6 - 1, c15, rfl, rfl, hS⟩
     ·have hs := hs.bf hb
      have hS := hS.2 hc
      refine dN 10 [11, 18, 19, 20, 21] hs QZ.no (wanted_no hs rfl rfl rfl rfl) fun _ hs => ?_
      refine dN 11 [18, 19, 20, 21] hs QZ.no (wanted_no hs rfl rfl rfl rfl) fun _ hs => ?_
      refine dN 12 [13, 14, 15, 17, 18, 19, 20, 21] hs QZ.no (wanted_no hs rfl rfl rfl rfl) fun _ hs => ?_
      refine dN 13 [14, 15, 17, 18, 19, 20, 21] hs QZ.no (wanted_no hs rfl rfl rfl rfl) fun _ hs => ?_
      refine dN 14 [15, 17, 18, 19, 20, 21] hs QZ.no (wanted_no hs rfl rfl rfl rfl) fun _ hs => ?_
      refine dN 15 [17, 18, 19, 20, 21] hs QZ.no (wanted_no hs rfl rfl rfl rfl) fun _ hs => ?_
      refine dN 16 [17, 18, 19, 20, 21] hs QZ.no (wanted_no hs rfl rfl rfl rfl) fun _ hs => ?_
      refine dN 17 [18, 19, 20, 21] hs QZ.no (wanted_no hs rfl rfl rfl rfl) fun _ hs => ?_
      refine dN 18 [19, 20, 21] hs QZ.no (wanted_no hs rfl rfl rfl rfl) fun _ hs => ?_
      refine dP (Value.bool false) 19 [21] hs QZ.no (wanted_none rfl) fun _ hs => ?_
      refine sE 20 ?_
      refine sP (iv (at9 + 1)) hs fun _ hs => ?_
      refine wpList_nil (⟨fun _ h => h, ?_⟩)
      refine sE 21 ?_
      refine sP (.bool false) hs fun _ hs => ?_
      refine wpList_nil (⟨fun _ h => h, ?_⟩)
      refine WpD.done (by kernel_rfl) ?_ _
      refine Wp.ret ?_
      replace hs := hs.bfront 1 rfl rfl
      exact leaveL hs (resTT hs rfl rfl rfl) hMM.1 hMM.2 [⟨b1, 104, [(.slice ra2 rl3 rc4), (.string (mkS r5)), (iv (r6 - 1)), (.bool c15)]⟩] [] (.cons_cons _ (.cons _ List.Sublist.slnil)) (List.Sublist.refl _) rfl ⟨r6 - 1, c15, rfl, rfl, hS⟩
    ·have hS := hS.2 hc
     refine Wp.seq (Wp.region (sP (.bool ((e8.Kind : Int) == (3 : Int))) hs fun _ hs => ?_))
     refine sP (.bool ((e8.Kind : Int) == (3 : Int))) hs fun _ hs => ?_
     refine wpList_nil (Wp.cond hs rfl rfl beq_iff_eq (fun hc => ?_) (fun hc => ?_))
     ·have hS := hS.1 hc
      refine Wp.seq (Wp.regionD [true, true, true, true, true, true, true, true, true, true, true, true, true, true, true, true] hs (by kernel_rfl) rfl [⟨b14, 109, e8.cells⟩, ⟨b1, 104, [(.slice ra2 rl3 rc4), (.string (mkS r5)), (iv (r6 - 1)), (.bool c15)]⟩] (fun _ h => h) [] (fun _ h => h) (fun _ hs hC => ?_))
      have hL := Mem.le.refl M
      refine dP (iv at9) 0 [4, 14, 15] hs QZ.no (wanted_none rfl) fun _ hs => ?_
      refine dP (pt b14 5) 1 [2, 3, 4, 14, 15] hs QZ.no (wanted_none rfl) fun _ hs => ?_
      refine stepDY (v := (.string (mkS e8.Text))) 2 [3, 4, 14, 15] hs hC QZ.no rfl (wanted_none rfl) rfl (by decide) (by kernel_rfl) (by kernel_rfl) (by kernel_rfl) (Yl.lB [(.string (mkS e8.Text))] false 0) (fun _ hs => ?_)
      refine dP (iv ((e8.Text.length : Nat) : Int)) 3 [4, 14, 15] hs QZ.no (wanted_none rfl) fun _ hs => ?_
      obtain ⟨hI, hS⟩ := hS
      refine stepDP (v := (iv (at9 + ((e8.Text.length : Nat) : Int)))) 4 [14, 15] hs QZ.no rfl (wanted_none rfl) rfl (by decide) (by kernel_rfl) (by kernel_rfl) (by kernel_rfl) (Yl.eq (Yl.pure (v := Value.int .i64 (IntKind.wrap .i64 (at9 + ((e8.Text.length : Nat) : Int)))) rfl (fun _ => by kernel_rfl)) (congrArg (Value.int .i64) (wrap_in hI))) (fun _ hs => ?_)
      refine dP (pt b1 0) 5 [6, 7, 8, 10, 13, 14, 15] hs QZ.no (wanted_none rfl) fun _ hs => ?_
      refine dP (pt b1 0) 6 [7, 8, 10, 13, 14, 15] hs QZ.no (wanted_none rfl) fun _ hs => ?_
      refine dP (pt b1 1) 7 [8, 10, 13, 14, 15] hs QZ.no (wanted_none rfl) fun _ hs => ?_
      refine stepDY (v := (.string (mkS r5))) 8 [10, 13, 14, 15] hs hC QZ.no rfl (wanted_none rfl) rfl (by decide) (by kernel_rfl) (by kernel_rfl) (by kernel_rfl) (Yl.lB [(.string (mkS r5))] false 1) (fun _ hs => ?_)
      refine dP (iv at9) 9 [10, 13, 14, 15] hs QZ.no (wanted_none rfl) fun _ hs => ?_
      obtain ⟨h0, h1, h2, hS⟩ := hS
      refine stepDP (v := (.string (mkS ((r5.take ((r5.length : Nat) : Int).toNat).drop at9.toNat)))) 10 [13, 14, 15] hs QZ.no rfl (wanted_none rfl) rfl (by decide) (by kernel_rfl) (by kernel_rfl) (by kernel_rfl) (Yl.sliceStrL rfl rfl rfl rfl (by kernel_rfl) h0 h1 h2) (fun _ hs => ?_)
      refine sE 11 ?_
      refine sP (pt b14 5) hs fun _ hs => ?_
      refine wpList_nil (⟨fun _ h => h, ?_⟩)
      refine sE 12 ?_
      refine sY (.string (mkS e8.Text)) hs (Yl.lB [(.string (mkS e8.Text))] false 0) fun _ hs => ?_
      refine wpList_nil (⟨fun _ h => h, ?_⟩)
      refine sE 13 ?_
      refine stepCallP [(.string (mkS ((r5.take ((r5.length : Nat) : Int).toNat).drop at9.toNat))), (.string (mkS e8.Text))] hs rfl ⟨_, rfl, rfl⟩ rfl Try.func97 rfl (by kernel_rfl) (by decide) hS (fun _ _ v hS hs => ?_)
      obtain ⟨x18, hv, hS⟩ := hS
      subst hv
      refine wpList_nil (⟨fun _ _ => hs.cxle hL (List.Sublist.refl _) (List.Sublist.refl _), ?_⟩)
      have hC := hs.cxle hL (List.Sublist.refl _) (List.Sublist.refl _)
      refine sE 14 ?_
      refine sP (iv (at9 + ((e8.Text.length : Nat) : Int))) hs fun _ hs => ?_
      refine wpList_nil (⟨fun _ h => h, ?_⟩)
      refine sE 15 ?_
      refine sP (.bool x18) hs fun _ hs => ?_
      refine wpList_nil (⟨fun _ h => h, ?_⟩)
      refine WpD.done (by kernel_rfl) ?_ _
      refine Wp.ret ?_
      replace hs := hs.bfront 1 rfl rfl
      exact leaveL hs (resTT hs rfl rfl rfl) hMM.1 hMM.2 [⟨b1, 104, [(.slice ra2 rl3 rc4), (.string (mkS r5)), (iv (r6 - 1)), (.bool c15)]⟩] [] (.cons_cons _ (.cons _ List.Sublist.slnil)) (List.Sublist.refl _) rfl ⟨r6 - 1, c15, rfl, rfl, hS⟩
     ·have hS := hS.2 hc
      refine Wp.seq (Wp.region (sP (.bool ((e8.Kind : Int) == (4 : Int))) hs fun _ hs => ?_))
      refine sP (.bool ((e8.Kind : Int) == (4 : Int))) hs fun _ hs => ?_
      refine wpList_nil (Wp.cond hs rfl rfl beq_iff_eq (fun hc => ?_) (fun hc => ?_))
      ·have hS := hS.1 hc
       refine Wp.seq (Wp.regionD [true, true, true, true, true, true, true, true, true, true, true, true, true, true, true, true, true, false, true, true, true, true] hs (by kernel_rfl) rfl [⟨b14, 109, e8.cells⟩, ⟨b1, 104, [(.slice ra2 rl3 rc4), (.string (mkS r5)), (iv (r6 - 1)), (.bool c15)]⟩] (fun _ h => h) [] (fun _ h => h) (fun _ hs hC => ?_))
       have hL := Mem.le.refl M
       refine dP (pt b1 0) 0 [17, 18, 19, 20, 21] hs QZ.no (wanted_none rfl) fun _ hs => ?_
       refine dP (pt b1 0) 1 [2, 3, 4, 5, 13, 14, 15, 17, 18, 19, 20, 21] hs QZ.no (wanted_none rfl) fun _ hs => ?_
       refine dP (pt b1 0) 2 [3, 4, 5, 13, 14, 15, 17, 18, 19, 20, 21] hs QZ.no (wanted_none rfl) fun _ hs => ?_
       refine dP (pt b1 0) 3 [4, 5, 13, 14, 15, 17, 18, 19, 20, 21] hs QZ.no (wanted_none rfl) fun _ hs => ?_
       refine dP (pt b1 0) 4 [5, 13, 14, 15, 17, 18, 19, 20, 21] hs QZ.no (wanted_none rfl) fun _ hs => ?_
       refine stepDY (v := (.slice ra2 rl3 rc4)) 5 [13, 14, 15, 17, 18, 19, 20, 21] hs hC QZ.no rfl (wanted_none rfl) rfl (by decide) (by kernel_rfl) (by kernel_rfl) (by kernel_rfl) (Yl.lB [(.slice ra2 rl3 rc4)] false 1) (fun _ hs => ?_)
       refine dP (pt b1 0) 6 [7, 8, 9, 12, 13, 14, 15, 17, 18, 19, 20, 21] hs QZ.no (wanted_none rfl) fun _ hs => ?_
       refine dP (pt b1 0) 7 [8, 9, 12, 13, 14, 15, 17, 18, 19, 20, 21] hs QZ.no (wanted_none rfl) fun _ hs => ?_
       refine dP (pt b1 0) 8 [9, 12, 13, 14, 15, 17, 18, 19, 20, 21] hs QZ.no (wanted_none rfl) fun _ hs => ?_
       refine stepDY (v := (.agg #[(.slice ra2 rl3 rc4)])) 9 [12, 13, 14, 15, 17, 18, 19, 20, 21] hs hC QZ.no rfl (wanted_none rfl) rfl (by decide) (by kernel_rfl) (by kernel_rfl) (by kernel_rfl) (Yl.lB [(.slice ra2 rl3 rc4)] true 1) (fun _ hs => ?_)
       refine dP (pt b14 5) 10 [11, 12, 13, 14, 15, 17, 18, 19, 20, 21] hs QZ.no (wanted_none rfl) fun _ hs => ?_
       refine stepDY (v := (.string (mkS e8.Text))) 11 [12, 13, 14, 15, 17, 18, 19, 20, 21] hs hC QZ.no rfl (wanted_none rfl) rfl (by decide) (by kernel_rfl) (by kernel_rfl) (by kernel_rfl) (Yl.lB [(.string (mkS e8.Text))] false 0) (fun _ hs => ?_)
       refine dP (iv at9) 16 [17, 18, 19, 20, 21] hs QZ.no (wanted_none rfl) fun _ hs => ?_
       refine sE 12 ?_
       refine stepCallP [(.agg #[(.slice ra2 rl3 rc4)]), (.string (mkS e8.Text))] hs rfl ⟨_, rfl, rfl⟩ rfl Try.func98 rfl (by kernel_rfl) (by decide) hS (fun _ _ v hS hs => ?_)
       obtain ⟨x19, hv, hS⟩ := hS
       subst hv
       refine wpList_nil (⟨fun _ _ => hs.cxle hL (List.Sublist.refl _) (List.Sublist.refl _), ?_⟩)
       have hC := hs.cxle hL (List.Sublist.refl _) (List.Sublist.refl _)
       refine sE 13 ?_
       obtain ⟨b20, o21, ha, h0, hl, hS⟩ := hS
       refine sY (.pointer (some ⟨b20, o21 + x19.toNat * 8, none⟩)) hs (Yl.indexS (e := 111) (sz := 8) rfl rfl rfl rfl (by kernel_rfl) (by kernel_rfl) ha h0 hl) fun _ hs => ?_
       refine wpList_nil (⟨fun _ h => h, ?_⟩)
       refine sE 14 ?_
       refine sP (.pointer (some ⟨b20, o21 + x19.toNat * 8 + 1, none⟩)) hs fun _ hs => ?_
       refine wpList_nil (⟨fun _ h => h, ?_⟩)
       refine sE 15 ?_
       obtain ⟨x22, hat, hS⟩ := hS
       refine sY x22.val hs (Yl.loadV (vs := x22.cells) true rfl rfl (by kernel_rfl) hat) fun _ hs => ?_
       refine wpList_nil (⟨fun _ h => h, ?_⟩)
       refine sE 17 ?_
       replace hs := hs.bfront 1 rfl rfl
       refine stepCallL [(pt b1 0), x22.val, (iv at9)] [⟨b1, 104, [(.slice ra2 rl3 rc4), (.string (mkS r5)), (iv (r6 - 1)), (.bool c15)]⟩] [⟨b14, 109, e8.cells⟩] [] [] true hs rfl rfl rfl rfl ⟨_, rfl, rfl⟩ rfl Try.func52 rfl (by kernel_rfl) (by decide) (hS _) (fun _ _ M25 v lb lr hle hnew hS hs => ?_)
       have hMM := hMM.next hle hnew
       replace hL := hL.trans hle
       obtain ⟨c26, c27, hlb, hlr, hS⟩ := hS
       subst hlb hlr
       obtain ⟨x23, x24, hv, hS⟩ := hS
       subst hv
       replace hs := hs.chbx (bs' := [⟨b1, 104, [(.slice ra2 rl3 rc4), (.string (mkS r5)), (iv c26), (.bool c27)]⟩, ⟨b14, 109, e8.cells⟩]) rfl
       replace hs := hs.chrs (rs' := []) rfl
       replace hs := hs.bback 1 (l' := [⟨b14, 109, e8.cells⟩, ⟨b1, 104, [(.slice ra2 rl3 rc4), (.string (mkS r5)), (iv c26), (.bool c27)]⟩]) rfl
       refine wpList_nil (⟨fun h => absurd h (by decide), ?_⟩)
       refine dP (iv x23) 18 [20, 21] hs QZ.no (wanted_none rfl) fun _ hs => ?_
       refine sE 19 ?_
       refine sP (.bool x24) hs fun _ hs => ?_
       refine wpList_nil (⟨fun _ h => h, ?_⟩)
       refine sE 20 ?_
       refine sP (iv x23) hs fun _ hs => ?_
       refine wpList_nil (⟨fun _ h => h, ?_⟩)
       refine sE 21 ?_
       refine sP (.bool x24) hs fun _ hs => ?_
       refine wpList_nil (⟨fun _ h => h, ?_⟩)
       refine WpD.done (by kernel_rfl) ?_ _
       refine Wp.ret ?_
       replace hs := hs.bfront 1 rfl rfl
       exact leaveL hs (resTT hs rfl rfl rfl) hMM.1 hMM.2 [⟨b1, 104, [(.slice ra2 rl3 rc4), (.string (mkS r5)), (iv c26), (.bool c27)]⟩] [] (.cons_cons _ (.cons _ List.Sublist.slnil)) (List.Sublist.refl _) rfl ⟨c26, c27, rfl, rfl, hS⟩
      ·have hS := hS.2 hc
       refine Wp.seq (Wp.region (sP (.bool ((e8.Kind : Int) == (5 : Int))) hs fun _ hs => ?_))
       refine sP (.bool ((e8.Kind : Int) == (5 : Int))) hs fun _ hs => ?_
       refine wpList_nil (Wp.cond hs rfl rfl beq_iff_eq (fun hc => ?_) (fun hc => ?_))
       ·have hS := hS.1 hc
        refine Wp.seq (Wp.region (sP (.bool true) hs fun _ hs => ?_))
        refine wpList_nil (Wp.seq (Wp.seq (Wp.region (sP (iv 0) hs fun _ hs => ?_))))
        refine wpList_nil (Wp.block ?_)
        obtain ⟨I61, mu62, hI0, hst⟩ := hS
        refine Wp.loop (σ := (Int) × (Bool) × (Int) × (Int) × (Bool) × (Mem)) (fun s a w => match s with | (at55, ok56, i57, c58, c59, M60) => MX M60 M E ∧ Sx 233 E (blk [⟨b1, 104, [(.slice ra2 rl3 rc4), (.string (mkS r5)), (iv r6), (.bool r7)]⟩] []) M60 w a [(0, (pt b1 0)), (2, (iv at55)), (4, (pt b14 0)), (8, (.bool ok56)), (9, (iv i57))] [⟨b14, 109, e8.cells⟩, ⟨b1, 104, [(.slice ra2 rl3 rc4), (.string (mkS r5)), (iv c58), (.bool c59)]⟩] [] ∧ I61 at55 ok56 i57 c58 c59 M60) (fun s => match s with | (at55, ok56, i57, c58, c59, M60) => mu62 at55 ok56 i57 c58 c59) (at9, true, 0, r6 - 1, c15, M) ⟨hMM, (hs.wk ⟨rfl, rfl, rfl, rfl, rfl, trivial⟩), hI0⟩ (fun s a w hI => ?_)
        obtain ⟨at55, ok56, i57, c58, c59, M60⟩ := s
        obtain ⟨hMM, hs, hI⟩ := hI
        have hS := hst at55 ok56 i57 c58 c59 M60 hI
        clear hst hI0 hI
        refine Wp.seq (Wp.join (fun a w => ∃ (x63 : Bool), Sx 233 E (blk [⟨b1, 104, [(.slice ra2 rl3 rc4), (.string (mkS r5)), (iv r6), (.bool r7)]⟩] []) M60 w a [(0, (pt b1 0)), (2, (iv at55)), (4, (pt b14 0)), (8, (.bool ok56)), (9, (iv i57)), (112, (.bool x63))] [⟨b14, 109, e8.cells⟩, ⟨b1, 104, [(.slice ra2 rl3 rc4), (.string (mkS r5)), (iv c58), (.bool c59)]⟩] [] ∧ (S_mean_runner_run_J2 ra2 rl3 rc4 r5 e8 at55 ok56 i57 c58 c59 M60 I61 mu62 x63 K)) ?_ ?_)
        ·refine Wp.region (sP (iv i57) hs fun _ hs => ?_)
         refine sP (pt b14 6) hs fun _ hs => ?_
         refine sY (.slice e8.Kids_a e8.Kids_l e8.Kids_c) hs (Yl.lB [(.slice e8.Kids_a e8.Kids_l e8.Kids_c)] false 0) fun _ hs => ?_
         refine sP (iv ((e8.Kids_l : Nat) : Int)) hs fun _ hs => ?_
         refine sP (.bool (decide (i57 < ((e8.Kids_l : Nat) : Int)))) hs fun _ hs => ?_
         refine sP (.bool (decide (i57 < ((e8.Kids_l : Nat) : Int)))) hs fun _ hs => ?_
         refine bsplit (decide (i57 < ((e8.Kids_l : Nat) : Int))) decide_eq_true_iff (fun hb hc => ?_) (fun hb hc => ?_)
         ·have hs := hs.bt hb
          have hS := hS.1 hc
          refine sYe hs (sP (.bool ok56) hs fun _ hs => ?_)
          refine sP (.bool ok56) hs fun _ hs => ?_
          exact wpList_nil (⟨ok56, (hs.wk ⟨rfl, rfl, rfl, rfl, rfl, rfl, trivial⟩), hS⟩)
         ·have hs := hs.bf hb
          have hS := hS.2 hc
          refine sNo hs fun _ hs => ?_
          refine sP (.bool false) hs fun _ hs => ?_
          exact wpList_nil (⟨false, (hs.wk ⟨rfl, rfl, rfl, rfl, rfl, rfl, trivial⟩), hS⟩)
        ·intro a w hJ
         obtain ⟨x63, hs, hS⟩ := hJ
         unfold S_mean_runner_run_J2 at hS
         refine Wp.cond hs rfl rfl Iff.rfl (fun hc => ?_) (fun hc => ?_)
         ·have hS := hS.1 hc
          refine Wp.skip (Wp.seq (Wp.block (Wp.region (sP (pt b1 0) hs fun _ hs => ?_))))
          refine sP (pt b14 6) hs fun _ hs => ?_
          refine sY (.slice e8.Kids_a e8.Kids_l e8.Kids_c) hs (Yl.lB [(.slice e8.Kids_a e8.Kids_l e8.Kids_c)] false 0) fun _ hs => ?_
          refine sP (iv i57) hs fun _ hs => ?_
          obtain ⟨b64, o65, ha, h0, hl, hS⟩ := hS
          refine sY (.pointer (some ⟨b64, o65 + i57.toNat * 7, none⟩)) hs (Yl.indexS (e := 109) (sz := 7) rfl rfl rfl rfl (by kernel_rfl) (by kernel_rfl) ha h0 hl) fun _ hs => ?_
          obtain ⟨x66, hat, hS⟩ := hS
          refine sY x66.val hs (Yl.loadV (vs := x66.cells) true rfl rfl (by kernel_rfl) hat) fun _ hs => ?_
          refine sP (iv at55) hs fun _ hs => ?_
          replace hs := hs.bfront 1 rfl rfl
          refine stepCallL [(pt b1 0), x66.val, (iv at55)] [⟨b1, 104, [(.slice ra2 rl3 rc4), (.string (mkS r5)), (iv c58), (.bool c59)]⟩] [⟨b14, 109, e8.cells⟩] [] [] true hs rfl rfl rfl rfl ⟨_, rfl, rfl⟩ rfl Try.func52 rfl (by kernel_rfl) (by decide) (hS _) (fun _ _ M69 v lb lr hle hnew hS hs => ?_)
          have hMM := hMM.next hle hnew
          obtain ⟨c70, c71, hlb, hlr, hS⟩ := hS
          subst hlb hlr
          obtain ⟨x67, x68, hv, hS⟩ := hS
          subst hv
          replace hs := hs.chbx (bs' := [⟨b1, 104, [(.slice ra2 rl3 rc4), (.string (mkS r5)), (iv c70), (.bool c71)]⟩, ⟨b14, 109, e8.cells⟩]) rfl
          replace hs := hs.chrs (rs' := []) rfl
          replace hs := hs.bback 1 (l' := [⟨b14, 109, e8.cells⟩, ⟨b1, 104, [(.slice ra2 rl3 rc4), (.string (mkS r5)), (iv c70), (.bool c71)]⟩]) rfl
          refine sP (Value.tuple #[(iv x67), (.bool x68)]) hs fun _ hs => ?_
          refine sP (iv x67) hs fun _ hs => ?_
          refine sP (.bool x68) hs fun _ hs => ?_
          refine sP (iv x67) hs fun _ hs => ?_
          refine sP (.bool x68) hs fun _ hs => ?_
          refine wpList_nil (Wp.region (sP (iv i57) hs fun _ hs => ?_))
          obtain ⟨hI, hS⟩ := hS
          refine sY (iv (i57 + 1)) hs (Yl.eq (Yl.pure (v := Value.int .i64 (IntKind.wrap .i64 (i57 + 1))) rfl (fun _ => by kernel_rfl)) (congrArg (Value.int .i64) (wrap_in hI))) fun _ hs => ?_
          refine sP (iv (i57 + 1)) hs fun _ hs => ?_
          exact wpList_nil (⟨(x67, x68, i57 + 1, c70, c71, M69), ⟨hMM, (hs.wk ⟨rfl, rfl, rfl, rfl, rfl, trivial⟩), hS.1⟩, hS.2⟩)
         ·have hS := hS.2 hc
          refine Wp.exit rfl (Wp.seq (Wp.region (sP (iv at55) hs fun _ hs => ?_)))
          refine sP (.bool ok56) hs fun _ hs => ?_
          refine sP (iv at55) hs fun _ hs => ?_
          refine sP (.bool ok56) hs fun _ hs => ?_
          refine wpList_nil (Wp.ret ?_)
          replace hs := hs.bfront 1 rfl rfl
          exact leaveL hs (resTT hs rfl rfl rfl) hMM.1 hMM.2 [⟨b1, 104, [(.slice ra2 rl3 rc4), (.string (mkS r5)), (iv c58), (.bool c59)]⟩] [] (.cons_cons _ (.cons _ List.Sublist.slnil)) (List.Sublist.refl _) rfl ⟨c58, c59, rfl, rfl, hS⟩
       ·have hS := hS.2 hc
        refine Wp.seq (Wp.region (sP (.bool ((e8.Kind : Int) == (6 : Int))) hs fun _ hs => ?_))
        refine sP (.bool ((e8.Kind : Int) == (6 : Int))) hs fun _ hs => ?_
        refine wpList_nil (Wp.cond hs rfl rfl beq_iff_eq (fun hc => ?_) (fun hc => ?_))
        ·have hS := hS.1 hc
         refine Wp.seq (Wp.seq (Wp.region (sP (pt b14 6) hs fun _ hs => ?_)))
         refine sY (.slice e8.Kids_a e8.Kids_l e8.Kids_c) hs (Yl.lB [(.slice e8.Kids_a e8.Kids_l e8.Kids_c)] false 0) fun _ hs => ?_
         refine sP (iv ((e8.Kids_l : Nat) : Int)) hs fun _ hs => ?_
         refine sP (iv 0) hs fun _ hs => ?_
         refine wpList_nil (Wp.block ?_)
         obtain ⟨I101, mu102, hI0, hst⟩ := hS
         refine Wp.loop (σ := (Int) × (Int) × (Bool) × (Mem)) (fun s a w => match s with | (x97, c98, c99, M100) => MX M100 M E ∧ Sx 233 E (blk [⟨b1, 104, [(.slice ra2 rl3 rc4), (.string (mkS r5)), (iv r6), (.bool r7)]⟩] []) M100 w a [(0, (pt b1 0)), (2, (iv at9)), (131, (.slice e8.Kids_a e8.Kids_l e8.Kids_c)), (132, (iv ((e8.Kids_l : Nat) : Int))), (133, (iv x97))] [⟨b14, 109, e8.cells⟩, ⟨b1, 104, [(.slice ra2 rl3 rc4), (.string (mkS r5)), (iv c98), (.bool c99)]⟩] [] ∧ I101 x97 c98 c99 M100) (fun s => match s with | (x97, c98, c99, M100) => mu102 x97 c98 c99) (0, r6 - 1, c15, M) ⟨hMM, (hs.wk ⟨rfl, rfl, rfl, rfl, rfl, trivial⟩), hI0⟩ (fun s a w hI => ?_)
         obtain ⟨x97, c98, c99, M100⟩ := s
         obtain ⟨hMM, hs, hI⟩ := hI
         have hS := hst x97 c98 c99 M100 hI
         clear hst hI0 hI
         refine Wp.seq (Wp.region (sP (.bool (decide (x97 < ((e8.Kids_l : Nat) : Int)))) hs fun _ hs => ?_))
         refine wpList_nil (Wp.seq (Wp.cond hs rfl rfl decide_eq_true_iff (fun hc => ?_) (fun hc => ?_)))
         ·have hS := hS.1 hc
          refine Wp.skip (Wp.seq (Wp.block (Wp.seq (Wp.region ?_))))
          obtain ⟨b103, o104, ha, h0, hl, hS⟩ := hS
          refine sY (.pointer (some ⟨b103, o104 + x97.toNat * 7, none⟩)) hs (Yl.indexS (e := 109) (sz := 7) rfl rfl rfl rfl (by kernel_rfl) (by kernel_rfl) ha h0 hl) fun _ hs => ?_
          obtain ⟨x105, hat, hS⟩ := hS
          refine sY x105.val hs (Yl.loadV (vs := x105.cells) true rfl rfl (by kernel_rfl) hat) fun _ hs => ?_
          refine stepAlloc [(iv 0), (.int .u64 0), (.int .u64 0), (.int .u64 0), (.int .u64 0), (.string (mkS [])), (.slice none 0 0)] hs (by kernel_rfl) (by decide) (fun _ _ b106 hEb106 hs => ?_)
          have hs := hs.nilrow 109 7
          refine stB 0 x105.cells [⟨b106, 109, x105.cells⟩, ⟨b14, 109, e8.cells⟩, ⟨b1, 104, [(.slice ra2 rl3 rc4), (.string (mkS r5)), (iv c98), (.bool c99)]⟩] hs fun _ _ hs => ?_
          refine wpList_nil (Wp.seq (Wp.region (sP (pt b1 0) hs fun _ hs => ?_)))
          refine sY x105.val hs (Yl.lB x105.cells true 0) fun _ hs => ?_
          refine sP (iv at9) hs fun _ hs => ?_
          replace hs := hs.bfront 2 rfl rfl
          refine stepCallL [(pt b1 0), x105.val, (iv at9)] [⟨b1, 104, [(.slice ra2 rl3 rc4), (.string (mkS r5)), (iv c98), (.bool c99)]⟩] [⟨b106, 109, x105.cells⟩, ⟨b14, 109, e8.cells⟩] [] [⟨(Value.slice none 0 0), 109, 7, 0, [], true⟩] true hs rfl rfl rfl rfl ⟨_, rfl, rfl⟩ rfl Try.func52 rfl (by kernel_rfl) (by decide) (hS _) (fun _ _ M109 v lb lr hle hnew hS hs => ?_)
          have hMM := hMM.next hle hnew
          obtain ⟨c110, c111, hlb, hlr, hS⟩ := hS
          subst hlb hlr
          obtain ⟨x107, x108, hv, hS⟩ := hS
          subst hv
          replace hs := hs.chbx (bs' := [⟨b1, 104, [(.slice ra2 rl3 rc4), (.string (mkS r5)), (iv c110), (.bool c111)]⟩, ⟨b106, 109, x105.cells⟩, ⟨b14, 109, e8.cells⟩]) rfl
          replace hs := hs.chrs (rs' := [⟨(Value.slice none 0 0), 109, 7, 0, [], true⟩]) rfl
          replace hs := hs.bback 2 (l' := [⟨b106, 109, x105.cells⟩, ⟨b14, 109, e8.cells⟩, ⟨b1, 104, [(.slice ra2 rl3 rc4), (.string (mkS r5)), (iv c110), (.bool c111)]⟩]) rfl
          refine sP (Value.tuple #[(iv x107), (.bool x108)]) hs fun _ hs => ?_
          refine sP (iv x107) hs fun _ hs => ?_
          refine sP (.bool x108) hs fun _ hs => ?_
          refine sP (iv x107) hs fun _ hs => ?_
          refine sP (.bool x108) hs fun _ hs => ?_
          refine wpList_nil (Wp.join (fun a w => ∃ (x112 : Bool), Sx 233 E (blk [⟨b1, 104, [(.slice ra2 rl3 rc4), (.string (mkS r5)), (iv r6), (.bool r7)]⟩] []) M109 w a [(0, (pt b1 0)), (2, (iv at9)), (12, (iv x107)), (13, (.bool x108)), (131, (.slice e8.Kids_a e8.Kids_l e8.Kids_c)), (132, (iv ((e8.Kids_l : Nat) : Int))), (133, (iv x97)), (150, (.bool x112))] [⟨b106, 109, x105.cells⟩, ⟨b14, 109, e8.cells⟩, ⟨b1, 104, [(.slice ra2 rl3 rc4), (.string (mkS r5)), (iv c110), (.bool c111)]⟩] [] ∧ (S_mean_runner_run_J3 x97 c98 c99 I101 mu102 x107 x108 M109 c110 c111 x112 K)) ?_ ?_)
          ·refine Wp.region (sP (.bool x108) hs fun _ hs => ?_)
           refine sP (.bool x108) hs fun _ hs => ?_
           refine bsplit x108 Iff.rfl (fun hb hc => ?_) (fun hb hc => ?_)
           ·have hs := hs.bt hb
            have hS := hS.1 hc
            refine sNo hs fun _ hs => ?_
            refine sNo hs fun _ hs => ?_
            refine sNo hs fun _ hs => ?_
            refine sNo hs fun _ hs => ?_
            refine sP (.bool true) hs fun _ hs => ?_
            exact wpList_nil (⟨true, (hs.weak (List.Sublist.refl _) (.cons _ List.Sublist.slnil) ⟨rfl, rfl, rfl, rfl, rfl, rfl, rfl, rfl, trivial⟩), hS⟩)
           ·have hs := hs.bf hb
            have hS := hS.2 hc
            refine sYe hs (sP (pt b1 0) hs fun _ hs => ?_)
            refine sYe hs (sP (pt b1 0) hs fun _ hs => ?_)
            refine sYe hs (sP (pt b1 3) hs fun _ hs => ?_)
            refine sYe hs (sY (.bool c111) hs (Yl.lB [(.bool c111)] false 2) fun _ hs => ?_)
            refine sP (.bool c111) hs fun _ hs => ?_
            exact wpList_nil (⟨c111, (hs.weak (List.Sublist.refl _) (.cons _ List.Sublist.slnil) ⟨rfl, rfl, rfl, rfl, rfl, rfl, rfl, rfl, trivial⟩), hS⟩)
          ·intro a w hJ
           obtain ⟨x112, hs, hS⟩ := hJ
           unfold S_mean_runner_run_J3 at hS
           refine Wp.cond hs rfl rfl Iff.rfl (fun hc => ?_) (fun hc => ?_)
           ·have hS := hS.1 hc
            refine Wp.seq (Wp.region (sP (iv x107) hs fun _ hs => ?_))
            refine sP (.bool x108) hs fun _ hs => ?_
            refine sP (iv x107) hs fun _ hs => ?_
            refine sP (.bool x108) hs fun _ hs => ?_
            refine wpList_nil (Wp.ret ?_)
            replace hs := hs.bfront 2 rfl rfl
            exact leaveL hs (resTT hs rfl rfl rfl) hMM.1 hMM.2 [⟨b1, 104, [(.slice ra2 rl3 rc4), (.string (mkS r5)), (iv c110), (.bool c111)]⟩] [] (.cons_cons _ (.cons _ (.cons _ List.Sublist.slnil))) (List.Sublist.refl _) rfl ⟨c110, c111, rfl, rfl, hS⟩
           ·have hS := hS.2 hc
            refine Wp.skip (Wp.region ?_)
            obtain ⟨hI, hS⟩ := hS
            refine sY (iv (x97 + 1)) hs (Yl.eq (Yl.pure (v := Value.int .i64 (IntKind.wrap .i64 (x97 + 1))) rfl (fun _ => by kernel_rfl)) (congrArg (Value.int .i64) (wrap_in hI))) fun _ hs => ?_
            refine sP (iv (x97 + 1)) hs fun _ hs => ?_
            exact wpList_nil (⟨(x97 + 1, c110, c111, M109), ⟨hMM, (hs.weak (.cons _ (.cons_cons _ (.cons_cons _ List.Sublist.slnil))) (List.Sublist.refl _) ⟨rfl, rfl, rfl, rfl, rfl, trivial⟩), hS.1⟩, hS.2⟩)
         ·have hS := hS.2 hc
          refine Wp.exit rfl (Wp.seq (Wp.region (sP (iv 0) hs fun _ hs => ?_)))
          refine sP (.bool false) hs fun _ hs => ?_
          refine wpList_nil (Wp.ret ?_)
          replace hs := hs.bfront 1 rfl rfl
          exact leaveL hs (resTT hs rfl rfl rfl) hMM.1 hMM.2 [⟨b1, 104, [(.slice ra2 rl3 rc4), (.string (mkS r5)), (iv c98), (.bool c99)]⟩] [] (.cons_cons _ (.cons _ List.Sublist.slnil)) (List.Sublist.refl _) rfl ⟨c98, c99, rfl, rfl, hS⟩
        ·have hS := hS.2 hc
         refine Wp.seq (Wp.region (sP (.bool ((e8.Kind : Int) == (8 : Int))) hs fun _ hs => ?_))
         refine sP (.bool ((e8.Kind : Int) == (8 : Int))) hs fun _ hs => ?_
         refine wpList_nil (Wp.cond hs rfl rfl beq_iff_eq (fun hc => ?_) (fun hc => ?_))
         ·have hS := hS.1 hc
          refine Wp.seq (Wp.region (sP (pt b1 0) hs fun _ hs => ?_))
          refine sP (pt b14 6) hs fun _ hs => ?_
          refine sY (.slice e8.Kids_a e8.Kids_l e8.Kids_c) hs (Yl.lB [(.slice e8.Kids_a e8.Kids_l e8.Kids_c)] false 0) fun _ hs => ?_
          obtain ⟨b113, o114, ha, h0, hl, hS⟩ := hS
          refine sY (.pointer (some ⟨b113, o114 + (0 : Int).toNat * 7, none⟩)) hs (Yl.indexS (e := 109) (sz := 7) rfl rfl rfl rfl (by kernel_rfl) (by kernel_rfl) ha h0 hl) fun _ hs => ?_
          obtain ⟨x115, hat, hS⟩ := hS
          refine sY x115.val hs (Yl.loadV (vs := x115.cells) true rfl rfl (by kernel_rfl) hat) fun _ hs => ?_
          refine sP (iv at9) hs fun _ hs => ?_
          replace hs := hs.bfront 1 rfl rfl
          refine stepCallL [(pt b1 0), x115.val, (iv at9)] [⟨b1, 104, [(.slice ra2 rl3 rc4), (.string (mkS r5)), (iv (r6 - 1)), (.bool c15)]⟩] [⟨b14, 109, e8.cells⟩] [] [] true hs rfl rfl rfl rfl ⟨_, rfl, rfl⟩ rfl Try.func52 rfl (by kernel_rfl) (by decide) (hS _) (fun _ _ M118 v lb lr hle hnew hS hs => ?_)
          have hMM := hMM.next hle hnew
          obtain ⟨c119, c120, hlb, hlr, hS⟩ := hS
          subst hlb hlr
          obtain ⟨x116, x117, hv, hS⟩ := hS
          subst hv
          replace hs := hs.chbx (bs' := [⟨b1, 104, [(.slice ra2 rl3 rc4), (.string (mkS r5)), (iv c119), (.bool c120)]⟩, ⟨b14, 109, e8.cells⟩]) rfl
          replace hs := hs.chrs (rs' := []) rfl
          replace hs := hs.bback 1 (l' := [⟨b14, 109, e8.cells⟩, ⟨b1, 104, [(.slice ra2 rl3 rc4), (.string (mkS r5)), (iv c119), (.bool c120)]⟩]) rfl
          refine sP (Value.tuple #[(iv x116), (.bool x117)]) hs fun _ hs => ?_
          refine sP (iv x116) hs fun _ hs => ?_
          refine sP (.bool x117) hs fun _ hs => ?_
          refine sP (iv x116) hs fun _ hs => ?_
          refine sP (.bool x117) hs fun _ hs => ?_
          refine wpList_nil (Wp.seq (Wp.seq (Wp.region (sP (.bool x117) hs fun _ hs => ?_))))
          refine sP (.bool (!x117)) hs fun _ hs => ?_
          refine wpList_nil (Wp.cond hs rfl rfl (bnot_iff Iff.rfl) (fun hc => ?_) (fun hc => ?_))
          ·have hS := hS.1 hc
           refine Wp.seq (Wp.region (sP (iv 0) hs fun _ hs => ?_))
           refine sP (.bool false) hs fun _ hs => ?_
           refine wpList_nil (Wp.ret ?_)
           replace hs := hs.bfront 1 rfl rfl
           exact leaveL hs (resTT hs rfl rfl rfl) hMM.1 hMM.2 [⟨b1, 104, [(.slice ra2 rl3 rc4), (.string (mkS r5)), (iv c119), (.bool c120)]⟩] [] (.cons_cons _ (.cons _ List.Sublist.slnil)) (List.Sublist.refl _) rfl ⟨c119, c120, rfl, rfl, hS⟩
          ·have hS := hS.2 hc
           refine Wp.skip (Wp.seq (Wp.region (sP (pt b1 0) hs fun _ hs => ?_)))
           refine sP (pt b14 6) hs fun _ hs => ?_
           refine sY (.slice e8.Kids_a e8.Kids_l e8.Kids_c) hs (Yl.lB [(.slice e8.Kids_a e8.Kids_l e8.Kids_c)] false 0) fun _ hs => ?_
           obtain ⟨b121, o122, ha, h0, hl, hS⟩ := hS
           refine sY (.pointer (some ⟨b121, o122 + (0 : Int).toNat * 7, none⟩)) hs (Yl.indexS (e := 109) (sz := 7) rfl rfl rfl rfl (by kernel_rfl) (by kernel_rfl) ha h0 hl) fun _ hs => ?_
           obtain ⟨x123, hat, hS⟩ := hS
           refine sY x123.val hs (Yl.loadV (vs := x123.cells) true rfl rfl (by kernel_rfl) hat) fun _ hs => ?_
           refine sP (iv x116) hs fun _ hs => ?_
           replace hs := hs.bfront 1 rfl rfl
           refine stepCallL [(pt b1 0), x123.val, (iv x116)] [⟨b1, 104, [(.slice ra2 rl3 rc4), (.string (mkS r5)), (iv c119), (.bool c120)]⟩] [⟨b14, 109, e8.cells⟩] [] [] true hs rfl rfl rfl rfl ⟨_, rfl, rfl⟩ rfl Try.func99 rfl (by kernel_rfl) (by decide) (hS _) (fun _ _ M125 v lb lr hle hnew hS hs => ?_)
           have hMM := hMM.next hle hnew
           obtain ⟨c126, c127, hlb, hlr, hS⟩ := hS
           subst hlb hlr
           obtain ⟨x124, hv, hS⟩ := hS
           subst hv
           replace hs := hs.chbx (bs' := [⟨b1, 104, [(.slice ra2 rl3 rc4), (.string (mkS r5)), (iv c126), (.bool c127)]⟩, ⟨b14, 109, e8.cells⟩]) rfl
           replace hs := hs.chrs (rs' := []) rfl
           replace hs := hs.bback 1 (l' := [⟨b14, 109, e8.cells⟩, ⟨b1, 104, [(.slice ra2 rl3 rc4), (.string (mkS r5)), (iv c126), (.bool c127)]⟩]) rfl
           refine sP (iv x124) hs fun _ hs => ?_
           refine wpList_nil (Wp.seq (Wp.regionD [true, true, true, true, true, true, true, true] hs (by kernel_rfl) rfl [⟨b14, 109, e8.cells⟩, ⟨b1, 104, [(.slice ra2 rl3 rc4), (.string (mkS r5)), (iv c126), (.bool c127)]⟩] (fun _ h => h) [] (fun _ h => h) (fun _ hs hC => ?_)))
           have hL := Mem.le.refl M125
           refine dP (iv x124) 0 [6, 7] hs QZ.no (wanted_none rfl) fun _ hs => ?_
           refine dP (pt b1 0) 1 [2, 3, 4, 5, 7] hs QZ.no (wanted_none rfl) fun _ hs => ?_
           refine dP (pt b1 0) 2 [3, 4, 5, 7] hs QZ.no (wanted_none rfl) fun _ hs => ?_
           refine dP (pt b1 3) 3 [4, 5, 7] hs QZ.no (wanted_none rfl) fun _ hs => ?_
           refine stepDY (v := (.bool c127)) 4 [5, 7] hs hC QZ.no rfl (wanted_none rfl) rfl (by decide) (by kernel_rfl) (by kernel_rfl) (by kernel_rfl) (Yl.lB [(.bool c127)] false 1) (fun _ hs => ?_)
           refine dP (Value.bool (!c127)) 5 [7] hs QZ.no (wanted_none rfl) fun _ hs => ?_
           refine sE 6 ?_
           refine sP (iv x124) hs fun _ hs => ?_
           refine wpList_nil (⟨fun _ h => h, ?_⟩)
           refine sE 7 ?_
           refine sP (.bool (!c127)) hs fun _ hs => ?_
           refine wpList_nil (⟨fun _ h => h, ?_⟩)
           refine WpD.done (by kernel_rfl) ?_ _
           refine Wp.ret ?_
           replace hs := hs.bfront 1 rfl rfl
           exact leaveL hs (resTT hs rfl rfl rfl) hMM.1 hMM.2 [⟨b1, 104, [(.slice ra2 rl3 rc4), (.string (mkS r5)), (iv c126), (.bool c127)]⟩] [] (.cons_cons _ (.cons _ List.Sublist.slnil)) (List.Sublist.refl _) rfl ⟨c126, c127, rfl, rfl, hS⟩
         ·have hS := hS.2 hc
          refine Wp.seq (Wp.region (sP (.bool ((e8.Kind : Int) == (7 : Int))) hs fun _ hs => ?_))
          refine sP (.bool ((e8.Kind : Int) == (7 : Int))) hs fun _ hs => ?_
          refine wpList_nil (Wp.cond hs rfl rfl beq_iff_eq (fun hc => ?_) (fun hc => ?_))
          ·have hS := hS.1 hc
           refine Wp.seq (Wp.region (sP (pt b1 0) hs fun _ hs => ?_))
           refine sP (pt b14 6) hs fun _ hs => ?_
           refine sY (.slice e8.Kids_a e8.Kids_l e8.Kids_c) hs (Yl.lB [(.slice e8.Kids_a e8.Kids_l e8.Kids_c)] false 0) fun _ hs => ?_
           obtain ⟨b128, o129, ha, h0, hl, hS⟩ := hS
           refine sY (.pointer (some ⟨b128, o129 + (0 : Int).toNat * 7, none⟩)) hs (Yl.indexS (e := 109) (sz := 7) rfl rfl rfl rfl (by kernel_rfl) (by kernel_rfl) ha h0 hl) fun _ hs => ?_
           obtain ⟨x130, hat, hS⟩ := hS
           refine sY x130.val hs (Yl.loadV (vs := x130.cells) true rfl rfl (by kernel_rfl) hat) fun _ hs => ?_
           refine sP (iv at9) hs fun _ hs => ?_
           replace hs := hs.bfront 1 rfl rfl
           refine stepCallL [(pt b1 0), x130.val, (iv at9)] [⟨b1, 104, [(.slice ra2 rl3 rc4), (.string (mkS r5)), (iv (r6 - 1)), (.bool c15)]⟩] [⟨b14, 109, e8.cells⟩] [] [] true hs rfl rfl rfl rfl ⟨_, rfl, rfl⟩ rfl Try.func99 rfl (by kernel_rfl) (by decide) (hS _) (fun _ _ M132 v lb lr hle hnew hS hs => ?_)
           have hMM := hMM.next hle hnew
           obtain ⟨c133, c134, hlb, hlr, hS⟩ := hS
           subst hlb hlr
           obtain ⟨x131, hv, hS⟩ := hS
           subst hv
           replace hs := hs.chbx (bs' := [⟨b1, 104, [(.slice ra2 rl3 rc4), (.string (mkS r5)), (iv c133), (.bool c134)]⟩, ⟨b14, 109, e8.cells⟩]) rfl
           replace hs := hs.chrs (rs' := []) rfl
           replace hs := hs.bback 1 (l' := [⟨b14, 109, e8.cells⟩, ⟨b1, 104, [(.slice ra2 rl3 rc4), (.string (mkS r5)), (iv c133), (.bool c134)]⟩]) rfl
           refine sP (iv x131) hs fun _ hs => ?_
           refine wpList_nil (Wp.seq (Wp.regionD [true, true, true, true, true, true, true, true] hs (by kernel_rfl) rfl [⟨b14, 109, e8.cells⟩, ⟨b1, 104, [(.slice ra2 rl3 rc4), (.string (mkS r5)), (iv c133), (.bool c134)]⟩] (fun _ h => h) [] (fun _ h => h) (fun _ hs hC => ?_)))
           have hL := Mem.le.refl M132
           refine dP (iv x131) 0 [6, 7] hs QZ.no (wanted_none rfl) fun _ hs => ?_
           refine dP (pt b1 0) 1 [2, 3, 4, 5, 7] hs QZ.no (wanted_none rfl) fun _ hs => ?_
           refine dP (pt b1 0) 2 [3, 4, 5, 7] hs QZ.no (wanted_none rfl) fun _ hs => ?_
           refine dP (pt b1 3) 3 [4, 5, 7] hs QZ.no (wanted_none rfl) fun _ hs => ?_
           refine stepDY (v := (.bool c134)) 4 [5, 7] hs hC QZ.no rfl (wanted_none rfl) rfl (by decide) (by kernel_rfl) (by kernel_rfl) (by kernel_rfl) (Yl.lB [(.bool c134)] false 1) (fun _ hs => ?_)
           refine dP (Value.bool (!c134)) 5 [7] hs QZ.no (wanted_none rfl) fun _ hs => ?_
           refine sE 6 ?_
           refine sP (iv x131) hs fun _ hs => ?_
           refine wpList_nil (⟨fun _ h => h, ?_⟩)
           refine sE 7 ?_
           refine sP (.bool (!c134)) hs fun _ hs => ?_
           refine wpList_nil (⟨fun _ h => h, ?_⟩)
           refine WpD.done (by kernel_rfl) ?_ _
           refine Wp.ret ?_
           replace hs := hs.bfront 1 rfl rfl
           exact leaveL hs (resTT hs rfl rfl rfl) hMM.1 hMM.2 [⟨b1, 104, [(.slice ra2 rl3 rc4), (.string (mkS r5)), (iv c133), (.bool c134)]⟩] [] (.cons_cons _ (.cons _ List.Sublist.slnil)) (List.Sublist.refl _) rfl ⟨c133, c134, rfl, rfl, hS⟩
          ·have hS := hS.2 hc
           refine Wp.skip (Wp.seq (Wp.region (sP (pt b1 0) hs fun _ hs => ?_)))
           refine sP (pt b14 6) hs fun _ hs => ?_
           refine sY (.slice e8.Kids_a e8.Kids_l e8.Kids_c) hs (Yl.lB [(.slice e8.Kids_a e8.Kids_l e8.Kids_c)] false 0) fun _ hs => ?_
           obtain ⟨b135, o136, ha, h0, hl, hS⟩ := hS
           refine sY (.pointer (some ⟨b135, o136 + (0 : Int).toNat * 7, none⟩)) hs (Yl.indexS (e := 109) (sz := 7) rfl rfl rfl rfl (by kernel_rfl) (by kernel_rfl) ha h0 hl) fun _ hs => ?_
           obtain ⟨x137, hat, hS⟩ := hS
           refine sY x137.val hs (Yl.loadV (vs := x137.cells) true rfl rfl (by kernel_rfl) hat) fun _ hs => ?_
           refine sP (iv at9) hs fun _ hs => ?_
           replace hs := hs.bfront 1 rfl rfl
           refine stepCallL [(pt b1 0), x137.val, (iv at9)] [⟨b1, 104, [(.slice ra2 rl3 rc4), (.string (mkS r5)), (iv (r6 - 1)), (.bool c15)]⟩] [⟨b14, 109, e8.cells⟩] [] [] true hs rfl rfl rfl rfl ⟨_, rfl, rfl⟩ rfl Try.func52 rfl (by kernel_rfl) (by decide) (hS _) (fun _ _ M140 v lb lr hle hnew hS hs => ?_)
           have hMM := hMM.next hle hnew
           obtain ⟨c141, c142, hlb, hlr, hS⟩ := hS
           subst hlb hlr
           obtain ⟨x138, x139, hv, hS⟩ := hS
           subst hv
           replace hs := hs.chbx (bs' := [⟨b1, 104, [(.slice ra2 rl3 rc4), (.string (mkS r5)), (iv c141), (.bool c142)]⟩, ⟨b14, 109, e8.cells⟩]) rfl
           replace hs := hs.chrs (rs' := []) rfl
           replace hs := hs.bback 1 (l' := [⟨b14, 109, e8.cells⟩, ⟨b1, 104, [(.slice ra2 rl3 rc4), (.string (mkS r5)), (iv c141), (.bool c142)]⟩]) rfl
           refine sP (Value.tuple #[(iv x138), (.bool x139)]) hs fun _ hs => ?_
           refine sP (iv x138) hs fun _ hs => ?_
           refine sP (.bool x139) hs fun _ hs => ?_
           refine sP (iv x138) hs fun _ hs => ?_
           refine sP (.bool x139) hs fun _ hs => ?_
           refine wpList_nil (Wp.seq (Wp.seq (Wp.region (sP (pt b14 0) hs fun _ hs => ?_))))
           refine sY (iv e8.Kind) hs (Yl.lB [(iv e8.Kind)] false 0) fun _ hs => ?_
           refine wpList_nil (Wp.block (Wp.seq (Wp.region (sP (.bool ((e8.Kind : Int) == (10 : Int))) hs fun _ hs => ?_))))
           refine sP (.bool ((e8.Kind : Int) == (10 : Int))) hs fun _ hs => ?_
           refine wpList_nil (Wp.cond hs rfl rfl beq_iff_eq (fun hc => ?_) (fun hc => ?_))
           ·have hS := hS.1 hc
            refine Wp.seq (Wp.region (sP (iv at9) hs fun _ hs => ?_))
            refine sP (.bool x139) hs fun _ hs => ?_
            refine sP (iv at9) hs fun _ hs => ?_
            refine sP (.bool x139) hs fun _ hs => ?_
            refine wpList_nil (Wp.ret ?_)
            replace hs := hs.bfront 1 rfl rfl
            exact leaveL hs (resTT hs rfl rfl rfl) hMM.1 hMM.2 [⟨b1, 104, [(.slice ra2 rl3 rc4), (.string (mkS r5)), (iv c141), (.bool c142)]⟩] [] (.cons_cons _ (.cons _ List.Sublist.slnil)) (List.Sublist.refl _) rfl ⟨c141, c142, rfl, rfl, hS⟩
           ·have hS := hS.2 hc
            refine Wp.seq (Wp.region (sP (.bool ((e8.Kind : Int) == (11 : Int))) hs fun _ hs => ?_))
            refine sP (.bool ((e8.Kind : Int) == (11 : Int))) hs fun _ hs => ?_
            refine wpList_nil (Wp.cond hs rfl rfl beq_iff_eq (fun hc => ?_) (fun hc => ?_))
            ·have hS := hS.1 hc
             refine Wp.seq (Wp.regionD [true, true, true, true, true, true, true, true, true, true, true, true] hs (by kernel_rfl) rfl [⟨b14, 109, e8.cells⟩, ⟨b1, 104, [(.slice ra2 rl3 rc4), (.string (mkS r5)), (iv c141), (.bool c142)]⟩] (fun _ h => h) [] (fun _ h => h) (fun _ hs hC => ?_))
             have hL := Mem.le.refl M140
             refine dP (iv at9) 0 [10, 11] hs QZ.no (wanted_none rfl) fun _ hs => ?_
             refine sE 1 ?_
             refine sP (.bool x139) hs fun _ hs => ?_
             refine wpList_nil (⟨fun _ h => h, ?_⟩)
             refine sE 2 ?_
             refine sP (.bool (!x139)) hs fun _ hs => ?_
             refine wpList_nil (⟨fun _ h => h, ?_⟩)
             refine sE 3 ?_
             refine sP (.bool (!x139)) hs fun _ hs => ?_
             refine wpList_nil (⟨fun _ h => h, ?_⟩)
             refine bsplit (!x139) (bnot_iff Iff.rfl) (fun hb hc => ?_) (fun hb hc => ?_)
             ·have hs := hs.bt hb
              have hS := hS.1 hc
              refine dP (pt b1 0) 4 [5, 6, 7, 8, 9, 11] hs QZ.no (wanted_yes hs rfl rfl rfl) fun _ hs => ?_
              refine dP (pt b1 0) 5 [6, 7, 8, 9, 11] hs QZ.no (wanted_yes hs rfl rfl rfl) fun _ hs => ?_
              refine dP (pt b1 3) 6 [7, 8, 9, 11] hs QZ.no (wanted_yes hs rfl rfl rfl) fun _ hs => ?_
              refine stepDY (v := (.bool c142)) 7 [8, 9, 11] hs hC QZ.no rfl (wanted_yes hs rfl rfl rfl) rfl (by decide) (by kernel_rfl) (by kernel_rfl) (by kernel_rfl) (Yl.lB [(.bool c142)] false 1) (fun _ hs => ?_)
              refine dP (Value.bool (!c142)) 8 [9, 11] hs QZ.no (wanted_yes hs rfl rfl rfl) fun _ hs => ?_
              refine dP (Value.bool (!c142)) 9 [11] hs QZ.no (wanted_none rfl) fun _ hs => ?_
              refine sE 10 ?_
              refine sP (iv at9) hs fun _ hs => ?_
              refine wpList_nil (⟨fun _ h => h, ?_⟩)
              refine sE 11 ?_
              refine sP (.bool (!c142)) hs fun _ hs => ?_
              refine wpList_nil (⟨fun _ h => h, ?_⟩)
              refine WpD.done (by kernel_rfl) ?_ _
              refine Wp.ret ?_
              replace hs := hs.bfront 1 rfl rfl
              exact leaveL hs (resTT hs rfl rfl rfl) hMM.1 hMM.2 [⟨b1, 104, [(.slice ra2 rl3 rc4), (.string (mkS r5)), (iv c141), (.bool c142)]⟩] [] (.cons_cons _ (.cons _ List.Sublist.slnil)) (List.Sublist.refl _) rfl ⟨c141, c142, rfl, rfl, hS⟩
             ·have hs := hs.bf hb
              have hS := hS.2 hc
              refine dN 4 [5, 6, 7, 8, 9, 11] hs QZ.no (wanted_no hs rfl rfl rfl rfl) fun _ hs => ?_
              refine dN 5 [6, 7, 8, 9, 11] hs QZ.no (wanted_no hs rfl rfl rfl rfl) fun _ hs => ?_
              refine dN 6 [7, 8, 9, 11] hs QZ.no (wanted_no hs rfl rfl rfl rfl) fun _ hs => ?_
              refine dN 7 [8, 9, 11] hs QZ.no (wanted_no hs rfl rfl rfl rfl) fun _ hs => ?_
              refine dN 8 [9, 11] hs QZ.no (wanted_no hs rfl rfl rfl rfl) fun _ hs => ?_
              refine dP (Value.bool false) 9 [11] hs QZ.no (wanted_none rfl) fun _ hs => ?_
              refine sE 10 ?_
              refine sP (iv at9) hs fun _ hs => ?_
              refine wpList_nil (⟨fun _ h => h, ?_⟩)
              refine sE 11 ?_
              refine sP (.bool false) hs fun _ hs => ?_
              refine wpList_nil (⟨fun _ h => h, ?_⟩)
              refine WpD.done (by kernel_rfl) ?_ _
              refine Wp.ret ?_
              replace hs := hs.bfront 1 rfl rfl
              exact leaveL hs (resTT hs rfl rfl rfl) hMM.1 hMM.2 [⟨b1, 104, [(.slice ra2 rl3 rc4), (.string (mkS r5)), (iv c141), (.bool c142)]⟩] [] (.cons_cons _ (.cons _ List.Sublist.slnil)) (List.Sublist.refl _) rfl ⟨c141, c142, rfl, rfl, hS⟩
            ·have hS := hS.2 hc
             refine Wp.skip (Wp.join (fun a w => ∃ (to143 : Int), Sx 233 E (blk [⟨b1, 104, [(.slice ra2 rl3 rc4), (.string (mkS r5)), (iv r6), (.bool r7)]⟩] []) M140 w a [(0, (pt b1 0)), (17, (iv to143))] [⟨b14, 109, e8.cells⟩, ⟨b1, 104, [(.slice ra2 rl3 rc4), (.string (mkS r5)), (iv c141), (.bool c142)]⟩] [] ∧ (S_mean_runner_run_J4 M140 c141 c142 to143 K)) ?_ ?_)
             ·refine Wp.seq (Wp.region (sP (.bool x139) hs fun _ hs => ?_))
              refine sP (.bool (!x139)) hs fun _ hs => ?_
              refine wpList_nil (Wp.cond hs rfl rfl (bnot_iff Iff.rfl) (fun hc => ?_) (fun hc => ?_))
              ·have hS := hS.1 hc
               refine Wp.region (sP (iv at9) hs fun _ hs => ?_)
               refine sP (iv at9) hs fun _ hs => ?_
               exact wpList_nil (⟨at9, (hs.wk ⟨rfl, rfl, trivial⟩), hS⟩)
              ·have hS := hS.2 hc
               exact Wp.skip (⟨x138, (hs.wk ⟨rfl, rfl, trivial⟩), hS⟩)
             ·intro a w hJ
              obtain ⟨to143, hs, hS⟩ := hJ
              unfold S_mean_runner_run_J4 at hS
              refine Wp.seq (Wp.regionD [true, true, true, true, true, true, true, true] hs (by kernel_rfl) rfl [⟨b14, 109, e8.cells⟩, ⟨b1, 104, [(.slice ra2 rl3 rc4), (.string (mkS r5)), (iv c141), (.bool c142)]⟩] (fun _ h => h) [] (fun _ h => h) (fun _ hs hC => ?_))
              have hL := Mem.le.refl M140
              refine dP (iv to143) 0 [6, 7] hs QZ.no (wanted_none rfl) fun _ hs => ?_
              refine dP (pt b1 0) 1 [2, 3, 4, 5, 7] hs QZ.no (wanted_none rfl) fun _ hs => ?_
              refine dP (pt b1 0) 2 [3, 4, 5, 7] hs QZ.no (wanted_none rfl) fun _ hs => ?_
              refine dP (pt b1 3) 3 [4, 5, 7] hs QZ.no (wanted_none rfl) fun _ hs => ?_
              refine stepDY (v := (.bool c142)) 4 [5, 7] hs hC QZ.no rfl (wanted_none rfl) rfl (by decide) (by kernel_rfl) (by kernel_rfl) (by kernel_rfl) (Yl.lB [(.bool c142)] false 1) (fun _ hs => ?_)
              refine dP (Value.bool (!c142)) 5 [7] hs QZ.no (wanted_none rfl) fun _ hs => ?_
              refine sE 6 ?_
              refine sP (iv to143) hs fun _ hs => ?_
              refine wpList_nil (⟨fun _ h => h, ?_⟩)
              refine sE 7 ?_
              refine sP (.bool (!c142)) hs fun _ hs => ?_
              refine wpList_nil (⟨fun _ h => h, ?_⟩)
              refine WpD.done (by kernel_rfl) ?_ _
              refine Wp.ret ?_
              replace hs := hs.bfront 1 rfl rfl
              exact leaveL hs (resTT hs rfl rfl rfl) hMM.1 hMM.2 [⟨b1, 104, [(.slice ra2 rl3 rc4), (.string (mkS r5)), (iv c141), (.bool c142)]⟩] [] (.cons_cons _ (.cons _ List.Sublist.slnil)) (List.Sublist.refl _) rfl ⟨c141, c142, rfl, rfl, hS⟩
def S_mean_Run_J2 (steps5 : Int) (x15 : Bool) (M16 : Mem) (c17 : Int) (to19 : Int) (K : Value → Mem → Prop) : Prop :=
 (InI (steps5 - c17) ∧ (∀ M', M16.le M' → K (Value.tuple #[(X_api_Outcome.mk x15 to19).val, (.int .i64 (steps5 - c17)), (.int .i64 0)]) M'))
def S_mean_Run_J1 (ga1 : Option Addr) (gl2 : Nat) (gc3 : Nat) (s4 : List UInt8) (steps5 : Int) (M : Mem) (x9 : Bool) (K : Value → Mem → Prop) : Prop :=
 ((x9 = true → (∀ M', M.le M' → K (Value.tuple #[(X_api_Outcome.mk false 0).val, (.int .i64 0), (.int .i64 1)]) M')) ∧ (¬ (x9 = true) → (∃ (b11 o12 : Nat), ga1 = some ⟨b11, o12, none⟩ ∧ (0 : Int) ≤ 0 ∧ 0 < ((gl2 : Nat) : Int) ∧ (∃ (x13 : X_api_Expr), At M b11 (o12 + (0 : Int).toNat * 8 + 1) x13.cells ∧ (C_mean_runner_run x13 0 ga1 gl2 gc3 s4 steps5 false M (fun v c17 c18 M16 => ∃ (x14 : Int) (x15 : Bool), v = (Value.tuple #[(.int .i64 x14), (.bool x15)]) ∧ ((c18 = true → (∀ M', M16.le M' → K (Value.tuple #[(X_api_Outcome.mk false 0).val, (.int .i64 0), (.int .i64 10)]) M')) ∧ (¬ (c18 = true) → ((¬ (x15 = true) → (S_mean_Run_J2 steps5 x15 M16 c17 0 K)) ∧ (¬ (¬ (x15 = true)) → (S_mean_Run_J2 steps5 x15 M16 c17 x14 K)))))))))))
def S_mean_Run (ga1 : Option Addr) (gl2 : Nat) (gc3 : Nat) (s4 : List UInt8) (steps5 : Int) (M : Mem) (L : Nat → Prop) (K : Value → Mem → Prop) : Prop :=
 (CallE Try.prog 51 #[(.agg #[(.slice ga1 gl2 gc3)]), (.string (mkS s4))] M (fun v _ => ∃ (x8 : Int), v = (Value.int .i64 x8) ∧ (((x8 : Int) ≠ 0 → (∀ M', M.le M' → K (Value.tuple #[(X_api_Outcome.mk false 0).val, (.int .i64 0), (.int .i64 x8)]) M')) ∧ (¬ ((x8 : Int) ≠ 0) → ((steps5 < 0 → (S_mean_Run_J1 ga1 gl2 gc3 s4 steps5 M true K)) ∧ (¬ (steps5 < 0) → (S_mean_Run_J1 ga1 gl2 gc3 s4 steps5 M (decide (steps5 > 1048576)) K)))))))
set_option maxRecDepth 100000 in
theorem s_mean_Run (ga1 : Option Addr) (gl2 : Nat) (gc3 : Nat) (s4 : List UInt8) (steps5 : Int) (M : Mem) (L : Nat → Prop) (K : Value → Mem → Prop) (hS : S_mean_Run ga1 gl2 gc3 s4 steps5 M L K) : CallW Try.prog 15 #[(Value.agg #[(Value.slice ga1 gl2 gc3)]), (Value.string (mkS s4)), (Value.int .i64 steps5)] M L K := by
 refine enterW Try.func15 rfl 52 rfl (Nat.le_of_ble_eq_true rfl) (fun E a hs => ?_)
 unfold S_mean_Run at hS
 have hMM := WX.refl M E
 change Sx 52 E (bwW E M L) M E a [(0, (.agg #[(.slice ga1 gl2 gc3)])), (1, (.string (mkS s4))), (2, (iv steps5))] [] [] at hs
 refine Wp.seq (Wp.region (stepBox [(.slice ga1 gl2 gc3)] hs rfl rfl rfl (by decide) (fun _ _ b6 hEb6 hs => ?_)))
 refine stepAlloc [(.bool false), (iv 0)] hs (by kernel_rfl) (by decide) (fun _ _ b7 hEb7 hs => ?_)
 refine sP (iv 0) hs fun _ hs => ?_
 refine sP (iv 0) hs fun _ hs => ?_
 refine wpList_nil (Wp.seq (Wp.seq (Wp.region (sY (.agg #[(.slice ga1 gl2 gc3)]) hs (Yl.lB [(.slice ga1 gl2 gc3)] true 1) fun _ hs => ?_))))
 refine sP (.string (mkS s4)) hs fun _ hs => ?_
 refine stepCallP [(.agg #[(.slice ga1 gl2 gc3)]), (.string (mkS s4))] hs rfl ⟨_, rfl, rfl⟩ rfl Try.func51 rfl (by kernel_rfl) (by decide) hS (fun _ _ v hS hs => ?_)
 obtain ⟨x8, hv, hS⟩ := hS
 subst hv
 refine sP (iv x8) hs fun _ hs => ?_
 refine wpList_nil (Wp.seq (Wp.region (sP (iv x8) hs fun _ hs => ?_)))
 refine sP (.bool ((x8 : Int) != (0 : Int))) hs fun _ hs => ?_
 refine wpList_nil (Wp.cond hs rfl rfl bne_iff_ne (fun hc => ?_) (fun hc => ?_))
 ·have hS := hS.1 hc
  refine Wp.seq (Wp.region (sP (X_api_Outcome.mk false 0).val hs fun _ hs => ?_))
  refine sP (iv x8) hs fun _ hs => ?_
  refine stB 0 [(.bool false), (iv 0)] [⟨b7, 26, [(.bool false), (iv 0)]⟩, ⟨b6, 24, [(.slice ga1 gl2 gc3)]⟩] hs fun _ _ hs => ?_
  refine sP (iv 0) hs fun _ hs => ?_
  refine sP (iv x8) hs fun _ hs => ?_
  exact wpList_nil (Wp.ret (leaveW (K := K) hs (resCTT (vs := [(.bool false), (iv 0)]) true 0 hs rfl rfl rfl (by kernel_rfl) rfl rfl rfl) hMM hS))
 ·have hS := hS.2 hc
  refine Wp.skip (Wp.seq (Wp.join (fun a w => ∃ (x9 : Bool), Sx 52 E (bwW E M L) M w a [(1, (.string (mkS s4))), (2, (iv steps5)), (3, (pt b6 0)), (6, (pt b7 0)), (25, (.bool x9))] [⟨b7, 26, [(.bool false), (iv 0)]⟩, ⟨b6, 24, [(.slice ga1 gl2 gc3)]⟩] [] ∧ (S_mean_Run_J1 ga1 gl2 gc3 s4 steps5 M x9 K)) ?_ ?_))
  ·refine Wp.region (sP (iv steps5) hs fun _ hs => ?_)
   refine sP (.bool (decide (steps5 < 0))) hs fun _ hs => ?_
   refine sP (.bool (decide (steps5 < 0))) hs fun _ hs => ?_
   refine bsplit (decide (steps5 < 0)) decide_eq_true_iff (fun hb hc => ?_) (fun hb hc => ?_)
   ·have hs := hs.bt hb
    have hS := hS.1 hc
    refine sNo hs fun _ hs => ?_
    refine sNo hs fun _ hs => ?_
    refine sP (.bool true) hs fun _ hs => ?_
    exact wpList_nil (⟨true, (hs.wk ⟨rfl, rfl, rfl, rfl, rfl, trivial⟩), hS⟩)
   ·have hs := hs.bf hb
    have hS := hS.2 hc
    refine sYe hs (sP (iv steps5) hs fun _ hs => ?_)
    refine sYe hs (sP (.bool (decide (steps5 > 1048576))) hs fun _ hs => ?_)
    refine sP (.bool (decide (steps5 > 1048576))) hs fun _ hs => ?_
    exact wpList_nil (⟨(decide (steps5 > 1048576)), (hs.wk ⟨rfl, rfl, rfl, rfl, rfl, trivial⟩), hS⟩)
  ·intro a w hJ
   obtain ⟨x9, hs, hS⟩ := hJ
   unfold S_mean_Run_J1 at hS
   refine Wp.cond hs rfl rfl Iff.rfl (fun hc => ?_) (fun hc => ?_)
   ·have hS := hS.1 hc
    refine Wp.seq (Wp.region (sP (X_api_Outcome.mk false 0).val hs fun _ hs => ?_))
    refine stB 0 [(.bool false), (iv 0)] [⟨b7, 26, [(.bool false), (iv 0)]⟩, ⟨b6, 24, [(.slice ga1 gl2 gc3)]⟩] hs fun _ _ hs => ?_
    refine sP (iv 0) hs fun _ hs => ?_
    refine sP (iv 1) hs fun _ hs => ?_
    exact wpList_nil (Wp.ret (leaveW (K := K) hs (resCTT (vs := [(.bool false), (iv 0)]) true 0 hs rfl rfl rfl (by kernel_rfl) rfl rfl rfl) hMM hS))
   ·have hS := hS.2 hc
    refine Wp.skip (Wp.seq (Wp.region (sY (.agg #[(.slice ga1 gl2 gc3)]) hs (Yl.lB [(.slice ga1 gl2 gc3)] true 1) fun _ hs => ?_)))
    refine sP (.string (mkS s4)) hs fun _ hs => ?_
    refine sP (iv steps5) hs fun _ hs => ?_
    refine sP (X_mean_runner.mk ga1 gl2 gc3 s4 steps5 false).val hs fun _ hs => ?_
    refine stepAlloc [(.slice none 0 0), (.string (mkS [])), (iv 0), (.bool false)] hs (by kernel_rfl) (by decide) (fun _ _ b10 hEb10 hs => ?_)
    refine stB 0 [(.slice ga1 gl2 gc3), (.string (mkS s4)), (iv steps5), (.bool false)] [⟨b10, 104, [(.slice ga1 gl2 gc3), (.string (mkS s4)), (iv steps5), (.bool false)]⟩, ⟨b7, 26, [(.bool false), (iv 0)]⟩, ⟨b6, 24, [(.slice ga1 gl2 gc3)]⟩] hs fun _ _ hs => ?_
    refine wpList_nil (Wp.seq (Wp.region (sP (pt b6 0) hs fun _ hs => ?_)))
    refine sY (.slice ga1 gl2 gc3) hs (Yl.lB [(.slice ga1 gl2 gc3)] false 2) fun _ hs => ?_
    obtain ⟨b11, o12, ha, h0, hl, hS⟩ := hS
    refine sY (.pointer (some ⟨b11, o12 + (0 : Int).toNat * 8, none⟩)) hs (Yl.indexS (e := 111) (sz := 8) rfl rfl rfl rfl (by kernel_rfl) (by kernel_rfl) ha h0 hl) fun _ hs => ?_
    refine sP (.pointer (some ⟨b11, o12 + (0 : Int).toNat * 8 + 1, none⟩)) hs fun _ hs => ?_
    obtain ⟨x13, hat, hS⟩ := hS
    refine sY x13.val hs (Yl.loadV (vs := x13.cells) true rfl rfl (by kernel_rfl) hat) fun _ hs => ?_
    refine stepCallL [(pt b10 0), x13.val, (iv 0)] [⟨b10, 104, [(.slice ga1 gl2 gc3), (.string (mkS s4)), (iv steps5), (.bool false)]⟩] [⟨b7, 26, [(.bool false), (iv 0)]⟩, ⟨b6, 24, [(.slice ga1 gl2 gc3)]⟩] [] [] true hs rfl rfl rfl rfl ⟨_, rfl, rfl⟩ rfl Try.func52 rfl (by kernel_rfl) (by decide) (hS _) (fun _ _ M16 v lb lr hle hnew hS hs => ?_)
    have hMM := hMM.next hle hnew
    obtain ⟨c17, c18, hlb, hlr, hS⟩ := hS
    subst hlb hlr
    obtain ⟨x14, x15, hv, hS⟩ := hS
    subst hv
    replace hs := hs.chbx (bs' := [⟨b10, 104, [(.slice ga1 gl2 gc3), (.string (mkS s4)), (iv c17), (.bool c18)]⟩, ⟨b7, 26, [(.bool false), (iv 0)]⟩, ⟨b6, 24, [(.slice ga1 gl2 gc3)]⟩]) rfl
    replace hs := hs.chrs (rs' := []) rfl
    refine sP (Value.tuple #[(iv x14), (.bool x15)]) hs fun _ hs => ?_
    refine sP (iv x14) hs fun _ hs => ?_
    refine sP (.bool x15) hs fun _ hs => ?_
    refine sP (iv x14) hs fun _ hs => ?_
    refine sP (.bool x15) hs fun _ hs => ?_
    refine wpList_nil (Wp.seq (Wp.seq (Wp.region (sP (pt b10 3) hs fun _ hs => ?_))))
    refine sY (.bool c18) hs (Yl.lB [(.bool c18)] false 0) fun _ hs => ?_
    refine wpList_nil (Wp.cond hs rfl rfl Iff.rfl (fun hc => ?_) (fun hc => ?_))
    ·have hS := hS.1 hc
     refine Wp.seq (Wp.region (sP (X_api_Outcome.mk false 0).val hs fun _ hs => ?_))
     refine stB 1 [(.bool false), (iv 0)] [⟨b10, 104, [(.slice ga1 gl2 gc3), (.string (mkS s4)), (iv c17), (.bool c18)]⟩, ⟨b7, 26, [(.bool false), (iv 0)]⟩, ⟨b6, 24, [(.slice ga1 gl2 gc3)]⟩] hs fun _ _ hs => ?_
     refine sP (iv 0) hs fun _ hs => ?_
     refine sP (iv 10) hs fun _ hs => ?_
     exact wpList_nil (Wp.ret (leaveW (K := K) hs (resCTT (vs := [(.bool false), (iv 0)]) true 1 hs rfl rfl rfl (by kernel_rfl) rfl rfl rfl) hMM hS))
    ·have hS := hS.2 hc
     refine Wp.skip (Wp.join (fun a w => ∃ (to19 : Int), Sx 52 E (bwW E M L) M16 w a [(2, (iv steps5)), (6, (pt b7 0)), (10, (pt b10 0)), (11, (iv to19)), (12, (.bool x15))] [⟨b10, 104, [(.slice ga1 gl2 gc3), (.string (mkS s4)), (iv c17), (.bool c18)]⟩, ⟨b7, 26, [(.bool false), (iv 0)]⟩, ⟨b6, 24, [(.slice ga1 gl2 gc3)]⟩] [] ∧ (S_mean_Run_J2 steps5 x15 M16 c17 to19 K)) ?_ ?_)
     ·refine Wp.seq (Wp.region (sP (.bool x15) hs fun _ hs => ?_))
      refine sP (.bool (!x15)) hs fun _ hs => ?_
      refine wpList_nil (Wp.cond hs rfl rfl (bnot_iff Iff.rfl) (fun hc => ?_) (fun hc => ?_))
      ·have hS := hS.1 hc
       refine Wp.region (sP (iv 0) hs fun _ hs => ?_)
       exact wpList_nil (⟨0, (hs.wk ⟨rfl, rfl, rfl, rfl, rfl, trivial⟩), hS⟩)
      ·have hS := hS.2 hc
       exact Wp.skip (⟨x14, (hs.wk ⟨rfl, rfl, rfl, rfl, rfl, trivial⟩), hS⟩)
     ·intro a w hJ
      obtain ⟨to19, hs, hS⟩ := hJ
      unfold S_mean_Run_J2 at hS
      refine Wp.seq (Wp.regionD [true, true, true, true, true, true, true, false, true, true] hs (by kernel_rfl) rfl [⟨b10, 104, [(.slice ga1 gl2 gc3), (.string (mkS s4)), (iv c17), (.bool c18)]⟩, ⟨b7, 26, [(.bool false), (iv 0)]⟩, ⟨b6, 24, [(.slice ga1 gl2 gc3)]⟩] (fun _ h => h) [] (fun _ h => h) (fun _ hs hC => ?_))
      have hL := Mem.le.refl M16
      refine dP (Value.bool x15) 0 [2, 7, 8, 9] hs QZ.no (wanted_none rfl) fun _ hs => ?_
      refine dP (iv to19) 1 [2, 7, 8, 9] hs QZ.no (wanted_none rfl) fun _ hs => ?_
      refine dP (X_api_Outcome.mk x15 to19).val 2 [7, 8, 9] hs QZ.no (wanted_none rfl) fun _ hs => ?_
      refine dP (iv steps5) 3 [6, 8, 9] hs QZ.no (wanted_none rfl) fun _ hs => ?_
      refine dP (pt b10 2) 4 [5, 6, 8, 9] hs QZ.no (wanted_none rfl) fun _ hs => ?_
      refine WpD.ors (by kernel_rfl : _ = [5, 7]) ⟨?_, ?_, trivial⟩
      ·refine stepOne 5 rfl (wanted_none rfl) #[] ?_
       refine sY (iv c17) hs (Yl.lB [(iv c17)] false 0) fun _ hs => ?_
       refine wpList_nil (⟨fun _ h => h, ?_⟩)
       obtain ⟨hI, hS⟩ := hS
       refine stepDP (v := (iv (steps5 - c17))) 6 [8, 9] hs QZ.no rfl (wanted_none rfl) rfl (by decide) (by kernel_rfl) (by kernel_rfl) (by kernel_rfl) (Yl.eq (Yl.pure (v := Value.int .i64 (IntKind.wrap .i64 (steps5 - c17))) rfl (fun _ => by kernel_rfl)) (congrArg (Value.int .i64) (wrap_in hI))) (fun _ hs => ?_)
       refine sE 7 ?_
       refine stB 1 [(.bool x15), (iv to19)] [⟨b10, 104, [(.slice ga1 gl2 gc3), (.string (mkS s4)), (iv c17), (.bool c18)]⟩, ⟨b7, 26, [(.bool x15), (iv to19)]⟩, ⟨b6, 24, [(.slice ga1 gl2 gc3)]⟩] hs fun _ _ hs => ?_
       refine wpList_nil (⟨fun h => absurd h (by decide), ?_⟩)
       refine sE 8 ?_
       refine sP (iv (steps5 - c17)) hs fun _ hs => ?_
       refine wpList_nil (⟨fun _ h => h, ?_⟩)
       refine sE 9 ?_
       refine sP (iv 0) hs fun _ hs => ?_
       refine wpList_nil (⟨fun _ h => h, ?_⟩)
       refine WpD.done (by kernel_rfl) ?_ _
       exact Wp.ret (leaveW (K := K) hs (resCTT (vs := [(.bool x15), (iv to19)]) true 1 hs rfl rfl rfl (by kernel_rfl) rfl rfl rfl) hMM hS)
      ·refine stepOne 7 rfl (wanted_none rfl) #[] ?_
       refine stB 1 [(.bool x15), (iv to19)] [⟨b10, 104, [(.slice ga1 gl2 gc3), (.string (mkS s4)), (iv c17), (.bool c18)]⟩, ⟨b7, 26, [(.bool x15), (iv to19)]⟩, ⟨b6, 24, [(.slice ga1 gl2 gc3)]⟩] hs fun _ _ hs => ?_
       refine wpList_nil (⟨fun h => absurd h (by decide), ?_⟩)
       refine sE 5 ?_
       refine sY (iv c17) hs (Yl.lB [(iv c17)] false 0) fun _ hs => ?_
       refine wpList_nil (⟨fun _ h => h, ?_⟩)
       refine sE 6 ?_
       obtain ⟨hI, hS⟩ := hS
       refine sY (iv (steps5 - c17)) hs (Yl.eq (Yl.pure (v := Value.int .i64 (IntKind.wrap .i64 (steps5 - c17))) rfl (fun _ => by kernel_rfl)) (congrArg (Value.int .i64) (wrap_in hI))) fun _ hs => ?_
       refine wpList_nil (⟨fun _ h => h, ?_⟩)
       refine sE 8 ?_
       refine sP (iv (steps5 - c17)) hs fun _ hs => ?_
       refine wpList_nil (⟨fun _ h => h, ?_⟩)
       refine sE 9 ?_
       refine sP (iv 0) hs fun _ hs => ?_
       refine wpList_nil (⟨fun _ h => h, ?_⟩)
       refine WpD.done (by kernel_rfl) ?_ _
       exact Wp.ret (leaveW (K := K) hs (resCTT (vs := [(.bool x15), (iv to19)]) true 1 hs rfl rfl rfl (by kernel_rfl) rfl rfl rfl) hMM hS)
def S_chaffref_Table_Kids_J2 (at35 : Int) (x36 : Int) (rn38 : Nat) (rx39 : List Value) (I40 : Int → Int → Nat → List Value → Prop) (mu41 : Int → Int → Nat → List Value → Nat) (at51 : Int) (K : Value → Mem → Prop) : Prop :=
 (InI (x36 + 1) ∧ I40 at51 (x36 + 1) (rn38 + 1) (rx39 ++ (X_chaffref_Tried.mk x36 at35).cells) ∧ mu41 at51 (x36 + 1) (rn38 + 1) (rx39 ++ (X_chaffref_Tried.mk x36 at35).cells) < mu41 at35 x36 rn38 rx39)
def S_chaffref_Table_Kids_J4 (at3 : Int) (M : Mem) (x89 : Bool) (K : Value → Mem → Prop) : Prop :=
 ((x89 = true → ((0 + 1) * 16 ≤ 140737488355328 ∧ (∀ (M105 : Mem) (ad103 : Option Addr) (cap104 : Nat), M.le M105 → SlV M105 ad103 (0 + 1) cap104 2 ([] ++ (X_chaffref_Tried.mk 0 at3).cells) → (∀ M', M105.le M' → K (Value.slice ad103 (0 + 1) cap104) M')))) ∧ (¬ (x89 = true) → (∀ (M106 : Mem), M.le M106 → SlV M106 none 0 0 2 [] → (∀ M', M106.le M' → K (Value.slice none 0 0) M'))))
def S_chaffref_Table_Kids_J3 (t1 : Option Addr) (e2 : X_api_Expr) (at3 : Int) (M : Mem) (x53 : Bool) (K : Value → Mem → Prop) : Prop :=
 ((x53 = true → (∃ (I79 : Int → Nat → List Value → Prop) (mu80 : Int → Nat → List Value → Nat), I79 at3 0 [] ∧ ∀ (at75 : Int) (rn77 : Nat) (rx78 : List Value), (I79 at75 rn77 rx78 → ((at75 ≥ 0 → ((rn77 + 1) * 16 ≤ 140737488355328 ∧ (∃ (b85 o86 : Nat), e2.Kids_a = some ⟨b85, o86, none⟩ ∧ (0 : Int) ≤ 0 ∧ 0 < ((e2.Kids_l : Nat) : Int) ∧ (∃ (x87 : X_api_Expr), At M b85 (o86 + (0 : Int).toNat * 7) x87.cells ∧ (CallE Try.prog 53 #[(.pointer t1), x87.val, (.int .i64 at75)] M (fun v _ => ∃ (x88 : Int), v = (Value.int .i64 x88) ∧ I79 x88 (rn77 + 1) (rx78 ++ (X_chaffref_Tried.mk 0 at75).cells) ∧ mu80 x88 (rn77 + 1) (rx78 ++ (X_chaffref_Tried.mk 0 at75).cells) < mu80 at75 rn77 rx78)))))) ∧ (¬ (at75 ≥ 0) → (∀ (M102 : Mem) (ad100 : Option Addr) (cap101 : Nat), M.le M102 → SlV M102 ad100 rn77 cap101 2 rx78 → (∀ M', M102.le M' → K (Value.slice ad100 rn77 cap101) M'))))))) ∧ (¬ (x53 = true) → (((e2.Kind : Int) = 9 → (S_chaffref_Table_Kids_J4 at3 M ((e2.Kind : Int) == (9 : Int)) K)) ∧ (¬ ((e2.Kind : Int) = 9) → (((e2.Kind : Int) = 10 → (S_chaffref_Table_Kids_J4 at3 M ((e2.Kind : Int) == (10 : Int)) K)) ∧ (¬ ((e2.Kind : Int) = 10) → (S_chaffref_Table_Kids_J4 at3 M ((e2.Kind : Int) == (11 : Int)) K)))))))
def S_chaffref_Table_Kids_J1 (t1 : Option Addr) (e2 : X_api_Expr) (at3 : Int) (M : Mem) (x5 : Bool) (K : Value → Mem → Prop) : Prop :=
 ((x5 = true → (∃ (I40 : Int → Int → Nat → List Value → Prop) (mu41 : Int → Int → Nat → List Value → Nat), I40 at3 0 0 [] ∧ ∀ (at35 : Int) (x36 : Int) (rn38 : Nat) (rx39 : List Value), (I40 at35 x36 rn38 rx39 → ((x36 < ((e2.Kids_l : Nat) : Int) → (∃ (b42 o43 : Nat), e2.Kids_a = some ⟨b42, o43, none⟩ ∧ (0 : Int) ≤ x36 ∧ x36 < ((e2.Kids_l : Nat) : Int) ∧ (∃ (x44 : X_api_Expr), At M b42 (o43 + x36.toNat * 7) x44.cells ∧ ((rn38 + 1) * 16 ≤ 140737488355328 ∧ (CallE Try.prog 53 #[(.pointer t1), x44.val, (.int .i64 at35)] M (fun v _ => ∃ (x50 : Int), v = (Value.int .i64 x50) ∧ (((decide (x50 < 0)) = ((e2.Kind : Int) == (5 : Int)) → (∀ (M99 : Mem) (ad97 : Option Addr) (cap98 : Nat), M.le M99 → SlV M99 ad97 (rn38 + 1) cap98 2 (rx39 ++ (X_chaffref_Tried.mk x36 at35).cells) → (∀ M', M99.le M' → K (Value.slice ad97 (rn38 + 1) cap98) M'))) ∧ (¬ ((decide (x50 < 0)) = ((e2.Kind : Int) == (5 : Int))) → (((e2.Kind : Int) = 5 → (S_chaffref_Table_Kids_J2 at35 x36 rn38 rx39 I40 mu41 x50 K)) ∧ (¬ ((e2.Kind : Int) = 5) → (S_chaffref_Table_Kids_J2 at35 x36 rn38 rx39 I40 mu41 at35 K))))))))))) ∧ (¬ (x36 < ((e2.Kids_l : Nat) : Int)) → (∀ (M96 : Mem) (ad94 : Option Addr) (cap95 : Nat), M.le M96 → SlV M96 ad94 rn38 cap95 2 rx39 → (∀ M', M96.le M' → K (Value.slice ad94 rn38 cap95) M'))))))) ∧ (¬ (x5 = true) → (((e2.Kind : Int) = 7 → (S_chaffref_Table_Kids_J3 t1 e2 at3 M ((e2.Kind : Int) == (7 : Int)) K)) ∧ (¬ ((e2.Kind : Int) = 7) → (S_chaffref_Table_Kids_J3 t1 e2 at3 M ((e2.Kind : Int) == (8 : Int)) K)))))
def S_chaffref_Table_Kids (t1 : Option Addr) (e2 : X_api_Expr) (at3 : Int) (M : Mem) (K : Value → Mem → Prop) : Prop :=
 (((e2.Kind : Int) = 5 → (S_chaffref_Table_Kids_J1 t1 e2 at3 M ((e2.Kind : Int) == (5 : Int)) K)) ∧ (¬ ((e2.Kind : Int) = 5) → (S_chaffref_Table_Kids_J1 t1 e2 at3 M ((e2.Kind : Int) == (6 : Int)) K)))
set_option maxRecDepth 100000 in
theorem s_chaffref_Table_Kids (t1 : Option Addr) (e2 : X_api_Expr) (at3 : Int) (M : Mem) (K : Value → Mem → Prop) (hS : S_chaffref_Table_Kids t1 e2 at3 M K) : CallE Try.prog 101 #[(Value.pointer t1), e2.val, (Value.int .i64 at3)] M K := by
 refine enterE Try.func101 rfl 72 rfl (Nat.le_of_ble_eq_true rfl) (fun E a hs => ?_)
 unfold S_chaffref_Table_Kids at hS
 have hMM := MX.refl M E
 change Sx 72 E [] M E a [(0, (.pointer t1)), (1, e2.val), (2, (iv at3))] [] [] at hs
 refine Wp.seq (Wp.region (stepBox e2.cells hs rfl rfl rfl (by decide) (fun _ _ b4 hEb4 hs => ?_)))
 refine sP (.slice none 0 0) hs fun _ hs => ?_
 refine wpList_nil (Wp.seq (Wp.region (sP (.slice none 0 0) hs fun _ hs => ?_)))
 have hs := hs.nilrow 167 2
 refine wpList_nil (Wp.seq (Wp.seq (Wp.region (sP (pt b4 0) hs fun _ hs => ?_))))
 refine sY (iv e2.Kind) hs (Yl.lB [(iv e2.Kind)] false 0) fun _ hs => ?_
 refine wpList_nil (Wp.block (Wp.join (fun a w => ∃ (x5 : Bool), Sx 72 E [] M w a [(0, (.pointer t1)), (2, (iv at3)), (4, (pt b4 0)), (7, (.slice none 0 0)), (12, (iv e2.Kind)), (13, (.bool x5))] [⟨b4, 109, e2.cells⟩] [⟨(Value.slice none 0 0), 167, 2, 0, [], true⟩] ∧ (S_chaffref_Table_Kids_J1 t1 e2 at3 M x5 K)) ?_ ?_))
 ·refine Wp.seq (Wp.region (sP (.bool ((e2.Kind : Int) == (5 : Int))) hs fun _ hs => ?_))
  refine sP (.bool ((e2.Kind : Int) == (5 : Int))) hs fun _ hs => ?_
  refine wpList_nil (Wp.cond hs rfl rfl beq_iff_eq (fun hc => ?_) (fun hc => ?_))
  ·have hS := hS.1 hc
   exact Wp.skip (⟨((e2.Kind : Int) == (5 : Int)), (hs.wk ⟨rfl, rfl, rfl, rfl, rfl, rfl, trivial⟩), hS⟩)
  ·have hS := hS.2 hc
   refine Wp.region (sP (.bool ((e2.Kind : Int) == (6 : Int))) hs fun _ hs => ?_)
   refine sP (.bool ((e2.Kind : Int) == (6 : Int))) hs fun _ hs => ?_
   exact wpList_nil (⟨((e2.Kind : Int) == (6 : Int)), (hs.wk ⟨rfl, rfl, rfl, rfl, rfl, rfl, trivial⟩), hS⟩)
 ·intro a w hJ
  obtain ⟨x5, hs, hS⟩ := hJ
  unfold S_chaffref_Table_Kids_J1 at hS
  refine Wp.cond hs rfl rfl Iff.rfl (fun hc => ?_) (fun hc => ?_)
  ·have hS := hS.1 hc
   refine Wp.seq (Wp.region (sP (pt b4 6) hs fun _ hs => ?_))
   refine sY (.slice e2.Kids_a e2.Kids_l e2.Kids_c) hs (Yl.lB [(.slice e2.Kids_a e2.Kids_l e2.Kids_c)] false 0) fun _ hs => ?_
   refine sP (iv ((e2.Kids_l : Nat) : Int)) hs fun _ hs => ?_
   refine sP (iv 0) hs fun _ hs => ?_
   refine wpList_nil (Wp.block ?_)
   obtain ⟨I40, mu41, hI0, hst⟩ := hS
   refine Wp.loop (σ := (Int) × (Int) × (Nat) × (List Value) × (Value)) (fun s a w => match s with | (at35, x36, rn38, rx39, rv37) => Sx 72 E [] M w a [(0, (.pointer t1)), (2, (iv at35)), (4, (pt b4 0)), (7, rv37), (17, (.slice e2.Kids_a e2.Kids_l e2.Kids_c)), (18, (iv ((e2.Kids_l : Nat) : Int))), (19, (iv x36))] [⟨b4, 109, e2.cells⟩] [⟨rv37, 167, 2, rn38, rx39, true⟩] ∧ I40 at35 x36 rn38 rx39) (fun s => match s with | (at35, x36, rn38, rx39, rv37) => mu41 at35 x36 rn38 rx39) (at3, 0, 0, [], (.slice none 0 0)) ⟨(hs.wk ⟨rfl, rfl, rfl, rfl, rfl, rfl, rfl, trivial⟩), hI0⟩ (fun s a w hI => ?_)
   obtain ⟨at35, x36, rn38, rx39, rv37⟩ := s
   obtain ⟨hs, hI⟩ := hI
   have hS := hst at35 x36 rn38 rx39 hI
   clear hst hI0 hI
   refine Wp.seq (Wp.region (sP (.bool (decide (x36 < ((e2.Kids_l : Nat) : Int)))) hs fun _ hs => ?_))
   refine wpList_nil (Wp.seq (Wp.cond hs rfl rfl decide_eq_true_iff (fun hc => ?_) (fun hc => ?_)))
   ·have hS := hS.1 hc
    refine Wp.skip (Wp.join (fun a w => ∃ (at51 : Int) (rv52 : Value), Sx 72 E [] M w a [(0, (.pointer t1)), (2, (iv at51)), (4, (pt b4 0)), (7, rv52), (17, (.slice e2.Kids_a e2.Kids_l e2.Kids_c)), (18, (iv ((e2.Kids_l : Nat) : Int))), (19, (iv x36))] [⟨b4, 109, e2.cells⟩] [⟨rv52, 167, 2, (rn38 + 1), (rx39 ++ (X_chaffref_Tried.mk x36 at35).cells), true⟩] ∧ (S_chaffref_Table_Kids_J2 at35 x36 rn38 rx39 I40 mu41 at51 K)) ?_ ?_)
    ·refine Wp.block (Wp.seq (Wp.region (sP (iv x36) hs fun _ hs => ?_)))
     obtain ⟨b42, o43, ha, h0, hl, hS⟩ := hS
     refine sY (.pointer (some ⟨b42, o43 + x36.toNat * 7, none⟩)) hs (Yl.indexS (e := 109) (sz := 7) rfl rfl rfl rfl (by kernel_rfl) (by kernel_rfl) ha h0 hl) fun _ hs => ?_
     obtain ⟨x44, hat, hS⟩ := hS
     refine sY x44.val hs (Yl.loadV (vs := x44.cells) true rfl rfl (by kernel_rfl) hat) fun _ hs => ?_
     refine stepAlloc [(iv 0), (.int .u64 0), (.int .u64 0), (.int .u64 0), (.int .u64 0), (.string (mkS [])), (.slice none 0 0)] hs (by kernel_rfl) (by decide) (fun _ _ b45 hEb45 hs => ?_)
     have hs := hs.nilrow 109 7
     refine sP (iv x36) hs fun _ hs => ?_
     refine stB 0 x44.cells [⟨b45, 109, x44.cells⟩, ⟨b4, 109, e2.cells⟩] hs fun _ _ hs => ?_
     refine wpList_nil (Wp.seq (Wp.region (sP rv37 hs fun _ hs => ?_)))
     refine sP (iv x36) hs fun _ hs => ?_
     refine sP (iv at35) hs fun _ hs => ?_
     refine sP (X_chaffref_Tried.mk x36 at35).val hs fun _ hs => ?_
     refine stepMake ((X_chaffref_Tried.mk x36 at35).cells) 167 2 1 hs rfl rfl rfl (fun _ => by kernel_rfl) rfl (by unfold maxLen; decide) (by decide) (fun _ _ rv46 hs => ?_)
     obtain ⟨ad47, cap48, hv, hcp, hxl⟩ := hs.rowform 0 rfl
     dsimp only at hv hcp hxl
     subst hv
     obtain ⟨hB, hS⟩ := hS
     refine stepAppend 2 ((X_chaffref_Tried.mk x36 at35).cells) hs rfl rfl rfl rfl rfl (by kernel_rfl) (by kernel_rfl) (by decide) (by decide) (hs.srcRow 0 rfl rfl) (lenb hB (by decide)) hB (fun _ _ rv49 hs => ?_)
     replace hs := hs.chrs (rs' := [⟨(Value.slice ad47 1 cap48), 167, 2, 1, (X_chaffref_Tried.mk x36 at35).cells, true⟩, ⟨(Value.slice none 0 0), 109, 7, 0, [], true⟩, ⟨rv49, 167, 2, (rn38 + 1), (rx39 ++ (X_chaffref_Tried.mk x36 at35).cells), true⟩]) rfl
     refine sP rv49 hs fun _ hs => ?_
     refine wpList_nil (Wp.seq (Wp.region (sP (.pointer t1) hs fun _ hs => ?_)))
     refine sY x44.val hs (Yl.lB x44.cells true 0) fun _ hs => ?_
     refine sP (iv at35) hs fun _ hs => ?_
     refine stepCallP [(.pointer t1), x44.val, (iv at35)] hs rfl ⟨_, rfl, rfl⟩ rfl Try.func53 rfl (by kernel_rfl) (by decide) hS (fun _ _ v hS hs => ?_)
     obtain ⟨x50, hv, hS⟩ := hS
     subst hv
     refine sP (iv x50) hs fun _ hs => ?_
     refine wpList_nil (Wp.seq (Wp.seq (Wp.region (sP (iv x50) hs fun _ hs => ?_))))
     refine sP (.bool (decide (x50 < 0))) hs fun _ hs => ?_
     refine sP (pt b4 0) hs fun _ hs => ?_
     refine sY (iv e2.Kind) hs (Yl.lB [(iv e2.Kind)] false 1) fun _ hs => ?_
     refine sP (.bool ((e2.Kind : Int) == (5 : Int))) hs fun _ hs => ?_
     refine sY (.bool ((decide (x50 < 0)) == ((e2.Kind : Int) == (5 : Int)))) hs (Yl.eqlB rfl rfl rfl rfl (by kernel_rfl)) fun _ hs => ?_
     refine wpList_nil (Wp.cond hs rfl rfl beq_iff_eq (fun hc => ?_) (fun hc => ?_))
     ·have hS := hS.1 hc
      refine Wp.exit rfl (Wp.seq (Wp.region (sP rv49 hs fun _ hs => ?_)))
      refine sP rv49 hs fun _ hs => ?_
      refine wpList_nil (Wp.ret ?_)
      obtain ⟨ad97, cap98, hv, hcp, hxl⟩ := hs.rowform 2 rfl
      dsimp only at hv hcp hxl
      subst hv
      obtain ⟨M99, hle, hsl, hnew, hs⟩ := hs.release 2 rfl [⟨(Value.slice ad47 1 cap48), 167, 2, 1, (X_chaffref_Tried.mk x36 at35).cells, true⟩, ⟨(Value.slice none 0 0), 109, 7, 0, [], true⟩] rfl
      have hMM := hMM.next hle hnew
      have hS := hS M99 ad97 cap98 hle hsl
      exact leaveE (K := K) hs (resT hs rfl rfl) hMM.2 hS
     ·have hS := hS.2 hc
      refine Wp.skip (Wp.seq (Wp.region (sP (pt b4 0) hs fun _ hs => ?_)))
      refine sY (iv e2.Kind) hs (Yl.lB [(iv e2.Kind)] false 1) fun _ hs => ?_
      refine sP (.bool ((e2.Kind : Int) == (5 : Int))) hs fun _ hs => ?_
      refine wpList_nil (Wp.cond hs rfl rfl beq_iff_eq (fun hc => ?_) (fun hc => ?_))
      ·have hS := hS.1 hc
       refine Wp.region (sP (iv x50) hs fun _ hs => ?_)
       refine sP (iv x50) hs fun _ hs => ?_
       exact wpList_nil (⟨x50, rv49, (hs.weak (.cons _ (.cons_cons _ List.Sublist.slnil)) (.cons _ (.cons _ (.cons_cons _ List.Sublist.slnil))) ⟨rfl, rfl, rfl, rfl, rfl, rfl, rfl, trivial⟩), hS⟩)
      ·have hS := hS.2 hc
       exact Wp.skip (⟨at35, rv49, (hs.weak (.cons _ (.cons_cons _ List.Sublist.slnil)) (.cons _ (.cons _ (.cons_cons _ List.Sublist.slnil))) ⟨rfl, rfl, rfl, rfl, rfl, rfl, rfl, trivial⟩), hS⟩)
    ·intro a w hJ
     obtain ⟨at51, rv52, hs, hS⟩ := hJ
     unfold S_chaffref_Table_Kids_J2 at hS
     refine Wp.region ?_
     obtain ⟨hI, hS⟩ := hS
     refine sY (iv (x36 + 1)) hs (Yl.eq (Yl.pure (v := Value.int .i64 (IntKind.wrap .i64 (x36 + 1))) rfl (fun _ => by kernel_rfl)) (congrArg (Value.int .i64) (wrap_in hI))) fun _ hs => ?_
     refine sP (iv (x36 + 1)) hs fun _ hs => ?_
     exact wpList_nil (⟨(at51, x36 + 1, (rn38 + 1), (rx39 ++ (X_chaffref_Tried.mk x36 at35).cells), rv52), ⟨(hs.wk ⟨rfl, rfl, rfl, rfl, rfl, rfl, rfl, trivial⟩), hS.1⟩, hS.2⟩)
   ·have hS := hS.2 hc
    refine Wp.exit rfl (Wp.seq (Wp.region (sP rv37 hs fun _ hs => ?_)))
    refine sP rv37 hs fun _ hs => ?_
    refine wpList_nil (Wp.ret ?_)
    obtain ⟨ad94, cap95, hv, hcp, hxl⟩ := hs.rowform 0 rfl
    dsimp only at hv hcp hxl
    subst hv
    obtain ⟨M96, hle, hsl, hnew, hs⟩ := hs.release 0 rfl [] rfl
    have hMM := hMM.next hle hnew
    have hS := hS M96 ad94 cap95 hle hsl
    exact leaveE (K := K) hs (resT hs rfl rfl) hMM.2 hS
  ·have hS := hS.2 hc
   refine Wp.join (fun a w => ∃ (x53 : Bool), Sx 72 E [] M w a [(0, (.pointer t1)), (2, (iv at3)), (4, (pt b4 0)), (7, (.slice none 0 0)), (12, (iv e2.Kind)), (45, (.bool x53))] [⟨b4, 109, e2.cells⟩] [⟨(Value.slice none 0 0), 167, 2, 0, [], true⟩] ∧ (S_chaffref_Table_Kids_J3 t1 e2 at3 M x53 K)) ?_ ?_
   ·refine Wp.seq (Wp.region (sP (.bool ((e2.Kind : Int) == (7 : Int))) hs fun _ hs => ?_))
    refine sP (.bool ((e2.Kind : Int) == (7 : Int))) hs fun _ hs => ?_
    refine wpList_nil (Wp.cond hs rfl rfl beq_iff_eq (fun hc => ?_) (fun hc => ?_))
    ·have hS := hS.1 hc
     exact Wp.skip (⟨((e2.Kind : Int) == (7 : Int)), (hs.wk ⟨rfl, rfl, rfl, rfl, rfl, rfl, trivial⟩), hS⟩)
    ·have hS := hS.2 hc
     refine Wp.region (sP (.bool ((e2.Kind : Int) == (8 : Int))) hs fun _ hs => ?_)
     refine sP (.bool ((e2.Kind : Int) == (8 : Int))) hs fun _ hs => ?_
     exact wpList_nil (⟨((e2.Kind : Int) == (8 : Int)), (hs.wk ⟨rfl, rfl, rfl, rfl, rfl, rfl, trivial⟩), hS⟩)
   ·intro a w hJ
    obtain ⟨x53, hs, hS⟩ := hJ
    unfold S_chaffref_Table_Kids_J3 at hS
    refine Wp.cond hs rfl rfl Iff.rfl (fun hc => ?_) (fun hc => ?_)
    ·have hS := hS.1 hc
     refine Wp.block ?_
     obtain ⟨I79, mu80, hI0, hst⟩ := hS
     refine Wp.loop (σ := (Int) × (Nat) × (List Value) × (Value)) (fun s a w => match s with | (at75, rn77, rx78, rv76) => Sx 72 E [] M w a [(0, (.pointer t1)), (2, (iv at75)), (4, (pt b4 0)), (7, rv76)] [⟨b4, 109, e2.cells⟩] [⟨rv76, 167, 2, rn77, rx78, true⟩] ∧ I79 at75 rn77 rx78) (fun s => match s with | (at75, rn77, rx78, rv76) => mu80 at75 rn77 rx78) (at3, 0, [], (.slice none 0 0)) ⟨(hs.wk ⟨rfl, rfl, rfl, rfl, trivial⟩), hI0⟩ (fun s a w hI => ?_)
     obtain ⟨at75, rn77, rx78, rv76⟩ := s
     obtain ⟨hs, hI⟩ := hI
     have hS := hst at75 rn77 rx78 hI
     clear hst hI0 hI
     refine Wp.seq (Wp.seq (Wp.region (sP (iv at75) hs fun _ hs => ?_)))
     refine sP (.bool (decide (at75 ≥ 0))) hs fun _ hs => ?_
     refine wpList_nil (Wp.cond hs rfl rfl decide_eq_true_iff (fun hc => ?_) (fun hc => ?_))
     ·have hS := hS.1 hc
      refine Wp.skip (Wp.block (Wp.seq (Wp.region (sP rv76 hs fun _ hs => ?_))))
      refine sP (iv at75) hs fun _ hs => ?_
      refine sP (X_chaffref_Tried.mk 0 at75).val hs fun _ hs => ?_
      refine stepMake ((X_chaffref_Tried.mk 0 at75).cells) 167 2 1 hs rfl rfl rfl (fun _ => by kernel_rfl) rfl (by unfold maxLen; decide) (by decide) (fun _ _ rv81 hs => ?_)
      obtain ⟨ad82, cap83, hv, hcp, hxl⟩ := hs.rowform 0 rfl
      dsimp only at hv hcp hxl
      subst hv
      obtain ⟨hB, hS⟩ := hS
      refine stepAppend 1 ((X_chaffref_Tried.mk 0 at75).cells) hs rfl rfl rfl rfl rfl (by kernel_rfl) (by kernel_rfl) (by decide) (by decide) (hs.srcRow 0 rfl rfl) (lenb hB (by decide)) hB (fun _ _ rv84 hs => ?_)
      replace hs := hs.chrs (rs' := [⟨(Value.slice ad82 1 cap83), 167, 2, 1, (X_chaffref_Tried.mk 0 at75).cells, true⟩, ⟨rv84, 167, 2, (rn77 + 1), (rx78 ++ (X_chaffref_Tried.mk 0 at75).cells), true⟩]) rfl
      refine sP rv84 hs fun _ hs => ?_
      refine wpList_nil (Wp.region (sP (.pointer t1) hs fun _ hs => ?_))
      refine sP (pt b4 6) hs fun _ hs => ?_
      refine sY (.slice e2.Kids_a e2.Kids_l e2.Kids_c) hs (Yl.lB [(.slice e2.Kids_a e2.Kids_l e2.Kids_c)] false 0) fun _ hs => ?_
      obtain ⟨b85, o86, ha, h0, hl, hS⟩ := hS
      refine sY (.pointer (some ⟨b85, o86 + (0 : Int).toNat * 7, none⟩)) hs (Yl.indexS (e := 109) (sz := 7) rfl rfl rfl rfl (by kernel_rfl) (by kernel_rfl) ha h0 hl) fun _ hs => ?_
      obtain ⟨x87, hat, hS⟩ := hS
      refine sY x87.val hs (Yl.loadV (vs := x87.cells) true rfl rfl (by kernel_rfl) hat) fun _ hs => ?_
      refine sP (iv at75) hs fun _ hs => ?_
      refine stepCallP [(.pointer t1), x87.val, (iv at75)] hs rfl ⟨_, rfl, rfl⟩ rfl Try.func53 rfl (by kernel_rfl) (by decide) hS (fun _ _ v hS hs => ?_)
      obtain ⟨x88, hv, hS⟩ := hS
      subst hv
      refine sP (iv x88) hs fun _ hs => ?_
      exact wpList_nil (⟨(x88, (rn77 + 1), (rx78 ++ (X_chaffref_Tried.mk 0 at75).cells), rv84), ⟨(hs.weak (List.Sublist.refl _) (.cons _ (.cons_cons _ List.Sublist.slnil)) ⟨rfl, rfl, rfl, rfl, trivial⟩), hS.1⟩, hS.2⟩)
     ·have hS := hS.2 hc
      refine Wp.exit rfl (Wp.seq (Wp.region (sP rv76 hs fun _ hs => ?_)))
      refine sP rv76 hs fun _ hs => ?_
      refine wpList_nil (Wp.ret ?_)
      obtain ⟨ad100, cap101, hv, hcp, hxl⟩ := hs.rowform 0 rfl
      dsimp only at hv hcp hxl
      subst hv
      obtain ⟨M102, hle, hsl, hnew, hs⟩ := hs.release 0 rfl [] rfl
      have hMM := hMM.next hle hnew
      have hS := hS M102 ad100 cap101 hle hsl
      exact leaveE (K := K) hs (resT hs rfl rfl) hMM.2 hS
    ·have hS := hS.2 hc
     refine Wp.join (fun a w => ∃ (x89 : Bool), Sx 72 E [] M w a [(2, (iv at3)), (7, (.slice none 0 0)), (62, (.bool x89))] [⟨b4, 109, e2.cells⟩] [⟨(Value.slice none 0 0), 167, 2, 0, [], true⟩] ∧ (S_chaffref_Table_Kids_J4 at3 M x89 K)) ?_ ?_
     ·refine Wp.seq (Wp.region (sP (.bool ((e2.Kind : Int) == (9 : Int))) hs fun _ hs => ?_))
      refine sP (.bool ((e2.Kind : Int) == (9 : Int))) hs fun _ hs => ?_
      refine wpList_nil (Wp.cond hs rfl rfl beq_iff_eq (fun hc => ?_) (fun hc => ?_))
      ·have hS := hS.1 hc
       exact Wp.skip (⟨((e2.Kind : Int) == (9 : Int)), (hs.wk ⟨rfl, rfl, rfl, trivial⟩), hS⟩)
      ·have hS := hS.2 hc
       refine Wp.seq (Wp.region (sP (.bool ((e2.Kind : Int) == (10 : Int))) hs fun _ hs => ?_))
       refine sP (.bool ((e2.Kind : Int) == (10 : Int))) hs fun _ hs => ?_
       refine wpList_nil (Wp.cond hs rfl rfl beq_iff_eq (fun hc => ?_) (fun hc => ?_))
       ·have hS := hS.1 hc
        exact Wp.skip (⟨((e2.Kind : Int) == (10 : Int)), (hs.wk ⟨rfl, rfl, rfl, trivial⟩), hS⟩)
       ·have hS := hS.2 hc
        refine Wp.region (sP (.bool ((e2.Kind : Int) == (11 : Int))) hs fun _ hs => ?_)
        refine sP (.bool ((e2.Kind : Int) == (11 : Int))) hs fun _ hs => ?_
        exact wpList_nil (⟨((e2.Kind : Int) == (11 : Int)), (hs.wk ⟨rfl, rfl, rfl, trivial⟩), hS⟩)
     ·intro a w hJ
      obtain ⟨x89, hs, hS⟩ := hJ
      unfold S_chaffref_Table_Kids_J4 at hS
      refine Wp.cond hs rfl rfl Iff.rfl (fun hc => ?_) (fun hc => ?_)
      ·have hS := hS.1 hc
       refine Wp.region (sP (.slice none 0 0) hs fun _ hs => ?_)
       refine sP (iv at3) hs fun _ hs => ?_
       refine sP (X_chaffref_Tried.mk 0 at3).val hs fun _ hs => ?_
       refine stepMake ((X_chaffref_Tried.mk 0 at3).cells) 167 2 1 hs rfl rfl rfl (fun _ => by kernel_rfl) rfl (by unfold maxLen; decide) (by decide) (fun _ _ rv90 hs => ?_)
       obtain ⟨ad91, cap92, hv, hcp, hxl⟩ := hs.rowform 0 rfl
       dsimp only at hv hcp hxl
       subst hv
       obtain ⟨hB, hS⟩ := hS
       refine stepAppend 1 ((X_chaffref_Tried.mk 0 at3).cells) hs rfl rfl rfl rfl rfl (by kernel_rfl) (by kernel_rfl) (by decide) (by decide) (hs.srcRow 0 rfl rfl) (lenb hB (by decide)) hB (fun _ _ rv93 hs => ?_)
       replace hs := hs.chrs (rs' := [⟨(Value.slice ad91 1 cap92), 167, 2, 1, (X_chaffref_Tried.mk 0 at3).cells, true⟩, ⟨rv93, 167, 2, (0 + 1), ([] ++ (X_chaffref_Tried.mk 0 at3).cells), true⟩]) rfl
       refine sP rv93 hs fun _ hs => ?_
       refine wpList_nil (Wp.seq (Wp.region (sP rv93 hs fun _ hs => ?_)))
       refine sP rv93 hs fun _ hs => ?_
       refine wpList_nil (Wp.ret ?_)
       obtain ⟨ad103, cap104, hv, hcp, hxl⟩ := hs.rowform 1 rfl
       dsimp only at hv hcp hxl
       subst hv
       obtain ⟨M105, hle, hsl, hnew, hs⟩ := hs.release 1 rfl [⟨(Value.slice ad91 1 cap92), 167, 2, 1, (X_chaffref_Tried.mk 0 at3).cells, true⟩] rfl
       have hMM := hMM.next hle hnew
       have hS := hS M105 ad103 cap104 hle hsl
       exact leaveE (K := K) hs (resT hs rfl rfl) hMM.2 hS
      ·have hS := hS.2 hc
       refine Wp.skip (Wp.seq (Wp.region (sP (.slice none 0 0) hs fun _ hs => ?_)))
       refine sP (.slice none 0 0) hs fun _ hs => ?_
       refine wpList_nil (Wp.ret ?_)
       obtain ⟨M106, hle, hsl, hnew, hs⟩ := hs.release 0 rfl [] rfl
       have hMM := hMM.next hle hnew
       have hS := hS M106 hle hsl
       exact leaveE (K := K) hs (resT hs rfl rfl) hMM.2 hS
def S_chaffref_Table_steps_J1 (t1 : Option Addr) (e2 : X_api_Expr) (at3 : Int) (known4 : Option Nat) (M : Mem) (L : Nat → Prop) (n14 : Int) (M15 : Mem) (K : Value → Mem → Prop) : Prop :=
 (CallE Try.prog 101 #[(.pointer t1), e2.val, (.int .i64 at3)] M15 (fun v M19 => ∃ (xa16 : Option Addr) (xl17 : Nat) (xc18 : Nat), v = (Value.slice xa16 xl17 xc18) ∧ (∃ (G48 : Type) (I46 : G48 → Int → Int → Mem → Prop) (mu47 : G48 → Int → Int → Nat) (gz50 : G48), I46 gz50 n14 0 M19 ∧ ∀ (gh49 : G48) (n43 : Int) (x44 : Int) (M45 : Mem), (I46 gh49 n43 x44 M45 → ((x44 < ((xl17 : Nat) : Int) → (∃ (b51 o52 : Nat), xa16 = some ⟨b51, o52, none⟩ ∧ (0 : Int) ≤ x44 ∧ x44 < ((xl17 : Nat) : Int) ∧ (∃ (x53 : X_chaffref_Tried), At M45 b51 (o52 + x44.toNat * 2) x53.cells ∧ (∃ (b55 o56 : Nat), e2.Kids_a = some ⟨b55, o56, none⟩ ∧ (0 : Int) ≤ x53.Kid ∧ x53.Kid < ((e2.Kids_l : Nat) : Int) ∧ (∃ (x57 : X_api_Expr), At M45 b55 (o56 + x53.Kid.toNat * 7) x57.cells ∧ (CallW Try.prog 54 #[(.pointer t1), x57.val, (.int .i64 x53.At), (.map known4)] M45 (Wr L M) (fun v M59 => ∃ (x58 : Int), v = (Value.int .i64 x58) ∧ (InI (n43 + x58) ∧ (InI (x44 + 1) ∧ ∃ (gh : G48), I46 gh (if n43 + x58 < 2097152 then n43 + x58 else 2097152) (x44 + 1) M59 ∧ mu47 gh (if n43 + x58 < 2097152 then n43 + x58 else 2097152) (x44 + 1) < mu47 gh49 n43 x44))))))))) ∧ (¬ (x44 < ((xl17 : Nat) : Int)) → (∀ M', M45.le M' → K (Value.int .i64 (if n43 < 2097152 then n43 else 2097152)) M')))))))
def S_chaffref_Table_steps (t1 : Option Addr) (e2 : X_api_Expr) (at3 : Int) (known4 : Option Nat) (M : Mem) (L : Nat → Prop) (K : Value → Mem → Prop) : Prop :=
 (((e2.Kind : Int) = 4 → (∃ (b6 o7 : Nat), t1 = some ⟨b6, o7, none⟩ ∧ (∃ (xa8 : Option Addr) (xl9 : Nat) (xc10 : Nat), At M b6 o7 [(.slice xa8 xl9 xc10)] ∧ (CallE Try.prog 100 #[(.agg #[(.slice xa8 xl9 xc10)]), (.string (mkS e2.Text))] M (fun v _ => ∃ (x11 : Int), v = (Value.int .i64 x11) ∧ (CallW Try.prog 18 #[(.pointer t1), (.int .i64 x11), (.int .i64 at3), (.map known4)] M (Wr L M) (fun v M13 => ∃ (x12 : Int), v = (Value.int .i64 x12) ∧ (InI (1 + x12) ∧ (S_chaffref_Table_steps_J1 t1 e2 at3 known4 M L (1 + x12) M13 K))))))))) ∧ (¬ ((e2.Kind : Int) = 4) → (S_chaffref_Table_steps_J1 t1 e2 at3 known4 M L 1 M K)))
set_option maxRecDepth 100000 in
theorem s_chaffref_Table_steps (t1 : Option Addr) (e2 : X_api_Expr) (at3 : Int) (known4 : Option Nat) (M : Mem) (L : Nat → Prop) (K : Value → Mem → Prop) (hS : S_chaffref_Table_steps t1 e2 at3 known4 M L K) : CallW Try.prog 54 #[(Value.pointer t1), e2.val, (Value.int .i64 at3), (Value.map known4)] M L K := by
 refine enterW Try.func54 rfl 54 rfl (Nat.le_of_ble_eq_true rfl) (fun E a hs => ?_)
 unfold S_chaffref_Table_steps at hS
 have hMM := WX.refl M E
 change Sx 54 E (bwW E M L) M E a [(0, (.pointer t1)), (1, e2.val), (2, (iv at3)), (3, (.map known4))] [] [] at hs
 refine Wp.seq (Wp.region (stepBox e2.cells hs rfl rfl rfl (by decide) (fun _ _ b5 hEb5 hs => ?_)))
 refine sP (iv 0) hs fun _ hs => ?_
 refine wpList_nil (Wp.seq (Wp.region (sP (iv 1) hs fun _ hs => ?_)))
 refine wpList_nil (Wp.join (fun a w => ∃ (n14 : Int) (M15 : Mem), WX M15 M E ∧ Sx 54 E (bwW E M L) M15 w a [(0, (.pointer t1)), (2, (iv at3)), (3, (.map known4)), (5, (pt b5 0)), (9, (iv n14))] [⟨b5, 109, e2.cells⟩] [] ∧ (S_chaffref_Table_steps_J1 t1 e2 at3 known4 M L n14 M15 K)) ?_ ?_)
 ·refine Wp.seq (Wp.region (sP (pt b5 0) hs fun _ hs => ?_))
  refine sY (iv e2.Kind) hs (Yl.lB [(iv e2.Kind)] false 0) fun _ hs => ?_
  refine sP (.bool ((e2.Kind : Int) == (4 : Int))) hs fun _ hs => ?_
  refine wpList_nil (Wp.cond hs rfl rfl beq_iff_eq (fun hc => ?_) (fun hc => ?_))
  ·have hS := hS.1 hc
   refine Wp.regionD [true, true, true, true, true, true, true, true, false, true, true, false, true, true] hs (by kernel_rfl) rfl [⟨b5, 109, e2.cells⟩] (fun _ h => h) [] (fun _ h => h) (fun _ hs hC => ?_)
   have hL := Mem.le.refl M
   refine dP (iv 1) 0 [12, 13] hs QZ.no (wanted_none rfl) fun _ hs => ?_
   refine dP (Value.pointer t1) 1 [11, 12, 13] hs QZ.no (wanted_none rfl) fun _ hs => ?_
   refine dP (Value.pointer t1) 2 [3, 4, 5, 8, 11, 12, 13] hs QZ.no (wanted_none rfl) fun _ hs => ?_
   obtain ⟨b6, o7, hp, hS⟩ := hS
   refine stepDP (v := (.pointer (some ⟨b6, o7, none⟩))) 3 [4, 5, 8, 11, 12, 13] hs QZ.no rfl (wanted_none rfl) rfl (by decide) (by kernel_rfl) (by kernel_rfl) (by kernel_rfl) (Yl.nilck rfl rfl hp) (fun _ hs => ?_)
   refine dP (Value.pointer (some ⟨b6, o7, none⟩)) 4 [5, 8, 11, 12, 13] hs QZ.no (wanted_none rfl) fun _ hs => ?_
   obtain ⟨xa8, xl9, xc10, hat, hS⟩ := hS
   refine stepDY (v := (.agg #[(.slice xa8 xl9 xc10)])) 5 [8, 11, 12, 13] hs hC QZ.no rfl (wanted_none rfl) rfl (by decide) (by kernel_rfl) (by kernel_rfl) (by kernel_rfl) (Yl.loadV (vs := [(.slice xa8 xl9 xc10)]) true rfl rfl (by kernel_rfl) hat) (fun _ hs => ?_)
   refine dP (pt b5 5) 6 [7, 8, 11, 12, 13] hs QZ.no (wanted_none rfl) fun _ hs => ?_
   refine stepDY (v := (.string (mkS e2.Text))) 7 [8, 11, 12, 13] hs hC QZ.no rfl (wanted_none rfl) rfl (by decide) (by kernel_rfl) (by kernel_rfl) (by kernel_rfl) (Yl.lB [(.string (mkS e2.Text))] false 0) (fun _ hs => ?_)
   refine dP (iv at3) 9 [11, 12, 13] hs QZ.no (wanted_none rfl) fun _ hs => ?_
   refine dP (Value.map known4) 10 [11, 12, 13] hs QZ.no (wanted_none rfl) fun _ hs => ?_
   refine sE 8 ?_
   refine stepCallP [(.agg #[(.slice xa8 xl9 xc10)]), (.string (mkS e2.Text))] hs rfl ⟨_, rfl, rfl⟩ rfl Try.func100 rfl (by kernel_rfl) (by decide) hS (fun _ _ v hS hs => ?_)
   obtain ⟨x11, hv, hS⟩ := hS
   subst hv
   refine wpList_nil (⟨fun h => absurd h (by decide), ?_⟩)
   refine sE 11 ?_
   refine stepCallW [(.pointer t1), (iv x11), (iv at3), (.map known4)] hs hMM rfl ⟨_, rfl, rfl⟩ rfl Try.func18 rfl (by kernel_rfl) (by decide) hS (fun _ _ M13 v hMM hS hs => ?_)
   obtain ⟨x12, hv, hS⟩ := hS
   subst hv
   refine wpList_nil (⟨fun h => absurd h (by decide), ?_⟩)
   refine sE 12 ?_
   obtain ⟨hI, hS⟩ := hS
   refine sY (iv (1 + x12)) hs (Yl.eq (Yl.pure (v := Value.int .i64 (IntKind.wrap .i64 (1 + x12))) rfl (fun _ => by kernel_rfl)) (congrArg (Value.int .i64) (wrap_in hI))) fun _ hs => ?_
   refine wpList_nil (⟨fun _ h => h, ?_⟩)
   refine sE 13 ?_
   refine sP (iv (1 + x12)) hs fun _ hs => ?_
   refine wpList_nil (⟨fun _ h => h, ?_⟩)
   refine WpD.done (by kernel_rfl) ?_ _
   exact ⟨(1 + x12), M13, hMM, (hs.wk ⟨rfl, rfl, rfl, rfl, rfl, trivial⟩), hS⟩
  ·have hS := hS.2 hc
   exact Wp.skip (⟨1, M, hMM, (hs.wk ⟨rfl, rfl, rfl, rfl, rfl, trivial⟩), hS⟩)
 ·intro a w hJ
  obtain ⟨n14, M15, hMM, hs, hS⟩ := hJ
  unfold S_chaffref_Table_steps_J1 at hS
  refine Wp.seq (Wp.seq (Wp.region (sP (.pointer t1) hs fun _ hs => ?_)))
  refine sY e2.val hs (Yl.lB e2.cells true 0) fun _ hs => ?_
  refine sP (iv at3) hs fun _ hs => ?_
  refine stepCallE [(.pointer t1), e2.val, (iv at3)] hs rfl ⟨_, rfl, rfl⟩ rfl Try.func101 rfl (by kernel_rfl) (by decide) hS (fun _ _ M19 v hle hnew hS hs => ?_)
  have hMM := hMM.next hle hnew
  obtain ⟨xa16, xl17, xc18, hv, hS⟩ := hS
  subst hv
  refine sP (iv ((xl17 : Nat) : Int)) hs fun _ hs => ?_
  refine sP (iv 0) hs fun _ hs => ?_
  refine wpList_nil (Wp.block ?_)
  obtain ⟨G48, I46, mu47, gz50, hI0, hst⟩ := hS
  refine Wp.loop (σ := G48 × (Int) × (Int) × (Mem)) (fun s a w => match s with | (gh49, n43, x44, M45) => WX M45 M E ∧ Sx 54 E (bwW E M L) M45 w a [(0, (.pointer t1)), (3, (.map known4)), (5, (pt b5 0)), (9, (iv n43)), (31, (.slice xa16 xl17 xc18)), (32, (iv ((xl17 : Nat) : Int))), (33, (iv x44))] [⟨b5, 109, e2.cells⟩] [] ∧ I46 gh49 n43 x44 M45) (fun s => match s with | (gh49, n43, x44, M45) => mu47 gh49 n43 x44) (gz50, n14, 0, M19) ⟨hMM, (hs.wk ⟨rfl, rfl, rfl, rfl, rfl, rfl, rfl, trivial⟩), hI0⟩ (fun s a w hI => ?_)
  obtain ⟨gh49, n43, x44, M45⟩ := s
  obtain ⟨hMM, hs, hI⟩ := hI
  have hS := hst gh49 n43 x44 M45 hI
  clear hst hI0 hI
  refine Wp.seq (Wp.region (sP (.bool (decide (x44 < ((xl17 : Nat) : Int)))) hs fun _ hs => ?_))
  refine wpList_nil (Wp.seq (Wp.cond hs rfl rfl decide_eq_true_iff (fun hc => ?_) (fun hc => ?_)))
  ·have hS := hS.1 hc
   refine Wp.skip (Wp.seq (Wp.block (Wp.seq (Wp.region ?_))))
   obtain ⟨b51, o52, ha, h0, hl, hS⟩ := hS
   refine sY (.pointer (some ⟨b51, o52 + x44.toNat * 2, none⟩)) hs (Yl.indexS (e := 167) (sz := 2) rfl rfl rfl rfl (by kernel_rfl) (by kernel_rfl) ha h0 hl) fun _ hs => ?_
   obtain ⟨x53, hat, hS⟩ := hS
   refine sY x53.val hs (Yl.loadV (vs := x53.cells) true rfl rfl (by kernel_rfl) hat) fun _ hs => ?_
   refine stepAlloc [(iv 0), (iv 0)] hs (by kernel_rfl) (by decide) (fun _ _ b54 hEb54 hs => ?_)
   refine stB 0 [(iv x53.Kid), (iv x53.At)] [⟨b54, 167, [(iv x53.Kid), (iv x53.At)]⟩, ⟨b5, 109, e2.cells⟩] hs fun _ _ hs => ?_
   refine wpList_nil (Wp.regionD [true, true, true, true, true, true, true, true, true, true, true, false, true, true, true] hs (by kernel_rfl) rfl [⟨b54, 167, [(iv x53.Kid), (iv x53.At)]⟩, ⟨b5, 109, e2.cells⟩] (fun _ h => h) [] (fun _ h => h) (fun _ hs hC => ?_))
   have hL := Mem.le.refl M45
   refine dP (iv n43) 0 [12, 13, 14] hs QZ.no (wanted_none rfl) fun _ hs => ?_
   refine dP (Value.pointer t1) 1 [11, 12, 13, 14] hs QZ.no (wanted_none rfl) fun _ hs => ?_
   refine dP (pt b5 6) 2 [3, 6, 7, 11, 12, 13, 14] hs QZ.no (wanted_none rfl) fun _ hs => ?_
   refine stepDY (v := (.slice e2.Kids_a e2.Kids_l e2.Kids_c)) 3 [6, 7, 11, 12, 13, 14] hs hC QZ.no rfl (wanted_none rfl) rfl (by decide) (by kernel_rfl) (by kernel_rfl) (by kernel_rfl) (Yl.lB [(.slice e2.Kids_a e2.Kids_l e2.Kids_c)] false 1) (fun _ hs => ?_)
   refine dP (pt b54 0) 4 [5, 6, 7, 11, 12, 13, 14] hs QZ.no (wanted_none rfl) fun _ hs => ?_
   refine stepDY (v := (iv x53.Kid)) 5 [6, 7, 11, 12, 13, 14] hs hC QZ.no rfl (wanted_none rfl) rfl (by decide) (by kernel_rfl) (by kernel_rfl) (by kernel_rfl) (Yl.lB [(iv x53.Kid)] false 0) (fun _ hs => ?_)
   obtain ⟨b55, o56, ha, h0, hl, hS⟩ := hS
   refine stepDP (v := (.pointer (some ⟨b55, o56 + x53.Kid.toNat * 7, none⟩))) 6 [7, 11, 12, 13, 14] hs QZ.no rfl (wanted_none rfl) rfl (by decide) (by kernel_rfl) (by kernel_rfl) (by kernel_rfl) (Yl.indexS (e := 109) (sz := 7) rfl rfl rfl rfl (by kernel_rfl) (by kernel_rfl) ha h0 hl) (fun _ hs => ?_)
   obtain ⟨x57, hat, hS⟩ := hS
   refine stepDY (v := x57.val) 7 [11, 12, 13, 14] hs hC QZ.no rfl (wanted_none rfl) rfl (by decide) (by kernel_rfl) (by kernel_rfl) (by kernel_rfl) (Yl.loadV (vs := x57.cells) true rfl rfl (by kernel_rfl) hat) (fun _ hs => ?_)
   refine dP (pt b54 1) 8 [9, 11, 12, 13, 14] hs QZ.no (wanted_none rfl) fun _ hs => ?_
   refine stepDY (v := (iv x53.At)) 9 [11, 12, 13, 14] hs hC QZ.no rfl (wanted_none rfl) rfl (by decide) (by kernel_rfl) (by kernel_rfl) (by kernel_rfl) (Yl.lB [(iv x53.At)] false 0) (fun _ hs => ?_)
   refine sE 10 ?_
   refine sP (.map known4) hs fun _ hs => ?_
   refine wpList_nil (⟨fun _ h => h, ?_⟩)
   refine sE 11 ?_
   refine stepCallW [(.pointer t1), x57.val, (iv x53.At), (.map known4)] hs hMM rfl ⟨_, rfl, rfl⟩ rfl Try.func54 rfl (by kernel_rfl) (by decide) hS (fun _ _ M59 v hMM hS hs => ?_)
   obtain ⟨x58, hv, hS⟩ := hS
   subst hv
   refine wpList_nil (⟨fun h => absurd h (by decide), ?_⟩)
   refine sE 12 ?_
   obtain ⟨hI, hS⟩ := hS
   refine sY (iv (n43 + x58)) hs (Yl.eq (Yl.pure (v := Value.int .i64 (IntKind.wrap .i64 (n43 + x58))) rfl (fun _ => by kernel_rfl)) (congrArg (Value.int .i64) (wrap_in hI))) fun _ hs => ?_
   refine wpList_nil (⟨fun _ h => h, ?_⟩)
   refine sE 13 ?_
   refine sP (iv (if n43 + x58 < 2097152 then n43 + x58 else 2097152)) hs fun _ hs => ?_
   refine wpList_nil (⟨fun _ h => h, ?_⟩)
   refine sE 14 ?_
   refine sP (iv (if n43 + x58 < 2097152 then n43 + x58 else 2097152)) hs fun _ hs => ?_
   refine wpList_nil (⟨fun _ h => h, ?_⟩)
   refine WpD.done (by kernel_rfl) ?_ _
   refine Wp.region ?_
   obtain ⟨hI, hS⟩ := hS
   refine sY (iv (x44 + 1)) hs (Yl.eq (Yl.pure (v := Value.int .i64 (IntKind.wrap .i64 (x44 + 1))) rfl (fun _ => by kernel_rfl)) (congrArg (Value.int .i64) (wrap_in hI))) fun _ hs => ?_
   refine sP (iv (x44 + 1)) hs fun _ hs => ?_
   refine wpList_nil ?_
   obtain ⟨gh, hI1, hI2⟩ := hS
   exact ⟨(gh, (if n43 + x58 < 2097152 then n43 + x58 else 2097152), x44 + 1, M59), ⟨hMM, (hs.weak (.cons _ (.cons_cons _ List.Sublist.slnil)) (List.Sublist.refl _) ⟨rfl, rfl, rfl, rfl, rfl, rfl, rfl, trivial⟩), hI1⟩, hI2⟩
  ·have hS := hS.2 hc
   refine Wp.exit rfl (Wp.seq (Wp.region (sP (iv n43) hs fun _ hs => ?_)))
   refine sP (iv (if n43 < 2097152 then n43 else 2097152)) hs fun _ hs => ?_
   refine sP (iv (if n43 < 2097152 then n43 else 2097152)) hs fun _ hs => ?_
   exact wpList_nil (Wp.ret (leaveW (K := K) hs (resT hs rfl rfl) hMM hS))
def S_chaffref_Table_Steps (t1 : Option Addr) (rule2 : Int) (at3 : Int) (known4 : Option Nat) (M : Mem) (L : Nat → Prop) (K : Value → Mem → Prop) : Prop :=
 (∃ (r6 : Nat) (f7 : Int → Int → Option Value), known4 = some r6 ∧ MapF M r6 f7 ∧ InI rule2 ∧ InI at3 ∧ (∃ (x8 : Int), (f7 rule2 at3).getD (Value.int .i64 0) = (Value.int .i64 x8) ∧ ((x8 > 0 → (∀ M', M.le M' → K (Value.int .i64 x8) M')) ∧ (¬ (x8 > 0) → (∃ (b9 o10 : Nat), t1 = some ⟨b9, o10, none⟩ ∧ (∃ (xa11 : Option Addr) (xl12 : Nat) (xc13 : Nat), At M b9 o10 [(.slice xa11 xl12 xc13)] ∧ (∃ (b14 o15 : Nat), xa11 = some ⟨b14, o15, none⟩ ∧ (0 : Int) ≤ rule2 ∧ rule2 < ((xl12 : Nat) : Int) ∧ (∃ (x16 : X_api_Expr), At M b14 (o15 + rule2.toNat * 8 + 1) x16.cells ∧ (CallW Try.prog 54 #[(.pointer t1), x16.val, (.int .i64 at3), (.map known4)] M (Wr L M) (fun v M18 => ∃ (x17 : Int), v = (Value.int .i64 x17) ∧ (∃ (r19 : Nat) (f20 : Int → Int → Option Value), known4 = some r19 ∧ MapF M18 r19 f20 ∧ InI rule2 ∧ InI at3 ∧ Wr L M r19 ∧ ∀ (M21 : Mem), MapS M18 r19 rule2 at3 (Value.int .i64 x17) M21 → (∀ M', M21.le M' → K (Value.int .i64 x17) M'))))))))))))
set_option maxRecDepth 100000 in
theorem s_chaffref_Table_Steps (t1 : Option Addr) (rule2 : Int) (at3 : Int) (known4 : Option Nat) (M : Mem) (L : Nat → Prop) (K : Value → Mem → Prop) (hS : S_chaffref_Table_Steps t1 rule2 at3 known4 M L K) : CallW Try.prog 18 #[(Value.pointer t1), (Value.int .i64 rule2), (Value.int .i64 at3), (Value.map known4)] M L K := by
 refine enterW Try.func18 rfl 38 rfl (Nat.le_of_ble_eq_true rfl) (fun E a hs => ?_)
 unfold S_chaffref_Table_Steps at hS
 have hMM := WX.refl M E
 change Sx 38 E (bwW E M L) M E a [(0, (.pointer t1)), (1, (iv rule2)), (2, (iv at3)), (3, (.map known4))] [] [] at hs
 refine Wp.seq (Wp.region (sP (iv 0) hs fun _ hs => ?_))
 refine wpList_nil (Wp.seq (Wp.region (sP (iv rule2) hs fun _ hs => ?_)))
 refine sP (iv at3) hs fun _ hs => ?_
 refine sP (X_A2_i64.mk rule2 at3).val hs fun _ hs => ?_
 refine stepAlloc [(iv 0), (iv 0)] hs (by kernel_rfl) (by decide) (fun _ _ b5 hEb5 hs => ?_)
 refine stB 0 [(iv rule2), (iv at3)] [⟨b5, 113, [(iv rule2), (iv at3)]⟩] hs fun _ _ hs => ?_
 refine wpList_nil (Wp.seq (Wp.seq (Wp.region (sP (.map known4) hs fun _ hs => ?_))))
 refine sY (X_A2_i64.mk rule2 at3).val hs (Yl.lB (X_A2_i64.mk rule2 at3).cells true 0) fun _ hs => ?_
 obtain ⟨r6, f7, hmr, hmf, hk0, hk1, x8, hmv, hS⟩ := hS
 refine sY (iv x8) hs (Yl.lookup rfl rfl (congrArg Value.map hmr) rfl rfl (KeyP.array (e := 3) 3 (by decide) (by kernel_rfl) (by kernel_rfl) rfl rfl (by kernel_rfl) (by kernel_rfl) (by kernel_rfl) (by kernel_rfl)) ⟨_, rfl, rfl⟩ hmf hk0 hk1 hmv) fun _ hs => ?_
 refine sP (iv x8) hs fun _ hs => ?_
 refine wpList_nil (Wp.seq (Wp.region (sP (iv x8) hs fun _ hs => ?_)))
 refine sP (.bool (decide (x8 > 0))) hs fun _ hs => ?_
 refine wpList_nil (Wp.cond hs rfl rfl decide_eq_true_iff (fun hc => ?_) (fun hc => ?_))
 ·have hS := hS.1 hc
  refine Wp.seq (Wp.region (sP (iv x8) hs fun _ hs => ?_))
  refine sP (iv x8) hs fun _ hs => ?_
  exact wpList_nil (Wp.ret (leaveW (K := K) hs (resT hs rfl rfl) hMM hS))
 ·have hS := hS.2 hc
  refine Wp.skip (Wp.seq (Wp.region (sP (.pointer t1) hs fun _ hs => ?_)))
  refine sP (.pointer t1) hs fun _ hs => ?_
  obtain ⟨b9, o10, hp, hS⟩ := hS
  refine sY (.pointer (some ⟨b9, o10, none⟩)) hs (Yl.nilck rfl rfl hp) fun _ hs => ?_
  refine sP (.pointer (some ⟨b9, o10, none⟩)) hs fun _ hs => ?_
  refine sP (.pointer (some ⟨b9, o10, none⟩)) hs fun _ hs => ?_
  obtain ⟨xa11, xl12, xc13, hat, hS⟩ := hS
  refine sY (.slice xa11 xl12 xc13) hs (Yl.loadV (vs := [(.slice xa11 xl12 xc13)]) false rfl rfl (by kernel_rfl) hat) fun _ hs => ?_
  refine sP (iv rule2) hs fun _ hs => ?_
  obtain ⟨b14, o15, ha, h0, hl, hS⟩ := hS
  refine sY (.pointer (some ⟨b14, o15 + rule2.toNat * 8, none⟩)) hs (Yl.indexS (e := 111) (sz := 8) rfl rfl rfl rfl (by kernel_rfl) (by kernel_rfl) ha h0 hl) fun _ hs => ?_
  refine sP (.pointer (some ⟨b14, o15 + rule2.toNat * 8 + 1, none⟩)) hs fun _ hs => ?_
  obtain ⟨x16, hat, hS⟩ := hS
  refine sY x16.val hs (Yl.loadV (vs := x16.cells) true rfl rfl (by kernel_rfl) hat) fun _ hs => ?_
  refine sP (iv at3) hs fun _ hs => ?_
  refine sP (.map known4) hs fun _ hs => ?_
  refine stepCallW [(.pointer t1), x16.val, (iv at3), (.map known4)] hs hMM rfl ⟨_, rfl, rfl⟩ rfl Try.func54 rfl (by kernel_rfl) (by decide) hS (fun _ _ M18 v hMM hS hs => ?_)
  obtain ⟨x17, hv, hS⟩ := hS
  subst hv
  refine sP (iv x17) hs fun _ hs => ?_
  refine wpList_nil (Wp.seq (Wp.region (sP (.map known4) hs fun _ hs => ?_)))
  refine sY (X_A2_i64.mk rule2 at3).val hs (Yl.lB (X_A2_i64.mk rule2 at3).cells true 0) fun _ hs => ?_
  refine sP (iv x17) hs fun _ hs => ?_
  obtain ⟨r19, f20, hmr, hmf, hk0, hk1, hwr, hS⟩ := hS
  refine stepMapSet hs hMM rfl rfl rfl (congrArg Value.map hmr) rfl rfl rfl (KeyP.array (e := 3) 3 (by decide) (by kernel_rfl) (by kernel_rfl) rfl rfl (by kernel_rfl) (by kernel_rfl) (by kernel_rfl) (by kernel_rfl)) hmf hk0 hk1 hwr (fun _ _ M21 hM2 hMM hs => ?_)
  have hS := hS M21 hM2
  refine wpList_nil (Wp.seq (Wp.region (sP (iv x17) hs fun _ hs => ?_)))
  refine sP (iv x17) hs fun _ hs => ?_
  exact wpList_nil (Wp.ret (leaveW (K := K) hs (resT hs rfl rfl) hMM hS))
end Go.Proofs.Ytifkffmecfgpeaa.core
