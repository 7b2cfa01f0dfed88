/- What the code computes, function for function, as shallow propositions; printed by program. -/
import Derived.Test.YtifkffmecfgpeaaMeanG
namespace Go.Proofs.Ytifkffmecfgpeaa.core
open Go.Gx Go.RowKit Go.ChangeShapes Go.WideShapes Go.ChangeAt
set_option linter.unusedVariables false
structure X_pack_Parser where
 G_Rules_a : Option Addr
 G_Rules_l : Nat
 G_Rules_c : Nat
 S : List UInt8
 seen : Option Nat
 log_a : Option Addr
 log_l : Nat
 log_c : Nat
 far : Int
 want : X_api_Set
 Node : Value
 first_a : Option Addr
 first_l : Nat
 first_c : Nat
def X_pack_Parser.cells (x : X_pack_Parser) : List Value := [(.slice x.G_Rules_a x.G_Rules_l x.G_Rules_c), (.string (mkS x.S)), (.map x.seen), (.slice x.log_a x.log_l x.log_c), (.int .i64 x.far), (.int .u64 x.want.w0), (.int .u64 x.want.w1), (.int .u64 x.want.w2), (.int .u64 x.want.w3), x.Node, (.slice x.first_a x.first_l x.first_c)]
def X_pack_Parser.val (x : X_pack_Parser) : Value := .agg x.cells.toArray
structure X_pack_key where
 rule : Int
 f_at : Int
def X_pack_key.cells (x : X_pack_key) : List Value := [(.int .i64 x.rule), (.int .i64 x.f_at)]
def X_pack_key.val (x : X_pack_key) : Value := .agg x.cells.toArray
structure X_api_Step where
 Rule : Int
 At : Int
 Out : X_api_Outcome
def X_api_Step.cells (x : X_api_Step) : List Value := [(.int .i64 x.Rule), (.int .i64 x.At), (.bool x.Out.Ok), (.int .i64 x.Out.N)]
def X_api_Step.val (x : X_api_Step) : Value := .agg x.cells.toArray
def S_pack_count (e1 : X_api_Expr) (M : Mem) (L : Nat → Prop) (K : Value → Mem → Prop) : Prop :=
 (∃ (G25 : Type) (I23 : G25 → Int → Int → Mem → Prop) (mu24 : G25 → Int → Int → Nat) (gz27 : G25), I23 gz27 1 0 M ∧ ∀ (gh26 : G25) (n20 : Int) (x21 : Int) (M22 : Mem), (I23 gh26 n20 x21 M22 → ((x21 < ((e1.Kids_l : Nat) : Int) → (∃ (b28 o29 : Nat), e1.Kids_a = some ⟨b28, o29, none⟩ ∧ (0 : Int) ≤ x21 ∧ x21 < ((e1.Kids_l : Nat) : Int) ∧ (∃ (x30 : X_api_Expr), At M22 b28 (o29 + x21.toNat * 7) x30.cells ∧ (CallW Try.prog 121 #[x30.val] M22 (Wr L M) (fun v M33 => ∃ (x32 : Int), v = (Value.int .i64 x32) ∧ (InI (n20 + x32) ∧ (InI (x21 + 1) ∧ ∃ (gh : G25), I23 gh (n20 + x32) (x21 + 1) M33 ∧ mu24 gh (n20 + x32) (x21 + 1) < mu24 gh26 n20 x21))))))) ∧ (¬ (x21 < ((e1.Kids_l : Nat) : Int)) → (∀ M', M22.le M' → K (Value.int .i64 n20) M')))))
set_option maxRecDepth 100000 in
theorem s_pack_count (e1 : X_api_Expr) (M : Mem) (L : Nat → Prop) (K : Value → Mem → Prop) (hS : S_pack_count e1 M L K) : CallW Try.prog 121 #[e1.val] M L K := by
 refine enterW Try.func121 rfl 19 rfl (Nat.le_of_ble_eq_true rfl) (fun E a hs => ?_)
 unfold S_pack_count at hS
 have hMM := WX.refl M E
 change Sx 19 E (bwW E M L) M E a [(0, e1.val)] [] [] at hs
 refine Wp.seq (Wp.region (stepBox e1.cells hs rfl rfl rfl (by decide) (fun _ _ b2 hEb2 hs => ?_)))
 refine sP (iv 0) hs fun _ hs => ?_
 refine wpList_nil (Wp.seq (Wp.region (sP (iv 1) hs fun _ hs => ?_)))
 refine wpList_nil (Wp.seq (Wp.seq (Wp.region (sP (pt b2 6) hs fun _ hs => ?_))))
 refine sY (.slice e1.Kids_a e1.Kids_l e1.Kids_c) hs (Yl.lB [(.slice e1.Kids_a e1.Kids_l e1.Kids_c)] false 0) fun _ hs => ?_
 refine sP (iv ((e1.Kids_l : Nat) : Int)) hs fun _ hs => ?_
 refine sP (iv 0) hs fun _ hs => ?_
 refine wpList_nil (Wp.block ?_)
 obtain ⟨G25, I23, mu24, gz27, hI0, hst⟩ := hS
 refine Wp.loop (σ := G25 × (Int) × (Int) × (Mem)) (fun s a w => match s with | (gh26, n20, x21, M22) => WX M22 M E ∧ Sx 19 E (bwW E M L) M22 w a [(3, (iv n20)), (7, (.slice e1.Kids_a e1.Kids_l e1.Kids_c)), (8, (iv ((e1.Kids_l : Nat) : Int))), (9, (iv x21))] [⟨b2, 109, e1.cells⟩] [] ∧ I23 gh26 n20 x21 M22) (fun s => match s with | (gh26, n20, x21, M22) => mu24 gh26 n20 x21) (gz27, 1, 0, M) ⟨hMM, (hs.wk ⟨rfl, rfl, rfl, rfl, trivial⟩), hI0⟩ (fun s a w hI => ?_)
 obtain ⟨gh26, n20, x21, M22⟩ := s
 obtain ⟨hMM, hs, hI⟩ := hI
 have hS := hst gh26 n20 x21 M22 hI
 clear hst hI0 hI
 refine Wp.seq (Wp.region (sP (.bool (decide (x21 < ((e1.Kids_l : Nat) : Int)))) hs fun _ hs => ?_))
 refine wpList_nil (Wp.seq (Wp.cond hs rfl rfl decide_eq_true_iff (fun hc => ?_) (fun hc => ?_)))
 ·have hS := hS.1 hc
  refine Wp.skip (Wp.seq (Wp.block (Wp.seq (Wp.region ?_))))
  obtain ⟨b28, o29, ha, h0, hl, hS⟩ := hS
  refine sY (.pointer (some ⟨b28, o29 + x21.toNat * 7, none⟩)) hs (Yl.indexS (e := 109) (sz := 7) rfl rfl rfl rfl (by kernel_rfl) (by kernel_rfl) ha h0 hl) fun _ hs => ?_
  obtain ⟨x30, hat, hS⟩ := hS
  refine sY x30.val hs (Yl.loadV (vs := x30.cells) true rfl rfl (by kernel_rfl) hat) fun _ hs => ?_
  refine stepAlloc [(iv 0), (.int .u64 0), (.int .u64 0), (.int .u64 0), (.int .u64 0), (.string (mkS [])), (.slice none 0 0)] hs (by kernel_rfl) (by decide) (fun _ _ b31 hEb31 hs => ?_)
  have hs := hs.nilrow 109 7
  refine stB 0 x30.cells [⟨b31, 109, x30.cells⟩, ⟨b2, 109, e1.cells⟩] hs fun _ _ hs => ?_
  refine wpList_nil (Wp.region (sP (iv n20) hs fun _ hs => ?_))
  refine sY x30.val hs (Yl.lB x30.cells true 0) fun _ hs => ?_
  refine stepCallW [x30.val] hs hMM rfl ⟨_, rfl, rfl⟩ rfl Try.func121 rfl (by kernel_rfl) (by decide) hS (fun _ _ M33 v hMM hS hs => ?_)
  obtain ⟨x32, hv, hS⟩ := hS
  subst hv
  obtain ⟨hI, hS⟩ := hS
  refine sY (iv (n20 + x32)) hs (Yl.eq (Yl.pure (v := Value.int .i64 (IntKind.wrap .i64 (n20 + x32))) rfl (fun _ => by kernel_rfl)) (congrArg (Value.int .i64) (wrap_in hI))) fun _ hs => ?_
  refine sP (iv (n20 + x32)) hs fun _ hs => ?_
  refine wpList_nil (Wp.region ?_)
  obtain ⟨hI, hS⟩ := hS
  refine sY (iv (x21 + 1)) hs (Yl.eq (Yl.pure (v := Value.int .i64 (IntKind.wrap .i64 (x21 + 1))) rfl (fun _ => by kernel_rfl)) (congrArg (Value.int .i64) (wrap_in hI))) fun _ hs => ?_
  refine sP (iv (x21 + 1)) hs fun _ hs => ?_
  refine wpList_nil ?_
  obtain ⟨gh, hI1, hI2⟩ := hS
  exact ⟨(gh, n20 + x32, x21 + 1, M33), ⟨hMM, (hs.weak (.cons _ (.cons_cons _ List.Sublist.slnil)) (.cons _ List.Sublist.slnil) ⟨rfl, rfl, rfl, rfl, trivial⟩), hI1⟩, hI2⟩
 ·have hS := hS.2 hc
  refine Wp.exit rfl (Wp.seq (Wp.region (sP (iv n20) hs fun _ hs => ?_)))
  refine sP (iv n20) hs fun _ hs => ?_
  exact wpList_nil (Wp.ret (leaveW (K := K) hs (resT hs rfl rfl) hMM hS))
def S_pack_New (ga1 : Option Addr) (gl2 : Nat) (gc3 : Nat) (s4 : List UInt8) (M : Mem) (L : Nat → Prop) (K : Value → Mem → Prop) : Prop :=
 (∀ (M6 : Mem) (r7 : Nat), M r7 = none → M6 = M.add r7 (.map #[] 0) → M r7 = none → (∃ (G49 : Type) (I47 : G49 → Int → Int → Nat → List Value → Mem → Prop) (mu48 : G49 → Int → Int → Nat → List Value → Nat) (gz51 : G49), I47 gz51 0 0 0 [] M6 ∧ ∀ (gh50 : G49) (n41 : Int) (x42 : Int) (rn44 : Nat) (rx45 : List Value) (M46 : Mem), (I47 gh50 n41 x42 rn44 rx45 M46 → ((x42 < ((gl2 : Nat) : Int) → (∃ (b52 o53 : Nat), ga1 = some ⟨b52, o53, none⟩ ∧ (0 : Int) ≤ x42 ∧ x42 < ((gl2 : Nat) : Int) ∧ (∃ (x54 : X_api_Rule), At M46 b52 (o53 + x42.toNat * 8) x54.cells ∧ ((rn44 + 1) * 8 ≤ 140737488355328 ∧ (CallW Try.prog 121 #[x54.Body.val] M46 (Wr L M) (fun v M63 => ∃ (x62 : Int), v = (Value.int .i64 x62) ∧ (InI (n41 + x62) ∧ (InI (x42 + 1) ∧ ∃ (gh : G49), I47 gh (n41 + x62) (x42 + 1) (rn44 + 1) (rx45 ++ [(.int .i64 n41)]) M63 ∧ mu48 gh (n41 + x62) (x42 + 1) (rn44 + 1) (rx45 ++ [(.int .i64 n41)]) < mu48 gh50 n41 x42 rn44 rx45)))))))) ∧ (¬ (x42 < ((gl2 : Nat) : Int)) → (∀ (M64 : Mem), NewRow M46 M64 62 4 none 0 0 [] → (∀ (M67 : Mem) (ad65 : Option Addr) (cap66 : Nat), NewRow M64 M67 3 1 ad65 rn44 cap66 rx45 → (∀ (b8 : Nat), (∀ (M68 : Mem), M67 b8 = none → M68 = M67.add b8 (.cells [(.slice ga1 gl2 gc3), (.string (mkS s4)), (.map (some r7)), (.slice none 0 0), (.int .i64 (-1)), (.int .u64 0), (.int .u64 0), (.int .u64 0), (.int .u64 0), Value.nilFunc, (.slice ad65 rn44 cap66)].toArray 136 (0, 0)) → (∀ M', M68.le M' → K (Value.pointer (some ⟨b8, 0, none⟩)) M'))))))))))
set_option maxRecDepth 100000 in
theorem s_pack_New (ga1 : Option Addr) (gl2 : Nat) (gc3 : Nat) (s4 : List UInt8) (M : Mem) (L : Nat → Prop) (K : Value → Mem → Prop) (hS : S_pack_New ga1 gl2 gc3 s4 M L K) : CallW Try.prog 70 #[(Value.agg #[(Value.slice ga1 gl2 gc3)]), (Value.string (mkS s4))] M L K := by
 refine enterW Try.func70 rfl 38 rfl (Nat.le_of_ble_eq_true rfl) (fun E a hs => ?_)
 unfold S_pack_New at hS
 have hMM := WX.refl M E
 change Sx 38 E (bwW E M L) M E a [(0, (.agg #[(.slice ga1 gl2 gc3)])), (1, (.string (mkS s4)))] [] [] at hs
 refine Wp.seq (Wp.region (stepBox [(.slice ga1 gl2 gc3)] hs rfl rfl rfl (by decide) (fun _ _ b5 hEb5 hs => ?_)))
 refine sP (.pointer none) hs fun _ hs => ?_
 refine wpList_nil (Wp.seq (Wp.region (sY (.agg #[(.slice ga1 gl2 gc3)]) hs (Yl.lB [(.slice ga1 gl2 gc3)] true 0) fun _ hs => ?_)))
 refine sP (.string (mkS s4)) hs fun _ hs => ?_
 refine stepMapNew hs hMM (by decide) (fun _ _ M6 r7 hMr hM2 hM0 hMM hs => ?_)
 have hS := hS M6 r7 hMr hM2 hM0
 refine sP (X_pack_Parser.mk ga1 gl2 gc3 s4 (some r7) none 0 0 (-1) (X_api_Set.mk 0 0 0 0) Value.nilFunc none 0 0).val hs fun _ hs => ?_
 refine stepBox [(.slice ga1 gl2 gc3), (.string (mkS s4)), (.map (some r7)), (.slice none 0 0), (iv (-1)), (.int .u64 0), (.int .u64 0), (.int .u64 0), (.int .u64 0), Value.nilFunc, (.slice none 0 0)] hs rfl rfl rfl (by decide) (fun _ _ b8 hEb8 hs => ?_)
 have hs := hs.nilrow 3 1
 have hs := hs.nilrow 62 4
 refine sP (pt b8 0) hs fun _ hs => ?_
 refine wpList_nil (Wp.seq (Wp.region (sP (iv 0) hs fun _ hs => ?_)))
 refine wpList_nil (Wp.seq (Wp.seq (Wp.region (sP (pt b5 0) hs fun _ hs => ?_))))
 refine sY (.slice ga1 gl2 gc3) hs (Yl.lB [(.slice ga1 gl2 gc3)] false 1) fun _ hs => ?_
 refine sP (iv ((gl2 : Nat) : Int)) hs fun _ hs => ?_
 refine sP (iv 0) hs fun _ hs => ?_
 refine wpList_nil (Wp.block ?_)
 obtain ⟨G49, I47, mu48, gz51, hI0, hst⟩ := hS
 refine Wp.loop (σ := G49 × (Int) × (Int) × (Nat) × (List Value) × (Value) × (Mem)) (fun s a w => match s with | (gh50, n41, x42, rn44, rx45, rv43, M46) => WX M46 M E ∧ Sx 38 E (bwW E M L) M46 w a [(5, (pt b8 0)), (6, (iv n41)), (15, (.slice ga1 gl2 gc3)), (16, (iv ((gl2 : Nat) : Int))), (17, (iv x42))] [⟨b8, 136, [(.slice ga1 gl2 gc3), (.string (mkS s4)), (.map (some r7)), (.slice none 0 0), (iv (-1)), (.int .u64 0), (.int .u64 0), (.int .u64 0), (.int .u64 0), Value.nilFunc, rv43]⟩, ⟨b5, 24, [(.slice ga1 gl2 gc3)]⟩] [⟨(Value.slice none 0 0), 62, 4, 0, [], true⟩, ⟨rv43, 3, 1, rn44, rx45, true⟩] ∧ I47 gh50 n41 x42 rn44 rx45 M46) (fun s => match s with | (gh50, n41, x42, rn44, rx45, rv43, M46) => mu48 gh50 n41 x42 rn44 rx45) (gz51, 0, 0, 0, [], (.slice none 0 0), M6) ⟨hMM, (hs.wk ⟨rfl, rfl, rfl, rfl, rfl, trivial⟩), hI0⟩ (fun s a w hI => ?_)
 obtain ⟨gh50, n41, x42, rn44, rx45, rv43, M46⟩ := s
 obtain ⟨hMM, hs, hI⟩ := hI
 have hS := hst gh50 n41 x42 rn44 rx45 M46 hI
 clear hst hI0 hI
 refine Wp.seq (Wp.region (sP (.bool (decide (x42 < ((gl2 : Nat) : Int)))) hs fun _ hs => ?_))
 refine wpList_nil (Wp.seq (Wp.cond hs rfl rfl decide_eq_true_iff (fun hc => ?_) (fun hc => ?_)))
 ·have hS := hS.1 hc
  refine Wp.skip (Wp.seq (Wp.block (Wp.seq (Wp.region ?_))))
  obtain ⟨b52, o53, ha, h0, hl, hS⟩ := hS
  refine sY (.pointer (some ⟨b52, o53 + x42.toNat * 8, none⟩)) hs (Yl.indexS (e := 111) (sz := 8) rfl rfl rfl rfl (by kernel_rfl) (by kernel_rfl) ha h0 hl) fun _ hs => ?_
  obtain ⟨x54, hat, hS⟩ := hS
  refine sY x54.val hs (Yl.loadV (vs := x54.cells) true rfl rfl (by kernel_rfl) hat) fun _ hs => ?_
  refine stepAlloc [(.string (mkS [])), (iv 0), (.int .u64 0), (.int .u64 0), (.int .u64 0), (.int .u64 0), (.string (mkS [])), (.slice none 0 0)] hs (by kernel_rfl) (by decide) (fun _ _ b55 hEb55 hs => ?_)
  refine stB 0 x54.cells [⟨b55, 111, x54.cells⟩, ⟨b8, 136, [(.slice ga1 gl2 gc3), (.string (mkS s4)), (.map (some r7)), (.slice none 0 0), (iv (-1)), (.int .u64 0), (.int .u64 0), (.int .u64 0), (.int .u64 0), Value.nilFunc, rv43]⟩, ⟨b5, 24, [(.slice ga1 gl2 gc3)]⟩] hs fun _ _ hs => ?_
  refine wpList_nil (Wp.seq (Wp.region (sP (pt b8 0) hs fun _ hs => ?_)))
  refine sP (pt b8 0) hs fun _ hs => ?_
  refine sP (pt b8 0) hs fun _ hs => ?_
  refine sP (pt b8 10) hs fun _ hs => ?_
  refine sY rv43 hs (Yl.lB [rv43] false 1) fun _ hs => ?_
  refine sP (iv n41) hs fun _ hs => ?_
  refine stepMake [(iv n41)] 3 1 1 hs rfl rfl rfl (fun _ => by kernel_rfl) rfl (by unfold maxLen; decide) (by decide) (fun _ _ rv56 hs => ?_)
  obtain ⟨ad57, cap58, hv, hcp, hxl⟩ := hs.rowform 0 rfl
  dsimp only at hv hcp hxl
  subst hv
  obtain ⟨hB, hS⟩ := hS
  refine stepAppend 2 [(iv n41)] hs rfl rfl rfl rfl rfl (by kernel_rfl) (by kernel_rfl) (by decide) (by decide) (hs.srcRow 0 rfl rfl) (lenb hB (by decide)) hB (fun _ _ rv59 hs => ?_)
  replace hs := hs.chrs (rs' := [⟨(Value.slice ad57 1 cap58), 3, 1, 1, [(iv n41)], true⟩, ⟨(Value.slice none 0 0), 62, 4, 0, [], true⟩, ⟨rv59, 3, 1, (rn44 + 1), (rx45 ++ [(iv n41)]), true⟩]) rfl
  refine sP (pt b8 0) hs fun _ hs => ?_
  refine sP (pt b8 10) hs fun _ hs => ?_
  obtain ⟨ad60, cap61, hv, hcp, hxl⟩ := hs.rowform 2 rfl
  dsimp only at hv hcp hxl
  subst hv
  refine stB 1 [(.slice ad60 (rn44 + 1) cap61)] [⟨b55, 111, x54.cells⟩, ⟨b8, 136, [(.slice ga1 gl2 gc3), (.string (mkS s4)), (.map (some r7)), (.slice none 0 0), (iv (-1)), (.int .u64 0), (.int .u64 0), (.int .u64 0), (.int .u64 0), Value.nilFunc, (.slice ad60 (rn44 + 1) cap61)]⟩, ⟨b5, 24, [(.slice ga1 gl2 gc3)]⟩] hs fun _ _ hs => ?_
  refine wpList_nil (Wp.region (sP (iv n41) hs fun _ hs => ?_))
  refine sP (pt b55 1) hs fun _ hs => ?_
  refine sY x54.Body.val hs (Yl.lB x54.Body.cells true 0) fun _ hs => ?_
  refine stepCallW [x54.Body.val] hs hMM rfl ⟨_, rfl, rfl⟩ rfl Try.func121 rfl (by kernel_rfl) (by decide) hS (fun _ _ M63 v hMM hS hs => ?_)
  obtain ⟨x62, hv, hS⟩ := hS
  subst hv
  obtain ⟨hI, hS⟩ := hS
  refine sY (iv (n41 + x62)) hs (Yl.eq (Yl.pure (v := Value.int .i64 (IntKind.wrap .i64 (n41 + x62))) rfl (fun _ => by kernel_rfl)) (congrArg (Value.int .i64) (wrap_in hI))) fun _ hs => ?_
  refine sP (iv (n41 + x62)) hs fun _ hs => ?_
  refine wpList_nil (Wp.region ?_)
  obtain ⟨hI, hS⟩ := hS
  refine sY (iv (x42 + 1)) hs (Yl.eq (Yl.pure (v := Value.int .i64 (IntKind.wrap .i64 (x42 + 1))) rfl (fun _ => by kernel_rfl)) (congrArg (Value.int .i64) (wrap_in hI))) fun _ hs => ?_
  refine sP (iv (x42 + 1)) hs fun _ hs => ?_
  refine wpList_nil ?_
  obtain ⟨gh, hI1, hI2⟩ := hS
  exact ⟨(gh, n41 + x62, x42 + 1, (rn44 + 1), (rx45 ++ [(iv n41)]), (.slice ad60 (rn44 + 1) cap61), M63), ⟨hMM, (hs.weak (.cons _ (.cons_cons _ (.cons_cons _ List.Sublist.slnil))) (.cons _ (.cons_cons _ (.cons_cons _ List.Sublist.slnil))) ⟨rfl, rfl, rfl, rfl, rfl, trivial⟩), hI1⟩, hI2⟩
 ·have hS := hS.2 hc
  refine Wp.exit rfl (Wp.seq (Wp.region (sP (pt b8 0) hs fun _ hs => ?_)))
  refine sP (pt b8 0) hs fun _ hs => ?_
  refine wpList_nil (Wp.ret ?_)
  obtain ⟨M64, hnr, hMM, hs⟩ := hs.releaseW hMM 0 rfl [⟨rv43, 3, 1, rn44, rx45, true⟩] rfl
  have hS := hS M64 hnr
  obtain ⟨ad65, cap66, hv, hcp, hxl⟩ := hs.rowform 0 rfl
  dsimp only at hv hcp hxl
  subst hv
  obtain ⟨M67, hnr, hMM, hs⟩ := hs.releaseW hMM 0 rfl [] rfl
  have hS := hS M67 ad65 cap66 hnr
  have hS := hS b8
  obtain ⟨M68, hM2, hno, hMM, hs⟩ := hs.freezeW hMM 0 rfl hEb8 rfl
  have hS := hS M68 hno hM2
  exact leaveW (K := K) hs (resT hs rfl rfl) hMM hS
def S_pack_Parser_miss_J1 (p1 : Option Addr) (at2 : Int) (want3 : X_api_Set) (M : Mem) (L : Nat → Prop) (M14 : Mem) (K : Value → Mem → Prop) : Prop :=
 (∃ (b15 o16 : Nat), p1 = some ⟨b15, o16, none⟩ ∧ (∃ (x17 : Int), At M14 b15 (o16 + 4) [(.int .i64 x17)] ∧ (((at2 : Int) = x17 → (∃ (b18 o19 : Nat), p1 = some ⟨b18, o19, none⟩ ∧ (∃ (x20 : X_api_Set), At M14 b18 (o19 + 5) x20.cells ∧ (CallE Try.prog 183 #[x20.val, want3.val] M14 (fun v _ => ∃ (x21 : X_api_Set), v = x21.val ∧ (∃ (b22 o23 : Nat), p1 = some ⟨b22, o23, none⟩ ∧ (Has M14 b22 (o23 + 5) 4 ∧ Wr L M b22 ∧ ∀ (M24 : Mem), M24 = M14.put b22 (o23 + 5) x21.cells → (∀ M', M24.le M' → K (Value.tuple #[]) M')))))))) ∧ (¬ ((at2 : Int) = x17) → (∀ M', M14.le M' → K (Value.tuple #[]) M')))))
def S_pack_Parser_miss (p1 : Option Addr) (at2 : Int) (want3 : X_api_Set) (M : Mem) (L : Nat → Prop) (K : Value → Mem → Prop) : Prop :=
 (∃ (b5 o6 : Nat), p1 = some ⟨b5, o6, none⟩ ∧ (∃ (x7 : Int), At M b5 (o6 + 4) [(.int .i64 x7)] ∧ ((at2 > x7 → (∃ (b8 o9 : Nat), p1 = some ⟨b8, o9, none⟩ ∧ (Has M b8 (o9 + 4) 1 ∧ Wr L M b8 ∧ ∀ (M10 : Mem), M10 = M.put b8 (o9 + 4) [(.int .i64 at2)] → (∃ (b11 o12 : Nat), p1 = some ⟨b11, o12, none⟩ ∧ (Has M10 b11 (o12 + 5) 4 ∧ Wr L M b11 ∧ ∀ (M13 : Mem), M13 = M10.put b11 (o12 + 5) (X_api_Set.mk 0 0 0 0).cells → (S_pack_Parser_miss_J1 p1 at2 want3 M L M13 K)))))) ∧ (¬ (at2 > x7) → (S_pack_Parser_miss_J1 p1 at2 want3 M L M K)))))
set_option maxRecDepth 100000 in
theorem s_pack_Parser_miss (p1 : Option Addr) (at2 : Int) (want3 : X_api_Set) (M : Mem) (L : Nat → Prop) (K : Value → Mem → Prop) (hS : S_pack_Parser_miss p1 at2 want3 M L K) : CallW Try.prog 164 #[(Value.pointer p1), (Value.int .i64 at2), want3.val] M L K := by
 refine enterW Try.func164 rfl 35 rfl (Nat.le_of_ble_eq_true rfl) (fun E a hs => ?_)
 unfold S_pack_Parser_miss at hS
 have hMM := WX.refl M E
 change Sx 35 E (bwW E M L) M E a [(0, (.pointer p1)), (1, (iv at2)), (2, want3.val)] [] [] at hs
 refine Wp.seq (Wp.region (stepBox want3.cells hs rfl rfl rfl (by decide) (fun _ _ b4 hEb4 hs => ?_)))
 refine wpList_nil (Wp.join (fun a w => ∃ (M14 : Mem), WX M14 M E ∧ Sx 35 E (bwW E M L) M14 w a [(0, (.pointer p1)), (1, (iv at2)), (5, (pt b4 0))] [⟨b4, 48, want3.cells⟩] [] ∧ (S_pack_Parser_miss_J1 p1 at2 want3 M L M14 K)) ?_ ?_)
 ·refine Wp.seq (Wp.region (sP (iv at2) hs fun _ hs => ?_))
  refine sP (.pointer p1) hs fun _ hs => ?_
  obtain ⟨b5, o6, hp, hS⟩ := hS
  refine sY (.pointer (some ⟨b5, o6, none⟩)) hs (Yl.nilck rfl rfl hp) fun _ hs => ?_
  refine sP (.pointer (some ⟨b5, o6 + 4, none⟩)) hs fun _ hs => ?_
  obtain ⟨x7, hat, hS⟩ := hS
  refine sY (iv x7) hs (Yl.loadV (vs := [(iv x7)]) false rfl rfl (by kernel_rfl) hat) fun _ hs => ?_
  refine sP (.bool (decide (at2 > x7))) hs fun _ hs => ?_
  refine wpList_nil (Wp.cond hs rfl rfl decide_eq_true_iff (fun hc => ?_) (fun hc => ?_))
  ·have hS := hS.1 hc
   refine Wp.region (sP (.pointer p1) hs fun _ hs => ?_)
   refine sP (.pointer p1) hs fun _ hs => ?_
   refine sP (iv at2) hs fun _ hs => ?_
   refine sP (X_api_Set.mk 0 0 0 0).val hs fun _ hs => ?_
   obtain ⟨b8, o9, hp, hS⟩ := hS
   refine sY (.pointer (some ⟨b8, o9, none⟩)) hs (Yl.nilck rfl rfl hp) fun _ hs => ?_
   refine sP (.pointer (some ⟨b8, o9 + 4, none⟩)) hs fun _ hs => ?_
   obtain ⟨hhas, hwr, hS⟩ := hS
   refine stepStoreW (vs := [(iv at2)]) hs hMM rfl rfl rfl rfl rfl (by kernel_rfl) rfl hhas hwr (fun _ _ M10 hM2 hMM hs => ?_)
   have hS := hS M10 hM2
   obtain ⟨b11, o12, hp, hS⟩ := hS
   refine sY (.pointer (some ⟨b11, o12, none⟩)) hs (Yl.nilck rfl rfl hp) fun _ hs => ?_
   refine sP (.pointer (some ⟨b11, o12 + 5, none⟩)) hs fun _ hs => ?_
   obtain ⟨hhas, hwr, hS⟩ := hS
   refine stepStoreW (vs := (X_api_Set.mk 0 0 0 0).cells) hs hMM rfl rfl rfl rfl rfl (by kernel_rfl) rfl hhas hwr (fun _ _ M13 hM2 hMM hs => ?_)
   have hS := hS M13 hM2
   exact wpList_nil (⟨M13, hMM, (hs.wk ⟨rfl, rfl, rfl, trivial⟩), hS⟩)
  ·have hS := hS.2 hc
   exact Wp.skip (⟨M, hMM, (hs.wk ⟨rfl, rfl, rfl, trivial⟩), hS⟩)
 ·intro a w hJ
  obtain ⟨M14, hMM, hs, hS⟩ := hJ
  unfold S_pack_Parser_miss_J1 at hS
  refine Wp.seq (Wp.region (sP (iv at2) hs fun _ hs => ?_))
  refine sP (.pointer p1) hs fun _ hs => ?_
  obtain ⟨b15, o16, hp, hS⟩ := hS
  refine sY (.pointer (some ⟨b15, o16, none⟩)) hs (Yl.nilck rfl rfl hp) fun _ hs => ?_
  refine sP (.pointer (some ⟨b15, o16 + 4, none⟩)) hs fun _ hs => ?_
  obtain ⟨x17, hat, hS⟩ := hS
  refine sY (iv x17) hs (Yl.loadV (vs := [(iv x17)]) false rfl rfl (by kernel_rfl) hat) fun _ hs => ?_
  refine sP (.bool ((at2 : Int) == (x17 : Int))) hs fun _ hs => ?_
  refine wpList_nil (Wp.cond hs rfl rfl beq_iff_eq (fun hc => ?_) (fun hc => ?_))
  ·have hS := hS.1 hc
   refine Wp.regionD [true, true, true, true, true, true, false, true, true, false] hs (by kernel_rfl) rfl [⟨b4, 48, want3.cells⟩] (fun _ h => h) [] (fun _ h => h) (fun _ hs hC => ?_)
   have hL := Mem.le.refl M14
   refine dP (Value.pointer p1) 0 [7, 8, 9] hs QZ.no (wanted_none rfl) fun _ hs => ?_
   refine dP (Value.pointer p1) 1 [2, 3, 4, 6, 7, 8, 9] hs QZ.no (wanted_none rfl) fun _ hs => ?_
   obtain ⟨b18, o19, hp, hS⟩ := hS
   refine stepDP (v := (.pointer (some ⟨b18, o19, none⟩))) 2 [3, 4, 6, 7, 8, 9] hs QZ.no rfl (wanted_none rfl) rfl (by decide) (by kernel_rfl) (by kernel_rfl) (by kernel_rfl) (Yl.nilck rfl rfl hp) (fun _ hs => ?_)
   refine dP (Value.pointer (some ⟨b18, o19 + 5, none⟩)) 3 [4, 6, 7, 8, 9] hs QZ.no (wanted_none rfl) fun _ hs => ?_
   obtain ⟨x20, hat, hS⟩ := hS
   refine stepDY (v := x20.val) 4 [6, 7, 8, 9] hs hC QZ.no rfl (wanted_none rfl) rfl (by decide) (by kernel_rfl) (by kernel_rfl) (by kernel_rfl) (Yl.loadV (vs := x20.cells) true rfl rfl (by kernel_rfl) hat) (fun _ hs => ?_)
   refine sE 5 ?_
   refine sY want3.val hs (Yl.lB want3.cells true 0) fun _ hs => ?_
   refine wpList_nil (⟨fun _ h => h, ?_⟩)
   refine sE 6 ?_
   refine stepCallP [x20.val, want3.val] hs rfl ⟨_, rfl, rfl⟩ rfl Try.func183 rfl (by kernel_rfl) (by decide) hS (fun _ _ v hS hs => ?_)
   obtain ⟨x21, hv, hS⟩ := hS
   subst hv
   refine wpList_nil (⟨fun h => absurd h (by decide), ?_⟩)
   refine sE 7 ?_
   obtain ⟨b22, o23, hp, hS⟩ := hS
   refine sY (.pointer (some ⟨b22, o23, none⟩)) hs (Yl.nilck rfl rfl hp) fun _ hs => ?_
   refine wpList_nil (⟨fun _ h => h, ?_⟩)
   refine sE 8 ?_
   refine sP (.pointer (some ⟨b22, o23 + 5, none⟩)) hs fun _ hs => ?_
   refine wpList_nil (⟨fun _ h => h, ?_⟩)
   refine sE 9 ?_
   obtain ⟨hhas, hwr, hS⟩ := hS
   refine stepStoreW (vs := x21.cells) hs hMM rfl rfl rfl rfl rfl (by kernel_rfl) rfl hhas hwr (fun _ _ M24 hM2 hMM hs => ?_)
   have hS := hS M24 hM2
   refine wpList_nil (⟨fun h => absurd h (by decide), ?_⟩)
   refine WpD.done (by kernel_rfl) ?_ _
   exact leaveW (K := K) hs (res hs rfl) hMM hS
  ·have hS := hS.2 hc
   exact Wp.skip (leaveW (K := K) hs (res hs rfl) hMM hS)
def S_pack_Parser_seq (p1 : Option Addr) (e2 : X_api_Expr) (n3 : Int) (at4 : Int) (M : Mem) (L : Nat → Prop) (K : Value → Mem → Prop) : Prop :=
 (InI (n3 + 1) ∧ (∃ (G37 : Type) (I35 : G37 → Int → Int → Int → Mem → Prop) (mu36 : G37 → Int → Int → Int → Nat) (gz39 : G37), I35 gz39 at4 (n3 + 1) 0 M ∧ ∀ (gh38 : G37) (at31 : Int) (k32 : Int) (x33 : Int) (M34 : Mem), (I35 gh38 at31 k32 x33 M34 → ((x33 < ((e2.Kids_l : Nat) : Int) → (∃ (b40 o41 : Nat), e2.Kids_a = some ⟨b40, o41, none⟩ ∧ (0 : Int) ≤ x33 ∧ x33 < ((e2.Kids_l : Nat) : Int) ∧ (∃ (x42 : X_api_Expr), At M34 b40 (o41 + x33.toNat * 7) x42.cells ∧ (CallW Try.prog 122 #[(.pointer p1), x42.val, (.int .i64 k32), (.int .i64 at31)] M34 (Wr L M) (fun v M46 => ∃ (x44 : Int) (x45 : Bool), v = (Value.tuple #[(.int .i64 x44), (.bool x45)]) ∧ ((¬ (x45 = true) → (∀ M', M46.le M' → K (Value.tuple #[(.int .i64 0), (.bool false)]) M')) ∧ (¬ (¬ (x45 = true)) → (CallW Try.prog 121 #[x42.val] M46 (Wr L M) (fun v M48 => ∃ (x47 : Int), v = (Value.int .i64 x47) ∧ (InI (k32 + x47) ∧ (InI (x33 + 1) ∧ ∃ (gh : G37), I35 gh x44 (k32 + x47) (x33 + 1) M48 ∧ mu36 gh x44 (k32 + x47) (x33 + 1) < mu36 gh38 at31 k32 x33))))))))))) ∧ (¬ (x33 < ((e2.Kids_l : Nat) : Int)) → (∀ M', M34.le M' → K (Value.tuple #[(.int .i64 at31), (.bool true)]) M'))))))
set_option maxRecDepth 100000 in
theorem s_pack_Parser_seq (p1 : Option Addr) (e2 : X_api_Expr) (n3 : Int) (at4 : Int) (M : Mem) (L : Nat → Prop) (K : Value → Mem → Prop) (hS : S_pack_Parser_seq p1 e2 n3 at4 M L K) : CallW Try.prog 166 #[(Value.pointer p1), e2.val, (Value.int .i64 n3), (Value.int .i64 at4)] M L K := by
 refine enterW Try.func166 rfl 41 rfl (Nat.le_of_ble_eq_true rfl) (fun E a hs => ?_)
 unfold S_pack_Parser_seq at hS
 have hMM := WX.refl M E
 change Sx 41 E (bwW E M L) M E a [(0, (.pointer p1)), (1, e2.val), (2, (iv n3)), (3, (iv at4))] [] [] at hs
 refine Wp.seq (Wp.region (stepBox e2.cells hs rfl rfl rfl (by decide) (fun _ _ b5 hEb5 hs => ?_)))
 refine sP (iv 0) hs fun _ hs => ?_
 refine sP (.bool false) hs fun _ hs => ?_
 refine wpList_nil (Wp.seq (Wp.region (sP (iv n3) hs fun _ hs => ?_)))
 obtain ⟨hI, hS⟩ := hS
 refine sY (iv (n3 + 1)) hs (Yl.eq (Yl.pure (v := Value.int .i64 (IntKind.wrap .i64 (n3 + 1))) rfl (fun _ => by kernel_rfl)) (congrArg (Value.int .i64) (wrap_in hI))) fun _ hs => ?_
 refine sP (iv (n3 + 1)) hs fun _ hs => ?_
 refine wpList_nil (Wp.seq (Wp.seq (Wp.region (sP (pt b5 6) hs fun _ hs => ?_))))
 refine sY (.slice e2.Kids_a e2.Kids_l e2.Kids_c) hs (Yl.lB [(.slice e2.Kids_a e2.Kids_l e2.Kids_c)] false 0) fun _ hs => ?_
 refine sP (iv ((e2.Kids_l : Nat) : Int)) hs fun _ hs => ?_
 refine sP (iv 0) hs fun _ hs => ?_
 refine wpList_nil (Wp.block ?_)
 obtain ⟨G37, I35, mu36, gz39, hI0, hst⟩ := hS
 refine Wp.loop (σ := G37 × (Int) × (Int) × (Int) × (Mem)) (fun s a w => match s with | (gh38, at31, k32, x33, M34) => WX M34 M E ∧ Sx 41 E (bwW E M L) M34 w a [(0, (.pointer p1)), (3, (iv at31)), (10, (iv k32)), (18, (.slice e2.Kids_a e2.Kids_l e2.Kids_c)), (19, (iv ((e2.Kids_l : Nat) : Int))), (20, (iv x33))] [⟨b5, 109, e2.cells⟩] [] ∧ I35 gh38 at31 k32 x33 M34) (fun s => match s with | (gh38, at31, k32, x33, M34) => mu36 gh38 at31 k32 x33) (gz39, at4, n3 + 1, 0, M) ⟨hMM, (hs.wk ⟨rfl, rfl, rfl, rfl, rfl, rfl, trivial⟩), hI0⟩ (fun s a w hI => ?_)
 obtain ⟨gh38, at31, k32, x33, M34⟩ := s
 obtain ⟨hMM, hs, hI⟩ := hI
 have hS := hst gh38 at31 k32 x33 M34 hI
 clear hst hI0 hI
 refine Wp.seq (Wp.region (sP (.bool (decide (x33 < ((e2.Kids_l : Nat) : Int)))) hs fun _ hs => ?_))
 refine wpList_nil (Wp.seq (Wp.cond hs rfl rfl decide_eq_true_iff (fun hc => ?_) (fun hc => ?_)))
 ·have hS := hS.1 hc
  refine Wp.skip (Wp.seq (Wp.block (Wp.seq (Wp.region ?_))))
  obtain ⟨b40, o41, ha, h0, hl, hS⟩ := hS
  refine sY (.pointer (some ⟨b40, o41 + x33.toNat * 7, none⟩)) hs (Yl.indexS (e := 109) (sz := 7) rfl rfl rfl rfl (by kernel_rfl) (by kernel_rfl) ha h0 hl) fun _ hs => ?_
  obtain ⟨x42, hat, hS⟩ := hS
  refine sY x42.val hs (Yl.loadV (vs := x42.cells) true rfl rfl (by kernel_rfl) hat) fun _ hs => ?_
  refine stepAlloc [(iv 0), (.int .u64 0), (.int .u64 0), (.int .u64 0), (.int .u64 0), (.string (mkS [])), (.slice none 0 0)] hs (by kernel_rfl) (by decide) (fun _ _ b43 hEb43 hs => ?_)
  have hs := hs.nilrow 109 7
  refine stB 0 x42.cells [⟨b43, 109, x42.cells⟩, ⟨b5, 109, e2.cells⟩] hs fun _ _ hs => ?_
  refine wpList_nil (Wp.seq (Wp.region (sP (.pointer p1) hs fun _ hs => ?_)))
  refine sY x42.val hs (Yl.lB x42.cells true 0) fun _ hs => ?_
  refine sP (iv k32) hs fun _ hs => ?_
  refine sP (iv at31) hs fun _ hs => ?_
  refine stepCallW [(.pointer p1), x42.val, (iv k32), (iv at31)] hs hMM rfl ⟨_, rfl, rfl⟩ rfl Try.func122 rfl (by kernel_rfl) (by decide) hS (fun _ _ M46 v hMM hS hs => ?_)
  obtain ⟨x44, x45, hv, hS⟩ := hS
  subst hv
  refine sP (Value.tuple #[(iv x44), (.bool x45)]) hs fun _ hs => ?_
  refine sP (iv x44) hs fun _ hs => ?_
  refine sP (.bool x45) hs fun _ hs => ?_
  refine sP (iv x44) hs fun _ hs => ?_
  refine sP (.bool x45) hs fun _ hs => ?_
  refine wpList_nil (Wp.seq (Wp.seq (Wp.region (sP (.bool x45) hs fun _ hs => ?_))))
  refine sP (.bool (!x45)) hs fun _ hs => ?_
  refine wpList_nil (Wp.cond hs rfl rfl (bnot_iff Iff.rfl) (fun hc => ?_) (fun hc => ?_))
  ·have hS := hS.1 hc
   refine Wp.seq (Wp.region (sP (iv 0) hs fun _ hs => ?_))
   refine sP (.bool false) hs fun _ hs => ?_
   exact wpList_nil (Wp.ret (leaveW (K := K) hs (resTT hs rfl rfl rfl) hMM hS))
  ·have hS := hS.2 hc
   refine Wp.skip (Wp.seq (Wp.region (sP (iv x44) hs fun _ hs => ?_)))
   refine sP (iv x44) hs fun _ hs => ?_
   refine wpList_nil (Wp.region (sP (iv k32) hs fun _ hs => ?_))
   refine sY x42.val hs (Yl.lB x42.cells true 0) fun _ hs => ?_
   refine stepCallW [x42.val] hs hMM rfl ⟨_, rfl, rfl⟩ rfl Try.func121 rfl (by kernel_rfl) (by decide) hS (fun _ _ M48 v hMM hS hs => ?_)
   obtain ⟨x47, hv, hS⟩ := hS
   subst hv
   obtain ⟨hI, hS⟩ := hS
   refine sY (iv (k32 + x47)) hs (Yl.eq (Yl.pure (v := Value.int .i64 (IntKind.wrap .i64 (k32 + x47))) rfl (fun _ => by kernel_rfl)) (congrArg (Value.int .i64) (wrap_in hI))) fun _ hs => ?_
   refine sP (iv (k32 + x47)) hs fun _ hs => ?_
   refine wpList_nil (Wp.region ?_)
   obtain ⟨hI, hS⟩ := hS
   refine sY (iv (x33 + 1)) hs (Yl.eq (Yl.pure (v := Value.int .i64 (IntKind.wrap .i64 (x33 + 1))) rfl (fun _ => by kernel_rfl)) (congrArg (Value.int .i64) (wrap_in hI))) fun _ hs => ?_
   refine sP (iv (x33 + 1)) hs fun _ hs => ?_
   refine wpList_nil ?_
   obtain ⟨gh, hI1, hI2⟩ := hS
   exact ⟨(gh, x44, k32 + x47, x33 + 1, M48), ⟨hMM, (hs.weak (.cons _ (.cons_cons _ List.Sublist.slnil)) (.cons _ List.Sublist.slnil) ⟨rfl, rfl, rfl, rfl, rfl, rfl, trivial⟩), hI1⟩, hI2⟩
 ·have hS := hS.2 hc
  refine Wp.exit rfl (Wp.seq (Wp.region (sP (iv at31) hs fun _ hs => ?_)))
  refine sP (iv at31) hs fun _ hs => ?_
  refine sP (.bool true) hs fun _ hs => ?_
  exact wpList_nil (Wp.ret (leaveW (K := K) hs (resTT hs rfl rfl rfl) hMM hS))
def S_pack_Parser_single_J1 (to40 : Int) (M41 : Mem) (K : Value → Mem → Prop) : Prop :=
 (∀ M', M41.le M' → K (Value.tuple #[(.int .i64 to40), (.bool true)]) M')
def S_pack_Parser_single (p1 : Option Addr) (e2 : X_api_Expr) (n3 : Int) (at4 : Int) (M : Mem) (L : Nat → Prop) (K : Value → Mem → Prop) : Prop :=
 (∃ (b6 o7 : Nat), e2.Kids_a = some ⟨b6, o7, none⟩ ∧ (0 : Int) ≤ 0 ∧ 0 < ((e2.Kids_l : Nat) : Int) ∧ (∃ (x8 : X_api_Expr), At M b6 (o7 + (0 : Int).toNat * 7) x8.cells ∧ (InI (n3 + 1) ∧ (CallW Try.prog 122 #[(.pointer p1), x8.val, (.int .i64 (n3 + 1)), (.int .i64 at4)] M (Wr L M) (fun v M11 => ∃ (x9 : Int) (x10 : Bool), v = (Value.tuple #[(.int .i64 x9), (.bool x10)]) ∧ (((e2.Kind : Int) = 10 → (∀ M', M11.le M' → K (Value.tuple #[(.int .i64 at4), (.bool x10)]) M')) ∧ (¬ ((e2.Kind : Int) = 10) → (((e2.Kind : Int) = 11 → (∀ M', M11.le M' → K (Value.tuple #[(.int .i64 at4), (.bool (!x10))]) M')) ∧ (¬ ((e2.Kind : Int) = 11) → ((¬ (x10 = true) → (∀ M', M11.le M' → K (Value.tuple #[(.int .i64 at4), (.bool ((e2.Kind : Int) != (8 : Int)))]) M')) ∧ (¬ (¬ (x10 = true)) → (∃ (G31 : Type) (I29 : G31 → Int → Mem → Prop) (mu30 : G31 → Int → Nat) (gz33 : G31), I29 gz33 x9 M11 ∧ ∀ (gh32 : G31) (to27 : Int) (M28 : Mem), (I29 gh32 to27 M28 → (((e2.Kind : Int) ≠ 9 → (∃ (b34 o35 : Nat), e2.Kids_a = some ⟨b34, o35, none⟩ ∧ (0 : Int) ≤ 0 ∧ 0 < ((e2.Kids_l : Nat) : Int) ∧ (∃ (x36 : X_api_Expr), At M28 b34 (o35 + (0 : Int).toNat * 7) x36.cells ∧ (InI (n3 + 1) ∧ (CallW Try.prog 122 #[(.pointer p1), x36.val, (.int .i64 (n3 + 1)), (.int .i64 to27)] M28 (Wr L M) (fun v M39 => ∃ (x37 : Int) (x38 : Bool), v = (Value.tuple #[(.int .i64 x37), (.bool x38)]) ∧ ((¬ (x38 = true) → (S_pack_Parser_single_J1 to27 M39 K)) ∧ (¬ (¬ (x38 = true)) → ∃ (gh : G31), I29 gh x37 M39 ∧ mu30 gh x37 < mu30 gh32 to27)))))))) ∧ (¬ ((e2.Kind : Int) ≠ 9) → (S_pack_Parser_single_J1 to27 M28 K))))))))))))))))
set_option maxRecDepth 100000 in
theorem s_pack_Parser_single (p1 : Option Addr) (e2 : X_api_Expr) (n3 : Int) (at4 : Int) (M : Mem) (L : Nat → Prop) (K : Value → Mem → Prop) (hS : S_pack_Parser_single p1 e2 n3 at4 M L K) : CallW Try.prog 167 #[(Value.pointer p1), e2.val, (Value.int .i64 n3), (Value.int .i64 at4)] M L K := by
 refine enterW Try.func167 rfl 62 rfl (Nat.le_of_ble_eq_true rfl) (fun E a hs => ?_)
 unfold S_pack_Parser_single at hS
 have hMM := WX.refl M E
 change Sx 62 E (bwW E M L) M E a [(0, (.pointer p1)), (1, e2.val), (2, (iv n3)), (3, (iv at4))] [] [] at hs
 refine Wp.seq (Wp.region (stepBox e2.cells hs rfl rfl rfl (by decide) (fun _ _ b5 hEb5 hs => ?_)))
 refine sP (iv 0) hs fun _ hs => ?_
 refine sP (.bool false) hs fun _ hs => ?_
 refine wpList_nil (Wp.seq (Wp.region (sP (.pointer p1) hs fun _ hs => ?_)))
 refine sP (pt b5 6) hs fun _ hs => ?_
 refine sY (.slice e2.Kids_a e2.Kids_l e2.Kids_c) hs (Yl.lB [(.slice e2.Kids_a e2.Kids_l e2.Kids_c)] false 0) fun _ hs => ?_
 obtain ⟨b6, o7, ha, h0, hl, hS⟩ := hS
 refine sY (.pointer (some ⟨b6, o7 + (0 : Int).toNat * 7, none⟩)) hs (Yl.indexS (e := 109) (sz := 7) rfl rfl rfl rfl (by kernel_rfl) (by kernel_rfl) ha h0 hl) fun _ hs => ?_
 obtain ⟨x8, hat, hS⟩ := hS
 refine sY x8.val hs (Yl.loadV (vs := x8.cells) true rfl rfl (by kernel_rfl) hat) fun _ hs => ?_
 refine sP (iv n3) hs fun _ hs => ?_
 obtain ⟨hI, hS⟩ := hS
 refine sY (iv (n3 + 1)) hs (Yl.eq (Yl.pure (v := Value.int .i64 (IntKind.wrap .i64 (n3 + 1))) rfl (fun _ => by kernel_rfl)) (congrArg (Value.int .i64) (wrap_in hI))) fun _ hs => ?_
 refine sP (iv at4) hs fun _ hs => ?_
 refine stepCallW [(.pointer p1), x8.val, (iv (n3 + 1)), (iv at4)] hs hMM rfl ⟨_, rfl, rfl⟩ rfl Try.func122 rfl (by kernel_rfl) (by decide) hS (fun _ _ M11 v hMM hS hs => ?_)
 obtain ⟨x9, x10, hv, hS⟩ := hS
 subst hv
 refine sP (Value.tuple #[(iv x9), (.bool x10)]) hs fun _ hs => ?_
 refine sP (iv x9) hs fun _ hs => ?_
 refine sP (.bool x10) hs fun _ hs => ?_
 refine sP (iv x9) hs fun _ hs => ?_
 refine sP (.bool x10) hs fun _ hs => ?_
 refine wpList_nil (Wp.seq (Wp.seq (Wp.region (sP (pt b5 0) hs fun _ hs => ?_))))
 refine sY (iv e2.Kind) hs (Yl.lB [(iv e2.Kind)] false 0) fun _ hs => ?_
 refine wpList_nil (Wp.block (Wp.seq (Wp.region (sP (.bool ((e2.Kind : Int) == (10 : Int))) hs fun _ hs => ?_))))
 refine sP (.bool ((e2.Kind : Int) == (10 : Int))) hs fun _ hs => ?_
 refine wpList_nil (Wp.cond hs rfl rfl beq_iff_eq (fun hc => ?_) (fun hc => ?_))
 ·have hS := hS.1 hc
  refine Wp.seq (Wp.region (sP (iv at4) hs fun _ hs => ?_))
  refine sP (.bool x10) hs fun _ hs => ?_
  refine sP (iv at4) hs fun _ hs => ?_
  refine sP (.bool x10) hs fun _ hs => ?_
  exact wpList_nil (Wp.ret (leaveW (K := K) hs (resTT hs rfl rfl rfl) hMM hS))
 ·have hS := hS.2 hc
  refine Wp.seq (Wp.region (sP (.bool ((e2.Kind : Int) == (11 : Int))) hs fun _ hs => ?_))
  refine sP (.bool ((e2.Kind : Int) == (11 : Int))) hs fun _ hs => ?_
  refine wpList_nil (Wp.cond hs rfl rfl beq_iff_eq (fun hc => ?_) (fun hc => ?_))
  ·have hS := hS.1 hc
   refine Wp.seq (Wp.region (sP (iv at4) hs fun _ hs => ?_))
   refine sP (.bool x10) hs fun _ hs => ?_
   refine sP (.bool (!x10)) hs fun _ hs => ?_
   refine sP (iv at4) hs fun _ hs => ?_
   refine sP (.bool (!x10)) hs fun _ hs => ?_
   exact wpList_nil (Wp.ret (leaveW (K := K) hs (resTT hs rfl rfl rfl) hMM hS))
  ·have hS := hS.2 hc
   refine Wp.skip (Wp.seq (Wp.seq (Wp.region (sP (.bool x10) hs fun _ hs => ?_))))
   refine sP (.bool (!x10)) hs fun _ hs => ?_
   refine wpList_nil (Wp.cond hs rfl rfl (bnot_iff Iff.rfl) (fun hc => ?_) (fun hc => ?_))
   ·have hS := hS.1 hc
    refine Wp.seq (Wp.regionD [true, true, true, true, true, true] hs (by kernel_rfl) rfl [⟨b5, 109, e2.cells⟩] (fun _ h => h) [] (fun _ h => h) (fun _ hs hC => ?_))
    have hL := Mem.le.refl M11
    refine dP (iv at4) 0 [4, 5] hs QZ.no (wanted_none rfl) fun _ hs => ?_
    refine dP (pt b5 0) 1 [2, 3, 5] hs QZ.no (wanted_none rfl) fun _ hs => ?_
    refine stepDY (v := (iv e2.Kind)) 2 [3, 5] hs hC QZ.no rfl (wanted_none rfl) rfl (by decide) (by kernel_rfl) (by kernel_rfl) (by kernel_rfl) (Yl.lB [(iv e2.Kind)] false 0) (fun _ hs => ?_)
    refine dP (Value.bool ((e2.Kind : Int) != (8 : Int))) 3 [5] hs QZ.no (wanted_none rfl) fun _ hs => ?_
    refine sE 4 ?_
    refine sP (iv at4) hs fun _ hs => ?_
    refine wpList_nil (⟨fun _ h => h, ?_⟩)
    refine sE 5 ?_
    refine sP (.bool ((e2.Kind : Int) != (8 : Int))) hs fun _ hs => ?_
    refine wpList_nil (⟨fun _ h => h, ?_⟩)
    refine WpD.done (by kernel_rfl) ?_ _
    exact Wp.ret (leaveW (K := K) hs (resTT hs rfl rfl rfl) hMM hS)
   ·have hS := hS.2 hc
    refine Wp.skip (Wp.join (fun a w => ∃ (to40 : Int) (M41 : Mem), WX M41 M E ∧ Sx 62 E (bwW E M L) M41 w a [(10, (iv to40))] [⟨b5, 109, e2.cells⟩] [] ∧ (S_pack_Parser_single_J1 to40 M41 K)) ?_ ?_)
    ·refine Wp.block ?_
     obtain ⟨G31, I29, mu30, gz33, hI0, hst⟩ := hS
     refine Wp.loop (σ := G31 × (Int) × (Mem)) (fun s a w => match s with | (gh32, to27, M28) => WX M28 M E ∧ Sx 62 E (bwW E M L) M28 w a [(0, (.pointer p1)), (2, (iv n3)), (5, (pt b5 0)), (10, (iv to27))] [⟨b5, 109, e2.cells⟩] [] ∧ I29 gh32 to27 M28) (fun s => match s with | (gh32, to27, M28) => mu30 gh32 to27) (gz33, x9, M11) ⟨hMM, (hs.wk ⟨rfl, rfl, rfl, rfl, trivial⟩), hI0⟩ (fun s a w hI => ?_)
     obtain ⟨gh32, to27, M28⟩ := s
     obtain ⟨hMM, hs, hI⟩ := hI
     have hS := hst gh32 to27 M28 hI
     clear hst hI0 hI
     refine Wp.seq (Wp.seq (Wp.region (sP (pt b5 0) hs fun _ hs => ?_)))
     refine sY (iv e2.Kind) hs (Yl.lB [(iv e2.Kind)] false 0) fun _ hs => ?_
     refine sP (.bool ((e2.Kind : Int) != (9 : Int))) hs fun _ hs => ?_
     refine wpList_nil (Wp.cond hs rfl rfl bne_iff_ne (fun hc => ?_) (fun hc => ?_))
     ·have hS := hS.1 hc
      refine Wp.skip (Wp.block (Wp.seq (Wp.region (sP (.pointer p1) hs fun _ hs => ?_))))
      refine sP (pt b5 6) hs fun _ hs => ?_
      refine sY (.slice e2.Kids_a e2.Kids_l e2.Kids_c) hs (Yl.lB [(.slice e2.Kids_a e2.Kids_l e2.Kids_c)] false 0) fun _ hs => ?_
      obtain ⟨b34, o35, ha, h0, hl, hS⟩ := hS
      refine sY (.pointer (some ⟨b34, o35 + (0 : Int).toNat * 7, none⟩)) hs (Yl.indexS (e := 109) (sz := 7) rfl rfl rfl rfl (by kernel_rfl) (by kernel_rfl) ha h0 hl) fun _ hs => ?_
      obtain ⟨x36, hat, hS⟩ := hS
      refine sY x36.val hs (Yl.loadV (vs := x36.cells) true rfl rfl (by kernel_rfl) hat) fun _ hs => ?_
      refine sP (iv n3) hs fun _ hs => ?_
      obtain ⟨hI, hS⟩ := hS
      refine sY (iv (n3 + 1)) hs (Yl.eq (Yl.pure (v := Value.int .i64 (IntKind.wrap .i64 (n3 + 1))) rfl (fun _ => by kernel_rfl)) (congrArg (Value.int .i64) (wrap_in hI))) fun _ hs => ?_
      refine sP (iv to27) hs fun _ hs => ?_
      refine stepCallW [(.pointer p1), x36.val, (iv (n3 + 1)), (iv to27)] hs hMM rfl ⟨_, rfl, rfl⟩ rfl Try.func122 rfl (by kernel_rfl) (by decide) hS (fun _ _ M39 v hMM hS hs => ?_)
      obtain ⟨x37, x38, hv, hS⟩ := hS
      subst hv
      refine sP (Value.tuple #[(iv x37), (.bool x38)]) hs fun _ hs => ?_
      refine sP (iv x37) hs fun _ hs => ?_
      refine sP (.bool x38) hs fun _ hs => ?_
      refine sP (iv x37) hs fun _ hs => ?_
      refine sP (.bool x38) hs fun _ hs => ?_
      refine wpList_nil (Wp.seq (Wp.seq (Wp.region (sP (.bool x38) hs fun _ hs => ?_))))
      refine sP (.bool (!x38)) hs fun _ hs => ?_
      refine wpList_nil (Wp.cond hs rfl rfl (bnot_iff Iff.rfl) (fun hc => ?_) (fun hc => ?_))
      ·have hS := hS.1 hc
       exact Wp.exit rfl (⟨to27, M39, hMM, (hs.wk ⟨rfl, trivial⟩), hS⟩)
      ·have hS := hS.2 hc
       refine Wp.skip (Wp.region (sP (iv x37) hs fun _ hs => ?_))
       refine sP (iv x37) hs fun _ hs => ?_
       refine wpList_nil ?_
       obtain ⟨gh, hI1, hI2⟩ := hS
       exact ⟨(gh, x37, M39), ⟨hMM, (hs.wk ⟨rfl, rfl, rfl, rfl, trivial⟩), hI1⟩, hI2⟩
     ·have hS := hS.2 hc
      exact Wp.exit rfl (⟨to27, M28, hMM, (hs.wk ⟨rfl, trivial⟩), hS⟩)
    ·intro a w hJ
     obtain ⟨to40, M41, hMM, hs, hS⟩ := hJ
     unfold S_pack_Parser_single_J1 at hS
     refine Wp.seq (Wp.region (sP (iv to40) hs fun _ hs => ?_))
     refine sP (iv to40) hs fun _ hs => ?_
     refine sP (.bool true) hs fun _ hs => ?_
     exact wpList_nil (Wp.ret (leaveW (K := K) hs (resTT hs rfl rfl rfl) hMM hS))
def S_pack_Parser_node_J1 (p1 : Option Addr) (e2 : X_api_Expr) (at4 : Int) (M : Mem) (L : Nat → Prop) (x14 : Bool) (K : Value → Mem → Prop) : Prop :=
 ((x14 = true → (InI (at4 + 1) ∧ (∀ M', M.le M' → K (Value.tuple #[(.int .i64 (at4 + 1)), (.bool true)]) M'))) ∧ (¬ (x14 = true) → (CallW Try.prog 164 #[(.pointer p1), (.int .i64 at4), e2.Set.val] M (Wr L M) (fun v M15 => v = (Value.tuple #[]) ∧ (∀ M', M15.le M' → K (Value.tuple #[(.int .i64 0), (.bool false)]) M')))))
def S_pack_Parser_node_J2 (p1 : Option Addr) (e2 : X_api_Expr) (at4 : Int) (M : Mem) (L : Nat → Prop) (k30 : Int) (I31 : Int → Prop) (mu32 : Int → Nat) (x41 : Bool) (K : Value → Mem → Prop) : Prop :=
 ((x41 = true → (InI (k30 + 1) ∧ I31 (k30 + 1) ∧ mu32 (k30 + 1) < mu32 k30)) ∧ (¬ (x41 = true) → (InI (at4 + k30) ∧ (∃ c42 : UInt8, (0 : Int) ≤ k30 ∧ e2.Text[k30.toNat]? = some c42 ∧ (∃ c43 : UInt8, (0 : Int) ≤ k30 ∧ e2.Text[k30.toNat]? = some c43 ∧ (CallE Try.prog 165 #[(.int .i64 (IntKind.wrap .i64 (c42.toNat : Int))), (.int .i64 (IntKind.wrap .i64 (c43.toNat : Int)))] M (fun v _ => ∃ (x44 : X_api_Set), v = x44.val ∧ (CallW Try.prog 164 #[(.pointer p1), (.int .i64 (at4 + k30)), x44.val] M (Wr L M) (fun v M45 => v = (Value.tuple #[]) ∧ (∀ M', M45.le M' → K (Value.tuple #[(.int .i64 0), (.bool false)]) M'))))))))))
def S_pack_Parser_node_J3 (at4 : Int) (c56 : Bool) (c57 : Int) (M58 : Mem) (K : Value → Mem → Prop) : Prop :=
 (InI (at4 + c57) ∧ (∀ M', M58.le M' → K (Value.tuple #[(.int .i64 (at4 + c57)), (.bool c56)]) M'))
def S_pack_Parser_node (p1 : Option Addr) (e2 : X_api_Expr) (n3 : Int) (at4 : Int) (M : Mem) (L : Nat → Prop) (K : Value → Mem → Prop) : Prop :=
 (((e2.Kind : Int) = 1 → (∀ M', M.le M' → K (Value.tuple #[(.int .i64 at4), (.bool true)]) M')) ∧ (¬ ((e2.Kind : Int) = 1) → (((e2.Kind : Int) = 2 → (∃ (b6 o7 : Nat), p1 = some ⟨b6, o7, none⟩ ∧ (∃ (x8 : List UInt8), At M b6 (o7 + 1) [(.string (mkS x8))] ∧ ((at4 < ((x8.length : Nat) : Int) → (∃ (b9 o10 : Nat), p1 = some ⟨b9, o10, none⟩ ∧ (∃ (x11 : List UInt8), At M b9 (o10 + 1) [(.string (mkS x11))] ∧ (∃ c12 : UInt8, (0 : Int) ≤ at4 ∧ x11[at4.toNat]? = some c12 ∧ (CallE Try.prog 96 #[e2.Set.val, (.int .u8 (c12.toNat : Int))] M (fun v _ => ∃ (x13 : Bool), v = (Value.bool x13) ∧ (S_pack_Parser_node_J1 p1 e2 at4 M L x13 K))))))) ∧ (¬ (at4 < ((x8.length : Nat) : Int)) → (S_pack_Parser_node_J1 p1 e2 at4 M L false K)))))) ∧ (¬ ((e2.Kind : Int) = 2) → (((e2.Kind : Int) = 3 → (∃ (b16 o17 : Nat), p1 = some ⟨b16, o17, none⟩ ∧ (∃ (x18 : List UInt8), At M b16 (o17 + 1) [(.string (mkS x18))] ∧ ((0 : Int) ≤ at4 ∧ (at4 : Int) ≤ ((x18.length : Nat) : Int) ∧ ((x18.length : Nat) : Int) ≤ ((x18.length : Nat) : Int) ∧ (CallE Try.prog 97 #[(.string (mkS ((x18.take ((x18.length : Nat) : Int).toNat).drop at4.toNat))), (.string (mkS e2.Text))] M (fun v _ => ∃ (x19 : Bool), v = (Value.bool x19) ∧ ((x19 = true → (InI (at4 + ((e2.Text.length : Nat) : Int)) ∧ (∀ M', M.le M' → K (Value.tuple #[(.int .i64 (at4 + ((e2.Text.length : Nat) : Int))), (.bool true)]) M'))) ∧ (¬ (x19 = true) → (∃ (I31 : Int → Prop) (mu32 : Int → Nat), I31 0 ∧ ∀ (k30 : Int), (I31 k30 → (InI (at4 + k30) ∧ (∃ (b33 o34 : Nat), p1 = some ⟨b33, o34, none⟩ ∧ (∃ (x35 : List UInt8), At M b33 (o34 + 1) [(.string (mkS x35))] ∧ ((at4 + k30 < ((x35.length : Nat) : Int) → (∃ (b36 o37 : Nat), p1 = some ⟨b36, o37, none⟩ ∧ (∃ (x38 : List UInt8), At M b36 (o37 + 1) [(.string (mkS x38))] ∧ (InI (at4 + k30) ∧ (∃ c39 : UInt8, (0 : Int) ≤ at4 + k30 ∧ x38[(at4 + k30).toNat]? = some c39 ∧ (∃ c40 : UInt8, (0 : Int) ≤ k30 ∧ e2.Text[k30.toNat]? = some c40 ∧ (S_pack_Parser_node_J2 p1 e2 at4 M L k30 I31 mu32 ((c39.toNat : Int) == (c40.toNat : Int)) K))))))) ∧ (¬ (at4 + k30 < ((x35.length : Nat) : Int)) → (S_pack_Parser_node_J2 p1 e2 at4 M L k30 I31 mu32 false K)))))))))))))))) ∧ (¬ ((e2.Kind : Int) = 3) → (((e2.Kind : Int) = 4 → (∃ (b46 o47 : Nat), p1 = some ⟨b46, o47, none⟩ ∧ (∃ (xa48 : Option Addr) (xl49 : Nat) (xc50 : Nat), At M b46 o47 [(.slice xa48 xl49 xc50)] ∧ (CallE Try.prog 98 #[(.agg #[(.slice xa48 xl49 xc50)]), (.string (mkS e2.Text))] M (fun v _ => ∃ (x51 : Int), v = (Value.int .i64 x51) ∧ (CallW Try.prog 71 #[(.pointer p1), (.int .i64 x51), (.int .i64 at4)] M (Wr L M) (fun v M53 => ∃ (x52 : X_api_Outcome), v = x52.val ∧ (S_pack_Parser_node_J3 at4 x52.Ok x52.N M53 K)))))))) ∧ (¬ ((e2.Kind : Int) = 4) → (((e2.Kind : Int) = 5 → (CallW Try.prog 166 #[(.pointer p1), e2.val, (.int .i64 n3), (.int .i64 at4)] M (Wr L M) (fun v M61 => ∃ (x59 : Int) (x60 : Bool), v = (Value.tuple #[(.int .i64 x59), (.bool x60)]) ∧ (∀ M', M61.le M' → K (Value.tuple #[(.int .i64 x59), (.bool x60)]) M')))) ∧ (¬ ((e2.Kind : Int) = 5) → (((e2.Kind : Int) = 6 → (InI (n3 + 1) ∧ (∃ (G90 : Type) (I88 : G90 → Int → Int → Mem → Prop) (mu89 : G90 → Int → Int → Nat) (gz92 : G90), I88 gz92 (n3 + 1) 0 M ∧ ∀ (gh91 : G90) (k85 : Int) (x86 : Int) (M87 : Mem), (I88 gh91 k85 x86 M87 → ((x86 < ((e2.Kids_l : Nat) : Int) → (∃ (b93 o94 : Nat), e2.Kids_a = some ⟨b93, o94, none⟩ ∧ (0 : Int) ≤ x86 ∧ x86 < ((e2.Kids_l : Nat) : Int) ∧ (∃ (x95 : X_api_Expr), At M87 b93 (o94 + x86.toNat * 7) x95.cells ∧ (CallW Try.prog 122 #[(.pointer p1), x95.val, (.int .i64 k85), (.int .i64 at4)] M87 (Wr L M) (fun v M99 => ∃ (x97 : Int) (x98 : Bool), v = (Value.tuple #[(.int .i64 x97), (.bool x98)]) ∧ ((x98 = true → (∀ M', M99.le M' → K (Value.tuple #[(.int .i64 x97), (.bool true)]) M')) ∧ (¬ (x98 = true) → (CallW Try.prog 121 #[x95.val] M99 (Wr L M) (fun v M101 => ∃ (x100 : Int), v = (Value.int .i64 x100) ∧ (InI (k85 + x100) ∧ (InI (x86 + 1) ∧ ∃ (gh : G90), I88 gh (k85 + x100) (x86 + 1) M101 ∧ mu89 gh (k85 + x100) (x86 + 1) < mu89 gh91 k85 x86))))))))))) ∧ (¬ (x86 < ((e2.Kids_l : Nat) : Int)) → (∀ M', M87.le M' → K (Value.tuple #[(.int .i64 0), (.bool false)]) M'))))))) ∧ (¬ ((e2.Kind : Int) = 6) → (CallW Try.prog 167 #[(.pointer p1), e2.val, (.int .i64 n3), (.int .i64 at4)] M (Wr L M) (fun v M104 => ∃ (x102 : Int) (x103 : Bool), v = (Value.tuple #[(.int .i64 x102), (.bool x103)]) ∧ (∀ M', M104.le M' → K (Value.tuple #[(.int .i64 x102), (.bool x103)]) M')))))))))))))))
set_option maxRecDepth 100000 in
theorem s_pack_Parser_node (p1 : Option Addr) (e2 : X_api_Expr) (n3 : Int) (at4 : Int) (M : Mem) (L : Nat → Prop) (K : Value → Mem → Prop) (hS : S_pack_Parser_node p1 e2 n3 at4 M L K) : CallW Try.prog 149 #[(Value.pointer p1), e2.val, (Value.int .i64 n3), (Value.int .i64 at4)] M L K := by
 refine enterW Try.func149 rfl 167 rfl (Nat.le_of_ble_eq_true rfl) (fun E a hs => ?_)
 unfold S_pack_Parser_node at hS
 have hMM := WX.refl M E
 change Sx 167 E (bwW E M L) M E a [(0, (.pointer p1)), (1, e2.val), (2, (iv n3)), (3, (iv at4))] [] [] at hs
 refine Wp.seq (Wp.region (stepBox e2.cells hs rfl rfl rfl (by decide) (fun _ _ b5 hEb5 hs => ?_)))
 refine sP (iv 0) hs fun _ hs => ?_
 refine sP (.bool false) hs fun _ hs => ?_
 refine wpList_nil (Wp.seq (Wp.seq (Wp.region (sP (pt b5 0) hs fun _ hs => ?_))))
 refine sY (iv e2.Kind) hs (Yl.lB [(iv e2.Kind)] false 0) fun _ hs => ?_
 refine wpList_nil (Wp.block (Wp.seq (Wp.region (sP (.bool ((e2.Kind : Int) == (1 : Int))) hs fun _ hs => ?_))))
 refine sP (.bool ((e2.Kind : Int) == (1 : Int))) hs fun _ hs => ?_
 refine wpList_nil (Wp.cond hs rfl rfl beq_iff_eq (fun hc => ?_) (fun hc => ?_))
 ·have hS := hS.1 hc
  refine Wp.seq (Wp.region (sP (iv at4) hs fun _ hs => ?_))
  refine sP (iv at4) hs fun _ hs => ?_
  refine sP (.bool true) hs fun _ hs => ?_
  exact wpList_nil (Wp.ret (leaveW (K := K) hs (resTT hs rfl rfl rfl) hMM hS))
 ·have hS := hS.2 hc
  refine Wp.seq (Wp.region (sP (.bool ((e2.Kind : Int) == (2 : Int))) hs fun _ hs => ?_))
  refine sP (.bool ((e2.Kind : Int) == (2 : Int))) hs fun _ hs => ?_
  refine wpList_nil (Wp.cond hs rfl rfl beq_iff_eq (fun hc => ?_) (fun hc => ?_))
  ·have hS := hS.1 hc
   refine Wp.seq (Wp.join (fun a w => ∃ (x14 : Bool), Sx 167 E (bwW E M L) M w a [(0, (.pointer p1)), (3, (iv at4)), (5, (pt b5 0)), (41, (.bool x14))] [⟨b5, 109, e2.cells⟩] [] ∧ (S_pack_Parser_node_J1 p1 e2 at4 M L x14 K)) ?_ ?_)
   ·refine Wp.regionD [true, true, true, true, true, true, true, true, true, true, true, true, true, true, true, true, false, true] hs (by kernel_rfl) rfl [⟨b5, 109, e2.cells⟩] (fun _ h => h) [] (fun _ h => h) (fun _ hs hC => ?_)
    have hL := Mem.le.refl M
    refine dP (iv at4) 0 [6, 7, 8, 9, 10, 11, 12, 13, 14, 15, 16, 17] hs QZ.no (wanted_none rfl) fun _ hs => ?_
    refine sE 1 ?_
    refine sP (.pointer p1) hs fun _ hs => ?_
    refine wpList_nil (⟨fun _ h => h, ?_⟩)
    refine sE 2 ?_
    obtain ⟨b6, o7, hp, hS⟩ := hS
    refine sY (.pointer (some ⟨b6, o7, none⟩)) hs (Yl.nilck rfl rfl hp) fun _ hs => ?_
    refine wpList_nil (⟨fun _ h => h, ?_⟩)
    refine sE 3 ?_
    refine sP (.pointer (some ⟨b6, o7 + 1, none⟩)) hs fun _ hs => ?_
    refine wpList_nil (⟨fun _ h => h, ?_⟩)
    refine sE 4 ?_
    obtain ⟨x8, hat, hS⟩ := hS
    refine sY (.string (mkS x8)) hs (Yl.loadV (vs := [(.string (mkS x8))]) false rfl rfl (by kernel_rfl) hat) fun _ hs => ?_
    refine wpList_nil (⟨fun _ h => h, ?_⟩)
    refine sE 5 ?_
    refine sP (iv ((x8.length : Nat) : Int)) hs fun _ hs => ?_
    refine wpList_nil (⟨fun _ h => h, ?_⟩)
    refine sE 6 ?_
    refine sP (.bool (decide (at4 < ((x8.length : Nat) : Int)))) hs fun _ hs => ?_
    refine wpList_nil (⟨fun _ h => h, ?_⟩)
    refine sE 7 ?_
    refine sP (.bool (decide (at4 < ((x8.length : Nat) : Int)))) hs fun _ hs => ?_
    refine wpList_nil (⟨fun _ h => h, ?_⟩)
    refine bsplit (decide (at4 < ((x8.length : Nat) : Int))) decide_eq_true_iff (fun hb hc => ?_) (fun hb hc => ?_)
    ·have hs := hs.bt hb
     have hS := hS.1 hc
     refine dP (pt b5 1) 8 [9, 16, 17] hs QZ.no (wanted_yes hs rfl rfl rfl) fun _ hs => ?_
     refine stepDY (v := e2.Set.val) 9 [16, 17] hs hC QZ.no rfl (wanted_yes hs rfl rfl rfl) rfl (by decide) (by kernel_rfl) (by kernel_rfl) (by kernel_rfl) (Yl.lB e2.Set.cells true 0) (fun _ hs => ?_)
     refine dP (Value.pointer p1) 10 [11, 12, 13, 15, 16, 17] hs QZ.no (wanted_yes hs rfl rfl rfl) fun _ hs => ?_
     obtain ⟨b9, o10, hp, hS⟩ := hS
     refine stepDP (v := (.pointer (some ⟨b9, o10, none⟩))) 11 [12, 13, 15, 16, 17] hs QZ.no rfl (wanted_yes hs rfl rfl rfl) rfl (by decide) (by kernel_rfl) (by kernel_rfl) (by kernel_rfl) (Yl.nilck rfl rfl hp) (fun _ hs => ?_)
     refine dP (Value.pointer (some ⟨b9, o10 + 1, none⟩)) 12 [13, 15, 16, 17] hs QZ.no (wanted_yes hs rfl rfl rfl) fun _ hs => ?_
     obtain ⟨x11, hat, hS⟩ := hS
     refine stepDY (v := (.string (mkS x11))) 13 [15, 16, 17] hs hC QZ.no rfl (wanted_yes hs rfl rfl rfl) rfl (by decide) (by kernel_rfl) (by kernel_rfl) (by kernel_rfl) (Yl.loadV (vs := [(.string (mkS x11))]) false rfl rfl (by kernel_rfl) hat) (fun _ hs => ?_)
     refine stepDE 14 rfl (wanted_yes hs rfl rfl rfl) (by kernel_rfl) #[] ?_
     refine sP (iv at4) hs fun _ hs => ?_
     refine wpList_nil (⟨fun _ h => h, ?_⟩)
     refine stepDE 15 rfl (wanted_yes hs rfl rfl rfl) (by kernel_rfl) #[] ?_
     obtain ⟨c12, h0, hi, hS⟩ := hS
     refine sY (.int .u8 (c12.toNat : Int)) hs (Yl.indexStr rfl rfl rfl rfl (by kernel_rfl) h0 hi) fun _ hs => ?_
     refine wpList_nil (⟨fun _ h => h, ?_⟩)
     refine stepDE 16 rfl (wanted_yes hs rfl rfl rfl) (by kernel_rfl) #[] ?_
     refine stepCallP [e2.Set.val, (.int .u8 (c12.toNat : Int))] hs rfl ⟨_, rfl, rfl⟩ rfl Try.func96 rfl (by kernel_rfl) (by decide) hS (fun _ _ v hS hs => ?_)
     obtain ⟨x13, hv, hS⟩ := hS
     subst hv
     refine wpList_nil (⟨fun h => absurd h (by decide), ?_⟩)
     refine sE 17 ?_
     refine sP (.bool x13) hs fun _ hs => ?_
     refine wpList_nil (⟨fun _ h => h, ?_⟩)
     refine WpD.done (by kernel_rfl) ?_ _
     exact ⟨x13, (hs.wk ⟨rfl, rfl, rfl, rfl, trivial⟩), hS⟩
    ·have hs := hs.bf hb
     have hS := hS.2 hc
     refine dN 8 [9, 16, 17] hs QZ.no (wanted_no hs rfl rfl rfl rfl) fun _ hs => ?_
     refine dN 9 [16, 17] hs QZ.no (wanted_no hs rfl rfl rfl rfl) fun _ hs => ?_
     refine dN 10 [11, 12, 13, 15, 16, 17] hs QZ.no (wanted_no hs rfl rfl rfl rfl) fun _ hs => ?_
     refine dN 11 [12, 13, 15, 16, 17] hs QZ.no (wanted_no hs rfl rfl rfl rfl) fun _ hs => ?_
     refine dN 12 [13, 15, 16, 17] hs QZ.no (wanted_no hs rfl rfl rfl rfl) fun _ hs => ?_
     refine dN 13 [15, 16, 17] hs QZ.no (wanted_no hs rfl rfl rfl rfl) fun _ hs => ?_
     refine dN 14 [15, 16, 17] hs QZ.no (wanted_no hs rfl rfl rfl rfl) fun _ hs => ?_
     refine dN 15 [16, 17] hs QZ.no (wanted_no hs rfl rfl rfl rfl) fun _ hs => ?_
     refine dN 16 [17] hs QZ.no (wanted_no hs rfl rfl rfl rfl) fun _ hs => ?_
     refine sE 17 ?_
     refine sP (.bool false) hs fun _ hs => ?_
     refine wpList_nil (⟨fun _ h => h, ?_⟩)
     refine WpD.done (by kernel_rfl) ?_ _
     exact ⟨false, (hs.wk ⟨rfl, rfl, rfl, rfl, trivial⟩), hS⟩
   ·intro a w hJ
    obtain ⟨x14, hs, hS⟩ := hJ
    unfold S_pack_Parser_node_J1 at hS
    refine Wp.cond hs rfl rfl Iff.rfl (fun hc => ?_) (fun hc => ?_)
    ·have hS := hS.1 hc
     refine Wp.seq (Wp.region (sP (iv at4) hs fun _ hs => ?_))
     obtain ⟨hI, hS⟩ := hS
     refine sY (iv (at4 + 1)) hs (Yl.eq (Yl.pure (v := Value.int .i64 (IntKind.wrap .i64 (at4 + 1))) rfl (fun _ => by kernel_rfl)) (congrArg (Value.int .i64) (wrap_in hI))) fun _ hs => ?_
     refine sP (iv (at4 + 1)) hs fun _ hs => ?_
     refine sP (.bool true) hs fun _ hs => ?_
     exact wpList_nil (Wp.ret (leaveW (K := K) hs (resTT hs rfl rfl rfl) hMM hS))
    ·have hS := hS.2 hc
     refine Wp.skip (Wp.seq (Wp.region (sP (.pointer p1) hs fun _ hs => ?_)))
     refine sP (iv at4) hs fun _ hs => ?_
     refine sP (pt b5 1) hs fun _ hs => ?_
     refine sY e2.Set.val hs (Yl.lB e2.Set.cells true 0) fun _ hs => ?_
     refine stepCallW [(.pointer p1), (iv at4), e2.Set.val] hs hMM rfl ⟨_, rfl, rfl⟩ rfl Try.func164 rfl (by kernel_rfl) (by decide) hS (fun _ _ M15 v hMM hS hs => ?_)
     obtain ⟨hv, hS⟩ := hS
     subst hv
     refine wpList_nil (Wp.seq (Wp.region (sP (iv 0) hs fun _ hs => ?_)))
     refine sP (.bool false) hs fun _ hs => ?_
     exact wpList_nil (Wp.ret (leaveW (K := K) hs (resTT hs rfl rfl rfl) hMM hS))
  ·have hS := hS.2 hc
   refine Wp.seq (Wp.region (sP (.bool ((e2.Kind : Int) == (3 : Int))) hs fun _ hs => ?_))
   refine sP (.bool ((e2.Kind : Int) == (3 : Int))) hs fun _ hs => ?_
   refine wpList_nil (Wp.cond hs rfl rfl beq_iff_eq (fun hc => ?_) (fun hc => ?_))
   ·have hS := hS.1 hc
    refine Wp.seq (Wp.seq (Wp.regionD [true, true, true, true, true, true, true, true, false] hs (by kernel_rfl) rfl [⟨b5, 109, e2.cells⟩] (fun _ h => h) [] (fun _ h => h) (fun _ hs hC => ?_)))
    have hL := Mem.le.refl M
    refine dP (Value.pointer p1) 0 [1, 2, 3, 5, 8] hs QZ.no (wanted_none rfl) fun _ hs => ?_
    obtain ⟨b16, o17, hp, hS⟩ := hS
    refine stepDP (v := (.pointer (some ⟨b16, o17, none⟩))) 1 [2, 3, 5, 8] hs QZ.no rfl (wanted_none rfl) rfl (by decide) (by kernel_rfl) (by kernel_rfl) (by kernel_rfl) (Yl.nilck rfl rfl hp) (fun _ hs => ?_)
    refine dP (Value.pointer (some ⟨b16, o17 + 1, none⟩)) 2 [3, 5, 8] hs QZ.no (wanted_none rfl) fun _ hs => ?_
    obtain ⟨x18, hat, hS⟩ := hS
    refine stepDY (v := (.string (mkS x18))) 3 [5, 8] hs hC QZ.no rfl (wanted_none rfl) rfl (by decide) (by kernel_rfl) (by kernel_rfl) (by kernel_rfl) (Yl.loadV (vs := [(.string (mkS x18))]) false rfl rfl (by kernel_rfl) hat) (fun _ hs => ?_)
    refine dP (iv at4) 4 [5, 8] hs QZ.no (wanted_none rfl) fun _ hs => ?_
    obtain ⟨h0, h1, h2, hS⟩ := hS
    refine stepDP (v := (.string (mkS ((x18.take ((x18.length : Nat) : Int).toNat).drop at4.toNat)))) 5 [8] hs QZ.no rfl (wanted_none rfl) rfl (by decide) (by kernel_rfl) (by kernel_rfl) (by kernel_rfl) (Yl.sliceStrL rfl rfl rfl rfl (by kernel_rfl) h0 h1 h2) (fun _ hs => ?_)
    refine sE 6 ?_
    refine sP (pt b5 5) hs fun _ hs => ?_
    refine wpList_nil (⟨fun _ h => h, ?_⟩)
    refine sE 7 ?_
    refine sY (.string (mkS e2.Text)) hs (Yl.lB [(.string (mkS e2.Text))] false 0) fun _ hs => ?_
    refine wpList_nil (⟨fun _ h => h, ?_⟩)
    refine sE 8 ?_
    refine stepCallP [(.string (mkS ((x18.take ((x18.length : Nat) : Int).toNat).drop at4.toNat))), (.string (mkS e2.Text))] hs rfl ⟨_, rfl, rfl⟩ rfl Try.func97 rfl (by kernel_rfl) (by decide) hS (fun _ _ v hS hs => ?_)
    obtain ⟨x19, hv, hS⟩ := hS
    subst hv
    refine wpList_nil (⟨fun h => absurd h (by decide), ?_⟩)
    refine WpD.done (by kernel_rfl) ?_ _
    refine Wp.cond hs rfl rfl Iff.rfl (fun hc => ?_) (fun hc => ?_)
    ·have hS := hS.1 hc
     refine Wp.seq (Wp.region (sP (iv at4) hs fun _ hs => ?_))
     refine sP (pt b5 5) hs fun _ hs => ?_
     refine sY (.string (mkS e2.Text)) hs (Yl.lB [(.string (mkS e2.Text))] false 0) fun _ hs => ?_
     refine sP (iv ((e2.Text.length : Nat) : Int)) hs fun _ hs => ?_
     obtain ⟨hI, hS⟩ := hS
     refine sY (iv (at4 + ((e2.Text.length : Nat) : Int))) hs (Yl.eq (Yl.pure (v := Value.int .i64 (IntKind.wrap .i64 (at4 + ((e2.Text.length : Nat) : Int)))) rfl (fun _ => by kernel_rfl)) (congrArg (Value.int .i64) (wrap_in hI))) fun _ hs => ?_
     refine sP (iv (at4 + ((e2.Text.length : Nat) : Int))) hs fun _ hs => ?_
     refine sP (.bool true) hs fun _ hs => ?_
     exact wpList_nil (Wp.ret (leaveW (K := K) hs (resTT hs rfl rfl rfl) hMM hS))
    ·have hS := hS.2 hc
     refine Wp.skip (Wp.seq (Wp.region (sP (iv 0) hs fun _ hs => ?_)))
     refine wpList_nil (Wp.seq (Wp.block ?_))
     obtain ⟨I31, mu32, hI0, hst⟩ := hS
     refine Wp.loop (σ := (Int)) (fun s a w => match s with | (k30) => Sx 167 E (bwW E M L) M w a [(0, (.pointer p1)), (3, (iv at4)), (5, (pt b5 0)), (10, (iv k30))] [⟨b5, 109, e2.cells⟩] [] ∧ I31 k30) (fun s => match s with | (k30) => mu32 k30) (0) ⟨(hs.wk ⟨rfl, rfl, rfl, rfl, trivial⟩), hI0⟩ (fun k30 a w hI => ?_)
     obtain ⟨hs, hI⟩ := hI
     have hS := hst k30 hI
     clear hst hI0 hI
     refine Wp.seq (Wp.join (fun a w => ∃ (x41 : Bool), Sx 167 E (bwW E M L) M w a [(0, (.pointer p1)), (3, (iv at4)), (5, (pt b5 0)), (10, (iv k30)), (88, (.bool x41))] [⟨b5, 109, e2.cells⟩] [] ∧ (S_pack_Parser_node_J2 p1 e2 at4 M L k30 I31 mu32 x41 K)) ?_ ?_)
     ·refine Wp.regionD [true, true, true, true, true, true, true, true, true, true, true, true, true, true, true, true, true, true, true, true, true, true, true, true] hs (by kernel_rfl) rfl [⟨b5, 109, e2.cells⟩] (fun _ h => h) [] (fun _ h => h) (fun _ hs hC => ?_)
      have hL := Mem.le.refl M
      refine dP (iv at4) 0 [2, 8, 9, 10, 11, 12, 13, 14, 15, 16, 17, 18, 19, 20, 21, 22, 23] hs QZ.no (wanted_none rfl) fun _ hs => ?_
      refine dP (iv k30) 1 [2, 8, 9, 10, 11, 12, 13, 14, 15, 16, 17, 18, 19, 20, 21, 22, 23] hs QZ.no (wanted_none rfl) fun _ hs => ?_
      obtain ⟨hI, hS⟩ := hS
      refine stepDP (v := (iv (at4 + k30))) 2 [8, 9, 10, 11, 12, 13, 14, 15, 16, 17, 18, 19, 20, 21, 22, 23] hs QZ.no rfl (wanted_none rfl) rfl (by decide) (by kernel_rfl) (by kernel_rfl) (by kernel_rfl) (Yl.eq (Yl.pure (v := Value.int .i64 (IntKind.wrap .i64 (at4 + k30))) rfl (fun _ => by kernel_rfl)) (congrArg (Value.int .i64) (wrap_in hI))) (fun _ hs => ?_)
      refine sE 3 ?_
      refine sP (.pointer p1) hs fun _ hs => ?_
      refine wpList_nil (⟨fun _ h => h, ?_⟩)
      refine sE 4 ?_
      obtain ⟨b33, o34, hp, hS⟩ := hS
      refine sY (.pointer (some ⟨b33, o34, none⟩)) hs (Yl.nilck rfl rfl hp) fun _ hs => ?_
      refine wpList_nil (⟨fun _ h => h, ?_⟩)
      refine sE 5 ?_
      refine sP (.pointer (some ⟨b33, o34 + 1, none⟩)) hs fun _ hs => ?_
      refine wpList_nil (⟨fun _ h => h, ?_⟩)
      refine sE 6 ?_
      obtain ⟨x35, hat, hS⟩ := hS
      refine sY (.string (mkS x35)) hs (Yl.loadV (vs := [(.string (mkS x35))]) false rfl rfl (by kernel_rfl) hat) fun _ hs => ?_
      refine wpList_nil (⟨fun _ h => h, ?_⟩)
      refine sE 7 ?_
      refine sP (iv ((x35.length : Nat) : Int)) hs fun _ hs => ?_
      refine wpList_nil (⟨fun _ h => h, ?_⟩)
      refine sE 8 ?_
      refine sP (.bool (decide (at4 + k30 < ((x35.length : Nat) : Int)))) hs fun _ hs => ?_
      refine wpList_nil (⟨fun _ h => h, ?_⟩)
      refine sE 9 ?_
      refine sP (.bool (decide (at4 + k30 < ((x35.length : Nat) : Int)))) hs fun _ hs => ?_
      refine wpList_nil (⟨fun _ h => h, ?_⟩)
      refine bsplit (decide (at4 + k30 < ((x35.length : Nat) : Int))) decide_eq_true_iff (fun hb hc => ?_) (fun hb hc => ?_)
      ·have hs := hs.bt hb
       have hS := hS.1 hc
       refine dP (Value.pointer p1) 10 [11, 12, 13, 17, 22, 23] hs QZ.no (wanted_yes hs rfl rfl rfl) fun _ hs => ?_
       obtain ⟨b36, o37, hp, hS⟩ := hS
       refine stepDP (v := (.pointer (some ⟨b36, o37, none⟩))) 11 [12, 13, 17, 22, 23] hs QZ.no rfl (wanted_yes hs rfl rfl rfl) rfl (by decide) (by kernel_rfl) (by kernel_rfl) (by kernel_rfl) (Yl.nilck rfl rfl hp) (fun _ hs => ?_)
       refine dP (Value.pointer (some ⟨b36, o37 + 1, none⟩)) 12 [13, 17, 22, 23] hs QZ.no (wanted_yes hs rfl rfl rfl) fun _ hs => ?_
       obtain ⟨x38, hat, hS⟩ := hS
       refine stepDY (v := (.string (mkS x38))) 13 [17, 22, 23] hs hC QZ.no rfl (wanted_yes hs rfl rfl rfl) rfl (by decide) (by kernel_rfl) (by kernel_rfl) (by kernel_rfl) (Yl.loadV (vs := [(.string (mkS x38))]) false rfl rfl (by kernel_rfl) hat) (fun _ hs => ?_)
       refine dP (iv at4) 14 [16, 17, 22, 23] hs QZ.no (wanted_yes hs rfl rfl rfl) fun _ hs => ?_
       refine dP (iv k30) 15 [16, 17, 22, 23] hs QZ.no (wanted_yes hs rfl rfl rfl) fun _ hs => ?_
       obtain ⟨hI, hS⟩ := hS
       refine stepDP (v := (iv (at4 + k30))) 16 [17, 22, 23] hs QZ.no rfl (wanted_yes hs rfl rfl rfl) rfl (by decide) (by kernel_rfl) (by kernel_rfl) (by kernel_rfl) (Yl.eq (Yl.pure (v := Value.int .i64 (IntKind.wrap .i64 (at4 + k30))) rfl (fun _ => by kernel_rfl)) (congrArg (Value.int .i64) (wrap_in hI))) (fun _ hs => ?_)
       obtain ⟨c39, h0, hi, hS⟩ := hS
       refine stepDP (v := (.int .u8 (c39.toNat : Int))) 17 [22, 23] hs QZ.no rfl (wanted_yes hs rfl rfl rfl) rfl (by decide) (by kernel_rfl) (by kernel_rfl) (by kernel_rfl) (Yl.indexStr rfl rfl rfl rfl (by kernel_rfl) h0 hi) (fun _ hs => ?_)
       refine dP (pt b5 5) 18 [19, 21, 22, 23] hs QZ.no (wanted_yes hs rfl rfl rfl) fun _ hs => ?_
       refine stepDY (v := (.string (mkS e2.Text))) 19 [21, 22, 23] hs hC QZ.no rfl (wanted_yes hs rfl rfl rfl) rfl (by decide) (by kernel_rfl) (by kernel_rfl) (by kernel_rfl) (Yl.lB [(.string (mkS e2.Text))] false 0) (fun _ hs => ?_)
       refine stepDE 20 rfl (wanted_yes hs rfl rfl rfl) (by kernel_rfl) #[] ?_
       refine sP (iv k30) hs fun _ hs => ?_
       refine wpList_nil (⟨fun _ h => h, ?_⟩)
       refine stepDE 21 rfl (wanted_yes hs rfl rfl rfl) (by kernel_rfl) #[] ?_
       obtain ⟨c40, h0, hi, hS⟩ := hS
       refine sY (.int .u8 (c40.toNat : Int)) hs (Yl.indexStr rfl rfl rfl rfl (by kernel_rfl) h0 hi) fun _ hs => ?_
       refine wpList_nil (⟨fun _ h => h, ?_⟩)
       refine stepDE 22 rfl (wanted_yes hs rfl rfl rfl) (by kernel_rfl) #[] ?_
       refine sP (.bool ((c39.toNat : Int) == (c40.toNat : Int))) hs fun _ hs => ?_
       refine wpList_nil (⟨fun _ h => h, ?_⟩)
       refine sE 23 ?_
       refine sP (.bool ((c39.toNat : Int) == (c40.toNat : Int))) hs fun _ hs => ?_
       refine wpList_nil (⟨fun _ h => h, ?_⟩)
       refine WpD.done (by kernel_rfl) ?_ _
       exact ⟨((c39.toNat : Int) == (c40.toNat : Int)), (hs.wk ⟨rfl, rfl, rfl, rfl, rfl, trivial⟩), hS⟩
      ·have hs := hs.bf hb
       have hS := hS.2 hc
       refine dN 10 [11, 12, 13, 17, 22, 23] hs QZ.no (wanted_no hs rfl rfl rfl rfl) fun _ hs => ?_
       refine dN 11 [12, 13, 17, 22, 23] hs QZ.no (wanted_no hs rfl rfl rfl rfl) fun _ hs => ?_
       refine dN 12 [13, 17, 22, 23] hs QZ.no (wanted_no hs rfl rfl rfl rfl) fun _ hs => ?_
       refine dN 13 [17, 22, 23] hs QZ.no (wanted_no hs rfl rfl rfl rfl) fun _ hs => ?_
       refine dN 14 [16, 17, 22, 23] hs QZ.no (wanted_no hs rfl rfl rfl rfl) fun _ hs => ?_
       refine dN 15 [16, 17, 22, 23] hs QZ.no (wanted_no hs rfl rfl rfl rfl) fun _ hs => ?_
       refine dN 16 [17, 22, 23] hs QZ.no (wanted_no hs rfl rfl rfl rfl) fun _ hs => ?_
       refine dN 17 [22, 23] hs QZ.no (wanted_no hs rfl rfl rfl rfl) fun _ hs => ?_
       refine dN 18 [19, 21, 22, 23] hs QZ.no (wanted_no hs rfl rfl rfl rfl) fun _ hs => ?_
       refine dN 19 [21, 22, 23] hs QZ.no (wanted_no hs rfl rfl rfl rfl) fun _ hs => ?_
       refine dN 20 [21, 22, 23] hs QZ.no (wanted_no hs rfl rfl rfl rfl) fun _ hs => ?_
       refine dN 21 [22, 23] hs QZ.no (wanted_no hs rfl rfl rfl rfl) fun _ hs => ?_
       refine dN 22 [23] hs QZ.no (wanted_no hs rfl rfl rfl rfl) fun _ hs => ?_
       refine sE 23 ?_
       refine sP (.bool false) hs fun _ hs => ?_
       refine wpList_nil (⟨fun _ h => h, ?_⟩)
       refine WpD.done (by kernel_rfl) ?_ _
       exact ⟨false, (hs.wk ⟨rfl, rfl, rfl, rfl, rfl, trivial⟩), hS⟩
     ·intro a w hJ
      obtain ⟨x41, hs, hS⟩ := hJ
      unfold S_pack_Parser_node_J2 at hS
      refine Wp.cond hs rfl rfl Iff.rfl (fun hc => ?_) (fun hc => ?_)
      ·have hS := hS.1 hc
       refine Wp.skip (Wp.block (Wp.region (sP (iv k30) hs fun _ hs => ?_)))
       obtain ⟨hI, hS⟩ := hS
       refine sY (iv (k30 + 1)) hs (Yl.eq (Yl.pure (v := Value.int .i64 (IntKind.wrap .i64 (k30 + 1))) rfl (fun _ => by kernel_rfl)) (congrArg (Value.int .i64) (wrap_in hI))) fun _ hs => ?_
       refine sP (iv (k30 + 1)) hs fun _ hs => ?_
       exact wpList_nil (⟨(k30 + 1), ⟨(hs.wk ⟨rfl, rfl, rfl, rfl, trivial⟩), hS.1⟩, hS.2⟩)
      ·have hS := hS.2 hc
       refine Wp.exit rfl (Wp.seq (Wp.regionD [true, true, true, true, true, true, true, true, true, true, true, true, true, true, false, false] hs (by kernel_rfl) rfl [⟨b5, 109, e2.cells⟩] (fun _ h => h) [] (fun _ h => h) (fun _ hs hC => ?_)))
       have hL := Mem.le.refl M
       refine dP (Value.pointer p1) 0 [15] hs QZ.no (wanted_none rfl) fun _ hs => ?_
       refine dP (iv at4) 1 [3, 15] hs QZ.no (wanted_none rfl) fun _ hs => ?_
       refine dP (iv k30) 2 [3, 15] hs QZ.no (wanted_none rfl) fun _ hs => ?_
       obtain ⟨hI, hS⟩ := hS
       refine stepDP (v := (iv (at4 + k30))) 3 [15] hs QZ.no rfl (wanted_none rfl) rfl (by decide) (by kernel_rfl) (by kernel_rfl) (by kernel_rfl) (Yl.eq (Yl.pure (v := Value.int .i64 (IntKind.wrap .i64 (at4 + k30))) rfl (fun _ => by kernel_rfl)) (congrArg (Value.int .i64) (wrap_in hI))) (fun _ hs => ?_)
       refine dP (pt b5 5) 4 [5, 7, 8, 14, 15] hs QZ.no (wanted_none rfl) fun _ hs => ?_
       refine stepDY (v := (.string (mkS e2.Text))) 5 [7, 8, 14, 15] hs hC QZ.no rfl (wanted_none rfl) rfl (by decide) (by kernel_rfl) (by kernel_rfl) (by kernel_rfl) (Yl.lB [(.string (mkS e2.Text))] false 0) (fun _ hs => ?_)
       refine dP (iv k30) 6 [7, 8, 14, 15] hs QZ.no (wanted_none rfl) fun _ hs => ?_
       obtain ⟨c42, h0, hi, hS⟩ := hS
       refine stepDP (v := (.int .u8 (c42.toNat : Int))) 7 [8, 14, 15] hs QZ.no rfl (wanted_none rfl) rfl (by decide) (by kernel_rfl) (by kernel_rfl) (by kernel_rfl) (Yl.indexStr rfl rfl rfl rfl (by kernel_rfl) h0 hi) (fun _ hs => ?_)
       refine dP (iv (IntKind.wrap .i64 (c42.toNat : Int))) 8 [14, 15] hs QZ.no (wanted_none rfl) fun _ hs => ?_
       refine dP (pt b5 5) 9 [10, 12, 13, 14, 15] hs QZ.no (wanted_none rfl) fun _ hs => ?_
       refine stepDY (v := (.string (mkS e2.Text))) 10 [12, 13, 14, 15] hs hC QZ.no rfl (wanted_none rfl) rfl (by decide) (by kernel_rfl) (by kernel_rfl) (by kernel_rfl) (Yl.lB [(.string (mkS e2.Text))] false 0) (fun _ hs => ?_)
       refine sE 11 ?_
       refine sP (iv k30) hs fun _ hs => ?_
       refine wpList_nil (⟨fun _ h => h, ?_⟩)
       refine sE 12 ?_
       obtain ⟨c43, h0, hi, hS⟩ := hS
       refine sY (.int .u8 (c43.toNat : Int)) hs (Yl.indexStr rfl rfl rfl rfl (by kernel_rfl) h0 hi) fun _ hs => ?_
       refine wpList_nil (⟨fun _ h => h, ?_⟩)
       refine sE 13 ?_
       refine sP (iv (IntKind.wrap .i64 (c43.toNat : Int))) hs fun _ hs => ?_
       refine wpList_nil (⟨fun _ h => h, ?_⟩)
       refine sE 14 ?_
       refine stepCallP [(iv (IntKind.wrap .i64 (c42.toNat : Int))), (iv (IntKind.wrap .i64 (c43.toNat : Int)))] hs rfl ⟨_, rfl, rfl⟩ rfl Try.func165 rfl (by kernel_rfl) (by decide) hS (fun _ _ v hS hs => ?_)
       obtain ⟨x44, hv, hS⟩ := hS
       subst hv
       refine wpList_nil (⟨fun h => absurd h (by decide), ?_⟩)
       refine sE 15 ?_
       refine stepCallW [(.pointer p1), (iv (at4 + k30)), x44.val] hs hMM rfl ⟨_, rfl, rfl⟩ rfl Try.func164 rfl (by kernel_rfl) (by decide) hS (fun _ _ M45 v hMM hS hs => ?_)
       obtain ⟨hv, hS⟩ := hS
       subst hv
       refine wpList_nil (⟨fun h => absurd h (by decide), ?_⟩)
       refine WpD.done (by kernel_rfl) ?_ _
       refine Wp.seq (Wp.region (sP (iv 0) hs fun _ hs => ?_))
       refine sP (.bool false) hs fun _ hs => ?_
       exact wpList_nil (Wp.ret (leaveW (K := K) hs (resTT hs rfl rfl rfl) hMM hS))
   ·have hS := hS.2 hc
    refine Wp.seq (Wp.region (sP (.bool ((e2.Kind : Int) == (4 : Int))) hs fun _ hs => ?_))
    refine sP (.bool ((e2.Kind : Int) == (4 : Int))) hs fun _ hs => ?_
    refine wpList_nil (Wp.cond hs rfl rfl beq_iff_eq (fun hc => ?_) (fun hc => ?_))
    ·have hS := hS.1 hc
     refine Wp.join (fun a w => ∃ (c56 : Bool) (c57 : Int) (b55 : Nat) (M58 : Mem), WX M58 M E ∧ E.heap.size ≤ b55 ∧ Sx 167 E (bwW E M L) M58 w a [(3, (iv at4)), (11, (pt b55 0))] [⟨b55, 26, [(.bool c56), (iv c57)]⟩, ⟨b5, 109, e2.cells⟩] [] ∧ (S_pack_Parser_node_J3 at4 c56 c57 M58 K)) ?_ ?_
     ·refine Wp.regionD [true, true, true, true, true, true, true, false, true, false, false, false] hs (by kernel_rfl) rfl [⟨b5, 109, e2.cells⟩] (fun _ h => h) [] (fun _ h => h) (fun _ hs hC => ?_)
      have hL := Mem.le.refl M
      refine dP (Value.pointer p1) 0 [9, 11] hs QZ.no (wanted_none rfl) fun _ hs => ?_
      refine dP (Value.pointer p1) 1 [2, 3, 4, 7, 9, 11] hs QZ.no (wanted_none rfl) fun _ hs => ?_
      obtain ⟨b46, o47, hp, hS⟩ := hS
      refine stepDP (v := (.pointer (some ⟨b46, o47, none⟩))) 2 [3, 4, 7, 9, 11] hs QZ.no rfl (wanted_none rfl) rfl (by decide) (by kernel_rfl) (by kernel_rfl) (by kernel_rfl) (Yl.nilck rfl rfl hp) (fun _ hs => ?_)
      refine dP (Value.pointer (some ⟨b46, o47, none⟩)) 3 [4, 7, 9, 11] hs QZ.no (wanted_none rfl) fun _ hs => ?_
      refine dP (pt b5 5) 5 [6, 7, 9, 11] hs QZ.no (wanted_none rfl) fun _ hs => ?_
      refine dP (iv at4) 8 [9, 11] hs QZ.no (wanted_none rfl) fun _ hs => ?_
      refine WpD.ors (by kernel_rfl : _ = [4, 6, 10]) ⟨?_, ?_, ?_, trivial⟩
      ·refine stepOne 4 rfl (wanted_none rfl) #[] ?_
       obtain ⟨xa48, xl49, xc50, hat, hS⟩ := hS
       refine sY (.agg #[(.slice xa48 xl49 xc50)]) hs (Yl.loadV (vs := [(.slice xa48 xl49 xc50)]) true rfl rfl (by kernel_rfl) hat) fun _ hs => ?_
       refine wpList_nil (⟨fun _ h => h, ?_⟩)
       refine WpD.ors (by kernel_rfl : _ = [6, 10]) ⟨?_, ?_, trivial⟩
       ·refine stepOne 6 rfl (wanted_none rfl) #[] ?_
        refine sY (.string (mkS e2.Text)) hs (Yl.lB [(.string (mkS e2.Text))] false 0) fun _ hs => ?_
        refine wpList_nil (⟨fun _ h => h, ?_⟩)
        refine WpD.ors (by kernel_rfl : _ = [7, 10]) ⟨?_, ?_, trivial⟩
        ·refine stepOne 7 rfl (wanted_none rfl) #[] ?_
         refine stepCallP [(.agg #[(.slice xa48 xl49 xc50)]), (.string (mkS e2.Text))] hs rfl ⟨_, rfl, rfl⟩ rfl Try.func98 rfl (by kernel_rfl) (by decide) hS (fun _ _ v hS hs => ?_)
         obtain ⟨x51, hv, hS⟩ := hS
         subst hv
         refine wpList_nil (⟨fun h => absurd h (by decide), ?_⟩)
         refine WpD.ors (by kernel_rfl : _ = [9, 10]) ⟨?_, ?_, trivial⟩
         ·refine stepOne 9 rfl (wanted_none rfl) #[] ?_
          refine stepCallW [(.pointer p1), (iv x51), (iv at4)] hs hMM rfl ⟨_, rfl, rfl⟩ rfl Try.func71 rfl (by kernel_rfl) (by decide) hS (fun _ _ M53 v hMM hS hs => ?_)
          obtain ⟨x52, hv, hS⟩ := hS
          subst hv
          refine wpList_nil (⟨fun h => absurd h (by decide), ?_⟩)
          refine sE 10 ?_
          refine stepAlloc [(.bool false), (iv 0)] hs (by kernel_rfl) (by decide) (fun _ _ b54 hEb54 hs => ?_)
          refine wpList_nil (⟨fun h => absurd h (by decide), ?_⟩)
          refine sE 11 ?_
          refine stB 0 [(.bool x52.Ok), (iv x52.N)] [⟨b54, 26, [(.bool x52.Ok), (iv x52.N)]⟩, ⟨b5, 109, e2.cells⟩] hs fun _ _ hs => ?_
          refine wpList_nil (⟨fun h => absurd h (by decide), ?_⟩)
          refine WpD.done (by kernel_rfl) ?_ _
          exact ⟨x52.Ok, x52.N, b54, M53, hMM, hEb54, (hs.wk ⟨rfl, rfl, trivial⟩), hS⟩
         ·refine stepOne 10 rfl (wanted_none rfl) #[] ?_
          refine stepAlloc [(.bool false), (iv 0)] hs (by kernel_rfl) (by decide) (fun _ _ b54 hEb54 hs => ?_)
          refine wpList_nil (⟨fun h => absurd h (by decide), ?_⟩)
          refine sE 9 ?_
          refine stepCallW [(.pointer p1), (iv x51), (iv at4)] hs hMM rfl ⟨_, rfl, rfl⟩ rfl Try.func71 rfl (by kernel_rfl) (by decide) hS (fun _ _ M53 v hMM hS hs => ?_)
          obtain ⟨x52, hv, hS⟩ := hS
          subst hv
          refine wpList_nil (⟨fun h => absurd h (by decide), ?_⟩)
          refine sE 11 ?_
          refine stB 0 [(.bool x52.Ok), (iv x52.N)] [⟨b54, 26, [(.bool x52.Ok), (iv x52.N)]⟩, ⟨b5, 109, e2.cells⟩] hs fun _ _ hs => ?_
          refine wpList_nil (⟨fun h => absurd h (by decide), ?_⟩)
          refine WpD.done (by kernel_rfl) ?_ _
          exact ⟨x52.Ok, x52.N, b54, M53, hMM, hEb54, (hs.wk ⟨rfl, rfl, trivial⟩), hS⟩
        ·refine stepOne 10 rfl (wanted_none rfl) #[] ?_
         refine stepAlloc [(.bool false), (iv 0)] hs (by kernel_rfl) (by decide) (fun _ _ b54 hEb54 hs => ?_)
         refine wpList_nil (⟨fun h => absurd h (by decide), ?_⟩)
         refine sE 7 ?_
         refine stepCallP [(.agg #[(.slice xa48 xl49 xc50)]), (.string (mkS e2.Text))] hs rfl ⟨_, rfl, rfl⟩ rfl Try.func98 rfl (by kernel_rfl) (by decide) hS (fun _ _ v hS hs => ?_)
         obtain ⟨x51, hv, hS⟩ := hS
         subst hv
         refine wpList_nil (⟨fun h => absurd h (by decide), ?_⟩)
         refine sE 9 ?_
         refine stepCallW [(.pointer p1), (iv x51), (iv at4)] hs hMM rfl ⟨_, rfl, rfl⟩ rfl Try.func71 rfl (by kernel_rfl) (by decide) hS (fun _ _ M53 v hMM hS hs => ?_)
         obtain ⟨x52, hv, hS⟩ := hS
         subst hv
         refine wpList_nil (⟨fun h => absurd h (by decide), ?_⟩)
         refine sE 11 ?_
         refine stB 0 [(.bool x52.Ok), (iv x52.N)] [⟨b54, 26, [(.bool x52.Ok), (iv x52.N)]⟩, ⟨b5, 109, e2.cells⟩] hs fun _ _ hs => ?_
         refine wpList_nil (⟨fun h => absurd h (by decide), ?_⟩)
         refine WpD.done (by kernel_rfl) ?_ _
         exact ⟨x52.Ok, x52.N, b54, M53, hMM, hEb54, (hs.wk ⟨rfl, rfl, trivial⟩), hS⟩
       ·refine stepOne 10 rfl (wanted_none rfl) #[] ?_
        refine stepAlloc [(.bool false), (iv 0)] hs (by kernel_rfl) (by decide) (fun _ _ b54 hEb54 hs => ?_)
        refine wpList_nil (⟨fun h => absurd h (by decide), ?_⟩)
        refine sE 6 ?_
        refine sY (.string (mkS e2.Text)) hs (Yl.lB [(.string (mkS e2.Text))] false 1) fun _ hs => ?_
        refine wpList_nil (⟨fun _ h => h, ?_⟩)
        refine sE 7 ?_
        refine stepCallP [(.agg #[(.slice xa48 xl49 xc50)]), (.string (mkS e2.Text))] hs rfl ⟨_, rfl, rfl⟩ rfl Try.func98 rfl (by kernel_rfl) (by decide) hS (fun _ _ v hS hs => ?_)
        obtain ⟨x51, hv, hS⟩ := hS
        subst hv
        refine wpList_nil (⟨fun h => absurd h (by decide), ?_⟩)
        refine sE 9 ?_
        refine stepCallW [(.pointer p1), (iv x51), (iv at4)] hs hMM rfl ⟨_, rfl, rfl⟩ rfl Try.func71 rfl (by kernel_rfl) (by decide) hS (fun _ _ M53 v hMM hS hs => ?_)
        obtain ⟨x52, hv, hS⟩ := hS
        subst hv
        refine wpList_nil (⟨fun h => absurd h (by decide), ?_⟩)
        refine sE 11 ?_
        refine stB 0 [(.bool x52.Ok), (iv x52.N)] [⟨b54, 26, [(.bool x52.Ok), (iv x52.N)]⟩, ⟨b5, 109, e2.cells⟩] hs fun _ _ hs => ?_
        refine wpList_nil (⟨fun h => absurd h (by decide), ?_⟩)
        refine WpD.done (by kernel_rfl) ?_ _
        exact ⟨x52.Ok, x52.N, b54, M53, hMM, hEb54, (hs.wk ⟨rfl, rfl, trivial⟩), hS⟩
      ·refine stepOne 6 rfl (wanted_none rfl) #[] ?_
       refine sY (.string (mkS e2.Text)) hs (Yl.lB [(.string (mkS e2.Text))] false 0) fun _ hs => ?_
       refine wpList_nil (⟨fun _ h => h, ?_⟩)
       refine WpD.ors (by kernel_rfl : _ = [4, 10]) ⟨?_, ?_, trivial⟩
       ·refine stepOne 4 rfl (wanted_none rfl) #[] ?_
        obtain ⟨xa48, xl49, xc50, hat, hS⟩ := hS
        refine sY (.agg #[(.slice xa48 xl49 xc50)]) hs (Yl.loadV (vs := [(.slice xa48 xl49 xc50)]) true rfl rfl (by kernel_rfl) hat) fun _ hs => ?_
        refine wpList_nil (⟨fun _ h => h, ?_⟩)
        refine WpD.ors (by kernel_rfl : _ = [7, 10]) ⟨?_, ?_, trivial⟩
        ·refine stepOne 7 rfl (wanted_none rfl) #[] ?_
         refine stepCallP [(.agg #[(.slice xa48 xl49 xc50)]), (.string (mkS e2.Text))] hs rfl ⟨_, rfl, rfl⟩ rfl Try.func98 rfl (by kernel_rfl) (by decide) hS (fun _ _ v hS hs => ?_)
         obtain ⟨x51, hv, hS⟩ := hS
         subst hv
         refine wpList_nil (⟨fun h => absurd h (by decide), ?_⟩)
         refine WpD.ors (by kernel_rfl : _ = [9, 10]) ⟨?_, ?_, trivial⟩
         ·refine stepOne 9 rfl (wanted_none rfl) #[] ?_
          refine stepCallW [(.pointer p1), (iv x51), (iv at4)] hs hMM rfl ⟨_, rfl, rfl⟩ rfl Try.func71 rfl (by kernel_rfl) (by decide) hS (fun _ _ M53 v hMM hS hs => ?_)
          obtain ⟨x52, hv, hS⟩ := hS
          subst hv
          refine wpList_nil (⟨fun h => absurd h (by decide), ?_⟩)
          refine sE 10 ?_
          refine stepAlloc [(.bool false), (iv 0)] hs (by kernel_rfl) (by decide) (fun _ _ b54 hEb54 hs => ?_)
          refine wpList_nil (⟨fun h => absurd h (by decide), ?_⟩)
          refine sE 11 ?_
          refine stB 0 [(.bool x52.Ok), (iv x52.N)] [⟨b54, 26, [(.bool x52.Ok), (iv x52.N)]⟩, ⟨b5, 109, e2.cells⟩] hs fun _ _ hs => ?_
          refine wpList_nil (⟨fun h => absurd h (by decide), ?_⟩)
          refine WpD.done (by kernel_rfl) ?_ _
          exact ⟨x52.Ok, x52.N, b54, M53, hMM, hEb54, (hs.wk ⟨rfl, rfl, trivial⟩), hS⟩
         ·refine stepOne 10 rfl (wanted_none rfl) #[] ?_
          refine stepAlloc [(.bool false), (iv 0)] hs (by kernel_rfl) (by decide) (fun _ _ b54 hEb54 hs => ?_)
          refine wpList_nil (⟨fun h => absurd h (by decide), ?_⟩)
          refine sE 9 ?_
          refine stepCallW [(.pointer p1), (iv x51), (iv at4)] hs hMM rfl ⟨_, rfl, rfl⟩ rfl Try.func71 rfl (by kernel_rfl) (by decide) hS (fun _ _ M53 v hMM hS hs => ?_)
          obtain ⟨x52, hv, hS⟩ := hS
          subst hv
          refine wpList_nil (⟨fun h => absurd h (by decide), ?_⟩)
          refine sE 11 ?_
          refine stB 0 [(.bool x52.Ok), (iv x52.N)] [⟨b54, 26, [(.bool x52.Ok), (iv x52.N)]⟩, ⟨b5, 109, e2.cells⟩] hs fun _ _ hs => ?_
          refine wpList_nil (⟨fun h => absurd h (by decide), ?_⟩)
          refine WpD.done (by kernel_rfl) ?_ _
          exact ⟨x52.Ok, x52.N, b54, M53, hMM, hEb54, (hs.wk ⟨rfl, rfl, trivial⟩), hS⟩
        ·refine stepOne 10 rfl (wanted_none rfl) #[] ?_
         refine stepAlloc [(.bool false), (iv 0)] hs (by kernel_rfl) (by decide) (fun _ _ b54 hEb54 hs => ?_)
         refine wpList_nil (⟨fun h => absurd h (by decide), ?_⟩)
         refine sE 7 ?_
         refine stepCallP [(.agg #[(.slice xa48 xl49 xc50)]), (.string (mkS e2.Text))] hs rfl ⟨_, rfl, rfl⟩ rfl Try.func98 rfl (by kernel_rfl) (by decide) hS (fun _ _ v hS hs => ?_)
         obtain ⟨x51, hv, hS⟩ := hS
         subst hv
         refine wpList_nil (⟨fun h => absurd h (by decide), ?_⟩)
         refine sE 9 ?_
         refine stepCallW [(.pointer p1), (iv x51), (iv at4)] hs hMM rfl ⟨_, rfl, rfl⟩ rfl Try.func71 rfl (by kernel_rfl) (by decide) hS (fun _ _ M53 v hMM hS hs => ?_)
         obtain ⟨x52, hv, hS⟩ := hS
         subst hv
         refine wpList_nil (⟨fun h => absurd h (by decide), ?_⟩)
         refine sE 11 ?_
         refine stB 0 [(.bool x52.Ok), (iv x52.N)] [⟨b54, 26, [(.bool x52.Ok), (iv x52.N)]⟩, ⟨b5, 109, e2.cells⟩] hs fun _ _ hs => ?_
         refine wpList_nil (⟨fun h => absurd h (by decide), ?_⟩)
         refine WpD.done (by kernel_rfl) ?_ _
         exact ⟨x52.Ok, x52.N, b54, M53, hMM, hEb54, (hs.wk ⟨rfl, rfl, trivial⟩), hS⟩
       ·refine stepOne 10 rfl (wanted_none rfl) #[] ?_
        refine stepAlloc [(.bool false), (iv 0)] hs (by kernel_rfl) (by decide) (fun _ _ b54 hEb54 hs => ?_)
        refine wpList_nil (⟨fun h => absurd h (by decide), ?_⟩)
        refine sE 4 ?_
        obtain ⟨xa48, xl49, xc50, hat, hS⟩ := hS
        refine sY (.agg #[(.slice xa48 xl49 xc50)]) hs (Yl.loadV (vs := [(.slice xa48 xl49 xc50)]) true rfl rfl (by kernel_rfl) hat) fun _ hs => ?_
        refine wpList_nil (⟨fun _ h => h, ?_⟩)
        refine sE 7 ?_
        refine stepCallP [(.agg #[(.slice xa48 xl49 xc50)]), (.string (mkS e2.Text))] hs rfl ⟨_, rfl, rfl⟩ rfl Try.func98 rfl (by kernel_rfl) (by decide) hS (fun _ _ v hS hs => ?_)
        obtain ⟨x51, hv, hS⟩ := hS
        subst hv
        refine wpList_nil (⟨fun h => absurd h (by decide), ?_⟩)
        refine sE 9 ?_
        refine stepCallW [(.pointer p1), (iv x51), (iv at4)] hs hMM rfl ⟨_, rfl, rfl⟩ rfl Try.func71 rfl (by kernel_rfl) (by decide) hS (fun _ _ M53 v hMM hS hs => ?_)
        obtain ⟨x52, hv, hS⟩ := hS
        subst hv
        refine wpList_nil (⟨fun h => absurd h (by decide), ?_⟩)
        refine sE 11 ?_
        refine stB 0 [(.bool x52.Ok), (iv x52.N)] [⟨b54, 26, [(.bool x52.Ok), (iv x52.N)]⟩, ⟨b5, 109, e2.cells⟩] hs fun _ _ hs => ?_
        refine wpList_nil (⟨fun h => absurd h (by decide), ?_⟩)
        refine WpD.done (by kernel_rfl) ?_ _
        exact ⟨x52.Ok, x52.N, b54, M53, hMM, hEb54, (hs.wk ⟨rfl, rfl, trivial⟩), hS⟩
      ·refine stepOne 10 rfl (wanted_none rfl) #[] ?_
       refine stepAlloc [(.bool false), (iv 0)] hs (by kernel_rfl) (by decide) (fun _ _ b54 hEb54 hs => ?_)
       refine wpList_nil (⟨fun h => absurd h (by decide), ?_⟩)
       refine WpD.ors (by kernel_rfl : _ = [4, 6]) ⟨?_, ?_, trivial⟩
       ·refine stepOne 4 rfl (wanted_none rfl) #[] ?_
        obtain ⟨xa48, xl49, xc50, hat, hS⟩ := hS
        refine sY (.agg #[(.slice xa48 xl49 xc50)]) hs (Yl.loadV (vs := [(.slice xa48 xl49 xc50)]) true rfl rfl (by kernel_rfl) hat) fun _ hs => ?_
        refine wpList_nil (⟨fun _ h => h, ?_⟩)
        refine sE 6 ?_
        refine sY (.string (mkS e2.Text)) hs (Yl.lB [(.string (mkS e2.Text))] false 1) fun _ hs => ?_
        refine wpList_nil (⟨fun _ h => h, ?_⟩)
        refine sE 7 ?_
        refine stepCallP [(.agg #[(.slice xa48 xl49 xc50)]), (.string (mkS e2.Text))] hs rfl ⟨_, rfl, rfl⟩ rfl Try.func98 rfl (by kernel_rfl) (by decide) hS (fun _ _ v hS hs => ?_)
        obtain ⟨x51, hv, hS⟩ := hS
        subst hv
        refine wpList_nil (⟨fun h => absurd h (by decide), ?_⟩)
        refine sE 9 ?_
        refine stepCallW [(.pointer p1), (iv x51), (iv at4)] hs hMM rfl ⟨_, rfl, rfl⟩ rfl Try.func71 rfl (by kernel_rfl) (by decide) hS (fun _ _ M53 v hMM hS hs => ?_)
        obtain ⟨x52, hv, hS⟩ := hS
        subst hv
        refine wpList_nil (⟨fun h => absurd h (by decide), ?_⟩)
        refine sE 11 ?_
        refine stB 0 [(.bool x52.Ok), (iv x52.N)] [⟨b54, 26, [(.bool x52.Ok), (iv x52.N)]⟩, ⟨b5, 109, e2.cells⟩] hs fun _ _ hs => ?_
        refine wpList_nil (⟨fun h => absurd h (by decide), ?_⟩)
        refine WpD.done (by kernel_rfl) ?_ _
        exact ⟨x52.Ok, x52.N, b54, M53, hMM, hEb54, (hs.wk ⟨rfl, rfl, trivial⟩), hS⟩
       ·refine stepOne 6 rfl (wanted_none rfl) #[] ?_
        refine sY (.string (mkS e2.Text)) hs (Yl.lB [(.string (mkS e2.Text))] false 1) fun _ hs => ?_
        refine wpList_nil (⟨fun _ h => h, ?_⟩)
        refine sE 4 ?_
        obtain ⟨xa48, xl49, xc50, hat, hS⟩ := hS
        refine sY (.agg #[(.slice xa48 xl49 xc50)]) hs (Yl.loadV (vs := [(.slice xa48 xl49 xc50)]) true rfl rfl (by kernel_rfl) hat) fun _ hs => ?_
        refine wpList_nil (⟨fun _ h => h, ?_⟩)
        refine sE 7 ?_
        refine stepCallP [(.agg #[(.slice xa48 xl49 xc50)]), (.string (mkS e2.Text))] hs rfl ⟨_, rfl, rfl⟩ rfl Try.func98 rfl (by kernel_rfl) (by decide) hS (fun _ _ v hS hs => ?_)
        obtain ⟨x51, hv, hS⟩ := hS
        subst hv
        refine wpList_nil (⟨fun h => absurd h (by decide), ?_⟩)
        refine sE 9 ?_
        refine stepCallW [(.pointer p1), (iv x51), (iv at4)] hs hMM rfl ⟨_, rfl, rfl⟩ rfl Try.func71 rfl (by kernel_rfl) (by decide) hS (fun _ _ M53 v hMM hS hs => ?_)
        obtain ⟨x52, hv, hS⟩ := hS
        subst hv
        refine wpList_nil (⟨fun h => absurd h (by decide), ?_⟩)
        refine sE 11 ?_
        refine stB 0 [(.bool x52.Ok), (iv x52.N)] [⟨b54, 26, [(.bool x52.Ok), (iv x52.N)]⟩, ⟨b5, 109, e2.cells⟩] hs fun _ _ hs => ?_
        refine wpList_nil (⟨fun h => absurd h (by decide), ?_⟩)
        refine WpD.done (by kernel_rfl) ?_ _
        exact ⟨x52.Ok, x52.N, b54, M53, hMM, hEb54, (hs.wk ⟨rfl, rfl, trivial⟩), hS⟩
     ·intro a w hJ
      obtain ⟨c56, c57, b55, M58, hMM, hEb55, hs, hS⟩ := hJ
      unfold S_pack_Parser_node_J3 at hS
      refine Wp.seq (Wp.regionD [true, true, true, true, true, true, true, true] hs (by kernel_rfl) rfl [⟨b55, 26, [(.bool c56), (iv c57)]⟩, ⟨b5, 109, e2.cells⟩] (fun _ h => h) [] (fun _ h => h) (fun _ hs hC => ?_))
      have hL := Mem.le.refl M58
      refine dP (iv at4) 0 [3, 6, 7] hs QZ.no (wanted_none rfl) fun _ hs => ?_
      refine dP (pt b55 1) 1 [2, 3, 6, 7] hs QZ.no (wanted_none rfl) fun _ hs => ?_
      refine stepDY (v := (iv c57)) 2 [3, 6, 7] hs hC QZ.no rfl (wanted_none rfl) rfl (by decide) (by kernel_rfl) (by kernel_rfl) (by kernel_rfl) (Yl.lB [(iv c57)] false 0) (fun _ hs => ?_)
      obtain ⟨hI, hS⟩ := hS
      refine stepDP (v := (iv (at4 + c57))) 3 [6, 7] hs QZ.no rfl (wanted_none rfl) rfl (by decide) (by kernel_rfl) (by kernel_rfl) (by kernel_rfl) (Yl.eq (Yl.pure (v := Value.int .i64 (IntKind.wrap .i64 (at4 + c57))) rfl (fun _ => by kernel_rfl)) (congrArg (Value.int .i64) (wrap_in hI))) (fun _ hs => ?_)
      refine dP (pt b55 0) 4 [5, 7] hs QZ.no (wanted_none rfl) fun _ hs => ?_
      refine stepDY (v := (.bool c56)) 5 [7] hs hC QZ.no rfl (wanted_none rfl) rfl (by decide) (by kernel_rfl) (by kernel_rfl) (by kernel_rfl) (Yl.lB [(.bool c56)] false 0) (fun _ hs => ?_)
      refine sE 6 ?_
      refine sP (iv (at4 + c57)) hs fun _ hs => ?_
      refine wpList_nil (⟨fun _ h => h, ?_⟩)
      refine sE 7 ?_
      refine sP (.bool c56) hs fun _ hs => ?_
      refine wpList_nil (⟨fun _ h => h, ?_⟩)
      refine WpD.done (by kernel_rfl) ?_ _
      exact Wp.ret (leaveW (K := K) hs (resTT hs rfl rfl rfl) hMM hS)
    ·have hS := hS.2 hc
     refine Wp.seq (Wp.region (sP (.bool ((e2.Kind : Int) == (5 : Int))) hs fun _ hs => ?_))
     refine sP (.bool ((e2.Kind : Int) == (5 : Int))) hs fun _ hs => ?_
     refine wpList_nil (Wp.cond hs rfl rfl beq_iff_eq (fun hc => ?_) (fun hc => ?_))
     ·have hS := hS.1 hc
      refine Wp.seq (Wp.region (sP (.pointer p1) hs fun _ hs => ?_))
      refine sY e2.val hs (Yl.lB e2.cells true 0) fun _ hs => ?_
      refine sP (iv n3) hs fun _ hs => ?_
      refine sP (iv at4) hs fun _ hs => ?_
      refine stepCallW [(.pointer p1), e2.val, (iv n3), (iv at4)] hs hMM rfl ⟨_, rfl, rfl⟩ rfl Try.func166 rfl (by kernel_rfl) (by decide) hS (fun _ _ M61 v hMM hS hs => ?_)
      obtain ⟨x59, x60, hv, hS⟩ := hS
      subst hv
      refine sP (iv x59) hs fun _ hs => ?_
      refine sP (.bool x60) hs fun _ hs => ?_
      refine sP (iv x59) hs fun _ hs => ?_
      refine sP (.bool x60) hs fun _ hs => ?_
      exact wpList_nil (Wp.ret (leaveW (K := K) hs (resTT hs rfl rfl rfl) hMM hS))
     ·have hS := hS.2 hc
      refine Wp.seq (Wp.region (sP (.bool ((e2.Kind : Int) == (6 : Int))) hs fun _ hs => ?_))
      refine sP (.bool ((e2.Kind : Int) == (6 : Int))) hs fun _ hs => ?_
      refine wpList_nil (Wp.cond hs rfl rfl beq_iff_eq (fun hc => ?_) (fun hc => ?_))
      ·have hS := hS.1 hc
       refine Wp.seq (Wp.region (sP (iv n3) hs fun _ hs => ?_))
       obtain ⟨hI, hS⟩ := hS
       refine sY (iv (n3 + 1)) hs (Yl.eq (Yl.pure (v := Value.int .i64 (IntKind.wrap .i64 (n3 + 1))) rfl (fun _ => by kernel_rfl)) (congrArg (Value.int .i64) (wrap_in hI))) fun _ hs => ?_
       refine sP (iv (n3 + 1)) hs fun _ hs => ?_
       refine wpList_nil (Wp.seq (Wp.seq (Wp.region (sP (pt b5 6) hs fun _ hs => ?_))))
       refine sY (.slice e2.Kids_a e2.Kids_l e2.Kids_c) hs (Yl.lB [(.slice e2.Kids_a e2.Kids_l e2.Kids_c)] false 0) fun _ hs => ?_
       refine sP (iv ((e2.Kids_l : Nat) : Int)) hs fun _ hs => ?_
       refine sP (iv 0) hs fun _ hs => ?_
       refine wpList_nil (Wp.block ?_)
       obtain ⟨G90, I88, mu89, gz92, hI0, hst⟩ := hS
       refine Wp.loop (σ := G90 × (Int) × (Int) × (Mem)) (fun s a w => match s with | (gh91, k85, x86, M87) => WX M87 M E ∧ Sx 167 E (bwW E M L) M87 w a [(0, (.pointer p1)), (3, (iv at4)), (12, (iv k85)), (139, (.slice e2.Kids_a e2.Kids_l e2.Kids_c)), (140, (iv ((e2.Kids_l : Nat) : Int))), (141, (iv x86))] [⟨b5, 109, e2.cells⟩] [] ∧ I88 gh91 k85 x86 M87) (fun s => match s with | (gh91, k85, x86, M87) => mu89 gh91 k85 x86) (gz92, n3 + 1, 0, M) ⟨hMM, (hs.wk ⟨rfl, rfl, rfl, rfl, rfl, rfl, trivial⟩), hI0⟩ (fun s a w hI => ?_)
       obtain ⟨gh91, k85, x86, M87⟩ := s
       obtain ⟨hMM, hs, hI⟩ := hI
       have hS := hst gh91 k85 x86 M87 hI
       clear hst hI0 hI
       refine Wp.seq (Wp.region (sP (.bool (decide (x86 < ((e2.Kids_l : Nat) : Int)))) hs fun _ hs => ?_))
       refine wpList_nil (Wp.seq (Wp.cond hs rfl rfl decide_eq_true_iff (fun hc => ?_) (fun hc => ?_)))
       ·have hS := hS.1 hc
        refine Wp.skip (Wp.seq (Wp.block (Wp.seq (Wp.region ?_))))
        obtain ⟨b93, o94, ha, h0, hl, hS⟩ := hS
        refine sY (.pointer (some ⟨b93, o94 + x86.toNat * 7, none⟩)) hs (Yl.indexS (e := 109) (sz := 7) rfl rfl rfl rfl (by kernel_rfl) (by kernel_rfl) ha h0 hl) fun _ hs => ?_
        obtain ⟨x95, hat, hS⟩ := hS
        refine sY x95.val hs (Yl.loadV (vs := x95.cells) true rfl rfl (by kernel_rfl) hat) fun _ hs => ?_
        refine stepAlloc [(iv 0), (.int .u64 0), (.int .u64 0), (.int .u64 0), (.int .u64 0), (.string (mkS [])), (.slice none 0 0)] hs (by kernel_rfl) (by decide) (fun _ _ b96 hEb96 hs => ?_)
        have hs := hs.nilrow 109 7
        refine stB 0 x95.cells [⟨b96, 109, x95.cells⟩, ⟨b5, 109, e2.cells⟩] hs fun _ _ hs => ?_
        refine wpList_nil (Wp.seq (Wp.seq (Wp.region (sP (.pointer p1) hs fun _ hs => ?_))))
        refine sY x95.val hs (Yl.lB x95.cells true 0) fun _ hs => ?_
        refine sP (iv k85) hs fun _ hs => ?_
        refine sP (iv at4) hs fun _ hs => ?_
        refine stepCallW [(.pointer p1), x95.val, (iv k85), (iv at4)] hs hMM rfl ⟨_, rfl, rfl⟩ rfl Try.func122 rfl (by kernel_rfl) (by decide) hS (fun _ _ M99 v hMM hS hs => ?_)
        obtain ⟨x97, x98, hv, hS⟩ := hS
        subst hv
        refine sP (Value.tuple #[(iv x97), (.bool x98)]) hs fun _ hs => ?_
        refine sP (iv x97) hs fun _ hs => ?_
        refine sP (.bool x98) hs fun _ hs => ?_
        refine sP (iv x97) hs fun _ hs => ?_
        refine sP (.bool x98) hs fun _ hs => ?_
        refine wpList_nil (Wp.seq (Wp.region (sP (.bool x98) hs fun _ hs => ?_)))
        refine wpList_nil (Wp.cond hs rfl rfl Iff.rfl (fun hc => ?_) (fun hc => ?_))
        ·have hS := hS.1 hc
         refine Wp.seq (Wp.region (sP (iv x97) hs fun _ hs => ?_))
         refine sP (iv x97) hs fun _ hs => ?_
         refine sP (.bool true) hs fun _ hs => ?_
         exact wpList_nil (Wp.ret (leaveW (K := K) hs (resTT hs rfl rfl rfl) hMM hS))
        ·have hS := hS.2 hc
         refine Wp.skip (Wp.region (sP (iv k85) hs fun _ hs => ?_))
         refine sY x95.val hs (Yl.lB x95.cells true 0) fun _ hs => ?_
         refine stepCallW [x95.val] hs hMM rfl ⟨_, rfl, rfl⟩ rfl Try.func121 rfl (by kernel_rfl) (by decide) hS (fun _ _ M101 v hMM hS hs => ?_)
         obtain ⟨x100, hv, hS⟩ := hS
         subst hv
         obtain ⟨hI, hS⟩ := hS
         refine sY (iv (k85 + x100)) hs (Yl.eq (Yl.pure (v := Value.int .i64 (IntKind.wrap .i64 (k85 + x100))) rfl (fun _ => by kernel_rfl)) (congrArg (Value.int .i64) (wrap_in hI))) fun _ hs => ?_
         refine sP (iv (k85 + x100)) hs fun _ hs => ?_
         refine wpList_nil (Wp.region ?_)
         obtain ⟨hI, hS⟩ := hS
         refine sY (iv (x86 + 1)) hs (Yl.eq (Yl.pure (v := Value.int .i64 (IntKind.wrap .i64 (x86 + 1))) rfl (fun _ => by kernel_rfl)) (congrArg (Value.int .i64) (wrap_in hI))) fun _ hs => ?_
         refine sP (iv (x86 + 1)) hs fun _ hs => ?_
         refine wpList_nil ?_
         obtain ⟨gh, hI1, hI2⟩ := hS
         exact ⟨(gh, k85 + x100, x86 + 1, M101), ⟨hMM, (hs.weak (.cons _ (.cons_cons _ List.Sublist.slnil)) (.cons _ List.Sublist.slnil) ⟨rfl, rfl, rfl, rfl, rfl, rfl, trivial⟩), hI1⟩, hI2⟩
       ·have hS := hS.2 hc
        refine Wp.exit rfl (Wp.seq (Wp.region (sP (iv 0) hs fun _ hs => ?_)))
        refine sP (.bool false) hs fun _ hs => ?_
        exact wpList_nil (Wp.ret (leaveW (K := K) hs (resTT hs rfl rfl rfl) hMM hS))
      ·have hS := hS.2 hc
       refine Wp.skip (Wp.seq (Wp.region (sP (.pointer p1) hs fun _ hs => ?_)))
       refine sY e2.val hs (Yl.lB e2.cells true 0) fun _ hs => ?_
       refine sP (iv n3) hs fun _ hs => ?_
       refine sP (iv at4) hs fun _ hs => ?_
       refine stepCallW [(.pointer p1), e2.val, (iv n3), (iv at4)] hs hMM rfl ⟨_, rfl, rfl⟩ rfl Try.func167 rfl (by kernel_rfl) (by decide) hS (fun _ _ M104 v hMM hS hs => ?_)
       obtain ⟨x102, x103, hv, hS⟩ := hS
       subst hv
       refine sP (iv x102) hs fun _ hs => ?_
       refine sP (.bool x103) hs fun _ hs => ?_
       refine sP (iv x102) hs fun _ hs => ?_
       refine sP (.bool x103) hs fun _ hs => ?_
       exact wpList_nil (Wp.ret (leaveW (K := K) hs (resTT hs rfl rfl rfl) hMM hS))
def S_pack_Parser_try_J1 (x6 : Int) (x7 : Bool) (M17 : Mem) (K : Value → Mem → Prop) : Prop :=
 (∀ M', M17.le M' → K (Value.tuple #[(.int .i64 x6), (.bool x7)]) M')
def S_pack_Parser_try (p1 : Option Addr) (e2 : X_api_Expr) (n3 : Int) (at4 : Int) (M : Mem) (L : Nat → Prop) (K : Value → Mem → Prop) : Prop :=
 (CallW Try.prog 149 #[(.pointer p1), e2.val, (.int .i64 n3), (.int .i64 at4)] M (Wr L M) (fun v M8 => ∃ (x6 : Int) (x7 : Bool), v = (Value.tuple #[(.int .i64 x6), (.bool x7)]) ∧ (∃ (b9 o10 : Nat), p1 = some ⟨b9, o10, none⟩ ∧ (∃ (x11 : Value), At M8 b9 (o10 + 9) [x11] ∧ (∃ nil12 : Bool, FnNil x11 nil12 ∧ ((¬ (nil12 = true) → (∃ (b13 o14 : Nat), p1 = some ⟨b13, o14, none⟩ ∧ (∃ (x15 : Value), At M8 b13 (o14 + 9) [x15] ∧ (CallFW Try.prog x15 [(.int .i64 n3), (.bool x7)] M8 (Wr L M) (fun v M16 => v = (Value.tuple #[]) ∧ (S_pack_Parser_try_J1 x6 x7 M16 K)))))) ∧ (¬ (¬ (nil12 = true)) → (S_pack_Parser_try_J1 x6 x7 M8 K))))))))
set_option maxRecDepth 100000 in
theorem s_pack_Parser_try (p1 : Option Addr) (e2 : X_api_Expr) (n3 : Int) (at4 : Int) (M : Mem) (L : Nat → Prop) (K : Value → Mem → Prop) (hS : S_pack_Parser_try p1 e2 n3 at4 M L K) : CallW Try.prog 122 #[(Value.pointer p1), e2.val, (Value.int .i64 n3), (Value.int .i64 at4)] M L K := by
 refine enterW Try.func122 rfl 34 rfl (Nat.le_of_ble_eq_true rfl) (fun E a hs => ?_)
 unfold S_pack_Parser_try at hS
 have hMM := WX.refl M E
 change Sx 34 E (bwW E M L) M E a [(0, (.pointer p1)), (1, e2.val), (2, (iv n3)), (3, (iv at4))] [] [] at hs
 refine Wp.seq (Wp.region (stepBox e2.cells hs rfl rfl rfl (by decide) (fun _ _ b5 hEb5 hs => ?_)))
 refine sP (iv 0) hs fun _ hs => ?_
 refine sP (.bool false) hs fun _ hs => ?_
 refine wpList_nil (Wp.seq (Wp.region (sP (.pointer p1) hs fun _ hs => ?_)))
 refine sY e2.val hs (Yl.lB e2.cells true 0) fun _ hs => ?_
 refine sP (iv n3) hs fun _ hs => ?_
 refine sP (iv at4) hs fun _ hs => ?_
 refine stepCallW [(.pointer p1), e2.val, (iv n3), (iv at4)] hs hMM rfl ⟨_, rfl, rfl⟩ rfl Try.func149 rfl (by kernel_rfl) (by decide) hS (fun _ _ M8 v hMM hS hs => ?_)
 obtain ⟨x6, x7, hv, hS⟩ := hS
 subst hv
 refine sP (Value.tuple #[(iv x6), (.bool x7)]) hs fun _ hs => ?_
 refine sP (iv x6) hs fun _ hs => ?_
 refine sP (.bool x7) hs fun _ hs => ?_
 refine sP (iv x6) hs fun _ hs => ?_
 refine sP (.bool x7) hs fun _ hs => ?_
 refine wpList_nil (Wp.join (fun a w => ∃ (M17 : Mem), WX M17 M E ∧ Sx 34 E (bwW E M L) M17 w a [(10, (iv x6)), (11, (.bool x7))] [⟨b5, 109, e2.cells⟩] [] ∧ (S_pack_Parser_try_J1 x6 x7 M17 K)) ?_ ?_)
 ·refine Wp.seq (Wp.region (sP (.pointer p1) hs fun _ hs => ?_))
  obtain ⟨b9, o10, hp, hS⟩ := hS
  refine sY (.pointer (some ⟨b9, o10, none⟩)) hs (Yl.nilck rfl rfl hp) fun _ hs => ?_
  refine sP (.pointer (some ⟨b9, o10 + 9, none⟩)) hs fun _ hs => ?_
  obtain ⟨x11, hat, hS⟩ := hS
  refine sY x11 hs (Yl.loadV (vs := [x11]) false rfl rfl (by kernel_rfl) hat) fun _ hs => ?_
  obtain ⟨nil12, hfn, hS⟩ := hS
  refine sY (.bool (!nil12)) hs (Yl.fnNotNil rfl (by kernel_rfl) rfl rfl hfn) fun _ hs => ?_
  refine wpList_nil (Wp.cond hs rfl rfl (bnot_iff Iff.rfl) (fun hc => ?_) (fun hc => ?_))
  ·have hS := hS.1 hc
   refine Wp.region (sP (.pointer p1) hs fun _ hs => ?_)
   obtain ⟨b13, o14, hp, hS⟩ := hS
   refine sY (.pointer (some ⟨b13, o14, none⟩)) hs (Yl.nilck rfl rfl hp) fun _ hs => ?_
   refine sP (.pointer (some ⟨b13, o14 + 9, none⟩)) hs fun _ hs => ?_
   obtain ⟨x15, hat, hS⟩ := hS
   refine sY x15 hs (Yl.loadV (vs := [x15]) false rfl rfl (by kernel_rfl) hat) fun _ hs => ?_
   refine sP (iv n3) hs fun _ hs => ?_
   refine sP (.bool x7) hs fun _ hs => ?_
   refine stepCallFW [(iv n3), (.bool x7)] hs hMM rfl ⟨_, rfl, rfl⟩ rfl (by decide) hS (fun _ _ M16 v hMM hS hs => ?_)
   obtain ⟨hv, hS⟩ := hS
   subst hv
   exact wpList_nil (⟨M16, hMM, (hs.wk ⟨rfl, rfl, trivial⟩), hS⟩)
  ·have hS := hS.2 hc
   exact Wp.skip (⟨M8, hMM, (hs.wk ⟨rfl, rfl, trivial⟩), hS⟩)
 ·intro a w hJ
  obtain ⟨M17, hMM, hs, hS⟩ := hJ
  unfold S_pack_Parser_try_J1 at hS
  refine Wp.seq (Wp.region (sP (iv x6) hs fun _ hs => ?_))
  refine sP (.bool x7) hs fun _ hs => ?_
  refine sP (iv x6) hs fun _ hs => ?_
  refine sP (.bool x7) hs fun _ hs => ?_
  exact wpList_nil (Wp.ret (leaveW (K := K) hs (resTT hs rfl rfl rfl) hMM hS))
def S_pack_Parser_Rule_J1 (p1 : Option Addr) (i2 : Int) (at3 : Int) (M : Mem) (L : Nat → Prop) (x30 : Bool) (M31 : Mem) (c33 : Int) (K : Value → Mem → Prop) : Prop :=
 (∃ (b34 o35 : Nat), p1 = some ⟨b34, o35, none⟩ ∧ (∃ (x36 : Option Nat), At M31 b34 (o35 + 2) [(.map x36)] ∧ (∃ (r37 : Nat) (f38 : Int → Int → Option Value), x36 = some r37 ∧ MapF M31 r37 f38 ∧ InI i2 ∧ InI at3 ∧ Wr L M r37 ∧ ∀ (M39 : Mem), MapS M31 r37 i2 at3 (X_api_Outcome.mk x30 c33).val M39 → (∃ (b40 o41 : Nat), p1 = some ⟨b40, o41, none⟩ ∧ (∃ (xa42 : Option Addr) (xl43 : Nat) (xc44 : Nat), At M39 b40 (o41 + 3) [(.slice xa42 xl43 xc44)] ∧ ((∀ u ∈ (X_api_Step.mk i2 at3 (X_api_Outcome.mk x30 c33)).cells, u.oneCell' = true) ∧ (∃ (xs46 : List Value), RowW M39 62 4 xa42 xl43 xc44 xs46 ∧ (∀ g, xa42 = some ⟨g, 0, none⟩ → Wr L M g) ∧ (xl43 + 1) * 32 ≤ 140737488355328 ∧ ∀ (M49 : Mem) (ad50 : Option Addr) (cap51 : Nat), AppW M39 M49 62 4 xa42 ad50 (xl43 + 1) cap51 (xs46 ++ (X_api_Step.mk i2 at3 (X_api_Outcome.mk x30 c33)).cells) → (∃ (b52 o53 : Nat), p1 = some ⟨b52, o53, none⟩ ∧ (Has M49 b52 (o53 + 3) 1 ∧ Wr L M b52 ∧ ∀ (M54 : Mem), M54 = M49.put b52 (o53 + 3) [(.slice ad50 (xl43 + 1) cap51)] → (∀ M', M54.le M' → K (X_api_Outcome.mk x30 c33).val M'))))))))))
def S_pack_Parser_Rule (p1 : Option Addr) (i2 : Int) (at3 : Int) (M : Mem) (L : Nat → Prop) (K : Value → Mem → Prop) : Prop :=
 (∃ (b6 o7 : Nat), p1 = some ⟨b6, o7, none⟩ ∧ (∃ (x8 : Option Nat), At M b6 (o7 + 2) [(.map x8)] ∧ (∃ (r9 : Nat) (f10 : Int → Int → Option Value), x8 = some r9 ∧ MapF M r9 f10 ∧ InI i2 ∧ InI at3 ∧ (∃ (x11 : X_api_Outcome), (f10 i2 at3).getD (X_api_Outcome.mk false 0).val = x11.val ∧ ((((f10 i2 at3).isSome) = true → (∀ M', M.le M' → K x11.val M')) ∧ (¬ (((f10 i2 at3).isSome) = true) → (∃ (b13 o14 : Nat), p1 = some ⟨b13, o14, none⟩ ∧ (∃ (xa15 : Option Addr) (xl16 : Nat) (xc17 : Nat), At M b13 o14 [(.slice xa15 xl16 xc17)] ∧ (∃ (b18 o19 : Nat), xa15 = some ⟨b18, o19, none⟩ ∧ (0 : Int) ≤ i2 ∧ i2 < ((xl16 : Nat) : Int) ∧ (∃ (x20 : X_api_Expr), At M b18 (o19 + i2.toNat * 8 + 1) x20.cells ∧ (∃ (b21 o22 : Nat), p1 = some ⟨b21, o22, none⟩ ∧ (∃ (xa23 : Option Addr) (xl24 : Nat) (xc25 : Nat), At M b21 (o22 + 10) [(.slice xa23 xl24 xc25)] ∧ (∃ (b26 o27 : Nat), xa23 = some ⟨b26, o27, none⟩ ∧ (0 : Int) ≤ i2 ∧ i2 < ((xl24 : Nat) : Int) ∧ (∃ (x28 : Int), At M b26 (o27 + i2.toNat * 1) [(.int .i64 x28)] ∧ (CallW Try.prog 122 #[(.pointer p1), x20.val, (.int .i64 x28), (.int .i64 at3)] M (Wr L M) (fun v M31 => ∃ (x29 : Int) (x30 : Bool), v = (Value.tuple #[(.int .i64 x29), (.bool x30)]) ∧ ((x30 = true → (InI (x29 - at3) ∧ (S_pack_Parser_Rule_J1 p1 i2 at3 M L x30 M31 (x29 - at3) K))) ∧ (¬ (x30 = true) → (S_pack_Parser_Rule_J1 p1 i2 at3 M L x30 M31 0 K)))))))))))))))))))
set_option maxRecDepth 100000 in
theorem s_pack_Parser_Rule (p1 : Option Addr) (i2 : Int) (at3 : Int) (M : Mem) (L : Nat → Prop) (K : Value → Mem → Prop) (hS : S_pack_Parser_Rule p1 i2 at3 M L K) : CallW Try.prog 71 #[(Value.pointer p1), (Value.int .i64 i2), (Value.int .i64 at3)] M L K := by
 refine enterW Try.func71 rfl 76 rfl (Nat.le_of_ble_eq_true rfl) (fun E a hs => ?_)
 unfold S_pack_Parser_Rule at hS
 have hMM := WX.refl M E
 change Sx 76 E (bwW E M L) M E a [(0, (.pointer p1)), (1, (iv i2)), (2, (iv at3))] [] [] at hs
 refine Wp.seq (Wp.region (stepAlloc [(.bool false), (iv 0)] hs (by kernel_rfl) (by decide) (fun _ _ b4 hEb4 hs => ?_)))
 refine wpList_nil (Wp.seq (Wp.region (sP (iv i2) hs fun _ hs => ?_)))
 refine sP (iv at3) hs fun _ hs => ?_
 refine sP (X_pack_key.mk i2 at3).val hs fun _ hs => ?_
 refine stepAlloc [(iv 0), (iv 0)] hs (by kernel_rfl) (by decide) (fun _ _ b5 hEb5 hs => ?_)
 refine stB 0 [(iv i2), (iv at3)] [⟨b5, 187, [(iv i2), (iv at3)]⟩, ⟨b4, 26, [(.bool false), (iv 0)]⟩] hs fun _ _ hs => ?_
 refine wpList_nil (Wp.seq (Wp.seq (Wp.regionD [true, true, true, true, true, true, true, true, true, true, false, true] hs (by kernel_rfl) rfl [⟨b5, 187, [(iv i2), (iv at3)]⟩, ⟨b4, 26, [(.bool false), (iv 0)]⟩] (fun _ h => h) [] (fun _ h => h) (fun _ hs hC => ?_))))
 have hL := Mem.le.refl M
 refine dP (Value.pointer p1) 0 [1, 2, 3, 5, 6, 7, 8, 10, 11] hs QZ.no (wanted_none rfl) fun _ hs => ?_
 obtain ⟨b6, o7, hp, hS⟩ := hS
 refine stepDP (v := (.pointer (some ⟨b6, o7, none⟩))) 1 [2, 3, 5, 6, 7, 8, 10, 11] hs QZ.no rfl (wanted_none rfl) rfl (by decide) (by kernel_rfl) (by kernel_rfl) (by kernel_rfl) (Yl.nilck rfl rfl hp) (fun _ hs => ?_)
 refine dP (Value.pointer (some ⟨b6, o7 + 2, none⟩)) 2 [3, 5, 6, 7, 8, 10, 11] hs QZ.no (wanted_none rfl) fun _ hs => ?_
 obtain ⟨x8, hat, hS⟩ := hS
 refine stepDY (v := (.map x8)) 3 [5, 6, 7, 8, 10, 11] hs hC QZ.no rfl (wanted_none rfl) rfl (by decide) (by kernel_rfl) (by kernel_rfl) (by kernel_rfl) (Yl.loadV (vs := [(.map x8)]) false rfl rfl (by kernel_rfl) hat) (fun _ hs => ?_)
 refine stepDY (v := (X_pack_key.mk i2 at3).val) 4 [5, 6, 7, 8, 10, 11] hs hC QZ.no rfl (wanted_none rfl) rfl (by decide) (by kernel_rfl) (by kernel_rfl) (by kernel_rfl) (Yl.lB (X_pack_key.mk i2 at3).cells true 0) (fun _ hs => ?_)
 obtain ⟨r9, f10, hmr, hmf, hk0, hk1, x11, hmv, hS⟩ := hS
 refine stepDY (v := (Value.tuple #[x11.val, (.bool ((f10 i2 at3).isSome))])) 5 [6, 7, 8, 10, 11] hs hC QZ.no rfl (wanted_none rfl) rfl (by decide) (by kernel_rfl) (by kernel_rfl) (by kernel_rfl) (Yl.lookupOk rfl rfl (congrArg Value.map hmr) rfl rfl (KeyP.pair (e := 3) 3 (by decide) (by kernel_rfl) (by kernel_rfl) rfl rfl rfl rfl rfl rfl rfl rfl rfl (by kernel_rfl) (by kernel_rfl) (by kernel_rfl) (by kernel_rfl)) ⟨_, rfl, rfl⟩ hmf hk0 hk1 hmv rfl) (fun _ hs => ?_)
 refine dP (Value.tuple #[x11.val, (.bool ((f10 i2 at3).isSome))]) 6 [7, 8, 10, 11] hs QZ.no (wanted_none rfl) fun _ hs => ?_
 refine dP x11.val 7 [10, 11] hs QZ.no (wanted_none rfl) fun _ hs => ?_
 refine dP (Value.bool ((f10 i2 at3).isSome)) 8 [11] hs QZ.no (wanted_none rfl) fun _ hs => ?_
 refine sE 9 ?_
 refine stepAlloc [(.bool false), (iv 0)] hs (by kernel_rfl) (by decide) (fun _ _ b12 hEb12 hs => ?_)
 refine wpList_nil (⟨fun _ _ => hs.cxle hL (.cons _ (.cons_cons _ (.cons_cons _ List.Sublist.slnil))) (List.Sublist.refl _), ?_⟩)
 have hC := hs.cxle hL (.cons _ (.cons_cons _ (.cons_cons _ List.Sublist.slnil))) (List.Sublist.refl _)
 refine sE 10 ?_
 refine stB 0 [(.bool x11.Ok), (iv x11.N)] [⟨b12, 26, [(.bool x11.Ok), (iv x11.N)]⟩, ⟨b5, 187, [(iv i2), (iv at3)]⟩, ⟨b4, 26, [(.bool false), (iv 0)]⟩] hs fun _ _ hs => ?_
 refine wpList_nil (⟨fun h => absurd h (by decide), ?_⟩)
 refine sE 11 ?_
 refine sP (.bool ((f10 i2 at3).isSome)) hs fun _ hs => ?_
 refine wpList_nil (⟨fun _ h => h, ?_⟩)
 refine WpD.done (by kernel_rfl) ?_ _
 refine Wp.seq (Wp.region (sP (.bool ((f10 i2 at3).isSome)) hs fun _ hs => ?_))
 refine wpList_nil (Wp.cond hs rfl rfl Iff.rfl (fun hc => ?_) (fun hc => ?_))
 ·have hS := hS.1 hc
  refine Wp.seq (Wp.region (sY x11.val hs (Yl.lB x11.cells true 0) fun _ hs => ?_))
  refine stB 2 [(.bool x11.Ok), (iv x11.N)] [⟨b12, 26, [(.bool x11.Ok), (iv x11.N)]⟩, ⟨b5, 187, [(iv i2), (iv at3)]⟩, ⟨b4, 26, [(.bool x11.Ok), (iv x11.N)]⟩] hs fun _ _ hs => ?_
  exact wpList_nil (Wp.ret (leaveW (K := K) hs (resC (vs := [(.bool x11.Ok), (iv x11.N)]) true 2 hs rfl rfl rfl (by kernel_rfl) rfl) hMM hS))
 ·have hS := hS.2 hc
  refine Wp.skip (Wp.seq (Wp.regionD [true, true, true, true, true, true, true, true, true, true, true, true, true, true, true, true, true, true, false, true, true, true, true, true] hs (by kernel_rfl) rfl [⟨b12, 26, [(.bool x11.Ok), (iv x11.N)]⟩, ⟨b5, 187, [(iv i2), (iv at3)]⟩, ⟨b4, 26, [(.bool false), (iv 0)]⟩] (fun _ h => h) [] (fun _ h => h) (fun _ hs hC => ?_)))
  have hL := Mem.le.refl M
  refine dP (Value.pointer p1) 0 [18, 19, 20, 21, 22, 23] hs QZ.no (wanted_none rfl) fun _ hs => ?_
  refine dP (Value.pointer p1) 1 [2, 3, 4, 5, 7, 8, 9, 18, 19, 20, 21, 22, 23] hs QZ.no (wanted_none rfl) fun _ hs => ?_
  obtain ⟨b13, o14, hp, hS⟩ := hS
  refine stepDP (v := (.pointer (some ⟨b13, o14, none⟩))) 2 [3, 4, 5, 7, 8, 9, 18, 19, 20, 21, 22, 23] hs QZ.no rfl (wanted_none rfl) rfl (by decide) (by kernel_rfl) (by kernel_rfl) (by kernel_rfl) (Yl.nilck rfl rfl hp) (fun _ hs => ?_)
  refine dP (Value.pointer (some ⟨b13, o14, none⟩)) 3 [4, 5, 7, 8, 9, 18, 19, 20, 21, 22, 23] hs QZ.no (wanted_none rfl) fun _ hs => ?_
  refine dP (Value.pointer (some ⟨b13, o14, none⟩)) 4 [5, 7, 8, 9, 18, 19, 20, 21, 22, 23] hs QZ.no (wanted_none rfl) fun _ hs => ?_
  obtain ⟨xa15, xl16, xc17, hat, hS⟩ := hS
  refine stepDY (v := (.slice xa15 xl16 xc17)) 5 [7, 8, 9, 18, 19, 20, 21, 22, 23] hs hC QZ.no rfl (wanted_none rfl) rfl (by decide) (by kernel_rfl) (by kernel_rfl) (by kernel_rfl) (Yl.loadV (vs := [(.slice xa15 xl16 xc17)]) false rfl rfl (by kernel_rfl) hat) (fun _ hs => ?_)
  refine dP (iv i2) 6 [7, 8, 9, 18, 19, 20, 21, 22, 23] hs QZ.no (wanted_none rfl) fun _ hs => ?_
  obtain ⟨b18, o19, ha, h0, hl, hS⟩ := hS
  refine stepDP (v := (.pointer (some ⟨b18, o19 + i2.toNat * 8, none⟩))) 7 [8, 9, 18, 19, 20, 21, 22, 23] hs QZ.no rfl (wanted_none rfl) rfl (by decide) (by kernel_rfl) (by kernel_rfl) (by kernel_rfl) (Yl.indexS (e := 111) (sz := 8) rfl rfl rfl rfl (by kernel_rfl) (by kernel_rfl) ha h0 hl) (fun _ hs => ?_)
  refine dP (Value.pointer (some ⟨b18, o19 + i2.toNat * 8 + 1, none⟩)) 8 [9, 18, 19, 20, 21, 22, 23] hs QZ.no (wanted_none rfl) fun _ hs => ?_
  obtain ⟨x20, hat, hS⟩ := hS
  refine stepDY (v := x20.val) 9 [18, 19, 20, 21, 22, 23] hs hC QZ.no rfl (wanted_none rfl) rfl (by decide) (by kernel_rfl) (by kernel_rfl) (by kernel_rfl) (Yl.loadV (vs := x20.cells) true rfl rfl (by kernel_rfl) hat) (fun _ hs => ?_)
  refine dP (Value.pointer p1) 10 [11, 12, 13, 15, 16, 18, 19, 20, 21, 22, 23] hs QZ.no (wanted_none rfl) fun _ hs => ?_
  obtain ⟨b21, o22, hp, hS⟩ := hS
  refine stepDP (v := (.pointer (some ⟨b21, o22, none⟩))) 11 [12, 13, 15, 16, 18, 19, 20, 21, 22, 23] hs QZ.no rfl (wanted_none rfl) rfl (by decide) (by kernel_rfl) (by kernel_rfl) (by kernel_rfl) (Yl.nilck rfl rfl hp) (fun _ hs => ?_)
  refine dP (Value.pointer (some ⟨b21, o22 + 10, none⟩)) 12 [13, 15, 16, 18, 19, 20, 21, 22, 23] hs QZ.no (wanted_none rfl) fun _ hs => ?_
  obtain ⟨xa23, xl24, xc25, hat, hS⟩ := hS
  refine stepDY (v := (.slice xa23 xl24 xc25)) 13 [15, 16, 18, 19, 20, 21, 22, 23] hs hC QZ.no rfl (wanted_none rfl) rfl (by decide) (by kernel_rfl) (by kernel_rfl) (by kernel_rfl) (Yl.loadV (vs := [(.slice xa23 xl24 xc25)]) false rfl rfl (by kernel_rfl) hat) (fun _ hs => ?_)
  refine dP (iv i2) 14 [15, 16, 18, 19, 20, 21, 22, 23] hs QZ.no (wanted_none rfl) fun _ hs => ?_
  obtain ⟨b26, o27, ha, h0, hl, hS⟩ := hS
  refine stepDP (v := (.pointer (some ⟨b26, o27 + i2.toNat * 1, none⟩))) 15 [16, 18, 19, 20, 21, 22, 23] hs QZ.no rfl (wanted_none rfl) rfl (by decide) (by kernel_rfl) (by kernel_rfl) (by kernel_rfl) (Yl.indexS (e := 3) (sz := 1) rfl rfl rfl rfl (by kernel_rfl) (by kernel_rfl) ha h0 hl) (fun _ hs => ?_)
  obtain ⟨x28, hat, hS⟩ := hS
  refine stepDY (v := (iv x28)) 16 [18, 19, 20, 21, 22, 23] hs hC QZ.no rfl (wanted_none rfl) rfl (by decide) (by kernel_rfl) (by kernel_rfl) (by kernel_rfl) (Yl.loadV (vs := [(iv x28)]) false rfl rfl (by kernel_rfl) hat) (fun _ hs => ?_)
  refine sE 17 ?_
  refine sP (iv at3) hs fun _ hs => ?_
  refine wpList_nil (⟨fun _ h => h, ?_⟩)
  refine sE 18 ?_
  refine stepCallW [(.pointer p1), x20.val, (iv x28), (iv at3)] hs hMM rfl ⟨_, rfl, rfl⟩ rfl Try.func122 rfl (by kernel_rfl) (by decide) hS (fun _ _ M31 v hMM hS hs => ?_)
  obtain ⟨x29, x30, hv, hS⟩ := hS
  subst hv
  refine wpList_nil (⟨fun h => absurd h (by decide), ?_⟩)
  refine sE 19 ?_
  refine sP (Value.tuple #[(iv x29), (.bool x30)]) hs fun _ hs => ?_
  refine wpList_nil (⟨fun _ h => h, ?_⟩)
  refine dP (iv x29) 20 [22, 23] hs QZ.no (wanted_none rfl) fun _ hs => ?_
  refine dP (Value.bool x30) 21 [23] hs QZ.no (wanted_none rfl) fun _ hs => ?_
  refine sE 22 ?_
  refine sP (iv x29) hs fun _ hs => ?_
  refine wpList_nil (⟨fun _ h => h, ?_⟩)
  refine sE 23 ?_
  refine sP (.bool x30) hs fun _ hs => ?_
  refine wpList_nil (⟨fun _ h => h, ?_⟩)
  refine WpD.done (by kernel_rfl) ?_ _
  refine Wp.seq (Wp.region (sP (.bool x30) hs fun _ hs => ?_))
  refine sP (X_api_Outcome.mk x30 0).val hs fun _ hs => ?_
  refine stepAlloc [(.bool false), (iv 0)] hs (by kernel_rfl) (by decide) (fun _ _ b32 hEb32 hs => ?_)
  refine stB 0 [(.bool x30), (iv 0)] [⟨b32, 26, [(.bool x30), (iv 0)]⟩, ⟨b12, 26, [(.bool x11.Ok), (iv x11.N)]⟩, ⟨b5, 187, [(iv i2), (iv at3)]⟩, ⟨b4, 26, [(.bool false), (iv 0)]⟩] hs fun _ _ hs => ?_
  refine wpList_nil (Wp.join (fun a w => ∃ (c33 : Int), Sx 76 E (bwW E M L) M31 w a [(0, (.pointer p1)), (1, (iv i2)), (2, (iv at3)), (6, (pt b4 0)), (7, (pt b5 0)), (12, (pt b32 0))] [⟨b32, 26, [(.bool x30), (iv c33)]⟩, ⟨b12, 26, [(.bool x11.Ok), (iv x11.N)]⟩, ⟨b5, 187, [(iv i2), (iv at3)]⟩, ⟨b4, 26, [(.bool false), (iv 0)]⟩] [] ∧ (S_pack_Parser_Rule_J1 p1 i2 at3 M L x30 M31 c33 K)) ?_ ?_)
  ·refine Wp.seq (Wp.region (sP (.bool x30) hs fun _ hs => ?_))
   refine wpList_nil (Wp.cond hs rfl rfl Iff.rfl (fun hc => ?_) (fun hc => ?_))
   ·have hS := hS.1 hc
    refine Wp.region (sP (iv x29) hs fun _ hs => ?_)
    refine sP (iv at3) hs fun _ hs => ?_
    obtain ⟨hI, hS⟩ := hS
    refine sY (iv (x29 - at3)) hs (Yl.eq (Yl.pure (v := Value.int .i64 (IntKind.wrap .i64 (x29 - at3))) rfl (fun _ => by kernel_rfl)) (congrArg (Value.int .i64) (wrap_in hI))) fun _ hs => ?_
    refine sP (pt b32 1) hs fun _ hs => ?_
    refine stB 0 [(iv (x29 - at3))] [⟨b32, 26, [(.bool x30), (iv (x29 - at3))]⟩, ⟨b12, 26, [(.bool x11.Ok), (iv x11.N)]⟩, ⟨b5, 187, [(iv i2), (iv at3)]⟩, ⟨b4, 26, [(.bool false), (iv 0)]⟩] hs fun _ _ hs => ?_
    exact wpList_nil (⟨(x29 - at3), (hs.wk ⟨rfl, rfl, rfl, rfl, rfl, rfl, trivial⟩), hS⟩)
   ·have hS := hS.2 hc
    exact Wp.skip (⟨0, (hs.wk ⟨rfl, rfl, rfl, rfl, rfl, rfl, trivial⟩), hS⟩)
  ·intro a w hJ
   obtain ⟨c33, hs, hS⟩ := hJ
   unfold S_pack_Parser_Rule_J1 at hS
   refine Wp.seq (Wp.regionD [true, true, true, true, true, true, false] hs (by kernel_rfl) rfl [⟨b32, 26, [(.bool x30), (iv c33)]⟩, ⟨b12, 26, [(.bool x11.Ok), (iv x11.N)]⟩, ⟨b5, 187, [(iv i2), (iv at3)]⟩, ⟨b4, 26, [(.bool false), (iv 0)]⟩] (fun _ h => h) [] (fun _ h => h) (fun _ hs hC => ?_))
   have hL := Mem.le.refl M31
   refine dP (Value.pointer p1) 0 [1, 2, 3, 6] hs QZ.no (wanted_none rfl) fun _ hs => ?_
   obtain ⟨b34, o35, hp, hS⟩ := hS
   refine stepDP (v := (.pointer (some ⟨b34, o35, none⟩))) 1 [2, 3, 6] hs QZ.no rfl (wanted_none rfl) rfl (by decide) (by kernel_rfl) (by kernel_rfl) (by kernel_rfl) (Yl.nilck rfl rfl hp) (fun _ hs => ?_)
   refine dP (Value.pointer (some ⟨b34, o35 + 2, none⟩)) 2 [3, 6] hs QZ.no (wanted_none rfl) fun _ hs => ?_
   obtain ⟨x36, hat, hS⟩ := hS
   refine stepDY (v := (.map x36)) 3 [6] hs hC QZ.no rfl (wanted_none rfl) rfl (by decide) (by kernel_rfl) (by kernel_rfl) (by kernel_rfl) (Yl.loadV (vs := [(.map x36)]) false rfl rfl (by kernel_rfl) hat) (fun _ hs => ?_)
   refine stepDY (v := (X_pack_key.mk i2 at3).val) 4 [6] hs hC QZ.no rfl (wanted_none rfl) rfl (by decide) (by kernel_rfl) (by kernel_rfl) (by kernel_rfl) (Yl.lB (X_pack_key.mk i2 at3).cells true 2) (fun _ hs => ?_)
   refine sE 5 ?_
   refine sY (X_api_Outcome.mk x30 c33).val hs (Yl.lB (X_api_Outcome.mk x30 c33).cells true 0) fun _ hs => ?_
   refine wpList_nil (⟨fun _ h => h, ?_⟩)
   refine sE 6 ?_
   obtain ⟨r37, f38, hmr, hmf, hk0, hk1, hwr, hS⟩ := hS
   refine stepMapSet hs hMM rfl rfl rfl (congrArg Value.map hmr) rfl rfl rfl (KeyP.pair (e := 3) 3 (by decide) (by kernel_rfl) (by kernel_rfl) rfl rfl rfl rfl rfl rfl rfl rfl rfl (by kernel_rfl) (by kernel_rfl) (by kernel_rfl) (by kernel_rfl)) hmf hk0 hk1 hwr (fun _ _ M39 hM2 hMM hs => ?_)
   have hS := hS M39 hM2
   refine wpList_nil (⟨fun h => absurd h (by decide), ?_⟩)
   refine WpD.done (by kernel_rfl) ?_ _
   refine Wp.seq (Wp.regionD [true, true, true, true, true, true, true, true, true, true, false, true, true, false] hs (by kernel_rfl) rfl [⟨b32, 26, [(.bool x30), (iv c33)]⟩, ⟨b12, 26, [(.bool x11.Ok), (iv x11.N)]⟩, ⟨b5, 187, [(iv i2), (iv at3)]⟩, ⟨b4, 26, [(.bool false), (iv 0)]⟩] (fun _ h => h) [] (fun _ h => h) (fun _ hs hC => ?_))
   have hL := Mem.le.refl M39
   refine dP (Value.pointer p1) 0 [11, 12, 13] hs QZ.no (wanted_none rfl) fun _ hs => ?_
   refine dP (Value.pointer p1) 1 [2, 3, 4, 10, 11, 12, 13] hs QZ.no (wanted_none rfl) fun _ hs => ?_
   obtain ⟨b40, o41, hp, hS⟩ := hS
   refine stepDP (v := (.pointer (some ⟨b40, o41, none⟩))) 2 [3, 4, 10, 11, 12, 13] hs QZ.no rfl (wanted_none rfl) rfl (by decide) (by kernel_rfl) (by kernel_rfl) (by kernel_rfl) (Yl.nilck rfl rfl hp) (fun _ hs => ?_)
   refine dP (Value.pointer (some ⟨b40, o41 + 3, none⟩)) 3 [4, 10, 11, 12, 13] hs QZ.no (wanted_none rfl) fun _ hs => ?_
   obtain ⟨xa42, xl43, xc44, hat, hS⟩ := hS
   refine stepDY (v := (.slice xa42 xl43 xc44)) 4 [10, 11, 12, 13] hs hC QZ.no rfl (wanted_none rfl) rfl (by decide) (by kernel_rfl) (by kernel_rfl) (by kernel_rfl) (Yl.loadV (vs := [(.slice xa42 xl43 xc44)]) false rfl rfl (by kernel_rfl) hat) (fun _ hs => ?_)
   refine dP (iv i2) 5 [8, 9, 10, 11, 12, 13] hs QZ.no (wanted_none rfl) fun _ hs => ?_
   refine dP (iv at3) 6 [8, 9, 10, 11, 12, 13] hs QZ.no (wanted_none rfl) fun _ hs => ?_
   refine sE 7 ?_
   refine sY (X_api_Outcome.mk x30 c33).val hs (Yl.lB (X_api_Outcome.mk x30 c33).cells true 0) fun _ hs => ?_
   refine wpList_nil (⟨fun _ h => h, ?_⟩)
   refine sE 8 ?_
   refine sP (X_api_Step.mk i2 at3 (X_api_Outcome.mk x30 c33)).val hs fun _ hs => ?_
   refine wpList_nil (⟨fun _ h => h, ?_⟩)
   refine sE 9 ?_
   refine stepMake ((X_api_Step.mk i2 at3 (X_api_Outcome.mk x30 c33)).cells) 62 4 1 hs rfl rfl rfl (fun _ => by kernel_rfl) rfl (by unfold maxLen; decide) (by decide) (fun _ _ rv45 hs => ?_)
   refine wpList_nil (⟨fun _ _ => hs.cxle hL (List.Sublist.refl _) (.cons _ List.Sublist.slnil), ?_⟩)
   have hC := hs.cxle hL (List.Sublist.refl _) (.cons _ List.Sublist.slnil)
   refine sE 10 ?_
   obtain ⟨ad47, cap48, hv, hcp, hxl⟩ := hs.rowform 0 rfl
   dsimp only at hv hcp hxl
   subst hv
   obtain ⟨ho, hS⟩ := hS
   obtain ⟨xs46, hrw, hwr, hB, hS⟩ := hS
   refine stepAppendW ((X_api_Step.mk i2 at3 (X_api_Outcome.mk x30 c33)).cells) hs hMM rfl rfl rfl rfl (by kernel_rfl) (by kernel_rfl) (by decide) (by decide) (hs.srcRowA 0 rfl ho) hrw hwr (lenb hB (by decide)) hB (fun _ _ M49 ad50 cap51 hap hMM hs => ?_)
   have hS := hS M49 ad50 cap51 hap
   refine wpList_nil (⟨fun h => absurd h (by decide), ?_⟩)
   refine sE 11 ?_
   obtain ⟨b52, o53, hp, hS⟩ := hS
   refine sY (.pointer (some ⟨b52, o53, none⟩)) hs (Yl.nilck rfl rfl hp) fun _ hs => ?_
   refine wpList_nil (⟨fun _ h => h, ?_⟩)
   refine sE 12 ?_
   refine sP (.pointer (some ⟨b52, o53 + 3, none⟩)) hs fun _ hs => ?_
   refine wpList_nil (⟨fun _ h => h, ?_⟩)
   refine sE 13 ?_
   obtain ⟨hhas, hwr, hS⟩ := hS
   refine stepStoreW (vs := [(.slice ad50 (xl43 + 1) cap51)]) hs hMM rfl rfl rfl rfl rfl (by kernel_rfl) rfl hhas hwr (fun _ _ M54 hM2 hMM hs => ?_)
   have hS := hS M54 hM2
   refine wpList_nil (⟨fun h => absurd h (by decide), ?_⟩)
   refine WpD.done (by kernel_rfl) ?_ _
   refine Wp.seq (Wp.region (sY (X_api_Outcome.mk x30 c33).val hs (Yl.lB (X_api_Outcome.mk x30 c33).cells true 0) fun _ hs => ?_))
   refine stB 3 [(.bool x30), (iv c33)] [⟨b32, 26, [(.bool x30), (iv c33)]⟩, ⟨b12, 26, [(.bool x11.Ok), (iv x11.N)]⟩, ⟨b5, 187, [(iv i2), (iv at3)]⟩, ⟨b4, 26, [(.bool x30), (iv c33)]⟩] hs fun _ _ hs => ?_
   exact wpList_nil (Wp.ret (leaveW (K := K) hs (resC (vs := [(.bool x30), (iv c33)]) true 3 hs rfl rfl rfl (by kernel_rfl) rfl) hMM hS))
def S_pack_At_J1 (ga1 : Option Addr) (gl2 : Nat) (gc3 : Nat) (rule4 : Int) (s5 : List UInt8) (at6 : Int) (M : Mem) (L : Nat → Prop) (x10 : Bool) (K : Value → Mem → Prop) : Prop :=
 ((x10 = true → (∀ M', M.le M' → K (Value.tuple #[(X_api_Outcome.mk false 0).val, (.int .i64 1)]) M')) ∧ (¬ (x10 = true) → (CallW Try.prog 70 #[(.agg #[(.slice ga1 gl2 gc3)]), (.string (mkS s5))] M (Wr L M) (fun v M12 => ∃ (x11 : Option Addr), v = (Value.pointer x11) ∧ (CallW Try.prog 71 #[(.pointer x11), (.int .i64 rule4), (.int .i64 at6)] M12 (Wr L M) (fun v M14 => ∃ (x13 : X_api_Outcome), v = x13.val ∧ (∀ M', M14.le M' → K (Value.tuple #[x13.val, (.int .i64 0)]) M')))))))
def S_pack_At (ga1 : Option Addr) (gl2 : Nat) (gc3 : Nat) (rule4 : Int) (s5 : List UInt8) (at6 : Int) (M : Mem) (L : Nat → Prop) (K : Value → Mem → Prop) : Prop :=
 (CallE Try.prog 51 #[(.agg #[(.slice ga1 gl2 gc3)]), (.string (mkS s5))] M (fun v _ => ∃ (x9 : Int), v = (Value.int .i64 x9) ∧ (((x9 : Int) ≠ 0 → (∀ M', M.le M' → K (Value.tuple #[(X_api_Outcome.mk false 0).val, (.int .i64 x9)]) M')) ∧ (¬ ((x9 : Int) ≠ 0) → ((rule4 < 0 → (S_pack_At_J1 ga1 gl2 gc3 rule4 s5 at6 M L true K)) ∧ (¬ (rule4 < 0) → ((rule4 ≥ ((gl2 : Nat) : Int) → (S_pack_At_J1 ga1 gl2 gc3 rule4 s5 at6 M L true K)) ∧ (¬ (rule4 ≥ ((gl2 : Nat) : Int)) → ((at6 < 0 → (S_pack_At_J1 ga1 gl2 gc3 rule4 s5 at6 M L true K)) ∧ (¬ (at6 < 0) → (S_pack_At_J1 ga1 gl2 gc3 rule4 s5 at6 M L (decide (at6 > ((s5.length : Nat) : Int))) K)))))))))))
set_option maxRecDepth 100000 in
theorem s_pack_At (ga1 : Option Addr) (gl2 : Nat) (gc3 : Nat) (rule4 : Int) (s5 : List UInt8) (at6 : Int) (M : Mem) (L : Nat → Prop) (K : Value → Mem → Prop) (hS : S_pack_At ga1 gl2 gc3 rule4 s5 at6 M L K) : CallW Try.prog 27 #[(Value.agg #[(Value.slice ga1 gl2 gc3)]), (Value.int .i64 rule4), (Value.string (mkS s5)), (Value.int .i64 at6)] M L K := by
 refine enterW Try.func27 rfl 44 rfl (Nat.le_of_ble_eq_true rfl) (fun E a hs => ?_)
 unfold S_pack_At at hS
 have hMM := WX.refl M E
 change Sx 44 E (bwW E M L) M E a [(0, (.agg #[(.slice ga1 gl2 gc3)])), (1, (iv rule4)), (2, (.string (mkS s5))), (3, (iv at6))] [] [] at hs
 refine Wp.seq (Wp.region (stepBox [(.slice ga1 gl2 gc3)] hs rfl rfl rfl (by decide) (fun _ _ b7 hEb7 hs => ?_)))
 refine stepAlloc [(.bool false), (iv 0)] hs (by kernel_rfl) (by decide) (fun _ _ b8 hEb8 hs => ?_)
 refine sP (iv 0) hs fun _ hs => ?_
 refine wpList_nil (Wp.seq (Wp.seq (Wp.region (sY (.agg #[(.slice ga1 gl2 gc3)]) hs (Yl.lB [(.slice ga1 gl2 gc3)] true 1) fun _ hs => ?_))))
 refine sP (.string (mkS s5)) hs fun _ hs => ?_
 refine stepCallP [(.agg #[(.slice ga1 gl2 gc3)]), (.string (mkS s5))] hs rfl ⟨_, rfl, rfl⟩ rfl Try.func51 rfl (by kernel_rfl) (by decide) hS (fun _ _ v hS hs => ?_)
 obtain ⟨x9, hv, hS⟩ := hS
 subst hv
 refine sP (iv x9) hs fun _ hs => ?_
 refine wpList_nil (Wp.seq (Wp.region (sP (iv x9) hs fun _ hs => ?_)))
 refine sP (.bool ((x9 : Int) != (0 : Int))) hs fun _ hs => ?_
 refine wpList_nil (Wp.cond hs rfl rfl bne_iff_ne (fun hc => ?_) (fun hc => ?_))
 ·have hS := hS.1 hc
  refine Wp.seq (Wp.region (sP (X_api_Outcome.mk false 0).val hs fun _ hs => ?_))
  refine sP (iv x9) hs fun _ hs => ?_
  refine stB 0 [(.bool false), (iv 0)] [⟨b8, 26, [(.bool false), (iv 0)]⟩, ⟨b7, 24, [(.slice ga1 gl2 gc3)]⟩] hs fun _ _ hs => ?_
  refine sP (iv x9) hs fun _ hs => ?_
  exact wpList_nil (Wp.ret (leaveW (K := K) hs (resCT (vs := [(.bool false), (iv 0)]) true 0 hs rfl rfl rfl (by kernel_rfl) rfl rfl) hMM hS))
 ·have hS := hS.2 hc
  refine Wp.skip (Wp.seq (Wp.join (fun a w => ∃ (x10 : Bool), Sx 44 E (bwW E M L) M w a [(1, (iv rule4)), (2, (.string (mkS s5))), (3, (iv at6)), (4, (pt b7 0)), (8, (pt b8 0)), (36, (.bool x10))] [⟨b8, 26, [(.bool false), (iv 0)]⟩, ⟨b7, 24, [(.slice ga1 gl2 gc3)]⟩] [] ∧ (S_pack_At_J1 ga1 gl2 gc3 rule4 s5 at6 M L x10 K)) ?_ ?_))
  ·refine Wp.region (sP (iv rule4) hs fun _ hs => ?_)
   refine sP (.bool (decide (rule4 < 0))) hs fun _ hs => ?_
   refine sP (.bool (decide (rule4 < 0))) hs fun _ hs => ?_
   refine bsplit (decide (rule4 < 0)) decide_eq_true_iff (fun hb hc => ?_) (fun hb hc => ?_)
   ·have hs := hs.bt hb
    have hS := hS.1 hc
    refine sNo hs fun _ hs => ?_
    refine sNo hs fun _ hs => ?_
    refine sNo hs fun _ hs => ?_
    refine sNo hs fun _ hs => ?_
    refine sNo hs fun _ hs => ?_
    refine sP (.bool true) hs fun _ hs => ?_
    refine sP (.bool true) hs fun _ hs => ?_
    refine sNo hs fun _ hs => ?_
    refine sNo hs fun _ hs => ?_
    refine sP (.bool true) hs fun _ hs => ?_
    refine sP (.bool true) hs fun _ hs => ?_
    refine sNo hs fun _ hs => ?_
    refine sNo hs fun _ hs => ?_
    refine sNo hs fun _ hs => ?_
    refine sNo hs fun _ hs => ?_
    refine sP (.bool true) hs fun _ hs => ?_
    exact wpList_nil (⟨true, (hs.wk ⟨rfl, rfl, rfl, rfl, rfl, rfl, trivial⟩), hS⟩)
   ·have hs := hs.bf hb
    have hS := hS.2 hc
    refine sYe hs (sP (iv rule4) hs fun _ hs => ?_)
    refine sYe hs (sP (pt b7 0) hs fun _ hs => ?_)
    refine sYe hs (sY (.slice ga1 gl2 gc3) hs (Yl.lB [(.slice ga1 gl2 gc3)] false 1) fun _ hs => ?_)
    refine sYe hs (sP (iv ((gl2 : Nat) : Int)) hs fun _ hs => ?_)
    refine sYe hs (sP (.bool (decide (rule4 ≥ ((gl2 : Nat) : Int)))) hs fun _ hs => ?_)
    refine sP (.bool (decide (rule4 ≥ ((gl2 : Nat) : Int)))) hs fun _ hs => ?_
    refine sP (.bool (decide (rule4 ≥ ((gl2 : Nat) : Int)))) hs fun _ hs => ?_
    refine bsplit (decide (rule4 ≥ ((gl2 : Nat) : Int))) decide_eq_true_iff (fun hb hc => ?_) (fun hb hc => ?_)
    ·have hs := hs.bt hb
     have hS := hS.1 hc
     refine sNo hs fun _ hs => ?_
     refine sNo hs fun _ hs => ?_
     refine sP (.bool true) hs fun _ hs => ?_
     refine sP (.bool true) hs fun _ hs => ?_
     refine sNo hs fun _ hs => ?_
     refine sNo hs fun _ hs => ?_
     refine sNo hs fun _ hs => ?_
     refine sNo hs fun _ hs => ?_
     refine sP (.bool true) hs fun _ hs => ?_
     exact wpList_nil (⟨true, (hs.wk ⟨rfl, rfl, rfl, rfl, rfl, rfl, trivial⟩), hS⟩)
    ·have hs := hs.bf hb
     have hS := hS.2 hc
     refine sYe hs (sP (iv at6) hs fun _ hs => ?_)
     refine sYe hs (sP (.bool (decide (at6 < 0))) hs fun _ hs => ?_)
     refine sP (.bool (decide (at6 < 0))) hs fun _ hs => ?_
     refine sP (.bool (decide (at6 < 0))) hs fun _ hs => ?_
     refine bsplit (decide (at6 < 0)) decide_eq_true_iff (fun hb hc => ?_) (fun hb hc => ?_)
     ·have hs := hs.bt hb
      have hS := hS.1 hc
      refine sNo hs fun _ hs => ?_
      refine sNo hs fun _ hs => ?_
      refine sNo hs fun _ hs => ?_
      refine sNo hs fun _ hs => ?_
      refine sP (.bool true) hs fun _ hs => ?_
      exact wpList_nil (⟨true, (hs.wk ⟨rfl, rfl, rfl, rfl, rfl, rfl, trivial⟩), hS⟩)
     ·have hs := hs.bf hb
      have hS := hS.2 hc
      refine sYe hs (sP (iv at6) hs fun _ hs => ?_)
      refine sYe hs (sP (.string (mkS s5)) hs fun _ hs => ?_)
      refine sYe hs (sP (iv ((s5.length : Nat) : Int)) hs fun _ hs => ?_)
      refine sYe hs (sP (.bool (decide (at6 > ((s5.length : Nat) : Int)))) hs fun _ hs => ?_)
      refine sP (.bool (decide (at6 > ((s5.length : Nat) : Int)))) hs fun _ hs => ?_
      exact wpList_nil (⟨(decide (at6 > ((s5.length : Nat) : Int))), (hs.wk ⟨rfl, rfl, rfl, rfl, rfl, rfl, trivial⟩), hS⟩)
  ·intro a w hJ
   obtain ⟨x10, hs, hS⟩ := hJ
   unfold S_pack_At_J1 at hS
   refine Wp.cond hs rfl rfl Iff.rfl (fun hc => ?_) (fun hc => ?_)
   ·have hS := hS.1 hc
    refine Wp.seq (Wp.region (sP (X_api_Outcome.mk false 0).val hs fun _ hs => ?_))
    refine stB 0 [(.bool false), (iv 0)] [⟨b8, 26, [(.bool false), (iv 0)]⟩, ⟨b7, 24, [(.slice ga1 gl2 gc3)]⟩] hs fun _ _ hs => ?_
    refine sP (iv 1) hs fun _ hs => ?_
    exact wpList_nil (Wp.ret (leaveW (K := K) hs (resCT (vs := [(.bool false), (iv 0)]) true 0 hs rfl rfl rfl (by kernel_rfl) rfl rfl) hMM hS))
   ·have hS := hS.2 hc
    refine Wp.skip (Wp.seq (Wp.region (sY (.agg #[(.slice ga1 gl2 gc3)]) hs (Yl.lB [(.slice ga1 gl2 gc3)] true 1) fun _ hs => ?_)))
    refine sP (.string (mkS s5)) hs fun _ hs => ?_
    refine stepCallW [(.agg #[(.slice ga1 gl2 gc3)]), (.string (mkS s5))] hs hMM rfl ⟨_, rfl, rfl⟩ rfl Try.func70 rfl (by kernel_rfl) (by decide) hS (fun _ _ M12 v hMM hS hs => ?_)
    obtain ⟨x11, hv, hS⟩ := hS
    subst hv
    refine sP (iv rule4) hs fun _ hs => ?_
    refine sP (iv at6) hs fun _ hs => ?_
    refine stepCallW [(.pointer x11), (iv rule4), (iv at6)] hs hMM rfl ⟨_, rfl, rfl⟩ rfl Try.func71 rfl (by kernel_rfl) (by decide) hS (fun _ _ M14 v hMM hS hs => ?_)
    obtain ⟨x13, hv, hS⟩ := hS
    subst hv
    refine stB 0 [(.bool x13.Ok), (iv x13.N)] [⟨b8, 26, [(.bool x13.Ok), (iv x13.N)]⟩, ⟨b7, 24, [(.slice ga1 gl2 gc3)]⟩] hs fun _ _ hs => ?_
    refine sP (iv 0) hs fun _ hs => ?_
    exact wpList_nil (Wp.ret (leaveW (K := K) hs (resCT (vs := [(.bool x13.Ok), (iv x13.N)]) true 0 hs rfl rfl rfl (by kernel_rfl) rfl rfl) hMM hS))
theorem e_pack_At (ga1 : Option Addr) (gl2 : Nat) (gc3 : Nat) (rule4 : Int) (s5 : List UInt8) (at6 : Int) (M : Mem) (K : Value → Mem → Prop) (hS : S_pack_At ga1 gl2 gc3 rule4 s5 at6 M (fun _ => False) K) : CallE Try.prog 27 #[(Value.agg #[(Value.slice ga1 gl2 gc3)]), (Value.int .i64 rule4), (Value.string (mkS s5)), (Value.int .i64 at6)] M K := (s_pack_At _ _ _ _ _ _ _ _ _ hS).toE
end Go.Proofs.Ytifkffmecfgpeaa.core
