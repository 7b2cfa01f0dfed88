/- For every input PackRuns answers true and leaves its arguments as they were. No condition. -/
import Derived.Test.YtifkffmecfgpeaaM3
import Derived.Test.YtifkffmecfgpeaaPackRunsT
import Derived.Test.YtifkffmecfgpeaaM5
namespace Go.Proofs.Ytifkffmecfgpeaa.lawPackRuns
open Go.Gx Go.RowKit Go.ChangeShapes Go.WideShapes Go.ChangeAt
open core
set_option linter.unusedVariables false
theorem ex_of {H : Type} {enc : TypeId × Value → H} {w : World} : ∀ (n B : Nat) (x : X_api_Expr), In_api_Expr enc w n B x → ∃ e, ExR (HM w) e x := by
 intro n
 induction n using Nat.strongRecOn with
 | _ n ih =>
  intro B x hx
  obtain ⟨b6, h1, h2, h3, h4, h5, h6, h7, _⟩ := hx
  obtain ⟨xs, bs, hsl, hl, hm, hall, _⟩ := open_L_Expr h7
  obtain ⟨es, hes⟩ := All2.choose (R := ExR (HM w)) xs fun y hy => by
   obtain ⟨b, k, hk, hin⟩ := hall.left y hy
   exact ih k hk b y hin
  have hle := hes.length
  obtain ⟨k, s, t, A, l, c⟩ := x
  have : l = es.length := by rw [← hle]; exact hl.symm
  subst this
  exact ⟨.mk k s t es, .mk h1 ⟨h2, h3, h4, h5⟩ h6 hsl hle fun i e x he hx => hes.get' he hx⟩
theorem gr_of {H : Type} {enc : TypeId × Value → H} {w : World} {n B : Nat} {A : Option Addr} {l c : Nat} (h : In_L_Rule enc w n B ⟨A, l, c⟩) : ∃ rs, GrR (HM w) rs A l c := by
 obtain ⟨xs, bs, hsl, hl, hm, hall, _⟩ := open_L_Rule h
 obtain ⟨rs, hrs⟩ := All2.choose (R := RuR (HM w)) xs fun y hy => by
  obtain ⟨b, k, hk, hin⟩ := hall.left y hy
  obtain ⟨b7, h1, h2, h3, h4, h5, h6, h7, h8, _⟩ := hin
  obtain ⟨e, he⟩ := ex_of k _ y.Body ⟨b7, h2, h3, h4, h5, h6, h7, h8, Nat.le_refl _⟩
  exact ⟨⟨y.Name, e⟩, rfl, h1, he⟩
 have := hrs.length
 simp only at hl
 exact ⟨rs, xs, hsl, hrs, by omega⟩
section
variable {rs : List Ru} {s : List UInt8} {E : Nat → Nat → Int}
def jbL (b3 : Nat) (M : Mem) (b : Nat) : Prop := b = b3 ∨ ∃ l k, At M b3 0 [Value.slice (some ⟨b, 0, none⟩) l k]
def jL (E : Nat → Nat → Int) (b3 : Nat) (u : List Evt) (M : Mem) : Prop := ∃ oa oc, M b3 = some (.cells [Value.slice oa (logOf E u).length oc].toArray 57 (0, 0)) ∧ RowW M 62 4 oa (logOf E u).length oc (cl X_api_Step.cells (logOf E u)) ∧ ∀ g, oa = some ⟨g, 0, none⟩ → g ≠ b3
theorem jb_row {M : Mem} {b3 : Nat} {oa : Option Addr} {n oc : Nat} {ty : TypeId} (h1 : M b3 = some (.cells [Value.slice oa n oc].toArray ty (0, 0))) {b : Nat} : jbL b3 M b ↔ b = b3 ∨ oa = some ⟨b, 0, none⟩ := by
 have h0 := At.blk h1
 have h3 : M.cell b3 (0 + 0) = some (.slice oa n oc) := h0 0 _ rfl
 unfold jbL
 refine or_congr Iff.rfl ⟨fun ⟨l, k, h⟩ => ?_, fun h => ⟨n, oc, by rw [← h]; exact h0⟩⟩
 have := h 0 _ rfl
 rw [h3] at this
 simp only [Option.some.injEq, Value.slice.injEq] at this
 exact this.1
theorem rlog_is (hw : WellOk rs) (hT : Tab rs s E) (hs60 : s.length ≤ 60) {tb : Nat} {ga ea : Option Addr} {gl gc ec eb : Nat} {M : Mem} {K : Value → Mem → Prop} (hM : TabR M rs s E 0 tb ga ea gl gc ec eb) {t : List Evt} (hg : Goes rs s E (.rule 0 0) [] t)
  (hK : ∀ M' la lc, M.le M' → SlV M' la (logOf E t).length lc 4 (cl X_api_Step.cells (logOf E t)) → K (.slice la (logOf E t).length lc) M') : S_chaffref_Table_Log (some ⟨tb, 0, none⟩) M (fun _ => False) K := by
 have h10 := hw.ok.ten
 unfold S_chaffref_Table_Log
 intro M5 hM5 M6 hM6 M7 hM7 b4 b3 b2 M8 hb4 hM8 M9 hb3 hM9 M10 hb2 hM10
 have e7 : M7 = M := by
  obtain ⟨_, _, _, ⟨_, _, _, h⟩ | ⟨_, _, h, _⟩⟩ := hM5
  ·obtain ⟨_, _, _, ⟨_, _, _, h'⟩ | ⟨_, _, h', _⟩⟩ := hM6
   ·obtain ⟨_, _, _, ⟨_, _, _, h''⟩ | ⟨_, _, h'', _⟩⟩ := hM7
    ·rw [h'', h', h]
    ·cases h''
   ·cases h'
  ·cases h
 subst e7
 have n34 : b3 ≠ b4 := by rintro rfl; rw [hM8, Mem.add_eq] at hb3; cases hb3
 have n23 : b2 ≠ b3 := by rintro rfl; rw [hM9, Mem.add_eq] at hb2; cases hb2
 have n24 : b2 ≠ b4 := by rintro rfl; rw [hM9, Mem.add_ne n34.symm, hM8, Mem.add_eq] at hb2; cases hb2
 have f3 : M7 b3 = none := by rw [hM8, Mem.add_ne n34] at hb3; exact hb3
 have f2 : M7 b2 = none := by rw [hM9, Mem.add_ne n23, hM8, Mem.add_ne n24] at hb2; exact hb2
 have g4 : M10 b4 = some (.cells [Value.pointer (some ⟨tb, 0, none⟩), Value.nilFunc, Value.func (.func 78) #[] #[.pointer (some ⟨b3, 0, none⟩), .pointer (some ⟨b2, 0, none⟩)], Value.slice none 0 0, Value.slice none 0 0].toArray 144 (0, 0)) := by
  rw [hM10, Mem.add_ne n24.symm, hM9, Mem.add_ne n34.symm, hM8]; exact Mem.add_eq
 have g3 : M10 b3 = some (.cells [Value.slice none 0 0].toArray 57 (0, 0)) := by rw [hM10, Mem.add_ne n23.symm, hM9]; exact Mem.add_eq
 have g2 : M10 b2 = some (.cells [Value.pointer (some ⟨tb, 0, none⟩)].toArray 31 (0, 0)) := by rw [hM10]; exact Mem.add_eq
 have hle : M7.le M10 := by
  rw [hM10, hM9, hM8] at *
  exact ((Mem.add_le hb4).trans (Mem.add_le hb3)).trans (Mem.add_le hb2)
 let D : Nat → Prop := fun b => b = b4 ∨ b = b3
 have hD : ∀ b, D b → M7 b = none := fun b hb => by rcases hb with rfl | rfl <;> assumption
 have hMV : M7.le (hide M10 D) := le_hide hle hD
 have hV4 : hide M10 D b4 = none := by unfold hide; rw [if_pos (.inl rfl)]
 have hV3 : hide M10 D b3 = none := by unfold hide; rw [if_pos (.inr rfl)]
 have hV2 : hide M10 D b2 = M10 b2 := by unfold hide; rw [if_neg (by rintro (h | h); exact n24 h; exact n23 h)]
 refine (s_chaffref_Visit_Go _ _ _ _ (go_is (s := s) (E := E) (L := fun b => M7 b = none) hw (hM.le hMV) ⟨fun b o hb => (hide_some hb).1, g4, hV4⟩ hb4 fun V' fa fc M' hVV hV'4 hV'M hVk hdom hkeep hfst hblk => ?_)).mono (fun b hb => .inr hb) (fun v M' _ h => h)
 have hMV' : M7.le V' := hMV.trans hVV
 have hV'3 : V' b3 = none := by rw [hVk b3 n34 (by rw [g3]; rfl)]; exact hV3
 have hM'3 : M' b3 = some (.cells [Value.slice none 0 0].toArray 57 (0, 0)) := by rw [hkeep b3 n34 (by rw [g3]; rfl)]; exact g3
 have hV'2 : At V' b2 0 [.pointer (some ⟨tb, 0, none⟩)] := by
  refine At.blk (t := 31) (f := (0, 0)) ?_
  rw [hVk b2 n24 (by rw [g2]; rfl), hV2]; exact g2
 obtain ⟨st, _, hst⟩ := hw.stage
 let c : VsC := ⟨V', rs, s, E, tb, b4, ga, ea, fa, gl, gc, ec, eb, fc, .nilFunc, .func (.func 78) #[] #[.pointer (some ⟨b3, 0, none⟩), .pointer (some ⟨b2, 0, none⟩)], jbL b3, jL E b3, 120, st⟩
 have hframe : ∀ u M M', jL E b3 u M → (∀ b, jbL b3 M b → M' b = M b) → jL E b3 u M' ∧ ∀ b, jbL b3 M' b ↔ jbL b3 M b := fun u M M' ⟨oa, oc, h1, h2, h3⟩ hk => by
  have h1' : M' b3 = _ := (hk b3 (.inl rfl)).trans h1
  exact ⟨⟨oa, oc, h1', h2.same fun g o hg ho => by rw [hk g ((jb_row h1).2 (.inr hg))]; exact ho, h3⟩, fun b => by rw [jb_row h1, jb_row h1']⟩
 have hhas : ∀ u M, jL E b3 u M → ∀ b, jbL b3 M b → (M b).isSome = true := fun u M ⟨oa, oc, h1, h2, h3⟩ b hb => by
  rcases (jb_row h1).1 hb with rfl | hb
  ·rw [h1]; rfl
  ·obtain ⟨_, _, _, ⟨h4, _⟩ | ⟨g, cur, h4, h5, _⟩⟩ := h2
   ·rw [h4] at hb; cases hb
   ·rw [h4] at hb; cases hb; rw [h5]; rfl
 have hc : c.Ok := by
  refine ⟨hw, hT, hs60, hM.le hMV', hfst, hst, hframe, hhas, ⟨true, .inl ⟨rfl, rfl⟩, fun _ u n p e M h => ?_, fun h => (by cases h)⟩, ⟨false, .inr ⟨_, _, _, rfl, rfl⟩, fun h => (by cases h), fun _ u i p M hi hi2 hp hl hroom hVM hJ => ?_⟩, hw.ok.all, by show 120 ≤ 100000; omega⟩
  ·obtain ⟨oa, oc, h1, h2, h3⟩ := h
   show jL E b3 (u ++ [.node n p e]) M
   unfold jL
   rw [logOf_node]
   exact ⟨oa, oc, h1, h2, h3⟩
  ·obtain ⟨oa, oc, h1, h2, h3⟩ := id hJ
   refine f_chaffref_Table_Log_1 _ _ _ _ _ _ _ ?_
   unfold S_chaffref_Table_Log_1
   refine ⟨oa, (logOf E u).length, oc, At.blk h1, _, hV'2.le hVM, s_chaffref_Table_Out _ _ _ _ _ (out_is hs60 hT.ok ((hM.le hMV').le hVM) hi hi2 hp hp hl ⟨_, rfl, fun v hv => St_one ⟨i, p, outE (E p.toNat i.toNat) p⟩ v hv, _, h2, fun g hg => .inl ((jb_row h1).2 (.inr hg)), by have : (logOf E u).length ≤ 610 := hroom; omega, fun M14 ad cap hA => ?_⟩)⟩
   have h14 : M14 b3 = _ := hA.keep _ _ h1 fun g hg e => h3 g hg e.symm
   refine ⟨Has.blk h14 (by show 0 + 1 ≤ 1; omega), .inl (.inl rfl), fun M17 hM17 M18 hle18 => ?_⟩
   have h17 : M17 b3 = some (.cells [Value.slice ad (logOf E (u ++ [.done i p])).length cap].toArray 57 (0, 0)) := by
    rw [hM17, Mem.put_eq h14, logOf_done, List.length_append]; rfl
   have hadg : ∀ g, ad = some ⟨g, 0, none⟩ → g ≠ b3 ∧ (oa = some ⟨g, 0, none⟩ ∨ M g = none) := fun g hg => by
    rcases hA.blk g hg with h | h
    ·exact ⟨h3 g h, .inl h⟩
    ·exact ⟨fun e => (by rw [e, h1] at h; cases h), .inr h⟩
   have hJ17 : jL E b3 (u ++ [.done i p]) M17 := by
    refine ⟨ad, cap, h17, ?_, fun g hg => (hadg g hg).1⟩
    have hcl : cl X_api_Step.cells (logOf E u) ++ (X_api_Step.mk i p (outE (E p.toNat i.toNat) p)).cells = cl X_api_Step.cells (logOf E (u ++ [.done i p])) := by rw [logOf_done]; exact cl_snoc _ _
    rw [← hcl, logOf_done, List.length_append]
    exact hA.row.same fun g o hg ho => by rw [hM17, Mem.put_ne (hadg g hg).1]; exact ho
   obtain ⟨hJ18, hb18⟩ := hframe _ M17 M18 hJ17 fun b hb => Mem.le.eq hle18 (hhas _ _ hJ17 b hb)
   refine ⟨rfl, hJ18, fun b hb => ?_⟩
   rcases (jb_row h17).1 ((hb18 b).1 hb) with rfl | hb
   ·exact .inl (.inl rfl)
   ·exact (hadg b hb).2.imp (fun h => (jb_row h1).2 (.inr h)) id
 have hB : VB c [] [] M' := by
  refine ⟨hV'M, fun b hb => ?_, ⟨none, 0, hblk, ⟨rfl, Nat.le_refl _, by decide, .inl ⟨rfl, rfl, rfl⟩⟩, fun g hg => by cases hg⟩, fun hb => ?_, ⟨none, 0, hM'3, ⟨rfl, Nat.le_refl _, by decide, .inl ⟨rfl, rfl, rfl⟩⟩, fun g hg => by cases hg⟩, by simp, fun x hx => by cases hx⟩
  ·rcases (own_row (c := c) hblk).1 hb with rfl | hb | hb
   ·exact hV'4
   ·cases hb
   ·rcases (jb_row hM'3).1 hb with rfl | hb
    ·exact hV'3
    ·cases hb
  ·rcases (jb_row hM'3).1 hb with hb | hb
   ·exact n34 hb.symm
   ·cases hb
 have hDn : ∀ b, V' b = none → M7 b = none := fun b hb => by
  have := hb
  cases hv : M7 b with
  | none => rfl
  | some o => rw [hMV' b o hv] at this; cases this
 refine (s_chaffref_Visit_rule _ _ _ _ _ _ (vfirst_is hc (t := t) hg hB fun M11 u hal hV11 hJ => ⟨rfl, fun M12 hle12 => ?_⟩)).mono (fun b hb => .inl (hDn b (hB.off b hb))) (fun v M' _ h => h)
 obtain ⟨oa, oc, h1, h2, h3⟩ := hJ
 rw [hal.1] at h1 h2
 exact ⟨rfl, oa, _, oc, (At.blk h1).le hle12, fun M13 hle13 => hK M13 oa oc (hMV'.trans (hV11.trans (hle12.trans hle13))) (h2.slv.le (hle12.trans hle13))⟩
end
theorem steps_equal {l : List X_api_Step} {A B : Option Addr} {a b : Nat} {M : Mem} (h1 : SlV M A l.length a 4 (cl X_api_Step.cells l)) (h2 : SlV M B l.length b 4 (cl X_api_Step.cells l)) (K : Value → Prop) (hK : K (.bool true)) : S_slices_Equal_Step A l.length a B l.length b M K := by
 have hm := h1.max
 unfold S_slices_Equal_Step
 refine ⟨fun h => absurd rfl h, fun _ => ⟨fun i => 0 ≤ i ∧ i ≤ l.length, fun i => l.length - i.toNat, ⟨by omega, by omega⟩, fun i ⟨i0, i1⟩ => ⟨fun hlt => ?_, fun _ => hK⟩⟩⟩
 obtain ⟨x, hx⟩ := core.getI (l := l) i0 hlt
 obtain ⟨b1, o1, ha1, hat1⟩ := h1.at St_len rfl hx
 obtain ⟨b2, o2, ha2, hat2⟩ := h2.at St_len rfl hx
 exact ⟨b1, o1, ha1, i0, hlt, x, hat1, b2, o2, ha2, i0, hlt, x, hat2, fun h => absurd ⟨rfl, rfl, rfl, rfl⟩ h, fun _ => ⟨by unfold InI; omega, ⟨by omega, by omega⟩, by dsimp only; omega⟩⟩
theorem walk : WalkGoal := by
 intro H enc W x n B hx s hs
 obtain ⟨rs, hg⟩ := gr_of (A := x.a) (l := x.l) (c := x.c) hx
 refine s_chafflaw_PackRuns _ _ _ _ _ _ ?_
 unfold S_chafflaw_PackRuns
 generalize HM W = M at *
 refine e_pack_Run _ _ _ _ _ _ (prun_is hg (fun h M' hle => ⟨_, _, _, _, _, rfl, ?_⟩) fun h E hT t hgo M' la lc hle hsl => ⟨_, _, _, _, _, rfl, ?_⟩)
 ·exact s_chaffref_Look _ _ _ _ _ _ (rlook_is (hg.le hle) s _ ⟨_, rfl, fun _ => ⟨fun _ => ⟨fun _ => rfl, fun hn => absurd ⟨rfl, rfl⟩ hn⟩, fun hn => absurd rfl hn⟩, fun hn => absurd h hn⟩)
 ·obtain ⟨hw, hs60⟩ := look_ok h
  have h11 := hw.ok.one
  refine s_chaffref_Look _ _ _ _ _ _ (rlook_is (hg.le hle) s _ ⟨_, rfl, fun hn => absurd h hn, fun _ => e_chaffref_Fill _ _ _ _ _ _ (fill_is hw hs60 (hg.le hle) _ fun M15 b ea ec eb E' hle15 hT' hTab => ⟨_, rfl, fun _ => ?_, fun hn => absurd rfl hn⟩)⟩)
  have hE : ∀ p i : Nat, p ≤ s.length → i < rs.length → E p i = E' p i := fun p i hp hi => tab_same hw hT hT' hp hi
  have hTab := hTab.same hE
  refine s_chaffref_Table_Out _ _ _ _ _ (out_is hs60 hT.ok hTab (Int.le_refl 0) (by omega) (Int.le_refl 0) (Int.le_refl 0) (by omega) ⟨_, rfl, fun _ => ?_, fun hn => absurd ⟨rfl, rfl⟩ hn⟩)
  exact e_chaffref_Table_Log _ _ _ (rlog_is hw hT hs60 hTab hgo fun M20 la2 lc2 hle20 hsl2 => ⟨_, _, _, rfl, s_slices_Equal_Step _ _ _ _ _ _ _ _ (steps_equal (hsl.le (hle15.trans hle20)) hsl2 _ ⟨_, rfl, rfl⟩)⟩)
theorem holds : Rows.PackRunsSaid := top walk
#print axioms holds
end Go.Proofs.Ytifkffmecfgpeaa.lawPackRuns
