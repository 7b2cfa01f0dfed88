/- For every input SetSays answers true and leaves its arguments as they were. No condition. -/
import Derived.Test.YtjecddabdlapbaaDoorSetSaysLawG
import Derived.Test.YtjecddabdlapbaaDoorSetSaysT
import Derived.Test.YtjecddabdlapbaaDoorM2
namespace Go.Proofs.YtjecddabdlapbaaDoor.lawSetSays
open Go.Gx Go.RowKit Go.ChangeShapes Go.WideShapes Go.ChangeAt
open core
set_option linter.unusedVariables false
theorem toF {P : Program} {fv : Value} {args : List Value} {M : Mem} {K : Value → Mem → Prop} (h : CallFW P fv args M (fun _ => False) K) : CallF P fv args M K := by
 obtain ⟨f, fn, first, caps, h1, h2, h3, h4, h5⟩ := h
 exact ⟨f, fn, first, caps, h1, h2, h3, h4, h5.toE⟩
theorem tab {W : World} (h : laidMet Tryd.prog Rows.setSaysRow.laid W) : core.TabM (HM W) 0 core.dTab := fun i z hz =>
 tab_at (Lib.tabIs_of_head (name := "math/bits.deBruijn64tab") (k := .u8) (zs := core.dTab.map fun (n : Nat) => (n : Int)) (rest := []) (g := 0) (t := 136) (e := 5) (n := 64) (by kernel_rfl) (by kernel_rfl) (by kernel_rfl) (by kernel_rfl) (by kernel_rfl) (by kernel_rfl) h) (by kernel_rfl) (by rw [List.getElem?_map, hz]; rfl)
theorem cellsEq_refl (l : List Int) : cellsEq l l = true := by unfold cellsEq; simp
theorem box_at {M M2 : Mem} {b : Nat} {v : Value} {t : TypeId} (h : M2 = M.add b (.cells [v].toArray t (0, 0))) : At M2 b 0 [v] := by
 subst h
 intro j u hj
 unfold Mem.cell
 rw [Mem.add_eq]
 simpa using hj
theorem walk : WalkGoal := by
 intro H enc W s n0 B0 hs low wl high wh from_ wf b wb hL
 have hT := tab hL
 clear hL
 obtain ⟨h0, h1, h2, h3, _⟩ := hs
 have hs : core.wfS s := ⟨h0, h1, h2, h3⟩
 have hfr : from_ ≤ 9223372036854775807 := by
  simp only [Lit.wf, IntKind.min, IntKind.max, Bool.and_eq_true] at wf
  simp [IntKind.bits, IntKind.signed] at wf; omega
 obtain ⟨c, rfl⟩ : ∃ c : UInt8, b = (c.toNat : Int) := by
  simp only [Lit.wf, IntKind.min, IntKind.max, Bool.and_eq_true] at wb
  simp [IntKind.bits, IntKind.signed] at wb
  refine ⟨b.toNat.toUInt8, ?_⟩
  have : b.toNat.toUInt8.toNat = b.toNat := by simp [Nat.toUInt8]; omega
  rw [this]; omega
 clear wl wh wf wb h0 h1 h2 h3
 refine e_chafflaw_SetSays _ _ _ _ _ _ _ ?_
 unfold S_chafflaw_SetSays
 generalize HM W = M at *
 refine ⟨fun first x => core.FirstAt (core.bitS s) (x + 1) first ∧ (x = 255 ∨ from_ ≤ x + 1) ∧ -1 ≤ x ∧ x ≤ 255, fun _ x => (x + 1).toNat, ⟨.inl ⟨rfl, fun b h1 h2 => by omega⟩, .inl rfl, by omega, by omega⟩, fun first x ⟨hF, hx, hx0, hx1⟩ => ?_⟩
 have rest : core.FirstAt (core.bitS s) from_ first → S_chafflaw_SetSays_J1 s low high from_ (c.toNat : Int) M first x (fun first x => core.FirstAt (core.bitS s) (x + 1) first ∧ (x = 255 ∨ from_ ≤ x + 1) ∧ -1 ≤ x ∧ x ≤ 255) (fun _ x => (x + 1).toNat) false (fun v _ => v = .bool true) := fun hF => by
  unfold S_chafflaw_SetSays_J1
  refine ⟨fun h => by simp at h, fun _ => ?_⟩
  refine core.s_set_Range _ _ _ _ (core.range_is _ _ _ ⟨_, rfl, fun b7 M22 hb7 hM22 b8 M23 hb8 hM23 => ?_⟩)
  have hle : M.le M22 := by subst hM22; exact Mem.add_le hb7
  have hle2 : M22.le M23 := by subst hM23; exact Mem.add_le hb8
  have hT := hT.le (hle.trans hle2)
  have hat7 : At M23 b7 0 [Value.int .i64 low] := (box_at hM22).le hle2
  have hat8 : At M23 b8 0 [Value.int .i64 high] := box_at hM23
  refine core.s_chaffref_Where _ _ _ (core.where_is _ _ (core.inR low high) (fun y hy => ?_) _ ⟨core.Us (core.inR low high), rfl, ?_⟩)
  ·refine toF (f_chafflaw_SetSays_1 _ _ _ _ _ _ ⟨_, hat7, fun h => ⟨_, hat8, fun M' _ => ?_⟩, fun h M' _ => ?_⟩)
   ·simp [core.inR, h]
   ·simp [core.inR, h]
  ·refine ⟨fun _ => ?_, fun h => absurd (cellsEq_refl _) h⟩
   have hc := c.toNat_lt
   refine core.s_set_Has _ _ _ _ (core.has_is hs c _ ⟨_, rfl, ?_⟩)
   rw [wrap_in (show InI (c.toNat : Int) by unfold InI; omega)]
   refine core.s_chaffref_Has _ _ _ _ (core.rhas_is hs hc _ ⟨_, rfl, fun _ => ?_, fun h => absurd rfl h⟩)
   refine core.s_set_Count _ _ _ (core.count_is hs _ ⟨_, rfl, core.s_chaffref_Bytes _ _ _ (core.rbytes_is hs _ ⟨_, rfl, fun _ => ?_, fun h => absurd rfl h⟩)⟩)
   refine core.s_set_First _ _ _ _ (core.first_is hs hfr hT _ fun z hz => ⟨_, rfl, fun _ => ?_, fun h => absurd (hz.eq hF) h⟩)
   refine core.s_set_Bytes _ _ _ (core.sbytes_is hs hT _ ⟨_, rfl, core.s_chaffref_Bytes _ _ _ (core.rbytes_is hs _ ⟨_, rfl, fun M' _ => ?_⟩)⟩)
   simp
 refine ⟨fun hge => ?_, fun hlt => ?_⟩
 ·by_cases hx2 : x ≥ 0
  ·rw [show decide (x ≥ 0) = true by simp [hx2]]
   unfold S_chafflaw_SetSays_J1
   obtain ⟨y, rfl⟩ := Int.eq_ofNat_of_zero_le hx2
   refine ⟨fun _ => core.s_chaffref_Has _ _ _ _ (core.rhas_is hs (by omega) _ ⟨_, rfl, fun hb => ?_, fun hb => ?_⟩), fun h => absurd rfl h⟩
   ·exact ⟨by unfold InI; omega, ⟨.inr ⟨y, rfl, by omega, by omega, hb, fun d h1 h2 => by omega⟩, .inr (by omega), by omega, by omega⟩, by dsimp only; omega⟩
   ·refine ⟨by unfold InI; omega, ⟨?_, .inr (by omega), by omega, by omega⟩, by dsimp only; omega⟩
    have hb' : core.bitS s y = false := by simpa using hb
    have k : ∀ d : Nat, (y : Int) - 1 + 1 ≤ d → (∀ e : Nat, (y : Int) + 1 ≤ e → e ≤ d → e < 256 → core.bitS s e = false) → d < 256 → core.bitS s d = false := fun d h1 h2 h3 => by
     by_cases e : d = y
     ·rw [e]; exact hb'
     ·exact h2 d (by omega) (Nat.le_refl _) h3
    rcases hF with ⟨h1, h2⟩ | ⟨d, h1, h2, h3, h4, h5⟩
    ·exact .inl ⟨h1, fun d g1 g2 => k d g1 (fun e h3 _ h5 => h2 e h3 h5) g2⟩
    ·exact .inr ⟨d, h1, h2, by omega, h4, fun e g1 g2 => k e g1 (fun e' h6 h7 _ => h5 e' h6 (by omega)) (by omega)⟩
  ·rw [show decide (x ≥ 0) = false by simp; omega]
   refine rest ?_
   obtain rfl : x = -1 := by omega
   rcases hF with ⟨h1, h2⟩ | ⟨d, h1, h2, h3, h4, h5⟩
   ·exact .inl ⟨h1, fun d g1 g2 => h2 d (by omega) g2⟩
   ·exact .inr ⟨d, h1, h2, by omega, h4, fun e g1 g2 => h5 e (by omega) g2⟩
 ·refine rest ?_
  rcases hF with ⟨h1, h2⟩ | ⟨d, h1, h2, h3, h4, h5⟩
  ·exact .inl ⟨h1, fun d g1 g2 => h2 d (by omega) g2⟩
  ·exact .inr ⟨d, h1, h2, by omega, h4, fun e g1 g2 => h5 e (by omega) g2⟩
theorem holds : Rows.SetSaysCardSaid := card (top walk)
#print axioms holds
end Go.Proofs.YtjecddabdlapbaaDoor.lawSetSays
