/- For every input PackAts answers true and leaves its arguments as they were. No condition. -/
import Derived.Test.YtifkffmecfgpeaaPackAtsLawG
import Derived.Test.YtifkffmecfgpeaaPackAtsT
import Derived.Test.YtifkffmecfgpeaaM4
namespace Go.Proofs.Ytifkffmecfgpeaa.lawPackAts
open Go.Gx Go.RowKit Go.ChangeShapes Go.WideShapes Go.ChangeAt
open core
set_option linter.unusedVariables false
/-- What an argument's reading shows. -/
theorem ex_of {H : Type} {enc : TypeId × Value → H} {w : World} : ∀ (n B : Nat) (x : X_api_Expr), In_api_Expr enc w n B x → ∃ e, ExR (HM w) e x := by
  intro n
  induction n using Nat.strongRecOn with
  | _ n ih =>
    intro B x hx
    obtain ⟨b6, h1, h2, h3, h4, h5, h6, h7, _⟩ := hx
    obtain ⟨xs, bs, hsl, hl, hm, hall, _⟩ := open_L_Expr h7
    obtain ⟨es, hes⟩ := All2.choose (R := ExR (HM w)) xs fun y hy => by
      obtain ⟨b, k, hk, hin⟩ := hall.left y hy
      exact ih k hk b y hin
    have hle := hes.length
    obtain ⟨k, s, t, A, l, c⟩ := x
    have : l = es.length := by rw [← hle]; exact hl.symm
    subst this
    exact ⟨.mk k s t es, .mk h1 ⟨h2, h3, h4, h5⟩ h6 hsl hle fun i e x he hx => hes.get' he hx⟩
theorem gr_of {H : Type} {enc : TypeId × Value → H} {w : World} {n B : Nat} {A : Option Addr} {l c : Nat} (h : In_L_Rule enc w n B ⟨A, l, c⟩) : ∃ rs, GrR (HM w) rs A l c := by
  obtain ⟨xs, bs, hsl, hl, hm, hall, _⟩ := open_L_Rule h
  obtain ⟨rs, hrs⟩ := All2.choose (R := RuR (HM w)) xs fun y hy => by
    obtain ⟨b, k, hk, hin⟩ := hall.left y hy
    obtain ⟨b7, h1, h2, h3, h4, h5, h6, h7, h8, _⟩ := hin
    obtain ⟨e, he⟩ := ex_of k _ y.Body ⟨b7, h2, h3, h4, h5, h6, h7, h8, Nat.le_refl _⟩
    exact ⟨⟨y.Name, e⟩, rfl, h1, he⟩
  have := hrs.length
  simp only at hl
  exact ⟨rs, xs, hsl, hrs, by omega⟩

theorem walk : WalkGoal := by
  intro H enc W x n B hx i hi s hs p hp
  obtain ⟨rs, hg⟩ := gr_of (A := x.a) (l := x.l) (c := x.c) hx
  refine s_chafflaw_PackAts _ _ _ _ _ _ _ _ ?_
  unfold S_chafflaw_PackAts
  generalize HM W = M at *
  have hgl := hg.len
  have ask : ∀ (o : X_api_Outcome) (er : Int) , (∀ want : Int, want = (if lookP rs s = 0 ∧ (i < 0 ∨ (rs.length : Int) ≤ i ∨ p < 0 ∨ (s.length : Int) < p) then 1 else lookP rs s) →
      S_chafflaw_PackAts_J2 x.a x.l x.c i s p M o er want (fun v => v = .bool true)) →
      CallE Try.prog 16 #[(Value.agg #[(Value.slice x.a x.l x.c)]), (Value.string (mkS s))] M (fun v _ => ∃ (x11 : Int), v = (Value.int .i64 x11) ∧ (((x11 : Int) = 0 → ((i < 0 → (S_chafflaw_PackAts_J1 x.a x.l x.c i s p M o er x11 true (fun v => v = .bool true))) ∧ (¬ (i < 0) → ((i ≥ ((x.l : Nat) : Int) → (S_chafflaw_PackAts_J1 x.a x.l x.c i s p M o er x11 true (fun v => v = .bool true))) ∧ (¬ (i ≥ ((x.l : Nat) : Int)) → ((p < 0 → (S_chafflaw_PackAts_J1 x.a x.l x.c i s p M o er x11 true (fun v => v = .bool true))) ∧ (¬ (p < 0) → (S_chafflaw_PackAts_J1 x.a x.l x.c i s p M o er x11 (decide (p > ((s.length : Nat) : Int))) (fun v => v = .bool true))))))))) ∧ (¬ ((x11 : Int) = 0) → (S_chafflaw_PackAts_J1 x.a x.l x.c i s p M o er x11 false (fun v => v = .bool true))))) := by
    intro o er h
    have j1 : ∀ v : Bool, lookP rs s = 0 → v = decide (i < 0 ∨ (rs.length : Int) ≤ i ∨ p < 0 ∨ (s.length : Int) < p) → S_chafflaw_PackAts_J1 x.a x.l x.c i s p M o er (lookP rs s) v (fun v => v = .bool true) := by
      intro v h0 hv
      unfold S_chafflaw_PackAts_J1
      refine ⟨fun ht => h 1 (by rw [if_pos ⟨h0, of_decide_eq_true (by rw [← hv, ht])⟩]), fun hf => h _ (by rw [if_neg]; intro hc; exact hf (by rw [hv, decide_eq_true hc.2]))⟩
    refine s_chaffref_Look _ _ _ _ _ _ (rlook_is hg s _ ⟨_, rfl, fun h0 => ⟨fun a => j1 _ h0 (by symm; exact decide_eq_true (.inl a)), fun a => ⟨fun b => j1 _ h0 (by symm; exact decide_eq_true (.inr (.inl (by omega)))), fun b => ⟨fun d => j1 _ h0 (by symm; exact decide_eq_true (.inr (.inr (.inl d)))), fun d => j1 _ h0 (by rw [decide_eq_decide]; omega)⟩⟩⟩, fun h0 => ?_⟩)
    unfold S_chafflaw_PackAts_J1
    exact ⟨fun hn => (by cases hn), fun _ => h _ (by rw [if_neg (fun hc => h0 hc.1)])⟩
  refine e_pack_At _ _ _ _ _ _ _ _ (pat_is hg (fun h M' hle => ⟨_, _, rfl, ask _ _ fun want hw => ?_⟩) (fun h hb M' hle => ⟨_, _, rfl, ask _ _ fun want hw => ?_⟩) fun h hi0 hi1 hp0 hp1 E hT M' hle => ⟨_, _, rfl, ask _ _ fun want hw => ?_⟩)
  · rw [if_neg (fun hc => h hc.1)] at hw
    subst hw
    unfold S_chafflaw_PackAts_J2
    exact ⟨fun _ => ⟨fun _ => rfl, fun hn => absurd rfl hn⟩, fun hn => absurd h hn⟩
  · rw [if_pos ⟨h, hb⟩] at hw
    subst hw
    unfold S_chafflaw_PackAts_J2
    exact ⟨fun _ => ⟨fun _ => rfl, fun hn => absurd rfl hn⟩, fun hn => absurd (by decide) hn⟩
  · obtain ⟨hw', hs60⟩ := look_ok h
    rw [if_neg (fun hc => by omega), h] at hw
    subst hw
    unfold S_chafflaw_PackAts_J2
    refine ⟨fun hn => absurd rfl hn, fun _ => ⟨fun _ => e_chaffref_Fill _ _ _ _ _ _ (fill_is hw' hs60 hg _ fun M16 b ea ec eb E' hle16 hT' hTab => ⟨_, rfl, ?_⟩), fun hn => absurd rfl hn⟩⟩
    refine s_chaffref_Table_Out _ _ _ _ _ (out_is hs60 hT'.ok hTab hi0 hi1 hp0 hp0 hp1 ⟨_, rfl, ?_⟩)
    rw [tab_same hw' hT hT' (p := p.toNat) (i := i.toNat) (by omega) (by omega)]
    simp

theorem holds : Rows.PackAtsSaid := top walk
#print axioms holds
end Go.Proofs.Ytifkffmecfgpeaa.lawPackAts
