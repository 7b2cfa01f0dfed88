/- For every input MeanRuns answers true and leaves its arguments as they were. No condition. -/
import Derived.Test.YtifkffmecfgpeaaMeanRunsLawG
import Derived.Test.YtifkffmecfgpeaaMeanRunsT
import Derived.Test.YtifkffmecfgpeaaSteps2X
namespace Go.Proofs.Ytifkffmecfgpeaa.lawMeanRuns
open Go.Gx Go.RowKit Go.ChangeShapes Go.WideShapes Go.ChangeAt
open core
/-- What an argument's reading shows. -/
theorem ex_of {H : Type} {enc : TypeId × Value → H} {w : World} : ∀ (n B : Nat) (x : X_api_Expr), In_api_Expr enc w n B x → ∃ e, ExR (HM w) e x := by
  intro n
  induction n using Nat.strongRecOn with
  | _ n ih =>
    intro B x hx
    obtain ⟨b6, h1, h2, h3, h4, h5, h6, h7, _⟩ := hx
    obtain ⟨xs, bs, hsl, hl, hm, hall, _⟩ := open_L_Expr h7
    obtain ⟨es, hes⟩ := All2.choose (R := ExR (HM w)) xs fun y hy => by
      obtain ⟨b, k, hk, hin⟩ := hall.left y hy
      exact ih k hk b y hin
    have hle := hes.length
    obtain ⟨k, s, t, A, l, c⟩ := x
    have : l = es.length := by rw [← hle]; exact hl.symm
    subst this
    exact ⟨.mk k s t es, .mk h1 ⟨h2, h3, h4, h5⟩ h6 hsl hle fun i e x he hx => hes.get' he hx⟩
theorem gr_of {H : Type} {enc : TypeId × Value → H} {w : World} {n B : Nat} {A : Option Addr} {l c : Nat} (h : In_L_Rule enc w n B ⟨A, l, c⟩) : ∃ rs, GrR (HM w) rs A l c := by
  obtain ⟨xs, bs, hsl, hl, hm, hall, _⟩ := open_L_Rule h
  obtain ⟨rs, hrs⟩ := All2.choose (R := RuR (HM w)) xs fun y hy => by
    obtain ⟨b, k, hk, hin⟩ := hall.left y hy
    obtain ⟨b7, h1, h2, h3, h4, h5, h6, h7, h8, _⟩ := hin
    obtain ⟨e, he⟩ := ex_of k _ y.Body ⟨b7, h2, h3, h4, h5, h6, h7, h8, Nat.le_refl _⟩
    exact ⟨⟨y.Name, e⟩, rfl, h1, he⟩
  have := hrs.length
  simp only at hl
  exact ⟨rs, xs, hsl, hrs, by omega⟩

theorem walk : WalkGoal := by
  intro H enc W x n B hx s hs steps hwf
  obtain ⟨rs, hg⟩ := gr_of (A := x.a) (l := x.l) (c := x.c) hx
  have hst : InI steps := wfI hwf
  refine e_chafflaw_MeanRuns _ _ _ _ _ _ _ ?_
  unfold S_chafflaw_MeanRuns
  generalize HM W = M at *
  -- what is asked behind a Run that answered o, n, er
  have ask : ∀ (o : X_api_Outcome) (n er : Int) (M10 : Mem), M.le M10 → (∀ want : Int, want = (if lookP rs s = 0 ∧ (steps < 0 ∨ steps > 1048576) then 1 else lookP rs s) →
      S_chafflaw_MeanRuns_J2 x.a x.l x.c s steps M (fun _ => False) o n er M10 want (fun v _ => v = .bool true)) →
      CallE Try.prog 16 #[(Value.agg #[(Value.slice x.a x.l x.c)]), (Value.string (mkS s))] M10 (fun v _ => ∃ (x12 : Int), v = (Value.int .i64 x12) ∧ (((x12 : Int) = 0 → ((steps < 0 → (S_chafflaw_MeanRuns_J1 x.a x.l x.c s steps M (fun _ => False) o n er M10 x12 true (fun v _ => v = .bool true))) ∧ (¬ (steps < 0) → (S_chafflaw_MeanRuns_J1 x.a x.l x.c s steps M (fun _ => False) o n er M10 x12 (decide (steps > 1048576)) (fun v _ => v = .bool true))))) ∧ (¬ ((x12 : Int) = 0) → (S_chafflaw_MeanRuns_J1 x.a x.l x.c s steps M (fun _ => False) o n er M10 x12 false (fun v _ => v = .bool true))))) := by
    intro o n er M10 hle h
    refine s_chaffref_Look _ _ _ _ _ _ (rlook_is (hg.le hle) s _ ⟨_, rfl, fun h0 => ⟨fun hlt => ?_, fun hge => ?_⟩, fun h0 => ?_⟩)
    · unfold S_chafflaw_MeanRuns_J1
      exact ⟨fun _ => h 1 (by rw [if_pos ⟨h0, .inl hlt⟩]), fun hn => absurd rfl hn⟩
    · unfold S_chafflaw_MeanRuns_J1
      refine ⟨fun hgt => h 1 (by rw [if_pos ⟨h0, .inr (of_decide_eq_true hgt)⟩]), fun hn => h _ (by rw [if_neg]; intro ⟨_, hc⟩; exact hc.elim hge fun hc => hn (decide_eq_true hc))⟩
    · unfold S_chafflaw_MeanRuns_J1
      exact ⟨fun hn => (by cases hn), fun _ => h _ (by rw [if_neg (fun hc => h0 hc.1)])⟩
  refine (s_mean_Run _ _ _ _ _ _ _ _ (meanrun_is hst hg _ (fun h M' hle => ?_) (fun h hb M' hle => ?_) fun h hb1 hb2 r0 m y hr0 hy => ⟨fun hc M' hle => ?_, fun hc M' hle => ?_⟩)).mono (fun g h => h.elim) (fun v M' _ h => h)
  · refine ⟨_, _, _, rfl, ask _ _ _ M' hle fun want hw => ?_⟩
    rw [if_neg (fun hc => h hc.1)] at hw
    subst hw
    unfold S_chafflaw_MeanRuns_J2
    exact ⟨fun _ => ⟨fun _ => ⟨fun _ _ _ => rfl, fun hn => absurd ⟨rfl, rfl⟩ hn⟩, fun hn => absurd rfl hn⟩, fun hn => absurd h hn⟩
  · refine ⟨_, _, _, rfl, ask _ _ _ M' hle fun want hw => ?_⟩
    rw [if_pos ⟨h, hb⟩] at hw
    subst hw
    unfold S_chafflaw_MeanRuns_J2
    exact ⟨fun _ => ⟨fun _ => ⟨fun _ _ _ => rfl, fun hn => absurd ⟨rfl, rfl⟩ hn⟩, fun hn => absurd rfl hn⟩, fun hn => absurd (by decide) hn⟩
  all_goals
    obtain ⟨hw, hs60⟩ := look_ok h
    have h11 := hw.ok.one
    have hpeg := hw.peg (List.mem_of_getElem? hr0)
    have h10 := hw.ok.ten
    refine ⟨_, _, _, rfl, ask _ _ _ M' hle fun want hwant => ?_⟩
    rw [if_neg (fun hc => by omega), h] at hwant
    subst hwant
    unfold S_chafflaw_MeanRuns_J2
    refine ⟨fun hn => absurd rfl hn, fun _ => (s_chaffref_Fill _ _ _ _ _ _ _ (fill_is hw hs60 (hg.le hle) _ fun M16 b ea ec eb E hle16 hT hTab => ⟨_, rfl, fun M17 r hr hM17 _ => ?_⟩)).mono (fun g h => h.elim) (fun v M' _ h => h)⟩
    have hle17 : M16.le M17 := by rw [hM17]; exact Mem.add_le hr
    have hTab' := hTab.le (le_but hle17 hr)
    have hknown : KnownI rs s M17 r := by rw [hM17]; exact KnownI.new rs s M16 r
    have hMr : M' r = none := by
      cases hv : M' r with
      | none => rfl
      | some q => rw [hle16 _ _ hv] at hr; cases hr
    have hMr0 : M r = none := by
      cases hv : M r with
      | none => rfl
      | some q => rw [hle _ _ hv] at hMr; cases hMr
    have hcost : costOf rs s r0.body 0 = y.2 := cost_eq hy
    have hres := ev_res hw hT m r0.body 0 y hpeg (by omega) (by omega) hy
    have hE0 : E 0 0 = y.1 := by rw [hres]; exact hT.fix 0 0 r0 (by omega) hr0
    refine (s_chaffref_Table_Steps _ _ _ _ _ _ _ (rsteps_is hw hT hs60 (Int.le_refl 0) (by simpa using hr0) (Int.le_refl 0) (by omega) (steps_is hw hT hs60 r0.body 0 hpeg (Int.le_refl 0) (by omega)) hTab' hknown fun M20 hle20 _ => ?_)).mono (fun g h => by subst h; exact .inr hMr0) (fun v M' _ h => h)
    rw [hcost]
    have hcap : cap y.2 = if (y.2 : Int) < 2097152 then (y.2 : Int) else 2097152 := rfl
  · refine ⟨_, rfl, fun hgt => ?_, fun _ => ⟨fun _ => ?_, fun hn => absurd rfl hn⟩⟩
    · split at hcap <;> omega
    · refine s_chaffref_Table_Out _ _ _ _ _ (out_is hs60 hT.ok (hTab'.le hle20) (Int.le_refl 0) (by omega) (Int.le_refl 0) (Int.le_refl 0) (by omega) ⟨_, rfl, fun _ M' _ => ?_, fun hn => ?_⟩)
      · rw [hcap, if_pos (by omega)]; simp
      · exact absurd ⟨by rw [← hE0]; rfl, by rw [← hE0]; rfl⟩ hn
  · refine ⟨_, rfl, fun _ => ⟨fun _ => ⟨fun _ _ _ => rfl, fun hn => absurd ⟨rfl, rfl⟩ hn⟩, fun hn => absurd rfl hn⟩, fun hle' => ?_⟩
    split at hcap <;> omega

theorem holds : Rows.MeanRunsSaid := top walk
#print axioms holds
end Go.Proofs.Ytifkffmecfgpeaa.lawMeanRuns
