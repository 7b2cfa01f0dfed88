/- For every input MutateKills answers true and leaves its arguments as they were. No condition. -/
import Derived.Test.YtifkffmecfgpeaaMutateKillsLawG
import Derived.Test.YtifkffmecfgpeaaMutateKillsT
import Derived.Test.YtifkffmecfgpeaaM4
namespace Go.Proofs.Ytifkffmecfgpeaa.lawMutateKills
open Go.Gx Go.RowKit Go.ChangeShapes Go.WideShapes Go.ChangeAt
open core
set_option linter.unusedVariables false
theorem ex_of {H : Type} {enc : TypeId × Value → H} {w : World} : ∀ (n B : Nat) (x : X_api_Expr), In_api_Expr enc w n B x → ∃ e, ExR (HM w) e x := by
 intro n
 induction n using Nat.strongRecOn with
 | _ n ih =>
  intro B x hx
  obtain ⟨b6, h1, h2, h3, h4, h5, h6, h7, _⟩ := hx
  obtain ⟨xs, bs, hsl, hl, hm, hall, _⟩ := open_L_Expr h7
  obtain ⟨es, hes⟩ := All2.choose (R := ExR (HM w)) xs fun y hy => by
   obtain ⟨b, k, hk, hin⟩ := hall.left y hy
   exact ih k hk b y hin
  have hle := hes.length
  obtain ⟨k, s, t, A, l, c⟩ := x
  have : l = es.length := by rw [← hle]; exact hl.symm
  subst this
  exact ⟨.mk k s t es, .mk h1 ⟨h2, h3, h4, h5⟩ h6 hsl hle fun i e x he hx => hes.get' he hx⟩
theorem gr_of {H : Type} {enc : TypeId × Value → H} {w : World} {n B : Nat} {A : Option Addr} {l c : Nat} (h : In_L_Rule enc w n B ⟨A, l, c⟩) : ∃ rs, GrR (HM w) rs A l c := by
 obtain ⟨xs, bs, hsl, hl, hm, hall, _⟩ := open_L_Rule h
 obtain ⟨rs, hrs⟩ := All2.choose (R := RuR (HM w)) xs fun y hy => by
  obtain ⟨b, k, hk, hin⟩ := hall.left y hy
  obtain ⟨b7, h1, h2, h3, h4, h5, h6, h7, h8, _⟩ := hin
  obtain ⟨e, he⟩ := ex_of k _ y.Body ⟨b7, h2, h3, h4, h5, h6, h7, h8, Nat.le_refl _⟩
  exact ⟨⟨y.Name, e⟩, rfl, h1, he⟩
 have := hrs.length
 simp only at hl
 exact ⟨rs, xs, hsl, hrs, by omega⟩
theorem slC_len (x : Sl3) : (slC x).length = 1 := rfl
theorem sC_len (x : List UInt8) : (sC x).length = 1 := rfl
def fnz : List Int → Int
 | [] => 0
 | x :: l => if x ≠ 0 then x else fnz l
theorem fnz_all : ∀ {l : List Int}, fnz l = 0 → ∀ x ∈ l, x = 0
 | [], _, x, hx => by cases hx
 | y :: l, h, x, hx => by
  rw [fnz] at h
  split at h
  ·rename_i h1; exact absurd h h1
  ·rename_i h1
   rcases List.mem_cons.1 hx with rfl | hx
   ·exact Decidable.not_not.1 h1
   ·exact fnz_all h x hx
def killI (f : List UInt8 → Bool) : List (List UInt8) → Int → Int
 | [], _ => -1
 | t :: ts, i => if f t = true then i else killI f ts (i + 1)
noncomputable def difP (ra rb : List Ru) (t : List UInt8) : Bool := !(accP rb t == accP ra t)
def gsE (gs : List (List Ru)) : Int := fnz (gs.map fun g => (wellP g).2)
def tsE (rs : List Ru) (ts : List (List UInt8)) : Int := fnz (ts.map (lookP rs))
def errE (rs : List Ru) (gs : List (List Ru)) (ts : List (List UInt8)) : Int := if (wellP rs).2 ≠ 0 then (wellP rs).2 else if 400 < gs.length ∨ 40 < ts.length then 2 else if gsE gs ≠ 0 then gsE gs else tsE rs ts
theorem look_len {rs : List Ru} {s : List UInt8} (h : lookP rs s = 0) {g : List Ru} (hg : (wellP g).2 = 0) : lookP g s = 0 ∧ s.length ≤ 60 := by
 obtain ⟨_, h60⟩ := look_ok h
 unfold lookP
 rw [if_neg (fun h' => h' hg), if_neg (by omega)]
 exact ⟨rfl, h60⟩
structure GsR (M : Mem) (gs : List (List Ru)) (ys : List Sl3) (la : Option Addr) (ll lc : Nat) : Prop where
 sl : SlV M la ll lc 1 (cl slC ys)
 yl : ys.length = ll
 gl : gs.length = ll
 gr : ∀ (i : Nat) g y, gs[i]? = some g → ys[i]? = some y → GrR M g y.a y.l y.c
theorem GsR.le {M M' : Mem} {gs : List (List Ru)} {ys : List Sl3} {la : Option Addr} {ll lc : Nat} (h : GsR M gs ys la ll lc) (hl : M.le M') : GsR M' gs ys la ll lc := ⟨h.sl.le hl, h.yl, h.gl, fun (i : Nat) (g : List Ru) (y : Sl3) a b => GrR.le (h.gr i g y a b) hl⟩
theorem GsR.at {M : Mem} {gs : List (List Ru)} {ys : List Sl3} {la : Option Addr} {ll lc : Nat} (h : GsR M gs ys la ll lc) {i : Int} (h0 : 0 ≤ i) (hi : i < ((ll : Nat) : Int)) : ∃ (g : List Ru) (y : Sl3) (b o : Nat), gs[i.toNat]? = some g ∧ la = some ⟨b, o, none⟩ ∧ At M b (o + i.toNat * 1) [Value.slice y.a y.l y.c] ∧ GrR M g y.a y.l y.c := by
 obtain ⟨g, hg⟩ := core.getI (l := gs) h0 (by rw [h.gl]; exact hi)
 obtain ⟨y, hy⟩ := core.getI (l := ys) h0 (by rw [h.yl]; exact hi)
 obtain ⟨b, o, ha, hat⟩ := h.sl.at slC_len h.yl hy
 exact ⟨g, y, b, o, hg, ha, hat, h.gr _ _ _ hg hy⟩
section
variable {rs : List Ru} {gs : List (List Ru)} {ts : List (List UInt8)} {ys : List Sl3} {M : Mem} {ga la ta : Option Addr} {gl gc ll lc tl tc : Nat}
theorem indexf_is {fv : Value} {f : List UInt8 → Bool} {K : Value → Prop} (ht : SlV M ta tl tc 1 (cl sC ts)) (hf : ∀ t ∈ ts, CallF Try.prog fv [.string (mkS t)] M (fun v _ => v = .bool (f t))) (hK : K (.int .i64 (killI f ts 0))) : S_slices_IndexFunc_string ta tl tc fv M K := by
 have hn := ht.len sC_len (by omega)
 have hm := ht.max
 subst hn
 unfold S_slices_IndexFunc_string
 refine ⟨fun i => 0 ≤ i ∧ i ≤ ts.length ∧ killI f (ts.drop i.toNat) i = killI f ts 0, fun i => ts.length - i.toNat, ⟨by omega, by omega, rfl⟩, fun i ⟨i0, i1, he⟩ => ⟨fun hlt => ?_, fun hge => ?_⟩⟩
 ·obtain ⟨t, htt⟩ := core.getI (l := ts) i0 hlt
  obtain ⟨b, o, ha, hat⟩ := ht.at sC_len rfl htt
  rw [drop_get htt, killI] at he
  refine ⟨b, o, ha, i0, hlt, t, hat, (hf t (List.mem_of_getElem? htt)).mono fun v _ _ hv => ⟨f t, hv, fun hy => ?_, fun hn => ⟨by unfold InI; omega, ⟨by omega, by omega, ?_⟩, by dsimp only; omega⟩⟩⟩
  ·rw [if_pos hy] at he; rw [he]; exact hK
  ·rw [if_neg hn] at he; rw [show (i + 1).toNat = i.toNat + 1 by omega]; exact he
 ·rw [List.drop_of_length_le (by omega), killI] at he
  rw [he]; exact hK
theorem index_is {s : List UInt8} {K : Value → Prop} (ht : SlV M ta tl tc 1 (cl sC ts)) (hs : s ∈ ts) (hK : ∀ j : Nat, ts[j]? = some s → K (.int .i64 j)) : S_slices_Index_string ta tl tc s M K := by
 have hn := ht.len sC_len (by omega)
 have hm := ht.max
 subst hn
 unfold S_slices_Index_string
 refine ⟨fun i => 0 ≤ i ∧ i ≤ ts.length ∧ s ∈ ts.drop i.toNat, fun i => ts.length - i.toNat, ⟨by omega, by omega, hs⟩, fun i ⟨i0, i1, he⟩ => ⟨fun hlt => ?_, fun hge => ?_⟩⟩
 ·obtain ⟨t, htt⟩ := core.getI (l := ts) i0 hlt
  obtain ⟨b, o, ha, hat⟩ := ht.at sC_len rfl htt
  rw [drop_get htt] at he
  refine ⟨b, o, ha, i0, hlt, t, hat, fun e => ?_, fun hne => ⟨by unfold InI; omega, ⟨by omega, by omega, ?_⟩, by dsimp only; omega⟩⟩
  ·have := hK i.toNat (by rw [htt, e])
   rw [show ((i.toNat : Nat) : Int) = i by omega] at this; exact this
  ·rw [show (i + 1).toNat = i.toNat + 1 by omega]
   exact (List.mem_cons.1 he).resolve_left hne
 ·rw [List.drop_of_length_le (by omega)] at he; cases he
theorem kill_is {K : Value → Mem → Prop} (hg : GrR M rs ga gl gc) (hgs : GsR M gs ys la ll lc) (ht : SlV M ta tl tc 1 (cl sC ts)) (h1 : errE rs gs ts ≠ 0 → ∀ M', M.le M' → K (.tuple #[.slice none 0 0, .int .i64 (errE rs gs ts)]) M')
  (h2 : errE rs gs ts = 0 → ∀ M' ad cap, M.le M' → SlV M' ad gs.length cap 1 (cl core.iC (gs.map fun g => killI (difP rs g) ts 0)) → K (.tuple #[.slice ad gs.length cap, .int .i64 0]) M') : S_mutate_Kill ga gl gc la ll lc ta tl tc M K := by
 have hn := ht.len sC_len (by omega)
 subst hn
 have hgl := hgs.gl
 subst hgl
 unfold S_mutate_Kill
 refine s_well_Well _ _ _ _ _ (wwell_is hg _ ⟨_, _, rfl, fun h => ?_, fun h => ?_⟩)
 ·have e : errE rs gs ts = (wellP rs).2 := by unfold errE; rw [if_pos h]
  rw [e] at h1; exact h1 h
 have hwp := Decidable.not_not.1 h
 have hw := well_ok hwp
 have j1 : ∀ v : Bool, v = decide (400 < gs.length ∨ 40 < ts.length) → S_mutate_Kill_J1 ga gl gc la gs.length ta ts.length tc M v K := by
  intro v hv
  unfold S_mutate_Kill_J1
  refine ⟨fun hy => ?_, fun hf => ?_⟩
  ·have e : errE rs gs ts = 2 := by unfold errE; rw [if_neg h, if_pos (of_decide_eq_true (by rw [← hv, hy]))]
   rw [e] at h1; exact h1 (by omega)
  have hsm : ¬ (400 < gs.length ∨ 40 < ts.length) := fun h => hf (by rw [hv, decide_eq_true h])
  have e : errE rs gs ts = if gsE gs ≠ 0 then gsE gs else tsE rs ts := by unfold errE; rw [if_neg h, if_neg hsm]
  refine ⟨fun i => 0 ≤ i ∧ i ≤ gs.length ∧ gsE (gs.drop i.toNat) = gsE gs, fun i => gs.length - i.toNat, ⟨by omega, by omega, rfl⟩, fun i ⟨i0, i1, he⟩ => ⟨fun hlt => ?_, fun hge => ?_⟩⟩
  ·obtain ⟨g, y, b, o, hgi, ha, hat, hgr⟩ := hgs.at i0 hlt
   rw [drop_get hgi, gsE, List.map_cons, fnz] at he
   refine ⟨b, o, ha, i0, hlt, y.a, y.l, y.c, hat, s_well_Well _ _ _ _ _ (wwell_is hgr _ ⟨_, _, rfl, fun hne => ?_, fun h0 => ⟨by unfold InI; omega, ⟨by omega, by omega, ?_⟩, by dsimp only; omega⟩⟩)⟩
   ·rw [if_pos hne] at he
    rw [e, ← he, if_pos hne] at h1; exact h1 hne
   ·rw [if_neg h0] at he
    rw [show (i + 1).toNat = i.toNat + 1 by omega]; exact he
  have hgs0 : gsE gs = 0 := by rw [← he, List.drop_of_length_le (by omega)]; rfl
  rw [if_neg (fun h => h hgs0)] at e
  have hgw : ∀ g ∈ gs, (wellP g).2 = 0 := fun g hg => fnz_all hgs0 _ (List.mem_map.2 ⟨g, hg, rfl⟩)
  refine ⟨fun i rn rx => 0 ≤ i ∧ i ≤ ts.length ∧ tsE rs (ts.drop i.toNat) = tsE rs ts ∧ rn = i.toNat ∧ rx = cl bC ((ts.take i.toNat).map (accP rs)), fun i _ _ => ts.length - i.toNat, ⟨by omega, by omega, rfl, rfl, rfl⟩, fun i rn rx ⟨i0, i1, he, hrn, hrx⟩ => ⟨fun hlt => ?_, fun hge => ?_⟩⟩
  ·obtain ⟨t, htt⟩ := core.getI (l := ts) i0 hlt
   obtain ⟨b, o, ha, hat⟩ := ht.at sC_len rfl htt
   rw [drop_get htt, tsE, List.map_cons, fnz] at he
   refine ⟨b, o, ha, i0, hlt, t, hat, s_list_Accepts _ _ _ _ _ _ (laccepts_is hg (fun hne => ⟨_, _, rfl, fun _ => ?_, fun hn => absurd hne hn⟩) fun h0 => ⟨_, _, rfl, fun hne => absurd rfl hne, fun _ => ⟨by omega, by unfold InI; omega, ⟨by omega, by omega, ?_, by omega, ?_⟩, by dsimp only; omega⟩⟩)⟩
   ·rw [if_pos hne] at he
    rw [e, ← he] at h1; exact h1 hne
   ·rw [if_neg (fun h => h h0)] at he
    rw [show (i + 1).toNat = i.toNat + 1 by omega]; exact he
   ·rw [hrx, show (i + 1).toNat = i.toNat + 1 by omega, take_get htt, List.map_append]
    exact cl_snoc _ _
  have hts0 : tsE rs ts = 0 := by rw [← he, List.drop_of_length_le (by omega)]; rfl
  have herr : errE rs gs ts = 0 := by rw [e]; exact hts0
  have htl : ∀ t ∈ ts, lookP rs t = 0 := fun t ht => fnz_all hts0 _ (List.mem_map.2 ⟨t, ht, rfl⟩)
  have hi : i.toNat = ts.length := by omega
  rw [hrn, hrx, hi, List.take_of_length_le (Nat.le_refl _)]
  intro M82 ad80 cap81 hle82 hsl82 M83 b35 hle83 hat35 M84 b11 hle84 hat11
  have hle := hle82.trans (hle83.trans hle84)
  refine ⟨fun i rn rx M' => 0 ≤ i ∧ i ≤ gs.length ∧ rn = i.toNat ∧ rx = cl core.iC ((gs.take i.toNat).map fun g => killI (difP rs g) ts 0) ∧ M84.le M', fun i _ _ => gs.length - i.toNat, ⟨by omega, by omega, rfl, rfl, Mem.le.refl _⟩, fun i rn rx M' ⟨i0, i1, hrn, hrx, hle'⟩ => ⟨fun hlt => ?_, fun hge => ?_⟩⟩
  ·obtain ⟨g, y, b, o, hgi, ha, hat, hgr⟩ := hgs.at i0 hlt
   have hgi0 := hgw g (List.mem_of_getElem? hgi)
   refine ⟨b, o, ha, i0, hlt, y.a, y.l, y.c, hat.le (hle.trans hle'), _, _, _, hat11.le hle', fun M137 b133 hle137 hat133 => ?_⟩
   have hall := hle.trans (hle'.trans hle137)
   refine s_slices_IndexFunc_string _ _ _ _ _ _ (indexf_is (f := difP rs g) (ht.le hall) (fun t htm => f_mutate_Kill_1 _ _ _ _ _ _ ?_) ⟨_, rfl, by omega, by unfold InI; omega, ⟨by omega, by omega, by omega, ?_, hle'.trans hle137⟩, by dsimp only; omega⟩)
   ·unfold S_mutate_Kill_1
    obtain ⟨hlg, h60⟩ := look_len (htl t htm) hgi0
    refine ⟨_, _, _, hat133, s_list_Accepts _ _ _ _ _ _ (laccepts_is (hgr.le hall) (fun h => absurd hlg h) fun _ => ⟨_, _, rfl, _, _, _, hat35.le (hle84.trans (hle'.trans hle137)), _, _, _, hat11.le (hle'.trans hle137), s_slices_Index_string _ _ _ _ _ _ (index_is (ht.le hall) htm fun j hj => ⟨_, rfl, ?_⟩)⟩)⟩
    have hjl := (List.getElem?_eq_some_iff.1 hj).1
    obtain ⟨b2, o2, ha2, hat2⟩ := (hsl82.le (hle83.trans (hle84.trans (hle'.trans hle137)))).at bC_len (by simp) (x := accP rs t) (i := j) (by rw [List.getElem?_map, hj]; rfl)
    exact ⟨b2, o2, ha2, by omega, by omega, _, by rw [Int.toNat_natCast]; exact hat2, rfl⟩
   ·rw [hrx, show (i + 1).toNat = i.toNat + 1 by omega, take_get hgi, List.map_append]
    exact cl_snoc _ _
  ·have hi : i.toNat = gs.length := by omega
   rw [hrn, hrx, hi, List.take_of_length_le (Nat.le_refl _)]
   exact fun M145 ad cap hle2 hsl M3 hle3 => h2 herr M3 ad cap (hle.trans (hle'.trans (hle2.trans hle3))) (hsl.le hle3)
 exact ⟨fun hgt => j1 _ (by symm; exact decide_eq_true (by omega)), fun hle => j1 _ (by rw [decide_eq_decide]; omega)⟩
end
theorem walk : WalkGoal := by
 intro H enc W x n B hx ⟨la, ll, lc⟩ n2 B2 hy ⟨ta, tl, tc⟩ n3 B3 hz
 obtain ⟨rs, hg⟩ := gr_of (A := x.a) (l := x.l) (c := x.c) hx
 obtain ⟨ys, bs, hsl, hl, hm, hall, _⟩ := open_L_Grammar hy
 obtain ⟨ts, _, htl, hl2, _, _, _⟩ := open_L_string hz
 obtain ⟨gs, hgs0⟩ := All2.choose (R := fun g y => GrR (HM W) g y.a y.l y.c) ys fun y hym => by
  obtain ⟨b, k, hk, hin⟩ := hall.left y hym
  exact gr_of hin
 have hgl := hgs0.length
 have hgs : GsR (HM W) gs ys la ll lc := ⟨hsl, hl, by have h : ys.length = ll := hl; omega, fun i g y hg hy => hgs0.get' hg hy⟩
 refine s_chafflaw_MutateKills _ _ _ _ _ _ _ _ _ _ _ ?_
 unfold S_chafflaw_MutateKills
 generalize HM W = M at *
 have hl2 : ts.length = tl := hl2
 have hlg : gs.length = ll := hgs.gl
 subst hl2 hlg
 have hmt := htl.max
 have hmg : gs.length ≤ 9223372036854775807 := hgs.sl.max
 have htl : SlV M ta ts.length tc 1 (cl sC ts) := htl
 have hmt : ts.length ≤ 9223372036854775807 := hmt
 have ask : ∀ (A : Option Addr) (n : Nat) (er : Int) (M15 : Mem), M.le M15 →
   ((errE rs gs ts ≠ 0 → er = errE rs gs ts ∧ n = 0) ∧ (errE rs gs ts = 0 → er = 0 ∧ n = gs.length ∧ S_chafflaw_MutateKills_J5 x.a x.l x.c la gs.length ta ts.length A n M15 false (fun v => v = .bool true))) →
   CallE Try.prog 21 #[(Value.agg #[(Value.slice x.a x.l x.c)])] M15 (fun v _ => ∃ (x16 : Int) (x17 : Int), v = (Value.tuple #[(Value.int .i64 x16), (Value.int .i64 x17)]) ∧ (((x17 : Int) = 0 → ((((gs.length : Nat) : Int) > 400 → (S_chafflaw_MutateKills_J1 x.a x.l x.c la gs.length ta ts.length A n er M15 x17 true (fun v => v = .bool true))) ∧ (¬ (((gs.length : Nat) : Int) > 400) → (S_chafflaw_MutateKills_J1 x.a x.l x.c la gs.length ta ts.length A n er M15 x17 (decide (((ts.length : Nat) : Int) > 40)) (fun v => v = .bool true))))) ∧ (¬ ((x17 : Int) = 0) → (S_chafflaw_MutateKills_J1 x.a x.l x.c la gs.length ta ts.length A n er M15 x17 false (fun v => v = .bool true))))) := by
  intro A n er M15 hle ⟨hbad, hgood⟩
  have fin4 : ∀ (want i : Int) I mu, want = errE rs gs ts → S_chafflaw_MutateKills_J4 x.a x.l x.c la gs.length ta ts.length A n er M15 want i I mu false (fun v => v = .bool true) := by
   intro want i I mu hw
   subst hw
   unfold S_chafflaw_MutateKills_J4
   refine ⟨fun h => (by cases h), fun _ => ⟨fun hne => ?_, fun h0 => ?_⟩⟩
   ·obtain ⟨e1, e2⟩ := hbad hne
    subst e2
    exact ⟨fun _ => rfl, fun hn => absurd e1 hn⟩
   ·obtain ⟨e1, e2, hj⟩ := hgood (Decidable.not_not.1 h0)
    subst e1
    refine ⟨fun hn => absurd rfl hn, fun _ => ?_⟩
    rw [show (((n : Nat) : Int) != ((gs.length : Nat) : Int)) = false by rw [e2]; simp]
    exact hj
  have j2 : ∀ w0 : Int, (if (if w0 ≠ 0 then w0 else gsE gs) ≠ 0 then (if w0 ≠ 0 then w0 else gsE gs) else tsE rs ts) = errE rs gs ts → S_chafflaw_MutateKills_J2 x.a x.l x.c la gs.length ta ts.length A n er M15 w0 (fun v => v = .bool true) := by
   intro w0 hW2
   generalize hW1 : (if w0 ≠ 0 then w0 else gsE gs) = W1 at hW2
   unfold S_chafflaw_MutateKills_J2
   have j3 : ∀ (want i : Int) I mu, want = W1 → S_chafflaw_MutateKills_J3 x.a x.l x.c la gs.length ta ts.length A n er M15 want i I mu false (fun v => v = .bool true) := by
    intro want i I mu hw
    subst hw
    unfold S_chafflaw_MutateKills_J3
    refine ⟨fun h => (by cases h), fun _ => ⟨fun w k => 0 ≤ k ∧ k ≤ (ts.length : Int) ∧ (w ≠ 0 → w = errE rs gs ts) ∧ (w = 0 → want = 0 ∧ tsE rs (ts.drop k.toNat) = tsE rs ts), fun _ k => ts.length - k.toNat, ⟨by omega, by omega, fun h => by rw [if_pos h] at hW2; exact hW2, fun h => ⟨h, rfl⟩⟩, fun w k ⟨k0, k1, hne, hz⟩ => ⟨fun hlt => ?_, fun hge => fin4 w k _ _ ?_⟩⟩⟩
    ·by_cases h0 : w = 0
     ·obtain ⟨hw0, he⟩ := hz h0
      rw [show (w == (0 : Int)) = true by rw [h0]; rfl]
      unfold S_chafflaw_MutateKills_J4
      obtain ⟨t, htt⟩ := core.getI (l := ts) k0 hlt
      obtain ⟨b, o, ha, hat⟩ := htl.at sC_len rfl htt
      rw [drop_get htt, tsE, List.map_cons, fnz] at he
      refine ⟨fun _ => ⟨b, o, ha, k0, hlt, t, hat.le hle, s_chaffref_Look _ _ _ _ _ _ (rlook_is (hg.le hle) t _ ⟨_, rfl, by unfold InI; omega, ⟨by omega, by omega, fun hn => ?_, fun h0' => ⟨hw0, ?_⟩⟩, by dsimp only; omega⟩)⟩, fun hn => absurd rfl hn⟩
      ·rw [if_pos hn] at he
       rw [if_neg (fun h => h hw0)] at hW2
       rw [← hW2, ← he]
      ·rw [if_neg (fun h => h h0')] at he
       rw [show (k + 1).toNat = k.toNat + 1 by omega]; exact he
     ·rw [show (w == (0 : Int)) = false by simpa using h0]
      exact fin4 w k _ _ (hne h0)
    ·by_cases h0 : w = 0
     ·obtain ⟨hw0, he⟩ := hz h0
      rw [List.drop_of_length_le (by omega)] at he
      rw [if_neg (fun h => h hw0)] at hW2
      rw [← hW2, ← he, h0]; rfl
     ·exact hne h0
   refine ⟨fun w k => 0 ≤ k ∧ k ≤ (gs.length : Int) ∧ (w ≠ 0 → w = W1) ∧ (w = 0 → w0 = 0 ∧ gsE (gs.drop k.toNat) = gsE gs), fun _ k => gs.length - k.toNat, ⟨by omega, by omega, fun h => by rw [if_pos h] at hW1; exact hW1, fun h => ⟨h, rfl⟩⟩, fun w k ⟨k0, k1, hne, hz⟩ => ⟨fun hlt => ?_, fun hge => j3 w k _ _ ?_⟩⟩
   ·by_cases h0 : w = 0
    ·obtain ⟨hw0, he⟩ := hz h0
     rw [show (w == (0 : Int)) = true by rw [h0]; rfl]
     unfold S_chafflaw_MutateKills_J3
     obtain ⟨g, y, b, o, hgi, ha, hat, hgr⟩ := hgs.at k0 hlt
     rw [drop_get hgi, gsE, List.map_cons, fnz] at he
     refine ⟨fun _ => ⟨b, o, ha, k0, hlt, y.a, y.l, y.c, hat.le hle, s_chaffref_Well _ _ _ _ _ (rwell_is (hgr.le hle) _ ⟨_, _, rfl, by unfold InI; omega, ⟨by omega, by omega, fun hn => ?_, fun h0' => ⟨hw0, ?_⟩⟩, by dsimp only; omega⟩)⟩, fun hn => absurd rfl hn⟩
     ·rw [if_pos hn] at he
      rw [if_neg (fun h => h hw0)] at hW1
      rw [← hW1, ← he]
     ·rw [if_neg (fun h => h h0')] at he
      rw [show (k + 1).toNat = k.toNat + 1 by omega]; exact he
    ·rw [show (w == (0 : Int)) = false by simpa using h0]
     exact j3 w k _ _ (hne h0)
   ·by_cases h0 : w = 0
    ·obtain ⟨hw0, he⟩ := hz h0
     rw [List.drop_of_length_le (by omega)] at he
     rw [if_neg (fun h => h hw0)] at hW1
     rw [← hW1, ← he, h0]; rfl
    ·exact hne h0
  have j1 : ∀ v : Bool, (wellP rs).2 = 0 → v = decide (400 < gs.length ∨ 40 < ts.length) → S_chafflaw_MutateKills_J1 x.a x.l x.c la gs.length ta ts.length A n er M15 (wellP rs).2 v (fun v => v = .bool true) := by
   intro v h0 hv
   unfold S_chafflaw_MutateKills_J1
   refine ⟨fun hy => j2 2 ?_, fun hn => j2 _ ?_⟩
   ·have e : errE rs gs ts = 2 := by unfold errE; rw [if_neg (fun h => h h0), if_pos (of_decide_eq_true (by rw [← hv, hy]))]
    rw [e, if_pos (show (2 : Int) ≠ 0 by omega), if_pos (show (2 : Int) ≠ 0 by omega)]
   ·have e : errE rs gs ts = if gsE gs ≠ 0 then gsE gs else tsE rs ts := by unfold errE; rw [if_neg (fun h => h h0), if_neg (fun h => hn (by rw [hv, decide_eq_true h]))]
    rw [e, if_neg (show ¬ (wellP rs).2 ≠ 0 from fun h => h h0)]
  refine s_chaffref_Well _ _ _ _ _ (rwell_is (hg.le hle) _ ⟨_, _, rfl, fun h0 => ⟨fun hgt => j1 _ h0 (by symm; exact decide_eq_true (by omega)), fun hng => j1 _ h0 (by rw [decide_eq_decide]; omega)⟩, fun hne => ?_⟩)
  unfold S_chafflaw_MutateKills_J1
  refine ⟨fun h => (by cases h), fun _ => j2 _ ?_⟩
  have e : errE rs gs ts = (wellP rs).2 := by unfold errE; rw [if_pos hne]
  rw [e, if_pos hne, if_pos hne]
 refine s_mutate_Kill _ _ _ _ _ _ _ _ _ _ _ (kill_is hg hgs htl (fun h M' hle => ⟨_, _, _, _, rfl, ask _ _ _ M' hle ⟨fun _ => ⟨rfl, rfl⟩, fun h0 => absurd h0 h⟩⟩) fun h M' ad cap hle hsl2 => ⟨_, _, _, _, rfl, ask _ _ _ M' hle ⟨fun hn => absurd h hn, fun _ => ⟨rfl, rfl, ?_⟩⟩⟩)
 have hparts : (wellP rs).2 = 0 ∧ gsE gs = 0 ∧ tsE rs ts = 0 := by
  unfold errE at h
  split at h
  ·rename_i h1; exact absurd h h1
  ·rename_i h1
   split at h
   ·cases h
   ·split at h
    ·rename_i h2; exact absurd h h2
    ·rename_i h2; exact ⟨Decidable.not_not.1 h1, Decidable.not_not.1 h2, h⟩
 obtain ⟨hwp, hg0, ht0⟩ := hparts
 have hw := well_ok hwp
 unfold S_chafflaw_MutateKills_J5
 refine ⟨fun h => (by cases h), fun _ => ⟨fun i => 0 ≤ i ∧ i ≤ (gs.length : Int), fun i => gs.length - i.toNat, ⟨by omega, by omega⟩, fun i ⟨i0, i1⟩ => ⟨fun hlt => ?_, fun _ => rfl⟩⟩⟩
 obtain ⟨g, y, b, o, hgi, ha, hat, hgr⟩ := hgs.at i0 hlt
 have hgw : (wellP g).2 = 0 := fnz_all hg0 _ (List.mem_map.2 ⟨g, List.mem_of_getElem? hgi, rfl⟩)
 obtain ⟨b2, o2, ha2, hat2⟩ := hsl2.at iC_len (by simp) (x := killI (difP rs g) ts 0) (by rw [List.getElem?_map, hgi]; rfl)
 have j7 : ∀ k : Int, k = killI (difP rs g) ts 0 → S_chafflaw_MutateKills_J7 ad gs.length M' i (fun i => 0 ≤ i ∧ i ≤ (gs.length : Int)) (fun i => gs.length - i.toNat) k (fun v => v = .bool true) := by
  intro k hk
  unfold S_chafflaw_MutateKills_J7
  exact ⟨b2, o2, ha2, i0, hlt, _, hat2, fun hn => absurd hk.symm hn, fun _ => ⟨by unfold InI; omega, ⟨by omega, by omega⟩, by dsimp only; omega⟩⟩
 refine ⟨b, o, ha, i0, hlt, y.a, y.l, y.c, hat.le hle, fun k => 0 ≤ k ∧ k ≤ (ts.length : Int) ∧ killI (difP rs g) (ts.drop k.toNat) k = killI (difP rs g) ts 0, fun k => ts.length - k.toNat, ⟨by omega, by omega, rfl⟩, fun k ⟨k0, k1, he⟩ => ⟨fun hltk => ?_, fun hgek => ?_⟩⟩
 ·obtain ⟨t, htt⟩ := core.getI (l := ts) k0 hltk
  obtain ⟨b3, o3, ha3, hat3⟩ := htl.at sC_len rfl htt
  obtain ⟨_, h60⟩ := look_ok (fnz_all ht0 (lookP rs t) (List.mem_map.2 ⟨t, List.mem_of_getElem? htt, rfl⟩))
  rw [drop_get htt, killI] at he
  refine ⟨b3, o3, ha3, k0, hltk, t, hat3.le hle, b3, o3, ha3, k0, hltk, t, hat3.le hle, s_chaffref_Accepts _ _ _ _ _ _ (raccepts_is (well_ok hgw) h60 (hgr.le hle) ⟨_, rfl, s_chaffref_Accepts _ _ _ _ _ _ (raccepts_is hw h60 (hg.le hle) ⟨_, rfl, ?_⟩)⟩)⟩
  unfold S_chafflaw_MutateKills_J6
  refine ⟨fun hy => ⟨by unfold InI; omega, ⟨by omega, by omega, ?_⟩, by dsimp only; omega⟩, fun hn => ⟨fun hk => by omega, fun _ => j7 k ?_⟩⟩
  ·have hf : ¬ difP rs g t = true := by unfold difP; rw [hy]; simp
   rw [if_neg hf] at he
   rw [show (k + 1).toNat = k.toNat + 1 by omega]; exact he
  ·have hf : difP rs g t = true := by unfold difP; simpa using hn
   rw [if_pos hf] at he; exact he
 ·unfold S_chafflaw_MutateKills_J6
  rw [List.drop_of_length_le (by omega), killI] at he
  exact ⟨fun h => (by cases h), fun _ => ⟨fun _ => j7 _ he, fun hn => absurd (by omega) hn⟩⟩
theorem holds : Rows.MutateKillsSaid := top walk
#print axioms holds
end Go.Proofs.Ytifkffmecfgpeaa.lawMutateKills
