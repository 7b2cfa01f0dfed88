/- For every input TopMutants answers true and leaves its arguments as they were. No condition. -/
import Derived.Test.YtmnilbfhfjdelaaM5
import Derived.Test.YtmnilbfhfjdelaaTopMutantsT
import Derived.Test.YtmnilbfhfjdelaaM7
namespace Go.Proofs.Ytmnilbfhfjdelaa.lawTopMutants
open Go.Gx Go.RowKit Go.ChangeShapes Go.WideShapes Go.ChangeAt
open core
set_option linter.unusedVariables false
theorem ex_of {H : Type} {enc : TypeId × Value → H} {w : World} : ∀ (n B : Nat) (x : X_api_Expr), In_api_Expr enc w n B x → ∃ e, ExR (HM w) e x := by
 intro n
 induction n using Nat.strongRecOn with
 | _ n ih =>
  intro B x hx
  obtain ⟨b6, h1, h2, h3, h4, h5, h6, h7, _⟩ := hx
  obtain ⟨xs, bs, hsl, hl, hm, hall, _⟩ := open_L_Expr h7
  obtain ⟨es, hes⟩ := All2.choose (R := ExR (HM w)) xs fun y hy => by
   obtain ⟨b, k, hk, hin⟩ := hall.left y hy
   exact ih k hk b y hin
  have hle := hes.length
  obtain ⟨k, s, t, A, l, c⟩ := x
  have : l = es.length := by rw [← hle]; exact hl.symm
  subst this
  exact ⟨.mk k s t es, .mk h1 ⟨h2, h3, h4, h5⟩ h6 hsl hle fun i e x he hx => hes.get' he hx⟩
theorem gr_of {H : Type} {enc : TypeId × Value → H} {w : World} {n B : Nat} {A : Option Addr} {l c : Nat} (h : In_L_Rule enc w n B ⟨A, l, c⟩) : ∃ rs, GrR (HM w) rs A l c := by
 obtain ⟨xs, bs, hsl, hl, hm, hall, _⟩ := open_L_Rule h
 obtain ⟨rs, hrs⟩ := All2.choose (R := RuR (HM w)) xs fun y hy => by
  obtain ⟨b, k, hk, hin⟩ := hall.left y hy
  obtain ⟨b7, h1, h2, h3, h4, h5, h6, h7, h8, _⟩ := hin
  obtain ⟨e, he⟩ := ex_of k _ y.Body ⟨b7, h2, h3, h4, h5, h6, h7, h8, Nat.le_refl _⟩
  exact ⟨⟨y.Name, e⟩, rfl, h1, he⟩
 have := hrs.length
 simp only at hl
 exact ⟨rs, xs, hsl, hrs, by omega⟩
theorem slC_len (x : Sl3) : (slC x).length = 1 := rfl
theorem sC_len (x : List UInt8) : (Gx.sC x).length = 1 := rfl
def fnz : List Int → Int
 | [] => 0
 | x :: l => if x ≠ 0 then x else fnz l
theorem fnz_all : ∀ {l : List Int}, fnz l = 0 → ∀ x ∈ l, x = 0
 | [], _, x, hx => by cases hx
 | y :: l, h, x, hx => by
  rw [fnz] at h
  split at h
  ·rename_i h1; exact absurd h h1
  ·rename_i h1
   rcases List.mem_cons.1 hx with rfl | hx
   ·exact Decidable.not_not.1 h1
   ·exact fnz_all h x hx
def killI (f : List UInt8 → Bool) : List (List UInt8) → Int → Int
 | [], _ => -1
 | t :: ts, i => if f t = true then i else killI f ts (i + 1)
noncomputable def difP (ra rb : List Ru) (t : List UInt8) : Bool := !(accP rb t == accP ra t)
def gsE (gs : List (List Ru)) : Int := fnz (gs.map fun g => (wellP g).2)
def tsE (rs : List Ru) (ts : List (List UInt8)) : Int := fnz (ts.map (lookP rs))
def errE (rs : List Ru) (gs : List (List Ru)) (ts : List (List UInt8)) : Int := if (wellP rs).2 ≠ 0 then (wellP rs).2 else if 400 < gs.length ∨ 40 < ts.length then 2 else if gsE gs ≠ 0 then gsE gs else tsE rs ts
theorem look_len {rs : List Ru} {s : List UInt8} (h : lookP rs s = 0) {g : List Ru} (hg : (wellP g).2 = 0) : lookP g s = 0 ∧ s.length ≤ 60 := by
 obtain ⟨_, h60⟩ := look_ok h
 unfold lookP
 rw [if_neg (fun h' => h' hg), if_neg (by omega)]
 exact ⟨rfl, h60⟩
structure GsR (M : Mem) (gs : List (List Ru)) (ys : List Sl3) (la : Option Addr) (ll lc : Nat) : Prop where
 sl : SlV M la ll lc 1 (cl slC ys)
 yl : ys.length = ll
 gl : gs.length = ll
 gr : ∀ (i : Nat) g y, gs[i]? = some g → ys[i]? = some y → GrR M g y.a y.l y.c
theorem GsR.le {M M' : Mem} {gs : List (List Ru)} {ys : List Sl3} {la : Option Addr} {ll lc : Nat} (h : GsR M gs ys la ll lc) (hl : M.le M') : GsR M' gs ys la ll lc := ⟨h.sl.le hl, h.yl, h.gl, fun (i : Nat) (g : List Ru) (y : Sl3) a b => GrR.le (h.gr i g y a b) hl⟩
theorem GsR.at {M : Mem} {gs : List (List Ru)} {ys : List Sl3} {la : Option Addr} {ll lc : Nat} (h : GsR M gs ys la ll lc) {i : Int} (h0 : 0 ≤ i) (hi : i < ((ll : Nat) : Int)) : ∃ (g : List Ru) (y : Sl3) (b o : Nat), gs[i.toNat]? = some g ∧ la = some ⟨b, o, none⟩ ∧ At M b (o + i.toNat * 1) [Value.slice y.a y.l y.c] ∧ GrR M g y.a y.l y.c := by
 obtain ⟨g, hg⟩ := core.getI (l := gs) h0 (by rw [h.gl]; exact hi)
 obtain ⟨y, hy⟩ := core.getI (l := ys) h0 (by rw [h.yl]; exact hi)
 obtain ⟨b, o, ha, hat⟩ := h.sl.at slC_len h.yl hy
 exact ⟨g, y, b, o, hg, ha, hat, h.gr _ _ _ hg hy⟩
section
variable {rs : List Ru} {gs : List (List Ru)} {ts : List (List UInt8)} {ys : List Sl3} {M : Mem} {ga la ta : Option Addr} {gl gc ll lc tl tc : Nat}
theorem indexf_is {fv : Value} {f : List UInt8 → Bool} {K : Value → Prop} (ht : SlV M ta tl tc 1 (cl Gx.sC ts)) (hf : ∀ t ∈ ts, CallF Try.prog fv [.string (mkS t)] M (fun v _ => v = .bool (f t))) (hK : K (.int .i64 (killI f ts 0))) : S_slices_IndexFunc_string ta tl tc fv M K := by
 have hn := ht.len sC_len (by omega)
 have hm := ht.max
 subst hn
 unfold S_slices_IndexFunc_string
 refine ⟨fun i => 0 ≤ i ∧ i ≤ ts.length ∧ killI f (ts.drop i.toNat) i = killI f ts 0, fun i => ts.length - i.toNat, ⟨by omega, by omega, rfl⟩, fun i ⟨i0, i1, he⟩ => ⟨fun hlt => ?_, fun hge => ?_⟩⟩
 ·obtain ⟨t, htt⟩ := core.getI (l := ts) i0 hlt
  obtain ⟨b, o, ha, hat⟩ := ht.at sC_len rfl htt
  rw [drop_get htt, killI] at he
  refine ⟨b, o, ha, i0, hlt, t, hat, (hf t (List.mem_of_getElem? htt)).mono fun v _ _ hv => ⟨f t, hv, fun hy => ?_, fun hn => ⟨by unfold InI; omega, ⟨by omega, by omega, ?_⟩, by dsimp only; omega⟩⟩⟩
  ·rw [if_pos hy] at he; rw [he]; exact hK
  ·rw [if_neg hn] at he; rw [show (i + 1).toNat = i.toNat + 1 by omega]; exact he
 ·rw [List.drop_of_length_le (by omega), killI] at he
  rw [he]; exact hK
theorem index_is {s : List UInt8} {K : Value → Prop} (ht : SlV M ta tl tc 1 (cl Gx.sC ts)) (hs : s ∈ ts) (hK : ∀ j : Nat, ts[j]? = some s → K (.int .i64 j)) : S_slices_Index_string ta tl tc s M K := by
 have hn := ht.len sC_len (by omega)
 have hm := ht.max
 subst hn
 unfold S_slices_Index_string
 refine ⟨fun i => 0 ≤ i ∧ i ≤ ts.length ∧ s ∈ ts.drop i.toNat, fun i => ts.length - i.toNat, ⟨by omega, by omega, hs⟩, fun i ⟨i0, i1, he⟩ => ⟨fun hlt => ?_, fun hge => ?_⟩⟩
 ·obtain ⟨t, htt⟩ := core.getI (l := ts) i0 hlt
  obtain ⟨b, o, ha, hat⟩ := ht.at sC_len rfl htt
  rw [drop_get htt] at he
  refine ⟨b, o, ha, i0, hlt, t, hat, fun e => ?_, fun hne => ⟨by unfold InI; omega, ⟨by omega, by omega, ?_⟩, by dsimp only; omega⟩⟩
  ·have := hK i.toNat (by rw [htt, e])
   rw [show ((i.toNat : Nat) : Int) = i by omega] at this; exact this
  ·rw [show (i + 1).toNat = i.toNat + 1 by omega]
   exact (List.mem_cons.1 he).resolve_left hne
 ·rw [List.drop_of_length_le (by omega)] at he; cases he
theorem kill_is {K : Value → Mem → Prop} (hg : GrR M rs ga gl gc) (hgs : GsR M gs ys la ll lc) (ht : SlV M ta tl tc 1 (cl Gx.sC ts)) (h1 : errE rs gs ts ≠ 0 → ∀ M', M.le M' → K (.tuple #[.slice none 0 0, .int .i64 (errE rs gs ts)]) M')
  (h2 : errE rs gs ts = 0 → ∀ M' ad cap, M.le M' → SlV M' ad gs.length cap 1 (cl core.iC (gs.map fun g => killI (difP rs g) ts 0)) → K (.tuple #[.slice ad gs.length cap, .int .i64 0]) M') : S_mutate_Kill ga gl gc la ll lc ta tl tc M K := by
 have hn := ht.len sC_len (by omega)
 subst hn
 have hgl := hgs.gl
 subst hgl
 unfold S_mutate_Kill
 refine s_well_Well _ _ _ _ _ (wwell_is hg _ ⟨_, _, rfl, fun h => ?_, fun h => ?_⟩)
 ·have e : errE rs gs ts = (wellP rs).2 := by unfold errE; rw [if_pos h]
  rw [e] at h1; exact h1 h
 have hwp := Decidable.not_not.1 h
 have hw := well_ok hwp
 have j1 : ∀ v : Bool, v = decide (400 < gs.length ∨ 40 < ts.length) → S_mutate_Kill_J1 ga gl gc la gs.length ta ts.length tc M v K := by
  intro v hv
  unfold S_mutate_Kill_J1
  refine ⟨fun hy => ?_, fun hf => ?_⟩
  ·have e : errE rs gs ts = 2 := by unfold errE; rw [if_neg h, if_pos (of_decide_eq_true (by rw [← hv, hy]))]
   rw [e] at h1; exact h1 (by omega)
  have hsm : ¬ (400 < gs.length ∨ 40 < ts.length) := fun h => hf (by rw [hv, decide_eq_true h])
  have e : errE rs gs ts = if gsE gs ≠ 0 then gsE gs else tsE rs ts := by unfold errE; rw [if_neg h, if_neg hsm]
  refine ⟨fun i => 0 ≤ i ∧ i ≤ gs.length ∧ gsE (gs.drop i.toNat) = gsE gs, fun i => gs.length - i.toNat, ⟨by omega, by omega, rfl⟩, fun i ⟨i0, i1, he⟩ => ⟨fun hlt => ?_, fun hge => ?_⟩⟩
  ·obtain ⟨g, y, b, o, hgi, ha, hat, hgr⟩ := hgs.at i0 hlt
   rw [drop_get hgi, gsE, List.map_cons, fnz] at he
   refine ⟨b, o, ha, i0, hlt, y.a, y.l, y.c, hat, s_well_Well _ _ _ _ _ (wwell_is hgr _ ⟨_, _, rfl, fun hne => ?_, fun h0 => ⟨by unfold InI; omega, ⟨by omega, by omega, ?_⟩, by dsimp only; omega⟩⟩)⟩
   ·rw [if_pos hne] at he
    rw [e, ← he, if_pos hne] at h1; exact h1 hne
   ·rw [if_neg h0] at he
    rw [show (i + 1).toNat = i.toNat + 1 by omega]; exact he
  have hgs0 : gsE gs = 0 := by rw [← he, List.drop_of_length_le (by omega)]; rfl
  rw [if_neg (fun h => h hgs0)] at e
  have hgw : ∀ g ∈ gs, (wellP g).2 = 0 := fun g hg => fnz_all hgs0 _ (List.mem_map.2 ⟨g, hg, rfl⟩)
  refine ⟨fun i rn rx => 0 ≤ i ∧ i ≤ ts.length ∧ tsE rs (ts.drop i.toNat) = tsE rs ts ∧ rn = i.toNat ∧ rx = cl bC ((ts.take i.toNat).map (accP rs)), fun i _ _ => ts.length - i.toNat, ⟨by omega, by omega, rfl, rfl, rfl⟩, fun i rn rx ⟨i0, i1, he, hrn, hrx⟩ => ⟨fun hlt => ?_, fun hge => ?_⟩⟩
  ·obtain ⟨t, htt⟩ := core.getI (l := ts) i0 hlt
   obtain ⟨b, o, ha, hat⟩ := ht.at sC_len rfl htt
   rw [drop_get htt, tsE, List.map_cons, fnz] at he
   refine ⟨b, o, ha, i0, hlt, t, hat, s_list_Accepts _ _ _ _ _ _ (laccepts_is hg (fun hne => ⟨_, _, rfl, fun _ => ?_, fun hn => absurd hne hn⟩) fun h0 => ⟨_, _, rfl, fun hne => absurd rfl hne, fun _ => ⟨by omega, by unfold InI; omega, ⟨by omega, by omega, ?_, by omega, ?_⟩, by dsimp only; omega⟩⟩)⟩
   ·rw [if_pos hne] at he
    rw [e, ← he] at h1; exact h1 hne
   ·rw [if_neg (fun h => h h0)] at he
    rw [show (i + 1).toNat = i.toNat + 1 by omega]; exact he
   ·rw [hrx, show (i + 1).toNat = i.toNat + 1 by omega, take_get htt, List.map_append]
    exact cl_snoc _ _
  have hts0 : tsE rs ts = 0 := by rw [← he, List.drop_of_length_le (by omega)]; rfl
  have herr : errE rs gs ts = 0 := by rw [e]; exact hts0
  have htl : ∀ t ∈ ts, lookP rs t = 0 := fun t ht => fnz_all hts0 _ (List.mem_map.2 ⟨t, ht, rfl⟩)
  have hi : i.toNat = ts.length := by omega
  rw [hrn, hrx, hi, List.take_of_length_le (Nat.le_refl _)]
  intro M82 ad80 cap81 hle82 hsl82 M83 b35 hle83 hat35 M84 b11 hle84 hat11
  have hle := hle82.trans (hle83.trans hle84)
  refine ⟨fun i rn rx M' => 0 ≤ i ∧ i ≤ gs.length ∧ rn = i.toNat ∧ rx = cl core.iC ((gs.take i.toNat).map fun g => killI (difP rs g) ts 0) ∧ M84.le M', fun i _ _ => gs.length - i.toNat, ⟨by omega, by omega, rfl, rfl, Mem.le.refl _⟩, fun i rn rx M' ⟨i0, i1, hrn, hrx, hle'⟩ => ⟨fun hlt => ?_, fun hge => ?_⟩⟩
  ·obtain ⟨g, y, b, o, hgi, ha, hat, hgr⟩ := hgs.at i0 hlt
   have hgi0 := hgw g (List.mem_of_getElem? hgi)
   refine ⟨b, o, ha, i0, hlt, y.a, y.l, y.c, hat.le (hle.trans hle'), _, _, _, hat11.le hle', fun M137 b133 hle137 hat133 => ?_⟩
   have hall := hle.trans (hle'.trans hle137)
   refine s_slices_IndexFunc_string _ _ _ _ _ _ (indexf_is (f := difP rs g) (ht.le hall) (fun t htm => f_mutate_Kill_1 _ _ _ _ _ _ ?_) ⟨_, rfl, by omega, by unfold InI; omega, ⟨by omega, by omega, by omega, ?_, hle'.trans hle137⟩, by dsimp only; omega⟩)
   ·unfold S_mutate_Kill_1
    obtain ⟨hlg, h60⟩ := look_len (htl t htm) hgi0
    refine ⟨_, _, _, hat133, s_list_Accepts _ _ _ _ _ _ (laccepts_is (hgr.le hall) (fun h => absurd hlg h) fun _ => ⟨_, _, rfl, _, _, _, hat35.le (hle84.trans (hle'.trans hle137)), _, _, _, hat11.le (hle'.trans hle137), s_slices_Index_string _ _ _ _ _ _ (index_is (ht.le hall) htm fun j hj => ⟨_, rfl, ?_⟩)⟩)⟩
    have hjl := (List.getElem?_eq_some_iff.1 hj).1
    obtain ⟨b2, o2, ha2, hat2⟩ := (hsl82.le (hle83.trans (hle84.trans (hle'.trans hle137)))).at bC_len (by simp) (x := accP rs t) (i := j) (by rw [List.getElem?_map, hj]; rfl)
    exact ⟨b2, o2, ha2, by omega, by omega, _, by rw [Int.toNat_natCast]; exact hat2, rfl⟩
   ·rw [hrx, show (i + 1).toNat = i.toNat + 1 by omega, take_get hgi, List.map_append]
    exact cl_snoc _ _
  ·have hi : i.toNat = gs.length := by omega
   rw [hrn, hrx, hi, List.take_of_length_le (Nat.le_refl _)]
   exact fun M145 ad cap hle2 hsl M3 hle3 => h2 herr M3 ad cap (hle.trans (hle'.trans (hle2.trans hle3))) (hsl.le hle3)
 exact ⟨fun hgt => j1 _ (by symm; exact decide_eq_true (by omega)), fun hle => j1 _ (by rw [decide_eq_decide]; omega)⟩
end
theorem kill_find (f : List UInt8 → Bool) : ∀ (l : List (List UInt8)) (i : Int), 0 ≤ i → (killI f l i = -1 ∧ l.find? f = none) ∨ ∃ (j : Nat) (t : List UInt8), l[j]? = some t ∧ killI f l i = i + j ∧ l.find? f = some t := by
 intro l
 induction l with
 | nil => intro i _; exact .inl ⟨rfl, rfl⟩
 | cons t r ih =>
  intro i h0
  rw [killI, List.find?_cons]
  by_cases h : f t = true
  ·rw [if_pos h, h]
   exact .inr ⟨0, t, rfl, by omega, rfl⟩
  ·rw [if_neg h, Bool.eq_false_iff.2 h]
   rcases ih (i + 1) (by omega) with h1 | ⟨j, u, h1, h2, h3⟩
   ·exact .inl h1
   ·exact .inr ⟨j + 1, u, by simpa using h1, by omega, h3⟩
theorem dif_dif (ra rb : List Ru) : difP ra rb = difL ra rb := by
 funext t
 unfold difP difL
 cases accP ra t <;> cases accP rb t <;> rfl
theorem fnz_zero : ∀ {l : List Int}, (∀ x ∈ l, x = 0) → fnz l = 0
 | [], _ => rfl
 | x :: l, h => by
  rw [fnz, if_neg (fun h' => h' (h x (by simp)))]
  exact fnz_zero fun z hz => h z (by simp [hz])
theorem geo_31 {b n : Nat} (hb : b ≤ 2) (hn : n ≤ 4) : geo b (n + 1) ≤ 31 := by
 rcases show b = 0 ∨ b = 1 ∨ b = 2 by omega with rfl | rfl | rfl <;> rcases show n = 0 ∨ n = 1 ∨ n = 2 ∨ n = 3 ∨ n = 4 by omega with rfl | rfl | rfl | rfl | rfl <;> decide
theorem mutG_len {rs : List Ru} (ok : GramOk rs) : (core.mutG rs).length ≤ 1000000 := by
 have h1 : ∀ l : List (Ru × Nat), (∀ p ∈ l, (core.mutR rs p).length ≤ 1000) → (l.flatMap (core.mutR rs)).length ≤ 1000 * l.length := by
  intro l
  induction l with
  | nil => intro _; simp
  | cons a t ih =>
   intro h
   have := ih fun p hp => h p (by simp [hp])
   have h2 := h a (by simp)
   rw [List.flatMap_cons, List.length_append, List.length_cons]; omega
 have h2 := h1 (rs.zipIdx 0) fun p hp => by
  obtain ⟨i, hi⟩ := List.mem_iff_getElem?.1 hp
  rw [List.getElem?_zipIdx] at hi
  obtain ⟨r, hr, rfl⟩ := Option.map_eq_some_iff.1 hi
  have hm := List.mem_of_getElem? hr
  have hf := (core.few_good (ok.good r hm)).1
  have := core.all_len r.body hf
  have := (flat_max (ok.err r hm)).1
  unfold core.mutR
  rw [List.length_map]
  show (core.allE r.body).length ≤ 1000
  omega
 rw [List.length_zipIdx] at h2
 have := ok.ten
 have h3 : (core.mutG rs).length ≤ ((rs.zipIdx 0).flatMap (core.mutR rs)).length := List.length_filter_le _ _
 omega
theorem mut_ok {rs m : List Ru} (h : m ∈ core.mutG rs) : (wellP m).2 = 0 := by
 have := (List.mem_filter.1 h).2
 unfold core.okF at this
 simpa using this
section
variable {M : Mem}
theorem wordsM_is {a : List UInt8} (h8 : a.length ≤ 8) {k : Nat} (h6 : k ≤ 6) (K : Value → Mem → Prop) (hK : ∀ (M' : Mem) (A : Option Addr) (cap : Nat), M.le M' → SlV M' A (wordsN a k).length cap 1 (strV (wordsN a k)) → K (.slice A (wordsN a k).length cap) M') : S_chaffref_Words a k M K := by
 unfold S_chaffref_Words
 refine ⟨fun x rl ll ro oo => 0 ≤ x ∧ x ≤ k ∧ rl = (lev a x.toNat).length ∧ ll = strV (lev a x.toNat) ∧ ro = (wordsN a x.toNat).length ∧ oo = strV (wordsN a x.toNat), fun x _ _ _ _ => k - x.toNat, ⟨by omega, by omega, rfl, rfl, rfl, rfl⟩, fun x rl ll ro oo ⟨x0, xk, hrl, hll, hro, hoo⟩ => ⟨fun hlt => ?_, fun hge M2 A cap hle hsl M3 hle3 => ?_⟩⟩
 ·have hpl : (lev a x.toNat).length ≤ 2097152 := by rw [lev_len]; exact pow8 h8 (by omega)
  have hpl1 : (lev a x.toNat).length * a.length ≤ 2097152 := by rw [lev_len, ← Nat.pow_succ]; exact pow8 h8 (by omega)
  have hwl : (wordsN a x.toNat).length ≤ 14680064 := by
   rw [words_len]
   have := geo8 h8 (x.toNat + 1) (by omega)
   have : (x.toNat + 1) * 2097152 ≤ 7 * 2097152 := Nat.mul_le_mul_right _ (by omega)
   omega
  subst hrl hll hro hoo
  have e1 : (x + 1).toNat = x.toNat + 1 := by omega
  refine ⟨fun j rn rx => 0 ≤ j ∧ j ≤ (lev a x.toNat).length ∧ rn = (grow1 a ((lev a x.toNat).take j.toNat)).length ∧ rx = strV (grow1 a ((lev a x.toNat).take j.toNat)), fun j _ _ => (lev a x.toNat).length - j.toNat, ⟨by omega, by omega, rfl, rfl⟩, fun j rn rx ⟨j0, jl, hrn, hrx⟩ => ⟨fun hjl => ?_, fun hjg => ?_⟩⟩
  ·obtain ⟨s, hs⟩ := core.getI (l := lev a x.toNat) j0 hjl
   refine ⟨j0, hjl, s, str_Cs hs, fun i rn rx => 0 ≤ i ∧ i ≤ a.length ∧ rn = (grow1 a ((lev a x.toNat).take j.toNat) ++ (a.take i.toNat).map fun c => s ++ [c]).length ∧ rx = strV (grow1 a ((lev a x.toNat).take j.toNat) ++ (a.take i.toNat).map fun c => s ++ [c]), fun i _ _ => a.length - i.toNat, ⟨by omega, by omega, ?_, ?_⟩, fun i rn2 rx2 ⟨i0, il, hrn2, hrx2⟩ => ⟨fun hil => ?_, fun hig => ?_⟩⟩
   ·rw [hrn]; simp
   ·rw [hrx]; simp
   ·have hi : i.toNat < a.length := by omega
    have e2 : (i + 1).toNat = i.toNat + 1 := by omega
    have hsl : s.length ≤ 6 := by rw [lev_size _ s (List.mem_of_getElem? hs)]; omega
    have hgl := grow1_le a (lev a x.toNat) j.toNat
    have hrl2 : rn2 ≤ 2097152 + 8 := by
     rw [hrn2, List.length_append, List.length_map, List.length_take]; omega
    rw [e2, slice1 hi]
    refine ⟨inI_big (by omega) (by omega), i0, by omega, by omega, by simp; omega, by omega, inI_big (by omega) (by omega), ⟨by omega, by omega, ?_, ?_⟩, by show a.length - (i + 1).toNat < a.length - i.toNat; omega⟩
    ·rw [hrn2, e2, List.take_add_one, at8_get hi]; simp; omega
    ·rw [hrx2, strV_snoc, e2, List.take_add_one, at8_get hi]; simp
   ·have e3 : i.toNat = a.length := by omega
    have e2 : (j + 1).toNat = j.toNat + 1 := by omega
    rw [e3, List.take_length, ← grow1_take hs, ← e2] at hrn2 hrx2
    exact ⟨inI_big (by omega) (by omega), ⟨by omega, by omega, hrn2, hrx2⟩, by show (lev a x.toNat).length - (j + 1).toNat < (lev a x.toNat).length - j.toNat; omega⟩
  ·have e2 : j.toNat = (lev a x.toNat).length := by omega
   rw [e2, List.take_length] at hrn hrx
   subst hrn hrx
   have hgl := grow1_len a (lev a x.toNat)
   refine ⟨strV_one _, by omega, inI_big (by omega) (by omega), ⟨by omega, by omega, ?_, ?_, ?_, ?_⟩, by show k - (x + 1).toNat < k - x.toNat; omega⟩
   ·rw [e1]; rfl
   ·rw [e1]; rfl
   ·rw [e1, wordsN, List.length_append]; rfl
   ·rw [e1, wordsN, strV_app]; rfl
 ·have e : x.toNat = k := by omega
  rw [e] at hro hoo
  subst hro hoo
  exact hK M3 A cap (hle.trans hle3) (hsl.le hle3)
end
theorem walk : WalkGoal := by
 intro H enc W x n B hx a ha n0 hn0 k0 hk0
 obtain ⟨rs, hg⟩ := gr_of (A := x.a) (l := x.l) (c := x.c) hx
 refine s_chafftop_TopMutants _ _ _ _ _ _ _ _ ?_
 unfold S_chafftop_TopMutants
 generalize HM W = M at *
 refine ⟨Int.le_refl _, by split <;> omega, by split <;> omega, s_chaffkeep_Within _ _ _ _ (within_is _ _ (by omega) (by omega) _ fun n n0 n5 => ⟨_, rfl, ?_⟩)⟩
 have ha2 : ((a.take (if 2 < ((a.length : Nat) : Int) then 2 else ((a.length : Nat) : Int)).toNat).drop (0 : Int).toNat).length ≤ 2 := by
  rw [List.length_drop, List.length_take]; split <;> omega
 have no : ∀ (A : Option Addr) (l : Nat) (e : Int) (M1 : Mem), (e = 0 ∨ l = 0) → S_chafftop_TopMutants_J1 x.a x.l x.c a k0 n A l e M1 true (fun v => v = .bool true) := by
  intro A l e M1 he
  unfold S_chafftop_TopMutants_J1
  exact ⟨fun _ => s_chafftop_begun _ _ (begun_is _ ⟨_, rfl, fun _ => ⟨fun _ => rfl, fun h => by
   rcases he with he | he
   ·exact absurd he h
   ·subst he; rfl⟩, fun h => absurd rfl h⟩), fun h => absurd rfl h⟩
 refine s_mutate_Mutants _ _ _ _ _ (core.mutants_is hg (fun h M1 hle => ⟨_, _, _, _, rfl, s_chafftop_begun _ _ (begun_is _ ⟨_, rfl, fun h => absurd rfl h, fun _ => ⟨fun _ => no _ _ _ _ (.inr rfl), fun h' => absurd h h'⟩⟩)⟩) (fun h => (core.well_ok h).ok) fun h M1 A m c rx hle hsl hG => ⟨_, _, _, _, rfl, s_chafftop_begun _ _ (begun_is _ ⟨_, rfl, fun h => absurd rfl h, fun _ => ⟨fun h' => absurd rfl h', fun _ => ?_⟩⟩)⟩)
 have hm1 := hsl.max
 generalize hae : ((a.take (if 2 < ((a.length : Nat) : Int) then 2 else ((a.length : Nat) : Int)).toNat).drop (0 : Int).toNat) = b at *
 refine s_chafftop_right _ _ _ _ _ _ _ (tright_is (hg.le hle) b n _ ⟨_, rfl, fun _ => no _ _ _ _ (.inl rfl), fun hr => ?_⟩)
 have hP : listP rs b n = 0 := by simpa using hr
 by_cases hm0 : m = 0
 ·subst hm0; exact no _ _ _ _ (.inl rfl)
 rw [show (((m : Nat) : Int) == (0 : Int)) = false by simpa using hm0]
 unfold S_chafftop_TopMutants_J1
 refine ⟨fun h => absurd h (by decide), fun _ => ?_⟩
 obtain ⟨ys, rfl, rfl, hall⟩ := hG
 have hyl := hall.length
 have hml : (core.mutG rs).length ≤ 1000000 := mutG_len (core.well_ok h).ok
 refine s_chaffkeep_Within _ _ _ _ (within_is _ _ (by omega) (by omega) _ fun k k1 k2 => ⟨_, rfl, ?_⟩)
 obtain ⟨g, hgk⟩ := core.getI (l := core.mutG rs) k1 (by omega)
 obtain ⟨y, hy, hyr⟩ := hall.get hgk
 obtain ⟨b1, o1, hb1, hat1⟩ := hsl.at core.slC1 rfl hy
 have hgw := mut_ok (List.mem_of_getElem? hgk)
 rw [hae]
 have hn : n = ((n.toNat : Nat) : Int) := by omega
 refine ⟨b1, o1, hb1, k1, k2, y.a, y.l, y.c, hat1, ?_⟩
 obtain ⟨hw, hal, _, _, _⟩ := listP_ok hP
 have hQ : listP g b n = 0 := by
  unfold listP at hP ⊢
  rw [if_neg (fun h' => h' h)] at hP
  rw [if_neg (fun h' => h' hgw)]
  exact hP
 have hL : leastE rs g b n = 0 := by unfold leastE; rw [if_neg (fun h => h hP)]; exact hQ
 have hwl : (wordsN b n.toNat).length ≤ 31 := by
  rw [words_len]
  have h1 : n.toNat ≤ 4 := by omega
  exact geo_31 ha2 h1
 rw [hn]
 refine s_chaffref_Words _ _ _ _ (wordsM_is (by omega) (by omega) _ fun M2 A2 cap2 hle2 hsl2 => ⟨_, _, _, rfl, ?_⟩)
 replace hsl2 : SlV M2 A2 (wordsN b n.toNat).length cap2 1 (cl Gx.sC (wordsN b n.toNat)) := by rw [strV_cl] at hsl2; exact hsl2
 rw [← hn]
 have hif : (if 40 < (((wordsN b n.toNat).length : Nat) : Int) then 40 else (((wordsN b n.toNat).length : Nat) : Int)) = (((wordsN b n.toNat).length : Nat) : Int) := if_neg (by omega)
 have hcap := hsl2.2.1
 rw [hif, Int.toNat_natCast]
 refine ⟨by omega, by omega, fun M3 ad3 cap3 hle3 hsl3 => ?_⟩
 have hgs : GsR M3 [g] [y] ad3 1 cap3 := ⟨by simpa [cl] using hsl3, rfl, rfl, fun i g' y' hg' hy' => by
  cases i with
  | zero => simp at hg' hy'; subst hg' hy'; exact (hyr.le hle2).le hle3
  | succ i => simp at hg'⟩
 have hE : errE rs [g] (wordsN b n.toNat) = 0 := by
  unfold errE
  rw [if_neg (fun h' => h' h), if_neg (by simp; omega)]
  have e1 : gsE [g] = 0 := by unfold gsE; simp [fnz, hgw]
  rw [if_neg (fun h' => h' e1)]
  unfold tsE
  refine fnz_zero fun z hz => ?_
  obtain ⟨t, ht, rfl⟩ := List.mem_map.1 hz
  have hl := (words_mem (over_ok (over_of hal (by simp) (by simp) : overP b [] = 0)).2.2.1 ht).1
  unfold lookP
  rw [if_neg (fun h' => h' h), if_neg (by omega)]
 have hleg := hle.trans (hle2.trans hle3)
 refine s_mutate_Kill _ _ _ _ _ _ _ _ _ _ _ (kill_is (ts := wordsN b n.toNat) (hg.le hleg) hgs (hsl2.le hle3) (fun h => absurd hE h) fun _ M4 ad4 cap4 hle4 hsl4 => ⟨_, _, _, _, rfl, ?_⟩)
 refine lleast_is (hg.le (hleg.trans hle4)) (hyr.le (hle2.trans (hle3.trans hle4))) b _ _ (fun h => absurd hL h) fun _ => ⟨_, _, _, rfl, fun h => absurd rfl h, fun _ => ⟨fun h => absurd rfl h, fun _ => ?_⟩⟩
 obtain ⟨b4, o4, hb4, hat4⟩ := hsl4.at (i := 0) (x := killI (difP rs g) (wordsN b n.toNat) 0) core.iC_len (by simp) rfl
 unfold leastO
 rcases kill_find (difP rs g) (wordsN b n.toNat) 0 (by omega) with ⟨h1, h2⟩ | ⟨j, t, h1, h2, h3⟩
 ·rw [dif_dif] at h2
  rw [h2]
  rw [h1] at hat4
  refine ⟨fun _ => ?_, fun h => absurd (show (12 : Int) ≠ 0 by decide) h⟩
  unfold S_chafftop_TopMutants_J2
  refine ⟨fun h => absurd h (by simp), fun _ => ⟨b4, o4, hb4, by omega, by simp, _, hat4, fun _ => ⟨fun _ => rfl, fun h => absurd rfl h⟩, fun h => absurd (by omega) h⟩⟩
 ·rw [dif_dif] at h3
  rw [h3]
  rw [h2] at hat4
  have hj := (List.getElem?_eq_some_iff.1 h1).1
  obtain ⟨b5, o5, hb5, hat5⟩ := ((hsl2.le hle3).le hle4).at (i := j) sC_len rfl h1
  refine ⟨fun h => absurd rfl h, fun _ => ?_⟩
  unfold S_chafftop_TopMutants_J2
  have hat4' : At M4 b4 (o4 + (0 : Int).toNat * 1) [Value.int .i64 (0 + (j : Int))] := hat4
  refine ⟨fun h => absurd h (by decide), fun _ => ⟨b4, o4, hb4, by omega, by simp, _, hat4', fun h => absurd h (by omega), fun _ => ⟨fun _ => ⟨b4, o4, hb4, by omega, by simp, _, hat4', fun _ => ⟨b4, o4, hb4, by omega, by simp, _, hat4', b5, o5, hb5, by omega, by rw [hif]; omega, t, ?_, ?_⟩, fun h => absurd (by rw [hif]; omega) h⟩, fun h => absurd rfl h⟩⟩⟩
  ·rw [show (0 + (j : Int)).toNat = j by omega]; exact hat5
  ·simp
theorem holds : Rows.TopMutantsSaid := top walk
#print axioms holds
end Go.Proofs.Ytmnilbfhfjdelaa.lawTopMutants
