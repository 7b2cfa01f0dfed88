/- For every input PackFars answers true and leaves its arguments as they were. No condition. -/
import Derived.Test.YtifkffmecfgpeaaM3
import Derived.Test.YtifkffmecfgpeaaPackFarsT
import Derived.Test.YtifkffmecfgpeaaM5
namespace Go.Proofs.Ytifkffmecfgpeaa.lawPackFars
open Go.Gx Go.RowKit Go.ChangeShapes Go.WideShapes Go.ChangeAt
open core
set_option linter.unusedVariables false
theorem ex_of {H : Type} {enc : TypeId × Value → H} {w : World} : ∀ (n B : Nat) (x : X_api_Expr), In_api_Expr enc w n B x → ∃ e, ExR (HM w) e x := by
 intro n
 induction n using Nat.strongRecOn with
 | _ n ih =>
  intro B x hx
  obtain ⟨b6, h1, h2, h3, h4, h5, h6, h7, _⟩ := hx
  obtain ⟨xs, bs, hsl, hl, hm, hall, _⟩ := open_L_Expr h7
  obtain ⟨es, hes⟩ := All2.choose (R := ExR (HM w)) xs fun y hy => by
   obtain ⟨b, k, hk, hin⟩ := hall.left y hy
   exact ih k hk b y hin
  have hle := hes.length
  obtain ⟨k, s, t, A, l, c⟩ := x
  have : l = es.length := by rw [← hle]; exact hl.symm
  subst this
  exact ⟨.mk k s t es, .mk h1 ⟨h2, h3, h4, h5⟩ h6 hsl hle fun i e x he hx => hes.get' he hx⟩
theorem gr_of {H : Type} {enc : TypeId × Value → H} {w : World} {n B : Nat} {A : Option Addr} {l c : Nat} (h : In_L_Rule enc w n B ⟨A, l, c⟩) : ∃ rs, GrR (HM w) rs A l c := by
 obtain ⟨xs, bs, hsl, hl, hm, hall, _⟩ := open_L_Rule h
 obtain ⟨rs, hrs⟩ := All2.choose (R := RuR (HM w)) xs fun y hy => by
  obtain ⟨b, k, hk, hin⟩ := hall.left y hy
  obtain ⟨b7, h1, h2, h3, h4, h5, h6, h7, h8, _⟩ := hin
  obtain ⟨e, he⟩ := ex_of k _ y.Body ⟨b7, h2, h3, h4, h5, h6, h7, h8, Nat.le_refl _⟩
  exact ⟨⟨y.Name, e⟩, rfl, h1, he⟩
 have := hrs.length
 simp only at hl
 exact ⟨rs, xs, hsl, hrs, by omega⟩
theorem fw_f {P : Program} {fv : Value} {args : List Value} {M : Mem} {K : Value → Mem → Prop} (h : CallFW P fv args M (fun _ => False) K) : CallF P fv args M K := by
 obtain ⟨f, fn, first, caps, h1, h2, h3, h4, h5⟩ := h
 exact ⟨f, fn, first, caps, h1, h2, h3, h4, h5.toE⟩
theorem FW.alike {rs : List Ru} {s : List UInt8} {E : Nat → Nat → Int} {u t : List Evt} {far far' : Int} {want want' : X_api_Set} (h : FW rs s E u far want) (h' : FW rs s E t far' want') (ha : core.Alike E u t) : far = far' ∧ want = want' := by
 have hm : ∀ x, (∃ m, missOf rs s E x = some m) → (x ∈ u ↔ x ∈ t) := fun x hx => by
  cases x with
  | node n p e => exact ha.2 n p e
  | done i p => obtain ⟨m, hx⟩ := hx; cases hx
 have hf : far = far' := by
  have h1 : far ≤ far' := by
   rcases h.ex with h1 | ⟨x, hx, m, hm1, h2⟩
   ·have := h'.lo; omega
   ·have := h'.ge x ((hm x ⟨m, hm1⟩).1 hx) m hm1; omega
  have h2 : far' ≤ far := by
   rcases h'.ex with h1 | ⟨x, hx, m, hm1, h2⟩
   ·have := h.lo; omega
   ·have := h.ge x ((hm x ⟨m, hm1⟩).2 hx) m hm1; omega
  omega
 subst hf
 refine ⟨rfl, set_ext h.wf h'.wf fun b hb => ?_⟩
 rw [Bool.eq_iff_iff, h.bits b hb, h'.bits b hb]
 exact ⟨fun ⟨x, hx, m, h1, h2⟩ => ⟨x, (hm x ⟨m, h1⟩).1 hx, m, h1, h2⟩, fun ⟨x, hx, m, h1, h2⟩ => ⟨x, (hm x ⟨m, h1⟩).2 hx, m, h1, h2⟩⟩
theorem far3_is {fb wb : Nat} (hne : fb ≠ wb) {M0 M63 : Mem} {L : Nat → Prop} {K : Value → Mem → Prop} (hLf : L fb) (hLw : L wb) {far p : Int} {want w : X_api_Set} (hf : M63 fb = some (.cells [Value.int .i64 far].toArray 3 (0, 0))) (hw : M63 wb = some (.cells want.cells.toArray 48 (0, 0))) (hwf : wfS want) (hww : wfS w)
  (hK : ∀ M' far' want', M' fb = some (.cells [Value.int .i64 far'].toArray 3 (0, 0)) → M' wb = some (.cells want'.cells.toArray 48 (0, 0)) → Missed far want p (bitS w) far' want' → K (.tuple #[]) M') : S_chaffref_Table_Far_1_J3 fb wb M0 L p w.w0 w.w1 w.w2 w.w3 M63 K := by
 have j4 : ∀ (M67 : Mem) (far1 : Int) (want1 : X_api_Set), M67 fb = some (.cells [Value.int .i64 far1].toArray 3 (0, 0)) → M67 wb = some (.cells want1.cells.toArray 48 (0, 0)) → wfS want1 → (far1 = if far < p then p else far) → (∀ b, b < 256 → bitS want1 b = if far < p then false else bitS want b) → S_chaffref_Table_Far_1_J4 fb wb M0 L p w.w0 w.w1 w.w2 w.w3 M67 K := by
  intro M67 far1 want1 h1 h2 h3 hf1 hb1
  unfold S_chaffref_Table_Far_1_J4
  refine ⟨far1, At.blk h1, fun he => ⟨want1, At.blk h2, fun b70 M71 hb70 hM71 b13 M72 hb13 hM72 => ?_⟩, fun hn M3 hle => ?_⟩
  ·have hle71 : M67.le M71 := by rw [hM71]; exact Mem.add_le hb70
   have hle72 : M71.le M72 := by rw [hM72]; exact Mem.add_le hb13
   have e70 : M72 b70 = some (.cells want1.cells.toArray 48 (0, 0)) := hle72 _ _ (by rw [hM71]; exact Mem.add_eq)
   have e13 : M72 b13 = some (.cells w.cells.toArray 48 (0, 0)) := by rw [hM72]; exact Mem.add_eq
   have ef := hle72 _ _ (hle71 _ _ h1)
   have ew := hle72 _ _ (hle71 _ _ h2)
   refine s_chaffref_Where _ _ _ (where_is _ _ (fun b => bitS want1 b || bitS w b) (fun x hx => fw_f (f_chaffref_Table_Far_1_2 _ _ _ _ _ _ ?_)) _ ⟨_, rfl, Has.blk ew (by show 0 + 4 ≤ 4; omega), .inl hLw, fun M74 hM74 M3 hle => ?_⟩)
   ·unfold S_chaffref_Table_Far_1_2
    refine ⟨want1, At.blk e70, s_chaffref_Has _ _ _ _ (rhas_is h3 hx _ ⟨_, rfl, fun hy M' _ => by rw [hy]; rfl, fun hn => ⟨w, At.blk e13, s_chaffref_Has _ _ _ _ (rhas_is hww hx _ ⟨_, rfl, fun M' _ => ?_⟩)⟩⟩)⟩
    rw [Bool.eq_false_iff.2 hn]; rfl
   ·refine hK M3 far1 (Us fun b => bitS want1 b || bitS w b) (hle _ _ ?_) (hle _ _ ?_) ⟨Us_wf _, hf1, fun b hb => ?_⟩
    ·rw [hM74, Mem.put_ne hne]; exact ef
    ·rw [hM74, Mem.put_eq ew]; rfl
    ·rw [bit_Us hb, hb1 b hb]
     by_cases hlt : far < p
     ·rw [if_pos hlt, if_pos hlt]; simp
     ·rw [if_neg hlt] at hf1
      rw [if_neg hlt, if_neg hlt, if_pos (by omega)]
  ·refine hK M3 far1 want1 (hle _ _ h1) (hle _ _ h2) ⟨h3, hf1, fun b hb => ?_⟩
   by_cases hlt : far < p
   ·rw [if_pos hlt] at hf1; exact absurd hf1.symm hn
   ·rw [if_neg hlt] at hf1
    rw [hb1 b hb, if_neg hlt, if_neg hlt, if_neg (by omega)]
 unfold S_chaffref_Table_Far_1_J3
 refine ⟨far, At.blk hf, fun hgt => ⟨Has.blk hf (by show 0 + 1 ≤ 1; omega), .inl hLf, fun M65 hM65 => ?_⟩, fun hle => j4 M63 far want hf hw hwf (by rw [if_neg (by omega)]) fun b _ => by rw [if_neg (by omega)]⟩
 have h65w : M65 wb = some (.cells want.cells.toArray 48 (0, 0)) := by rw [hM65, Mem.put_ne hne.symm]; exact hw
 refine ⟨Has.blk h65w (by show 0 + 4 ≤ 4; omega), .inl hLw, fun M66 hM66 => j4 M66 p (X_api_Set.mk 0 0 0 0) ?_ ?_ (by unfold wfS; decide) (by rw [if_pos (by omega)]) fun b hb => by rw [if_pos (by omega), bit_zero b hb]⟩
 ·rw [hM66, Mem.put_ne hne, hM65, Mem.put_eq hf]; rfl
 ·rw [hM66, Mem.put_eq h65w]; rfl
section
variable {rs : List Ru} {s : List UInt8} {E : Nat → Nat → Int}
def jF (rs : List Ru) (s : List UInt8) (E : Nat → Nat → Int) (fb wb : Nat) (u : List Evt) (M : Mem) : Prop := ∃ far want, M fb = some (.cells [Value.int .i64 far].toArray 3 (0, 0)) ∧ M wb = some (.cells (X_api_Set.cells want).toArray 48 (0, 0)) ∧ FW rs s E u far want
theorem far1_is (hT : Tab rs s E) (hs60 : s.length ≤ 60) (h10 : rs.length ≤ 10) {tbx fb wb tb : Nat} (hne : fb ≠ wb) {ga ea : Option Addr} {gl gc ec eb : Nat} {M : Mem} {L : Nat → Prop} {K : Value → Mem → Prop} (hLf : L fb) (hLw : L wb) (hM : TabR M rs s E 0 tb ga ea gl gc ec eb) (hbx : At M tbx 0 [.pointer (some ⟨tb, 0, none⟩)]) {e : Ex} {x : X_api_Expr} {n p : Int} (hok : PegOk rs e) (hp : 0 ≤ p) (hl : p ≤ s.length) (hR : ExR M e x) {u : List Evt} (hJ : jF rs s E fb wb u M)
  (hK : ∀ M', jF rs s E fb wb (u ++ [.node n p e]) M' → K (.tuple #[]) M') : S_chaffref_Table_Far_1 n p x tbx fb wb M L K := by
 obtain ⟨far, want, hf, hw, hF⟩ := id hJ
 obtain ⟨xs, hx⟩ := hR.open
 obtain ⟨g1, g2, g3, g4, g5, g6, _⟩ := fitE_kinds hok.good.fit
 have skip : missOf rs s E (.node n p e) = none → ∀ M', M.le M' → K (.tuple #[]) M' := fun h M' hle => hK M' ⟨far, want, hle _ _ hf, hle _ _ hw, hF.skip h⟩
 have hend : ∀ {K : Value → Prop}, K (.int .i64 (endE rs s E e p)) → CallE Try.prog 53 #[Value.pointer (some ⟨tb, 0, none⟩), x.val, .int .i64 p] M (fun v _ => K v) := fun h => s_chaffref_Table_End _ _ _ _ _ (end_is hs60 h10 hT.ok _ e (Nat.lt_succ_self _) hok hR hM hp hp hl h)
 unfold S_chaffref_Table_Far_1
 rw [hx.kind]
 have j1 : ∀ v : Bool, (v = true → missOf rs s E (.node n p e) = none) → (v = false → (e.kind = 2 ∨ e.kind = 3) ∧ endE rs s E e p < 0) → S_chaffref_Table_Far_1_J1 p x tbx fb wb M L v K := by
  intro v hv1 hv2
  unfold S_chaffref_Table_Far_1_J1
  rw [hx.kind]
  refine ⟨fun ht M' hle => skip (hv1 ht) M' hle, fun hf' => ?_⟩
  obtain ⟨hk, hneg⟩ := hv2 (by simpa using hf')
  refine ⟨fun k3 => ?_, fun n3 => ?_⟩
  ·rw [hx.text]
   have hres : endE rs s E e p = litE e.text s p := by rw [endE_eq, if_neg (by omega), if_neg (by omega), if_pos k3]
   obtain ⟨cl1, cl2⟩ := cpl_le (s.drop p.toNat) e.text
   have hlt : cpl (s.drop p.toNat) e.text < e.text.length := by
    rcases Nat.lt_or_ge (cpl (s.drop p.toNat) e.text) e.text.length with h | h
    ·exact h
    ·exfalso
     have hh := cpl_all _ _ (Nat.le_antisymm cl2 h)
     rw [List.length_drop] at hh
     rw [hres] at hneg
     unfold litE at hneg
     rw [if_pos ⟨by omega, by rw [List.drop_take, show (p + ((e.text.length : Nat) : Int)).toNat - p.toNat = e.text.length by omega]; exact hh.2⟩] at hneg
     omega
   have hme : missOf rs s E (.node n p e) = some (p + (cpl (s.drop p.toNat) e.text : Nat), fun b => decide ((e.text[cpl (s.drop p.toNat) e.text]?).map UInt8.toNat = some b)) := by
    rw [missOf, if_pos hneg, if_neg (by omega), if_pos k3]
   have hsame := cpl_same (s.drop p.toNat) e.text
   have hend' := cpl_end (s.drop p.toNat) e.text
   rw [List.length_drop] at cl1
   generalize hC : cpl (s.drop p.toNat) e.text = C at hlt hme hsame hend' cl1 cl2
   have h12 := g6 k3
   have j2 : ∀ (q k : Int) (v : Bool), q = p + k → 0 ≤ k → k ≤ C → (v = true → k + 1 ≤ C) → (v = false → k = C) → S_chaffref_Table_Far_1_J2 x fb wb M L q k (fun q k => 0 ≤ k ∧ k ≤ C ∧ q = p + k) (fun _ k => C - k.toNat) v K := by
    intro q k v hq k0 k1 hv1 hv2
    subst hq
    unfold S_chaffref_Table_Far_1_J2
    refine ⟨fun ht => ⟨inI_small (by omega) (by omega), inI_small (by omega) (by omega), ⟨by omega, by have := hv1 ht; omega, by omega⟩, by have := hv1 ht; show C - (k + 1).toNat < C - k.toNat; omega⟩, fun hf'' b7 M55 hb7 hM55 b14 M56 hb14 hM56 => ?_⟩
    have hkC := hv2 (by simpa using hf'')
    subst hkC
    have hle55 : M.le M55 := by rw [hM55]; exact Mem.add_le hb7
    have hle56 : M55.le M56 := by rw [hM56]; exact Mem.add_le hb14
    have e7 : M56 b7 = some (.cells x.cells.toArray 109 (0, 0)) := hle56 _ _ (by rw [hM55]; exact Mem.add_eq)
    have e14 : M56 b14 = some (.cells [Value.int .i64 (C : Int)].toArray 3 (0, 0)) := by rw [hM56]; exact Mem.add_eq
    obtain ⟨d, hd⟩ := getN (l := e.text) hlt
    refine s_chaffref_Where _ _ _ (where_is _ _ (fun b => decide ((b : Int) = d.toNat)) (fun y hy => fw_f (f_chaffref_Table_Far_1_1 _ _ _ _ _ _ ?_)) _ ⟨_, rfl, far3_is hne hLf hLw (hle56 _ _ (hle55 _ _ hf)) (hle56 _ _ (hle55 _ _ hw)) hF.wf (Us_wf _) fun M' far' want' h1 h2 h3 => hK M' ⟨far', want', h1, h2, hF.miss (by omega) hme (h3.as fun b hb => ?_)⟩⟩)
    ·unfold S_chaffref_Table_Far_1_1
     refine ⟨e.text, (At.blk e7).part 5 [.string (mkS e.text)] (by show [Value.string (mkS x.Text)] = _; rw [hx.text]), (C : Int), At.blk e14, d, by omega, by rw [Int.toNat_natCast]; exact hd, fun M' _ => ?_⟩
     rw [u8wF]; rfl
    ·rw [bit_Us hb, hd, Option.map_some, decide_eq_decide]
     simp only [Option.some.injEq]
     omega
   refine ⟨fun q k => 0 ≤ k ∧ k ≤ C ∧ q = p + k, fun _ k => C - k.toNat, ⟨by omega, by omega, by omega⟩, fun q k ⟨k0, k1, hq⟩ => ⟨_, hbx, tb, 0, rfl, s, hM.tx, fun hlt2 => ?_, fun hge2 => ?_⟩⟩
   ·obtain ⟨a1, ha1⟩ := core.getI (l := s) (i := q) (by omega) hlt2
    obtain ⟨a2, ha2⟩ := core.getI (l := e.text) (i := k) k0 (by omega)
    have hdr : (s.drop p.toNat)[k.toNat]? = some a1 := by rw [List.getElem?_drop, ← ha1]; congr 1; omega
    refine ⟨_, hbx, tb, 0, rfl, s, hM.tx, a1, by omega, ha1, a2, k0, ha2, j2 q k _ hq k0 k1 (fun hv => ?_) fun hv => ?_⟩
    ·have hEq : a1 = a2 := by
      have := beq_iff_eq.1 hv
      exact UInt8.toNat_inj.1 (by omega)
     by_cases h : k < C
     ·omega
     ·exfalso
      have hkC : k.toNat = C := by omega
      rw [hkC] at hdr ha2
      exact hend' a1 hdr (by rw [ha2, hEq])
    ·by_cases h : k < C
     ·exfalso
      have := hsame k.toNat (by omega)
      rw [hdr, ha2] at this
      have : a1 = a2 := Option.some.inj this
      rw [this] at hv
      simp at hv
     ·omega
   ·exact j2 q k false hq k0 k1 (fun h => by cases h) fun _ => by omega
  ·have k2 : e.kind = 2 := by omega
   rw [hx.set]
   exact far3_is hne hLf hLw hf hw hF.wf hx.hs fun M' far' want' h1 h2 h3 => hK M' ⟨far', want', h1, h2, hF.miss hp (by rw [missOf, if_pos hneg, if_pos k2]) h3⟩
 have hdec : ∀ (h23 : e.kind = 2 ∨ e.kind = 3), S_chaffref_Table_Far_1_J1 p x tbx fb wb M L (decide (endE rs s E e p ≥ 0)) K := fun h23 => j1 _ (fun h => by
  rw [missOf, if_neg (by have := of_decide_eq_true h; omega)]) fun h => ⟨h23, by have := of_decide_eq_false h; omega⟩
 refine ⟨fun n2 => ⟨fun n3 => j1 true (fun _ => ?_) (fun h => by cases h), fun k3 => ⟨_, hbx, hend ⟨_, rfl, hdec (by omega)⟩⟩⟩, fun k2 => ⟨_, hbx, hend ⟨_, rfl, hdec (by omega)⟩⟩⟩
 rw [missOf, if_neg n2, if_neg n3]; split <;> rfl
theorem rfar_is (hw : WellOk rs) (hT : Tab rs s E) (hs60 : s.length ≤ 60) {tb : Nat} {ga ea : Option Addr} {gl gc ec eb : Nat} {M : Mem} {K : Value → Mem → Prop} (hM : TabR M rs s E 0 tb ga ea gl gc ec eb) {t : List Evt} (hg : Goes rs s E (.rule 0 0) [] t)
  (hK : ∀ M' u far want, core.Alike E u t → FW rs s E u far want → K (.tuple #[.int .i64 far, want.val]) M') : S_chaffref_Table_Far (some ⟨tb, 0, none⟩) M (fun _ => False) K := by
 have h10 := hw.ok.ten
 unfold S_chaffref_Table_Far
 intro M7 hM7 M8 hM8 b6 b2 b4 b5 M9 hb6 hM9 M10 hb2 hM10 M11 hb4 hM11 M12 hb5 hM12
 have e8 : M8 = M := by
  obtain ⟨_, _, _, ⟨_, _, _, h⟩ | ⟨_, _, h, _⟩⟩ := hM7
  ·obtain ⟨_, _, _, ⟨_, _, _, h'⟩ | ⟨_, _, h', _⟩⟩ := hM8
   ·rw [h', h]
   ·cases h'
  ·cases h
 subst e8
 have n26 : b2 ≠ b6 := by rintro rfl; rw [hM9, Mem.add_eq] at hb2; cases hb2
 have n42 : b4 ≠ b2 := by rintro rfl; rw [hM10, Mem.add_eq] at hb4; cases hb4
 have n46 : b4 ≠ b6 := by rintro rfl; rw [hM10, Mem.add_ne n26.symm, hM9, Mem.add_eq] at hb4; cases hb4
 have n54 : b5 ≠ b4 := by rintro rfl; rw [hM11, Mem.add_eq] at hb5; cases hb5
 have n52 : b5 ≠ b2 := by rintro rfl; rw [hM11, Mem.add_ne n42.symm, hM10, Mem.add_eq] at hb5; cases hb5
 have n56 : b5 ≠ b6 := by rintro rfl; rw [hM11, Mem.add_ne n46.symm, hM10, Mem.add_ne n26.symm, hM9, Mem.add_eq] at hb5; cases hb5
 have f2 : M8 b2 = none := by rw [hM9, Mem.add_ne n26] at hb2; exact hb2
 have f4 : M8 b4 = none := by rw [hM10, Mem.add_ne n42, hM9, Mem.add_ne n46] at hb4; exact hb4
 have f5 : M8 b5 = none := by rw [hM11, Mem.add_ne n54, hM10, Mem.add_ne n52, hM9, Mem.add_ne n56] at hb5; exact hb5
 have hle : M8.le M12 := by
  have a1 : M8.le M9 := by rw [hM9]; exact Mem.add_le hb6
  have a2 : M9.le M10 := by rw [hM10]; exact Mem.add_le hb2
  have a3 : M10.le M11 := by rw [hM11]; exact Mem.add_le hb4
  have a4 : M11.le M12 := by rw [hM12]; exact Mem.add_le hb5
  exact ((a1.trans a2).trans a3).trans a4
 have g6 : M12 b6 = some (.cells [Value.pointer (some ⟨tb, 0, none⟩), Value.func (.func 72) #[] #[.pointer (some ⟨b2, 0, none⟩), .pointer (some ⟨b4, 0, none⟩), .pointer (some ⟨b5, 0, none⟩)], Value.nilFunc, Value.slice none 0 0, Value.slice none 0 0].toArray 144 (0, 0)) := by
  rw [hM12, Mem.add_ne n56.symm, hM11, Mem.add_ne n46.symm, hM10, Mem.add_ne n26.symm, hM9]; exact Mem.add_eq
 have g2 : M12 b2 = some (.cells [Value.pointer (some ⟨tb, 0, none⟩)].toArray 31 (0, 0)) := by
  rw [hM12, Mem.add_ne n52.symm, hM11, Mem.add_ne n42.symm, hM10]; exact Mem.add_eq
 have g4 : M12 b4 = some (.cells [Value.int .i64 (-1)].toArray 3 (0, 0)) := by rw [hM12, Mem.add_ne n54.symm, hM11]; exact Mem.add_eq
 have g5 : M12 b5 = some (.cells (X_api_Set.mk 0 0 0 0).cells.toArray 48 (0, 0)) := by rw [hM12]; exact Mem.add_eq
 let D : Nat → Prop := fun b => b = b6 ∨ b = b4 ∨ b = b5
 have hD : ∀ b, D b → M8 b = none := fun b hb => by rcases hb with rfl | rfl | rfl <;> assumption
 have hMV : M8.le (hide M12 D) := le_hide hle hD
 have hV6 : hide M12 D b6 = none := by unfold hide; rw [if_pos (.inl rfl)]
 have hV4 : hide M12 D b4 = none := by unfold hide; rw [if_pos (.inr (.inl rfl))]
 have hV5 : hide M12 D b5 = none := by unfold hide; rw [if_pos (.inr (.inr rfl))]
 have hV2 : hide M12 D b2 = M12 b2 := by unfold hide; rw [if_neg (by rintro (h | h | h); exact n26 h; exact n42 h.symm; exact n52 h.symm)]
 refine (s_chaffref_Visit_Go _ _ _ _ (go_is (s := s) (E := E) (L := fun b => M8 b = none) hw (hM.le hMV) ⟨fun b o hb => (hide_some hb).1, g6, hV6⟩ hb6 fun V' fa fc M' hVV hV'6 hV'M hVk hdom hkeep hfst hblk => ?_)).mono (fun b hb => .inr hb) (fun v M' _ h => h)
 have hMV' : M8.le V' := hMV.trans hVV
 have hV'4 : V' b4 = none := by rw [hVk b4 n46 (by rw [g4]; rfl)]; exact hV4
 have hV'5 : V' b5 = none := by rw [hVk b5 n56 (by rw [g5]; rfl)]; exact hV5
 have hM'4 : M' b4 = some (.cells [Value.int .i64 (-1)].toArray 3 (0, 0)) := by rw [hkeep b4 n46 (by rw [g4]; rfl)]; exact g4
 have hM'5 : M' b5 = some (.cells (X_api_Set.mk 0 0 0 0).cells.toArray 48 (0, 0)) := by rw [hkeep b5 n56 (by rw [g5]; rfl)]; exact g5
 have hV'2 : At V' b2 0 [.pointer (some ⟨tb, 0, none⟩)] := by
  refine At.blk (t := 31) (f := (0, 0)) ?_
  rw [hVk b2 n26 (by rw [g2]; rfl), hV2]; exact g2
 obtain ⟨st, _, hst⟩ := hw.stage
 let jb : Mem → Nat → Prop := fun _ b => b = b4 ∨ b = b5
 let c : VsC := ⟨V', rs, s, E, tb, b6, ga, ea, fa, gl, gc, ec, eb, fc, .func (.func 72) #[] #[.pointer (some ⟨b2, 0, none⟩), .pointer (some ⟨b4, 0, none⟩), .pointer (some ⟨b5, 0, none⟩)], .nilFunc, jb, jF rs s E b4 b5, 120, st⟩
 have hc : c.Ok := by
  refine ⟨hw, hT, hs60, hM.le hMV', hfst, hst, fun u M M' hJ hk => ⟨?_, fun _ => Iff.rfl⟩, fun u M hJ b hb => ?_, ⟨false, .inr ⟨_, _, _, rfl, rfl⟩, fun h => (by cases h), fun _ u n p e x M hok hp hl hn0 hn1 hR hVM hJ => ?_⟩, ⟨true, .inl ⟨rfl, rfl⟩, fun _ u i p M hJ => ?_, fun h => (by cases h)⟩, hw.ok.all, by show 120 ≤ 100000; omega⟩
  ·obtain ⟨far, want, h1, h2, h3⟩ := hJ
   exact ⟨far, want, (hk b4 (.inl rfl)).trans h1, (hk b5 (.inr rfl)).trans h2, h3⟩
  ·obtain ⟨far, want, h1, h2, h3⟩ := hJ
   rcases hb with rfl | rfl
   ·rw [h1]; rfl
   ·rw [h2]; rfl
  ·exact f_chaffref_Table_Far_1 _ _ _ _ _ _ _ _ _ (far1_is hT hs60 h10 n54.symm (.inl rfl) (.inr rfl) ((hM.le hMV').le hVM) (hV'2.le hVM) hok hp hl (hR.le hVM) hJ fun M2 hJ2 => ⟨rfl, hJ2, fun b hb => .inl hb⟩)
  ·obtain ⟨far, want, h1, h2, h3⟩ := hJ
   exact ⟨far, want, h1, h2, h3.skip rfl⟩
 have hB : VB c [] [] M' := by
  refine ⟨hV'M, fun b hb => ?_, ⟨none, 0, hblk, ⟨rfl, Nat.le_refl _, by decide, .inl ⟨rfl, rfl, rfl⟩⟩, fun g hg => by cases hg⟩, fun hb => ?_, ⟨-1, _, hM'4, hM'5, FW.init _ _ _⟩, by simp, fun x hx => by cases hx⟩
  ·rcases (own_row (c := c) hblk).1 hb with rfl | hb | hb
   ·exact hV'6
   ·cases hb
   ·rcases hb with rfl | rfl
    ·exact hV'4
    ·exact hV'5
  ·rcases hb with hb | hb
   ·exact n46 hb.symm
   ·exact n56 hb.symm
 have hDn : ∀ b, V' b = none → M8 b = none := fun b hb => by
  cases hv : M8 b with
  | none => rfl
  | some o => rw [hMV' b o hv] at hb; cases hb
 refine (s_chaffref_Visit_rule _ _ _ _ _ _ (vfirst_is hc (t := t) hg hB fun M11 u hal hV11 hJ => ⟨rfl, fun M12 hle12 => ?_⟩)).mono (fun b hb => .inl (hDn b (hB.off b hb))) (fun v M' _ h => h)
 obtain ⟨far, want, h1, h2, h3⟩ := hJ
 exact ⟨rfl, far, (At.blk h1).le hle12, want, (At.blk h2).le hle12, fun M13 hle13 => hK M13 u far want hal h3⟩
end
theorem walk : WalkGoal := by
 intro H enc W x n B hx s hs
 obtain ⟨rs, hg⟩ := gr_of (A := x.a) (l := x.l) (c := x.c) hx
 refine s_chafflaw_PackFars _ _ _ _ _ _ ?_
 unfold S_chafflaw_PackFars
 generalize HM W = M at *
 refine e_pack_Far _ _ _ _ _ _ (pfar_is hg (fun h M' hle => ⟨_, _, _, rfl, ?_⟩) fun h E hT t hgo far want hF M' hle => ⟨_, _, _, rfl, ?_⟩)
 ·exact s_chaffref_Look _ _ _ _ _ _ (rlook_is hg s _ ⟨_, rfl, fun _ => ⟨fun _ => ⟨fun _ => rfl, fun hn => absurd rfl hn⟩, fun hn => absurd rfl hn⟩, fun hn => absurd h hn⟩)
 ·obtain ⟨hw, hs60⟩ := look_ok h
  refine s_chaffref_Look _ _ _ _ _ _ (rlook_is hg s _ ⟨_, rfl, fun hn => absurd h hn, fun _ => e_chaffref_Fill _ _ _ _ _ _ (fill_is hw hs60 hg _ fun M15 b ea ec eb E' hle15 hT' hTab => ⟨_, rfl, ?_⟩)⟩)
  have hE : ∀ p i : Nat, p ≤ s.length → i < rs.length → E p i = E' p i := fun p i hp hi => tab_same hw hT hT' hp hi
  refine e_chaffref_Table_Far _ _ _ (rfar_is hw hT hs60 (hTab.same hE) hgo fun M2 u far2 want2 hal hF2 => ⟨_, _, rfl, ?_⟩)
  obtain ⟨e1, e2⟩ := FW.alike hF2 hF hal
  subst e1 e2
  refine ⟨fun _ => ⟨fun _ => ?_, fun hn => absurd rfl hn⟩, fun hn => absurd rfl hn⟩
  unfold cellsEq
  simp
theorem holds : Rows.PackFarsSaid := top walk
#print axioms holds
end Go.Proofs.Ytifkffmecfgpeaa.lawPackFars
