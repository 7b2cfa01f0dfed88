/- For every input CoverSays answers true and leaves its arguments as they were. No condition. -/
import Derived.Test.YtifkffmecfgpeaaM3
import Derived.Test.YtifkffmecfgpeaaCoverSaysT
import Derived.Test.YtifkffmecfgpeaaM5
namespace Go.Proofs.Ytifkffmecfgpeaa.lawCoverSays
open Go.Gx Go.RowKit Go.ChangeShapes Go.WideShapes Go.ChangeAt
open core
set_option linter.unusedVariables false
theorem ex_of {H : Type} {enc : TypeId × Value → H} {w : World} : ∀ (n B : Nat) (x : X_api_Expr), In_api_Expr enc w n B x → ∃ e, ExR (HM w) e x := by
 intro n
 induction n using Nat.strongRecOn with
 | _ n ih =>
  intro B x hx
  obtain ⟨b6, h1, h2, h3, h4, h5, h6, h7, _⟩ := hx
  obtain ⟨xs, bs, hsl, hl, hm, hall, _⟩ := open_L_Expr h7
  obtain ⟨es, hes⟩ := All2.choose (R := ExR (HM w)) xs fun y hy => by
   obtain ⟨b, k, hk, hin⟩ := hall.left y hy
   exact ih k hk b y hin
  have hle := hes.length
  obtain ⟨k, s, t, A, l, c⟩ := x
  have : l = es.length := by rw [← hle]; exact hl.symm
  subst this
  exact ⟨.mk k s t es, .mk h1 ⟨h2, h3, h4, h5⟩ h6 hsl hle fun i e x he hx => hes.get' he hx⟩
theorem gr_of {H : Type} {enc : TypeId × Value → H} {w : World} {n B : Nat} {A : Option Addr} {l c : Nat} (h : In_L_Rule enc w n B ⟨A, l, c⟩) : ∃ rs, GrR (HM w) rs A l c := by
 obtain ⟨xs, bs, hsl, hl, hm, hall, _⟩ := open_L_Rule h
 obtain ⟨rs, hrs⟩ := All2.choose (R := RuR (HM w)) xs fun y hy => by
  obtain ⟨b, k, hk, hin⟩ := hall.left y hy
  obtain ⟨b7, h1, h2, h3, h4, h5, h6, h7, h8, _⟩ := hin
  obtain ⟨e, he⟩ := ex_of k _ y.Body ⟨b7, h2, h3, h4, h5, h6, h7, h8, Nat.le_refl _⟩
  exact ⟨⟨y.Name, e⟩, rfl, h1, he⟩
 have := hrs.length
 simp only at hl
 exact ⟨rs, xs, hsl, hrs, by omega⟩
def MK (rs : List Ru) (s : List UInt8) (E : Nat → Nat → Int) (t : List Evt) (L : List Int) : Prop := ∀ (i : Nat) z, L[i]? = some z → 0 ≤ z ∧ z ≤ 3 ∧ (z % 2 = 1 ↔ ∃ p e, Evt.node i p e ∈ t ∧ 0 ≤ endE rs s E e p) ∧ (2 ≤ z ↔ ∃ p e, Evt.node i p e ∈ t ∧ endE rs s E e p < 0)
section
variable {rs : List Ru} {s : List UInt8} {E : Nat → Nat → Int}
theorem MK.init (n : Nat) : MK rs s E [] (List.replicate n 0) := fun i z hz => by
 rw [List.getElem?_replicate] at hz
 split at hz
 ·simp only [Option.some.injEq] at hz; subst hz; simp
 ·cases hz
theorem MK.step {t : List Evt} {L : List Int} (h : MK rs s E t L) {n p z z' : Int} {e : Ex} (hn : 0 ≤ n) (hz : L[n.toNat]? = some z) (h0 : 0 ≤ z') (h3 : z' ≤ 3) (hok : 0 ≤ endE rs s E e p → z' % 2 = 1 ∧ (2 ≤ z' ↔ 2 ≤ z)) (hno : endE rs s E e p < 0 → 2 ≤ z' ∧ (z' % 2 = 1 ↔ z % 2 = 1)) : MK rs s E (t ++ [.node n p e]) (L.set n.toNat z') := by
 intro i y hy
 rw [List.getElem?_set] at hy
 obtain ⟨a1, a2, a3, a4⟩ := h _ _ hz
 have hnn : ((n.toNat : Nat) : Int) = n := by omega
 by_cases hi : n.toNat = i
 ·subst hi
  rw [if_pos rfl, if_pos (List.getElem?_eq_some_iff.1 hz).1] at hy
  simp only [Option.some.injEq] at hy
  subst hy
  rw [hnn] at a3 a4 ⊢
  refine ⟨h0, h3, ?_, ?_⟩
  ·by_cases hr : 0 ≤ endE rs s E e p
   ·exact ⟨fun _ => ⟨p, e, by simp, hr⟩, fun _ => (hok hr).1⟩
   ·rw [(hno (by omega)).2, a3]
    refine ⟨fun ⟨q, d, h1, h2⟩ => ⟨q, d, by simp [h1], h2⟩, fun ⟨q, d, h1, h2⟩ => ?_⟩
    rcases List.mem_append.1 h1 with h1 | h1
    ·exact ⟨q, d, h1, h2⟩
    ·simp only [List.mem_singleton, Evt.node.injEq, true_and] at h1
     obtain ⟨rfl, rfl⟩ := h1; exact absurd h2 hr
  ·by_cases hr : 0 ≤ endE rs s E e p
   ·rw [(hok hr).2, a4]
    refine ⟨fun ⟨q, d, h1, h2⟩ => ⟨q, d, by simp [h1], h2⟩, fun ⟨q, d, h1, h2⟩ => ?_⟩
    rcases List.mem_append.1 h1 with h1 | h1
    ·exact ⟨q, d, h1, h2⟩
    ·simp only [List.mem_singleton, Evt.node.injEq, true_and] at h1
     obtain ⟨rfl, rfl⟩ := h1; omega
   ·exact ⟨fun _ => ⟨p, e, by simp, by omega⟩, fun _ => (hno (by omega)).1⟩
 ·rw [if_neg hi] at hy
  obtain ⟨b1, b2, b3, b4⟩ := h i y hy
  have hne : ∀ q d, Evt.node i q d ∈ t ++ [.node n p e] ↔ Evt.node i q d ∈ t := fun q d => by
   simp only [List.mem_append, List.mem_singleton, Evt.node.injEq]
   exact ⟨fun h => h.elim id fun h => (hi (by rw [← h.1, Int.toNat_natCast])).elim, .inl⟩
  refine ⟨b1, b2, ?_, ?_⟩
  ·rw [b3]; exact exists_congr fun q => exists_congr fun d => by rw [hne q d]
  ·rw [b4]; exact exists_congr fun q => exists_congr fun d => by rw [hne q d]
theorem MK.skip {t : List Evt} {L : List Int} (h : MK rs s E t L) (i p : Int) : MK rs s E (t ++ [.done i p]) L := fun k z hz => by
 obtain ⟨a1, a2, a3, a4⟩ := h k z hz
 exact ⟨a1, a2, by rw [a3]; simp, by rw [a4]; simp⟩
theorem MK.same {t u : List Evt} {L L' : List Int} (h : MK rs s E t L) (h' : MK rs s E u L') (hn : ∀ n p e, Evt.node n p e ∈ u ↔ Evt.node n p e ∈ t) (hl : L.length = L'.length) : L = L' := by
 apply List.ext_getElem?
 intro i
 by_cases hi : i < L.length
 ·obtain ⟨z, hz⟩ := getN (l := L) hi
  obtain ⟨y, hy⟩ := getN (l := L') (i := i) (by omega)
  obtain ⟨a1, a2, a3, a4⟩ := h i z hz
  obtain ⟨b1, b2, b3, b4⟩ := h' i y hy
  have e1 : z % 2 = 1 ↔ y % 2 = 1 := by rw [a3, b3]; exact exists_congr fun q => exists_congr fun d => by rw [hn i q d]
  have e2 : 2 ≤ z ↔ 2 ≤ y := by rw [a4, b4]; exact exists_congr fun q => exists_congr fun d => by rw [hn i q d]
  rw [hz, hy]
  congr 1
  omega
 ·rw [List.getElem?_eq_none (by omega), List.getElem?_eq_none (by omega)]
theorem look_gram (h : lookP rs s = 0) : gramErr rs = 0 := by
 unfold lookP at h
 split at h
 ·rename_i h1; exact absurd h h1
 ·rename_i h1
  have h1 := Decidable.not_not.1 h1
  unfold wellP at h1
  split at h1
  ·rename_i h2; exact absurd h1 h2
  ·rename_i h2; exact Decidable.not_not.1 h2
def jM (rs : List Ru) (s : List UInt8) (E : Nat → Nat → Int) (bx n cap : Nat) (ad : Option Addr) (t : List Evt) (M : Mem) : Prop := ∃ L : List Int, L.length = n ∧ M bx = some (.cells [Value.slice ad n cap].toArray 64 (0, 0)) ∧ RowW M 3 1 ad n cap (cl core.iC L) ∧ MK rs s E t L
def jbM (bx : Nat) (ad : Option Addr) (b : Nat) : Prop := b = bx ∨ ad = some ⟨b, 0, none⟩
section
variable {bx n cap : Nat} {ad : Option Addr}
theorem jM.frame {t : List Evt} {M M' : Mem} (h : jM rs s E bx n cap ad t M) (hk : ∀ b, jbM bx ad b → M' b = M b) : jM rs s E bx n cap ad t M' := by
 obtain ⟨L, h1, h2, h3, h4⟩ := h
 exact ⟨L, h1, (hk bx (.inl rfl)).trans h2, h3.same fun g o hg ho => by rw [hk g (.inr hg)]; exact ho, h4⟩
theorem jM.has {t : List Evt} {M : Mem} (h : jM rs s E bx n cap ad t M) (b : Nat) (hb : jbM bx ad b) : (M b).isSome = true := by
 obtain ⟨L, h1, h2, h3, h4⟩ := h
 rcases hb with rfl | hb
 ·rw [h2]; rfl
 ·obtain ⟨_, _, _, ⟨h4, _⟩ | ⟨g, cur, h4, h5, _⟩⟩ := h3
  ·rw [h4] at hb; cases hb
  ·rw [h4] at hb; cases hb; rw [h5]; rfl
theorem jM.put {t : List Evt} {M : Mem} (h : jM rs s E bx n cap ad t M) (hne : ∀ g, ad = some ⟨g, 0, none⟩ → g ≠ bx) {m : Int} (h0 : 0 ≤ m) (hm : m < n) : ∃ g z, ad = some ⟨g, 0, none⟩ ∧ At M bx 0 [.slice ad n cap] ∧ At M g (0 + m.toNat * 1) [.int .i64 z] ∧ Has M g (0 + m.toNat * 1) 1 ∧ 0 ≤ z ∧ z ≤ 3 ∧
  ∀ z' p e, 0 ≤ z' → z' ≤ 3 → (0 ≤ endE rs s E e p → z' % 2 = 1 ∧ (2 ≤ z' ↔ 2 ≤ z)) → (endE rs s E e p < 0 → 2 ≤ z' ∧ (z' % 2 = 1 ↔ z % 2 = 1)) → jM rs s E bx n cap ad (t ++ [.node m p e]) (M.put g (0 + m.toNat * 1) [.int .i64 z']) := by
 obtain ⟨L, h1, h2, h3, h4⟩ := h
 obtain ⟨z, hz⟩ := core.getI (l := L) h0 (by omega)
 obtain ⟨a1, a2, _, _⟩ := h4 _ _ hz
 obtain ⟨_, _, _, ⟨_, h5, _⟩ | ⟨g, cur, hg, hcur, _⟩⟩ := id h3
 ·omega
 obtain ⟨b, o, hb, hat⟩ := h3.slv.at iC_len h1 hz
 rw [hg] at hb; cases hb
 refine ⟨g, z, hg, At.blk h2, hat, (h3.put iC_len h1 (i := m.toNat) (by omega) hg 0).2.1, a1, a2, fun z' p e c1 c2 c3 c4 => ⟨L.set m.toNat z', by rw [List.length_set]; exact h1, ?_, (h3.put iC_len h1 (i := m.toNat) (by omega) hg z').2.2, h4.step h0 hz c1 c2 c3 c4⟩⟩
 rw [Mem.put_ne (hne g hg).symm]; exact h2
theorem or1 {z : Int} (h0 : 0 ≤ z) (h3 : z ≤ 3) : 0 ≤ bOr .i64 z 1 ∧ bOr .i64 z 1 ≤ 3 ∧ bOr .i64 z 1 % 2 = 1 ∧ (2 ≤ bOr .i64 z 1 ↔ 2 ≤ z) := by
 have : z = 0 ∨ z = 1 ∨ z = 2 ∨ z = 3 := by omega
 rcases this with rfl | rfl | rfl | rfl <;> decide
theorem or2 {z : Int} (h0 : 0 ≤ z) (h3 : z ≤ 3) : 0 ≤ bOr .i64 z 2 ∧ bOr .i64 z 2 ≤ 3 ∧ 2 ≤ bOr .i64 z 2 ∧ (bOr .i64 z 2 % 2 = 1 ↔ z % 2 = 1) := by
 have : z = 0 ∨ z = 1 ∨ z = 2 ∨ z = 3 := by omega
 rcases this with rfl | rfl | rfl | rfl <;> decide
theorem cov1_is {t : List Evt} {M : Mem} {L : Nat → Prop} {K : Value → Mem → Prop} (hne : ∀ g, ad = some ⟨g, 0, none⟩ → g ≠ bx) (hL : ∀ b, jbM bx ad b → L b) {m p : Int} {e : Ex} (h0 : 0 ≤ m) (hm : m < n) (hJ : jM rs s E bx n cap ad t M) (hK : ∀ M', jM rs s E bx n cap ad (t ++ [.node m p e]) M' → K (.tuple #[]) M') : S_cover_Of_1 m (decide (0 ≤ endE rs s E e p)) bx M L K := by
 obtain ⟨g, z, hg, a1, a2, a3, z0, z3, hput⟩ := hJ.put hne h0 hm
 have up : ∀ {M1 M2 : Mem}, M1.le M2 → jM rs s E bx n cap ad (t ++ [.node m p e]) M1 → jM rs s E bx n cap ad (t ++ [.node m p e]) M2 := fun hle h => h.frame fun b hb => Mem.le.eq hle (h.has b hb)
 unfold S_cover_Of_1
 refine ⟨fun hy => ⟨ad, n, cap, a1, g, 0, hg, h0, hm, z, a2, g, 0, hg, h0, hm, a3, .inl (hL g (.inr hg)), fun M12 hM12 M3 hle => hK M3 (up hle ?_)⟩, fun hn => ⟨ad, n, cap, a1, g, 0, hg, h0, hm, z, a2, g, 0, hg, h0, hm, a3, .inl (hL g (.inr hg)), fun M12 hM12 M3 hle => hK M3 (up hle ?_)⟩⟩
 ·obtain ⟨c1, c2, c3, c4⟩ := or1 z0 z3
  rw [hM12]
  exact hput _ p e c1 c2 (fun _ => ⟨c3, c4⟩) fun h => by have := of_decide_eq_true hy; omega
 ·obtain ⟨c1, c2, c3, c4⟩ := or2 z0 z3
  rw [hM12]
  exact hput _ p e c1 c2 (fun h => absurd (decide_eq_true h) hn) fun _ => ⟨c3, c4⟩
theorem marks1_is (hT : Tab rs s E) (hs60 : s.length ≤ 60) (h10 : rs.length ≤ 10) {t : List Evt} {tbx tb : Nat} {ga ea : Option Addr} {gl gc ec eb : Nat} {M : Mem} {L : Nat → Prop} {K : Value → Mem → Prop} (hne : ∀ g, ad = some ⟨g, 0, none⟩ → g ≠ bx) (hL : ∀ b, jbM bx ad b → L b) (hM : TabR M rs s E 0 tb ga ea gl gc ec eb) (hbx : At M tbx 0 [.pointer (some ⟨tb, 0, none⟩)]) {e : Ex} {x : X_api_Expr} {m p : Int} (hok : PegOk rs e) (hp : 0 ≤ p) (hl : p ≤ s.length) (hR : ExR M e x) (h0 : 0 ≤ m) (hm : m < n) (hJ : jM rs s E bx n cap ad t M)
  (hK : ∀ M', jM rs s E bx n cap ad (t ++ [.node m p e]) M' → K (.tuple #[]) M') : S_chaffref_Table_Marks_1 m p x tbx bx M L K := by
 obtain ⟨g, z, hg, a1, a2, a3, z0, z3, hput⟩ := hJ.put hne h0 hm
 have up : ∀ {M1 M2 : Mem}, M1.le M2 → jM rs s E bx n cap ad (t ++ [.node m p e]) M1 → jM rs s E bx n cap ad (t ++ [.node m p e]) M2 := fun hle h => h.frame fun b hb => Mem.le.eq hle (h.has b hb)
 have same : ∀ {z'}, z' = z → M.put g (0 + m.toNat * 1) [Value.int .i64 z'] = M.put g (0 + m.toNat * 1) [.int .i64 z] := fun h => by rw [h]
 have j1 : ∀ w : Int, (w = 1 ∧ 0 ≤ endE rs s E e p) ∨ (w = 2 ∧ endE rs s E e p < 0) → S_chaffref_Table_Marks_1_J1 m bx M L w K := by
  intro w hw
  unfold S_chaffref_Table_Marks_1_J1
  refine ⟨ad, n, cap, a1, g, 0, hg, h0, hm, z, a2, fun hzw => ⟨ad, n, cap, a1, ad, n, cap, a1, g, 0, hg, h0, hm, z, a2, inI_small (by omega) (by omega), g, 0, hg, h0, hm, a3, .inl (hL g (.inr hg)), fun M27 hM27 M3 hle => hK M3 (up hle ?_)⟩, fun hzw M3 hle => hK M3 (up hle ?_)⟩
  ·rw [hM27]
   refine hput _ p e ?_ ?_ (fun h => ?_) fun h => ?_
   ·split <;> omega
   ·split <;> omega
   ·have hw1 : w = 1 := by omega
    subst hw1
    have : z = 0 ∨ z = 2 ∨ z = 3 := by omega
    rcases this with rfl | rfl | rfl <;> decide
   ·have hw1 : w = 2 := by omega
    subst hw1
    have : z = 0 ∨ z = 1 ∨ z = 3 := by omega
    rcases this with rfl | rfl | rfl <;> decide
  ·have hzw : z = w := Classical.not_not.1 hzw
   have := hput z p e z0 z3 (fun h => ⟨by omega, Iff.rfl⟩) fun h => ⟨by omega, Iff.rfl⟩
   obtain ⟨L, h1, h2, h3, h4⟩ := hJ
   obtain ⟨z2, hz2⟩ := core.getI (l := L) h0 (by omega)
   obtain ⟨b, o, hb, hat⟩ := h3.slv.at iC_len h1 hz2
   rw [hg] at hb; cases hb
   have ez : z2 = z := by
    have e1 := a2 0 _ rfl
    have e2 := hat 0 _ rfl
    rw [e1] at e2
    simp only [Option.some.injEq, Value.int.injEq, true_and] at e2
    exact e2.symm
   subst ez
   have hset : L.set m.toNat z2 = L := set_same hz2
   refine ⟨L, h1, h2, h3, ?_⟩
   have := h4.step (p := p) (e := e) h0 hz2 z0 z3 (fun h => ⟨by omega, Iff.rfl⟩) fun h => ⟨by omega, Iff.rfl⟩
   rw [hset] at this; exact this
 unfold S_chaffref_Table_Marks_1
 refine ⟨_, hbx, s_chaffref_Table_End _ _ _ _ _ (end_is hs60 h10 hT.ok _ e (Nat.lt_succ_self _) hok hR hM hp hp hl ⟨_, rfl, fun h => j1 2 (.inr ⟨rfl, h⟩), fun h => j1 1 (.inl ⟨rfl, by omega⟩)⟩)⟩
end
theorem cov_is {ga : Option Addr} {gl gc : Nat} {M : Mem} {K : Value → Mem → Prop} (hg : GrR M rs ga gl gc)
  (h1 : lookP rs s ≠ 0 → ∀ M', M.le M' → K (.tuple #[.slice none 0 0, .int .i64 (lookP rs s)]) M')
  (h3 : lookP rs s = 0 → ∀ E, Tab rs s E → ∀ t, Goes rs s E (.rule 0 0) [] t → ∀ M' ad cap L, M.le M' → L.length = sumF rs → SlV M' ad (sumF rs) cap 1 (cl core.iC L) → MK rs s E t L → K (.tuple #[.slice ad (sumF rs) cap, .int .i64 0]) M') :
  S_cover_Of ga gl gc s M (fun _ => False) K := by
 unfold S_cover_Of
 refine s_mean_Look _ _ _ _ _ _ (mlook_is hg s _ ⟨_, rfl, fun h => h1 h, fun h => ?_⟩)
 have h0 : lookP rs s = 0 := Decidable.not_not.1 h
 obtain ⟨hw, hs⟩ := look_ok h0
 have h10 := hw.ok.ten
 have h11 := hw.ok.one
 have h120 : (rs.map fun r => cnt r.body).sum ≤ 120 := hw.ok.all
 have hsum : sumF rs = (rs.map fun r => cnt r.body).sum := rfl
 have herr : gramErr rs = 0 := look_gram h0
 have hgl := hg.len
 subst hgl
 obtain ⟨E, hT⟩ := tab_ex (s := s) hw
 refine s_gram_Nodes _ _ _ _ _ (gnodes_is hg _ (fun h => absurd herr h) fun _ => ⟨_, _, rfl, by omega, by omega, by omega, ?_⟩)
 rw [show ((sumF rs : Nat) : Int).toNat = sumF rs by omega]
 refine (s_pack_New _ _ _ _ _ _ _ (new_raw hg h10 (by omega) fun V M14 pb r fa fc hle q1 q2 q3 q4 q5 q6 q7 => ⟨_, rfl, pb, 0, rfl, fun M17 ad cap hnr b10 M18 hb10 hM18 => ?_⟩)).mono (fun _ h => h.elim) (fun v M' _ h => h)
 have hrow17 := hnr.roww
 have hle17 := hnr.le
 have hle18 : M17.le M18 := by rw [hM18]; exact Mem.add_le hb10
 have hpb18 := hle18 _ _ (hle17 _ _ q5)
 have hn10 : b10 ≠ pb := by rintro rfl; rw [hle17 _ _ q5] at hb10; cases hb10
 have hn10r : b10 ≠ r := by rintro rfl; obtain ⟨es, clk, hh, _⟩ := q6; rw [hle17 _ _ hh] at hb10; cases hb10
 have hadg : ∀ g, ad = some ⟨g, 0, none⟩ → M14 g = none ∧ (M17 g).isSome = true := fun g hg => by
  obtain ⟨_, _, _, ⟨h, _⟩ | ⟨g', cur, h, hg', _, _, hM17⟩⟩ := hnr
  ·rw [h] at hg; cases hg
  ·rw [h] at hg; cases hg; exact ⟨hg', by rw [hM17, Mem.add_eq]; rfl⟩
 have hgpb : ∀ g, ad = some ⟨g, 0, none⟩ → g ≠ pb := fun g hg e => by have := (hadg g hg).1; rw [e, q5] at this; cases this
 have hgr : ∀ g, ad = some ⟨g, 0, none⟩ → g ≠ r := fun g hg e => by have := (hadg g hg).1; obtain ⟨es, clk, hh, _⟩ := q6; rw [e, hh] at this; cases this
 have hg10 : ∀ g, ad = some ⟨g, 0, none⟩ → g ≠ b10 := fun g hg e => by have := (hadg g hg).2; rw [e, hb10] at this; cases this
 have hV10 : V b10 = none := by
  cases hv : V b10 with
  | none => rfl
  | some o => rw [hle17 _ _ (q7 _ _ hv)] at hb10; cases hb10
 have hVg : ∀ g, ad = some ⟨g, 0, none⟩ → V g = none := fun g hg => by
  cases hv : V g with
  | none => rfl
  | some o => have := (hadg g hg).1; rw [q7 _ _ hv] at this; cases this
 refine ⟨Has.blk hpb18 (by show 0 + 9 + 1 ≤ 11; omega), .inr ?_, fun M19 hM19 => ?_⟩
 ·cases hv : M pb with
  | none => rfl
  | some o => rw [hle _ _ hv] at q1; cases q1
 let c : PkC := ⟨V, rs, s, E, pb, r, ga, fa, rs.length, gc, fc, .func (.func 80) #[] #[.pointer (some ⟨b10, 0, none⟩)], jbM b10 ad, jM rs s E b10 (sumF rs) cap ad, sumF rs⟩
 have hjV : ∀ b, jbM b10 ad b → V b = none := fun b hb => by
  rcases hb with rfl | hb
  ·exact hV10
  ·exact hVg b hb
 have hc : c.Ok := by
  refine ⟨hw, hT, hs, hg.le hle, q4, q1, q2, q3, fun hb => ?_, fun hb => ?_, hjV, fun t M M' h hk => h.frame hk, fun t M h b hb => h.has b hb, ⟨false, .inr ⟨_, _, _, rfl, rfl⟩, fun h => (by cases h), fun _ t n p e M hn0 hn1 hJ => ?_⟩, fun t i p M ⟨L, a1, a2, a3, a4⟩ => ⟨L, a1, a2, a3, a4.skip i p⟩, Nat.le_refl _, by show sumF rs ≤ 100000; omega⟩
  ·rcases hb with hb | hb
   ·exact hn10 hb.symm
   ·exact hgpb _ hb rfl
  ·rcases hb with hb | hb
   ·exact hn10r hb.symm
   ·exact hgr _ hb rfl
  ·exact f_cover_Of_1 _ _ _ _ _ _ (cov1_is hg10 (fun b hb => hb) hn0 (by exact_mod_cast hn1) hJ fun M2 hJ2 => ⟨rfl, hJ2⟩)
 have hne19 : ∀ b, b ≠ pb → M19 b = M18 b := fun b hb => by rw [hM19]; exact Mem.put_ne hb
 have hPI : PI c [] M19 := by
  refine ⟨-1, X_api_Set.mk 0 0 0 0, FW.init _ _ _, fun b o hb => ?_, ⟨none, 0, ?_, ⟨rfl, Nat.le_refl _, by decide, .inl ⟨rfl, rfl, rfl⟩⟩, fun g hg => by cases hg⟩, ⟨fun _ _ => none, ?_, fun i p v => ⟨fun h => (by cases h), fun h => (by cases h.1)⟩⟩, ⟨List.replicate (sumF rs) 0, by simp, ?_, ?_, MK.init _⟩, by simp [logOf], fun i p h => by cases h⟩
  ·rw [hne19 b (fun e => by rw [e] at hb; cases q1.symm.trans hb)]; exact hle18 _ _ (hle17 _ _ (q7 _ _ hb))
  ·rw [hM19, Mem.put_eq hpb18]; rfl
  ·obtain ⟨es, clk, hh, hrest⟩ := q6
   exact ⟨es, clk, by rw [hne19 r q3.symm]; exact hle18 _ _ (hle17 _ _ hh), hrest⟩
  ·rw [hne19 b10 hn10, hM18]; exact Mem.add_eq
  ·have := hrow17
   rw [← cl_replicate core.iC (sumF rs) 0] at this
   exact this.same fun g o hg ho => by rw [hne19 g (hgpb g hg)]; exact hle18 _ _ ho
 refine (s_pack_Parser_Rule _ _ _ _ _ _ (prule_is (i := 0) (p := 0) hc (Int.le_refl 0) (by show (0 : Int) < (rs.length : Int); omega) (Int.le_refl 0) (by show (0 : Int) ≤ (s.length : Int); omega) hPI fun M21 t' hgo hP21 => ⟨_, rfl, ?_⟩)).mono (LV_new (c := c) hle) (fun v M' _ h => h)
 obtain ⟨far, want, hF, hB⟩ := hP21
 obtain ⟨L, a1, a2, a3, a4⟩ := hB.j
 exact ⟨ad, sumF rs, cap, At.blk a2, fun M22 hle22 => h3 h0 E hT t' hgo M22 ad cap L (hle.trans (hB.le.trans hle22)) a1 (a3.slv.le hle22) a4⟩
theorem rmarks_is (hw : WellOk rs) (hT : Tab rs s E) (hs60 : s.length ≤ 60) {tb : Nat} {ga ea : Option Addr} {gl gc ec eb : Nat} {M : Mem} {K : Value → Mem → Prop} (hM : TabR M rs s E 0 tb ga ea gl gc ec eb) {t : List Evt} (hg : Goes rs s E (.rule 0 0) [] t)
  (hK : ∀ M' ad cap L u, M.le M' → core.Alike E u t → L.length = sumF rs → SlV M' ad (sumF rs) cap 1 (cl core.iC L) → MK rs s E u L → K (.slice ad (sumF rs) cap) M') : S_chaffref_Table_Marks (some ⟨tb, 0, none⟩) M (fun _ => False) K := by
 have h10 := hw.ok.ten
 have h120 : (rs.map fun r => cnt r.body).sum ≤ 120 := hw.ok.all
 have hsum : sumF rs = (rs.map fun r => cnt r.body).sum := rfl
 unfold S_chaffref_Table_Marks
 refine ⟨tb, 0, rfl, _, _, _, hM.gm, s_chaffref_All _ _ _ _ _ (rall_is hw.ok hM.gr _ fun M11 ad8 cap8 hle11 => ⟨_, _, _, rfl, by omega, by omega, by omega, ?_⟩)⟩
 rw [show ((sumF rs : Nat) : Int).toNat = sumF rs by omega]
 intro M17 hM17 M18 hM18 M19 ad cap hnr b16 b2 b13 M20 hb16 hM20 M21 hb2 hM21 M22 hb13 hM22
 have e18 : M18 = M11 := by
  obtain ⟨_, _, _, ⟨_, _, _, h⟩ | ⟨_, _, h, _⟩⟩ := hM17
  ·obtain ⟨_, _, _, ⟨_, _, _, h'⟩ | ⟨_, _, h', _⟩⟩ := hM18
   ·rw [h', h]
   ·cases h'
  ·cases h
 subst e18
 have hle19 := hnr.le
 have hadg : ∀ g, ad = some ⟨g, 0, none⟩ → M18 g = none ∧ (M19 g).isSome = true := fun g hg => by
  obtain ⟨_, _, _, ⟨h, _⟩ | ⟨g', cur, h, hg', _, _, hM⟩⟩ := hnr
  ·rw [h] at hg; cases hg
  ·rw [h] at hg; cases hg; exact ⟨hg', by rw [hM, Mem.add_eq]; rfl⟩
 have n216 : b2 ≠ b16 := by rintro rfl; rw [hM20, Mem.add_eq] at hb2; cases hb2
 have n132 : b13 ≠ b2 := by rintro rfl; rw [hM21, Mem.add_eq] at hb13; cases hb13
 have n1316 : b13 ≠ b16 := by rintro rfl; rw [hM21, Mem.add_ne n216.symm, hM20, Mem.add_eq] at hb13; cases hb13
 have f2 : M19 b2 = none := by rw [hM20, Mem.add_ne n216] at hb2; exact hb2
 have f13 : M19 b13 = none := by rw [hM21, Mem.add_ne n132, hM20, Mem.add_ne n1316] at hb13; exact hb13
 have hle22 : M19.le M22 := by
  have a1 : M19.le M20 := by rw [hM20]; exact Mem.add_le hb16
  have a2 : M20.le M21 := by rw [hM21]; exact Mem.add_le hb2
  have a3 : M21.le M22 := by rw [hM22]; exact Mem.add_le hb13
  exact (a1.trans a2).trans a3
 have g16 : M22 b16 = some (.cells [Value.pointer (some ⟨tb, 0, none⟩), Value.func (.func 82) #[] #[.pointer (some ⟨b2, 0, none⟩), .pointer (some ⟨b13, 0, none⟩)], Value.nilFunc, Value.slice none 0 0, Value.slice none 0 0].toArray 144 (0, 0)) := by
  rw [hM22, Mem.add_ne n1316.symm, hM21, Mem.add_ne n216.symm, hM20]; exact Mem.add_eq
 have g2 : M22 b2 = some (.cells [Value.pointer (some ⟨tb, 0, none⟩)].toArray 31 (0, 0)) := by rw [hM22, Mem.add_ne n132.symm, hM21]; exact Mem.add_eq
 have g13 : M22 b13 = some (.cells [Value.slice ad (sumF rs) cap].toArray 64 (0, 0)) := by rw [hM22]; exact Mem.add_eq
 have hleM : M.le M22 := hle11.trans (hle19.trans hle22)
 let D : Nat → Prop := fun b => b = b16 ∨ jbM b13 ad b
 have h19n : ∀ {b}, M19 b = none → M18 b = none := fun {b} hb => by
  cases hv : M18 b with
  | none => rfl
  | some o => rw [hle19 _ _ hv] at hb; cases hb
 have hD : ∀ b, D b → M18 b = none := fun b hb => by
  rcases hb with rfl | rfl | hb
  ·exact h19n hb16
  ·exact h19n f13
  ·exact (hadg b hb).1
 have hMV1 : M18.le (hide M22 D) := le_hide (hle19.trans hle22) hD
 have hMV : M.le (hide M22 D) := hle11.trans hMV1
 have hVD : ∀ b, D b → hide M22 D b = none := fun b hb => by unfold hide; rw [if_pos hb]
 have n2D : ¬ D b2 := by
  rintro (h | h | h)
  ·exact n216 h
  ·exact n132 h.symm
  ·have := (hadg b2 h).2; rw [f2] at this; cases this
 have hV2 : hide M22 D b2 = M22 b2 := by unfold hide; rw [if_neg n2D]
 have hg16 : ∀ g, ad = some ⟨g, 0, none⟩ → g ≠ b16 := fun g hg e => by have := (hadg g hg).2; rw [e, hb16] at this; cases this
 have hg13 : ∀ g, ad = some ⟨g, 0, none⟩ → g ≠ b13 := fun g hg e => by have := (hadg g hg).2; rw [e, f13] at this; cases this
 have hsome : ∀ b, jbM b13 ad b → (M22 b).isSome = true := fun b hb => by
  rcases hb with rfl | hb
  ·rw [g13]; rfl
  ·rw [Mem.le.eq hle22 (hadg b hb).2]; exact (hadg b hb).2
 have hj16 : ∀ b, jbM b13 ad b → b ≠ b16 := fun b hb => by
  rcases hb with rfl | hb
  ·exact n1316
  ·exact hg16 b hb
 refine (s_chaffref_Visit_Go _ _ _ _ (go_is (s := s) (E := E) (L := fun b => M18 b = none) hw (hM.le hMV) ⟨fun b o hb => (hide_some hb).1, g16, hVD _ (.inl rfl)⟩ (h19n hb16) fun V' fa fc M' hVV hV'16 hV'M hVk hdom hkeep hfst hblk => ?_)).mono (fun b hb => .inr ?_) (fun v M' _ h => h)
 ·have hMV' : M.le V' := hMV.trans hVV
  have hV'j : ∀ b, jbM b13 ad b → V' b = none := fun b hb => by rw [hVk b (hj16 b hb) (hsome b hb)]; exact hVD b (.inr hb)
  have hM'j : ∀ b, jbM b13 ad b → M' b = M22 b := fun b hb => hkeep b (hj16 b hb) (hsome b hb)
  have hV'2 : At V' b2 0 [.pointer (some ⟨tb, 0, none⟩)] := by
   refine At.blk (t := 31) (f := (0, 0)) ?_
   rw [hVk b2 n216 (by rw [g2]; rfl), hV2]; exact g2
  obtain ⟨st, _, hst⟩ := hw.stage
  let c : VsC := ⟨V', rs, s, E, tb, b16, ga, ea, fa, gl, gc, ec, eb, fc, .func (.func 82) #[] #[.pointer (some ⟨b2, 0, none⟩), .pointer (some ⟨b13, 0, none⟩)], .nilFunc, fun _ => jbM b13 ad, jM rs s E b13 (sumF rs) cap ad, sumF rs, st⟩
  have hc : c.Ok := by
   refine ⟨hw, hT, hs60, hM.le hMV', hfst, hst, fun u M M' hJ hk => ⟨hJ.frame hk, fun _ => Iff.rfl⟩, fun u M hJ b hb => hJ.has b hb, ⟨false, .inr ⟨_, _, _, rfl, rfl⟩, fun h => (by cases h), fun _ u n p e x M hok hp hl hn0 hn1 hR hVM hJ => ?_⟩, ⟨true, .inl ⟨rfl, rfl⟩, fun _ u i p M ⟨L, a1, a2, a3, a4⟩ => ⟨L, a1, a2, a3, a4.skip i p⟩, fun h => (by cases h)⟩, Nat.le_refl _, by show sumF rs ≤ 100000; omega⟩
   exact f_chaffref_Table_Marks_1 _ _ _ _ _ _ _ _ (marks1_is hT hs60 h10 hg13 (fun b hb => hb) ((hM.le hMV').le hVM) (hV'2.le hVM) hok hp hl (hR.le hVM) hn0 hn1 hJ fun M2 hJ2 => ⟨rfl, hJ2, fun b hb => .inl hb⟩)
  have hJ0 : jM rs s E b13 (sumF rs) cap ad [] M' := by
   refine ⟨List.replicate (sumF rs) 0, by simp, (hM'j b13 (.inl rfl)).trans g13, ?_, MK.init _⟩
   have := hnr.roww
   rw [← cl_replicate core.iC (sumF rs) 0] at this
   exact this.same fun g o hg ho => by rw [hM'j g (.inr hg)]; exact hle22 _ _ ho
  have hB : VB c [] [] M' := by
   refine ⟨hV'M, fun b hb => ?_, ⟨none, 0, hblk, ⟨rfl, Nat.le_refl _, by decide, .inl ⟨rfl, rfl, rfl⟩⟩, fun g hg => by cases hg⟩, fun hb => hj16 _ hb rfl, hJ0, by simp, fun x hx => by cases hx⟩
   rcases (own_row (c := c) hblk).1 hb with rfl | hb | hb
   ·exact hV'16
   ·cases hb
   ·exact hV'j b hb
  have hDn : ∀ b, V' b = none → M18 b = none := fun b hb => by
   cases hv : M18 b with
   | none => rfl
   | some o => rw [hVV _ _ (hMV1 b o hv)] at hb; cases hb
  refine (s_chaffref_Visit_rule _ _ _ _ _ _ (vfirst_is hc (t := t) hg hB fun M11 u hal hV11 hJ => ⟨rfl, fun M12 hle12 => ?_⟩)).mono (fun b hb => .inl (hDn b (hB.off b hb))) (fun v M' _ h => h)
  obtain ⟨L, a1, a2, a3, a4⟩ := hJ
  exact ⟨rfl, ad, sumF rs, cap, (At.blk a2).le hle12, fun M13 hle13 => hK M13 ad cap L u (hMV'.trans (hV11.trans (hle12.trans hle13))) hal a1 (a3.slv.le (hle12.trans hle13)) a4⟩
 ·cases hv : M b with
  | none => rfl
  | some o => rw [hle11 _ _ hv] at hb; cases hb
theorem ints_equal {l : List Int} {A B : Option Addr} {a b : Nat} {M : Mem} {n : Nat} (hn : l.length = n) (h1 : SlV M A n a 1 (cl core.iC l)) (h2 : SlV M B n b 1 (cl core.iC l)) (K : Value → Prop) (hK : K (.bool true)) : S_slices_Equal_int A n a B n b M K := by
 have hm := h1.max
 unfold S_slices_Equal_int
 refine ⟨fun h => absurd rfl h, fun _ => ⟨fun i => 0 ≤ i ∧ i ≤ n, fun i => n - i.toNat, ⟨by omega, by omega⟩, fun i ⟨i0, i1⟩ => ⟨fun hlt => ?_, fun _ => hK⟩⟩⟩
 obtain ⟨x, hx⟩ := core.getI (l := l) i0 (by omega)
 obtain ⟨b1, o1, ha1, hat1⟩ := h1.at iC_len hn hx
 obtain ⟨b2, o2, ha2, hat2⟩ := h2.at iC_len hn hx
 exact ⟨b1, o1, ha1, i0, hlt, x, hat1, b2, o2, ha2, i0, hlt, x, hat2, fun h => absurd rfl h, fun _ => ⟨by unfold InI; omega, ⟨by omega, by omega⟩, by dsimp only; omega⟩⟩
end
theorem walk : WalkGoal := by
 intro H enc W x n B hx s hs
 obtain ⟨rs, hg⟩ := gr_of (A := x.a) (l := x.l) (c := x.c) hx
 refine s_chafflaw_CoverSays _ _ _ _ _ _ ?_
 unfold S_chafflaw_CoverSays
 generalize HM W = M at *
 refine e_cover_Of _ _ _ _ _ _ (cov_is hg (fun h M' hle => ⟨_, _, _, _, rfl, ?_⟩) fun h E hT t hgo M' ad cap L hle hlen hsl hmk => ⟨_, _, _, _, rfl, ?_⟩)
 ·exact s_chaffref_Look _ _ _ _ _ _ (rlook_is (hg.le hle) s _ ⟨_, rfl, fun _ => ⟨fun _ => rfl, fun hn => absurd rfl hn⟩, fun hn => absurd h hn⟩)
 ·obtain ⟨hw, hs60⟩ := look_ok h
  refine s_chaffref_Look _ _ _ _ _ _ (rlook_is (hg.le hle) s _ ⟨_, rfl, fun hn => absurd h hn, fun _ => ⟨fun _ => e_chaffref_Fill _ _ _ _ _ _ (fill_is hw hs60 (hg.le hle) _ fun M15 b ea ec eb E' hle15 hT' hTab => ⟨_, rfl, ?_⟩), fun hn => absurd rfl hn⟩⟩)
  have hE : ∀ p i : Nat, p ≤ s.length → i < rs.length → E p i = E' p i := fun p i hp hi => tab_same hw hT hT' hp hi
  refine e_chaffref_Table_Marks _ _ _ (rmarks_is hw hT hs60 (hTab.same hE) hgo fun M2 ad2 cap2 L2 u hle2 hal hlen2 hsl2 hmk2 => ⟨_, _, _, rfl, ?_⟩)
  have := hmk.same hmk2 hal.2 (by omega)
  subst this
  exact s_slices_Equal_int _ _ _ _ _ _ _ _ (ints_equal hlen (hsl.le (hle15.trans hle2)) hsl2 _ ⟨_, rfl, rfl⟩)
theorem holds : Rows.CoverSaysSaid := top walk
#print axioms holds
end Go.Proofs.Ytifkffmecfgpeaa.lawCoverSays
