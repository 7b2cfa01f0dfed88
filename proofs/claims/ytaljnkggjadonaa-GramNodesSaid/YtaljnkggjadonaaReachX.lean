/- Contracts of functions: what each answers at every input that its caller may hand it. No condition. -/
import Derived.Test.YtaljnkggjadonaaReachG
import Derived.Test.YtaljnkggjadonaaWell8X
namespace Go.Proofs.Ytaljnkggjadonaa.core
open Go.Gx Go.RowKit Go.ChangeShapes Go.WideShapes Go.ChangeAt
/-! ### Nodes and Reach -/

theorem bools_equal {A B : Option Addr} {n m c d : Nat} {xs ys : List Bool} {M : Mem} (h : SlV M A n c 1 (cl bC xs)) (k : SlV M B m d 1 (cl bC ys)) (K : Value → Prop) (hK : K (.bool (decide (xs = ys)))) : S_slices_Equal_bool A n c B m d M K := by
  have hn := h.len bC_len (by omega)
  have hm := k.len bC_len (by omega)
  have hmx := h.max
  unfold S_slices_Equal_bool
  refine ⟨fun hne => ?_, fun he => ?_⟩
  · rw [show decide (xs = ys) = false from decide_eq_false (by rintro rfl; omega)] at hK; exact hK
  have he : n = m := by omega
  refine ⟨fun i => 0 ≤ i ∧ i ≤ n ∧ xs.take i.toNat = ys.take i.toNat, fun i => n - i.toNat, ⟨by omega, by omega, by simp⟩, fun i ⟨i0, i1, heq⟩ => ⟨fun hlt => ?_, fun hge => ?_⟩⟩
  · obtain ⟨a, ha⟩ := getI (l := xs) i0 (by omega)
    obtain ⟨b, hb⟩ := getI (l := ys) i0 (by omega)
    obtain ⟨b1, o1, ha1, hat1⟩ := h.at bC_len hn ha
    obtain ⟨b2, o2, ha2, hat2⟩ := k.at bC_len hm hb
    refine ⟨b1, o1, ha1, i0, hlt, a, hat1, b2, o2, ha2, i0, by omega, b, hat2, fun hne => ?_, fun hs => ⟨by unfold InI; omega, ⟨by omega, by omega, ?_⟩, by dsimp only; omega⟩⟩
    · rw [show decide (xs = ys) = false from decide_eq_false (by rintro rfl; rw [ha] at hb; cases hb; exact hne rfl)] at hK; exact hK
    · have hs := Classical.not_not.1 hs
      rw [show (i + 1).toNat = i.toNat + 1 by omega, take_get ha, take_get hb, heq, hs]
  · rw [List.take_of_length_le (by omega), List.take_of_length_le (by omega)] at heq
    rw [show decide (xs = ys) = true from decide_eq_true heq] at hK; exact hK

def sumF (rs : List Ru) : Nat := (rs.map fun r => (flatE r.body).length).sum

theorem gnodes_is {rs : List Ru} {ga : Option Addr} {gl gc : Nat} {M : Mem} (hg : GrR M rs ga gl gc) (K : Value → Prop) (h1 : gramErr rs ≠ 0 → K (.tuple #[.int .i64 0, .int .i64 (gramErr rs)])) (h2 : gramErr rs = 0 → K (.tuple #[.int .i64 (sumF rs : Nat), .int .i64 0])) : S_gram_Nodes ga gl gc M K := by
  unfold S_gram_Nodes
  refine s_gram_Check _ _ _ _ _ (gcheck_is hg _ ⟨_, rfl, fun h => h1 h, fun h => ?_⟩)
  have h0 : gramErr rs = 0 := by simpa using h
  have hok := gram_ok h0
  have h10 := hok.ten
  have hgl := hg.len
  have hall := hok.all
  have K2 := h2 h0
  rw [hgl]
  have hsplit : ∀ k : Nat, ((rs.take k).map fun r => (flatE r.body).length).sum ≤ sumF rs := by
    intro k
    have := congrArg (fun l : List Ru => (l.map fun r => (flatE r.body).length).sum) (List.take_append_drop k rs)
    simp only [List.map_append, List.sum_append] at this
    unfold sumF; omega
  unfold sumF at hsplit K2
  refine ⟨fun all i => 0 ≤ i ∧ i ≤ rs.length ∧ all = ((rs.take i.toNat).map fun r => (flatE r.body).length).sum, fun _ i => rs.length - i.toNat, ⟨by omega, by omega, by simp⟩, fun all i ⟨i0, i1, hall'⟩ => ⟨fun hlt => ?_, fun hge => ?_⟩⟩
  · obtain ⟨r, x, b, o, hr, ha, hat, hrr⟩ := hg.at i0 (by rw [hgl]; exact hlt)
    have herr := hok.err r (List.mem_of_getElem? hr)
    obtain ⟨hf60, _⟩ := flat_max herr
    have hs := hsplit i.toNat
    refine ⟨b, o, ha, i0, hlt, x, hat, s_expr_Size _ _ _ (size_is r.body x.Body _ _ hrr.2.2 (fun h => absurd herr h) fun _ => ⟨_, _, rfl, by unfold InI; omega, by unfold InI; omega, ⟨by omega, by omega, ?_⟩, by dsimp only; omega⟩)⟩
    rw [show (i + 1).toNat = i.toNat + 1 by omega, take_get hr, List.map_append, List.sum_append, hall']; simp
  · rw [List.take_of_length_le (by omega)] at hall'
    rw [hall']; exact K2

theorem rall_is {rs : List Ru} {ga : Option Addr} {gl gc : Nat} {M : Mem} (hok : GramOk rs) (hg : GrR M rs ga gl gc) (K : Value → Mem → Prop)
    (hK : ∀ M' ad cap, M.le M' → K (.slice ad (sumF rs) cap) M') : S_chaffref_All ga gl gc M K := by
  have h10 := hok.ten
  have hgl := hg.len
  have hall := hok.all
  unfold S_chaffref_All
  rw [hgl]
  have hsplit : ∀ k : Nat, ((rs.take k).map fun r => (flatE r.body).length).sum ≤ sumF rs := by
    intro k
    have := congrArg (fun l : List Ru => (l.map fun r => (flatE r.body).length).sum) (List.take_append_drop k rs)
    simp only [List.map_append, List.sum_append] at this
    unfold sumF; omega
  have hs120 : sumF rs ≤ 120 := hall
  refine ⟨fun i rn rx M1 => 0 ≤ i ∧ i ≤ rs.length ∧ M.le M1 ∧ rn = ((rs.take i.toNat).map fun r => (flatE r.body).length).sum, fun i _ _ => rs.length - i.toNat, ⟨by omega, by omega, Mem.le.refl M, by simp⟩, fun i rn rx M1 ⟨i0, i1, hM1, hrn⟩ => ⟨fun hlt => ?_, fun hge => ?_⟩⟩
  · obtain ⟨r, x, b, o, hr, ha, hat, hrr⟩ := (hg.le hM1).at i0 (by rw [hgl]; exact hlt)
    have herr := hok.err r (List.mem_of_getElem? hr)
    obtain ⟨hf60, _, htake, hflat⟩ := flat_max herr
    have hs := hsplit i.toNat
    refine ⟨b, o, ha, i0, hlt, x, hat, s_chaffref_Nodes _ _ _ (nodes_is r.body x.Body _ _ hrr.2.2 fun M3 A3 c3 xs hle3 hsl3 hall3 => ⟨_, _, _, rfl, ?_⟩)⟩
    rw [htake] at hall3
    have hxl := hall3.length
    have hfl : (flatE r.body).length = xs.length := by rw [hxl, ← hflat, List.length_map]
    refine ⟨fun j rn2 rx2 => 0 ≤ j ∧ j ≤ xs.length ∧ (rn2 : Int) = rn + j, fun j _ _ => xs.length - j.toNat, ⟨by omega, by omega, by omega⟩, fun j rn2 rx2 ⟨j0, j1, hrn2⟩ => ⟨fun hltj => ?_, fun hgej => ?_⟩⟩
    · obtain ⟨p, hp⟩ := getI (l := preE 1 r.body) j0 (by omega)
      obtain ⟨y, hy, _, _⟩ := hall3.get hp
      obtain ⟨b2, o2, ha2, hat2⟩ := hsl3.at Xn_len rfl hy
      exact ⟨b2, o2, ha2, j0, hltj, y, hat2, by omega, by unfold InI; omega, ⟨by omega, by omega, by omega⟩, by dsimp only; omega⟩
    · refine ⟨by unfold InI; omega, ⟨by omega, by omega, hM1.trans hle3, ?_⟩, by dsimp only; omega⟩
      rw [show (i + 1).toNat = i.toNat + 1 by omega, take_get hr, List.map_append, List.sum_append]
      simp only [List.map_cons, List.map_nil, List.sum_cons, List.sum_nil]
      omega
  · intro M2 ad cap hle2 hsl2 M3 hle3
    rw [List.take_of_length_le (by omega)] at hrn
    have : rn = sumF rs := hrn
    rw [this]
    exact hK M3 ad cap ((hM1.trans hle2).trans hle3)

/-! #### What is reached -/

def sc (rs : List Ru) (i : Nat) : List Nat := match rs[i]? with
  | some r => (refsE r.body).map fun s => (findR s rs 0).toNat
  | none => []
/-- All that is named is in it. -/
def Shut (rs : List Ru) (v : List Bool) : Prop := ∀ j m, wkB v j = true → m ∈ sc rs j → wkB v m = true

theorem wkB_set {v : List Bool} {i j : Nat} (hi : i < v.length) : wkB (v.set i true) j = (decide (i = j) || wkB v j) := by
  unfold wkB
  rw [List.getElem?_set]
  by_cases h : i = j
  · subst h; simp [hi]
  · simp [h]
theorem wkB_le {v z : List Bool} (h : leL bLe v z) {j : Nat} (hj : wkB v j = true) : wkB z j = true := by
  unfold wkB at hj ⊢
  cases hv : v[j]? with
  | none => rw [hv] at hj; cases hj
  | some a =>
    obtain ⟨b, hb⟩ := getN (l := z) (i := j) (by have := (List.getElem?_eq_some_iff.1 hv).1; have := h.1; omega)
    rw [hv] at hj
    rw [hb]; exact h.2 j a b hv hb hj
theorem le_wkB {v z : List Bool} (hl : v.length = z.length) (h : ∀ j, wkB v j = true → wkB z j = true) : leL bLe v z :=
  ⟨hl, fun j a b ha hb ht => by
    have := h j (by rw [wkB, ha]; exact ht)
    rw [wkB, hb] at this; exact this⟩
theorem le_set {v z : List Bool} {i : Nat} (hi : i < v.length) (h : leL bLe v z) (hz : wkB z i = true) : leL bLe (v.set i true) z :=
  le_wkB (by simpa using h.1) fun j hj => by
    rw [wkB_set hi] at hj
    rcases Bool.or_eq_true .. ▸ hj with hj | hj
    · have : i = j := by simpa using hj
      rw [← this]; exact hz
    · exact wkB_le h hj

theorem refs_lt {rs : List Ru} {r : Ru} (hok : GramOk rs) (hr : r ∈ rs) : ∀ s ∈ refsE r.body, 0 ≤ findR s rs 0 := by
  intro s hs
  have key : ∀ (l : List Ex) (acc : List (List UInt8)), s ∈ l.foldl refStep acc → s ∈ acc ∨ ∃ x ∈ l, x.kind = 4 ∧ x.text = s := by
    intro l
    induction l with
    | nil => intro acc h; exact .inl h
    | cons a t ih =>
      intro acc h
      rcases ih _ h with h | ⟨x, hx, h⟩
      · unfold refStep at h
        split at h
        · rename_i hk
          rcases List.mem_append.1 h with h | h
          · exact .inl h
          · simp at h; exact .inr ⟨a, by simp, hk.1, h.symm⟩
        · exact .inl h
      · exact .inr ⟨x, by simp [hx], h⟩
  rcases key _ _ hs with h | ⟨x, hx, hk, ht⟩
  · cases h
  · rw [← ht]
    have good : ∀ e : Ex, GoodE rs e → x ∈ flatE e → 0 ≤ findR x.text rs 0 := by
      intro e
      induction hn : SizeOf.sizeOf e using Nat.strongRecOn generalizing e with
      | _ n ih =>
        subst hn
        intro hge he
        rw [flatE_eq] at he
        rcases List.mem_cons.1 he with rfl | he
        · exact hge.ref hk
        · have hex : ∀ ks : List Ex, x ∈ flatEs ks → ∃ k ∈ ks, x ∈ flatE k := by
            intro ks
            induction ks with
            | nil => intro h; rw [flatEs] at h; cases h
            | cons a t iht =>
              intro h
              rw [flatEs] at h
              rcases List.mem_append.1 h with h | h
              · exact ⟨a, by simp, h⟩
              · obtain ⟨k, hk, hk2⟩ := iht h; exact ⟨k, by simp [hk], hk2⟩
          obtain ⟨k, hk', hk2⟩ := hex _ he
          exact ih _ (Ex.kid_lt hk') k rfl (hge.kid k hk') hk2
    exact good _ (hok.good r hr) hx

/-- All but one block is as it was. -/
def Keep (g : Nat) (M M' : Mem) : Prop := ∀ x o, x ≠ g → M x = some o → M' x = some o
theorem Keep.refl (g : Nat) (M : Mem) : Keep g M M := fun _ _ _ h => h
theorem Keep.trans {g : Nat} {A B C : Mem} (h : Keep g A B) (k : Keep g B C) : Keep g A C := fun x o hx hA => k x o hx (h x o hx hA)
theorem Keep.more {g : Nat} {A B C : Mem} (h : Keep g A B) (k : B.le C) : Keep g A C := fun x o hx hA => k x o (h x o hx hA)
theorem Keep.put {g : Nat} {A B : Mem} (h : Keep g A B) (o : Nat) (vs : List Value) : Keep g A (B.put g o vs) := fun x q hx hA => by rw [Mem.put_ne hx]; exact h x q hx hA
theorem At.keep {g : Nat} {M M' : Mem} {b o : Nat} {vs : List Value} (h : At M b o vs) (hk : Keep g M M') (hb : b ≠ g) : At M' b o vs := by
  intro j v hj
  have := h j v hj
  unfold Mem.cell at this ⊢
  cases hm : M b with
  | none => rw [hm] at this; cases this
  | some q => rw [hk b q hb hm]; rw [hm] at this; exact this

/-- What a visit does. -/
structure Vis (rs : List Ru) (i : Nat) (v v' : List Bool) : Prop where
  le : leL bLe v v'
  me : wkB v' i = true
  low : ∀ z, z.length = v.length → Shut rs z → wkB z i = true → leL bLe v z → leL bLe v' z
  new : ∀ j, wkB v j = false → wkB v' j = true → ∀ m ∈ sc rs j, wkB v' m = true

theorem At.ofAdd {M : Mem} {b : Nat} {vs : List Value} {t : TypeId} {f : Nat × Nat} : At (M.add b (.cells vs.toArray t f)) b 0 vs := by
  intro j v hj
  unfold Mem.cell
  rw [Mem.add_eq, Nat.zero_add]
  simpa using hj

theorem visit_is {rs : List Ru} {V : Mem} {ga ad : Option Addr} {gl gc cap b2 b3 b4 g : Nat} (hok : GramOk rs) (hg : GrR V rs ga gl gc) (h2 : At V b2 0 [Value.slice ad rs.length cap]) (h3 : At V b3 0 [Value.slice ga gl gc])
    (h4 : At V b4 0 [Value.func (.func 51) #[] #[.pointer (some ⟨b2, 0, none⟩), .pointer (some ⟨b3, 0, none⟩), .pointer (some ⟨b4, 0, none⟩)]]) (had : ad = some ⟨g, 0, none⟩) :
    ∀ (w : Nat) (v : List Bool), wS bit 1 v < w → v.length = rs.length → ∀ (i : Nat), i < rs.length → ∀ (M : Mem) (L : Nat → Prop) (K : Value → Mem → Prop), L g → (∃ e, GrowI V M e 1 ad rs.length cap (cl bC v)) →
      (∀ M' v', v'.length = rs.length → (∃ e, GrowI V M' e 1 ad rs.length cap (cl bC v')) → Keep g M M' → Vis rs i v v' → K (.tuple #[]) M') → S_gram_Reach_1 (i : Int) b2 b3 b4 M L K := by
  intro w
  induction w with
  | zero => intro v h; omega
  | succ w ih =>
    intro v hw hvl i hi M L K hL hgr hK
    have h10 := hok.ten
    have hgl := hg.len
    obtain ⟨te, hgr⟩ := hgr
    obtain ⟨a, ha⟩ := getN (l := v) (i := i) (by omega)
    obtain ⟨b, o, hb, hat⟩ := hgr.row.slv.at bC_len hvl ha
    unfold S_gram_Reach_1
    refine ⟨_, _, _, h2.le hgr.le, b, o, hb, by omega, by omega, a, by rw [Int.toNat_natCast]; exact hat, fun ht M' hle => ?_, fun hf => ?_⟩
    · refine hK M' v hvl ⟨te, hgr.more hle⟩ ((Keep.refl g M).more hle) ⟨leL.refl bLat v, by rw [wkB, ha]; exact ht, fun z _ _ _ hz => hz, fun j h1 h2' => by rw [h1] at h2'; cases h2'⟩
    have hf : a = false := by simpa using hf
    subst hf
    have hob := hb
    rw [had] at hob
    simp only [Option.some.injEq, Addr.mk.injEq, and_true] at hob
    obtain ⟨hgb, _⟩ := hob
    obtain ⟨q1, q2, q3⟩ := hgr.put bC_len hvl (i := i) hi hb true
    refine ⟨_, _, _, h2.le hgr.le, b, o, hb, by omega, by omega, by rw [Int.toNat_natCast]; exact q1, by left; rw [← hgb]; exact hL, fun M16 hM16 => ?_⟩
    rw [Int.toNat_natCast] at hM16
    have hM16' : M16 = M.put b (o + i * 1) (bC true) := hM16
    subst hM16'
    have hvis := fun j => wkB_set (v := v) (i := i) (j := j) (by omega)
    have hwlt := wS_set bLat ha (show bLe false true from fun h => (by cases h)) (by decide)
    have hg16 := hg.le q3.le
    obtain ⟨r, x, b5, o5, hr, ha5, hat5, hrr⟩ := hg16.at (i := (i : Int)) (by omega) (by rw [hgl]; omega)
    rw [Int.toNat_natCast] at hr hat5
    have hrm := List.mem_of_getElem? hr
    refine ⟨_, _, _, h3.le q3.le, b5, o5, ha5, by omega, by rw [hgl]; omega, x.Body, by rw [Int.toNat_natCast]; exact hat5.part 1 x.Body.cells rfl, ?_⟩
    have hsc : sc rs i = (refsE r.body).map fun s => (findR s rs 0).toNat := by unfold sc; simp only [hr]
    refine refs_isF r.body x.Body _ _ hrr.2.2 (fun h => absurd (hok.err r hrm) h) fun _ M27 A27 c27 hle27 hsl27 hfr27 => ⟨_, _, _, _, rfl, ?_⟩
    have hrl := refs_lt hok hrm
    have hmx27 := hsl27.max
    have hsl27' : SlV M27 A27 (refsE r.body).length c27 1 (cl sC (refsE r.body)) := by
      have : cl sC (refsE r.body) = strV (refsE r.body) := flat_one (fun s => Value.string (mkS s)) (refsE r.body)
      rw [this]; exact hsl27
    refine ⟨List Bool, fun gh x M5 => 0 ≤ x ∧ x ≤ (refsE r.body).length ∧ gh.length = rs.length ∧ Keep b M27 M5 ∧ (∃ e, GrowI V M5 e 1 ad rs.length cap (cl bC gh)) ∧ leL bLe (v.set i true) gh ∧ (∀ z, z.length = v.length → Shut rs z → wkB z i = true → leL bLe v z → leL bLe gh z) ∧ (∀ j, wkB (v.set i true) j = false → wkB gh j = true → ∀ m ∈ sc rs j, wkB gh m = true) ∧ (∀ s ∈ (refsE r.body).take x.toNat, wkB gh (findR s rs 0).toNat = true), fun _ x => (refsE r.body).length - x.toNat, v.set i true, ⟨by omega, by omega, by simp [hvl], Keep.refl b M27, ⟨te, q3.more hle27⟩, leL.refl bLat _, fun z hz hs hzi hvz => le_set (by omega) hvz hzi, fun j h1 h2' => (by rw [h1] at h2'; cases h2'), fun s hs => (by simp at hs)⟩, fun gh x5 M5 ⟨x0, x1, hghl, hkeep, hgr5, hle5, hlow5, hnew5, hdone⟩ => ⟨fun hlt => ?_, fun hge => ?_⟩⟩
    · obtain ⟨te5, hgr5⟩ := hgr5
      obtain ⟨s, hs⟩ := getI (l := refsE r.body) x0 hlt
      have hpos := hrl s (List.mem_of_getElem? hs)
      obtain ⟨hflt, _⟩ := findR_lt hpos
      obtain ⟨b6, o6, ha6, hat6⟩ := hsl27'.at (f := sC) (fun _ => rfl) rfl hs
      have hb6 : b6 ≠ b := by
        rintro rfl
        have := hfr27 _ _ ha6
        obtain ⟨c, t, hc, _⟩ := q1
        rw [Mem.put_eq hc] at this
        cases this
      have hat6' : At M5 b6 (o6 + x5.toNat * 1) [Value.string (mkS s)] := At.keep hat6 hkeep hb6
      refine ⟨b6, o6, ha6, x0, hlt, s, hat6', _, h4.le hgr5.le, _, _, _, h3.le hgr5.le, s_gram_Find _ _ _ _ _ _ (find_is (hg.le hgr5.le) s _ ⟨_, rfl, ?_⟩)⟩
      have hnat : findR s rs 0 = ((findR s rs 0).toNat : Int) := by omega
      rw [hnat]
      have hwgh : wS bit 1 gh < w := by
        have := (wS_le bLat hle5).1
        omega
      refine f_gram_Reach_1 _ _ _ _ _ _ _ (ih gh hwgh hghl _ hflt M5 _ _ (.inl hL) ⟨te5, hgr5⟩ fun M6 v6 hv6l hgr6 hk6 hvis6 => ⟨rfl, ?_⟩)
      refine ⟨by unfold InI; omega, v6, ⟨by omega, by omega, hv6l, hkeep.trans (hgb ▸ hk6), hgr6, hle5.trans bLat hvis6.le, fun z hz hs' hzi hvz => ?_, fun j h1 h2' m hm => ?_, fun s' hs' => ?_⟩, by dsimp only; omega⟩
      · have h5 := hlow5 z hz hs' hzi hvz
        have hzm : wkB z (findR s rs 0).toNat = true := hs' i _ hzi (by rw [hsc]; exact List.mem_map.2 ⟨s, List.mem_of_getElem? hs, rfl⟩)
        exact hvis6.low z (by rw [hghl, hz, hvl]) hs' hzm h5
      · cases hgj : wkB gh j with
        | true => exact wkB_le hvis6.le (hnew5 j h1 hgj m hm)
        | false => exact hvis6.new j hgj h2' m hm
      · rw [show (x5 + 1).toNat = x5.toNat + 1 by omega, take_get hs] at hs'
        rcases List.mem_append.1 hs' with hs' | hs'
        · exact wkB_le hvis6.le (hdone s' hs')
        · simp at hs'; rw [hs']; exact hvis6.me
    · intro M6 hle6
      obtain ⟨te5, hgr5⟩ := hgr5
      rw [List.take_of_length_le (by omega)] at hdone
      have hvi : leL bLe v (v.set i true) := leL.set bLat ha (fun h => (by cases h))
      refine hK M6 gh hghl ⟨te5, hgr5.more hle6⟩ (((((Keep.refl g M).trans (by rw [hgb]; exact (Keep.refl b M).put _ _)).more hle27).trans (hgb ▸ hkeep)).more hle6) ⟨hvi.trans bLat hle5, wkB_le hle5 (by rw [hvis]; simp), hlow5, fun j h1 h2' m hm => ?_⟩
      by_cases hji : i = j
      · subst hji
        rw [hsc] at hm
        obtain ⟨s, hs, rfl⟩ := List.mem_map.1 hm
        exact hdone s hs
      · exact hnew5 j (by rw [hvis]; simp [hji, h1]) h2' m hm

theorem reach_is {rs : List Ru} {ga : Option Addr} {gl gc : Nat} {M : Mem} (hg : GrR M rs ga gl gc) (K : Value → Mem → Prop) (h1 : gramErr rs ≠ 0 → ∀ M', M.le M' → K (.tuple #[.slice none 0 0, .int .i64 (gramErr rs)]) M')
    (h2 : gramErr rs = 0 → ∀ M' ad cap v, M.le M' → SlV M' ad rs.length cap 1 (cl bC v) → v.length = rs.length → Vis rs 0 (List.replicate rs.length false) v → K (.tuple #[.slice ad rs.length cap, .int .i64 0]) M') : S_gram_Reach ga gl gc M (fun _ => False) K := by
  unfold S_gram_Reach
  refine s_gram_Check _ _ _ _ _ (gcheck_is hg _ ⟨_, rfl, fun h => fun M' hle => h1 h M' hle, fun h => ?_⟩)
  have h0 : gramErr rs = 0 := by simpa using h
  have hok := gram_ok h0
  have h10 := hok.ten
  have h11 := hok.one
  have hgl := hg.len
  have hgl' := hgl
  subst hgl'
  simp only [Int.toNat_natCast]
  refine ⟨by omega, by omega, by omega, fun M11 ad cap hnr b7 M12 hb7 hM12 b4 M13 hb4 hM13 b10 M14 hb10 hM14 => ?_⟩
  have hgrow := GrowI.make hnr
  obtain ⟨_, _, _, ⟨_, hbad, _⟩ | ⟨g, cur, had, hMg, _, _, hM11⟩⟩ := hnr
  · omega
  have hg11 : M11 g = some (.cells cur 4 (0, 0)) := by rw [hM11]; exact Mem.add_eq
  have hle12 : M11.le M12 := by rw [hM12]; exact Mem.add_le hb7
  have hle13 : M12.le M13 := by rw [hM13]; exact Mem.add_le hb4
  have hle14 : M13.le M14 := by rw [hM14]; exact Mem.add_le hb10
  have h7g : b7 ≠ g := by rintro rfl; rw [hb7] at hg11; cases hg11
  have h4g : b4 ≠ g := by rintro rfl; rw [hle12 _ _ hg11] at hb4; cases hb4
  have h10g : b10 ≠ g := by rintro rfl; rw [hle13 _ _ (hle12 _ _ hg11)] at hb10; cases hb10
  let V : Mem := fun x => if x = g then none else M14 x
  have hVle : V.le M14 := fun x o hx => by simp only [V] at hx; split at hx; · cases hx
                                           · exact hx
  have hMV : M.le V := fun x o hx => by
    have hxg : x ≠ g := by rintro rfl; rw [hMg] at hx; cases hx
    simp only [V, if_neg hxg]
    exact hle14 _ _ (hle13 _ _ (hle12 _ _ (hgrow.le _ _ hx)))
  have hatV : ∀ {b : Nat} {vs : List Value}, b ≠ g → At M14 b 0 vs → At V b 0 vs := fun {b vs} hb h j v hj => by
    have := h j v hj
    unfold Mem.cell at this ⊢
    simp only [V, if_neg hb]; exact this
  have a7 : At M14 b7 0 [Value.slice ad rs.length cap] := ((by rw [hM12]; exact At.ofAdd : At M12 b7 0 _).le hle13).le hle14
  have a4 : At M14 b4 0 [Value.slice ga rs.length gc] := (by rw [hM13]; exact At.ofAdd : At M13 b4 0 _).le hle14
  have a10 : At M14 b10 0 [Value.func (.func 51) #[] #[.pointer (some ⟨b7, 0, none⟩), .pointer (some ⟨b4, 0, none⟩), .pointer (some ⟨b10, 0, none⟩)]] := by rw [hM14]; exact At.ofAdd
  have hgr14 : GrowI V M14 4 1 ad rs.length cap (cl bC (List.replicate rs.length false)) := by
    refine ⟨hVle, ?_, fun g' o hg' => ?_⟩
    · rw [show cl bC (List.replicate rs.length false) = repl rs.length [Value.bool false] from cl_replicate bC _ false]
      exact ((hgrow.row.le hle12).le hle13).le hle14
    · rw [had] at hg'
      simp only [Option.some.injEq, Addr.mk.injEq, and_true] at hg'
      simp only [V]; rw [if_pos hg'.1.symm]
  refine s_gram_Reach_1 _ _ _ _ _ _ _ (visit_is hok (hg.le hMV) (hatV h7g a7) (hatV h4g a4) (hatV h10g a10) had _ (List.replicate rs.length false) (Nat.lt_succ_self _) (by simp) 0 h11 M14 _ _ (.inr hMg) ⟨_, hgr14⟩ fun M15 v hvl hgr15 hk15 hvis => ⟨rfl, ?_⟩)
  obtain ⟨te, hgr15⟩ := hgr15
  refine ⟨_, _, _, (hatV h7g a7).le hgr15.le, fun M16 hle16 => ?_⟩
  exact h2 h0 M16 ad cap v ((hMV.trans hgr15.le).trans hle16) (hgr15.row.slv.le hle16) hvl hvis
end Go.Proofs.Ytaljnkggjadonaa.core
