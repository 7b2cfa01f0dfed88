/- Contracts of functions: what each answers at every input that its caller may hand it. No condition. -/
import Derived.Test.YtaljnkggjadonaaFirst2X
namespace Go.Proofs.Ytaljnkggjadonaa.core
open Go.Gx Go.RowKit Go.ChangeShapes Go.WideShapes Go.ChangeAt
/-! ### The reference's First -/

theorem cl_get_sub {α : Type} {f : α → List Value} {sz : Nat} (hf : ∀ x, (f x).length = sz) {xs : List α} {i j : Nat} {x : α} {v : Value} (h : xs[i]? = some x) (hv : (f x)[j]? = some v) : (cl f xs)[i * sz + j]? = some v := by
  have := cl_Cs hf h
  unfold Cs at this
  have hj : j < sz := by rw [← hf x]; exact (List.getElem?_eq_some_iff.1 hv).1
  rw [← this, List.getElem?_take, if_pos (by rw [hf]; exact hj), List.getElem?_drop] at hv
  rw [← hv]; congr 1; omega
theorem Cs_one {xs : List Value} {k : Nat} {v : Value} (h : xs[k]? = some v) : Cs xs k [v] := by
  unfold Cs
  have hk := (List.getElem?_eq_some_iff.1 h).1
  rw [List.drop_eq_getElem_cons hk]
  simp only [List.length_cons, List.length_nil, Nat.zero_add, List.take_succ_cons, List.take_zero, List.cons.injEq, and_true]
  rw [List.getElem?_eq_getElem hk] at h; exact Option.some.inj h
theorem putAt_one {xs : List Value} {k : Nat} {v : Value} (h : k < xs.length) : putAt xs k [v] = xs.set k v := by
  rw [List.set_eq_take_append_cons_drop, if_pos h]
  simp [putAt]
theorem cl_put_sub {α : Type} {f : α → List Value} {sz : Nat} (hf : ∀ x, (f x).length = sz) {xs : List α} {i j : Nat} {x z : α} {v : Value} (h : xs[i]? = some x) (hj : j < sz) (hz : f z = (f x).set j v) : putAt (cl f xs) (i * sz + j) [v] = cl f (xs.set i z) := by
  have hi := (List.getElem?_eq_some_iff.1 h).1
  have hlt : i * sz + j < (cl f xs).length := by
    rw [cl_length hf]
    calc i * sz + j < i * sz + sz := by omega
      _ = (i + 1) * sz := by rw [Nat.succ_mul]
      _ ≤ xs.length * sz := Nat.mul_le_mul_right _ hi
  rw [putAt_one hlt, ← cl_put hf z hi, hz]
  have e : cl f xs = putAt (cl f xs) (0 + i * sz) (f x) := by rw [cl_put hf x hi, set_same h]
  rw [e]
  generalize cl f xs = L at hlt e ⊢
  have hlen : (L.take (0 + i * sz)).length = i * sz := by rw [List.length_take]; omega
  unfold putAt
  rw [List.append_assoc, List.append_assoc, List.set_append_right (h := by omega), hlen, Nat.add_sub_cancel_left, List.set_append_left (h := by rw [hf]; exact hj)]
  simp only [List.take_append, List.length_set, hlen, List.drop_append, hf, List.length_take]
  have hmn : min (0 + i * sz) (i * sz) = i * sz := by omega
  have hle : i * sz ≤ L.length := by omega
  simp [hf, List.drop_of_length_le, List.take_take, Nat.min_eq_left hle]

theorem Uw_cut {p : Nat → Bool} {w j : Nat} (h : ∀ k, j ≤ k → p (64 * w + k) = false) : ∀ m, Uw p w (j + m) = Uw p w j
  | 0 => rfl
  | m + 1 => by rw [← Nat.add_assoc, Uw, Uw_cut h m, h (j + m) (by omega)]; simp
theorem Uw_same {p q : Nat → Bool} {w : Nat} : ∀ j, (∀ k, k < j → p (64 * w + k) = q (64 * w + k)) → Uw p w j = Uw q w j
  | 0, _ => rfl
  | j + 1, h => by rw [Uw, Uw, Uw_same j fun k hk => h k (by omega), h j (by omega)]
theorem Us_cells (p : Nat → Bool) : (Us p).cells = (U4 p).map (Value.int .u64) := rfl
/-- One more byte. -/
theorem Us_more {p q : Nat → Bool} {n : Nat} (hn : n < 256) (hp : ∀ k, n ≤ k → p k = false) (hq : q n = true) (hq2 : ∀ k, n < k → q k = false) (hpq : ∀ k, k < n → p k = q k) :
    (Us p).cells[n / 64]? = some (.int .u64 (Uw p (n / 64) 64 : Nat)) ∧ (Us q).cells = (Us p).cells.set (n / 64) (.int .u64 (IntKind.wrap .u64 (((Uw p (n / 64) 64 : Nat) : Int) + bShl .u64 1 (((n % 64 : Nat)) : Int)))) := by
  have hw : n / 64 < 4 := by omega
  have hr : n % 64 < 64 := by omega
  rw [Us_cells, Us_cells, List.getElem?_map, U4_get p hw]
  refine ⟨rfl, ?_⟩
  have e1 : Uw p (n / 64) 64 = Uw p (n / 64) (n % 64) := by
    have := Uw_cut (p := p) (w := n / 64) (j := n % 64) (fun k hk => hp _ (by omega)) (64 - n % 64)
    rw [show n % 64 + (64 - n % 64) = 64 by omega] at this; exact this
  have e2 : Uw q (n / 64) 64 = Uw p (n / 64) (n % 64) + 2 ^ (n % 64) := by
    have := Uw_cut (p := q) (w := n / 64) (j := n % 64 + 1) (fun k hk => hq2 _ (by omega)) (64 - (n % 64 + 1))
    rw [show n % 64 + 1 + (64 - (n % 64 + 1)) = 64 by omega] at this
    rw [this, Uw, show 64 * (n / 64) + n % 64 = n by omega, if_pos hq, Uw_same (p := q) (q := p) _ fun k hk => (hpq _ (by omega)).symm]
  have hlt := Uw_lt q (n / 64) 64
  rw [bShlU _ hr, ← Int.natCast_add, e1, ← e2, wrapU _ (by omega), ← List.map_set, U4_set hw fun x hx hne => ?_]
  rcases Nat.lt_trichotomy x n with h | h | h
  · exact hpq x h
  · exact absurd (by rw [h]) hne
  · rw [hp x (by omega), hq2 x h]

/-! #### Rounds in place -/

structure RoundI (F : List Bool → Nat → Bool) (n : Nat) (w v : List Bool) (i : Int) : Prop where
  pre : Pre bLe F n v
  le : leL bLe w v
  st : (v = w ∧ ∀ (j : Nat) a, (j : Int) < i → w[j]? = some a → F w j = a) ∨ wS bit 1 v < wS bit 1 w
structure RoundsI (F : List Bool → Nat → Bool) (n : Nat) (w : List Bool) (k : Int) : Prop where
  pre : Pre bLe F n w
  st : (∀ (j : Nat) a, w[j]? = some a → F w j = a) ∨ (wS bit 1 w : Int) + k ≤ n
variable {F : List Bool → Nat → Bool} {n : Nat}
theorem RoundsI.init : RoundsI F n (List.replicate n false) 0 := ⟨pre_bot false (fun a h => (by cases h)) n, .inr (by
  have := wS_all (wt := bit) (m := 1) (List.replicate n false)
  rw [List.length_replicate] at this; omega)⟩
theorem RoundsI.first {w : List Bool} {k : Int} (h : RoundsI F n w k) : RoundI F n w w 0 := ⟨h.pre, leL.refl bLat _, .inl ⟨rfl, fun j a h => by omega⟩⟩
theorem RoundI.step (hF : MonoF bLe F n) {w v : List Bool} {m : Nat} {a : Bool} (h : RoundI F n w v m) (ha : v[m]? = some a) : RoundI F n w (v.set m (F v m)) (m + 1) := by
  have L := bLat
  obtain ⟨s1, s2⟩ := h.pre.step L hF ha
  refine ⟨s1, h.le.trans L s2, ?_⟩
  by_cases hsame : F v m = a
  · have hset : v.set m (F v m) = v := by rw [hsame]; exact set_same ha
    rw [hset]
    refine h.st.imp (fun ⟨e1, e2⟩ => ⟨e1, fun j b hj hjb => ?_⟩) id
    by_cases hjm : j = m
    · subst hjm
      rw [← e1] at hjb ⊢
      rw [ha] at hjb; cases hjb; exact hsame
    · exact e2 j b (by omega) hjb
  · right
    have hw := wS_set L ha (h.pre.up m _ ha) (fun e => hsame e.symm)
    have := (wS_le L h.le).1
    omega
/-- What holds already stays. -/
theorem RoundI.keep (hF : MonoF bLe F n) {w v : List Bool} {m : Nat} (h : RoundI F n w v m) (ha : v[m]? = some true) : RoundI F n w (v.set m true) (m + 1) := by
  have := h.step hF ha
  rw [h.pre.up m _ ha rfl] at this; exact this
theorem RoundI.last {w v : List Bool} {k i : Int} (h : RoundI F n w v i) (hk : RoundsI F n w k) (hi : (n : Int) ≤ i) : RoundsI F n v (k + 1) := by
  have L := bLat
  refine ⟨h.pre, ?_⟩
  rcases h.st with ⟨e1, e2⟩ | hlt3
  · left
    rw [e1]
    exact fun j a hja => e2 j a (by have := (List.getElem?_eq_some_iff.1 hja).1; rw [hk.pre.len] at this; omega) hja
  · right
    rcases hk.st with hfix | hws
    · exfalso
      have hlow := h.pre.low w hk.pre.len (fun j b hb => by rw [hfix j b hb]; exact L.refl b)
      have := (wS_le L hlow).1
      omega
    · omega
theorem RoundsI.lfp {w : List Bool} {k : Int} (h : RoundsI F n w k) (hk : (n : Int) ≤ k) : Lfp bLe F n w := by
  rcases h.st with hfix | hws
  · exact h.pre.lfp bLat hfix
  · exact h.pre.lfp bLat (pre_zero h.pre (by omega))

/-- The sets after the bytes below n, and those of byte n below i. -/
def oS (rs : List Ru) (n : Nat) (i : Int) (j : Nat) (b : Nat) : Bool := (decide (b < n) || (decide (b = n) && decide ((j : Int) < i))) && wkB (bgOf rs b) j
def oL (rs : List Ru) (n : Nat) (i : Int) : List X_api_Set := (List.range rs.length).map fun j => Us (oS rs n i j)
theorem oL_len (rs : List Ru) (n : Nat) (i : Int) : (oL rs n i).length = rs.length := by simp [oL]
theorem oL_get {rs : List Ru} {n : Nat} {i : Int} {j : Nat} (h : j < rs.length) : (oL rs n i)[j]? = some (Us (oS rs n i j)) := by
  unfold oL; rw [List.getElem?_map, List.getElem?_range h]; rfl
theorem oL_same {rs : List Ru} {n m : Nat} {i k : Int} (h : ∀ j, j < rs.length → ∀ b, b < 256 → oS rs n i j b = oS rs m k j b) : oL rs n i = oL rs m k := by
  unfold oL
  exact List.map_congr_left fun j hj => Us_congr fun b hb => h j (List.mem_range.1 hj) b hb
theorem oL_zero (rs : List Ru) : repl rs.length [Value.int .u64 0, Value.int .u64 0, Value.int .u64 0, Value.int .u64 0] = cl X_api_Set.cells (oL rs 0 0) := by
  refine (cl_replicate X_api_Set.cells rs.length (⟨0, 0, 0, 0⟩ : X_api_Set)).symm.trans ?_
  congr 1
  apply List.ext_getElem?
  intro j
  by_cases hj : j < rs.length
  · rw [oL_get hj, List.getElem?_replicate, if_pos hj]
    have : Us (oS rs 0 0 j) = Us fun _ => false := Us_congr fun b _ => by
      unfold oS
      have : decide (((j : Nat) : Int) < 0) = false := by simp
      rw [this]; simp
    rw [this]; rfl
  · rw [List.getElem?_eq_none (by simp; omega), List.getElem?_eq_none (by rw [oL_len]; omega)]
theorem oL_last (rs : List Ru) : oL rs 256 0 = fsOf rs := by
  unfold oL fsOf
  refine List.map_congr_left fun j _ => Us_congr fun b hb => ?_
  unfold oS; simp [hb]
theorem oL_next {rs : List Ru} {n : Nat} {i : Int} (h : (rs.length : Int) ≤ i) : oL rs n i = oL rs (n + 1) 0 := oL_same fun j hj b _ => by
  unfold oS
  have h1 : decide ((j : Int) < i) = true := decide_eq_true (by omega)
  have h2 : decide ((j : Int) < 0) = false := decide_eq_false (by omega)
  have h3 : decide (b < n + 1) = (decide (b < n) || decide (b = n)) := by rw [Bool.eq_iff_iff]; simp; omega
  rw [h1, h2, h3]; simp
theorem oL_no {rs : List Ru} {n m : Nat} (h : wkB (bgOf rs n) m = false) : oL rs n m = oL rs n (m + 1) := oL_same fun j hj b _ => by
  unfold oS
  by_cases hb : b = n
  · subst hb
    by_cases hjm : j = m
    · subst hjm; rw [h]; simp
    · have : decide ((j : Int) < (m : Int)) = decide ((j : Int) < (m : Int) + 1) := by rw [decide_eq_decide]; omega
      rw [this]
  · simp [hb]
theorem oL_yes {rs : List Ru} {n m : Nat} (h : wkB (bgOf rs n) m = true) (hm : m < rs.length) (hn : n < 256) : ∃ w : Int, (cl X_api_Set.cells (oL rs n m))[m * 4 + n / 64]? = some (.int .u64 w) ∧
    putAt (cl X_api_Set.cells (oL rs n m)) (m * 4 + n / 64) [.int .u64 (IntKind.wrap .u64 (w + bShl .u64 1 (((n % 64 : Nat)) : Int)))] = cl X_api_Set.cells (oL rs n (m + 1)) := by
  obtain ⟨h1, h2⟩ := Us_more (p := oS rs n m m) (q := oS rs n (m + 1) m) hn (fun k hk => by
    unfold oS
    have a1 : decide (k < n) = false := decide_eq_false (by omega)
    have a2 : decide ((m : Int) < (m : Int)) = false := decide_eq_false (by omega)
    rw [a1, a2]; simp) (by
    unfold oS
    have a2 : decide ((m : Int) < (m : Int) + 1) = true := decide_eq_true (by omega)
    rw [a2, h]; simp) (fun k hk => by
    unfold oS
    have a1 : decide (k < n) = false := decide_eq_false (by omega)
    have a2 : decide (k = n) = false := decide_eq_false (by omega)
    rw [a1, a2]; simp) (fun k hk => by
    unfold oS
    have a1 : decide (k < n) = true := decide_eq_true (by omega)
    rw [a1]; simp)
  refine ⟨_, cl_get_sub Xs_len (oL_get hm) h1, ?_⟩
  rw [cl_put_sub Xs_len (oL_get hm) (by omega) h2]
  congr 1
  apply List.ext_getElem?
  intro j
  by_cases hj : j < rs.length
  · rw [oL_get hj, List.getElem?_set]
    by_cases hjm : m = j
    · subst hjm; rw [if_pos rfl, if_pos (by rw [oL_len]; exact hm)]
    · rw [if_neg hjm, oL_get hj]
      congr 1
      refine Us_congr fun b _ => ?_
      unfold oS
      have : decide ((j : Int) < (m : Int)) = decide ((j : Int) < (m : Int) + 1) := by rw [decide_eq_decide]; omega
      rw [this]
  · rw [List.getElem?_eq_none (by simp [oL_len]; omega), List.getElem?_eq_none (by rw [oL_len]; omega)]

theorem begins_is' {rs : List Ru} {v : List Bool} {ga ra va : Option Addr} {gl gc rc vc rl vl : Nat} {c : Nat} (hc : c < 256) (hrl : rl = rs.length) (hvl : vl = rs.length) (hv' : v.length = rs.length) (e : Ex) {M : Mem} {x : X_api_Expr} {K : Value → Prop} (h1 : ExR M e x) (h2 : GrR M rs ga gl gc)
    (h3 : SlV M ra rl rc 1 (cl encC (knOf rs))) (h4 : SlV M va vl vc 1 (cl bC v)) (h5 : GoodE rs e) (hK : K (.bool (bgE rs (knOf rs) v c e))) : S_chaffref_begins ga gl gc ra rl rc va vl vc x (c : Int) M K := by
  have hkl := knOf_len rs
  rw [← hkl] at hrl
  rw [← hv'] at hvl
  subst hrl hvl
  exact begins_is hc hv' _ e (Nat.lt_succ_self _) h1 h2 h3 h4 h5 hK

theorem rfirst_is {rs : List Ru} {ga : Option Addr} {gl gc : Nat} {M : Mem} (hok : GramOk rs) (hg : GrR M rs ga gl gc) (K : Value → Mem → Prop)
    (h2 : ∀ M' ad cap, M.le M' → SlV M' ad rs.length cap 4 (cl X_api_Set.cells (fsOf rs)) → K (.slice ad rs.length cap) M') : S_chaffref_First ga gl gc M K := by
  unfold S_chaffref_First
  have h10 := hok.ten
  have hgl := hg.len
  have hkl := knOf_len rs
  refine s_chaffref_Mays _ _ _ _ _ (pmays_is hok hg _ fun M1 ad1 cap1 hle hsl => ⟨_, _, _, rfl, ?_⟩)
  subst hgl
  simp only [Int.toNat_natCast]
  refine ⟨by omega, by omega, by omega, fun b rn rx => ∃ n : Nat, b = n ∧ n ≤ 256 ∧ rn = rs.length ∧ rx = cl X_api_Set.cells (oL rs n 0), fun b _ _ => 256 - b.toNat, ⟨0, rfl, by omega, rfl, oL_zero rs⟩, fun b rn rx ⟨n, hb, hn, hrn, hrx⟩ => ?_⟩
  subst hb hrn hrx
  let F := Gbg rs (knOf rs) n
  have hF : MonoF bLe F rs.length := Gbg_mono rs _ _ _
  refine ⟨fun hlt => ?_, fun hge M2 ad2 cap2 hle2 hsl2 M' hle' => ?_⟩
  · have hlt' : n < 256 := by omega
    refine ⟨by omega, by omega, by omega, fun k rn rx => 0 ≤ k ∧ k ≤ rs.length ∧ ∃ w : List Bool, rn = rs.length ∧ rx = cl bC w ∧ RoundsI F rs.length w k, fun k _ _ => rs.length - k.toNat, ⟨by omega, by omega, List.replicate rs.length false, rfl, (cl_replicate bC _ _).symm, RoundsI.init⟩, fun k rn rx ⟨k0, k1, w, hrn, hrx, hw⟩ => ?_⟩
    subst hrn hrx
    refine ⟨fun hltk => ?_, fun hgek => ?_⟩
    · refine ⟨fun i rn rx => 0 ≤ i ∧ i ≤ rs.length ∧ ∃ v : List Bool, rn = rs.length ∧ rx = cl bC v ∧ RoundI F rs.length w v i, fun i _ _ => rs.length - i.toNat, ⟨by omega, by omega, w, rfl, rfl, hw.first⟩, fun i rn rx ⟨i0, i1, v, hrn, hrx, hv⟩ => ?_⟩
      subst hrn hrx
      refine ⟨fun hlti => ?_, fun hgei => ?_⟩
      · obtain ⟨m, rfl⟩ := Int.eq_ofNat_of_zero_le i0
        have hvl := hv.pre.len
        have hmn : m < rs.length := by omega
        obtain ⟨r, x, b, o, hr, ha, hat, hrr⟩ := (hg.le hle).at (i := (m : Int)) i0 (by omega)
        rw [Int.toNat_natCast] at hr hat
        have hmem := List.mem_of_getElem? hr
        obtain ⟨a, hva⟩ := getN (l := v) (i := m) (by omega)
        have hput : ∀ z : Bool, putAt (cl bC v) (0 + m * 1) [.bool z] = cl bC (v.set m z) := fun z => cl_put bC_len z (by omega)
        refine ⟨b, o, ha, i0, hlti, x, by rw [Int.toNat_natCast]; exact hat, i0, hlti, a, by rw [Int.toNat_natCast]; exact cl_Cs bC_len hva, fun ht => ⟨i0, hlti, ?_⟩, fun hf M2 ad2 cap2 hle2 hsl2 => ?_⟩
        · rw [Int.toNat_natCast, hput]
          subst ht
          exact ⟨by unfold InI; omega, ⟨by omega, by omega, _, rfl, rfl, hv.keep hF hva⟩, by dsimp only; omega⟩
        · have hFm : F v m = bgE rs (knOf rs) v n r.body := by show Gbg rs (knOf rs) n v m = _; unfold Gbg; simp only [hr]
          have hsl3 := hsl.le hle2
          have hg3 := hg.le (hle.trans hle2)
          refine s_chaffref_begins _ _ _ _ _ _ _ _ _ _ _ _ _ (begins_is' hlt' rfl rfl hvl r.body (hrr.2.2.le hle2) hg3 hsl3 hsl2 (hok.good r hmem) ⟨_, rfl, i0, hlti, ?_⟩)
          rw [Int.toNat_natCast, hput, ← hFm]
          exact ⟨by unfold InI; omega, ⟨by omega, by omega, _, rfl, rfl, hv.step hF hva⟩, by dsimp only; omega⟩
      · exact ⟨by unfold InI; omega, ⟨by omega, by omega, v, rfl, rfl, hv.last hw (by omega)⟩, by dsimp only; omega⟩
    · have hwl := hw.pre.len
      have hwe : w = bgOf rs n := bgOf_eq (hw.lfp (by omega))
      refine ⟨fun i rn rx => 0 ≤ i ∧ i ≤ rs.length ∧ rn = rs.length ∧ rx = cl X_api_Set.cells (oL rs n i), fun i _ _ => rs.length - i.toNat, ⟨by omega, by omega, rfl, rfl⟩, fun i rn rx ⟨i0, i1, hrn, hrx⟩ => ?_⟩
      subst hrn hrx
      obtain ⟨m, rfl⟩ := Int.eq_ofNat_of_zero_le i0
      refine ⟨fun hlti => ?_, fun hgei => ?_⟩
      · obtain ⟨a, hwa⟩ := getN (l := w) (i := m) (by omega)
        have hwk : wkB (bgOf rs n) m = a := by rw [← hwe, wkB, hwa]; rfl
        have e1 : (n : Int).tdiv 64 = ((n / 64 : Nat) : Int) := by rw [Int.tdiv_eq_ediv_of_nonneg (by omega)]; omega
        have e2 : (n : Int).tmod 64 = ((n % 64 : Nat) : Int) := by rw [Int.tmod_eq_emod_of_nonneg (by omega)]; omega
        refine ⟨i0, hlti, a, by rw [Int.toNat_natCast]; exact cl_Cs bC_len hwa, fun ht => ?_, fun hf => ?_⟩
        · subst ht
          obtain ⟨z, hz1, hz2⟩ := oL_yes hwk (by omega) hlt'
          have ei : 0 + (m : Int).toNat * 4 + ((n / 64 : Nat) : Int).toNat * 1 = m * 4 + n / 64 := by omega
          rw [e1, e2]
          refine ⟨by unfold InI; omega, i0, hlti, by omega, by omega, z, ?_, by omega, i0, hlti, by omega, by omega, ?_⟩
          · rw [ei]; exact Cs_one hz1
          · rw [ei, hz2]
            exact ⟨by unfold InI; omega, ⟨by omega, by omega, rfl, rfl⟩, by dsimp only; omega⟩
        · refine ⟨by unfold InI; omega, ⟨by omega, by omega, rfl, ?_⟩, by dsimp only; omega⟩
          rw [oL_no (by rw [hwk]; simpa using hf)]
      · exact ⟨by unfold InI; omega, ⟨n + 1, by omega, by omega, rfl, by rw [oL_next (by omega)]⟩, by dsimp only; omega⟩
  · have hn' : n = 256 := by omega
    subst hn'
    rw [oL_last] at hsl2
    exact h2 _ _ _ (hle.trans (hle2.trans hle')) (hsl2.le hle')
end Go.Proofs.Ytaljnkggjadonaa.core
