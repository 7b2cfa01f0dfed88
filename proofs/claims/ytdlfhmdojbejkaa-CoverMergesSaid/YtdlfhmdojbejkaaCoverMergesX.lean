/- For every input CoverMerges answers true and leaves its arguments as they were. No condition. -/
import Derived.Test.YtdlfhmdojbejkaaCoverMergesG
namespace Go.Proofs.Ytdlfhmdojbejkaa.lawCoverMerges
open Go.Gx Go.RowKit Go.ChangeShapes Go.WideShapes Go.ChangeAt
/-! ### Slices of one-cell elements -/

theorem flat_one {α : Type} (f : α → Value) : ∀ (zs : List α), (zs.map fun z => [f z]).flatten = zs.map f
  | [] => rfl
  | z :: r => by simp only [List.map_cons, List.flatten_cons, flat_one f r]; rfl

theorem SlV1 {α : Type} {f : α → Value} {M : Mem} {A : Option Addr} {l c : Nat} {zs : List α} (h : SlV M A l c 1 (zs.map f)) (hl : zs.length = l) {i : Nat} {z : α} (hz : zs[i]? = some z) :
    ∃ b o, A = some ⟨b, o, none⟩ ∧ At M b (o + i * 1) [f z] := by
  rw [← flat_one] at h
  exact h.elem hl (fun _ _ => rfl) hz

theorem SlV1.len {α : Type} {f : α → Value} {M : Mem} {A : Option Addr} {l c : Nat} {zs : List α} (h : SlV M A l c 1 (zs.map f)) : zs.length = l := by
  have := h.1
  simpa using this

theorem getI {α : Type} {l : List α} {i : Int} (h0 : 0 ≤ i) (h1 : i < (l.length : Int)) : ∃ x, l[i.toNat]? = some x := ⟨l[i.toNat]'(by omega), List.getElem?_eq_getElem _⟩

abbrev intV (zs : List Int) : List Value := zs.map (Value.int .i64)
theorem intV_snoc (zs : List Int) (z : Int) : intV zs ++ [Value.int .i64 z] = intV (zs ++ [z]) := by simp [intV]

/-- slices.Equal over integers. -/
theorem ints_equal {A B : Option Addr} {n m c d : Nat} {zs ws : List Int} {M : Mem} (h : SlV M A n c 1 (intV zs)) (k : SlV M B m d 1 (intV ws)) (K : Value → Prop) (hK : ∀ b : Bool, (b = true ↔ zs = ws) → K (.bool b)) : S_slices_Equal_int A n c B m d M K := by
  have hn := SlV1.len h
  have hm := SlV1.len k
  have hmx : n ≤ maxLen := Nat.le_trans h.2.1 h.2.2.1
  unfold maxLen at hmx
  unfold S_slices_Equal_int
  refine ⟨fun hne => hK false ⟨fun e => (by cases e), fun e => by rw [e] at hn; omega⟩, fun heq => ⟨fun i => 0 ≤ i ∧ i ≤ n ∧ ∀ j : Nat, (j : Int) < i → zs[j]? = ws[j]?, fun i => n - i.toNat, ⟨by omega, by omega, fun j hj => by omega⟩, fun i ⟨h0, h1, h2⟩ => ⟨fun hlt => ?_, fun hge => ?_⟩⟩⟩
  · obtain ⟨x, hx⟩ := getI (l := zs) h0 (by omega)
    obtain ⟨y, hy⟩ := getI (l := ws) h0 (by omega)
    obtain ⟨b, o, ha, hat⟩ := SlV1 h hn hx
    obtain ⟨b', o', ha', hat'⟩ := SlV1 k hm hy
    refine ⟨b, o, ha, h0, hlt, x, hat, b', o', ha', h0, by omega, y, hat', fun hne => hK false ⟨fun e => (by cases e), fun e => ?_⟩, fun he => ⟨by unfold InI; omega, ⟨by omega, by omega, fun j hj => ?_⟩, by dsimp only; omega⟩⟩
    · rw [e, hy] at hx; exact absurd (by injection hx with hx; exact hx.symm) hne
    · by_cases e : (j : Int) = i
      · have : i.toNat = j := by omega
        rw [← this, hx, hy]
        congr 1
        omega
      · exact h2 j (by omega)
  · refine hK true ⟨fun _ => List.ext_getElem? fun j => ?_, fun _ => rfl⟩
    by_cases hj : (j : Int) < i
    · exact h2 j hj
    · rw [List.getElem?_eq_none (by omega), List.getElem?_eq_none (by omega)]
def mk (zs : List Int) : Int := if zs.length > 120 then 2 else if ∃ z ∈ zs, z < 0 ∨ z > 3 then 3 else 0

theorem mk_large {zs : List Int} (h : ((zs.length : Nat) : Int) > 120) : mk zs = 2 := by unfold mk; rw [if_pos (by omega)]
theorem mk_bad {zs : List Int} (h : ¬ ((zs.length : Nat) : Int) > 120) {i : Nat} {z : Int} (hz : zs[i]? = some z) (hb : z < 0 ∨ z > 3) : mk zs = 3 := by
  unfold mk; rw [if_neg (by omega), if_pos ⟨z, List.mem_of_getElem? hz, hb⟩]
theorem mk_ok {zs : List Int} (h : ¬ ((zs.length : Nat) : Int) > 120) (hb : ∀ (i : Nat) z, zs[i]? = some z → ¬ (z < 0 ∨ z > 3)) : mk zs = 0 := by
  unfold mk; rw [if_neg (by omega), if_neg]
  rintro ⟨z, hz, h⟩
  obtain ⟨i, hi⟩ := List.mem_iff_getElem?.1 hz
  exact hb i z hi h
theorem mk_zero {zs : List Int} (h : mk zs = 0) : zs.length ≤ 120 ∧ ∀ (i : Nat) z, zs[i]? = some z → 0 ≤ z ∧ z ≤ 3 := by
  unfold mk at h
  split at h
  · omega
  · split at h
    · omega
    · rename_i hn
      refine ⟨by omega, fun i z hz => ?_⟩
      have : ¬ (z < 0 ∨ z > 3) := fun hb => hn ⟨z, List.mem_of_getElem? hz, hb⟩
      omega

theorem check_is {A : Option Addr} {n c : Nat} {zs : List Int} {M : Mem} (h : SlV M A n c 1 (intV zs)) (K : Value → Prop) (hK : K (.int .i64 (mk zs))) : S_cover_Check A n c M K := by
  have hn := SlV1.len h
  subst hn
  unfold S_cover_Check
  refine ⟨fun hl => by rw [mk_large hl] at hK; exact hK, fun hl => ⟨fun i => 0 ≤ i ∧ i ≤ (zs.length : Int) ∧ ∀ (j : Nat) z, (j : Int) < i → zs[j]? = some z → ¬ (z < 0 ∨ z > 3), fun i => zs.length - i.toNat, ⟨by omega, by omega, fun j z hj => by omega⟩, fun i ⟨h0, h1, h2⟩ => ⟨fun hlt => ?_, fun hge => ?_⟩⟩⟩
  · obtain ⟨x, hx⟩ := getI (l := zs) h0 hlt
    obtain ⟨b, o, ha, hat⟩ := SlV1 h rfl hx
    have bad : (x < 0 ∨ x > 3) → K (.int .i64 3) := fun hb => by rw [mk_bad hl hx hb] at hK; exact hK
    refine ⟨b, o, ha, h0, hlt, x, hat, fun hb => ⟨fun _ => bad (.inl hb), fun h => absurd rfl h⟩, fun hb => ⟨fun h => bad (.inr (by simpa using h)), fun h => ⟨by unfold InI; omega, ⟨by omega, by omega, fun j z hj hz => ?_⟩, by dsimp only; omega⟩⟩⟩
    have hb2 : ¬ x > 3 := by simpa using h
    by_cases e : (j : Int) = i
    · have : i.toNat = j := by omega
      rw [this] at hx; rw [hx] at hz; cases hz; omega
    · exact h2 j z (by omega) hz
  · rw [mk_ok hl (fun j z hz => h2 j z (by have := (List.getElem?_eq_some_iff.1 hz).1; omega) hz)] at hK; exact hK

theorem marks_is {A : Option Addr} {n c : Nat} {zs : List Int} {M : Mem} (h : SlV M A n c 1 (intV zs)) (K : Value → Prop) (hK : K (.int .i64 (mk zs))) : S_chaffref_Marks A n c M K := check_is h K hK

/-- The numbers below n at which an even mark stands. -/
def lf (zs : List Int) : Nat → List Int
  | 0 => []
  | n + 1 => lf zs n ++ (if (zs.getD n 1).tmod 2 = 0 then [(n : Int)] else [])
theorem lf_len (zs : List Int) : ∀ n, (lf zs n).length ≤ n
  | 0 => by simp [lf]
  | n + 1 => by
    have := lf_len zs n
    simp only [lf, List.length_append]
    split <;> simp <;> omega

theorem and1 {x : Int} (h0 : 0 ≤ x) (h3 : x ≤ 3) : (bAnd .i64 x 1 = 0 ↔ x.tmod 2 = 0) := by
  have : x = 0 ∨ x = 1 ∨ x = 2 ∨ x = 3 := by omega
  rcases this with rfl | rfl | rfl | rfl <;> decide

theorem or_max {x y : Int} (hx : 0 ≤ x ∧ x ≤ 3) (hy : 0 ≤ y ∧ y ≤ 3) : bOr .i64 x y = (if y.tmod 2 > x.tmod 2 then y.tmod 2 else x.tmod 2) + (2 * (if y.tdiv 2 > x.tdiv 2 then y.tdiv 2 else x.tdiv 2)) := by
  have h1 : x = 0 ∨ x = 1 ∨ x = 2 ∨ x = 3 := by omega
  have h2 : y = 0 ∨ y = 1 ∨ y = 2 ∨ y = 3 := by omega
  rcases h1 with rfl | rfl | rfl | rfl <;> rcases h2 with rfl | rfl | rfl | rfl <;> decide

def mrg (zs ws : List Int) : Nat → List Int
  | 0 => []
  | n + 1 => mrg zs ws n ++ [bOr .i64 (zs.getD n 0) (ws.getD n 0)]
theorem mrg_len (zs ws : List Int) : ∀ n, (mrg zs ws n).length = n
  | 0 => rfl
  | n + 1 => by simp [mrg, mrg_len zs ws n]
theorem mrg_get (zs ws : List Int) : ∀ n i, i < n → (mrg zs ws n)[i]? = some (bOr .i64 (zs.getD i 0) (ws.getD i 0))
  | 0, i, h => by omega
  | n + 1, i, h => by
    simp only [mrg]
    rw [List.getElem?_append, mrg_len]
    split
    · rename_i h'; exact mrg_get zs ws n i h'
    · have : i = n := by omega
      subst this; simp

theorem left_is {A : Option Addr} {n c : Nat} {zs : List Int} {M : Mem} (h : SlV M A n c 1 (intV zs)) (K : Value → Mem → Prop)
    (hbad : mk zs ≠ 0 → ∀ M', M.le M' → K (.tuple #[.slice none 0 0, .int .i64 (mk zs)]) M')
    (hok : mk zs = 0 → ∀ (M' : Mem) (B : Option Addr) (m d : Nat), M.le M' → SlV M' B m d 1 (intV (lf zs n)) → K (.tuple #[.slice B m d, .int .i64 0]) M') : S_cover_Left A n c M K := by
  have hn := SlV1.len h
  unfold S_cover_Left
  refine s_cover_Check _ _ _ _ _ (check_is h _ ⟨_, rfl, fun hne => hbad hne, fun he => ?_⟩)
  have he : mk zs = 0 := by simpa using he
  obtain ⟨hl, hall⟩ := mk_zero he
  refine ⟨fun i rn rx => ∃ k : Nat, i = k ∧ k ≤ n ∧ rx = intV (lf zs k) ∧ rn = (lf zs k).length, fun i _ _ => n - i.toNat, ⟨0, rfl, by omega, rfl, rfl⟩, fun i rn rx ⟨k, hi, hk, hrx, hrn⟩ => ⟨fun hlt => ?_, fun hge => ?_⟩⟩
  · subst hi
    have hkn : k < n := by omega
    obtain ⟨x, hx⟩ := getI (l := zs) (i := (k : Int)) (by omega) (by omega)
    obtain ⟨b, o, ha, hat⟩ := SlV1 h hn hx
    have hx' : zs[k]? = some x := by simpa using hx
    have hg : zs.getD k 1 = x := by simp [List.getD, hx']
    obtain ⟨h0, h3⟩ := hall _ _ hx
    have hlen := lf_len zs k
    have next : ∀ rn' rx', rx' = intV (lf zs (k + 1)) → rn' = (lf zs (k + 1)).length → S_cover_Left_J1 (k : Int) rn rx (fun i rn rx => ∃ k : Nat, i = k ∧ k ≤ n ∧ rx = intV (lf zs k) ∧ rn = (lf zs k).length) (fun i _ _ => n - i.toNat) rn' rx' K := fun rn' rx' e1 e2 => ⟨by unfold InI; omega, ⟨k + 1, by omega, by omega, e1, e2⟩, by dsimp only; omega⟩
    refine ⟨b, o, ha, by omega, hlt, x, hat, fun hz => ⟨by omega, next _ _ ?_ ?_⟩, fun hz => next _ _ ?_ ?_⟩
    · rw [hrx, intV_snoc]; simp only [lf, hg, (and1 h0 h3).1 hz, if_true]
    · rw [hrn]; simp only [lf, hg, (and1 h0 h3).1 hz, if_true]; simp
    · rw [hrx]; simp only [lf, hg, if_neg (fun e => hz ((and1 h0 h3).2 e))]; simp
    · rw [hrn]; simp only [lf, hg, if_neg (fun e => hz ((and1 h0 h3).2 e))]; simp
  · have : k = n := by omega
    subst this
    subst hrx
    intro M' B d hle hsl M2 hle2
    exact hok he M2 B _ d (hle.trans hle2) (hsl.le hle2)

theorem merge_is {A B : Option Addr} {n m c d : Nat} {zs ws : List Int} {M : Mem} (h : SlV M A n c 1 (intV zs)) (k : SlV M B m d 1 (intV ws)) (K : Value → Mem → Prop) (want : Int) (hw : want = if mk zs ≠ 0 then mk zs else if mk ws ≠ 0 then mk ws else if n ≠ m then 1 else 0)
    (hbad : want ≠ 0 → ∀ M', M.le M' → K (.tuple #[.slice none 0 0, .int .i64 want]) M')
    (hok : want = 0 → ∀ (M' : Mem) (C : Option Addr) (e : Nat), M.le M' → SlV M' C n e 1 (intV (mrg zs ws n)) → K (.tuple #[.slice C n e, .int .i64 0]) M') : S_cover_Merge A n c B m d M K := by
  have hn := SlV1.len h
  have hm := SlV1.len k
  unfold S_cover_Merge
  refine s_cover_Check _ _ _ _ _ (check_is h _ ⟨_, rfl, fun hne => ?_, fun he => ?_⟩)
  · have hne : mk zs ≠ 0 := hne
    rw [if_pos hne] at hw; subst hw; exact hbad hne
  have he : mk zs = 0 := by simpa using he
  rw [if_neg (by omega)] at hw
  refine s_cover_Check _ _ _ _ _ (check_is k _ ⟨_, rfl, fun hne => ?_, fun he2 => ?_⟩)
  · have hne : mk ws ≠ 0 := hne
    rw [if_pos hne] at hw; subst hw; exact hbad hne
  have he2 : mk ws = 0 := by simpa using he2
  rw [if_neg (by omega)] at hw
  obtain ⟨hl, hall⟩ := mk_zero he
  refine ⟨fun hne => ?_, fun heq => ?_⟩
  · rw [if_pos (by omega)] at hw; subst hw; exact hbad (by omega)
  have hnm : n = m := by omega
  rw [if_neg (by omega)] at hw
  refine ⟨fun i rn rx => ∃ k : Nat, i = k ∧ k ≤ n ∧ rx = intV (mrg zs ws k) ∧ rn = k, fun i _ _ => n - i.toNat, ⟨0, rfl, by omega, rfl, rfl⟩, fun i rn rx ⟨j, hi, hk, hrx, hrn⟩ => ⟨fun hlt => ?_, fun hge => ?_⟩⟩
  · subst hi
    subst hrn
    subst hrx
    obtain ⟨x, hx⟩ := getI (l := zs) (i := (rn : Int)) (by omega) (by omega)
    obtain ⟨y, hy⟩ := getI (l := ws) (i := (rn : Int)) (by omega) (by omega)
    obtain ⟨b, o, ha, hat⟩ := SlV1 h hn hx
    obtain ⟨b', o', ha', hat'⟩ := SlV1 k hm hy
    have hgx : zs.getD rn 0 = x := by have : zs[rn]? = some x := by simpa using hx
                                      simp [List.getD, this]
    have hgy : ws.getD rn 0 = y := by have : ws[rn]? = some y := by simpa using hy
                                      simp [List.getD, this]
    refine ⟨b, o, ha, by omega, hlt, x, hat, b', o', ha', by omega, by omega, y, hat', by omega, by unfold InI; omega, ⟨rn + 1, by omega, by omega, ?_, rfl⟩, by dsimp only; omega⟩
    rw [intV_snoc]; simp only [mrg, hgx, hgy]
  · have : j = n := by omega
    subst this
    subst hrx
    subst hrn
    intro M' C e hle hsl M2 hle2
    exact hok (by omega) M2 C e (hle.trans hle2) (hsl.le hle2)
theorem j8_is {A B C : Option Addr} {n c m d e : Nat} {zs ws : List Int} {M : Mem} (h : SlV M A n c 1 (intV zs)) (k : SlV M B m d 1 (intV ws)) (q : SlV M C n e 1 (intV (mrg zs ws n))) (hnm : n = m)
    (hz : ∀ (i : Nat) z, zs[i]? = some z → 0 ≤ z ∧ z ≤ 3) (hw : ∀ (i : Nat) z, ws[i]? = some z → 0 ≤ z ∧ z ≤ 3) (hl : n ≤ 120) : S_chafflaw_CoverMerges_J8 A n B m C n M false (fun v => v = .bool true) := by
  have hn := SlV1.len h
  have hm := SlV1.len k
  have hq := SlV1.len q
  refine ⟨fun h => (by cases h), fun _ => ⟨fun i => 0 ≤ i ∧ i ≤ n, fun i => n - i.toNat, ⟨by omega, by omega⟩, fun i ⟨h0, h1⟩ => ⟨fun hlt => ?_, fun _ => rfl⟩⟩⟩
  obtain ⟨x, hx⟩ := getI (l := zs) h0 (by omega)
  obtain ⟨y, hy⟩ := getI (l := ws) h0 (by omega)
  obtain ⟨b, o, ha, hat⟩ := SlV1 h hn hx
  obtain ⟨b', o', ha', hat'⟩ := SlV1 k hm hy
  have hmg := mrg_get zs ws n i.toNat (by omega)
  have hgx : zs.getD i.toNat 0 = x := by simp [List.getD, hx]
  have hgy : ws.getD i.toNat 0 = y := by simp [List.getD, hy]
  rw [hgx, hgy] at hmg
  obtain ⟨b2, o2, ha2, hat2⟩ := SlV1 q hq hmg
  have bx := hz _ _ hx
  have by' := hw _ _ hy
  have dx : x.tdiv 2 = x / 2 := Int.tdiv_eq_ediv_of_nonneg bx.1
  have dy : y.tdiv 2 = y / 2 := Int.tdiv_eq_ediv_of_nonneg by'.1
  have tx : x.tmod 2 = x % 2 := Int.tmod_eq_emod_of_nonneg bx.1
  have ty : y.tmod 2 = y % 2 := Int.tmod_eq_emod_of_nonneg by'.1
  refine ⟨b2, o2, ha2, h0, hlt, _, hat2, b, o, ha, h0, by omega, x, hat, b', o', ha', h0, by omega, y, hat', b, o, ha, h0, by omega, x, hat, ?_, b', o', ha', h0, by omega, y, hat', ?_, ?_, ?_, fun hne => absurd (or_max bx by') hne, fun _ => ⟨by unfold InI; omega, ⟨by omega, by omega⟩, by dsimp only; omega⟩⟩
  · unfold InI; omega
  · unfold InI; omega
  · unfold InI; split <;> omega
  · unfold InI; split <;> split <;> omega

theorem j4_is {A B : Option Addr} {n c m d : Nat} {zs ws : List Int} {M : Mem} (h : SlV M A n c 1 (intV zs)) (k : SlV M B m d 1 (intV ws)) : S_chafflaw_CoverMerges_J4 A n c B m d M (fun v => v = .bool true) := by
  have hn := SlV1.len h
  have hm := SlV1.len k
  refine s_cover_Merge _ _ _ _ _ _ _ _ (merge_is h k _ _ rfl (fun hw M' hle => ⟨_, _, _, _, rfl, ?_⟩) (fun hw M' C e hle q => ⟨_, _, _, _, rfl, ?_⟩))
  · have h' := h.le hle
    have k' := k.le hle
    generalize hgw : (if mk zs ≠ 0 then mk zs else if mk ws ≠ 0 then mk ws else if n ≠ m then 1 else 0) = want at hw
    have fin : S_chafflaw_CoverMerges_J7 A n B m none 0 want M' want (fun v => v = .bool true) := ⟨fun _ => ⟨fun _ => rfl, fun hne => absurd rfl hne⟩, fun hne => absurd hw hne⟩
    refine s_chaffref_Marks _ _ _ _ _ (marks_is h' _ ⟨_, rfl, fun he => ?_, fun hne => ?_⟩)
    · refine s_chaffref_Marks _ _ _ _ _ (marks_is k' _ ⟨_, rfl, fun he2 => ?_, fun hne2 => ?_⟩)
      · rw [if_neg (by omega), if_neg (by omega)] at hgw
        have hnm : n ≠ m := fun e => by rw [if_neg (by omega)] at hgw; omega
        rw [if_pos hnm] at hgw
        subst hgw
        exact ⟨fun _ => fin, fun hf => absurd (by rw [bne_iff_ne]; omega) hf⟩
      · rw [if_neg (by omega), if_pos (by exact hne2)] at hgw
        rw [hgw]
        exact ⟨fun hf => (by cases hf), fun _ => fin⟩
    · rw [if_pos (by exact hne)] at hgw
      rw [hgw]
      exact ⟨fun he => absurd he hw, fun _ => ⟨fun hf => (by cases hf), fun _ => fin⟩⟩
  · have h' := h.le hle
    have k' := k.le hle
    have hz : mk zs = 0 := by
      by_cases e : mk zs = 0
      · exact e
      · rw [if_pos e] at hw; exact hw
    rw [if_neg (by omega)] at hw
    have hz2 : mk ws = 0 := by
      by_cases e : mk ws = 0
      · exact e
      · rw [if_pos e] at hw; exact hw
    rw [if_neg (by omega)] at hw
    have hnm : n = m := by
      by_cases e : n = m
      · exact e
      · rw [if_pos e] at hw; omega
    obtain ⟨hl, a1⟩ := mk_zero hz
    obtain ⟨_, a2⟩ := mk_zero hz2
    have j8 := j8_is h' k' q hnm a1 a2 (by omega)
    refine s_chaffref_Marks _ _ _ _ _ (marks_is h' _ ⟨_, rfl, fun he => ?_, fun hne => absurd hz hne⟩)
    refine s_chaffref_Marks _ _ _ _ _ (marks_is k' _ ⟨_, rfl, ?_⟩)
    have j7 : S_chafflaw_CoverMerges_J7 A n B m C n 0 M' 0 (fun v => v = .bool true) := by
      refine ⟨fun hne => absurd rfl hne, fun _ => ⟨fun hne => absurd rfl hne, fun _ => ?_⟩⟩
      have : (((n : Nat) : Int) != ((n : Nat) : Int)) = false := by simp
      rw [this]; exact j8
    rw [hz2]
    refine ⟨fun _ => ?_, fun hne => absurd rfl hne⟩
    have : (((n : Nat) : Int) != ((m : Nat) : Int)) = false := by simp [hnm]
    rw [this]
    exact ⟨fun hf => (by cases hf), fun _ => j7⟩

theorem law_is {A B : Option Addr} {n c m d : Nat} {zs ws : List Int} {M : Mem} (h : SlV M A n c 1 (intV zs)) (k : SlV M B m d 1 (intV ws)) : S_chafflaw_CoverMerges A n c B m d M (fun v => v = .bool true) := by
  have hn := SlV1.len h
  unfold S_chafflaw_CoverMerges
  refine s_cover_Check _ _ _ _ _ (check_is h _ ⟨_, rfl, ?_⟩)
  refine s_chaffref_Marks _ _ _ _ _ (marks_is h _ ⟨_, rfl, fun hne => absurd rfl hne, fun _ => ?_⟩)
  refine s_cover_Left _ _ _ _ _ (left_is h _ (fun hw M' hle => ⟨_, _, _, _, rfl, ?_⟩) (fun hw M' L l d' hle q => ⟨_, _, _, _, rfl, ?_⟩))
  · have h' := h.le hle
    have k' := k.le hle
    refine s_chaffref_Marks _ _ _ _ _ (marks_is h' _ ⟨_, rfl, fun _ => ⟨fun hne => absurd rfl hne, fun _ => ⟨fun hf => (by cases hf), fun _ => j4_is h' k'⟩⟩, fun hne => absurd hw hne⟩)
  · have h' := h.le hle
    have k' := k.le hle
    obtain ⟨hl, hall⟩ := mk_zero hw
    refine s_chaffref_Marks _ _ _ _ _ (marks_is h' _ ⟨_, rfl, fun hne => absurd hw hne, fun _ => ?_⟩)
    refine ⟨fun i rn rx => ∃ k : Nat, i = k ∧ k ≤ n ∧ rx = intV (lf zs k) ∧ rn = (lf zs k).length, fun i _ _ => n - i.toNat, ⟨0, rfl, by omega, rfl, rfl⟩, fun i rn rx ⟨k, hi, hk, hrx, hrn⟩ => ⟨fun hlt => ?_, fun hge => ?_⟩⟩
    · subst hi
      have hkn : k < n := by omega
      obtain ⟨x, hx⟩ := getI (l := zs) (i := (k : Int)) (by omega) (by omega)
      obtain ⟨b, o, ha, hat⟩ := SlV1 h' hn hx
      have hx' : zs[k]? = some x := by simpa using hx
      have hg : zs.getD k 1 = x := by simp [List.getD, hx']
      have hlen := lf_len zs k
      have next : ∀ rn' rx', rx' = intV (lf zs (k + 1)) → rn' = (lf zs (k + 1)).length → S_chafflaw_CoverMerges_J2 (k : Int) rn rx (fun i rn rx => ∃ k : Nat, i = k ∧ k ≤ n ∧ rx = intV (lf zs k) ∧ rn = (lf zs k).length) (fun i _ _ => n - i.toNat) rn' rx' (fun v => v = .bool true) := fun rn' rx' e1 e2 => ⟨by unfold InI; omega, ⟨k + 1, by omega, by omega, e1, e2⟩, by dsimp only; omega⟩
      refine ⟨b, o, ha, by omega, hlt, x, hat, fun hz => ⟨by omega, next _ _ ?_ ?_⟩, fun hz => next _ _ ?_ ?_⟩
      · rw [hrx, intV_snoc]; simp only [lf, hg, hz, if_true]
      · rw [hrn]; simp only [lf, hg, hz, if_true]; simp
      · rw [hrx]; simp only [lf, hg, if_neg hz]; simp
      · rw [hrn]; simp only [lf, hg, if_neg hz]; simp
    · have : k = n := by omega
      subst this
      subst hrx
      refine ⟨fun hne => absurd rfl hne, fun _ M2 L2 d2 hle2 q2 => ?_⟩
      refine s_slices_Equal_int _ _ _ _ _ _ _ _ (ints_equal (q.le hle2) q2 _ fun bb hb => ⟨_, rfl, ?_⟩)
      have : bb = true := hb.2 rfl
      subst this
      exact ⟨fun hf => (by cases hf), fun _ => j4_is (h'.le hle2) (k'.le hle2)⟩

theorem walk : WalkGoal := by
  intro H enc W A0 l0 c0 f0 w0 A1 l1 c1 f1 w1
  obtain ⟨A, l, c, xss, e, hsl, hlen, hmax, hall⟩ := open_L_int w0
  cases e
  obtain ⟨zs, rfl, hzs⟩ := typed (f := fun z : Int => [Value.int .i64 z]) xss (fun cs hcs => by
    obtain ⟨n, _, h⟩ := hall cs hcs
    obtain ⟨_, _, rfl, ⟨a, rfl, _⟩, rfl⟩ := h
    exact ⟨a, rfl⟩)
  obtain ⟨A', l', c', yss, e', hsl', hlen', hmax', hall'⟩ := open_L_int w1
  cases e'
  obtain ⟨ws, rfl, hws⟩ := typed (f := fun z : Int => [Value.int .i64 z]) yss (fun cs hcs => by
    obtain ⟨n, _, h⟩ := hall' cs hcs
    obtain ⟨_, _, rfl, ⟨a, rfl, _⟩, rfl⟩ := h
    exact ⟨a, rfl⟩)
  rw [flat_one] at hsl hsl'
  exact s_chafflaw_CoverMerges _ _ _ _ _ _ _ _ (law_is hsl hsl')

theorem holds : Rows.CoverMergesSaid := top walk
#print axioms holds
end Go.Proofs.Ytdlfhmdojbejkaa.lawCoverMerges
