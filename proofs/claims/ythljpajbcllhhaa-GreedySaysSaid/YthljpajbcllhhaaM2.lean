/- Contracts and what they hang on, of several parts. No condition. -/
import Derived.Test.YthljpajbcllhhaaGreedyG
namespace Go.Proofs.Ythljpajbcllhhaa.core
open Go.Gx Go.RowKit Go.ChangeShapes Go.WideShapes Go.ChangeAt
set_option linter.unusedVariables false
theorem inI_big {z : Int} (h1 : -100000000 ≤ z) (h2 : z ≤ 100000000) : InI z := by unfold InI; omega
theorem iC_len (z : Int) : (iC z).length = 1 := rfl
theorem slC_len (x : Sl3) : (slC x).length = 1 := rfl
def Mk (m : Int) : Prop := 0 ≤ m ∧ m ≤ 3
theorem Mk.cases {m : Int} (h : Mk m) : m = 0 ∨ m = 1 ∨ m = 2 ∨ m = 3 := by unfold Mk at h; omega
def pcM (m h : Int) : Nat := (if m.tmod 2 = 1 ∧ h.tmod 2 ≠ 1 then 1 else 0) + (if m.tdiv 2 = 1 ∧ h.tdiv 2 ≠ 1 then 1 else 0)
def sd (i m : Int) : List Int := (if m.tmod 2 = 1 then [2 * i] else []) ++ (if m.tdiv 2 = 1 then [2 * i + 1] else [])
def saidF : List Int → Int → List Int
 | [], _ => []
 | m :: l, i => sd i m ++ saidF l (i + 1)
def gainF : List Int → List Int → Nat
 | h :: H, m :: r => pcM m h + gainF H r
 | _, _ => 0
def orF : List Int → List Int → List Int
 | h :: H, m :: r => bOr .i64 h m :: orF H r
 | _, _ => []
def wt (H : List Int) : Nat := (H.map fun h => pcM h 0).sum
def fr (hv row : List Int) : List Int := (saidF row 0).filter fun x => !decide (x ∈ hv)
theorem or_mark {h m : Int} (hh : Mk h) (hm : Mk m) : Mk (bOr .i64 h m) ∧ pcM (bOr .i64 h m) 0 = pcM h 0 + pcM m h ∧ ((bOr .i64 h m).tmod 2 = 1 ↔ h.tmod 2 = 1 ∨ m.tmod 2 = 1) ∧ ((bOr .i64 h m).tdiv 2 = 1 ↔ h.tdiv 2 = 1 ∨ m.tdiv 2 = 1) := by
 rcases hh.cases with rfl | rfl | rfl | rfl <;> rcases hm.cases with rfl | rfl | rfl | rfl <;> (unfold Mk; decide)
theorem pcM_le (m h : Int) : pcM m h ≤ 2 := by
 unfold pcM; split <;> split <;> omega
theorem orF_len : ∀ {H r : List Int}, H.length = r.length → (orF H r).length = H.length
 | [], [], _ => rfl
 | [], _ :: _, h => by simp at h
 | _ :: _, [], h => by simp at h
 | h :: H, m :: r, hl => by rw [orF, List.length_cons, List.length_cons, orF_len (by simpa using hl)]
theorem orF_get : ∀ {H r : List Int} {k : Nat} {h m : Int}, H[k]? = some h → r[k]? = some m → (orF H r)[k]? = some (bOr .i64 h m)
 | [], _, _, _, _, h1, _ => by simp at h1
 | _ :: _, [], _, _, _, _, h2 => by simp at h2
 | a :: H, b :: r, 0, h, m, h1, h2 => by
  simp only [List.getElem?_cons_zero, Option.some.injEq] at h1 h2
  subst h1 h2; rfl
 | a :: H, b :: r, k + 1, h, m, h1, h2 => by
  rw [orF]
  simp only [List.getElem?_cons_succ] at h1 h2 ⊢
  exact orF_get h1 h2
theorem orF_mark : ∀ {H r : List Int}, (∀ x ∈ H, Mk x) → (∀ x ∈ r, Mk x) → ∀ x ∈ orF H r, Mk x
 | [], _, _, _, x, hx => by simp [orF] at hx
 | _ :: _, [], _, _, x, hx => by simp [orF] at hx
 | h :: H, m :: r, h1, h2, x, hx => by
  rw [orF] at hx
  rcases List.mem_cons.1 hx with rfl | hx
  ·exact (or_mark (h1 h (by simp)) (h2 m (by simp))).1
  ·exact orF_mark (fun y hy => h1 y (by simp [hy])) (fun y hy => h2 y (by simp [hy])) x hx
theorem wt_or : ∀ {H r : List Int}, H.length = r.length → (∀ x ∈ H, Mk x) → (∀ x ∈ r, Mk x) → wt (orF H r) = wt H + gainF H r
 | [], [], _, _, _ => rfl
 | [], _ :: _, h, _, _ => by simp at h
 | _ :: _, [], h, _, _ => by simp at h
 | h :: H, m :: r, hl, h1, h2 => by
  have ih := wt_or (H := H) (r := r) (by simpa using hl) (fun y hy => h1 y (by simp [hy])) (fun y hy => h2 y (by simp [hy]))
  have := (or_mark (h1 h (by simp)) (h2 m (by simp))).2.1
  unfold wt at ih ⊢
  rw [orF, gainF, List.map_cons, List.sum_cons, List.map_cons, List.sum_cons, this, ih]
  omega
theorem wt_le : ∀ H : List Int, wt H ≤ 2 * H.length
 | [] => by simp [wt]
 | h :: H => by
  have := wt_le H
  have := pcM_le h 0
  unfold wt at *
  rw [List.map_cons, List.sum_cons, List.length_cons]; omega
theorem wt_zero (n : Nat) : wt (List.replicate n 0) = 0 := by
 unfold wt
 rw [List.map_replicate]
 have : pcM 0 0 = 0 := by decide
 rw [this]; simp
theorem gain_le : ∀ H r : List Int, gainF H r ≤ 2 * r.length
 | [], _ => by simp [gainF]
 | _ :: _, [] => by simp [gainF]
 | h :: H, m :: r => by
  have := gain_le H r
  have := pcM_le m h
  rw [gainF, List.length_cons]; omega
def Knows (hv H : List Int) : Prop := ∀ (k : Nat) h, H[k]? = some h → (2 * (k : Int) ∈ hv ↔ h.tmod 2 = 1) ∧ (2 * (k : Int) + 1 ∈ hv ↔ h.tdiv 2 = 1)
theorem sd_len (hv : List Int) (i m h : Int) (h1 : 2 * i ∈ hv ↔ h.tmod 2 = 1) (h2 : 2 * i + 1 ∈ hv ↔ h.tdiv 2 = 1) : ((sd i m).filter fun x => !decide (x ∈ hv)).length = pcM m h := by
 unfold sd pcM
 by_cases a1 : m.tmod 2 = 1 <;> by_cases a2 : m.tdiv 2 = 1 <;> by_cases b1 : h.tmod 2 = 1 <;> by_cases b2 : h.tdiv 2 = 1 <;> simp [a1, a2, b1, b2, h1, h2]
theorem fr_len_at (hv : List Int) : ∀ (H r : List Int) (i : Int), H.length = r.length → (∀ (k : Nat) h, H[k]? = some h → (2 * (i + k) ∈ hv ↔ h.tmod 2 = 1) ∧ (2 * (i + k) + 1 ∈ hv ↔ h.tdiv 2 = 1)) → ((saidF r i).filter fun x => !decide (x ∈ hv)).length = gainF H r
 | [], [], _, _, _ => rfl
 | [], _ :: _, _, h, _ => by simp at h
 | _ :: _, [], _, h, _ => by simp at h
 | h :: H, m :: r, i, hl, hk => by
  have h0 := hk 0 h rfl
  simp only [Int.natCast_zero, Int.add_zero] at h0
  rw [saidF, List.filter_append, List.length_append, sd_len hv i m h h0.1 h0.2, fr_len_at hv H r (i + 1) (by simpa using hl) fun k x hx => ?_, gainF]
  have := hk (k + 1) x (by simpa using hx)
  rw [show i + 1 + (k : Int) = i + ((k + 1 : Nat) : Int) by push_cast; omega]
  exact this
theorem fr_len {hv H r : List Int} (hl : H.length = r.length) (hk : Knows hv H) : (fr hv r).length = gainF H r :=
 fr_len_at hv H r 0 hl fun k h hh => by
  have := hk k h hh
  rw [Int.zero_add]; exact this
theorem mem_said : ∀ (l : List Int) (i x : Int), x ∈ saidF l i ↔ ∃ (k : Nat) (m : Int), l[k]? = some m ∧ ((m.tmod 2 = 1 ∧ x = 2 * (i + k)) ∨ (m.tdiv 2 = 1 ∧ x = 2 * (i + k) + 1))
 | [], _, _ => by simp [saidF]
 | m :: l, i, x => by
  rw [saidF, List.mem_append, mem_said l (i + 1) x]
  constructor
  ·rintro (h | ⟨k, z, hz, h⟩)
   ·refine ⟨0, m, rfl, ?_⟩
    unfold sd at h
    rcases List.mem_append.1 h with h | h
    ·split at h
     ·rename_i h1; exact .inl ⟨h1, by simpa using h⟩
     ·cases h
    ·split at h
     ·rename_i h1; exact .inr ⟨h1, by simpa using h⟩
     ·cases h
   ·refine ⟨k + 1, z, by simpa using hz, ?_⟩
    rw [show i + ((k + 1 : Nat) : Int) = i + 1 + (k : Int) by push_cast; omega]; exact h
  ·rintro ⟨k, z, hz, h⟩
   cases k with
   | zero =>
    left
    simp only [List.getElem?_cons_zero, Option.some.injEq] at hz
    subst hz
    unfold sd
    rw [List.mem_append]
    rcases h with ⟨h1, h2⟩ | ⟨h1, h2⟩
    ·left; rw [if_pos h1]; simpa using h2
    ·right; rw [if_pos h1]; simpa using h2
   | succ k =>
    right
    refine ⟨k, z, by simpa using hz, ?_⟩
    rw [show i + 1 + (k : Int) = i + ((k + 1 : Nat) : Int) by push_cast; omega]; exact h
theorem Knows.next {hv H r : List Int} (hl : H.length = r.length) (h1 : ∀ x ∈ H, Mk x) (h2 : ∀ x ∈ r, Mk x) (hk : Knows hv H) : Knows (hv ++ fr hv r) (orF H r) := by
 intro k z hz
 have hlt := (List.getElem?_eq_some_iff.1 hz).1
 rw [orF_len hl] at hlt
 obtain ⟨h, hh⟩ := getN hlt
 obtain ⟨m, hm⟩ := getN (l := r) (i := k) (by omega)
 rw [orF_get hh hm] at hz
 simp only [Option.some.injEq] at hz
 subst hz
 obtain ⟨_, _, e1, e2⟩ := or_mark (h1 h (List.mem_of_getElem? hh)) (h2 m (List.mem_of_getElem? hm))
 obtain ⟨k1, k2⟩ := hk k h hh
 have mem : ∀ x, x ∈ hv ++ fr hv r ↔ x ∈ hv ∨ x ∈ saidF r 0 := fun x => by
  unfold fr
  rw [List.mem_append, List.mem_filter]
  by_cases hx : x ∈ hv <;> simp [hx]
 have s1 : 2 * (k : Int) ∈ saidF r 0 ↔ m.tmod 2 = 1 := by
  rw [mem_said]
  refine ⟨fun ⟨j, z, hz, h⟩ => ?_, fun h => ⟨k, m, hm, .inl ⟨h, by omega⟩⟩⟩
  rcases h with ⟨h, e⟩ | ⟨h, e⟩
  ·have : j = k := by omega
   rw [this, hm] at hz; cases hz; exact h
  ·omega
 have s2 : 2 * (k : Int) + 1 ∈ saidF r 0 ↔ m.tdiv 2 = 1 := by
  rw [mem_said]
  refine ⟨fun ⟨j, z, hz, h⟩ => ?_, fun h => ⟨k, m, hm, .inr ⟨h, by omega⟩⟩⟩
  rcases h with ⟨h, e⟩ | ⟨h, e⟩
  ·omega
  ·have : j = k := by omega
   rw [this, hm] at hz; cases hz; exact h
 exact ⟨by rw [mem, k1, s1, e1], by rw [mem, k2, s2, e2]⟩
theorem Knows.nil (n : Nat) : Knows [] (List.replicate n 0) := fun k h hh => by
 have := List.eq_of_mem_replicate (List.mem_of_getElem? hh)
 subst this
 simp
inductive Picks (rows : List (List Int)) : List Int → List Int → List Int → Prop where
 | stop {H out : List Int} (h : ∀ r ∈ rows, gainF H r = 0) : Picks rows H out out
 | step {H out res : List Int} {b : Nat} {r : List Int} (hr : rows[b]? = some r) (hpos : 0 < gainF H r) (hmax : ∀ (j : Nat) r', rows[j]? = some r' → gainF H r' ≤ gainF H r ∧ (j < b → gainF H r' < gainF H r)) (h : Picks rows (orF H r) (out ++ [(b : Int)]) res) : Picks rows H out res
theorem picks_one {rows : List (List Int)} {H out r1 : List Int} (h : Picks rows H out r1) : ∀ r2, Picks rows H out r2 → r1 = r2 := by
 induction h with
 | stop h =>
  intro r2 h2
  cases h2 with
  | stop _ => rfl
  | step hr hpos _ _ => rw [h _ (List.mem_of_getElem? hr)] at hpos; omega
 | @step H out res b r hr hpos hmax _ ih =>
  intro r2 h2
  cases h2 with
  | stop h => rw [h _ (List.mem_of_getElem? hr)] at hpos; omega
  | @step _ _ _ b2 r' hr2 hpos2 hmax2 h =>
   have hb : b = b2 := by
    rcases Nat.lt_trichotomy b b2 with hlt | he | hlt
    ·have h1 := (hmax2 b r hr).2 hlt
     have h2 := (hmax b2 r' hr2).1
     omega
    ·exact he
    ·have h1 := (hmax b2 r' hr2).2 hlt
     have h2 := (hmax2 b r hr).1
     omega
   subst hb
   rw [hr] at hr2
   cases hr2
   exact ih _ h
structure RowsR (M : Mem) (rows : List (List Int)) (ys : List Sl3) (A : Option Addr) (l c : Nat) : Prop where
 sl : SlV M A l c 1 (cl slC ys)
 yl : ys.length = l
 rl : rows.length = l
 row : ∀ (i : Nat) r y, rows[i]? = some r → ys[i]? = some y → SlV M y.a y.l y.c 1 (cl iC r) ∧ r.length = y.l
section
variable {M : Mem} {rows : List (List Int)} {ys : List Sl3} {A : Option Addr} {l c : Nat}
theorem RowsR.le {M' : Mem} (h : RowsR M rows ys A l c) (hl : M.le M') : RowsR M' rows ys A l c := ⟨h.sl.le hl, h.yl, h.rl, fun i r y a b => ⟨(h.row i r y a b).1.le hl, (h.row i r y a b).2⟩⟩
theorem RowsR.at (h : RowsR M rows ys A l c) {i : Int} (h0 : 0 ≤ i) (hi : i < ((l : Nat) : Int)) : ∃ (r : List Int) (y : Sl3) (b o : Nat), rows[i.toNat]? = some r ∧ A = some ⟨b, o, none⟩ ∧ At M b (o + i.toNat * 1) [.slice y.a y.l y.c] ∧ SlV M y.a y.l y.c 1 (cl iC r) ∧ r.length = y.l := by
 obtain ⟨r, hr⟩ := getI (l := rows) h0 (by rw [h.rl]; exact hi)
 obtain ⟨y, hy⟩ := getI (l := ys) h0 (by rw [h.yl]; exact hi)
 obtain ⟨b, o, ha, hat⟩ := h.sl.at slC_len h.yl hy
 exact ⟨r, y, b, o, hr, ha, hat, h.row _ _ _ hr hy⟩
noncomputable def marksE (r : List Int) : Int := if 120 < r.length then 2 else @ite _ (∀ x ∈ r, Mk x) (Classical.propDecidable _) 0 3
theorem marks_ok {r : List Int} (h : marksE r = 0) : r.length ≤ 120 ∧ ∀ x ∈ r, Mk x := by
 unfold marksE at h
 split at h
 ·omega
 split at h
 ·rename_i h1; exact ⟨by omega, h1⟩
 ·omega
theorem rmarks_is {r : List Int} {a : Option Addr} {n k : Nat} (hs : SlV M a n k 1 (cl iC r)) (hl : r.length = n) (K : Value → Prop) (hK : K (.int .i64 (marksE r))) : S_chaffref_Marks a n k M K := by
 subst hl
 unfold S_chaffref_Marks
 unfold marksE at hK
 refine ⟨fun h => ?_, fun h => ?_⟩
 ·rw [if_pos (by omega)] at hK; exact hK
 rw [if_neg (by omega)] at hK
 refine ⟨fun i => 0 ≤ i ∧ i ≤ r.length ∧ ∀ (j : Nat) x, (j : Int) < i → r[j]? = some x → Mk x, fun i => r.length - i.toNat, ⟨by omega, by omega, fun j x h => by omega⟩, fun i ⟨i0, i1, hall⟩ => ⟨fun hlt => ?_, fun hge => ?_⟩⟩
 ·obtain ⟨x, hx⟩ := getI (l := r) i0 hlt
  obtain ⟨b, o, ha, hat⟩ := hs.at iC_len rfl hx
  have j1 : ∀ v : Bool, v = decide (x < 0 ∨ 3 < x) → S_chaffref_Marks_J1 i (fun i => 0 ≤ i ∧ i ≤ r.length ∧ ∀ (j : Nat) x, (j : Int) < i → r[j]? = some x → Mk x) (fun i => r.length - i.toNat) v K := by
   intro v hv
   unfold S_chaffref_Marks_J1
   refine ⟨fun ht => ?_, fun hf => ⟨inI_big (by omega) (by omega), ⟨by omega, by omega, fun j y hj hy => ?_⟩, ?_⟩⟩
   ·have := of_decide_eq_true (hv ▸ ht)
    rw [if_neg (fun hall => by have := hall x (List.mem_of_getElem? hx); unfold Mk at this; omega)] at hK; exact hK
   ·by_cases hji : (j : Int) < i
    ·exact hall j y hji hy
    ·rw [show j = i.toNat by omega, hx] at hy
     cases hy
     have : ¬ (x < 0 ∨ 3 < x) := fun h => hf (by rw [hv, decide_eq_true h])
     unfold Mk; omega
   ·show r.length - (i + 1).toNat < r.length - i.toNat; omega
  exact ⟨b, o, ha, i0, hlt, x, hat, fun h => j1 _ (by symm; exact decide_eq_true (.inl h)), fun h => j1 _ (by rw [decide_eq_decide]; omega)⟩
 ·rw [if_pos (fun x hx => by
   obtain ⟨j, hj⟩ := List.mem_iff_getElem?.1 hx
   have := (List.getElem?_eq_some_iff.1 hj).1
   exact hall j x (by omega) hj)] at hK
  exact hK
theorem cmarks_is {r : List Int} {a : Option Addr} {n k : Nat} (hs : SlV M a n k 1 (cl iC r)) (hl : r.length = n) (K : Value → Prop) (hK : K (.int .i64 (marksE r))) : S_cover_Check a n k M K := by
 have e : S_chaffref_Marks a n k M K = S_cover_Check a n k M K := rfl
 rw [← e]; exact rmarks_is hs hl K hK
def rowsE1 (f : List Int → Int) (n : Nat) : List (List Int) → Int
 | [] => 0
 | r :: l => if f r ≠ 0 then f r else if r.length ≠ n then 1 else rowsE1 f n l
noncomputable def rowsE (rows : List (List Int)) : Int := if 40 < rows.length then 2 else rowsE1 marksE (rows.headD []).length rows
theorem rows1_ok {n : Nat} : ∀ {rows : List (List Int)}, rowsE1 marksE n rows = 0 → ∀ r ∈ rows, r.length = n ∧ n ≤ 120 ∧ ∀ x ∈ r, Mk x
 | [], _, r, hr => by cases hr
 | z :: l, h, r, hr => by
  rw [rowsE1] at h
  split at h
  ·rename_i h1; exact absurd h h1
  rename_i h1
  split at h
  ·omega
  rename_i h2
  have h3 := marks_ok (Decidable.not_not.1 h1)
  have h4 : z.length = n := Decidable.not_not.1 h2
  rcases List.mem_cons.1 hr with rfl | hr
  ·exact ⟨h4, by omega, h3.2⟩
  ·exact rows1_ok h r hr
theorem rows_ok {n : Nat} (hn : n = (rows.headD []).length) (h : rowsE rows = 0) : rows.length ≤ 40 ∧ ∀ r ∈ rows, r.length = n ∧ n ≤ 120 ∧ ∀ x ∈ r, Mk x := by
 unfold rowsE at h
 split at h
 ·omega
 ·rw [← hn] at h; exact ⟨by omega, rows1_ok h⟩
theorem rrows_is (hR : RowsR M rows ys A l c) (K : Value → Prop) (hK : K (.int .i64 (rowsE rows))) : S_chaffref_Rows A l c M K := by
 have hrl := hR.rl
 unfold S_chaffref_Rows
 unfold rowsE at hK
 refine ⟨fun h => ?_, fun h => ?_⟩
 ·rw [if_pos (by omega)] at hK; exact hK
 rw [if_neg (by omega)] at hK
 refine ⟨fun i => 0 ≤ i ∧ i ≤ l ∧ rowsE1 marksE (rows.headD []).length (rows.drop i.toNat) = rowsE1 marksE (rows.headD []).length rows, fun i => l - i.toNat, ⟨by omega, by omega, rfl⟩, fun i ⟨i0, i1, he⟩ => ⟨fun hlt => ?_, fun hge => ?_⟩⟩
 ·obtain ⟨r, y, b, o, hr, ha, hat, hsl, hrl2⟩ := hR.at i0 hlt
  rw [drop_get hr, rowsE1] at he
  refine ⟨b, o, ha, i0, hlt, y.a, y.l, y.c, hat, s_chaffref_Marks _ _ _ _ _ (rmarks_is hsl hrl2 _ ⟨_, rfl, fun hne => ?_, fun h0 => ?_⟩)⟩
  ·rw [if_pos hne] at he; rw [he]; exact hK
  ·rw [if_neg h0] at he
   obtain ⟨r0, y0, b0, o0, hr0, ha0, hat0, hsl0, hrl0⟩ := hR.at (i := 0) (by omega) (by omega)
   have hhd : rows.headD [] = r0 := by
    cases hrw : rows with
    | nil => rw [hrw] at hr0; cases hr0
    | cons z zs =>
     rw [hrw] at hr0
     cases hr0; rfl
   rw [hhd] at he hK
   refine ⟨b0, o0, ha0, by omega, by omega, y0.a, y0.l, y0.c, hat0, fun hne => ?_, fun h1 => ⟨inI_big (by omega) (by omega), ⟨by omega, by omega, ?_⟩, ?_⟩⟩
   ·rw [if_pos (by omega)] at he; rw [he]; exact hK
   ·rw [if_neg (by omega)] at he
    rw [hhd, show (i + 1).toNat = i.toNat + 1 by omega]; exact he
   ·show l - (i + 1).toNat < l - i.toNat; omega
 ·rw [List.drop_of_length_le (by omega), rowsE1] at he
  rw [he]; exact hK
theorem grows_is (hR : RowsR M rows ys A l c) (K : Value → Prop) (hK : K (.int .i64 (rowsE rows))) : S_greedy_Check A l c M K := by
 have hrl := hR.rl
 unfold S_greedy_Check
 unfold rowsE at hK
 refine ⟨fun h => ?_, fun h => ?_⟩
 ·rw [if_pos (by omega)] at hK; exact hK
 rw [if_neg (by omega)] at hK
 refine ⟨fun i => 0 ≤ i ∧ i ≤ l ∧ rowsE1 marksE (rows.headD []).length (rows.drop i.toNat) = rowsE1 marksE (rows.headD []).length rows, fun i => l - i.toNat, ⟨by omega, by omega, rfl⟩, fun i ⟨i0, i1, he⟩ => ⟨fun hlt => ?_, fun hge => ?_⟩⟩
 ·obtain ⟨r, y, b, o, hr, ha, hat, hsl, hrl2⟩ := hR.at i0 hlt
  rw [drop_get hr, rowsE1] at he
  refine ⟨b, o, ha, i0, hlt, y.a, y.l, y.c, hat, s_cover_Check _ _ _ _ _ (cmarks_is hsl hrl2 _ ⟨_, rfl, fun hne => ?_, fun h0 => ?_⟩)⟩
  ·rw [if_pos hne] at he; rw [he]; exact hK
  ·rw [if_neg h0] at he
   obtain ⟨r0, y0, b0, o0, hr0, ha0, hat0, hsl0, hrl0⟩ := hR.at (i := 0) (by omega) (by omega)
   have hhd : rows.headD [] = r0 := by
    cases hrw : rows with
    | nil => rw [hrw] at hr0; cases hr0
    | cons z zs =>
     rw [hrw] at hr0
     cases hr0; rfl
   rw [hhd] at he hK
   refine ⟨b0, o0, ha0, by omega, by omega, y0.a, y0.l, y0.c, hat0, fun hne => ?_, fun h1 => ⟨inI_big (by omega) (by omega), ⟨by omega, by omega, ?_⟩, ?_⟩⟩
   ·rw [if_pos (by omega)] at he; rw [he]; exact hK
   ·rw [if_neg (by omega)] at he
    rw [hhd, show (i + 1).toNat = i.toNat + 1 by omega]; exact he
   ·show l - (i + 1).toNat < l - i.toNat; omega
 ·rw [List.drop_of_length_le (by omega), rowsE1] at he
  rw [he]; exact hK
theorem ones_is {m h : Int} (hm : Mk m) (hh : Mk h) (K : Value → Prop) (hK : K (.int .i64 ((pcM m h : Nat) : Int))) : S_math_bits_OnesCount (IntKind.wrap .u64 (bAndNot .i64 m h)) M K := by
 unfold S_math_bits_OnesCount
 refine s_math_bits_OnesCount64 _ _ _ ?_
 refine (show ∀ K' : Value → Prop, K' (.int .i64 ((pcM m h : Nat) : Int)) → S_math_bits_OnesCount64 (IntKind.wrap .u64 (bAndNot .i64 m h)) M K' from fun K' hK' => ?_) _ ⟨_, rfl, hK⟩
 rcases hm.cases with rfl | rfl | rfl | rfl <;> rcases hh.cases with rfl | rfl | rfl | rfl <;>
  (unfold S_math_bits_OnesCount64; refine Eq.mp ?_ hK'; kernel_rfl)
theorem gain_is {H r : List Int} {a b : Option Addr} {n k n2 k2 : Nat} (hs : SlV M a n k 1 (cl iC H)) (hr : SlV M b n2 k2 1 (cl iC r)) (hHl : H.length = n) (hrl : r.length = n2) (hl : H.length = r.length) (h120 : r.length ≤ 120) (hHm : ∀ x ∈ H, Mk x) (hrm : ∀ x ∈ r, Mk x) (K : Value → Prop) (hK : K (.int .i64 ((gainF H r : Nat) : Int))) : S_greedy_gain a n k b n2 k2 M K := by
 subst hHl hrl
 have split : ∀ (H r : List Int) (i : Nat) (h m : Int), H[i]? = some h → r[i]? = some m → gainF (H.drop i) (r.drop i) = pcM m h + gainF (H.drop (i + 1)) (r.drop (i + 1)) := fun H r i h m h1 h2 => by rw [drop_get h1, drop_get h2, gainF]
 have hgl := gain_le H r
 unfold S_greedy_gain
 refine ⟨fun g i => 0 ≤ i ∧ i ≤ r.length ∧ g + ((gainF (H.drop i.toNat) (r.drop i.toNat) : Nat) : Int) = ((gainF H r : Nat) : Int) ∧ 0 ≤ g, fun _ i => r.length - i.toNat, ⟨by omega, by omega, by simp, by omega⟩, fun g i ⟨i0, i1, hg, g0⟩ => ⟨fun hlt => ?_, fun hge => ?_⟩⟩
 ·obtain ⟨m, hm⟩ := getI (l := r) i0 hlt
  obtain ⟨h, hh⟩ := getI (l := H) i0 (by omega)
  obtain ⟨b1, o1, ha1, hat1⟩ := hr.at iC_len rfl hm
  obtain ⟨b2, o2, ha2, hat2⟩ := hs.at iC_len rfl hh
  have e := split H r i.toNat h m hh hm
  refine ⟨b1, o1, ha1, i0, hlt, m, hat1, b2, o2, ha2, i0, by omega, h, hat2, s_math_bits_OnesCount _ _ _ (ones_is (hrm m (List.mem_of_getElem? hm)) (hHm h (List.mem_of_getElem? hh)) _ ⟨_, rfl, inI_big (by omega) (by omega), inI_big (by omega) (by omega), ⟨by omega, by omega, ?_, by omega⟩, ?_⟩)⟩
  ·rw [show (i + 1).toNat = i.toNat + 1 by omega]; omega
  ·show r.length - (i + 1).toNat < r.length - i.toNat; omega
 ·rw [List.drop_of_length_le (by omega), List.drop_of_length_le (by omega)] at hg
  have : g = ((gainF H r : Nat) : Int) := by simp only [gainF] at hg; omega
  rw [this]; exact hK
theorem merge_is {H r : List Int} {a b : Option Addr} {n k n2 k2 : Nat} (hs : SlV M a n k 1 (cl iC H)) (hr : SlV M b n2 k2 1 (cl iC r)) (hHl : H.length = n) (hrl : r.length = n2) (hl : H.length = r.length) (h120 : r.length ≤ 120) (hHm : ∀ x ∈ H, Mk x) (hrm : ∀ x ∈ r, Mk x) (K : Int → Nat → List Value → Prop) (hK : K 0 (orF H r).length (cl iC (orF H r))) : S_cover_Merge a n k b n2 k2 M K := by
 subst hHl hrl
 have mz : ∀ {z : List Int}, z.length ≤ 120 → (∀ x ∈ z, Mk x) → marksE z = 0 := fun h1 h2 => by unfold marksE; rw [if_neg (by omega), if_pos h2]
 have take_or : ∀ (H r : List Int) (i : Nat) (h m : Int), H[i]? = some h → r[i]? = some m → (orF H r).take (i + 1) = (orF H r).take i ++ [bOr .i64 h m] := fun H r i h m h1 h2 => by rw [take_get (orF_get h1 h2)]
 have hol := orF_len hl
 unfold S_cover_Merge
 refine s_cover_Check _ _ _ _ _ (cmarks_is hs rfl _ ⟨_, rfl, fun hn => absurd (mz (by omega) hHm) hn, fun _ => s_cover_Check _ _ _ _ _ (cmarks_is hr rfl _ ⟨_, rfl, fun hn => absurd (mz h120 hrm) hn, fun _ => ⟨fun hn => absurd (by omega) hn, fun _ => ?_⟩⟩)⟩)
 refine ⟨fun i rn rx => 0 ≤ i ∧ i ≤ H.length ∧ rn = i.toNat ∧ rx = cl iC ((orF H r).take i.toNat), fun i _ _ => H.length - i.toNat, ⟨by omega, by omega, rfl, rfl⟩, fun i rn rx ⟨i0, i1, hrn, hrx⟩ => ⟨fun hlt => ?_, fun hge => ?_⟩⟩
 ·obtain ⟨m, hm⟩ := getI (l := r) i0 (by omega)
  obtain ⟨h, hh⟩ := getI (l := H) i0 hlt
  obtain ⟨b1, o1, ha1, hat1⟩ := hr.at iC_len rfl hm
  obtain ⟨b2, o2, ha2, hat2⟩ := hs.at iC_len rfl hh
  refine ⟨b2, o2, ha2, i0, hlt, h, hat2, b1, o1, ha1, i0, by omega, m, hat1, by omega, inI_big (by omega) (by omega), ⟨by omega, by omega, by omega, ?_⟩, ?_⟩
  ·rw [hrx, show (i + 1).toNat = i.toNat + 1 by omega, take_or H r i.toNat h m hh hm]
   exact cl_snoc _ _
  ·show H.length - (i + 1).toNat < H.length - i.toNat; omega
 ·rw [hrn, hrx, show i.toNat = (orF H r).length by omega, List.take_length]
  exact hK
end
end Go.Proofs.Ythljpajbcllhhaa.core

namespace Go.Proofs.Ythljpajbcllhhaa.core
open Go.Gx Go.RowKit Go.ChangeShapes Go.WideShapes Go.ChangeAt
set_option linter.unusedVariables false
theorem slA_at {g k c : Nat} (hk : k < c) : slA (some ⟨g, 0, none⟩) k c 1 = some ⟨g, k, none⟩ := by
 unfold slA
 rw [if_neg (by omega)]
 simp [Addr.add]
 exact fun h => h.symm
theorem cl_iC (xs : List Int) : (cl iC xs).length = xs.length := by rw [cl_length iC_len, Nat.mul_one]
theorem cl_one8 (xs : List Int) : ∀ u ∈ cl iC xs, u.oneCell' = true := cl_one' (f := iC) (fun x u hu => by
 simp only [List.mem_singleton] at hu; subst hu; rfl) xs
def KpA (A : Option Addr) (M M' : Mem) : Prop := ∀ b o, (∀ g, A = some ⟨g, 0, none⟩ → b ≠ g) → M b = some o → M' b = some o
theorem KpA.le {A : Option Addr} {M M' M2 : Mem} (h : KpA A M M') (hl : M'.le M2) : KpA A M M2 := fun b o hb hm => hl b o (h b o hb hm)
theorem KpA.put {g k : Nat} {M M' : Mem} {vs : List Value} (h : KpA (some ⟨g, 0, none⟩) M M') : KpA (some ⟨g, 0, none⟩) M (M'.put g k vs) := fun b o hb hm => by rw [Mem.put_ne (hb g rfl)]; exact h b o hb hm
theorem roww_cut {M : Mem} {e g n cap k : Nat} {xs vs : List Value} (h : RowW M e 1 (some ⟨g, 0, none⟩) n cap xs) (hk : k ≤ n) (hv : k + vs.length ≤ n) : RowW (M.put g k vs) e 1 (some ⟨g, 0, none⟩) k cap (xs.take k) := by
 obtain ⟨h1, h2, h3, ⟨h4, _⟩ | ⟨g', cur, h4, h5, h6, h7⟩⟩ := h
 ·cases h4
 ·cases h4
  rw [Nat.mul_one] at h1 h6 h7
  have hcl : cur.toList.length = cap := by simpa using h6
  refine ⟨by rw [List.length_take, Nat.mul_one]; omega, by omega, h3, .inr ⟨g, _, rfl, Mem.put_eq h5, ?_, ?_⟩⟩
  ·simp only [List.size_toArray, putAt, List.length_append, List.length_take, List.length_drop, hcl]; omega
  ·rw [Nat.mul_one]
   show (putAt cur.toList k vs).take k = _
   rw [← h7, List.take_take, Nat.min_eq_left hk]
   unfold putAt
   rw [List.append_assoc, List.take_append_of_le_length (by rw [List.length_take]; omega), List.take_take, Nat.min_self]
theorem fw_toF {fv : Value} {args : List Value} {M : Mem} {K : Value → Mem → Prop} (h : CallFW Try.prog fv args M (fun _ => False) K) : CallF Try.prog fv args M K := by
 obtain ⟨f, fn, first, caps, h1, h2, h3, h4, h5⟩ := h
 exact ⟨f, fn, first, caps, h1, h2, h3, h4, h5.toE⟩
theorem blk_at {M : Mem} {b : Nat} {cs : List Value} {t : TypeId} {f : Nat × Nat} (h : M b = some (.cells cs.toArray t f)) : At M b 0 cs := fun j v hj => by
 unfold Mem.cell
 rw [h, Nat.zero_add]
 simpa using hj
section
variable {M : Mem}
theorem icontains_is {hv : List Int} {a : Option Addr} {n k : Nat} (hs : SlV M a n k 1 (cl iC hv)) (hl : hv.length = n) (hn : n ≤ 100000) (x : Int) (K : Value → Prop) (hK : K (.bool (decide (x ∈ hv)))) : S_slices_Contains_int a n k x M K := by
 subst hl
 unfold S_slices_Contains_int
 refine s_slices_Index_int _ _ _ _ _ _ ?_
 unfold S_slices_Index_int
 refine ⟨fun i => 0 ≤ i ∧ i ≤ hv.length ∧ ∀ (j : Nat) y, (j : Int) < i → hv[j]? = some y → y ≠ x, fun i => hv.length - i.toNat, ⟨by omega, by omega, fun j y h => by omega⟩, fun i ⟨i0, i1, hno⟩ => ⟨fun hlt => ?_, fun hge => ⟨_, rfl, ?_⟩⟩⟩
 ·obtain ⟨y, hy⟩ := getI (l := hv) i0 hlt
  obtain ⟨b, o, ha, hat⟩ := hs.at iC_len rfl hy
  refine ⟨b, o, ha, i0, hlt, y, hat, fun he => ⟨_, rfl, ?_⟩, fun hne => ⟨inI_big (by omega) (by omega), ⟨by omega, by omega, fun j z hj hz => ?_⟩, ?_⟩⟩
  ·have : x ∈ hv := by rw [he]; exact List.mem_of_getElem? hy
   rw [decide_eq_true this] at hK
   rw [decide_eq_true i0]; exact hK
  ·by_cases hji : (j : Int) < i
   ·exact hno j z hji hz
   ·rw [show j = i.toNat by omega, hy] at hz
    cases hz
    exact fun e => hne e.symm
  ·show hv.length - (i + 1).toNat < hv.length - i.toNat; omega
 ·have : x ∉ hv := fun hm => by
   obtain ⟨j, hj⟩ := List.mem_iff_getElem?.1 hm
   have := (List.getElem?_eq_some_iff.1 hj).1
   exact hno j x (by omega) hj rfl
  rw [decide_eq_false this] at hK
  exact hK
theorem delete_is {xs : List Int} {d : Int → Bool} {del : Value} {A : Option Addr} {m cap : Nat} {L : Nat → Prop} {K : Value → Mem → Prop} (hR : RowW M 3 1 A m cap (cl iC xs)) (hm : m ≤ 100000) (hL : ∀ g, A = some ⟨g, 0, none⟩ → Wr L M g)
  (hdel : ∀ x M', KpA A M M' → CallF Try.prog del [.int .i64 x] M' (fun v _ => v = .bool (d x)))
  (hK : ∀ M', KpA A M M' → SlV M' A (xs.filter fun x => !d x).length cap 1 (cl iC (xs.filter fun x => !d x)) → K (.slice A (xs.filter fun x => !d x).length cap) M') : S_slices_DeleteFunc_int A m cap del M L K := by
 have hxl : xs.length = m := by have := hR.1; rw [cl_iC] at this; omega
 subst hxl
 unfold S_slices_DeleteFunc_int
 refine s_slices_IndexFunc_int _ _ _ _ _ _ ?_
 unfold S_slices_IndexFunc_int
 refine ⟨fun i => 0 ≤ i ∧ i ≤ xs.length ∧ ∀ (j : Nat) y, (j : Int) < i → xs[j]? = some y → d y = false, fun i => xs.length - i.toNat, ⟨by omega, by omega, fun j y h => by omega⟩, fun i ⟨i0, i1, hno⟩ => ⟨fun hlt => ?_, fun hge => ⟨_, rfl, fun _ M' hle => ?_, fun hn => absurd rfl hn⟩⟩⟩
 ·obtain ⟨y, hy⟩ := getI (l := xs) i0 hlt
  obtain ⟨b, o, ha, hat⟩ := hR.slv.at iC_len rfl hy
  refine ⟨b, o, ha, i0, hlt, y, hat, (hdel y M fun b o _ h => h).mono fun v _ _ hv => ⟨d y, hv, fun hyes => ⟨_, rfl, fun hn => absurd hn (by omega), fun _ => ?_⟩, fun hn => ⟨inI_big (by omega) (by omega), ⟨by omega, by omega, fun j z hj hz => ?_⟩, ?_⟩⟩⟩
  ·obtain ⟨g, rfl⟩ : ∃ g, A = some ⟨g, 0, none⟩ := by
    obtain ⟨_, _, _, ⟨_, h, _⟩ | ⟨g, _, h, _⟩⟩ := hR
    ·omega
    ·exact ⟨g, h⟩
   have hfi : (xs.take i.toNat).filter (fun x => !d x) = xs.take i.toNat := List.filter_eq_self.2 fun z hz => by
    obtain ⟨j, hj⟩ := List.mem_iff_getElem?.1 hz
    rw [List.getElem?_take] at hj
    split at hj
    ·rw [hno j z (by omega) hj]; rfl
    ·cases hj
   refine ⟨inI_big (by omega) (by omega), List Int, fun z i j M' => 0 ≤ i ∧ i < j ∧ j ≤ xs.length ∧ RowW M' 3 1 (some ⟨g, 0, none⟩) xs.length cap (cl iC z) ∧ z.length = xs.length ∧ z.take i.toNat = (xs.take j.toNat).filter (fun x => !d x) ∧ z.drop j.toNat = xs.drop j.toNat ∧ KpA (some ⟨g, 0, none⟩) M M', fun _ _ j => xs.length - j.toNat, xs, ⟨i0, by omega, by omega, hR, rfl, ?_, rfl, fun b o _ h => h⟩, fun z i j M3 ⟨p0, p1, p2, p3, p4, p5, p6, p7⟩ => ⟨fun hlt => ?_, fun hge => ?_⟩⟩
   ·rw [show (i + 1).toNat = i.toNat + 1 by omega, take_get hy, List.filter_append, hfi]
    simp [hyes]
   ·obtain ⟨u, hu⟩ := getI (l := xs) (i := j) (by omega) hlt
    have hzu : z[j.toNat]? = some u := by
     have h1 : (z.drop j.toNat)[0]? = (xs.drop j.toNat)[0]? := by rw [p6]
     rw [List.getElem?_drop, List.getElem?_drop, Nat.add_zero, hu] at h1; exact h1
    obtain ⟨b2, o2, ha2, hat2⟩ := p3.slv.at iC_len p4 hzu
    have htk : ∀ P : Prop, (xs.take (j + 1).toNat).filter (fun x => !d x) = (xs.take j.toNat).filter (fun x => !d x) ++ [u].filter (fun x => !d x) := fun _ => by
     rw [show (j + 1).toNat = j.toNat + 1 by omega, take_get hu, List.filter_append]
    have hdr : z.drop (j + 1).toNat = xs.drop (j + 1).toNat := by
     rw [show (j + 1).toNat = j.toNat + 1 by omega, ← List.drop_drop, ← List.drop_drop, p6]
    refine ⟨b2, o2, ha2, by omega, hlt, u, hat2, ((hdel u M3 p7).toW (L := fun _ => False)).mono (fun _ h => h.elim) fun v M4 hle4 hv => ⟨d u, hv, fun hno => ?_, fun hyes => ?_⟩⟩
    ·have hdu : d u = false := by simpa using hno
     have hle : M3.le M4 := fun b o hb => hle4.keep b o hb fun h => h
     have p3' := p3.le hle
     obtain ⟨_, hhas, hput⟩ := p3'.put iC_len p4 (i := i.toNat) (by omega) rfl u
     refine ⟨g, 0, rfl, p0, by omega, hhas.m, hL g rfl, fun M5 hM5 => ⟨inI_big (by omega) (by omega), ?_⟩⟩
     unfold S_slices_DeleteFunc_int_J1
     refine ⟨inI_big (by omega) (by omega), z.set i.toNat u, ⟨by omega, by omega, by omega, by rw [hM5]; exact hput, by rw [List.length_set]; exact p4, ?_, ?_, by rw [hM5]; exact (p7.le hle).put⟩, ?_⟩
     ·have hget : (z.set i.toNat u)[i.toNat]? = some u := by rw [List.getElem?_set, if_pos rfl, if_pos (by omega)]
      rw [htk True, ← p5, show (i + 1).toNat = i.toNat + 1 by omega, take_get hget, List.take_set_of_le (Nat.le_refl _)]
      simp [hdu]
     ·rw [List.drop_set_of_lt (by omega)]; exact hdr
     ·show xs.length - (j + 1).toNat < xs.length - j.toNat; omega
    ·have hdu : d u = true := Decidable.not_not.1 hyes
     have hle : M3.le M4 := fun b o hb => hle4.keep b o hb fun h => h
     unfold S_slices_DeleteFunc_int_J1
     refine ⟨inI_big (by omega) (by omega), z, ⟨p0, by omega, by omega, p3.le hle, p4, ?_, hdr, p7.le hle⟩, ?_⟩
     ·rw [htk True, p5]; simp [hdu]
     ·show xs.length - (j + 1).toNat < xs.length - j.toNat; omega
   ·have hj : j.toNat = xs.length := by omega
    rw [hj, List.take_length] at p5
    have hnc := hR.2.1
    have hil : (xs.filter fun x => !d x).length = i.toNat := by rw [← p5, List.length_take]; omega
    have hhas : Has M3 g i.toNat (xs.length - i.toNat) := by
     obtain ⟨h1, h2, h3, ⟨h4, _⟩ | ⟨g', cur, h4, h5, h6, h7⟩⟩ := p3
     ·cases h4
     ·cases h4
      exact ⟨cur, _, h5, by omega⟩
    have hcut := roww_cut p3 (k := i.toNat) (vs := List.replicate (xs.length - i.toNat) (Value.int .i64 0)) (by omega) (by rw [List.length_replicate]; omega)
    have e : (cl iC z).take i.toNat = cl iC (xs.filter fun x => !d x) := by
     rw [← p5]
     unfold cl
     rw [List.map_take]
     have : ∀ l : List Int, (l.map iC).flatten = l.map (fun x => Value.int .i64 x) := fun l => by
      induction l with
      | nil => rfl
      | cons x l ih => rw [List.map_cons, List.flatten_cons, ih]; rfl
     rw [← List.map_take, this, this, List.map_take]
    rw [e] at hcut
    refine ⟨p0, by omega, g, i.toNat, slA_at (by omega), by omega, hhas.m, hL g rfl, fun M5 hM5 => ⟨p0, by omega, fun M6 hle6 => ?_⟩⟩
    have := hK M6 ((by rw [hM5]; exact p7.put : KpA (some ⟨g, 0, none⟩) M M5).le hle6) (by rw [hil]; rw [← hM5] at hcut; exact hcut.slv.le hle6)
    rw [hil] at this; exact this
  ·by_cases hji : (j : Int) < i
   ·exact hno j z hji hz
   ·rw [show j = i.toNat by omega, hy] at hz
    cases hz
    simpa using hn
  ·show xs.length - (i + 1).toNat < xs.length - i.toNat; omega
 ·have e : xs.filter (fun x => !d x) = xs := List.filter_eq_self.2 fun z hz => by
   obtain ⟨j, hj⟩ := List.mem_iff_getElem?.1 hz
   have := (List.getElem?_eq_some_iff.1 hj).1
   rw [hno j z (by omega) hj]; rfl
  have := hK M' (fun b o _ h => hle b o h)
  rw [e] at this
  exact this (hR.slv.le hle)
theorem said_is {r : List Int} {a : Option Addr} {n k : Nat} (hs : SlV M a n k 1 (cl iC r)) (hl : r.length = n) (h120 : r.length ≤ 120) (hrm : ∀ x ∈ r, Mk x) (K : Nat → List Value → Prop) (hK : K (saidF r 0).length (cl iC (saidF r 0))) : S_chaffref_Said a n k M K := by
 subst hl
 unfold S_chaffref_Said
 refine ⟨fun i rn rx => 0 ≤ i ∧ i ≤ r.length ∧ ∃ pre : List Int, rn = pre.length ∧ rx = cl iC pre ∧ pre ++ saidF (r.drop i.toNat) i = saidF r 0 ∧ (pre.length : Int) ≤ 2 * i, fun i _ _ => r.length - i.toNat, ⟨by omega, by omega, [], rfl, rfl, rfl, by simp⟩, fun i rn rx ⟨i0, i1, pre, hrn, hrx, hpre, hlen⟩ => ⟨fun hlt => ?_, fun hge => ?_⟩⟩
 ·obtain ⟨m, hm⟩ := getI (l := r) i0 hlt
  obtain ⟨b, o, ha, hat⟩ := hs.at iC_len rfl hm
  have hmk := hrm m (List.mem_of_getElem? hm)
  have htd : InI (m.tdiv 2) := by
   rcases hmk.cases with rfl | rfl | rfl | rfl <;> exact inI_big (by decide) (by decide)
  rw [drop_get hm, saidF, ← List.append_assoc] at hpre
  have j1 : ∀ (rn' : Nat) (rx' : List Value) (p : List Int), p = pre ++ (if m.tmod 2 = 1 then [2 * i] else []) → rn' = p.length → rx' = cl iC p → S_chaffref_Said_J1 i rn rx (fun i rn rx => 0 ≤ i ∧ i ≤ r.length ∧ ∃ pre : List Int, rn = pre.length ∧ rx = cl iC pre ∧ pre ++ saidF (r.drop i.toNat) i = saidF r 0 ∧ (pre.length : Int) ≤ 2 * i) (fun i _ _ => r.length - i.toNat) m rn' rx' K := by
   intro rn' rx' p hp hrn' hrx'
   have hpl : (p.length : Int) ≤ 2 * i + 1 := by
    rw [hp, List.length_append]; split <;> simp <;> omega
   have j2 : ∀ (rn2 : Nat) (rx2 : List Value) (p2 : List Int), p2 = p ++ (if m.tdiv 2 = 1 then [2 * i + 1] else []) → rn2 = p2.length → rx2 = cl iC p2 → S_chaffref_Said_J2 i rn rx (fun i rn rx => 0 ≤ i ∧ i ≤ r.length ∧ ∃ pre : List Int, rn = pre.length ∧ rx = cl iC pre ∧ pre ++ saidF (r.drop i.toNat) i = saidF r 0 ∧ (pre.length : Int) ≤ 2 * i) (fun i _ _ => r.length - i.toNat) rn2 rx2 K := by
    intro rn2 rx2 p2 hp2 hrn2 hrx2
    unfold S_chaffref_Said_J2
    refine ⟨inI_big (by omega) (by omega), ⟨by omega, by omega, p2, hrn2, hrx2, ?_, ?_⟩, ?_⟩
    ·rw [hp2, hp, show (i + 1).toNat = i.toNat + 1 by omega, ← hpre]
     unfold sd
     simp only [List.append_assoc]
    ·rw [hp2, List.length_append]; split <;> simp <;> omega
    ·show r.length - (i + 1).toNat < r.length - i.toNat; omega
   unfold S_chaffref_Said_J1
   refine ⟨htd, fun h1 => ⟨inI_big (by omega) (by omega), inI_big (by omega) (by omega), by omega, j2 _ _ (p ++ [2 * i + 1]) (by rw [if_pos h1]) (by simp [hrn']) (by rw [hrx']; exact cl_snoc _ _)⟩, fun h1 => j2 _ _ p (by rw [if_neg h1, List.append_nil]) hrn' hrx'⟩
  exact ⟨b, o, ha, i0, hlt, m, hat, fun h1 => ⟨inI_big (by omega) (by omega), by omega, j1 _ _ (pre ++ [2 * i]) (by rw [if_pos h1]) (by simp [hrn]) (by rw [hrx]; exact cl_snoc _ _)⟩, fun h1 => j1 _ _ pre (by rw [if_neg h1, List.append_nil]) hrn hrx⟩
 ·rw [List.drop_of_length_le (by omega), saidF, List.append_nil] at hpre
  rw [hrn, hrx, hpre]; exact hK
theorem said_len : ∀ (r : List Int) (i : Int), (saidF r i).length ≤ 2 * r.length
 | [], _ => by simp [saidF]
 | m :: r, i => by
  have := said_len r (i + 1)
  rw [saidF, List.length_append, List.length_cons]
  have : (sd i m).length ≤ 2 := by unfold sd; split <;> split <;> simp
  omega
theorem fresh_is {hv r : List Int} {a b : Option Addr} {n k n2 k2 : Nat} (hs : SlV M a n k 1 (cl iC hv)) (hr : SlV M b n2 k2 1 (cl iC r)) (hvl : hv.length = n) (hrl : r.length = n2) (h240 : hv.length ≤ 240) (h120 : r.length ≤ 120) (hrm : ∀ x ∈ r, Mk x) (K : Value → Mem → Prop)
  (hK : ∀ M' A cap, M.le M' → SlV M' A (fr hv r).length cap 1 (cl iC (fr hv r)) → K (.slice A (fr hv r).length cap) M') : S_chaffref_fresh a n k b n2 k2 M (fun _ => False) K := by
 have hsl := said_len r 0
 unfold S_chaffref_fresh
 refine s_chaffref_Said _ _ _ _ _ (said_is hr hrl h120 hrm _ fun M14 ad cap hnr b7 M15 hb7 hM15 => ?_)
 have hrow := hnr.roww
 have hle14 := hnr.le
 have hle15 : M14.le M15 := by rw [hM15]; exact Mem.add_le hb7
 have hadg : ∀ g, ad = some ⟨g, 0, none⟩ → M g = none ∧ (M14 g).isSome = true := fun g hg => by
  obtain ⟨_, _, _, ⟨h, _⟩ | ⟨g', cur, h, hg', _, _, hM⟩⟩ := hnr
  ·rw [h] at hg; cases hg
  ·rw [h] at hg; cases hg; exact ⟨hg', by rw [hM, Mem.add_eq]; rfl⟩
 have hb7M : M b7 = none := by
  cases hv : M b7 with
  | none => rfl
  | some o => rw [hle14 _ _ hv] at hb7; cases hb7
 have h7 : M15 b7 = some (.cells [Value.slice a n k].toArray 37 (0, 0)) := by rw [hM15]; exact Mem.add_eq
 have hg7 : ∀ g, ad = some ⟨g, 0, none⟩ → b7 ≠ g := fun g hg e => by have := (hadg g hg).2; rw [← e, hb7] at this; cases this
 refine (s_slices_DeleteFunc_int _ _ _ _ _ (fun b => ad = some ⟨b, 0, none⟩) _ (delete_is (d := fun x => decide (x ∈ hv)) (hrow.le hle15) (by omega) (fun g hg => .inl hg) (fun x M' hk => ?_) fun M' hk hsl' => ⟨_, _, _, rfl, fun M3 hle3 => hK M3 ad cap (fun b o hb => hle3 b o (hk b o (fun g hg e => by rw [e, (hadg g hg).1] at hb; cases hb) (hle15 b o (hle14 b o hb)))) (hsl'.le hle3)⟩)).mono (fun b hb => .inr (hadg b hb).1) fun v M' _ h => h
 refine fw_toF (f_chaffref_fresh_1 _ _ _ _ _ ?_)
 unfold S_chaffref_fresh_1
 have hM' : M.le M' := fun b o hb => hk b o (fun g hg e => by rw [e, (hadg g hg).1] at hb; cases hb) (hle15 b o (hle14 b o hb))
 exact ⟨a, n, k, blk_at (hk _ _ (fun g hg => hg7 g hg) h7), s_slices_Contains_int _ _ _ _ _ _ (icontains_is (hs.le hM') hvl (by omega) x _ ⟨_, rfl, fun _ _ => rfl⟩)⟩
end
def Best (rows : List (List Int)) (H : List Int) (i best : Int) : Prop := (best = -1 ∧ ∀ (j : Nat) r, i < (j : Int) → rows[j]? = some r → gainF H r = 0) ∨ (∃ r, i < best ∧ rows[best.toNat]? = some r ∧ 0 < gainF H r ∧ ∀ (j : Nat) r', i < (j : Int) → rows[j]? = some r' → gainF H r' ≤ gainF H r ∧ ((j : Int) < best → gainF H r' < gainF H r))
theorem Best.next {rows : List (List Int)} {H : List Int} {i best : Int} {r : List Int} (h : Best rows H i best) (hi : 0 ≤ i) (hr : rows[i.toNat]? = some r) (best' : Int) (hb : best' = if 0 < gainF H r ∧ (best < 0 ∨ ∀ r', rows[best.toNat]? = some r' → gainF H r' ≤ gainF H r) then i else best) : Best rows H (i - 1) best' := by
 have at_i : ∀ (j : Nat) r', i - 1 < (j : Int) → rows[j]? = some r' → (j = i.toNat ∧ r' = r) ∨ i < (j : Int) := fun j r' hj hr' => by
  by_cases e : j = i.toNat
  ·rw [e, hr] at hr'; cases hr'; exact .inl ⟨e, rfl⟩
  ·exact .inr (by omega)
 rcases h with ⟨rfl, h⟩ | ⟨rb, h1, h2, h3, h4⟩
 ·by_cases hpos : 0 < gainF H r
  ·rw [if_pos ⟨hpos, .inl (by omega)⟩] at hb
   refine .inr ⟨r, by omega, by rw [hb]; exact hr, hpos, fun j r' hj hr' => ?_⟩
   rcases at_i j r' hj hr' with ⟨e, rfl⟩ | hlt
   ·exact ⟨Nat.le_refl _, fun hn => by omega⟩
   ·have := h j r' hlt hr'
    exact ⟨by omega, fun hn => by omega⟩
  ·rw [if_neg (fun hc => hpos hc.1)] at hb
   refine .inl ⟨hb, fun j r' hj hr' => ?_⟩
   rcases at_i j r' hj hr' with ⟨e, rfl⟩ | hlt
   ·omega
   ·exact h j r' hlt hr'
 ·by_cases hc : 0 < gainF H r ∧ gainF H rb ≤ gainF H r
  ·rw [if_pos ⟨hc.1, .inr fun r' hr' => by rw [h2] at hr'; cases hr'; exact hc.2⟩] at hb
   refine .inr ⟨r, by omega, by rw [hb]; exact hr, hc.1, fun j r' hj hr' => ?_⟩
   rcases at_i j r' hj hr' with ⟨e, rfl⟩ | hlt
   ·exact ⟨Nat.le_refl _, fun hn => by omega⟩
   ·have := h4 j r' hlt hr'
    exact ⟨by omega, fun hn => by omega⟩
  ·rw [if_neg (fun hn => hc ⟨hn.1, by
    rcases hn.2 with h | h
    ·omega
    ·exact h rb h2⟩)] at hb
   subst hb
   refine .inr ⟨rb, by omega, h2, h3, fun j r' hj hr' => ?_⟩
   rcases at_i j r' hj hr' with ⟨e, rfl⟩ | hlt
   ·have : gainF H r' < gainF H rb := by
     by_cases h0 : 0 < gainF H r'
     ·exact Nat.lt_of_not_le fun h => hc ⟨h0, h⟩
     ·omega
    exact ⟨by omega, fun _ => this⟩
   ·exact h4 j r' hlt hr'
section
variable {M : Mem} {rows : List (List Int)} {ys : List Sl3} {A : Option Addr} {l c n : Nat}
theorem rpick_is (hR : RowsR M rows ys A l c) (hl40 : l ≤ 40) (hn120 : n ≤ 120) (hrows : ∀ r ∈ rows, r.length = n ∧ ∀ x ∈ r, Mk x) (K : Value → Mem → Prop)
  (hK : ∀ M' ad cap out, M.le M' → Picks rows (List.replicate n 0) [] out → SlV M' ad out.length cap 1 (cl iC out) → K (.slice ad out.length cap) M') : S_chaffref_Pick A l c M (fun _ => False) K := by
 have hrl := hR.rl
 unfold S_chaffref_Pick
 intro M4 hnr4
 have e4 : M4 = M := by
  obtain ⟨_, _, _, ⟨_, _, _, h⟩ | ⟨_, _, h, _⟩⟩ := hnr4
  ·exact h
  ·cases h
 subst e4
 refine ⟨List Int × List Int × List Int, fun g ha hn hc rn rx M' => RowW M' 3 1 ha hn hc (cl iC g.1) ∧ Knows g.1 g.2.1 ∧ g.2.1.length = n ∧ (∀ x ∈ g.2.1, Mk x) ∧ wt g.2.1 = hn ∧ rn = g.2.2.length ∧ rx = cl iC g.2.2 ∧ (∀ res, Picks rows g.2.1 g.2.2 res → Picks rows (List.replicate n 0) [] res) ∧ M4.le M' ∧ (∀ b, ha = some ⟨b, 0, none⟩ → M4 b = none) ∧ g.2.2.length ≤ hn, fun _ _ hn _ _ _ => 1000 - hn, ([], List.replicate n 0, []), ⟨⟨rfl, Nat.le_refl _, by decide, .inl ⟨rfl, rfl, rfl⟩⟩, Knows.nil n, by simp, fun x hx => by rw [List.eq_of_mem_replicate hx]; unfold Mk; omega, wt_zero n, rfl, rfl, fun _ h => h, Mem.le.refl _, fun b h => (by cases h), Nat.le_refl _⟩, fun ⟨hv, H, out⟩ ha hn hc rn rx M1 ⟨g1, g2, g3, g4, g5, g6, g7, g8, g9, g10, g11⟩ => ⟨inI_big (by omega) (by omega), ?_⟩⟩
 simp only at g1 g2 g3 g4 g5 g6 g7 g8 g11
 have hvl : hv.length = hn := by have := g1.1; rw [cl_iC] at this; omega
 have hwt := wt_le H
 have frl : ∀ {r}, r ∈ rows → (fr hv r).length = gainF H r := fun hr => fr_len (by rw [g3, (hrows _ hr).1]) g2
 refine ⟨Unit, fun _ best i M' => -1 ≤ i ∧ i < l ∧ best < l ∧ Best rows H i best ∧ M1.le M', fun _ _ i => (i + 1).toNat, (), ⟨by omega, by omega, by omega, .inl ⟨rfl, fun j r hj hr => ?_⟩, Mem.le.refl _⟩, fun _ best i M2 ⟨i0, i1, hbl, hb, hle2⟩ => ⟨fun hge => ?_, fun hlt => ?_⟩⟩
 ·have := (List.getElem?_eq_some_iff.1 hr).1; omega
 ·obtain ⟨r, y, b, o, hr, hA, hat, hsl, hrl2⟩ := (hR.le (g9.trans hle2)).at (i := i) (by omega) (by omega)
  obtain ⟨r1, r2⟩ := hrows r (List.mem_of_getElem? hr)
  have hfl := frl (List.mem_of_getElem? hr)
  have j1 : ∀ (v : Bool) (M3 : Mem), M2.le M3 → (v = true ↔ 0 < gainF H r ∧ (best < 0 ∨ ∀ r', rows[best.toNat]? = some r' → gainF H r' ≤ gainF H r)) → S_chaffref_Pick_J1 best i Unit () (fun _ best i M' => -1 ≤ i ∧ i < l ∧ best < l ∧ Best rows H i best ∧ M1.le M') (fun _ _ i => (i + 1).toNat) v M3 K := by
   intro v M3 hle3 hv1
   have j2 : ∀ best' : Int, best' = (if 0 < gainF H r ∧ (best < 0 ∨ ∀ r', rows[best.toNat]? = some r' → gainF H r' ≤ gainF H r) then i else best) → S_chaffref_Pick_J2 best i Unit () (fun _ best i M' => -1 ≤ i ∧ i < l ∧ best < l ∧ Best rows H i best ∧ M1.le M') (fun _ _ i => (i + 1).toNat) best' M3 K := by
    intro best' hb'
    unfold S_chaffref_Pick_J2
    refine ⟨inI_big (by omega) (by omega), (), ⟨by omega, by omega, by rw [hb']; split <;> omega, hb.next (by omega) hr best' hb', hle2.trans hle3⟩, ?_⟩
    show (i - 1 + 1).toNat < (i + 1).toNat; omega
   unfold S_chaffref_Pick_J1
   exact ⟨fun ht => j2 i (by rw [if_pos (hv1.1 ht)]), fun hf => j2 best (by rw [if_neg fun h => hf (hv1.2 h)])⟩
  refine ⟨b, o, hA, by omega, by omega, y.a, y.l, y.c, hat, (s_chaffref_fresh _ _ _ _ _ _ _ (fun _ => False) _ (fresh_is ((g1.le hle2).slv) hsl hvl hrl2 (by omega) (by omega) r2 _ fun M3 ad cap hle3 hsl3 => ⟨_, _, _, rfl, fun hpos => ⟨fun hneg => j1 _ M3 hle3 ?_, fun hnn => ?_⟩, fun h0 => j1 _ M3 hle3 ?_⟩)).mono (fun _ h => h.elim) fun v M' _ h => h⟩
  ·exact ⟨fun _ => ⟨by omega, .inl hneg⟩, fun _ => rfl⟩
  ·rcases hb with ⟨rfl, _⟩ | ⟨rb, hb1, hb2, hb3, hb4⟩
   ·omega
   obtain ⟨rb', yb, b3, o3, hrb, hA3, hat3, hsl4, hrl4⟩ := (hR.le ((g9.trans hle2).trans hle3)).at (i := best) (by omega) (by omega)
   rw [hb2] at hrb; cases hrb
   obtain ⟨q1, q2⟩ := hrows rb (List.mem_of_getElem? hb2)
   have hfb := frl (List.mem_of_getElem? hb2)
   refine ⟨b3, o3, hA3, by omega, by omega, yb.a, yb.l, yb.c, hat3, (s_chaffref_fresh _ _ _ _ _ _ _ (fun _ => False) _ (fresh_is ((g1.le (hle2.trans hle3)).slv) hsl4 hvl hrl4 (by omega) (by omega) q2 _ fun M5 ad5 cap5 hle5 hsl5 => ⟨_, _, _, rfl, j1 _ M5 (hle3.trans hle5) ?_⟩)).mono (fun _ h => h.elim) fun v M' _ h => h⟩
   rw [decide_eq_true_iff, hfl, hfb]
   refine ⟨fun h => ⟨by omega, .inr fun r' hr' => by rw [hb2] at hr'; cases hr'; omega⟩, fun h => ?_⟩
   rcases h.2 with h | h
   ·omega
   ·have := h rb hb2; omega
  ·exact ⟨fun h => (by cases h), fun h => by omega⟩
 ·have hi : i = -1 := by omega
  subst hi
  refine ⟨fun hneg M3 ad cap hnr M5 hle5 => ?_, fun hnn => ?_⟩
  ·have hstop : ∀ r ∈ rows, gainF H r = 0 := fun r hr => by
    rcases hb with ⟨_, h⟩ | ⟨_, h1, _⟩
    ·obtain ⟨j, hj⟩ := List.mem_iff_getElem?.1 hr
     exact h j r (by omega) hj
    ·omega
   rw [g6, g7] at hnr
   rw [g6]
   exact hK M5 ad cap out ((g9.trans hle2).trans (hnr.le.trans hle5)) (g8 _ (.stop hstop)) (hnr.slv.le hle5)
  ·rcases hb with ⟨rfl, _⟩ | ⟨rb, hb1, hb2, hb3, hb4⟩
   ·omega
   obtain ⟨rb', yb, b3, o3, hrb, hA3, hat3, hsl4, hrl4⟩ := (hR.le (g9.trans hle2)).at (i := best) (by omega) (by omega)
   rw [hb2] at hrb; cases hrb
   have hm := List.mem_of_getElem? hb2
   obtain ⟨q1, q2⟩ := hrows rb hm
   have hfb := frl hm
   have hwo := wt_or (H := H) (r := rb) (by omega) g4 q2
   have hwo2 := wt_le (orF H rb)
   rw [orF_len (by omega)] at hwo2
   refine ⟨by omega, b3, o3, hA3, by omega, by omega, yb.a, yb.l, yb.c, hat3, (s_chaffref_fresh _ _ _ _ _ _ _ (fun _ => False) _ (fresh_is ((g1.le hle2).slv) hsl4 hvl hrl4 (by omega) (by omega) q2 _ fun M5 ad5 cap5 hle5 hsl5 => ⟨_, _, _, rfl, cl iC (fr hv rb), hsl5, cl_one8 _, cl iC hv, g1.le (hle2.trans hle5), fun g hg => .inr (g10 g hg), by omega, fun M6 ad6 cap6 hap => ⟨(hv ++ fr hv rb, orF H rb, out ++ [best]), ⟨?_, g2.next (by omega) g4 q2, by rw [orF_len (by omega)]; exact g3, orF_mark g4 q2, by show wt (orF H rb) = _; rw [hfb]; omega, by simp [g6], by rw [g7]; exact cl_snoc _ _, fun res hres => g8 res (.step hb2 hb3 (fun j r' hr' => ?_) ?_), fun b o hbo => ?_, fun b hbb => ?_, ?_⟩, ?_⟩⟩)).mono (fun _ h => h.elim) fun v M' _ h => h⟩
   ·have := hap.row
    rw [← cl_append] at this; exact this
   ·have := hb4 j r' (by omega) hr'
    exact ⟨this.1, fun h => this.2 (by omega)⟩
   ·rw [show ((best.toNat : Nat) : Int) = best by omega]; exact hres
   ·exact hap.keep b o (((g9.trans hle2).trans hle5) b o hbo) fun g hg e => by rw [e, g10 g hg] at hbo; cases hbo
   ·rcases hap.blk b hbb with h | h
    ·exact g10 b h
    ·cases hv : M4 b with
     | none => rfl
     | some o => rw [((g9.trans hle2).trans hle5) b o hv] at h; cases h
   ·simp only [List.length_append, List.length_cons, List.length_nil]; omega
   ·show 1000 - (hn + (fr hv rb).length) < 1000 - hn
    omega
theorem gpick_is (hR : RowsR M rows ys A l c) (K : Value → Mem → Prop) (h1 : rowsE rows ≠ 0 → ∀ M', M.le M' → K (.tuple #[.slice none 0 0, .int .i64 (rowsE rows)]) M')
  (h2 : rowsE rows = 0 → ∀ M' ad cap out, M.le M' → Picks rows (List.replicate (rows.headD []).length 0) [] out → SlV M' ad out.length cap 1 (cl iC out) → K (.tuple #[.slice ad out.length cap, .int .i64 0]) M') : S_greedy_Pick A l c M K := by
 have hrl := hR.rl
 unfold S_greedy_Pick
 refine s_greedy_Check _ _ _ _ _ (grows_is hR _ ⟨_, rfl, h1, fun h => ?_⟩)
 have h0 := Decidable.not_not.1 h
 obtain ⟨hl40, hrows⟩ := rows_ok rfl h0
 refine ⟨fun hz M' hle => ?_, fun hnz => ?_⟩
 ·have hnil : rows = [] := List.eq_nil_of_length_eq_zero (by omega)
  exact h2 h0 M' none 0 [] hle (by rw [hnil]; exact .stop fun r hr => by cases hr) ⟨rfl, Nat.le_refl _, by decide, fun h => by simp at h⟩
 obtain ⟨r0, y0, b0, o0, hr0, hA0, hat0, hsl0, hrl0⟩ := hR.at (i := 0) (by omega) (by omega)
 have hhd : rows.headD [] = r0 := by
  cases hrw : rows with
  | nil => rw [hrw] at hr0; cases hr0
  | cons z zs => rw [hrw] at hr0; cases hr0; rfl
 rw [hhd] at hrows h2
 have hn120 := (hrows r0 (List.mem_of_getElem? hr0)).2.1
 refine ⟨b0, o0, hA0, by omega, by omega, y0.a, y0.l, y0.c, hat0, by omega, Int.le_refl _, by omega, fun rn rx hn hx => ∃ out H : List Int, rn = out.length ∧ rx = cl iC out ∧ hn = H.length ∧ hx = cl iC H ∧ H.length = r0.length ∧ (∀ x ∈ H, Mk x) ∧ (∀ res, Picks rows H out res → Picks rows (List.replicate r0.length 0) [] res) ∧ out.length ≤ wt H, fun rn _ _ _ => 1000 - rn, ⟨[], List.replicate r0.length 0, rfl, rfl, by rw [← hrl0]; simp, ?_, by simp, fun x hx => by rw [List.eq_of_mem_replicate hx]; unfold Mk; omega, fun _ h => h, by simp⟩, fun rn rx hn hx ⟨out, H, g1, g2, g3, g4, g5, g6, g7, g8⟩ => ?_⟩
 ·rw [← hrl0, Int.toNat_natCast]
  unfold repl cl
  rw [List.map_replicate]
 have hwt := wt_le H
 refine ⟨fun best most i => 0 ≤ i ∧ i ≤ l ∧ 0 ≤ best ∧ best < l ∧ 0 ≤ most ∧ ((most = 0 ∧ ∀ (j : Nat) r, (j : Int) < i → rows[j]? = some r → gainF H r = 0) ∨ (0 < most ∧ best < i ∧ ∃ r, rows[best.toNat]? = some r ∧ ((gainF H r : Nat) : Int) = most ∧ ∀ (j : Nat) r', (j : Int) < i → rows[j]? = some r' → ((gainF H r' : Nat) : Int) ≤ most ∧ ((j : Int) < best → ((gainF H r' : Nat) : Int) < most))), fun _ _ i => l - i.toNat, ⟨by omega, by omega, by omega, by omega, by omega, .inl ⟨rfl, fun j r h => by omega⟩⟩, fun best most i ⟨i0, i1, b0', b1, m0, hst⟩ => ⟨fun hlt => ?_, fun hge => ?_⟩⟩
 ·obtain ⟨r, y, b, o, hr, hA, hat, hsl, hrl2⟩ := hR.at i0 hlt
  obtain ⟨r1, r2, r3⟩ := hrows r (List.mem_of_getElem? hr)
  have at_i : ∀ (j : Nat) r', (j : Int) < i + 1 → rows[j]? = some r' → (j = i.toNat ∧ r' = r) ∨ (j : Int) < i := fun j r' hj hr' => by
   by_cases e : j = i.toNat
   ·rw [e, hr] at hr'; cases hr'; exact .inl ⟨e, rfl⟩
   ·exact .inr (by omega)
  refine ⟨b, o, hA, i0, hlt, y.a, y.l, y.c, hat, fun M2 ad cap hle2 hsl2 => ?_⟩
  rw [g4] at hsl2
  refine s_greedy_gain _ _ _ _ _ _ _ _ (gain_is hsl2 (hsl.le hle2) g3.symm hrl2 (by omega) (by omega) g6 r3 _ ⟨_, rfl, fun hgt => ?_, fun hle => ?_⟩)
  ·unfold S_greedy_Pick_J1
   refine ⟨inI_big (by omega) (by omega), ⟨by omega, by omega, i0, hlt, by omega, .inr ⟨by omega, by omega, r, hr, rfl, fun j r' hj hr' => ?_⟩⟩, ?_⟩
   ·rcases at_i j r' hj hr' with ⟨e, rfl⟩ | hji
    ·exact ⟨Int.le_refl _, fun h => by omega⟩
    ·rcases hst with ⟨hm0, hz⟩ | ⟨_, _, rb, _, _, hz⟩
     ·have := hz j r' hji hr'
      exact ⟨by omega, fun _ => by omega⟩
     ·have := (hz j r' hji hr').1
      exact ⟨by omega, fun _ => by omega⟩
   ·show l - (i + 1).toNat < l - i.toNat; omega
  ·unfold S_greedy_Pick_J1
   refine ⟨inI_big (by omega) (by omega), ⟨by omega, by omega, b0', b1, m0, ?_⟩, ?_⟩
   ·rcases hst with ⟨hm0, hz⟩ | ⟨hm, hbi, rb, hrb, hgb, hz⟩
    ·refine .inl ⟨hm0, fun j r' hj hr' => ?_⟩
     rcases at_i j r' hj hr' with ⟨e, rfl⟩ | hji
     ·omega
     ·exact hz j r' hji hr'
    ·refine .inr ⟨hm, by omega, rb, hrb, hgb, fun j r' hj hr' => ?_⟩
     rcases at_i j r' hj hr' with ⟨e, rfl⟩ | hji
     ·exact ⟨by omega, fun hjb => by omega⟩
     ·exact hz j r' hji hr'
   ·show l - (i + 1).toNat < l - i.toNat; omega
 ·refine ⟨fun hm0 M2 ad cap hle2 hsl2 M3 hle3 => ?_, fun hmn => ?_⟩
  ·have hstop : ∀ r ∈ rows, gainF H r = 0 := fun r hr => by
    obtain ⟨j, hj⟩ := List.mem_iff_getElem?.1 hr
    have := (List.getElem?_eq_some_iff.1 hj).1
    rcases hst with ⟨_, hz⟩ | ⟨hm, _⟩
    ·exact hz j r (by omega) hj
    ·omega
   rw [g1, g2] at hsl2
   rw [g1]
   exact h2 h0 M3 ad cap out (hle2.trans hle3) (g7 _ (.stop hstop)) (hsl2.le hle3)
  ·rcases hst with ⟨hm0, _⟩ | ⟨hm, hbi, rb, hrb, hgb, hz⟩
   ·exact absurd hm0 hmn
   obtain ⟨rb', yb, b3, o3, hrb', hA3, hat3, hsl3, hrl3⟩ := hR.at (i := best) b0' b1
   rw [hrb] at hrb'; cases hrb'
   obtain ⟨q1, q2, q3⟩ := hrows rb (List.mem_of_getElem? hrb)
   have hwo := wt_or (H := H) (r := rb) (by omega) g6 q3
   refine ⟨by omega, b3, o3, hA3, b0', b1, yb.a, yb.l, yb.c, hat3, fun M2 ad cap hle2 hsl2 => ?_⟩
   rw [g4] at hsl2
   refine s_cover_Merge _ _ _ _ _ _ _ _ (merge_is hsl2 (hsl3.le hle2) g3.symm hrl3 (by omega) (by omega) g6 q3 _ ⟨⟨out ++ [best], orF H rb, by simp [g1], by rw [g2]; exact cl_snoc _ _, rfl, rfl, by rw [orF_len (by omega)]; exact g5, orF_mark g6 q3, fun res hres => g7 res (.step hrb (by omega) (fun j r' hr' => ?_) ?_), ?_⟩, ?_⟩)
   ·have hjl := (List.getElem?_eq_some_iff.1 hr').1
    have := hz j r' (by omega) hr'
    exact ⟨by omega, fun hj => by have := this.2 (by omega); omega⟩
   ·rw [show ((best.toNat : Nat) : Int) = best by omega]; exact hres
   ·rw [List.length_append, List.length_cons, List.length_nil, hwo]; omega
   ·show 1000 - (rn + 1) < 1000 - rn
    omega
end
end Go.Proofs.Ythljpajbcllhhaa.core

