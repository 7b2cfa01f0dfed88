/- Contracts and what they hang on, of several parts. No condition. -/
import Derived.Test.YtmnilbfhfjdelaaGreatM4
import Derived.Test.YtmnilbfhfjdelaaGreatM2
import Derived.Test.YtmnilbfhfjdelaaGreatPackG
import Derived.Test.YtmnilbfhfjdelaaGreatM3
import Derived.RangeFuncNested
import Derived.RangeFuncBound
import Derived.RangeFuncCalls
import Derived.RangeFuncLeaves
import Derived.RangeFuncWrites
import Derived.RangeFuncBox
import Derived.Shelf.Abstract
import Derived.WalkKit
import Derived.OwnWalkIn
import Derived.TacticsInMore
import Derived.LoopNIn
import Derived.LoopIn
import Derived.Maps.OwnIn
import Derived.Maps.AppendAt
import Derived.StringKeys
import Derived.BigRegionIn
namespace Go.Proofs.YtmnilbfhfjdelaaGreat.core
open Go.Gx Go.RowKit Go.ChangeShapes Go.WideShapes Go.ChangeAt
set_option linter.unusedVariables false
theorem prefix_is (a b : List UInt8) {M : Mem} (K : Value → Prop) (hK : K (.bool (decide (b.length ≤ a.length ∧ a.take b.length = b)))) : S_strings_HasPrefix a b M K := by
 unfold S_strings_HasPrefix
 refine s_internal_stringslite_HasPrefix _ _ _ _ ?_
 unfold S_internal_stringslite_HasPrefix
 refine ⟨fun h => ⟨by omega, by omega, by omega, _, rfl, ?_⟩, fun h => ⟨_, rfl, ?_⟩⟩
 ·have : ((mkS ((a.take ((b.length : Nat) : Int).toNat).drop (0 : Int).toNat)).toList == (mkS b).toList) = decide (b.length ≤ a.length ∧ a.take b.length = b) := by
   rw [Bool.eq_iff_iff, mkS_beq, decide_eq_true_iff]
   simp only [Int.toNat_natCast, Int.toNat_zero, List.drop_zero]
   exact ⟨fun h' => ⟨by omega, h'⟩, fun h' => h'.2⟩
  rw [this]; exact hK
 ·rw [show decide (b.length ≤ a.length ∧ a.take b.length = b) = false from decide_eq_false (fun h' => h (by omega))] at hK
  exact hK
end Go.Proofs.YtmnilbfhfjdelaaGreat.core

namespace Go.Proofs.YtmnilbfhfjdelaaGreat.core
open Go.Gx Go.RowKit Go.ChangeShapes Go.WideShapes Go.ChangeAt
set_option linter.unusedVariables false
theorem row_ex {rs : List Ru} {s : List UInt8} {E : Nat → Nat → Int} {p : Nat} (hw : WellOk rs) (hE : EOk rs s E p) (hp : p ≤ s.length) : ∃ row, RowOk rs s E p row ∧ ∀ (i : Nat) z, row[i]? = some z → z ≠ -2 := by
 obtain ⟨st, hst, hord⟩ := hw.stage
 have key : ∀ k : Nat, ∃ row, RowOk rs s E p row ∧ ∀ (i : Nat) z, st i ≤ k → row[i]? = some z → z ≠ -2 := by
  intro k
  induction k with
  | zero =>
   refine ⟨List.replicate rs.length (-2), RowOk.init hE (by simp) fun i z hz => ?_, fun i z hi hz => ?_⟩
   ·rw [List.getElem?_replicate] at hz
    split at hz
    ·simpa using hz.symm
    ·cases hz
   ·have := (List.getElem?_eq_some_iff.1 hz).1
    have := (hst i (by simpa using this)).1
    omega
  | succ k ih =>
   obtain ⟨row0, hR0, hk0⟩ := ih
   have inner : ∀ i : Nat, i ≤ rs.length → ∃ row, RowOk rs s E p row ∧ (∀ (j : Nat) z, st j ≤ k → row[j]? = some z → z ≠ -2) ∧ ∀ (j : Nat) z, j < i → st j ≤ k + 1 → row[j]? = some z → z ≠ -2 := by
    intro i
    induction i with
    | zero => intro _; exact ⟨row0, hR0, hk0, fun j z h => by omega⟩
    | succ i ihi =>
     intro hi
     obtain ⟨row, hR, hk, hki⟩ := ihi (by omega)
     obtain ⟨z, hz⟩ := getN (l := row) (i := i) (by rw [hR.len]; omega)
     obtain ⟨r, hr⟩ := getN (l := rs) (i := i) (by omega)
     by_cases h2 : z = -2
     ·subst h2
      have hhit : st i ≤ k + 1 → endE rs s (upd E p row) r.body p ≠ -2 := fun hsti => hR.hit hw hE hp (List.mem_of_getElem? hr) fun j hj z hz => hk j z (by have := hord _ r hr j hj; omega) hz
      have hset : ∀ (j : Nat) y, (row.set i (endE rs s (upd E p row) r.body p))[j]? = some y → (j = i ∧ y = endE rs s (upd E p row) r.body p) ∨ (j ≠ i ∧ row[j]? = some y) := fun j y hy => by
       rw [List.getElem?_set] at hy
       by_cases hij : i = j
       ·rw [if_pos hij, if_pos (by rw [hR.len]; omega)] at hy; exact .inl ⟨hij.symm, by simpa using hy.symm⟩
       ·rw [if_neg hij] at hy; exact .inr ⟨fun h => hij h.symm, hy⟩
      refine ⟨_, hR.step hw hp hz hr, fun j y hj hy => ?_, fun j y hj hj2 hy => ?_⟩
      ·rcases hset j y hy with ⟨rfl, rfl⟩ | ⟨_, hy⟩
       ·exact hhit (by omega)
       ·exact hk j y hj hy
      ·rcases hset j y hy with ⟨rfl, rfl⟩ | ⟨hne, hy⟩
       ·exact hhit hj2
       ·exact hki j y (by omega) hj2 hy
     ·refine ⟨row, hR, hk, fun j y hj hj2 hy => ?_⟩
      by_cases hji : j = i
      ·subst hji; rw [hz] at hy; cases hy; exact h2
      ·exact hki j y (by omega) hj2 hy
   obtain ⟨row, hR, _, hki⟩ := inner rs.length (Nat.le_refl _)
   exact ⟨row, hR, fun j y hj hy => hki j y (by have := (List.getElem?_eq_some_iff.1 hy).1; rw [hR.len] at this; exact this) hj hy⟩
 obtain ⟨row, hR, hk⟩ := key rs.length
 exact ⟨row, hR, fun i z hz => hk i z (hst i (by have := (List.getElem?_eq_some_iff.1 hz).1; rw [hR.len] at this; exact this)).2 hz⟩
theorem tab_ex {rs : List Ru} {s : List UInt8} (hw : WellOk rs) : ∃ E, Tab rs s E := by
 have key : ∀ d : Nat, d ≤ s.length + 1 → ∃ E, EOk rs s E ((s.length : Int) - d) := by
  intro d
  induction d with
  | zero => intro _; exact ⟨_, by simpa using EOk.init rs s⟩
  | succ d ih =>
   intro hd
   obtain ⟨E, hE⟩ := ih (by omega)
   have e1 : (s.length : Int) - d = ((s.length - d : Nat) : Int) := by omega
   rw [e1] at hE
   obtain ⟨row, hR, hk⟩ := row_ex hw hE (by omega)
   refine ⟨upd E (s.length - d) row, ?_⟩
   have := hR.done hE hk
   rw [show ((s.length - d : Nat) : Int) - 1 = (s.length : Int) - ((d + 1 : Nat) : Int) by omega] at this
   exact this
 obtain ⟨E, hE⟩ := key (s.length + 1) (Nat.le_refl _)
 exact ⟨E, hE.tab (by omega)⟩
end Go.Proofs.YtmnilbfhfjdelaaGreat.core

namespace Go.Proofs.YtmnilbfhfjdelaaGreat.core
open Go.Gx Go.RowKit Go.ChangeShapes Go.WideShapes Go.ChangeAt
set_option linter.unusedVariables false
def lookP (rs : List Ru) (s : List UInt8) : Int := if (wellP rs).2 ≠ 0 then (wellP rs).2 else if (s.length : Int) > 60 then 2 else 0
theorem mlook_is {rs : List Ru} {ga : Option Addr} {gl gc : Nat} {M : Mem} (hg : GrR M rs ga gl gc) (s : List UInt8) (K : Value → Prop) (hK : K (.int .i64 (lookP rs s))) : S_mean_Look ga gl gc s M K := by
 unfold S_mean_Look
 unfold lookP at hK
 refine s_well_Well _ _ _ _ _ (wwell_is hg _ ⟨_, _, rfl, fun h => ?_, fun h => ⟨fun h2 => ?_, fun h2 => ?_⟩⟩)
 ·rw [if_pos h] at hK; exact hK
 ·rw [if_neg h, if_pos h2] at hK; exact hK
 ·rw [if_neg h, if_neg h2] at hK; exact hK
end Go.Proofs.YtmnilbfhfjdelaaGreat.core

namespace Go.Proofs.YtmnilbfhfjdelaaGreat.core
open Go.Gx Go.RowKit Go.ChangeShapes Go.WideShapes Go.ChangeAt
set_option linter.unusedVariables false
theorem look_ok {rs : List Ru} {s : List UInt8} (h : lookP rs s = 0) : WellOk rs ∧ s.length ≤ 60 := by
 unfold lookP at h
 split at h
 ·rename_i h1; exact absurd h h1
 ·rename_i h1
  split at h
  ·cases h
  ·exact ⟨well_ok (Decidable.not_not.1 h1), by omega⟩
end Go.Proofs.YtmnilbfhfjdelaaGreat.core

namespace Go.Proofs.YtmnilbfhfjdelaaGreat.core
open Go.Gx Go.RowKit Go.ChangeShapes Go.WideShapes Go.ChangeAt
set_option linter.unusedVariables false
structure X_chaffref_Tried where
 Kid : Int
 At : Int
def X_chaffref_Tried.cells (x : X_chaffref_Tried) : List Value := [(Value.int .i64 x.Kid), (Value.int .i64 x.At)]
abbrev Tr := X_chaffref_Tried
def seqK (f : Ex → Int → Int) : List Ex → Int → Int → List Tr
 | [], _, _ => []
 | k :: ks, i, p => ⟨i, p⟩ :: (if f k p < 0 then [] else seqK f ks (i + 1) (f k p))
def altK (f : Ex → Int → Int) : List Ex → Int → Int → List Tr
 | [], _, _ => []
 | k :: ks, i, p => ⟨i, p⟩ :: (if f k p < 0 then altK f ks (i + 1) p else [])
def staK (f : Int → Int) : Nat → Int → List Tr
 | 0, _ => []
 | m + 1, p => if p < 0 then [] else ⟨0, p⟩ :: staK f m (f p)
def kidK (rs : List Ru) (s : List UInt8) (E : Nat → Nat → Int) (e : Ex) (p : Int) : List Tr :=
 if e.kind = 5 then seqK (endE rs s E) e.kids 0 p else if e.kind = 6 then altK (endE rs s E) e.kids 0 p
 else if e.kind = 7 ∨ e.kind = 8 then staK (hdE rs s E e.kids) (s.length + 3) p else if 9 ≤ e.kind then [⟨0, p⟩] else []
end Go.Proofs.YtmnilbfhfjdelaaGreat.core

namespace Go.Proofs.YtmnilbfhfjdelaaGreat.core
open Go.Gx Go.RowKit Go.ChangeShapes Go.WideShapes Go.ChangeAt
set_option linter.unusedVariables false
section
variable {rs : List Ru} {s : List UInt8} {E : Nat → Nat → Int} {m : Nat}
end
end Go.Proofs.YtmnilbfhfjdelaaGreat.core

namespace Go.Proofs.YtmnilbfhfjdelaaGreat.core
open Go.Gx Go.RowKit Go.ChangeShapes Go.WideShapes Go.ChangeAt
set_option linter.unusedVariables false
def cap (c : Nat) : Int := if (c : Int) < 2097152 then c else 2097152
theorem kid_all {rs : List Ru} {s : List UInt8} {E : Nat → Nat → Int} (hT : Tab rs s E) {e : Ex} (hok : PegOk rs e) {p : Int} (hp : 0 ≤ p) (hl : p ≤ s.length) : ∀ t ∈ kidK rs s E e p, 0 ≤ t.Kid ∧ t.At ≤ s.length ∧ ∃ k, e.kids[t.Kid.toNat]? = some k ∧ Tries rs e k p t.At := by
 obtain ⟨g1, g2, g3, g4, g5, g6, g7, g8⟩ := fitE_kinds hok.good.fit
 intro t ht
 unfold kidK at ht
 by_cases h5 : e.kind = 5
 ·rw [if_pos h5] at ht
  have key : ∀ (ks : List Ex) (i : Nat) (q : Int), ks = e.kids.drop i → p ≤ q → q ≤ s.length → (q = p → ∀ j ∈ needsQ rs (knOf rs) (e.kids.drop i), j ∈ needsE rs (knOf rs) e) → ∀ t ∈ seqK (endE rs s E) ks i q, 0 ≤ t.Kid ∧ t.At ≤ s.length ∧ ∃ k, e.kids[t.Kid.toNat]? = some k ∧ Tries rs e k p t.At := by
   intro ks
   induction ks with
   | nil => intro i q _ _ _ _ t ht; rw [seqK] at ht; cases ht
   | cons k ks ih =>
    intro i q hks hq hql hn t ht
    have hi : e.kids[i]? = some k := by have := congrArg (fun l => l[0]?) hks; simpa using this.symm
    have hks' : ks = e.kids.drop (i + 1) := by rw [drop_get hi] at hks; exact (List.cons.inj hks).2
    obtain ⟨t1, t2⟩ := seq_tries hT hok h5 hp hl i q k hq hql hn hi
    rw [seqK] at ht
    rcases List.mem_cons.1 ht with rfl | ht
    ·exact ⟨by simp, hql, k, by simpa using hi, t1⟩
    ·split at ht
     ·cases ht
     ·obtain ⟨u1, u2, u3⟩ := t2 (by omega)
      exact ih (i + 1) _ hks' u1 u2 u3 t (by rw [show ((i + 1 : Nat) : Int) = (i : Int) + 1 by omega]; exact ht)
  exact key e.kids 0 p (by rw [List.drop_zero]) (Int.le_refl _) hl (fun _ j hj => by rw [needsE_eq, if_neg (by omega), if_pos h5]; exact hj) t ht
 rw [if_neg h5] at ht
 by_cases h6 : e.kind = 6
 ·rw [if_pos h6] at ht
  have key : ∀ (ks : List Ex) (i : Nat), ks = e.kids.drop i → ∀ t ∈ altK (endE rs s E) ks i p, 0 ≤ t.Kid ∧ t.At ≤ s.length ∧ ∃ k, e.kids[t.Kid.toNat]? = some k ∧ Tries rs e k p t.At := by
   intro ks
   induction ks with
   | nil => intro i _ t ht; rw [altK] at ht; cases ht
   | cons k ks ih =>
    intro i hks t ht
    have hi : e.kids[i]? = some k := by have := congrArg (fun l => l[0]?) hks; simpa using this.symm
    have hks' : ks = e.kids.drop (i + 1) := by rw [drop_get hi] at hks; exact (List.cons.inj hks).2
    rw [altK] at ht
    rcases List.mem_cons.1 ht with rfl | ht
    ·exact ⟨by simp, hl, k, by simpa using hi, kid_tries (List.mem_of_getElem? hi) (by omega) h5 (Int.le_refl _)⟩
    ·split at ht
     ·exact ih (i + 1) hks' t (by rw [show ((i + 1 : Nat) : Int) = (i : Int) + 1 by omega]; exact ht)
     ·cases ht
  exact key e.kids 0 (by rw [List.drop_zero]) t ht
 rw [if_neg h6] at ht
 by_cases h7 : e.kind = 7 ∨ e.kind = 8
 ·rw [if_pos h7] at ht
  obtain ⟨k, hk1⟩ := List.length_eq_one_iff.1 (g5 (by omega))
  have hkm : k ∈ e.kids := by rw [hk1]; simp
  have hhd : hdE rs s E e.kids = endE rs s E k := by rw [hk1]; funext q; rw [hdE]
  rw [hhd] at ht
  have key : ∀ (m : Nat) (q : Int), q < 0 ∨ (p ≤ q ∧ q ≤ s.length) → ∀ t ∈ staK (endE rs s E k) m q, 0 ≤ t.Kid ∧ t.At ≤ s.length ∧ ∃ k, e.kids[t.Kid.toNat]? = some k ∧ Tries rs e k p t.At := by
   intro m
   induction m with
   | zero => intro q _ t ht; rw [staK] at ht; cases ht
   | succ m ih =>
    intro q hq t ht
    rw [staK] at ht
    split at ht
    ·cases ht
    ·rcases List.mem_cons.1 ht with rfl | ht
     ·exact ⟨by simp, by dsimp only; omega, k, by rw [hk1]; rfl, kid_tries hkm (by omega) h5 (by dsimp only; omega)⟩
     ·exact ih _ (by rcases hT.res (hok.kid hkm) (p := q) (by omega) (by omega) with h | h <;> omega) t ht
  exact key _ p (.inr ⟨Int.le_refl _, hl⟩) t ht
 rw [if_neg h7] at ht
 split at ht
 ·simp only [List.mem_singleton] at ht
  subst ht
  obtain ⟨k, hk1⟩ := List.length_eq_one_iff.1 (g5 (by omega))
  exact ⟨by simp, hl, k, by rw [hk1]; rfl, kid_tries (by rw [hk1]; simp) (by omega) h5 (Int.le_refl _)⟩
 ·cases ht
end Go.Proofs.YtmnilbfhfjdelaaGreat.core

namespace Go.Proofs.YtmnilbfhfjdelaaGreat.core
open Go.Gx Go.RowKit Go.ChangeShapes Go.WideShapes Go.ChangeAt
set_option linter.unusedVariables false
inductive Evt where
 | node (n p : Int) (e : Ex)
 | done (i p : Int)
inductive Job where
 | node (e : Ex) (n p : Int)
 | rule (i p : Int)
 | kids (L : List Ex) (n : Int) (l : List Tr)
def cnt (e : Ex) : Nat := (flatE e).length
def preN (L : List Ex) (i : Nat) : Nat := ((L.take i).map cnt).sum
def fstN (rs : List Ru) (i : Nat) : Nat := ((rs.take i).map fun r => cnt r.body).sum
inductive Goes (rs : List Ru) (s : List UInt8) (E : Nat → Nat → Int) : Job → List Evt → List Evt → Prop where
 | ref {e : Ex} {n p : Int} {t t' : List Evt} (h4 : e.kind = 4) (h : Goes rs s E (.rule (findR e.text rs 0) p) t t') : Goes rs s E (.node e n p) t (t' ++ [.node n p e])
 | inner {e : Ex} {n p : Int} {t t' : List Evt} (h4 : e.kind ≠ 4) (h : Goes rs s E (.kids e.kids (n + 1) (kidK rs s E e p)) t t') : Goes rs s E (.node e n p) t (t' ++ [.node n p e])
 | seen {i p : Int} {t : List Evt} (h : .done i p ∈ t) : Goes rs s E (.rule i p) t t
 | rule {i p : Int} {r : Ru} {t t' : List Evt} (hn : Evt.done i p ∉ t) (hr : rs[i.toNat]? = some r) (h : Goes rs s E (.node r.body (fstN rs i.toNat) p) t t') : Goes rs s E (.rule i p) t (t' ++ [.done i p])
 | nil {L : List Ex} {n : Int} {t : List Evt} : Goes rs s E (.kids L n []) t t
 | cons {L : List Ex} {n : Int} {k : Tr} {l : List Tr} {e : Ex} {t t1 t2 : List Evt} (he : L[k.Kid.toNat]? = some e) (h1 : Goes rs s E (.node e (n + preN L k.Kid.toNat) k.At) t t1) (h2 : Goes rs s E (.kids L n l) t1 t2) : Goes rs s E (.kids L n (k :: l)) t t2
theorem goes_ex {rs : List Ru} {s : List UInt8} {E : Nat → Nat → Int} (hw : WellOk rs) (hT : Tab rs s E) : ∀ (e : Ex) (p : Int), PegOk rs e → 0 ≤ p → p ≤ s.length → ∀ (n : Int) t, ∃ t', Goes rs s E (.node e n p) t t' := by
 refine peg_ind hw s.length _ fun e p hok hp hl ihk ihr n t => ?_
 by_cases h4 : e.kind = 4
 ·have h0 := hok.good.ref h4
  obtain ⟨rr, hrr⟩ := getN (l := rs) (findR_lt h0).1
  by_cases hd : Evt.done (findR e.text rs 0) p ∈ t
  ·exact ⟨_, .ref h4 (.seen hd)⟩
  ·obtain ⟨t', ht⟩ := ihr h4 rr hrr (fstN rs (findR e.text rs 0).toNat) t
   exact ⟨_, .ref h4 (.rule hd hrr ht)⟩
 ·have key : ∀ (l : List Tr), (∀ k ∈ l, k ∈ kidK rs s E e p) → ∀ t, ∃ t', Goes rs s E (.kids e.kids (n + 1) l) t t' := by
   intro l
   induction l with
   | nil => exact fun _ t => ⟨t, .nil⟩
   | cons k l ih =>
    intro hm t
    obtain ⟨_, hk1, x, hx, htr⟩ := kid_all hT hok hp hl k (hm k (by simp))
    obtain ⟨t1, h1⟩ := ihk x k.At htr hk1 (n + 1 + preN e.kids k.Kid.toNat) t
    obtain ⟨t2, h2⟩ := ih (fun y hy => hm y (by simp [hy])) t1
    exact ⟨t2, .cons hx h1 h2⟩
  obtain ⟨t', ht⟩ := key _ (fun _ h => h) t
  exact ⟨_, .inner h4 ht⟩
theorem preN_succ {L : List Ex} {i : Nat} {e : Ex} (h : L[i]? = some e) : preN L (i + 1) = preN L i + cnt e := by
 unfold preN
 rw [List.take_add_one, h]
 simp
theorem fstN_succ {rs : List Ru} {i : Nat} {r : Ru} (h : rs[i]? = some r) : fstN rs (i + 1) = fstN rs i + cnt r.body := by
 unfold fstN
 rw [List.take_add_one, h]
 simp
theorem cnt_kids (L : List Ex) : (flatEs L).length = (L.map cnt).sum := by
 induction L with
 | nil => simp [flatEs]
 | cons k ks ih => rw [flatEs, List.length_append, ih]; simp [cnt]
theorem cnt_eq (e : Ex) : cnt e = 1 + (e.kids.map cnt).sum := by
 cases e with
 | mk k t x ks => rw [cnt, flatE, List.length_cons, cnt_kids]; simp [Ex.kids]; omega
theorem cnt_pos (e : Ex) : 1 ≤ cnt e := by rw [cnt_eq]; omega
theorem preN_kid {L : List Ex} {i : Nat} {e : Ex} (h : L[i]? = some e) : preN L i + cnt e ≤ (L.map cnt).sum := by
 rw [← preN_succ h]
 have := List.take_append_drop (i + 1) L
 have e2 : (L.map cnt).sum = preN L (i + 1) + ((L.drop (i + 1)).map cnt).sum := by
  conv => lhs; rw [← this]
  rw [List.map_append, List.sum_append]; rfl
 omega
theorem fstN_rule {rs : List Ru} {i : Nat} {r : Ru} (h : rs[i]? = some r) : fstN rs i + cnt r.body ≤ (rs.map fun r => cnt r.body).sum := by
 rw [← fstN_succ h]
 have := List.take_append_drop (i + 1) rs
 have e2 : (rs.map fun r => cnt r.body).sum = fstN rs (i + 1) + ((rs.drop (i + 1)).map fun r => cnt r.body).sum := by
  conv => lhs; rw [← this]
  rw [List.map_append, List.sum_append]; rfl
 omega
end Go.Proofs.YtmnilbfhfjdelaaGreat.core

namespace Go.Proofs.YtmnilbfhfjdelaaGreat.core
open Go.Gx Go.RowKit Go.ChangeShapes Go.WideShapes Go.ChangeAt
set_option linter.unusedVariables false
theorem count_is : ∀ (m : Nat) (e : Ex), SizeOf.sizeOf e < m → cnt e ≤ 100000 → ∀ (M : Mem) (x : X_api_Expr) (K : Value → Mem → Prop), ExR M e x → (∀ M', M.le M' → K (.int .i64 (cnt e)) M') → S_pack_count x M (fun _ => False) K
 | 0, _, h, _ => by omega
 | m + 1, e, hm, hc => fun M x K hR hK => by
  obtain ⟨xs, hx⟩ := hR.open
  have hce := cnt_eq e
  have hlen : e.kids.length ≤ (e.kids.map cnt).sum := by
   have : ∀ L : List Ex, L.length ≤ (L.map cnt).sum := fun L => by
    induction L with
    | nil => simp
    | cons k ks ih => simp only [List.length_cons, List.map_cons, List.sum_cons]; have := cnt_pos k; omega
   exact this _
  unfold S_pack_count
  refine ⟨Unit, fun _ n i M' => 0 ≤ i ∧ i ≤ e.kids.length ∧ n = 1 + (preN e.kids i.toNat : Nat) ∧ M.le M', fun _ _ i => e.kids.length - i.toNat, (), ⟨by omega, by omega, rfl, Mem.le.refl M⟩, fun _ n i M' ⟨i0, i1, hn, hle⟩ => ⟨fun hlt => ?_, fun hge => ?_⟩⟩
  ·rw [hx.len] at hlt
   obtain ⟨k, hk⟩ := getI (l := e.kids) i0 hlt
   obtain ⟨b, o, y, ha, hat, hy, _⟩ := hx.kid hk
   have hpk := preN_kid hk
   have hsz := Ex.kid_lt (List.mem_of_getElem? hk)
   refine ⟨b, o, ha, i0, by rw [hx.len]; exact hlt, y, hat.le hle, (s_pack_count _ _ _ _ (count_is m k (by omega) (by omega) _ _ _ (hy.le hle) fun M2 hle2 => ⟨_, rfl, ?_, ?_, (), ⟨by omega, by omega, ?_, hle.trans hle2⟩, ?_⟩)).mono (fun _ h => h.elim) (fun v M' _ h => h)⟩
   ·exact inI_small (by omega) (by omega)
   ·exact inI_small (by omega) (by omega)
   ·rw [show (i + 1).toNat = i.toNat + 1 by omega, preN_succ hk, hn]; omega
   ·show e.kids.length - (i + 1).toNat < e.kids.length - i.toNat
    omega
  ·rw [hx.len] at hge
   intro M2 hle2
   have : preN e.kids i.toNat = (e.kids.map cnt).sum := by unfold preN; rw [List.take_of_length_le (by omega)]
   rw [hn, this, show (1 : Int) + ((e.kids.map cnt).sum : Nat) = ((cnt e : Nat) : Int) by rw [hce]; omega]
   exact hK M2 (hle.trans hle2)
def cpl : List UInt8 → List UInt8 → Nat
 | a :: u, b :: v => if a = b then cpl u v + 1 else 0
 | _, _ => 0
def missOf (rs : List Ru) (s : List UInt8) (E : Nat → Nat → Int) : Evt → Option (Int × (Nat → Bool))
 | .node _ p e => if endE rs s E e p < 0 then (if e.kind = 2 then some (p, bitS e.set) else if e.kind = 3 then some (p + (cpl (s.drop p.toNat) e.text : Nat), fun b => decide ((e.text[cpl (s.drop p.toNat) e.text]?).map UInt8.toNat = some b)) else none) else none
 | .done _ _ => none
structure FW (rs : List Ru) (s : List UInt8) (E : Nat → Nat → Int) (t : List Evt) (far : Int) (want : X_api_Set) : Prop where
 wf : wfS want
 lo : -1 ≤ far
 ge : ∀ x ∈ t, ∀ m, missOf rs s E x = some m → m.1 ≤ far
 bits : ∀ b, b < 256 → (bitS want b = true ↔ ∃ x ∈ t, ∃ m, missOf rs s E x = some m ∧ m.1 = far ∧ m.2 b = true)
 ex : far = -1 ∨ ∃ x ∈ t, ∃ m, missOf rs s E x = some m ∧ m.1 = far
theorem bit_zero (b : Nat) (hb : b < 256) : bitS (X_api_Set.mk 0 0 0 0) b = false := by
 have h : X_api_Set.mk 0 0 0 0 = Us fun _ => false := by
  have h1 := Us_bit (s := X_api_Set.mk 0 0 0 0) (by unfold wfS; decide)
  rw [← h1]
  exact Us_congr fun b hb => by
   have h4 : ∀ i : Nat, ([0, 0, 0, 0] : List Nat)[i]?.getD 0 = 0 := fun i => by
    match i with
    | 0 => rfl
    | 1 => rfl
    | 2 => rfl
    | 3 => rfl
    | n + 4 => rfl
   unfold bitS hasW
   simp [h4]
 rw [h, bit_Us hb]
theorem FW.init (rs : List Ru) (s : List UInt8) (E : Nat → Nat → Int) : FW rs s E [] (-1) (X_api_Set.mk 0 0 0 0) :=
 ⟨by unfold wfS; decide, Int.le_refl _, fun x hx => (by cases hx), fun b hb => by rw [bit_zero b hb]; simp, .inl rfl⟩
theorem FW.skip {rs : List Ru} {s : List UInt8} {E : Nat → Nat → Int} {t : List Evt} {far : Int} {want : X_api_Set} (h : FW rs s E t far want) {x : Evt} (hx : missOf rs s E x = none) : FW rs s E (t ++ [x]) far want := by
 refine ⟨h.wf, h.lo, fun y hy m hm => ?_, fun b hb => ?_, h.ex.imp id fun ⟨y, hy, hm⟩ => ⟨y, by simp [hy], hm⟩⟩
 ·rcases List.mem_append.1 hy with hy | hy
  ·exact h.ge y hy m hm
  ·simp only [List.mem_singleton] at hy; rw [hy, hx] at hm; cases hm
 ·rw [h.bits b hb]
  refine ⟨fun ⟨y, hy, hm⟩ => ⟨y, by simp [hy], hm⟩, fun ⟨y, hy, m, hm, hr⟩ => ?_⟩
  rcases List.mem_append.1 hy with hy | hy
  ·exact ⟨y, hy, m, hm, hr⟩
  ·simp only [List.mem_singleton] at hy; rw [hy, hx] at hm; cases hm
def Missed (far : Int) (want : X_api_Set) (p : Int) (f : Nat → Bool) (far' : Int) (want' : X_api_Set) : Prop :=
 wfS want' ∧ far' = (if far < p then p else far) ∧ ∀ b, b < 256 → bitS want' b = if far < p then f b else if p = far then (bitS want b || f b) else bitS want b
theorem FW.miss {rs : List Ru} {s : List UInt8} {E : Nat → Nat → Int} {t : List Evt} {far far' p : Int} {want want' : X_api_Set} {f : Nat → Bool} (h : FW rs s E t far want) (hp : 0 ≤ p) {x : Evt} (hx : missOf rs s E x = some (p, f)) (hm : Missed far want p f far' want') : FW rs s E (t ++ [x]) far' want' := by
 obtain ⟨h1, h2, h3⟩ := hm
 have hlo := h.lo
 refine ⟨h1, by split at h2 <;> omega, fun y hy m hm => ?_, fun b hb => ?_, .inr ?_⟩
 ·rcases List.mem_append.1 hy with hy | hy
  ·have := h.ge y hy m hm
   split at h2 <;> omega
  ·simp only [List.mem_singleton] at hy
   rw [hy, hx] at hm
   cases hm
   show p ≤ far'
   split at h2 <;> omega
 ·rw [h3 b hb]
  have hb' := h.bits b hb
  by_cases hlt : far < p
  ·rw [if_pos hlt] at h2 ⊢
   subst h2
   refine ⟨fun hf => ⟨x, by simp, _, hx, rfl, hf⟩, fun ⟨y, hy, m, hm, hmp, hmb⟩ => ?_⟩
   rcases List.mem_append.1 hy with hy | hy
   ·have := h.ge y hy m hm; omega
   ·simp only [List.mem_singleton] at hy
    rw [hy, hx] at hm; cases hm; exact hmb
  ·rw [if_neg hlt] at h2 ⊢
   subst h2
   by_cases he : p = far'
   ·rw [if_pos he, Bool.or_eq_true, hb']
    refine ⟨fun hf => ?_, fun ⟨y, hy, m, hm, hmp, hmb⟩ => ?_⟩
    ·rcases hf with ⟨y, hy, hr⟩ | hf
     ·exact ⟨y, by simp [hy], hr⟩
     ·exact ⟨x, by simp, _, hx, he, hf⟩
    ·rcases List.mem_append.1 hy with hy | hy
     ·exact .inl ⟨y, hy, m, hm, hmp, hmb⟩
     ·simp only [List.mem_singleton] at hy
      rw [hy, hx] at hm; cases hm; exact .inr hmb
   ·rw [if_neg he, hb']
    refine ⟨fun ⟨y, hy, hr⟩ => ⟨y, by simp [hy], hr⟩, fun ⟨y, hy, m, hm, hmp, hmb⟩ => ?_⟩
    rcases List.mem_append.1 hy with hy | hy
    ·exact ⟨y, hy, m, hm, hmp, hmb⟩
    ·simp only [List.mem_singleton] at hy
     rw [hy, hx] at hm; cases hm; exact absurd hmp he
 ·by_cases hlt : far < p
  ·rw [if_pos hlt] at h2; exact ⟨x, by simp, _, hx, h2.symm⟩
  ·rw [if_neg hlt] at h2
   subst h2
   rcases h.ex with h' | ⟨y, hy, m, hm⟩
   ·by_cases he : p = far'
    ·exact ⟨x, by simp, _, hx, he⟩
    ·omega
   ·exact ⟨y, by simp [hy], m, hm⟩
end Go.Proofs.YtmnilbfhfjdelaaGreat.core

namespace Go.Proofs.YtmnilbfhfjdelaaGreat.core
open Go.Gx Go.RowKit Go.ChangeShapes Go.WideShapes Go.ChangeAt
set_option linter.unusedVariables false
theorem At.blk {M : Mem} {b : Nat} {cs : List Value} {t : TypeId} {f : Nat × Nat} (h : M b = some (.cells cs.toArray t f)) : At M b 0 cs := fun j v hj => by
 unfold Mem.cell
 rw [h, Nat.zero_add]
 simpa using hj
theorem Has.blk {M : Mem} {b o k : Nat} {cs : List Value} {t : TypeId} (h : M b = some (.cells cs.toArray t (0, 0))) (hk : o + k ≤ cs.length) : Has M b o k := ⟨_, _, h, by simpa using hk⟩
def logOf (E : Nat → Nat → Int) (t : List Evt) : List X_api_Step := t.filterMap fun x => match x with
 | .done i p => some ⟨i, p, outE (E p.toNat i.toNat) p⟩
 | .node _ _ _ => none
theorem logOf_node (E : Nat → Nat → Int) (t : List Evt) (n p : Int) (e : Ex) : logOf E (t ++ [.node n p e]) = logOf E t := by simp [logOf]
theorem logOf_done (E : Nat → Nat → Int) (t : List Evt) (i p : Int) : logOf E (t ++ [.done i p]) = logOf E t ++ [⟨i, p, outE (E p.toNat i.toNat) p⟩] := by simp [logOf]
theorem St_one (x : X_api_Step) : ∀ u ∈ x.cells, u.oneCell' = true := by
 intro u hu
 simp only [X_api_Step.cells, List.mem_cons, List.not_mem_nil, or_false] at hu
 rcases hu with rfl | rfl | rfl | rfl <;> rfl
theorem nodup_bound : ∀ (n : Nat) (l : List Nat), l.Nodup → (∀ x ∈ l, x < n) → l.length ≤ n
 | 0, l, _, h => by
  cases l with
  | nil => simp
  | cons a l => have := h a (by simp); omega
 | n + 1, l, hn, h => by
  by_cases hm : n ∈ l
  ·have h1 := nodup_bound n (l.erase n) (hn.sublist List.erase_sublist) fun x hx => by
    have hx2 := List.mem_of_mem_erase hx
    have := h x hx2
    have hne : x ≠ n := fun e => by
     subst e
     exact (List.Nodup.not_mem_erase hn) hx
    omega
   have := List.length_erase_of_mem hm
   omega
  ·have := nodup_bound n l hn fun x hx => by
    have := h x hx
    have hne : x ≠ n := fun e => hm (e ▸ hx)
    omega
   omega
def keyS (x : X_api_Step) : Nat := x.Rule.toNat * 61 + x.At.toNat
theorem logOf_mem {E : Nat → Nat → Int} {t : List Evt} {x : X_api_Step} : x ∈ logOf E t ↔ .done x.Rule x.At ∈ t ∧ x.Out = outE (E x.At.toNat x.Rule.toNat) x.At := by
 unfold logOf
 rw [List.mem_filterMap]
 constructor
 ·rintro ⟨y, hy, h⟩
  cases y with
  | node n p e => cases h
  | done i p => simp only [Option.some.injEq] at h; subst h; exact ⟨hy, rfl⟩
 ·rintro ⟨h1, h2⟩
  refine ⟨_, h1, ?_⟩
  cases x
  simp only at h2 ⊢
  rw [h2]
structure PkC where
 V : Mem
 rs : List Ru
 s : List UInt8
 E : Nat → Nat → Int
 pb : Nat
 r : Nat
 ga : Option Addr
 fa : Option Addr
 gl : Nat
 gc : Nat
 fc : Nat
 nodeV : Value
 JB : Nat → Prop
 J : List Evt → Mem → Prop
 tot : Nat
abbrev PkC.res (c : PkC) (e : Ex) (p : Int) : Int := endE c.rs c.s c.E e p
abbrev PkC.LV (c : PkC) : Nat → Prop := fun b => c.V b = none
abbrev PkC.ptr (c : PkC) : Option Addr := some ⟨c.pb, 0, none⟩
abbrev PkC.cells (c : PkC) (la : Option Addr) (ln lc : Nat) (far : Int) (want : X_api_Set) : List Value := (X_pack_Parser.mk c.ga c.gl c.gc c.s (some c.r) la ln lc far want c.nodeV c.fa c.rs.length c.fc).cells
structure PkC.Ok (c : PkC) : Prop where
 hw : WellOk c.rs
 hT : Tab c.rs c.s c.E
 s60 : c.s.length ≤ 60
 gr : GrR c.V c.rs c.ga c.gl c.gc
 fst : ∀ i, i < c.rs.length → ∃ b o, c.fa = some ⟨b, o, none⟩ ∧ At c.V b (o + i * 1) [Value.int .i64 (fstN c.rs i : Nat)]
 pbV : c.V c.pb = none
 rV : c.V c.r = none
 pr : c.pb ≠ c.r
 jpb : ¬ c.JB c.pb
 jr : ¬ c.JB c.r
 jV : ∀ b, c.JB b → c.V b = none
 frame : ∀ t M M', c.J t M → (∀ b, c.JB b → M' b = M b) → c.J t M'
 has : ∀ t M, c.J t M → ∀ b, c.JB b → (M b).isSome = true
 node : ∃ nil, FnNil c.nodeV nil ∧ (nil = true → ∀ t (n p : Int) e M, c.J t M → c.J (t ++ [.node n p e]) M) ∧ (nil = false → ∀ t (n p : Int) e M, 0 ≤ n → n < c.tot → c.J t M → CallFW Tryz.prog c.nodeV [.int .i64 n, .bool (decide (0 ≤ c.res e p))] M c.JB (fun v M' => v = .tuple #[] ∧ c.J (t ++ [.node n p e]) M'))
 done : ∀ t i p M, c.J t M → c.J (t ++ [.done i p]) M
 tot : (c.rs.map fun r => cnt r.body).sum ≤ c.tot
 small : c.tot ≤ 100000
structure PB (c : PkC) (t : List Evt) (far : Int) (want : X_api_Set) (M : Mem) : Prop where
 le : c.V.le M
 bk : ∃ la lc, M c.pb = some (.cells (c.cells la (logOf c.E t).length lc far want).toArray 120 (0, 0)) ∧ RowW M 147 4 la (logOf c.E t).length lc (cl X_api_Step.cells (logOf c.E t)) ∧ ∀ g, la = some ⟨g, 0, none⟩ → c.V g = none ∧ ¬ c.JB g ∧ g ≠ c.pb ∧ g ≠ c.r
 mp : ∃ f, MapF M c.r f ∧ ∀ i p v, f i p = some v ↔ (Evt.done i p ∈ t ∧ v = (outE (c.E p.toNat i.toNat) p).val)
 j : c.J t M
 ks : ((logOf c.E t).map keyS).Nodup ∧ ∀ i p, Evt.done i p ∈ t → 0 ≤ i ∧ i < c.rs.length ∧ 0 ≤ p ∧ p ≤ c.s.length
def PI (c : PkC) (t : List Evt) (M : Mem) : Prop := ∃ far want, FW c.rs c.s c.E t far want ∧ PB c t far want M
theorem Mem.le.eq {M M' : Mem} (h : M.le M') {b : Nat} (hb : (M b).isSome = true) : M' b = M b := by
 obtain ⟨o, ho⟩ := Option.isSome_iff_exists.1 hb
 rw [ho]; exact h b o ho
section
variable {c : PkC} {t : List Evt} {far : Int} {want : X_api_Set} {M : Mem}
theorem PB.keep (hc : c.Ok) (h : PB c t far want M) {M' : Mem} {t' : List Evt} (hlog : logOf c.E t' = logOf c.E t) (hd : ∀ i p, Evt.done i p ∈ t' ↔ Evt.done i p ∈ t) (hk : ∀ b o, M b = some o → ¬ c.JB b → M' b = some o) (hj : c.J t' M') : PB c t' far want M' := by
 obtain ⟨la, lc, h1, h2, h3⟩ := h.bk
 refine ⟨fun b o hb => hk b o (h.le b o hb) fun hJ => (by rw [hc.jV b hJ] at hb; cases hb), ?_, ?_, hj, by rw [hlog]; exact h.ks.1, fun i p hi => h.ks.2 i p ((hd i p).1 hi)⟩
 ·rw [hlog]; exact ⟨la, lc, hk _ _ h1 hc.jpb, h2.same fun g o hg ho => hk g o ho (h3 g hg).2.1, h3⟩
 ·obtain ⟨f, ⟨es, clk, h4, h5⟩, h6⟩ := h.mp
  exact ⟨f, ⟨es, clk, hk _ _ h4 hc.jr, h5⟩, fun i p v => by rw [h6 i p v, hd i p]⟩
theorem PB.up (hc : c.Ok) (h : PB c t far want M) {M' : Mem} (hl : M.le M') : PB c t far want M' :=
 h.keep hc rfl (fun _ _ => Iff.rfl) (fun b o hb _ => hl b o hb) (hc.frame _ _ _ h.j fun b hb => Mem.le.eq hl (hc.has _ _ h.j b hb))
theorem PI.up (hc : c.Ok) (h : PI c t M) {M' : Mem} (hl : M.le M') : PI c t M' := by
 obtain ⟨far, want, h1, h2⟩ := h
 exact ⟨far, want, h1, h2.up hc hl⟩
theorem PB.at (h : PB c t far want M) : ∃ la lc, At M c.pb 0 (c.cells la (logOf c.E t).length lc far want) := by
 obtain ⟨la, lc, h1, _⟩ := h.bk
 exact ⟨la, lc, At.blk h1⟩
theorem PB.put (hc : c.Ok) (h : PB c t far want M) (k : Nat) (vs : List Value) {far' : Int} {want' : X_api_Set} (hp : ∀ la ln lc, putAt (c.cells la ln lc far want) k vs = c.cells la ln lc far' want') : PB c t far' want' (M.put c.pb k vs) := by
 obtain ⟨la, lc, h1, h2, h3⟩ := h.bk
 have hne : ∀ b, b ≠ c.pb → (M.put c.pb k vs) b = M b := fun b hb => Mem.put_ne hb
 refine ⟨fun b o hb => ?_, ⟨la, lc, ?_, h2.same fun g o hg ho => by rw [hne g (h3 g hg).2.2.1]; exact ho, h3⟩, ?_, hc.frame _ _ _ h.j fun b hb => hne b fun e => hc.jpb (e ▸ hb), h.ks⟩
 ·rw [hne b (fun e => by rw [e, hc.pbV] at hb; cases hb)]; exact h.le b o hb
 ·rw [Mem.put_eq h1]
  have := hp la (logOf c.E t).length lc
  simp only at this ⊢
  rw [this]
 ·obtain ⟨f, ⟨es, clk, h4, h5⟩, h6⟩ := h.mp
  exact ⟨f, ⟨es, clk, by rw [hne _ hc.pr.symm]; exact h4, h5⟩, h6⟩
theorem PB.node (hc : c.Ok) (h : PB c t far want M) {M' : Mem} (hk : ∀ b o, M b = some o → ¬ c.JB b → M' b = some o) {n p : Int} {e : Ex} (hj : c.J (t ++ [.node n p e]) M') : PB c (t ++ [.node n p e]) far want M' :=
 h.keep hc (logOf_node _ _ _ _ _) (fun i q => by simp) hk hj
theorem PB.room (hc : c.Ok) (h : PB c t far want M) : (logOf c.E t).length ≤ 610 := by
 have h10 := hc.hw.ok.ten
 have hs60 := hc.s60
 have := nodup_bound 610 _ h.ks.1 fun x hx => by
  obtain ⟨y, hy, rfl⟩ := List.mem_map.1 hx
  have := h.ks.2 _ _ (logOf_mem.1 hy).1
  unfold keyS
  omega
 simpa using this
theorem miss_is (hc : c.Ok) (h : PB c t far want M) (hwf : wfS want) {p : Int} {w : X_api_Set} (hw : wfS w) {K : Value → Mem → Prop}
  (hK : ∀ M' far' want', PB c t far' want' M' → Missed far want p (bitS w) far' want' → K (.tuple #[]) M') : S_pack_Parser_miss c.ptr p w M c.LV K := by
 have has : ∀ {far want M k n}, PB c t far want M → k + n ≤ 11 → Has M c.pb (0 + k) n := fun h hk => by
  obtain ⟨la, lc, h1, _⟩ := h.bk
  exact Has.blk h1 (by rw [Nat.zero_add]; exact hk)
 have atFar : ∀ {far want M}, PB c t far want M → At M c.pb (0 + 4) [.int .i64 far] := fun h => by
  obtain ⟨la, lc, h1⟩ := h.at
  exact h1.part 4 [.int .i64 _] rfl
 have atWant : ∀ {far want M}, PB c t far want M → At M c.pb (0 + 5) want.cells := fun h => by
  obtain ⟨la, lc, h1⟩ := h.at
  exact h1.part 5 (X_api_Set.cells _) rfl
 unfold S_pack_Parser_miss
 have j1 : ∀ (M' : Mem) (far1 : Int) (want1 : X_api_Set), PB c t far1 want1 M' → wfS want1 → (far1 = if far < p then p else far) → (∀ b, b < 256 → bitS want1 b = if far < p then false else bitS want b) → S_pack_Parser_miss_J1 c.ptr p w M c.LV M' K := by
  intro M' far1 want1 hB hwf1 hf1 hb1
  unfold S_pack_Parser_miss_J1
  refine ⟨c.pb, 0, rfl, far1, atFar hB, fun he => ⟨c.pb, 0, rfl, want1, atWant hB, s_set_Join _ _ _ _ (join_is hwf1 hw _ ⟨_, rfl, c.pb, 0, rfl, has hB (by omega), .inl hc.pbV, fun M2 hM2 M3 hle => ?_⟩)⟩, fun hne M3 hle => ?_⟩
  ·refine hK M3 far1 (Us fun b => bitS want1 b || bitS w b) ?_ ⟨Us_wf _, hf1, fun b hb => ?_⟩
   ·rw [hM2] at hle
    exact (hB.put hc (0 + 5) _ fun la ln lc => rfl).up hc hle
   ·rw [bit_Us hb, hb1 b hb]
    by_cases hlt : far < p
    ·rw [if_pos hlt, if_pos hlt]; simp
    ·rw [if_neg hlt] at hf1
     rw [if_neg hlt, if_neg hlt, if_pos (by omega)]
  ·refine hK M3 far1 want1 (hB.up hc hle) ⟨hwf1, hf1, fun b hb => ?_⟩
   by_cases hlt : far < p
   ·rw [if_pos hlt] at hf1; exact absurd hf1.symm hne
   ·rw [if_neg hlt] at hf1
    rw [hb1 b hb, if_neg hlt, if_neg hlt, if_neg (by omega)]
 refine ⟨c.pb, 0, rfl, far, atFar h, fun hgt => ⟨c.pb, 0, rfl, has h (by omega), .inl hc.pbV, fun M10 hM10 => ?_⟩, fun hle => j1 M far want h hwf (by rw [if_neg (by omega)]) fun b _ => by rw [if_neg (by omega)]⟩
 have hB1 : PB c t p want M10 := by rw [hM10]; exact h.put hc (0 + 4) _ fun la ln lc => rfl
 refine ⟨c.pb, 0, rfl, has hB1 (by omega), .inl hc.pbV, fun M13 hM13 => ?_⟩
 have hB2 : PB c t p (X_api_Set.mk 0 0 0 0) M13 := by rw [hM13]; exact hB1.put hc (0 + 5) _ fun la ln lc => rfl
 exact j1 M13 p _ hB2 (by unfold wfS; decide) (by rw [if_pos (by omega)]) fun b hb => by rw [if_pos (by omega), bit_zero b hb]
def NodeOk (c : PkC) (e : Ex) (n p : Int) (t t1 : List Evt) : Prop := ∀ (M : Mem) (x : X_api_Expr) (K : Value → Mem → Prop), ExR c.V e x → PI c t M →
 (∀ M' to far want, PB c t1 far want M' → FW c.rs c.s c.E (t1 ++ [.node n p e]) far want → (0 ≤ c.res e p → to = c.res e p) → K (.tuple #[.int .i64 to, .bool (decide (0 ≤ c.res e p))]) M') → S_pack_Parser_node c.ptr x n p M c.LV K
def TryOk (c : PkC) (e : Ex) (n p : Int) (t t' : List Evt) : Prop := ∀ (M : Mem) (x : X_api_Expr) (K : Value → Mem → Prop), ExR c.V e x → PI c t M →
 (∀ M' to, PI c t' M' → (0 ≤ c.res e p → to = c.res e p) → K (.tuple #[.int .i64 to, .bool (decide (0 ≤ c.res e p))]) M') → S_pack_Parser_try c.ptr x n p M c.LV K
theorem try_is (hc : c.Ok) {e : Ex} {n p : Int} {t1 : List Evt} (hn0 : 0 ≤ n) (hn1 : n < c.tot) (h : NodeOk c e n p t t1) : TryOk c e n p t (t1 ++ [.node n p e]) := by
 intro M x K hR hP hK
 obtain ⟨nil, hnil, hyes, hno⟩ := hc.node
 have atN : ∀ {far want M}, PB c t1 far want M → At M c.pb (0 + 9) [c.nodeV] := fun h => by
  obtain ⟨la, lc, h1⟩ := h.at
  exact h1.part 9 [c.nodeV] rfl
 unfold S_pack_Parser_try
 refine (s_pack_Parser_node _ _ _ _ _ _ _ (h M x _ hR hP fun M' to far want hB hF hto => ⟨to, _, rfl, c.pb, 0, rfl, c.nodeV, atN hB, nil, hnil, fun hn => ?_, fun hn => ?_⟩)).mono (fun g h => .inl h) (fun v M' _ h => h)
 ·have hf : nil = false := by simpa using hn
  refine ⟨c.pb, 0, rfl, c.nodeV, atN hB, (hno hf t1 n p e M' hn0 hn1 hB.j).mono (fun b hb => .inl (hc.jV b hb)) fun v M2 hle2 ⟨hv, hJ⟩ => ⟨hv, ?_⟩⟩
  unfold S_pack_Parser_try_J1
  intro M3 hle
  exact hK M3 to ⟨far, want, hF, (hB.node hc (fun b o hb hj => hle2.keep b o hb hj) hJ).up hc hle⟩ hto
 ·have ht : nil = true := by simpa using hn
  unfold S_pack_Parser_try_J1
  intro M2 hle
  have hB2 := hB.up hc hle
  exact hK M2 to ⟨far, want, hF, hB2.node hc (fun b o hb _ => hb) (hyes ht t1 n p e M2 hB2.j)⟩ hto
end
end Go.Proofs.YtmnilbfhfjdelaaGreat.core

namespace Go.Proofs.YtmnilbfhfjdelaaGreat.core
open Go.Gx Go.RowKit Go.ChangeShapes Go.WideShapes Go.ChangeAt
set_option linter.unusedVariables false
def ChainOk (c : PkC) (L : List Ex) (n : Int) : List Tr → List Evt → List Evt → Prop
 | [], t, t' => t = t'
 | k :: l, t, t' => ∃ e t1, L[k.Kid.toNat]? = some e ∧ (PegOk c.rs e → 0 ≤ k.At → k.At ≤ c.s.length → 0 ≤ n + preN L k.Kid.toNat → n + preN L k.Kid.toNat + cnt e ≤ c.tot → TryOk c e (n + preN L k.Kid.toNat) k.At t t1) ∧ ChainOk c L n l t1 t'
theorem PI.le {c : PkC} {t : List Evt} {M : Mem} (h : PI c t M) : c.V.le M := by obtain ⟨_, _, _, h⟩ := h; exact h.le
section
variable {c : PkC} {e : Ex} {n p : Int} {t t1 : List Evt}
theorem kid_room (hn1 : n + cnt e ≤ c.tot) {i : Nat} {k : Ex} (hk : e.kids[i]? = some k) : n + 1 + preN e.kids i + cnt k ≤ c.tot := by
 have := preN_kid hk
 have := cnt_eq e
 omega
theorem kid_cnt {i : Nat} {k : Ex} (hk : e.kids[i]? = some k) : cnt k ≤ cnt e := by
 have := preN_kid hk
 have := cnt_eq e
 omega
theorem seq_is (hc : c.Ok) (h5 : e.kind = 5) (hok : PegOk c.rs e) (hp : 0 ≤ p) (hl : p ≤ c.s.length) (hn0 : 0 ≤ n) (hn1 : n + cnt e ≤ c.tot) (hch : ChainOk c e.kids (n + 1) (kidK c.rs c.s c.E e p) t t1) {M : Mem} {x : X_api_Expr} {K : Value → Mem → Prop} (hR : ExR c.V e x) (hP : PI c t M)
  (hK : ∀ M' to, PI c t1 M' → (0 ≤ c.res e p → to = c.res e p) → K (.tuple #[.int .i64 to, .bool (decide (0 ≤ c.res e p))]) M') : S_pack_Parser_seq c.ptr x n p M c.LV K := by
 obtain ⟨xs, hx⟩ := hR.open
 have hsm := hc.small
 have hl8 := kids8 hok.good
 have hres : c.res e p = seqE c.rs c.s c.E e.kids p := by
  unfold PkC.res; rw [endE_eq, if_neg (by omega), if_neg (by omega), if_neg (by omega), if_neg (by omega), if_pos h5]
 unfold kidK at hch
 rw [if_pos h5] at hch
 unfold S_pack_Parser_seq
 refine ⟨inI_small (by omega) (by omega), List Evt, fun t' q k i M' => 0 ≤ i ∧ i ≤ e.kids.length ∧ 0 ≤ q ∧ q ≤ c.s.length ∧ k = n + 1 + preN e.kids i.toNat ∧ PI c t' M' ∧ ChainOk c e.kids (n + 1) (seqK (endE c.rs c.s c.E) (e.kids.drop i.toNat) i q) t' t1 ∧ seqE c.rs c.s c.E (e.kids.drop i.toNat) q = c.res e p, fun _ _ _ i => e.kids.length - i.toNat, t,
  ⟨by omega, by omega, hp, hl, by simp [preN], hP, by simpa using hch, by rw [hres]; rfl⟩, fun t' q k i M' ⟨i0, i1, q0, q1, hkn, hP', hch', hrs⟩ => ⟨fun hlt => ?_, fun hge => ?_⟩⟩
 ·rw [hx.len] at hlt
  obtain ⟨ke, hk⟩ := getI (l := e.kids) i0 hlt
  have hkm := List.mem_of_getElem? hk
  obtain ⟨b, o, y, ha, hat, hy, _⟩ := hx.kid hk
  rw [drop_get hk, seqK] at hch'
  rw [drop_get hk, seqE] at hrs
  obtain ⟨e', t2, he', hT', hrest⟩ := hch'
  simp only at he' hT'
  rw [hk] at he'; cases he'
  have hroom := kid_room hn1 hk
  have hcnt := kid_cnt hk
  have hkr : c.res ke q = -1 ∨ (q ≤ c.res ke q ∧ c.res ke q ≤ c.s.length) := hc.hT.res (hok.kid hkm) q0 q1
  have hT' := hT' (hok.kid hkm) q0 q1 (by omega) hroom
  rw [← hkn] at hT'
  refine ⟨b, o, ha, i0, by rw [hx.len]; exact hlt, y, hat.le hP'.le, (s_pack_Parser_try _ _ _ _ _ _ _ (hT' M' y _ hy hP' fun M2 to hP2 hto => ⟨to, _, rfl, fun hno => ?_, fun hyes => ?_⟩)).mono (fun g h => .inl h) (fun v M' _ h => h)⟩
  ·have h0 : c.res ke q < 0 := by simpa using hno
   rw [if_pos h0] at hrest hrs
   have hrest : t2 = t1 := hrest
   subst hrest
   intro M3 hle
   have := hK M3 0 (hP2.up hc hle) (fun h => by rw [← hrs] at h; exact absurd h0 (Int.not_lt.2 h))
   rw [decide_eq_false (by rw [← hrs]; exact Int.not_le.2 h0)] at this
   exact this
  ·have h0 : 0 ≤ c.res ke q := by simpa using hyes
   rw [if_neg (Int.not_lt.2 h0)] at hrest hrs
   have hto := hto h0
   subst hto
   refine (s_pack_count _ _ _ _ (count_is _ ke (Nat.lt_succ_self _) (by omega) _ _ _ (hy.le hP2.le) fun M3 hle3 => ⟨_, rfl, ?_, ?_, t2, ⟨by omega, by omega, h0, by omega, ?_, hP2.up hc hle3, ?_, ?_⟩, ?_⟩)).mono (fun _ h => h.elim) (fun v M' _ h => h)
   ·exact inI_small (by omega) (by omega)
   ·exact inI_small (by omega) (by omega)
   ·rw [show (i + 1).toNat = i.toNat + 1 by omega, preN_succ hk, hkn]; push_cast; omega
   ·rw [show (i + 1).toNat = i.toNat + 1 by omega]; exact hrest
   ·rw [show (i + 1).toNat = i.toNat + 1 by omega]; exact hrs
   ·show e.kids.length - (i + 1).toNat < e.kids.length - i.toNat
    omega
 ·rw [hx.len] at hge
  rw [List.drop_of_length_le (by omega), seqK] at hch'
  rw [List.drop_of_length_le (by omega), seqE] at hrs
  have hch' : t' = t1 := hch'
  subst hch'
  intro M2 hle
  have := hK M2 q (hP'.up hc hle) (fun _ => hrs)
  rw [decide_eq_true (by rw [← hrs]; exact q0)] at this
  exact this
theorem not_two {z p l : Int} (h : z = -1 ∨ (p ≤ z ∧ z ≤ l)) (hp : 0 ≤ p) : z ≠ -2 := by omega
theorem single_is (hc : c.Ok) (h7 : 7 ≤ e.kind) (hok : PegOk c.rs e) (hp : 0 ≤ p) (hl : p ≤ c.s.length) (hn0 : 0 ≤ n) (hn1 : n + cnt e ≤ c.tot) (hch : ChainOk c e.kids (n + 1) (kidK c.rs c.s c.E e p) t t1) {M : Mem} {x : X_api_Expr} {K : Value → Mem → Prop} (hR : ExR c.V e x) (hP : PI c t M)
  (hK : ∀ M' to, PI c t1 M' → (0 ≤ c.res e p → to = c.res e p) → K (.tuple #[.int .i64 to, .bool (decide (0 ≤ c.res e p))]) M') : S_pack_Parser_single c.ptr x n p M c.LV K := by
 obtain ⟨xs, hx⟩ := hR.open
 have hsm := hc.small
 obtain ⟨g1, g2, g3, g4, g5, g6, _⟩ := fitE_kinds hok.good.fit
 obtain ⟨k, hk1⟩ := List.length_eq_one_iff.1 (g5 h7)
 have hk : e.kids[(0 : Int).toNat]? = some k := by rw [hk1]; rfl
 have hkm : k ∈ e.kids := by rw [hk1]; simp
 obtain ⟨b, o, y, ha, hat, hy, _⟩ := hx.kid hk
 have hroom := kid_room hn1 hk
 have hp0 : preN e.kids (0 : Int).toNat = 0 := by simp [preN]
 have hkr : c.res k p = -1 ∨ (p ≤ c.res k p ∧ c.res k p ≤ c.s.length) := hc.hT.res (hok.kid hkm) hp hl
 have hhd : hdE c.rs c.s c.E e.kids = endE c.rs c.s c.E k := by rw [hk1]; funext q; rw [hdE]
 have hres : c.res e p = if e.kind = 7 ∨ e.kind = 8 then strE (endE c.rs c.s c.E k) (decide (e.kind = 8)) (c.s.length + 2) p true else oneE e.kind p (c.res k p) := by
  unfold PkC.res; rw [endE_eq, if_neg (by omega), if_neg (by omega), if_neg (by omega), if_neg (by omega), if_neg (by omega), if_neg (by omega), hhd]
 have hkk : kidK c.rs c.s c.E e p = ⟨0, p⟩ :: (if e.kind = 7 ∨ e.kind = 8 then staK (endE c.rs c.s c.E k) (c.s.length + 2) (c.res k p) else []) := by
  unfold kidK
  rw [if_neg (by omega), if_neg (by omega)]
  by_cases h78 : e.kind = 7 ∨ e.kind = 8
  ·rw [if_pos h78, if_pos h78, staK, if_neg (by omega), hhd]
  ·rw [if_neg h78, if_neg h78, if_pos (by omega)]
 rw [hkk] at hch
 obtain ⟨e', t2, he', hT', hrest⟩ := hch
 simp only at he' hT'
 rw [hk] at he'; cases he'
 have hT' := hT' (hok.kid hkm) hp hl (by omega) hroom
 have hone : ∀ q, (((n + 1 : Int) + (preN e.kids (0 : Int).toNat : Nat))) = n + 1 + q → q = 0 := fun q h => by rw [hp0] at h; omega
 rw [hp0, show (n + 1 : Int) + ((0 : Nat) : Int) = n + 1 by omega] at hT'
 unfold S_pack_Parser_single
 rw [hx.kind]
 have hkl : 0 < ((x.Kids_l : Nat) : Int) := by rw [hx.len, hk1]; simp
 refine ⟨b, o, ha, by omega, hkl, y, hat.le hP.le, inI_small (by omega) (by omega), (s_pack_Parser_try _ _ _ _ _ _ _ (hT' M y _ hy hP fun M2 to hP2 hto => ⟨to, _, rfl, fun k10 => ?_, fun n10 => ⟨fun k11 => ?_, fun n11 => ⟨fun hno => ?_, fun hyes => ?_⟩⟩⟩)).mono (fun g h => .inl h) (fun v M' _ h => h)⟩
 ·rw [if_neg (by omega)] at hrest hres
  have hrest : t2 = t1 := hrest
  subst hrest
  intro M3 hle
  unfold oneE at hres
  rw [if_neg (by omega), if_neg (by omega)] at hres
  have := hK M3 p (hP2.up hc hle) (fun h => by split at hres <;> omega)
  rw [show decide (0 ≤ c.res e p) = decide (0 ≤ c.res k p) by rw [decide_eq_decide]; split at hres <;> omega] at this
  exact this
 ·rw [if_neg (by omega)] at hrest hres
  have hrest : t2 = t1 := hrest
  subst hrest
  intro M3 hle
  unfold oneE at hres
  rw [if_neg (by omega), if_neg (by omega)] at hres
  have := hK M3 p (hP2.up hc hle) (fun h => by split at hres <;> omega)
  rw [show decide (0 ≤ c.res e p) = !decide (0 ≤ c.res k p) by rw [Bool.eq_iff_iff, Bool.not_eq_true', decide_eq_true_iff, decide_eq_false_iff_not]; split at hres <;> omega] at this
  exact this
 ·have h0 : c.res k p < 0 := by simpa using hno
  intro M3 hle
  have hend : t2 = t1 := by
   by_cases h78 : e.kind = 7 ∨ e.kind = 8
   ·rw [if_pos h78, staK, if_pos h0] at hrest; exact hrest
   ·rw [if_neg h78] at hrest; exact hrest
  subst hend
  have hval : c.res e p = if e.kind = 8 then c.res k p else p := by
   rw [hres]
   by_cases h78 : e.kind = 7 ∨ e.kind = 8
   ·rw [if_pos h78, strE]
    by_cases h8 : e.kind = 8
    ·rw [if_pos (.inr ⟨h0, rfl, by simpa using h8⟩), if_pos h8]
    ·rw [if_neg (fun h => h.elim (not_two hkr hp) fun h => h8 (by simpa using h.2.2)), if_pos h0, if_neg h8]
   ·rw [if_neg h78, if_neg (by omega)]
    unfold oneE
    rw [if_neg (by omega), if_neg (by omega), if_neg (by omega)]
  have := hK M3 p (hP2.up hc hle) (fun h => by split at hval <;> omega)
  rw [show decide (0 ≤ c.res e p) = (e.kind != (8 : Int)) by rw [Bool.eq_iff_iff, decide_eq_true_iff, bne_iff_ne]; split at hval <;> omega] at this
  exact this
 ·have h0 : 0 ≤ c.res k p := by simpa using hyes
  have hto := hto h0
  subst hto
  refine ⟨List Evt × Nat, fun g q M' => 0 ≤ q ∧ q ≤ c.s.length ∧ PI c g.1 M' ∧ (e.kind = 7 ∨ e.kind = 8 → ChainOk c e.kids (n + 1) (staK (endE c.rs c.s c.E k) (g.2 + 1) q) g.1 t1 ∧ strE (endE c.rs c.s c.E k) (decide (e.kind = 8)) g.2 q false = c.res e p ∧ c.s.length + 1 ≤ q + g.2) ∧ (¬ (e.kind = 7 ∨ e.kind = 8) → g.1 = t1 ∧ q = c.res e p), fun _ q => (c.s.length + 1 - q).toNat, (t2, c.s.length + 1),
   ⟨h0, by omega, hP2, fun h78 => ⟨by rw [if_pos h78] at hrest; exact hrest, ?_, ?_⟩, fun h78 => ⟨by rw [if_neg h78] at hrest; exact hrest, ?_⟩⟩, fun g q M' ⟨q0, q1, hP', hl78, hl9⟩ => ⟨fun n9 => ?_, fun k9 => ?_⟩⟩
  ·rw [if_pos h78, strE, if_neg (fun h => h.elim (not_two hkr hp) fun h => Int.not_lt.2 h0 h.1), if_neg (Int.not_lt.2 h0)] at hres
   exact hres.symm
  ·have : (e.kind = 7 ∨ e.kind = 8) := h78
   have hem := hok.star hk1 h78
   have hne : c.res k p ≠ p := fun h => by
    have := hc.hT.empty (hok.kid hkm) hp hl h
    rw [this] at hem; cases hem
   push_cast; omega
  ·rw [if_neg h78] at hres
   unfold oneE at hres
   rw [if_neg (by omega)] at hres
   by_cases h9 : e.kind = 9
   ·rw [if_pos ⟨h9, h0⟩] at hres; exact hres.symm
   ·omega
  ·have h78 : e.kind = 7 ∨ e.kind = 8 := by omega
   obtain ⟨hch2, hst, hm⟩ := hl78 h78
   obtain ⟨t3, m⟩ := g
   simp only at hch2 hst hm hP'
   have hem := hok.star hk1 h78
   have hne : c.res k q ≠ q := fun h => by
    have := hc.hT.empty (hok.kid hkm) q0 q1 h
    rw [this] at hem; cases hem
   have hqr : c.res k q = -1 ∨ (q ≤ c.res k q ∧ c.res k q ≤ c.s.length) := hc.hT.res (hok.kid hkm) q0 q1
   rw [staK, if_neg (by omega)] at hch2
   obtain ⟨e', t4, he', hT2, hrest2⟩ := hch2
   simp only at he' hT2
   rw [hk] at he'; cases he'
   have hT2 := hT2 (hok.kid hkm) q0 q1 (by omega) hroom
   rw [hp0, show (n + 1 : Int) + ((0 : Nat) : Int) = n + 1 by omega] at hT2
   cases m with
   | zero => omega
   | succ m =>
    rw [strE] at hst
    refine ⟨b, o, ha, by omega, hkl, y, hat.le hP'.le, inI_small (by omega) (by omega), (s_pack_Parser_try _ _ _ _ _ _ _ (hT2 M' y _ hy hP' fun M3 to hP3 hto => ⟨to, _, rfl, fun hno => ?_, fun hyes => ?_⟩)).mono (fun g h => .inl h) (fun v M' _ h => h)⟩
    ·have hq0 : c.res k q < 0 := by simpa using hno
     rw [staK, if_pos hq0] at hrest2
     have hrest2 : t4 = t1 := hrest2
     subst hrest2
     rw [if_neg (fun h => h.elim (not_two hqr q0) fun h => by cases h.2.1), if_pos hq0] at hst
     unfold S_pack_Parser_single_J1
     intro M4 hle
     have := hK M4 q (hP3.up hc hle) (fun _ => hst)
     rw [decide_eq_true (by rw [← hst]; exact q0)] at this
     exact this
    ·have hq0 : 0 ≤ c.res k q := by simpa using hyes
     have hto := hto hq0
     subst hto
     rw [if_neg (fun h => h.elim (not_two hqr q0) fun h => Int.not_lt.2 hq0 h.1), if_neg (Int.not_lt.2 hq0)] at hst
     exact ⟨(t4, m), ⟨hq0, by omega, hP3, fun _ => ⟨hrest2, hst, by push_cast at hm; omega⟩, fun h => absurd h78 h⟩, by show ((c.s.length : Int) + 1 - c.res k q).toNat < ((c.s.length : Int) + 1 - q).toNat; omega⟩
  ·have h9 : e.kind = 9 := by simpa using k9
   obtain ⟨h1, h2⟩ := hl9 (by omega)
   unfold S_pack_Parser_single_J1
   intro M3 hle
   rw [h1] at hP'
   have := hK M3 q (hP'.up hc hle) (fun _ => h2)
   rw [decide_eq_true (by rw [← h2]; exact q0)] at this
   exact this
end
end Go.Proofs.YtmnilbfhfjdelaaGreat.core

namespace Go.Proofs.YtmnilbfhfjdelaaGreat.core
open Go.Gx Go.RowKit Go.ChangeShapes Go.WideShapes Go.ChangeAt
set_option linter.unusedVariables false
theorem cpl_le : ∀ a b : List UInt8, cpl a b ≤ a.length ∧ cpl a b ≤ b.length
 | [], _ => by simp [cpl]
 | _ :: _, [] => by simp [cpl]
 | x :: a, y :: b => by
  have := cpl_le a b
  rw [cpl]
  split <;> simp <;> omega
theorem cpl_same : ∀ (a b : List UInt8) (k : Nat), k < cpl a b → a[k]? = b[k]?
 | [], _, k, h => by simp [cpl] at h
 | _ :: _, [], k, h => by simp [cpl] at h
 | x :: a, y :: b, k, h => by
  rw [cpl] at h
  split at h
  ·rename_i hxy
   cases k with
   | zero => simp [hxy]
   | succ k => simpa using cpl_same a b k (by omega)
  ·omega
theorem cpl_end : ∀ (a b : List UInt8) (x : UInt8), a[cpl a b]? = some x → b[cpl a b]? ≠ some x
 | [], _, x, h => by simp at h
 | _ :: _, [], x, h => by simp
 | u :: a, v :: b, x, h => by
  rw [cpl] at h ⊢
  split at h
  ·rename_i huv
   rw [if_pos huv]
   simp only [List.getElem?_cons_succ] at h ⊢
   exact cpl_end a b x h
  ·rename_i huv
   rw [if_neg huv]
   simp only [List.getElem?_cons_zero, Option.some.injEq] at h ⊢
   subst h; exact fun h' => huv (Option.some.inj h').symm
theorem cpl_all : ∀ (a b : List UInt8), cpl a b = b.length → b.length ≤ a.length ∧ a.take b.length = b
 | _, [], _ => by simp
 | [], _ :: _, h => by simp [cpl] at h
 | u :: a, v :: b, h => by
  rw [cpl] at h
  split at h
  ·rename_i huv
   have := cpl_all a b (by simpa using h)
   subst huv
   simp only [List.length_cons, List.take_succ_cons]
   exact ⟨by omega, by rw [this.2]⟩
  ·simp at h
theorem Missed.as {far far' p : Int} {want want' : X_api_Set} {f g : Nat → Bool} (h : Missed far want p f far' want') (hfg : ∀ b, b < 256 → f b = g b) : Missed far want p g far' want' :=
 ⟨h.1, h.2.1, fun b hb => by rw [h.2.2 b hb, hfg b hb]⟩
section
variable {c : PkC} {e : Ex} {n p : Int} {t t1 : List Evt}
def RuleOk (c : PkC) (i p : Int) (t t' : List Evt) : Prop := ∀ (M : Mem) (K : Value → Mem → Prop), PI c t M → (∀ M', PI c t' M' → K (outE (c.E p.toNat i.toNat) p).val M') → S_pack_Parser_Rule c.ptr i p M c.LV K
theorem node_is (hc : c.Ok) (hok : PegOk c.rs e) (hp : 0 ≤ p) (hl : p ≤ c.s.length) (hn0 : 0 ≤ n) (hn1 : n + cnt e ≤ c.tot) (h4 : e.kind = 4 → RuleOk c (findR e.text c.rs 0) p t t1) (hch : e.kind ≠ 4 → ChainOk c e.kids (n + 1) (kidK c.rs c.s c.E e p) t t1) : NodeOk c e n p t t1 := by
 intro M x K hR hP hK
 obtain ⟨xs, hx⟩ := hR.open
 have hsm := hc.small
 have hs60 := hc.s60
 have hl8 := kids8 hok.good
 obtain ⟨g1, g2, g3, g4, g5, g6, _⟩ := fitE_kinds hok.good.fit
 have fin : ∀ (M' : Mem) (to : Int) (b : Bool), PI c t1 M' → missOf c.rs c.s c.E (.node n p e) = none → b = decide (0 ≤ c.res e p) → (0 ≤ c.res e p → to = c.res e p) → K (.tuple #[.int .i64 to, .bool b]) M' := fun M' to b ⟨far, want, hF, hB⟩ hm hb hto => by
  rw [hb]; exact hK M' to far want hB (hF.skip hm) hto
 have mnone : e.kind ≠ 2 → e.kind ≠ 3 → missOf c.rs c.s c.E (.node n p e) = none := fun h2 h3 => by
  rw [missOf, if_neg h2, if_neg h3]; split <;> rfl
 have mpos : 0 ≤ c.res e p → missOf c.rs c.s c.E (.node n p e) = none := fun h => by
  rw [missOf, if_neg (Int.not_lt.2 h)]
 have leaf : e.kind ≤ 3 → t = t1 := fun h => by
  have := hch (by omega)
  unfold kidK at this
  rw [if_neg (by omega), if_neg (by omega), if_neg (show ¬ (e.kind = 7 ∨ e.kind = 8) by omega), if_neg (by omega)] at this
  exact this
 have atS : ∀ {t M}, PI c t M → At M c.pb (0 + 1) [.string (mkS c.s)] := fun ⟨far, want, _, h⟩ => by
  obtain ⟨la, lc, h1⟩ := h.at
  exact h1.part 1 [.string (mkS c.s)] rfl
 have atG : ∀ {t M}, PI c t M → At M c.pb 0 [.slice c.ga c.gl c.gc] := fun ⟨far, want, _, h⟩ => by
  obtain ⟨la, lc, h1⟩ := h.at
  exact h1.part 0 [.slice c.ga c.gl c.gc] rfl
 unfold S_pack_Parser_node
 rw [hx.kind]
 refine ⟨fun k1 M2 hle => ?_, fun n1 => ?_⟩
 ·have ht := leaf (by omega)
  subst ht
  have hr : c.res e p = p := by unfold PkC.res; rw [endE_eq, if_pos k1]
  exact fin M2 p true (hP.up hc hle) (mpos (by rw [hr]; exact hp)) (by rw [hr]; exact (decide_eq_true hp).symm) fun _ => hr.symm
 refine ⟨fun k2 => ?_, fun n2 => ?_⟩
 ·have ht := leaf (by omega)
  subst ht
  have hr : c.res e p = setE e.set c.s p := by unfold PkC.res; rw [endE_eq, if_neg n1, if_pos k2]
  have j1 : ∀ v : Bool, v = decide (0 ≤ c.res e p) → (v = true → c.res e p = p + 1) → S_pack_Parser_node_J1 c.ptr x p M c.LV v K := by
   intro v hv hv1
   unfold S_pack_Parser_node_J1
   refine ⟨fun ht => ⟨inI_small (by omega) (by omega), fun M2 hle => fin M2 _ true (hP.up hc hle) (mpos (by rw [hv1 ht]; omega)) (by rw [← hv, ht]) fun _ => (hv1 ht).symm⟩, fun hf => ?_⟩
   have hneg : ¬ 0 ≤ c.res e p := fun h => hf (by rw [hv, decide_eq_true h])
   obtain ⟨far, want, hF, hB⟩ := hP
   rw [hx.set]
   refine (s_pack_Parser_miss _ _ _ _ _ _ (miss_is hc hB hF.wf hx.hs fun M2 far' want' hB2 hm => ⟨rfl, fun M3 hle => ?_⟩)).mono (fun g h => .inl h) (fun v M' _ h => h)
   have := hK M3 0 far' want' (hB2.up hc hle) (hF.miss hp (x := .node n p e) (by rw [missOf, if_pos (Int.not_le.1 hneg), if_pos k2]) hm) fun h => absurd h hneg
   rw [decide_eq_false hneg] at this
   exact this
  refine ⟨c.pb, 0, rfl, c.s, atS hP, fun hlt => ?_, fun hge => ?_⟩
  ·obtain ⟨d, hd⟩ := getI (l := c.s) hp hlt
   unfold setE at hr
   rw [hd] at hr
   simp only at hr
   rw [hx.set]
   refine ⟨c.pb, 0, rfl, c.s, atS hP, d, hp, hd, s_set_Has _ _ _ _ (has_is hx.hs d _ ⟨_, rfl, j1 _ ?_ fun hb => ?_⟩)⟩
   ·rw [Bool.eq_iff_iff, decide_eq_true_iff]
    split at hr <;> rename_i hb <;> simp only [hb, hr] <;> simp <;> omega
   ·rw [if_pos hb] at hr; exact hr
  ·unfold setE at hr
   rw [List.getElem?_eq_none (by omega)] at hr
   simp only at hr
   exact j1 _ (by rw [hr]; rfl) fun h => by cases h
 refine ⟨fun k3 => ?_, fun n3 => ?_⟩
 ·have ht := leaf (by omega)
  subst ht
  have h12 := g6 k3
  have hr : c.res e p = litE e.text c.s p := by unfold PkC.res; rw [endE_eq, if_neg n1, if_neg n2, if_pos k3]
  rw [hx.text]
  refine ⟨c.pb, 0, rfl, c.s, atS hP, hp, hl, by omega, s_strings_HasPrefix _ _ _ _ (prefix_is _ _ _ ⟨_, rfl, fun hyes => ⟨inI_small (by omega) (by omega), fun M2 hle => ?_⟩, fun hno => ?_⟩)⟩
  ·have hh := of_decide_eq_true hyes
   rw [Int.toNat_natCast, List.take_length, List.length_drop] at hh
   have hr2 : c.res e p = p + ((e.text.length : Nat) : Int) := by
    rw [hr]; unfold litE
    rw [if_pos ⟨by omega, by rw [List.drop_take, show (p + ((e.text.length : Nat) : Int)).toNat - p.toNat = e.text.length by omega]; exact hh.2⟩]
   exact fin M2 _ true (hP.up hc hle) (mpos (by rw [hr2]; omega)) (by rw [hr2]; exact (decide_eq_true (by omega)).symm) fun _ => hr2.symm
  ·have hh : ¬ (e.text.length ≤ (c.s.drop p.toNat).length ∧ (c.s.drop p.toNat).take e.text.length = e.text) := by
    intro h
    apply hno
    rw [Int.toNat_natCast, List.take_length, decide_eq_true h]
   have hneg : c.res e p = -1 := by
    rw [hr]; unfold litE
    rw [if_neg]
    rintro ⟨h1, h2⟩
    rw [List.drop_take, show (p + ((e.text.length : Nat) : Int)).toNat - p.toNat = e.text.length by omega] at h2
    exact hh ⟨by rw [List.length_drop]; omega, h2⟩
   obtain ⟨cl1, cl2⟩ := cpl_le (c.s.drop p.toNat) e.text
   have hlt : cpl (c.s.drop p.toNat) e.text < e.text.length := by
    rcases Nat.lt_or_ge (cpl (c.s.drop p.toNat) e.text) e.text.length with h | h
    ·exact h
    ·exact absurd (cpl_all _ _ (by omega)) hh
   have hme : missOf c.rs c.s c.E (.node n p e) = some (p + (cpl (c.s.drop p.toNat) e.text : Nat), fun b => decide ((e.text[cpl (c.s.drop p.toNat) e.text]?).map UInt8.toNat = some b)) := by
    rw [missOf, if_pos (show c.res e p < 0 by rw [hneg]; omega), if_neg n2, if_pos k3]
   have hsame := cpl_same (c.s.drop p.toNat) e.text
   have hend := cpl_end (c.s.drop p.toNat) e.text
   rw [List.length_drop] at cl1
   generalize hC : cpl (c.s.drop p.toNat) e.text = C at hlt hme hsame hend cl1 cl2
   have j2 : ∀ (k : Int) (v : Bool), 0 ≤ k → k ≤ C → (v = true → k + 1 ≤ C) → (v = false → k = C) → S_pack_Parser_node_J2 c.ptr x p M c.LV k (fun k => 0 ≤ k ∧ k ≤ C) (fun k => C - k.toNat) v K := by
    intro k v k0 k1 hv1 hv2
    unfold S_pack_Parser_node_J2
    refine ⟨fun ht => ⟨inI_small (by omega) (by omega), ⟨by omega, by have := hv1 ht; omega⟩, by have := hv1 ht; show C - (k + 1).toNat < C - k.toNat; omega⟩, fun hf => ?_⟩
    have hkC := hv2 (by simpa using hf)
    subst hkC
    obtain ⟨d, hd⟩ := getN (l := e.text) hlt
    have hd' : e.text[((C : Nat) : Int).toNat]? = some d := by rw [Int.toNat_natCast]; exact hd
    obtain ⟨far, want, hF, hB⟩ := hP
    rw [hx.text]
    refine ⟨inI_small (by omega) (by omega), d, k0, hd', d, k0, hd', ?_⟩
    rw [u8wF]
    refine s_set_Range _ _ _ _ (range_is _ _ _ ⟨_, rfl, (s_pack_Parser_miss _ _ _ _ _ _ (miss_is hc hB hF.wf (Us_wf _) fun M2 far' want' hB2 hm => ⟨rfl, fun M3 hle => ?_⟩)).mono (fun g h => .inl h) (fun v M' _ h => h)⟩)
    have := hK M3 0 far' want' (hB2.up hc hle) (hF.miss (by omega) hme (hm.as fun b hb => ?_)) fun h => by rw [hneg] at h; omega
    ·rw [decide_eq_false (by rw [hneg]; omega)] at this
     exact this
    ·rw [bit_Us hb, hd]
     unfold inR
     rw [Option.map_some, decide_eq_decide]
     simp only [Option.some.injEq]
     omega
   refine ⟨fun k => 0 ≤ k ∧ k ≤ C, fun k => C - k.toNat, ⟨by omega, by omega⟩, fun k ⟨k0, k1⟩ => ⟨inI_small (by omega) (by omega), c.pb, 0, rfl, c.s, atS hP, fun hlt2 => ?_, fun hge2 => ?_⟩⟩
   ·obtain ⟨a1, ha1⟩ := getI (l := c.s) (i := p + k) (by omega) hlt2
    obtain ⟨a2, ha2⟩ := getI (l := e.text) (i := k) k0 (by omega)
    have hdr : (c.s.drop p.toNat)[k.toNat]? = some a1 := by rw [List.getElem?_drop, ← ha1]; congr 1; omega
    refine ⟨c.pb, 0, rfl, c.s, atS hP, inI_small (by omega) (by omega), a1, by omega, ha1, a2, k0, ha2, j2 k _ k0 k1 (fun hv => ?_) fun hv => ?_⟩
    ·have hEq : a1 = a2 := by
      have := beq_iff_eq.1 hv
      exact UInt8.toNat_inj.1 (by omega)
     by_cases h : k < C
     ·omega
     ·exfalso
      have hkC : k.toNat = C := by omega
      rw [hkC] at hdr ha2
      exact hend a1 hdr (by rw [ha2, hEq])
    ·by_cases h : k < C
     ·exfalso
      have := hsame k.toNat (by omega)
      rw [hdr, ha2] at this
      have : a1 = a2 := Option.some.inj this
      rw [this] at hv
      simp at hv
     ·omega
   ·exact j2 k false k0 k1 (fun h => by cases h) fun _ => by omega
 refine ⟨fun k4 => ?_, fun n4 => ?_⟩
 ·have hf0 := hok.good.ref k4
  obtain ⟨hf1, hf2⟩ := findR_lt hf0
  have hr : c.res e p = c.E p.toNat (findR e.text c.rs 0).toNat := by unfold PkC.res; rw [endE_eq, if_neg n1, if_neg n2, if_neg n3, if_pos k4]
  have hrr : c.res e p = -1 ∨ (p ≤ c.res e p ∧ c.res e p ≤ c.s.length) := hc.hT.res hok hp hl
  rw [hx.text]
  refine ⟨c.pb, 0, rfl, _, _, _, atG hP, s_gram_Find _ _ _ _ _ _ (find_is (hc.gr.le hP.le) e.text _ ⟨_, rfl, (s_pack_Parser_Rule _ _ _ _ _ _ (h4 k4 M _ hP fun M2 hP2 => ⟨_, rfl, ?_⟩)).mono (fun g h => .inl h) (fun v M' _ h => h)⟩)⟩
  unfold S_pack_Parser_node_J3
  rw [← hr]
  unfold outE
  by_cases h0 : 0 ≤ c.res e p
  ·rw [if_pos h0]
   show InI (p + (c.res e p - p)) ∧ ∀ M', M2.le M' → K (.tuple #[.int .i64 (p + (c.res e p - p)), .bool true]) M'
   exact ⟨inI_small (by omega) (by omega), fun M3 hle => fin M3 _ true (hP2.up hc hle) (mpos h0) (decide_eq_true h0).symm fun _ => by omega⟩
  ·rw [if_neg h0]
   show InI (p + 0) ∧ ∀ M', M2.le M' → K (.tuple #[.int .i64 (p + 0), .bool false]) M'
   exact ⟨inI_small (by omega) (by omega), fun M3 hle => fin M3 _ false (hP2.up hc hle) (mnone n2 n3) (decide_eq_false h0).symm fun h => absurd h h0⟩
 refine ⟨fun k5 => ?_, fun n5 => ?_⟩
 ·refine (s_pack_Parser_seq _ _ _ _ _ _ _ (seq_is hc k5 hok hp hl hn0 hn1 (hch n4) hR hP fun M2 to hP2 hto => ⟨to, _, rfl, fun M3 hle => fin M3 to _ (hP2.up hc hle) (mnone n2 n3) rfl hto⟩)).mono (fun g h => .inl h) (fun v M' _ h => h)
 refine ⟨fun k6 => ?_, fun n6 => ?_⟩
 ·have hres : c.res e p = altE c.rs c.s c.E e.kids p := by
   unfold PkC.res; rw [endE_eq, if_neg n1, if_neg n2, if_neg n3, if_neg n4, if_neg n5, if_pos k6]
  have hch := hch n4
  unfold kidK at hch
  rw [if_neg n5, if_pos k6] at hch
  refine ⟨inI_small (by omega) (by omega), List Evt, fun t' k i M' => 0 ≤ i ∧ i ≤ e.kids.length ∧ k = n + 1 + preN e.kids i.toNat ∧ PI c t' M' ∧ ChainOk c e.kids (n + 1) (altK (endE c.rs c.s c.E) (e.kids.drop i.toNat) i p) t' t1 ∧ altE c.rs c.s c.E (e.kids.drop i.toNat) p = c.res e p, fun _ _ i => e.kids.length - i.toNat, t,
   ⟨by omega, by omega, by simp [preN], hP, by simpa using hch, by rw [hres]; rfl⟩, fun t' k i M' ⟨i0, i1, hkn, hP', hch', hrs⟩ => ⟨fun hlt => ?_, fun hge => ?_⟩⟩
  ·rw [hx.len] at hlt
   obtain ⟨ke, hk⟩ := getI (l := e.kids) i0 hlt
   have hkm := List.mem_of_getElem? hk
   obtain ⟨b, o, y, ha, hat, hy, _⟩ := hx.kid hk
   rw [drop_get hk, altK] at hch'
   rw [drop_get hk, altE] at hrs
   obtain ⟨e', t2, he', hT', hrest⟩ := hch'
   simp only at he' hT'
   rw [hk] at he'; cases he'
   have hroom := kid_room hn1 hk
   have hcnt := kid_cnt hk
   have hkr : c.res ke p = -1 ∨ (p ≤ c.res ke p ∧ c.res ke p ≤ c.s.length) := hc.hT.res (hok.kid hkm) hp hl
   have hT' := hT' (hok.kid hkm) hp hl (by omega) hroom
   rw [← hkn] at hT'
   refine ⟨b, o, ha, i0, by rw [hx.len]; exact hlt, y, hat.le hP'.le, (s_pack_Parser_try _ _ _ _ _ _ _ (hT' M' y _ hy hP' fun M2 to hP2 hto => ⟨to, _, rfl, fun hyes => ?_, fun hno => ?_⟩)).mono (fun g h => .inl h) (fun v M' _ h => h)⟩
   ·have h0 : 0 ≤ c.res ke p := by simpa using hyes
    rw [if_neg (Int.not_lt.2 h0)] at hrest
    have hne : c.res ke p ≠ -1 := by omega
    rw [if_pos hne] at hrs
    have hrest : t2 = t1 := hrest
    subst hrest
    have hto := hto h0
    subst hto
    have hrs : c.res ke p = c.res e p := hrs
    intro M3 hle
    rw [hrs]
    exact fin M3 _ true (hP2.up hc hle) (mnone n2 n3) (by rw [← hrs]; exact (decide_eq_true h0).symm) fun _ => rfl
   ·have h0 : c.res ke p < 0 := by simpa using hno
    rw [if_pos h0] at hrest
    have hne : ¬ c.res ke p ≠ -1 := by omega
    rw [if_neg hne] at hrs
    refine (s_pack_count _ _ _ _ (count_is _ ke (Nat.lt_succ_self _) (by omega) _ _ _ (hy.le hP2.le) fun M3 hle3 => ⟨_, rfl, ?_, ?_, t2, ⟨by omega, by omega, ?_, hP2.up hc hle3, ?_, ?_⟩, ?_⟩)).mono (fun _ h => h.elim) (fun v M' _ h => h)
    ·exact inI_small (by omega) (by omega)
    ·exact inI_small (by omega) (by omega)
    ·rw [show (i + 1).toNat = i.toNat + 1 by omega, preN_succ hk, hkn]; push_cast; omega
    ·rw [show (i + 1).toNat = i.toNat + 1 by omega]; exact hrest
    ·rw [show (i + 1).toNat = i.toNat + 1 by omega]; exact hrs
    ·show e.kids.length - (i + 1).toNat < e.kids.length - i.toNat
     omega
  ·rw [hx.len] at hge
   rw [List.drop_of_length_le (by omega), altK] at hch'
   rw [List.drop_of_length_le (by omega), altE] at hrs
   have hch' : t' = t1 := hch'
   subst hch'
   intro M2 hle
   exact fin M2 0 false (hP'.up hc hle) (mnone n2 n3) (by rw [← hrs]; rfl) fun h => by rw [← hrs] at h; omega
 ·refine (s_pack_Parser_single _ _ _ _ _ _ _ (single_is hc (by omega) hok hp hl hn0 hn1 (hch n4) hR hP fun M2 to hP2 hto => ⟨to, _, rfl, fun M3 hle => fin M3 to _ (hP2.up hc hle) (mnone n2 n3) rfl hto⟩)).mono (fun g h => .inl h) (fun v M' _ h => h)
end
end Go.Proofs.YtmnilbfhfjdelaaGreat.core

namespace Go.Proofs.YtmnilbfhfjdelaaGreat.core
open Go.Gx Go.RowKit Go.ChangeShapes Go.WideShapes Go.ChangeAt
set_option linter.unusedVariables false
def JobOk (rs : List Ru) (s : List UInt8) (E : Nat → Nat → Int) : Job → Prop
 | .node e _ p => PegOk rs e ∧ 0 ≤ p ∧ p ≤ s.length
 | .rule i p => 0 ≤ i ∧ i < rs.length ∧ 0 ≤ p ∧ p ≤ s.length
 | .kids L _ l => ∃ (e : Ex) (p : Int), L = e.kids ∧ PegOk rs e ∧ 0 ≤ p ∧ p ≤ s.length ∧ ∀ k ∈ l, k ∈ kidK rs s E e p
def LowE (rs : List Ru) (st : Nat → Nat) (e : Ex) (p i q : Int) : Prop := p < q ∨ (q = p ∧ ∃ j ∈ needsE rs (knOf rs) e, st i.toNat ≤ st j)
def LowJ (rs : List Ru) (st : Nat → Nat) : Job → Int → Int → Prop
 | .node e _ p, i, q => LowE rs st e p i q
 | .rule k p, i, q => p < q ∨ (q = p ∧ st i.toNat ≤ st k.toNat)
 | .kids L _ l, i, q => ∃ k ∈ l, ∃ e, L[k.Kid.toNat]? = some e ∧ LowE rs st e k.At i q
theorem goes_low {rs : List Ru} {s : List UInt8} {E : Nat → Nat → Int} (hw : WellOk rs) (hT : Tab rs s E) {st : Nat → Nat} (hst : ∀ (i : Nat) r, rs[i]? = some r → ∀ j ∈ needsE rs (knOf rs) r.body, st j < st i) {j : Job} {t t1 : List Evt} (h : Goes rs s E j t t1) :
  JobOk rs s E j → ∀ i q, Evt.done i q ∈ t1 → Evt.done i q ∈ t ∨ LowJ rs st j i q := by
 induction h with
 | @ref e n p t t' h4 _ ih =>
  intro ⟨hok, hp, hl⟩ i q hd
  have hf := hok.good.ref h4
  obtain ⟨f1, f2⟩ := findR_lt hf
  rcases ih ⟨hf, f2, hp, hl⟩ i q (by simpa using hd) with h | h | ⟨h1, h2⟩
  ·exact .inl h
  ·exact .inr (.inl h)
  ·exact .inr (.inr ⟨h1, _, by rw [needsE_eq, if_pos h4]; simp, h2⟩)
 | @inner e n p t t' h4 _ ih =>
  intro ⟨hok, hp, hl⟩ i q hd
  rcases ih ⟨e, p, rfl, hok, hp, hl, fun k hk => hk⟩ i q (by simpa using hd) with h | ⟨k, hk, x, hx, h⟩
  ·exact .inl h
  ·obtain ⟨_, _, x', hx', htr, hpk, hnd⟩ := kid_all hT hok hp hl k hk
   rw [hx] at hx'; cases hx'
   rcases h with h | ⟨h1, j0, h2, h3⟩
   ·exact .inr (.inl (by omega))
   ·by_cases he : k.At = p
    ·exact .inr (.inr ⟨by omega, j0, hnd he j0 h2, h3⟩)
    ·exact .inr (.inl (by omega))
 | seen _ => exact fun _ i q hd => .inl hd
 | @rule k p r t t' hn hr _ ih =>
  intro ⟨hk, hk2, hp, hl⟩ i q hd
  rcases List.mem_append.1 hd with hd | hd
  ·rcases ih ⟨hw.peg (List.mem_of_getElem? hr), hp, hl⟩ i q hd with h | h | ⟨h1, j0, h2, h3⟩
   ·exact .inl h
   ·exact .inr (.inl h)
   ·exact .inr (.inr ⟨h1, Nat.le_of_lt (Nat.lt_of_le_of_lt h3 (hst _ r hr j0 h2))⟩)
  ·simp only [List.mem_singleton, Evt.done.injEq] at hd
   obtain ⟨rfl, rfl⟩ := hd
   exact .inr (.inr ⟨rfl, Nat.le_refl _⟩)
 | nil => exact fun _ i q hd => .inl hd
 | @cons L n k l x t ta tb he _ _ ih1 ih2 =>
  intro ⟨e, p, hL, hok, hp, hl, hks⟩ i q hd
  obtain ⟨_, hk1, x', hx', htr⟩ := kid_all hT hok hp hl k (hks k (by simp))
  rw [← hL, he] at hx'; cases hx'
  rcases ih2 ⟨e, p, hL, hok, hp, hl, fun y hy => hks y (by simp [hy])⟩ i q hd with h | ⟨y, hy, r, hr, h⟩
  ·rcases ih1 ⟨hok.kid htr.1, by have := htr.2.1; omega, hk1⟩ i q h with h | h
   ·exact .inl h
   ·exact .inr ⟨k, by simp, x, he, h⟩
  ·exact .inr ⟨y, by simp [hy], r, hr, h⟩
theorem goes_own {rs : List Ru} {s : List UInt8} {E : Nat → Nat → Int} (hw : WellOk rs) (hT : Tab rs s E) {i p n : Int} {r : Ru} (hr : rs[i.toNat]? = some r) (hp : 0 ≤ p) (hl : p ≤ s.length) {t t1 : List Evt} (h : Goes rs s E (.node r.body n p) t t1) (hn : Evt.done i p ∉ t) : Evt.done i p ∉ t1 := by
 obtain ⟨st, _, hst⟩ := hw.stage
 intro hd
 rcases goes_low hw hT hst h ⟨hw.peg (List.mem_of_getElem? hr), hp, hl⟩ i p hd with h | h | ⟨_, j, h1, h2⟩
 ·exact hn h
 ·omega
 ·have := hst _ r hr j h1; omega
end Go.Proofs.YtmnilbfhfjdelaaGreat.core

namespace Go.Proofs.YtmnilbfhfjdelaaGreat.core
open Go.Gx Go.RowKit Go.ChangeShapes Go.WideShapes Go.ChangeAt
set_option linter.unusedVariables false
section
variable {c : PkC} {t t1 : List Evt} {i p : Int}
theorem rule_is (hc : c.Ok) (hi : 0 ≤ i) {rr : Ru} (hr : c.rs[i.toNat]? = some rr) (hp : 0 ≤ p) (hl : p ≤ c.s.length) (hn : Evt.done i p ∉ t) (hn1 : Evt.done i p ∉ t1) (hT : TryOk c rr.body (fstN c.rs i.toNat) p t t1) : RuleOk c i p t (t1 ++ [.done i p]) := by
 intro M K hP hK
 have hlt := (List.getElem?_eq_some_iff.1 hr).1
 have hgl := hc.gr.len
 have h10 := hc.hw.ok.ten
 have hs60 := hc.s60
 have hok := hc.hw.peg (List.mem_of_getElem? hr)
 have hE : c.E p.toNat i.toNat = c.res rr.body p := by
  have := hc.hT.fix p.toNat i.toNat rr (by omega) hr
  rw [show ((p.toNat : Nat) : Int) = p by omega] at this
  exact this
 have hrr : c.res rr.body p = -1 ∨ (p ≤ c.res rr.body p ∧ c.res rr.body p ≤ c.s.length) := hc.hT.res hok hp hl
 obtain ⟨b2, o2, ha2, hat2⟩ := hc.fst i.toNat hlt
 obtain ⟨r2, x2, b3, o3, hr2, ha3, hat3, hrr3⟩ := hc.gr.at hi (by omega)
 rw [hr] at hr2; cases hr2
 have atK : ∀ {t far want M}, PB c t far want M → ∃ la lc, M c.pb = some (.cells (c.cells la (logOf c.E t).length lc far want).toArray 120 (0, 0)) ∧ At M c.pb (0 + 2) [.map (some c.r)] ∧ At M c.pb 0 [.slice c.ga c.gl c.gc] ∧ At M c.pb (0 + 10) [.slice c.fa c.rs.length c.fc] ∧ At M c.pb (0 + 3) [.slice la (logOf c.E t).length lc] ∧ RowW M 147 4 la (logOf c.E t).length lc (cl X_api_Step.cells (logOf c.E t)) ∧ ∀ g, la = some ⟨g, 0, none⟩ → c.V g = none ∧ ¬ c.JB g ∧ g ≠ c.pb ∧ g ≠ c.r := fun h => by
  obtain ⟨la, lc, h1, h2, h3⟩ := h.bk
  have h0 := At.blk h1
  exact ⟨la, lc, h1, h0.part 2 [.map (some c.r)] rfl, h0.part 0 [.slice c.ga c.gl c.gc] rfl, h0.part 10 [.slice c.fa c.rs.length c.fc] rfl, h0.part 3 [.slice la _ lc] rfl, h2, h3⟩
 obtain ⟨far, want, hF, hB⟩ := id hP
 obtain ⟨la, lc, hblk, a1, a2, a3, a4, hrow, hla⟩ := atK hB
 obtain ⟨f, hf, hfd⟩ := hB.mp
 have hnone : f i p = none := by
  cases hv : f i p with
  | none => rfl
  | some v => exact absurd ((hfd i p v).1 hv).1 hn
 unfold S_pack_Parser_Rule
 rw [show c.gl = c.rs.length from hgl] at *
 refine ⟨c.pb, 0, rfl, _, a1, c.r, f, rfl, hf, inI_small (by omega) (by omega), inI_small (by omega) (by omega), ⟨false, 0⟩, by rw [hnone]; rfl, fun h => (by rw [hnone] at h; cases h), fun _ => ?_⟩
 refine ⟨c.pb, 0, rfl, _, _, _, a2, b3, o3, ha3, hi, by omega, x2.Body, (hat3.part 1 x2.Body.cells rfl).le hB.le, c.pb, 0, rfl, _, _, _, a3, b2, o2, ha2, hi, by omega, _, hat2.le hB.le, ?_⟩
 refine (s_pack_Parser_try _ _ _ _ _ _ _ (hT M x2.Body _ hrr3.2.2 hP fun M2 to hP2 hto => ⟨to, _, rfl, ?_⟩)).mono (fun g h => .inl h) (fun v M' _ h => h)
 have j1 : ∀ (ok : Bool) (N : Int), X_api_Outcome.mk ok N = outE (c.E p.toNat i.toNat) p → S_pack_Parser_Rule_J1 c.ptr i p M c.LV ok M2 N K := by
  intro ok N hout
  obtain ⟨far, want, hF, hB⟩ := hP2
  obtain ⟨la, lc, hblk, a1, a2, a3, a4, hrow, hla⟩ := atK hB
  obtain ⟨f, hf, hfd⟩ := hB.mp
  unfold S_pack_Parser_Rule_J1
  rw [hout]
  refine ⟨c.pb, 0, rfl, _, a1, c.r, f, rfl, hf, inI_small (by omega) (by omega), inI_small (by omega) (by omega), .inl hc.rV, fun M39 hS => ?_⟩
  have hne39 : ∀ b, b ≠ c.r → M39 b = M2 b := fun b hb => hS.ne hb
  have hblk39 : M39 c.pb = _ := (hne39 _ hc.pr).trans hblk
  have hrow39 := hrow.same (M' := M39) fun g o hg ho => by rw [hne39 g (hla g hg).2.2.2]; exact ho
  have hbound := hB.room hc
  refine ⟨c.pb, 0, rfl, la, (logOf c.E t1).length, lc, (At.blk hblk39).part 3 [.slice la _ lc] rfl, fun u hu => St_one ⟨i, p, outE (c.E p.toNat i.toNat) p⟩ u hu, _, hrow39, fun g hg => .inl (hla g hg).1, by omega, fun M49 ad50 cap51 hA => ?_⟩
  have h49pb : M49 c.pb = _ := hA.keep _ _ hblk39 fun g hg e => (hla g hg).2.2.1 e.symm
  refine ⟨c.pb, 0, rfl, Has.blk h49pb (by show 0 + 3 + 1 ≤ 11; omega), .inl hc.pbV, fun M54 hM54 M3 hle => ?_⟩
  refine hK M3 ⟨far, want, hF.skip rfl, PB.up hc ?_ hle⟩
  have hne54 : ∀ b, b ≠ c.pb → M54 b = M49 b := fun b hb => by rw [hM54]; exact Mem.put_ne hb
  have hold : ∀ b o, M2 b = some o → b ≠ c.r → b ≠ c.pb → (∀ g, la = some ⟨g, 0, none⟩ → b ≠ g) → M54 b = some o := fun b o ho h1 h2 h3 => by
   rw [hne54 b h2]; exact hA.keep b o (by rw [hne39 b h1]; exact ho) h3
  have hcells : cl X_api_Step.cells (logOf c.E t1) ++ (X_api_Step.mk i p (outE (c.E p.toNat i.toNat) p)).cells = cl X_api_Step.cells (logOf c.E (t1 ++ [.done i p])) := by rw [logOf_done]; exact cl_snoc _ _
  have hlen : (logOf c.E (t1 ++ [.done i p])).length = (logOf c.E t1).length + 1 := by rw [logOf_done, List.length_append]; rfl
  have hblkg : ∀ g, ad50 = some ⟨g, 0, none⟩ → c.V g = none ∧ ¬ c.JB g ∧ g ≠ c.pb ∧ g ≠ c.r := fun g hg => by
   rcases hA.blk g hg with h | h
   ·exact hla g h
   ·refine ⟨?_, fun hj => ?_, fun e => ?_, fun e => ?_⟩
    ·cases hv : c.V g with
     | none => rfl
     | some o =>
      have := hB.le g o hv
      rw [← hne39 g (fun e => by rw [e, hc.rV] at hv; cases hv), h] at this; cases this
    ·have := hc.has _ _ hB.j g hj
     rw [← hne39 g (fun e => hc.jr (e ▸ hj)), h] at this; cases this
    ·rw [e, hblk39] at h; cases h
    ·obtain ⟨o, hM39, hsome, _⟩ := hS
     rw [e, hM39, Mem.add_eq] at h; cases h
  refine ⟨fun b o ho => ?_, ⟨ad50, cap51, ?_, ?_, hblkg⟩, ?_, hc.done _ _ _ _ (hc.frame _ _ _ hB.j fun b hb => ?_), ?_, fun a b hab => ?_⟩
  ·exact hold b o (hB.le b o ho) (fun e => by rw [e, hc.rV] at ho; cases ho) (fun e => by rw [e, hc.pbV] at ho; cases ho) fun g hg e => by rw [e, (hla g hg).1] at ho; cases ho
  ·rw [hM54, Mem.put_eq h49pb, hlen]; rfl
  ·rw [hlen, ← hcells]
   exact hA.row.same fun g o hg ho => by rw [hne54 g (hblkg g hg).2.2.1]; exact ho
  ·obtain ⟨o, hM39, hsome, hset⟩ := hS
   have hm39 : M39 c.r = some o := by rw [hM39]; exact Mem.add_eq
   have hr54 : M54 c.r = M39 c.r := by
    rw [hne54 _ hc.pr.symm, hm39]
    exact hA.keep _ _ hm39 fun g hg e => (hla g hg).2.2.2 e.symm
   obtain ⟨es, clk, h4, h5⟩ := hset f (fun a b => if a = i ∧ b = p then some (outE (c.E p.toNat i.toNat) p).val else f a b) hf (by simp) (fun a b hab => by rw [if_neg hab])
   refine ⟨_, ⟨es, clk, hr54.trans h4, h5⟩, fun a b v => ?_⟩
   by_cases hab : a = i ∧ b = p
   ·rw [if_pos hab]
    obtain ⟨rfl, rfl⟩ := hab
    exact ⟨fun h => ⟨by simp, (Option.some.inj h).symm⟩, fun h => by rw [h.2]⟩
   ·rw [if_neg hab, hfd a b v]
    refine and_congr_left fun _ => ⟨fun h => by simp [h], fun h => ?_⟩
    rcases List.mem_append.1 h with h | h
    ·exact h
    ·simp only [List.mem_singleton, Evt.done.injEq] at h; exact absurd h hab
  ·have := hc.has _ _ hB.j b hb
   obtain ⟨o, ho⟩ := Option.isSome_iff_exists.1 this
   rw [ho]
   exact hold b o ho (fun e => hc.jr (e ▸ hb)) (fun e => hc.jpb (e ▸ hb)) fun g hg e => (hla g hg).2.1 (e ▸ hb)
  ·rw [logOf_done, List.map_append, List.nodup_append]
   refine ⟨hB.ks.1, by simp, fun a ha b hb => ?_⟩
   obtain ⟨y, hy, rfl⟩ := List.mem_map.1 ha
   obtain ⟨hy1, _⟩ := logOf_mem.1 hy
   have hk := hB.ks.2 _ _ hy1
   simp only [List.map_cons, List.map_nil, List.mem_singleton] at hb
   subst hb
   unfold keyS
   intro e
   have e1 : y.Rule = i := by simp only at e; omega
   have e2 : y.At = p := by simp only at e; omega
   rw [e1, e2] at hy1
   exact hn1 hy1
  ·rcases List.mem_append.1 hab with h | h
   ·exact hB.ks.2 a b h
   ·simp only [List.mem_singleton, Evt.done.injEq] at h
    obtain ⟨rfl, rfl⟩ := h
    exact ⟨hi, by omega, hp, hl⟩
 refine ⟨fun hyes => ⟨?_, j1 _ _ ?_⟩, fun hno => j1 _ _ ?_⟩
 ·have h0 : 0 ≤ c.res rr.body p := by simpa using hyes
  rw [hto h0]
  exact inI_small (by omega) (by omega)
 ·have h0 : 0 ≤ c.res rr.body p := by simpa using hyes
  rw [hto h0, hE, decide_eq_true h0]
  unfold outE
  rw [if_pos h0]
 ·have h0 : ¬ 0 ≤ c.res rr.body p := fun h => hno (decide_eq_true h)
  rw [hE, decide_eq_false h0]
  unfold outE
  rw [if_neg h0]
end
theorem rule_seen {c : PkC} {t : List Evt} {i p : Int} (hc : c.Ok) (hd : Evt.done i p ∈ t) : RuleOk c i p t t := by
 intro M K hP hK
 obtain ⟨far, want, hF, hB⟩ := id hP
 obtain ⟨la, lc, h1⟩ := hB.at
 obtain ⟨f, hf, hfd⟩ := hB.mp
 obtain ⟨k1, k2, k3, k4⟩ := hB.ks.2 i p hd
 have h10 := hc.hw.ok.ten
 have hs60 := hc.s60
 have hv := (hfd i p _).2 ⟨hd, rfl⟩
 unfold S_pack_Parser_Rule
 refine ⟨c.pb, 0, rfl, _, h1.part 2 [.map (some c.r)] rfl, c.r, f, rfl, hf, inI_small (by omega) (by omega), inI_small (by omega) (by omega), outE (c.E p.toNat i.toNat) p, by rw [hv]; rfl, fun _ M2 hle => hK M2 (hP.up hc hle), fun hn => absurd (by rw [hv]; rfl) hn⟩
def WalkOk (c : PkC) : Job → List Evt → List Evt → Prop
 | .node e n p, t, t' => PegOk c.rs e → 0 ≤ p → p ≤ c.s.length → 0 ≤ n → n + cnt e ≤ c.tot → TryOk c e n p t t'
 | .rule i p, t, t' => 0 ≤ i → i < c.rs.length → 0 ≤ p → p ≤ c.s.length → RuleOk c i p t t'
 | .kids L n l, t, t' => ChainOk c L n l t t'
theorem pack_walk {c : PkC} (hc : c.Ok) {j : Job} {t t' : List Evt} (h : Goes c.rs c.s c.E j t t') : WalkOk c j t t' := by
 induction h with
 | @ref e n p t t' h4 _ ih =>
  intro hok hp hl hn0 hn1
  have hf := hok.good.ref h4
  obtain ⟨f1, f2⟩ := findR_lt hf
  exact try_is hc hn0 (by have := cnt_pos e; omega) (node_is hc hok hp hl hn0 hn1 (fun _ => ih hf f2 hp hl) fun n4 => absurd h4 n4)
 | @inner e n p t t' h4 _ ih =>
  intro hok hp hl hn0 hn1
  exact try_is hc hn0 (by have := cnt_pos e; omega) (node_is hc hok hp hl hn0 hn1 (fun k4 => absurd k4 h4) fun _ => ih)
 | seen h => exact fun _ _ _ _ => rule_seen hc h
 | @rule i p r t t' hn hr hg ih =>
  intro hi hi2 hp hl
  have hsum := fstN_rule hr
  have htot := hc.tot
  exact rule_is hc hi hr hp hl hn (goes_own hc.hw hc.hT hr hp hl hg hn) (ih (hc.hw.peg (List.mem_of_getElem? hr)) hp hl (by omega) (by omega))
 | nil => rfl
 | cons he _ _ ih1 ih2 => exact ⟨_, _, he, ih1, ih2⟩
theorem prule_is {c : PkC} (hc : c.Ok) {i p : Int} (hi : 0 ≤ i) (hi2 : i < c.rs.length) (hp : 0 ≤ p) (hl : p ≤ c.s.length) {t : List Evt} {M : Mem} {K : Value → Mem → Prop} (hP : PI c t M) (hK : ∀ M' t', Goes c.rs c.s c.E (.rule i p) t t' → PI c t' M' → K (outE (c.E p.toNat i.toNat) p).val M') : S_pack_Parser_Rule c.ptr i p M c.LV K := by
 by_cases hd : Evt.done i p ∈ t
 ·exact pack_walk hc (.seen hd) hi hi2 hp hl M K hP fun M' => hK M' t (.seen hd)
 ·obtain ⟨r, hr⟩ := getN (l := c.rs) (i := i.toNat) (by omega)
  obtain ⟨t', ht⟩ := goes_ex hc.hw hc.hT r.body p (hc.hw.peg (List.mem_of_getElem? hr)) hp hl (fstN c.rs i.toNat) t
  exact pack_walk hc (.rule hd hr ht) hi hi2 hp hl M K hP fun M' => hK M' _ (.rule hd hr ht)
end Go.Proofs.YtmnilbfhfjdelaaGreat.core

namespace Go.Proofs.YtmnilbfhfjdelaaGreat.core
open Go.Gx Go.RowKit Go.ChangeShapes Go.WideShapes Go.ChangeAt
set_option linter.unusedVariables false
theorem At.off {M : Mem} {b o r : Nat} {vs : List Value} (h : At M b o vs) (hr : ∀ j, M.cell r j = none) : At (but M r) b o vs := fun j v hj => by
 have h1 := h j v hj
 by_cases hb : b = r
 ·subst hb; rw [hr] at h1; cases h1
 ·unfold Mem.cell at h1 ⊢
  rw [but_ne hb]; exact h1
theorem SlV.off {M : Mem} {a : Option Addr} {l c size r : Nat} {xs : List Value} (h : SlV M a l c size xs) (hr : ∀ j, M.cell r j = none) : SlV (but M r) a l c size xs :=
 ⟨h.1, h.2.1, h.2.2.1, fun h0 => by obtain ⟨b, o, e, ha⟩ := h.2.2.2 h0; exact ⟨b, o, e, At.off ha hr⟩⟩
section
variable {rs : List Ru} {s : List UInt8} {E : Nat → Nat → Int} {b r : Nat} {ga ea : Option Addr} {gl gc ec eb : Nat}
end
end Go.Proofs.YtmnilbfhfjdelaaGreat.core

namespace Go.Proofs.YtmnilbfhfjdelaaGreat.core
open Go.Gx Go.RowKit Go.ChangeShapes Go.WideShapes Go.ChangeAt
set_option linter.unusedVariables false
theorem new_raw {rs : List Ru} {s : List UInt8} {ga : Option Addr} {gl gc : Nat} {M : Mem} {K : Value → Mem → Prop} (hg : GrR M rs ga gl gc) (h10 : rs.length ≤ 10) (h120 : (rs.map fun r => cnt r.body).sum ≤ 100000)
  (hK : ∀ (V M' : Mem) (pb r : Nat) (fa : Option Addr) (fc : Nat), M.le V → V pb = none → V r = none → pb ≠ r → (∀ i, i < rs.length → ∃ b o, fa = some ⟨b, o, none⟩ ∧ At V b (o + i * 1) [Value.int .i64 (fstN rs i : Nat)]) →
   M' pb = some (.cells (X_pack_Parser.mk ga rs.length gc s (some r) none 0 0 (-1) (X_api_Set.mk 0 0 0 0) Value.nilFunc fa rs.length fc).cells.toArray 120 (0, 0)) → MapF M' r (fun _ _ => none) → V.le M' → K (.pointer (some ⟨pb, 0, none⟩)) M') :
  S_pack_New ga gl gc s M (fun _ => False) K := by
 have hgl := hg.len
 subst hgl
 unfold S_pack_New
 intro M6 r hr hM6 _
 have hle6 : M.le M6 := by rw [hM6]; exact Mem.add_le hr
 refine ⟨Unit, fun _ n i rn rx M' => 0 ≤ i ∧ i ≤ rs.length ∧ n = (fstN rs i.toNat : Nat) ∧ rn = i.toNat ∧ rx = cl iC ((List.range i.toNat).map fun j => ((fstN rs j : Nat) : Int)) ∧ M6.le M', fun _ _ i _ _ => rs.length - i.toNat, (), ⟨by omega, by omega, by simp [fstN], rfl, rfl, Mem.le.refl _⟩, fun _ n i rn rx M' ⟨i0, i1, hn, hrn, hrx, hle⟩ => ⟨fun hlt => ?_, fun hge => ?_⟩⟩
 ·obtain ⟨rr, x, b, o, hrr, ha, hat, hrx2⟩ := hg.at i0 hlt
  have hsum := fstN_rule hrr
  refine ⟨b, o, ha, i0, hlt, x, hat.le (hle6.trans hle), by omega, (s_pack_count _ _ _ _ (count_is _ rr.body (Nat.lt_succ_self _) (by omega) _ _ _ (hrx2.2.2.le (hle6.trans hle)) fun M2 hle2 => ⟨_, rfl, ?_, ?_, (), ⟨by omega, by omega, ?_, by omega, ?_, hle.trans hle2⟩, ?_⟩)).mono (fun _ h => h.elim) (fun v M' _ h => h)⟩
  ·exact inI_small (by omega) (by omega)
  ·exact inI_small (by omega) (by omega)
  ·rw [show (i + 1).toNat = i.toNat + 1 by omega, fstN_succ hrr, hn]; push_cast; rfl
  ·rw [hrx, hn, show (i + 1).toNat = i.toNat + 1 by omega, List.range_succ, List.map_append]
   exact cl_snoc _ _
  ·show rs.length - (i + 1).toNat < rs.length - i.toNat
   omega
 ·intro M64 hn64 M67 ad cap hn67 pb M68 hpb hM68 M3 hle3
  have hi : i.toNat = rs.length := by omega
  rw [hrn, hi] at hn67
  rw [hrx, hi] at hn67
  have hle67 : M6.le M67 := hle.trans (hn64.le.trans hn67.le)
  have hr67 : M67 r = some (.map #[] 0) := hle67 _ _ (by rw [hM6]; exact Mem.add_eq)
  have hcell : ∀ j, M67.cell r j = none := fun j => by unfold Mem.cell; rw [hr67]
  have hsl := SlV.off hn67.slv hcell
  have hne : pb ≠ r := by rintro rfl; rw [hpb] at hr67; cases hr67
  have hleV : (but M67 r).le M68 := (but_le _ _).trans (by rw [hM68]; exact Mem.add_le hpb)
  refine hK (but M67 r) M3 pb r ad cap (le_but (hle6.trans hle67) hr) ?_ (but_eq _ _) hne (fun j hj => ?_) ?_ ?_ (hleV.trans hle3)
  ·rw [but_ne hne]; exact hpb
  ·exact hsl.at iC_len (by simp) (x := ((fstN rs j : Nat) : Int)) (by rw [List.getElem?_map, List.getElem?_range hj]; rfl)
  ·refine hle3 _ _ ?_
   rw [hM68, Mem.add_eq, hrn, hi]; rfl
  ·refine MapF.le ?_ hle3
   obtain ⟨es, clk, h1, h2⟩ := MapF.new M r
   rw [Mem.add_eq] at h1
   cases h1
   refine ⟨#[], 0, ?_, h2⟩
   rw [hM68, Mem.add_ne hne.symm]; exact hr67
theorem new_is {rs : List Ru} {s : List UInt8} {E : Nat → Nat → Int} {ga : Option Addr} {gl gc : Nat} {M : Mem} {K : Value → Mem → Prop} (hw : WellOk rs) (hT : Tab rs s E) (hs : s.length ≤ 60) (hg : GrR M rs ga gl gc)
  (hK : ∀ (c : PkC) (M' : Mem), c.Ok → c.rs = rs → c.s = s → c.E = E → M.le c.V → PI c [] M' → K (.pointer c.ptr) M') : S_pack_New ga gl gc s M (fun _ => False) K := by
 have h10 := hw.ok.ten
 have h120 : (rs.map fun r => cnt r.body).sum ≤ 120 := hw.ok.all
 have hgl := hg.len
 refine new_raw hg h10 (by omega) fun V M' pb r fa fc hle h1 h2 h3 h4 h5 h6 h7 => ?_
 refine hK ⟨V, rs, s, E, pb, r, ga, fa, gl, gc, fc, .nilFunc, fun _ => False, fun _ _ => True, 120⟩ M' ?_ rfl rfl rfl hle ?_
 ·exact ⟨hw, hT, hs, hg.le hle, h4, h1, h2, h3, fun h => h, fun h => h, fun _ h => h.elim, fun _ _ _ _ _ => trivial, fun _ _ _ _ h => h.elim, ⟨true, .inl ⟨rfl, rfl⟩, fun _ _ _ _ _ _ _ => trivial, fun h => (by cases h)⟩, fun _ _ _ _ _ => trivial, h120, by show 120 ≤ 100000; omega⟩
 ·refine ⟨-1, X_api_Set.mk 0 0 0 0, FW.init _ _ _, h7, ⟨none, 0, ?_, ⟨rfl, Nat.le_refl _, by decide, .inl ⟨rfl, rfl, rfl⟩⟩, fun g hg => by cases hg⟩, ⟨_, h6, fun i p v => ⟨fun h => (by cases h), fun h => (by cases h.1)⟩⟩, trivial, by simp [logOf], fun i p h => by cases h⟩
  rw [h5, hgl]; rfl
end Go.Proofs.YtmnilbfhfjdelaaGreat.core

namespace Go.Proofs.YtmnilbfhfjdelaaGreat.core
open Go.Gx Go.RowKit Go.ChangeShapes Go.WideShapes Go.ChangeAt
set_option linter.unusedVariables false
theorem tab_same {rs : List Ru} {s : List UInt8} {E E' : Nat → Nat → Int} (hw : WellOk rs) (hT : Tab rs s E) (hT' : Tab rs s E') {p i : Nat} (hp : p ≤ s.length) (hi : i < rs.length) : E p i = E' p i := by
 obtain ⟨r, hr⟩ := getN (l := rs) hi
 have hok := hw.peg (List.mem_of_getElem? hr)
 obtain ⟨m, x, hx⟩ := ev_ex hw hT r.body p hok (by omega) (by omega)
 rw [hT.fix p i r hp hr, hT'.fix p i r hp hr, ← ev_res hw hT m _ _ _ hok (by omega) (by omega) hx, ← ev_res hw hT' m _ _ _ hok (by omega) (by omega) hx]
theorem LV_new {c : PkC} {M : Mem} {L : Nat → Prop} (h : M.le c.V) : ∀ b, c.LV b → Wr L M b := fun b hb => .inr (by
 cases hv : M b with
 | none => rfl
 | some o => have := h b o hv; rw [show c.V b = none from hb] at this; cases this)
section
variable {rs : List Ru} {s : List UInt8} {ga : Option Addr} {gl gc : Nat} {M : Mem} {K : Value → Mem → Prop}
theorem prun_is (hg : GrR M rs ga gl gc)
  (h1 : lookP rs s ≠ 0 → ∀ M', M.le M' → K (.tuple #[(X_api_Outcome.mk false 0).val, .slice none 0 0, .int .i64 (lookP rs s)]) M')
  (h3 : lookP rs s = 0 → ∀ E, Tab rs s E → ∀ t, Goes rs s E (.rule 0 0) [] t → ∀ M' la lc, M.le M' → SlV M' la (logOf E t).length lc 4 (cl X_api_Step.cells (logOf E t)) → K (.tuple #[(outE (E 0 0) 0).val, .slice la (logOf E t).length lc, .int .i64 0]) M') :
  S_pack_Run ga gl gc s M (fun _ => False) K := by
 unfold S_pack_Run
 refine s_mean_Look _ _ _ _ _ _ (mlook_is hg s _ ⟨_, rfl, fun h => h1 h, fun h => ?_⟩)
 have h0 : lookP rs s = 0 := Decidable.not_not.1 h
 obtain ⟨hw, hs⟩ := look_ok h0
 have h11 := hw.ok.one
 obtain ⟨E, hT⟩ := tab_ex (s := s) hw
 refine (s_pack_New _ _ _ _ _ _ _ (new_is hw hT hs hg fun c M2 hc hcr hcs hcE hle hP => ⟨_, rfl, ?_⟩)).mono (fun _ h => h.elim) (fun v M' _ h => h)
 subst hcr hcs hcE
 refine (s_pack_Parser_Rule _ _ _ _ _ _ (prule_is hc (Int.le_refl 0) (by omega) (Int.le_refl 0) (by omega) hP fun M3 t' hgo hP3 => ⟨_, rfl, ?_⟩)).mono (LV_new hle) (fun v M' _ h => h)
 obtain ⟨far, want, hF, hB⟩ := id hP3
 obtain ⟨la, lc, hb, hrow, _⟩ := hB.bk
 exact ⟨c.pb, 0, rfl, la, (logOf c.E t').length, lc, (At.blk hb).part 3 [.slice la _ lc] rfl, fun M4 hle4 => h3 h0 c.E hT t' hgo M4 la lc (hle.trans (hP3.le.trans hle4)) (hrow.slv.le hle4)⟩
end
end Go.Proofs.YtmnilbfhfjdelaaGreat.core

namespace Go.Proofs.YtmnilbfhfjdelaaGreat.core
open Go.Gx Go.RowKit Go.ChangeShapes Go.WideShapes Go.ChangeAt
set_option linter.unusedVariables false
noncomputable def accP (rs : List Ru) (s : List UInt8) : Bool := @decide (∃ E, Tab rs s E ∧ E 0 0 = (s.length : Int)) (Classical.propDecidable _)
theorem acc_eq {rs : List Ru} {s : List UInt8} {E : Nat → Nat → Int} (hw : WellOk rs) (hT : Tab rs s E) : accP rs s = decide (E 0 0 = (s.length : Int)) := by
 have h11 := hw.ok.one
 unfold accP
 rw [decide_eq_decide]
 exact ⟨fun ⟨E', hT', h⟩ => by rw [tab_same hw hT hT' (p := 0) (i := 0) (by omega) h11]; exact h, fun h => ⟨E, hT, h⟩⟩
theorem laccepts_is {rs : List Ru} {s : List UInt8} {ga : Option Addr} {gl gc : Nat} {M : Mem} {K : Value → Prop} (hg : GrR M rs ga gl gc) (h1 : lookP rs s ≠ 0 → K (.tuple #[.bool false, .int .i64 (lookP rs s)])) (h2 : lookP rs s = 0 → K (.tuple #[.bool (accP rs s), .int .i64 0])) : S_list_Accepts ga gl gc s M K := by
 unfold S_list_Accepts
 refine e_pack_Run _ _ _ _ _ _ (prun_is hg (fun h M' _ => ⟨_, _, _, _, _, rfl, fun h' => absurd h' h, fun _ => h1 h⟩) fun h E hT t _ M' la lc _ _ => ⟨_, _, _, _, _, rfl, fun _ => ?_, fun hn => absurd rfl hn⟩)
 obtain ⟨hw, hs60⟩ := look_ok h
 have h2 := h2 h
 rw [acc_eq hw hT] at h2
 by_cases h0 : 0 ≤ E 0 0
 ·refine ⟨fun _ => ?_, fun hn => absurd (by unfold outE; rw [if_pos h0]) hn⟩
  have e1 : (outE (E 0 0) 0).N = E 0 0 := by unfold outE; rw [if_pos h0]; simp
  rw [e1]; exact h2
 ·refine ⟨fun hy => ?_, fun _ => ?_⟩
  ·unfold outE at hy; rw [if_neg h0] at hy; cases hy
  ·rw [decide_eq_false (by omega)] at h2; exact h2
theorem raccepts_is {rs : List Ru} {s : List UInt8} {ga : Option Addr} {gl gc : Nat} {M : Mem} {K : Value → Prop} (hw : WellOk rs) (hs60 : s.length ≤ 60) (hg : GrR M rs ga gl gc) (hK : K (.bool (accP rs s))) : S_chaffref_Accepts ga gl gc s M K := by
 have h11 := hw.ok.one
 unfold S_chaffref_Accepts
 refine e_chaffref_Fill _ _ _ _ _ _ (fill_is hw hs60 hg _ fun M7 b ea ec eb E hle hT hTab => ⟨_, rfl, b, 0, rfl, _, _, _, hTab.en, eb, 0, hTab.ea, by omega, by omega, ?_⟩)
 obtain ⟨ra, rc, hra, hrow⟩ := hTab.row 0 (by omega) (by omega)
 obtain ⟨b3, o3, hb3, hat3⟩ := hrow.at iC_len (rowE_len E rs.length 0) (rowE_get (i := 0) h11)
 refine ⟨ra, _, rc, hra, b3, o3, hb3, by omega, by omega, _, hat3, ?_⟩
 rw [acc_eq hw hT] at hK
 exact hK
end Go.Proofs.YtmnilbfhfjdelaaGreat.core

namespace Go.Proofs.YtmnilbfhfjdelaaGreat.core
open Go.Gx Go.RowKit Go.ChangeShapes Go.WideShapes Go.ChangeAt
set_option linter.unusedVariables false
noncomputable def listP (rs : List Ru) (a : List UInt8) (n : Int) : Int := if (wellP rs).2 ≠ 0 then (wellP rs).2 else if alphaP a ≠ 0 then alphaP a else if n < 0 ∨ 6 < n then 1 else if 5000 < geo a.length (n.toNat + 1) then 2 else 0
section
variable {rs : List Ru} {ga : Option Addr} {gl gc : Nat} {M : Mem}
theorem llook_is (hg : GrR M rs ga gl gc) (a : List UInt8) (n : Int) (K : Value → Prop) (hK : K (.int .i64 (listP rs a n))) : S_list_Look ga gl gc a n M K := by
 unfold S_list_Look
 unfold listP at hK
 refine s_well_Well _ _ _ _ _ (wwell_is hg _ ⟨_, _, rfl, fun h => ?_, fun h => ?_⟩)
 ·rw [if_pos h] at hK; exact hK
 rw [if_neg h] at hK
 refine s_walk_Many _ _ _ _ (wmany_is a n _ _ (fun h1 => ?_) (fun h1 h2 => ?_) fun h1 h2 h3 => ?_)
 ·rw [if_pos h1] at hK
  exact ⟨_, _, rfl, fun _ => hK, fun hn => absurd h1 hn⟩
 ·rw [if_neg (fun hn => hn h1), if_pos h2] at hK
  exact ⟨_, _, rfl, fun _ => hK, fun hn => absurd (by decide) hn⟩
 ·rw [if_neg (fun hn => hn h1), if_neg (by omega)] at hK
  refine ⟨_, _, rfl, fun hn => absurd rfl hn, fun _ => ⟨fun hgt => ?_, fun hle => ?_⟩⟩
  ·rw [if_pos (by omega)] at hK; exact hK
  ·rw [if_neg (by omega)] at hK; exact hK
theorem rlistable_is (hg : GrR M rs ga gl gc) (a : List UInt8) (n : Int) (K : Value → Prop) (hK : K (.int .i64 (listP rs a n))) : S_chaffref_Listable ga gl gc a n M K := by
 unfold S_chaffref_Listable
 unfold listP at hK
 refine s_chaffref_Well _ _ _ _ _ (rwell_is hg _ ⟨_, _, rfl, fun h => ?_, fun h => ?_⟩)
 ·rw [if_pos h] at hK; exact hK
 rw [if_neg h] at hK
 refine e_chaffref_Alpha _ _ _ (ralpha_is a _ _ _ fun M' hle => ⟨_, rfl, fun h1 => ?_, fun h1 => ?_⟩)
 ·rw [if_pos h1] at hK; exact hK
 rw [if_neg h1] at hK
 obtain ⟨_, h8, _⟩ := alpha_ok (Decidable.not_not.1 h1)
 have j1 : ∀ v : Bool, v = decide (n < 0 ∨ 6 < n) → S_chaffref_Listable_J1 a n M v K := by
  intro v hv
  unfold S_chaffref_Listable_J1
  refine ⟨fun ht => ?_, fun hf => ?_⟩
  ·rw [if_pos (of_decide_eq_true (hv ▸ ht))] at hK; exact hK
  ·have hn : ¬ (n < 0 ∨ 6 < n) := fun h => hf (by rw [hv, decide_eq_true h])
   rw [if_neg hn] at hK
   refine s_chaffref_Many _ _ _ _ (rmany_is h8 (by omega) (by omega) _ _ ⟨_, rfl, fun hgt => ?_, fun hle => ?_⟩)
   ·rw [if_pos (by omega)] at hK; exact hK
   ·rw [if_neg (by omega)] at hK; exact hK
 exact ⟨fun h => j1 _ (by symm; exact decide_eq_true (.inl h)), fun h => j1 _ (by rw [decide_eq_decide]; omega)⟩
end
end Go.Proofs.YtmnilbfhfjdelaaGreat.core

namespace Go.Proofs.YtmnilbfhfjdelaaGreat.core
open Go.Gx Go.RowKit Go.ChangeShapes Go.WideShapes Go.ChangeAt
set_option linter.unusedVariables false
open Go.Shelf Go.Proofs
attribute [local go_sem] Oper.semAt_some
structure KX (n₀ : Nat) (ex : List Nat) (A B : World) : Prop where
 os : B.os = A.os
 tape : B.tape = A.tape
 output : B.output = A.output
 size : A.heap.size ≤ B.heap.size
 block : ∀ k, k < n₀ → k ∉ ex → B.heap[k]? = A.heap[k]?
theorem KX.refl (n₀ : Nat) (ex : List Nat) (A : World) : KX n₀ ex A A := ⟨rfl, rfl, rfl, Nat.le_refl _, fun _ _ _ => rfl⟩
theorem KX.trans {n₀ : Nat} {ex : List Nat} {A B C : World} (h : KX n₀ ex A B) (k : KX n₀ ex B C) : KX n₀ ex A C :=
 ⟨k.os.trans h.os, k.tape.trans h.tape, k.output.trans h.output, Nat.le_trans h.size k.size, fun i hi hx => (k.block i hi hx).trans (h.block i hi hx)⟩
theorem KX.grown {n₀ : Nat} {ex : List Nat} {A B : World} {row : Option Nat} (hg : A.grownBy B row) (hn : n₀ ≤ A.heap.size) (hr : ∀ k, row = some k → k < n₀ → k ∈ ex) : KX n₀ ex A B :=
 ⟨hg.os, hg.tape, hg.output, hg.size, fun k hk hx => hg.block k (by omega) (fun e => hx (hr k e.symm hk))⟩
theorem KX.below {n₀ : Nat} {ex : List Nat} {A B : World} {m : Nat} (h : KX n₀ ex A B) (hm : m ≤ n₀) (hx : ∀ k ∈ ex, m ≤ k) : Below m A B :=
 ⟨h.os, h.tape, h.output, h.size, fun k hk => h.block k (by omega) (fun hk' => by have := hx k hk'; omega)⟩
theorem KX.of {n₀ : Nat} {ex : List Nat} {A B : World} (h : Below n₀ A B) : KX n₀ ex A B := ⟨h.os, h.tape, h.output, h.size, fun k hk _ => h.block k hk⟩
theorem grown_of {A B : World} (h : Below A.heap.size A B) : A.grownBy B none := ⟨h.os, h.tape, h.output, h.size, fun k hk _ => h.block k hk⟩
abbrev W6 := { x : List UInt8 // x.length ≤ 6 }
set_option maxRecDepth 100000 in
set_option maxHeartbeats 2000000 in
theorem texts1_in (l n₀ : Nat) (ex : List Nat) (a : List UInt8) (s0 : W6) (k : Nat) (T : List W6) (h1 : 1 ≤ a.length) (hal : alphaP a = 0) (hk6 : k ≤ 6) (hs0 : ∀ c ∈ s0.1, c ∈ a) (hs0k : s0.1.length ≤ k)
  (hTl : T.length = geo a.length (k + 1) - rankN a s0.1) (hT : ∀ (i : Nat) (s : W6), (∀ c ∈ s.1, c ∈ a) → s.1.length ≤ k → rankN a s.1 = rankN a s0.1 + i → T[i]? = some s)
  (Ba Bf Bn : Nat) (J Jx : List W6 → World → Prop) (hJ : ∀ s W W', J s W → W.grownBy W' none → J s W')
  (hY : ∀ m pre x W, J pre W → pre.length < T.length → YieldAt Fence.wide m Tryz.prog l #[.string (mkS x.1)] W fun e W' =>
   (e = .returned (.bool true) ∧ J (pre ++ [x]) W' ∧ KX n₀ ex W W') ∨ (e = .returned (.bool false) ∧ Jx (pre ++ [x]) W'))
  (n : Nat) (W : World) (hn : n₀ ≤ W.heap.size) (hBa : Boxed W Ba 9 (.string (mkS a))) (hBf : Boxed W Bf 9 (.string (mkS s0.1))) (hBn : Boxed W Bn 3 (.int .i64 k)) (hba : Ba < n₀ ∧ Ba ∉ ex) (hbn : Bn < n₀ ∧ Bn ∉ ex) (h0 : J [] W) :
  CallsIn Fence.wide n Tryz.prog 31 #[.func (.yield l) #[] #[], .pointer (some ⟨Bf, 0, none⟩), .pointer (some ⟨Bn, 0, none⟩), .pointer (some ⟨Ba, 0, none⟩)] W fun e W' => (∃ v, e = .returned v) ∧
   ((∃ xs, xs = T ∧ J xs W') ∨ (∃ q, (q = T.take q.length ∧ q.length ≤ T.length) ∧ Jx q W')) := by
 have hcf := hBf.cell
 refine callsIn_of_wp Tryz.func31 rfl trivial ?_ rfl
 simp only [Tryz.ntmps31, List.size_toArray, List.length_cons, List.length_nil, Nat.reduceAdd, Nat.reduceSub, Array.replicate_succ, Array.replicate_zero, List.push_toArray, List.append_toArray, List.nil_append, List.cons_append]
 gi_wp2
 gi_loopw [5] (fun t wr => ∃ (pre : List W6) (s : W6), t = .string (mkS s.1) ∧ (∀ c ∈ s.1, c ∈ a) ∧ pre = T.take pre.length ∧ pre.length ≤ T.length ∧ rankN a s.1 = rankN a s0.1 + pre.length ∧ J pre wr ∧ KX n₀ ex W wr)
  (fun t _ => match t with | .string b => geo a.length 8 - rankN a b.toList | _ => 0)
 case atStart => exact ⟨[], s0, rfl, hs0, rfl, by simp, by simp, h0, KX.refl _ _ _⟩
 case round =>
  obtain ⟨pre, s, rfl, hin, hpre, hpl, hrk, hj, hkx⟩ := hrel
  have hbn' : Boxed wr Bn 3 (.int .i64 k) := (hkx.block Bn hbn.1 hbn.2).trans hBn
  have hba' : Boxed wr Ba 9 (.string (mkS a)) := (hkx.block Ba hba.1 hba.2).trans hBa
  have hcn := hbn'.cell
  have hsz : ((mkS s.1).size : Int) = s.1.length := rfl
  by_cases hlt : s.1.length ≤ k
  ·have hT1 := hT pre.length s hin hlt hrk
   have hlt2 : pre.length < T.length := (List.getElem?_eq_some_iff.1 hT1).1
   obtain ⟨fn, tmps, assign, body, hy, hRd⟩ := hY (n - 1) pre s wr hj hlt2
   have hb : ((mkS s.1).size : Int) ≤ (k : Int) := by rw [hsz]; omega
   gi_wp2
   refine ⟨fun h => (by cases h), hRd.mono ?_⟩
   have hov := over_of hal s.2 hin
   have hnx := e_walk_Next a s.1 (fun _ => none) (fun v _ => (rankN a s.1 + 1 = geo a.length 7 ∧ v = .tuple #[.string (mkS []), .int .i64 12]) ∨ ∃ t : W6, (∀ c ∈ t.1, c ∈ a) ∧ rankN a t.1 = rankN a s.1 + 1 ∧ v = .tuple #[.string (mkS t.1), .int .i64 0])
    (wnext_is _ _ (fun h => absurd hov h) (fun _ h M' _ => .inl ⟨h, rfl⟩) fun _ t h6 ht hr M' _ => .inr ⟨⟨t, h6⟩, ht, hr, rfl⟩)
   have hpre1 : pre ++ [s] = T.take (pre.length + 1) := by rw [List.take_add_one, hT1, ← hpre]; rfl
   have hlen1 : (pre ++ [s]).length = pre.length + 1 := by simp
   rintro e W1 (⟨rfl, hj1, hkx1⟩ | ⟨rfl, hx1⟩)
   ·have hba1 : Boxed W1 Ba 9 (.string (mkS a)) := (hkx1.block Ba hba.1 hba.2).trans hba'
    have hca := hba1.cell
    have hnx1 := hnx W1 (fun b o h => by cases h)
    clear hnx
    gi_wp2
    refine ⟨trivial, fun h => (by cases h), (callsIn_wide.2 hnx1).mono ?_⟩
    rintro e W2 ⟨v, rfl, hbel, (⟨hr, rfl⟩ | ⟨t, ht, hr, rfl⟩)⟩
    ·have e : pre ++ [s] = T := by
      have hlt3 := (rank_le (n := k) h1 hin).1 hlt
      have hg : geo a.length (k + 1) ≤ geo a.length 7 := by
       rcases Nat.lt_or_ge k 6 with h | h
       ·exact Nat.le_of_lt (geo_lt h1 (by omega))
       ·rw [show k = 6 by omega]; exact Nat.le_refl _
      rw [hpre1, List.take_of_length_le (by omega)]
     have hj2 := hJ _ _ _ hj1 (grown_of hbel)
     rw [e] at hj2
     gi_wp2
     refine bodyPost_ret (results_none rfl _ _ _) rfl ?_
     exact ⟨⟨_, rfl⟩, .inl ⟨_, rfl, hj2⟩⟩
    ·have hms : geo a.length 8 - rankN a (mkS t.1).toList < geo a.length 8 - rankN a (mkS s.1).toList := by
      have hr1 : rankN a s.1 < geo a.length 8 := (rank_le (n := 7) h1 hin).1 (Nat.le_trans s.2 (by omega))
      rw [mkS_toList, mkS_toList]; omega
     have hj2 := hJ _ _ _ hj1 (grown_of hbel)
     have hkx2 := hkx.trans (hkx1.trans (KX.of (hbel.mono (Nat.le_trans hn (Nat.le_trans hkx.size hkx1.size)))))
     gi_wp2
     exact ⟨⟨_, t, rfl, ht, by rw [hlen1]; exact hpre1, by rw [hlen1]; exact hlt2, by rw [hlen1]; omega, hj2, hkx2⟩, hms⟩
   ·gi_wp2
    refine bodyPost_ret (results_none rfl _ _ _) rfl ?_
    exact ⟨⟨_, rfl⟩, .inr ⟨_, ⟨by rw [hlen1]; exact hpre1, by rw [hlen1]; exact hlt2⟩, hx1⟩⟩
  ·have hb : ¬ ((mkS s.1).size : Int) ≤ (k : Int) := by rw [hsz]; omega
   have e : pre = T := by
    have hx : ¬ rankN a s.1 < geo a.length (k + 1) := fun h => hlt ((rank_le h1 hin).2 h)
    rw [hpre, List.take_of_length_le (by omega)]
   gi_wp2
   go_end0
   exact ⟨⟨_, rfl⟩, .inl (e ▸ hj)⟩
set_option maxHeartbeats 1000000 in
theorem texts_mk (n : Nat) (a s : List UInt8) (k : Int) (w : World) :
  CallsIn Fence.wide n Tryz.prog 18 #[.string (mkS a), .string (mkS s), .int .i64 k] w fun e w' => e = .returned (.func (.func 31) #[] #[.pointer (some ⟨w.heap.size + 1, 0, none⟩), .pointer (some ⟨w.heap.size + 1 + 1, 0, none⟩), .pointer (some ⟨w.heap.size, 0, none⟩)]) ∧
   w' = ((w.alloc (.cells #[.string (mkS a)] 9)).alloc (.cells #[.string (mkS s)] 9)).alloc (.cells #[.int .i64 k] 3) := by
 refine callsIn_of_wp Tryz.func18 rfl trivial ?_ rfl
 simp only [Tryz.ntmps18, List.size_toArray, List.length_cons, List.length_nil, Nat.reduceAdd, Nat.reduceSub, Array.replicate_succ, Array.replicate_zero, List.push_toArray, List.append_toArray, List.nil_append, List.cons_append]
 gi_wp2
 go_ret
 exact ⟨rfl, rfl⟩
theorem texts_stops (n : Nat) (n₀ : Nat) (ex : List Nat) (a : List UInt8) (s0 : W6) (k : Nat) (T : List W6) (h1 : 1 ≤ a.length) (hal : alphaP a = 0) (hk6 : k ≤ 6) (hs0 : ∀ c ∈ s0.1, c ∈ a) (hs0k : s0.1.length ≤ k)
  (hTl : T.length = geo a.length (k + 1) - rankN a s0.1) (hT : ∀ (i : Nat) (s : W6), (∀ c ∈ s.1, c ∈ a) → s.1.length ≤ k → rankN a s.1 = rankN a s0.1 + i → T[i]? = some s)
  (Ba Bf Bn : Nat) (w : World) (hn : n₀ ≤ w.heap.size) (hBa : Boxed w Ba 9 (.string (mkS a))) (hBf : Boxed w Bf 9 (.string (mkS s0.1))) (hBn : Boxed w Bn 3 (.int .i64 k)) (hba : Ba < n₀ ∧ Ba ∉ ex) (hbn : Bn < n₀ ∧ Bn ∉ ex) :
  SeqStopsK Fence.wide n Tryz.prog 31 #[.pointer (some ⟨Bf, 0, none⟩), .pointer (some ⟨Bn, 0, none⟩), .pointer (some ⟨Ba, 0, none⟩)] (fun x : W6 => #[.string (mkS x.1)]) (KX n₀ ex) (fun xs => xs = T) (fun q => q = T.take q.length ∧ q.length ≤ T.length) T.length w := fun l J Jx W hW hJ _ hY h0 =>
 texts1_in l n₀ ex a s0 k T h1 hal hk6 hs0 hs0k hTl hT Ba Bf Bn J Jx (fun s A B hs hg => hJ s A B none hs hg (fun r e => by cases e)) (fun m pre x W1 hj hl => YieldAt.deep m (hY pre x W1 hj hl)) n W (Nat.le_trans hn hW.size)
  ((hW.block Ba hBa.lt).trans hBa) ((hW.block Bf hBf.lt).trans hBf) ((hW.block Bn hBn.lt).trans hBn) hba hbn h0
end Go.Proofs.YtmnilbfhfjdelaaGreat.core

namespace Go.Proofs.YtmnilbfhfjdelaaGreat.core
open Go.Gx Go.RowKit Go.ChangeShapes Go.WideShapes Go.ChangeAt
set_option linter.unusedVariables false
open Go.Shelf Go.Proofs
attribute [local go_sem] Oper.semAt_some
def sv6 (x : W6) : Value := .string (mkS x.1)
theorem listP_ok {rs : List Ru} {a : List UInt8} {n : Int} (h : listP rs a n = 0) : WellOk rs ∧ alphaP a = 0 ∧ 0 ≤ n ∧ n ≤ 6 ∧ geo a.length (n.toNat + 1) ≤ 5000 := by
 unfold listP at h
 split at h
 ·rename_i h1; exact absurd h h1
 rename_i h1
 split at h
 ·rename_i h2; exact absurd h h2
 rename_i h2
 split at h
 ·omega
 split at h
 ·omega
 exact ⟨(look_ok (s := []) (by unfold lookP; rw [if_neg h1]; rfl)).1, Decidable.not_not.1 h2, by omega, by omega, by omega⟩
theorem look_ok' {rs : List Ru} {a : List UInt8} {n : Int} (h : listP rs a n = 0) : (wellP rs).2 = 0 := by
 unfold listP at h
 split at h
 ·rename_i h1; exact absurd h h1
 ·rename_i h1; exact Decidable.not_not.1 h1
theorem six_ex (l : List (List UInt8)) (h : ∀ x ∈ l, x.length ≤ 6) : ∃ T : List W6, T.map (·.1) = l := ⟨l.pmap Subtype.mk h, by rw [List.map_pmap]; simp⟩
theorem six (w : World) (o0 o1 o2 o3 o4 o5 : Obj) : ∃ W, ((((((w.alloc o0).alloc o1).alloc o2).alloc o3).alloc o4).alloc o5) = W ∧ W.heap[w.heap.size]? = some o0 ∧ W.heap[w.heap.size + 1]? = some o1 ∧ W.heap[w.heap.size + 1 + 1]? = some o2 ∧
  W.heap[w.heap.size + 1 + 1 + 1]? = some o3 ∧ W.heap[w.heap.size + 1 + 1 + 1 + 1]? = some o4 ∧ W.heap[w.heap.size + 1 + 1 + 1 + 1 + 1]? = some o5 ∧ Below w.heap.size w W ∧ W.heap.size = w.heap.size + 6 := by
 refine ⟨_, rfl, ?_, ?_, ?_, ?_, ?_, ?_, ?_, by simp⟩
 all_goals first
  | (refine ((((((Below.refl _ w).alloc ?_ _).alloc ?_ _).alloc ?_ _).alloc ?_ _).alloc ?_ _).alloc ?_ _ <;> simp <;> omega)
  | (simp only [World.alloc, Array.getElem?_push, Array.size_push]; repeat (first | rw [if_pos trivial] | rw [if_pos (by omega)] | rw [if_neg (by omega)]))
theorem set1 {W : World} {b : Nat} {cs : Array Value} {t : TypeId} {f : Nat × Nat} (h : W.heap[b]? = some (.cells cs t f)) (i : Nat) (v : Value) : (W.setCell ⟨b, i, none⟩ v).heap[b]? = some (.cells (cs.setIfInBounds i v) t f) := by
 simp only [World.setCell, Array.getElem?_modify, if_pos, h]; rfl
theorem set2 {W : World} {b b' : Nat} (hb : b ≠ b') (i : Nat) (v : Value) : (W.setCell ⟨b', i, none⟩ v).heap[b]? = W.heap[b]? := Below.heap_setCell _ _ _ _ hb
theorem tail3 {P : Program} {fn : Func} {p1 p2 p3 : Tmp} {y1 y2 y3 : TypeId} (hr : fn.results = #[.cell p1 y1, .cell p2 y2, .cell p3 y3]) {tmps : Array Value} {W : World} {b1 b2 b3 : Nat} {vs1 vs2 vs3 : List Value} {t1 t2 t3 : TypeId} (g1 g2 g3 : Bool)
  (e1 : tmps.getD p1 undef = .pointer (some ⟨b1, 0, none⟩)) (e2 : tmps.getD p2 undef = .pointer (some ⟨b2, 0, none⟩)) (e3 : tmps.getD p3 undef = .pointer (some ⟨b3, 0, none⟩))
  (h1 : W.heap[b1]? = some (.cells vs1.toArray t1 (0, 0))) (h2 : W.heap[b2]? = some (.cells vs2.toArray t2 (0, 0))) (h3 : W.heap[b3]? = some (.cells vs3.toArray t3 (0, 0)))
  (k1 : tyOk P y1 g1 vs1.length = true) (k2 : tyOk P y2 g2 vs2.length = true) (k3 : tyOk P y3 g3 vs3.length = true) :
  (results fn tmps).run P W = .ok (.tuple #[ofCells g1 vs1, ofCells g2 vs2, ofCells g3 vs3]) W := by
 have ld : ∀ {y : TypeId} {b : Nat} {vs : List Value} {t : TypeId} {g : Bool}, W.heap[b]? = some (.cells vs.toArray t (0, 0)) → tyOk P y g vs.length = true → (loadVar y ⟨b, 0, none⟩).run P W = .ok (ofCells g vs) W := fun {y b vs t g} h k => by
  obtain ⟨q1, q2, q3, q4⟩ := tyOk_spec k
  exact run_load_at (P := P) q1 q2 q3 q4 fun j v hj => by simp [World.cell?, h, hj]
 have l1 := ld h1 k1
 have l2 := ld h2 k2
 have l3 := ld h3 k3
 simp only [results, hr]
 simp [-Array.getD_eq_getD_getElem?, e1, e2, e3, asAddr, l1, l2, l3]
theorem Boxed.below {W W' : World} {B : Nat} {t : TypeId} {v : Value} (h : Boxed W B t v) (hb : Below W.heap.size W W') : Boxed W' B t v := (hb.block B h.lt).trans h
theorem KX.set {n₀ : Nat} {ex : List Nat} {W : World} {B i : Nat} (hn : n₀ ≤ W.heap.size) (hB : B ∈ ex) (v : Value) : KX n₀ ex W (W.setCell ⟨B, i, none⟩ v) :=
 ⟨rfl, rfl, rfl, by simp [World.setCell], fun k _ hk => Below.heap_setCell _ _ _ _ (fun e => hk (by rw [e]; exact hB))⟩
theorem below_put {B D : Nat} {w W : World} (h : Below B w W) (hD : B ≤ D) {o o' : Obj} (hl : W.heap[D]? = some o) (hB : B ≤ W.heap.size) : Below B w (W.putObj D o') :=
 h.grown (grownBy_putObj' W D o') hB (fun k e => by cases e; exact hD)
theorem Hid.mk3 {p q : Prop} (h : p) (k : q) : Hid (p ∧ q) := ⟨h, k⟩
end Go.Proofs.YtmnilbfhfjdelaaGreat.core

namespace Go.Proofs.YtmnilbfhfjdelaaGreat.core
open Go.Gx Go.RowKit Go.ChangeShapes Go.WideShapes Go.ChangeAt
set_option linter.unusedVariables false
def sC (s : List UInt8) : List Value := [.string (mkS s)]
theorem sC_len (s : List UInt8) : (sC s).length = 1 := rfl
theorem strV_cl (l : List (List UInt8)) : strV l = cl sC l := by
 unfold strV cl sC
 induction l with
 | nil => rfl
 | cons x l ih => simp only [List.map_cons, List.flatten_cons]; rw [← ih]; rfl
theorem strV_app (x y : List (List UInt8)) : strV (x ++ y) = strV x ++ strV y := by unfold strV; rw [List.map_append]
theorem strV_one (l : List (List UInt8)) : ∀ u ∈ strV l, u.oneCell' = true := by
 intro u hu
 unfold strV at hu
 obtain ⟨s, _, rfl⟩ := List.mem_map.1 hu
 rfl
theorem str_Cs {l : List (List UInt8)} {i : Nat} {s : List UInt8} (h : l[i]? = some s) : Cs (strV l) (0 + i * 1) [.string (mkS s)] := by
 rw [strV_cl]; exact cl_Cs sC_len h
section
variable {rs : List Ru} {ga : Option Addr} {gl gc : Nat} {M : Mem}
theorem slice1 {a : List UInt8} {i : Nat} (h : i < a.length) : (a.take (i + 1)).drop i = [by8 a i] := by
 rw [List.take_add_one, at8_get h, List.drop_append_of_le_length (by rw [List.length_take]; omega), List.drop_of_length_le (by rw [List.length_take]; omega)]; rfl
theorem grow1_take {a : List UInt8} {l : List (List UInt8)} {j : Nat} {s : List UInt8} (h : l[j]? = some s) : grow1 a (l.take (j + 1)) = grow1 a (l.take j) ++ a.map fun c => s ++ [c] := by
 unfold grow1
 rw [List.take_add_one, h, List.flatMap_append]; simp
theorem grow1_le (a : List UInt8) (l : List (List UInt8)) (j : Nat) : (grow1 a (l.take j)).length ≤ l.length * a.length := by
 rw [grow1_len, List.length_take]
 exact Nat.mul_le_mul_right _ (Nat.min_le_right _ _)
theorem lev_size {a : List UInt8} : ∀ (k : Nat) (s : List UInt8), s ∈ lev a k → s.length = k
 | 0, s, h => by rw [lev, List.mem_singleton] at h; rw [h]; rfl
 | k + 1, s, h => by
  rw [lev] at h
  unfold grow1 at h
  obtain ⟨u, hu, hs⟩ := List.mem_flatMap.1 h
  obtain ⟨c, _, rfl⟩ := List.mem_map.1 hs
  rw [List.length_append, lev_size k u hu]; rfl
theorem rwords_is {a : List UInt8} (h8 : a.length ≤ 8) {k : Nat} (h6 : k ≤ 6) (K : Value → Mem → Prop) (hK : ∀ (M' : Mem) (A : Option Addr) (cap : Nat), M.le M' → SlV M' A (wordsN a k).length cap 1 (strV (wordsN a k)) → K (.slice A (wordsN a k).length cap) M') : S_chaffref_Words a k M K := by
 unfold S_chaffref_Words
 refine ⟨fun x rl ll ro oo => 0 ≤ x ∧ x ≤ k ∧ rl = (lev a x.toNat).length ∧ ll = strV (lev a x.toNat) ∧ ro = (wordsN a x.toNat).length ∧ oo = strV (wordsN a x.toNat), fun x _ _ _ _ => k - x.toNat, ⟨by omega, by omega, rfl, rfl, rfl, rfl⟩, fun x rl ll ro oo ⟨x0, xk, hrl, hll, hro, hoo⟩ => ⟨fun hlt => ?_, fun hge M2 A cap hle hsl M3 hle3 => ?_⟩⟩
 ·have hpl : (lev a x.toNat).length ≤ 2097152 := by rw [lev_len]; exact pow8 h8 (by omega)
  have hpl1 : (lev a x.toNat).length * a.length ≤ 2097152 := by rw [lev_len, ← Nat.pow_succ]; exact pow8 h8 (by omega)
  have hwl : (wordsN a x.toNat).length ≤ 14680064 := by
   rw [words_len]
   have := geo8 h8 (x.toNat + 1) (by omega)
   have : (x.toNat + 1) * 2097152 ≤ 7 * 2097152 := Nat.mul_le_mul_right _ (by omega)
   omega
  subst hrl hll hro hoo
  have e1 : (x + 1).toNat = x.toNat + 1 := by omega
  refine ⟨fun j rn rx => 0 ≤ j ∧ j ≤ (lev a x.toNat).length ∧ rn = (grow1 a ((lev a x.toNat).take j.toNat)).length ∧ rx = strV (grow1 a ((lev a x.toNat).take j.toNat)), fun j _ _ => (lev a x.toNat).length - j.toNat, ⟨by omega, by omega, rfl, rfl⟩, fun j rn rx ⟨j0, jl, hrn, hrx⟩ => ⟨fun hjl => ?_, fun hjg => ?_⟩⟩
  ·obtain ⟨s, hs⟩ := getI (l := lev a x.toNat) j0 hjl
   refine ⟨j0, hjl, s, str_Cs hs, fun i rn rx => 0 ≤ i ∧ i ≤ a.length ∧ rn = (grow1 a ((lev a x.toNat).take j.toNat) ++ (a.take i.toNat).map fun c => s ++ [c]).length ∧ rx = strV (grow1 a ((lev a x.toNat).take j.toNat) ++ (a.take i.toNat).map fun c => s ++ [c]), fun i _ _ => a.length - i.toNat, ⟨by omega, by omega, ?_, ?_⟩, fun i rn2 rx2 ⟨i0, il, hrn2, hrx2⟩ => ⟨fun hil => ?_, fun hig => ?_⟩⟩
   ·rw [hrn]; simp
   ·rw [hrx]; simp
   ·have hi : i.toNat < a.length := by omega
    have e2 : (i + 1).toNat = i.toNat + 1 := by omega
    have hsl : s.length ≤ 6 := by rw [lev_size _ s (List.mem_of_getElem? hs)]; omega
    have hgl := grow1_le a (lev a x.toNat) j.toNat
    have hrl2 : rn2 ≤ 2097152 + 8 := by
     rw [hrn2, List.length_append, List.length_map, List.length_take]; omega
    rw [e2, slice1 hi]
    refine ⟨inI_big (by omega) (by omega), i0, by omega, by omega, by simp; omega, by omega, inI_big (by omega) (by omega), ⟨by omega, by omega, ?_, ?_⟩, by show a.length - (i + 1).toNat < a.length - i.toNat; omega⟩
    ·rw [hrn2, e2, List.take_add_one, at8_get hi]; simp; omega
    ·rw [hrx2, strV_snoc, e2, List.take_add_one, at8_get hi]; simp
   ·have e3 : i.toNat = a.length := by omega
    have e2 : (j + 1).toNat = j.toNat + 1 := by omega
    rw [e3, List.take_length, ← grow1_take hs, ← e2] at hrn2 hrx2
    exact ⟨inI_big (by omega) (by omega), ⟨by omega, by omega, hrn2, hrx2⟩, by show (lev a x.toNat).length - (j + 1).toNat < (lev a x.toNat).length - j.toNat; omega⟩
  ·have e2 : j.toNat = (lev a x.toNat).length := by omega
   rw [e2, List.take_length] at hrn hrx
   subst hrn hrx
   have hgl := grow1_len a (lev a x.toNat)
   refine ⟨strV_one _, by omega, inI_big (by omega) (by omega), ⟨by omega, by omega, ?_, ?_, ?_, ?_⟩, by show k - (x + 1).toNat < k - x.toNat; omega⟩
   ·rw [e1]; rfl
   ·rw [e1]; rfl
   ·rw [e1, wordsN, List.length_append]; rfl
   ·rw [e1, wordsN, strV_app]; rfl
 ·have e : x.toNat = k := by omega
  rw [e] at hro hoo
  subst hro hoo
  exact hK M3 A cap (hle.trans hle3) (hsl.le hle3)
end
end Go.Proofs.YtmnilbfhfjdelaaGreat.core

namespace Go.Proofs.YtmnilbfhfjdelaaGreat.core
open Go.Gx Go.RowKit Go.ChangeShapes Go.WideShapes Go.ChangeAt
set_option linter.unusedVariables false
open Go.Shelf Go.Proofs
attribute [local go_sem] Oper.semAt_some
noncomputable def difL (rs ss : List Ru) (t : List UInt8) : Bool := accP rs t != accP ss t
noncomputable def leastO (rs ss : List Ru) (l : List (List UInt8)) : List UInt8 × Int × Int := match l.find? (difL rs ss) with
 | none => ([], 0, 12)
 | some t => (t, if accP rs t = true then 1 else 2, 0)
theorem least_done {rs ss : List Ru} {T : List W6} (h : ∀ t ∈ T, difL rs ss t.1 = false) : leastO rs ss (T.map (·.1)) = ([], 0, 12) := by
 unfold leastO
 rw [List.find?_eq_none.2 (fun t ht => by
  obtain ⟨u, hu, rfl⟩ := List.mem_map.1 ht
  rw [h u hu]; decide)]
theorem least_stop {rs ss : List Ru} {T pre : List W6} {x : W6} (h : pre ++ [x] = T.take (pre ++ [x]).length) (hp : ∀ t ∈ pre, difL rs ss t.1 = false) (hx : difL rs ss x.1 = true) : leastO rs ss (T.map (·.1)) = (x.1, if accP rs x.1 = true then 1 else 2, 0) := by
 unfold leastO
 have e : T.map (·.1) = (pre ++ [x]).map (·.1) ++ (T.drop (pre ++ [x]).length).map (·.1) := by
  rw [← List.map_append]
  congr 1
  conv => lhs; rw [← List.take_append_drop (pre ++ [x]).length T]
  rw [← h]
 rw [e, List.map_append, List.append_assoc, List.find?_append, List.find?_eq_none.2 (fun t ht => by
  obtain ⟨u, hu, rfl⟩ := List.mem_map.1 ht
  rw [hp u hu]; decide), Option.none_or]
 rw [List.map_cons, List.map_nil, List.singleton_append, List.find?_cons_of_pos hx]
theorem three (w : World) (o0 o1 o2 : Obj) : ∃ W, (((w.alloc o0).alloc o1).alloc o2) = W ∧ W.heap[w.heap.size]? = some o0 ∧ W.heap[w.heap.size + 1]? = some o1 ∧ W.heap[w.heap.size + 1 + 1]? = some o2 ∧ Below w.heap.size w W ∧ W.heap.size = w.heap.size + 3 := by
 refine ⟨_, rfl, ?_, ?_, ?_, ?_, by simp⟩
 all_goals first
  | (refine (((Below.refl _ w).alloc ?_ _).alloc ?_ _).alloc ?_ _ <;> simp <;> omega)
  | (simp only [World.alloc, Array.getElem?_push, Array.size_push]; repeat (first | rw [if_pos trivial] | rw [if_pos (by omega)] | rw [if_neg (by omega)]))
structure Fiv (h : Nat) (g g' s i e : Value) (W : World) : Prop where
 r0 : W.heap[h]? = some (.cells #[g] 24 (0, 0))
 r1 : W.heap[h + 1]? = some (.cells #[g'] 24 (0, 0))
 r2 : W.heap[h + 1 + 1]? = some (.cells #[s] 9 (0, 0))
 r3 : W.heap[h + 1 + 1 + 1]? = some (.cells #[i] 3 (0, 0))
 r4 : W.heap[h + 1 + 1 + 1 + 1]? = some (.cells #[e] 25 (0, 0))
theorem Fiv.on {h n₀ : Nat} {g g' s i e : Value} {W W' : World} (q : Fiv h g g' s i e W) (hb : Below n₀ W W') (hn : h + 5 ≤ n₀) : Fiv h g g' s i e W' := by
 have l : ∀ {k o}, k < h + 5 → W.heap[k]? = some o → W'.heap[k]? = some o := fun {k o} h1 hk => (hb.block k (by omega)).trans hk
 exact ⟨l (by omega) q.r0, l (by omega) q.r1, l (by omega) q.r2, l (by omega) q.r3, l (by omega) q.r4⟩
theorem Fiv.cells {h : Nat} {g g' s i e : Value} {W : World} (q : Fiv h g g' s i e W) :
  W.cell? ⟨h, 0, none⟩ = some g ∧ W.cell? ⟨h + 1, 0, none⟩ = some g' ∧ W.cell? ⟨h + 1 + 1, 0, none⟩ = some s ∧ W.cell? ⟨h + 1 + 1 + 1, 0, none⟩ = some i ∧ W.cell? ⟨h + 1 + 1 + 1 + 1, 0, none⟩ = some e ∧
  W.frozen? ⟨h + 1 + 1, 0, none⟩ = false ∧ W.frozen? ⟨h + 1 + 1 + 1, 0, none⟩ = false ∧ W.frozen? ⟨h + 1 + 1 + 1 + 1, 0, none⟩ = false := by
 obtain ⟨r0, r1, r2, r3, r4⟩ := q
 refine ⟨?_, ?_, ?_, ?_, ?_, ?_, ?_, ?_⟩ <;> simp [World.cell?, World.frozen?, r0, r1, r2, r3, r4]
theorem Fiv.stored {h : Nat} {g g' s i e : Value} {W : World} (q : Fiv h g g' s i e W) (v1 v2 v3 : Value) : ∃ W', (((W.setCell ⟨h + 1 + 1, 0, none⟩ v1).setCell ⟨h + 1 + 1 + 1, 0, none⟩ v2).setCell ⟨h + 1 + 1 + 1 + 1, 0, none⟩ v3) = W' ∧
  W'.heap[h + 1 + 1]? = some (.cells [v1].toArray 9 (0, 0)) ∧ W'.heap[h + 1 + 1 + 1]? = some (.cells [v2].toArray 3 (0, 0)) ∧ W'.heap[h + 1 + 1 + 1 + 1]? = some (.cells [v3].toArray 25 (0, 0)) ∧ Below h W W' := by
 refine ⟨_, rfl, ?_, ?_, ?_, ?_⟩
 ·rw [set2 (by omega), set2 (by omega)]; exact set1 q.r2 0 v1
 ·rw [set2 (by omega)]; exact set1 ((set2 (by omega) 0 v1).trans q.r3) 0 v2
 ·exact set1 ((set2 (by omega) 0 v2).trans ((set2 (by omega) 0 v1).trans q.r4)) 0 v3
 ·exact (((Below.refl h W).setCell (p := ⟨h + 1 + 1, 0, none⟩) (by show h ≤ h + 1 + 1; omega) _).setCell (p := ⟨h + 1 + 1 + 1, 0, none⟩) (by show h ≤ h + 1 + 1 + 1; omega) _).setCell (p := ⟨h + 1 + 1 + 1 + 1, 0, none⟩) (by show h ≤ h + 1 + 1 + 1 + 1; omega) _
theorem Fiv.fin {h : Nat} {g g' s i e : Value} {W : World} (q : Fiv h g g' s i e W) (v1 v2 v3 : Value) {R : Ending → World → Prop} {tmps : Array Value}
  (e1 : tmps.getD 8 undef = .pointer (some ⟨h + 1 + 1, 0, none⟩)) (e2 : tmps.getD 9 undef = .pointer (some ⟨h + 1 + 1 + 1, 0, none⟩)) (e3 : tmps.getD 10 undef = .pointer (some ⟨h + 1 + 1 + 1 + 1, 0, none⟩))
  (hR : ∀ W2, Below h W W2 → R (.returned (.tuple #[v1, v2, v3])) W2) :
  bodyPostM Fence.wide 3 Tryz.prog Tryz.f6 R .ret { tmps := tmps, defers := [] } (((W.setCell ⟨h + 1 + 1, 0, none⟩ v1).setCell ⟨h + 1 + 1 + 1, 0, none⟩ v2).setCell ⟨h + 1 + 1 + 1 + 1, 0, none⟩ v3) := by
 obtain ⟨W2, hW2, s1, s2, s3, hB2⟩ := q.stored v1 v2 v3
 rw [hW2]
 exact ⟨_, tail3 rfl false false false e1 e2 e3 s1 s2 s3 (by kernel_rfl) (by kernel_rfl) (by kernel_rfl), hR W2 hB2⟩
theorem leastD {h D : Nat} {W : World} {v1 v2 v3 : Value} {R : Ending → World → Prop} {tmps : Array Value}
  (e1 : tmps.getD 8 undef = .pointer (some ⟨h + 1 + 1, 0, none⟩)) (e2 : tmps.getD 9 undef = .pointer (some ⟨h + 1 + 1 + 1, 0, none⟩)) (e3 : tmps.getD 10 undef = .pointer (some ⟨h + 1 + 1 + 1 + 1, 0, none⟩))
  (s1 : W.heap[h + 1 + 1]? = some (.cells [v1].toArray 9 (0, 0))) (s2 : W.heap[h + 1 + 1 + 1]? = some (.cells [v2].toArray 3 (0, 0))) (s3 : W.heap[h + 1 + 1 + 1 + 1]? = some (.cells [v3].toArray 25 (0, 0)))
  (hD : h + 5 ≤ D) (hK : W.heap[D]? = some (.deferred (some []))) (hR : R (.returned (.tuple #[v1, v2, v3])) (W.putObj D (.deferred none))) :
  bodyPostM Fence.wide 3 Tryz.prog Tryz.f6 R .ret { tmps := tmps, defers := [{ target := .collected D, args := #[] }] } W :=
 ⟨by simp, .inl ⟨_, _, rfl, run_takeDeferred hK, ⟨_, tail3 (W := W.putObj D (.deferred none)) rfl false false false e1 e2 e3 ((World.putObj_heap_other (by omega)).trans s1) ((World.putObj_heap_other (by omega)).trans s2) ((World.putObj_heap_other (by omega)).trans s3) (by kernel_rfl) (by kernel_rfl) (by kernel_rfl), hR⟩⟩⟩
noncomputable def leastE (rs ss : List Ru) (a : List UInt8) (n : Int) : Int := if listP rs a n ≠ 0 then listP rs a n else listP ss a n
set_option maxRecDepth 100000 in
set_option maxHeartbeats 4000000 in
theorem least_in (V : Mem) (rs ss : List Ru) (ga ha : Option Addr) (gl gc hl hc : Nat) (a : List UInt8) (n : Int) (hg : GrR V rs ga gl gc) (hh : GrR V ss ha hl hc) (w : World) (hon : On V w) (R : Ending → World → Prop)
  (hR1 : leastE rs ss a n ≠ 0 → ∀ W, Below w.heap.size w W → R (.returned (.tuple #[.string (mkS []), .int .i64 0, .int .i64 (leastE rs ss a n)])) W)
  (hR2 : leastE rs ss a n = 0 → ∀ W, Below w.heap.size w W → R (.returned (.tuple #[.string (mkS (leastO rs ss (wordsN a n.toNat)).1), .int .i64 (leastO rs ss (wordsN a n.toNat)).2.1, .int .i64 (leastO rs ss (wordsN a n.toNat)).2.2])) W) :
  CallsIn Fence.wide 3 Tryz.prog 6 #[.agg #[.slice ga gl gc], .agg #[.slice ha hl hc], .string (mkS a), .int .i64 n] w R := by
 refine callsIn_of_wp_marks Tryz.func6 rfl trivial ?_ rfl
 obtain ⟨W0, hW0, q0, q1, q2, q3, q4, q5, hB0, hz0⟩ := six w (.cells #[.slice ga gl gc] 24) (.cells #[.slice ha hl hc] 24) (.cells #[.string (mkS [])] 9) (.cells #[.int .i64 0] 3) (.cells #[.int .i64 0] 25) (.cells #[.slice ga gl gc, .slice ha hl hc] 24)
 have q : Fiv w.heap.size (.slice ga gl gc) (.slice ha hl hc) (.string (mkS [])) (.int .i64 0) (.int .i64 0) W0 := ⟨q0, q1, q2, q3, q4⟩
 clear q0 q1 q2 q3 q4
 simp only [Tryz.ntmps6, List.size_toArray, List.length_cons, List.length_nil, Nat.reduceAdd, Nat.reduceSub, Array.replicate_succ, Array.replicate_zero, List.push_toArray, List.append_toArray, List.nil_append, List.cons_append]
 have HD := Hid.mk3 hR1 hR2
 clear hR1 hR2
 gi_wp2
 rw [show ((((((w.alloc (.cells #[.slice ga gl gc] 24)).alloc (.cells #[.slice ha hl hc] 24)).alloc (.cells #[.string { data := #[] }] 9)).alloc (.cells #[.int .i64 0] 3)).alloc (.cells #[.int .i64 0] 25)).alloc (.cells #[.slice ga gl gc, .slice ha hl hc] 24)) = W0 from hW0]
 clear hW0
 gi_loopw [23] (fun t wr => ∃ j : Nat, t = .int .i64 j ∧ j ≤ 2 ∧ (0 < j → listP rs a n = 0) ∧ (1 < j → listP ss a n = 0) ∧ Below W0.heap.size W0 wr)
  (fun t _ => 2 - (intOf t).toNat)
 case atStart => exact ⟨0, rfl, by omega, fun h => by omega, fun h => by omega, Below.refl _ _⟩
 case round =>
  obtain ⟨j, rfl, hj, h0, h1, hbw⟩ := hrel
  have q' := q.on hbw (by omega)
  have hBw : Below w.heap.size w wr := hB0.trans (hbw.mono (by omega))
  have q5' := (hbw.block _ (show w.heap.size + 1 + 1 + 1 + 1 + 1 < W0.heap.size by omega)).trans q5
  have d0 : wr.cell? ⟨w.heap.size + 1 + 1 + 1 + 1 + 1, 0, none⟩ = some (.slice ga gl gc) := by simp [World.cell?, q5']
  have d1 : wr.cell? ⟨w.heap.size + 1 + 1 + 1 + 1 + 1, 1, none⟩ = some (.slice ha hl hc) := by simp [World.cell?, q5']
  have hj3 : j = 0 ∨ j = 1 ∨ j = 2 := by omega
  have err : ∀ (Wx : World) (v : Int), Below wr.heap.size wr Wx → v ≠ 0 → leastE rs ss a n = v → ∀ W2, Below w.heap.size Wx W2 → R (.returned (.tuple #[.string (mkS []), .int .i64 0, .int .i64 v])) W2 := fun Wx v hb hv he W2 h2 => by
   subst he; exact HD.out.1 hv W2 ((hBw.trans (hb.mono hBw.size)).trans h2)
  have gr : ∀ (o : Obj), Below wr.heap.size wr (wr.alloc o) := fun o => (Below.refl _ wr).alloc (Nat.le_refl _) o
  rcases hj3 with rfl | rfl | rfl
  ·have hcall := s_list_Look ga gl gc a n V _ (llook_is hg a n (fun v => v = .int .i64 (listP rs a n)) rfl) (wr.alloc (.cells #[.slice ga gl gc] 24)) (On.keep (fun b o h => hon.lt h) hon (hBw.trans ((gr _).mono hBw.size)))
   gi_wp2
   refine ⟨trivial, (callsIn_wide.2 hcall).mono ?_⟩
   rintro e Wl ⟨v, rfl, hbl, rfl⟩
   have hbl2 : Below wr.heap.size wr Wl := (gr _).trans (hbl.mono (by simp))
   have q2 := q'.on hbl2 (by have := hbw.size; omega)
   obtain ⟨c0, c1, c2, c3, c4, f2, f3, f4⟩ := q2.cells
   by_cases he : listP rs a n = 0
   ·gi_wp2
    go_roundw
    case rel => exact ⟨1, rfl, by omega, fun _ => he, fun h => by omega, hbw.trans (hbl2.mono hbw.size)⟩
    case measure => simp [intOf]
   ·have hE : leastE rs ss a n = listP rs a n := by unfold leastE; rw [if_pos he]
    have HE := Hid.mk3 hE he
    clear hE
    gi_wp2
    refine q2.fin _ _ _ ?_ ?_ ?_ (err Wl _ hbl2 HE.out.2 HE.out.1) <;> rfl
  ·have hl0 := h0 (by omega)
   have hcall := s_list_Look ha hl hc a n V _ (llook_is hh a n (fun v => v = .int .i64 (listP ss a n)) rfl) (wr.alloc (.cells #[.slice ha hl hc] 24)) (On.keep (fun b o h => hon.lt h) hon (hBw.trans ((gr _).mono hBw.size)))
   gi_wp2
   refine ⟨trivial, (callsIn_wide.2 hcall).mono ?_⟩
   rintro e Wl ⟨v, rfl, hbl, rfl⟩
   have hbl2 : Below wr.heap.size wr Wl := (gr _).trans (hbl.mono (by simp))
   have q2 := q'.on hbl2 (by have := hbw.size; omega)
   obtain ⟨c0, c1, c2, c3, c4, f2, f3, f4⟩ := q2.cells
   have hE : leastE rs ss a n = listP ss a n := by unfold leastE; rw [if_neg (fun h => h hl0)]
   by_cases he : listP ss a n = 0
   ·clear hE
    gi_wp2
    go_roundw
    case rel => exact ⟨2, rfl, by omega, fun _ => hl0, fun _ => he, hbw.trans (hbl2.mono hbw.size)⟩
    case measure => simp [intOf]
   ·have HE := Hid.mk3 hE he
    clear hE
    gi_wp2
    refine q2.fin _ _ _ ?_ ?_ ?_ (err Wl _ hbl2 HE.out.2 HE.out.1) <;> rfl
  ·have hl0 := h0 (by omega)
   have hl1 := h1 (by omega)
   have htx := texts_mk 2 a [] n wr
   clear err gr d0 d1 q5' h0 h1
   gi_wp2
   refine ⟨trivial, htx.mono ?_⟩
   rintro e w' ⟨rfl, rfl⟩
   obtain ⟨Wt, hWt, p0, p1, p2, hbt, hzt⟩ := three wr (.cells #[.string (mkS a)] 9) (.cells #[.string (mkS [])] 9) (.cells #[.int .i64 n] 3)
   rw [hWt]
   have hszw := hbw.size
   replace q' := q'.on hbt (by omega)
   replace hBw := hBw.trans (hbt.mono hBw.size)
   have hszr := hBw.size
   clear hWt hbt htx hbw q hB0 q5
   obtain ⟨hwr, hal, hn0, hn6, hg5⟩ := listP_ok hl0
   obtain ⟨hws, _⟩ := listP_ok hl1
   obtain ⟨a1, a8, hasc⟩ := alpha_ok hal
   obtain ⟨k, rfl⟩ : ∃ k : Nat, n = k := ⟨n.toNat, by omega⟩
   have hin0 : ∀ c ∈ ([] : List UInt8), c ∈ a := fun c hc => by cases hc
   obtain ⟨T, hTv⟩ := six_ex (wordsN a k) (fun x hx => by have := (words_mem hasc hx).1; omega)
   have hr0 : rankN a [] = 0 := rfl
   have hTl : T.length = geo a.length (k + 1) - rankN a [] := by
    have := congrArg List.length hTv
    rw [hr0]
    simpa [words_len] using this
   have hT : ∀ (i : Nat) (s : W6), (∀ c ∈ s.1, c ∈ a) → s.1.length ≤ k → rankN a s.1 = rankN a [] + i → T[i]? = some s := fun i s hs1 hs2 hs3 => by
    have h1 := words_at k s.1 hs2 hs1
    rw [hs3, hr0, Nat.zero_add] at h1
    have h2 := congrArg (·[i]?) hTv
    simp only [List.getElem?_map] at h2
    rw [h1] at h2
    cases h3 : T[i]? with
    | none => rw [h3] at h2; cases h2
    | some t => rw [h3] at h2; simp only [Option.map_some, Option.some.injEq] at h2; exact congrArg some (Subtype.ext h2)
   have hE : leastE rs ss a k = 0 := by unfold leastE; rw [if_neg (fun h => h hl0)]; exact hl1
   have hO : leastO rs ss (wordsN a (k : Int).toNat) = leastO rs ss (T.map (·.1)) := by rw [hTv, Int.toNat_natCast]
   have hfin := HD.out.2 hE
   rw [hO] at hfin
   have HF := Hid.mk3 hfin trivial
   clear hfin hO hE HD
   gi_wp2
   refine wpIn_rangeFunc_ownG_of_H rfl (by omega) (gf := 31) (lb := #[.pointer (some ⟨wr.heap.size + 1, 0, none⟩), .pointer (some ⟨wr.heap.size + 1 + 1, 0, none⟩), .pointer (some ⟨wr.heap.size, 0, none⟩)]) rfl trivial (enters_of Tryz.func31 (by kernel_rfl) rfl)
    (texts_stops 2 Wt.heap.size [] a ⟨[], by simp⟩ k T a1 hal (by omega) hin0 (by simp) hTl hT wr.heap.size (wr.heap.size + 1) (wr.heap.size + 1 + 1) Wt (Nat.le_refl _) p0 p1 p2 ⟨by omega, by simp⟩ ⟨by omega, by simp⟩)
    (fun h k => h.trans k) (fun W' l o o' h1 h2 h3 h4 => KX.grown (grownBy_putObj' W' l o') (by have := (Array.getElem?_eq_some_iff.1 h2).1; omega) (fun k e hk => by cases e; omega)) (Below.refl _ _) (fun _ => rfl)
    (fun pre W' => (∀ t ∈ pre, difL rs ss t.1 = false) ∧ KX Wt.heap.size [] Wt W')
    (fun c pre W' => c = .ret ∧ ∃ pre0 x, pre = pre0 ++ [x] ∧ (∀ t ∈ pre0, difL rs ss t.1 = false) ∧ difL rs ss x.1 = true ∧
     W'.heap[w.heap.size + 1 + 1]? = some (.cells [sv6 x].toArray 9 (0, 0)) ∧ W'.heap[w.heap.size + 1 + 1 + 1]? = some (.cells [.int .i64 (if accP rs x.1 = true then 1 else 2)].toArray 3 (0, 0)) ∧ W'.heap[w.heap.size + 1 + 1 + 1 + 1]? = some (.cells [.int .i64 0].toArray 25 (0, 0)) ∧ Below w.heap.size w W')
    ?ownI ?ownIx ?start ?act ?assign ?body ?done ?stop (fun W => KX.refl _ _ W)
   case assign =>
    intro l x W' K hK
    gi_wp2
    exact hK
   case ownI => exact fun s A B row hs hg hr => ⟨hs.1, hs.2.trans (KX.grown hg hs.2.size (fun k e hk => by have := (hr _ e).1; omega))⟩
   case ownIx =>
    rintro c s A B row ⟨rfl, pre0, x, e1, e2, e3, s1, s2, s3, hb⟩ hg hr
    have l : ∀ {k o}, k < Wt.heap.size → A.heap[k]? = some o → B.heap[k]? = some o := fun {k o} h1 hk' => (hg.block k (Array.getElem?_eq_some_iff.1 hk').1 (fun e => by have := (hr _ e.symm).1; omega)).trans hk'
    exact ⟨rfl, pre0, x, e1, e2, e3, l (by omega) s1, l (by omega) s2, l (by omega) s3, hb.grown hg hb.size (fun k e => by have := (hr k e).1; omega)⟩
   case start => exact ⟨(fun t h => by cases h), KX.refl _ _ _⟩
   case body =>
    rintro l pre x W' ⟨hpre, hkx⟩ hlt
    have hbx : Below Wt.heap.size Wt W' := hkx.below (Nat.le_refl _) (fun k hk => by cases hk)
    have q2 := q'.on hbx (by omega)
    have hB2 := hBw.trans (hbx.mono hszr)
    have hlk : ∀ rs', (wellP rs').2 = 0 → lookP rs' x.1 = 0 := fun rs' h => by
     unfold lookP
     rw [if_neg (fun h' => h' h), if_neg (by have := x.2; omega)]
    have hl1' := hlk rs (look_ok' hl0)
    have hl2' := hlk ss (look_ok' hl1)
    have ha1 := s_list_Accepts ga gl gc x.1 V _ (laccepts_is hg (fun h => absurd hl1' h) (fun _ => rfl : lookP rs x.1 = 0 → (fun v => v = Value.tuple #[.bool (accP rs x.1), .int .i64 0]) (.tuple #[.bool (accP rs x.1), .int .i64 0]))) W' (On.keep (fun b o h => hon.lt h) hon hB2)
    obtain ⟨c0, c1, c2, c3, c4, f2, f3, f4⟩ := q2.cells
    clear hlk
    gi_wp2
    refine ⟨trivial, (show CallsIn (Fence.wide.inRound l) 0 _ _ _ _ _ from callsIn_wide.2 ha1).mono ?_⟩
    rintro e W1 ⟨v, rfl, hb1, rfl⟩
    have hbx1 := hbx.trans (hb1.mono hbx.size)
    have q3 := q'.on hbx1 (by omega)
    have hB3 := hBw.trans (hbx1.mono hszr)
    have ha2 := s_list_Accepts ha hl hc x.1 V _ (laccepts_is hh (fun h => absurd hl2' h) (fun _ => rfl : lookP ss x.1 = 0 → (fun v => v = Value.tuple #[.bool (accP ss x.1), .int .i64 0]) (.tuple #[.bool (accP ss x.1), .int .i64 0]))) W1 (On.keep (fun b o h => hon.lt h) hon hB3)
    clear c0 c1 c2 c3 c4 f2 f3 f4 ha1
    obtain ⟨c0, c1, c2, c3, c4, f2, f3, f4⟩ := q3.cells
    gi_wp2
    refine ⟨trivial, (show CallsIn (Fence.wide.inRound l) 0 _ _ _ _ _ from callsIn_wide.2 ha2).mono ?_⟩
    rintro e W2 ⟨v, rfl, hb2, rfl⟩
    have hbx2 := hbx1.trans (hb2.mono hbx1.size)
    have q4 := q'.on hbx2 (by omega)
    have hB4 := hBw.trans (hbx2.mono hszr)
    have hgg : W'.grownBy W2 none := grown_of (hb1.trans (hb2.mono hb1.size))
    have hko : KeepsOthers W' W2 := KeepsOthers.of_grownBy hgg (fun j o e _ => by cases e)
    have hkk : KX Wt.heap.size [] W' W2 := KX.grown hgg hbx.size (fun k e => by cases e)
    clear c0 c1 c2 c3 c4 f2 f3 f4 ha2
    obtain ⟨c0, c1, c2, c3, c4, f2, f3, f4⟩ := q4.cells
    have go : difL rs ss x.1 = false → KeepsFrom Wt.heap.size W' W2 ∧ KX Wt.heap.size [] W' W2 ∧ (∀ t ∈ pre ++ [x], difL rs ss t.1 = false) ∧ KX Wt.heap.size [] Wt W2 := fun hd => ⟨hko.from _, hkk, fun t ht => by
     rcases List.mem_append.1 ht with h | h
     ·exact hpre t h
     ·rw [List.mem_singleton.1 h]; exact hd, hkx.trans hkk⟩
    have st : difL rs ss x.1 = true → ∀ side : Int, side = (if accP rs x.1 = true then 1 else 2) → ∃ W3, (((W2.setCell ⟨w.heap.size + 1 + 1, 0, none⟩ (sv6 x)).setCell ⟨w.heap.size + 1 + 1 + 1, 0, none⟩ (.int .i64 side)).setCell ⟨w.heap.size + 1 + 1 + 1 + 1, 0, none⟩ (.int .i64 0)) = W3 ∧
      KeepsFrom Wt.heap.size W' W3 ∧ (Code.ret = Code.ret ∧ ∃ pre0 y, pre ++ [x] = pre0 ++ [y] ∧ (∀ t ∈ pre0, difL rs ss t.1 = false) ∧ difL rs ss y.1 = true ∧
     W3.heap[w.heap.size + 1 + 1]? = some (.cells [sv6 y].toArray 9 (0, 0)) ∧ W3.heap[w.heap.size + 1 + 1 + 1]? = some (.cells [.int .i64 (if accP rs y.1 = true then 1 else 2)].toArray 3 (0, 0)) ∧ W3.heap[w.heap.size + 1 + 1 + 1 + 1]? = some (.cells [.int .i64 0].toArray 25 (0, 0)) ∧ Below w.heap.size w W3) := by
     rintro hd side rfl
     obtain ⟨W3, hW3, s1, s2, s3, hB5⟩ := q4.stored (sv6 x) (.int .i64 (if accP rs x.1 = true then 1 else 2)) (.int .i64 0)
     refine ⟨W3, hW3, ?_, rfl, pre, x, rfl, hpre, hd, s1, s2, s3, hB4.trans hB5⟩
     rw [← hW3]
     exact (hko.trans (((KeepsOthers.setCell W2 ⟨w.heap.size + 1 + 1, 0, none⟩ (sv6 x)).trans (KeepsOthers.setCell _ ⟨w.heap.size + 1 + 1 + 1, 0, none⟩ (.int .i64 (if accP rs x.1 = true then 1 else 2)))).trans (KeepsOthers.setCell _ ⟨w.heap.size + 1 + 1 + 1 + 1, 0, none⟩ (.int .i64 0)))).from _
    have hdf : difL rs ss x.1 = (accP rs x.1 != accP ss x.1) := rfl
    have HG := Hid.mk3 (Hid.mk3 go st) hdf
    clear go st hdf hpre
    cases h1 : accP rs x.1 <;> cases h2 : accP ss x.1
    ·gi_wp2
     exact HG.out.1.out.1 (by rw [HG.out.2, h1, h2]; rfl)
    ·gi_wp2
     obtain ⟨W3, hW3, hA, hB⟩ := HG.out.1.out.2 (by rw [HG.out.2, h1, h2]; rfl) 2 (by rw [h1]; rfl)
     exact hW3 ▸ ⟨hA, rfl, hB.2⟩
    ·gi_wp2
     obtain ⟨W3, hW3, hA, hB⟩ := HG.out.1.out.2 (by rw [HG.out.2, h1, h2]; rfl) 1 (by rw [h1]; rfl)
     exact hW3 ▸ ⟨hA, rfl, hB.2⟩
    ·gi_wp2
     exact HG.out.1.out.1 (by rw [HG.out.2, h1, h2]; rfl)
   case done =>
    rintro D xs W' hD rfl ⟨hall, hkx⟩ hK
    have hbx : Below Wt.heap.size Wt W' := hkx.below (Nat.le_refl _) (fun k hk => by cases hk)
    have q2 := q'.on hbx (by omega)
    have hB2 := hBw.trans (hbx.mono hszr)
    obtain ⟨c0, c1, c2, c3, c4, f2, f3, f4⟩ := q2.cells
    have hO := least_done hall
    have HO := Hid.mk3 hO hall
    clear hO hall
    gi_wp2
    obtain ⟨W2, hW2, s1, s2, s3, hB3⟩ := q2.stored (.string (mkS [])) (.int .i64 0) (.int .i64 12)
    have hK2 : W2.heap[D]? = some (.deferred (some [])) := by rw [← hW2, set2 (by omega), set2 (by omega), set2 (by omega)]; exact hK
    rw [show (((W'.setCell ⟨w.heap.size + 1 + 1, 0, none⟩ (.string { data := #[] })).setCell ⟨w.heap.size + 1 + 1 + 1, 0, none⟩ (.int .i64 0)).setCell ⟨w.heap.size + 1 + 1 + 1 + 1, 0, none⟩ (.int .i64 12)) = W2 from hW2]
    refine leastD (h := w.heap.size) ?_ ?_ ?_ s1 s2 s3 (by omega) hK2 ?_
    ·rfl
    ·rfl
    ·rfl
    have hB4 := hB2.trans hB3
    have hfin := HF.out.1 (W2.putObj D (.deferred none)) (below_put hB4 (by omega) hK2 hB4.size)
    rw [HO.out.1] at hfin
    exact hfin
   case stop =>
    rintro D c pre W' hD ⟨hp1, hp2⟩ ⟨rfl, pre0, x, rfl, e1, e2, s1, s2, s3, hb⟩ hK
    have hO := least_stop hp1 e1 e2
    have HO := Hid.mk3 hO hp1
    clear hO hp1 hp2 e1 e2
    gi_wp2
    refine leastD (h := w.heap.size) ?_ ?_ ?_ s1 s2 s3 (by omega) hK ?_
    ·rfl
    ·rfl
    ·rfl
    have hfin := HF.out.1 (W'.putObj D (.deferred none)) (below_put hb (by omega) hK hb.size)
    rw [HO.out.1] at hfin
    exact hfin
section
variable {rs ss : List Ru} {ga ha : Option Addr} {gl gc hl hc : Nat} {M : Mem}
theorem lleast_is (hg : GrR M rs ga gl gc) (hh : GrR M ss ha hl hc) (a : List UInt8) (n : Int) (K : Value → Prop)
  (h1 : leastE rs ss a n ≠ 0 → K (.tuple #[.string (mkS []), .int .i64 0, .int .i64 (leastE rs ss a n)]))
  (h2 : leastE rs ss a n = 0 → K (.tuple #[.string (mkS (leastO rs ss (wordsN a n.toNat)).1), .int .i64 (leastO rs ss (wordsN a n.toNat)).2.1, .int .i64 (leastO rs ss (wordsN a n.toNat)).2.2])) :
  CallE Tryz.prog 6 #[.agg #[.slice ga gl gc], .agg #[.slice ha hl hc], .string (mkS a), .int .i64 n] M fun v _ => K v :=
 fun w hon => callsIn_wide.1 (least_in M rs ss ga ha gl gc hl hc a n hg hh w hon _ (fun h W hb => ⟨_, rfl, hb, h1 h⟩) fun h W hb => ⟨_, rfl, hb, h2 h⟩)
end
end Go.Proofs.YtmnilbfhfjdelaaGreat.core

