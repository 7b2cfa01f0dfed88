/- Contracts and what they hang on, of several parts. No condition. -/
import Derived.Test.YtifkffmecfgpeaaCoreX
import Derived.Test.YtifkffmecfgpeaaWellG
import Derived.Test.YtifkffmecfgpeaaM2
import Derived.Test.YtifkffmecfgpeaaFillG
import Derived.Test.YtifkffmecfgpeaaMeanG
import Derived.Test.YtifkffmecfgpeaaPackG
namespace Go.Proofs.Ytifkffmecfgpeaa.core
open Go.Gx Go.RowKit Go.ChangeShapes Go.WideShapes Go.ChangeAt
set_option linter.unusedVariables false
theorem fitE_kinds {e : Ex} (h : fitE e = true) : 1 ≤ e.kind ∧ e.kind ≤ 11 ∧ (e.kind ≤ 4 → e.kids = []) ∧ (e.kind = 5 ∨ e.kind = 6 → 2 ≤ e.kids.length ∧ e.kids.length ≤ 8) ∧ (7 ≤ e.kind → e.kids.length = 1) ∧ (e.kind = 3 → e.text ≠ [] ∧ e.text.length ≤ 12) ∧ (e.kind ≠ 2 → zs e.set = true) ∧ (e.kind ≠ 3 → e.kind ≠ 4 → e.text = []) := by
 unfold fitE fitX at h
 simp only at h
 have nil : ∀ l : List Ex, (l.length == 0) = true → l = [] := fun l h => List.eq_nil_of_length_eq_zero (by simpa using h)
 split at h
 ·simp only [Bool.and_eq_true, decide_eq_true_eq] at h
  exact ⟨by omega, by omega, fun _ => nil _ h.1.1, fun q => by omega, fun q => by omega, fun q => by omega, fun _ => h.2, fun _ _ => h.1.2⟩
 ·split at h
  ·simp only [Bool.and_eq_true, decide_eq_true_eq] at h
   exact ⟨by omega, by omega, fun _ => nil _ h.1, fun q => by omega, fun q => by omega, fun q => by omega, fun q => by omega, fun _ _ => h.2⟩
  ·split at h
   ·simp only [Bool.and_eq_true, decide_eq_true_eq, Bool.not_eq_true', decide_eq_false_iff_not] at h
    exact ⟨by omega, by omega, fun _ => nil _ h.1.1.1, fun q => by omega, fun q => by omega, fun _ => ⟨h.1.2, h.2⟩, fun _ => h.1.1.2, fun q => by omega⟩
   ·split at h
    ·simp only [Bool.and_eq_true] at h
     exact ⟨by omega, by omega, fun _ => nil _ h.1.1, fun q => by omega, fun q => by omega, fun q => by omega, fun _ => h.1.2, fun _ q => by omega⟩
    ·split at h
     ·simp only [Bool.and_eq_true, decide_eq_true_eq] at h
      exact ⟨by omega, by omega, fun q => by omega, fun _ => ⟨h.1.2, h.2⟩, fun q => by omega, fun q => by omega, fun _ => h.1.1.2, fun _ _ => h.1.1.1⟩
     ·split at h
      ·simp only [Bool.and_eq_true, decide_eq_true_eq, beq_iff_eq] at h
       exact ⟨by omega, by omega, fun q => by omega, fun q => by omega, fun _ => h.2, fun q => by omega, fun _ => h.1.2, fun _ _ => h.1.1⟩
      ·cases h
inductive GoodE (rs : List Ru) : Ex → Prop
 | mk (e : Ex) (hf : fitE e = true) (hr : e.kind = 4 → 0 ≤ findR e.text rs 0) (hk : ∀ k ∈ e.kids, GoodE rs k) : GoodE rs e
theorem GoodE.fit {rs : List Ru} {e : Ex} (h : GoodE rs e) : fitE e = true := by cases h; assumption
theorem GoodE.ref {rs : List Ru} {e : Ex} (h : GoodE rs e) : e.kind = 4 → 0 ≤ findR e.text rs 0 := by cases h; assumption
theorem GoodE.kid {rs : List Ru} {e : Ex} (h : GoodE rs e) : ∀ k ∈ e.kids, GoodE rs k := by cases h; assumption
mutual
theorem flat_fit : ∀ (e : Ex) (d n : Int), (lkE d n e).1 = 0 → ∀ x ∈ flatE e, fitE x = true
 | .mk k s t ks, d, n, h, x, hx => by
  unfold lkE at h
  split at h
  ·cases h
  ·split at h
   ·cases h
   ·split at h
    ·cases h
    ·rename_i h3
     rw [flatE] at hx
     rcases List.mem_cons.1 hx with rfl | hx
     ·simpa [fitE, Ex.kind, Ex.set, Ex.text, Ex.kids] using h3
     ·exact flats_fit ks _ _ h x hx
theorem flats_fit : ∀ (ks : List Ex) (d n : Int), (lkEs d n ks).1 = 0 → ∀ x ∈ flatEs ks, fitE x = true
 | [], _, _, _, x, hx => by simp [flatEs] at hx
 | k :: ks, d, n, h, x, hx => by
  rw [lkEs] at h
  rw [flatEs] at hx
  split at h
  ·rename_i hne; exact absurd h hne
  ·rename_i he
   have he : (lkE d n k).1 = 0 := by simpa using he
   rcases List.mem_append.1 hx with hx | hx
   ·exact flat_fit k _ _ he x hx
   ·exact flats_fit ks _ _ h x hx
end
theorem flatEs_mem {k : Ex} : ∀ {ks : List Ex}, k ∈ ks → ∀ x ∈ flatE k, x ∈ flatEs ks
 | a :: r, h, x, hx => by
  rw [flatEs]
  rcases List.mem_cons.1 h with rfl | h
  ·exact List.mem_append_left _ hx
  ·exact List.mem_append_right _ (flatEs_mem h x hx)
theorem flatE_self (e : Ex) : e ∈ flatE e := by cases e; simp [flatE]
theorem flatE_kid {e k : Ex} (h : k ∈ e.kids) : ∀ x ∈ flatE k, x ∈ flatE e := by
 intro x hx
 cases e
 rw [flatE]
 exact List.mem_cons_of_mem _ (flatEs_mem h x hx)
theorem good_of (rs : List Ru) (e : Ex) (h : ∀ x ∈ flatE e, fitE x = true ∧ (x.kind = 4 → 0 ≤ findR x.text rs 0)) : GoodE rs e := by
 induction hn : SizeOf.sizeOf e using Nat.strongRecOn generalizing e with
 | _ n ih =>
  subst hn
  have h0 := h e (flatE_self e)
  exact .mk e h0.1 h0.2 fun k hk => ih _ (Ex.kid_lt hk) k (fun x hx => h x (flatE_kid hk x hx)) rfl
theorem ref_fold : ∀ (l : List Ex) (acc : List (List UInt8)), (∀ s ∈ acc, s ∈ l.foldl refStep acc) ∧ ∀ x ∈ l, x.kind = 4 → x.text ∈ l.foldl refStep acc
 | [], acc => ⟨fun s h => h, fun x h => by cases h⟩
 | a :: r, acc => by
  obtain ⟨h1, h2⟩ := ref_fold r (refStep acc a)
  have hs : ∀ s ∈ acc, s ∈ refStep acc a := fun s h => by unfold refStep; split <;> simp [h]
  refine ⟨fun s h => h1 s (hs s h), fun x hx hk => ?_⟩
  rcases List.mem_cons.1 hx with rfl | hx
  ·refine h1 _ ?_
   unfold refStep
   split
   ·simp
   ·rename_i hno
    by_cases hm : x.text ∈ acc
    ·exact hm
    ·exact absurd ⟨hk, hm⟩ hno
  ·exact h2 x hx hk
theorem refs_mem {e x : Ex} (hx : x ∈ flatE e) (hk : x.kind = 4) : x.text ∈ refsE e := (ref_fold (flatE e) []).2 x hx hk
structure GramOk (rs : List Ru) : Prop where
 one : 0 < rs.length
 ten : rs.length ≤ 10
 good : ∀ r ∈ rs, GoodE rs r.body
 err : ∀ r ∈ rs, exErr r.body = 0
 name : ∀ r ∈ rs, nameB r.name = true
 at_ : ∀ (i : Nat) r, rs[i]? = some r → findR r.name rs 0 = i
 all : ((rs.map fun r => (flatE r.body).length).sum) ≤ 120
theorem refsR_zero (rs0 : List Ru) : ∀ l : List Ru, refsR rs0 l = 0 → ∀ r ∈ l, ∀ s ∈ refsE r.body, 0 ≤ findR s rs0 0
 | [], _, r, h, _, _ => by cases h
 | a :: t, h, r, hr, s, hs => by
  rw [refsR] at h
  split at h
  ·cases h
  ·rename_i hall
   rcases List.mem_cons.1 hr with rfl | hr
   ·have hall : (refsE r.body).all (fun s => decide (0 ≤ findR s rs0 0)) = true := by simpa using hall
    simpa using List.all_eq_true.1 hall s hs
   ·exact refsR_zero rs0 t h r hr s hs
theorem chkR_zero (rs0 : List Ru) : ∀ (l : List Ru) (i n : Int), chkR rs0 l i n = 0 → refsR rs0 rs0 = 0 ∧ (∀ (j : Nat) r, l[j]? = some r → nameB r.name = true ∧ findR r.name rs0 0 = i + j ∧ exErr r.body = 0) ∧ n + ((l.map fun r => (flatE r.body).length).sum : Nat) ≤ 120
 | [], i, n, h => by
  rw [chkR] at h
  split at h
  ·cases h
  ·exact ⟨h, fun j r hj => by simp at hj, by simp; omega⟩
 | a :: t, i, n, h => by
  rw [chkR] at h
  split at h
  ·cases h
  ·rename_i h1
   split at h
   ·cases h
   ·rename_i h2
    split at h
    ·rename_i h3; exact absurd h h3
    ·rename_i h3
     obtain ⟨g1, g2, g3⟩ := chkR_zero rs0 t (i + 1) _ h
     refine ⟨g1, fun j r hj => ?_, by simp only [List.map_cons, List.sum_cons]; omega⟩
     cases j with
     | zero =>
      simp only [List.getElem?_cons_zero, Option.some.injEq] at hj
      subst hj
      exact ⟨by simpa using h1, by simpa using h2, by simpa using h3⟩
     | succ j =>
      obtain ⟨k1, k2, k3⟩ := g2 j r (by simpa using hj)
      exact ⟨k1, by rw [k2]; omega, k3⟩
theorem gram_ok {rs : List Ru} (h : gramErr rs = 0) : GramOk rs := by
 unfold gramErr at h
 split at h
 ·cases h
 ·split at h
  ·cases h
  ·obtain ⟨h1, h2, h3⟩ := chkR_zero rs rs 0 0 h
   have hget : ∀ r ∈ rs, ∃ j, rs[j]? = some r := fun r hr => List.mem_iff_getElem?.1 hr
   refine ⟨by omega, by omega, fun r hr => good_of rs r.body fun x hx => ?_, fun r hr => ?_, fun r hr => ?_, fun i r hi => by have := (h2 i r hi).2.1; omega, by omega⟩
   ·obtain ⟨j, hj⟩ := hget r hr
    exact ⟨flat_fit _ _ _ (h2 j r hj).2.2 x hx, fun hk => refsR_zero rs rs h1 r hr _ (refs_mem hx hk)⟩
   ·obtain ⟨j, hj⟩ := hget r hr; exact (h2 j r hj).2.2
   ·obtain ⟨j, hj⟩ := hget r hr; exact (h2 j r hj).1
theorem findR_some (s : List UInt8) : ∀ (rs : List Ru) (i : Int), 0 ≤ i → 0 ≤ findR s rs i → i ≤ findR s rs i ∧ ∃ r, rs[(findR s rs i - i).toNat]? = some r ∧ r.name = s
 | [], i, _, h => by simp [findR] at h
 | a :: t, i, hi, h => by
  unfold findR at h ⊢
  split
  ·rename_i hn
   exact ⟨by omega, a, by rw [show (i - i).toNat = 0 by omega]; rfl, hn⟩
  ·rename_i hn
   rw [if_neg hn] at h
   obtain ⟨h1, r, h2, h3⟩ := findR_some s t (i + 1) (by omega) h
   refine ⟨by omega, r, ?_, h3⟩
   rw [show (findR s t (i + 1) - i).toNat = (findR s t (i + 1) - (i + 1)).toNat + 1 by omega]
   simpa using h2
theorem findR_lt {s : List UInt8} {rs : List Ru} (h : 0 ≤ findR s rs 0) : (findR s rs 0).toNat < rs.length ∧ findR s rs 0 < rs.length := by
 obtain ⟨_, r, h2, _⟩ := findR_some s rs 0 (by omega) h
 have := (List.getElem?_eq_some_iff.1 h2).1
 simp only [Int.sub_zero] at this
 omega
theorem GrR.len {M : Mem} {rs : List Ru} {A : Option Addr} {l c : Nat} (h : GrR M rs A l c) : l = rs.length := h.max.1
end Go.Proofs.Ytifkffmecfgpeaa.core

namespace Go.Proofs.Ytifkffmecfgpeaa.core
open Go.Gx Go.RowKit Go.ChangeShapes Go.WideShapes Go.ChangeAt
set_option linter.unusedVariables false
structure Lat {α : Type} (le : α → α → Prop) (ju : α → α → α) (wt : α → Nat) (m : Nat) : Prop where
 refl : ∀ a, le a a
 trans : ∀ {a b c}, le a b → le b c → le a c
 anti : ∀ {a b}, le a b → le b a → a = b
 left : ∀ a b, le a (ju a b)
 right : ∀ a b, le b (ju a b)
 least : ∀ {a b c}, le a c → le b c → le (ju a b) c
 mono : ∀ {a b}, le a b → wt a ≤ wt b
 strict : ∀ {a b}, le a b → a ≠ b → wt a < wt b
 bound : ∀ a, wt a ≤ m
section
variable {α : Type} {le : α → α → Prop} {ju : α → α → α} {wt : α → Nat} {m n : Nat} {F : List α → Nat → α}
def leL (le : α → α → Prop) (kn z : List α) : Prop := kn.length = z.length ∧ ∀ (i : Nat) a b, kn[i]? = some a → z[i]? = some b → le a b
theorem leL.refl (L : Lat le ju wt m) (kn : List α) : leL le kn kn := ⟨rfl, fun i a b ha hb => by rw [ha] at hb; cases hb; exact L.refl a⟩
theorem leL.trans (L : Lat le ju wt m) {a b c : List α} (h : leL le a b) (k : leL le b c) : leL le a c := ⟨h.1.trans k.1, fun i x z hx hz => by
 obtain ⟨y, hy⟩ := getN (l := b) (i := i) (by have := (List.getElem?_eq_some_iff.1 hx).1; have := h.1; omega)
 exact L.trans (h.2 i x y hx hy) (k.2 i y z hy hz)⟩
theorem leL.anti (L : Lat le ju wt m) {a b : List α} (h : leL le a b) (k : leL le b a) : a = b := by
 apply List.ext_getElem?
 intro i
 by_cases hi : i < a.length
 ·obtain ⟨x, hx⟩ := getN hi
  obtain ⟨y, hy⟩ := getN (l := b) (i := i) (by have := h.1; omega)
  rw [hx, hy, L.anti (h.2 i x y hx hy) (k.2 i y x hy hx)]
 ·rw [List.getElem?_eq_none (by omega), List.getElem?_eq_none (by have := h.1; omega)]
theorem leL.set (L : Lat le ju wt m) {kn : List α} {i : Nat} {a b : α} (hi : kn[i]? = some a) (h : le a b) : leL le kn (kn.set i b) := by
 refine ⟨by simp, fun j x y hx hy => ?_⟩
 rw [List.getElem?_set] at hy
 split at hy
 ·subst i
  split at hy
  ·simp only [Option.some.injEq] at hy; subst hy; rw [hi] at hx; cases hx; exact h
  ·cases hy
 ·rw [hx] at hy; cases hy; exact L.refl _
def wS (wt : α → Nat) (m : Nat) (kn : List α) : Nat := (kn.map fun a => m - wt a).sum
theorem wS_set (L : Lat le ju wt m) : ∀ {kn : List α} {i : Nat} {a b : α}, kn[i]? = some a → le a b → a ≠ b → wS wt m (kn.set i b) < wS wt m kn
 | [], i, a, b, h, _, _ => by simp at h
 | x :: r, 0, a, b, h, h1, h2 => by
  simp only [List.getElem?_cons_zero, Option.some.injEq] at h
  subst h
  have := L.strict h1 h2
  have := L.bound b
  simp only [wS, List.set_cons_zero, List.map_cons, List.sum_cons]
  omega
 | x :: r, i + 1, a, b, h, h1, h2 => by
  have := wS_set L (kn := r) (i := i) (by simpa using h) h1 h2
  simp only [wS, List.set_cons_succ, List.map_cons, List.sum_cons] at this ⊢
  omega
theorem wS_le (L : Lat le ju wt m) : ∀ {a b : List α}, leL le a b → wS wt m b ≤ wS wt m a ∧ (a ≠ b → wS wt m b < wS wt m a)
 | [], [], _ => ⟨Nat.le_refl _, fun h => absurd rfl h⟩
 | [], y :: b, h => by have := h.1; simp at this
 | x :: a, [], h => by have := h.1; simp at this
 | x :: a, y :: b, h => by
  have h0 := h.2 0 x y rfl rfl
  obtain ⟨i1, i2⟩ := wS_le L (a := a) (b := b) ⟨by simpa using h.1, fun i p q hp hq => h.2 (i + 1) p q (by simpa using hp) (by simpa using hq)⟩
  have := L.mono h0
  have hb := L.bound y
  simp only [wS, List.map_cons, List.sum_cons] at i1 i2 ⊢
  refine ⟨by omega, fun hne => ?_⟩
  by_cases hxy : x = y
  ·subst hxy
   have := i2 (fun e => hne (by rw [e]))
   omega
  ·have := L.strict h0 hxy
   omega
structure Pre (le : α → α → Prop) (F : List α → Nat → α) (n : Nat) (kn : List α) : Prop where
 len : kn.length = n
 up : ∀ (i : Nat) a, kn[i]? = some a → le a (F kn i)
 low : ∀ z : List α, z.length = n → (∀ (i : Nat) b, z[i]? = some b → le (F z i) b) → leL le kn z
def MonoF (le : α → α → Prop) (F : List α → Nat → α) (n : Nat) : Prop := ∀ kn z : List α, ∀ i : Nat, i < n → kn.length = n → leL le kn z → le (F kn i) (F z i)
theorem Pre.step (L : Lat le ju wt m) (hF : MonoF le F n) {kn : List α} (h : Pre le F n kn) {i : Nat} {a : α} (hi : kn[i]? = some a) : Pre le F n (kn.set i (F kn i)) ∧ leL le kn (kn.set i (F kn i)) := by
 have hle := leL.set L hi (h.up i a hi)
 have hil : i < n := by have := (List.getElem?_eq_some_iff.1 hi).1; have := h.len; omega
 refine ⟨⟨by simp [h.len], fun j x hx => ?_, fun z hz hc => ?_⟩, hle⟩
 ·have hj : j < n := by have := (List.getElem?_eq_some_iff.1 hx).1; simp at this; have := h.len; omega
  have hm := hF kn _ j hj h.len hle
  rw [List.getElem?_set] at hx
  split at hx
  ·subst i
   split at hx
   ·simp only [Option.some.injEq] at hx; subst hx; exact hm
   ·cases hx
  ·exact L.trans (h.up j x hx) hm
 ·have hl := h.low z hz hc
  refine ⟨by simpa using hl.1, fun j x y hx hy => ?_⟩
  rw [List.getElem?_set] at hx
  split at hx
  ·subst i
   split at hx
   ·simp only [Option.some.injEq] at hx; subst hx
    exact L.trans (hF kn z j hil h.len hl) (hc j y hy)
   ·cases hx
  ·exact hl.2 j x y hx hy
structure Lfp (le : α → α → Prop) (F : List α → Nat → α) (n : Nat) (kn : List α) : Prop where
 len : kn.length = n
 shut : ∀ (i : Nat) a, kn[i]? = some a → le (F kn i) a
 low : ∀ z : List α, z.length = n → (∀ (i : Nat) b, z[i]? = some b → le (F z i) b) → leL le kn z
theorem Lfp.same (L : Lat le ju wt m) {a b : List α} (h : Lfp le F n a) (k : Lfp le F n b) : a = b := leL.anti L (h.low b k.len k.shut) (k.low a h.len h.shut)
theorem Pre.lfp (L : Lat le ju wt m) {kn : List α} (h : Pre le F n kn) (hfix : ∀ (i : Nat) a, kn[i]? = some a → F kn i = a) : Lfp le F n kn := ⟨h.len, fun i a ha => by rw [hfix i a ha]; exact L.refl a, h.low⟩
def jac (ju : α → α → α) (F : List α → Nat → α) (kn : List α) : List α := kn.zipIdx.map fun p => ju p.1 (F kn p.2)
theorem jac_len (kn : List α) : (jac ju F kn).length = kn.length := by simp [jac]
theorem jac_get {kn : List α} {i : Nat} {a : α} (h : kn[i]? = some a) : (jac ju F kn)[i]? = some (ju a (F kn i)) := by simp [jac, h]
theorem jac_up (L : Lat le ju wt m) (kn : List α) : leL le kn (jac ju F kn) := ⟨(jac_len kn).symm, fun i a b ha hb => by rw [jac_get ha] at hb; cases hb; exact L.left _ _⟩
theorem jac_low (L : Lat le ju wt m) (hF : MonoF le F n) {kn z : List α} (hl : kn.length = n) (h : leL le kn z) (hz : ∀ (i : Nat) b, z[i]? = some b → le (F z i) b) : leL le (jac ju F kn) z := by
 refine ⟨by rw [jac_len]; exact h.1, fun i a b ha hb => ?_⟩
 have hi : i < kn.length := by have := (List.getElem?_eq_some_iff.1 ha).1; rw [jac_len] at this; exact this
 obtain ⟨x, hx⟩ := getN hi
 rw [jac_get hx] at ha
 cases ha
 exact L.least (h.2 i x b hx hb) (L.trans (hF kn z i (by omega) hl h) (hz i b hb))
def jacN (ju : α → α → α) (F : List α → Nat → α) : Nat → List α → List α
 | 0, kn => kn
 | k + 1, kn => jac ju F (jacN ju F k kn)
theorem jacN_len (k : Nat) (kn : List α) : (jacN ju F k kn).length = kn.length := by
 induction k with
 | zero => rfl
 | succ k ih => rw [jacN, jac_len, ih]
theorem jacN_stab (L : Lat le ju wt m) (kn : List α) : ∀ k, jac ju F (jacN ju F k kn) = jacN ju F k kn ∨ wS wt m (jacN ju F k kn) + k ≤ wS wt m kn
 | 0 => .inr (Nat.le_refl _)
 | k + 1 => by
  rcases jacN_stab L kn k with h | h
  ·left; rw [jacN, h, h]
  ·by_cases he : jac ju F (jacN ju F k kn) = jacN ju F k kn
   ·left; rw [jacN, he, he]
   ·right
    have := (wS_le L (jac_up (F := F) L (jacN ju F k kn))).2 (fun e => he e.symm)
    rw [jacN]; omega
theorem wS_all (kn : List α) : wS wt m kn ≤ m * kn.length := by
 induction kn with
 | nil => simp [wS]
 | cons a r ih =>
  simp only [wS, List.map_cons, List.sum_cons, List.length_cons] at ih ⊢
  rw [Nat.mul_succ]; omega
theorem jac_lfp (L : Lat le ju wt m) (hF : MonoF le F n) (bot : α) (hbot : ∀ a, le bot a) (k : Nat) (hk : m * n < k) : Lfp le F n (jacN ju F k (List.replicate n bot)) := by
 have hlen : ∀ k, (jacN ju F k (List.replicate n bot)).length = n := fun k => by rw [jacN_len]; simp
 refine ⟨hlen k, fun i a ha => ?_, fun z hz hc => ?_⟩
 ·have hst : jac ju F (jacN ju F k (List.replicate n bot)) = jacN ju F k (List.replicate n bot) := by
   rcases jacN_stab (F := F) L (List.replicate n bot) k with h | h
   ·exact h
   ·have := wS_all (wt := wt) (m := m) (List.replicate n bot)
    simp only [List.length_replicate] at this
    omega
  have h2 := jac_get (ju := ju) (F := F) ha
  rw [hst, ha] at h2
  simp only [Option.some.injEq] at h2
  have := L.right a (F (jacN ju F k (List.replicate n bot)) i)
  rw [← h2] at this
  exact this
 ·have hz0 : ∀ k, leL le (jacN ju F k (List.replicate n bot)) z := by
   intro k
   induction k with
   | zero => exact ⟨by simp [jacN, hz], fun i a b ha hb => by
     simp only [jacN] at ha
     have := List.mem_of_getElem? ha
     rw [(List.mem_replicate.1 this).2]; exact hbot b⟩
   | succ k ih => exact jac_low L hF (hlen k) ih hc
  exact hz0 k
end
end Go.Proofs.Ytifkffmecfgpeaa.core

namespace Go.Proofs.Ytifkffmecfgpeaa.core
open Go.Gx Go.RowKit Go.ChangeShapes Go.WideShapes Go.ChangeAt
set_option linter.unusedVariables false
theorem upon_cut {P : Program} {o : Oper} {a : Act} {w : World} {K K' J : Act → World → Prop} {Q : Exit → Act → World → Prop} (h : ∀ a w, K a w → K' a w) (hh : o.wp P a w K (fun e a w => match e with | .normal => J a w | e => Q e a w)) : o.wp P a w K' Q := by
 unfold Oper.wp at *
 generalize (execOp a.eval o).run P w = r at *
 cases r with
 | ok n w' =>
  cases n <;> simp only [Oper.upon] at hh ⊢ <;>
   first
    | exact h _ _ hh
    | exact Calls.mono hh (fun e w'' he => by cases e <;> first | exact h _ _ he | exact he)
    | exact Rows.mono hh (fun _ _ he => h _ _ he)
 | halt x w' => cases x <;> simp only [Oper.upon] at hh ⊢ <;> exact hh
theorem wpList_cutJ {P : Program} {ops : Array Oper} {Q : Exit → Act → World → Prop} (J : Act → World → Prop) : ∀ (k : Nat) {l : List Oper} {a : Act} {w : World}, wpList P ops (fun e a w => match e with | .normal => J a w | e => Q e a w) (l.take k) a w → (∀ a w, J a w → wpList P ops Q (l.drop k) a w) → wpList P ops Q l a w
 | 0, l, a, w, h, h2 => by rw [List.take_zero] at h; exact h2 a w h
 | k + 1, [], a, w, h, h2 => h2 a w h
 | k + 1, o :: l, a, w, h, h2 => by
  have ih : ∀ a w, wpList P ops (fun e a w => match e with | .normal => J a w | e => Q e a w) (l.take k) a w → wpList P ops Q l a w := fun a w h => wpList_cutJ J k h h2
  rw [List.take_succ_cons] at h
  unfold wpList at h ⊢
  split at h
  ·rename_i hw
   rw [if_pos hw]
   exact h.imp (upon_cut ih) id
  ·rename_i hw
   rw [if_neg hw]
   exact ih _ _ h
theorem sPr {P : Program} {ops : Array Oper} {Q : Exit → Act → World → Prop} {n : Nat} {E : World} {bw : List Nat} {M : Mem} {w : World} {a : Act} {env : Env} {bs : List Bx} {rs : List Rw} {rest : List Oper} {o : Oper} (v : Value) {d : Nat} (hs : Sx n E bw M w a env bs rs) (h : ∀ a', Sx n E bw M w a' ((d, v) :: env) bs rs → wpList P ops Q rest a' w)
  (hg : o.guard = none := by rfl) (hd : o.dst = some d := by rfl) (hdn : d < n := by decide) (hk : okOp env o = true := by rfl) (hr : ∀ w, (execOp (evT env) o).run P w = .ok (.value v) w := by intro _; rfl) : wpList P ops Q (o :: rest) a w :=
 stepY v hs hg hd hdn (Yl.pure hk hr) h
def S_well_then (a b : X_api_Facts) (M : Mem) (K : Value → Prop) : Prop := K (X_api_Facts.mk (a.Empty && b.Empty) ((a.Eats && (b.Empty || b.Eats)) || (a.Empty && b.Eats)) (a.Fails || ((a.Empty || a.Eats) && b.Fails))).val
def S_well_or (a b : X_api_Facts) (M : Mem) (K : Value → Prop) : Prop := K (X_api_Facts.mk (a.Empty || (a.Fails && b.Empty)) (a.Eats || (a.Fails && b.Eats)) (a.Fails && b.Fails)).val
theorem wpList_cut {P : Program} {ops : Array Oper} {Q : Exit → Act → World → Prop} (k : Nat) (J : Act → World → Prop) {l : List Oper} {a : Act} {w : World} (h1 : wpList P ops (fun e a w => match e with | .normal => J a w | e => Q e a w) (l.take k) a w) (h2 : ∀ a w, J a w → wpList P ops Q (l.drop k) a w) : wpList P ops Q l a w := wpList_cutJ J k h1 h2
set_option maxRecDepth 100000 in
theorem s_well_then (a1 b2 : X_api_Facts) (M : Mem) (K : Value → Prop) (hK : S_well_then a1 b2 M K) : CallE Try.prog 159 #[a1.val, b2.val] M (fun v _ => K v) := by
 obtain ⟨e1, t1, f1⟩ := a1
 obtain ⟨e2, t2, f2⟩ := b2
 refine enterE Try.func159 rfl 44 rfl (Nat.le_of_ble_eq_true rfl) (fun E a hs => ?_)
 have hMM := MX.refl M E
 change Sx 44 E [] M E a [(0, (X_api_Facts.mk e1 t1 f1).val), (1, (X_api_Facts.mk e2 t2 f2).val)] [] [] at hs
 refine Wp.seq (Wp.region (stepBox (X_api_Facts.mk e1 t1 f1).cells hs rfl rfl rfl (by decide) (fun _ _ b3 hEb3 hs => ?_)))
 refine stepBox (X_api_Facts.mk e2 t2 f2).cells hs rfl rfl rfl (by decide) (fun _ _ b4 hEb4 hs => ?_)
 refine stepAlloc [(.bool false), (.bool false), (.bool false)] hs (by kernel_rfl) (by decide) (fun _ _ b5 hEb5 hs => ?_)
 refine wpList_nil (Wp.seq (Wp.region ?_))
 change Sx 44 E [] M _ _ _ [⟨b5, 202, [.bool false, .bool false, .bool false]⟩, ⟨b4, 202, [.bool e2, .bool t2, .bool f2]⟩, ⟨b3, 202, [.bool e1, .bool t1, .bool f1]⟩] [] at hs
 refine wpList_cut 6 (fun a w => Sx 44 E [] M w a [(2, pt b3 0), (3, pt b4 0), (4, pt b5 0), (10, .bool (e1 && e2))] [⟨b5, 202, [.bool false, .bool false, .bool false]⟩, ⟨b4, 202, [.bool e2, .bool t2, .bool f2]⟩, ⟨b3, 202, [.bool e1, .bool t1, .bool f1]⟩] []) ?_ fun a w hs => ?_
 ·cases e1 <;> cases e2 <;> (
   refine sP (pt b3 0) hs fun _ hs => ?_
   first | refine sY (.bool true) hs (Yl.lB [.bool true] false 2) fun _ hs => ?_ | refine sY (.bool false) hs (Yl.lB [.bool false] false 2) fun _ hs => ?_
   first | refine sPr (.bool true) hs fun _ hs => ?_ | refine sPr (.bool false) hs fun _ hs => ?_
   first | refine sNo hs fun _ hs => ?_ | refine sNu hs fun _ hs => ?_ | refine sYe hs (sP (pt b4 0) hs fun _ hs => ?_)
   first | refine sNo hs fun _ hs => ?_ | refine sNu hs fun _ hs => ?_ | refine sYe hs (sY (.bool true) hs (Yl.lB [.bool true] false 1) fun _ hs => ?_) | refine sYe hs (sY (.bool false) hs (Yl.lB [.bool false] false 1) fun _ hs => ?_)
   first | refine sPr (.bool true) hs fun _ hs => ?_ | refine sPr (.bool false) hs fun _ hs => ?_
   exact wpList_nil (hs.wk ⟨rfl, rfl, rfl, rfl, trivial⟩))
 refine wpList_cut 10 (fun a w => Sx 44 E [] M w a [(2, pt b3 0), (3, pt b4 0), (4, pt b5 0), (10, .bool (e1 && e2)), (20, .bool (t1 && (e2 || t2)))] [⟨b5, 202, [.bool false, .bool false, .bool false]⟩, ⟨b4, 202, [.bool e2, .bool t2, .bool f2]⟩, ⟨b3, 202, [.bool e1, .bool t1, .bool f1]⟩] []) ?_ fun a w hs => ?_
 ·cases t1 <;> cases e2 <;> cases t2 <;> (
   refine sP (pt b3 1) hs fun _ hs => ?_
   first | refine sY (.bool true) hs (Yl.lB [.bool true] false 2) fun _ hs => ?_ | refine sY (.bool false) hs (Yl.lB [.bool false] false 2) fun _ hs => ?_
   first | refine sPr (.bool true) hs fun _ hs => ?_ | refine sPr (.bool false) hs fun _ hs => ?_
   first | refine sNo hs fun _ hs => ?_ | refine sNu hs fun _ hs => ?_ | refine sYe hs (sP (pt b4 0) hs fun _ hs => ?_)
   first | refine sNo hs fun _ hs => ?_ | refine sNu hs fun _ hs => ?_ | refine sYe hs (sY (.bool true) hs (Yl.lB [.bool true] false 1) fun _ hs => ?_) | refine sYe hs (sY (.bool false) hs (Yl.lB [.bool false] false 1) fun _ hs => ?_)
   first | refine sNo hs fun _ hs => ?_ | refine sNu hs fun _ hs => ?_ | refine sYe hs (sPr (.bool true) hs fun _ hs => ?_) | refine sYe hs (sPr (.bool false) hs fun _ hs => ?_)
   first | refine sNo hs fun _ hs => ?_ | refine sNu hs fun _ hs => ?_ | refine sYe hs (sP (pt b4 1) hs fun _ hs => ?_)
   first | refine sNo hs fun _ hs => ?_ | refine sNu hs fun _ hs => ?_ | refine sYe hs (sY (.bool true) hs (Yl.lB [.bool true] false 1) fun _ hs => ?_) | refine sYe hs (sY (.bool false) hs (Yl.lB [.bool false] false 1) fun _ hs => ?_)
   first | refine sNo hs fun _ hs => ?_ | refine sNu hs fun _ hs => ?_ | refine sYe hs (sPr (.bool true) hs fun _ hs => ?_) | refine sYe hs (sPr (.bool false) hs fun _ hs => ?_)
   first | refine sPr (.bool true) hs fun _ hs => ?_ | refine sPr (.bool false) hs fun _ hs => ?_
   exact wpList_nil (hs.wk ⟨rfl, rfl, rfl, rfl, rfl, trivial⟩))
 refine wpList_cut 8 (fun a w => Sx 44 E [] M w a [(2, pt b3 0), (3, pt b4 0), (4, pt b5 0), (10, .bool (e1 && e2)), (28, .bool ((t1 && (e2 || t2)) || (e1 && t2)))] [⟨b5, 202, [.bool false, .bool false, .bool false]⟩, ⟨b4, 202, [.bool e2, .bool t2, .bool f2]⟩, ⟨b3, 202, [.bool e1, .bool t1, .bool f1]⟩] []) ?_ fun a w hs => ?_
 ·cases t1 <;> cases e2 <;> cases t2 <;> cases e1 <;> (
   first | refine sPr (.bool true) hs fun _ hs => ?_ | refine sPr (.bool false) hs fun _ hs => ?_
   first | refine sNo hs fun _ hs => ?_ | refine sNu hs fun _ hs => ?_ | refine sYe hs (sP (pt b3 0) hs fun _ hs => ?_)
   first | refine sNo hs fun _ hs => ?_ | refine sNu hs fun _ hs => ?_ | refine sYe hs (sY (.bool true) hs (Yl.lB [.bool true] false 2) fun _ hs => ?_) | refine sYe hs (sY (.bool false) hs (Yl.lB [.bool false] false 2) fun _ hs => ?_)
   first | refine sNo hs fun _ hs => ?_ | refine sNu hs fun _ hs => ?_ | refine sYe hs (sPr (.bool true) hs fun _ hs => ?_) | refine sYe hs (sPr (.bool false) hs fun _ hs => ?_)
   first | refine sNo hs fun _ hs => ?_ | refine sNu hs fun _ hs => ?_ | refine sYe hs (sP (pt b4 1) hs fun _ hs => ?_)
   first | refine sNo hs fun _ hs => ?_ | refine sNu hs fun _ hs => ?_ | refine sYe hs (sY (.bool true) hs (Yl.lB [.bool true] false 1) fun _ hs => ?_) | refine sYe hs (sY (.bool false) hs (Yl.lB [.bool false] false 1) fun _ hs => ?_)
   first | refine sNo hs fun _ hs => ?_ | refine sNu hs fun _ hs => ?_ | refine sYe hs (sPr (.bool true) hs fun _ hs => ?_) | refine sYe hs (sPr (.bool false) hs fun _ hs => ?_)
   first | refine sPr (.bool true) hs fun _ hs => ?_ | refine sPr (.bool false) hs fun _ hs => ?_
   exact wpList_nil (hs.wk ⟨rfl, rfl, rfl, rfl, rfl, trivial⟩))
 refine wpList_cut 14 (fun a w => Sx 44 E [] M w a [(2, pt b3 0), (3, pt b4 0), (4, pt b5 0), (10, .bool (e1 && e2)), (28, .bool ((t1 && (e2 || t2)) || (e1 && t2))), (42, .bool (f1 || ((e1 || t1) && f2)))] [⟨b5, 202, [.bool false, .bool false, .bool false]⟩, ⟨b4, 202, [.bool e2, .bool t2, .bool f2]⟩, ⟨b3, 202, [.bool e1, .bool t1, .bool f1]⟩] []) ?_ fun a w hs => ?_
 ·cases f1 <;> cases e1 <;> cases t1 <;> cases f2 <;> (
   refine sP (pt b3 2) hs fun _ hs => ?_
   first | refine sY (.bool true) hs (Yl.lB [.bool true] false 2) fun _ hs => ?_ | refine sY (.bool false) hs (Yl.lB [.bool false] false 2) fun _ hs => ?_
   first | refine sPr (.bool true) hs fun _ hs => ?_ | refine sPr (.bool false) hs fun _ hs => ?_
   first | refine sNo hs fun _ hs => ?_ | refine sNu hs fun _ hs => ?_ | refine sYe hs (sP (pt b3 0) hs fun _ hs => ?_)
   first | refine sNo hs fun _ hs => ?_ | refine sNu hs fun _ hs => ?_ | refine sYe hs (sY (.bool true) hs (Yl.lB [.bool true] false 2) fun _ hs => ?_) | refine sYe hs (sY (.bool false) hs (Yl.lB [.bool false] false 2) fun _ hs => ?_)
   first | refine sNo hs fun _ hs => ?_ | refine sNu hs fun _ hs => ?_ | refine sYe hs (sPr (.bool true) hs fun _ hs => ?_) | refine sYe hs (sPr (.bool false) hs fun _ hs => ?_)
   first | refine sNo hs fun _ hs => ?_ | refine sNu hs fun _ hs => ?_ | refine sYe hs (sP (pt b3 1) hs fun _ hs => ?_)
   first | refine sNo hs fun _ hs => ?_ | refine sNu hs fun _ hs => ?_ | refine sYe hs (sY (.bool true) hs (Yl.lB [.bool true] false 2) fun _ hs => ?_) | refine sYe hs (sY (.bool false) hs (Yl.lB [.bool false] false 2) fun _ hs => ?_)
   first | refine sNo hs fun _ hs => ?_ | refine sNu hs fun _ hs => ?_ | refine sYe hs (sPr (.bool true) hs fun _ hs => ?_) | refine sYe hs (sPr (.bool false) hs fun _ hs => ?_)
   first | refine sNo hs fun _ hs => ?_ | refine sNu hs fun _ hs => ?_ | refine sYe hs (sPr (.bool true) hs fun _ hs => ?_) | refine sYe hs (sPr (.bool false) hs fun _ hs => ?_)
   first | refine sNo hs fun _ hs => ?_ | refine sNu hs fun _ hs => ?_ | refine sYe hs (sP (pt b4 2) hs fun _ hs => ?_)
   first | refine sNo hs fun _ hs => ?_ | refine sNu hs fun _ hs => ?_ | refine sYe hs (sY (.bool true) hs (Yl.lB [.bool true] false 1) fun _ hs => ?_) | refine sYe hs (sY (.bool false) hs (Yl.lB [.bool false] false 1) fun _ hs => ?_)
   first | refine sNo hs fun _ hs => ?_ | refine sNu hs fun _ hs => ?_ | refine sYe hs (sPr (.bool true) hs fun _ hs => ?_) | refine sYe hs (sPr (.bool false) hs fun _ hs => ?_)
   first | refine sPr (.bool true) hs fun _ hs => ?_ | refine sPr (.bool false) hs fun _ hs => ?_
   exact wpList_nil (hs.wk ⟨rfl, rfl, rfl, rfl, rfl, rfl, trivial⟩))
 refine sP (X_api_Facts.mk (e1 && e2) ((t1 && (e2 || t2)) || (e1 && t2)) (f1 || ((e1 || t1) && f2))).val hs fun _ hs => ?_
 refine stB 0 [.bool (e1 && e2), .bool ((t1 && (e2 || t2)) || (e1 && t2)), .bool (f1 || ((e1 || t1) && f2))] [⟨b5, 202, [.bool (e1 && e2), .bool ((t1 && (e2 || t2)) || (e1 && t2)), .bool (f1 || ((e1 || t1) && f2))]⟩, ⟨b4, 202, [.bool e2, .bool t2, .bool f2]⟩, ⟨b3, 202, [.bool e1, .bool t1, .bool f1]⟩] hs fun _ _ hs => ?_
 exact wpList_nil (Wp.ret (lvE K hs (resC (vs := [.bool (e1 && e2), .bool ((t1 && (e2 || t2)) || (e1 && t2)), .bool (f1 || ((e1 || t1) && f2))]) true 0 hs rfl rfl rfl (by kernel_rfl) rfl) hMM.2 hK))
set_option maxRecDepth 100000 in
theorem s_well_or (a1 b2 : X_api_Facts) (M : Mem) (K : Value → Prop) (hK : S_well_or a1 b2 M K) : CallE Try.prog 160 #[a1.val, b2.val] M (fun v _ => K v) := by
 obtain ⟨e1, t1, f1⟩ := a1
 obtain ⟨e2, t2, f2⟩ := b2
 refine enterE Try.func160 rfl 32 rfl (Nat.le_of_ble_eq_true rfl) (fun E a hs => ?_)
 have hMM := MX.refl M E
 change Sx 32 E [] M E a [(0, (X_api_Facts.mk e1 t1 f1).val), (1, (X_api_Facts.mk e2 t2 f2).val)] [] [] at hs
 refine Wp.seq (Wp.region (stepBox (X_api_Facts.mk e1 t1 f1).cells hs rfl rfl rfl (by decide) (fun _ _ b3 hEb3 hs => ?_)))
 refine stepBox (X_api_Facts.mk e2 t2 f2).cells hs rfl rfl rfl (by decide) (fun _ _ b4 hEb4 hs => ?_)
 refine stepAlloc [(.bool false), (.bool false), (.bool false)] hs (by kernel_rfl) (by decide) (fun _ _ b5 hEb5 hs => ?_)
 refine wpList_nil (Wp.seq (Wp.region ?_))
 change Sx 32 E [] M _ _ _ [⟨b5, 202, [.bool false, .bool false, .bool false]⟩, ⟨b4, 202, [.bool e2, .bool t2, .bool f2]⟩, ⟨b3, 202, [.bool e1, .bool t1, .bool f1]⟩] [] at hs
 refine wpList_cut 10 (fun a w => Sx 32 E [] M w a [(2, pt b3 0), (3, pt b4 0), (4, pt b5 0), (14, .bool (e1 || (f1 && e2)))] [⟨b5, 202, [.bool false, .bool false, .bool false]⟩, ⟨b4, 202, [.bool e2, .bool t2, .bool f2]⟩, ⟨b3, 202, [.bool e1, .bool t1, .bool f1]⟩] []) ?_ fun a w hs => ?_
 ·cases e1 <;> cases f1 <;> cases e2 <;> (
   refine sP (pt b3 0) hs fun _ hs => ?_
   first | refine sY (.bool true) hs (Yl.lB [.bool true] false 2) fun _ hs => ?_ | refine sY (.bool false) hs (Yl.lB [.bool false] false 2) fun _ hs => ?_
   first | refine sPr (.bool true) hs fun _ hs => ?_ | refine sPr (.bool false) hs fun _ hs => ?_
   first | refine sNo hs fun _ hs => ?_ | refine sNu hs fun _ hs => ?_ | refine sYe hs (sP (pt b3 2) hs fun _ hs => ?_)
   first | refine sNo hs fun _ hs => ?_ | refine sNu hs fun _ hs => ?_ | refine sYe hs (sY (.bool true) hs (Yl.lB [.bool true] false 2) fun _ hs => ?_) | refine sYe hs (sY (.bool false) hs (Yl.lB [.bool false] false 2) fun _ hs => ?_)
   first | refine sNo hs fun _ hs => ?_ | refine sNu hs fun _ hs => ?_ | refine sYe hs (sPr (.bool true) hs fun _ hs => ?_) | refine sYe hs (sPr (.bool false) hs fun _ hs => ?_)
   first | refine sNo hs fun _ hs => ?_ | refine sNu hs fun _ hs => ?_ | refine sYe hs (sP (pt b4 0) hs fun _ hs => ?_)
   first | refine sNo hs fun _ hs => ?_ | refine sNu hs fun _ hs => ?_ | refine sYe hs (sY (.bool true) hs (Yl.lB [.bool true] false 1) fun _ hs => ?_) | refine sYe hs (sY (.bool false) hs (Yl.lB [.bool false] false 1) fun _ hs => ?_)
   first | refine sNo hs fun _ hs => ?_ | refine sNu hs fun _ hs => ?_ | refine sYe hs (sPr (.bool true) hs fun _ hs => ?_) | refine sYe hs (sPr (.bool false) hs fun _ hs => ?_)
   first | refine sPr (.bool true) hs fun _ hs => ?_ | refine sPr (.bool false) hs fun _ hs => ?_
   exact wpList_nil (hs.wk ⟨rfl, rfl, rfl, rfl, trivial⟩))
 refine wpList_cut 10 (fun a w => Sx 32 E [] M w a [(2, pt b3 0), (3, pt b4 0), (4, pt b5 0), (14, .bool (e1 || (f1 && e2))), (24, .bool (t1 || (f1 && t2)))] [⟨b5, 202, [.bool false, .bool false, .bool false]⟩, ⟨b4, 202, [.bool e2, .bool t2, .bool f2]⟩, ⟨b3, 202, [.bool e1, .bool t1, .bool f1]⟩] []) ?_ fun a w hs => ?_
 ·cases t1 <;> cases f1 <;> cases t2 <;> (
   refine sP (pt b3 1) hs fun _ hs => ?_
   first | refine sY (.bool true) hs (Yl.lB [.bool true] false 2) fun _ hs => ?_ | refine sY (.bool false) hs (Yl.lB [.bool false] false 2) fun _ hs => ?_
   first | refine sPr (.bool true) hs fun _ hs => ?_ | refine sPr (.bool false) hs fun _ hs => ?_
   first | refine sNo hs fun _ hs => ?_ | refine sNu hs fun _ hs => ?_ | refine sYe hs (sP (pt b3 2) hs fun _ hs => ?_)
   first | refine sNo hs fun _ hs => ?_ | refine sNu hs fun _ hs => ?_ | refine sYe hs (sY (.bool true) hs (Yl.lB [.bool true] false 2) fun _ hs => ?_) | refine sYe hs (sY (.bool false) hs (Yl.lB [.bool false] false 2) fun _ hs => ?_)
   first | refine sNo hs fun _ hs => ?_ | refine sNu hs fun _ hs => ?_ | refine sYe hs (sPr (.bool true) hs fun _ hs => ?_) | refine sYe hs (sPr (.bool false) hs fun _ hs => ?_)
   first | refine sNo hs fun _ hs => ?_ | refine sNu hs fun _ hs => ?_ | refine sYe hs (sP (pt b4 1) hs fun _ hs => ?_)
   first | refine sNo hs fun _ hs => ?_ | refine sNu hs fun _ hs => ?_ | refine sYe hs (sY (.bool true) hs (Yl.lB [.bool true] false 1) fun _ hs => ?_) | refine sYe hs (sY (.bool false) hs (Yl.lB [.bool false] false 1) fun _ hs => ?_)
   first | refine sNo hs fun _ hs => ?_ | refine sNu hs fun _ hs => ?_ | refine sYe hs (sPr (.bool true) hs fun _ hs => ?_) | refine sYe hs (sPr (.bool false) hs fun _ hs => ?_)
   first | refine sPr (.bool true) hs fun _ hs => ?_ | refine sPr (.bool false) hs fun _ hs => ?_
   exact wpList_nil (hs.wk ⟨rfl, rfl, rfl, rfl, rfl, trivial⟩))
 refine wpList_cut 6 (fun a w => Sx 32 E [] M w a [(2, pt b3 0), (3, pt b4 0), (4, pt b5 0), (14, .bool (e1 || (f1 && e2))), (24, .bool (t1 || (f1 && t2))), (30, .bool (f1 && f2))] [⟨b5, 202, [.bool false, .bool false, .bool false]⟩, ⟨b4, 202, [.bool e2, .bool t2, .bool f2]⟩, ⟨b3, 202, [.bool e1, .bool t1, .bool f1]⟩] []) ?_ fun a w hs => ?_
 ·cases f1 <;> cases f2 <;> (
   refine sP (pt b3 2) hs fun _ hs => ?_
   first | refine sY (.bool true) hs (Yl.lB [.bool true] false 2) fun _ hs => ?_ | refine sY (.bool false) hs (Yl.lB [.bool false] false 2) fun _ hs => ?_
   first | refine sPr (.bool true) hs fun _ hs => ?_ | refine sPr (.bool false) hs fun _ hs => ?_
   first | refine sNo hs fun _ hs => ?_ | refine sNu hs fun _ hs => ?_ | refine sYe hs (sP (pt b4 2) hs fun _ hs => ?_)
   first | refine sNo hs fun _ hs => ?_ | refine sNu hs fun _ hs => ?_ | refine sYe hs (sY (.bool true) hs (Yl.lB [.bool true] false 1) fun _ hs => ?_) | refine sYe hs (sY (.bool false) hs (Yl.lB [.bool false] false 1) fun _ hs => ?_)
   first | refine sPr (.bool true) hs fun _ hs => ?_ | refine sPr (.bool false) hs fun _ hs => ?_
   exact wpList_nil (hs.wk ⟨rfl, rfl, rfl, rfl, rfl, rfl, trivial⟩))
 refine sP (X_api_Facts.mk (e1 || (f1 && e2)) (t1 || (f1 && t2)) (f1 && f2)).val hs fun _ hs => ?_
 refine stB 0 [.bool (e1 || (f1 && e2)), .bool (t1 || (f1 && t2)), .bool (f1 && f2)] [⟨b5, 202, [.bool (e1 || (f1 && e2)), .bool (t1 || (f1 && t2)), .bool (f1 && f2)]⟩, ⟨b4, 202, [.bool e2, .bool t2, .bool f2]⟩, ⟨b3, 202, [.bool e1, .bool t1, .bool f1]⟩] hs fun _ _ hs => ?_
 exact wpList_nil (Wp.ret (lvE K hs (resC (vs := [.bool (e1 || (f1 && e2)), .bool (t1 || (f1 && t2)), .bool (f1 && f2)]) true 0 hs rfl rfl rfl (by kernel_rfl) rfl) hMM.2 hK))
end Go.Proofs.Ytifkffmecfgpeaa.core

namespace Go.Proofs.Ytifkffmecfgpeaa.core
open Go.Gx Go.RowKit Go.ChangeShapes Go.WideShapes Go.ChangeAt
set_option linter.unusedVariables false
abbrev Fa := X_api_Facts
def fa0 : Fa := ⟨false, false, false⟩
def faThen (a b : Fa) : Fa := ⟨a.Empty && b.Empty, (a.Eats && (b.Empty || b.Eats)) || (a.Empty && b.Eats), a.Fails || ((a.Empty || a.Eats) && b.Fails)⟩
def faOr (a b : Fa) : Fa := ⟨a.Empty || (a.Fails && b.Empty), a.Eats || (a.Fails && b.Eats), a.Fails && b.Fails⟩
def faStar (f : Fa) : Fa := ⟨f.Fails, f.Eats, false⟩
def faAnd (f : Fa) : Fa := ⟨f.Empty || f.Eats, false, f.Fails⟩
def faNot (f : Fa) : Fa := ⟨f.Fails, false, f.Empty || f.Eats⟩
def faUni (a b : Fa) : Fa := ⟨a.Empty || b.Empty, a.Eats || b.Eats, a.Fails || b.Fails⟩
def thenL : List Fa → Fa
 | [] => fa0
 | a :: l => l.foldl faThen a
def thenR : List Fa → Fa
 | [] => fa0
 | [a] => a
 | a :: l => faThen a (thenR l)
def orL : List Fa → Fa
 | [] => fa0
 | [a] => a
 | a :: l => faOr a (orL l)
def hdF (l : List Fa) : Fa := l.headD fa0
theorem then_assoc : ∀ a b c : Fa, faThen (faThen a b) c = faThen a (faThen b c) := by
 rintro ⟨_ | _, _ | _, _ | _⟩ ⟨_ | _, _ | _, _ | _⟩ ⟨_ | _, _ | _, _ | _⟩ <;> rfl
theorem thenL_snoc {l : List Fa} (h : l ≠ []) (a : Fa) : thenL (l ++ [a]) = faThen (thenL l) a := by
 cases l with
 | nil => exact absurd rfl h
 | cons b r => simp [thenL]
theorem fold_then (a b : Fa) : ∀ l : List Fa, l.foldl faThen (faThen a b) = faThen a (l.foldl faThen b)
 | [] => rfl
 | c :: l => by rw [List.foldl_cons, List.foldl_cons, then_assoc, fold_then a (faThen b c) l]
theorem thenL_R : ∀ l : List Fa, thenL l = thenR l
 | [] => rfl
 | [a] => rfl
 | a :: b :: l => by
  have := thenL_R (b :: l)
  rw [thenR, ← this, thenL, thenL, List.foldl_cons, fold_then]
  simp
def opF (k : Int) (s : X_api_Set) (r : Fa) (l : List Fa) : Fa :=
 if k = 1 then ⟨true, false, false⟩ else if k = 2 then ⟨false, !zs s, true⟩ else if k = 3 then ⟨false, true, true⟩ else if k = 4 then r
 else if k = 5 then thenL l else if k = 6 then orL l else if k = 7 then faStar (hdF l) else if k = 8 then faThen (hdF l) (faStar (hdF l))
 else if k = 9 then faOr (hdF l) ⟨true, false, false⟩ else if k = 10 then faAnd (hdF l) else faNot (hdF l)
def refF (rs : List Ru) (kn : List Fa) (s : List UInt8) : Fa := (kn[(findR s rs 0).toNat]?).getD fa0
mutual
def ofE (rs : List Ru) (kn : List Fa) : Ex → Fa
 | .mk k s t ks => opF k s (refF rs kn t) (ofEs rs kn ks)
def ofEs (rs : List Ru) (kn : List Fa) : List Ex → List Fa
 | [] => []
 | k :: ks => ofE rs kn k :: ofEs rs kn ks
end
theorem ofEs_map (rs : List Ru) (kn : List Fa) : ∀ ks, ofEs rs kn ks = ks.map (ofE rs kn)
 | [] => by rw [ofEs]; rfl
 | k :: ks => by rw [ofEs, ofEs_map rs kn ks]; rfl
theorem ofE_eq (rs : List Ru) (kn : List Fa) (e : Ex) : ofE rs kn e = opF e.kind e.set (refF rs kn e.text) (e.kids.map (ofE rs kn)) := by
 cases e; rw [ofE, ofEs_map]; rfl
def faLe (a b : Fa) : Prop := (a.Empty = true → b.Empty = true) ∧ (a.Eats = true → b.Eats = true) ∧ (a.Fails = true → b.Fails = true)
def bit (b : Bool) : Nat := if b then 1 else 0
def faWt (a : Fa) : Nat := bit a.Empty + bit a.Eats + bit a.Fails
theorem faLat : Lat faLe faUni faWt 3 where
 refl := fun a => ⟨id, id, id⟩
 trans := fun h k => ⟨k.1 ∘ h.1, k.2.1 ∘ h.2.1, k.2.2 ∘ h.2.2⟩
 anti := by rintro ⟨_ | _, _ | _, _ | _⟩ ⟨_ | _, _ | _, _ | _⟩ <;> simp [faLe]
 left := by rintro ⟨_ | _, _ | _, _ | _⟩ ⟨_ | _, _ | _, _ | _⟩ <;> simp [faLe, faUni]
 right := by rintro ⟨_ | _, _ | _, _ | _⟩ ⟨_ | _, _ | _, _ | _⟩ <;> simp [faLe, faUni]
 least := by rintro ⟨_ | _, _ | _, _ | _⟩ ⟨_ | _, _ | _, _ | _⟩ ⟨_ | _, _ | _, _ | _⟩ <;> simp [faLe, faUni]
 mono := by rintro ⟨_ | _, _ | _, _ | _⟩ ⟨_ | _, _ | _, _ | _⟩ <;> simp [faLe, faWt, bit]
 strict := by rintro ⟨_ | _, _ | _, _ | _⟩ ⟨_ | _, _ | _, _ | _⟩ <;> simp [faLe, faWt, bit]
 bound := by rintro ⟨_ | _, _ | _, _ | _⟩ <;> simp [faWt, bit]
theorem then_mono : ∀ {a b c d : Fa}, faLe a c → faLe b d → faLe (faThen a b) (faThen c d) := by
 intro a b c d h k
 obtain ⟨h1, h2, h3⟩ := h
 obtain ⟨k1, k2, k3⟩ := k
 refine ⟨?_, ?_, ?_⟩ <;> simp only [faThen, Bool.and_eq_true, Bool.or_eq_true]
 ·exact fun ⟨p, q⟩ => ⟨h1 p, k1 q⟩
 ·rintro (⟨p, q⟩ | ⟨p, q⟩)
  ·exact .inl ⟨h2 p, q.imp k1 k2⟩
  ·exact .inr ⟨h1 p, k2 q⟩
 ·rintro (p | ⟨p, q⟩)
  ·exact .inl (h3 p)
  ·exact .inr ⟨p.imp h1 h2, k3 q⟩
theorem or_mono : ∀ {a b c d : Fa}, faLe a c → faLe b d → faLe (faOr a b) (faOr c d) := by
 intro a b c d h k
 obtain ⟨h1, h2, h3⟩ := h
 obtain ⟨k1, k2, k3⟩ := k
 refine ⟨?_, ?_, ?_⟩ <;> simp only [faOr, Bool.and_eq_true, Bool.or_eq_true]
 ·exact fun p => p.imp h1 fun ⟨p, q⟩ => ⟨h3 p, k1 q⟩
 ·exact fun p => p.imp h2 fun ⟨p, q⟩ => ⟨h3 p, k2 q⟩
 ·exact fun ⟨p, q⟩ => ⟨h3 p, k3 q⟩
theorem star_mono : ∀ {a c : Fa}, faLe a c → faLe (faStar a) (faStar c) := fun h => ⟨h.2.2, h.2.1, id⟩
theorem and_mono : ∀ {a c : Fa}, faLe a c → faLe (faAnd a) (faAnd c) := fun h => ⟨by simp only [faAnd, Bool.or_eq_true]; exact fun p => p.imp h.1 h.2.1, id, h.2.2⟩
theorem not_mono : ∀ {a c : Fa}, faLe a c → faLe (faNot a) (faNot c) := fun h => ⟨h.2.2, id, by simp only [faNot, Bool.or_eq_true]; exact fun p => p.imp h.1 h.2.1⟩
theorem thenR_mono : ∀ {l k : List Fa}, leL faLe l k → faLe (thenR l) (thenR k)
 | [], k, h => by have := h.1; have : k = [] := List.eq_nil_of_length_eq_zero (by simpa using this.symm); subst this; exact faLat.refl _
 | [a], k, h => by
  obtain ⟨b, rfl⟩ : ∃ b, k = [b] := List.length_eq_one_iff.1 (by simpa using h.1.symm)
  exact h.2 0 a b rfl rfl
 | a :: x :: l, k, h => by
  obtain ⟨b, k, rfl⟩ : ∃ b k', k = b :: k' := by cases k with | nil => have := h.1; simp at this | cons b k => exact ⟨b, k, rfl⟩
  have ht : leL faLe (x :: l) k := ⟨by simpa using h.1, fun i p q hp hq => h.2 (i + 1) p q (by simpa using hp) (by simpa using hq)⟩
  cases k with
  | nil => have := ht.1; simp at this
  | cons y k =>
   simp only [thenR]
   exact then_mono (h.2 0 a b rfl rfl) (thenR_mono ht)
theorem orL_mono : ∀ {l k : List Fa}, leL faLe l k → faLe (orL l) (orL k)
 | [], k, h => by have := h.1; have : k = [] := List.eq_nil_of_length_eq_zero (by simpa using this.symm); subst this; exact faLat.refl _
 | [a], k, h => by
  obtain ⟨b, rfl⟩ : ∃ b, k = [b] := List.length_eq_one_iff.1 (by simpa using h.1.symm)
  exact h.2 0 a b rfl rfl
 | a :: x :: l, k, h => by
  obtain ⟨b, k, rfl⟩ : ∃ b k', k = b :: k' := by cases k with | nil => have := h.1; simp at this | cons b k => exact ⟨b, k, rfl⟩
  have ht : leL faLe (x :: l) k := ⟨by simpa using h.1, fun i p q hp hq => h.2 (i + 1) p q (by simpa using hp) (by simpa using hq)⟩
  cases k with
  | nil => have := ht.1; simp at this
  | cons y k =>
   simp only [orL]
   exact or_mono (h.2 0 a b rfl rfl) (orL_mono ht)
theorem hdF_mono {l k : List Fa} (h : leL faLe l k) : faLe (hdF l) (hdF k) := by
 cases l with
 | nil => have := h.1; have : k = [] := List.eq_nil_of_length_eq_zero (by simpa using this.symm); subst this; exact faLat.refl _
 | cons a l => cases k with
  | nil => have := h.1; simp at this
  | cons b k => exact h.2 0 a b rfl rfl
theorem opF_mono {k : Int} {s : X_api_Set} {r r' : Fa} {l l' : List Fa} (hr : faLe r r') (hl : leL faLe l l') : faLe (opF k s r l) (opF k s r' l') := by
 have h1 := hdF_mono hl
 unfold opF
 split; · exact faLat.refl _
 split; · exact faLat.refl _
 split; · exact faLat.refl _
 split; · exact hr
 split; · rw [thenL_R, thenL_R]; exact thenR_mono hl
 split; · exact orL_mono hl
 split; · exact star_mono h1
 split; · exact then_mono h1 (star_mono h1)
 split; · exact or_mono h1 (faLat.refl _)
 split; · exact and_mono h1
 exact not_mono h1
theorem refF_mono {rs : List Ru} {kn z : List Fa} (h : leL faLe kn z) (s : List UInt8) : faLe (refF rs kn s) (refF rs z s) := by
 unfold refF
 by_cases hi : (findR s rs 0).toNat < kn.length
 ·obtain ⟨a, ha⟩ := getN hi
  obtain ⟨b, hb⟩ := getN (l := z) (i := (findR s rs 0).toNat) (by have := h.1; omega)
  rw [ha, hb]; exact h.2 _ _ _ ha hb
 ·rw [List.getElem?_eq_none (by omega), List.getElem?_eq_none (by have := h.1; omega)]; exact faLat.refl _
theorem ofE_mono {rs : List Ru} {kn z : List Fa} (h : leL faLe kn z) (e : Ex) : faLe (ofE rs kn e) (ofE rs z e) := by
 induction hn : SizeOf.sizeOf e using Nat.strongRecOn generalizing e with
 | _ n ih =>
  subst hn
  rw [ofE_eq, ofE_eq]
  refine opF_mono (refF_mono h _) ⟨by simp, fun i a b ha hb => ?_⟩
  rw [List.getElem?_map] at ha hb
  cases hk : e.kids[i]? with
  | none => rw [hk] at ha; cases ha
  | some k =>
   rw [hk] at ha hb
   simp only [Option.map_some, Option.some.injEq] at ha hb
   subst ha hb
   exact ih _ (Ex.kid_lt (List.mem_of_getElem? hk)) k rfl
def Fof (rs : List Ru) (kn : List Fa) (i : Nat) : Fa := match rs[i]? with
 | some r => ofE rs kn r.body
 | none => fa0
theorem Fof_mono (rs : List Ru) (n : Nat) : MonoF faLe (Fof rs) n := fun kn z i _ _ h => by
 unfold Fof
 split
 ·exact ofE_mono h _
 ·exact faLat.refl _
theorem Xf_len (x : Fa) : x.cells.length = 3 := rfl
theorem then_is (a b : Fa) (M : Mem) (K : Value → Prop) (h : K (faThen a b).val) : S_well_then a b M K := h
theorem or_is (a b : Fa) (M : Mem) (K : Value → Prop) (h : K (faOr a b).val) : S_well_or a b M K := h
end Go.Proofs.Ytifkffmecfgpeaa.core

namespace Go.Proofs.Ytifkffmecfgpeaa.core
open Go.Gx Go.RowKit Go.ChangeShapes Go.WideShapes Go.ChangeAt
set_option linter.unusedVariables false
theorem kid_is {rs : List Ru} {kn : List Fa} {e : Ex} {ga ra : Option Addr} {gl gc rc : Nat} {x : X_api_Expr} {M M' : Mem} {b2 b3 b4 : Nat}
  (hon : ∀ (k : Ex) (y : X_api_Expr) (K : Value → Prop), k ∈ e.kids → ExR M' k y → K (ofE rs kn k).val → S_well_of ga gl gc ra kn.length rc y M' K)
  (hR : ExR M e x) (hle : M.le M') (h2 : At M' b2 0 [Value.slice ga gl gc]) (h3 : At M' b3 0 [Value.slice ra kn.length rc]) (h4 : At M' b4 0 x.cells)
  (i : Int) (h0 : 0 ≤ i) (k : Ex) (hk : e.kids[i.toNat]? = some k) (K : Value → Prop) (hK : K (ofE rs kn k).val) : S_well_of_1 i b2 b3 b4 M' K := by
 obtain ⟨xs, hx⟩ := (hR.le hle).open
 obtain ⟨b, o, y, ha, hat, hy, _⟩ := hx.kid hk
 have hlt := (List.getElem?_eq_some_iff.1 hk).1
 unfold S_well_of_1
 refine ⟨_, _, _, h2, _, _, _, h3, _, _, _, (h4.part 6 [Value.slice x.Kids_a x.Kids_l x.Kids_c] rfl), b, o, ha, h0, by rw [hx.len]; omega, y, hat, ?_⟩
 exact s_well_of _ _ _ _ _ _ _ _ _ (hon k y _ (List.mem_of_getElem? hk) hy ⟨_, rfl, hK⟩)
theorem star_is (a : Fa) (M : Mem) (K : Value → Prop) (h : K (faStar a).val) : S_well_star a M K := h
theorem of_is {rs : List Ru} {kn : List Fa} {ga ra : Option Addr} {gl gc rc : Nat} (hlen : kn.length = rs.length) : ∀ (n : Nat) (e : Ex), SizeOf.sizeOf e < n → ∀ {M : Mem} {x : X_api_Expr} {K : Value → Prop}, ExR M e x → GrR M rs ga gl gc →
  SlV M ra kn.length rc 3 (cl X_api_Facts.cells kn) → GoodE rs e → K (ofE rs kn e).val → S_well_of ga gl gc ra kn.length rc x M K := by
 intro n
 induction n with
 | zero => intro e h; omega
 | succ n ih =>
  intro e hn M x K hR hg hkn hgood hK
  obtain ⟨xs, hx⟩ := hR.open
  obtain ⟨g1, g2, g3, g4, g5, g6, g7, g8⟩ := fitE_kinds hgood.fit
  have hon : ∀ M', M.le M' → ∀ (k : Ex) (y : X_api_Expr) (K : Value → Prop), k ∈ e.kids → ExR M' k y → K (ofE rs kn k).val → S_well_of ga gl gc ra kn.length rc y M' K := fun M' hle k y K hk hy hK =>
   ih k (by have := Ex.kid_lt hk; omega) hy (hg.le hle) (hkn.le hle) (hgood.kid k hk) hK
  have kid := fun {M' b2 b3 b4} (hle : M.le M') => kid_is (e := e) (M := M) (M' := M') (b2 := b2) (b3 := b3) (b4 := b4) (hon M' hle) hR hle
  rw [ofE_eq] at hK
  have hL : ∀ (i : Nat) k, e.kids[i]? = some k → (e.kids.map (ofE rs kn))[i]? = some (ofE rs kn k) := fun i k hk => by rw [List.getElem?_map, hk]; rfl
  generalize hLd : e.kids.map (ofE rs kn) = l at hK hL
  have hll : l.length = e.kids.length := by rw [← hLd]; simp
  have hat3 : ∀ {M : Mem} {b : Nat}, At M b 0 [Value.int .i64 e.kind, Value.int .u64 x.Set.w0, Value.int .u64 x.Set.w1, Value.int .u64 x.Set.w2, Value.int .u64 x.Set.w3, Value.string (mkS x.Text), Value.slice x.Kids_a x.Kids_l x.Kids_c] → At M b 0 x.cells := fun h => by rw [← hx.kind] at h; exact h
  have one : 7 ≤ e.kind → ∃ k, e.kids[(0 : Int).toNat]? = some k ∧ hdF l = ofE rs kn k := fun h7 => by
   obtain ⟨k, hk⟩ := getN (l := e.kids) (i := 0) (by have := g5 h7; omega)
   refine ⟨k, hk, ?_⟩
   have := hL 0 k hk
   cases l with
   | nil => simp at this
   | cons a r => simp at this; exact this
  unfold opF at hK
  unfold S_well_of
  rw [hx.kind]
  refine ⟨fun h => ?_, fun n1 => ⟨fun h => ?_, fun n2 => ⟨fun h => ?_, fun n3 => ⟨fun h => ?_, fun n4 => ⟨fun h => ?_, fun n5 => ⟨fun h => ?_, fun n6 => ⟨fun h => ?_, fun n7 => ⟨fun h => ?_, fun n8 => ⟨fun h => ?_, fun n9 => ?_⟩⟩⟩⟩⟩⟩⟩⟩⟩
  ·rw [if_pos h] at hK; exact hK
  ·rw [if_neg n1, if_pos h, ← hx.set] at hK; exact hK
  ·rw [if_neg n1, if_neg n2, if_pos h] at hK; exact hK
  ·rw [if_neg n1, if_neg n2, if_neg n3, if_pos h] at hK
   have hr := hgood.ref h
   obtain ⟨hlt, hlt'⟩ := findR_lt hr
   obtain ⟨a, ha⟩ := getN (l := kn) (i := (findR e.text rs 0).toNat) (by omega)
   obtain ⟨b, o, hb, hat⟩ := hkn.at Xf_len rfl ha
   rw [hx.text]
   refine s_gram_Find _ _ _ _ _ _ (find_is hg e.text _ ⟨_, rfl, b, o, hb, hr, by omega, a, hat, ?_⟩)
   rw [refF, ha] at hK; exact hK
  ·rw [if_neg n1, if_neg n2, if_neg n3, if_neg n4, if_pos h] at hK
   obtain ⟨q1, q2⟩ := g4 (.inl h)
   obtain ⟨k0, hk0⟩ := getN (l := e.kids) (i := 0) (by omega)
   intro M1 b8 hl1 hb8 M2 b9 hl2 hb9 M3 b10 hl3 hb10
   have hle := (hl1.trans hl2).trans hl3
   refine s_well_of_1 _ _ _ _ _ _ (kid hle (hb8.le (hl2.trans hl3)) (hb9.le hl3) (hat3 hb10) 0 (by omega) k0 hk0 _ ⟨_, rfl, ?_⟩)
   refine ⟨fun i a b c => 1 ≤ i ∧ i ≤ l.length ∧ (⟨a, b, c⟩ : Fa) = thenL (l.take i.toNat), fun i _ _ _ => l.length - i.toNat, ⟨by omega, by omega, ?_⟩, fun i a b c ⟨i1, i2, i3⟩ => ?_⟩
   ·have := hL 0 k0 hk0
    cases l with
    | nil => simp at this
    | cons y r => simp at this; subst this; rfl
   ·refine ⟨_, _, _, (hat3 hb10).part 6 [Value.slice x.Kids_a x.Kids_l x.Kids_c] rfl, fun hlt => ?_, fun hge => ?_⟩
    ·rw [hx.len] at hlt
     obtain ⟨k, hk⟩ := getI (l := e.kids) (i := i) (by omega) (by omega)
     refine s_well_of_1 _ _ _ _ _ _ (kid hle (hb8.le (hl2.trans hl3)) (hb9.le hl3) (hat3 hb10) i (by omega) k hk _ ⟨_, rfl, s_well_then _ _ _ _ (then_is _ _ _ _ ⟨_, rfl, by unfold InI; omega, ⟨by omega, by omega, ?_⟩, by dsimp only; omega⟩)⟩)
     rw [i3, show (i + 1).toNat = i.toNat + 1 by omega, take_get (hL _ k hk), thenL_snoc]
     intro h0
     have := congrArg List.length h0
     rw [List.length_take, List.length_nil] at this; omega
    ·rw [hx.len] at hge
     rw [List.take_of_length_le (by omega)] at i3
     rw [← i3] at hK; exact hK
  ·rw [if_neg n1, if_neg n2, if_neg n3, if_neg n4, if_neg n5, if_pos h] at hK
   obtain ⟨q1, q2⟩ := g4 (.inr h)
   have hxl := hx.len
   refine ⟨by unfold InI; omega, fun M1 b8 hl1 hb8 M2 b9 hl2 hb9 M3 b10 hl3 hb10 => ?_⟩
   have hle := (hl1.trans hl2).trans hl3
   obtain ⟨k0, hk0⟩ := getI (l := e.kids) (i := (x.Kids_l : Int) - 1) (by omega) (by omega)
   refine s_well_of_1 _ _ _ _ _ _ (kid hle (hb8.le (hl2.trans hl3)) (hb9.le hl3) (hat3 hb10) _ (by omega) k0 hk0 _ ⟨_, rfl, ?_⟩)
   refine ⟨_, _, _, (hat3 hb10).part 6 [Value.slice x.Kids_a x.Kids_l x.Kids_c] rfl, by unfold InI; omega, ?_⟩
   refine ⟨fun i a b c => -1 ≤ i ∧ i ≤ (l.length : Int) - 2 ∧ (⟨a, b, c⟩ : Fa) = orL (l.drop (i + 1).toNat), fun i _ _ _ => (i + 1).toNat, ⟨by omega, by omega, ?_⟩, fun i a b c ⟨i1, i2, i3⟩ => ⟨fun hge => ?_, fun hlt => ?_⟩⟩
   ·have h1 := hL _ k0 hk0
    rw [show ((x.Kids_l : Int) - 2 + 1).toNat = ((x.Kids_l : Int) - 1).toNat by omega, drop_get h1, List.drop_of_length_le (by omega)]; rfl
   ·obtain ⟨k, hk⟩ := getI (l := e.kids) (i := i) (by omega) (by omega)
    refine s_well_of_1 _ _ _ _ _ _ (kid hle (hb8.le (hl2.trans hl3)) (hb9.le hl3) (hat3 hb10) i (by omega) k hk _ ⟨_, rfl, s_well_or _ _ _ _ (or_is _ _ _ _ ⟨_, rfl, by unfold InI; omega, ⟨by omega, by omega, ?_⟩, by dsimp only; omega⟩)⟩)
    rw [i3, show (i - 1 + 1).toNat = i.toNat by omega, drop_get (hL _ k hk), show (i + 1).toNat = i.toNat + 1 by omega]
    cases hd : l.drop (i.toNat + 1) with
    | nil => have := congrArg List.length hd; simp at this; omega
    | cons y r => rfl
   ·rw [show (i + 1).toNat = 0 by omega, List.drop_zero] at i3
    rw [← i3] at hK; exact hK
  ·rw [if_neg n1, if_neg n2, if_neg n3, if_neg n4, if_neg n5, if_neg n6, if_pos h] at hK
   obtain ⟨k0, hk0, hhd⟩ := one (by omega)
   rw [hhd] at hK
   intro M1 b8 hl1 hb8 M2 b9 hl2 hb9 M3 b10 hl3 hb10
   have hle := (hl1.trans hl2).trans hl3
   exact s_well_of_1 _ _ _ _ _ _ (kid hle (hb8.le (hl2.trans hl3)) (hb9.le hl3) (hat3 hb10) 0 (by omega) k0 hk0 _ ⟨_, rfl, s_well_star _ _ _ (star_is _ _ _ ⟨_, rfl, hK⟩)⟩)
  ·rw [if_neg n1, if_neg n2, if_neg n3, if_neg n4, if_neg n5, if_neg n6, if_neg n7, if_pos h] at hK
   obtain ⟨k0, hk0, hhd⟩ := one (by omega)
   rw [hhd] at hK
   intro M1 b8 hl1 hb8 M2 b9 hl2 hb9 M3 b10 hl3 hb10
   have hle := (hl1.trans hl2).trans hl3
   have kk := fun K hK => s_well_of_1 _ _ _ _ _ _ (kid hle (hb8.le (hl2.trans hl3)) (hb9.le hl3) (hat3 hb10) 0 (by omega) k0 hk0 K hK)
   exact kk _ ⟨_, rfl, kk _ ⟨_, rfl, s_well_star _ _ _ (star_is _ _ _ ⟨_, rfl, s_well_then _ _ _ _ (then_is _ _ _ _ ⟨_, rfl, hK⟩)⟩)⟩⟩
  ·rw [if_neg n1, if_neg n2, if_neg n3, if_neg n4, if_neg n5, if_neg n6, if_neg n7, if_neg n8, if_pos h] at hK
   obtain ⟨k0, hk0, hhd⟩ := one (by omega)
   rw [hhd] at hK
   intro M1 b8 hl1 hb8 M2 b9 hl2 hb9 M3 b10 hl3 hb10
   have hle := (hl1.trans hl2).trans hl3
   exact s_well_of_1 _ _ _ _ _ _ (kid hle (hb8.le (hl2.trans hl3)) (hb9.le hl3) (hat3 hb10) 0 (by omega) k0 hk0 _ ⟨_, rfl, s_well_or _ _ _ _ (or_is _ _ _ _ ⟨_, rfl, hK⟩)⟩)
  ·rw [if_neg n1, if_neg n2, if_neg n3, if_neg n4, if_neg n5, if_neg n6, if_neg n7, if_neg n8, if_neg n9] at hK
   obtain ⟨k0, hk0, hhd⟩ := one (by omega)
   rw [hhd] at hK
   intro M1 b8 hl1 hb8 M2 b9 hl2 hb9 M3 b10 hl3 hb10
   have hle := (hl1.trans hl2).trans hl3
   have j1 : ∀ b : Bool, b = ((ofE rs kn k0).Empty || (ofE rs kn k0).Eats) → S_well_of_J1 b10 M3 (ofE rs kn k0) b K := by
    rintro b rfl
    unfold S_well_of_J1
    refine ⟨_, (hat3 hb10).part 0 [Value.int .i64 x.Kind] rfl, fun h => ?_, fun h => ?_⟩
    ·rw [hx.kind] at h; rw [if_pos h] at hK; exact hK
    ·rw [hx.kind] at h; rw [if_neg h] at hK; exact hK
   refine s_well_of_1 _ _ _ _ _ _ (kid hle (hb8.le (hl2.trans hl3)) (hb9.le hl3) (hat3 hb10) 0 (by omega) k0 hk0 _ ⟨_, rfl, fun h => j1 _ (by simp [h]), fun h => j1 _ (by simp [h])⟩)
theorem facts1_is {rs : List Ru} {kn : List Fa} {ga ra : Option Addr} {gl gc rc b5 : Nat} {M : Mem} (hok : GramOk rs) (hlen : kn.length = rs.length) (hg : GrR M rs ga gl gc) (hkn : SlV M ra kn.length rc 3 (cl X_api_Facts.cells kn)) (h5 : At M b5 0 [Value.slice ga gl gc])
  (i : Int) (h0 : 0 ≤ i) (h1 : i < rs.length) (K : Value → Prop) (hK : K (Fof rs kn i.toNat).val) : S_well_facts_1 ra kn.length rc i b5 M K := by
 obtain ⟨r, x, b, o, hr, ha, hat, hrr⟩ := hg.at h0 (by rw [hg.len]; exact h1)
 unfold S_well_facts_1
 refine ⟨_, _, _, h5, _, _, _, h5, b, o, ha, h0, by rw [hg.len]; exact h1, x.Body, hat.part 1 x.Body.cells rfl, s_well_of _ _ _ _ _ _ _ _ _ (of_is hlen _ r.body (Nat.lt_succ_self _) hrr.2.2 hg hkn (hok.good r (List.mem_of_getElem? hr)) ⟨_, rfl, ?_⟩)⟩
 rw [Fof, hr] at hK
 exact hK
end Go.Proofs.Ytifkffmecfgpeaa.core

namespace Go.Proofs.Ytifkffmecfgpeaa.core
open Go.Gx Go.RowKit Go.ChangeShapes Go.WideShapes Go.ChangeAt
set_option linter.unusedVariables false
structure GrowI (M M' : Mem) (e size : Nat) (ad : Option Addr) (n cap : Nat) (xs : List Value) : Prop where
 le : M.le M'
 row : RowW M' e size ad n cap xs
 new : ∀ g o, ad = some ⟨g, o, none⟩ → M g = none
theorem GrowI.make {M M' : Mem} {e size n cap : Nat} {ad : Option Addr} {xs : List Value} (h : NewRow M M' e size ad n cap xs) : GrowI M M' e size ad n cap xs := by
 refine ⟨h.le, h.roww, fun g o hg => ?_⟩
 obtain ⟨_, _, _, ⟨h1, _⟩ | ⟨g', cur, h1, h2, _⟩⟩ := h
 ·rw [h1] at hg; cases hg
 ·rw [h1] at hg
  simp only [Option.some.injEq, Addr.mk.injEq, and_true] at hg
  rw [← hg.1]; exact h2
theorem GrowI.more {M M' M'' : Mem} {e size n cap : Nat} {ad : Option Addr} {xs : List Value} (h : GrowI M M' e size ad n cap xs) (hl : M'.le M'') : GrowI M M'' e size ad n cap xs :=
 ⟨h.le.trans hl, h.row.le hl, h.new⟩
theorem GrowI.put {α : Type} {f : α → List Value} {M M' : Mem} {e size n cap : Nat} {ad : Option Addr} {xs : List α} (hf : ∀ x, (f x).length = size) (h : GrowI M M' e size ad n cap (cl f xs)) (hl : xs.length = n) {i b o : Nat} (hi : i < n) (had : ad = some ⟨b, o, none⟩) (x : α) :
  Has M' b (o + i * size) size ∧ M b = none ∧ GrowI M (M'.put b (o + i * size) (f x)) e size ad n cap (cl f (xs.set i x)) := by
 obtain ⟨_, h2, h3⟩ := h.row.put hf hl hi had x
 have hb := h.new b o had
 refine ⟨h2, hb, fun y q hy => ?_, h3, h.new⟩
 rw [Mem.put_ne (by rintro rfl; rw [hb] at hy; cases hy)]
 exact h.le y q hy
theorem set_same {α : Type} : ∀ {l : List α} {i : Nat} {a : α}, l[i]? = some a → l.set i a = l
 | [], _, _, h => by simp at h
 | x :: r, 0, a, h => by simp at h; subst h; rfl
 | x :: r, i + 1, a, h => by rw [List.set_cons_succ, set_same (by simpa using h)]
theorem SlV.elems {α : Type} {f : α → List Value} {M : Mem} {A : Option Addr} {l c sz : Nat} {xs : List α} (h : SlV M A l c sz (cl f xs)) (hf : ∀ x, (f x).length = sz) (h0 : 0 < sz) : xs.length = l := h.len hf h0
theorem At.inj {M : Mem} {b o : Nat} {vs us : List Value} (h : At M b o vs) (k : At M b o us) (hl : vs.length = us.length) : vs = us := by
 apply List.ext_getElem?
 intro j
 cases hv : vs[j]? with
 | none => rw [List.getElem?_eq_none_iff] at hv; rw [List.getElem?_eq_none (by omega)]
 | some v =>
  cases hu : us[j]? with
  | none => rw [List.getElem?_eq_none_iff] at hu; have := (List.getElem?_eq_some_iff.1 hv).1; omega
  | some u =>
   have h1 := h j v hv
   have h2 := k j u hu
   rw [h1] at h2; exact h2
theorem pre_bot {α : Type} {le : α → α → Prop} {F : List α → Nat → α} (bot : α) (hbot : ∀ a, le bot a) (n : Nat) : Pre le F n (List.replicate n bot) :=
 ⟨by simp, fun i a ha => by rw [(List.mem_replicate.1 (List.mem_of_getElem? ha)).2]; exact hbot _, fun z hz _ => ⟨by simp [hz], fun i a b ha _ => by rw [(List.mem_replicate.1 (List.mem_of_getElem? ha)).2]; exact hbot _⟩⟩
theorem cl_replicate {α : Type} (f : α → List Value) (n : Nat) (a : α) : cl f (List.replicate n a) = repl n (f a) := by simp [cl, repl, List.map_replicate]
theorem grow_facts {F : List Fa → Nat → Fa} {n : Nat} (hF : MonoF faLe F n) (hn : n ≤ 10) (next : Value) (M : Mem) (K : Value → Mem → Prop)
  (hnext : ∀ M' ad cap kn, M.le M' → SlV M' ad n cap 3 (cl X_api_Facts.cells kn) → kn.length = n → ∀ i : Int, 0 ≤ i → i < n → CallF Try.prog next [.slice ad n cap, .int .i64 i] M' (fun v _ => v = (F kn i.toNat).val))
  (hK : ∀ M' ad cap kn, M.le M' → SlV M' ad n cap 3 (cl X_api_Facts.cells kn) → Lfp faLe F n kn → K (.slice ad n cap) M') : S_well_grow_Facts (n : Int) next M (fun _ => False) K := by
 unfold S_well_grow_Facts
 simp only [Int.toNat_natCast]
 refine ⟨by omega, by omega, by omega, fun M6 ad cap hnr => ?_⟩
 have h6 := GrowI.make hnr
 rw [show repl n [Value.bool false, Value.bool false, Value.bool false] = cl X_api_Facts.cells (List.replicate n fa0) from (cl_replicate X_api_Facts.cells n fa0).symm] at h6
 have L := faLat
 refine ⟨List Fa, fun kn more M' => GrowI M M' _ 3 ad n cap (cl X_api_Facts.cells kn) ∧ Pre faLe F n kn ∧ (more = false → ∀ (i : Nat) a, kn[i]? = some a → F kn i = a), fun kn more => 2 * wS faWt 3 kn + (if more then 1 else 0), List.replicate n fa0, ⟨h6, pre_bot fa0 (fun a => ⟨fun h => (by cases h), fun h => (by cases h), fun h => (by cases h)⟩) n, fun h => (by cases h)⟩, fun kn more M' ⟨hg, hp, hfix⟩ => ⟨fun hmore => ?_, fun hmore => ?_⟩⟩
 ·refine ⟨List Fa, fun k2 more2 i M2 => 0 ≤ i ∧ i ≤ n ∧ GrowI M M2 _ 3 ad n cap (cl X_api_Facts.cells k2) ∧ Pre faLe F n k2 ∧ leL faLe kn k2 ∧ (more2 = true → kn ≠ k2) ∧ (more2 = false → k2 = kn ∧ ∀ (j : Nat) a, (j : Int) < i → kn[j]? = some a → F kn j = a), fun _ _ i => n - i.toNat, kn, ⟨by omega, by omega, hg, hp, leL.refl L kn, fun h => (by cases h), fun _ => ⟨rfl, fun j a h => by omega⟩⟩, fun k2 more2 i M2 ⟨h0, h1, hg2, hp2, hl2, ht2, hf2⟩ => ⟨fun hlt => ?_, fun hge => ?_⟩⟩
  ·have hkl := hp2.len
   obtain ⟨a, ha⟩ := getI (l := k2) h0 (by omega)
   have hsl := hg2.row.slv
   refine ((hnext M2 ad cap k2 hg2.le hsl hkl i h0 hlt).mono (K' := fun v M' => M2.le M' ∧ v = (F k2 i.toNat).val) fun v M' hle hv => ⟨hle, hv⟩).toW.mono (fun _ h => h) fun v M3 _ ⟨hle3, hv⟩ => ⟨_, hv, ?_⟩
   have hg3 := hg2.more hle3
   obtain ⟨b, o, had, hat⟩ := hg3.row.slv.at Xf_len hkl ha
   refine ⟨b, o, had, h0, hlt, a, hat, fun hne => ?_, fun hne => ?_⟩
   ·obtain ⟨q1, q2, q3⟩ := hg3.put Xf_len hkl (i := i.toNat) (by omega) had (F k2 i.toNat)
    have hne' : a ≠ F k2 i.toNat := fun e => hne (by rw [← e]; exact ⟨rfl, rfl, rfl⟩)
    obtain ⟨s1, s2⟩ := hp2.step L hF ha
    have hw := wS_set L ha (hp2.up _ _ ha) hne'
    refine ⟨b, o, had, h0, hlt, q1, .inr q2, fun M4 hM4 => ?_⟩
    subst hM4
    refine ⟨by unfold InI; omega, k2.set i.toNat (F k2 i.toNat), ⟨by omega, by omega, q3, s1, hl2.trans L s2, fun _ e => ?_, fun h => (by cases h)⟩, by dsimp only; omega⟩
    rw [← e] at hw
    have := (wS_le L hl2).1
    omega
   ·have hsame : F k2 i.toNat = a := by
     have hne := Classical.not_not.1 hne
     obtain ⟨e1, e2, e3⟩ := hne
     generalize F k2 i.toNat = z at e1 e2 e3
     cases z; cases a; simp only at e1 e2 e3; subst e1 e2 e3; rfl
    refine ⟨by unfold InI; omega, k2, ⟨by omega, by omega, hg3, hp2, hl2, ht2, fun hm => ?_⟩, by dsimp only; omega⟩
    obtain ⟨f1, f2⟩ := hf2 hm
    subst f1
    refine ⟨rfl, fun j x hj hx => ?_⟩
    by_cases e : (j : Int) = i
    ·have : i.toNat = j := by omega
     rw [this] at ha hsame
     rw [ha] at hx; cases hx; exact hsame
    ·exact f2 j x (by omega) hx
  ·have hkl := hp.len
   cases more2 with
   | true =>
    refine ⟨k2, ⟨hg2, hp2, fun h => (by cases h)⟩, ?_⟩
    have := (wS_le L hl2).2 (ht2 rfl)
    rw [hmore]; dsimp only; omega
   | false =>
    obtain ⟨f1, f2⟩ := hf2 rfl
    subst f1
    refine ⟨k2, ⟨hg2, hp2, fun _ j x hx => f2 j x (by have := (List.getElem?_eq_some_iff.1 hx).1; omega) hx⟩, ?_⟩
    rw [hmore]; dsimp only; simp
 ·intro M7 hle7
  have hm : more = false := by simpa using hmore
  exact hK M7 ad cap kn (hg.le.trans hle7) (hg.row.slv.le hle7) (hp.lfp L (hfix hm))
theorem facts_is {rs : List Ru} {ga : Option Addr} {gl gc : Nat} {M : Mem} (hok : GramOk rs) (hg : GrR M rs ga gl gc) (K : Value → Mem → Prop)
  (hK : ∀ M' ad cap kn, M.le M' → SlV M' ad rs.length cap 3 (cl X_api_Facts.cells kn) → Lfp faLe (Fof rs) rs.length kn → K (.slice ad rs.length cap) M') : S_well_facts ga gl gc M K := by
 unfold S_well_facts
 intro M5 b4 hle5 h5
 rw [hg.len]
 refine e_well_grow_Facts _ _ _ _ (grow_facts (Fof_mono rs _) hok.ten _ _ _ (fun M' ad cap kn hle' hsl hkl i h0 h1 => ?_) fun M' ad cap kn hle' hsl hlfp => ⟨_, _, _, rfl, fun M'' hle'' => hK M'' ad cap kn ((hle5.trans hle').trans hle'') (hsl.le hle'') hlfp⟩)
 have hg' := hg.le (hle5.trans hle')
 rw [← hkl] at hsl ⊢
 exact f_well_facts_1 _ _ _ _ _ _ (fun v => v = (Fof rs kn i.toNat).val) (facts1_is hok hkl hg' hsl (h5.le hle') i h0 h1 _ rfl)
end Go.Proofs.Ytifkffmecfgpeaa.core

namespace Go.Proofs.Ytifkffmecfgpeaa.core
open Go.Gx Go.RowKit Go.ChangeShapes Go.WideShapes Go.ChangeAt
set_option linter.unusedVariables false
def enc (f : Fa) : Int := (if f.Empty then 1 else 0) + (if f.Eats then 2 else 0) + (if f.Fails then 4 else 0)
abbrev encC (f : Fa) : List Value := [.int .i64 (enc f)]
theorem encC_len (f : Fa) : (encC f).length = 1 := rfl
theorem encC_one (f : Fa) : ∀ u ∈ encC f, u.oneCell' = true := by intro u hu; simp at hu; subst hu; rfl
theorem enc3 : ∀ f : Fa, (bAnd .i64 (enc f) 3 > 0) ↔ (f.Empty || f.Eats) = true := by rintro ⟨_ | _, _ | _, _ | _⟩ <;> decide
theorem enc1 : ∀ f : Fa, (bAnd .i64 (enc f) 1 > 0) ↔ f.Empty = true := by rintro ⟨_ | _, _ | _, _ | _⟩ <;> decide
theorem enc2 : ∀ f : Fa, (bAnd .i64 (enc f) 2 > 0) ↔ f.Eats = true := by rintro ⟨_ | _, _ | _, _ | _⟩ <;> decide
theorem enc4z : ∀ f : Fa, ((bAnd .i64 (enc f) 4 : Int) == (0 : Int)) = !f.Fails := by rintro ⟨_ | _, _ | _, _ | _⟩ <;> decide
theorem enc_uni : ∀ a b : Fa, bOr .i64 (enc a) (enc b) = enc (faUni a b) := by rintro ⟨_ | _, _ | _, _ | _⟩ ⟨_ | _, _ | _, _ | _⟩ <;> decide
theorem enc_or : ∀ a b : Fa, a.Fails = true → bOr .i64 (bAnd .i64 (enc a) 3) (enc b) = enc (faOr a b) := by rintro ⟨_ | _, _ | _, _ | _⟩ ⟨_ | _, _ | _, _ | _⟩ h <;> first | (exact absurd h (by decide)) | decide
theorem enc_star : ∀ a : Fa, bOr .i64 (bAnd .i64 (enc a) 2) (bAnd .i64 (bShr .i64 (enc a) 2) 1) = enc (faStar a) := by rintro ⟨_ | _, _ | _, _ | _⟩ <;> decide
theorem enc_and : ∀ a : Fa, bOr .i64 (if a.Empty || a.Eats then 1 else 0) (bAnd .i64 (enc a) 4) = enc (faAnd a) := by rintro ⟨_ | _, _ | _, _ | _⟩ <;> decide
theorem enc_not : ∀ a : Fa, bOr .i64 (bAnd .i64 (bShr .i64 (enc a) 2) 1) (bShl .i64 (if a.Empty || a.Eats then 1 else 0) 2) = enc (faNot a) := by rintro ⟨_ | _, _ | _, _ | _⟩ <;> decide
theorem or_stop : ∀ a b : Fa, a.Fails = false → faOr a b = a := by rintro ⟨_ | _, _ | _, _ | _⟩ ⟨_ | _, _ | _, _ | _⟩ h <;> first | (exact absurd h (by decide)) | rfl
theorem d1 (f : Fa) : decide (bAnd .i64 (enc f) 1 > 0) = f.Empty := by rw [Bool.eq_iff_iff, decide_eq_true_iff]; exact enc1 f
theorem d2 (f : Fa) : decide (bAnd .i64 (enc f) 2 > 0) = f.Eats := by rw [Bool.eq_iff_iff, decide_eq_true_iff]; exact enc2 f
theorem all_j4 (out : Int) (c : Bool) (K : Value → Prop) (h : K (.int .i64 (if c then bOr .i64 out 2 else out))) : S_chaffref_mayAll_J4 out c K := by
 unfold S_chaffref_mayAll_J4
 cases c
 ·exact ⟨fun e => (by cases e), fun _ => h⟩
 ·exact ⟨fun _ => h, fun e => absurd rfl e⟩
def eatsB (a b : Fa) : Bool := (a.Eats && (b.Empty || b.Eats)) || ((a.Empty || a.Eats) && b.Eats)
theorem all_j3 (a b : Fa) (out : Int) (K : Value → Prop) (h : K (.int .i64 (if eatsB a b then bOr .i64 out 2 else out))) : S_chaffref_mayAll_J3 (enc a) (enc b) out K := by
 have q : ∀ c : Bool, c = eatsB a b → S_chaffref_mayAll_J4 out c K := fun c e => all_j4 _ _ _ (e ▸ h)
 unfold S_chaffref_mayAll_J3
 rw [d2, enc2, enc3, enc3]
 clear h
 obtain ⟨a1, a2, a3⟩ := a
 obtain ⟨b1, b2, b3⟩ := b
 refine ⟨fun h1 => ⟨fun h2 => q _ ?_, fun h2 => ⟨fun h3 => q _ ?_, fun h3 => q _ ?_⟩⟩, fun h1 => ⟨fun h3 => q _ ?_, fun h3 => q _ ?_⟩⟩ <;> clear q <;> cases a1 <;> cases a2 <;> cases b1 <;> cases b2 <;> simp_all [eatsB]
theorem all_j2 (a b : Fa) (out : Int) (c : Bool) (K : Value → Prop) (h : K (.int .i64 (if eatsB a b then bOr .i64 (if c then bOr .i64 out 1 else out) 2 else (if c then bOr .i64 out 1 else out)))) : S_chaffref_mayAll_J2 (enc a) (enc b) out c K := by
 unfold S_chaffref_mayAll_J2
 cases c
 ·exact ⟨fun e => (by cases e), fun _ => all_j3 _ _ _ _ h⟩
 ·exact ⟨fun _ => all_j3 _ _ _ _ h, fun e => absurd rfl e⟩
theorem all_j1 (a b : Fa) (out : Int) (K : Value → Prop) (h : K (.int .i64 (if eatsB a b then bOr .i64 (if a.Empty && b.Empty then bOr .i64 out 1 else out) 2 else (if a.Empty && b.Empty then bOr .i64 out 1 else out)))) : S_chaffref_mayAll_J1 (enc a) (enc b) out K := by
 unfold S_chaffref_mayAll_J1
 rw [d1, enc1]
 refine ⟨fun h1 => all_j2 _ _ _ _ _ ?_, fun h1 => all_j2 _ _ _ _ _ ?_⟩
 ·rw [h1, Bool.true_and] at h; exact h
 ·have h1 : a.Empty = false := by simpa using h1
  rw [h1, Bool.false_and] at h; exact h
theorem enc_then : ∀ a b : Fa, (if eatsB a b then bOr .i64 (if a.Empty && b.Empty then bOr .i64 (if a.Empty || a.Eats then bOr .i64 (bAnd .i64 (enc a) 4) (bAnd .i64 (enc b) 4) else bAnd .i64 (enc a) 4) 1 else (if a.Empty || a.Eats then bOr .i64 (bAnd .i64 (enc a) 4) (bAnd .i64 (enc b) 4) else bAnd .i64 (enc a) 4)) 2
  else (if a.Empty && b.Empty then bOr .i64 (if a.Empty || a.Eats then bOr .i64 (bAnd .i64 (enc a) 4) (bAnd .i64 (enc b) 4) else bAnd .i64 (enc a) 4) 1 else (if a.Empty || a.Eats then bOr .i64 (bAnd .i64 (enc a) 4) (bAnd .i64 (enc b) 4) else bAnd .i64 (enc a) 4))) = enc (faThen a b) := by
 rintro ⟨_ | _, _ | _, _ | _⟩ ⟨_ | _, _ | _, _ | _⟩ <;> decide
theorem all_step (a b : Fa) (K : Value → Prop) (hK : K (.int .i64 (enc (faThen a b)))) :
  (bAnd .i64 (enc a) 3 > 0 → S_chaffref_mayAll_J1 (enc a) (enc b) (bOr .i64 (bAnd .i64 (enc a) 4) (bAnd .i64 (enc b) 4)) K) ∧ (¬ (bAnd .i64 (enc a) 3 > 0) → S_chaffref_mayAll_J1 (enc a) (enc b) (bAnd .i64 (enc a) 4) K) := by
 rw [← enc_then] at hK
 rw [enc3]
 refine ⟨fun h => all_j1 _ _ _ _ ?_, fun h => all_j1 _ _ _ _ ?_⟩
 ·simp only [if_pos h] at hK; exact hK
 ·simp only [if_neg h] at hK; exact hK
theorem mayAll_is : ∀ (l : List Fa), l ≠ [] → l.length ≤ 8 → ∀ {A : Option Addr} {n c : Nat} {M : Mem} {K : Value → Prop}, SlV M A n c 1 (cl encC l) → K (.int .i64 (enc (thenR l))) → S_chaffref_mayAll A n c M K
 | [], h, _, _, _, _, _, _, _, _ => absurd rfl h
 | [a], _, _, A, n, c, M, K, hsl, hK => by
  have hn := hsl.len encC_len (by omega)
  obtain ⟨b, o, ha, hat⟩ := hsl.at encC_len hn (i := 0) (x := a) rfl
  simp only [List.length_singleton] at hn
  unfold S_chaffref_mayAll
  refine ⟨fun _ => ⟨b, o, ha, by omega, by omega, _, hat, hK⟩, fun h => absurd (by omega) h⟩
 | a :: x :: l, _, hmx, A, n, c, M, K, hsl, hK => by
  have hn := hsl.len encC_len (by omega)
  obtain ⟨b, o, ha, hat⟩ := hsl.at encC_len hn (i := 0) (x := a) rfl
  simp only [List.length_cons] at hn hmx
  unfold S_chaffref_mayAll
  refine ⟨fun h => by omega, fun _ => ⟨b, o, ha, by omega, by omega, _, hat, by omega, by omega, ?_⟩⟩
  have hrest := hsl.rest 1 (by omega)
  rw [show (1 * 1 : Nat) = 1 * 1 from rfl, cl_drop encC_len 1] at hrest
  refine s_chaffref_mayAll _ _ _ _ _ (mayAll_is (x :: l) (by simp) (by simp; omega) hrest ⟨_, rfl, ?_⟩)
  simp only [thenR] at hK
  exact all_step _ _ _ hK
theorem mayOne_is : ∀ (l : List Fa), l ≠ [] → l.length ≤ 8 → ∀ {A : Option Addr} {n c : Nat} {M : Mem} {K : Value → Prop}, SlV M A n c 1 (cl encC l) → K (.int .i64 (enc (orL l))) → S_chaffref_mayOne A n c M K
 | [], h, _, _, _, _, _, _, _, _ => absurd rfl h
 | [a], _, _, A, n, c, M, K, hsl, hK => by
  have hn := hsl.len encC_len (by omega)
  obtain ⟨b, o, ha, hat⟩ := hsl.at encC_len hn (i := 0) (x := a) rfl
  simp only [List.length_singleton] at hn
  unfold S_chaffref_mayOne
  refine ⟨fun _ => ?_, fun h => absurd (by omega) h⟩
  unfold S_chaffref_mayOne_J1
  exact ⟨fun _ => ⟨b, o, ha, by omega, by omega, _, hat, hK⟩, fun h => absurd rfl h⟩
 | a :: x :: l, _, hmx, A, n, c, M, K, hsl, hK => by
  have hn := hsl.len encC_len (by omega)
  obtain ⟨b, o, ha, hat⟩ := hsl.at encC_len hn (i := 0) (x := a) rfl
  simp only [List.length_cons] at hn hmx
  unfold S_chaffref_mayOne
  refine ⟨fun h => by omega, fun _ => ⟨b, o, ha, by omega, by omega, _, hat, ?_⟩⟩
  unfold S_chaffref_mayOne_J1
  rw [enc4z]
  simp only [orL] at hK
  refine ⟨fun h => ⟨b, o, ha, by omega, by omega, _, hat, ?_⟩, fun h => ⟨b, o, ha, by omega, by omega, _, hat, by omega, by omega, ?_⟩⟩
  ·rw [or_stop _ _ (by simpa using h)] at hK; exact hK
  ·have hrest := hsl.rest 1 (by omega)
   rw [show (1 * 1 : Nat) = 1 * 1 from rfl, cl_drop encC_len 1] at hrest
   refine s_chaffref_mayOne _ _ _ _ _ (mayOne_is (x :: l) (by simp) (by simp; omega) hrest ⟨_, rfl, ?_⟩)
   rw [enc_or _ _ (by simpa using h)]; exact hK
theorem may_is {rs : List Ru} {kn : List Fa} {ga ra : Option Addr} {gl gc rc : Nat} (hlen : kn.length = rs.length) : ∀ (n : Nat) (e : Ex), SizeOf.sizeOf e < n → ∀ {M : Mem} {x : X_api_Expr} {K : Value → Prop}, ExR M e x → GrR M rs ga gl gc →
  SlV M ra kn.length rc 1 (cl encC kn) → GoodE rs e → K (.int .i64 (enc (ofE rs kn e))) → S_chaffref_May ga gl gc ra kn.length rc x M K := by
 intro n
 induction n with
 | zero => intro e h; omega
 | succ n ih =>
  intro e hn M x K hR hg hkn hgood hK
  obtain ⟨xs, hx⟩ := hR.open
  obtain ⟨g1, g2, g3, g4, g5, g6, g7, g8⟩ := fitE_kinds hgood.fit
  have hl8 : e.kids.length ≤ 8 := by
   by_cases h4 : e.kind ≤ 4
   ·rw [g3 h4]; simp
   ·by_cases h7 : 7 ≤ e.kind
    ·have := g5 h7; omega
    ·exact (g4 (by omega)).2
  rw [ofE_eq] at hK
  have hL : ∀ (i : Nat) k, e.kids[i]? = some k → (e.kids.map (ofE rs kn))[i]? = some (ofE rs kn k) := fun i k hk => by rw [List.getElem?_map, hk]; rfl
  generalize hLd : e.kids.map (ofE rs kn) = l at hK hL
  have hll : l.length = e.kids.length := by rw [← hLd]; simp
  have he' : cellsEq [x.Set.w0, x.Set.w1, x.Set.w2, x.Set.w3] [0, 0, 0, 0] = zs e.set := by rw [← hx.set]; rfl
  unfold opF at hK
  have j1 : ∀ b : Bool, e.kind ≠ 1 → (b = true → e.kind = 2 ∧ zs e.set = true) → (b = false → e.kind = 2 → zs e.set = false) → S_chaffref_May_J1 ga gl gc ra kn.length rc x M b K := by
   intro b n1 hb1 hb2
   rw [if_neg n1] at hK
   unfold S_chaffref_May_J1
   rw [hx.kind]
   refine ⟨fun h => ?_, fun h => ⟨fun h3 => ?_, fun n3 => ⟨fun h4 => ?_, fun n4 => ?_⟩⟩⟩
   ·obtain ⟨q1, q2⟩ := hb1 h
    rw [if_pos q1, q2] at hK; exact hK
   ·by_cases h2 : e.kind = 2
    ·rw [if_pos h2, hb2 (by simpa using h) h2] at hK; exact hK
    ·rw [if_neg h2, if_pos (by omega)] at hK; exact hK
   ·rw [if_neg (by omega), if_neg (by omega), if_pos h4] at hK
    have hr := hgood.ref h4
    obtain ⟨hlt, hlt'⟩ := findR_lt hr
    obtain ⟨a, ha⟩ := getN (l := kn) (i := (findR e.text rs 0).toNat) (by omega)
    obtain ⟨b, o, hb, hat⟩ := hkn.at encC_len rfl ha
    rw [hx.text]
    refine s_chaffref_Find _ _ _ _ _ _ (rfind_is hg e.text _ ⟨_, rfl, b, o, hb, hr, by omega, _, hat, ?_⟩)
    rw [refF, ha] at hK; exact hK
   ·rw [if_neg (by omega), if_neg (by omega), if_neg n4] at hK
    refine ⟨fun i rn rx => 0 ≤ i ∧ i ≤ l.length ∧ rn = i.toNat ∧ rx = cl encC (l.take i.toNat), fun i _ _ => l.length - i.toNat, ⟨by omega, by omega, rfl, rfl⟩, fun i rn rx ⟨i0, i1, hrn, hrx⟩ => ⟨fun hlt => ?_, fun hge => ?_⟩⟩
    ·rw [hx.len] at hlt
     subst hrn hrx
     obtain ⟨k, hk⟩ := getI (l := e.kids) i0 hlt
     obtain ⟨b, o, y, ha, hat, hy, _⟩ := hx.kid hk
     have hmem := List.mem_of_getElem? hk
     refine ⟨b, o, ha, i0, by rw [hx.len]; exact hlt, y, hat, s_chaffref_May _ _ _ _ _ _ _ _ _ (ih k (by have := Ex.kid_lt hmem; omega) hy hg hkn (hgood.kid k hmem) ⟨_, rfl, by omega, by unfold InI; omega, ⟨by omega, by omega, by omega, ?_⟩, by dsimp only; omega⟩)⟩
     rw [show (i + 1).toNat = i.toNat + 1 by omega, take_get (hL _ k hk)]
     exact cl_snoc (f := encC) (l.take i.toNat) (ofE rs kn k)
    ·rw [hx.len] at hge
     have hil : i.toNat = l.length := by omega
     rw [hil, List.take_length] at hrx
     rw [hil] at hrn
     subst hrn hrx
     refine ⟨fun h5 => fun M2 ad cap hle hsl => ?_, fun n5 => ⟨fun h6 => fun M2 ad cap hle hsl => ?_, fun n6 => ?_⟩⟩
     ·rw [if_pos h5, thenL_R] at hK
      have := g4 (.inl h5)
      exact s_chaffref_mayAll _ _ _ _ _ (mayAll_is l (by intro h0; rw [h0] at hll; simp at hll; omega) (by omega) hsl ⟨_, rfl, hK⟩)
     ·rw [if_neg n5, if_pos h6] at hK
      have := g4 (.inr h6)
      exact s_chaffref_mayOne _ _ _ _ _ (mayOne_is l (by intro h0; rw [h0] at hll; simp at hll; omega) (by omega) hsl ⟨_, rfl, hK⟩)
     ·rw [if_neg n5, if_neg n6] at hK
      have h1 := g5 (by omega)
      obtain ⟨a, rfl⟩ : ∃ a, l = [a] := List.length_eq_one_iff.1 (by omega)
      simp only [hdF, List.headD_cons] at hK
      refine ⟨by omega, by simp, enc a, by unfold Cs; rfl, fun h7 => ?_, fun n7 => ⟨fun h8 M2 ad cap hle hsl => ?_, fun n8 => ⟨fun h9 M2 ad cap hle hsl => ?_, fun n9 => ?_⟩⟩⟩
      ·rw [if_pos h7] at hK; rw [enc_star]; exact hK
      ·rw [if_neg n7, if_pos h8] at hK
       rw [enc_star] at hsl
       exact s_chaffref_mayAll _ _ _ _ _ (mayAll_is [a, faStar a] (by simp) (by simp) hsl ⟨_, rfl, hK⟩)
      ·rw [if_neg n7, if_neg n8, if_pos h9] at hK
       exact s_chaffref_mayOne _ _ _ _ _ (mayOne_is [a, ⟨true, false, false⟩] (by simp) (by simp) hsl ⟨_, rfl, hK⟩)
      ·rw [if_neg n7, if_neg n8, if_neg n9] at hK
       have j2 : ∀ s : Int, s = (if a.Empty || a.Eats then 1 else 0) → S_chaffref_May_J2 x (enc a) s K := by
        rintro s rfl
        unfold S_chaffref_May_J2
        rw [hx.kind]
        refine ⟨fun h => ?_, fun h => ?_⟩
        ·rw [if_pos h] at hK
         rw [show bOr .i64 (if a.Empty || a.Eats then 1 else 0) (bAnd .i64 (enc a) 4) = enc (faAnd a) from enc_and a]; exact hK
        ·rw [if_neg h] at hK
         rw [show bOr .i64 (bAnd .i64 (bShr .i64 (enc a) 2) 1) (bShl .i64 (if a.Empty || a.Eats then 1 else 0) 2) = enc (faNot a) from enc_not a]; exact hK
       exact ⟨fun h => j2 _ (by rw [if_pos ((enc3 a).1 h)]), fun h => j2 _ (by rw [if_neg (fun q => h ((enc3 a).2 q))])⟩
  unfold S_chaffref_May
  rw [hx.kind, he']
  refine ⟨fun h => ?_, fun n1 => ⟨fun h => j1 _ n1 (fun h' => ⟨h, h'⟩) (fun h' _ => h'), fun n2 => j1 _ n1 (fun h => by cases h) (fun _ h => absurd h n2)⟩⟩
  rw [if_pos h] at hK; exact hK
theorem mix_set {α : Type} {j k : List α} {i : Nat} {b : α} (hl : j.length = k.length) (hb : j[i]? = some b) : (j.take i ++ k.drop i).set i b = j.take (i + 1) ++ k.drop (i + 1) := by
 have hi := (List.getElem?_eq_some_iff.1 hb).1
 obtain ⟨x, hx⟩ := getN (l := k) (i := i) (by omega)
 rw [drop_get hx, take_get hb, List.set_append_right _ _ (by simp; omega), List.length_take, Nat.min_eq_left (by omega), Nat.sub_self, List.set_cons_zero, List.append_assoc]
 rfl
theorem mix_get {α : Type} {j k : List α} {i : Nat} {a : α} (hl : j.length = k.length) (ha : k[i]? = some a) : (j.take i ++ k.drop i)[i]? = some a := by
 have hi := (List.getElem?_eq_some_iff.1 ha).1
 rw [drop_get ha, List.getElem?_append_right (by simp; omega), List.length_take, Nat.min_eq_left (by omega), Nat.sub_self]; rfl
theorem mays_is {rs : List Ru} {ga : Option Addr} {gl gc : Nat} {M : Mem} (hok : GramOk rs) (hg : GrR M rs ga gl gc) (K : Value → Mem → Prop)
  (hK : ∀ M' ad cap kn, M.le M' → SlV M' ad rs.length cap 1 (cl encC kn) → Lfp faLe (Fof rs) rs.length kn → K (.slice ad rs.length cap) M') : S_chaffref_Mays ga gl gc M K := by
 have h1 := hok.one
 have h10 := hok.ten
 have hF := Fof_mono rs rs.length
 unfold S_chaffref_Mays
 rw [hg.len]
 simp only [Int.toNat_natCast]
 refine ⟨by omega, by omega, by omega, by unfold InI; omega, by unfold InI; omega, ?_⟩
 have hjl : ∀ k, (jacN faUni (Fof rs) k (List.replicate rs.length fa0)).length = rs.length := fun k => by rw [jacN_len]; simp
 refine ⟨fun x rn rx => 0 ≤ x ∧ x ≤ 3 * rs.length + 1 ∧ rn = rs.length ∧ rx = cl encC (jacN faUni (Fof rs) x.toNat (List.replicate rs.length fa0)), fun x _ _ => 3 * rs.length + 1 - x.toNat, ⟨by omega, by omega, rfl, (cl_replicate encC rs.length fa0).symm⟩, fun x rn rx ⟨x0, x1, hrn, hrx⟩ => ⟨fun hlt => ?_, fun hge => ?_⟩⟩
 ·intro M2 ad cap hle hsl
  subst hrn hrx
  generalize hkn : jacN faUni (Fof rs) x.toNat (List.replicate rs.length fa0) = kn at hsl ⊢
  have hkl : kn.length = rs.length := by rw [← hkn]; exact hjl _
  refine s_slices_Clone_int _ _ _ _ _ ⟨fun hnil => ?_, fun _ => ⟨_, hsl, cl_one' encC_one kn, by omega, ?_⟩⟩
  ·obtain ⟨b, o, ha, _⟩ := hsl.2.2.2 (by omega)
   rw [ha] at hnil; cases hnil
  ·rw [show 0 + rs.length = rs.length from Nat.zero_add _, List.nil_append]
   have hjk : (jac faUni (Fof rs) kn).length = kn.length := jac_len kn
   refine ⟨fun i rn rx => 0 ≤ i ∧ i ≤ rs.length ∧ rn = rs.length ∧ rx = cl encC ((jac faUni (Fof rs) kn).take i.toNat ++ kn.drop i.toNat), fun i _ _ => rs.length - i.toNat, ⟨by omega, by omega, rfl, by simp⟩, fun i rn rx ⟨i0, i1, hrn, hrx⟩ => ⟨fun hlt2 => ?_, fun hge2 => ?_⟩⟩
   ·subst hrn hrx
    obtain ⟨r, x2, b, o, hr, ha, hat, hrr⟩ := hg.at i0 (by rw [hg.len]; exact hlt2)
    obtain ⟨a, hka⟩ := getN (l := kn) (i := i.toNat) (by omega)
    refine ⟨b, o, ha, i0, hlt2, x2, hat, i0, hlt2, enc a, ?_, fun M3 ad3 cap3 hle3 hsl3 => ?_⟩
    ·exact cl_Cs encC_len (mix_get hjk hka)
    ·rw [← hkl] at hsl3 ⊢
     refine s_chaffref_May _ _ _ _ _ _ _ _ _ (may_is hkl _ r.body (Nat.lt_succ_self _) (hrr.2.2.le hle3) (hg.le hle3 |> fun h => by rw [hg.len, ← hkl] at h; exact h) hsl3 (hok.good r (List.mem_of_getElem? hr)) ⟨_, rfl, i0, by omega, by unfold InI; omega, ⟨by omega, by omega, rfl, ?_⟩, by dsimp only; omega⟩)
     rw [enc_uni, show (i + 1).toNat = i.toNat + 1 by omega]
     have hj := jac_get (ju := faUni) (F := Fof rs) hka
     have hFo : Fof rs kn i.toNat = ofE rs kn r.body := by unfold Fof; rw [hr]
     rw [hFo] at hj
     rw [← mix_set hjk hj]
     exact cl_put encC_len _ (by simp only [List.length_append, List.length_take, List.length_drop]; omega)
   ·subst hrn hrx
    refine ⟨by unfold InI; omega, ⟨by omega, by omega, rfl, ?_⟩, by dsimp only; omega⟩
    rw [show i.toNat = rs.length by omega, List.take_of_length_le (by omega), List.drop_of_length_le (by omega), List.append_nil, show (x + 1).toNat = x.toNat + 1 by omega, jacN, hkn]
 ·intro M2 ad cap hle hsl M3 hle3
  subst hrn hrx
  refine hK M3 ad cap _ (hle.trans hle3) (hsl.le hle3) (jac_lfp faLat hF fa0 (fun a => ⟨fun h => (by cases h), fun h => (by cases h), fun h => (by cases h)⟩) _ ?_)
  omega
end Go.Proofs.Ytifkffmecfgpeaa.core

namespace Go.Proofs.Ytifkffmecfgpeaa.core
open Go.Gx Go.RowKit Go.ChangeShapes Go.WideShapes Go.ChangeAt
set_option linter.unusedVariables false
end Go.Proofs.Ytifkffmecfgpeaa.core

namespace Go.Proofs.Ytifkffmecfgpeaa.core
open Go.Gx Go.RowKit Go.ChangeShapes Go.WideShapes Go.ChangeAt
set_option linter.unusedVariables false
def knOf (rs : List Ru) : List Fa := jacN faUni (Fof rs) (3 * rs.length + 1) (List.replicate rs.length fa0)
theorem fa0_le (a : Fa) : faLe fa0 a := ⟨fun h => (by cases h), fun h => (by cases h), fun h => (by cases h)⟩
theorem knOf_lfp (rs : List Ru) : Lfp faLe (Fof rs) rs.length (knOf rs) := jac_lfp faLat (Fof_mono rs _) fa0 fa0_le _ (by omega)
theorem knOf_len (rs : List Ru) : (knOf rs).length = rs.length := (knOf_lfp rs).len
theorem knOf_eq {rs : List Ru} {kn : List Fa} (h : Lfp faLe (Fof rs) rs.length kn) : kn = knOf rs := h.same faLat (knOf_lfp rs)
theorem pfacts_is {rs : List Ru} {ga : Option Addr} {gl gc : Nat} {M : Mem} (hok : GramOk rs) (hg : GrR M rs ga gl gc) (K : Value → Mem → Prop)
  (hK : ∀ M' ad cap, M.le M' → SlV M' ad rs.length cap 3 (cl X_api_Facts.cells (knOf rs)) → K (.slice ad rs.length cap) M') : S_well_facts ga gl gc M K :=
 facts_is hok hg K fun M' ad cap kn hle hsl hlfp => by rw [knOf_eq hlfp] at hsl; exact hK M' ad cap hle hsl
theorem pmays_is {rs : List Ru} {ga : Option Addr} {gl gc : Nat} {M : Mem} (hok : GramOk rs) (hg : GrR M rs ga gl gc) (K : Value → Mem → Prop)
  (hK : ∀ M' ad cap, M.le M' → SlV M' ad rs.length cap 1 (cl encC (knOf rs)) → K (.slice ad rs.length cap) M') : S_chaffref_Mays ga gl gc M K :=
 mays_is hok hg K fun M' ad cap kn hle hsl hlfp => by rw [knOf_eq hlfp] at hsl; exact hK M' ad cap hle hsl
def ndB (rs : List Ru) (kn : List Fa) (x : Ex) : Bool := decide (x.kind = 7 ∨ x.kind = 8) && (hdF (x.kids.map (ofE rs kn))).Empty
def loopB (rs : List Ru) (kn : List Fa) (e : Ex) : Bool := (flatE e).any (ndB rs kn)
theorem flatEs_any (p : Ex → Bool) : ∀ ks : List Ex, (flatEs ks).any p = ks.any fun k => (flatE k).any p
 | [] => by rw [flatEs]; rfl
 | k :: ks => by rw [flatEs, List.any_append, flatEs_any p ks]; rfl
theorem flatE_eq (e : Ex) : flatE e = e :: flatEs e.kids := by cases e; rw [flatE]; rfl
theorem loopB_eq (rs : List Ru) (kn : List Fa) (e : Ex) : loopB rs kn e = (ndB rs kn e || e.kids.any (loopB rs kn)) := by
 unfold loopB
 rw [flatE_eq, List.any_cons, flatEs_any]
theorem loops_is {rs : List Ru} {kn : List Fa} {ga ra : Option Addr} {gl gc rc : Nat} (hlen : kn.length = rs.length) : ∀ (n : Nat) (e : Ex), SizeOf.sizeOf e < n → ∀ {M : Mem} {x : X_api_Expr} {K : Value → Prop}, ExR M e x → GrR M rs ga gl gc →
  SlV M ra kn.length rc 3 (cl X_api_Facts.cells kn) → GoodE rs e → K (.bool (loopB rs kn e)) → S_well_loops ga gl gc ra kn.length rc x M K := by
 intro n
 induction n with
 | zero => intro e h; omega
 | succ n ih =>
  intro e hn M x K hR hg hkn hgood hK
  obtain ⟨xs, hx⟩ := hR.open
  obtain ⟨g1, g2, g3, g4, g5, g6, g7, g8⟩ := fitE_kinds hgood.fit
  rw [loopB_eq] at hK
  have hl8 : e.kids.length ≤ 8 := by
   by_cases h4 : e.kind ≤ 4
   ·rw [g3 h4]; simp
   ·by_cases h7 : 7 ≤ e.kind
    ·have := g5 h7; omega
    ·exact (g4 (by omega)).2
  have j1 : ∀ b : Bool, b = ndB rs kn e → S_well_loops_J1 ga gl gc ra kn.length rc x M b K := by
   intro b hb
   unfold S_well_loops_J1
   rw [← hb] at hK
   refine ⟨fun h => by rw [h, Bool.true_or] at hK; exact hK, fun h => ?_⟩
   have h : b = false := by simpa using h
   rw [h, Bool.false_or] at hK
   refine ⟨fun i => 0 ≤ i ∧ i ≤ e.kids.length ∧ (e.kids.drop i.toNat).any (loopB rs kn) = e.kids.any (loopB rs kn), fun i => e.kids.length - i.toNat, ⟨by omega, by omega, rfl⟩, fun i ⟨i0, i1, heq⟩ => ⟨fun hlt => ?_, fun hge => ?_⟩⟩
   ·rw [hx.len] at hlt
    obtain ⟨k, hk⟩ := getI (l := e.kids) i0 hlt
    obtain ⟨b, o, y, ha, hat, hy, _⟩ := hx.kid hk
    have hmem := List.mem_of_getElem? hk
    rw [drop_get hk, List.any_cons] at heq
    refine ⟨b, o, ha, i0, by rw [hx.len]; exact hlt, y, hat, s_well_loops _ _ _ _ _ _ _ _ _ (ih k (by have := Ex.kid_lt hmem; omega) hy hg hkn (hgood.kid k hmem) ⟨_, rfl, fun ht => ?_, fun hf => ⟨by unfold InI; omega, ⟨by omega, by omega, ?_⟩, by dsimp only; omega⟩⟩)⟩
    ·rw [ht, Bool.true_or] at heq; rw [← heq] at hK; exact hK
    ·have hf : loopB rs kn k = false := by simpa using hf
     rw [hf, Bool.false_or] at heq
     rw [show (i + 1).toNat = i.toNat + 1 by omega]; exact heq
   ·rw [hx.len] at hge
    rw [List.drop_of_length_le (by omega), List.any_nil] at heq
    rw [← heq] at hK; exact hK
  have kid0 : 7 ≤ e.kind → ∃ k b o y, e.kids = [k] ∧ x.Kids_a = some ⟨b, o, none⟩ ∧ At M b (o + (0 : Int).toNat * 7) y.cells ∧ ExR M k y ∧ k ∈ e.kids := fun h7 => by
   obtain ⟨k, hk⟩ : ∃ k, e.kids = [k] := List.length_eq_one_iff.1 (g5 h7)
   obtain ⟨b, o, y, ha, hat, hy, _⟩ := hx.kid (i := 0) (k := k) (by rw [hk]; rfl)
   exact ⟨k, b, o, y, hk, ha, hat, hy, by rw [hk]; simp⟩
  unfold S_well_loops
  rw [hx.kind]
  have hx1 : 7 ≤ e.kind → (0 : Int) < ((x.Kids_l : Nat) : Int) := fun h7 => by rw [hx.len, g5 h7]; omega
  refine ⟨fun h7 => ?_, fun n7 => ⟨fun h8 => ?_, fun n8 => j1 _ (by simp [ndB, n7, n8])⟩⟩
  ·obtain ⟨k, b, o, y, hk, ha, hat, hy, hmem⟩ := kid0 (by omega)
   refine ⟨b, o, ha, by omega, hx1 (by omega), y, hat, s_well_of _ _ _ _ _ _ _ _ _ (of_is hlen _ k (Nat.lt_succ_self _) hy hg hkn (hgood.kid k hmem) ⟨_, rfl, j1 _ ?_⟩)⟩
   simp [ndB, h7, hk, hdF]
  ·obtain ⟨k, b, o, y, hk, ha, hat, hy, hmem⟩ := kid0 (by omega)
   refine ⟨b, o, ha, by omega, hx1 (by omega), y, hat, s_well_of _ _ _ _ _ _ _ _ _ (of_is hlen _ k (Nat.lt_succ_self _) hy hg hkn (hgood.kid k hmem) ⟨_, rfl, j1 _ ?_⟩)⟩
   simp [ndB, h8, hk, hdF]
mutual
def needsE (rs : List Ru) (kn : List Fa) : Ex → List Nat
 | .mk k s t ks => if k = 4 then [(findR t rs 0).toNat] else if k = 5 then needsQ rs kn ks else needsA rs kn ks
def needsQ (rs : List Ru) (kn : List Fa) : List Ex → List Nat
 | [] => []
 | k :: ks => needsE rs kn k ++ (if (ofE rs kn k).Empty then needsQ rs kn ks else [])
def needsA (rs : List Ru) (kn : List Fa) : List Ex → List Nat
 | [] => []
 | k :: ks => needsE rs kn k ++ needsA rs kn ks
end
theorem needsE_eq (rs : List Ru) (kn : List Fa) (e : Ex) : needsE rs kn e = if e.kind = 4 then [(findR e.text rs 0).toNat] else if e.kind = 5 then needsQ rs kn e.kids else needsA rs kn e.kids := by
 cases e; rw [needsE]; rfl
mutual
theorem needsE_len (rs : List Ru) (kn : List Fa) : ∀ e : Ex, (needsE rs kn e).length ≤ (flatE e).length
 | .mk k s t ks => by
  rw [needsE, flatE]
  split
  ·simp
  ·split
   ·have := needsQ_len rs kn ks; simp; omega
   ·have := needsA_len rs kn ks; simp; omega
theorem needsQ_len (rs : List Ru) (kn : List Fa) : ∀ ks : List Ex, (needsQ rs kn ks).length ≤ (flatEs ks).length
 | [] => by simp [needsQ]
 | k :: ks => by
  have h1 := needsE_len rs kn k
  have h2 := needsQ_len rs kn ks
  rw [needsQ, flatEs, List.length_append, List.length_append]
  split
  ·omega
  ·simp; omega
theorem needsA_len (rs : List Ru) (kn : List Fa) : ∀ ks : List Ex, (needsA rs kn ks).length ≤ (flatEs ks).length
 | [] => by simp [needsA]
 | k :: ks => by
  have h1 := needsE_len rs kn k
  have h2 := needsA_len rs kn ks
  rw [needsA, flatEs, List.length_append, List.length_append]
  omega
end
mutual
theorem needsE_lt {rs : List Ru} (kn : List Fa) : ∀ e : Ex, GoodE rs e → ∀ i ∈ needsE rs kn e, i < rs.length
 | .mk k s t ks, h, i, hi => by
  rw [needsE] at hi
  split at hi
  ·rename_i h4
   simp at hi; subst hi
   exact (findR_lt (h.ref h4)).1
  ·split at hi
   ·exact needsQ_lt kn ks (fun k hk => h.kid k hk) i hi
   ·exact needsA_lt kn ks (fun k hk => h.kid k hk) i hi
theorem needsQ_lt {rs : List Ru} (kn : List Fa) : ∀ ks : List Ex, (∀ k ∈ ks, GoodE rs k) → ∀ i ∈ needsQ rs kn ks, i < rs.length
 | [], _, i, hi => by simp [needsQ] at hi
 | k :: ks, h, i, hi => by
  rw [needsQ] at hi
  rcases List.mem_append.1 hi with hi | hi
  ·exact needsE_lt kn k (h k (by simp)) i hi
  ·split at hi
   ·exact needsQ_lt kn ks (fun k hk => h k (by simp [hk])) i hi
   ·cases hi
theorem needsA_lt {rs : List Ru} (kn : List Fa) : ∀ ks : List Ex, (∀ k ∈ ks, GoodE rs k) → ∀ i ∈ needsA rs kn ks, i < rs.length
 | [], _, i, hi => by simp [needsA] at hi
 | k :: ks, h, i, hi => by
  rw [needsA] at hi
  rcases List.mem_append.1 hi with hi | hi
  ·exact needsE_lt kn k (h k (by simp)) i hi
  ·exact needsA_lt kn ks (fun k hk => h k (by simp [hk])) i hi
end
def wkB (wk : List Bool) (i : Nat) : Bool := (wk[i]?).getD false
def soundB (rs : List Ru) (kn : List Fa) (wk : List Bool) (e : Ex) : Bool := (needsE rs kn e).all (wkB wk)
theorem sound_is {rs : List Ru} {kn : List Fa} {wk : List Bool} {ga ra wa : Option Addr} {gl gc rc wc : Nat} (hlen : kn.length = rs.length) (hwl : wk.length = rs.length) : ∀ (n : Nat) (e : Ex), SizeOf.sizeOf e < n → ∀ {M : Mem} {x : X_api_Expr} {K : Value → Prop}, ExR M e x → GrR M rs ga gl gc →
  SlV M ra kn.length rc 3 (cl X_api_Facts.cells kn) → SlV M wa wk.length wc 1 (cl bC wk) → GoodE rs e → K (.bool (soundB rs kn wk e)) → S_well_sound ga gl gc ra kn.length rc wa wk.length wc x M K := by
 intro n
 induction n with
 | zero => intro e h; omega
 | succ n ih =>
  intro e hn M x K hR hg hkn hwk hgood hK
  obtain ⟨xs, hx⟩ := hR.open
  obtain ⟨g1, g2, g3, g4, g5, g6, g7, g8⟩ := fitE_kinds hgood.fit
  have hl8 : e.kids.length ≤ 8 := by
   by_cases h4 : e.kind ≤ 4
   ·rw [g3 h4]; simp
   ·by_cases h7 : 7 ≤ e.kind
    ·have := g5 h7; omega
    ·exact (g4 (by omega)).2
  rw [soundB, needsE_eq] at hK
  unfold S_well_sound
  rw [hx.kind]
  refine ⟨fun h4 => ?_, fun n4 => ⟨fun h5 => ?_, fun n5 => ?_⟩⟩
  ·rw [if_pos h4] at hK
   have hr := hgood.ref h4
   obtain ⟨hlt, hlt'⟩ := findR_lt hr
   obtain ⟨a, ha⟩ := getN (l := wk) (i := (findR e.text rs 0).toNat) (by omega)
   obtain ⟨b, o, hb, hat⟩ := hwk.at (f := bC) (fun _ => rfl) rfl ha
   rw [hx.text]
   refine s_gram_Find _ _ _ _ _ _ (find_is hg e.text _ ⟨_, rfl, b, o, hb, hr, by omega, a, hat, ?_⟩)
   simp only [List.all_cons, List.all_nil, Bool.and_true, wkB, ha, Option.getD_some] at hK
   exact hK
  ·rw [if_neg n4, if_pos h5] at hK
   refine ⟨fun i => 0 ≤ i ∧ i ≤ e.kids.length ∧ (needsQ rs kn (e.kids.drop i.toNat)).all (wkB wk) = (needsQ rs kn e.kids).all (wkB wk), fun i => e.kids.length - i.toNat, ⟨by omega, by omega, rfl⟩, fun i ⟨i0, i1, heq⟩ => ⟨fun hlt => ?_, fun hge => ?_⟩⟩
   ·rw [hx.len] at hlt
    obtain ⟨k, hk⟩ := getI (l := e.kids) i0 hlt
    obtain ⟨b, o, y, ha, hat, hy, _⟩ := hx.kid hk
    have hmem := List.mem_of_getElem? hk
    rw [drop_get hk, needsQ, List.all_append] at heq
    refine ⟨b, o, ha, i0, by rw [hx.len]; exact hlt, y, hat, s_well_sound _ _ _ _ _ _ _ _ _ _ _ _ (ih k (by have := Ex.kid_lt hmem; omega) hy hg hkn hwk (hgood.kid k hmem) ⟨_, rfl, fun hf => ?_, fun ht => ?_⟩)⟩
    ·have hf : (needsE rs kn k).all (wkB wk) = false := by simpa [soundB] using hf
     rw [hf, Bool.false_and] at heq; rw [← heq] at hK; exact hK
    ·have ht : (needsE rs kn k).all (wkB wk) = true := by simpa [soundB] using ht
     rw [ht, Bool.true_and] at heq
     refine s_well_of _ _ _ _ _ _ _ _ _ (of_is hlen _ k (Nat.lt_succ_self _) hy hg hkn (hgood.kid k hmem) ⟨_, rfl, fun hf => ?_, fun ht2 => ⟨by unfold InI; omega, ⟨by omega, by omega, ?_⟩, by dsimp only; omega⟩⟩)
     ·have hf : (ofE rs kn k).Empty = false := by simpa using hf
      rw [hf] at heq
      simp only [Bool.false_eq_true, if_false, List.all_nil] at heq
      rw [← heq] at hK; exact hK
     ·have ht2 : (ofE rs kn k).Empty = true := by simpa using ht2
      rw [ht2, if_pos rfl] at heq
      rw [show (i + 1).toNat = i.toNat + 1 by omega]; exact heq
   ·rw [hx.len] at hge
    rw [List.drop_of_length_le (by omega), needsQ, List.all_nil] at heq
    rw [← heq] at hK; exact hK
  ·rw [if_neg n4, if_neg n5] at hK
   refine ⟨fun i => 0 ≤ i ∧ i ≤ e.kids.length ∧ (needsA rs kn (e.kids.drop i.toNat)).all (wkB wk) = (needsA rs kn e.kids).all (wkB wk), fun i => e.kids.length - i.toNat, ⟨by omega, by omega, rfl⟩, fun i ⟨i0, i1, heq⟩ => ⟨fun hlt => ?_, fun hge => ?_⟩⟩
   ·rw [hx.len] at hlt
    obtain ⟨k, hk⟩ := getI (l := e.kids) i0 hlt
    obtain ⟨b, o, y, ha, hat, hy, _⟩ := hx.kid hk
    have hmem := List.mem_of_getElem? hk
    rw [drop_get hk, needsA, List.all_append] at heq
    refine ⟨b, o, ha, i0, by rw [hx.len]; exact hlt, y, hat, s_well_sound _ _ _ _ _ _ _ _ _ _ _ _ (ih k (by have := Ex.kid_lt hmem; omega) hy hg hkn hwk (hgood.kid k hmem) ⟨_, rfl, fun hf => ?_, fun ht => ⟨by unfold InI; omega, ⟨by omega, by omega, ?_⟩, by dsimp only; omega⟩⟩)⟩
    ·have hf : (needsE rs kn k).all (wkB wk) = false := by simpa [soundB] using hf
     rw [hf, Bool.false_and] at heq; rw [← heq] at hK; exact hK
    ·have ht : (needsE rs kn k).all (wkB wk) = true := by simpa [soundB] using ht
     rw [ht, Bool.true_and] at heq
     rw [show (i + 1).toNat = i.toNat + 1 by omega]; exact heq
   ·rw [hx.len] at hge
    rw [List.drop_of_length_le (by omega), needsA, List.all_nil] at heq
    rw [← heq] at hK; exact hK
def bLe (a b : Bool) : Prop := a = true → b = true
theorem bLat : Lat bLe (· || ·) bit 1 where
 refl := fun a => id
 trans := fun h k => k ∘ h
 anti := by rintro (_ | _) (_ | _) <;> simp [bLe]
 left := by rintro (_ | _) (_ | _) <;> simp [bLe]
 right := by rintro (_ | _) (_ | _) <;> simp [bLe]
 least := by rintro (_ | _) (_ | _) (_ | _) <;> simp [bLe]
 mono := by rintro (_ | _) (_ | _) <;> simp [bLe, bit]
 strict := by rintro (_ | _) (_ | _) <;> simp [bLe, bit]
 bound := by rintro (_ | _) <;> simp [bit]
def Gof (rs : List Ru) (kn : List Fa) (wk : List Bool) (i : Nat) : Bool := match rs[i]? with
 | some r => soundB rs kn wk r.body
 | none => false
theorem Gof_mono (rs : List Ru) (kn : List Fa) (n : Nat) : MonoF bLe (Gof rs kn) n := fun a z i _ _ h => by
 unfold Gof
 split
 ·intro hs
  rw [soundB, List.all_eq_true] at hs ⊢
  intro j hj
  have := hs j hj
  unfold wkB at this ⊢
  cases ha : a[j]? with
  | none => rw [ha] at this; cases this
  | some x =>
   rw [ha] at this
   obtain ⟨y, hy⟩ := getN (l := z) (i := j) (by have := (List.getElem?_eq_some_iff.1 ha).1; have := h.1; omega)
   rw [hy]; exact h.2 j x y ha hy this
 ·exact id
def wkOf (rs : List Ru) : List Bool := jacN (· || ·) (Gof rs (knOf rs)) (rs.length + 1) (List.replicate rs.length false)
theorem wkOf_lfp (rs : List Ru) : Lfp bLe (Gof rs (knOf rs)) rs.length (wkOf rs) := jac_lfp bLat (Gof_mono rs _ _) false (fun a h => (by cases h)) _ (by omega)
theorem wkOf_eq {rs : List Ru} {wk : List Bool} (h : Lfp bLe (Gof rs (knOf rs)) rs.length wk) : wk = wkOf rs := h.same bLat (wkOf_lfp rs)
end Go.Proofs.Ytifkffmecfgpeaa.core

namespace Go.Proofs.Ytifkffmecfgpeaa.core
open Go.Gx Go.RowKit Go.ChangeShapes Go.WideShapes Go.ChangeAt
set_option linter.unusedVariables false
theorem bC_len (b : Bool) : (bC b).length = 1 := rfl
theorem grow_bool {F : List Bool → Nat → Bool} {n : Nat} (hF : MonoF bLe F n) (hn : n ≤ 10) (next : Value) (M : Mem) (K : Value → Mem → Prop)
  (hnext : ∀ M' ad cap kn, M.le M' → SlV M' ad n cap 1 (cl bC kn) → kn.length = n → ∀ i : Int, 0 ≤ i → i < n → CallF Try.prog next [.slice ad n cap, .int .i64 i] M' (fun v _ => v = .bool (F kn i.toNat)))
  (hK : ∀ M' ad cap kn, M.le M' → SlV M' ad n cap 1 (cl bC kn) → Lfp bLe F n kn → K (.slice ad n cap) M') : S_well_grow_bool (n : Int) next M (fun _ => False) K := by
 unfold S_well_grow_bool
 simp only [Int.toNat_natCast]
 refine ⟨by omega, by omega, by omega, fun M6 ad cap hnr => ?_⟩
 have h6 := GrowI.make hnr
 rw [show repl n [Value.bool false] = cl bC (List.replicate n false) from (cl_replicate bC n false).symm] at h6
 have L := bLat
 refine ⟨List Bool, fun kn more M' => GrowI M M' _ 1 ad n cap (cl bC kn) ∧ Pre bLe F n kn ∧ (more = false → ∀ (i : Nat) a, kn[i]? = some a → F kn i = a), fun kn more => 2 * wS bit 1 kn + (if more then 1 else 0), List.replicate n false, ⟨h6, pre_bot false (fun a h => (by cases h)) n, fun h => (by cases h)⟩, fun kn more M' ⟨hg, hp, hfix⟩ => ⟨fun hmore => ?_, fun hmore => ?_⟩⟩
 ·refine ⟨List Bool, fun k2 more2 i M2 => 0 ≤ i ∧ i ≤ n ∧ GrowI M M2 _ 1 ad n cap (cl bC k2) ∧ Pre bLe F n k2 ∧ leL bLe kn k2 ∧ (more2 = true → kn ≠ k2) ∧ (more2 = false → k2 = kn ∧ ∀ (j : Nat) a, (j : Int) < i → kn[j]? = some a → F kn j = a), fun _ _ i => n - i.toNat, kn, ⟨by omega, by omega, hg, hp, leL.refl L kn, fun h => (by cases h), fun _ => ⟨rfl, fun j a h => by omega⟩⟩, fun k2 more2 i M2 ⟨h0, h1, hg2, hp2, hl2, ht2, hf2⟩ => ⟨fun hlt => ?_, fun hge => ?_⟩⟩
  ·have hkl := hp2.len
   obtain ⟨a, ha⟩ := getI (l := k2) h0 (by omega)
   have hsl := hg2.row.slv
   refine ((hnext M2 ad cap k2 hg2.le hsl hkl i h0 hlt).mono (K' := fun v M' => M2.le M' ∧ v = .bool (F k2 i.toNat)) fun v M' hle hv => ⟨hle, hv⟩).toW.mono (fun _ h => h) fun v M3 _ ⟨hle3, hv⟩ => ⟨_, hv, ?_⟩
   have hg3 := hg2.more hle3
   obtain ⟨b, o, had, hat⟩ := hg3.row.slv.at bC_len hkl ha
   refine ⟨b, o, had, h0, hlt, a, hat, fun hne => ?_, fun hne => ?_⟩
   ·obtain ⟨q1, q2, q3⟩ := hg3.put bC_len hkl (i := i.toNat) (by omega) had (F k2 i.toNat)
    have hne' : a ≠ F k2 i.toNat := fun e => hne e.symm
    obtain ⟨s1, s2⟩ := hp2.step L hF ha
    have hw := wS_set L ha (hp2.up _ _ ha) hne'
    refine ⟨b, o, had, h0, hlt, q1, .inr q2, fun M4 hM4 => ?_⟩
    subst hM4
    refine ⟨by unfold InI; omega, k2.set i.toNat (F k2 i.toNat), ⟨by omega, by omega, q3, s1, hl2.trans L s2, fun _ e => ?_, fun h => (by cases h)⟩, by dsimp only; omega⟩
    rw [← e] at hw
    have := (wS_le L hl2).1
    omega
   ·have hsame : F k2 i.toNat = a := Classical.not_not.1 hne
    refine ⟨by unfold InI; omega, k2, ⟨by omega, by omega, hg3, hp2, hl2, ht2, fun hm => ?_⟩, by dsimp only; omega⟩
    obtain ⟨f1, f2⟩ := hf2 hm
    subst f1
    refine ⟨rfl, fun j x hj hx => ?_⟩
    by_cases e : (j : Int) = i
    ·have : i.toNat = j := by omega
     rw [this] at ha hsame
     rw [ha] at hx; cases hx; exact hsame
    ·exact f2 j x (by omega) hx
  ·have hkl := hp.len
   cases more2 with
   | true =>
    refine ⟨k2, ⟨hg2, hp2, fun h => (by cases h)⟩, ?_⟩
    have := (wS_le L hl2).2 (ht2 rfl)
    rw [hmore]; dsimp only; omega
   | false =>
    obtain ⟨f1, f2⟩ := hf2 rfl
    subst f1
    refine ⟨k2, ⟨hg2, hp2, fun _ j x hx => f2 j x (by have := (List.getElem?_eq_some_iff.1 hx).1; omega) hx⟩, ?_⟩
    rw [hmore]; dsimp only; simp
 ·intro M7 hle7
  have hm : more = false := by simpa using hmore
  exact hK M7 ad cap kn (hg.le.trans hle7) (hg.row.slv.le hle7) (hp.lfp L (hfix hm))
def fstB : List Bool → Int → Int
 | [], _ => -1
 | b :: t, i => if b then i else fstB t (i + 1)
def wellP (rs : List Ru) : Int × Int :=
 if gramErr rs ≠ 0 then (0, gramErr rs)
 else if fstB (rs.map fun r => loopB rs (knOf rs) r.body) 0 ≠ -1 then (fstB (rs.map fun r => loopB rs (knOf rs) r.body) 0, 9)
 else if fstB ((wkOf rs).map (!·)) 0 ≠ -1 then (fstB ((wkOf rs).map (!·)) 0, 8) else (0, 0)
theorem fstB_hit {l : List Bool} {i : Int} (h0 : 0 ≤ i) {t : List Bool} (hd : l.drop i.toNat = true :: t) (heq : fstB (l.drop i.toNat) i = fstB l 0) : fstB l 0 = i ∧ fstB l 0 ≠ -1 := by
 rw [hd, fstB, if_pos rfl] at heq
 exact ⟨heq.symm, by omega⟩
theorem fstB_miss {l : List Bool} {i : Int} (h0 : 0 ≤ i) {t : List Bool} (hd : l.drop i.toNat = false :: t) (heq : fstB (l.drop i.toNat) i = fstB l 0) : fstB (l.drop (i + 1).toNat) (i + 1) = fstB l 0 := by
 rw [show (i + 1).toNat = i.toNat + 1 by omega, ← List.drop_drop, hd, List.drop_succ_cons, List.drop_zero]
 rw [hd, fstB] at heq
 simpa using heq
theorem wwell_is {rs : List Ru} {ga : Option Addr} {gl gc : Nat} {M : Mem} (hg : GrR M rs ga gl gc) (K : Value → Prop) (hK : K (.tuple #[.int .i64 (wellP rs).1, .int .i64 (wellP rs).2])) : S_well_Well ga gl gc M K := by
 unfold S_well_Well
 unfold wellP at hK
 refine s_gram_Check _ _ _ _ _ (gcheck_is hg _ ⟨_, rfl, fun h => ?_, fun h => ?_⟩)
 ·rw [if_pos h] at hK; exact hK
 rw [if_neg h] at hK
 have h0 : gramErr rs = 0 := by simpa using h
 have hok := gram_ok h0
 have h10 := hok.ten
 have hgl := hg.len
 have hkl := knOf_len rs
 have hwl := (wkOf_lfp rs).len
 refine s_well_facts _ _ _ _ _ (pfacts_is hok hg _ fun M1 ad cap hle hsl => ⟨_, _, _, rfl, ?_⟩)
 generalize hll : (rs.map fun r => loopB rs (knOf rs) r.body) = ll at hK
 have hlll : ll.length = rs.length := by rw [← hll]; simp
 have hlg : ∀ (i : Nat) r, rs[i]? = some r → ll[i]? = some (loopB rs (knOf rs) r.body) := fun i r hr => by rw [← hll, List.getElem?_map, hr]; rfl
 refine ⟨fun i => 0 ≤ i ∧ i ≤ rs.length ∧ fstB (ll.drop i.toNat) i = fstB ll 0, fun i => rs.length - i.toNat, ⟨by omega, by omega, rfl⟩, fun i ⟨i0, i1, heq⟩ => ⟨fun hlt => ?_, fun hge => ?_⟩⟩
 ·obtain ⟨r, x, b, o, hr, ha, hat, hrr⟩ := (hg.le hle).at i0 hlt
  rw [← hkl] at hsl ⊢
  refine ⟨b, o, ha, i0, hlt, x, hat, s_well_loops _ _ _ _ _ _ _ _ _ (loops_is hkl _ r.body (Nat.lt_succ_self _) hrr.2.2 (hg.le hle) hsl (hok.good r (List.mem_of_getElem? hr)) ⟨_, rfl, fun ht => ?_, fun hf => ⟨by unfold InI; omega, ⟨by omega, by omega, ?_⟩, by dsimp only; omega⟩⟩)⟩
  ·have hd := drop_get (hlg _ r hr)
   rw [ht] at hd
   obtain ⟨e1, e2⟩ := fstB_hit i0 hd heq
   rw [if_pos e2, e1] at hK; exact hK
  ·have hd := drop_get (hlg _ r hr)
   rw [show loopB rs (knOf rs) r.body = false by simpa using hf] at hd
   exact fstB_miss i0 hd heq
 rw [List.drop_of_length_le (by omega), fstB] at heq
 rw [if_neg (by rw [← heq]; simp)] at hK
 intro M2 b4 hle2 h4 M3 b10 hle3 hb10
 rw [hgl]
 refine e_well_grow_bool _ _ _ _ (grow_bool (Gof_mono rs (knOf rs) _) h10 _ _ _ (fun M' ad2 cap2 wk hle' hsl2 hwk2 i i0 i1 => ?_) fun M' ad2 cap2 wk hle' hsl2 hlfp => ⟨_, _, _, rfl, ?_⟩)
 ·have hle4 := ((hle.trans hle2).trans hle3).trans hle'
  rw [← hwk2] at hsl2 ⊢
  obtain ⟨r, x, b, o, hr, ha, hat, hrr⟩ := (hg.le hle4).at (i := i) i0 (by omega)
  refine f_well_Well_1 _ _ _ _ _ _ _ (fun v => v = .bool (Gof rs (knOf rs) wk i.toNat)) ?_
  unfold S_well_Well_1
  have h4' := h4.le (hle3.trans hle')
  refine ⟨_, _, _, h4', _, _, _, hb10.le hle', _, _, _, h4', b, o, ha, i0, by omega, x.Body, hat.part 1 x.Body.cells rfl, ?_⟩
  have hsl3 := hsl.le ((hle2.trans hle3).trans hle')
  rw [← hkl] at hsl3 ⊢
  refine s_well_sound _ _ _ _ _ _ _ _ _ _ _ _ (sound_is hkl hwk2 _ r.body (Nat.lt_succ_self _) hrr.2.2 (hg.le hle4) hsl3 hsl2 (hok.good r (List.mem_of_getElem? hr)) ⟨_, rfl, ?_⟩)
  rw [Gof, hr]
 ·rw [wkOf_eq hlfp] at hsl2
  generalize hwd : (wkOf rs).map (!·) = wd at hK
  have hwdl : wd.length = rs.length := by rw [← hwd]; simp [hwl]
  refine ⟨fun i => 0 ≤ i ∧ i ≤ rs.length ∧ fstB (wd.drop i.toNat) i = fstB wd 0, fun i => rs.length - i.toNat, ⟨by omega, by omega, rfl⟩, fun i ⟨i0, i1, heq⟩ => ⟨fun hlt => ?_, fun hge => ?_⟩⟩
  ·obtain ⟨a, ha⟩ := getN (l := wkOf rs) (i := i.toNat) (by omega)
   obtain ⟨b, o, hb, hat⟩ := hsl2.at bC_len hwl ha
   have hwg : wd[i.toNat]? = some (!a) := by rw [← hwd, List.getElem?_map, ha]; rfl
   have hd := drop_get hwg
   refine ⟨b, o, hb, i0, hlt, a, hat, fun hf => ?_, fun ht => ⟨by unfold InI; omega, ⟨by omega, by omega, ?_⟩, by dsimp only; omega⟩⟩
   ·rw [show a = false by simpa using hf] at hd
    obtain ⟨e1, e2⟩ := fstB_hit i0 hd heq
    rw [if_pos e2, e1] at hK; exact hK
   ·rw [show a = true by simpa using ht] at hd
    exact fstB_miss i0 hd heq
  ·rw [List.drop_of_length_le (by omega), fstB] at heq
   rw [if_neg (by rw [← heq]; simp)] at hK; exact hK
end Go.Proofs.Ytifkffmecfgpeaa.core

namespace Go.Proofs.Ytifkffmecfgpeaa.core
open Go.Gx Go.RowKit Go.ChangeShapes Go.WideShapes Go.ChangeAt
set_option linter.unusedVariables false
abbrev natC (i : Nat) : List Value := [.int .i64 (i : Int)]
theorem natC_len (i : Nat) : (natC i).length = 1 := rfl
theorem natC_one (i : Nat) : ∀ u ∈ natC i, u.oneCell' = true := by intro u hu; simp at hu; subst hu; rfl
theorem nats_index {A : Option Addr} {n c : Nat} {zs : List Nat} {M : Mem} (h : SlV M A n c 1 (cl natC zs)) (v : Nat) (K : Value → Prop) (hK : ∀ i : Int, (0 ≤ i ↔ v ∈ zs) → K (.int .i64 i)) : S_slices_Index_int A n c (v : Int) M K := by
 have hn := h.len natC_len (by omega)
 have hmx := h.max
 unfold S_slices_Index_int
 refine ⟨fun i => 0 ≤ i ∧ i ≤ n ∧ v ∉ zs.take i.toNat, fun i => n - i.toNat, ⟨by omega, by omega, by simp⟩, fun i ⟨h0, h1, h2⟩ => ⟨fun hlt => ?_, fun hge => ?_⟩⟩
 ·obtain ⟨x, hx⟩ := getI (l := zs) h0 (by omega)
  obtain ⟨b, o, ha, hat⟩ := h.at natC_len hn hx
  refine ⟨b, o, ha, h0, hlt, _, hat, fun e => hK i ⟨fun _ => by rw [show v = x by omega]; exact List.mem_of_getElem? hx, fun _ => h0⟩, fun e => ⟨by unfold InI; omega, ⟨by omega, by omega, ?_⟩, by dsimp only; omega⟩⟩
  rw [show (i + 1).toNat = i.toNat + 1 by omega, take_get hx]
  intro hm
  rcases List.mem_append.1 hm with hm | hm
  ·exact h2 hm
  ·simp at hm; omega
 ·refine hK (-1) ⟨fun h => by omega, fun hm => ?_⟩
  rw [List.take_of_length_le (by omega)] at h2
  exact absurd hm h2
theorem nats_contains {A : Option Addr} {n c : Nat} {zs : List Nat} {M : Mem} (h : SlV M A n c 1 (cl natC zs)) (v : Nat) (K : Value → Prop) (hK : K (.bool (decide (v ∈ zs)))) : S_slices_Contains_int A n c (v : Int) M K := by
 refine s_slices_Index_int _ _ _ _ _ _ (nats_index h v _ fun i hi => ⟨_, rfl, ?_⟩)
 rw [show decide (i ≥ 0) = decide (v ∈ zs) from decide_eq_decide.2 hi]
 exact hK
theorem kids8 {rs : List Ru} {e : Ex} (h : GoodE rs e) : e.kids.length ≤ 8 := by
 obtain ⟨g1, g2, g3, g4, g5, _⟩ := fitE_kinds h.fit
 by_cases h4 : e.kind ≤ 4
 ·rw [g3 h4]; simp
 ·by_cases h7 : 7 ≤ e.kind
  ·have := g5 h7; omega
  ·exact (g4 (by omega)).2
theorem flatE_kidlen {e k : Ex} (h : k ∈ e.kids) : (flatE k).length < (flatE e).length := by
 rw [flatE_eq e, List.length_cons]
 have : ∀ ks : List Ex, k ∈ ks → (flatE k).length ≤ (flatEs ks).length := by
  intro ks
  induction ks with
  | nil => intro h; cases h
  | cons a r ih =>
   intro h
   rw [flatEs, List.length_append]
   rcases List.mem_cons.1 h with rfl | h
   ·omega
   ·have := ih h; omega
 have := this _ h
 omega
theorem needs_is {rs : List Ru} {kn : List Fa} {ga ra : Option Addr} {gl gc rc : Nat} (hlen : kn.length = rs.length) : ∀ (n : Nat) (e : Ex), SizeOf.sizeOf e < n → (flatE e).length ≤ 60 → ∀ {M : Mem} {x : X_api_Expr} {K : Value → Mem → Prop}, ExR M e x → GrR M rs ga gl gc →
  SlV M ra kn.length rc 1 (cl encC kn) → GoodE rs e → (∀ M' ad cap, M.le M' → SlV M' ad (needsE rs kn e).length cap 1 (cl natC (needsE rs kn e)) → K (.slice ad (needsE rs kn e).length cap) M') → S_chaffref_needs ga gl gc ra kn.length rc x M K := by
 intro n
 induction n with
 | zero => intro e h; omega
 | succ n ih =>
  intro e hn h60 M x K hR hg hkn hgood hK
  obtain ⟨xs, hx⟩ := hR.open
  have hl8 := kids8 hgood
  have hnl := needsE_len rs kn e
  unfold S_chaffref_needs
  rw [hx.kind]
  refine ⟨fun h4 => ?_, fun n4 => ?_⟩
  ·have hr := hgood.ref h4
   have hnat : ((findR e.text rs 0).toNat : Int) = findR e.text rs 0 := by omega
   rw [hx.text]
   refine s_chaffref_Find _ _ _ _ _ _ (rfind_is hg e.text _ ⟨_, rfl, fun M1 ad cap hle hsl M2 hle2 => ?_⟩)
   have := hK M2 ad cap (hle.trans hle2)
   rw [needsE_eq, if_pos h4] at this
   refine this ?_
   rw [← hnat] at hsl
   exact hsl.le hle2
  · -- what is left, and what is there
   let rest : List Ex → List Nat := fun ks => if e.kind = 5 then needsQ rs kn ks else needsA rs kn ks
   have hrest0 : needsE rs kn e = rest e.kids := by rw [needsE_eq, if_neg n4]
   have hrestk : ∀ k ks, rest (k :: ks) = needsE rs kn k ++ (if e.kind = 5 ∧ (ofE rs kn k).Empty = false then [] else rest ks) := by
    intro k ks
    simp only [rest]
    by_cases h5 : e.kind = 5
    ·rw [if_pos h5, needsQ]
     cases (ofE rs kn k).Empty <;> simp [h5]
    ·rw [if_neg h5, needsA]; simp [h5]
   have hfin : ∀ (M1 M2 M3 : Mem) (ad : Option Addr) (cap rn : Nat) (rx : List Value), M.le M1 → M1.le M2 → M2.le M3 → rn = (needsE rs kn e).length → rx = cl natC (needsE rs kn e) → SlV M2 ad rn cap 1 rx → K (.slice ad rn cap) M3 := by
    rintro M1 M2 M3 ad cap _ _ h1 h2 h3 rfl rfl hsl
    exact hK M3 ad cap ((h1.trans h2).trans h3) (hsl.le h3)
   refine ⟨fun i rn rx M1 => 0 ≤ i ∧ i ≤ e.kids.length ∧ M.le M1 ∧ ∃ acc : List Nat, rn = acc.length ∧ rx = cl natC acc ∧ acc ++ rest (e.kids.drop i.toNat) = needsE rs kn e, fun i _ _ => e.kids.length - i.toNat, ⟨by omega, by omega, Mem.le.refl M, [], rfl, rfl, by rw [hrest0]; rfl⟩, fun i rn rx M1 ⟨i0, i1, hM1, acc, hrn, hrx, hacc⟩ => ⟨fun hlt => ?_, fun hge => ?_⟩⟩
   ·rw [hx.len] at hlt
    obtain ⟨k, hk⟩ := getI (l := e.kids) i0 hlt
    obtain ⟨xs1, hx1⟩ := (hR.le hM1).open
    obtain ⟨b, o, y, ha, hat, hy, _⟩ := hx1.kid hk
    have hmem := List.mem_of_getElem? hk
    have hgk := hgood.kid k hmem
    have hkl := flatE_kidlen hmem
    rw [drop_get hk, hrestk] at hacc
    have hal := congrArg List.length hacc
    rw [List.length_append, List.length_append] at hal
    subst hrn hrx
    refine ⟨b, o, ha, i0, by rw [hx.len]; exact hlt, y, hat, s_chaffref_needs _ _ _ _ _ _ _ _ _ (ih k (by have := Ex.kid_lt hmem; omega) (by omega) hy (hg.le hM1) (hkn.le hM1) hgk fun M2 ad2 cap2 hle2 hsl2 => ⟨_, _, _, rfl, _, hsl2, cl_one' natC_one _, by omega, ?_⟩)⟩
    have hM2 := hM1.trans hle2
    have happ : cl natC acc ++ cl natC (needsE rs kn k) = cl natC (acc ++ needsE rs kn k) := (cl_append _ _).symm
    have hgo : ∀ b : Bool, (b = true → e.kind = 5 ∧ (ofE rs kn k).Empty = false) → (b = false → ¬ (e.kind = 5 ∧ (ofE rs kn k).Empty = false)) →
      S_chaffref_needs_J1 i acc.length (cl natC acc) (fun i rn rx M1 => 0 ≤ i ∧ i ≤ e.kids.length ∧ M.le M1 ∧ ∃ acc : List Nat, rn = acc.length ∧ rx = cl natC acc ∧ acc ++ rest (e.kids.drop i.toNat) = needsE rs kn e) (fun i _ _ => e.kids.length - i.toNat) (needsE rs kn k).length M2 (cl natC (needsE rs kn k)) b K := by
     intro b hb1 hb2
     unfold S_chaffref_needs_J1
     rw [happ, ← List.length_append]
     refine ⟨fun ht M3 ad3 cap3 hle3 hsl3 M4 hle4 => ?_, fun hf => ⟨by unfold InI; omega, ⟨by omega, by omega, hM2, acc ++ needsE rs kn k, rfl, rfl, ?_⟩, by dsimp only; omega⟩⟩
     ·have := hb1 ht
      rw [if_pos this, List.append_nil] at hacc
      rw [hacc] at hsl3 ⊢
      exact hfin M2 M3 M4 ad3 cap3 _ _ hM2 hle3 hle4 rfl rfl hsl3
     ·have := hb2 (by simpa using hf)
      rw [if_neg this] at hacc
      rw [show (i + 1).toNat = i.toNat + 1 by omega, List.append_assoc]; exact hacc
    refine ⟨fun h5 => ?_, fun n5 => hgo _ (fun h => by cases h) (fun _ h => n5 h.1)⟩
    refine s_chaffref_May _ _ _ _ _ _ _ _ _ (may_is hlen _ k (Nat.lt_succ_self _) (hy.le hle2) (hg.le hM2) (hkn.le hM2) hgk ⟨_, rfl, hgo _ ?_ ?_⟩)
    ·intro h
     refine ⟨h5, ?_⟩
     have : ¬ (bAnd .i64 (enc (ofE rs kn k)) 1 > 0) := by simp at h; omega
     rw [enc1] at this; simpa using this
    ·rintro h ⟨_, h'⟩
     have hnz : ¬ (bAnd .i64 (enc (ofE rs kn k)) 1 = 0) := by simpa using h
     have hz : ∀ f : Fa, f.Empty = false → bAnd .i64 (enc f) 1 = 0 := by rintro ⟨_ | _, _ | _, _ | _⟩ hh <;> first | (exact absurd hh (by decide)) | decide
     exact hnz (hz _ h')
   ·rw [hx.len] at hge
    intro M2 ad2 cap2 hle2 hsl2 M3 hle3
    rw [List.drop_of_length_le (by omega)] at hacc
    have hnil : rest [] = [] := by simp only [rest]; split <;> simp [needsQ, needsA]
    rw [hnil, List.append_nil] at hacc
    subst hacc
    exact hfin M1 M2 M3 ad2 cap2 rn rx hM1 hle2 hle3 hrn hrx hsl2
def chi (n : Nat) (w : List Nat) : List Bool := (List.range n).map fun i => decide (i ∈ w)
theorem chi_len (n : Nat) (w : List Nat) : (chi n w).length = n := by simp [chi]
theorem chi_get {n : Nat} {w : List Nat} {i : Nat} (h : i < n) : (chi n w)[i]? = some (decide (i ∈ w)) := by
 unfold chi
 rw [List.getElem?_map, List.getElem?_range h]; rfl
theorem chi_wkB {n : Nat} {w : List Nat} {i : Nat} (h : i < n) : wkB (chi n w) i = decide (i ∈ w) := by rw [wkB, chi_get h]; rfl
theorem chi_add {n : Nat} {w : List Nat} {i : Nat} (h : i < n) : chi n (w ++ [i]) = (chi n w).set i true := by
 apply List.ext_getElem?
 intro j
 rw [List.getElem?_set]
 by_cases hj : j < n
 ·rw [chi_get hj, chi_get hj, chi_len]
  split
  ·subst i; simp [hj]
  ·rename_i hne; simp [List.mem_append]; intro e; exact absurd e.symm hne
 ·rw [List.getElem?_eq_none (by rw [chi_len]; omega), List.getElem?_eq_none (by rw [chi_len]; omega)]
  split
  ·subst i; omega
  ·rfl
theorem pre_zero {n : Nat} {F : List Bool → Nat → Bool} {kn : List Bool} (hp : Pre bLe F n kn) (h : wS bit 1 kn = 0) : ∀ (i : Nat) a, kn[i]? = some a → F kn i = a := by
 have all : ∀ (l : List Bool), wS bit 1 l = 0 → ∀ (i : Nat) a, l[i]? = some a → a = true := by
  intro l
  induction l with
  | nil => intro _ i a h; simp at h
  | cons b r ih =>
   intro h i a hi
   simp only [wS, List.map_cons, List.sum_cons] at h
   cases i with
   | zero => simp at hi; subst hi; cases b <;> simp [bit] at h ⊢
   | succ i => exact ih (by unfold wS; omega) i a (by simpa using hi)
 intro i a hi
 have ha := all kn h i a hi
 subst ha
 exact hp.up i true hi rfl
theorem rwell_is {rs : List Ru} {ga : Option Addr} {gl gc : Nat} {M : Mem} (hg : GrR M rs ga gl gc) (K : Value → Prop) (hK : K (.tuple #[.int .i64 (wellP rs).1, .int .i64 (wellP rs).2])) : S_chaffref_Well ga gl gc M K := by
 unfold S_chaffref_Well
 unfold wellP at hK
 refine s_chaffref_Gram _ _ _ _ _ (rgram_is hg _ ⟨_, rfl, fun h => ?_, fun h => ?_⟩)
 ·rw [if_pos h] at hK; exact hK
 rw [if_neg h] at hK
 have h0 : gramErr rs = 0 := by simpa using h
 have hok := gram_ok h0
 have h10 := hok.ten
 have hgl := hg.len
 have hkl := knOf_len rs
 have hwl := (wkOf_lfp rs).len
 have L := bLat
 refine s_chaffref_Mays _ _ _ _ _ (pmays_is hok hg _ fun M1 ad cap hle hsl => ⟨_, _, _, rfl, ?_⟩)
 rw [hgl]
 rw [← hkl] at hsl
 generalize hll : (rs.map fun r => loopB rs (knOf rs) r.body) = ll at hK
 have hlll : ll.length = rs.length := by rw [← hll]; simp
 have hlg : ∀ (i : Nat) r, rs[i]? = some r → ll[i]? = some (loopB rs (knOf rs) r.body) := fun i r hr => by rw [← hll, List.getElem?_map, hr]; rfl
 refine ⟨fun i M2 => 0 ≤ i ∧ i ≤ rs.length ∧ M1.le M2 ∧ fstB (ll.drop i.toNat) i = fstB ll 0, fun i => rs.length - i.toNat, ⟨by omega, by omega, Mem.le.refl _, rfl⟩, fun i M2 ⟨i0, i1, hle2, heq⟩ => ⟨fun hlt => ?_, fun hge => ?_⟩⟩
 ·have hg2 := hg.le (hle.trans hle2)
  obtain ⟨r, x, b, o, hr, ha, hat, hrr⟩ := hg2.at i0 (by rw [hgl]; exact hlt)
  have hmem := List.mem_of_getElem? hr
  have herr := hok.err r hmem
  obtain ⟨hf60, _, htake, hflat⟩ := flat_max herr
  refine ⟨b, o, ha, i0, hlt, x, hat, s_chaffref_Nodes _ _ _ (nodes_is r.body x.Body _ _ hrr.2.2 fun M3 A3 c3 xs hle3 hsl3 hall => ⟨_, _, _, rfl, ?_⟩)⟩
  rw [htake] at hall
  have hxl := hall.length
  have hfl : (flatE r.body).length = xs.length := by rw [hxl, ← hflat, List.length_map]
  have hd := drop_get (hlg _ r hr)
  have hg3 := hg2.le hle3
  refine ⟨fun j => 0 ≤ j ∧ j ≤ xs.length ∧ ((flatE r.body).drop j.toNat).any (ndB rs (knOf rs)) = loopB rs (knOf rs) r.body, fun j => xs.length - j.toNat, ⟨by omega, by omega, rfl⟩, fun j ⟨j0, j1, heqj⟩ => ⟨fun hltj => ?_, fun hgej => ?_⟩⟩
  ·obtain ⟨p, hp⟩ := getI (l := preE 1 r.body) j0 (by omega)
   obtain ⟨y, hy, hyr, hyd⟩ := hall.get hp
   obtain ⟨b2, o2, ha2, hat2⟩ := hsl3.at Xn_len rfl hy
   have hpf : (flatE r.body)[j.toNat]? = some p.1 := by rw [← hflat, List.getElem?_map, hp]; rfl
   rw [drop_get hpf, List.any_cons] at heqj
   obtain ⟨zs, hz⟩ := hyr.open
   have hgn : GoodE rs p.1 := by
    refine good_of rs p.1 fun z hz' => ?_
    have hz2 : z ∈ flatE r.body := by
     have key : ∀ e : Ex, p.1 ∈ flatE e → z ∈ flatE e := by
      intro e
      induction hn : SizeOf.sizeOf e using Nat.strongRecOn generalizing e with
      | _ n ih =>
       subst hn
       intro he
       rw [flatE_eq] at he
       rcases List.mem_cons.1 he with he | he
       ·rw [he] at hz'; exact hz'
       ·have hex : ∀ ks : List Ex, p.1 ∈ flatEs ks → ∃ k ∈ ks, p.1 ∈ flatE k := by
         intro ks
         induction ks with
         | nil => intro h; rw [flatEs] at h; cases h
         | cons a t iht =>
          intro h
          rw [flatEs] at h
          rcases List.mem_append.1 h with h | h
          ·exact ⟨a, by simp, h⟩
          ·obtain ⟨k, hk, hk2⟩ := iht h; exact ⟨k, by simp [hk], hk2⟩
        obtain ⟨k, hk, hk2⟩ := hex _ he
        exact flatE_kid hk z (ih _ (Ex.kid_lt hk) k rfl hk2)
     exact key r.body (List.mem_of_getElem? hpf)
    exact ⟨flat_fit _ _ _ herr z hz2, fun hk => by
     have hgr := hok.good r hmem
     have key : ∀ e : Ex, GoodE rs e → z ∈ flatE e → 0 ≤ findR z.text rs 0 := by
      intro e
      induction hn : SizeOf.sizeOf e using Nat.strongRecOn generalizing e with
      | _ n ih =>
       subst hn
       intro hge he
       rw [flatE_eq] at he
       rcases List.mem_cons.1 he with rfl | he
       ·exact hge.ref hk
       ·have hex : ∀ ks : List Ex, z ∈ flatEs ks → ∃ k ∈ ks, z ∈ flatE k := by
         intro ks
         induction ks with
         | nil => intro h; rw [flatEs] at h; cases h
         | cons a t iht =>
          intro h
          rw [flatEs] at h
          rcases List.mem_append.1 h with h | h
          ·exact ⟨a, by simp, h⟩
          ·obtain ⟨k, hk, hk2⟩ := iht h; exact ⟨k, by simp [hk], hk2⟩
        obtain ⟨k, hk', hk2⟩ := hex _ he
        exact ih _ (Ex.kid_lt hk') k rfl (hge.kid k hk') hk2
     exact key r.body hgr hz2⟩
   have j1' : ∀ b : Bool, b = ndB rs (knOf rs) p.1 → S_chaffref_Well_J1 i j (fun j => 0 ≤ j ∧ j ≤ xs.length ∧ ((flatE r.body).drop j.toNat).any (ndB rs (knOf rs)) = loopB rs (knOf rs) r.body) (fun j => xs.length - j.toNat) b K := by
    intro b hb
    unfold S_chaffref_Well_J1
    rw [← hb] at heqj
    refine ⟨fun ht => ?_, fun hf => ⟨by unfold InI; omega, ⟨by omega, by omega, ?_⟩, by dsimp only; omega⟩⟩
    ·rw [ht, Bool.true_or] at heqj
     rw [← heqj] at hd
     obtain ⟨e1, e2⟩ := fstB_hit i0 hd heq
     rw [if_pos e2, e1] at hK; exact hK
    ·rw [show b = false by simpa using hf, Bool.false_or] at heqj
     rw [show (j + 1).toNat = j.toNat + 1 by omega]; exact heqj
   have kid0 : 7 ≤ p.1.kind → ∃ k b o z, p.1.kids = [k] ∧ y.Expr.Kids_a = some ⟨b, o, none⟩ ∧ At M3 b (o + (0 : Int).toNat * 7) z.cells ∧ ExR M3 k z ∧ k ∈ p.1.kids ∧ (0 : Int) < ((y.Expr.Kids_l : Nat) : Int) := fun h7 => by
    have h1 := (fitE_kinds hgn.fit).2.2.2.2.1 h7
    obtain ⟨k, hk⟩ : ∃ k, p.1.kids = [k] := List.length_eq_one_iff.1 h1
    obtain ⟨b, o, z, hza, hzat, hzr, _⟩ := hz.kid (i := 0) (k := k) (by rw [hk]; rfl)
    exact ⟨k, b, o, z, hk, hza, hzat, hzr, by rw [hk]; simp, by rw [hz.len, h1]; omega⟩
   refine ⟨b2, o2, ha2, j0, hltj, y, hat2, ?_⟩
   rw [hz.kind]
   refine ⟨fun h7 => ?_, fun n7 => ⟨fun h8 => ?_, fun n8 => j1' _ (by simp [ndB, n7, n8])⟩⟩
   ·obtain ⟨k, b3, o3, z, hk, hza, hzat, hzr, hkm, hpos⟩ := kid0 (by omega)
    refine ⟨b3, o3, hza, by omega, hpos, z, hzat, ?_⟩
    rw [← hkl]
    refine s_chaffref_May _ _ _ _ _ _ _ _ _ (may_is hkl _ k (Nat.lt_succ_self _) hzr (by rw [← hgl] at hkl; rw [hkl]; exact hg3) (hsl.le (hle2.trans hle3)) (hgn.kid k hkm) ⟨_, rfl, j1' _ ?_⟩)
    rw [d1]; simp [ndB, h7, hk, hdF]
   ·obtain ⟨k, b3, o3, z, hk, hza, hzat, hzr, hkm, hpos⟩ := kid0 (by omega)
    refine ⟨b3, o3, hza, by omega, hpos, z, hzat, ?_⟩
    rw [← hkl]
    refine s_chaffref_May _ _ _ _ _ _ _ _ _ (may_is hkl _ k (Nat.lt_succ_self _) hzr (by rw [← hgl] at hkl; rw [hkl]; exact hg3) (hsl.le (hle2.trans hle3)) (hgn.kid k hkm) ⟨_, rfl, j1' _ ?_⟩)
    rw [d1]; simp [ndB, h8, hk, hdF]
  ·rw [List.drop_of_length_le (by omega), List.any_nil] at heqj
   rw [← heqj] at hd
   exact ⟨by unfold InI; omega, ⟨by omega, by omega, hle2.trans hle3, fstB_miss i0 hd heq⟩, by dsimp only; omega⟩
 rw [List.drop_of_length_le (by omega), fstB] at heq
 rw [if_neg (by rw [← heq]; simp)] at hK
 let F := Gof rs (knOf rs)
 let n := rs.length
 have hF : MonoF bLe F n := Gof_mono rs _ _
 have hchi0 : chi n [] = List.replicate n false := by
  apply List.ext_getElem?
  intro j
  by_cases hj : j < n
  ·rw [chi_get hj, List.getElem?_replicate, if_pos hj]; simp
  ·rw [List.getElem?_eq_none (by rw [chi_len]; omega), List.getElem?_eq_none (by simp; omega)]
 refine ⟨fun k rn rx M3 => 0 ≤ k ∧ k ≤ rs.length ∧ M1.le M3 ∧ ∃ w : List Nat, rn = w.length ∧ rx = cl natC w ∧ (w.length : Int) ≤ k * 10 ∧ Pre bLe F n (chi n w) ∧ ((∀ (j : Nat) a, (chi n w)[j]? = some a → F (chi n w) j = a) ∨ wS bit 1 (chi n w) + k ≤ n), fun k _ _ => rs.length - k.toNat, ⟨by omega, by omega, hle2, [], rfl, rfl, by simp, by rw [hchi0]; exact pre_bot false (fun a h => (by cases h)) n, .inr ?_⟩, fun k rn rx M3 ⟨k0, k1, hle3, w, hrn, hrx, hwk, hpre, hst⟩ => ⟨fun hlt => ?_, fun hge => ?_⟩⟩
 ·have := wS_all (wt := bit) (m := 1) (chi n [])
  rw [chi_len] at this; omega
 ·subst hrn hrx
  refine ⟨fun i rn rx M4 => 0 ≤ i ∧ i ≤ rs.length ∧ M1.le M4 ∧ ∃ w2 : List Nat, rn = w2.length ∧ rx = cl natC w2 ∧ (w2.length : Int) ≤ k * 10 + i ∧ Pre bLe F n (chi n w2) ∧ leL bLe (chi n w) (chi n w2) ∧ ((chi n w2 = chi n w ∧ ∀ (j : Nat) a, (j : Int) < i → (chi n w)[j]? = some a → F (chi n w) j = a) ∨ wS bit 1 (chi n w2) < wS bit 1 (chi n w)), fun i _ _ => rs.length - i.toNat, ⟨by omega, by omega, hle3, w, rfl, rfl, by omega, hpre, leL.refl L _, .inl ⟨rfl, fun j a h => by omega⟩⟩, fun i rn rx M4 ⟨i0, i1, hle4, w2, hrn, hrx, hw2, hpre2, hl2, hst2⟩ => ⟨fun hlt2 => ?_, fun hge2 => ?_⟩⟩
  ·subst hrn hrx
   obtain ⟨m, rfl⟩ := Int.eq_ofNat_of_zero_le i0
   have hmn : m < n := by simp only [n]; omega
   have hg4 := hg.le (hle.trans hle4)
   obtain ⟨r, x, b, o, hr, ha, hat, hrr⟩ := hg4.at (i := (m : Int)) i0 (by rw [hgl]; exact hlt2)
   rw [Int.toNat_natCast] at hr hat
   have hmem := List.mem_of_getElem? hr
   have hgr := hok.good r hmem
   obtain ⟨hf60, _⟩ := flat_max (hok.err r hmem)
   refine ⟨b, o, ha, i0, hlt2, x, by rw [Int.toNat_natCast]; exact hat, ?_⟩
   rw [← hkl]
   refine s_chaffref_needs _ _ _ _ _ _ _ _ _ (needs_is hkl _ r.body (Nat.lt_succ_self _) hf60 hrr.2.2 (by rw [← hgl] at hkl; rw [hkl]; exact hg4) (hsl.le hle4) hgr fun M5 ad5 cap5 hle5 hsl5 => ⟨_, _, _, rfl, ?_⟩)
   rw [hkl]
   generalize hnl : needsE rs (knOf rs) r.body = nl at hsl5 ⊢
   have hnlt : ∀ q ∈ nl, q < n := by rw [← hnl]; exact needsE_lt _ _ hgr
   have hnll : nl.length ≤ 60 := by rw [← hnl]; have := needsE_len rs (knOf rs) r.body; omega
   have hFm : F (chi n w2) m = nl.all fun q => decide (q ∈ w2) := by
    have e : Gof rs (knOf rs) (chi n w2) m = (needsE rs (knOf rs) r.body).all (wkB (chi n w2)) := by unfold Gof; simp only [hr]; rfl
    show Gof rs (knOf rs) (chi n w2) m = _
    rw [e, hnl, Bool.eq_iff_iff, List.all_eq_true, List.all_eq_true]
    exact ⟨fun h q hq => by rw [← chi_wkB (hnlt q hq)]; exact h q hq, fun h q hq => by rw [chi_wkB (hnlt q hq)]; exact h q hq⟩
   refine ⟨fun ok j => 0 ≤ j ∧ j ≤ nl.length ∧ ok = (nl.take j.toNat).all fun q => decide (q ∈ w2), fun _ j => nl.length - j.toNat, ⟨by omega, by omega, by simp⟩, fun ok j ⟨j0, j1, hokj⟩ => ⟨fun hltj => ?_, fun hgej => ?_⟩⟩
   ·obtain ⟨q, hq⟩ := getI (l := nl) j0 hltj
    obtain ⟨b2, o2, ha2, hat2⟩ := hsl5.at natC_len rfl hq
    have hj2 : ∀ v : Bool, v = (ok && decide (q ∈ w2)) → S_chaffref_Well_J2 ok j (fun ok j => 0 ≤ j ∧ j ≤ nl.length ∧ ok = (nl.take j.toNat).all fun q => decide (q ∈ w2)) (fun _ j => nl.length - j.toNat) v K := by
     rintro v rfl
     refine ⟨by unfold InI; omega, ⟨by omega, by omega, ?_⟩, by dsimp only; omega⟩
     rw [show (j + 1).toNat = j.toNat + 1 by omega, take_get hq, List.all_append, hokj]; simp
    refine ⟨b2, o2, ha2, j0, hltj, _, hat2, fun ht M6 ad6 cap6 hle6 hsl6 => ?_, fun hf => hj2 _ (by simp [show ok = false by simpa using hf])⟩
    exact s_slices_Contains_int _ _ _ _ _ _ (nats_contains hsl6 q _ ⟨_, rfl, hj2 _ (by rw [ht]; simp)⟩)
   ·rw [List.take_of_length_le (by omega), ← hFm] at hokj
    have hj4 : ∀ (w3 : List Nat) (M6 : Mem), M1.le M6 → (w3.length : Int) ≤ k * 10 + (m + 1) → chi n w3 = (chi n w2).set m (F (chi n w2) m) → S_chaffref_Well_J4 (m : Int) w2.length (cl natC w2) (fun i rn rx M4 => 0 ≤ i ∧ i ≤ rs.length ∧ M1.le M4 ∧ ∃ w2 : List Nat, rn = w2.length ∧ rx = cl natC w2 ∧ (w2.length : Int) ≤ k * 10 + i ∧ Pre bLe F n (chi n w2) ∧ leL bLe (chi n w) (chi n w2) ∧ ((chi n w2 = chi n w ∧ ∀ (j : Nat) a, (j : Int) < i → (chi n w)[j]? = some a → F (chi n w) j = a) ∨ wS bit 1 (chi n w2) < wS bit 1 (chi n w))) (fun i _ _ => rs.length - i.toNat) w3.length (cl natC w3) M6 K := by
     intro w3 M6 hle6 hw3 hchi
     have hcm := chi_get (w := w2) hmn
     obtain ⟨s1, s2⟩ := hpre2.step L hF hcm
     rw [← hchi] at s1 s2
     refine ⟨by unfold InI; omega, ⟨by omega, by omega, hle6, w3, rfl, rfl, by omega, s1, hl2.trans L s2, ?_⟩, by dsimp only; omega⟩
     by_cases hsame : F (chi n w2) m = decide (m ∈ w2)
     ·have hset : (chi n w2).set m (F (chi n w2) m) = chi n w2 := by rw [hsame]; exact set_same hcm
      rw [hset] at hchi
      rw [hchi]
      refine hst2.imp (fun ⟨e1, e2⟩ => ⟨e1, fun j a hj hja => ?_⟩) id
      by_cases hjm : j = m
      ·subst hjm
       rw [← e1] at hja ⊢
       rw [hcm] at hja; cases hja; exact hsame
      ·exact e2 j a (by omega) hja
     ·right
      have hw := wS_set L hcm (hpre2.up m _ hcm) (fun e => hsame e.symm)
      rw [← hchi] at hw
      have := (wS_le L hl2).1
      omega
    have hj3 : ∀ v : Bool, v = (F (chi n w2) m && !decide (m ∈ w2)) → S_chaffref_Well_J3 (m : Int) w2.length (cl natC w2) (fun i rn rx M4 => 0 ≤ i ∧ i ≤ rs.length ∧ M1.le M4 ∧ ∃ w2 : List Nat, rn = w2.length ∧ rx = cl natC w2 ∧ (w2.length : Int) ≤ k * 10 + i ∧ Pre bLe F n (chi n w2) ∧ leL bLe (chi n w) (chi n w2) ∧ ((chi n w2 = chi n w ∧ ∀ (j : Nat) a, (j : Int) < i → (chi n w)[j]? = some a → F (chi n w) j = a) ∨ wS bit 1 (chi n w2) < wS bit 1 (chi n w))) (fun i _ _ => rs.length - i.toNat) M5 v K := by
     intro v hv
     have hcm := chi_get (w := w2) hmn
     refine ⟨fun ht => ?_, fun hf => ?_⟩
     ·rw [ht] at hv
      have hFt : F (chi n w2) m = true := by cases hF' : F (chi n w2) m <;> simp [hF'] at hv ⊢
      have := hj4 (w2 ++ [m]) M5 (hle4.trans hle5) (by simp; omega) (by rw [hFt]; exact chi_add hmn)
      rw [List.length_append, ← cl_snoc] at this
      exact ⟨by omega, this⟩
     ·rw [show v = false by simpa using hf] at hv
      refine hj4 w2 M5 (hle4.trans hle5) (by omega) ?_
      have hup := hpre2.up m _ hcm
      have : F (chi n w2) m = decide (m ∈ w2) := by
       unfold bLe at hup
       cases hF' : F (chi n w2) m <;> cases hd : decide (m ∈ w2) <;> simp [hF', hd] at hv hup ⊢
      rw [this, set_same hcm]
    refine ⟨fun ht M6 ad6 cap6 hle6 hsl6 => ?_, fun hf => hj3 _ ?_⟩
    ·exact s_slices_Contains_int _ _ _ _ _ _ (nats_contains hsl6 m _ ⟨_, rfl, hj3 _ (by rw [← hokj, ht]; simp)⟩)
    ·rw [← hokj, show ok = false by simpa using hf]; rfl
  ·subst hrn hrx
   refine ⟨by unfold InI; omega, ⟨by omega, by omega, hle4, w2, rfl, rfl, by omega, hpre2, ?_⟩, by dsimp only; omega⟩
   rcases hst2 with ⟨e1, e2⟩ | hlt3
   ·left
    rw [e1]
    exact fun j a hja => e2 j a (by have := (List.getElem?_eq_some_iff.1 hja).1; rw [chi_len] at this; simp only [n] at this; omega) hja
   ·right
    rcases hst with hfix | hws
    ·exfalso
     have hlow := hpre2.low (chi n w) (chi_len n w) (fun j b hb => by rw [hfix j b hb]; exact L.refl b)
     have := (wS_le L hlow).1
     omega
    ·omega
 ·subst hrn hrx
  have hkn : k = n := by simp only [n]; omega
  have hlfp : Lfp bLe F n (chi n w) := by
   rcases hst with hfix | hws
   ·exact hpre.lfp L hfix
   ·exact hpre.lfp L (pre_zero hpre (by omega))
  have hwk := wkOf_eq hlfp
  generalize hwd : (wkOf rs).map (!·) = wd at hK
  have hwdl : wd.length = rs.length := by rw [← hwd]; simp [hwl]
  refine ⟨fun i => 0 ≤ i ∧ i ≤ rs.length ∧ fstB (wd.drop i.toNat) i = fstB wd 0, fun i => rs.length - i.toNat, ⟨by omega, by omega, rfl⟩, fun i ⟨i0, i1, heq⟩ => ⟨fun hlt => ?_, fun hge => ?_⟩⟩
  ·intro M6 ad6 cap6 hle6 hsl6
   obtain ⟨m, rfl⟩ := Int.eq_ofNat_of_zero_le i0
   have hmn : m < n := by simp only [n]; omega
   have hcm := chi_get (w := w) hmn
   rw [hwk] at hcm
   have hwg : wd[m]? = some (!decide (m ∈ w)) := by rw [← hwd, List.getElem?_map, hcm]; rfl
   have hd := drop_get hwg
   refine s_slices_Contains_int _ _ _ _ _ _ (nats_contains hsl6 m _ ⟨_, rfl, fun hf => ?_, fun ht => ⟨by unfold InI; omega, ⟨by omega, by omega, ?_⟩, by dsimp only; omega⟩⟩)
   ·rw [show decide (m ∈ w) = false by simpa using hf] at hd
    obtain ⟨e1, e2⟩ := fstB_hit i0 (by rw [Int.toNat_natCast]; exact hd) heq
    rw [if_pos e2, e1] at hK; exact hK
   ·rw [show decide (m ∈ w) = true by simpa using ht] at hd
    exact fstB_miss i0 (by rw [Int.toNat_natCast]; exact hd) heq
  ·rw [List.drop_of_length_le (by omega), fstB] at heq
   rw [if_neg (by rw [← heq]; simp)] at hK; exact hK
end Go.Proofs.Ytifkffmecfgpeaa.core

namespace Go.Proofs.Ytifkffmecfgpeaa.core
open Go.Gx Go.RowKit Go.ChangeShapes Go.WideShapes Go.ChangeAt
set_option linter.unusedVariables false
theorem wrapU (n : Nat) (h : n < 2 ^ 64) : IntKind.wrap .u64 (n : Int) = n := by
 simp only [IntKind.wrap, IntKind.bits, IntKind.signed, Bool.false_and, Bool.false_eq_true, if_false]
 omega
theorem bvU (n : Nat) (h : n < 2 ^ 64) : (BitVec.ofInt 64 (n : Int)).toNat = n := by
 rw [BitVec.ofInt_natCast, BitVec.toNat_ofNat, Nat.mod_eq_of_lt h]
theorem bOrU (a b : Nat) (ha : a < 2 ^ 64) (hb : b < 2 ^ 64) : bOr .u64 a b = ((a ||| b : Nat) : Int) := by
 show IntKind.wrap .u64 ((BitVec.ofInt 64 (a : Int) ||| BitVec.ofInt 64 (b : Int)).toNat : Int) = _
 rw [BitVec.toNat_or, bvU a ha, bvU b hb, wrapU _ (Nat.or_lt_two_pow ha hb)]
theorem bAndU (a b : Nat) (ha : a < 2 ^ 64) (hb : b < 2 ^ 64) : bAnd .u64 a b = ((a &&& b : Nat) : Int) := by
 show IntKind.wrap .u64 ((BitVec.ofInt 64 (a : Int) &&& BitVec.ofInt 64 (b : Int)).toNat : Int) = _
 rw [BitVec.toNat_and, bvU a ha, bvU b hb, wrapU _ (Nat.and_lt_two_pow a hb)]
theorem bShlU (k : Nat) (hk : k < 64) : bShl .u64 1 k = ((2 ^ k : Nat) : Int) := by
 show IntKind.wrap .u64 (1 * 2 ^ (min (k : Int).toNat 64)) = _
 have : min (k : Int).toNat 64 = k := by omega
 rw [this, Int.one_mul]
 have h2 : (2 ^ k : Nat) < 2 ^ 64 := Nat.pow_lt_pow_right (by decide) hk
 have := wrapU (2 ^ k) h2
 rw [Int.natCast_pow] at this ⊢
 exact this
theorem bShrU (a k : Nat) (hk : k < 64) : bShr .u64 a k = ((a / 2 ^ k : Nat) : Int) := by
 show (a : Int).fdiv (2 ^ (min (k : Int).toNat 64)) = _
 have : min (k : Int).toNat 64 = k := by omega
 rw [this, Int.ofNat_fdiv, Int.natCast_pow]; rfl
def Uw (p : Nat → Bool) (w : Nat) : Nat → Nat
 | 0 => 0
 | j + 1 => Uw p w j + (if p (64 * w + j) = true then 2 ^ j else 0)
theorem Uw_lt (p : Nat → Bool) (w : Nat) : ∀ j, Uw p w j < 2 ^ j
 | 0 => by simp [Uw]
 | j + 1 => by
  have := Uw_lt p w j
  simp only [Uw, Nat.pow_succ]
  split <;> omega
theorem Uw_bit (p : Nat → Bool) (w : Nat) (k : Nat) : ∀ j, (Uw p w j).testBit k = (decide (k < j) && p (64 * w + k))
 | 0 => by simp [Uw]
 | j + 1 => by
  have ih := Uw_bit p w k j
  have hlt := Uw_lt p w j
  simp only [Uw]
  split
  ·rename_i hp
   have e : Uw p w j + 2 ^ j = 2 ^ j * 1 ||| Uw p w j := by
    rw [← Nat.two_pow_add_eq_or_of_lt hlt 1]; omega
   rw [e, Nat.mul_one, Nat.testBit_or, Nat.testBit_two_pow, ih]
   by_cases hk : j = k
   ·subst hk; simp [hp]
   ·have : (decide (k < j + 1)) = decide (k < j) := by congr 1; simp; omega
    rw [this]; simp [hk]
  ·rename_i hp
   rw [Nat.add_zero, ih]
   by_cases hk : j = k
   ·subst hk; simp [hp]
   ·have : (decide (k < j + 1)) = decide (k < j) := by congr 1; simp; omega
    rw [this]
def hasW (s : List Nat) (b : Nat) : Bool := (s.getD (b / 64) 0).testBit (b % 64)
theorem word_ext {x y : Nat} (hx : x < 2 ^ 64) (hy : y < 2 ^ 64) (h : ∀ k, k < 64 → x.testBit k = y.testBit k) : x = y := by
 refine Nat.eq_of_testBit_eq fun k => ?_
 by_cases hk : k < 64
 ·exact h k hk
 ·have : 2 ^ 64 ≤ 2 ^ k := Nat.pow_le_pow_right (by decide) (by omega)
  rw [Nat.testBit_lt_two_pow (by omega), Nat.testBit_lt_two_pow (by omega)]
theorem word_is {x : Nat} (p : Nat → Bool) (w : Nat) (hx : x < 2 ^ 64) (h : ∀ k, k < 64 → x.testBit k = p (64 * w + k)) : x = Uw p w 64 :=
 word_ext hx (Uw_lt p w 64) fun k hk => by rw [h k hk, Uw_bit]; simp [hk]
theorem hasW_at (s : List Nat) (w k : Nat) (hk : k < 64) : hasW s (64 * w + k) = (s.getD w 0).testBit k := by
 unfold hasW
 rw [show (64 * w + k) / 64 = w by omega, show (64 * w + k) % 64 = k by omega]
theorem has_bit (x k : Nat) (hk : k < 64) : ((bShr .u64 (x : Int) (k : Int)).tmod 2 == (1 : Int)) = x.testBit k := by
 rw [bShrU x k hk, Nat.testBit_eq_decide_div_mod_eq, Int.tmod_eq_emod_of_nonneg (Int.natCast_nonneg _)]
 generalize x / 2 ^ k = y
 rw [Bool.eq_iff_iff, beq_iff_eq, decide_eq_true_iff]
 omega
def Us (p : Nat → Bool) : X_api_Set := ⟨(Uw p 0 64 : Nat), (Uw p 1 64 : Nat), (Uw p 2 64 : Nat), (Uw p 3 64 : Nat)⟩
def bitS (s : X_api_Set) (b : Nat) : Bool := hasW [s.w0.toNat, s.w1.toNat, s.w2.toNat, s.w3.toNat] b
theorem nat_of {z : Int} (h : (Lit.int .u64 z).wf = true) : ∃ n : Nat, z = n ∧ n < 2 ^ 64 := by
 simp only [Lit.wf, IntKind.min, IntKind.max, Bool.and_eq_true] at h
 refine ⟨z.toNat, ?_, ?_⟩ <;> simp [IntKind.bits, IntKind.signed] at h <;> omega
theorem of_nat {n : Nat} (h : n < 2 ^ 64) : (Lit.int .u64 (n : Int)).wf = true := by
 simp only [Lit.wf, IntKind.min, IntKind.max, Bool.and_eq_true]
 simp [IntKind.bits, IntKind.signed]; omega
theorem Us_wf (p : Nat → Bool) : wfS (Us p) := ⟨of_nat (Uw_lt p 0 64), of_nat (Uw_lt p 1 64), of_nat (Uw_lt p 2 64), of_nat (Uw_lt p 3 64)⟩
theorem bit_Us {p : Nat → Bool} {b : Nat} (hb : b < 256) : bitS (Us p) b = p b := by
 have key : ∀ w k : Nat, w < 4 → k < 64 → hasW [Uw p 0 64, Uw p 1 64, Uw p 2 64, Uw p 3 64] (64 * w + k) = p (64 * w + k) := by
  intro w k hw hk
  rw [hasW_at _ w k hk]
  have : [Uw p 0 64, Uw p 1 64, Uw p 2 64, Uw p 3 64].getD w 0 = Uw p w 64 := by
   match w, hw with
   | 0, _ => rfl
   | 1, _ => rfl
   | 2, _ => rfl
   | 3, _ => rfl
  rw [this, Uw_bit]; simp [hk]
 have := key (b / 64) (b % 64) (by omega) (by omega)
 rw [show 64 * (b / 64) + b % 64 = b by omega] at this
 exact this
theorem Us_bit {s : X_api_Set} (h : wfS s) : Us (bitS s) = s := by
 obtain ⟨a, b, c, d⟩ := s
 obtain ⟨h0, h1, h2, h3⟩ := h
 obtain ⟨a, rfl, ha⟩ := nat_of h0
 obtain ⟨b, rfl, hb⟩ := nat_of h1
 obtain ⟨c, rfl, hc⟩ := nat_of h2
 obtain ⟨d, rfl, hd⟩ := nat_of h3
 have key : ∀ (w x : Nat), [a, b, c, d].getD w 0 = x → x < 2 ^ 64 → Uw (bitS ⟨a, b, c, d⟩) w 64 = x := fun w x hx hlt => by
  refine (word_is _ w hlt fun k hk => ?_).symm
  rw [← hx]
  exact (hasW_at [a, b, c, d] w k hk).symm
 unfold Us
 rw [key 0 a rfl ha, key 1 b rfl hb, key 2 c rfl hc, key 3 d rfl hd]
theorem Us_congr {p q : Nat → Bool} (h : ∀ b, b < 256 → p b = q b) : Us p = Us q := by
 have key : ∀ (w : Nat), w < 4 → ∀ j, j ≤ 64 → Uw p w j = Uw q w j := by
  intro w hw j
  induction j with
  | zero => intro _; rfl
  | succ j ih => intro hj; rw [Uw, Uw, ih (by omega), h (64 * w + j) (by omega)]
 unfold Us
 rw [key 0 (by omega) 64 (by omega), key 1 (by omega) 64 (by omega), key 2 (by omega) 64 (by omega), key 3 (by omega) 64 (by omega)]
theorem set_ext {s t : X_api_Set} (hs : wfS s) (ht : wfS t) (h : ∀ b, b < 256 → bitS s b = bitS t b) : s = t := by
 rw [← Us_bit hs, ← Us_bit ht]; exact Us_congr h
theorem bit_get {s : X_api_Set} (h : wfS s) {x : Nat} (hx : x < 256) : ∃ w : Nat, [s.w0, s.w1, s.w2, s.w3][x / 64]? = some (w : Int) ∧ w < 2 ^ 64 ∧ w.testBit (x % 64) = bitS s x := by
 obtain ⟨a, b, c, d⟩ := s
 obtain ⟨h0, h1, h2, h3⟩ := h
 obtain ⟨a, rfl, ha⟩ := nat_of h0
 obtain ⟨b, rfl, hb⟩ := nat_of h1
 obtain ⟨c, rfl, hc⟩ := nat_of h2
 obtain ⟨d, rfl, hd⟩ := nat_of h3
 have hq : x / 64 < 4 := by omega
 have hx' := hasW_at [a, b, c, d] (x / 64) (x % 64) (by omega)
 rw [show 64 * (x / 64) + x % 64 = x by omega] at hx'
 match h : x / 64, hq with
 | 0, _ => exact ⟨a, rfl, ha, by rw [h] at hx'; exact hx'.symm⟩
 | 1, _ => exact ⟨b, rfl, hb, by rw [h] at hx'; exact hx'.symm⟩
 | 2, _ => exact ⟨c, rfl, hc, by rw [h] at hx'; exact hx'.symm⟩
 | 3, _ => exact ⟨d, rfl, hd, by rw [h] at hx'; exact hx'.symm⟩
theorem rhas_is {s : X_api_Set} (hs : wfS s) {x : Nat} (hx : x < 256) {M : Mem} (K : Value → Prop) (h : K (.bool (bitS s x))) : S_chaffref_Has s (x : Int) M K := by
 unfold S_chaffref_Has
 have e1 : (x : Int).tdiv 64 = ((x / 64 : Nat) : Int) := by rw [Int.tdiv_eq_ediv_of_nonneg (by omega)]; omega
 have e2 : (x : Int).tmod 64 = ((x % 64 : Nat) : Int) := by rw [Int.tmod_eq_emod_of_nonneg (by omega)]; omega
 obtain ⟨w, hw, _, hb⟩ := bit_get hs hx
 rw [e1, e2]
 refine ⟨by unfold InI; omega, by omega, by omega, (w : Int), ?_, by omega, ?_⟩
 ·rw [show 0 + (((x / 64 : Nat) : Int)).toNat * 1 = x / 64 by omega]; exact hw
 ·rw [has_bit _ _ (by omega), hb]; exact h
theorem u8_shift : ∀ n : Nat, n < 256 → bShr .u8 (n : Int) 6 = ((n / 64 : Nat) : Int) ∧ bAnd .u8 (n : Int) 63 = ((n % 64 : Nat) : Int) := by decide +kernel
theorem bit_one (w k : Nat) (hw : w < 2 ^ 64) (hk : k < 64) : ((bAnd .u64 (bShr .u64 (w : Int) (k : Int)) 1 : Int) == (1 : Int)) = w.testBit k := by
 rw [bShrU w k hk, Nat.testBit_eq_decide_div_mod_eq]
 have h1 : w / 2 ^ k < 2 ^ 64 := Nat.lt_of_le_of_lt (Nat.div_le_self _ _) hw
 rw [show (1 : Int) = ((1 : Nat) : Int) from rfl, bAndU _ _ h1 (by decide), Nat.and_one_is_mod]
 generalize w / 2 ^ k = y
 rw [Bool.eq_iff_iff, beq_iff_eq, decide_eq_true_iff]
 omega
theorem has_is {s : X_api_Set} (hs : wfS s) (c : UInt8) {M : Mem} (K : Value → Prop) (h : K (.bool (bitS s c.toNat))) : S_set_Has s (c.toNat : Int) M K := by
 have hc := c.toNat_lt
 obtain ⟨e1, e2⟩ := u8_shift c.toNat hc
 obtain ⟨w, hw, hlt, hb⟩ := bit_get hs hc
 unfold S_set_Has
 rw [e1, e2]
 refine ⟨by omega, by omega, (w : Int), ?_, by omega, ?_⟩
 ·rw [show 0 + (((c.toNat / 64 : Nat) : Int)).toNat * 1 = c.toNat / 64 by omega]; exact hw
 ·rw [bit_one _ _ hlt (by omega), hb]; exact h
theorem where_is (fv : Value) (M : Mem) (p : Nat → Bool) (hp : ∀ x : Nat, x < 256 → CallF Try.prog fv [.int .i64 x] M (fun v _ => v = .bool (p x))) (K : Value → Prop)
  (h : K (Us p).val) : S_chaffref_Where fv M K := by
 unfold S_chaffref_Where
 let Z : Nat → List Int := fun b => [(Uw p 0 (min b 64) : Nat), (Uw p 1 (min (b - 64) 64) : Nat), (Uw p 2 (min (b - 128) 64) : Nat), (Uw p 3 (min (b - 192) 64) : Nat)]
 refine ⟨fun b zs => ∃ n : Nat, b = n ∧ n ≤ 256 ∧ zs = Z n, fun b _ => 256 - b.toNat, ⟨0, rfl, by omega, rfl⟩, fun b zs ⟨n, hb, hn, hz⟩ => ?_⟩
 subst hb
 subst hz
 refine ⟨fun hlt => ?_, fun hge => ?_⟩
 ·have hlt' : n < 256 := by omega
  refine (hp n hlt').mono fun v _ _ hv => ⟨p n, hv, fun hpn => ?_, fun hpn => ?_⟩
  ·have e1 : (n : Int).tdiv 64 = ((n / 64 : Nat) : Int) := by rw [Int.tdiv_eq_ediv_of_nonneg (by omega)]; omega
   have e2 : (n : Int).tmod 64 = ((n % 64 : Nat) : Int) := by rw [Int.tmod_eq_emod_of_nonneg (by omega)]; omega
   rw [e1, e2]
   have hq : n / 64 < 4 := by omega
   have ei : (0 + (((n / 64 : Nat) : Int)).toNat * 1) = n / 64 := by omega
   rw [ei]
   have hr : n % 64 < 64 := by omega
   have hU := Uw_lt p (n / 64) (n % 64)
   have hpow : 2 ^ (n % 64) < 2 ^ 64 := Nat.pow_lt_pow_right (by decide) hr
   have hpow2 : 2 ^ (n % 64) * 2 ≤ 2 ^ 64 := by rw [← Nat.pow_succ]; exact Nat.pow_le_pow_right (by decide) (by omega)
   have hget : (Z n)[n / 64]? = some ((Uw p (n / 64) (n % 64) : Nat) : Int) := by
    show [((Uw p 0 (min n 64) : Nat) : Int), (Uw p 1 (min (n - 64) 64) : Nat), (Uw p 2 (min (n - 128) 64) : Nat), (Uw p 3 (min (n - 192) 64) : Nat)][n / 64]? = _
    match h : n / 64, hq with
    | 0, _ => rw [show min n 64 = n % 64 by omega]; rfl
    | 1, _ => rw [show min (n - 64) 64 = n % 64 by omega]; rfl
    | 2, _ => rw [show min (n - 128) 64 = n % 64 by omega]; rfl
    | 3, _ => rw [show min (n - 192) 64 = n % 64 by omega]; rfl
   refine ⟨by unfold InI; omega, by omega, by omega, _, hget, by omega, by omega, by omega, by show n / 64 < 4; exact hq, ?_⟩
   rw [bShlU _ hr]
   have hw : IntKind.wrap .u64 (((Uw p (n / 64) (n % 64) : Nat) : Int) + ((2 ^ (n % 64) : Nat) : Int)) = ((Uw p (n / 64) (n % 64 + 1) : Nat) : Int) := by
    rw [← Int.natCast_add, wrapU _ (by omega)]
    have : p (64 * (n / 64) + n % 64) = true := by rw [show 64 * (n / 64) + n % 64 = n by omega]; exact hpn
    simp only [Uw, this, if_true]
   rw [hw]
   have hset : (Z n).set (n / 64) ((Uw p (n / 64) (n % 64 + 1) : Nat) : Int) = Z (n + 1) := by
    show [((Uw p 0 (min n 64) : Nat) : Int), (Uw p 1 (min (n - 64) 64) : Nat), (Uw p 2 (min (n - 128) 64) : Nat), (Uw p 3 (min (n - 192) 64) : Nat)].set (n / 64) _ = [((Uw p 0 (min (n + 1) 64) : Nat) : Int), (Uw p 1 (min (n + 1 - 64) 64) : Nat), (Uw p 2 (min (n + 1 - 128) 64) : Nat), (Uw p 3 (min (n + 1 - 192) 64) : Nat)]
    match h : n / 64, hq with
    | 0, _ => rw [show min (n + 1) 64 = n % 64 + 1 by omega, show min (n + 1 - 64) 64 = min (n - 64) 64 by omega, show min (n + 1 - 128) 64 = min (n - 128) 64 by omega, show min (n + 1 - 192) 64 = min (n - 192) 64 by omega]; rfl
    | 1, _ => rw [show min (n + 1 - 64) 64 = n % 64 + 1 by omega, show min (n + 1) 64 = min n 64 by omega, show min (n + 1 - 128) 64 = min (n - 128) 64 by omega, show min (n + 1 - 192) 64 = min (n - 192) 64 by omega]; rfl
    | 2, _ => rw [show min (n + 1 - 128) 64 = n % 64 + 1 by omega, show min (n + 1) 64 = min n 64 by omega, show min (n + 1 - 64) 64 = min (n - 64) 64 by omega, show min (n + 1 - 192) 64 = min (n - 192) 64 by omega]; rfl
    | 3, _ => rw [show min (n + 1 - 192) 64 = n % 64 + 1 by omega, show min (n + 1) 64 = min n 64 by omega, show min (n + 1 - 64) 64 = min (n - 64) 64 by omega, show min (n + 1 - 128) 64 = min (n - 128) 64 by omega]; rfl
   rw [hset]
   exact ⟨by unfold InI; omega, ⟨n + 1, by omega, by omega, rfl⟩, by dsimp only; omega⟩
  ·have hpn' : p n = false := by simpa using hpn
   have hsame : ∀ w : Nat, Uw p w (min (n + 1 - 64 * w) 64) = Uw p w (min (n - 64 * w) 64) := by
    intro w
    by_cases h1 : 64 * w ≤ n ∧ n < 64 * w + 64
    ·rw [show min (n + 1 - 64 * w) 64 = min (n - 64 * w) 64 + 1 by omega]
     simp only [Uw]
     rw [show 64 * w + min (n - 64 * w) 64 = n by omega, hpn']
     simp
    ·rw [show min (n + 1 - 64 * w) 64 = min (n - 64 * w) 64 by omega]
   have hZ : Z n = Z (n + 1) := by
    have h0 := hsame 0
    have h1 := hsame 1
    have h2 := hsame 2
    have h3 := hsame 3
    simp only [Nat.mul_zero, Nat.sub_zero, Nat.mul_one] at h0 h1 h2 h3
    show [((Uw p 0 (min n 64) : Nat) : Int), (Uw p 1 (min (n - 64) 64) : Nat), (Uw p 2 (min (n - 128) 64) : Nat), (Uw p 3 (min (n - 192) 64) : Nat)] = [((Uw p 0 (min (n + 1) 64) : Nat) : Int), (Uw p 1 (min (n + 1 - 64) 64) : Nat), (Uw p 2 (min (n + 1 - 128) 64) : Nat), (Uw p 3 (min (n + 1 - 192) 64) : Nat)]
    rw [h0, h1, show min (n + 1 - 128) 64 = min (n + 1 - 64 * 2) 64 by omega, h2, show min (n + 1 - 192) 64 = min (n + 1 - 64 * 3) 64 by omega, h3]
   unfold S_chaffref_Where_J1
   exact ⟨by unfold InI; omega, ⟨n + 1, by omega, by omega, hZ⟩, by dsimp only; omega⟩
 ·have hn : n = 256 := by omega
  subst hn
  exact ⟨_, _, _, _, rfl, rfl, _, _, _, _, rfl, h⟩
theorem join_is {s t : X_api_Set} (hs : wfS s) (ht : wfS t) {M : Mem} (K : Value → Prop) (hK : K (Us fun b => bitS s b || bitS t b).val) : S_set_Join s t M K := by
 unfold S_set_Join
 refine s_set_both _ _ _ _ _ ?_
 obtain ⟨a, b, c, d⟩ := s
 obtain ⟨a', b', c', d'⟩ := t
 obtain ⟨h0, h1, h2, h3⟩ := hs
 obtain ⟨k0, k1, k2, k3⟩ := ht
 obtain ⟨a, rfl, ha⟩ := nat_of h0
 obtain ⟨b, rfl, hb⟩ := nat_of h1
 obtain ⟨c, rfl, hc⟩ := nat_of h2
 obtain ⟨d, rfl, hd⟩ := nat_of h3
 obtain ⟨a', rfl, ha'⟩ := nat_of k0
 obtain ⟨b', rfl, hb'⟩ := nat_of k1
 obtain ⟨c', rfl, hc'⟩ := nat_of k2
 obtain ⟨d', rfl, hd'⟩ := nat_of k3
 have hw : ∀ (w x y : Nat), [a, b, c, d].getD w 0 = x → [a', b', c', d'].getD w 0 = y → x < 2 ^ 64 → y < 2 ^ 64 → (x ||| y) = Uw (fun q => bitS ⟨a, b, c, d⟩ q || bitS ⟨a', b', c', d'⟩ q) w 64 := by
  intro w x y hx hy hxl hyl
  refine word_is _ w (Nat.or_lt_two_pow hxl hyl) fun k hk => ?_
  rw [Nat.testBit_or, ← hx, ← hy]
  rw [← hasW_at [a, b, c, d] w k hk, ← hasW_at [a', b', c', d'] w k hk]; rfl
 have hfin : (⟨((a ||| a' : Nat) : Int), ((b ||| b' : Nat) : Int), ((c ||| c' : Nat) : Int), ((d ||| d' : Nat) : Int)⟩ : X_api_Set) = Us fun q => bitS ⟨a, b, c, d⟩ q || bitS ⟨a', b', c', d'⟩ q := by
  unfold Us
  rw [hw 0 a a' rfl rfl ha ha', hw 1 b b' rfl rfl hb hb', hw 2 c c' rfl rfl hc hc', hw 3 d d' rfl rfl hd hd']
 rw [← hfin] at hK
 have call : ∀ (x y : Nat) (K : Value → Prop), x < 2 ^ 64 → y < 2 ^ 64 → K (.int .u64 ((x ||| y : Nat) : Int)) → CallF Try.prog (Value.func (.func 190) #[] #[]) [.int .u64 (x : Int), .int .u64 (y : Int)] M (fun v _ => K v) := fun x y K hx hy hK =>
  f_set_Join_1 _ _ _ _ (by unfold S_set_Join_1; rw [bOrU x y hx hy]; exact hK)
 unfold S_set_both
 refine ⟨fun i zs => (i = 0 ∧ zs = [(a : Int), b, c, d]) ∨ (i = 1 ∧ zs = [((a ||| a' : Nat) : Int), b, c, d]) ∨ (i = 2 ∧ zs = [((a ||| a' : Nat) : Int), ((b ||| b' : Nat) : Int), c, d]) ∨ (i = 3 ∧ zs = [((a ||| a' : Nat) : Int), ((b ||| b' : Nat) : Int), ((c ||| c' : Nat) : Int), d]) ∨ (i = 4 ∧ zs = [((a ||| a' : Nat) : Int), ((b ||| b' : Nat) : Int), ((c ||| c' : Nat) : Int), ((d ||| d' : Nat) : Int)]), fun i _ => 4 - i.toNat, .inl ⟨rfl, rfl⟩, fun i zs hI => ?_⟩
 rcases hI with ⟨rfl, rfl⟩ | ⟨rfl, rfl⟩ | ⟨rfl, rfl⟩ | ⟨rfl, rfl⟩ | ⟨rfl, rfl⟩
 ·exact ⟨fun _ => ⟨by omega, by omega, _, rfl, by omega, by omega, _, rfl, call _ _ _ ha ha' ⟨_, rfl, by omega, by omega, by simp, by unfold InI; omega, .inr (.inl ⟨rfl, rfl⟩), by dsimp only; decide⟩⟩, fun h => absurd h (by decide)⟩
 ·exact ⟨fun _ => ⟨by omega, by omega, _, rfl, by omega, by omega, _, rfl, call _ _ _ hb hb' ⟨_, rfl, by omega, by omega, by simp, by unfold InI; omega, .inr (.inr (.inl ⟨rfl, rfl⟩)), by dsimp only; decide⟩⟩, fun h => absurd h (by decide)⟩
 ·exact ⟨fun _ => ⟨by omega, by omega, _, rfl, by omega, by omega, _, rfl, call _ _ _ hc hc' ⟨_, rfl, by omega, by omega, by simp, by unfold InI; omega, .inr (.inr (.inr (.inl ⟨rfl, rfl⟩))), by dsimp only; decide⟩⟩, fun h => absurd h (by decide)⟩
 ·exact ⟨fun _ => ⟨by omega, by omega, _, rfl, by omega, by omega, _, rfl, call _ _ _ hd hd' ⟨_, rfl, by omega, by omega, by simp, by unfold InI; omega, .inr (.inr (.inr (.inr ⟨rfl, rfl⟩))), by dsimp only; decide⟩⟩, fun h => absurd h (by decide)⟩
 ·exact ⟨fun h => absurd h (by decide), fun _ => ⟨_, _, _, _, rfl, rfl, _, _, _, _, rfl, _, rfl, hK⟩⟩
theorem Uw_congr {p q : Nat → Bool} {w : Nat} (h : ∀ k, k < 64 → p (64 * w + k) = q (64 * w + k)) : Uw p w 64 = Uw q w 64 := by
 have key : ∀ j, j ≤ 64 → Uw p w j = Uw q w j := by
  intro j
  induction j with
  | zero => intro _; rfl
  | succ j ih => intro hj; rw [Uw, Uw, ih (by omega), h j (by omega)]
 exact key 64 (by omega)
def U4 (p : Nat → Bool) : List Int := [(Uw p 0 64 : Nat), (Uw p 1 64 : Nat), (Uw p 2 64 : Nat), (Uw p 3 64 : Nat)]
theorem U4_get (p : Nat → Bool) {w : Nat} (hw : w < 4) : (U4 p)[w]? = some ((Uw p w 64 : Nat) : Int) := by
 match w, hw with
 | 0, _ => rfl
 | 1, _ => rfl
 | 2, _ => rfl
 | 3, _ => rfl
theorem U4_set {p q : Nat → Bool} {w : Nat} (hw : w < 4) (h : ∀ x, x < 256 → x / 64 ≠ w → p x = q x) : (U4 p).set w ((Uw q w 64 : Nat) : Int) = U4 q := by
 have key : ∀ v, v < 4 → v ≠ w → Uw p v 64 = Uw q v 64 := fun v hv hne => Uw_congr fun k hk => h _ (by omega) (by omega)
 match w, hw with
 | 0, _ => show [_, _, _, _] = [_, _, _, _]; rw [key 1 (by omega) (by omega), key 2 (by omega) (by omega), key 3 (by omega) (by omega)]
 | 1, _ => show [_, _, _, _] = [_, _, _, _]; rw [key 0 (by omega) (by omega), key 2 (by omega) (by omega), key 3 (by omega) (by omega)]
 | 2, _ => show [_, _, _, _] = [_, _, _, _]; rw [key 0 (by omega) (by omega), key 1 (by omega) (by omega), key 3 (by omega) (by omega)]
 | 3, _ => show [_, _, _, _] = [_, _, _, _]; rw [key 0 (by omega) (by omega), key 1 (by omega) (by omega), key 2 (by omega) (by omega)]
theorem i64_shift : ∀ n : Nat, n < 256 → bShr .i64 (n : Int) 6 = ((n / 64 : Nat) : Int) ∧ bAnd .i64 (n : Int) 63 = ((n % 64 : Nat) : Int) := by decide +kernel
def inR (low high : Int) (x : Nat) : Bool := decide (low ≤ x ∧ (x : Int) ≤ high)
theorem range_is (low high : Int) {M : Mem} (K : Value → Prop) (hK : K (Us (inR low high)).val) : S_set_Range low high M K := by
 unfold S_set_Range
 have hz : ∀ p : Nat → Bool, (∀ x, x < 256 → p x = false) → U4 p = [0, 0, 0, 0] := fun p hp => by
  have key : ∀ w, w < 4 → Uw p w 64 = 0 := fun w hw => by
   have h1 : Uw p w 64 = Uw (fun _ => false) w 64 := Uw_congr fun k hk => hp _ (by omega)
   have h2 : ∀ j, Uw (fun _ => false) w j = 0 := by
    intro j
    induction j with
    | zero => rfl
    | succ j ih => rw [Uw, ih]; simp
   rw [h1, h2]
  unfold U4
  rw [key 0 (by omega), key 1 (by omega), key 2 (by omega), key 3 (by omega)]; rfl
 let pb : Int → Nat → Bool := fun b x => decide (low ≤ x ∧ (x : Int) < b)
 refine ⟨fun b zs => (if low > 0 then low else 0) ≤ b ∧ (b = (if low > 0 then low else 0) ∨ b ≤ (if high < 255 then high else 255) + 1) ∧ zs = U4 (pb b), fun b _ => (256 - b).toNat, ⟨Int.le_refl _, .inl rfl, (hz _ fun x _ => ?_).symm⟩, fun b zs ⟨h0, h1, h2⟩ => ⟨fun hlt => ?_, fun hge => ?_⟩⟩
 ·simp only [pb, decide_eq_false_iff_not]; split <;> omega
 ·subst h2
  have hb0 : 0 ≤ b := by split at h0 <;> omega
  have hb1 : b ≤ 255 := by split at hlt <;> omega
  have hb2 : low ≤ b := by split at h0 <;> omega
  obtain ⟨n, rfl⟩ := Int.eq_ofNat_of_zero_le hb0
  have hn : n < 256 := by omega
  obtain ⟨e1, e2⟩ := i64_shift n hn
  rw [e1, e2]
  have hidx : 0 + (((n / 64 : Nat) : Int)).toNat * 1 = n / 64 := by omega
  rw [hidx]
  have hw4 : n / 64 < 4 := by omega
  refine ⟨by omega, by omega, _, U4_get _ hw4, by omega, by omega, by omega, by show n / 64 < 4; exact hw4, by unfold InI; omega, ⟨?_, ?_, ?_⟩, by dsimp only; omega⟩
  ·split at h0 <;> (split <;> omega)
  ·right; split at hlt <;> (split <;> omega)
  ·rw [bShlU _ (by omega), bOrU _ _ (Uw_lt _ _ _) (Nat.pow_lt_pow_right (by decide) (by omega))]
   have hword : (Uw (pb (n : Int)) (n / 64) 64 ||| 2 ^ (n % 64)) = Uw (pb ((n : Int) + 1)) (n / 64) 64 := by
    refine word_is _ _ (Nat.or_lt_two_pow (Uw_lt _ _ _) (Nat.pow_lt_pow_right (by decide) (by omega))) fun k hk => ?_
    rw [Nat.testBit_or, Uw_bit, Nat.testBit_two_pow]
    simp only [pb, hk, decide_true, Bool.true_and]
    rw [Bool.eq_iff_iff]
    simp only [Bool.or_eq_true, decide_eq_true_eq]
    omega
   rw [hword]
   exact U4_set hw4 fun x hx hne => by simp only [pb]; rw [decide_eq_decide]; omega
 ·subst h2
  refine ⟨_, _, _, _, rfl, rfl, _, _, _, _, rfl, ?_⟩
  have : Us (pb b) = Us (inR low high) := Us_congr fun x hx => by
   simp only [pb, inR]; rw [decide_eq_decide]
   split at h0 <;> split at h1 <;> omega
  rw [← this] at hK; exact hK
end Go.Proofs.Ytifkffmecfgpeaa.core

namespace Go.Proofs.Ytifkffmecfgpeaa.core
open Go.Gx Go.RowKit Go.ChangeShapes Go.WideShapes Go.ChangeAt
set_option linter.unusedVariables false
def strE (f : Int → Int) (q : Bool) : Nat → Int → Bool → Int
 | 0, p, _ => p
 | m + 1, p, fi => if f p = -2 ∨ (f p < 0 ∧ fi = true ∧ q = true) then f p else if f p < 0 then p else strE f q m (f p) false
def oneE (k p r : Int) : Int := if r = -2 then -2 else if k = 9 ∧ 0 ≤ r then r else if (k = 10 ∧ r < 0) ∨ (k = 11 ∧ 0 ≤ r) then -1 else p
def setE (t : X_api_Set) (s : List UInt8) (p : Int) : Int := match s[p.toNat]? with
 | some c => if bitS t c.toNat then p + 1 else -1
 | none => -1
def litE (x s : List UInt8) (p : Int) : Int := if p + (x.length : Nat) ≤ (s.length : Nat) ∧ (s.take (p + (x.length : Nat)).toNat).drop p.toNat = x then p + (x.length : Nat) else -1
mutual
def endE (rs : List Ru) (s : List UInt8) (E : Nat → Nat → Int) : Ex → Int → Int
 | .mk k t x ks, p => if k = 1 then p else if k = 2 then setE t s p else if k = 3 then litE x s p else if k = 4 then E p.toNat (findR x rs 0).toNat
  else if k = 5 then seqE rs s E ks p else if k = 6 then altE rs s E ks p else if k = 7 ∨ k = 8 then strE (hdE rs s E ks) (decide (k = 8)) (s.length + 2) p true
  else oneE k p (hdE rs s E ks p)
def seqE (rs : List Ru) (s : List UInt8) (E : Nat → Nat → Int) : List Ex → Int → Int
 | [], p => p
 | k :: ks, p => if endE rs s E k p < 0 then endE rs s E k p else seqE rs s E ks (endE rs s E k p)
def altE (rs : List Ru) (s : List UInt8) (E : Nat → Nat → Int) : List Ex → Int → Int
 | [], _ => -1
 | k :: ks, p => if endE rs s E k p ≠ -1 then endE rs s E k p else altE rs s E ks p
def hdE (rs : List Ru) (s : List UInt8) (E : Nat → Nat → Int) : List Ex → Int → Int
 | [], _ => -1
 | k :: _, p => endE rs s E k p
end
theorem endE_eq (rs : List Ru) (s : List UInt8) (E : Nat → Nat → Int) (e : Ex) (p : Int) : endE rs s E e p = if e.kind = 1 then p else if e.kind = 2 then setE e.set s p else if e.kind = 3 then litE e.text s p else if e.kind = 4 then E p.toNat (findR e.text rs 0).toNat
  else if e.kind = 5 then seqE rs s E e.kids p else if e.kind = 6 then altE rs s E e.kids p else if e.kind = 7 ∨ e.kind = 8 then strE (hdE rs s E e.kids) (decide (e.kind = 8)) (s.length + 2) p true
  else oneE e.kind p (hdE rs s E e.kids p) := by
 cases e; rw [endE]; rfl
def Val (n : Nat) (f : Fa) (p r : Int) : Prop := r = -2 ∨ (r = -1 ∧ f.Fails = true) ∨ (r = p ∧ f.Empty = true) ∨ (p < r ∧ r ≤ n ∧ f.Eats = true)
theorem Val.pos {n : Nat} {f : Fa} {p r : Int} (h : Val n f p r) (hp : 0 ≤ p) (hn : p ≤ n) : r = -2 ∨ r = -1 ∨ (p ≤ r ∧ r ≤ n) := by
 rcases h with h | h | h | h <;> omega
structure TabOk (rs : List Ru) (n : Nat) (E : Nat → Nat → Int) : Prop where
 val : ∀ (p i : Nat) f, p ≤ n → (knOf rs)[i]? = some f → Val n f p (E p i)
theorem then_val {n : Nat} {a b : Fa} {p q r : Int} (hp : 0 ≤ p) (h1 : Val n a p q) (hq : 0 ≤ q) (h2 : Val n b q r) : Val n (faThen a b) p r := by
 unfold Val at *
 simp only [faThen, Bool.or_eq_true, Bool.and_eq_true]
 rcases h1 with h1 | ⟨h1, _⟩ | ⟨h1, e1⟩ | ⟨h1, h1', e1⟩
 ·omega
 ·omega
 ·rcases h2 with h2 | ⟨h2, e2⟩ | ⟨h2, e2⟩ | ⟨h2, h2', e2⟩
  ·exact .inl h2
  ·exact .inr (.inl ⟨h2, .inr ⟨.inl e1, e2⟩⟩)
  ·exact .inr (.inr (.inl ⟨by omega, e1, e2⟩))
  ·exact .inr (.inr (.inr ⟨by omega, h2', .inr ⟨e1, e2⟩⟩))
 ·rcases h2 with h2 | ⟨h2, e2⟩ | ⟨h2, e2⟩ | ⟨h2, h2', e2⟩
  ·exact .inl h2
  ·exact .inr (.inl ⟨h2, .inr ⟨.inr e1, e2⟩⟩)
  ·exact .inr (.inr (.inr ⟨by omega, by omega, .inl ⟨e1, .inl e2⟩⟩))
  ·exact .inr (.inr (.inr ⟨by omega, h2', .inl ⟨e1, .inr e2⟩⟩))
theorem then_neg {n : Nat} {a b : Fa} {p q : Int} (hp : 0 ≤ p) (h1 : Val n a p q) (hq : q < 0) : Val n (faThen a b) p q := by
 unfold Val at *
 simp only [faThen, Bool.or_eq_true, Bool.and_eq_true]
 rcases h1 with h1 | ⟨h1, e1⟩ | ⟨h1, _⟩ | ⟨h1, _, _⟩
 ·exact .inl h1
 ·exact .inr (.inl ⟨h1, .inl e1⟩)
 ·omega
 ·omega
theorem or_left {n : Nat} {a b : Fa} {p q : Int} (h1 : Val n a p q) (hq : q ≠ -1) : Val n (faOr a b) p q := by
 unfold Val at *
 simp only [faOr, Bool.or_eq_true, Bool.and_eq_true]
 rcases h1 with h1 | ⟨h1, _⟩ | ⟨h1, e1⟩ | ⟨h1, h2, e1⟩
 ·exact .inl h1
 ·exact absurd h1 hq
 ·exact .inr (.inr (.inl ⟨h1, .inl e1⟩))
 ·exact .inr (.inr (.inr ⟨h1, h2, .inl e1⟩))
theorem or_right {n : Nat} {a b : Fa} {p r : Int} (hp : 0 ≤ p) (h1 : Val n a p (-1)) (h2 : Val n b p r) : Val n (faOr a b) p r := by
 unfold Val at *
 simp only [faOr, Bool.or_eq_true, Bool.and_eq_true]
 have e1 : a.Fails = true := by
  rcases h1 with h1 | ⟨_, e1⟩ | ⟨h1, _⟩ | ⟨h1, _, _⟩
  ·omega
  ·exact e1
  ·omega
  ·omega
 rcases h2 with h2 | ⟨h2, e2⟩ | ⟨h2, e2⟩ | ⟨h2, h2', e2⟩
 ·exact .inl h2
 ·exact .inr (.inl ⟨h2, e1, e2⟩)
 ·exact .inr (.inr (.inl ⟨h2, .inr ⟨e1, e2⟩⟩))
 ·exact .inr (.inr (.inr ⟨h2, h2', .inr ⟨e1, e2⟩⟩))
theorem star_val {n : Nat} {a : Fa} {f : Int → Int} {b : Bool} (he : a.Empty = false) (hf : ∀ p : Int, 0 ≤ p → p ≤ n → Val n a p (f p)) : ∀ (m : Nat) (p q : Int), 0 ≤ p → p ≤ q → q ≤ n → n + 1 ≤ q + m → (p < q → a.Eats = true) → Val n (faStar a) p (strE f b m q false)
 | 0, p, q, hp, hpq, hq, hm, _ => by omega
 | m + 1, p, q, hp, hpq, hq, hm, hE => by
  have hv := hf q (by omega) hq
  rw [strE]
  have key : f q = -1 → Val n (faStar a) p q := fun h1 => by
   have e1 : a.Fails = true := by
    rcases hv with h | ⟨_, e⟩ | ⟨h, _⟩ | ⟨h, _, _⟩
    ·omega
    ·exact e
    ·omega
    ·omega
   by_cases hlt : p < q
   ·exact .inr (.inr (.inr ⟨hlt, hq, hE hlt⟩))
   ·exact .inr (.inr (.inl ⟨by omega, e1⟩))
  split
  ·rename_i h
   rcases h with h | ⟨_, h, _⟩
   ·exact .inl h
   ·cases h
  ·rename_i h
   split
   ·exact key (by rcases hv with h' | ⟨h', _⟩ | ⟨h', _⟩ | ⟨h', _, _⟩ <;> omega)
   ·have hgt : q < f q ∧ f q ≤ n ∧ a.Eats = true := by
     rcases hv with h' | ⟨h', _⟩ | ⟨h', e'⟩ | h'
     ·omega
     ·omega
     ·rw [he] at e'; cases e'
     ·exact h'
    exact star_val he hf m p (f q) hp (by omega) hgt.2.1 (by omega) (fun _ => hgt.2.2)
theorem star_first {n : Nat} {a : Fa} {f : Int → Int} (he : a.Empty = false) (hf : ∀ p : Int, 0 ≤ p → p ≤ n → Val n a p (f p)) {m : Nat} {p : Int} (hp : 0 ≤ p) (hn : p ≤ n) (hm : n + 2 ≤ m) : Val n (faStar a) p (strE f false m p true) := by
 have := star_val (b := false) he hf m p p hp (Int.le_refl _) hn (by omega) (fun h => absurd h (by omega))
 cases m with
 | zero => omega
 | succ m => rw [strE] at this ⊢; simpa using this
theorem plus_first {n : Nat} {a : Fa} {f : Int → Int} (he : a.Empty = false) (hf : ∀ p : Int, 0 ≤ p → p ≤ n → Val n a p (f p)) {m : Nat} {p : Int} (hp : 0 ≤ p) (hn : p ≤ n) (hm : n + 2 ≤ m) : Val n (faThen a (faStar a)) p (strE f true m p true) := by
 cases m with
 | zero => omega
 | succ m =>
  have hv := hf p hp hn
  rw [strE]
  by_cases h0 : f p < 0
  ·rw [if_pos (.inr ⟨h0, rfl, rfl⟩)]
   exact then_neg hp hv h0
  ·rw [if_neg (by rintro (h | ⟨h, _⟩) <;> omega), if_neg h0]
   have hge : p ≤ f p ∧ f p ≤ n := by rcases hv.pos hp hn with h | h | h <;> omega
   exact then_val hp hv (by omega) (star_val he hf m (f p) (f p) (by omega) (Int.le_refl _) hge.2 (by omega) (fun h => absurd h (by omega)))
theorem one_val {n : Nat} {a : Fa} {k p r : Int} (hk : k = 9 ∨ k = 10 ∨ k = 11) (hp : 0 ≤ p) (hv : Val n a p r) : Val n (if k = 9 then faOr a ⟨true, false, false⟩ else if k = 10 then faAnd a else faNot a) p (oneE k p r) := by
 unfold oneE
 unfold Val at *
 by_cases h2 : r = -2
 ·rw [if_pos h2]; exact .inl rfl
 rw [if_neg h2]
 rcases hv with h | ⟨h, e⟩ | ⟨h, e⟩ | ⟨h, h', e⟩
 ·exact absurd h h2
 all_goals
  rcases hk with rfl | rfl | rfl
  all_goals simp only [faOr, faAnd, faNot, e]
 all_goals first | (split <;> simp_all <;> omega) | skip
theorem zs_false {t : X_api_Set} {c : Nat} (hc : c < 256) (h : bitS t c = true) : zs t = false := by
 by_cases hz : zs t = true
 ·exfalso
  unfold zs at hz
  have : t = ⟨0, 0, 0, 0⟩ := by
   obtain ⟨a, b, d, e⟩ := t
   simp only [cellsEq, beq_iff_eq] at hz
   obtain ⟨rfl, rfl, rfl, rfl⟩ := hz
   rfl
  subst this
  have h0 : (⟨0, 0, 0, 0⟩ : X_api_Set) = Us fun _ => false := rfl
  rw [h0, bit_Us hc] at h; cases h
 ·simpa using hz
theorem set_val {t : X_api_Set} {s : List UInt8} {p : Int} (hp : 0 ≤ p) : Val s.length ⟨false, !zs t, true⟩ p (setE t s p) := by
 unfold setE
 split
 ·rename_i c hc
  have hlt := (List.getElem?_eq_some_iff.1 hc).1
  split
  ·rename_i hb
   exact .inr (.inr (.inr ⟨by omega, by omega, by rw [zs_false c.toNat_lt hb]; rfl⟩))
  ·exact .inr (.inl ⟨rfl, rfl⟩)
 ·exact .inr (.inl ⟨rfl, rfl⟩)
theorem lit_val {x s : List UInt8} {p : Int} (hx : x ≠ []) (hp : 0 ≤ p) : Val s.length ⟨false, true, true⟩ p (litE x s p) := by
 unfold litE
 have : 0 < x.length := List.length_pos_iff.2 hx
 split
 ·exact .inr (.inr (.inr ⟨by omega, by omega, rfl⟩))
 ·exact .inr (.inl ⟨rfl, rfl⟩)
structure PegOk (rs : List Ru) (e : Ex) : Prop where
 good : GoodE rs e
 loop : loopB rs (knOf rs) e = false
theorem PegOk.kid {rs : List Ru} {e k : Ex} (h : PegOk rs e) (hk : k ∈ e.kids) : PegOk rs k := by
 refine ⟨h.good.kid k hk, ?_⟩
 have := h.loop
 rw [loopB_eq, Bool.or_eq_false_iff, List.any_eq_false] at this
 simpa using this.2 k hk
theorem PegOk.star {rs : List Ru} {e k : Ex} (h : PegOk rs e) (hk : e.kids = [k]) (h7 : e.kind = 7 ∨ e.kind = 8) : (ofE rs (knOf rs) k).Empty = false := by
 have := h.loop
 rw [loopB_eq, Bool.or_eq_false_iff] at this
 have := this.1
 unfold ndB at this
 rw [decide_eq_true h7, hk] at this
 simpa [hdF] using this
theorem seq_val {rs : List Ru} {s : List UInt8} {E : Nat → Nat → Int} : ∀ (ks : List Ex), ks ≠ [] → (∀ k ∈ ks, ∀ p : Int, 0 ≤ p → p ≤ s.length → Val s.length (ofE rs (knOf rs) k) p (endE rs s E k p)) → ∀ p : Int, 0 ≤ p → p ≤ s.length → Val s.length (thenR (ks.map (ofE rs (knOf rs)))) p (seqE rs s E ks p)
 | [], h, _, _, _, _ => absurd rfl h
 | [k], _, hk, p, hp, hn => by
  have := hk k (by simp) p hp hn
  rw [seqE]
  split
  ·exact this
  ·rw [seqE]; exact this
 | k :: k2 :: r, _, hk, p, hp, hn => by
  have hv := hk k (by simp) p hp hn
  rw [seqE]
  show Val _ (faThen (ofE rs (knOf rs) k) (thenR ((k2 :: r).map (ofE rs (knOf rs))))) _ _
  split
  ·rename_i h0; exact then_neg hp hv h0
  ·rename_i h0
   have hge : p ≤ endE rs s E k p ∧ endE rs s E k p ≤ s.length := by rcases hv.pos hp hn with h | h | h <;> omega
   exact then_val hp hv (by omega) (seq_val (k2 :: r) (by simp) (fun k' hk' => hk k' (by simp [hk'])) _ (by omega) hge.2)
theorem alt_val {rs : List Ru} {s : List UInt8} {E : Nat → Nat → Int} {p : Int} (hp : 0 ≤ p) : ∀ (ks : List Ex), ks ≠ [] → (∀ k ∈ ks, Val s.length (ofE rs (knOf rs) k) p (endE rs s E k p)) → Val s.length (orL (ks.map (ofE rs (knOf rs)))) p (altE rs s E ks p)
 | [], h, _ => absurd rfl h
 | [k], _, hk => by
  have := hk k (by simp)
  rw [altE]
  split
  ·exact this
  ·rename_i h; rw [altE]; rw [Decidable.not_not.1 h] at this; exact this
 | k :: k2 :: r, _, hk => by
  have hv := hk k (by simp)
  rw [altE]
  show Val _ (faOr (ofE rs (knOf rs) k) (orL ((k2 :: r).map (ofE rs (knOf rs))))) _ _
  split
  ·rename_i h0; exact or_left hv h0
  ·rename_i h0
   rw [Decidable.not_not.1 h0] at hv
   exact or_right hp hv (alt_val hp (k2 :: r) (by simp) fun k' hk' => hk k' (by simp [hk']))
theorem end_val {rs : List Ru} {s : List UInt8} {E : Nat → Nat → Int} (hT : TabOk rs s.length E) : ∀ (n : Nat) (e : Ex), SizeOf.sizeOf e < n → PegOk rs e → ∀ p : Int, 0 ≤ p → p ≤ s.length → Val s.length (ofE rs (knOf rs) e) p (endE rs s E e p) := by
 intro n
 induction n with
 | zero => intro e h; omega
 | succ n ih =>
  intro e hn hok p hp hl
  obtain ⟨g1, g2, g3, g4, g5, g6, g7, g8⟩ := fitE_kinds hok.good.fit
  have hkid : ∀ k ∈ e.kids, ∀ p : Int, 0 ≤ p → p ≤ s.length → Val s.length (ofE rs (knOf rs) k) p (endE rs s E k p) := fun k hk => ih k (by have := Ex.kid_lt hk; omega) (hok.kid hk)
  rw [endE_eq, ofE_eq, opF]
  by_cases h1 : e.kind = 1
  ·rw [if_pos h1, if_pos h1]; exact .inr (.inr (.inl ⟨rfl, rfl⟩))
  rw [if_neg h1, if_neg h1]
  by_cases h2 : e.kind = 2
  ·rw [if_pos h2, if_pos h2]; exact set_val hp
  rw [if_neg h2, if_neg h2]
  by_cases h3 : e.kind = 3
  ·rw [if_pos h3, if_pos h3]; exact lit_val (g6 h3).1 hp
  rw [if_neg h3, if_neg h3]
  by_cases h4 : e.kind = 4
  ·rw [if_pos h4, if_pos h4]
   obtain ⟨hlt, hlt'⟩ := findR_lt (hok.good.ref h4)
   obtain ⟨f, hf⟩ := getN (l := knOf rs) (i := (findR e.text rs 0).toNat) (by rw [knOf_len]; omega)
   have := hT.val p.toNat _ f (by omega) hf
   unfold refF
   rw [hf, Option.getD_some]
   rw [show ((p.toNat : Nat) : Int) = p by omega] at this
   exact this
  rw [if_neg h4, if_neg h4]
  by_cases h5 : e.kind = 5
  ·rw [if_pos h5, if_pos h5, thenL_R]
   exact seq_val e.kids (by intro h; have := (g4 (.inl h5)).1; rw [h] at this; simp at this) hkid p hp hl
  rw [if_neg h5, if_neg h5]
  by_cases h6 : e.kind = 6
  ·rw [if_pos h6, if_pos h6]
   exact alt_val hp e.kids (by intro h; have := (g4 (.inr h6)).1; rw [h] at this; simp at this) fun k hk => hkid k hk p hp hl
  rw [if_neg h6, if_neg h6]
  obtain ⟨k, hk⟩ := List.length_eq_one_iff.1 (g5 (by omega))
  have hkv := hkid k (by rw [hk]; simp)
  have hhd : hdE rs s E e.kids = endE rs s E k := by rw [hk]; funext q; rw [hdE]
  have hdf : hdF (e.kids.map (ofE rs (knOf rs))) = ofE rs (knOf rs) k := by rw [hk]; rfl
  rw [hhd, hdf]
  by_cases h7 : e.kind = 7
  ·rw [if_pos h7, if_pos (.inl h7), show decide (e.kind = 8) = false by rw [h7]; rfl]
   exact star_first (hok.star hk (.inl h7)) hkv hp hl (Nat.le_refl _)
  rw [if_neg h7]
  by_cases h8 : e.kind = 8
  ·rw [if_pos h8, if_pos (.inr h8), show decide (e.kind = 8) = true by rw [h8]; rfl]
   exact plus_first (hok.star hk (.inr h8)) hkv hp hl (Nat.le_refl _)
  rw [if_neg h8, if_neg (show ¬ (e.kind = 7 ∨ e.kind = 8) by omega)]
  exact one_val (k := e.kind) (by omega) hp (hkv p hp hl)
end Go.Proofs.Ytifkffmecfgpeaa.core

namespace Go.Proofs.Ytifkffmecfgpeaa.core
open Go.Gx Go.RowKit Go.ChangeShapes Go.WideShapes Go.ChangeAt
set_option linter.unusedVariables false
def TabLe (E E' : Nat → Nat → Int) : Prop := ∀ p i, E p i = -2 ∨ E' p i = E p i
theorem strE_mono {f g : Int → Int} (h : ∀ p, f p ≠ -2 → g p = f p) {q : Bool} : ∀ (m : Nat) (p : Int) (fi : Bool), strE f q m p fi ≠ -2 → strE g q m p fi = strE f q m p fi
 | 0, _, _, _ => rfl
 | m + 1, p, fi, hne => by
  rw [strE] at hne
  by_cases h2 : f p = -2
  ·rw [if_pos (.inl h2)] at hne; exact absurd h2 hne
  ·rw [strE, strE, h p h2]
   split
   ·rfl
   ·rename_i h1
    rw [if_neg h1] at hne
    split
    ·rfl
    ·rename_i h3
     rw [if_neg h3] at hne
     exact strE_mono h m _ _ hne
mutual
theorem end_mono {rs : List Ru} {s : List UInt8} {E E' : Nat → Nat → Int} (h : TabLe E E') : ∀ (e : Ex) (p : Int), endE rs s E e p ≠ -2 → endE rs s E' e p = endE rs s E e p
 | .mk k t x ks, p => by
  rw [endE, endE]
  intro hne
  by_cases h1 : k = 1
  ·rw [if_pos h1, if_pos h1]
  rw [if_neg h1] at hne
  rw [if_neg h1, if_neg h1]
  by_cases h2 : k = 2
  ·rw [if_pos h2, if_pos h2]
  rw [if_neg h2] at hne
  rw [if_neg h2, if_neg h2]
  by_cases h3 : k = 3
  ·rw [if_pos h3, if_pos h3]
  rw [if_neg h3] at hne
  rw [if_neg h3, if_neg h3]
  by_cases h4 : k = 4
  ·rw [if_pos h4] at hne
   rw [if_pos h4, if_pos h4]
   rcases h p.toNat (findR x rs 0).toNat with h' | h'
   ·exact absurd h' hne
   ·exact h'
  rw [if_neg h4] at hne
  rw [if_neg h4, if_neg h4]
  by_cases h5 : k = 5
  ·rw [if_pos h5] at hne
   rw [if_pos h5, if_pos h5]; exact seq_mono h ks p hne
  rw [if_neg h5] at hne
  rw [if_neg h5, if_neg h5]
  by_cases h6 : k = 6
  ·rw [if_pos h6] at hne
   rw [if_pos h6, if_pos h6]; exact alt_mono h ks p hne
  rw [if_neg h6] at hne
  rw [if_neg h6, if_neg h6]
  by_cases h7 : k = 7 ∨ k = 8
  ·rw [if_pos h7] at hne
   rw [if_pos h7, if_pos h7]; exact strE_mono (fun q hq => hd_mono h ks q hq) _ _ _ hne
  rw [if_neg h7] at hne
  rw [if_neg h7, if_neg h7]
  by_cases h8 : hdE rs s E ks p = -2
  ·rw [h8] at hne; exact absurd (by simp [oneE]) hne
  ·rw [hd_mono h ks p h8]
theorem seq_mono {rs : List Ru} {s : List UInt8} {E E' : Nat → Nat → Int} (h : TabLe E E') : ∀ (ks : List Ex) (p : Int), seqE rs s E ks p ≠ -2 → seqE rs s E' ks p = seqE rs s E ks p
 | [], _, _ => rfl
 | k :: ks, p, hne => by
  rw [seqE] at hne
  have hk : endE rs s E k p ≠ -2 := fun e => by rw [e] at hne; exact hne (by simp)
  rw [seqE, seqE, end_mono h k p hk]
  split
  ·rfl
  ·rename_i h1
   rw [if_neg h1] at hne
   exact seq_mono h ks _ hne
theorem alt_mono {rs : List Ru} {s : List UInt8} {E E' : Nat → Nat → Int} (h : TabLe E E') : ∀ (ks : List Ex) (p : Int), altE rs s E ks p ≠ -2 → altE rs s E' ks p = altE rs s E ks p
 | [], _, _ => rfl
 | k :: ks, p, hne => by
  rw [altE] at hne
  have hk : endE rs s E k p ≠ -2 := fun e => by rw [e] at hne; exact hne (by simp)
  rw [altE, altE, end_mono h k p hk]
  split
  ·rfl
  ·rename_i h1
   rw [if_neg h1] at hne
   exact alt_mono h ks _ hne
theorem hd_mono {rs : List Ru} {s : List UInt8} {E E' : Nat → Nat → Int} (h : TabLe E E') : ∀ (ks : List Ex) (p : Int), hdE rs s E ks p ≠ -2 → hdE rs s E' ks p = hdE rs s E ks p
 | [], _, _ => by rw [hdE, hdE]
 | k :: ks, p, hne => by
  rw [hdE] at hne
  rw [hdE, hdE]; exact end_mono h k p hne
end
def Behind (rs : List Ru) (n : Nat) (E : Nat → Nat → Int) (p : Int) : Prop := ∀ q : Nat, p < q → q ≤ n → ∀ i, i < rs.length → E q i ≠ -2
theorem Behind.more {rs : List Ru} {n : Nat} {E : Nat → Nat → Int} {p q : Int} (h : Behind rs n E p) (hq : p ≤ q) : Behind rs n E q := fun x hx => h x (by omega)
theorem str_known {n : Nat} {a : Fa} {f : Int → Int} {b : Bool} (he : a.Empty = false) : ∀ (m : Nat) (p : Int) (fi : Bool), 0 ≤ p → p ≤ n → n + 1 ≤ p + m → (∀ q : Int, p ≤ q → q ≤ n → Val n a q (f q) ∧ f q ≠ -2) → strE f b m p fi ≠ -2
 | 0, p, fi, hp, hn, hm, _ => by omega
 | m + 1, p, fi, hp, hn, hm, h => by
  obtain ⟨hv, h2⟩ := h p (Int.le_refl _) hn
  rw [strE]
  split
  ·exact h2
  ·split
   ·omega
   ·have hgt : p < f p ∧ f p ≤ n := by
     rcases hv with h' | ⟨h', _⟩ | ⟨_, e'⟩ | h'
     ·omega
     ·omega
     ·rw [he] at e'; cases e'
     ·exact ⟨h'.1, h'.2.1⟩
    exact str_known he m (f p) false (by omega) hgt.2 (by omega) fun q hq hqn => h q (by omega) hqn
theorem end_known {rs : List Ru} {s : List UInt8} {E : Nat → Nat → Int} (hT : TabOk rs s.length E) : ∀ (n : Nat) (e : Ex), SizeOf.sizeOf e < n → PegOk rs e → ∀ p : Int, 0 ≤ p → p ≤ s.length → Behind rs s.length E p → (∀ j ∈ needsE rs (knOf rs) e, E p.toNat j ≠ -2) → endE rs s E e p ≠ -2 := by
 intro n
 induction n with
 | zero => intro e h; omega
 | succ n ih =>
  intro e hn hok p hp hl hB hN
  obtain ⟨g1, g2, g3, g4, g5, g6, g7, g8⟩ := fitE_kinds hok.good.fit
  have hval : ∀ k ∈ e.kids, ∀ p : Int, 0 ≤ p → p ≤ s.length → Val s.length (ofE rs (knOf rs) k) p (endE rs s E k p) := fun k hk => end_val hT _ k (Nat.lt_succ_self _) (hok.kid hk)
  have hlater : ∀ k ∈ e.kids, ∀ q : Int, p < q → q ≤ s.length → endE rs s E k q ≠ -2 := fun k hk q hq hql => ih k (by have := Ex.kid_lt hk; omega) (hok.kid hk) q (by omega) hql (hB.more (by omega)) fun j hj => hB q.toNat (by omega) (by omega) j (needsE_lt _ _ (hok.kid hk).good j hj)
  have hnow : ∀ k ∈ e.kids, (∀ j ∈ needsE rs (knOf rs) k, E p.toNat j ≠ -2) → endE rs s E k p ≠ -2 := fun k hk hj => ih k (by have := Ex.kid_lt hk; omega) (hok.kid hk) p hp hl hB hj
  rw [needsE_eq] at hN
  rw [endE_eq]
  by_cases h1 : e.kind = 1
  ·rw [if_pos h1]; omega
  rw [if_neg h1]
  by_cases h2 : e.kind = 2
  ·rw [if_pos h2]
   have := set_val (t := e.set) (s := s) hp
   rcases this.pos hp hl with h | h | h
   ·unfold setE at h; split at h <;> (try split at h) <;> omega
   ·omega
   ·omega
  rw [if_neg h2]
  by_cases h3 : e.kind = 3
  ·rw [if_pos h3]; unfold litE; split <;> omega
  rw [if_neg h3]
  by_cases h4 : e.kind = 4
  ·rw [if_pos h4]
   rw [if_pos h4] at hN
   exact hN _ (by simp)
  rw [if_neg h4]
  rw [if_neg h4] at hN
  by_cases h5 : e.kind = 5
  ·rw [if_pos h5]
   rw [if_pos h5] at hN
   have key : ∀ ks : List Ex, (∀ k ∈ ks, k ∈ e.kids) → ∀ q : Int, p ≤ q → q ≤ s.length → (q = p → ∀ j ∈ needsQ rs (knOf rs) ks, E p.toNat j ≠ -2) → seqE rs s E ks q ≠ -2 := by
    intro ks
    induction ks with
    | nil => intro _ q hq _ _; rw [seqE]; omega
    | cons k ks ihk =>
     intro hm q hq hql hj
     rw [seqE]
     have hkm := hm k (by simp)
     have hne : endE rs s E k q ≠ -2 := by
      by_cases hqp : q = p
      ·subst hqp
       exact hnow k hkm fun j hjk => hj rfl j (by rw [needsQ]; exact List.mem_append_left _ hjk)
      ·exact hlater k hkm q (by omega) hql
     have hv := hval k hkm q (by omega) hql
     split
     ·exact hne
     ·rename_i h0
      have hge : q ≤ endE rs s E k q ∧ endE rs s E k q ≤ s.length := by rcases hv.pos (by omega) hql with h | h | h <;> omega
      refine ihk (fun k' hk' => hm k' (by simp [hk'])) _ (by omega) hge.2 fun hep j hjk => ?_
      have hqp : q = p := by omega
      subst hqp
      have hem : (ofE rs (knOf rs) k).Empty = true := by
       rcases hv with h | ⟨h, _⟩ | ⟨_, h⟩ | ⟨h, _, _⟩
       ·omega
       ·omega
       ·exact h
       ·omega
      exact hj rfl j (by rw [needsQ, if_pos hem]; exact List.mem_append_right _ hjk)
   exact key e.kids (fun _ h => h) p (Int.le_refl _) hl fun _ => hN
  rw [if_neg h5]
  rw [if_neg h5] at hN
  by_cases h6 : e.kind = 6
  ·rw [if_pos h6]
   have key : ∀ ks : List Ex, (∀ k ∈ ks, k ∈ e.kids) → (∀ j ∈ needsA rs (knOf rs) ks, E p.toNat j ≠ -2) → altE rs s E ks p ≠ -2 := by
    intro ks
    induction ks with
    | nil => intro _ _; rw [altE]; omega
    | cons k ks ihk =>
     intro hm hj
     rw [altE]
     split
     ·exact hnow k (hm k (by simp)) fun j hjk => hj j (by rw [needsA]; exact List.mem_append_left _ hjk)
     ·exact ihk (fun k' hk' => hm k' (by simp [hk'])) fun j hjk => hj j (by rw [needsA]; exact List.mem_append_right _ hjk)
   exact key e.kids (fun _ h => h) hN
  rw [if_neg h6]
  obtain ⟨k, hk⟩ := List.length_eq_one_iff.1 (g5 (by omega))
  have hkm : k ∈ e.kids := by rw [hk]; simp
  have hhd : hdE rs s E e.kids = endE rs s E k := by rw [hk]; funext q; rw [hdE]
  have hk1 : endE rs s E k p ≠ -2 := hnow k hkm fun j hjk => hN j (by rw [hk, needsA]; exact List.mem_append_left _ hjk)
  rw [hhd]
  by_cases h7 : e.kind = 7 ∨ e.kind = 8
  ·rw [if_pos h7]
   refine str_known (hok.star hk h7) _ p true hp hl (by omega) fun q hq hql => ⟨hval k hkm q (by omega) hql, ?_⟩
   by_cases hqp : q = p
   ·subst hqp; exact hk1
   ·exact hlater k hkm q (by omega) hql
  ·rw [if_neg h7]
   unfold oneE
   rw [if_neg hk1]
   split
   ·exact hk1
   ·split <;> omega
end Go.Proofs.Ytifkffmecfgpeaa.core

namespace Go.Proofs.Ytifkffmecfgpeaa.core
open Go.Gx Go.RowKit Go.ChangeShapes Go.WideShapes Go.ChangeAt
set_option linter.unusedVariables false
theorem least {P : Nat → Prop} : ∀ k, P k → ∃ m, m ≤ k ∧ P m ∧ ∀ j, j < m → ¬ P j := by
 intro k
 induction k using Nat.strongRecOn with
 | _ k ih =>
  intro h
  by_cases hj : ∃ j, j < k ∧ P j
  ·obtain ⟨j, hjk, hp⟩ := hj
   obtain ⟨m, h1, h2⟩ := ih j hjk hp
   exact ⟨m, by omega, h2⟩
  ·exact ⟨k, Nat.le_refl _, h, fun j hjk hp => hj ⟨j, hjk, hp⟩⟩
structure WellOk (rs : List Ru) : Prop where
 ok : GramOk rs
 loop : ∀ r ∈ rs, loopB rs (knOf rs) r.body = false
 wk : ∀ i, i < rs.length → wkB (wkOf rs) i = true
theorem fstB_none : ∀ (l : List Bool) (i : Int), 0 ≤ i → fstB l i = -1 → ∀ b ∈ l, b = false
 | [], _, _, _, b, hb => by cases hb
 | a :: l, i, hi, h, b, hb => by
  rw [fstB] at h
  split at h
  ·omega
  ·rename_i ha
   rcases List.mem_cons.1 hb with rfl | hb
   ·simpa using ha
   ·exact fstB_none l (i + 1) (by omega) h b hb
theorem well_ok {rs : List Ru} (h : (wellP rs).2 = 0) : WellOk rs := by
 unfold wellP at h
 split at h
 ·exact absurd h (by assumption)
 ·rename_i h0
  split at h
  ·cases h
  ·rename_i h1
   split at h
   ·cases h
   ·rename_i h2
    refine ⟨gram_ok (Decidable.not_not.1 h0), fun r hr => ?_, fun i hi => ?_⟩
    ·exact fstB_none _ 0 (by omega) (Decidable.not_not.1 h1) _ (List.mem_map.2 ⟨r, hr, rfl⟩)
    ·obtain ⟨b, hb⟩ := getN (l := wkOf rs) (i := i) (by rw [(wkOf_lfp rs).len]; exact hi)
     have := fstB_none _ 0 (by omega) (Decidable.not_not.1 h2) _ (List.mem_map.2 ⟨b, List.mem_of_getElem? hb, rfl⟩)
     unfold wkB; rw [hb]; simpa using this
theorem WellOk.peg {rs : List Ru} (h : WellOk rs) {r : Ru} (hr : r ∈ rs) : PegOk rs r.body := ⟨h.ok.good r hr, h.loop r hr⟩
theorem WellOk.stage {rs : List Ru} (h : WellOk rs) : ∃ st : Nat → Nat, (∀ i, i < rs.length → 1 ≤ st i ∧ st i ≤ rs.length) ∧ ∀ (i : Nat) r, rs[i]? = some r → ∀ j ∈ needsE rs (knOf rs) r.body, st j < st i := by
 let n := rs.length
 let F := Gof rs (knOf rs)
 let W : Nat → List Bool := fun k => jacN (· || ·) F k (List.replicate n false)
 have hWl : ∀ k, (W k).length = n := fun k => by show (jacN _ _ _ _).length = n; rw [jacN_len]; simp
 have hall : ∀ i, i < n → wkB (W n) i = true := fun i hi => by
  have hN : W (n + 1) = wkOf rs := rfl
  rcases jacN_stab (F := F) bLat (List.replicate n false) n with hs | hs
  ·have : W (n + 1) = W n := hs
   rw [← this, hN]; exact h.wk i hi
  ·have h0 := wS_all (wt := bit) (m := 1) (List.replicate n false)
   rw [List.length_replicate] at h0
   have hz : wS bit 1 (W n) = 0 := by show wS bit 1 (jacN _ F n _) = 0; omega
   obtain ⟨b, hb⟩ := getN (l := W n) (i := i) (by rw [hWl]; exact hi)
   unfold wkB; rw [hb]
   cases b with
   | true => rfl
   | false =>
    have := wS_set bLat (le := bLe) (b := true) hb (fun h => (by cases h)) (by simp)
    omega
 have hex : ∀ i, ∃ m, i < n → (m ≤ n ∧ wkB (W m) i = true ∧ ∀ j, j < m → ¬ wkB (W j) i = true) := fun i => by
  by_cases hi : i < n
  ·obtain ⟨m, hm⟩ := least (P := fun k => wkB (W k) i = true) n (hall i hi)
   exact ⟨m, fun _ => hm⟩
  ·exact ⟨0, fun h => absurd h hi⟩
 refine ⟨fun i => Classical.choose (hex i), fun i hi => ?_, fun i r hr j hj => ?_⟩
 ·obtain ⟨h1, h2, h3⟩ := Classical.choose_spec (hex i) hi
  refine ⟨?_, h1⟩
  rcases Nat.eq_zero_or_pos (Classical.choose (hex i)) with h0 | h0
  ·rw [h0] at h2
   have : wkB (List.replicate n false) i = true := h2
   unfold wkB at this
   rw [List.getElem?_replicate, if_pos hi] at this
   cases this
  ·exact h0
 ·have hi : i < n := (List.getElem?_eq_some_iff.1 hr).1
  have hjn : j < n := needsE_lt _ _ (h.ok.good r (List.mem_of_getElem? hr)) j hj
  obtain ⟨h1, h2, h3⟩ := Classical.choose_spec (hex i) hi
  obtain ⟨k1, k2, k3⟩ := Classical.choose_spec (hex j) hjn
  show Classical.choose (hex j) < Classical.choose (hex i)
  generalize Classical.choose (hex i) = a at h1 h2 h3
  generalize Classical.choose (hex j) = b at k1 k2 k3
  cases a with
  | zero =>
   have : wkB (List.replicate n false) i = true := h2
   unfold wkB at this
   rw [List.getElem?_replicate, if_pos hi] at this
   cases this
  | succ a =>
   have hno := h3 a (by omega)
   obtain ⟨c, hc⟩ := getN (l := W a) (i := i) (by rw [hWl]; exact hi)
   have hcf : c = false := by
    cases c with
    | false => rfl
    | true => exact absurd (by unfold wkB; rw [hc]; rfl) hno
   subst hcf
   have : (W (a + 1))[i]? = some (false || F (W a) i) := jac_get hc
   unfold wkB at h2
   rw [this] at h2
   have hF : F (W a) i = true := by simpa using h2
   have hF' : Gof rs (knOf rs) (W a) i = true := hF
   unfold Gof at hF'
   simp only [hr] at hF'
   unfold soundB at hF'
   rw [List.all_eq_true] at hF'
   have hja := hF' j hj
   rcases Nat.lt_or_ge b (a + 1) with h' | h'
   ·exact h'
   ·exact absurd hja (k3 a (by omega))
end Go.Proofs.Ytifkffmecfgpeaa.core

namespace Go.Proofs.Ytifkffmecfgpeaa.core
open Go.Gx Go.RowKit Go.ChangeShapes Go.WideShapes Go.ChangeAt
set_option linter.unusedVariables false
structure Tab (rs : List Ru) (s : List UInt8) (E : Nat → Nat → Int) : Prop where
 ok : TabOk rs s.length E
 known : ∀ p i : Nat, p ≤ s.length → i < rs.length → E p i ≠ -2
 fix : ∀ (p i : Nat) r, p ≤ s.length → rs[i]? = some r → E p i = endE rs s E r.body p
theorem Tab.knows {rs : List Ru} {s : List UInt8} {E : Nat → Nat → Int} (h : Tab rs s E) {e : Ex} (he : PegOk rs e) {p : Int} (hp : 0 ≤ p) (hl : p ≤ s.length) : endE rs s E e p ≠ -2 :=
 end_known h.ok _ e (Nat.lt_succ_self _) he p hp hl (fun q _ hq i hi => h.known q i hq hi) fun j hj => h.known _ j (by omega) (needsE_lt _ _ he.good j hj)
theorem Tab.res {rs : List Ru} {s : List UInt8} {E : Nat → Nat → Int} (h : Tab rs s E) {e : Ex} (he : PegOk rs e) {p : Int} (hp : 0 ≤ p) (hl : p ≤ s.length) : endE rs s E e p = -1 ∨ (p ≤ endE rs s E e p ∧ endE rs s E e p ≤ s.length) := by
 rcases (end_val h.ok _ e (Nat.lt_succ_self _) he p hp hl).pos hp hl with h' | h'
 ·exact absurd h' (h.knows he hp hl)
 ·exact h'
theorem Tab.empty {rs : List Ru} {s : List UInt8} {E : Nat → Nat → Int} (h : Tab rs s E) {e : Ex} (he : PegOk rs e) {p : Int} (hp : 0 ≤ p) (hl : p ≤ s.length) (hq : endE rs s E e p = p) : (ofE rs (knOf rs) e).Empty = true := by
 rcases end_val h.ok _ e (Nat.lt_succ_self _) he p hp hl with h' | ⟨h', _⟩ | ⟨_, h'⟩ | ⟨h', _⟩
 ·omega
 ·omega
 ·exact h'
 ·omega
def Tries (rs : List Ru) (e k : Ex) (p q : Int) : Prop := k ∈ e.kids ∧ p ≤ q ∧ (q = p → ∀ j ∈ needsE rs (knOf rs) k, j ∈ needsE rs (knOf rs) e)
theorem peg_ind {rs : List Ru} (hw : WellOk rs) (n : Nat) (P : Ex → Int → Prop)
  (h : ∀ (e : Ex) (p : Int), PegOk rs e → 0 ≤ p → p ≤ n → (∀ (k : Ex) (q : Int), Tries rs e k p q → q ≤ n → P k q) → (e.kind = 4 → ∀ r, rs[(findR e.text rs 0).toNat]? = some r → P r.body p) → P e p) :
  ∀ (e : Ex) (p : Int), PegOk rs e → 0 ≤ p → p ≤ n → P e p := by
 obtain ⟨st, hst, hord⟩ := hw.stage
 have h10 := hw.ok.ten
 have key : ∀ (a b c : Nat) (e : Ex) (p : Int), PegOk rs e → 0 ≤ p → p ≤ n → n - p.toNat < a → (∀ j ∈ needsE rs (knOf rs) e, st j < b) → SizeOf.sizeOf e < c → P e p := by
  intro a
  induction a with
  | zero => intro b c e p _ _ _ h; omega
  | succ a iha =>
   intro b
   induction b with
   | zero =>
    intro c
    induction c with
    | zero => intro e p _ _ _ _ _ h; omega
    | succ c ihc =>
     intro e p he hp hl ha hb hc
     refine h e p he hp hl (fun k q ⟨hk, hq, hn⟩ hql => ?_) fun h4 r hr => ?_
     ·by_cases hqp : q = p
      ·exact ihc k q (he.kid hk) (by omega) hql (by omega) (fun j hj => hb j (hn hqp j hj)) (by have := Ex.kid_lt hk; omega)
      ·exact iha (rs.length + 1) _ k q (he.kid hk) (by omega) hql (by omega) (fun j hj => by have := (hst j (needsE_lt _ _ (he.kid hk).good j hj)).2; omega) (Nat.lt_succ_self _)
     ·have := hb (findR e.text rs 0).toNat (by rw [needsE_eq, if_pos h4]; simp)
      omega
   | succ b ihb =>
    intro c
    induction c with
    | zero => intro e p _ _ _ _ _ h; omega
    | succ c ihc =>
     intro e p he hp hl ha hb hc
     refine h e p he hp hl (fun k q ⟨hk, hq, hn⟩ hql => ?_) fun h4 r hr => ?_
     ·by_cases hqp : q = p
      ·exact ihc k q (he.kid hk) (by omega) hql (by omega) (fun j hj => hb j (hn hqp j hj)) (by have := Ex.kid_lt hk; omega)
      ·exact iha (rs.length + 1) _ k q (he.kid hk) (by omega) hql (by omega) (fun j hj => by have := (hst j (needsE_lt _ _ (he.kid hk).good j hj)).2; omega) (Nat.lt_succ_self _)
     ·have := hb (findR e.text rs 0).toNat (by rw [needsE_eq, if_pos h4]; simp)
      exact ihb _ r.body p (hw.peg (List.mem_of_getElem? hr)) hp hl ha (fun j hj => by have := hord _ r hr j hj; omega) (Nat.lt_succ_self _)
 exact fun e p he hp hl => key (n + 1) (rs.length + 1) _ e p he hp hl (by omega) (fun j hj => by have := (hst j (needsE_lt _ _ he.good j hj)).2; omega) (Nat.lt_succ_self _)
theorem seq_tries {rs : List Ru} {s : List UInt8} {E : Nat → Nat → Int} (hT : Tab rs s E) {e : Ex} (he : PegOk rs e) (h5 : e.kind = 5) {p : Int} (hp : 0 ≤ p) (hl : p ≤ s.length) : ∀ (i : Nat) (q : Int) k, p ≤ q → q ≤ s.length → (q = p → ∀ j ∈ needsQ rs (knOf rs) (e.kids.drop i), j ∈ needsE rs (knOf rs) e) → e.kids[i]? = some k →
  Tries rs e k p q ∧ (0 ≤ endE rs s E k q → p ≤ endE rs s E k q ∧ endE rs s E k q ≤ s.length ∧ (endE rs s E k q = p → ∀ j ∈ needsQ rs (knOf rs) (e.kids.drop (i + 1)), j ∈ needsE rs (knOf rs) e)) := by
 intro i q k hq hql hn hk
 have hkm := List.mem_of_getElem? hk
 rw [drop_get hk] at hn
 refine ⟨⟨hkm, hq, fun hqp j hj => hn hqp j (by rw [needsQ]; exact List.mem_append_left _ hj)⟩, fun h0 => ?_⟩
 rcases hT.res (he.kid hkm) (by omega) hql with h | ⟨h1, h2⟩
 ·omega
 ·refine ⟨by omega, h2, fun hep j hj => ?_⟩
  have hqp : q = p := by omega
  have hem := hT.empty (he.kid hkm) (by omega) hql (by omega)
  exact hn hqp j (by rw [needsQ, if_pos hem]; exact List.mem_append_right _ hj)
theorem needsA_kid {rs : List Ru} {kn : List Fa} : ∀ {ks : List Ex} {k : Ex}, k ∈ ks → ∀ j ∈ needsE rs kn k, j ∈ needsA rs kn ks
 | a :: ks, k, h, j, hj => by
  rw [needsA]
  rcases List.mem_cons.1 h with rfl | h
  ·exact List.mem_append_left _ hj
  ·exact List.mem_append_right _ (needsA_kid h j hj)
theorem kid_tries {rs : List Ru} {e k : Ex} (hk : k ∈ e.kids) (h4 : e.kind ≠ 4) (h5 : e.kind ≠ 5) {p q : Int} (hq : p ≤ q) : Tries rs e k p q :=
 ⟨hk, hq, fun _ j hj => by rw [needsE_eq, if_neg h4, if_neg h5]; exact needsA_kid hk j hj⟩
end Go.Proofs.Ytifkffmecfgpeaa.core

namespace Go.Proofs.Ytifkffmecfgpeaa.core
open Go.Gx Go.RowKit Go.ChangeShapes Go.WideShapes Go.ChangeAt
set_option linter.unusedVariables false
theorem u8wF (c : UInt8) : IntKind.wrap .i64 (c.toNat : Int) = (c.toNat : Int) := by
 have := c.toNat_lt
 exact wrap_in (by unfold InI; omega)
abbrev iC (z : Int) : List Value := [.int .i64 z]
theorem iC_len (z : Int) : (iC z).length = 1 := rfl
def rowE (E : Nat → Nat → Int) (m q : Nat) : List Int := (List.range m).map (E q)
theorem rowE_len (E : Nat → Nat → Int) (m q : Nat) : (rowE E m q).length = m := by simp [rowE]
theorem rowE_get {E : Nat → Nat → Int} {m q i : Nat} (h : i < m) : (rowE E m q)[i]? = some (E q i) := by
 unfold rowE; rw [List.getElem?_map, List.getElem?_range h]; rfl
structure TabR (M : Mem) (rs : List Ru) (s : List UInt8) (E : Nat → Nat → Int) (lo : Int) (b : Nat) (ga ea : Option Addr) (gl gc ec eb : Nat) : Prop where
 gm : At M b 0 [Value.slice ga gl gc]
 tx : At M b 1 [Value.string (mkS s)]
 en : At M b 2 [Value.slice ea (s.length + 1) ec]
 gr : GrR M rs ga gl gc
 ea : ea = some ⟨eb, 0, none⟩
 row : ∀ q : Nat, lo ≤ q → q ≤ s.length → ∃ ra rc, At M eb q [Value.slice ra rs.length rc] ∧ SlV M ra rs.length rc 1 (cl iC (rowE E rs.length q))
theorem TabR.le {M M' : Mem} {rs : List Ru} {s : List UInt8} {E : Nat → Nat → Int} {lo : Int} {b : Nat} {ga ea : Option Addr} {gl gc ec eb : Nat} (h : TabR M rs s E lo b ga ea gl gc ec eb) (hl : M.le M') : TabR M' rs s E lo b ga ea gl gc ec eb :=
 ⟨h.gm.le hl, h.tx.le hl, h.en.le hl, h.gr.le hl, h.ea, fun q h1 h2 => by obtain ⟨ra, rc, h3, h4⟩ := h.row q h1 h2; exact ⟨ra, rc, h3.le hl, h4.le hl⟩⟩
theorem inI_small {z : Int} (h1 : -1000000 ≤ z) (h2 : z ≤ 1000000) : InI z := by unfold InI; omega
theorem end_is {rs : List Ru} {s : List UInt8} {E : Nat → Nat → Int} {lo : Int} {b : Nat} {ga ea : Option Addr} {gl gc ec eb : Nat} (hs60 : s.length ≤ 60) (h10 : rs.length ≤ 10) (hT : TabOk rs s.length E) : ∀ (n : Nat) (e : Ex), SizeOf.sizeOf e < n → PegOk rs e → ∀ {M : Mem} {x : X_api_Expr} {p : Int} {K : Value → Prop}, ExR M e x → TabR M rs s E lo b ga ea gl gc ec eb → lo ≤ p → 0 ≤ p → p ≤ s.length →
  K (.int .i64 (endE rs s E e p)) → S_chaffref_Table_End (some ⟨b, 0, none⟩) x p M K := by
 intro n
 induction n with
 | zero => intro e h; omega
 | succ n ih =>
  intro e hn hok M x p K hR hM hlo hp hl hK
  obtain ⟨xs, hx⟩ := hR.open
  obtain ⟨g1, g2, g3, g4, g5, g6, g7, g8⟩ := fitE_kinds hok.good.fit
  have hl8 := kids8 hok.good
  rw [endE_eq] at hK
  have hval : ∀ k ∈ e.kids, ∀ p : Int, 0 ≤ p → p ≤ s.length → Val s.length (ofE rs (knOf rs) k) p (endE rs s E k p) := fun k hk => end_val hT _ k (Nat.lt_succ_self _) (hok.kid hk)
  have hrec : ∀ (i : Nat) (k : Ex) (p : Int) (K : Value → Prop), e.kids[i]? = some k → lo ≤ p → 0 ≤ p → p ≤ s.length → K (.int .i64 (endE rs s E k p)) → ∃ (b1 o1 : Nat), x.Kids_a = some ⟨b1, o1, none⟩ ∧ ∃ y : X_api_Expr, At M b1 (o1 + i * 7) y.cells ∧ CallE Try.prog 53 #[Value.pointer (some ⟨b, 0, none⟩), y.val, .int .i64 p] M (fun v _ => K v) := fun i k p K hk h1 h2 h3 h4 => by
   obtain ⟨b1, o1, y, ha, hat, hy, _⟩ := hx.kid hk
   have hkm := List.mem_of_getElem? hk
   exact ⟨b1, o1, ha, y, hat, s_chaffref_Table_End _ _ _ _ _ (ih k (by have := Ex.kid_lt hkm; omega) (hok.kid hkm) hy hM h1 h2 h3 h4)⟩
  unfold S_chaffref_Table_End
  rw [hx.kind]
  refine ⟨fun h1 => by rw [if_pos h1] at hK; exact hK, fun n1 => ?_⟩
  rw [if_neg n1] at hK
  refine ⟨fun h2 => ?_, fun n2 => ?_⟩
  ·rw [if_pos h2] at hK
   unfold setE at hK
   refine ⟨b, 0, rfl, s, hM.tx, fun hlt => ?_, fun hge => ?_⟩
   ·obtain ⟨c, hc⟩ := getI (l := s) hp hlt
    rw [hc] at hK
    refine ⟨b, 0, rfl, s, hM.tx, c, hp, hc, ?_⟩
    rw [u8wF, hx.set]
    refine s_chaffref_Has _ _ _ _ (rhas_is hx.hs (by have := c.toNat_lt; omega) _ ⟨_, rfl, ?_⟩)
    unfold S_chaffref_Table_End_J1
    refine ⟨fun ht => ⟨inI_small (by omega) (by omega), ?_⟩, fun hf => ?_⟩
    ·simp only [ht, if_true] at hK; exact hK
    ·simp only [hf, if_false] at hK; exact hK
   ·rw [List.getElem?_eq_none (by omega)] at hK
    exact ⟨fun h => (by cases h), fun _ => hK⟩
  rw [if_neg n2] at hK
  refine ⟨fun h3 => ?_, fun n3 => ?_⟩
  ·rw [if_pos h3] at hK
   have h12 := (g6 h3).2
   rw [hx.text]
   unfold litE at hK
   have hin : InI (p + ((e.text.length : Nat) : Int)) := inI_small (by omega) (by omega)
   refine ⟨hin, b, 0, rfl, s, hM.tx, fun hle => ⟨b, 0, rfl, s, hM.tx, hin, hp, by omega, hle, ?_⟩, fun hgt => ?_⟩
   ·unfold S_chaffref_Table_End_J2
    rw [hx.text]
    refine ⟨fun ht => ⟨hin, ?_⟩, fun hf => ?_⟩
    ·rw [if_pos ⟨hle, mkS_beq.1 ht⟩] at hK; exact hK
    ·rw [if_neg (fun h => hf (mkS_beq.2 h.2))] at hK; exact hK
   ·rw [if_neg (fun h => hgt h.1)] at hK
    exact ⟨fun h => (by cases h), fun _ => hK⟩
  rw [if_neg n3] at hK
  refine ⟨fun h4 => ?_, fun n4 => ?_⟩
  ·rw [if_pos h4] at hK
   obtain ⟨hlt, hlt'⟩ := findR_lt (hok.good.ref h4)
   have hr0 := hok.good.ref h4
   rw [hx.text]
   obtain ⟨ra, rc, hra, hrow⟩ := hM.row p.toNat (by omega) (by omega)
   obtain ⟨b3, o3, hb3, hat3⟩ := hrow.at iC_len (rowE_len E rs.length p.toNat) (rowE_get hlt)
   refine ⟨b, 0, rfl, _, _, _, hM.en, eb, 0, hM.ea, hp, by omega, ra, _, rc, by rw [Nat.zero_add, Nat.mul_one]; exact hra, b, 0, rfl, _, _, _, hM.gm, ?_⟩
   exact s_chaffref_Find _ _ _ _ _ _ (rfind_is hM.gr e.text _ ⟨_, rfl, b3, o3, hb3, hr0, by omega, _, hat3, hK⟩)
  rw [if_neg n4] at hK
  refine ⟨fun h5 => ?_, fun n5 => ?_⟩
  ·rw [if_pos h5] at hK
   refine ⟨fun q i => 0 ≤ i ∧ i ≤ e.kids.length ∧ p ≤ q ∧ q ≤ s.length ∧ seqE rs s E (e.kids.drop i.toNat) q = seqE rs s E e.kids p, fun _ i => e.kids.length - i.toNat, ⟨by omega, by omega, by omega, hl, rfl⟩, fun q i ⟨i0, i1, hq, hql, hse⟩ => ⟨fun hlt => ?_, fun hge => ?_⟩⟩
   ·rw [hx.len] at hlt
    obtain ⟨k, hk⟩ := getI (l := e.kids) i0 hlt
    have hkm := List.mem_of_getElem? hk
    rw [drop_get hk, seqE] at hse
    obtain ⟨b1, o1, ha, y, hat, hcall⟩ := hrec i.toNat k q (fun v => ∃ x55 : Int, v = .int .i64 x55 ∧ ((x55 < 0 → K (.int .i64 x55)) ∧ (¬ x55 < 0 → (InI (i + 1) ∧ (0 ≤ i + 1 ∧ i + 1 ≤ e.kids.length ∧ p ≤ x55 ∧ x55 ≤ s.length ∧ seqE rs s E (e.kids.drop (i + 1).toNat) x55 = seqE rs s E e.kids p) ∧ e.kids.length - (i + 1).toNat < e.kids.length - i.toNat)))) hk (by omega) (by omega) hql (by
     refine ⟨_, rfl, fun hneg => ?_, fun hpos => ?_⟩
     ·rw [if_pos hneg] at hse; rw [hse]; exact hK
     ·rw [if_neg hpos] at hse
      have := (hval k hkm q (by omega) hql).pos (by omega) hql
      exact ⟨inI_small (by omega) (by omega), ⟨by omega, by omega, by omega, by omega, by rw [show (i + 1).toNat = i.toNat + 1 by omega]; exact hse⟩, by omega⟩)
    exact ⟨b1, o1, ha, i0, by rw [hx.len]; exact hlt, y, hat, hcall⟩
   ·rw [hx.len] at hge
    rw [List.drop_of_length_le (by omega), seqE] at hse
    rw [hse]; exact hK
  rw [if_neg n5] at hK
  refine ⟨fun h6 => ?_, fun n6 => ?_⟩
  ·rw [if_pos h6] at hK
   refine ⟨fun i => 0 ≤ i ∧ i ≤ e.kids.length ∧ altE rs s E (e.kids.drop i.toNat) p = altE rs s E e.kids p, fun i => e.kids.length - i.toNat, ⟨by omega, by omega, rfl⟩, fun i ⟨i0, i1, hse⟩ => ⟨fun hlt => ?_, fun hge => ?_⟩⟩
   ·rw [hx.len] at hlt
    obtain ⟨k, hk⟩ := getI (l := e.kids) i0 hlt
    rw [drop_get hk, altE] at hse
    obtain ⟨b1, o1, ha, y, hat, hcall⟩ := hrec i.toNat k p (fun v => ∃ x69 : Int, v = .int .i64 x69 ∧ ((x69 ≠ -1 → K (.int .i64 x69)) ∧ (¬ x69 ≠ -1 → (InI (i + 1) ∧ (0 ≤ i + 1 ∧ i + 1 ≤ e.kids.length ∧ altE rs s E (e.kids.drop (i + 1).toNat) p = altE rs s E e.kids p) ∧ e.kids.length - (i + 1).toNat < e.kids.length - i.toNat)))) hk hlo hp hl (by
     refine ⟨_, rfl, fun hneg => ?_, fun hpos => ?_⟩
     ·rw [if_pos hneg] at hse; rw [hse]; exact hK
     ·rw [if_neg hpos] at hse
      exact ⟨inI_small (by omega) (by omega), ⟨by omega, by omega, by rw [show (i + 1).toNat = i.toNat + 1 by omega]; exact hse⟩, by omega⟩)
    exact ⟨b1, o1, ha, i0, by rw [hx.len]; exact hlt, y, hat, hcall⟩
   ·rw [hx.len] at hge
    rw [List.drop_of_length_le (by omega), altE] at hse
    rw [hse]; exact hK
  rw [if_neg n6] at hK
  obtain ⟨k, hk1⟩ := List.length_eq_one_iff.1 (g5 (by omega))
  have hk : e.kids[0]? = some k := by rw [hk1]; rfl
  have hkm : k ∈ e.kids := by rw [hk1]; simp
  have hhd : hdE rs s E e.kids = endE rs s E k := by rw [hk1]; funext q; rw [hdE]
  have hpos0 : (0 : Int) < ((x.Kids_l : Nat) : Int) := by rw [hx.len, hk1]; simp
  rw [hhd] at hK
  have j3 : ∀ v : Bool, v = decide (e.kind = 7 ∨ e.kind = 8) → S_chaffref_Table_End_J3 (some ⟨b, 0, none⟩) x p M v K := by
   intro v hv
   unfold S_chaffref_Table_End_J3
   refine ⟨fun ht => ?_, fun hf => ?_⟩
   ·have h78 : e.kind = 7 ∨ e.kind = 8 := by rw [ht] at hv; exact of_decide_eq_true hv.symm
    rw [if_pos h78] at hK
    let I : Int → Int → Prop := fun q i => p ≤ q ∧ q ≤ s.length ∧ 0 ≤ i ∧ i ≤ q ∧ ∃ m, s.length + 1 ≤ q.toNat + m ∧ strE (endE rs s E k) (decide (e.kind = 8)) m q (decide (i = 0)) = strE (endE rs s E k) (decide (e.kind = 8)) (s.length + 2) p true
    let mu : Int → Int → Nat := fun q _ => s.length + 1 - q.toNat
    refine ⟨I, mu, ⟨by omega, hl, by omega, by omega, _, by omega, rfl⟩, fun q i ⟨hq, hql, i0, i1, m, hm, hse⟩ => ?_⟩
    have hv1 := hval k hkm q (by omega) hql
    have hv2 := hv1.pos (by omega) hql
    have hem := hok.star hk1 h78
    obtain ⟨b1, o1, ha, y, hat, hcall⟩ := hrec 0 k q (fun v => ∃ x85 : Int, v = .int .i64 x85 ∧ ((x85 = -2 → S_chaffref_Table_End_J4 q i I mu x85 true K) ∧ (¬ x85 = -2 → ((x85 < 0 → ((i = 0 → S_chaffref_Table_End_J4 q i I mu x85 (x.Kind == (8 : Int)) K) ∧ (¬ i = 0 → S_chaffref_Table_End_J4 q i I mu x85 false K))) ∧ (¬ x85 < 0 → S_chaffref_Table_End_J4 q i I mu x85 false K))))) hk (by omega) (by omega) hql (by
     cases m with
     | zero => omega
     | succ m =>
      rw [strE] at hse
      have hgo : ¬ endE rs s E k q < 0 → p ≤ endE rs s E k q ∧ endE rs s E k q ≤ s.length ∧ 0 ≤ i + 1 ∧ i + 1 ≤ endE rs s E k q ∧ q < endE rs s E k q := fun h0 => by
       have : q < endE rs s E k q := by
        rcases hv1 with h' | ⟨h', _⟩ | ⟨_, e'⟩ | h'
        ·omega
        ·omega
        ·rw [hem] at e'; cases e'
        ·exact h'.1
       exact ⟨by omega, by omega, by omega, by omega, this⟩
      refine ⟨_, rfl, fun h2 => ?_, fun h2 => ⟨fun h0 => ⟨fun hi => ?_, fun hi => ?_⟩, fun h0 => ?_⟩⟩
      ·rw [if_pos (.inl h2)] at hse
       exact ⟨fun _ => by rw [hse]; exact hK, fun h => absurd rfl h⟩
      ·refine ⟨fun h8 => ?_, fun h8 => ⟨fun _ => ?_, fun h => absurd h0 h⟩⟩
       ·rw [hx.kind] at h8
        rw [if_pos (.inr ⟨h0, decide_eq_true hi, decide_eq_true (by simpa using h8)⟩)] at hse
        rw [hse]; exact hK
       ·rw [hx.kind] at h8
        rw [if_neg (fun h => h.elim h2 fun h => h8 (by simpa using h.2.2)), if_pos h0] at hse
        rw [hse]; exact hK
      ·refine ⟨fun h => (by cases h), fun _ => ⟨fun _ => ?_, fun h => absurd h0 h⟩⟩
       rw [if_neg (fun h => h.elim h2 fun h => hi (by simpa using h.2.1)), if_pos h0] at hse
       rw [hse]; exact hK
      ·refine ⟨fun h => (by cases h), fun _ => ⟨fun h => absurd h h0, fun _ => ?_⟩⟩
       obtain ⟨g1, g2, g3, g4, g5⟩ := hgo h0
       rw [if_neg (fun h => h.elim h2 fun h => h0 h.1), if_neg h0] at hse
       refine ⟨inI_small (by omega) (by omega), ⟨g1, g2, g3, g4, m, by omega, ?_⟩, by simp only [mu]; omega⟩
       rw [show decide (i + 1 = 0) = false from decide_eq_false (by omega)]
       exact hse)
    exact ⟨b1, o1, ha, by omega, hpos0, y, hat, hcall⟩
   ·have h78 : ¬ (e.kind = 7 ∨ e.kind = 8) := by intro h; rw [decide_eq_true h] at hv; exact hf hv
    rw [if_neg h78] at hK
    obtain ⟨b1, o1, ha, y, hat, hcall⟩ := hrec 0 k p (fun v => ∃ x90 : Int, v = .int .i64 x90 ∧ ((x90 = -2 → K (.int .i64 (-2))) ∧ (¬ x90 = -2 → ((x.Kind = 9 → S_chaffref_Table_End_J5 x p x90 (decide (x90 ≥ 0)) K) ∧ (¬ x.Kind = 9 → S_chaffref_Table_End_J5 x p x90 false K))))) hk hlo hp hl (by
     unfold oneE at hK
     refine ⟨_, rfl, fun h2 => by rw [if_pos h2] at hK; exact hK, fun h2 => ?_⟩
     rw [if_neg h2] at hK
     have h9 : e.kind = 9 ∨ e.kind = 10 ∨ e.kind = 11 := by omega
     have j6 : ∀ v : Bool, v = decide ((e.kind = 10 ∧ endE rs s E k p < 0) ∨ (e.kind = 11 ∧ 0 ≤ endE rs s E k p)) → ¬ (e.kind = 9 ∧ 0 ≤ endE rs s E k p) → S_chaffref_Table_End_J6 p v K := by
      intro v hv' hno
      rw [if_neg hno] at hK
      refine ⟨fun ht => ?_, fun hf => ?_⟩
      ·rw [ht] at hv'; rw [if_pos (of_decide_eq_true hv'.symm)] at hK; exact hK
      ·rw [if_neg (fun h => hf (by rw [hv', decide_eq_true h]))] at hK; exact hK
     have j5 : ∀ v : Bool, v = decide (e.kind = 9 ∧ 0 ≤ endE rs s E k p) → S_chaffref_Table_End_J5 x p (endE rs s E k p) v K := by
      intro v hv'
      unfold S_chaffref_Table_End_J5
      rw [hx.kind]
      refine ⟨fun ht => ?_, fun hf => ?_⟩
      ·rw [ht] at hv'; rw [if_pos (of_decide_eq_true hv'.symm)] at hK; exact hK
      ·have hno : ¬ (e.kind = 9 ∧ 0 ≤ endE rs s E k p) := fun h => hf (by rw [hv', decide_eq_true h])
       refine ⟨fun h10 => ⟨fun h0 => j6 _ (by symm; exact decide_eq_true (.inl ⟨h10, h0⟩)) hno, fun h0 => ⟨fun h11 => by omega, fun _ => j6 _ (by symm; exact decide_eq_false (by omega)) hno⟩⟩, fun n10 => ⟨fun h11 => j6 _ (by rw [decide_eq_decide]; omega) hno, fun n11 => j6 _ (by symm; exact decide_eq_false (by omega)) hno⟩⟩
     rw [hx.kind]
     exact ⟨fun h => j5 _ (by rw [decide_eq_decide]; omega), fun h => j5 _ (by symm; exact decide_eq_false (by omega))⟩)
    exact ⟨b1, o1, ha, by omega, hpos0, y, hat, hcall⟩
  refine ⟨fun h7 => j3 _ ?_, fun n7 => j3 _ ?_⟩
  ·rw [h7]; rfl
  ·rw [Bool.eq_iff_iff]; simp [n7]
end Go.Proofs.Ytifkffmecfgpeaa.core

namespace Go.Proofs.Ytifkffmecfgpeaa.core
open Go.Gx Go.RowKit Go.ChangeShapes Go.WideShapes Go.ChangeAt
set_option linter.unusedVariables false
def upd (E : Nat → Nat → Int) (p : Nat) (row : List Int) : Nat → Nat → Int := fun q i => if q = p then (row[i]?).getD (-2) else E q i
theorem upd_ne {E : Nat → Nat → Int} {p q : Nat} {row : List Int} {i : Nat} (h : q ≠ p) : upd E p row q i = E q i := by unfold upd; rw [if_neg h]
theorem upd_eq {E : Nat → Nat → Int} {p : Nat} {row : List Int} {i : Nat} {z : Int} (h : row[i]? = some z) : upd E p row p i = z := by unfold upd; rw [if_pos rfl, h]; rfl
theorem Val.up {n : Nat} {f g : Fa} {p r : Int} (h : Val n f p r) (k : faLe f g) : Val n g p r := by
 obtain ⟨k1, k2, k3⟩ := k
 rcases h with h | ⟨h, e⟩ | ⟨h, e⟩ | ⟨h, h', e⟩
 ·exact .inl h
 ·exact .inr (.inl ⟨h, k3 e⟩)
 ·exact .inr (.inr (.inl ⟨h, k1 e⟩))
 ·exact .inr (.inr (.inr ⟨h, h', k2 e⟩))
structure EOk (rs : List Ru) (s : List UInt8) (E : Nat → Nat → Int) (p : Int) : Prop where
 ok : TabOk rs s.length E
 un : ∀ q i : Nat, (q : Int) ≤ p → E q i = -2
 known : ∀ q i : Nat, p < q → q ≤ s.length → i < rs.length → E q i ≠ -2
 fix : ∀ (q i : Nat) r, p < q → q ≤ s.length → rs[i]? = some r → E q i = endE rs s E r.body q
theorem EOk.init (rs : List Ru) (s : List UInt8) : EOk rs s (fun _ _ => -2) s.length :=
 ⟨⟨fun _ _ _ _ _ => .inl rfl⟩, fun _ _ _ => rfl, fun q i h1 h2 => by omega, fun q i r h1 h2 => by omega⟩
theorem EOk.tab {rs : List Ru} {s : List UInt8} {E : Nat → Nat → Int} {p : Int} (h : EOk rs s E p) (hp : p < 0) : Tab rs s E :=
 ⟨h.ok, fun q i h1 h2 => h.known q i (by omega) h1 h2, fun q i r h1 h2 => h.fix q i r (by omega) h1 h2⟩
structure RowOk (rs : List Ru) (s : List UInt8) (E : Nat → Nat → Int) (p : Nat) (row : List Int) : Prop where
 len : row.length = rs.length
 ok : TabOk rs s.length (upd E p row)
 sound : ∀ (i : Nat) z r, row[i]? = some z → rs[i]? = some r → z = -2 ∨ z = endE rs s (upd E p row) r.body p
theorem RowOk.init {rs : List Ru} {s : List UInt8} {E : Nat → Nat → Int} {p : Nat} (h : EOk rs s E p) {row : List Int} (hl : row.length = rs.length) (hr : ∀ (i : Nat) z, row[i]? = some z → z = -2) : RowOk rs s E p row := by
 refine ⟨hl, ⟨fun q i f hq hf => ?_⟩, fun i z r hz _ => .inl (hr i z hz)⟩
 by_cases hqp : q = p
 ·subst hqp
  unfold upd; rw [if_pos rfl]
  cases hz : row[i]? with
  | none => exact .inl rfl
  | some z => rw [hr i z hz]; exact .inl rfl
 ·rw [upd_ne hqp]; exact h.ok.val q i f hq hf
theorem RowOk.step {rs : List Ru} {s : List UInt8} {E : Nat → Nat → Int} {p : Nat} (hw : WellOk rs) (hp : p ≤ s.length) {row : List Int} (h : RowOk rs s E p row) {i : Nat} {r : Ru} (hi : row[i]? = some (-2)) (hr : rs[i]? = some r) :
  RowOk rs s E p (row.set i (endE rs s (upd E p row) r.body p)) := by
 have hil : i < row.length := (List.getElem?_eq_some_iff.1 hi).1
 generalize hz : endE rs s (upd E p row) r.body p = z
 have hle : TabLe (upd E p row) (upd E p (row.set i z)) := fun q j => by
  by_cases hqp : q = p
  ·subst hqp
   unfold upd
   rw [if_pos rfl, if_pos rfl, List.getElem?_set]
   by_cases hij : i = j
   ·subst hij; rw [hi]; exact .inl rfl
   ·rw [if_neg hij]; exact .inr rfl
  ·rw [upd_ne hqp, upd_ne hqp]; exact .inr rfl
 have hpeg := hw.peg (List.mem_of_getElem? hr)
 refine ⟨by rw [List.length_set]; exact h.len, ⟨fun q j f hq hf => ?_⟩, fun j y r' hy hr' => ?_⟩
 ·by_cases hqp : q = p
  ·subst hqp
   unfold upd
   rw [if_pos rfl, List.getElem?_set]
   by_cases hij : i = j
   ·subst hij
    rw [if_pos rfl, if_pos hil, Option.getD_some]
    have hv := end_val h.ok _ r.body (Nat.lt_succ_self _) hpeg q (by omega) (by omega)
    rw [hz] at hv
    refine hv.up ?_
    have := (knOf_lfp rs).shut i f hf
    have hF : Fof rs (knOf rs) i = ofE rs (knOf rs) r.body := by unfold Fof; simp only [hr]
    rw [hF] at this; exact this
   ·rw [if_neg hij]
    have := h.ok.val q j f hq hf
    unfold upd at this
    rw [if_pos rfl] at this; exact this
  ·rw [upd_ne hqp]
   have := h.ok.val q j f hq hf
   rw [upd_ne hqp] at this; exact this
 ·rw [List.getElem?_set] at hy
  by_cases hij : i = j
  ·subst hij
   rw [if_pos rfl, if_pos hil] at hy
   simp only [Option.some.injEq] at hy
   subst hy
   rw [hr] at hr'; cases hr'
   by_cases h2 : z = -2
   ·exact .inl h2
   ·right
    rw [end_mono hle r.body p (by rw [hz]; exact h2), hz]
  ·rw [if_neg hij] at hy
   rcases h.sound j y r' hy hr' with h' | h'
   ·exact .inl h'
   ·by_cases h2 : y = -2
    ·exact .inl h2
    ·right
     rw [end_mono hle r'.body p (by rw [← h']; exact h2), ← h']
theorem RowOk.hit {rs : List Ru} {s : List UInt8} {E : Nat → Nat → Int} {p : Nat} (hw : WellOk rs) (hE : EOk rs s E p) (hp : p ≤ s.length) {row : List Int} (h : RowOk rs s E p row) {r : Ru} (hr : r ∈ rs) (hn : ∀ j ∈ needsE rs (knOf rs) r.body, ∀ z, row[j]? = some z → z ≠ -2) :
  endE rs s (upd E p row) r.body p ≠ -2 := by
 have hpeg := hw.peg hr
 refine end_known h.ok _ r.body (Nat.lt_succ_self _) hpeg p (by omega) (by omega) (fun q hq hql i hi => ?_) fun j hj => ?_
 ·rw [upd_ne (by omega)]; exact hE.known q i hq hql hi
 ·obtain ⟨z, hz⟩ := getN (l := row) (i := j) (by rw [h.len]; exact needsE_lt _ _ hpeg.good j hj)
  rw [Int.toNat_natCast, upd_eq hz]; exact hn j hj z hz
theorem RowOk.done {rs : List Ru} {s : List UInt8} {E : Nat → Nat → Int} {p : Nat} (hE : EOk rs s E p) {row : List Int} (h : RowOk rs s E p row) (hk : ∀ (i : Nat) z, row[i]? = some z → z ≠ -2) : EOk rs s (upd E p row) ((p : Int) - 1) := by
 have hle : TabLe E (upd E p row) := fun q i => by
  by_cases hqp : q = p
  ·exact .inl (hE.un q i (by omega))
  ·rw [upd_ne hqp]; exact .inr rfl
 refine ⟨h.ok, fun q i hq => ?_, fun q i h1 h2 h3 => ?_, fun q i r h1 h2 h3 => ?_⟩
 ·rw [upd_ne (by omega)]; exact hE.un q i (by omega)
 ·by_cases hqp : q = p
  ·subst hqp
   obtain ⟨z, hz⟩ := getN (l := row) (i := i) (by rw [h.len]; exact h3)
   rw [upd_eq hz]; exact hk i z hz
  ·rw [upd_ne hqp]; exact hE.known q i (by omega) h2 h3
 ·have hi := (List.getElem?_eq_some_iff.1 h3).1
  by_cases hqp : q = p
  ·subst hqp
   obtain ⟨z, hz⟩ := getN (l := row) (i := i) (by rw [h.len]; exact hi)
   rw [upd_eq hz]
   exact (h.sound i z r hz h3).resolve_left (hk i z hz)
  ·rw [upd_ne hqp]
   have hf := hE.fix q i r (by omega) h2 h3
   rw [end_mono hle r.body q (by rw [← hf]; exact hE.known q i (by omega) h2 hi)]
   exact hf
end Go.Proofs.Ytifkffmecfgpeaa.core

namespace Go.Proofs.Ytifkffmecfgpeaa.core
open Go.Gx Go.RowKit Go.ChangeShapes Go.WideShapes Go.ChangeAt
set_option linter.unusedVariables false
theorem At.ofAddP {M : Mem} {b : Nat} {vs : List Value} {t : TypeId} {f : Nat × Nat} : At (M.add b (.cells vs.toArray t f)) b 0 vs := by
 intro j v hj
 unfold Mem.cell
 rw [Mem.add_eq, Nat.zero_add]
 simpa using hj
abbrev vC (v : Value) : List Value := [v]
theorem vC_len (v : Value) : (vC v).length = 1 := rfl
theorem rowE_upd {E : Nat → Nat → Int} {p m : Nat} {row : List Int} (h : row.length = m) : rowE (upd E p row) m p = row := by
 apply List.ext_getElem?
 intro i
 by_cases hi : i < m
 ·obtain ⟨z, hz⟩ := getN (l := row) (i := i) (by omega)
  rw [rowE_get hi, hz, upd_eq hz]
 ·rw [List.getElem?_eq_none (by rw [rowE_len]; omega), List.getElem?_eq_none (by omega)]
theorem rowE_ne {E : Nat → Nat → Int} {p q m : Nat} {row : List Int} (h : q ≠ p) : rowE (upd E p row) m q = rowE E m q := by
 unfold rowE
 exact List.map_congr_left fun i _ => upd_ne h
def but (M : Mem) (g : Nat) : Mem := fun x => if x = g then none else M x
theorem but_eq (M : Mem) (g : Nat) : but M g g = none := by simp [but]
theorem but_ne {M : Mem} {g x : Nat} (h : x ≠ g) : but M g x = M x := by simp [but, h]
theorem but_le (M : Mem) (g : Nat) : (but M g).le M := fun x o hx => by
 unfold but at hx
 split at hx
 ·cases hx
 ·exact hx
theorem le_but {V M : Mem} {g : Nat} (h : V.le M) (hg : V g = none) : V.le (but M g) := fun x o hx => by
 rw [but_ne (by rintro rfl; rw [hg] at hx; cases hx)]
 exact h x o hx
theorem fill_is {rs : List Ru} {ga : Option Addr} {gl gc : Nat} {M : Mem} {s : List UInt8} (hw : WellOk rs) (hs : s.length ≤ 60) (hg : GrR M rs ga gl gc) (K : Value → Mem → Prop)
  (hK : ∀ (M' : Mem) b ea ec eb E, M.le M' → Tab rs s E → TabR M' rs s E 0 b ga ea gl gc ec eb → K (.pointer (some ⟨b, 0, none⟩)) M') : S_chaffref_Fill ga gl gc s M (fun _ => False) K := by
 unfold S_chaffref_Fill
 have hgl := hg.len
 subst hgl
 have h10 := hw.ok.ten
 have h1 := hw.ok.one
 have e1 : (((s.length : Nat) : Int) + 1).toNat = s.length + 1 := by omega
 simp only [e1, Int.toNat_natCast]
 obtain ⟨st, hst, hord⟩ := hw.stage
 refine ⟨inI_small (by omega) (by omega), by omega, by omega, by omega, fun M9 ad7 cap8 hnr b10 M11 hb10 hM11 => ?_⟩
 have hgr0 := GrowI.make hnr
 rw [← cl_replicate vC (s.length + 1) (Value.slice none 0 0)] at hgr0
 obtain ⟨_, _, _, ⟨_, hbad, _⟩ | ⟨eb, cur, had7, hMeb, _, _, hM9⟩⟩ := hnr
 ·omega
 have h9eb : M9 eb = some (.cells cur 64 (0, 0)) := by rw [hM9]; exact Mem.add_eq
 have hbe : b10 ≠ eb := by rintro rfl; rw [hb10] at h9eb; cases h9eb
 have hle11 : M9.le M11 := by rw [hM11]; exact Mem.add_le hb10
 let I : (Nat → Nat → Int) → Int → Mem → Prop := fun E p M' => -1 ≤ p ∧ p ≤ s.length ∧ EOk rs s E p ∧ ∃ (V : Mem) (ends : List Value), GrowI V M' 64 1 ad7 (s.length + 1) cap8 (cl vC ends) ∧ ends.length = s.length + 1 ∧ M.le V ∧ At V b10 0 [Value.slice ga rs.length gc] ∧ At V b10 1 [Value.string (mkS s)] ∧ At V b10 2 [Value.slice ad7 (s.length + 1) cap8] ∧
  ∀ q : Nat, p < q → q ≤ s.length → ∃ ra rc, ends[q]? = some (Value.slice ra rs.length rc) ∧ SlV V ra rs.length rc 1 (cl iC (rowE E rs.length q))
 have hI0 : I (fun _ _ => -2) s.length M11 := by
  have hVeb := but_eq M11 eb
  have hb : At M11 b10 0 [Value.slice ga rs.length gc, Value.string (mkS s), Value.slice ad7 (s.length + 1) cap8] := by rw [hM11]; exact At.ofAddP
  have hb : At (but M11 eb) b10 0 [Value.slice ga rs.length gc, Value.string (mkS s), Value.slice ad7 (s.length + 1) cap8] := fun j v hj => by
   have := hb j v hj
   unfold Mem.cell at this ⊢
   rw [but_ne hbe]; exact this
  exact ⟨by omega, by omega, EOk.init rs s, but M11 eb, List.replicate (s.length + 1) (.slice none 0 0), ⟨but_le _ _, hgr0.row.le hle11, fun g o hg' => by rw [had7] at hg'; cases hg'; exact hVeb⟩, by simp, le_but (hgr0.le.trans hle11) hMeb, hb.part 0 [Value.slice ga rs.length gc] rfl, hb.part 1 [Value.string (mkS s)] rfl, hb.part 2 [Value.slice ad7 (s.length + 1) cap8] rfl, fun q h1 h2 => by omega⟩
 refine ⟨_, I, fun _ p => (p + 1).toNat, _, hI0, fun E p M706 ⟨p0, p1, hE, V, ends, hgr, hel, hleV, a0, a1, a2, hrows⟩ => ⟨fun hge => ?_, fun hlt => ?_⟩⟩
 ·obtain ⟨m, rfl⟩ := Int.eq_ofNat_of_zero_le hge
  refine ⟨_, _, _, a2.le hgr.le, by omega, by omega, by omega, fun M718 ad716 cap717 hnr2 => ?_⟩
  have hgr2 := GrowI.make hnr2
  rw [← cl_replicate iC rs.length 0] at hgr2
  obtain ⟨_, _, _, ⟨_, hbad, _⟩ | ⟨g, cur2, had2, hMg, _, _, hM718⟩⟩ := hnr2
  ·omega
  have hgeb : g ≠ eb := by
   rintro rfl
   obtain ⟨_, _, _, ⟨h, _⟩ | ⟨g', c', h, hg', _⟩⟩ := hgr.row
   ·rw [had7] at h; cases h
   ·rw [had7] at h; cases h; rw [hMg] at hg'; cases hg'
  obtain ⟨q1, hVeb, q3⟩ := (hgr.more hgr2.le).put vC_len hel (i := m) (by omega) had7 (.slice ad716 rs.length cap717)
  refine ⟨eb, 0, had7, hge, by omega, q1, .inr hMeb, fun M721 hM721 => ?_⟩
  have hM721' : M721 = M718.put eb (0 + m * 1) (vC (.slice ad716 rs.length cap717)) := hM721
  rw [← hM721'] at q3
  have hVg : V g = none := by
   cases hv : V g with
   | none => rfl
   | some o => rw [hgr.le _ _ hv] at hMg; cases hMg
  have hV2 : V.le (but M721 g) := le_but q3.le hVg
  have hgrow : GrowI (but M721 g) M721 3 1 ad716 rs.length cap717 (cl iC (List.replicate rs.length 0)) := ⟨but_le _ _, hgr2.row.same fun g' o hg' ho => by
   rw [had2] at hg'; cases hg'
   rw [hM721, Mem.put_ne hgeb]; exact ho, fun g' o hg' => by rw [had2] at hg'; cases hg'; exact but_eq _ _⟩
  have hends : RowW (but M721 g) 64 1 ad7 (s.length + 1) cap8 (cl vC (ends.set m (.slice ad716 rs.length cap717))) := q3.row.same fun g' o hg' ho => by
   rw [had7] at hg'; cases hg'
   rw [but_ne (fun h => hgeb h.symm)]; exact ho
  have hel' : (ends.set m (Value.slice ad716 rs.length cap717)).length = s.length + 1 := by rw [List.length_set]; exact hel
  generalize hV2d : but M721 g = V2 at hV2 hgrow hends
  have hV2g : V2 g = none := by rw [← hV2d]; exact but_eq _ _
  have hMg0 : M g = none := by
   cases hv : M g with
   | none => rfl
   | some o => rw [hleV _ _ hv] at hVg; cases hVg
  have hAt : ∀ {M' : Mem} {q : Nat} {v : Value}, V2.le M' → (ends.set m (Value.slice ad716 rs.length cap717))[q]? = some v → At M' eb (0 + q * 1) [v] := fun hl hq => by
   obtain ⟨b, o, hb, hat⟩ := hends.slv.at vC_len hel' hq
   rw [had7] at hb; cases hb
   exact hat.le hl
  have hnow : (ends.set m (Value.slice ad716 rs.length cap717))[m]? = some (.slice ad716 rs.length cap717) := by rw [List.getElem?_set, if_pos rfl, if_pos (by omega)]
  refine ⟨List Int, fun row x M' => 0 ≤ x ∧ x ≤ rs.length ∧ row.length = rs.length ∧ GrowI V2 M' 3 1 ad716 rs.length cap717 (cl iC row) ∧ ∀ (j : Nat) z, (j : Int) < x → row[j]? = some z → z = -2, fun _ x => rs.length - x.toNat, _, ⟨by omega, by omega, by simp, hgrow, fun j z h => by omega⟩, fun row x M748 ⟨x0, x1, hrl, hgx, hun⟩ => ⟨fun hltx => ?_, fun hgex => ?_⟩⟩
  ·obtain ⟨u1, u2, u3⟩ := hgx.put iC_len hrl (i := x.toNat) (by omega) had2 (-2)
   refine ⟨_, _, _, a2.le (hV2.trans hgx.le), eb, 0, had7, hge, by omega, _, _, _, hAt hgx.le (by rw [Int.toNat_natCast]; exact hnow), g, 0, had2, x0, hltx, u1, .inr hMg0, fun M764 hM764 => ⟨inI_small (by omega) (by omega), row.set x.toNat (-2), ⟨by omega, by omega, by rw [List.length_set]; exact hrl, by rw [hM764]; exact u3, fun j z hj hz => ?_⟩, by dsimp only; omega⟩⟩
   rw [List.getElem?_set] at hz
   by_cases hxj : x.toNat = j
   ·rw [if_pos hxj, if_pos (by omega)] at hz; simpa using hz.symm
   ·rw [if_neg hxj] at hz; exact hun j z (by omega) hz
  have hR0 : RowOk rs s E m row := RowOk.init hE hrl fun i z hz => hun i z (by have := (List.getElem?_eq_some_iff.1 hz).1; omega) hz
  refine ⟨List Int, fun row k M' => 0 ≤ k ∧ k ≤ rs.length ∧ RowOk rs s E m row ∧ GrowI V2 M' 3 1 ad716 rs.length cap717 (cl iC row) ∧ ∀ (i : Nat) z, (st i : Int) ≤ k → row[i]? = some z → z ≠ -2, fun _ k => rs.length - k.toNat, row, ⟨by omega, by omega, hR0, hgx, fun i z hi hz => ?_⟩, fun row k M957 ⟨k0, k1, hR, hgk, hkn⟩ => ⟨fun hltk => ?_, fun hgek => ?_⟩⟩
  ·have := (hst i (by have := (List.getElem?_eq_some_iff.1 hz).1; omega)).1
   omega
  ·refine ⟨List Int, fun row i M' => 0 ≤ i ∧ i ≤ rs.length ∧ RowOk rs s E m row ∧ GrowI V2 M' 3 1 ad716 rs.length cap717 (cl iC row) ∧ (∀ (j : Nat) z, (st j : Int) ≤ k → row[j]? = some z → z ≠ -2) ∧ ∀ (j : Nat) z, (j : Int) < i → (st j : Int) ≤ k + 1 → row[j]? = some z → z ≠ -2, fun _ i => rs.length - i.toNat, row, ⟨by omega, by omega, hR, hgk, hkn, fun j z h => by omega⟩, fun row i M1023 ⟨i0, i1, hR, hgi, hkn, hki⟩ => ⟨fun hlti => ?_, fun hgei => ?_⟩⟩
   ·obtain ⟨r, x, b, o, hr, ha, hat, hrr⟩ := (hg.le (hleV.trans (hV2.trans hgi.le))).at i0 hlti
    have hrm := List.mem_of_getElem? hr
    obtain ⟨z, hz⟩ := getN (l := row) (i := i.toNat) (by rw [hR.len]; omega)
    obtain ⟨b4, o4, hb4, hat4⟩ := hgi.row.slv.at iC_len hR.len hz
    rw [had2] at hb4; cases hb4
    have a2' := a2.le (hV2.trans hgi.le)
    have hse := hAt hgi.le hnow
    refine ⟨b, o, ha, i0, hlti, x, hat, _, _, _, a2', eb, 0, had7, hge, by omega, _, _, _, by rw [Int.toNat_natCast]; exact hse, g, 0, had2, i0, hlti, z, hat4, fun h2 => ?_, fun h2 => ?_⟩
    ·subst h2
     have hT : TabR M1023 rs s (upd E m row) m b10 ga ad7 rs.length gc cap8 eb := by
      refine ⟨a0.le (hV2.trans hgi.le), a1.le (hV2.trans hgi.le), a2', hg.le (hleV.trans (hV2.trans hgi.le)), had7, fun q hq hql => ?_⟩
      by_cases hqm : q = m
      ·subst hqm
       refine ⟨ad716, cap717, by have := hse; rw [Nat.zero_add, Nat.mul_one] at this; exact this, ?_⟩
       rw [rowE_upd hR.len]; exact hgi.row.slv
      ·obtain ⟨ra, rc, h3, h4⟩ := hrows q (by omega) hql
       refine ⟨ra, rc, by have := hAt hgi.le (q := q) (v := Value.slice ra rs.length rc) (by rw [List.getElem?_set, if_neg (fun h => hqm h.symm)]; exact h3); rw [Nat.zero_add, Nat.mul_one] at this; exact this, ?_⟩
       rw [rowE_ne hqm]; exact h4.le (hV2.trans hgi.le)
     refine ⟨_, _, _, a2', eb, 0, had7, hge, by omega, _, _, _, by rw [Int.toNat_natCast]; exact hse, ?_⟩
     refine s_chaffref_Table_End _ _ _ _ _ (end_is hs h10 hR.ok _ r.body (Nat.lt_succ_self _) (hw.peg hrm) hrr.2.2 hT (Int.le_refl _) hge (by omega) ⟨_, rfl, ?_⟩)
     obtain ⟨u1, u2, u3⟩ := hgi.put iC_len hR.len (i := i.toNat) (by omega) had2 (endE rs s (upd E m row) r.body m)
     refine ⟨g, 0, had2, i0, hlti, u1, .inr hMg0, fun M1055 hM1055 => ?_⟩
     have hset : ∀ (j : Nat) y, (row.set i.toNat (endE rs s (upd E m row) r.body m))[j]? = some y → (j = i.toNat ∧ y = endE rs s (upd E m row) r.body m) ∨ (j ≠ i.toNat ∧ row[j]? = some y) := fun j y hy => by
      rw [List.getElem?_set] at hy
      by_cases hij : i.toNat = j
      ·rw [if_pos hij, if_pos (by rw [hR.len]; omega)] at hy; exact .inl ⟨hij.symm, by simpa using hy.symm⟩
      ·rw [if_neg hij] at hy; exact .inr ⟨fun h => hij h.symm, hy⟩
     have hhit : (st i.toNat : Int) ≤ k + 1 → endE rs s (upd E m row) r.body m ≠ -2 := fun hsti => hR.hit hw hE (by omega) hrm fun j hj z hz => hkn j z (by have := hord _ r hr j hj; omega) hz
     refine ⟨inI_small (by omega) (by omega), _, ⟨by omega, by omega, hR.step hw (by omega) hz hr, by rw [hM1055]; exact u3, fun j y hj hy => ?_, fun j y hj hj2 hy => ?_⟩, by dsimp only; omega⟩
     ·rcases hset j y hy with ⟨rfl, rfl⟩ | ⟨_, hy⟩
      ·exact hhit (by omega)
      ·exact hkn j y hj hy
     ·rcases hset j y hy with ⟨rfl, rfl⟩ | ⟨hne, hy⟩
      ·exact hhit hj2
      ·exact hki j y (by omega) hj2 hy
    ·refine ⟨inI_small (by omega) (by omega), row, ⟨by omega, by omega, hR, hgi, hkn, fun j y hj hj2 hy => ?_⟩, by dsimp only; omega⟩
     by_cases hji : j = i.toNat
     ·subst hji; rw [hz] at hy; cases hy; exact h2
     ·exact hki j y (by omega) hj2 hy
   ·exact ⟨inI_small (by omega) (by omega), row, ⟨by omega, by omega, hR, hgi, fun j y hj hy => hki j y (by have := (List.getElem?_eq_some_iff.1 hy).1; rw [hR.len] at this; omega) hj hy⟩, by dsimp only; omega⟩
  · -- the place is done
   have hall : ∀ (i : Nat) z, row[i]? = some z → z ≠ -2 := fun i z hz => hkn i z (by have := (List.getElem?_eq_some_iff.1 hz).1; rw [hR.len] at this; have := (hst i this).2; omega) hz
   have hV2e : V.le (but M957 eb) := le_but (hV2.trans hgk.le) hVeb
   refine ⟨inI_small (by omega) (by omega), upd E m row, ⟨by omega, by omega, hR.done hE hall, but M957 eb, ends.set m (.slice ad716 rs.length cap717), ⟨but_le _ _, hends.le hgk.le, fun g' o hg' => by rw [had7] at hg'; cases hg'; exact but_eq _ _⟩, hel', hleV.trans hV2e, a0.le hV2e, a1.le hV2e, a2.le hV2e, fun q hq hql => ?_⟩, by dsimp only; omega⟩
   by_cases hqm : q = m
   ·subst hqm
    refine ⟨ad716, cap717, hnow, ?_⟩
    rw [rowE_upd hR.len]
    exact (hgk.row.same fun g' o hg' ho => by rw [had2] at hg'; cases hg'; rw [but_ne hgeb]; exact ho).slv
   ·obtain ⟨ra, rc, h3, h4⟩ := hrows q (by omega) hql
    refine ⟨ra, rc, by rw [List.getElem?_set, if_neg (fun h => hqm h.symm)]; exact h3, ?_⟩
    rw [rowE_ne hqm]; exact h4.le hV2e
 ·intro M' hle'
  refine hK M' b10 ad7 cap8 eb E (hleV.trans (hgr.le.trans hle')) (hE.tab (by omega)) ⟨a0.le (hgr.le.trans hle'), a1.le (hgr.le.trans hle'), a2.le (hgr.le.trans hle'), hg.le (hleV.trans (hgr.le.trans hle')), had7, fun q hq hql => ?_⟩
  obtain ⟨ra, rc, h3, h4⟩ := hrows q (by omega) hql
  obtain ⟨b, o, hb, hat⟩ := hgr.row.slv.at vC_len hel h3
  rw [had7] at hb; cases hb
  refine ⟨ra, rc, ?_, h4.le (hgr.le.trans hle')⟩
  have := hat.le hle'
  rw [Nat.zero_add, Nat.mul_one] at this; exact this
end Go.Proofs.Ytifkffmecfgpeaa.core

namespace Go.Proofs.Ytifkffmecfgpeaa.core
open Go.Gx Go.RowKit Go.ChangeShapes Go.WideShapes Go.ChangeAt
set_option linter.unusedVariables false
def outE (r p : Int) : X_api_Outcome := if 0 ≤ r then ⟨true, r - p⟩ else ⟨false, 0⟩
end Go.Proofs.Ytifkffmecfgpeaa.core

namespace Go.Proofs.Ytifkffmecfgpeaa.core
open Go.Gx Go.RowKit Go.ChangeShapes Go.WideShapes Go.ChangeAt
set_option linter.unusedVariables false
abbrev Rc := Option (Int × Nat)
def seqV (f : Ex → Int → Rc) : List Ex → Int → Rc
 | [], p => some (p, 0)
 | k :: ks, p => (f k p).bind fun x => if x.1 < 0 then some x else (seqV f ks x.1).map fun y => (y.1, x.2 + y.2)
def altV (f : Ex → Int → Rc) : List Ex → Int → Rc
 | [], _ => some (-1, 0)
 | k :: ks, p => (f k p).bind fun x => if x.1 ≠ -1 then some x else (altV f ks p).map fun y => (y.1, x.2 + y.2)
def staV (f : Int → Rc) (q : Bool) : Nat → Int → Bool → Rc
 | 0, _, _ => none
 | m + 1, p, fi => (f p).bind fun x => if x.1 < 0 then some (if (fi && q) = true then x.1 else p, x.2) else (staV f q m x.1 false).map fun y => (y.1, x.2 + y.2)
def hdV (f : Ex → Int → Rc) : List Ex → Int → Rc
 | [], _ => none
 | k :: _, p => f k p
def ev (rs : List Ru) (s : List UInt8) : Nat → Ex → Int → Rc
 | 0, _, _ => none
 | m + 1, e, p => (if e.kind = 1 then some (p, 0) else if e.kind = 2 then some (setE e.set s p, 0) else if e.kind = 3 then some (litE e.text s p, 0)
  else if e.kind = 4 then (rs[(findR e.text rs 0).toNat]?).bind fun r => ev rs s m r.body p
  else if e.kind = 5 then seqV (ev rs s m) e.kids p else if e.kind = 6 then altV (ev rs s m) e.kids p
  else if e.kind = 7 ∨ e.kind = 8 then staV (hdV (ev rs s m) e.kids) (decide (e.kind = 8)) (s.length + 2) p true
  else (hdV (ev rs s m) e.kids p).map fun x => (oneE e.kind p x.1, x.2)).map fun x => (x.1, x.2 + 1)
def Below2 (f g : Ex → Int → Rc) : Prop := ∀ e p x, f e p = some x → g e p = some x
theorem seqV_mono {f g : Ex → Int → Rc} (h : Below2 f g) : ∀ (ks : List Ex) p x, seqV f ks p = some x → seqV g ks p = some x
 | [], _, _, h' => h'
 | k :: ks, p, x, h' => by
  rw [seqV] at h' ⊢
  cases hf : f k p with
  | none => rw [hf] at h'; cases h'
  | some y =>
   rw [hf] at h'
   rw [h k p y hf]
   simp only [Option.bind_some] at h' ⊢
   split at h'
   ·rename_i h0; rw [if_pos h0]; exact h'
   ·rename_i h0
    rw [if_neg h0]
    cases hz : seqV f ks y.1 with
    | none => rw [hz] at h'; cases h'
    | some z => rw [hz] at h'; rw [seqV_mono h ks _ z hz]; exact h'
theorem altV_mono {f g : Ex → Int → Rc} (h : Below2 f g) : ∀ (ks : List Ex) p x, altV f ks p = some x → altV g ks p = some x
 | [], _, _, h' => h'
 | k :: ks, p, x, h' => by
  rw [altV] at h' ⊢
  cases hf : f k p with
  | none => rw [hf] at h'; cases h'
  | some y =>
   rw [hf] at h'
   rw [h k p y hf]
   simp only [Option.bind_some] at h' ⊢
   split at h'
   ·rename_i h0; rw [if_pos h0]; exact h'
   ·rename_i h0
    rw [if_neg h0]
    cases hz : altV f ks p with
    | none => rw [hz] at h'; cases h'
    | some z => rw [hz] at h'; rw [altV_mono h ks _ z hz]; exact h'
theorem hdV_mono {f g : Ex → Int → Rc} (h : Below2 f g) : ∀ (ks : List Ex) p x, hdV f ks p = some x → hdV g ks p = some x
 | [], _, _, h' => h'
 | k :: _, p, x, h' => by rw [hdV] at h' ⊢; exact h k p x h'
theorem staV_mono {f g : Int → Rc} (h : ∀ p x, f p = some x → g p = some x) {q : Bool} : ∀ (m : Nat) p fi x, staV f q m p fi = some x → staV g q m p fi = some x
 | 0, _, _, _, h' => h'
 | m + 1, p, fi, x, h' => by
  rw [staV] at h' ⊢
  cases hf : f p with
  | none => rw [hf] at h'; cases h'
  | some y =>
   rw [hf] at h'
   rw [h p y hf]
   simp only [Option.bind_some] at h' ⊢
   split at h'
   ·rename_i h0; rw [if_pos h0]; exact h'
   ·rename_i h0
    rw [if_neg h0]
    cases hz : staV f q m y.1 false with
    | none => rw [hz] at h'; cases h'
    | some z => rw [hz] at h'; rw [staV_mono h m _ _ z hz]; exact h'
theorem ev_step {rs : List Ru} {s : List UInt8} : ∀ m, Below2 (ev rs s m) (ev rs s (m + 1))
 | 0, e, p, x, h => by rw [ev] at h; cases h
 | m + 1, e, p, x, h => by
  have ih := ev_step (rs := rs) (s := s) m
  rw [ev] at h ⊢
  obtain ⟨y, hy, rfl⟩ := Option.map_eq_some_iff.1 h
  refine Option.map_eq_some_iff.2 ⟨y, ?_, rfl⟩
  by_cases h1 : e.kind = 1
  ·rw [if_pos h1] at hy ⊢; exact hy
  rw [if_neg h1] at hy ⊢
  by_cases h2 : e.kind = 2
  ·rw [if_pos h2] at hy ⊢; exact hy
  rw [if_neg h2] at hy ⊢
  by_cases h3 : e.kind = 3
  ·rw [if_pos h3] at hy ⊢; exact hy
  rw [if_neg h3] at hy ⊢
  by_cases h4 : e.kind = 4
  ·rw [if_pos h4] at hy ⊢
   obtain ⟨r, hr, hy⟩ := Option.bind_eq_some_iff.1 hy
   exact Option.bind_eq_some_iff.2 ⟨r, hr, ih _ _ _ hy⟩
  rw [if_neg h4] at hy ⊢
  by_cases h5 : e.kind = 5
  ·rw [if_pos h5] at hy ⊢; exact seqV_mono ih _ _ _ hy
  rw [if_neg h5] at hy ⊢
  by_cases h6 : e.kind = 6
  ·rw [if_pos h6] at hy ⊢; exact altV_mono ih _ _ _ hy
  rw [if_neg h6] at hy ⊢
  by_cases h7 : e.kind = 7 ∨ e.kind = 8
  ·rw [if_pos h7] at hy ⊢; exact staV_mono (hdV_mono ih _) _ _ _ _ hy
  rw [if_neg h7] at hy ⊢
  obtain ⟨z, hz, he⟩ := Option.map_eq_some_iff.1 hy
  exact Option.map_eq_some_iff.2 ⟨z, hdV_mono ih _ _ _ hz, he⟩
theorem ev_more {rs : List Ru} {s : List UInt8} {m n : Nat} (h : m ≤ n) : Below2 (ev rs s m) (ev rs s n) := by
 induction h with
 | refl => exact fun _ _ _ h => h
 | step _ ih => exact fun e p x hx => ev_step _ e p x (ih e p x hx)
end Go.Proofs.Ytifkffmecfgpeaa.core

namespace Go.Proofs.Ytifkffmecfgpeaa.core
open Go.Gx Go.RowKit Go.ChangeShapes Go.WideShapes Go.ChangeAt
set_option linter.unusedVariables false
section
variable {rs : List Ru} {s : List UInt8} {E : Nat → Nat → Int}
theorem seqV_res {f : Ex → Int → Rc} : ∀ (ks : List Ex) (p : Int) x, (∀ k ∈ ks, ∀ (q : Int) y, 0 ≤ q → q ≤ s.length → f k q = some y → y.1 = endE rs s E k q ∧ (y.1 < 0 ∨ y.1 ≤ s.length)) → 0 ≤ p → p ≤ s.length → seqV f ks p = some x → x.1 = seqE rs s E ks p
 | [], _, _, _, _, _, h => by rw [seqV] at h; cases h; rw [seqE]
 | k :: ks, p, x, hf, hp, hl, h => by
  rw [seqV] at h
  obtain ⟨y, hy, h⟩ := Option.bind_eq_some_iff.1 h
  obtain ⟨h1, h2⟩ := hf k (by simp) p y hp hl hy
  rw [seqE, ← h1]
  split at h
  ·rename_i h0; cases h; rw [if_pos h0]
  ·rename_i h0
   rw [if_neg h0]
   obtain ⟨z, hz, rfl⟩ := Option.map_eq_some_iff.1 h
   exact seqV_res ks y.1 z (fun k' hk' => hf k' (by simp [hk'])) (by omega) (by omega) hz
theorem altV_res {f : Ex → Int → Rc} {p : Int} : ∀ (ks : List Ex) x, (∀ k ∈ ks, ∀ y, f k p = some y → y.1 = endE rs s E k p) → altV f ks p = some x → x.1 = altE rs s E ks p
 | [], _, _, h => by rw [altV] at h; cases h; rw [altE]
 | k :: ks, x, hf, h => by
  rw [altV] at h
  obtain ⟨y, hy, h⟩ := Option.bind_eq_some_iff.1 h
  have h1 := hf k (by simp) y hy
  rw [altE, ← h1]
  split at h
  ·rename_i h0; cases h; rw [if_pos h0]
  ·rename_i h0
   rw [if_neg h0]
   obtain ⟨z, hz, rfl⟩ := Option.map_eq_some_iff.1 h
   exact altV_res ks z (fun k' hk' => hf k' (by simp [hk'])) hz
theorem staV_res {f : Int → Rc} {g : Int → Int} {q : Bool} : ∀ (m : Nat) (p : Int) fi x, (∀ (r : Int) y, 0 ≤ r → r ≤ s.length → f r = some y → y.1 = g r ∧ g r ≠ -2 ∧ (y.1 < 0 ∨ y.1 ≤ s.length)) → 0 ≤ p → p ≤ s.length → staV f q m p fi = some x → x.1 = strE g q m p fi
 | 0, _, _, _, _, _, _, h => by rw [staV] at h; cases h
 | m + 1, p, fi, x, hf, hp, hl, h => by
  rw [staV] at h
  obtain ⟨y, hy, h⟩ := Option.bind_eq_some_iff.1 h
  obtain ⟨h1, h2, h3⟩ := hf p y hp hl hy
  rw [strE, ← h1]
  rw [← h1] at h2
  split at h
  ·rename_i h0
   cases h
   by_cases hq : (fi && q) = true
   ·rw [if_pos hq, if_pos (.inr ⟨h0, by simpa using hq⟩)]
   ·rw [if_neg hq, if_neg (fun h => h.elim h2 fun h => hq (by simp [h.2.1, h.2.2])), if_pos h0]
  ·rename_i h0
   rw [if_neg (fun h => h.elim h2 fun h => h0 h.1), if_neg h0]
   obtain ⟨z, hz, rfl⟩ := Option.map_eq_some_iff.1 h
   exact staV_res m y.1 false z hf (by omega) (by omega) hz
theorem ev_res (hw : WellOk rs) (hT : Tab rs s E) : ∀ (m : Nat) (e : Ex) (p : Int) x, PegOk rs e → 0 ≤ p → p ≤ s.length → ev rs s m e p = some x → x.1 = endE rs s E e p
 | 0, e, p, x, _, _, _, h => by rw [ev] at h; cases h
 | m + 1, e, p, x, hok, hp, hl, h => by
  have ih := ev_res hw hT m
  have hk : ∀ k ∈ e.kids, ∀ (q : Int) y, 0 ≤ q → q ≤ s.length → ev rs s m k q = some y → y.1 = endE rs s E k q ∧ (y.1 < 0 ∨ y.1 ≤ s.length) := fun k hk q y hq hql hy => by
   have h1 := ih k q y (hok.kid hk) hq hql hy
   refine ⟨h1, ?_⟩
   rw [h1]
   rcases hT.res (hok.kid hk) hq hql with h' | h' <;> omega
  rw [ev] at h
  obtain ⟨y, hy, rfl⟩ := Option.map_eq_some_iff.1 h
  rw [endE_eq]
  show y.1 = _
  by_cases h1 : e.kind = 1
  ·rw [if_pos h1] at hy ⊢; cases hy; rfl
  rw [if_neg h1] at hy ⊢
  by_cases h2 : e.kind = 2
  ·rw [if_pos h2] at hy ⊢; cases hy; rfl
  rw [if_neg h2] at hy ⊢
  by_cases h3 : e.kind = 3
  ·rw [if_pos h3] at hy ⊢; cases hy; rfl
  rw [if_neg h3] at hy ⊢
  by_cases h4 : e.kind = 4
  ·rw [if_pos h4] at hy ⊢
   obtain ⟨r, hr, hy⟩ := Option.bind_eq_some_iff.1 hy
   rw [ih r.body p y (hw.peg (List.mem_of_getElem? hr)) hp hl hy]
   have := hT.fix p.toNat _ r (by omega) hr
   rw [this, show ((p.toNat : Nat) : Int) = p by omega]
  rw [if_neg h4] at hy ⊢
  by_cases h5 : e.kind = 5
  ·rw [if_pos h5] at hy ⊢; exact seqV_res _ _ _ hk hp hl hy
  rw [if_neg h5] at hy ⊢
  by_cases h6 : e.kind = 6
  ·rw [if_pos h6] at hy ⊢; exact altV_res _ _ (fun k hkm y hy => (hk k hkm p y hp hl hy).1) hy
  rw [if_neg h6] at hy ⊢
  obtain ⟨g1, g2, g3, g4, g5, g6, g7, g8⟩ := fitE_kinds hok.good.fit
  obtain ⟨k, hk1⟩ := List.length_eq_one_iff.1 (g5 (by omega))
  have hkm : k ∈ e.kids := by rw [hk1]; simp
  have hhd : hdE rs s E e.kids = endE rs s E k := by rw [hk1]; funext q; rw [hdE]
  have hhv : hdV (ev rs s m) e.kids = ev rs s m k := by rw [hk1]; funext q; rw [hdV]
  rw [hhd]
  rw [hhv] at hy
  by_cases h7 : e.kind = 7 ∨ e.kind = 8
  ·rw [if_pos h7] at hy ⊢
   exact staV_res _ _ _ _ (fun r z hr hrl hz => ⟨(hk k hkm r z hr hrl hz).1, hT.knows (hok.kid hkm) hr hrl, (hk k hkm r z hr hrl hz).2⟩) hp hl hy
  rw [if_neg h7] at hy ⊢
  obtain ⟨z, hz, rfl⟩ := Option.map_eq_some_iff.1 hy
  show oneE e.kind p z.1 = _
  rw [(hk k hkm p z hp hl hz).1]
theorem ev_ex (hw : WellOk rs) (hT : Tab rs s E) : ∀ (e : Ex) (p : Int), PegOk rs e → 0 ≤ p → p ≤ s.length → ∃ m x, ev rs s m e p = some x := by
 refine peg_ind hw s.length (fun e p => ∃ m x, ev rs s m e p = some x) fun e p hok hp hl hk hr => ?_
 have up : ∀ {m : Nat} {y : Int × Nat}, (if e.kind = 1 then some (p, 0) else if e.kind = 2 then some (setE e.set s p, 0) else if e.kind = 3 then some (litE e.text s p, 0)
  else if e.kind = 4 then (rs[(findR e.text rs 0).toNat]?).bind fun r => ev rs s m r.body p
  else if e.kind = 5 then seqV (ev rs s m) e.kids p else if e.kind = 6 then altV (ev rs s m) e.kids p
  else if e.kind = 7 ∨ e.kind = 8 then staV (hdV (ev rs s m) e.kids) (decide (e.kind = 8)) (s.length + 2) p true
  else (hdV (ev rs s m) e.kids p).map fun x => (oneE e.kind p x.1, x.2)) = some y → ∃ m x, ev rs s m e p = some x := fun {m y} h => ⟨m + 1, (y.1, y.2 + 1), by rw [ev, h]; rfl⟩
 by_cases h1 : e.kind = 1
 ·exact up (m := 0) (if_pos h1)
 by_cases h2 : e.kind = 2
 ·exact up (m := 0) (by rw [if_neg h1, if_pos h2])
 by_cases h3 : e.kind = 3
 ·exact up (m := 0) (by rw [if_neg h1, if_neg h2, if_pos h3])
 by_cases h4 : e.kind = 4
 ·obtain ⟨hlt, _⟩ := findR_lt (hok.good.ref h4)
  obtain ⟨r, hrr⟩ := getN (l := rs) hlt
  obtain ⟨m, x, hx⟩ := hr h4 r hrr
  exact up (m := m) (by rw [if_neg h1, if_neg h2, if_neg h3, if_pos h4, hrr]; exact hx)
 by_cases h5 : e.kind = 5
 ·have key : ∀ (d i : Nat) (q : Int), e.kids.length - i < d → p ≤ q → q ≤ s.length → (q = p → ∀ j ∈ needsQ rs (knOf rs) (e.kids.drop i), j ∈ needsE rs (knOf rs) e) → ∃ m x, seqV (ev rs s m) (e.kids.drop i) q = some x := by
   intro d
   induction d with
   | zero => intro i q h; omega
   | succ d ih =>
    intro i q hd hq hql hn
    by_cases hi : i < e.kids.length
    ·obtain ⟨k, hki⟩ := getN (l := e.kids) hi
     obtain ⟨t1, t2⟩ := seq_tries hT hok h5 hp hl i q k hq hql hn hki
     obtain ⟨m1, x, hx⟩ := hk k q t1 hql
     have hxe := ev_res hw hT m1 k q x (hok.kid t1.1) (by omega) hql hx
     rw [drop_get hki]
     by_cases h0 : x.1 < 0
     ·exact ⟨m1, x, by rw [seqV, hx, Option.bind_some, if_pos h0]⟩
     ·obtain ⟨u1, u2, u3⟩ := t2 (by omega)
      rw [← hxe] at u1 u2 u3
      obtain ⟨m2, y, hy⟩ := ih (i + 1) x.1 (by omega) u1 u2 u3
      refine ⟨max m1 m2, (y.1, x.2 + y.2), ?_⟩
      rw [seqV, ev_more (Nat.le_max_left m1 m2) _ _ _ hx, Option.bind_some, if_neg h0, seqV_mono (ev_more (Nat.le_max_right m1 m2)) _ _ _ hy]
      rfl
    ·exact ⟨0, (q, 0), by rw [List.drop_of_length_le (by omega), seqV]⟩
  obtain ⟨m, x, hx⟩ := key (e.kids.length + 1) 0 p (by omega) (Int.le_refl _) hl fun _ j hj => by rw [needsE_eq, if_neg h4, if_pos h5]; exact hj
  exact up (m := m) (by rw [if_neg h1, if_neg h2, if_neg h3, if_neg h4, if_pos h5]; exact hx)
 by_cases h6 : e.kind = 6
 ·have key : ∀ ks : List Ex, (∀ k ∈ ks, k ∈ e.kids) → ∃ m x, altV (ev rs s m) ks p = some x := by
   intro ks
   induction ks with
   | nil => intro _; exact ⟨0, (-1, 0), by rw [altV]⟩
   | cons k ks ih =>
    intro hm
    obtain ⟨m1, x, hx⟩ := hk k p (kid_tries (hm k (by simp)) h4 h5 (Int.le_refl _)) hl
    by_cases h0 : x.1 ≠ -1
    ·exact ⟨m1, x, by rw [altV, hx, Option.bind_some, if_pos h0]⟩
    ·obtain ⟨m2, y, hy⟩ := ih fun k' hk' => hm k' (by simp [hk'])
     refine ⟨max m1 m2, (y.1, x.2 + y.2), ?_⟩
     rw [altV, ev_more (Nat.le_max_left m1 m2) _ _ _ hx, Option.bind_some, if_neg h0, altV_mono (ev_more (Nat.le_max_right m1 m2)) _ _ _ hy]
     rfl
  obtain ⟨m, x, hx⟩ := key e.kids fun _ h => h
  exact up (m := m) (by rw [if_neg h1, if_neg h2, if_neg h3, if_neg h4, if_neg h5, if_pos h6]; exact hx)
 obtain ⟨g1, g2, g3, g4, g5, g6, g7, g8⟩ := fitE_kinds hok.good.fit
 obtain ⟨k, hk1⟩ := List.length_eq_one_iff.1 (g5 (by omega))
 have hkm : k ∈ e.kids := by rw [hk1]; simp
 have hhv : ∀ m, hdV (ev rs s m) e.kids = ev rs s m k := fun m => by rw [hk1]; funext q; rw [hdV]
 by_cases h7 : e.kind = 7 ∨ e.kind = 8
 ·have hem := hok.star hk1 h7
  have key : ∀ (m : Nat) (q : Int) (fi : Bool), p ≤ q → q ≤ s.length → s.length + 1 ≤ q.toNat + m → ∃ n x, staV (ev rs s n k) (decide (e.kind = 8)) m q fi = some x := by
   intro m
   induction m with
   | zero => intro q fi hq hql hm; omega
   | succ m ih =>
    intro q fi hq hql hm
    obtain ⟨m1, x, hx⟩ := hk k q (kid_tries hkm h4 h5 hq) hql
    have hxe := ev_res hw hT m1 k q x (hok.kid hkm) (by omega) hql hx
    by_cases h0 : x.1 < 0
    ·exact ⟨m1, (if (fi && decide (e.kind = 8)) = true then x.1 else q, x.2), by rw [staV, hx, Option.bind_some, if_pos h0]⟩
    ·have hgt : q < x.1 ∧ x.1 ≤ s.length := by
      rw [hxe] at h0 ⊢
      rcases hT.res (hok.kid hkm) (p := q) (by omega) hql with h | ⟨h, h'⟩
      ·omega
      ·by_cases he : endE rs s E k q = q
       ·rw [hT.empty (hok.kid hkm) (by omega) hql he] at hem; cases hem
       ·omega
     obtain ⟨m2, y, hy⟩ := ih x.1 false (by omega) hgt.2 (by omega)
     refine ⟨max m1 m2, (y.1, x.2 + y.2), ?_⟩
     rw [staV, ev_more (Nat.le_max_left m1 m2) _ _ _ hx, Option.bind_some, if_neg h0, staV_mono (fun q z => ev_more (Nat.le_max_right m1 m2) k q z) _ _ _ _ hy]
     rfl
  obtain ⟨m, x, hx⟩ := key (s.length + 2) p true (Int.le_refl _) hl (by omega)
  exact up (m := m) (by rw [if_neg h1, if_neg h2, if_neg h3, if_neg h4, if_neg h5, if_neg h6, if_pos h7, hhv]; exact hx)
 ·obtain ⟨m, x, hx⟩ := hk k p (kid_tries hkm h4 h5 (Int.le_refl _)) hl
  exact up (m := m) (by rw [if_neg h1, if_neg h2, if_neg h3, if_neg h4, if_neg h5, if_neg h6, if_neg h7, hhv, hx]; rfl)
end
end Go.Proofs.Ytifkffmecfgpeaa.core

namespace Go.Proofs.Ytifkffmecfgpeaa.core
open Go.Gx Go.RowKit Go.ChangeShapes Go.WideShapes Go.ChangeAt
set_option linter.unusedVariables false
end Go.Proofs.Ytifkffmecfgpeaa.core

namespace Go.Proofs.Ytifkffmecfgpeaa.core
open Go.Gx Go.RowKit Go.ChangeShapes Go.WideShapes Go.ChangeAt
set_option linter.unusedVariables false
theorem prefix_is (a b : List UInt8) {M : Mem} (K : Value → Prop) (hK : K (.bool (decide (b.length ≤ a.length ∧ a.take b.length = b)))) : S_strings_HasPrefix a b M K := by
 unfold S_strings_HasPrefix
 refine s_internal_stringslite_HasPrefix _ _ _ _ ?_
 unfold S_internal_stringslite_HasPrefix
 refine ⟨fun h => ⟨by omega, by omega, by omega, _, rfl, ?_⟩, fun h => ⟨_, rfl, ?_⟩⟩
 ·have : ((mkS ((a.take ((b.length : Nat) : Int).toNat).drop (0 : Int).toNat)).toList == (mkS b).toList) = decide (b.length ≤ a.length ∧ a.take b.length = b) := by
   rw [Bool.eq_iff_iff, mkS_beq, decide_eq_true_iff]
   simp only [Int.toNat_natCast, Int.toNat_zero, List.drop_zero]
   exact ⟨fun h' => ⟨by omega, h'⟩, fun h' => h'.2⟩
  rw [this]; exact hK
 ·rw [show decide (b.length ≤ a.length ∧ a.take b.length = b) = false from decide_eq_false (fun h' => h (by omega))] at hK
  exact hK
end Go.Proofs.Ytifkffmecfgpeaa.core

namespace Go.Proofs.Ytifkffmecfgpeaa.core
open Go.Gx Go.RowKit Go.ChangeShapes Go.WideShapes Go.ChangeAt
set_option linter.unusedVariables false
theorem row_ex {rs : List Ru} {s : List UInt8} {E : Nat → Nat → Int} {p : Nat} (hw : WellOk rs) (hE : EOk rs s E p) (hp : p ≤ s.length) : ∃ row, RowOk rs s E p row ∧ ∀ (i : Nat) z, row[i]? = some z → z ≠ -2 := by
 obtain ⟨st, hst, hord⟩ := hw.stage
 have key : ∀ k : Nat, ∃ row, RowOk rs s E p row ∧ ∀ (i : Nat) z, st i ≤ k → row[i]? = some z → z ≠ -2 := by
  intro k
  induction k with
  | zero =>
   refine ⟨List.replicate rs.length (-2), RowOk.init hE (by simp) fun i z hz => ?_, fun i z hi hz => ?_⟩
   ·rw [List.getElem?_replicate] at hz
    split at hz
    ·simpa using hz.symm
    ·cases hz
   ·have := (List.getElem?_eq_some_iff.1 hz).1
    have := (hst i (by simpa using this)).1
    omega
  | succ k ih =>
   obtain ⟨row0, hR0, hk0⟩ := ih
   have inner : ∀ i : Nat, i ≤ rs.length → ∃ row, RowOk rs s E p row ∧ (∀ (j : Nat) z, st j ≤ k → row[j]? = some z → z ≠ -2) ∧ ∀ (j : Nat) z, j < i → st j ≤ k + 1 → row[j]? = some z → z ≠ -2 := by
    intro i
    induction i with
    | zero => intro _; exact ⟨row0, hR0, hk0, fun j z h => by omega⟩
    | succ i ihi =>
     intro hi
     obtain ⟨row, hR, hk, hki⟩ := ihi (by omega)
     obtain ⟨z, hz⟩ := getN (l := row) (i := i) (by rw [hR.len]; omega)
     obtain ⟨r, hr⟩ := getN (l := rs) (i := i) (by omega)
     by_cases h2 : z = -2
     ·subst h2
      have hhit : st i ≤ k + 1 → endE rs s (upd E p row) r.body p ≠ -2 := fun hsti => hR.hit hw hE hp (List.mem_of_getElem? hr) fun j hj z hz => hk j z (by have := hord _ r hr j hj; omega) hz
      have hset : ∀ (j : Nat) y, (row.set i (endE rs s (upd E p row) r.body p))[j]? = some y → (j = i ∧ y = endE rs s (upd E p row) r.body p) ∨ (j ≠ i ∧ row[j]? = some y) := fun j y hy => by
       rw [List.getElem?_set] at hy
       by_cases hij : i = j
       ·rw [if_pos hij, if_pos (by rw [hR.len]; omega)] at hy; exact .inl ⟨hij.symm, by simpa using hy.symm⟩
       ·rw [if_neg hij] at hy; exact .inr ⟨fun h => hij h.symm, hy⟩
      refine ⟨_, hR.step hw hp hz hr, fun j y hj hy => ?_, fun j y hj hj2 hy => ?_⟩
      ·rcases hset j y hy with ⟨rfl, rfl⟩ | ⟨_, hy⟩
       ·exact hhit (by omega)
       ·exact hk j y hj hy
      ·rcases hset j y hy with ⟨rfl, rfl⟩ | ⟨hne, hy⟩
       ·exact hhit hj2
       ·exact hki j y (by omega) hj2 hy
     ·refine ⟨row, hR, hk, fun j y hj hj2 hy => ?_⟩
      by_cases hji : j = i
      ·subst hji; rw [hz] at hy; cases hy; exact h2
      ·exact hki j y (by omega) hj2 hy
   obtain ⟨row, hR, _, hki⟩ := inner rs.length (Nat.le_refl _)
   exact ⟨row, hR, fun j y hj hy => hki j y (by have := (List.getElem?_eq_some_iff.1 hy).1; rw [hR.len] at this; exact this) hj hy⟩
 obtain ⟨row, hR, hk⟩ := key rs.length
 exact ⟨row, hR, fun i z hz => hk i z (hst i (by have := (List.getElem?_eq_some_iff.1 hz).1; rw [hR.len] at this; exact this)).2 hz⟩
theorem tab_ex {rs : List Ru} {s : List UInt8} (hw : WellOk rs) : ∃ E, Tab rs s E := by
 have key : ∀ d : Nat, d ≤ s.length + 1 → ∃ E, EOk rs s E ((s.length : Int) - d) := by
  intro d
  induction d with
  | zero => intro _; exact ⟨_, by simpa using EOk.init rs s⟩
  | succ d ih =>
   intro hd
   obtain ⟨E, hE⟩ := ih (by omega)
   have e1 : (s.length : Int) - d = ((s.length - d : Nat) : Int) := by omega
   rw [e1] at hE
   obtain ⟨row, hR, hk⟩ := row_ex hw hE (by omega)
   refine ⟨upd E (s.length - d) row, ?_⟩
   have := hR.done hE hk
   rw [show ((s.length - d : Nat) : Int) - 1 = (s.length : Int) - ((d + 1 : Nat) : Int) by omega] at this
   exact this
 obtain ⟨E, hE⟩ := key (s.length + 1) (Nat.le_refl _)
 exact ⟨E, hE.tab (by omega)⟩
end Go.Proofs.Ytifkffmecfgpeaa.core

namespace Go.Proofs.Ytifkffmecfgpeaa.core
open Go.Gx Go.RowKit Go.ChangeShapes Go.WideShapes Go.ChangeAt
set_option linter.unusedVariables false
def lookP (rs : List Ru) (s : List UInt8) : Int := if (wellP rs).2 ≠ 0 then (wellP rs).2 else if (s.length : Int) > 60 then 2 else 0
theorem mlook_is {rs : List Ru} {ga : Option Addr} {gl gc : Nat} {M : Mem} (hg : GrR M rs ga gl gc) (s : List UInt8) (K : Value → Prop) (hK : K (.int .i64 (lookP rs s))) : S_mean_Look ga gl gc s M K := by
 unfold S_mean_Look
 unfold lookP at hK
 refine s_well_Well _ _ _ _ _ (wwell_is hg _ ⟨_, _, rfl, fun h => ?_, fun h => ⟨fun h2 => ?_, fun h2 => ?_⟩⟩)
 ·rw [if_pos h] at hK; exact hK
 ·rw [if_neg h, if_pos h2] at hK; exact hK
 ·rw [if_neg h, if_neg h2] at hK; exact hK
theorem rlook_is {rs : List Ru} {ga : Option Addr} {gl gc : Nat} {M : Mem} (hg : GrR M rs ga gl gc) (s : List UInt8) (K : Value → Prop) (hK : K (.int .i64 (lookP rs s))) : S_chaffref_Look ga gl gc s M K := by
 unfold S_chaffref_Look
 unfold lookP at hK
 refine s_chaffref_Well _ _ _ _ _ (rwell_is hg _ ⟨_, _, rfl, fun h => ?_, fun h => ⟨fun h2 => ?_, fun h2 => ?_⟩⟩)
 ·rw [if_pos h] at hK; exact hK
 ·rw [if_neg h, if_pos h2] at hK; exact hK
 ·rw [if_neg h, if_neg h2] at hK; exact hK
end Go.Proofs.Ytifkffmecfgpeaa.core

namespace Go.Proofs.Ytifkffmecfgpeaa.core
open Go.Gx Go.RowKit Go.ChangeShapes Go.WideShapes Go.ChangeAt
set_option linter.unusedVariables false
theorem look_ok {rs : List Ru} {s : List UInt8} (h : lookP rs s = 0) : WellOk rs ∧ s.length ≤ 60 := by
 unfold lookP at h
 split at h
 ·rename_i h1; exact absurd h h1
 ·rename_i h1
  split at h
  ·cases h
  ·exact ⟨well_ok (Decidable.not_not.1 h1), by omega⟩
end Go.Proofs.Ytifkffmecfgpeaa.core

namespace Go.Proofs.Ytifkffmecfgpeaa.core
open Go.Gx Go.RowKit Go.ChangeShapes Go.WideShapes Go.ChangeAt
set_option linter.unusedVariables false
abbrev Tr := X_chaffref_Tried
theorem Tr_len (x : Tr) : (X_chaffref_Tried.cells x).length = 2 := rfl
def seqK (f : Ex → Int → Int) : List Ex → Int → Int → List Tr
 | [], _, _ => []
 | k :: ks, i, p => ⟨i, p⟩ :: (if f k p < 0 then [] else seqK f ks (i + 1) (f k p))
def altK (f : Ex → Int → Int) : List Ex → Int → Int → List Tr
 | [], _, _ => []
 | k :: ks, i, p => ⟨i, p⟩ :: (if f k p < 0 then altK f ks (i + 1) p else [])
def staK (f : Int → Int) : Nat → Int → List Tr
 | 0, _ => []
 | m + 1, p => if p < 0 then [] else ⟨0, p⟩ :: staK f m (f p)
def kidK (rs : List Ru) (s : List UInt8) (E : Nat → Nat → Int) (e : Ex) (p : Int) : List Tr :=
 if e.kind = 5 then seqK (endE rs s E) e.kids 0 p else if e.kind = 6 then altK (endE rs s E) e.kids 0 p
 else if e.kind = 7 ∨ e.kind = 8 then staK (hdE rs s E e.kids) (s.length + 3) p else if 9 ≤ e.kind then [⟨0, p⟩] else []
theorem kids_is {rs : List Ru} {s : List UInt8} {E : Nat → Nat → Int} {b : Nat} {ga ea : Option Addr} {gl gc ec eb : Nat} (hs60 : s.length ≤ 60) (h10 : rs.length ≤ 10) (hT : Tab rs s E) {e : Ex} (hok : PegOk rs e) {M : Mem} {x : X_api_Expr} {p : Int} {K : Value → Mem → Prop} (hR : ExR M e x) (hM : TabR M rs s E 0 b ga ea gl gc ec eb) (hp : 0 ≤ p) (hl : p ≤ s.length)
  (hK : ∀ M' ad cap, M.le M' → SlV M' ad (kidK rs s E e p).length cap 2 (cl X_chaffref_Tried.cells (kidK rs s E e p)) → K (.slice ad (kidK rs s E e p).length cap) M') : S_chaffref_Table_Kids (some ⟨b, 0, none⟩) x p M K := by
 obtain ⟨xs, hx⟩ := hR.open
 obtain ⟨g1, g2, g3, g4, g5, g6, g7, g8⟩ := fitE_kinds hok.good.fit
 have hl8 := kids8 hok.good
 have hres : ∀ k ∈ e.kids, ∀ q : Int, 0 ≤ q → q ≤ s.length → endE rs s E k q = -1 ∨ (q ≤ endE rs s E k q ∧ endE rs s E k q ≤ s.length) := fun k hk q h1 h2 => hT.res (hok.kid hk) h1 h2
 have hrec : ∀ (i : Nat) (k : Ex) (p : Int) (K : Value → Prop), e.kids[i]? = some k → 0 ≤ p → p ≤ s.length → K (.int .i64 (endE rs s E k p)) → ∃ (b1 o1 : Nat), x.Kids_a = some ⟨b1, o1, none⟩ ∧ ∃ y : X_api_Expr, At M b1 (o1 + i * 7) y.cells ∧ CallE Try.prog 53 #[Value.pointer (some ⟨b, 0, none⟩), y.val, .int .i64 p] M (fun v _ => K v) := fun i k p K hk h2 h3 h4 => by
  obtain ⟨b1, o1, y, ha, hat, hy, _⟩ := hx.kid hk
  exact ⟨b1, o1, ha, y, hat, s_chaffref_Table_End _ _ _ _ _ (end_is hs60 h10 hT.ok _ k (Nat.lt_succ_self _) (hok.kid (List.mem_of_getElem? hk)) hy hM h2 h2 h3 h4)⟩
 have hend : ∀ (l : List Tr), l = kidK rs s E e p → ∀ (M2 : Mem) ad n cap, n = l.length → M.le M2 → SlV M2 ad n cap 2 (cl X_chaffref_Tried.cells l) → ∀ M', M2.le M' → K (.slice ad n cap) M' := by
  rintro l rfl M2 ad n cap rfl hle hsl M' hle'
  exact hK M' ad cap (hle.trans hle') (hsl.le hle')
 have snoc : ∀ (l : List Tr) (i q : Int), cl X_chaffref_Tried.cells l ++ (X_chaffref_Tried.mk i q).cells = cl X_chaffref_Tried.cells (l ++ [⟨i, q⟩]) := fun l i q => cl_snoc _ _
 unfold S_chaffref_Table_Kids
 rw [hx.kind]
 have j1 : ∀ v : Bool, v = decide (e.kind = 5 ∨ e.kind = 6) → S_chaffref_Table_Kids_J1 (some ⟨b, 0, none⟩) x p M v K := by
  intro v hv
  unfold S_chaffref_Table_Kids_J1
  rw [hx.kind]
  refine ⟨fun ht => ?_, fun hf => ?_⟩
  ·have h56 : e.kind = 5 ∨ e.kind = 6 := by rw [ht] at hv; exact of_decide_eq_true hv.symm
   let rest : Int → Int → List Tr := fun i q => if e.kind = 5 then seqK (endE rs s E) (e.kids.drop i.toNat) i q else altK (endE rs s E) (e.kids.drop i.toNat) i q
   have hrest : rest 0 p = kidK rs s E e p := by
    simp only [rest, kidK, Int.toNat_zero, List.drop_zero]
    split
    ·rfl
    ·rw [if_pos (by omega)]
   let I : Int → Int → Nat → List Value → Prop := fun q i rn rx => 0 ≤ i ∧ i ≤ e.kids.length ∧ 0 ≤ q ∧ q ≤ s.length ∧ ∃ pre : List Tr, rn = pre.length ∧ rx = cl X_chaffref_Tried.cells pre ∧ (pre.length : Int) ≤ i ∧ pre ++ rest i q = kidK rs s E e p
   let mu : Int → Int → Nat → List Value → Nat := fun _ i _ _ => e.kids.length - i.toNat
   refine ⟨I, mu, ⟨by omega, by omega, hp, hl, [], rfl, rfl, by simp, by simpa using hrest⟩, fun q i rn rx ⟨i0, i1, q0, q1, pre, hrn, hrx, hpl, htot⟩ => ⟨fun hlt => ?_, fun hge => ?_⟩⟩
   ·subst hrn hrx
    rw [hx.len] at hlt
    obtain ⟨k, hk⟩ := getI (l := e.kids) i0 hlt
    have hkr := hres k (List.mem_of_getElem? hk) q q0 q1
    obtain ⟨b1, o1, ha, y, hat, hcall⟩ := hrec i.toNat k q (fun v => ∃ x50 : Int, v = .int .i64 x50 ∧ ((decide (x50 < 0) = (e.kind == (5 : Int)) → ∀ (M99 : Mem) (ad97 : Option Addr) (cap98 : Nat), M.le M99 → SlV M99 ad97 (pre.length + 1) cap98 2 (cl X_chaffref_Tried.cells pre ++ (X_chaffref_Tried.mk i q).cells) → ∀ M', M99.le M' → K (.slice ad97 (pre.length + 1) cap98) M') ∧ (¬ decide (x50 < 0) = (e.kind == (5 : Int)) → ((e.kind = 5 → S_chaffref_Table_Kids_J2 q i pre.length (cl X_chaffref_Tried.cells pre) I mu x50 K) ∧ (¬ e.kind = 5 → S_chaffref_Table_Kids_J2 q i pre.length (cl X_chaffref_Tried.cells pre) I mu q K))))) hk q0 q1 (by
     have hnext : ∀ q' : Int, 0 ≤ q' → q' ≤ s.length → (pre ++ [⟨i, q⟩]) ++ rest (i + 1) q' = kidK rs s E e p → S_chaffref_Table_Kids_J2 q i pre.length (cl X_chaffref_Tried.cells pre) I mu q' K := fun q' h1 h2 h3 => by
      unfold S_chaffref_Table_Kids_J2
      rw [snoc]
      exact ⟨by unfold InI; omega, ⟨by omega, by omega, h1, h2, pre ++ [⟨i, q⟩], by simp, rfl, by simp; omega, h3⟩, by simp only [mu]; omega⟩
     have hn1 : (i + 1).toNat = i.toNat + 1 := by omega
     refine ⟨_, rfl, fun hstop M99 ad97 cap98 hle hsl => ?_, fun hgo => ⟨fun k5 => ?_, fun n5 => ?_⟩⟩
     ·rw [snoc] at hsl
      refine hend (pre ++ [⟨i, q⟩]) ?_ M99 ad97 _ cap98 (by simp) hle hsl
      rw [← htot]
      congr 1
      simp only [rest]
      rw [drop_get hk]
      rcases h56 with k5 | k6
      ·have : endE rs s E k q < 0 := by rw [k5] at hstop; simpa using hstop
       rw [if_pos k5, seqK, if_pos this]
      ·have : ¬ endE rs s E k q < 0 := by rw [k6] at hstop; simpa using hstop
       rw [if_neg (by omega), altK, if_neg this]
     ·have hge : ¬ endE rs s E k q < 0 := by rw [k5] at hgo; simpa using hgo
      refine hnext _ (by omega) (by omega) ?_
      rw [← htot, List.append_assoc]
      congr 1
      simp only [rest]
      rw [if_pos k5, if_pos k5, drop_get hk, seqK, if_neg hge, hn1]; rfl
     ·have hneg : endE rs s E k q < 0 := by
       have : e.kind = 6 := by omega
       rw [this] at hgo; simpa using hgo
      refine hnext q q0 q1 ?_
      rw [← htot, List.append_assoc]
      congr 1
      simp only [rest]
      rw [if_neg n5, if_neg n5, drop_get hk, altK, if_pos hneg, hn1]; rfl)
    exact ⟨b1, o1, ha, i0, by rw [hx.len]; exact hlt, y, hat, by omega, hcall⟩
   ·subst hrn hrx
    rw [hx.len] at hge
    refine fun M96 ad94 cap95 hle hsl => hend pre ?_ M96 ad94 _ cap95 rfl hle hsl
    rw [← htot]
    simp only [rest]
    rw [List.drop_of_length_le (by omega)]
    split <;> simp [seqK, altK]
  ·have h56 : ¬ (e.kind = 5 ∨ e.kind = 6) := fun h => hf (by rw [hv, decide_eq_true h])
   have j4 : ∀ v : Bool, v = decide (9 ≤ e.kind) → ¬ (e.kind = 7 ∨ e.kind = 8) → S_chaffref_Table_Kids_J4 p M v K := by
    intro v hv' h78
    unfold S_chaffref_Table_Kids_J4
    have hkk : kidK rs s E e p = if 9 ≤ e.kind then [⟨0, p⟩] else [] := by unfold kidK; rw [if_neg (fun h => h56 (.inl h)), if_neg (fun h => h56 (.inr h)), if_neg h78]
    refine ⟨fun ht => ⟨by omega, fun M105 ad cap hle hsl => ?_⟩, fun hf' M106 hle hsl => ?_⟩
    ·rw [ht] at hv'
     have h9 : 9 ≤ e.kind := of_decide_eq_true hv'.symm
     rw [if_pos h9] at hkk
     exact hend [⟨0, p⟩] hkk.symm M105 ad _ cap (by simp) hle (by simpa [cl] using hsl)
    ·have h9 : ¬ 9 ≤ e.kind := fun h => hf' (by rw [hv', decide_eq_true h])
     rw [if_neg h9] at hkk
     exact hend [] hkk.symm M106 none 0 0 rfl hle (by simpa [cl] using hsl)
   have j3 : ∀ v : Bool, v = decide (e.kind = 7 ∨ e.kind = 8) → S_chaffref_Table_Kids_J3 (some ⟨b, 0, none⟩) x p M v K := by
    intro v hv'
    unfold S_chaffref_Table_Kids_J3
    rw [hx.kind]
    refine ⟨fun ht => ?_, fun hf' => ?_⟩
    ·have h78 : e.kind = 7 ∨ e.kind = 8 := by rw [ht] at hv'; exact of_decide_eq_true hv'.symm
     obtain ⟨k, hk1⟩ := List.length_eq_one_iff.1 (g5 (by omega))
     have hk : e.kids[0]? = some k := by rw [hk1]; rfl
     have hkm : k ∈ e.kids := by rw [hk1]; simp
     have hem := hok.star hk1 h78
     have hkk : kidK rs s E e p = staK (endE rs s E k) (s.length + 3) p := by
      unfold kidK
      rw [if_neg (fun h => h56 (.inl h)), if_neg (fun h => h56 (.inr h)), if_pos h78]
      congr 1
      rw [hk1]; funext q; rw [hdE]
     let I : Int → Nat → List Value → Prop := fun q rn rx => -1 ≤ q ∧ q ≤ s.length ∧ ∃ (pre : List Tr) (mm : Nat), rn = pre.length ∧ rx = cl X_chaffref_Tried.cells pre ∧ pre ++ staK (endE rs s E k) mm q = kidK rs s E e p ∧ (0 ≤ q → (s.length : Int) + 2 ≤ q + mm ∧ (pre.length : Int) ≤ q)
     let mu : Int → Nat → List Value → Nat := fun q _ _ => if q < 0 then 0 else (s.length + 1 - q).toNat
     refine ⟨I, mu, ⟨by omega, hl, [], s.length + 3, rfl, rfl, by rw [hkk]; rfl, fun _ => ⟨by push_cast; omega, by simpa using hp⟩⟩, fun q rn rx ⟨q0, q1, pre, mm, hrn, hrx, htot, hq⟩ => ⟨fun hge => ?_, fun hlt => ?_⟩⟩
     ·subst hrn hrx
      obtain ⟨hq1, hq2⟩ := hq hge
      have hkr := hres k hkm q hge q1
      have hprog : endE rs s E k q ≠ q := fun h => by rw [hT.empty (hok.kid hkm) hge q1 h] at hem; cases hem
      obtain ⟨b1, o1, ha, y, hat, hcall⟩ := hrec 0 k q (fun v => ∃ x88 : Int, v = .int .i64 x88 ∧ I x88 (pre.length + 1) (cl X_chaffref_Tried.cells pre ++ (X_chaffref_Tried.mk 0 q).cells) ∧ mu x88 (pre.length + 1) (cl X_chaffref_Tried.cells pre ++ (X_chaffref_Tried.mk 0 q).cells) < mu q pre.length (cl X_chaffref_Tried.cells pre)) hk hge q1 (by
       cases mm with
       | zero => omega
       | succ mm =>
        rw [staK, if_neg (by omega)] at htot
        by_cases hneg : endE rs s E k q = -1
        ·refine ⟨_, rfl, ⟨by omega, by omega, pre ++ [⟨0, q⟩], mm, by simp, snoc _ _ _, by rw [List.append_assoc]; exact htot, fun h => by omega⟩, ?_⟩
         simp only [mu]
         rw [hneg, if_pos (by omega), if_neg (by omega)]
         omega
        ·refine ⟨_, rfl, ⟨by omega, by omega, pre ++ [⟨0, q⟩], mm, by simp, snoc _ _ _, by rw [List.append_assoc]; exact htot, fun h => ⟨by push_cast at hq1; omega, by simp; omega⟩⟩, ?_⟩
         simp only [mu]
         rw [if_neg (by omega), if_neg (by omega)]
         omega)
      exact ⟨by omega, b1, o1, ha, by omega, by rw [hx.len, hk1]; simp, y, hat, hcall⟩
     ·subst hrn hrx
      refine fun M102 ad cap hle hsl => hend pre ?_ M102 ad _ cap rfl hle hsl
      rw [← htot]
      have : staK (endE rs s E k) mm q = [] := by
       cases mm with
       | zero => rfl
       | succ mm => rw [staK, if_pos (by omega)]
      rw [this, List.append_nil]
    ·have h78 : ¬ (e.kind = 7 ∨ e.kind = 8) := fun h => hf' (by rw [hv', decide_eq_true h])
     exact ⟨fun k9 => j4 _ (by rw [k9]; rfl) h78, fun n9 => ⟨fun k10 => j4 _ (by rw [k10]; rfl) h78, fun n10 => j4 _ (by rw [Bool.eq_iff_iff]; simp; omega) h78⟩⟩
   exact ⟨fun k7 => j3 _ (by rw [k7]; rfl), fun n7 => j3 _ (by rw [Bool.eq_iff_iff]; simp [n7])⟩
 refine ⟨fun h5 => j1 _ (by rw [h5]; rfl), fun n5 => j1 _ (by rw [Bool.eq_iff_iff]; simp [n5])⟩
end Go.Proofs.Ytifkffmecfgpeaa.core

namespace Go.Proofs.Ytifkffmecfgpeaa.core
open Go.Gx Go.RowKit Go.ChangeShapes Go.WideShapes Go.ChangeAt
set_option linter.unusedVariables false
section
variable {rs : List Ru} {s : List UInt8} {E : Nat → Nat → Int} {m : Nat}
end
end Go.Proofs.Ytifkffmecfgpeaa.core

namespace Go.Proofs.Ytifkffmecfgpeaa.core
open Go.Gx Go.RowKit Go.ChangeShapes Go.WideShapes Go.ChangeAt
set_option linter.unusedVariables false
def cap (c : Nat) : Int := if (c : Int) < 2097152 then c else 2097152
theorem kid_all {rs : List Ru} {s : List UInt8} {E : Nat → Nat → Int} (hT : Tab rs s E) {e : Ex} (hok : PegOk rs e) {p : Int} (hp : 0 ≤ p) (hl : p ≤ s.length) : ∀ t ∈ kidK rs s E e p, 0 ≤ t.Kid ∧ t.At ≤ s.length ∧ ∃ k, e.kids[t.Kid.toNat]? = some k ∧ Tries rs e k p t.At := by
 obtain ⟨g1, g2, g3, g4, g5, g6, g7, g8⟩ := fitE_kinds hok.good.fit
 intro t ht
 unfold kidK at ht
 by_cases h5 : e.kind = 5
 ·rw [if_pos h5] at ht
  have key : ∀ (ks : List Ex) (i : Nat) (q : Int), ks = e.kids.drop i → p ≤ q → q ≤ s.length → (q = p → ∀ j ∈ needsQ rs (knOf rs) (e.kids.drop i), j ∈ needsE rs (knOf rs) e) → ∀ t ∈ seqK (endE rs s E) ks i q, 0 ≤ t.Kid ∧ t.At ≤ s.length ∧ ∃ k, e.kids[t.Kid.toNat]? = some k ∧ Tries rs e k p t.At := by
   intro ks
   induction ks with
   | nil => intro i q _ _ _ _ t ht; rw [seqK] at ht; cases ht
   | cons k ks ih =>
    intro i q hks hq hql hn t ht
    have hi : e.kids[i]? = some k := by have := congrArg (fun l => l[0]?) hks; simpa using this.symm
    have hks' : ks = e.kids.drop (i + 1) := by rw [drop_get hi] at hks; exact (List.cons.inj hks).2
    obtain ⟨t1, t2⟩ := seq_tries hT hok h5 hp hl i q k hq hql hn hi
    rw [seqK] at ht
    rcases List.mem_cons.1 ht with rfl | ht
    ·exact ⟨by simp, hql, k, by simpa using hi, t1⟩
    ·split at ht
     ·cases ht
     ·obtain ⟨u1, u2, u3⟩ := t2 (by omega)
      exact ih (i + 1) _ hks' u1 u2 u3 t (by rw [show ((i + 1 : Nat) : Int) = (i : Int) + 1 by omega]; exact ht)
  exact key e.kids 0 p (by rw [List.drop_zero]) (Int.le_refl _) hl (fun _ j hj => by rw [needsE_eq, if_neg (by omega), if_pos h5]; exact hj) t ht
 rw [if_neg h5] at ht
 by_cases h6 : e.kind = 6
 ·rw [if_pos h6] at ht
  have key : ∀ (ks : List Ex) (i : Nat), ks = e.kids.drop i → ∀ t ∈ altK (endE rs s E) ks i p, 0 ≤ t.Kid ∧ t.At ≤ s.length ∧ ∃ k, e.kids[t.Kid.toNat]? = some k ∧ Tries rs e k p t.At := by
   intro ks
   induction ks with
   | nil => intro i _ t ht; rw [altK] at ht; cases ht
   | cons k ks ih =>
    intro i hks t ht
    have hi : e.kids[i]? = some k := by have := congrArg (fun l => l[0]?) hks; simpa using this.symm
    have hks' : ks = e.kids.drop (i + 1) := by rw [drop_get hi] at hks; exact (List.cons.inj hks).2
    rw [altK] at ht
    rcases List.mem_cons.1 ht with rfl | ht
    ·exact ⟨by simp, hl, k, by simpa using hi, kid_tries (List.mem_of_getElem? hi) (by omega) h5 (Int.le_refl _)⟩
    ·split at ht
     ·exact ih (i + 1) hks' t (by rw [show ((i + 1 : Nat) : Int) = (i : Int) + 1 by omega]; exact ht)
     ·cases ht
  exact key e.kids 0 (by rw [List.drop_zero]) t ht
 rw [if_neg h6] at ht
 by_cases h7 : e.kind = 7 ∨ e.kind = 8
 ·rw [if_pos h7] at ht
  obtain ⟨k, hk1⟩ := List.length_eq_one_iff.1 (g5 (by omega))
  have hkm : k ∈ e.kids := by rw [hk1]; simp
  have hhd : hdE rs s E e.kids = endE rs s E k := by rw [hk1]; funext q; rw [hdE]
  rw [hhd] at ht
  have key : ∀ (m : Nat) (q : Int), q < 0 ∨ (p ≤ q ∧ q ≤ s.length) → ∀ t ∈ staK (endE rs s E k) m q, 0 ≤ t.Kid ∧ t.At ≤ s.length ∧ ∃ k, e.kids[t.Kid.toNat]? = some k ∧ Tries rs e k p t.At := by
   intro m
   induction m with
   | zero => intro q _ t ht; rw [staK] at ht; cases ht
   | succ m ih =>
    intro q hq t ht
    rw [staK] at ht
    split at ht
    ·cases ht
    ·rcases List.mem_cons.1 ht with rfl | ht
     ·exact ⟨by simp, by dsimp only; omega, k, by rw [hk1]; rfl, kid_tries hkm (by omega) h5 (by dsimp only; omega)⟩
     ·exact ih _ (by rcases hT.res (hok.kid hkm) (p := q) (by omega) (by omega) with h | h <;> omega) t ht
  exact key _ p (.inr ⟨Int.le_refl _, hl⟩) t ht
 rw [if_neg h7] at ht
 split at ht
 ·simp only [List.mem_singleton] at ht
  subst ht
  obtain ⟨k, hk1⟩ := List.length_eq_one_iff.1 (g5 (by omega))
  exact ⟨by simp, hl, k, by rw [hk1]; rfl, kid_tries (by rw [hk1]; simp) (by omega) h5 (Int.le_refl _)⟩
 ·cases ht
end Go.Proofs.Ytifkffmecfgpeaa.core

namespace Go.Proofs.Ytifkffmecfgpeaa.core
open Go.Gx Go.RowKit Go.ChangeShapes Go.WideShapes Go.ChangeAt
set_option linter.unusedVariables false
inductive Evt where
 | node (n p : Int) (e : Ex)
 | done (i p : Int)
inductive Job where
 | node (e : Ex) (n p : Int)
 | rule (i p : Int)
 | kids (L : List Ex) (n : Int) (l : List Tr)
def cnt (e : Ex) : Nat := (flatE e).length
def preN (L : List Ex) (i : Nat) : Nat := ((L.take i).map cnt).sum
def fstN (rs : List Ru) (i : Nat) : Nat := ((rs.take i).map fun r => cnt r.body).sum
inductive Goes (rs : List Ru) (s : List UInt8) (E : Nat → Nat → Int) : Job → List Evt → List Evt → Prop where
 | ref {e : Ex} {n p : Int} {t t' : List Evt} (h4 : e.kind = 4) (h : Goes rs s E (.rule (findR e.text rs 0) p) t t') : Goes rs s E (.node e n p) t (t' ++ [.node n p e])
 | inner {e : Ex} {n p : Int} {t t' : List Evt} (h4 : e.kind ≠ 4) (h : Goes rs s E (.kids e.kids (n + 1) (kidK rs s E e p)) t t') : Goes rs s E (.node e n p) t (t' ++ [.node n p e])
 | seen {i p : Int} {t : List Evt} (h : .done i p ∈ t) : Goes rs s E (.rule i p) t t
 | rule {i p : Int} {r : Ru} {t t' : List Evt} (hn : Evt.done i p ∉ t) (hr : rs[i.toNat]? = some r) (h : Goes rs s E (.node r.body (fstN rs i.toNat) p) t t') : Goes rs s E (.rule i p) t (t' ++ [.done i p])
 | nil {L : List Ex} {n : Int} {t : List Evt} : Goes rs s E (.kids L n []) t t
 | cons {L : List Ex} {n : Int} {k : Tr} {l : List Tr} {e : Ex} {t t1 t2 : List Evt} (he : L[k.Kid.toNat]? = some e) (h1 : Goes rs s E (.node e (n + preN L k.Kid.toNat) k.At) t t1) (h2 : Goes rs s E (.kids L n l) t1 t2) : Goes rs s E (.kids L n (k :: l)) t t2
theorem goes_ex {rs : List Ru} {s : List UInt8} {E : Nat → Nat → Int} (hw : WellOk rs) (hT : Tab rs s E) : ∀ (e : Ex) (p : Int), PegOk rs e → 0 ≤ p → p ≤ s.length → ∀ (n : Int) t, ∃ t', Goes rs s E (.node e n p) t t' := by
 refine peg_ind hw s.length _ fun e p hok hp hl ihk ihr n t => ?_
 by_cases h4 : e.kind = 4
 ·have h0 := hok.good.ref h4
  obtain ⟨rr, hrr⟩ := getN (l := rs) (findR_lt h0).1
  by_cases hd : Evt.done (findR e.text rs 0) p ∈ t
  ·exact ⟨_, .ref h4 (.seen hd)⟩
  ·obtain ⟨t', ht⟩ := ihr h4 rr hrr (fstN rs (findR e.text rs 0).toNat) t
   exact ⟨_, .ref h4 (.rule hd hrr ht)⟩
 ·have key : ∀ (l : List Tr), (∀ k ∈ l, k ∈ kidK rs s E e p) → ∀ t, ∃ t', Goes rs s E (.kids e.kids (n + 1) l) t t' := by
   intro l
   induction l with
   | nil => exact fun _ t => ⟨t, .nil⟩
   | cons k l ih =>
    intro hm t
    obtain ⟨_, hk1, x, hx, htr⟩ := kid_all hT hok hp hl k (hm k (by simp))
    obtain ⟨t1, h1⟩ := ihk x k.At htr hk1 (n + 1 + preN e.kids k.Kid.toNat) t
    obtain ⟨t2, h2⟩ := ih (fun y hy => hm y (by simp [hy])) t1
    exact ⟨t2, .cons hx h1 h2⟩
  obtain ⟨t', ht⟩ := key _ (fun _ h => h) t
  exact ⟨_, .inner h4 ht⟩
theorem preN_succ {L : List Ex} {i : Nat} {e : Ex} (h : L[i]? = some e) : preN L (i + 1) = preN L i + cnt e := by
 unfold preN
 rw [List.take_add_one, h]
 simp
theorem fstN_succ {rs : List Ru} {i : Nat} {r : Ru} (h : rs[i]? = some r) : fstN rs (i + 1) = fstN rs i + cnt r.body := by
 unfold fstN
 rw [List.take_add_one, h]
 simp
theorem cnt_kids (L : List Ex) : (flatEs L).length = (L.map cnt).sum := by
 induction L with
 | nil => simp [flatEs]
 | cons k ks ih => rw [flatEs, List.length_append, ih]; simp [cnt]
theorem cnt_eq (e : Ex) : cnt e = 1 + (e.kids.map cnt).sum := by
 cases e with
 | mk k t x ks => rw [cnt, flatE, List.length_cons, cnt_kids]; simp [Ex.kids]; omega
theorem cnt_pos (e : Ex) : 1 ≤ cnt e := by rw [cnt_eq]; omega
theorem preN_kid {L : List Ex} {i : Nat} {e : Ex} (h : L[i]? = some e) : preN L i + cnt e ≤ (L.map cnt).sum := by
 rw [← preN_succ h]
 have := List.take_append_drop (i + 1) L
 have e2 : (L.map cnt).sum = preN L (i + 1) + ((L.drop (i + 1)).map cnt).sum := by
  conv => lhs; rw [← this]
  rw [List.map_append, List.sum_append]; rfl
 omega
theorem fstN_rule {rs : List Ru} {i : Nat} {r : Ru} (h : rs[i]? = some r) : fstN rs i + cnt r.body ≤ (rs.map fun r => cnt r.body).sum := by
 rw [← fstN_succ h]
 have := List.take_append_drop (i + 1) rs
 have e2 : (rs.map fun r => cnt r.body).sum = fstN rs (i + 1) + ((rs.drop (i + 1)).map fun r => cnt r.body).sum := by
  conv => lhs; rw [← this]
  rw [List.map_append, List.sum_append]; rfl
 omega
end Go.Proofs.Ytifkffmecfgpeaa.core

namespace Go.Proofs.Ytifkffmecfgpeaa.core
open Go.Gx Go.RowKit Go.ChangeShapes Go.WideShapes Go.ChangeAt
set_option linter.unusedVariables false
theorem count_is : ∀ (m : Nat) (e : Ex), SizeOf.sizeOf e < m → cnt e ≤ 100000 → ∀ (M : Mem) (x : X_api_Expr) (K : Value → Mem → Prop), ExR M e x → (∀ M', M.le M' → K (.int .i64 (cnt e)) M') → S_pack_count x M (fun _ => False) K
 | 0, _, h, _ => by omega
 | m + 1, e, hm, hc => fun M x K hR hK => by
  obtain ⟨xs, hx⟩ := hR.open
  have hce := cnt_eq e
  have hlen : e.kids.length ≤ (e.kids.map cnt).sum := by
   have : ∀ L : List Ex, L.length ≤ (L.map cnt).sum := fun L => by
    induction L with
    | nil => simp
    | cons k ks ih => simp only [List.length_cons, List.map_cons, List.sum_cons]; have := cnt_pos k; omega
   exact this _
  unfold S_pack_count
  refine ⟨Unit, fun _ n i M' => 0 ≤ i ∧ i ≤ e.kids.length ∧ n = 1 + (preN e.kids i.toNat : Nat) ∧ M.le M', fun _ _ i => e.kids.length - i.toNat, (), ⟨by omega, by omega, rfl, Mem.le.refl M⟩, fun _ n i M' ⟨i0, i1, hn, hle⟩ => ⟨fun hlt => ?_, fun hge => ?_⟩⟩
  ·rw [hx.len] at hlt
   obtain ⟨k, hk⟩ := getI (l := e.kids) i0 hlt
   obtain ⟨b, o, y, ha, hat, hy, _⟩ := hx.kid hk
   have hpk := preN_kid hk
   have hsz := Ex.kid_lt (List.mem_of_getElem? hk)
   refine ⟨b, o, ha, i0, by rw [hx.len]; exact hlt, y, hat.le hle, (s_pack_count _ _ _ _ (count_is m k (by omega) (by omega) _ _ _ (hy.le hle) fun M2 hle2 => ⟨_, rfl, ?_, ?_, (), ⟨by omega, by omega, ?_, hle.trans hle2⟩, ?_⟩)).mono (fun _ h => h.elim) (fun v M' _ h => h)⟩
   ·exact inI_small (by omega) (by omega)
   ·exact inI_small (by omega) (by omega)
   ·rw [show (i + 1).toNat = i.toNat + 1 by omega, preN_succ hk, hn]; omega
   ·show e.kids.length - (i + 1).toNat < e.kids.length - i.toNat
    omega
  ·rw [hx.len] at hge
   intro M2 hle2
   have : preN e.kids i.toNat = (e.kids.map cnt).sum := by unfold preN; rw [List.take_of_length_le (by omega)]
   rw [hn, this, show (1 : Int) + ((e.kids.map cnt).sum : Nat) = ((cnt e : Nat) : Int) by rw [hce]; omega]
   exact hK M2 (hle.trans hle2)
def cpl : List UInt8 → List UInt8 → Nat
 | a :: u, b :: v => if a = b then cpl u v + 1 else 0
 | _, _ => 0
def missOf (rs : List Ru) (s : List UInt8) (E : Nat → Nat → Int) : Evt → Option (Int × (Nat → Bool))
 | .node _ p e => if endE rs s E e p < 0 then (if e.kind = 2 then some (p, bitS e.set) else if e.kind = 3 then some (p + (cpl (s.drop p.toNat) e.text : Nat), fun b => decide ((e.text[cpl (s.drop p.toNat) e.text]?).map UInt8.toNat = some b)) else none) else none
 | .done _ _ => none
structure FW (rs : List Ru) (s : List UInt8) (E : Nat → Nat → Int) (t : List Evt) (far : Int) (want : X_api_Set) : Prop where
 wf : wfS want
 lo : -1 ≤ far
 ge : ∀ x ∈ t, ∀ m, missOf rs s E x = some m → m.1 ≤ far
 bits : ∀ b, b < 256 → (bitS want b = true ↔ ∃ x ∈ t, ∃ m, missOf rs s E x = some m ∧ m.1 = far ∧ m.2 b = true)
 ex : far = -1 ∨ ∃ x ∈ t, ∃ m, missOf rs s E x = some m ∧ m.1 = far
theorem bit_zero (b : Nat) (hb : b < 256) : bitS (X_api_Set.mk 0 0 0 0) b = false := by
 have h : X_api_Set.mk 0 0 0 0 = Us fun _ => false := by
  have h1 := Us_bit (s := X_api_Set.mk 0 0 0 0) (by unfold wfS; decide)
  rw [← h1]
  exact Us_congr fun b hb => by
   have h4 : ∀ i : Nat, ([0, 0, 0, 0] : List Nat)[i]?.getD 0 = 0 := fun i => by
    match i with
    | 0 => rfl
    | 1 => rfl
    | 2 => rfl
    | 3 => rfl
    | n + 4 => rfl
   unfold bitS hasW
   simp [h4]
 rw [h, bit_Us hb]
theorem FW.init (rs : List Ru) (s : List UInt8) (E : Nat → Nat → Int) : FW rs s E [] (-1) (X_api_Set.mk 0 0 0 0) :=
 ⟨by unfold wfS; decide, Int.le_refl _, fun x hx => (by cases hx), fun b hb => by rw [bit_zero b hb]; simp, .inl rfl⟩
theorem FW.skip {rs : List Ru} {s : List UInt8} {E : Nat → Nat → Int} {t : List Evt} {far : Int} {want : X_api_Set} (h : FW rs s E t far want) {x : Evt} (hx : missOf rs s E x = none) : FW rs s E (t ++ [x]) far want := by
 refine ⟨h.wf, h.lo, fun y hy m hm => ?_, fun b hb => ?_, h.ex.imp id fun ⟨y, hy, hm⟩ => ⟨y, by simp [hy], hm⟩⟩
 ·rcases List.mem_append.1 hy with hy | hy
  ·exact h.ge y hy m hm
  ·simp only [List.mem_singleton] at hy; rw [hy, hx] at hm; cases hm
 ·rw [h.bits b hb]
  refine ⟨fun ⟨y, hy, hm⟩ => ⟨y, by simp [hy], hm⟩, fun ⟨y, hy, m, hm, hr⟩ => ?_⟩
  rcases List.mem_append.1 hy with hy | hy
  ·exact ⟨y, hy, m, hm, hr⟩
  ·simp only [List.mem_singleton] at hy; rw [hy, hx] at hm; cases hm
def Missed (far : Int) (want : X_api_Set) (p : Int) (f : Nat → Bool) (far' : Int) (want' : X_api_Set) : Prop :=
 wfS want' ∧ far' = (if far < p then p else far) ∧ ∀ b, b < 256 → bitS want' b = if far < p then f b else if p = far then (bitS want b || f b) else bitS want b
theorem FW.miss {rs : List Ru} {s : List UInt8} {E : Nat → Nat → Int} {t : List Evt} {far far' p : Int} {want want' : X_api_Set} {f : Nat → Bool} (h : FW rs s E t far want) (hp : 0 ≤ p) {x : Evt} (hx : missOf rs s E x = some (p, f)) (hm : Missed far want p f far' want') : FW rs s E (t ++ [x]) far' want' := by
 obtain ⟨h1, h2, h3⟩ := hm
 have hlo := h.lo
 refine ⟨h1, by split at h2 <;> omega, fun y hy m hm => ?_, fun b hb => ?_, .inr ?_⟩
 ·rcases List.mem_append.1 hy with hy | hy
  ·have := h.ge y hy m hm
   split at h2 <;> omega
  ·simp only [List.mem_singleton] at hy
   rw [hy, hx] at hm
   cases hm
   show p ≤ far'
   split at h2 <;> omega
 ·rw [h3 b hb]
  have hb' := h.bits b hb
  by_cases hlt : far < p
  ·rw [if_pos hlt] at h2 ⊢
   subst h2
   refine ⟨fun hf => ⟨x, by simp, _, hx, rfl, hf⟩, fun ⟨y, hy, m, hm, hmp, hmb⟩ => ?_⟩
   rcases List.mem_append.1 hy with hy | hy
   ·have := h.ge y hy m hm; omega
   ·simp only [List.mem_singleton] at hy
    rw [hy, hx] at hm; cases hm; exact hmb
  ·rw [if_neg hlt] at h2 ⊢
   subst h2
   by_cases he : p = far'
   ·rw [if_pos he, Bool.or_eq_true, hb']
    refine ⟨fun hf => ?_, fun ⟨y, hy, m, hm, hmp, hmb⟩ => ?_⟩
    ·rcases hf with ⟨y, hy, hr⟩ | hf
     ·exact ⟨y, by simp [hy], hr⟩
     ·exact ⟨x, by simp, _, hx, he, hf⟩
    ·rcases List.mem_append.1 hy with hy | hy
     ·exact .inl ⟨y, hy, m, hm, hmp, hmb⟩
     ·simp only [List.mem_singleton] at hy
      rw [hy, hx] at hm; cases hm; exact .inr hmb
   ·rw [if_neg he, hb']
    refine ⟨fun ⟨y, hy, hr⟩ => ⟨y, by simp [hy], hr⟩, fun ⟨y, hy, m, hm, hmp, hmb⟩ => ?_⟩
    rcases List.mem_append.1 hy with hy | hy
    ·exact ⟨y, hy, m, hm, hmp, hmb⟩
    ·simp only [List.mem_singleton] at hy
     rw [hy, hx] at hm; cases hm; exact absurd hmp he
 ·by_cases hlt : far < p
  ·rw [if_pos hlt] at h2; exact ⟨x, by simp, _, hx, h2.symm⟩
  ·rw [if_neg hlt] at h2
   subst h2
   rcases h.ex with h' | ⟨y, hy, m, hm⟩
   ·by_cases he : p = far'
    ·exact ⟨x, by simp, _, hx, he⟩
    ·omega
   ·exact ⟨y, by simp [hy], m, hm⟩
end Go.Proofs.Ytifkffmecfgpeaa.core

