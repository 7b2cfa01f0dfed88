/- Contracts of functions: what each answers at every input that its caller may hand it. No condition. -/
import Derived.Test.YtifkffmecfgpeaaCoreX
namespace Go.Proofs.Ytifkffmecfgpeaa.core
open Go.Gx Go.RowKit Go.ChangeShapes Go.WideShapes Go.ChangeAt
/-! ### Right expressions and right grammars -/

theorem fitE_kinds {e : Ex} (h : fitE e = true) : 1 ≤ e.kind ∧ e.kind ≤ 11 ∧ (e.kind ≤ 4 → e.kids = []) ∧ (e.kind = 5 ∨ e.kind = 6 → 2 ≤ e.kids.length ∧ e.kids.length ≤ 8) ∧ (7 ≤ e.kind → e.kids.length = 1) ∧ (e.kind = 3 → e.text ≠ [] ∧ e.text.length ≤ 12) ∧ (e.kind ≠ 2 → zs e.set = true) ∧ (e.kind ≠ 3 → e.kind ≠ 4 → e.text = []) := by
  unfold fitE fitX at h
  simp only at h
  have nil : ∀ l : List Ex, (l.length == 0) = true → l = [] := fun l h => List.eq_nil_of_length_eq_zero (by simpa using h)
  split at h
  · simp only [Bool.and_eq_true, decide_eq_true_eq] at h
    exact ⟨by omega, by omega, fun _ => nil _ h.1.1, fun q => by omega, fun q => by omega, fun q => by omega, fun _ => h.2, fun _ _ => h.1.2⟩
  · split at h
    · simp only [Bool.and_eq_true, decide_eq_true_eq] at h
      exact ⟨by omega, by omega, fun _ => nil _ h.1, fun q => by omega, fun q => by omega, fun q => by omega, fun q => by omega, fun _ _ => h.2⟩
    · split at h
      · simp only [Bool.and_eq_true, decide_eq_true_eq, Bool.not_eq_true', decide_eq_false_iff_not] at h
        exact ⟨by omega, by omega, fun _ => nil _ h.1.1.1, fun q => by omega, fun q => by omega, fun _ => ⟨h.1.2, h.2⟩, fun _ => h.1.1.2, fun q => by omega⟩
      · split at h
        · simp only [Bool.and_eq_true] at h
          exact ⟨by omega, by omega, fun _ => nil _ h.1.1, fun q => by omega, fun q => by omega, fun q => by omega, fun _ => h.1.2, fun _ q => by omega⟩
        · split at h
          · simp only [Bool.and_eq_true, decide_eq_true_eq] at h
            exact ⟨by omega, by omega, fun q => by omega, fun _ => ⟨h.1.2, h.2⟩, fun q => by omega, fun q => by omega, fun _ => h.1.1.2, fun _ _ => h.1.1.1⟩
          · split at h
            · simp only [Bool.and_eq_true, decide_eq_true_eq, beq_iff_eq] at h
              exact ⟨by omega, by omega, fun q => by omega, fun q => by omega, fun _ => h.2, fun q => by omega, fun _ => h.1.2, fun _ _ => h.1.1⟩
            · cases h

/-- A node that may be so, with rules for its names; and its kids alike. -/
inductive GoodE (rs : List Ru) : Ex → Prop
  | mk (e : Ex) (hf : fitE e = true) (hr : e.kind = 4 → 0 ≤ findR e.text rs 0) (hk : ∀ k ∈ e.kids, GoodE rs k) : GoodE rs e

theorem GoodE.fit {rs : List Ru} {e : Ex} (h : GoodE rs e) : fitE e = true := by cases h; assumption
theorem GoodE.ref {rs : List Ru} {e : Ex} (h : GoodE rs e) : e.kind = 4 → 0 ≤ findR e.text rs 0 := by cases h; assumption
theorem GoodE.kid {rs : List Ru} {e : Ex} (h : GoodE rs e) : ∀ k ∈ e.kids, GoodE rs k := by cases h; assumption

mutual
theorem flat_fit : ∀ (e : Ex) (d n : Int), (lkE d n e).1 = 0 → ∀ x ∈ flatE e, fitE x = true
  | .mk k s t ks, d, n, h, x, hx => by
    unfold lkE at h
    split at h
    · cases h
    · split at h
      · cases h
      · split at h
        · cases h
        · rename_i h3
          rw [flatE] at hx
          rcases List.mem_cons.1 hx with rfl | hx
          · simpa [fitE, Ex.kind, Ex.set, Ex.text, Ex.kids] using h3
          · exact flats_fit ks _ _ h x hx
theorem flats_fit : ∀ (ks : List Ex) (d n : Int), (lkEs d n ks).1 = 0 → ∀ x ∈ flatEs ks, fitE x = true
  | [], _, _, _, x, hx => by simp [flatEs] at hx
  | k :: ks, d, n, h, x, hx => by
    rw [lkEs] at h
    rw [flatEs] at hx
    split at h
    · rename_i hne; exact absurd h hne
    · rename_i he
      have he : (lkE d n k).1 = 0 := by simpa using he
      rcases List.mem_append.1 hx with hx | hx
      · exact flat_fit k _ _ he x hx
      · exact flats_fit ks _ _ h x hx
end

theorem flatEs_mem {k : Ex} : ∀ {ks : List Ex}, k ∈ ks → ∀ x ∈ flatE k, x ∈ flatEs ks
  | a :: r, h, x, hx => by
    rw [flatEs]
    rcases List.mem_cons.1 h with rfl | h
    · exact List.mem_append_left _ hx
    · exact List.mem_append_right _ (flatEs_mem h x hx)

theorem flatE_self (e : Ex) : e ∈ flatE e := by cases e; simp [flatE]
theorem flatE_kid {e k : Ex} (h : k ∈ e.kids) : ∀ x ∈ flatE k, x ∈ flatE e := by
  intro x hx
  cases e
  rw [flatE]
  exact List.mem_cons_of_mem _ (flatEs_mem h x hx)

theorem good_of (rs : List Ru) (e : Ex) (h : ∀ x ∈ flatE e, fitE x = true ∧ (x.kind = 4 → 0 ≤ findR x.text rs 0)) : GoodE rs e := by
  induction hn : SizeOf.sizeOf e using Nat.strongRecOn generalizing e with
  | _ n ih =>
    subst hn
    have h0 := h e (flatE_self e)
    exact .mk e h0.1 h0.2 fun k hk => ih _ (Ex.kid_lt hk) k (fun x hx => h x (flatE_kid hk x hx)) rfl

theorem ref_fold : ∀ (l : List Ex) (acc : List (List UInt8)), (∀ s ∈ acc, s ∈ l.foldl refStep acc) ∧ ∀ x ∈ l, x.kind = 4 → x.text ∈ l.foldl refStep acc
  | [], acc => ⟨fun s h => h, fun x h => by cases h⟩
  | a :: r, acc => by
    obtain ⟨h1, h2⟩ := ref_fold r (refStep acc a)
    have hs : ∀ s ∈ acc, s ∈ refStep acc a := fun s h => by unfold refStep; split <;> simp [h]
    refine ⟨fun s h => h1 s (hs s h), fun x hx hk => ?_⟩
    rcases List.mem_cons.1 hx with rfl | hx
    · refine h1 _ ?_
      unfold refStep
      split
      · simp
      · rename_i hno
        by_cases hm : x.text ∈ acc
        · exact hm
        · exact absurd ⟨hk, hm⟩ hno
    · exact h2 x hx hk

theorem refs_mem {e x : Ex} (hx : x ∈ flatE e) (hk : x.kind = 4) : x.text ∈ refsE e := (ref_fold (flatE e) []).2 x hx hk

/-- All that a right grammar has. -/
structure GramOk (rs : List Ru) : Prop where
  one : 0 < rs.length
  ten : rs.length ≤ 10
  good : ∀ r ∈ rs, GoodE rs r.body
  err : ∀ r ∈ rs, exErr r.body = 0
  name : ∀ r ∈ rs, nameB r.name = true
  at_ : ∀ (i : Nat) r, rs[i]? = some r → findR r.name rs 0 = i
  all : ((rs.map fun r => (flatE r.body).length).sum) ≤ 120

theorem refsR_zero (rs0 : List Ru) : ∀ l : List Ru, refsR rs0 l = 0 → ∀ r ∈ l, ∀ s ∈ refsE r.body, 0 ≤ findR s rs0 0
  | [], _, r, h, _, _ => by cases h
  | a :: t, h, r, hr, s, hs => by
    rw [refsR] at h
    split at h
    · cases h
    · rename_i hall
      rcases List.mem_cons.1 hr with rfl | hr
      · have hall : (refsE r.body).all (fun s => decide (0 ≤ findR s rs0 0)) = true := by simpa using hall
        simpa using List.all_eq_true.1 hall s hs
      · exact refsR_zero rs0 t h r hr s hs

theorem chkR_zero (rs0 : List Ru) : ∀ (l : List Ru) (i n : Int), chkR rs0 l i n = 0 → refsR rs0 rs0 = 0 ∧ (∀ (j : Nat) r, l[j]? = some r → nameB r.name = true ∧ findR r.name rs0 0 = i + j ∧ exErr r.body = 0) ∧ n + ((l.map fun r => (flatE r.body).length).sum : Nat) ≤ 120
  | [], i, n, h => by
    rw [chkR] at h
    split at h
    · cases h
    · exact ⟨h, fun j r hj => by simp at hj, by simp; omega⟩
  | a :: t, i, n, h => by
    rw [chkR] at h
    split at h
    · cases h
    · rename_i h1
      split at h
      · cases h
      · rename_i h2
        split at h
        · rename_i h3; exact absurd h h3
        · rename_i h3
          obtain ⟨g1, g2, g3⟩ := chkR_zero rs0 t (i + 1) _ h
          refine ⟨g1, fun j r hj => ?_, by simp only [List.map_cons, List.sum_cons]; omega⟩
          cases j with
          | zero =>
            simp only [List.getElem?_cons_zero, Option.some.injEq] at hj
            subst hj
            exact ⟨by simpa using h1, by simpa using h2, by simpa using h3⟩
          | succ j =>
            obtain ⟨k1, k2, k3⟩ := g2 j r (by simpa using hj)
            exact ⟨k1, by rw [k2]; omega, k3⟩

theorem gram_ok {rs : List Ru} (h : gramErr rs = 0) : GramOk rs := by
  unfold gramErr at h
  split at h
  · cases h
  · split at h
    · cases h
    · obtain ⟨h1, h2, h3⟩ := chkR_zero rs rs 0 0 h
      have hget : ∀ r ∈ rs, ∃ j, rs[j]? = some r := fun r hr => List.mem_iff_getElem?.1 hr
      refine ⟨by omega, by omega, fun r hr => good_of rs r.body fun x hx => ?_, fun r hr => ?_, fun r hr => ?_, fun i r hi => by have := (h2 i r hi).2.1; omega, by omega⟩
      · obtain ⟨j, hj⟩ := hget r hr
        exact ⟨flat_fit _ _ _ (h2 j r hj).2.2 x hx, fun hk => refsR_zero rs rs h1 r hr _ (refs_mem hx hk)⟩
      · obtain ⟨j, hj⟩ := hget r hr; exact (h2 j r hj).2.2
      · obtain ⟨j, hj⟩ := hget r hr; exact (h2 j r hj).1

theorem findR_some (s : List UInt8) : ∀ (rs : List Ru) (i : Int), 0 ≤ i → 0 ≤ findR s rs i → i ≤ findR s rs i ∧ ∃ r, rs[(findR s rs i - i).toNat]? = some r ∧ r.name = s
  | [], i, _, h => by simp [findR] at h
  | a :: t, i, hi, h => by
    unfold findR at h ⊢
    split
    · rename_i hn
      exact ⟨by omega, a, by rw [show (i - i).toNat = 0 by omega]; rfl, hn⟩
    · rename_i hn
      rw [if_neg hn] at h
      obtain ⟨h1, r, h2, h3⟩ := findR_some s t (i + 1) (by omega) h
      refine ⟨by omega, r, ?_, h3⟩
      rw [show (findR s t (i + 1) - i).toNat = (findR s t (i + 1) - (i + 1)).toNat + 1 by omega]
      simpa using h2

theorem findR_lt {s : List UInt8} {rs : List Ru} (h : 0 ≤ findR s rs 0) : (findR s rs 0).toNat < rs.length ∧ findR s rs 0 < rs.length := by
  obtain ⟨_, r, h2, _⟩ := findR_some s rs 0 (by omega) h
  have := (List.getElem?_eq_some_iff.1 h2).1
  simp only [Int.sub_zero] at this
  omega

theorem GrR.len {M : Mem} {rs : List Ru} {A : Option Addr} {l c : Nat} (h : GrR M rs A l c) : l = rs.length := h.max.1
end Go.Proofs.Ytifkffmecfgpeaa.core
