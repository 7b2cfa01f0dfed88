/- Contracts of functions: what each answers at every input that its caller may hand it. No condition. -/
import Derived.Test.YtifkffmecfgpeaaFill2X
namespace Go.Proofs.Ytifkffmecfgpeaa.core
open Go.Gx Go.RowKit Go.ChangeShapes Go.WideShapes Go.ChangeAt
/-! ### There is a table -/

theorem row_ex {rs : List Ru} {s : List UInt8} {E : Nat → Nat → Int} {p : Nat} (hw : WellOk rs) (hE : EOk rs s E p) (hp : p ≤ s.length) : ∃ row, RowOk rs s E p row ∧ ∀ (i : Nat) z, row[i]? = some z → z ≠ -2 := by
  obtain ⟨st, hst, hord⟩ := hw.stage
  have key : ∀ k : Nat, ∃ row, RowOk rs s E p row ∧ ∀ (i : Nat) z, st i ≤ k → row[i]? = some z → z ≠ -2 := by
    intro k
    induction k with
    | zero =>
      refine ⟨List.replicate rs.length (-2), RowOk.init hE (by simp) fun i z hz => ?_, fun i z hi hz => ?_⟩
      · rw [List.getElem?_replicate] at hz
        split at hz
        · simpa using hz.symm
        · cases hz
      · have := (List.getElem?_eq_some_iff.1 hz).1
        have := (hst i (by simpa using this)).1
        omega
    | succ k ih =>
      obtain ⟨row0, hR0, hk0⟩ := ih
      have inner : ∀ i : Nat, i ≤ rs.length → ∃ row, RowOk rs s E p row ∧ (∀ (j : Nat) z, st j ≤ k → row[j]? = some z → z ≠ -2) ∧ ∀ (j : Nat) z, j < i → st j ≤ k + 1 → row[j]? = some z → z ≠ -2 := by
        intro i
        induction i with
        | zero => intro _; exact ⟨row0, hR0, hk0, fun j z h => by omega⟩
        | succ i ihi =>
          intro hi
          obtain ⟨row, hR, hk, hki⟩ := ihi (by omega)
          obtain ⟨z, hz⟩ := getN (l := row) (i := i) (by rw [hR.len]; omega)
          obtain ⟨r, hr⟩ := getN (l := rs) (i := i) (by omega)
          by_cases h2 : z = -2
          · subst h2
            have hhit : st i ≤ k + 1 → endE rs s (upd E p row) r.body p ≠ -2 := fun hsti => hR.hit hw hE hp (List.mem_of_getElem? hr) fun j hj z hz => hk j z (by have := hord _ r hr j hj; omega) hz
            have hset : ∀ (j : Nat) y, (row.set i (endE rs s (upd E p row) r.body p))[j]? = some y → (j = i ∧ y = endE rs s (upd E p row) r.body p) ∨ (j ≠ i ∧ row[j]? = some y) := fun j y hy => by
              rw [List.getElem?_set] at hy
              by_cases hij : i = j
              · rw [if_pos hij, if_pos (by rw [hR.len]; omega)] at hy; exact .inl ⟨hij.symm, by simpa using hy.symm⟩
              · rw [if_neg hij] at hy; exact .inr ⟨fun h => hij h.symm, hy⟩
            refine ⟨_, hR.step hw hp hz hr, fun j y hj hy => ?_, fun j y hj hj2 hy => ?_⟩
            · rcases hset j y hy with ⟨rfl, rfl⟩ | ⟨_, hy⟩
              · exact hhit (by omega)
              · exact hk j y hj hy
            · rcases hset j y hy with ⟨rfl, rfl⟩ | ⟨hne, hy⟩
              · exact hhit hj2
              · exact hki j y (by omega) hj2 hy
          · refine ⟨row, hR, hk, fun j y hj hj2 hy => ?_⟩
            by_cases hji : j = i
            · subst hji; rw [hz] at hy; cases hy; exact h2
            · exact hki j y (by omega) hj2 hy
      obtain ⟨row, hR, _, hki⟩ := inner rs.length (Nat.le_refl _)
      exact ⟨row, hR, fun j y hj hy => hki j y (by have := (List.getElem?_eq_some_iff.1 hy).1; rw [hR.len] at this; exact this) hj hy⟩
  obtain ⟨row, hR, hk⟩ := key rs.length
  exact ⟨row, hR, fun i z hz => hk i z (hst i (by have := (List.getElem?_eq_some_iff.1 hz).1; rw [hR.len] at this; exact this)).2 hz⟩

theorem tab_ex {rs : List Ru} {s : List UInt8} (hw : WellOk rs) : ∃ E, Tab rs s E := by
  have key : ∀ d : Nat, d ≤ s.length + 1 → ∃ E, EOk rs s E ((s.length : Int) - d) := by
    intro d
    induction d with
    | zero => intro _; exact ⟨_, by simpa using EOk.init rs s⟩
    | succ d ih =>
      intro hd
      obtain ⟨E, hE⟩ := ih (by omega)
      have e1 : (s.length : Int) - d = ((s.length - d : Nat) : Int) := by omega
      rw [e1] at hE
      obtain ⟨row, hR, hk⟩ := row_ex hw hE (by omega)
      refine ⟨upd E (s.length - d) row, ?_⟩
      have := hR.done hE hk
      rw [show ((s.length - d : Nat) : Int) - 1 = (s.length : Int) - ((d + 1 : Nat) : Int) by omega] at this
      exact this
  obtain ⟨E, hE⟩ := key (s.length + 1) (Nat.le_refl _)
  exact ⟨E, hE.tab (by omega)⟩
end Go.Proofs.Ytifkffmecfgpeaa.core
