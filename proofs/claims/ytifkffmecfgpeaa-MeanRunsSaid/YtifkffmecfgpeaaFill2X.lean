/- Contracts of functions: what each answers at every input that its caller may hand it. No condition. -/
import Derived.Test.YtifkffmecfgpeaaFillX
namespace Go.Proofs.Ytifkffmecfgpeaa.core
open Go.Gx Go.RowKit Go.ChangeShapes Go.WideShapes Go.ChangeAt
/-! ### How the table grows -/

def upd (E : Nat → Nat → Int) (p : Nat) (row : List Int) : Nat → Nat → Int := fun q i => if q = p then (row[i]?).getD (-2) else E q i
theorem upd_ne {E : Nat → Nat → Int} {p q : Nat} {row : List Int} {i : Nat} (h : q ≠ p) : upd E p row q i = E q i := by unfold upd; rw [if_neg h]
theorem upd_eq {E : Nat → Nat → Int} {p : Nat} {row : List Int} {i : Nat} {z : Int} (h : row[i]? = some z) : upd E p row p i = z := by unfold upd; rw [if_pos rfl, h]; rfl

theorem Val.up {n : Nat} {f g : Fa} {p r : Int} (h : Val n f p r) (k : faLe f g) : Val n g p r := by
  obtain ⟨k1, k2, k3⟩ := k
  rcases h with h | ⟨h, e⟩ | ⟨h, e⟩ | ⟨h, h', e⟩
  · exact .inl h
  · exact .inr (.inl ⟨h, k3 e⟩)
  · exact .inr (.inr (.inl ⟨h, k1 e⟩))
  · exact .inr (.inr (.inr ⟨h, h', k2 e⟩))

/-- What is known of the places behind p. -/
structure EOk (rs : List Ru) (s : List UInt8) (E : Nat → Nat → Int) (p : Int) : Prop where
  ok : TabOk rs s.length E
  un : ∀ q i : Nat, (q : Int) ≤ p → E q i = -2
  known : ∀ q i : Nat, p < q → q ≤ s.length → i < rs.length → E q i ≠ -2
  fix : ∀ (q i : Nat) r, p < q → q ≤ s.length → rs[i]? = some r → E q i = endE rs s E r.body q
theorem EOk.init (rs : List Ru) (s : List UInt8) : EOk rs s (fun _ _ => -2) s.length :=
  ⟨⟨fun _ _ _ _ _ => .inl rfl⟩, fun _ _ _ => rfl, fun q i h1 h2 => by omega, fun q i r h1 h2 => by omega⟩
theorem EOk.tab {rs : List Ru} {s : List UInt8} {E : Nat → Nat → Int} {p : Int} (h : EOk rs s E p) (hp : p < 0) : Tab rs s E :=
  ⟨h.ok, fun q i h1 h2 => h.known q i (by omega) h1 h2, fun q i r h1 h2 => h.fix q i r (by omega) h1 h2⟩

structure RowOk (rs : List Ru) (s : List UInt8) (E : Nat → Nat → Int) (p : Nat) (row : List Int) : Prop where
  len : row.length = rs.length
  ok : TabOk rs s.length (upd E p row)
  sound : ∀ (i : Nat) z r, row[i]? = some z → rs[i]? = some r → z = -2 ∨ z = endE rs s (upd E p row) r.body p

theorem RowOk.init {rs : List Ru} {s : List UInt8} {E : Nat → Nat → Int} {p : Nat} (h : EOk rs s E p) {row : List Int} (hl : row.length = rs.length) (hr : ∀ (i : Nat) z, row[i]? = some z → z = -2) : RowOk rs s E p row := by
  refine ⟨hl, ⟨fun q i f hq hf => ?_⟩, fun i z r hz _ => .inl (hr i z hz)⟩
  by_cases hqp : q = p
  · subst hqp
    unfold upd; rw [if_pos rfl]
    cases hz : row[i]? with
    | none => exact .inl rfl
    | some z => rw [hr i z hz]; exact .inl rfl
  · rw [upd_ne hqp]; exact h.ok.val q i f hq hf

theorem RowOk.step {rs : List Ru} {s : List UInt8} {E : Nat → Nat → Int} {p : Nat} (hw : WellOk rs) (hp : p ≤ s.length) {row : List Int} (h : RowOk rs s E p row) {i : Nat} {r : Ru} (hi : row[i]? = some (-2)) (hr : rs[i]? = some r) :
    RowOk rs s E p (row.set i (endE rs s (upd E p row) r.body p)) := by
  have hil : i < row.length := (List.getElem?_eq_some_iff.1 hi).1
  generalize hz : endE rs s (upd E p row) r.body p = z
  have hle : TabLe (upd E p row) (upd E p (row.set i z)) := fun q j => by
    by_cases hqp : q = p
    · subst hqp
      unfold upd
      rw [if_pos rfl, if_pos rfl, List.getElem?_set]
      by_cases hij : i = j
      · subst hij; rw [hi]; exact .inl rfl
      · rw [if_neg hij]; exact .inr rfl
    · rw [upd_ne hqp, upd_ne hqp]; exact .inr rfl
  have hpeg := hw.peg (List.mem_of_getElem? hr)
  refine ⟨by rw [List.length_set]; exact h.len, ⟨fun q j f hq hf => ?_⟩, fun j y r' hy hr' => ?_⟩
  · by_cases hqp : q = p
    · subst hqp
      unfold upd
      rw [if_pos rfl, List.getElem?_set]
      by_cases hij : i = j
      · subst hij
        rw [if_pos rfl, if_pos hil, Option.getD_some]
        have hv := end_val h.ok _ r.body (Nat.lt_succ_self _) hpeg q (by omega) (by omega)
        rw [hz] at hv
        refine hv.up ?_
        have := (knOf_lfp rs).shut i f hf
        have hF : Fof rs (knOf rs) i = ofE rs (knOf rs) r.body := by unfold Fof; simp only [hr]
        rw [hF] at this; exact this
      · rw [if_neg hij]
        have := h.ok.val q j f hq hf
        unfold upd at this
        rw [if_pos rfl] at this; exact this
    · rw [upd_ne hqp]
      have := h.ok.val q j f hq hf
      rw [upd_ne hqp] at this; exact this
  · rw [List.getElem?_set] at hy
    by_cases hij : i = j
    · subst hij
      rw [if_pos rfl, if_pos hil] at hy
      simp only [Option.some.injEq] at hy
      subst hy
      rw [hr] at hr'; cases hr'
      by_cases h2 : z = -2
      · exact .inl h2
      · right
        rw [end_mono hle r.body p (by rw [hz]; exact h2), hz]
    · rw [if_neg hij] at hy
      rcases h.sound j y r' hy hr' with h' | h'
      · exact .inl h'
      · by_cases h2 : y = -2
        · exact .inl h2
        · right
          rw [end_mono hle r'.body p (by rw [← h']; exact h2), ← h']

/-- A rule all of whose needs are known becomes known. -/
theorem RowOk.hit {rs : List Ru} {s : List UInt8} {E : Nat → Nat → Int} {p : Nat} (hw : WellOk rs) (hE : EOk rs s E p) (hp : p ≤ s.length) {row : List Int} (h : RowOk rs s E p row) {r : Ru} (hr : r ∈ rs) (hn : ∀ j ∈ needsE rs (knOf rs) r.body, ∀ z, row[j]? = some z → z ≠ -2) :
    endE rs s (upd E p row) r.body p ≠ -2 := by
  have hpeg := hw.peg hr
  refine end_known h.ok _ r.body (Nat.lt_succ_self _) hpeg p (by omega) (by omega) (fun q hq hql i hi => ?_) fun j hj => ?_
  · rw [upd_ne (by omega)]; exact hE.known q i hq hql hi
  · obtain ⟨z, hz⟩ := getN (l := row) (i := j) (by rw [h.len]; exact needsE_lt _ _ hpeg.good j hj)
    rw [Int.toNat_natCast, upd_eq hz]; exact hn j hj z hz

theorem RowOk.done {rs : List Ru} {s : List UInt8} {E : Nat → Nat → Int} {p : Nat} (hE : EOk rs s E p) {row : List Int} (h : RowOk rs s E p row) (hk : ∀ (i : Nat) z, row[i]? = some z → z ≠ -2) : EOk rs s (upd E p row) ((p : Int) - 1) := by
  have hle : TabLe E (upd E p row) := fun q i => by
    by_cases hqp : q = p
    · exact .inl (hE.un q i (by omega))
    · rw [upd_ne hqp]; exact .inr rfl
  refine ⟨h.ok, fun q i hq => ?_, fun q i h1 h2 h3 => ?_, fun q i r h1 h2 h3 => ?_⟩
  · rw [upd_ne (by omega)]; exact hE.un q i (by omega)
  · by_cases hqp : q = p
    · subst hqp
      obtain ⟨z, hz⟩ := getN (l := row) (i := i) (by rw [h.len]; exact h3)
      rw [upd_eq hz]; exact hk i z hz
    · rw [upd_ne hqp]; exact hE.known q i (by omega) h2 h3
  · have hi := (List.getElem?_eq_some_iff.1 h3).1
    by_cases hqp : q = p
    · subst hqp
      obtain ⟨z, hz⟩ := getN (l := row) (i := i) (by rw [h.len]; exact hi)
      rw [upd_eq hz]
      exact (h.sound i z r hz h3).resolve_left (hk i z hz)
    · rw [upd_ne hqp]
      have hf := hE.fix q i r (by omega) h2 h3
      rw [end_mono hle r.body q (by rw [← hf]; exact hE.known q i (by omega) h2 hi)]
      exact hf
end Go.Proofs.Ytifkffmecfgpeaa.core
