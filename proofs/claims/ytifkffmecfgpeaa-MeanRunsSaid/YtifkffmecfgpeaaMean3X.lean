/- Contracts of functions: what each answers at every input that its caller may hand it. No condition. -/
import Derived.Test.YtifkffmecfgpeaaMean2X
import Derived.Test.YtifkffmecfgpeaaTabExX
import Derived.Test.YtifkffmecfgpeaaLookX
namespace Go.Proofs.Ytifkffmecfgpeaa.core
open Go.Gx Go.RowKit Go.ChangeShapes Go.WideShapes Go.ChangeAt
/-! ### Run -/

theorem look_ok {rs : List Ru} {s : List UInt8} (h : lookP rs s = 0) : WellOk rs ∧ s.length ≤ 60 := by
  unfold lookP at h
  split at h
  · rename_i h1; exact absurd h h1
  · rename_i h1
    split at h
    · cases h
    · exact ⟨well_ok (Decidable.not_not.1 h1), by omega⟩

/-- What Run answers. -/
theorem meanrun_is {rs : List Ru} {ga : Option Addr} {gl gc : Nat} {M : Mem} {s : List UInt8} {steps : Int} (hst : InI steps) (hg : GrR M rs ga gl gc) (K : Value → Mem → Prop)
    (h1 : lookP rs s ≠ 0 → ∀ M', M.le M' → K (.tuple #[(X_api_Outcome.mk false 0).val, .int .i64 0, .int .i64 (lookP rs s)]) M')
    (h2 : lookP rs s = 0 → (steps < 0 ∨ steps > 1048576) → ∀ M', M.le M' → K (.tuple #[(X_api_Outcome.mk false 0).val, .int .i64 0, .int .i64 1]) M')
    (h3 : lookP rs s = 0 → 0 ≤ steps → steps ≤ 1048576 → ∀ r0 m x, rs[0]? = some r0 → ev rs s m r0.body 0 = some x → ((x.2 : Int) ≤ steps → ∀ M', M.le M' → K (.tuple #[(outE x.1 0).val, .int .i64 x.2, .int .i64 0]) M') ∧ (steps < x.2 → ∀ M', M.le M' → K (.tuple #[(X_api_Outcome.mk false 0).val, .int .i64 0, .int .i64 10]) M')) :
    S_mean_Run ga gl gc s steps M (fun _ => False) K := by
  unfold S_mean_Run
  refine s_mean_Look _ _ _ _ _ _ (mlook_is hg s _ ⟨_, rfl, fun h => h1 h, fun h => ?_⟩)
  have h0 : lookP rs s = 0 := Decidable.not_not.1 h
  have j1 : ∀ b : Bool, b = decide (steps < 0 ∨ steps > 1048576) → S_mean_Run_J1 ga gl gc s steps M b K := by
    intro b hb
    unfold S_mean_Run_J1
    refine ⟨fun ht => h2 h0 (by rw [ht] at hb; exact of_decide_eq_true hb.symm), fun hf => ?_⟩
    have hin : ¬ (steps < 0 ∨ steps > 1048576) := fun h => hf (by rw [hb, decide_eq_true h])
    obtain ⟨hw, hs⟩ := look_ok h0
    obtain ⟨E, hT⟩ := tab_ex (s := s) hw
    have hgl := hg.len
    have h11 := hw.ok.one
    obtain ⟨r0, x0, b0, o0, hr0, ha0, hat0, hrr0⟩ := hg.at (i := 0) (by omega) (by omega)
    have hpeg := hw.peg (List.mem_of_getElem? hr0)
    obtain ⟨m, x, hx⟩ := ev_ex hw hT r0.body 0 hpeg (by omega) (by omega)
    obtain ⟨k1, k2⟩ := h3 h0 (by omega) (by omega) r0 m x hr0 hx
    refine ⟨b0, o0, ha0, by omega, by omega, x0.Body, hat0.part 1 x0.Body.cells rfl, run_is hw hT hs m r0.body 0 steps x.1 x.2 M x0.Body _ hpeg hx hrr0.2.2 hg (by omega) (by omega) (by omega) (by omega) ⟨fun hc M' t hle ht => ⟨t, _, rfl, fun h => (by cases h), fun _ => ⟨fun hno => ?_, fun hyes => ?_⟩⟩, fun hc M' t hle => ⟨t, _, rfl, fun _ M2 hle2 => k2 hc M2 (hle.trans hle2), fun h => absurd rfl h⟩⟩⟩
    · unfold S_mean_Run_J2
      refine ⟨by unfold InI; omega, fun M2 hle2 => ?_⟩
      have hneg : ¬ 0 ≤ x.1 := fun h => hno (decide_eq_true h)
      have := k1 hc M2 (hle.trans hle2)
      unfold outE at this
      rw [if_neg hneg] at this
      rw [decide_eq_false hneg, show steps - (steps - (x.2 : Int)) = x.2 by omega]; exact this
    · unfold S_mean_Run_J2
      refine ⟨by unfold InI; omega, fun M2 hle2 => ?_⟩
      have hpos : 0 ≤ x.1 := by simpa using hyes
      have := k1 hc M2 (hle.trans hle2)
      unfold outE at this
      rw [if_pos hpos] at this
      rw [decide_eq_true hpos, ht hpos, show steps - (steps - (x.2 : Int)) = x.2 by omega]
      rw [Int.sub_zero] at this; exact this
  exact ⟨fun hl => j1 _ (by symm; exact decide_eq_true (.inl hl)), fun hl => j1 _ (by rw [decide_eq_decide]; omega)⟩
end Go.Proofs.Ytifkffmecfgpeaa.core
