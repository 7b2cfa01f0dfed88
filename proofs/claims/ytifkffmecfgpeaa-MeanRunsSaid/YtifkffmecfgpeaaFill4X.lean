/- Contracts of functions: what each answers at every input that its caller may hand it. No condition. -/
import Derived.Test.YtifkffmecfgpeaaFill3X
namespace Go.Proofs.Ytifkffmecfgpeaa.core
open Go.Gx Go.RowKit Go.ChangeShapes Go.WideShapes Go.ChangeAt
/-! ### Outcomes -/

def outE (r p : Int) : X_api_Outcome := if 0 ≤ r then ⟨true, r - p⟩ else ⟨false, 0⟩
theorem out_is {rs : List Ru} {s : List UInt8} {E : Nat → Nat → Int} {lo : Int} {b : Nat} {ga ea : Option Addr} {gl gc ec eb : Nat} (hs60 : s.length ≤ 60) (hT : TabOk rs s.length E) {M : Mem} {K : Value → Prop} (hM : TabR M rs s E lo b ga ea gl gc ec eb) {i p : Int} (hi0 : 0 ≤ i) (hi : i < rs.length) (hlo : lo ≤ p) (hp : 0 ≤ p) (hl : p ≤ s.length)
    (hK : K (outE (E p.toNat i.toNat) p).val) : S_chaffref_Table_Out (some ⟨b, 0, none⟩) i p M K := by
  unfold S_chaffref_Table_Out
  obtain ⟨ra, rc, hra, hrow⟩ := hM.row p.toNat (by omega) (by omega)
  obtain ⟨b3, o3, hb3, hat3⟩ := hrow.at iC_len (rowE_len E rs.length p.toNat) (rowE_get (i := i.toNat) (by omega))
  unfold outE at hK
  obtain ⟨f, hf⟩ := getN (l := knOf rs) (i := i.toNat) (by rw [knOf_len]; omega)
  have hv := hT.val p.toNat i.toNat f (by omega) hf
  refine ⟨b, 0, rfl, _, _, _, hM.en, eb, 0, hM.ea, hp, by omega, ra, _, rc, by rw [Nat.zero_add, Nat.mul_one]; exact hra, b3, o3, hb3, hi0, hi, _, hat3, fun h => ?_, fun h => ?_⟩
  · rw [if_pos h] at hK
    exact ⟨inI_small (by rcases hv with h' | ⟨h', _⟩ | ⟨h', _⟩ | ⟨h', _, _⟩ <;> omega) (by rcases hv with h' | ⟨h', _⟩ | ⟨h', _⟩ | ⟨_, h', _⟩ <;> omega), hK⟩
  · rw [if_neg h] at hK; exact hK
end Go.Proofs.Ytifkffmecfgpeaa.core
