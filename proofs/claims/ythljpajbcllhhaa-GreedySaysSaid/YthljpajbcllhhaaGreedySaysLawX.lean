/- For every input GreedySays answers true and leaves its arguments as they were. No condition. -/
import Derived.Test.YthljpajbcllhhaaGreedySaysLawG
import Derived.Test.YthljpajbcllhhaaGreedySaysT
import Derived.Test.YthljpajbcllhhaaM2
namespace Go.Proofs.Ythljpajbcllhhaa.lawGreedySays
open Go.Gx Go.RowKit Go.ChangeShapes Go.WideShapes Go.ChangeAt
open core
set_option linter.unusedVariables false
theorem rows_of {H : Type} {enc : TypeId × Value → H} {w : World} {n B : Nat} {x : Sl3} (h : In_L_L_int enc w n B x) : ∃ rows ys, RowsR (HM w) rows ys x.a x.l x.c := by
 obtain ⟨ys, bs, hsl, hlen, _, hall, _⟩ := open_L_L_int h
 have key : ∀ zs : List Sl3, (∀ (i : Nat) (y : Sl3), zs[i]? = some y → ∃ r : List Int, SlV (HM w) y.a y.l y.c 1 (cl iC r) ∧ r.length = y.l) → ∃ rows : List (List Int), rows.length = zs.length ∧ ∀ (i : Nat) r y, rows[i]? = some r → zs[i]? = some y → SlV (HM w) y.a y.l y.c 1 (cl iC r) ∧ r.length = y.l := by
  intro zs
  induction zs with
  | nil => exact fun _ => ⟨[], rfl, fun i r y h => by simp at h⟩
  | cons z zs ih =>
   intro hz
   obtain ⟨r0, h0⟩ := hz 0 z rfl
   obtain ⟨rows, h1, h2⟩ := ih fun i y hy => hz (i + 1) y (by simpa using hy)
   refine ⟨r0 :: rows, by simp [h1], fun i r y hr hy => ?_⟩
   cases i with
   | zero =>
    simp only [List.getElem?_cons_zero, Option.some.injEq] at hr hy
    subst hr hy; exact h0
   | succ i => exact h2 i r y (by simpa using hr) (by simpa using hy)
 obtain ⟨rows, h1, h2⟩ := key ys fun i y hy => by
  obtain ⟨b, _, k, _, hin⟩ := hall.get hy
  obtain ⟨xs, _, s1, s2, _⟩ := open_L_int hin
  exact ⟨xs, s1, s2⟩
 exact ⟨rows, ys, hsl, hlen, by omega, h2⟩
theorem ints_equal {l : List Int} {A B : Option Addr} {a b : Nat} {M : Mem} {n : Nat} (hn : l.length = n) (h1 : SlV M A n a 1 (cl iC l)) (h2 : SlV M B n b 1 (cl iC l)) (K : Value → Prop) (hK : K (.bool true)) : S_slices_Equal_int A n a B n b M K := by
 have hm := h1.max
 unfold S_slices_Equal_int
 refine ⟨fun h => absurd rfl h, fun _ => ⟨fun i => 0 ≤ i ∧ i ≤ n, fun i => n - i.toNat, ⟨by omega, by omega⟩, fun i ⟨i0, i1⟩ => ⟨fun hlt => ?_, fun _ => hK⟩⟩⟩
 obtain ⟨x, hx⟩ := getI (l := l) i0 (by omega)
 obtain ⟨b1, o1, ha1, hat1⟩ := h1.at iC_len hn hx
 obtain ⟨b2, o2, ha2, hat2⟩ := h2.at iC_len hn hx
 exact ⟨b1, o1, ha1, i0, hlt, x, hat1, b2, o2, ha2, i0, hlt, x, hat2, fun h => absurd rfl h, fun _ => ⟨by unfold InI; omega, ⟨by omega, by omega⟩, by dsimp only; omega⟩⟩
theorem walk : WalkGoal := by
 intro H enc W x n B hx
 obtain ⟨rows, ys, hR⟩ := rows_of hx
 refine s_chafflaw_GreedySays _ _ _ _ _ ?_
 unfold S_chafflaw_GreedySays
 generalize HM W = M at *
 refine s_greedy_Pick _ _ _ _ _ (gpick_is hR _ (fun h M' hle => ⟨_, _, _, _, rfl, ?_⟩) fun h M' ad cap out hle hp hsl => ⟨_, _, _, _, rfl, ?_⟩)
 all_goals refine s_chaffref_Rows _ _ _ _ _ (rrows_is (hR.le hle) _ ⟨_, rfl, s_greedy_Check _ _ _ _ _ (grows_is (hR.le hle) _ ⟨_, rfl, fun hn => absurd rfl hn, fun _ => ?_⟩)⟩)
 ·exact ⟨fun _ => ⟨fun _ => by simp, fun hn => absurd rfl hn⟩, fun hn => absurd h hn⟩
 ·obtain ⟨hl40, hrows⟩ := rows_ok rfl h
  refine ⟨fun hn => absurd h hn, fun _ => ⟨fun _ => ?_, fun hn => absurd rfl hn⟩⟩
  have hrl := hR.rl
  by_cases hz : rows = []
  ·have hout : out = [] := (picks_one hp [] (.stop fun r hr => by rw [hz] at hr; cases hr))
   refine e_chaffref_Pick _ _ _ _ _ (rpick_is (n := 0) (hR.le hle) (by omega) (by omega) (fun r hr => by rw [hz] at hr; cases hr) _ fun M2 ad2 cap2 out2 hle2 hp2 hsl2 => ⟨_, _, _, rfl, ?_⟩)
   have hout2 : out2 = [] := (picks_one hp2 [] (.stop fun r hr => by rw [hz] at hr; cases hr))
   subst hout hout2
   exact s_slices_Equal_int _ _ _ _ _ _ _ _ (ints_equal rfl (hsl.le hle2) hsl2 _ ⟨_, rfl, rfl⟩)
  ·obtain ⟨r0, hr0⟩ : ∃ r0, r0 ∈ rows := by
    cases rows with
    | nil => exact absurd rfl hz
    | cons r _ => exact ⟨r, by simp⟩
   refine e_chaffref_Pick _ _ _ _ _ (rpick_is (hR.le hle) (by omega) (hrows r0 hr0).2.1 (fun r hr => ⟨(hrows r hr).1, (hrows r hr).2.2⟩) _ fun M2 ad2 cap2 out2 hle2 hp2 hsl2 => ⟨_, _, _, rfl, ?_⟩)
   have := picks_one hp _ hp2
   subst this
   exact s_slices_Equal_int _ _ _ _ _ _ _ _ (ints_equal rfl (hsl.le hle2) hsl2 _ ⟨_, rfl, rfl⟩)
theorem holds : Rows.GreedySaysSaid := top walk
#print axioms holds
end Go.Proofs.Ythljpajbcllhhaa.lawGreedySays
