/- For every input TreeTexts answers true and leaves its arguments as they were. No condition. -/
import Derived.Test.YtjecddabdlapbaaDoorM1
import Derived.Test.YtjecddabdlapbaaDoorTreeTextsT
import Derived.Test.YtjecddabdlapbaaDoorM2
namespace Go.Proofs.YtjecddabdlapbaaDoor.lawTreeTexts
open Go.Gx Go.RowKit Go.ChangeShapes Go.WideShapes Go.ChangeAt
open core
set_option linter.unusedVariables false
theorem tt_ex {H : Type} {enc : TypeId × Value → H} {W : World} (h6 : core.P6 (HM W)) : ∀ (n B : Nat) (x : core.X_api_Tree), B ≤ 1048576 → In_api_Tree enc W n B x → ∃ m t, m ≤ B ∧ core.TtR (HM W) x m t := by
 intro n
 induction n using Nat.strongRecOn with
 | _ n ih =>
 intro B x hB hx
 obtain ⟨b3, w1, w2, w3, hL, hle⟩ := hx
 obtain ⟨xs, bs, hsl, hxl, hmx, hall, hsum⟩ := open_L_Tree hL
 have hbl := hall.length
 obtain ⟨R, hRl, hR⟩ := core.pick (R := fun i y (r : Nat × List UInt8) => ∃ b, bs[i]? = some b ∧ r.1 ≤ b ∧ core.TtR (HM W) y r.1 r.2) xs fun i y hy => by
  obtain ⟨b, hb, k, hk, hin⟩ := hall.get hy
  have : b ≤ bs.sum := core.le_sum (List.mem_of_getElem? hb)
  obtain ⟨m, t, hm, hl⟩ := ih k hk b y (by omega) hin
  exact ⟨(m, t), b, hb, hm, hl⟩
 have hs : (R.map (·.1)).sum ≤ bs.sum := by
  have key : ∀ (R : List (Nat × List UInt8)) (bs : List Nat), R.length = bs.length → (∀ (i : Nat) r b, R[i]? = some r → bs[i]? = some b → r.1 ≤ b) → (R.map (·.1)).sum ≤ bs.sum := by
   intro R
   induction R with
   | nil => intro bs _ _; simp
   | cons r R ih2 =>
    intro bs hl hh
    cases bs with
    | nil => simp at hl
    | cons b bs =>
     have h1 := hh 0 r b rfl rfl
     have h2 := ih2 bs (by simpa using hl) fun i r' b' a c => hh (i + 1) r' b' (by simpa using a) (by simpa using c)
     rw [List.map_cons, List.sum_cons, List.sum_cons]; omega
  refine key R bs (by omega) fun i r b h1 h2 => ?_
  obtain ⟨y, hy⟩ : ∃ y, xs[i]? = some y := ⟨xs[i]'(by have := (List.getElem?_eq_some_iff.1 h1).1; omega), List.getElem?_eq_getElem _⟩
  obtain ⟨b', hb', hr, _⟩ := hR i y r hy h1
  rw [h2] at hb'
  cases hb'
  exact hr
 refine ⟨_, _, ?_, core.tt_node h6 (core.wfI w1) (core.wfI w2) (core.wfI w3) hsl hxl hRl (fun i y r hy hr => ?_) (by omega)⟩
 ·omega
 ·obtain ⟨_, _, _, q⟩ := hR i y r hy hr
  exact q
theorem walk : WalkGoal := by
 intro H enc W x n0 B0 hin hB hL
 have h6 : core.P6 (HM W) := core.pow_of (Lib.laidMet.reads hL (n := "internal/strconv.uint64pow10") (d := Rows.laid_internal_strconv_uint64pow10) (by simp [Rows.treeTextsUptoRow]))
 clear hL
 obtain ⟨m, t, hm, h⟩ := tt_ex h6 _ _ _ (by omega) hin
 have hle := Mem.le.refl (HM W)
 refine s_chafflaw_TreeTexts _ _ _ (h.cnt _ _ hle ⟨_, rfl, ?_⟩)
 obtain ⟨rx, _, hev⟩ := h.ev
 refine hev _ _ hle ?_
 have e : ((2 * m : Nat) : Int).tdiv 2 = m := by
  have : ((2 * m : Nat) : Int).tdiv ((2 : Nat) : Int) = ((2 * m / 2 : Nat) : Int) := rfl
  rw [show (2 : Int) = ((2 : Nat) : Int) from rfl, this]; omega
 rw [e]
 refine ⟨by unfold InI; omega, fun _ => core.text_isT h hle (by omega) _ ⟨_, rfl, h.rf _ _ hle ⟨_, rfl, ?_⟩⟩, fun g => absurd rfl g⟩
 simp
theorem holds : Rows.TreeTextsUptoCardSaid := card (top walk)
#print axioms holds
end Go.Proofs.YtjecddabdlapbaaDoor.lawTreeTexts
