/- For every input EventSays answers true and leaves its arguments as they were. No condition. -/
import Derived.Test.YtmnilbfhfjdelaaM1
import Derived.Test.YtmnilbfhfjdelaaEventSaysT
namespace Go.Proofs.Ytmnilbfhfjdelaa.lawEventSays
open Go.Gx Go.RowKit Go.ChangeShapes Go.WideShapes Go.ChangeAt
open core
set_option linter.unusedVariables false
theorem Ec_len (x : X_api_Event) : x.cells.length = 3 := rfl
theorem Ec_one (l : List X_api_Event) : ∀ u ∈ cl X_api_Event.cells l, u.oneCell' = true := by
 intro u hu
 obtain ⟨c, hc, hu⟩ := List.mem_flatten.1 hu
 obtain ⟨x, _, rfl⟩ := List.mem_map.1 hc
 simp only [X_api_Event.cells, List.mem_cons, List.not_mem_nil, or_false] at hu
 rcases hu with rfl | rfl | rfl <;> rfl
theorem cl_cat (a b : List X_api_Event) : cl X_api_Event.cells (a ++ b) = cl X_api_Event.cells a ++ cl X_api_Event.cells b := by unfold cl; rw [List.map_append, List.flatten_append]
theorem cl_one (x : X_api_Event) : cl X_api_Event.cells [x] = x.cells := by unfold cl; simp
theorem getJ {α : Type} {l : List α} {i : Int} (h0 : 0 ≤ i) (h1 : i < (l.length : Int)) : ∃ x, l[i.toNat]? = some x := ⟨l[i.toNat]'(by omega), List.getElem?_eq_getElem _⟩
theorem inI_of {z : Int} (h0 : -1000000000000 ≤ z) (h1 : z ≤ 1000000000000) : InI z := by unfold InI; omega
theorem egrow_is {n : Int} {M : Mem} (h0 : 0 ≤ n) (h1 : n ≤ 100000000) (K : Nat → List Value → Prop) (hK : K 0 []) : S_slices_Grow_Event n M K := by
 unfold S_slices_Grow_Event
 refine ⟨fun h => by omega, fun _ => ⟨inI_of (by omega) (by omega), inI_of (by omega) (by omega), fun hp => ⟨hp, by omega, by omega, by omega, by simpa using hK⟩, fun _ => hK⟩⟩
theorem econcat_is {A : Option Addr} {c l0 c0 l1 c1 l2 c2 : Nat} {a0 a1 a2 : Option Addr} {M : Mem} {t u v : List Value} (h : SlV M A 3 c 1 [.slice a0 l0 c0, .slice a1 l1 c1, .slice a2 l2 c2]) (h0 : SlV M a0 l0 c0 3 t) (h1 : SlV M a1 l1 c1 3 u) (h2 : SlV M a2 l2 c2 3 v)
  (o0 : ∀ x ∈ t, x.oneCell' = true) (o1 : ∀ x ∈ u, x.oneCell' = true) (o2 : ∀ x ∈ v, x.oneCell' = true) (b0 : l0 ≤ 10000000) (b1 : l1 ≤ 10000000) (b2 : l2 ≤ 10000000) (K : Nat → List Value → Prop) (hK : K (l0 + l1 + l2) (t ++ u ++ v)) : S_slices_Concat_Event A 3 c M K := by
 obtain ⟨b, o, rfl, hat⟩ := h.2.2.2 (by omega)
 have at0 := hat.part 0 [.slice a0 l0 c0] rfl
 have at1 := hat.part 1 [.slice a1 l1 c1] rfl
 have at2 := hat.part 2 [.slice a2 l2 c2] rfl
 unfold S_slices_Concat_Event
 refine ⟨fun size i => 0 ≤ i ∧ i ≤ 3 ∧ (i = 0 → size = 0) ∧ (i = 1 → size = l0) ∧ (i = 2 → size = ((l0 + l1 : Nat) : Int)) ∧ (i = 3 → size = ((l0 + l1 + l2 : Nat) : Int)), fun _ i => 3 - i.toNat, ⟨by omega, by omega, fun _ => rfl, fun h => absurd h (by omega), fun h => absurd h (by omega), fun h => absurd h (by omega)⟩, fun size i ⟨i0, i2, e0, e1, e2, e3⟩ => ⟨fun hlt => ?_, fun hge => ?_⟩⟩
 ·rcases show i = 0 ∨ i = 1 ∨ i = 2 by omega with rfl | rfl | rfl
  ·have := e0 rfl
   subst this
   exact ⟨b, o, rfl, by omega, hlt, a0, l0, c0, at0, inI_of (by omega) (by omega), fun h => by omega, fun _ => ⟨inI_of (by omega) (by omega), ⟨by omega, by omega, fun h => absurd h (by omega), fun _ => by omega, fun h => absurd h (by omega), fun h => absurd h (by omega)⟩, by dsimp only; decide⟩⟩
  ·have := e1 rfl
   subst this
   exact ⟨b, o, rfl, by omega, hlt, a1, l1, c1, at1, inI_of (by omega) (by omega), fun h => by omega, fun _ => ⟨inI_of (by omega) (by omega), ⟨by omega, by omega, fun h => absurd h (by omega), fun h => absurd h (by omega), fun _ => by omega, fun h => absurd h (by omega)⟩, by dsimp only; decide⟩⟩
  ·have := e2 rfl
   subst this
   exact ⟨b, o, rfl, by omega, hlt, a2, l2, c2, at2, inI_of (by omega) (by omega), fun h => by omega, fun _ => ⟨inI_of (by omega) (by omega), ⟨by omega, by omega, fun h => absurd h (by omega), fun h => absurd h (by omega), fun h => absurd h (by omega), fun _ => by omega⟩, by dsimp only; decide⟩⟩
 ·have hi : i = 3 := by omega
  have := e3 hi
  subst this
  refine s_slices_Grow_Event _ _ _ (egrow_is (by omega) (by omega) _ ?_)
  refine ⟨fun i rn rx => 0 ≤ i ∧ i ≤ 3 ∧ (i = 0 → rn = 0 ∧ rx = []) ∧ (i = 1 → rn = l0 ∧ rx = t) ∧ (i = 2 → rn = l0 + l1 ∧ rx = t ++ u) ∧ (i = 3 → rn = l0 + l1 + l2 ∧ rx = t ++ u ++ v), fun i _ _ => 3 - i.toNat, ⟨by omega, by omega, fun _ => ⟨rfl, rfl⟩, fun h => absurd h (by omega), fun h => absurd h (by omega), fun h => absurd h (by omega)⟩, fun i rn rx ⟨i0, i2, e0, e1, e2, e3⟩ => ⟨fun hlt => ?_, fun hge => ?_⟩⟩
  ·rcases show i = 0 ∨ i = 1 ∨ i = 2 by omega with rfl | rfl | rfl
   ·obtain ⟨rfl, rfl⟩ := e0 rfl
    exact ⟨b, o, rfl, by omega, hlt, a0, l0, c0, at0, t, h0, o0, by omega, inI_of (by omega) (by omega), ⟨by omega, by omega, fun h => absurd h (by omega), fun _ => ⟨by omega, by simp⟩, fun h => absurd h (by omega), fun h => absurd h (by omega)⟩, by dsimp only; decide⟩
   ·obtain ⟨rfl, rfl⟩ := e1 rfl
    exact ⟨b, o, rfl, by omega, hlt, a1, l1, c1, at1, u, h1, o1, by omega, inI_of (by omega) (by omega), ⟨by omega, by omega, fun h => absurd h (by omega), fun h => absurd h (by omega), fun _ => ⟨rfl, rfl⟩, fun h => absurd h (by omega)⟩, by dsimp only; decide⟩
   ·obtain ⟨rfl, rfl⟩ := e2 rfl
    exact ⟨b, o, rfl, by omega, hlt, a2, l2, c2, at2, v, h2, o2, by omega, inI_of (by omega) (by omega), ⟨by omega, by omega, fun h => absurd h (by omega), fun h => absurd h (by omega), fun h => absurd h (by omega), fun _ => ⟨rfl, rfl⟩⟩, by dsimp only; decide⟩
  ·obtain ⟨rfl, rfl⟩ := e3 (by omega)
   exact hK
theorem eequal_is {A B : Option Addr} {c d : Nat} {l : List X_api_Event} {M : Mem} (h1 : SlV M A l.length c 3 (cl X_api_Event.cells l)) (h2 : SlV M B l.length d 3 (cl X_api_Event.cells l)) (hb : l.length ≤ 10000000) (K : Value → Prop) (hK : K (.bool true)) : S_slices_Equal_Event A l.length c B l.length d M K := by
 unfold S_slices_Equal_Event
 refine ⟨fun h => absurd rfl h, fun _ => ⟨fun i => 0 ≤ i ∧ i ≤ l.length, fun i => l.length - i.toNat, ⟨by omega, by omega⟩, fun i ⟨i0, il⟩ => ⟨fun hlt => ?_, fun _ => hK⟩⟩⟩
 obtain ⟨x, hx⟩ := getJ i0 hlt
 obtain ⟨b, o, ha, hat⟩ := h1.at Ec_len rfl hx
 obtain ⟨b', o', ha', hat'⟩ := h2.at Ec_len rfl hx
 exact ⟨b, o, ha, i0, hlt, x, hat, b', o', ha', i0, hlt, x, hat', fun h => absurd ⟨rfl, rfl, rfl⟩ h, fun _ => ⟨inI_of (by omega) (by omega), ⟨by omega, by omega⟩, by dsimp only; omega⟩⟩
structure EvR (V : Mem) (x : X_api_Tree) (B : Nat) (l : List X_api_Event) : Prop where
 len : l.length ≤ 2 * B
 of : ∀ (M : Mem) (K : Value → Mem → Prop), V.le M → (∀ M' A c, M.le M' → SlV M' A l.length c 3 (cl X_api_Event.cells l) → K (.slice A l.length c) M') → CallE Try.prog 12 #[x.val] M K
 ev : ∀ (M : Mem) (K : Nat → List Value → Prop), V.le M → K l.length (cl X_api_Event.cells l) → C_chaffref_Events x M K
theorem le_sum : ∀ {l : List Nat} {b : Nat}, b ∈ l → b ≤ l.sum
 | a :: l, b, h => by
  rw [List.sum_cons]
  rcases List.mem_cons.1 h with rfl | h
  ·omega
  ·have := le_sum h; omega
theorem flat_len : ∀ {L : List (List X_api_Event)} {bs : List Nat}, L.length = bs.length → (∀ (i : Nat) l b, L[i]? = some l → bs[i]? = some b → l.length ≤ 2 * b) → L.flatten.length ≤ 2 * bs.sum
 | [], [], _, _ => by simp
 | [], b :: bs, h, _ => by simp at h
 | l :: L, [], h, _ => by simp at h
 | l :: L, b :: bs, h, hl => by
  have h1 := hl 0 l b rfl rfl
  have h2 := flat_len (L := L) (bs := bs) (by simpa using h) fun i l b a c => hl (i + 1) l b (by simpa using a) (by simpa using c)
  rw [List.flatten_cons, List.length_append, List.sum_cons]
  omega
theorem take_flat {L : List (List X_api_Event)} {i : Nat} {l : List X_api_Event} (h : L[i]? = some l) : (L.take (i + 1)).flatten = (L.take i).flatten ++ l := by
 rw [List.take_add_one, h, List.flatten_append]; simp
theorem take_len (L : List (List X_api_Event)) (i : Nat) : (L.take i).flatten.length ≤ L.flatten.length := by
 conv => rhs; rw [← List.take_append_drop i L]
 rw [List.flatten_append, List.length_append]; omega
theorem pick {α β : Type} {R : Nat → α → β → Prop} : ∀ (l : List α), (∀ (i : Nat) a, l[i]? = some a → ∃ b, R i a b) → ∃ L : List β, L.length = l.length ∧ ∀ (i : Nat) a b, l[i]? = some a → L[i]? = some b → R i a b
 | [], _ => ⟨[], rfl, fun i a b h => by simp at h⟩
 | a :: l, h => by
  obtain ⟨b, hb⟩ := h 0 a rfl
  obtain ⟨L, hL, hR⟩ := pick (R := fun i => R (i + 1)) l fun i a ha => h (i + 1) a (by simpa using ha)
  refine ⟨b :: L, by simp [hL], fun i a' b' h1 h2 => ?_⟩
  cases i with
  | zero => cases h1; cases h2; exact hb
  | succ i => exact hR i a' b' (by simpa using h1) (by simpa using h2)
theorem ev_ex {H : Type} {enc : TypeId × Value → H} {W : World} : ∀ (n B : Nat) (x : X_api_Tree), B ≤ 1048576 → In_api_Tree enc W n B x → ∃ l, EvR (HM W) x B l := by
 intro n
 induction n using Nat.strongRecOn with
 | _ n ih =>
 intro B x hB hx
 obtain ⟨b3, _, _, _, hL, hle⟩ := hx
 obtain ⟨xs, bs, hsl, hxl, hmx, hall, hsum⟩ := open_L_Tree hL
 have hbl := hall.length
 obtain ⟨L, hLl, hR⟩ := pick (R := fun i y l => ∃ b, bs[i]? = some b ∧ EvR (HM W) y b l) xs fun i y hy => by
  obtain ⟨b, hb, k, hk, hin⟩ := hall.get hy
  have : b ≤ bs.sum := le_sum (List.mem_of_getElem? hb)
  obtain ⟨l, hl⟩ := ih k hk b y (by omega) hin
  exact ⟨l, b, hb, hl⟩
 have hfl : L.flatten.length ≤ 2 * bs.sum := flat_len (by omega) fun i l b h1 h2 => by
  obtain ⟨y, hy⟩ : ∃ y, xs[i]? = some y := by
   have := (List.getElem?_eq_some_iff.1 h1).1
   exact ⟨xs[i]'(by omega), List.getElem?_eq_getElem _⟩
  obtain ⟨b', hb', hr⟩ := hR i y l hy h1
  rw [h2] at hb'
  cases hb'
  exact hr.len
 simp only at hxl hsl hmx
 have hm9 := hsl.max
 have hml : xs.length = L.length := hLl.symm
 refine ⟨⟨1, x.Rule, x.From⟩ :: (L.flatten ++ [⟨2, x.Rule, x.To⟩]), ?_, fun M K hle hK => ?_, fun M K hle hK => ?_⟩
 ·rw [List.length_cons, List.length_append, List.length_singleton]; omega
 ·refine s_event_Of _ _ _ ?_
  unfold S_event_Of
  refine ⟨fun i rn rx M' => 0 ≤ i ∧ i ≤ x.Kids_l ∧ M.le M' ∧ rn = 1 + (L.take i.toNat).flatten.length ∧ rx = (X_api_Event.mk 1 x.Rule x.From).cells ++ cl X_api_Event.cells (L.take i.toNat).flatten, fun i _ _ => x.Kids_l - i.toNat, ⟨by omega, by omega, Mem.le.refl _, by simp, by simp [cl]⟩, fun i rn rx M1 ⟨i0, il, hle1, hn, hx⟩ => ⟨fun hlt => ?_, fun hge => ?_⟩⟩
  ·obtain ⟨y, hy⟩ := getJ (l := xs) i0 (by omega)
   obtain ⟨l, hl⟩ := getJ (l := L) i0 (by omega)
   obtain ⟨b', hb', hr⟩ := hR _ y l hy hl
   have ht := take_len L (i.toNat + 1)
   rw [take_flat hl, List.length_append] at ht
   obtain ⟨b, o, ha, hat⟩ := ((hsl.le hle).le hle1).at (fun _ => rfl) hxl hy
   refine ⟨b, o, ha, i0, hlt, y, hat, hr.of M1 _ (hle.trans hle1) fun M2 A c hle2 hs => ⟨_, _, _, rfl, cl X_api_Event.cells l, hs, Ec_one l, by omega, by unfold InI; omega, ⟨by omega, by omega, hle1.trans hle2, ?_, ?_⟩, by dsimp only; omega⟩⟩
   ·rw [show (i + 1).toNat = i.toNat + 1 by omega, take_flat hl, List.length_append]; omega
   ·rw [show (i + 1).toNat = i.toNat + 1 by omega, take_flat hl, cl_cat, hx, List.append_assoc]
  ·have e : L.take i.toNat = L := List.take_of_length_le (by omega)
   rw [e] at hn hx
   refine ⟨by omega, fun M2 A c hle2 hs M3 hle3 => ?_⟩
   have := hK M3 A c ((hle1.trans hle2).trans hle3)
   rw [List.length_cons, List.length_append, List.length_singleton, show L.flatten.length + 1 + 1 = rn + 1 by omega] at this
   refine this ?_
   rw [show cl X_api_Event.cells (⟨1, x.Rule, x.From⟩ :: (L.flatten ++ [⟨2, x.Rule, x.To⟩])) = rx ++ (X_api_Event.mk 2 x.Rule x.To).cells by
    rw [hx, ← List.singleton_append, cl_cat, cl_cat, cl_one, cl_one, List.append_assoc]]
   exact hs.le hle3
 ·refine s_chaffref_Events _ _ _ ?_
  unfold S_chaffref_Events
  refine ⟨fun i rn rx => 0 ≤ i ∧ i ≤ x.Kids_l ∧ rn = (L.take i.toNat).flatten.length ∧ rx = cl X_api_Event.cells (L.take i.toNat).flatten, fun i _ _ => x.Kids_l - i.toNat, ⟨by omega, by omega, by simp, by simp [cl]⟩, fun i rn rx ⟨i0, il, hn, hx⟩ => ⟨fun hlt => ?_, fun hge => ?_⟩⟩
  ·obtain ⟨y, hy⟩ := getJ (l := xs) i0 (by omega)
   obtain ⟨l, hl⟩ := getJ (l := L) i0 (by omega)
   obtain ⟨b', hb', hr⟩ := hR _ y l hy hl
   have ht := take_len L (i.toNat + 1)
   rw [take_flat hl, List.length_append] at ht
   obtain ⟨b, o, ha, hat⟩ := (hsl.le hle).at (fun _ => rfl) hxl hy
   refine ⟨b, o, ha, i0, hlt, y, hat, hr.ev M _ hle ⟨Ec_one l, by omega, by unfold InI; omega, ⟨by omega, by omega, ?_, ?_⟩, by dsimp only; omega⟩⟩
   ·rw [show (i + 1).toNat = i.toNat + 1 by omega, take_flat hl, List.length_append]; omega
   ·rw [show (i + 1).toNat = i.toNat + 1 by omega, take_flat hl, cl_cat, hx]
  ·have e : L.take i.toNat = L := List.take_of_length_le (by omega)
   rw [e] at hn hx
   intro M1 A1 c1 hle1 hs1 M2 A2 c2 hle2 hs2 M3 A3 c3 hle3 hs3 M4 A4 c4 hle4 hs4
   subst hx
   refine s_slices_Concat_Event _ _ _ _ _ (econcat_is hs4 (((hs1.le hle2).le hle3).le hle4) ((hs2.le hle3).le hle4) (hs3.le hle4) (by rw [← cl_one]; exact Ec_one _) (Ec_one _) (by rw [← cl_one]; exact Ec_one _) (by omega) (by omega) (by omega) _ ?_)
   rw [List.length_cons, List.length_append, List.length_singleton, show L.flatten.length + 1 + 1 = 1 + rn + 1 by omega] at hK
   rw [show cl X_api_Event.cells (⟨1, x.Rule, x.From⟩ :: (L.flatten ++ [⟨2, x.Rule, x.To⟩])) = (X_api_Event.mk 1 x.Rule x.From).cells ++ cl X_api_Event.cells L.flatten ++ (X_api_Event.mk 2 x.Rule x.To).cells by
    rw [← List.singleton_append, cl_cat, cl_cat, cl_one, cl_one, List.append_assoc]] at hK
   exact hK
theorem walk : WalkGoal := by
 intro H enc W x n B hx hB
 obtain ⟨l, hl⟩ := ev_ex n B x hB hx
 refine s_chafflaw_EventSays _ _ _ ?_
 unfold S_chafflaw_EventSays
 have hlen := hl.len
 generalize HM W = M at *
 refine hl.of M _ (Mem.le.refl M) fun M1 A c hle hs => ⟨_, _, _, rfl, hl.ev M1 _ hle fun M2 A2 c2 hle2 hs2 => ?_⟩
 exact s_slices_Equal_Event _ _ _ _ _ _ _ _ (eequal_is (hs.le hle2) hs2 (by omega) _ ⟨_, rfl, rfl⟩)
theorem holds : Rows.EventSaysUptoSaid := top walk
#print axioms holds
end Go.Proofs.Ytmnilbfhfjdelaa.lawEventSays
