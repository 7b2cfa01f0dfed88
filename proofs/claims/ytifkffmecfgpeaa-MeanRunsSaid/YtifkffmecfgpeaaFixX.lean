/- Contracts of functions: what each answers at every input that its caller may hand it. No condition. -/
import Derived.Test.YtifkffmecfgpeaaCoreX
namespace Go.Proofs.Ytifkffmecfgpeaa.core
open Go.Gx Go.RowKit Go.ChangeShapes Go.WideShapes Go.ChangeAt
/-! ### Least fixed points over lists of a small lattice -/

structure Lat {α : Type} (le : α → α → Prop) (ju : α → α → α) (wt : α → Nat) (m : Nat) : Prop where
  refl : ∀ a, le a a
  trans : ∀ {a b c}, le a b → le b c → le a c
  anti : ∀ {a b}, le a b → le b a → a = b
  left : ∀ a b, le a (ju a b)
  right : ∀ a b, le b (ju a b)
  least : ∀ {a b c}, le a c → le b c → le (ju a b) c
  mono : ∀ {a b}, le a b → wt a ≤ wt b
  strict : ∀ {a b}, le a b → a ≠ b → wt a < wt b
  bound : ∀ a, wt a ≤ m

section
variable {α : Type} {le : α → α → Prop} {ju : α → α → α} {wt : α → Nat} {m n : Nat} {F : List α → Nat → α}

def leL (le : α → α → Prop) (kn z : List α) : Prop := kn.length = z.length ∧ ∀ (i : Nat) a b, kn[i]? = some a → z[i]? = some b → le a b

theorem leL.refl (L : Lat le ju wt m) (kn : List α) : leL le kn kn := ⟨rfl, fun i a b ha hb => by rw [ha] at hb; cases hb; exact L.refl a⟩
theorem leL.trans (L : Lat le ju wt m) {a b c : List α} (h : leL le a b) (k : leL le b c) : leL le a c := ⟨h.1.trans k.1, fun i x z hx hz => by
  obtain ⟨y, hy⟩ := getN (l := b) (i := i) (by have := (List.getElem?_eq_some_iff.1 hx).1; have := h.1; omega)
  exact L.trans (h.2 i x y hx hy) (k.2 i y z hy hz)⟩
theorem leL.anti (L : Lat le ju wt m) {a b : List α} (h : leL le a b) (k : leL le b a) : a = b := by
  apply List.ext_getElem?
  intro i
  by_cases hi : i < a.length
  · obtain ⟨x, hx⟩ := getN hi
    obtain ⟨y, hy⟩ := getN (l := b) (i := i) (by have := h.1; omega)
    rw [hx, hy, L.anti (h.2 i x y hx hy) (k.2 i y x hy hx)]
  · rw [List.getElem?_eq_none (by omega), List.getElem?_eq_none (by have := h.1; omega)]
theorem leL.set (L : Lat le ju wt m) {kn : List α} {i : Nat} {a b : α} (hi : kn[i]? = some a) (h : le a b) : leL le kn (kn.set i b) := by
  refine ⟨by simp, fun j x y hx hy => ?_⟩
  rw [List.getElem?_set] at hy
  split at hy
  · subst i
    split at hy
    · simp only [Option.some.injEq] at hy; subst hy; rw [hi] at hx; cases hx; exact h
    · cases hy
  · rw [hx] at hy; cases hy; exact L.refl _

/-- How much there is to come. -/
def wS (wt : α → Nat) (m : Nat) (kn : List α) : Nat := (kn.map fun a => m - wt a).sum

theorem wS_set (L : Lat le ju wt m) : ∀ {kn : List α} {i : Nat} {a b : α}, kn[i]? = some a → le a b → a ≠ b → wS wt m (kn.set i b) < wS wt m kn
  | [], i, a, b, h, _, _ => by simp at h
  | x :: r, 0, a, b, h, h1, h2 => by
    simp only [List.getElem?_cons_zero, Option.some.injEq] at h
    subst h
    have := L.strict h1 h2
    have := L.bound b
    simp only [wS, List.set_cons_zero, List.map_cons, List.sum_cons]
    omega
  | x :: r, i + 1, a, b, h, h1, h2 => by
    have := wS_set L (kn := r) (i := i) (by simpa using h) h1 h2
    simp only [wS, List.set_cons_succ, List.map_cons, List.sum_cons] at this ⊢
    omega

theorem wS_le (L : Lat le ju wt m) : ∀ {a b : List α}, leL le a b → wS wt m b ≤ wS wt m a ∧ (a ≠ b → wS wt m b < wS wt m a)
  | [], [], _ => ⟨Nat.le_refl _, fun h => absurd rfl h⟩
  | [], y :: b, h => by have := h.1; simp at this
  | x :: a, [], h => by have := h.1; simp at this
  | x :: a, y :: b, h => by
    have h0 := h.2 0 x y rfl rfl
    obtain ⟨i1, i2⟩ := wS_le L (a := a) (b := b) ⟨by simpa using h.1, fun i p q hp hq => h.2 (i + 1) p q (by simpa using hp) (by simpa using hq)⟩
    have := L.mono h0
    have hb := L.bound y
    simp only [wS, List.map_cons, List.sum_cons] at i1 i2 ⊢
    refine ⟨by omega, fun hne => ?_⟩
    by_cases hxy : x = y
    · subst hxy
      have := i2 (fun e => hne (by rw [e]))
      omega
    · have := L.strict h0 hxy
      omega

/-- On the way up, below all that is closed. -/
structure Pre (le : α → α → Prop) (F : List α → Nat → α) (n : Nat) (kn : List α) : Prop where
  len : kn.length = n
  up : ∀ (i : Nat) a, kn[i]? = some a → le a (F kn i)
  low : ∀ z : List α, z.length = n → (∀ (i : Nat) b, z[i]? = some b → le (F z i) b) → leL le kn z

def MonoF (le : α → α → Prop) (F : List α → Nat → α) (n : Nat) : Prop := ∀ kn z : List α, ∀ i : Nat, i < n → kn.length = n → leL le kn z → le (F kn i) (F z i)

theorem Pre.step (L : Lat le ju wt m) (hF : MonoF le F n) {kn : List α} (h : Pre le F n kn) {i : Nat} {a : α} (hi : kn[i]? = some a) : Pre le F n (kn.set i (F kn i)) ∧ leL le kn (kn.set i (F kn i)) := by
  have hle := leL.set L hi (h.up i a hi)
  have hil : i < n := by have := (List.getElem?_eq_some_iff.1 hi).1; have := h.len; omega
  refine ⟨⟨by simp [h.len], fun j x hx => ?_, fun z hz hc => ?_⟩, hle⟩
  · have hj : j < n := by have := (List.getElem?_eq_some_iff.1 hx).1; simp at this; have := h.len; omega
    have hm := hF kn _ j hj h.len hle
    rw [List.getElem?_set] at hx
    split at hx
    · subst i
      split at hx
      · simp only [Option.some.injEq] at hx; subst hx; exact hm
      · cases hx
    · exact L.trans (h.up j x hx) hm
  · have hl := h.low z hz hc
    refine ⟨by simpa using hl.1, fun j x y hx hy => ?_⟩
    rw [List.getElem?_set] at hx
    split at hx
    · subst i
      split at hx
      · simp only [Option.some.injEq] at hx; subst hx
        exact L.trans (hF kn z j hil h.len hl) (hc j y hy)
      · cases hx
    · exact hl.2 j x y hx hy

/-- A fixed point that is below all that is closed. -/
structure Lfp (le : α → α → Prop) (F : List α → Nat → α) (n : Nat) (kn : List α) : Prop where
  len : kn.length = n
  shut : ∀ (i : Nat) a, kn[i]? = some a → le (F kn i) a
  low : ∀ z : List α, z.length = n → (∀ (i : Nat) b, z[i]? = some b → le (F z i) b) → leL le kn z

theorem Lfp.same (L : Lat le ju wt m) {a b : List α} (h : Lfp le F n a) (k : Lfp le F n b) : a = b := leL.anti L (h.low b k.len k.shut) (k.low a h.len h.shut)
theorem Pre.lfp (L : Lat le ju wt m) {kn : List α} (h : Pre le F n kn) (hfix : ∀ (i : Nat) a, kn[i]? = some a → F kn i = a) : Lfp le F n kn := ⟨h.len, fun i a ha => by rw [hfix i a ha]; exact L.refl a, h.low⟩

/-- All at once. -/
def jac (ju : α → α → α) (F : List α → Nat → α) (kn : List α) : List α := kn.zipIdx.map fun p => ju p.1 (F kn p.2)
theorem jac_len (kn : List α) : (jac ju F kn).length = kn.length := by simp [jac]
theorem jac_get {kn : List α} {i : Nat} {a : α} (h : kn[i]? = some a) : (jac ju F kn)[i]? = some (ju a (F kn i)) := by simp [jac, h]
theorem jac_up (L : Lat le ju wt m) (kn : List α) : leL le kn (jac ju F kn) := ⟨(jac_len kn).symm, fun i a b ha hb => by rw [jac_get ha] at hb; cases hb; exact L.left _ _⟩
theorem jac_low (L : Lat le ju wt m) (hF : MonoF le F n) {kn z : List α} (hl : kn.length = n) (h : leL le kn z) (hz : ∀ (i : Nat) b, z[i]? = some b → le (F z i) b) : leL le (jac ju F kn) z := by
  refine ⟨by rw [jac_len]; exact h.1, fun i a b ha hb => ?_⟩
  have hi : i < kn.length := by have := (List.getElem?_eq_some_iff.1 ha).1; rw [jac_len] at this; exact this
  obtain ⟨x, hx⟩ := getN hi
  rw [jac_get hx] at ha
  cases ha
  exact L.least (h.2 i x b hx hb) (L.trans (hF kn z i (by omega) hl h) (hz i b hb))

def jacN (ju : α → α → α) (F : List α → Nat → α) : Nat → List α → List α
  | 0, kn => kn
  | k + 1, kn => jac ju F (jacN ju F k kn)
theorem jacN_len (k : Nat) (kn : List α) : (jacN ju F k kn).length = kn.length := by
  induction k with
  | zero => rfl
  | succ k ih => rw [jacN, jac_len, ih]
theorem jacN_stab (L : Lat le ju wt m) (kn : List α) : ∀ k, jac ju F (jacN ju F k kn) = jacN ju F k kn ∨ wS wt m (jacN ju F k kn) + k ≤ wS wt m kn
  | 0 => .inr (Nat.le_refl _)
  | k + 1 => by
    rcases jacN_stab L kn k with h | h
    · left; rw [jacN, h, h]
    · by_cases he : jac ju F (jacN ju F k kn) = jacN ju F k kn
      · left; rw [jacN, he, he]
      · right
        have := (wS_le L (jac_up (F := F) L (jacN ju F k kn))).2 (fun e => he e.symm)
        rw [jacN]; omega

theorem wS_all (kn : List α) : wS wt m kn ≤ m * kn.length := by
  induction kn with
  | nil => simp [wS]
  | cons a r ih =>
    simp only [wS, List.map_cons, List.sum_cons, List.length_cons] at ih ⊢
    rw [Nat.mul_succ]; omega

theorem jac_lfp (L : Lat le ju wt m) (hF : MonoF le F n) (bot : α) (hbot : ∀ a, le bot a) (k : Nat) (hk : m * n < k) : Lfp le F n (jacN ju F k (List.replicate n bot)) := by
  have hlen : ∀ k, (jacN ju F k (List.replicate n bot)).length = n := fun k => by rw [jacN_len]; simp
  refine ⟨hlen k, fun i a ha => ?_, fun z hz hc => ?_⟩
  · have hst : jac ju F (jacN ju F k (List.replicate n bot)) = jacN ju F k (List.replicate n bot) := by
      rcases jacN_stab (F := F) L (List.replicate n bot) k with h | h
      · exact h
      · have := wS_all (wt := wt) (m := m) (List.replicate n bot)
        simp only [List.length_replicate] at this
        omega
    have h2 := jac_get (ju := ju) (F := F) ha
    rw [hst, ha] at h2
    simp only [Option.some.injEq] at h2
    have := L.right a (F (jacN ju F k (List.replicate n bot)) i)
    rw [← h2] at this
    exact this
  · have hz0 : ∀ k, leL le (jacN ju F k (List.replicate n bot)) z := by
      intro k
      induction k with
      | zero => exact ⟨by simp [jacN, hz], fun i a b ha hb => by
          simp only [jacN] at ha
          have := List.mem_of_getElem? ha
          rw [(List.mem_replicate.1 this).2]; exact hbot b⟩
      | succ k ih => exact jac_low L hF (hlen k) ih hc
    exact hz0 k
end
end Go.Proofs.Ytifkffmecfgpeaa.core
