/- Contracts of functions: what each answers at every input that its caller may hand it. No condition. -/
import Derived.Test.YtifkffmecfgpeaaWell2X
namespace Go.Proofs.Ytifkffmecfgpeaa.core
open Go.Gx Go.RowKit Go.ChangeShapes Go.WideShapes Go.ChangeAt
/-! ### grow -/

/-- The row that grow fills, and all that was seen ahead of it. -/
structure GrowI (M M' : Mem) (e size : Nat) (ad : Option Addr) (n cap : Nat) (xs : List Value) : Prop where
  le : M.le M'
  row : RowW M' e size ad n cap xs
  new : ∀ g o, ad = some ⟨g, o, none⟩ → M g = none

theorem GrowI.make {M M' : Mem} {e size n cap : Nat} {ad : Option Addr} {xs : List Value} (h : NewRow M M' e size ad n cap xs) : GrowI M M' e size ad n cap xs := by
  refine ⟨h.le, h.roww, fun g o hg => ?_⟩
  obtain ⟨_, _, _, ⟨h1, _⟩ | ⟨g', cur, h1, h2, _⟩⟩ := h
  · rw [h1] at hg; cases hg
  · rw [h1] at hg
    simp only [Option.some.injEq, Addr.mk.injEq, and_true] at hg
    rw [← hg.1]; exact h2
theorem GrowI.more {M M' M'' : Mem} {e size n cap : Nat} {ad : Option Addr} {xs : List Value} (h : GrowI M M' e size ad n cap xs) (hl : M'.le M'') : GrowI M M'' e size ad n cap xs :=
  ⟨h.le.trans hl, h.row.le hl, h.new⟩
theorem GrowI.put {α : Type} {f : α → List Value} {M M' : Mem} {e size n cap : Nat} {ad : Option Addr} {xs : List α} (hf : ∀ x, (f x).length = size) (h : GrowI M M' e size ad n cap (cl f xs)) (hl : xs.length = n) {i b o : Nat} (hi : i < n) (had : ad = some ⟨b, o, none⟩) (x : α) :
    Has M' b (o + i * size) size ∧ M b = none ∧ GrowI M (M'.put b (o + i * size) (f x)) e size ad n cap (cl f (xs.set i x)) := by
  obtain ⟨_, h2, h3⟩ := h.row.put hf hl hi had x
  have hb := h.new b o had
  refine ⟨h2, hb, fun y q hy => ?_, h3, h.new⟩
  rw [Mem.put_ne (by rintro rfl; rw [hb] at hy; cases hy)]
  exact h.le y q hy

theorem set_same {α : Type} : ∀ {l : List α} {i : Nat} {a : α}, l[i]? = some a → l.set i a = l
  | [], _, _, h => by simp at h
  | x :: r, 0, a, h => by simp at h; subst h; rfl
  | x :: r, i + 1, a, h => by rw [List.set_cons_succ, set_same (by simpa using h)]

theorem SlV.elems {α : Type} {f : α → List Value} {M : Mem} {A : Option Addr} {l c sz : Nat} {xs : List α} (h : SlV M A l c sz (cl f xs)) (hf : ∀ x, (f x).length = sz) (h0 : 0 < sz) : xs.length = l := h.len hf h0

theorem At.inj {M : Mem} {b o : Nat} {vs us : List Value} (h : At M b o vs) (k : At M b o us) (hl : vs.length = us.length) : vs = us := by
  apply List.ext_getElem?
  intro j
  cases hv : vs[j]? with
  | none => rw [List.getElem?_eq_none_iff] at hv; rw [List.getElem?_eq_none (by omega)]
  | some v =>
    cases hu : us[j]? with
    | none => rw [List.getElem?_eq_none_iff] at hu; have := (List.getElem?_eq_some_iff.1 hv).1; omega
    | some u =>
      have h1 := h j v hv
      have h2 := k j u hu
      rw [h1] at h2; exact h2

theorem pre_bot {α : Type} {le : α → α → Prop} {F : List α → Nat → α} (bot : α) (hbot : ∀ a, le bot a) (n : Nat) : Pre le F n (List.replicate n bot) :=
  ⟨by simp, fun i a ha => by rw [(List.mem_replicate.1 (List.mem_of_getElem? ha)).2]; exact hbot _, fun z hz _ => ⟨by simp [hz], fun i a b ha _ => by rw [(List.mem_replicate.1 (List.mem_of_getElem? ha)).2]; exact hbot _⟩⟩

theorem cl_replicate {α : Type} (f : α → List Value) (n : Nat) (a : α) : cl f (List.replicate n a) = repl n (f a) := by simp [cl, repl, List.map_replicate]

theorem grow_facts {F : List Fa → Nat → Fa} {n : Nat} (hF : MonoF faLe F n) (hn : n ≤ 10) (next : Value) (M : Mem) (K : Value → Mem → Prop)
    (hnext : ∀ M' ad cap kn, M.le M' → SlV M' ad n cap 3 (cl X_api_Facts.cells kn) → kn.length = n → ∀ i : Int, 0 ≤ i → i < n → CallF Try.prog next [.slice ad n cap, .int .i64 i] M' (fun v _ => v = (F kn i.toNat).val))
    (hK : ∀ M' ad cap kn, M.le M' → SlV M' ad n cap 3 (cl X_api_Facts.cells kn) → Lfp faLe F n kn → K (.slice ad n cap) M') : S_well_grow_Facts (n : Int) next M (fun _ => False) K := by
  unfold S_well_grow_Facts
  simp only [Int.toNat_natCast]
  refine ⟨by omega, by omega, by omega, fun M6 ad cap hnr => ?_⟩
  have h6 := GrowI.make hnr
  rw [show repl n [Value.bool false, Value.bool false, Value.bool false] = cl X_api_Facts.cells (List.replicate n fa0) from (cl_replicate X_api_Facts.cells n fa0).symm] at h6
  have L := faLat
  refine ⟨List Fa, fun kn more M' => GrowI M M' _ 3 ad n cap (cl X_api_Facts.cells kn) ∧ Pre faLe F n kn ∧ (more = false → ∀ (i : Nat) a, kn[i]? = some a → F kn i = a), fun kn more => 2 * wS faWt 3 kn + (if more then 1 else 0), List.replicate n fa0, ⟨h6, pre_bot fa0 (fun a => ⟨fun h => (by cases h), fun h => (by cases h), fun h => (by cases h)⟩) n, fun h => (by cases h)⟩, fun kn more M' ⟨hg, hp, hfix⟩ => ⟨fun hmore => ?_, fun hmore => ?_⟩⟩
  · refine ⟨List Fa, fun k2 more2 i M2 => 0 ≤ i ∧ i ≤ n ∧ GrowI M M2 _ 3 ad n cap (cl X_api_Facts.cells k2) ∧ Pre faLe F n k2 ∧ leL faLe kn k2 ∧ (more2 = true → kn ≠ k2) ∧ (more2 = false → k2 = kn ∧ ∀ (j : Nat) a, (j : Int) < i → kn[j]? = some a → F kn j = a), fun _ _ i => n - i.toNat, kn, ⟨by omega, by omega, hg, hp, leL.refl L kn, fun h => (by cases h), fun _ => ⟨rfl, fun j a h => by omega⟩⟩, fun k2 more2 i M2 ⟨h0, h1, hg2, hp2, hl2, ht2, hf2⟩ => ⟨fun hlt => ?_, fun hge => ?_⟩⟩
    · have hkl := hp2.len
      obtain ⟨a, ha⟩ := getI (l := k2) h0 (by omega)
      have hsl := hg2.row.slv
      refine ((hnext M2 ad cap k2 hg2.le hsl hkl i h0 hlt).mono (K' := fun v M' => M2.le M' ∧ v = (F k2 i.toNat).val) fun v M' hle hv => ⟨hle, hv⟩).toW.mono (fun _ h => h) fun v M3 _ ⟨hle3, hv⟩ => ⟨_, hv, ?_⟩
      have hg3 := hg2.more hle3
      obtain ⟨b, o, had, hat⟩ := hg3.row.slv.at Xf_len hkl ha
      refine ⟨b, o, had, h0, hlt, a, hat, fun hne => ?_, fun hne => ?_⟩
      · obtain ⟨q1, q2, q3⟩ := hg3.put Xf_len hkl (i := i.toNat) (by omega) had (F k2 i.toNat)
        have hne' : a ≠ F k2 i.toNat := fun e => hne (by rw [← e]; exact ⟨rfl, rfl, rfl⟩)
        obtain ⟨s1, s2⟩ := hp2.step L hF ha
        have hw := wS_set L ha (hp2.up _ _ ha) hne'
        refine ⟨b, o, had, h0, hlt, q1, .inr q2, fun M4 hM4 => ?_⟩
        subst hM4
        refine ⟨by unfold InI; omega, k2.set i.toNat (F k2 i.toNat), ⟨by omega, by omega, q3, s1, hl2.trans L s2, fun _ e => ?_, fun h => (by cases h)⟩, by dsimp only; omega⟩
        rw [← e] at hw
        have := (wS_le L hl2).1
        omega
      · have hsame : F k2 i.toNat = a := by
          have hne := Classical.not_not.1 hne
          obtain ⟨e1, e2, e3⟩ := hne
          generalize F k2 i.toNat = z at e1 e2 e3
          cases z; cases a; simp only at e1 e2 e3; subst e1 e2 e3; rfl
        refine ⟨by unfold InI; omega, k2, ⟨by omega, by omega, hg3, hp2, hl2, ht2, fun hm => ?_⟩, by dsimp only; omega⟩
        obtain ⟨f1, f2⟩ := hf2 hm
        subst f1
        refine ⟨rfl, fun j x hj hx => ?_⟩
        by_cases e : (j : Int) = i
        · have : i.toNat = j := by omega
          rw [this] at ha hsame
          rw [ha] at hx; cases hx; exact hsame
        · exact f2 j x (by omega) hx
    · have hkl := hp.len
      cases more2 with
      | true =>
        refine ⟨k2, ⟨hg2, hp2, fun h => (by cases h)⟩, ?_⟩
        have := (wS_le L hl2).2 (ht2 rfl)
        rw [hmore]; dsimp only; omega
      | false =>
        obtain ⟨f1, f2⟩ := hf2 rfl
        subst f1
        refine ⟨k2, ⟨hg2, hp2, fun _ j x hx => f2 j x (by have := (List.getElem?_eq_some_iff.1 hx).1; omega) hx⟩, ?_⟩
        rw [hmore]; dsimp only; simp
  · intro M7 hle7
    have hm : more = false := by simpa using hmore
    exact hK M7 ad cap kn (hg.le.trans hle7) (hg.row.slv.le hle7) (hp.lfp L (hfix hm))

theorem facts_is {rs : List Ru} {ga : Option Addr} {gl gc : Nat} {M : Mem} (hok : GramOk rs) (hg : GrR M rs ga gl gc) (K : Value → Mem → Prop)
    (hK : ∀ M' ad cap kn, M.le M' → SlV M' ad rs.length cap 3 (cl X_api_Facts.cells kn) → Lfp faLe (Fof rs) rs.length kn → K (.slice ad rs.length cap) M') : S_well_facts ga gl gc M K := by
  unfold S_well_facts
  intro M5 b4 hle5 h5
  rw [hg.len]
  refine e_well_grow_Facts _ _ _ _ (grow_facts (Fof_mono rs _) hok.ten _ _ _ (fun M' ad cap kn hle' hsl hkl i h0 h1 => ?_) fun M' ad cap kn hle' hsl hlfp => ⟨_, _, _, rfl, fun M'' hle'' => hK M'' ad cap kn ((hle5.trans hle').trans hle'') (hsl.le hle'') hlfp⟩)
  have hg' := hg.le (hle5.trans hle')
  rw [← hkl] at hsl ⊢
  exact f_well_facts_1 _ _ _ _ _ _ (fun v => v = (Fof rs kn i.toNat).val) (facts1_is hok hkl hg' hsl (h5.le hle') i h0 h1 _ rfl)
end Go.Proofs.Ytifkffmecfgpeaa.core
