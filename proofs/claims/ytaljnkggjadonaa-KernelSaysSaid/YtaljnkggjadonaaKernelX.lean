/- Contracts of functions: what each answers at every input that its caller may hand it. No condition. -/
import Derived.Test.YtaljnkggjadonaaKernelG
import Derived.Test.YtaljnkggjadonaaWell8X
namespace Go.Proofs.Ytaljnkggjadonaa.core
open Go.Gx Go.RowKit Go.ChangeShapes Go.WideShapes Go.ChangeAt
/-! ### Kernels -/

def z4 : X_api_Set := ⟨0, 0, 0, 0⟩
mutual
def keE : Ex → Ex
  | .mk k s t ks =>
    if k = 8 then .mk 5 z4 [] (keEs ks ++ [.mk 7 z4 [] (keEs ks)])
    else if k = 9 then .mk 6 z4 [] (keEs ks ++ [.mk 1 z4 [] []])
    else if k = 10 then .mk 11 z4 [] [.mk 11 z4 [] (keEs ks)]
    else .mk k s t (keEs ks)
def keEs : List Ex → List Ex
  | [] => []
  | k :: ks => keE k :: keEs ks
end
theorem keEs_map : ∀ ks, keEs ks = ks.map keE
  | [] => by rw [keEs]; rfl
  | k :: ks => by rw [keEs, keEs_map ks]; rfl
theorem keE_eq (e : Ex) : keE e = if e.kind = 8 then .mk 5 z4 [] (e.kids.map keE ++ [.mk 7 z4 [] (e.kids.map keE)])
    else if e.kind = 9 then .mk 6 z4 [] (e.kids.map keE ++ [.mk 1 z4 [] []])
    else if e.kind = 10 then .mk 11 z4 [] [.mk 11 z4 [] (e.kids.map keE)]
    else .mk e.kind e.set e.text (e.kids.map keE) := by
  cases e; rw [keE, keEs_map]; rfl

/-- How many nodes there will be. -/
def kz (k : Int) (n : Nat) : Nat := if k = 8 then 2 * n + 2 else if k = 9 ∨ k = 10 then n + 2 else n + 1
mutual
def ksz : Ex → Nat
  | .mk k _ _ ks => kz k (kszs ks)
def kszs : List Ex → Nat
  | [] => 0
  | k :: ks => ksz k + kszs ks
end
theorem ksz_eq (e : Ex) : ksz e = kz e.kind (kszs e.kids) := by cases e; rw [ksz]; rfl
theorem kszs_app (a b : List Ex) : kszs (a ++ b) = kszs a + kszs b := by
  induction a with
  | nil => simp [kszs]
  | cons x r ih => simp only [List.cons_append, kszs, ih]; omega
theorem kszs_one (k : Ex) : kszs [k] = ksz k := by simp [kszs]
theorem kszs_take {ks : List Ex} {i : Nat} {k : Ex} (h : ks[i]? = some k) : kszs (ks.take (i + 1)) = kszs (ks.take i) + ksz k := by rw [take_get h, kszs_app, kszs_one]
theorem kszs_le (ks : List Ex) (i : Nat) : kszs (ks.take i) ≤ kszs ks := by
  have := kszs_app (ks.take i) (ks.drop i)
  rw [List.take_append_drop] at this
  omega

/-! How large that may be. -/
mutual
def hgt : Ex → Nat
  | .mk _ _ _ ks => hgts ks + 1
def hgts : List Ex → Nat
  | [] => 0
  | k :: ks => max (hgt k) (hgts ks)
end
mutual
theorem lkE_hgt : ∀ (e : Ex) (d n : Int), 0 < d → (lkE d n e).1 = 0 → d + hgt e ≤ 13
  | .mk k s t ks, d, n, h0, h => by
    unfold lkE at h
    split at h
    · cases h
    · split at h
      · cases h
      · split at h
        · cases h
        · have := lkEs_hgt ks (d + 1) (n + 1) (by omega) h
          rw [hgt]
          rename_i h2 _
          omega
theorem lkEs_hgt : ∀ (ks : List Ex) (d n : Int), 0 < d → (lkEs d n ks).1 = 0 → hgts ks = 0 ∨ d + hgts ks ≤ 13
  | [], d, n, _, _ => .inl (by rw [hgts])
  | k :: ks, d, n, h0, h => by
    rw [lkEs] at h
    split at h
    · rename_i hne; exact absurd h hne
    · rename_i he
      have he : (lkE d n k).1 = 0 := by simpa using he
      have h1 := lkE_hgt k d n h0 he
      have h2 := lkEs_hgt ks d _ h0 h
      rw [hgts]
      right
      omega
end
mutual
theorem ksz_le : ∀ e : Ex, ksz e ≤ 2 ^ hgt e * (2 * (flatE e).length)
  | .mk k s t ks => by
    have := kszs_le2 ks
    rw [ksz, hgt, flatE, List.length_cons, Nat.pow_succ]
    generalize 2 ^ hgts ks = p at *
    generalize (flatEs ks).length = f at *
    have e1 : p * (2 * f) = 2 * (p * f) := Nat.mul_left_comm _ _ _
    have hp : p * 2 * (2 * (f + 1)) = 4 * (p * f) + 4 * p := by
      rw [Nat.mul_assoc, ← Nat.mul_assoc 2 2, Nat.mul_left_comm p, Nat.mul_add, Nat.mul_one]; omega
    rw [hp]
    unfold kz
    split
    · omega
    · split
      · omega
      · omega
theorem kszs_le2 : ∀ ks : List Ex, kszs ks ≤ 2 ^ hgts ks * (2 * (flatEs ks).length) ∧ 1 ≤ 2 ^ hgts ks
  | [] => by simp [kszs, hgts]
  | k :: ks => by
    have h1 := ksz_le k
    have h2 := kszs_le2 ks
    rw [kszs, hgts, flatEs, List.length_append]
    have e1 : 2 ^ hgt k ≤ 2 ^ max (hgt k) (hgts ks) := Nat.pow_le_pow_right (by omega) (by omega)
    have e2 : 2 ^ hgts ks ≤ 2 ^ max (hgt k) (hgts ks) := Nat.pow_le_pow_right (by omega) (by omega)
    generalize 2 ^ max (hgt k) (hgts ks) = q at *
    have f1 := Nat.mul_le_mul_right (2 * (flatE k).length) e1
    have f2 := Nat.mul_le_mul_right (2 * (flatEs ks).length) e2
    rw [Nat.mul_add, Nat.mul_add]
    exact ⟨by omega, by omega⟩
end
theorem ksz_max {e : Ex} (h : exErr e = 0) : ksz e ≤ 491520 := by
  have h1 := ksz_le e
  have h2 := lkE_hgt e 1 0 (by omega) h
  have h3 := (flat_max h).1
  have h4 : 2 ^ hgt e ≤ 2 ^ 12 := Nat.pow_le_pow_right (by omega) (by omega)
  have h5 : 2 ^ hgt e * (2 * (flatE e).length) ≤ 2 ^ 12 * (2 * 60) := Nat.mul_le_mul h4 (by omega)
  have : (2 : Nat) ^ 12 = 4096 := by decide
  omega
theorem ksz_kid {e k : Ex} (h : k ∈ e.kids) : ksz k ≤ ksz e := by
  have : ∀ ks : List Ex, k ∈ ks → ksz k ≤ kszs ks := by
    intro ks
    induction ks with
    | nil => intro h; cases h
    | cons a r ih =>
      intro h
      rw [kszs]
      rcases List.mem_cons.1 h with rfl | h
      · omega
      · have := ih h; omega
  have := this _ h
  rw [ksz_eq e]
  unfold kz
  split
  · omega
  · split <;> omega

theorem count_is {rs : List Ru} : ∀ (n : Nat) (e : Ex), SizeOf.sizeOf e < n → GoodE rs e → ksz e ≤ 491520 → ∀ {M : Mem} {x : X_api_Expr} {K : Value → Prop}, ExR M e x → K (.int .i64 (min (ksz e) 401 : Nat)) → S_kernel_count x M K := by
  intro n
  induction n with
  | zero => intro e h; omega
  | succ n ih =>
    intro e hn hgood hbig M x K hR hK
    obtain ⟨xs, hx⟩ := hR.open
    have hl8 := kids8 hgood
    have key : ∀ z : Int, z = (min (ksz e) 401 : Nat) → K (.int .i64 z) := fun z h => h ▸ hK
    rw [ksz_eq] at key
    unfold S_kernel_count
    rw [hx.kind]
    refine ⟨fun c i => 0 ≤ i ∧ i ≤ e.kids.length ∧ c = (min (kszs (e.kids.take i.toNat)) 400 : Nat), fun _ i => e.kids.length - i.toNat, ⟨by omega, by omega, by simp [kszs]⟩, fun c i ⟨i0, i1, hc⟩ => ⟨fun hlt => ?_, fun hge => ?_⟩⟩
    · rw [hx.len] at hlt
      obtain ⟨k, hk⟩ := getI (l := e.kids) i0 hlt
      obtain ⟨b, o, y, ha, hat, hy, _⟩ := hx.kid hk
      have hmem := List.mem_of_getElem? hk
      have hkk := ksz_kid hmem
      refine ⟨b, o, ha, i0, by rw [hx.len]; exact hlt, y, hat, s_kernel_count _ _ _ (ih k (by have := Ex.kid_lt hmem; omega) (hgood.kid k hmem) (by omega) hy ⟨_, rfl, by unfold InI; omega, by unfold InI; omega, ⟨by omega, by omega, ?_⟩, by dsimp only; omega⟩)⟩
      rw [show (i + 1).toNat = i.toNat + 1 by omega, kszs_take hk, hc]
      split <;> omega
    · rw [hx.len] at hge
      rw [List.take_of_length_le (by omega)] at hc
      subst hc
      have j2 : ∀ z : Int, 0 ≤ z → z ≤ 802 → (if 401 < z + 1 then 401 else z + 1) = (min (kz e.kind (kszs e.kids)) 401 : Nat) → S_kernel_count_J2 z K := fun z h0 h1 h2 => ⟨by unfold InI; omega, key _ h2⟩
      refine ⟨fun h8 => ?_, fun n8 => ⟨fun h9 => ?_, fun n9 => ?_⟩⟩
      · refine ⟨by unfold InI; omega, by unfold InI; omega, j2 _ (by omega) (by omega) ?_⟩
        rw [kz, if_pos h8]; split <;> omega
      · unfold S_kernel_count_J1
        refine ⟨fun _ => ⟨by unfold InI; omega, j2 _ (by omega) (by omega) ?_⟩, fun h => absurd (by simp [h9]) h⟩
        rw [kz, if_neg n8, if_pos (show e.kind = 9 ∨ e.kind = 10 from .inl h9)]; split <;> omega
      · unfold S_kernel_count_J1
        refine ⟨fun h => ⟨by unfold InI; omega, j2 _ (by omega) (by omega) ?_⟩, fun h => j2 _ (by omega) (by omega) ?_⟩
        · rw [kz, if_neg n8, if_pos (show e.kind = 9 ∨ e.kind = 10 from .inr (by simpa using h))]; split <;> omega
        · rw [kz, if_neg n8, if_neg (show ¬ (e.kind = 9 ∨ e.kind = 10) from by simp at h; omega)]; split <;> omega

theorem wf_kind {z : Int} (h : 1 ≤ z ∧ z ≤ 11) : (Lit.int .i64 z).wf = true := by
  simp only [Lit.wf, IntKind.min, IntKind.max, IntKind.signed, IntKind.bits]; simp; omega
theorem wf_z4 : wfS z4 := by unfold wfS z4; decide

/-- A tree out of its kids' row. -/
theorem ExR.make {M : Mem} {k : Int} {s : X_api_Set} {t : List UInt8} {A : Option Addr} {l c : Nat} {ks : List Ex} {xs : List X_api_Expr} (hk : (Lit.int .i64 k).wf = true) (hs : wfS s) (ht : t.length ≤ maxLen)
    (hv : SlV M A l c 7 (cl X_api_Expr.cells xs)) (hall : All2 (ExR M) ks xs) : ExR M (.mk k s t ks) ⟨k, s, t, A, l, c⟩ := by
  have h1 := hv.len Xe_len (by omega)
  have h2 := hall.length
  have : l = ks.length := by omega
  subst this
  exact .mk hk hs ht hv h2 fun i e x he hx => hall.get' he hx

theorem All2.le {M M' : Mem} {ks : List Ex} {xs : List X_api_Expr} (h : All2 (ExR M) ks xs) (hl : M.le M') : All2 (ExR M') ks xs := h.mono fun _ _ h => h.le hl

theorem copy_is : ∀ (n : Nat) (e : Ex), SizeOf.sizeOf e < n → e.kids.length ≤ 140737488355328 / 80 → (∀ k ∈ flatE e, k.kids.length ≤ 140737488355328 / 80) → ∀ {M : Mem} {x : X_api_Expr} {K : Value → Mem → Prop}, ExR M e x → (∀ M' y, M.le M' → ExR M' e y → K y.val M') → S_expr_Copy x M K := by
  intro n
  induction n with
  | zero => intro e h; omega
  | succ n ih =>
    intro e hn hl8 hall M x K hR hK
    obtain ⟨xs0, hx⟩ := hR.open
    unfold S_expr_Copy
    refine ⟨fun i rn rx M1 => 0 ≤ i ∧ i ≤ e.kids.length ∧ M.le M1 ∧ rn = i.toNat ∧ ∃ xs, rx = cl X_api_Expr.cells xs ∧ All2 (ExR M1) (e.kids.take i.toNat) xs, fun i _ _ => e.kids.length - i.toNat, ⟨by omega, by omega, Mem.le.refl M, rfl, [], rfl, rfl⟩, fun i rn rx M1 ⟨i0, i1, hM1, hrn, xs, hrx, hxs⟩ => ⟨fun hlt => ?_, fun hge => ?_⟩⟩
    · rw [hx.len] at hlt
      subst hrn hrx
      obtain ⟨k, hk⟩ := getI (l := e.kids) i0 hlt
      obtain ⟨xs1, hx1⟩ := (hR.le hM1).open
      obtain ⟨b, o, y, ha, hat, hy, _⟩ := hx1.kid hk
      have hmem := List.mem_of_getElem? hk
      refine ⟨b, o, ha, i0, by rw [hx.len]; exact hlt, y, hat, s_expr_Copy _ _ _ (ih k (by have := Ex.kid_lt hmem; omega) (hall k (flatE_kid hmem k (flatE_self k))) (fun z hz => hall z (flatE_kid hmem z hz)) hy fun M2 y2 hle2 hy2 => ⟨_, rfl, by omega, by unfold InI; omega, ⟨by omega, by omega, hM1.trans hle2, by omega, xs ++ [y2], cl_snoc xs y2, ?_⟩, by dsimp only; omega⟩)⟩
      rw [show (i + 1).toNat = i.toNat + 1 by omega, take_get hk]
      exact (All2.le hxs hle2).snoc hy2
    · rw [hx.len] at hge
      subst hrn hrx
      intro M2 ad cap hle2 hsl2 M3 hle3
      rw [List.take_of_length_le (by omega)] at hxs
      have h := ExR.make (M := M3) (k := e.kind) (s := e.set) (t := e.text) hx.hk hx.hs hx.ht (hsl2.le hle3) (All2.le hxs (hle2.trans hle3))
      rw [hx.kind, hx.set, hx.text]
      exact hK M3 _ ((hM1.trans hle2).trans hle3) (by cases e; exact h)

theorem keE_fit8 : ∀ (n : Nat) (e : Ex), SizeOf.sizeOf e < n → (∀ k ∈ flatE e, k.kids.length ≤ 8) → ∀ k ∈ flatE (keE e), k.kids.length ≤ 9 := by
  intro n
  induction n with
  | zero => intro e h; omega
  | succ n ih =>
    intro e hn h8 k hk
    have hme := h8 e (flatE_self e)
    have hkids : ∀ k ∈ flatEs (e.kids.map keE), k.kids.length ≤ 9 := by
      intro k hk
      have : ∀ ks : List Ex, (∀ q ∈ ks, q ∈ e.kids) → k ∈ flatEs (ks.map keE) → k.kids.length ≤ 9 := by
        intro ks
        induction ks with
        | nil => intro _ h; rw [List.map_nil, flatEs] at h; cases h
        | cons a t iht =>
          intro hs h
          rw [List.map_cons, flatEs] at h
          rcases List.mem_append.1 h with h | h
          · have hm := hs a (by simp)
            exact ih a (by have := Ex.kid_lt hm; omega) (fun z hz => h8 z (flatE_kid hm z hz)) k h
          · exact iht (fun q hq => hs q (by simp [hq])) h
      exact this e.kids (fun q hq => hq) hk
    rw [keE_eq] at hk
    have hl : (e.kids.map keE).length = e.kids.length := by simp
    split at hk
    · rw [flatE_eq] at hk
      simp only [Ex.kids] at hk
      rcases List.mem_cons.1 hk with rfl | hk
      · show (e.kids.map keE ++ [_]).length ≤ 9
        rw [List.length_append, hl, List.length_singleton]; omega
      · rw [flatEs_app] at hk
        rcases List.mem_append.1 hk with hk | hk
        · exact hkids k hk
        · rw [flatEs, flatEs, List.append_nil, flatE_eq] at hk
          simp only [Ex.kids] at hk
          rcases List.mem_cons.1 hk with rfl | hk
          · show (e.kids.map keE).length ≤ 9
            rw [hl]; omega
          · exact hkids k hk
    · split at hk
      · rw [flatE_eq] at hk
        simp only [Ex.kids] at hk
        rcases List.mem_cons.1 hk with rfl | hk
        · show (e.kids.map keE ++ [_]).length ≤ 9
          rw [List.length_append, hl, List.length_singleton]; omega
        · rw [flatEs_app] at hk
          rcases List.mem_append.1 hk with hk | hk
          · exact hkids k hk
          · simp only [flatEs, flatE, List.append_nil, List.mem_singleton] at hk
            subst hk; simp [Ex.kids]
      · split at hk
        · rw [flatE_eq] at hk
          simp only [Ex.kids, flatEs, List.append_nil] at hk
          rcases List.mem_cons.1 hk with rfl | hk
          · simp [Ex.kids]
          · rw [flatE_eq] at hk
            simp only [Ex.kids] at hk
            rcases List.mem_cons.1 hk with rfl | hk
            · show (e.kids.map keE).length ≤ 9
              rw [hl]; omega
            · exact hkids k hk
        · rw [flatE_eq] at hk
          simp only [Ex.kids] at hk
          rcases List.mem_cons.1 hk with rfl | hk
          · show (e.kids.map keE).length ≤ 9
            rw [hl]; omega
          · exact hkids k hk

theorem good_flat8 {rs : List Ru} : ∀ (n : Nat) (e : Ex), SizeOf.sizeOf e < n → GoodE rs e → ∀ k ∈ flatE e, k.kids.length ≤ 8 := by
  intro n
  induction n with
  | zero => intro e h; omega
  | succ n ih =>
    intro e hn hg k hk
    rw [flatE_eq] at hk
    rcases List.mem_cons.1 hk with rfl | hk
    · exact kids8 hg
    · have : ∀ ks : List Ex, (∀ q ∈ ks, q ∈ e.kids) → k ∈ flatEs ks → k.kids.length ≤ 8 := by
        intro ks
        induction ks with
        | nil => intro _ h; rw [flatEs] at h; cases h
        | cons a t iht =>
          intro hs h
          rw [flatEs] at h
          rcases List.mem_append.1 h with h | h
          · have hm := hs a (by simp)
            exact ih a (by have := Ex.kid_lt hm; omega) (hg.kid a hm) k h
          · exact iht (fun q hq => hs q (by simp [hq])) h
      exact this e.kids (fun q hq => hq) hk

theorem All2.one {α β : Type} {R : α → β → Prop} {a : α} {bs : List β} (h : All2 R [a] bs) : ∃ b, bs = [b] ∧ R a b := by
  obtain ⟨b, r, rfl, hb, hr⟩ := h
  have := hr.length
  simp at this
  subst this
  exact ⟨b, rfl, hb⟩

theorem kof_is {rs : List Ru} : ∀ (n : Nat) (e : Ex), SizeOf.sizeOf e < n → GoodE rs e → ∀ {M : Mem} {x : X_api_Expr} {K : Value → Mem → Prop}, ExR M e x → (∀ M' y, M.le M' → ExR M' (keE e) y → K y.val M') → S_kernel_of x M K := by
  intro n
  induction n with
  | zero => intro e h; omega
  | succ n ih =>
    intro e hn hgood M x K hR hK
    obtain ⟨xs0, hx⟩ := hR.open
    have hl8 := kids8 hgood
    obtain ⟨g1, g2, g3, g4, g5, g6, g7, g8⟩ := fitE_kinds hgood.fit
    have hmaxLen : (0 : Nat) ≤ maxLen := Nat.zero_le _
    unfold S_kernel_of
    refine ⟨fun i rn rx M1 => 0 ≤ i ∧ i ≤ e.kids.length ∧ M.le M1 ∧ rn = i.toNat ∧ ∃ xs, rx = cl X_api_Expr.cells xs ∧ All2 (ExR M1) ((e.kids.map keE).take i.toNat) xs, fun i _ _ => e.kids.length - i.toNat, ⟨by omega, by omega, Mem.le.refl M, rfl, [], rfl, rfl⟩, fun i rn rx M1 ⟨i0, i1, hM1, hrn, xs, hrx, hxs⟩ => ⟨fun hlt => ?_, fun hge => ?_⟩⟩
    · rw [hx.len] at hlt
      subst hrn hrx
      obtain ⟨k, hk⟩ := getI (l := e.kids) i0 hlt
      obtain ⟨xs1, hx1⟩ := (hR.le hM1).open
      obtain ⟨b, o, y, ha, hat, hy, _⟩ := hx1.kid hk
      have hmem := List.mem_of_getElem? hk
      have hkm : (e.kids.map keE)[i.toNat]? = some (keE k) := by rw [List.getElem?_map, hk]; rfl
      refine ⟨b, o, ha, i0, by rw [hx.len]; exact hlt, y, hat, s_kernel_of _ _ _ (ih k (by have := Ex.kid_lt hmem; omega) (hgood.kid k hmem) hy fun M2 y2 hle2 hy2 => ⟨_, rfl, by omega, by unfold InI; omega, ⟨by omega, by omega, hM1.trans hle2, by omega, xs ++ [y2], cl_snoc xs y2, ?_⟩, by dsimp only; omega⟩)⟩
      rw [show (i + 1).toNat = i.toNat + 1 by omega, take_get hkm]
      exact (All2.le hxs hle2).snoc hy2
    · rw [hx.len] at hge
      have hil : i.toNat = e.kids.length := by omega
      rw [hil, List.take_of_length_le (by simp)] at hxs
      subst hrn hrx
      rw [hil]
      rw [keE_eq] at hK
      rw [hx.kind]
      have one : 7 ≤ e.kind → ∃ k y, e.kids = [k] ∧ xs = [y] ∧ ExR M1 (keE k) y ∧ k ∈ e.kids := fun h7 => by
        obtain ⟨k, hk⟩ : ∃ k, e.kids = [k] := List.length_eq_one_iff.1 (g5 h7)
        rw [hk, List.map_cons, List.map_nil] at hxs
        obtain ⟨y, rfl, hy⟩ := All2.one hxs
        exact ⟨k, y, hk, rfl, hy, by rw [hk]; simp⟩
      refine ⟨fun h8 => ?_, fun n8 => ⟨fun h9 => ?_, fun n9 => ⟨fun h10 => ?_, fun n10 => ?_⟩⟩⟩
      · obtain ⟨k, y, hk, rfl, hy, hmem⟩ := one (by omega)
        rw [if_pos h8, hk] at hK
        rw [hk]
        have h88 := good_flat8 (rs := rs) _ k (Nat.lt_succ_self _) (hgood.kid k hmem)
        have h99 := keE_fit8 _ k (Nat.lt_succ_self _) h88
        refine ⟨by omega, by simp, y, cl_Cs Xe_len (xs := [y]) (i := 0) rfl, s_expr_Copy _ _ _ (copy_is _ (keE k) (Nat.lt_succ_self _) (by have := h99 _ (flatE_self _); omega) (fun z hz => by have := h99 z hz; omega) hy fun M2 y2 hle2 hy2 => ⟨_, rfl, by omega, by simp, y, cl_Cs Xe_len (xs := [y]) (i := 0) rfl, fun M3 ad3 cap3 hle3 hsl3 M4 ad4 cap4 hle4 hsl4 M5 hle5 => ?_⟩)⟩
        have hA := ExR.make (M := M5) (k := 7) (s := z4) (t := []) (ks := [keE k]) (xs := [y2]) (wf_kind (by omega)) wf_z4 hmaxLen (((show SlV M3 ad3 1 cap3 7 (cl X_api_Expr.cells [y2]) by rw [cl_one]; exact hsl3).le hle4).le hle5) ⟨y2, [], rfl, (hy2.le hle3).le hle4 |>.le hle5, rfl⟩
        refine hK M5 _ ((((hM1.trans hle2).trans hle3).trans hle4).trans hle5) (ExR.make (k := 5) (s := z4) (t := []) (xs := [y, ⟨7, z4, [], ad3, 1, cap3⟩]) (wf_kind (by omega)) wf_z4 hmaxLen (hsl4.le hle5) ⟨y, [⟨7, z4, [], ad3, 1, cap3⟩], rfl, ((((hy.le hle2).le hle3).le hle4).le hle5), ⟨_, [], rfl, hA, rfl⟩⟩)
      · obtain ⟨k, y, hk, rfl, hy, hmem⟩ := one (by omega)
        rw [if_neg n8, if_pos h9, hk] at hK
        rw [hk]
        refine ⟨by omega, by simp, y, cl_Cs Xe_len (xs := [y]) (i := 0) rfl, fun M3 ad3 cap3 hle3 hsl3 M4 hle4 => ?_⟩
        have hA : ExR M4 (.mk 1 z4 [] []) ⟨1, z4, [], none, 0, 0⟩ := ExR.make (xs := []) (wf_kind (by omega)) wf_z4 hmaxLen ⟨rfl, Nat.le_refl _, Nat.zero_le _, fun h => by omega⟩ rfl
        exact hK M4 _ ((hM1.trans hle3).trans hle4) (ExR.make (k := 6) (s := z4) (t := []) (xs := [y, ⟨1, z4, [], none, 0, 0⟩]) (wf_kind (by omega)) wf_z4 hmaxLen (hsl3.le hle4) ⟨y, _, rfl, (hy.le hle3).le hle4, ⟨_, [], rfl, hA, rfl⟩⟩)
      · rw [if_neg n8, if_neg n9, if_pos h10] at hK
        intro M3 ad3 cap3 hle3 hsl3 M4 ad4 cap4 hle4 hsl4 M5 hle5
        have hA := ExR.make (M := M5) (k := 11) (s := z4) (t := []) (wf_kind (by omega)) wf_z4 hmaxLen ((hsl3.le hle4).le hle5) (All2.le hxs ((hle3.trans hle4).trans hle5))
        exact hK M5 _ (((hM1.trans hle3).trans hle4).trans hle5) (ExR.make (k := 11) (s := z4) (t := []) (xs := [⟨11, z4, [], ad3, e.kids.length, cap3⟩]) (wf_kind (by omega)) wf_z4 hmaxLen ((show SlV M4 ad4 1 cap4 7 (cl X_api_Expr.cells [⟨11, z4, [], ad3, e.kids.length, cap3⟩]) by rw [cl_one]; exact hsl4).le hle5) ⟨_, [], rfl, hA, rfl⟩)
      · rw [if_neg n8, if_neg n9, if_neg n10] at hK
        intro M3 ad3 cap3 hle3 hsl3 M4 hle4
        rw [hx.set, hx.text]
        exact hK M4 _ ((hM1.trans hle3).trans hle4) (ExR.make hx.hk hx.hs hx.ht (hsl3.le hle4) (All2.le hxs (hle3.trans hle4)))
end Go.Proofs.Ytaljnkggjadonaa.core
