/- Contracts of functions: what each answers at every input that its caller may hand it. No condition. -/
import Derived.Test.YtifkffmecfgpeaaWell7X
namespace Go.Proofs.Ytifkffmecfgpeaa.core
open Go.Gx Go.RowKit Go.ChangeShapes Go.WideShapes Go.ChangeAt
/-! ### The reference's Well -/

abbrev natC (i : Nat) : List Value := [.int .i64 (i : Int)]
theorem natC_len (i : Nat) : (natC i).length = 1 := rfl
theorem natC_one (i : Nat) : ∀ u ∈ natC i, u.oneCell' = true := by intro u hu; simp at hu; subst hu; rfl

theorem nats_index {A : Option Addr} {n c : Nat} {zs : List Nat} {M : Mem} (h : SlV M A n c 1 (cl natC zs)) (v : Nat) (K : Value → Prop) (hK : ∀ i : Int, (0 ≤ i ↔ v ∈ zs) → K (.int .i64 i)) : S_slices_Index_int A n c (v : Int) M K := by
  have hn := h.len natC_len (by omega)
  have hmx := h.max
  unfold S_slices_Index_int
  refine ⟨fun i => 0 ≤ i ∧ i ≤ n ∧ v ∉ zs.take i.toNat, fun i => n - i.toNat, ⟨by omega, by omega, by simp⟩, fun i ⟨h0, h1, h2⟩ => ⟨fun hlt => ?_, fun hge => ?_⟩⟩
  · obtain ⟨x, hx⟩ := getI (l := zs) h0 (by omega)
    obtain ⟨b, o, ha, hat⟩ := h.at natC_len hn hx
    refine ⟨b, o, ha, h0, hlt, _, hat, fun e => hK i ⟨fun _ => by rw [show v = x by omega]; exact List.mem_of_getElem? hx, fun _ => h0⟩, fun e => ⟨by unfold InI; omega, ⟨by omega, by omega, ?_⟩, by dsimp only; omega⟩⟩
    rw [show (i + 1).toNat = i.toNat + 1 by omega, take_get hx]
    intro hm
    rcases List.mem_append.1 hm with hm | hm
    · exact h2 hm
    · simp at hm; omega
  · refine hK (-1) ⟨fun h => by omega, fun hm => ?_⟩
    rw [List.take_of_length_le (by omega)] at h2
    exact absurd hm h2

theorem nats_contains {A : Option Addr} {n c : Nat} {zs : List Nat} {M : Mem} (h : SlV M A n c 1 (cl natC zs)) (v : Nat) (K : Value → Prop) (hK : K (.bool (decide (v ∈ zs)))) : S_slices_Contains_int A n c (v : Int) M K := by
  refine s_slices_Index_int _ _ _ _ _ _ (nats_index h v _ fun i hi => ⟨_, rfl, ?_⟩)
  rw [show decide (i ≥ 0) = decide (v ∈ zs) from decide_eq_decide.2 hi]
  exact hK

theorem kids8 {rs : List Ru} {e : Ex} (h : GoodE rs e) : e.kids.length ≤ 8 := by
  obtain ⟨g1, g2, g3, g4, g5, _⟩ := fitE_kinds h.fit
  by_cases h4 : e.kind ≤ 4
  · rw [g3 h4]; simp
  · by_cases h7 : 7 ≤ e.kind
    · have := g5 h7; omega
    · exact (g4 (by omega)).2

theorem flatE_kidlen {e k : Ex} (h : k ∈ e.kids) : (flatE k).length < (flatE e).length := by
  rw [flatE_eq e, List.length_cons]
  have : ∀ ks : List Ex, k ∈ ks → (flatE k).length ≤ (flatEs ks).length := by
    intro ks
    induction ks with
    | nil => intro h; cases h
    | cons a r ih =>
      intro h
      rw [flatEs, List.length_append]
      rcases List.mem_cons.1 h with rfl | h
      · omega
      · have := ih h; omega
  have := this _ h
  omega

theorem needs_is {rs : List Ru} {kn : List Fa} {ga ra : Option Addr} {gl gc rc : Nat} (hlen : kn.length = rs.length) : ∀ (n : Nat) (e : Ex), SizeOf.sizeOf e < n → (flatE e).length ≤ 60 → ∀ {M : Mem} {x : X_api_Expr} {K : Value → Mem → Prop}, ExR M e x → GrR M rs ga gl gc →
    SlV M ra kn.length rc 1 (cl encC kn) → GoodE rs e → (∀ M' ad cap, M.le M' → SlV M' ad (needsE rs kn e).length cap 1 (cl natC (needsE rs kn e)) → K (.slice ad (needsE rs kn e).length cap) M') → S_chaffref_needs ga gl gc ra kn.length rc x M K := by
  intro n
  induction n with
  | zero => intro e h; omega
  | succ n ih =>
    intro e hn h60 M x K hR hg hkn hgood hK
    obtain ⟨xs, hx⟩ := hR.open
    have hl8 := kids8 hgood
    have hnl := needsE_len rs kn e
    unfold S_chaffref_needs
    rw [hx.kind]
    refine ⟨fun h4 => ?_, fun n4 => ?_⟩
    · have hr := hgood.ref h4
      have hnat : ((findR e.text rs 0).toNat : Int) = findR e.text rs 0 := by omega
      rw [hx.text]
      refine s_chaffref_Find _ _ _ _ _ _ (rfind_is hg e.text _ ⟨_, rfl, fun M1 ad cap hle hsl M2 hle2 => ?_⟩)
      have := hK M2 ad cap (hle.trans hle2)
      rw [needsE_eq, if_pos h4] at this
      refine this ?_
      rw [← hnat] at hsl
      exact hsl.le hle2
    · -- what is left, and what is there
      let rest : List Ex → List Nat := fun ks => if e.kind = 5 then needsQ rs kn ks else needsA rs kn ks
      have hrest0 : needsE rs kn e = rest e.kids := by rw [needsE_eq, if_neg n4]
      have hrestk : ∀ k ks, rest (k :: ks) = needsE rs kn k ++ (if e.kind = 5 ∧ (ofE rs kn k).Empty = false then [] else rest ks) := by
        intro k ks
        simp only [rest]
        by_cases h5 : e.kind = 5
        · rw [if_pos h5, needsQ]
          cases (ofE rs kn k).Empty <;> simp [h5]
        · rw [if_neg h5, needsA]; simp [h5]
      have hfin : ∀ (M1 M2 M3 : Mem) (ad : Option Addr) (cap rn : Nat) (rx : List Value), M.le M1 → M1.le M2 → M2.le M3 → rn = (needsE rs kn e).length → rx = cl natC (needsE rs kn e) → SlV M2 ad rn cap 1 rx → K (.slice ad rn cap) M3 := by
        rintro M1 M2 M3 ad cap _ _ h1 h2 h3 rfl rfl hsl
        exact hK M3 ad cap ((h1.trans h2).trans h3) (hsl.le h3)
      refine ⟨fun i rn rx M1 => 0 ≤ i ∧ i ≤ e.kids.length ∧ M.le M1 ∧ ∃ acc : List Nat, rn = acc.length ∧ rx = cl natC acc ∧ acc ++ rest (e.kids.drop i.toNat) = needsE rs kn e, fun i _ _ => e.kids.length - i.toNat, ⟨by omega, by omega, Mem.le.refl M, [], rfl, rfl, by rw [hrest0]; rfl⟩, fun i rn rx M1 ⟨i0, i1, hM1, acc, hrn, hrx, hacc⟩ => ⟨fun hlt => ?_, fun hge => ?_⟩⟩
      · rw [hx.len] at hlt
        obtain ⟨k, hk⟩ := getI (l := e.kids) i0 hlt
        obtain ⟨xs1, hx1⟩ := (hR.le hM1).open
        obtain ⟨b, o, y, ha, hat, hy, _⟩ := hx1.kid hk
        have hmem := List.mem_of_getElem? hk
        have hgk := hgood.kid k hmem
        have hkl := flatE_kidlen hmem
        rw [drop_get hk, hrestk] at hacc
        have hal := congrArg List.length hacc
        rw [List.length_append, List.length_append] at hal
        subst hrn hrx
        refine ⟨b, o, ha, i0, by rw [hx.len]; exact hlt, y, hat, s_chaffref_needs _ _ _ _ _ _ _ _ _ (ih k (by have := Ex.kid_lt hmem; omega) (by omega) hy (hg.le hM1) (hkn.le hM1) hgk fun M2 ad2 cap2 hle2 hsl2 => ⟨_, _, _, rfl, _, hsl2, cl_one' natC_one _, by omega, ?_⟩)⟩
        have hM2 := hM1.trans hle2
        have happ : cl natC acc ++ cl natC (needsE rs kn k) = cl natC (acc ++ needsE rs kn k) := (cl_append _ _).symm
        have hgo : ∀ b : Bool, (b = true → e.kind = 5 ∧ (ofE rs kn k).Empty = false) → (b = false → ¬ (e.kind = 5 ∧ (ofE rs kn k).Empty = false)) →
            S_chaffref_needs_J1 i acc.length (cl natC acc) (fun i rn rx M1 => 0 ≤ i ∧ i ≤ e.kids.length ∧ M.le M1 ∧ ∃ acc : List Nat, rn = acc.length ∧ rx = cl natC acc ∧ acc ++ rest (e.kids.drop i.toNat) = needsE rs kn e) (fun i _ _ => e.kids.length - i.toNat) (needsE rs kn k).length M2 (cl natC (needsE rs kn k)) b K := by
          intro b hb1 hb2
          unfold S_chaffref_needs_J1
          rw [happ, ← List.length_append]
          refine ⟨fun ht M3 ad3 cap3 hle3 hsl3 M4 hle4 => ?_, fun hf => ⟨by unfold InI; omega, ⟨by omega, by omega, hM2, acc ++ needsE rs kn k, rfl, rfl, ?_⟩, by dsimp only; omega⟩⟩
          · have := hb1 ht
            rw [if_pos this, List.append_nil] at hacc
            rw [hacc] at hsl3 ⊢
            exact hfin M2 M3 M4 ad3 cap3 _ _ hM2 hle3 hle4 rfl rfl hsl3
          · have := hb2 (by simpa using hf)
            rw [if_neg this] at hacc
            rw [show (i + 1).toNat = i.toNat + 1 by omega, List.append_assoc]; exact hacc
        refine ⟨fun h5 => ?_, fun n5 => hgo _ (fun h => by cases h) (fun _ h => n5 h.1)⟩
        refine s_chaffref_May _ _ _ _ _ _ _ _ _ (may_is hlen _ k (Nat.lt_succ_self _) (hy.le hle2) (hg.le hM2) (hkn.le hM2) hgk ⟨_, rfl, hgo _ ?_ ?_⟩)
        · intro h
          refine ⟨h5, ?_⟩
          have : ¬ (bAnd .i64 (enc (ofE rs kn k)) 1 > 0) := by simp at h; omega
          rw [enc1] at this; simpa using this
        · rintro h ⟨_, h'⟩
          have hnz : ¬ (bAnd .i64 (enc (ofE rs kn k)) 1 = 0) := by simpa using h
          have hz : ∀ f : Fa, f.Empty = false → bAnd .i64 (enc f) 1 = 0 := by rintro ⟨_ | _, _ | _, _ | _⟩ hh <;> first | (exact absurd hh (by decide)) | decide
          exact hnz (hz _ h')
      · rw [hx.len] at hge
        intro M2 ad2 cap2 hle2 hsl2 M3 hle3
        rw [List.drop_of_length_le (by omega)] at hacc
        have hnil : rest [] = [] := by simp only [rest]; split <;> simp [needsQ, needsA]
        rw [hnil, List.append_nil] at hacc
        subst hacc
        exact hfin M1 M2 M3 ad2 cap2 rn rx hM1 hle2 hle3 hrn hrx hsl2

def chi (n : Nat) (w : List Nat) : List Bool := (List.range n).map fun i => decide (i ∈ w)
theorem chi_len (n : Nat) (w : List Nat) : (chi n w).length = n := by simp [chi]
theorem chi_get {n : Nat} {w : List Nat} {i : Nat} (h : i < n) : (chi n w)[i]? = some (decide (i ∈ w)) := by
  unfold chi
  rw [List.getElem?_map, List.getElem?_range h]; rfl
theorem chi_wkB {n : Nat} {w : List Nat} {i : Nat} (h : i < n) : wkB (chi n w) i = decide (i ∈ w) := by rw [wkB, chi_get h]; rfl
theorem chi_add {n : Nat} {w : List Nat} {i : Nat} (h : i < n) : chi n (w ++ [i]) = (chi n w).set i true := by
  apply List.ext_getElem?
  intro j
  rw [List.getElem?_set]
  by_cases hj : j < n
  · rw [chi_get hj, chi_get hj, chi_len]
    split
    · subst i; simp [hj]
    · rename_i hne; simp [List.mem_append]; intro e; exact absurd e.symm hne
  · rw [List.getElem?_eq_none (by rw [chi_len]; omega), List.getElem?_eq_none (by rw [chi_len]; omega)]
    split
    · subst i; omega
    · rfl

theorem pre_zero {n : Nat} {F : List Bool → Nat → Bool} {kn : List Bool} (hp : Pre bLe F n kn) (h : wS bit 1 kn = 0) : ∀ (i : Nat) a, kn[i]? = some a → F kn i = a := by
  have all : ∀ (l : List Bool), wS bit 1 l = 0 → ∀ (i : Nat) a, l[i]? = some a → a = true := by
    intro l
    induction l with
    | nil => intro _ i a h; simp at h
    | cons b r ih =>
      intro h i a hi
      simp only [wS, List.map_cons, List.sum_cons] at h
      cases i with
      | zero => simp at hi; subst hi; cases b <;> simp [bit] at h ⊢
      | succ i => exact ih (by unfold wS; omega) i a (by simpa using hi)
  intro i a hi
  have ha := all kn h i a hi
  subst ha
  exact hp.up i true hi rfl

theorem rwell_is {rs : List Ru} {ga : Option Addr} {gl gc : Nat} {M : Mem} (hg : GrR M rs ga gl gc) (K : Value → Prop) (hK : K (.tuple #[.int .i64 (wellP rs).1, .int .i64 (wellP rs).2])) : S_chaffref_Well ga gl gc M K := by
  unfold S_chaffref_Well
  unfold wellP at hK
  refine s_chaffref_Gram _ _ _ _ _ (rgram_is hg _ ⟨_, rfl, fun h => ?_, fun h => ?_⟩)
  · rw [if_pos h] at hK; exact hK
  rw [if_neg h] at hK
  have h0 : gramErr rs = 0 := by simpa using h
  have hok := gram_ok h0
  have h10 := hok.ten
  have hgl := hg.len
  have hkl := knOf_len rs
  have hwl := (wkOf_lfp rs).len
  have L := bLat
  refine s_chaffref_Mays _ _ _ _ _ (pmays_is hok hg _ fun M1 ad cap hle hsl => ⟨_, _, _, rfl, ?_⟩)
  rw [hgl]
  rw [← hkl] at hsl
  generalize hll : (rs.map fun r => loopB rs (knOf rs) r.body) = ll at hK
  have hlll : ll.length = rs.length := by rw [← hll]; simp
  have hlg : ∀ (i : Nat) r, rs[i]? = some r → ll[i]? = some (loopB rs (knOf rs) r.body) := fun i r hr => by rw [← hll, List.getElem?_map, hr]; rfl
  refine ⟨fun i M2 => 0 ≤ i ∧ i ≤ rs.length ∧ M1.le M2 ∧ fstB (ll.drop i.toNat) i = fstB ll 0, fun i => rs.length - i.toNat, ⟨by omega, by omega, Mem.le.refl _, rfl⟩, fun i M2 ⟨i0, i1, hle2, heq⟩ => ⟨fun hlt => ?_, fun hge => ?_⟩⟩
  · have hg2 := hg.le (hle.trans hle2)
    obtain ⟨r, x, b, o, hr, ha, hat, hrr⟩ := hg2.at i0 (by rw [hgl]; exact hlt)
    have hmem := List.mem_of_getElem? hr
    have herr := hok.err r hmem
    obtain ⟨hf60, _, htake, hflat⟩ := flat_max herr
    refine ⟨b, o, ha, i0, hlt, x, hat, s_chaffref_Nodes _ _ _ (nodes_is r.body x.Body _ _ hrr.2.2 fun M3 A3 c3 xs hle3 hsl3 hall => ⟨_, _, _, rfl, ?_⟩)⟩
    rw [htake] at hall
    have hxl := hall.length
    have hfl : (flatE r.body).length = xs.length := by rw [hxl, ← hflat, List.length_map]
    have hd := drop_get (hlg _ r hr)
    have hg3 := hg2.le hle3
    refine ⟨fun j => 0 ≤ j ∧ j ≤ xs.length ∧ ((flatE r.body).drop j.toNat).any (ndB rs (knOf rs)) = loopB rs (knOf rs) r.body, fun j => xs.length - j.toNat, ⟨by omega, by omega, rfl⟩, fun j ⟨j0, j1, heqj⟩ => ⟨fun hltj => ?_, fun hgej => ?_⟩⟩
    · obtain ⟨p, hp⟩ := getI (l := preE 1 r.body) j0 (by omega)
      obtain ⟨y, hy, hyr, hyd⟩ := hall.get hp
      obtain ⟨b2, o2, ha2, hat2⟩ := hsl3.at Xn_len rfl hy
      have hpf : (flatE r.body)[j.toNat]? = some p.1 := by rw [← hflat, List.getElem?_map, hp]; rfl
      rw [drop_get hpf, List.any_cons] at heqj
      obtain ⟨zs, hz⟩ := hyr.open
      have hgn : GoodE rs p.1 := by
        refine good_of rs p.1 fun z hz' => ?_
        have hz2 : z ∈ flatE r.body := by
          have key : ∀ e : Ex, p.1 ∈ flatE e → z ∈ flatE e := by
            intro e
            induction hn : SizeOf.sizeOf e using Nat.strongRecOn generalizing e with
            | _ n ih =>
              subst hn
              intro he
              rw [flatE_eq] at he
              rcases List.mem_cons.1 he with he | he
              · rw [he] at hz'; exact hz'
              · have hex : ∀ ks : List Ex, p.1 ∈ flatEs ks → ∃ k ∈ ks, p.1 ∈ flatE k := by
                  intro ks
                  induction ks with
                  | nil => intro h; rw [flatEs] at h; cases h
                  | cons a t iht =>
                    intro h
                    rw [flatEs] at h
                    rcases List.mem_append.1 h with h | h
                    · exact ⟨a, by simp, h⟩
                    · obtain ⟨k, hk, hk2⟩ := iht h; exact ⟨k, by simp [hk], hk2⟩
                obtain ⟨k, hk, hk2⟩ := hex _ he
                exact flatE_kid hk z (ih _ (Ex.kid_lt hk) k rfl hk2)
          exact key r.body (List.mem_of_getElem? hpf)
        exact ⟨flat_fit _ _ _ herr z hz2, fun hk => by
          have hgr := hok.good r hmem
          have key : ∀ e : Ex, GoodE rs e → z ∈ flatE e → 0 ≤ findR z.text rs 0 := by
            intro e
            induction hn : SizeOf.sizeOf e using Nat.strongRecOn generalizing e with
            | _ n ih =>
              subst hn
              intro hge he
              rw [flatE_eq] at he
              rcases List.mem_cons.1 he with rfl | he
              · exact hge.ref hk
              · have hex : ∀ ks : List Ex, z ∈ flatEs ks → ∃ k ∈ ks, z ∈ flatE k := by
                  intro ks
                  induction ks with
                  | nil => intro h; rw [flatEs] at h; cases h
                  | cons a t iht =>
                    intro h
                    rw [flatEs] at h
                    rcases List.mem_append.1 h with h | h
                    · exact ⟨a, by simp, h⟩
                    · obtain ⟨k, hk, hk2⟩ := iht h; exact ⟨k, by simp [hk], hk2⟩
                obtain ⟨k, hk', hk2⟩ := hex _ he
                exact ih _ (Ex.kid_lt hk') k rfl (hge.kid k hk') hk2
          exact key r.body hgr hz2⟩
      have j1' : ∀ b : Bool, b = ndB rs (knOf rs) p.1 → S_chaffref_Well_J1 i j (fun j => 0 ≤ j ∧ j ≤ xs.length ∧ ((flatE r.body).drop j.toNat).any (ndB rs (knOf rs)) = loopB rs (knOf rs) r.body) (fun j => xs.length - j.toNat) b K := by
        intro b hb
        unfold S_chaffref_Well_J1
        rw [← hb] at heqj
        refine ⟨fun ht => ?_, fun hf => ⟨by unfold InI; omega, ⟨by omega, by omega, ?_⟩, by dsimp only; omega⟩⟩
        · rw [ht, Bool.true_or] at heqj
          rw [← heqj] at hd
          obtain ⟨e1, e2⟩ := fstB_hit i0 hd heq
          rw [if_pos e2, e1] at hK; exact hK
        · rw [show b = false by simpa using hf, Bool.false_or] at heqj
          rw [show (j + 1).toNat = j.toNat + 1 by omega]; exact heqj
      have kid0 : 7 ≤ p.1.kind → ∃ k b o z, p.1.kids = [k] ∧ y.Expr.Kids_a = some ⟨b, o, none⟩ ∧ At M3 b (o + (0 : Int).toNat * 7) z.cells ∧ ExR M3 k z ∧ k ∈ p.1.kids ∧ (0 : Int) < ((y.Expr.Kids_l : Nat) : Int) := fun h7 => by
        have h1 := (fitE_kinds hgn.fit).2.2.2.2.1 h7
        obtain ⟨k, hk⟩ : ∃ k, p.1.kids = [k] := List.length_eq_one_iff.1 h1
        obtain ⟨b, o, z, hza, hzat, hzr, _⟩ := hz.kid (i := 0) (k := k) (by rw [hk]; rfl)
        exact ⟨k, b, o, z, hk, hza, hzat, hzr, by rw [hk]; simp, by rw [hz.len, h1]; omega⟩
      refine ⟨b2, o2, ha2, j0, hltj, y, hat2, ?_⟩
      rw [hz.kind]
      refine ⟨fun h7 => ?_, fun n7 => ⟨fun h8 => ?_, fun n8 => j1' _ (by simp [ndB, n7, n8])⟩⟩
      · obtain ⟨k, b3, o3, z, hk, hza, hzat, hzr, hkm, hpos⟩ := kid0 (by omega)
        refine ⟨b3, o3, hza, by omega, hpos, z, hzat, ?_⟩
        rw [← hkl]
        refine s_chaffref_May _ _ _ _ _ _ _ _ _ (may_is hkl _ k (Nat.lt_succ_self _) hzr (by rw [← hgl] at hkl; rw [hkl]; exact hg3) (hsl.le (hle2.trans hle3)) (hgn.kid k hkm) ⟨_, rfl, j1' _ ?_⟩)
        rw [d1]; simp [ndB, h7, hk, hdF]
      · obtain ⟨k, b3, o3, z, hk, hza, hzat, hzr, hkm, hpos⟩ := kid0 (by omega)
        refine ⟨b3, o3, hza, by omega, hpos, z, hzat, ?_⟩
        rw [← hkl]
        refine s_chaffref_May _ _ _ _ _ _ _ _ _ (may_is hkl _ k (Nat.lt_succ_self _) hzr (by rw [← hgl] at hkl; rw [hkl]; exact hg3) (hsl.le (hle2.trans hle3)) (hgn.kid k hkm) ⟨_, rfl, j1' _ ?_⟩)
        rw [d1]; simp [ndB, h8, hk, hdF]
    · rw [List.drop_of_length_le (by omega), List.any_nil] at heqj
      rw [← heqj] at hd
      exact ⟨by unfold InI; omega, ⟨by omega, by omega, hle2.trans hle3, fstB_miss i0 hd heq⟩, by dsimp only; omega⟩
  rw [List.drop_of_length_le (by omega), fstB] at heq
  rw [if_neg (by rw [← heq]; simp)] at hK
  let F := Gof rs (knOf rs)
  let n := rs.length
  have hF : MonoF bLe F n := Gof_mono rs _ _
  have hchi0 : chi n [] = List.replicate n false := by
    apply List.ext_getElem?
    intro j
    by_cases hj : j < n
    · rw [chi_get hj, List.getElem?_replicate, if_pos hj]; simp
    · rw [List.getElem?_eq_none (by rw [chi_len]; omega), List.getElem?_eq_none (by simp; omega)]
  refine ⟨fun k rn rx M3 => 0 ≤ k ∧ k ≤ rs.length ∧ M1.le M3 ∧ ∃ w : List Nat, rn = w.length ∧ rx = cl natC w ∧ (w.length : Int) ≤ k * 10 ∧ Pre bLe F n (chi n w) ∧ ((∀ (j : Nat) a, (chi n w)[j]? = some a → F (chi n w) j = a) ∨ wS bit 1 (chi n w) + k ≤ n), fun k _ _ => rs.length - k.toNat, ⟨by omega, by omega, hle2, [], rfl, rfl, by simp, by rw [hchi0]; exact pre_bot false (fun a h => (by cases h)) n, .inr ?_⟩, fun k rn rx M3 ⟨k0, k1, hle3, w, hrn, hrx, hwk, hpre, hst⟩ => ⟨fun hlt => ?_, fun hge => ?_⟩⟩
  · have := wS_all (wt := bit) (m := 1) (chi n [])
    rw [chi_len] at this; omega
  · subst hrn hrx
    refine ⟨fun i rn rx M4 => 0 ≤ i ∧ i ≤ rs.length ∧ M1.le M4 ∧ ∃ w2 : List Nat, rn = w2.length ∧ rx = cl natC w2 ∧ (w2.length : Int) ≤ k * 10 + i ∧ Pre bLe F n (chi n w2) ∧ leL bLe (chi n w) (chi n w2) ∧ ((chi n w2 = chi n w ∧ ∀ (j : Nat) a, (j : Int) < i → (chi n w)[j]? = some a → F (chi n w) j = a) ∨ wS bit 1 (chi n w2) < wS bit 1 (chi n w)), fun i _ _ => rs.length - i.toNat, ⟨by omega, by omega, hle3, w, rfl, rfl, by omega, hpre, leL.refl L _, .inl ⟨rfl, fun j a h => by omega⟩⟩, fun i rn rx M4 ⟨i0, i1, hle4, w2, hrn, hrx, hw2, hpre2, hl2, hst2⟩ => ⟨fun hlt2 => ?_, fun hge2 => ?_⟩⟩
    · subst hrn hrx
      obtain ⟨m, rfl⟩ := Int.eq_ofNat_of_zero_le i0
      have hmn : m < n := by simp only [n]; omega
      have hg4 := hg.le (hle.trans hle4)
      obtain ⟨r, x, b, o, hr, ha, hat, hrr⟩ := hg4.at (i := (m : Int)) i0 (by rw [hgl]; exact hlt2)
      rw [Int.toNat_natCast] at hr hat
      have hmem := List.mem_of_getElem? hr
      have hgr := hok.good r hmem
      obtain ⟨hf60, _⟩ := flat_max (hok.err r hmem)
      refine ⟨b, o, ha, i0, hlt2, x, by rw [Int.toNat_natCast]; exact hat, ?_⟩
      rw [← hkl]
      refine s_chaffref_needs _ _ _ _ _ _ _ _ _ (needs_is hkl _ r.body (Nat.lt_succ_self _) hf60 hrr.2.2 (by rw [← hgl] at hkl; rw [hkl]; exact hg4) (hsl.le hle4) hgr fun M5 ad5 cap5 hle5 hsl5 => ⟨_, _, _, rfl, ?_⟩)
      rw [hkl]
      generalize hnl : needsE rs (knOf rs) r.body = nl at hsl5 ⊢
      have hnlt : ∀ q ∈ nl, q < n := by rw [← hnl]; exact needsE_lt _ _ hgr
      have hnll : nl.length ≤ 60 := by rw [← hnl]; have := needsE_len rs (knOf rs) r.body; omega
      have hFm : F (chi n w2) m = nl.all fun q => decide (q ∈ w2) := by
        have e : Gof rs (knOf rs) (chi n w2) m = (needsE rs (knOf rs) r.body).all (wkB (chi n w2)) := by unfold Gof; simp only [hr]; rfl
        show Gof rs (knOf rs) (chi n w2) m = _
        rw [e, hnl, Bool.eq_iff_iff, List.all_eq_true, List.all_eq_true]
        exact ⟨fun h q hq => by rw [← chi_wkB (hnlt q hq)]; exact h q hq, fun h q hq => by rw [chi_wkB (hnlt q hq)]; exact h q hq⟩
      refine ⟨fun ok j => 0 ≤ j ∧ j ≤ nl.length ∧ ok = (nl.take j.toNat).all fun q => decide (q ∈ w2), fun _ j => nl.length - j.toNat, ⟨by omega, by omega, by simp⟩, fun ok j ⟨j0, j1, hokj⟩ => ⟨fun hltj => ?_, fun hgej => ?_⟩⟩
      · obtain ⟨q, hq⟩ := getI (l := nl) j0 hltj
        obtain ⟨b2, o2, ha2, hat2⟩ := hsl5.at natC_len rfl hq
        have hj2 : ∀ v : Bool, v = (ok && decide (q ∈ w2)) → S_chaffref_Well_J2 ok j (fun ok j => 0 ≤ j ∧ j ≤ nl.length ∧ ok = (nl.take j.toNat).all fun q => decide (q ∈ w2)) (fun _ j => nl.length - j.toNat) v K := by
          rintro v rfl
          refine ⟨by unfold InI; omega, ⟨by omega, by omega, ?_⟩, by dsimp only; omega⟩
          rw [show (j + 1).toNat = j.toNat + 1 by omega, take_get hq, List.all_append, hokj]; simp
        refine ⟨b2, o2, ha2, j0, hltj, _, hat2, fun ht M6 ad6 cap6 hle6 hsl6 => ?_, fun hf => hj2 _ (by simp [show ok = false by simpa using hf])⟩
        exact s_slices_Contains_int _ _ _ _ _ _ (nats_contains hsl6 q _ ⟨_, rfl, hj2 _ (by rw [ht]; simp)⟩)
      · rw [List.take_of_length_le (by omega), ← hFm] at hokj
        have hj4 : ∀ (w3 : List Nat) (M6 : Mem), M1.le M6 → (w3.length : Int) ≤ k * 10 + (m + 1) → chi n w3 = (chi n w2).set m (F (chi n w2) m) → S_chaffref_Well_J4 (m : Int) w2.length (cl natC w2) (fun i rn rx M4 => 0 ≤ i ∧ i ≤ rs.length ∧ M1.le M4 ∧ ∃ w2 : List Nat, rn = w2.length ∧ rx = cl natC w2 ∧ (w2.length : Int) ≤ k * 10 + i ∧ Pre bLe F n (chi n w2) ∧ leL bLe (chi n w) (chi n w2) ∧ ((chi n w2 = chi n w ∧ ∀ (j : Nat) a, (j : Int) < i → (chi n w)[j]? = some a → F (chi n w) j = a) ∨ wS bit 1 (chi n w2) < wS bit 1 (chi n w))) (fun i _ _ => rs.length - i.toNat) w3.length (cl natC w3) M6 K := by
          intro w3 M6 hle6 hw3 hchi
          have hcm := chi_get (w := w2) hmn
          obtain ⟨s1, s2⟩ := hpre2.step L hF hcm
          rw [← hchi] at s1 s2
          refine ⟨by unfold InI; omega, ⟨by omega, by omega, hle6, w3, rfl, rfl, by omega, s1, hl2.trans L s2, ?_⟩, by dsimp only; omega⟩
          by_cases hsame : F (chi n w2) m = decide (m ∈ w2)
          · have hset : (chi n w2).set m (F (chi n w2) m) = chi n w2 := by rw [hsame]; exact set_same hcm
            rw [hset] at hchi
            rw [hchi]
            refine hst2.imp (fun ⟨e1, e2⟩ => ⟨e1, fun j a hj hja => ?_⟩) id
            by_cases hjm : j = m
            · subst hjm
              rw [← e1] at hja ⊢
              rw [hcm] at hja; cases hja; exact hsame
            · exact e2 j a (by omega) hja
          · right
            have hw := wS_set L hcm (hpre2.up m _ hcm) (fun e => hsame e.symm)
            rw [← hchi] at hw
            have := (wS_le L hl2).1
            omega
        have hj3 : ∀ v : Bool, v = (F (chi n w2) m && !decide (m ∈ w2)) → S_chaffref_Well_J3 (m : Int) w2.length (cl natC w2) (fun i rn rx M4 => 0 ≤ i ∧ i ≤ rs.length ∧ M1.le M4 ∧ ∃ w2 : List Nat, rn = w2.length ∧ rx = cl natC w2 ∧ (w2.length : Int) ≤ k * 10 + i ∧ Pre bLe F n (chi n w2) ∧ leL bLe (chi n w) (chi n w2) ∧ ((chi n w2 = chi n w ∧ ∀ (j : Nat) a, (j : Int) < i → (chi n w)[j]? = some a → F (chi n w) j = a) ∨ wS bit 1 (chi n w2) < wS bit 1 (chi n w))) (fun i _ _ => rs.length - i.toNat) M5 v K := by
          intro v hv
          have hcm := chi_get (w := w2) hmn
          refine ⟨fun ht => ?_, fun hf => ?_⟩
          · rw [ht] at hv
            have hFt : F (chi n w2) m = true := by cases hF' : F (chi n w2) m <;> simp [hF'] at hv ⊢
            have := hj4 (w2 ++ [m]) M5 (hle4.trans hle5) (by simp; omega) (by rw [hFt]; exact chi_add hmn)
            rw [List.length_append, ← cl_snoc] at this
            exact ⟨by omega, this⟩
          · rw [show v = false by simpa using hf] at hv
            refine hj4 w2 M5 (hle4.trans hle5) (by omega) ?_
            have hup := hpre2.up m _ hcm
            have : F (chi n w2) m = decide (m ∈ w2) := by
              unfold bLe at hup
              cases hF' : F (chi n w2) m <;> cases hd : decide (m ∈ w2) <;> simp [hF', hd] at hv hup ⊢
            rw [this, set_same hcm]
        refine ⟨fun ht M6 ad6 cap6 hle6 hsl6 => ?_, fun hf => hj3 _ ?_⟩
        · exact s_slices_Contains_int _ _ _ _ _ _ (nats_contains hsl6 m _ ⟨_, rfl, hj3 _ (by rw [← hokj, ht]; simp)⟩)
        · rw [← hokj, show ok = false by simpa using hf]; rfl
    · subst hrn hrx
      refine ⟨by unfold InI; omega, ⟨by omega, by omega, hle4, w2, rfl, rfl, by omega, hpre2, ?_⟩, by dsimp only; omega⟩
      rcases hst2 with ⟨e1, e2⟩ | hlt3
      · left
        rw [e1]
        exact fun j a hja => e2 j a (by have := (List.getElem?_eq_some_iff.1 hja).1; rw [chi_len] at this; simp only [n] at this; omega) hja
      · right
        rcases hst with hfix | hws
        · exfalso
          have hlow := hpre2.low (chi n w) (chi_len n w) (fun j b hb => by rw [hfix j b hb]; exact L.refl b)
          have := (wS_le L hlow).1
          omega
        · omega
  · subst hrn hrx
    have hkn : k = n := by simp only [n]; omega
    have hlfp : Lfp bLe F n (chi n w) := by
      rcases hst with hfix | hws
      · exact hpre.lfp L hfix
      · exact hpre.lfp L (pre_zero hpre (by omega))
    have hwk := wkOf_eq hlfp
    generalize hwd : (wkOf rs).map (!·) = wd at hK
    have hwdl : wd.length = rs.length := by rw [← hwd]; simp [hwl]
    refine ⟨fun i => 0 ≤ i ∧ i ≤ rs.length ∧ fstB (wd.drop i.toNat) i = fstB wd 0, fun i => rs.length - i.toNat, ⟨by omega, by omega, rfl⟩, fun i ⟨i0, i1, heq⟩ => ⟨fun hlt => ?_, fun hge => ?_⟩⟩
    · intro M6 ad6 cap6 hle6 hsl6
      obtain ⟨m, rfl⟩ := Int.eq_ofNat_of_zero_le i0
      have hmn : m < n := by simp only [n]; omega
      have hcm := chi_get (w := w) hmn
      rw [hwk] at hcm
      have hwg : wd[m]? = some (!decide (m ∈ w)) := by rw [← hwd, List.getElem?_map, hcm]; rfl
      have hd := drop_get hwg
      refine s_slices_Contains_int _ _ _ _ _ _ (nats_contains hsl6 m _ ⟨_, rfl, fun hf => ?_, fun ht => ⟨by unfold InI; omega, ⟨by omega, by omega, ?_⟩, by dsimp only; omega⟩⟩)
      · rw [show decide (m ∈ w) = false by simpa using hf] at hd
        obtain ⟨e1, e2⟩ := fstB_hit i0 (by rw [Int.toNat_natCast]; exact hd) heq
        rw [if_pos e2, e1] at hK; exact hK
      · rw [show decide (m ∈ w) = true by simpa using ht] at hd
        exact fstB_miss i0 (by rw [Int.toNat_natCast]; exact hd) heq
    · rw [List.drop_of_length_le (by omega), fstB] at heq
      rw [if_neg (by rw [← heq]; simp)] at hK; exact hK
end Go.Proofs.Ytifkffmecfgpeaa.core
