/- Contracts of functions: what each answers at every input that its caller may hand it. No condition. -/
import Derived.Test.YtifkffmecfgpeaaWell3X
namespace Go.Proofs.Ytifkffmecfgpeaa.core
open Go.Gx Go.RowKit Go.ChangeShapes Go.WideShapes Go.ChangeAt
/-! ### The reference's facts: bits -/

def enc (f : Fa) : Int := (if f.Empty then 1 else 0) + (if f.Eats then 2 else 0) + (if f.Fails then 4 else 0)
abbrev encC (f : Fa) : List Value := [.int .i64 (enc f)]
theorem encC_len (f : Fa) : (encC f).length = 1 := rfl
theorem encC_one (f : Fa) : ∀ u ∈ encC f, u.oneCell' = true := by intro u hu; simp at hu; subst hu; rfl

theorem enc3 : ∀ f : Fa, (bAnd .i64 (enc f) 3 > 0) ↔ (f.Empty || f.Eats) = true := by rintro ⟨_ | _, _ | _, _ | _⟩ <;> decide
theorem enc1 : ∀ f : Fa, (bAnd .i64 (enc f) 1 > 0) ↔ f.Empty = true := by rintro ⟨_ | _, _ | _, _ | _⟩ <;> decide
theorem enc2 : ∀ f : Fa, (bAnd .i64 (enc f) 2 > 0) ↔ f.Eats = true := by rintro ⟨_ | _, _ | _, _ | _⟩ <;> decide
theorem enc4z : ∀ f : Fa, ((bAnd .i64 (enc f) 4 : Int) == (0 : Int)) = !f.Fails := by rintro ⟨_ | _, _ | _, _ | _⟩ <;> decide
theorem enc_uni : ∀ a b : Fa, bOr .i64 (enc a) (enc b) = enc (faUni a b) := by rintro ⟨_ | _, _ | _, _ | _⟩ ⟨_ | _, _ | _, _ | _⟩ <;> decide
theorem enc_or : ∀ a b : Fa, a.Fails = true → bOr .i64 (bAnd .i64 (enc a) 3) (enc b) = enc (faOr a b) := by rintro ⟨_ | _, _ | _, _ | _⟩ ⟨_ | _, _ | _, _ | _⟩ h <;> first | (exact absurd h (by decide)) | decide
theorem enc_star : ∀ a : Fa, bOr .i64 (bAnd .i64 (enc a) 2) (bAnd .i64 (bShr .i64 (enc a) 2) 1) = enc (faStar a) := by rintro ⟨_ | _, _ | _, _ | _⟩ <;> decide
theorem enc_and : ∀ a : Fa, bOr .i64 (if a.Empty || a.Eats then 1 else 0) (bAnd .i64 (enc a) 4) = enc (faAnd a) := by rintro ⟨_ | _, _ | _, _ | _⟩ <;> decide
theorem enc_not : ∀ a : Fa, bOr .i64 (bAnd .i64 (bShr .i64 (enc a) 2) 1) (bShl .i64 (if a.Empty || a.Eats then 1 else 0) 2) = enc (faNot a) := by rintro ⟨_ | _, _ | _, _ | _⟩ <;> decide
theorem or_stop : ∀ a b : Fa, a.Fails = false → faOr a b = a := by rintro ⟨_ | _, _ | _, _ | _⟩ ⟨_ | _, _ | _, _ | _⟩ h <;> first | (exact absurd h (by decide)) | rfl

theorem d1 (f : Fa) : decide (bAnd .i64 (enc f) 1 > 0) = f.Empty := by rw [Bool.eq_iff_iff, decide_eq_true_iff]; exact enc1 f
theorem d2 (f : Fa) : decide (bAnd .i64 (enc f) 2 > 0) = f.Eats := by rw [Bool.eq_iff_iff, decide_eq_true_iff]; exact enc2 f
theorem all_j4 (out : Int) (c : Bool) (K : Value → Prop) (h : K (.int .i64 (if c then bOr .i64 out 2 else out))) : S_chaffref_mayAll_J4 out c K := by
  unfold S_chaffref_mayAll_J4
  cases c
  · exact ⟨fun e => (by cases e), fun _ => h⟩
  · exact ⟨fun _ => h, fun e => absurd rfl e⟩
def eatsB (a b : Fa) : Bool := (a.Eats && (b.Empty || b.Eats)) || ((a.Empty || a.Eats) && b.Eats)
theorem all_j3 (a b : Fa) (out : Int) (K : Value → Prop) (h : K (.int .i64 (if eatsB a b then bOr .i64 out 2 else out))) : S_chaffref_mayAll_J3 (enc a) (enc b) out K := by
  have q : ∀ c : Bool, c = eatsB a b → S_chaffref_mayAll_J4 out c K := fun c e => all_j4 _ _ _ (e ▸ h)
  unfold S_chaffref_mayAll_J3
  rw [d2, enc2, enc3, enc3]
  clear h
  obtain ⟨a1, a2, a3⟩ := a
  obtain ⟨b1, b2, b3⟩ := b
  refine ⟨fun h1 => ⟨fun h2 => q _ ?_, fun h2 => ⟨fun h3 => q _ ?_, fun h3 => q _ ?_⟩⟩, fun h1 => ⟨fun h3 => q _ ?_, fun h3 => q _ ?_⟩⟩ <;> clear q <;> cases a1 <;> cases a2 <;> cases b1 <;> cases b2 <;> simp_all [eatsB]
theorem all_j2 (a b : Fa) (out : Int) (c : Bool) (K : Value → Prop) (h : K (.int .i64 (if eatsB a b then bOr .i64 (if c then bOr .i64 out 1 else out) 2 else (if c then bOr .i64 out 1 else out)))) : S_chaffref_mayAll_J2 (enc a) (enc b) out c K := by
  unfold S_chaffref_mayAll_J2
  cases c
  · exact ⟨fun e => (by cases e), fun _ => all_j3 _ _ _ _ h⟩
  · exact ⟨fun _ => all_j3 _ _ _ _ h, fun e => absurd rfl e⟩
theorem all_j1 (a b : Fa) (out : Int) (K : Value → Prop) (h : K (.int .i64 (if eatsB a b then bOr .i64 (if a.Empty && b.Empty then bOr .i64 out 1 else out) 2 else (if a.Empty && b.Empty then bOr .i64 out 1 else out)))) : S_chaffref_mayAll_J1 (enc a) (enc b) out K := by
  unfold S_chaffref_mayAll_J1
  rw [d1, enc1]
  refine ⟨fun h1 => all_j2 _ _ _ _ _ ?_, fun h1 => all_j2 _ _ _ _ _ ?_⟩
  · rw [h1, Bool.true_and] at h; exact h
  · have h1 : a.Empty = false := by simpa using h1
    rw [h1, Bool.false_and] at h; exact h
theorem enc_then : ∀ a b : Fa, (if eatsB a b then bOr .i64 (if a.Empty && b.Empty then bOr .i64 (if a.Empty || a.Eats then bOr .i64 (bAnd .i64 (enc a) 4) (bAnd .i64 (enc b) 4) else bAnd .i64 (enc a) 4) 1 else (if a.Empty || a.Eats then bOr .i64 (bAnd .i64 (enc a) 4) (bAnd .i64 (enc b) 4) else bAnd .i64 (enc a) 4)) 2
    else (if a.Empty && b.Empty then bOr .i64 (if a.Empty || a.Eats then bOr .i64 (bAnd .i64 (enc a) 4) (bAnd .i64 (enc b) 4) else bAnd .i64 (enc a) 4) 1 else (if a.Empty || a.Eats then bOr .i64 (bAnd .i64 (enc a) 4) (bAnd .i64 (enc b) 4) else bAnd .i64 (enc a) 4))) = enc (faThen a b) := by
  rintro ⟨_ | _, _ | _, _ | _⟩ ⟨_ | _, _ | _, _ | _⟩ <;> decide
theorem all_step (a b : Fa) (K : Value → Prop) (hK : K (.int .i64 (enc (faThen a b)))) :
    (bAnd .i64 (enc a) 3 > 0 → S_chaffref_mayAll_J1 (enc a) (enc b) (bOr .i64 (bAnd .i64 (enc a) 4) (bAnd .i64 (enc b) 4)) K) ∧ (¬ (bAnd .i64 (enc a) 3 > 0) → S_chaffref_mayAll_J1 (enc a) (enc b) (bAnd .i64 (enc a) 4) K) := by
  rw [← enc_then] at hK
  rw [enc3]
  refine ⟨fun h => all_j1 _ _ _ _ ?_, fun h => all_j1 _ _ _ _ ?_⟩
  · simp only [if_pos h] at hK; exact hK
  · simp only [if_neg h] at hK; exact hK

theorem mayAll_is : ∀ (l : List Fa), l ≠ [] → l.length ≤ 8 → ∀ {A : Option Addr} {n c : Nat} {M : Mem} {K : Value → Prop}, SlV M A n c 1 (cl encC l) → K (.int .i64 (enc (thenR l))) → S_chaffref_mayAll A n c M K
  | [], h, _, _, _, _, _, _, _, _ => absurd rfl h
  | [a], _, _, A, n, c, M, K, hsl, hK => by
    have hn := hsl.len encC_len (by omega)
    obtain ⟨b, o, ha, hat⟩ := hsl.at encC_len hn (i := 0) (x := a) rfl
    simp only [List.length_singleton] at hn
    unfold S_chaffref_mayAll
    refine ⟨fun _ => ⟨b, o, ha, by omega, by omega, _, hat, hK⟩, fun h => absurd (by omega) h⟩
  | a :: x :: l, _, hmx, A, n, c, M, K, hsl, hK => by
    have hn := hsl.len encC_len (by omega)
    obtain ⟨b, o, ha, hat⟩ := hsl.at encC_len hn (i := 0) (x := a) rfl
    simp only [List.length_cons] at hn hmx
    unfold S_chaffref_mayAll
    refine ⟨fun h => by omega, fun _ => ⟨b, o, ha, by omega, by omega, _, hat, by omega, by omega, ?_⟩⟩
    have hrest := hsl.rest 1 (by omega)
    rw [show (1 * 1 : Nat) = 1 * 1 from rfl, cl_drop encC_len 1] at hrest
    refine s_chaffref_mayAll _ _ _ _ _ (mayAll_is (x :: l) (by simp) (by simp; omega) hrest ⟨_, rfl, ?_⟩)
    simp only [thenR] at hK
    exact all_step _ _ _ hK

theorem mayOne_is : ∀ (l : List Fa), l ≠ [] → l.length ≤ 8 → ∀ {A : Option Addr} {n c : Nat} {M : Mem} {K : Value → Prop}, SlV M A n c 1 (cl encC l) → K (.int .i64 (enc (orL l))) → S_chaffref_mayOne A n c M K
  | [], h, _, _, _, _, _, _, _, _ => absurd rfl h
  | [a], _, _, A, n, c, M, K, hsl, hK => by
    have hn := hsl.len encC_len (by omega)
    obtain ⟨b, o, ha, hat⟩ := hsl.at encC_len hn (i := 0) (x := a) rfl
    simp only [List.length_singleton] at hn
    unfold S_chaffref_mayOne
    refine ⟨fun _ => ?_, fun h => absurd (by omega) h⟩
    unfold S_chaffref_mayOne_J1
    exact ⟨fun _ => ⟨b, o, ha, by omega, by omega, _, hat, hK⟩, fun h => absurd rfl h⟩
  | a :: x :: l, _, hmx, A, n, c, M, K, hsl, hK => by
    have hn := hsl.len encC_len (by omega)
    obtain ⟨b, o, ha, hat⟩ := hsl.at encC_len hn (i := 0) (x := a) rfl
    simp only [List.length_cons] at hn hmx
    unfold S_chaffref_mayOne
    refine ⟨fun h => by omega, fun _ => ⟨b, o, ha, by omega, by omega, _, hat, ?_⟩⟩
    unfold S_chaffref_mayOne_J1
    rw [enc4z]
    simp only [orL] at hK
    refine ⟨fun h => ⟨b, o, ha, by omega, by omega, _, hat, ?_⟩, fun h => ⟨b, o, ha, by omega, by omega, _, hat, by omega, by omega, ?_⟩⟩
    · rw [or_stop _ _ (by simpa using h)] at hK; exact hK
    · have hrest := hsl.rest 1 (by omega)
      rw [show (1 * 1 : Nat) = 1 * 1 from rfl, cl_drop encC_len 1] at hrest
      refine s_chaffref_mayOne _ _ _ _ _ (mayOne_is (x :: l) (by simp) (by simp; omega) hrest ⟨_, rfl, ?_⟩)
      rw [enc_or _ _ (by simpa using h)]; exact hK

theorem may_is {rs : List Ru} {kn : List Fa} {ga ra : Option Addr} {gl gc rc : Nat} (hlen : kn.length = rs.length) : ∀ (n : Nat) (e : Ex), SizeOf.sizeOf e < n → ∀ {M : Mem} {x : X_api_Expr} {K : Value → Prop}, ExR M e x → GrR M rs ga gl gc →
    SlV M ra kn.length rc 1 (cl encC kn) → GoodE rs e → K (.int .i64 (enc (ofE rs kn e))) → S_chaffref_May ga gl gc ra kn.length rc x M K := by
  intro n
  induction n with
  | zero => intro e h; omega
  | succ n ih =>
    intro e hn M x K hR hg hkn hgood hK
    obtain ⟨xs, hx⟩ := hR.open
    obtain ⟨g1, g2, g3, g4, g5, g6, g7, g8⟩ := fitE_kinds hgood.fit
    have hl8 : e.kids.length ≤ 8 := by
      by_cases h4 : e.kind ≤ 4
      · rw [g3 h4]; simp
      · by_cases h7 : 7 ≤ e.kind
        · have := g5 h7; omega
        · exact (g4 (by omega)).2
    rw [ofE_eq] at hK
    have hL : ∀ (i : Nat) k, e.kids[i]? = some k → (e.kids.map (ofE rs kn))[i]? = some (ofE rs kn k) := fun i k hk => by rw [List.getElem?_map, hk]; rfl
    generalize hLd : e.kids.map (ofE rs kn) = l at hK hL
    have hll : l.length = e.kids.length := by rw [← hLd]; simp
    have he' : cellsEq [x.Set.w0, x.Set.w1, x.Set.w2, x.Set.w3] [0, 0, 0, 0] = zs e.set := by rw [← hx.set]; rfl
    unfold opF at hK
    have j1 : ∀ b : Bool, e.kind ≠ 1 → (b = true → e.kind = 2 ∧ zs e.set = true) → (b = false → e.kind = 2 → zs e.set = false) → S_chaffref_May_J1 ga gl gc ra kn.length rc x M b K := by
      intro b n1 hb1 hb2
      rw [if_neg n1] at hK
      unfold S_chaffref_May_J1
      rw [hx.kind]
      refine ⟨fun h => ?_, fun h => ⟨fun h3 => ?_, fun n3 => ⟨fun h4 => ?_, fun n4 => ?_⟩⟩⟩
      · obtain ⟨q1, q2⟩ := hb1 h
        rw [if_pos q1, q2] at hK; exact hK
      · by_cases h2 : e.kind = 2
        · rw [if_pos h2, hb2 (by simpa using h) h2] at hK; exact hK
        · rw [if_neg h2, if_pos (by omega)] at hK; exact hK
      · rw [if_neg (by omega), if_neg (by omega), if_pos h4] at hK
        have hr := hgood.ref h4
        obtain ⟨hlt, hlt'⟩ := findR_lt hr
        obtain ⟨a, ha⟩ := getN (l := kn) (i := (findR e.text rs 0).toNat) (by omega)
        obtain ⟨b, o, hb, hat⟩ := hkn.at encC_len rfl ha
        rw [hx.text]
        refine s_chaffref_Find _ _ _ _ _ _ (rfind_is hg e.text _ ⟨_, rfl, b, o, hb, hr, by omega, _, hat, ?_⟩)
        rw [refF, ha] at hK; exact hK
      · rw [if_neg (by omega), if_neg (by omega), if_neg n4] at hK
        refine ⟨fun i rn rx => 0 ≤ i ∧ i ≤ l.length ∧ rn = i.toNat ∧ rx = cl encC (l.take i.toNat), fun i _ _ => l.length - i.toNat, ⟨by omega, by omega, rfl, rfl⟩, fun i rn rx ⟨i0, i1, hrn, hrx⟩ => ⟨fun hlt => ?_, fun hge => ?_⟩⟩
        · rw [hx.len] at hlt
          subst hrn hrx
          obtain ⟨k, hk⟩ := getI (l := e.kids) i0 hlt
          obtain ⟨b, o, y, ha, hat, hy, _⟩ := hx.kid hk
          have hmem := List.mem_of_getElem? hk
          refine ⟨b, o, ha, i0, by rw [hx.len]; exact hlt, y, hat, s_chaffref_May _ _ _ _ _ _ _ _ _ (ih k (by have := Ex.kid_lt hmem; omega) hy hg hkn (hgood.kid k hmem) ⟨_, rfl, by omega, by unfold InI; omega, ⟨by omega, by omega, by omega, ?_⟩, by dsimp only; omega⟩)⟩
          rw [show (i + 1).toNat = i.toNat + 1 by omega, take_get (hL _ k hk)]
          exact cl_snoc (f := encC) (l.take i.toNat) (ofE rs kn k)
        · rw [hx.len] at hge
          have hil : i.toNat = l.length := by omega
          rw [hil, List.take_length] at hrx
          rw [hil] at hrn
          subst hrn hrx
          refine ⟨fun h5 => fun M2 ad cap hle hsl => ?_, fun n5 => ⟨fun h6 => fun M2 ad cap hle hsl => ?_, fun n6 => ?_⟩⟩
          · rw [if_pos h5, thenL_R] at hK
            have := g4 (.inl h5)
            exact s_chaffref_mayAll _ _ _ _ _ (mayAll_is l (by intro h0; rw [h0] at hll; simp at hll; omega) (by omega) hsl ⟨_, rfl, hK⟩)
          · rw [if_neg n5, if_pos h6] at hK
            have := g4 (.inr h6)
            exact s_chaffref_mayOne _ _ _ _ _ (mayOne_is l (by intro h0; rw [h0] at hll; simp at hll; omega) (by omega) hsl ⟨_, rfl, hK⟩)
          · rw [if_neg n5, if_neg n6] at hK
            have h1 := g5 (by omega)
            obtain ⟨a, rfl⟩ : ∃ a, l = [a] := List.length_eq_one_iff.1 (by omega)
            simp only [hdF, List.headD_cons] at hK
            refine ⟨by omega, by simp, enc a, by unfold Cs; rfl, fun h7 => ?_, fun n7 => ⟨fun h8 M2 ad cap hle hsl => ?_, fun n8 => ⟨fun h9 M2 ad cap hle hsl => ?_, fun n9 => ?_⟩⟩⟩
            · rw [if_pos h7] at hK; rw [enc_star]; exact hK
            · rw [if_neg n7, if_pos h8] at hK
              rw [enc_star] at hsl
              exact s_chaffref_mayAll _ _ _ _ _ (mayAll_is [a, faStar a] (by simp) (by simp) hsl ⟨_, rfl, hK⟩)
            · rw [if_neg n7, if_neg n8, if_pos h9] at hK
              exact s_chaffref_mayOne _ _ _ _ _ (mayOne_is [a, ⟨true, false, false⟩] (by simp) (by simp) hsl ⟨_, rfl, hK⟩)
            · rw [if_neg n7, if_neg n8, if_neg n9] at hK
              have j2 : ∀ s : Int, s = (if a.Empty || a.Eats then 1 else 0) → S_chaffref_May_J2 x (enc a) s K := by
                rintro s rfl
                unfold S_chaffref_May_J2
                rw [hx.kind]
                refine ⟨fun h => ?_, fun h => ?_⟩
                · rw [if_pos h] at hK
                  rw [show bOr .i64 (if a.Empty || a.Eats then 1 else 0) (bAnd .i64 (enc a) 4) = enc (faAnd a) from enc_and a]; exact hK
                · rw [if_neg h] at hK
                  rw [show bOr .i64 (bAnd .i64 (bShr .i64 (enc a) 2) 1) (bShl .i64 (if a.Empty || a.Eats then 1 else 0) 2) = enc (faNot a) from enc_not a]; exact hK
              exact ⟨fun h => j2 _ (by rw [if_pos ((enc3 a).1 h)]), fun h => j2 _ (by rw [if_neg (fun q => h ((enc3 a).2 q))])⟩
    unfold S_chaffref_May
    rw [hx.kind, he']
    refine ⟨fun h => ?_, fun n1 => ⟨fun h => j1 _ n1 (fun h' => ⟨h, h'⟩) (fun h' _ => h'), fun n2 => j1 _ n1 (fun h => by cases h) (fun _ h => absurd h n2)⟩⟩
    rw [if_pos h] at hK; exact hK

theorem mix_set {α : Type} {j k : List α} {i : Nat} {b : α} (hl : j.length = k.length) (hb : j[i]? = some b) : (j.take i ++ k.drop i).set i b = j.take (i + 1) ++ k.drop (i + 1) := by
  have hi := (List.getElem?_eq_some_iff.1 hb).1
  obtain ⟨x, hx⟩ := getN (l := k) (i := i) (by omega)
  rw [drop_get hx, take_get hb, List.set_append_right _ _ (by simp; omega), List.length_take, Nat.min_eq_left (by omega), Nat.sub_self, List.set_cons_zero, List.append_assoc]
  rfl
theorem mix_get {α : Type} {j k : List α} {i : Nat} {a : α} (hl : j.length = k.length) (ha : k[i]? = some a) : (j.take i ++ k.drop i)[i]? = some a := by
  have hi := (List.getElem?_eq_some_iff.1 ha).1
  rw [drop_get ha, List.getElem?_append_right (by simp; omega), List.length_take, Nat.min_eq_left (by omega), Nat.sub_self]; rfl

theorem mays_is {rs : List Ru} {ga : Option Addr} {gl gc : Nat} {M : Mem} (hok : GramOk rs) (hg : GrR M rs ga gl gc) (K : Value → Mem → Prop)
    (hK : ∀ M' ad cap kn, M.le M' → SlV M' ad rs.length cap 1 (cl encC kn) → Lfp faLe (Fof rs) rs.length kn → K (.slice ad rs.length cap) M') : S_chaffref_Mays ga gl gc M K := by
  have h1 := hok.one
  have h10 := hok.ten
  have hF := Fof_mono rs rs.length
  unfold S_chaffref_Mays
  rw [hg.len]
  simp only [Int.toNat_natCast]
  refine ⟨by omega, by omega, by omega, by unfold InI; omega, by unfold InI; omega, ?_⟩
  have hjl : ∀ k, (jacN faUni (Fof rs) k (List.replicate rs.length fa0)).length = rs.length := fun k => by rw [jacN_len]; simp
  refine ⟨fun x rn rx => 0 ≤ x ∧ x ≤ 3 * rs.length + 1 ∧ rn = rs.length ∧ rx = cl encC (jacN faUni (Fof rs) x.toNat (List.replicate rs.length fa0)), fun x _ _ => 3 * rs.length + 1 - x.toNat, ⟨by omega, by omega, rfl, (cl_replicate encC rs.length fa0).symm⟩, fun x rn rx ⟨x0, x1, hrn, hrx⟩ => ⟨fun hlt => ?_, fun hge => ?_⟩⟩
  · intro M2 ad cap hle hsl
    subst hrn hrx
    generalize hkn : jacN faUni (Fof rs) x.toNat (List.replicate rs.length fa0) = kn at hsl ⊢
    have hkl : kn.length = rs.length := by rw [← hkn]; exact hjl _
    refine s_slices_Clone_int _ _ _ _ _ ⟨fun hnil => ?_, fun _ => ⟨_, hsl, cl_one' encC_one kn, by omega, ?_⟩⟩
    · obtain ⟨b, o, ha, _⟩ := hsl.2.2.2 (by omega)
      rw [ha] at hnil; cases hnil
    · rw [show 0 + rs.length = rs.length from Nat.zero_add _, List.nil_append]
      have hjk : (jac faUni (Fof rs) kn).length = kn.length := jac_len kn
      refine ⟨fun i rn rx => 0 ≤ i ∧ i ≤ rs.length ∧ rn = rs.length ∧ rx = cl encC ((jac faUni (Fof rs) kn).take i.toNat ++ kn.drop i.toNat), fun i _ _ => rs.length - i.toNat, ⟨by omega, by omega, rfl, by simp⟩, fun i rn rx ⟨i0, i1, hrn, hrx⟩ => ⟨fun hlt2 => ?_, fun hge2 => ?_⟩⟩
      · subst hrn hrx
        obtain ⟨r, x2, b, o, hr, ha, hat, hrr⟩ := hg.at i0 (by rw [hg.len]; exact hlt2)
        obtain ⟨a, hka⟩ := getN (l := kn) (i := i.toNat) (by omega)
        refine ⟨b, o, ha, i0, hlt2, x2, hat, i0, hlt2, enc a, ?_, fun M3 ad3 cap3 hle3 hsl3 => ?_⟩
        · exact cl_Cs encC_len (mix_get hjk hka)
        · rw [← hkl] at hsl3 ⊢
          refine s_chaffref_May _ _ _ _ _ _ _ _ _ (may_is hkl _ r.body (Nat.lt_succ_self _) (hrr.2.2.le hle3) (hg.le hle3 |> fun h => by rw [hg.len, ← hkl] at h; exact h) hsl3 (hok.good r (List.mem_of_getElem? hr)) ⟨_, rfl, i0, by omega, by unfold InI; omega, ⟨by omega, by omega, rfl, ?_⟩, by dsimp only; omega⟩)
          rw [enc_uni, show (i + 1).toNat = i.toNat + 1 by omega]
          have hj := jac_get (ju := faUni) (F := Fof rs) hka
          have hFo : Fof rs kn i.toNat = ofE rs kn r.body := by unfold Fof; rw [hr]
          rw [hFo] at hj
          rw [← mix_set hjk hj]
          exact cl_put encC_len _ (by simp only [List.length_append, List.length_take, List.length_drop]; omega)
      · subst hrn hrx
        refine ⟨by unfold InI; omega, ⟨by omega, by omega, rfl, ?_⟩, by dsimp only; omega⟩
        rw [show i.toNat = rs.length by omega, List.take_of_length_le (by omega), List.drop_of_length_le (by omega), List.append_nil, show (x + 1).toNat = x.toNat + 1 by omega, jacN, hkn]
  · intro M2 ad cap hle hsl M3 hle3
    subst hrn hrx
    refine hK M3 ad cap _ (hle.trans hle3) (hsl.le hle3) (jac_lfp faLat hF fa0 (fun a => ⟨fun h => (by cases h), fun h => (by cases h), fun h => (by cases h)⟩) _ ?_)
    omega
end Go.Proofs.Ytifkffmecfgpeaa.core
