/- Contracts of functions: what each answers at every input that its caller may hand it. No condition. -/
import Derived.Test.YtaljnkggjadonaaFirstG
import Derived.Test.YtaljnkggjadonaaWell8X
import Derived.Test.YtaljnkggjadonaaSetMX
namespace Go.Proofs.Ytaljnkggjadonaa.core
open Go.Gx Go.RowKit Go.ChangeShapes Go.WideShapes Go.ChangeAt
/-! ### With what something may begin -/

theorem wkB_leF {v z : List Bool} (h : leL bLe v z) {j : Nat} (hj : wkB v j = true) : wkB z j = true := by
  unfold wkB at hj ⊢
  cases hv : v[j]? with
  | none => rw [hv] at hj; cases hj
  | some a =>
    obtain ⟨b, hb⟩ := getN (l := z) (i := j) (by have := (List.getElem?_eq_some_iff.1 hv).1; have := h.1; omega)
    rw [hv] at hj
    rw [hb]; exact h.2 j a b hv hb hj
theorem At.ofAddF {M : Mem} {b : Nat} {vs : List Value} {t : TypeId} {f : Nat × Nat} : At (M.add b (.cells vs.toArray t f)) b 0 vs := by
  intro j v hj
  unfold Mem.cell
  rw [Mem.add_eq, Nat.zero_add]
  simpa using hj


def fstC (t : List UInt8) (b : Nat) : Bool := match t with
  | c :: _ => decide (c.toNat = b)
  | [] => false
mutual
def bgE (rs : List Ru) (kn : List Fa) (v : List Bool) (b : Nat) : Ex → Bool
  | .mk k s t ks => if k = 2 then bitS s b else if k = 3 then fstC t b else if k = 4 then wkB v (findR t rs 0).toNat
    else if k ≥ 10 then false else bgK rs kn v b (decide (k = 5)) ks
def bgK (rs : List Ru) (kn : List Fa) (v : List Bool) (b : Nat) (q : Bool) : List Ex → Bool
  | [] => false
  | k :: ks => bgE rs kn v b k || (if q && !(ofE rs kn k).Empty then false else bgK rs kn v b q ks)
end
theorem bgE_eq (rs : List Ru) (kn : List Fa) (v : List Bool) (b : Nat) (e : Ex) : bgE rs kn v b e = if e.kind = 2 then bitS e.set b else if e.kind = 3 then fstC e.text b else if e.kind = 4 then wkB v (findR e.text rs 0).toNat
    else if e.kind ≥ 10 then false else bgK rs kn v b (decide (e.kind = 5)) e.kids := by
  cases e; rw [bgE]; rfl
mutual
theorem bgE_mono {rs : List Ru} {kn : List Fa} {v z : List Bool} {b : Nat} (h : leL bLe v z) : ∀ e : Ex, bgE rs kn v b e = true → bgE rs kn z b e = true
  | .mk k s t ks => by
    rw [bgE, bgE]
    split; · exact id
    split; · exact id
    split; · exact fun hj => wkB_leF h hj
    split; · exact id
    exact bgK_mono h _ ks
theorem bgK_mono {rs : List Ru} {kn : List Fa} {v z : List Bool} {b : Nat} (h : leL bLe v z) (q : Bool) : ∀ ks : List Ex, bgK rs kn v b q ks = true → bgK rs kn z b q ks = true
  | [] => id
  | k :: ks => by
    rw [bgK, bgK, Bool.or_eq_true, Bool.or_eq_true]
    refine Or.imp (bgE_mono h k) ?_
    split
    · exact id
    · exact bgK_mono h q ks
end
def Gbg (rs : List Ru) (kn : List Fa) (b : Nat) (v : List Bool) (i : Nat) : Bool := match rs[i]? with
  | some r => bgE rs kn v b r.body
  | none => false
theorem Gbg_mono (rs : List Ru) (kn : List Fa) (b n : Nat) : MonoF bLe (Gbg rs kn b) n := fun a z i _ _ h => by
  unfold Gbg
  split
  · exact bgE_mono h _
  · exact id
def bgOf (rs : List Ru) (b : Nat) : List Bool := jacN (· || ·) (Gbg rs (knOf rs) b) (rs.length + 1) (List.replicate rs.length false)
theorem bgOf_lfp (rs : List Ru) (b : Nat) : Lfp bLe (Gbg rs (knOf rs) b) rs.length (bgOf rs b) := jac_lfp bLat (Gbg_mono rs _ _ _) false (fun a h => (by cases h)) _ (by omega)
theorem bgOf_eq {rs : List Ru} {b : Nat} {v : List Bool} (h : Lfp bLe (Gbg rs (knOf rs) b) rs.length v) : v = bgOf rs b := h.same bLat (bgOf_lfp rs b)
/-- The sets, rule by rule. -/
def fsOf (rs : List Ru) : List X_api_Set := (List.range rs.length).map fun i => Us fun b => wkB (bgOf rs b) i

/-! #### Sets as a lattice -/
abbrev SS := { s : X_api_Set // wfS s }
def sLe (a b : SS) : Prop := ∀ x, x < 256 → bitS a.1 x = true → bitS b.1 x = true
def sJu (a b : SS) : SS := ⟨Us fun x => bitS a.1 x || bitS b.1 x, Us_wf _⟩
def sWt (a : SS) : Nat := (List.range 256).countP (bitS a.1)
theorem countP_lt {α : Type} {p q : α → Bool} : ∀ {l : List α}, (∀ x ∈ l, p x = true → q x = true) → (∃ x ∈ l, p x = false ∧ q x = true) → l.countP p < l.countP q
  | [], _, ⟨x, h, _⟩ => by cases h
  | a :: l, h, ⟨x, hx, h1, h2⟩ => by
    have hm := List.countP_mono_left (l := l) (p := p) (q := q) fun x hx => h x (by simp [hx])
    rw [List.countP_cons, List.countP_cons]
    rcases List.mem_cons.1 hx with rfl | hx
    · simp only [h1, h2, if_true]; simp; omega
    · have ih := countP_lt (l := l) (fun x hx => h x (by simp [hx])) ⟨x, hx, h1, h2⟩
      have := h a (by simp)
      cases hp : p a <;> cases hq : q a <;> simp [hp, hq] at this ⊢ <;> omega
theorem sLat : Lat sLe sJu sWt 256 where
  refl := fun a x _ h => h
  trans := fun h k x hx hb => k x hx (h x hx hb)
  anti := fun {a b} h k => Subtype.ext (set_ext a.2 b.2 fun x hx => by
    have h1 := h x hx
    have h2 := k x hx
    cases ha : bitS a.1 x <;> cases hb : bitS b.1 x <;> simp_all)
  left := fun a b x hx h => by show bitS (Us _) x = true; rw [bit_Us hx, h]; rfl
  right := fun a b x hx h => by show bitS (Us _) x = true; rw [bit_Us hx, h, Bool.or_true]
  least := fun {a b c} h k x hx hb => by
    have hb : bitS (Us fun x => bitS a.1 x || bitS b.1 x) x = true := hb
    rw [bit_Us hx, Bool.or_eq_true] at hb
    exact hb.elim (h x hx) (k x hx)
  mono := fun h => List.countP_mono_left fun x hx => h x (List.mem_range.1 hx)
  strict := fun {a b} h hne => countP_lt (fun x hx => h x (List.mem_range.1 hx)) (by
    by_cases hex : ∃ x ∈ List.range 256, bitS a.1 x = false ∧ bitS b.1 x = true
    · exact hex
    · refine absurd (Subtype.ext (set_ext a.2 b.2 fun x hx => ?_)) hne
      have h1 := h x hx
      cases ha : bitS a.1 x with
      | true => rw [h1 ha]
      | false =>
        cases hb : bitS b.1 x with
        | false => rfl
        | true => exact absurd ⟨x, List.mem_range.2 hx, ha, hb⟩ hex)
  bound := fun a => by
    have := List.countP_le_length (l := List.range 256) (p := bitS a.1)
    rw [List.length_range] at this; exact this

def colB (sk : List SS) (b : Nat) : List Bool := sk.map fun s => bitS s.1 b
def FsS (rs : List Ru) (kn : List Fa) (sk : List SS) (i : Nat) : SS := ⟨Us fun b => Gbg rs kn b (colB sk b) i, Us_wf _⟩
theorem colB_le {a z : List SS} (h : leL sLe a z) {b : Nat} (hb : b < 256) : leL bLe (colB a b) (colB z b) := by
  refine ⟨by simp [colB, h.1], fun i x y hx hy => ?_⟩
  unfold colB at hx hy
  rw [List.getElem?_map] at hx hy
  cases ha : a[i]? with
  | none => rw [ha] at hx; cases hx
  | some p =>
    cases hz : z[i]? with
    | none => rw [hz] at hy; cases hy
    | some q =>
      rw [ha] at hx; rw [hz] at hy
      simp only [Option.map_some, Option.some.injEq] at hx hy
      subst hx hy
      exact h.2 i p q ha hz b hb
theorem FsS_mono (rs : List Ru) (kn : List Fa) (n : Nat) : MonoF sLe (FsS rs kn) n := fun a z i hi hl h x hx hb => by
  have hb : bitS (Us fun b => Gbg rs kn b (colB a b) i) x = true := hb
  show bitS (Us fun b => Gbg rs kn b (colB z b) i) x = true
  rw [bit_Us hx] at hb ⊢
  exact Gbg_mono rs kn x n _ _ i hi (by simp [colB, hl]) (colB_le h hx) hb
theorem colB_get {sk : List SS} {i : Nat} {s : SS} (h : sk[i]? = some s) (b : Nat) : (colB sk b)[i]? = some (bitS s.1 b) := by unfold colB; rw [List.getElem?_map, h]; rfl

/-- The sets that are closed are, byte by byte, the bools that are. -/
theorem fs_eq {rs : List Ru} {sk : List SS} (h : Lfp sLe (FsS rs (knOf rs)) rs.length sk) : sk.map (·.1) = fsOf rs := by
  have hcol : ∀ b, b < 256 → colB sk b = bgOf rs b := fun b hb => by
    refine bgOf_eq ⟨by simp [colB, h.len], fun i a ha => ?_, fun z hz hc => ?_⟩
    · have hi : i < sk.length := by have := (List.getElem?_eq_some_iff.1 ha).1; simpa [colB] using this
      obtain ⟨s, hs⟩ := getN hi
      rw [colB_get hs] at ha
      simp only [Option.some.injEq] at ha
      subst ha
      intro ht
      exact h.shut i s hs b hb (by show bitS (Us _) b = true; rw [bit_Us hb]; exact ht)
    · let Z : List SS := z.map fun t => ⟨Us fun x => if x = b then t else true, Us_wf _⟩
      have hZb : colB Z b = z := by
        apply List.ext_getElem?
        intro i
        unfold colB
        simp only [Z, List.map_map, List.getElem?_map]
        cases z[i]? with
        | none => rfl
        | some t => show some (bitS (Us fun x => if x = b then t else true) b) = some t; rw [bit_Us hb]; simp
      have hle := h.low Z (by simp [Z, hz]) fun i s hs x hx hbit => by
        have hs' : (z[i]?).map (fun t => (⟨Us fun x => if x = b then t else true, Us_wf _⟩ : SS)) = some s := by rw [← List.getElem?_map]; exact hs
        cases hzi : z[i]? with
        | none => rw [hzi] at hs'; cases hs'
        | some t =>
          rw [hzi] at hs'
          simp only [Option.map_some, Option.some.injEq] at hs'
          subst hs'
          show bitS (Us fun x => if x = b then t else true) x = true
          rw [bit_Us hx]
          split
          · rename_i hxb
            subst hxb
            have hbit : bitS (Us fun y => Gbg rs (knOf rs) y (colB Z y) i) x = true := hbit
            rw [bit_Us hx, hZb] at hbit
            exact hc i t hzi hbit
          · rfl
      have := colB_le hle hb
      rw [hZb] at this; exact this
  apply List.ext_getElem?
  intro i
  unfold fsOf
  rw [List.getElem?_map, List.getElem?_map]
  by_cases hi : i < rs.length
  · obtain ⟨s, hs⟩ := getN (l := sk) (i := i) (by rw [h.len]; exact hi)
    rw [hs, List.getElem?_range hi]
    simp only [Option.map_some, Option.some.injEq]
    refine set_ext s.2 (Us_wf _) fun b hb => ?_
    rw [bit_Us hb, ← hcol b hb, wkB, colB_get hs]; rfl
  · rw [List.getElem?_eq_none (by rw [h.len]; omega), List.getElem?_eq_none (by simp; omega)]; rfl

/-! #### The program's -/

theorem Xs_len (x : X_api_Set) : x.cells.length = 4 := rfl
abbrev ssC (s : SS) : List Value := s.1.cells
theorem ssC_len (s : SS) : (ssC s).length = 4 := rfl
theorem ssC_map (l : List SS) : cl ssC l = cl X_api_Set.cells (l.map (·.1)) := by unfold cl; rw [List.map_map]; rfl

theorem u8w (c : UInt8) : IntKind.wrap .i64 (c.toNat : Int) = (c.toNat : Int) := by
  have := c.toNat_lt
  exact wrap_in (by unfold InI; omega)

structure FinR (M : Mem) (rs : List Ru) (b : Nat) (ga fa ka : Option Addr) (gl gc fl fc kl kc : Nat) (sk : List SS) : Prop where
  g : At M b 0 [Value.slice ga gl gc]
  f : At M b 1 [Value.slice fa fl fc]
  k : At M b 2 [Value.slice ka kl kc]
  gr : GrR M rs ga gl gc
  fs : SlV M fa fl fc 3 (cl X_api_Facts.cells (knOf rs))
  ks : SlV M ka kl kc 4 (cl ssC sk)
theorem FinR.le {M M' : Mem} {rs : List Ru} {b : Nat} {ga fa ka : Option Addr} {gl gc fl fc kl kc : Nat} {sk : List SS} (h : FinR M rs b ga fa ka gl gc fl fc kl kc sk) (hl : M.le M') : FinR M' rs b ga fa ka gl gc fl fc kl kc sk :=
  ⟨h.g.le hl, h.f.le hl, h.k.le hl, h.gr.le hl, h.fs.le hl, h.ks.le hl⟩

theorem fof_is {rs : List Ru} {b : Nat} {ga fa ka : Option Addr} {gl gc fl fc kl kc : Nat} {sk : List SS} (hskl : sk.length = rs.length) : ∀ (n : Nat) (e : Ex), SizeOf.sizeOf e < n → ∀ {M : Mem} {x : X_api_Expr} {L : Nat → Prop} {K : Value → Mem → Prop}, ExR M e x → FinR M rs b ga fa ka gl gc fl fc kl kc sk → GoodE rs e →
    (∀ M', M.le M' → K (Us fun c => bgE rs (knOf rs) (colB sk c) c e).val M') → S_first_finder_of (some ⟨b, 0, none⟩) x M L K := by
  intro n
  induction n with
  | zero => intro e h; omega
  | succ n ih =>
    intro e hn M x L K hR hF hgood hK
    obtain ⟨xs, hx⟩ := hR.open
    obtain ⟨g1, g2, g3, g4, g5, g6, g7, g8⟩ := fitE_kinds hgood.fit
    have hl8 := kids8 hgood
    have hgl := hF.gr.len
    have hkl := knOf_len rs
    have hfl := hF.fs.len Xf_len (by omega)
    have hsl := hF.ks.len ssC_len (by omega)
    have key : ∀ p : Nat → Bool, (∀ c, c < 256 → p c = bgE rs (knOf rs) (colB sk c) c e) → ∀ M', M.le M' → K (Us p).val M' := fun p hp M' hle => by rw [Us_congr hp]; exact hK M' hle
    unfold S_first_finder_of
    rw [hx.kind]
    have j1 : ∀ v : Bool, e.kind ≠ 2 → e.kind ≠ 3 → e.kind ≠ 4 → v = decide (e.kind ≥ 10) → S_first_finder_of_J1 (some ⟨b, 0, none⟩) x M L v K := by
      intro v n2 n3 n4 hv
      unfold S_first_finder_of_J1
      refine ⟨fun ht M' hle => ?_, fun hf => ?_⟩
      · have h0 : (⟨0, 0, 0, 0⟩ : X_api_Set) = Us fun _ => false := rfl
        rw [h0]
        refine key _ (fun c hc => ?_) M' hle
        rw [ht] at hv
        rw [bgE_eq, if_neg n2, if_neg n3, if_neg n4, if_pos (of_decide_eq_true hv.symm)]
      · have h10 : ¬ e.kind ≥ 10 := fun h => hf (by rw [hv]; exact decide_eq_true h)
        have hbg : ∀ c, bgE rs (knOf rs) (colB sk c) c e = bgK rs (knOf rs) (colB sk c) c (decide (e.kind = 5)) e.kids := fun c => by rw [bgE_eq, if_neg n2, if_neg n3, if_neg n4, if_neg h10]
        refine ⟨Unit, fun _ i c0 c1 c2 c3 M1 => 0 ≤ i ∧ i ≤ e.kids.length ∧ M.le M1 ∧ ∃ p : Nat → Bool, (⟨c0, c1, c2, c3⟩ : X_api_Set) = Us p ∧ ∀ c, c < 256 → (p c || bgK rs (knOf rs) (colB sk c) c (decide (e.kind = 5)) (e.kids.drop i.toNat)) = bgE rs (knOf rs) (colB sk c) c e, fun _ i _ _ _ _ => e.kids.length - i.toNat, (), ⟨by omega, by omega, Mem.le.refl M, fun _ => false, rfl, fun c _ => by rw [hbg]; rfl⟩, fun _ i c0 c1 c2 c3 M1 ⟨i0, i1, hM1, p, hp, htot⟩ => ⟨fun hlt => ?_, fun hge => ?_⟩⟩
        · rw [hx.len] at hlt
          obtain ⟨k, hk⟩ := getI (l := e.kids) i0 hlt
          obtain ⟨xs1, hx1⟩ := (hR.le hM1).open
          obtain ⟨b1, o1, y, ha, hat, hy, _⟩ := hx1.kid hk
          have hmem := List.mem_of_getElem? hk
          have hgk := hgood.kid k hmem
          rw [drop_get hk] at htot
          refine ⟨b1, o1, ha, i0, by rw [hx.len]; exact hlt, y, hat, s_first_finder_of _ _ _ _ _ (ih k (by have := Ex.kid_lt hmem; omega) hy (hF.le hM1) hgk fun M2 hle2 => ⟨_, rfl, ?_⟩)⟩
          have hF2 := hF.le (hM1.trans hle2)
          refine s_set_Join _ _ _ _ (join_is (by rw [hp]; exact Us_wf _) (Us_wf _) _ ⟨_, rfl, ?_⟩)
          have hq : (Us fun c => bitS ⟨c0, c1, c2, c3⟩ c || bitS (Us fun c => bgE rs (knOf rs) (colB sk c) c k) c) = Us fun c => p c || bgE rs (knOf rs) (colB sk c) c k := Us_congr fun c hc => by rw [hp, bit_Us hc, bit_Us hc]
          rw [hq]
          have j4 : (∀ c, c < 256 → (p c || bgE rs (knOf rs) (colB sk c) c k) = bgE rs (knOf rs) (colB sk c) c e) → S_first_finder_of_J4 (Us fun c => p c || bgE rs (knOf rs) (colB sk c) c k).w0 (Us fun c => p c || bgE rs (knOf rs) (colB sk c) c k).w1 (Us fun c => p c || bgE rs (knOf rs) (colB sk c) c k).w2 (Us fun c => p c || bgE rs (knOf rs) (colB sk c) c k).w3 M2 K := fun h M' hle => key _ h M' ((hM1.trans hle2).trans hle)
          have j3 : ∀ v : Bool, v = (decide (e.kind = 5) && !(ofE rs (knOf rs) k).Empty) → S_first_finder_of_J3 i c0 c1 c2 c3 Unit () (fun _ i c0 c1 c2 c3 M1 => 0 ≤ i ∧ i ≤ e.kids.length ∧ M.le M1 ∧ ∃ p : Nat → Bool, (⟨c0, c1, c2, c3⟩ : X_api_Set) = Us p ∧ ∀ c, c < 256 → (p c || bgK rs (knOf rs) (colB sk c) c (decide (e.kind = 5)) (e.kids.drop i.toNat)) = bgE rs (knOf rs) (colB sk c) c e) (fun _ i _ _ _ _ => e.kids.length - i.toNat) (Us fun c => p c || bgE rs (knOf rs) (colB sk c) c k).w0 (Us fun c => p c || bgE rs (knOf rs) (colB sk c) c k).w1 (Us fun c => p c || bgE rs (knOf rs) (colB sk c) c k).w2 (Us fun c => p c || bgE rs (knOf rs) (colB sk c) c k).w3 M2 v K := by
            intro v hv
            unfold S_first_finder_of_J3
            refine ⟨fun ht => j4 fun c hc => ?_, fun hf => ⟨by unfold InI; omega, (), ⟨by omega, by omega, hM1.trans hle2, _, rfl, fun c hc => ?_⟩, by dsimp only; omega⟩⟩
            · have := htot c hc
              rw [bgK, ← hv, ht, if_pos rfl, Bool.or_false] at this; exact this
            · have := htot c hc
              rw [bgK, ← hv, if_neg (by simpa using hf), ← Bool.or_assoc] at this
              rw [show (i + 1).toNat = i.toNat + 1 by omega]; exact this
          unfold S_first_finder_of_J2
          rw [hx.kind]
          refine ⟨fun h5 => ⟨b, 0, rfl, _, _, _, hF2.g, b, 0, rfl, _, _, _, hF2.f, ?_⟩, fun n5 => j3 _ (by simp [n5])⟩
          refine s_well_Empty _ _ _ _ _ _ _ _ _ ?_
          unfold S_well_Empty
          have hfs := hF2.fs
          rw [← hfl] at hfs ⊢
          exact s_well_of _ _ _ _ _ _ _ _ _ (of_is hkl _ k (Nat.lt_succ_self _) (hy.le hle2) hF2.gr hfs hgk ⟨_, rfl, _, rfl, j3 _ (by simp [h5])⟩)
        · rw [hx.len] at hge
          intro M' hle
          rw [hp]
          refine key p (fun c hc => ?_) M' (hM1.trans hle)
          have := htot c hc
          rw [List.drop_of_length_le (by omega), bgK, Bool.or_false] at this; exact this
    refine ⟨fun h2 M' hle => ?_, fun n2 => ⟨fun h3 => ?_, fun n3 => ⟨fun h4 => ?_, fun n4 => ⟨fun h10 => j1 _ n2 n3 n4 (by simp [h10]), fun n10 => j1 _ n2 n3 n4 (by rw [Bool.eq_iff_iff]; simp; omega)⟩⟩⟩⟩
    · rw [hx.set, ← Us_bit hx.hs]
      exact key _ (fun c _ => by rw [bgE_eq, if_pos h2]) M' hle
    · rw [hx.text]
      obtain ⟨hne, _⟩ := g6 h3
      cases htx : e.text with
      | nil => exact absurd htx hne
      | cons c t =>
        refine ⟨c, by omega, rfl, c, by omega, rfl, ?_⟩
        rw [u8w]
        refine s_set_Range _ _ _ _ (range_is _ _ _ ⟨_, rfl, fun M' hle => key _ (fun d hd => ?_) M' hle⟩)
        rw [bgE_eq, if_neg n2, if_pos h3, htx]
        simp only [inR, fstC]
        rw [decide_eq_decide]; omega
    · have hr := hgood.ref h4
      obtain ⟨hlt, hlt'⟩ := findR_lt hr
      obtain ⟨s, hs⟩ := getN (l := sk) (i := (findR e.text rs 0).toNat) (by omega)
      obtain ⟨b1, o1, hb1, hat1⟩ := hF.ks.at ssC_len hsl hs
      rw [hx.text]
      refine ⟨b, 0, rfl, _, _, _, hF.k, b, 0, rfl, _, _, _, hF.g, s_gram_Find _ _ _ _ _ _ (find_is hF.gr e.text _ ⟨_, rfl, b1, o1, hb1, hr, by omega, s.1, hat1, fun M' hle => ?_⟩)⟩
      rw [← Us_bit s.2]
      refine key _ (fun c hc => ?_) M' hle
      rw [bgE_eq, if_neg n2, if_neg n3, if_pos h4, wkB, colB_get hs]; rfl
end Go.Proofs.Ytaljnkggjadonaa.core
