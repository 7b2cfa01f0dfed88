/- For every input ExprChecks answers true and leaves its arguments as they were. No condition. -/
import Derived.Test.YtdlfhmdojbejkaaExprChecksT
namespace Go.Proofs.Ytdlfhmdojbejkaa.lawExprChecks
open Go.Gx Go.RowKit Go.ChangeShapes Go.WideShapes Go.ChangeAt
/-! ### Expressions as trees -/

inductive Ex where
  | mk (kind : Int) (set : X_api_Set) (text : List UInt8) (kids : List Ex)

def Ex.kind : Ex → Int | .mk k _ _ _ => k
def Ex.set : Ex → X_api_Set | .mk _ s _ _ => s
def Ex.text : Ex → List UInt8 | .mk _ _ t _ => t
def Ex.kids : Ex → List Ex | .mk _ _ _ ks => ks

theorem Ex.kid_lt {e k : Ex} (h : k ∈ e.kids) : SizeOf.sizeOf k < SizeOf.sizeOf e := by
  cases e with
  | mk a s t ks =>
    have := List.sizeOf_lt_of_mem h
    simp only [Ex.kids] at *
    simp only [Ex.mk.sizeOf_spec]
    omega

def wfS (s : X_api_Set) : Prop := (Lit.int .u64 s.w0).wf = true ∧ (Lit.int .u64 s.w1).wf = true ∧ (Lit.int .u64 s.w2).wf = true ∧ (Lit.int .u64 s.w3).wf = true

/-- The memory shows this tree behind these cells. -/
inductive ExR (M : Mem) : Ex → X_api_Expr → Prop where
  | mk {k : Int} {s : X_api_Set} {t : List UInt8} {A : Option Addr} {c : Nat} {ks : List Ex} {xs : List X_api_Expr} (hk : (Lit.int .i64 k).wf = true) (hs : wfS s) (ht : t.length ≤ maxLen)
      (hv : SlV M A ks.length c 7 (cl X_api_Expr.cells xs)) (hl : xs.length = ks.length) (hks : ∀ (i : Nat) e x, ks[i]? = some e → xs[i]? = some x → ExR M e x) : ExR M (.mk k s t ks) ⟨k, s, t, A, ks.length, c⟩

theorem ExR.le {M M' : Mem} {e : Ex} {x : X_api_Expr} (h : ExR M e x) (hl : M.le M') : ExR M' e x := by
  induction h with
  | mk hk hs ht hv hl' _ ih => exact .mk hk hs ht (hv.le hl) hl' ih

structure ExK (M : Mem) (e : Ex) (x : X_api_Expr) (xs : List X_api_Expr) : Prop where
  kind : x.Kind = e.kind
  set : x.Set = e.set
  text : x.Text = e.text
  len : x.Kids_l = e.kids.length
  hk : (Lit.int .i64 e.kind).wf = true
  hs : wfS e.set
  ht : e.text.length ≤ maxLen
  sl : SlV M x.Kids_a x.Kids_l x.Kids_c 7 (cl X_api_Expr.cells xs)
  xl : xs.length = e.kids.length
  kids : All2 (ExR M) e.kids xs

theorem ExR.open {M : Mem} {e : Ex} {x : X_api_Expr} (h : ExR M e x) : ∃ xs, ExK M e x xs := by
  cases h with
  | mk hk hs ht hv hl hks => exact ⟨_, rfl, rfl, rfl, rfl, hk, hs, ht, hv, hl, All2.of hl hks⟩

theorem ExR.shut {M : Mem} {e : Ex} {x : X_api_Expr} {xs : List X_api_Expr} (h : ExK M e x xs) : ExR M e x := by
  obtain ⟨k, s, t, ks⟩ := e
  obtain ⟨k', s', t', A, l, c⟩ := x
  obtain ⟨h1, h2, h3, h4, h5, h6, h7, h8, h9, h10⟩ := h
  simp only [Ex.kind, Ex.set, Ex.text, Ex.kids] at h1 h2 h3 h4 h5 h6 h7 h8 h9 h10
  subst h1 h2 h3 h4
  exact .mk h5 h6 h7 h8 h9 fun i e x he hx => h10.get' he hx

theorem Xe_len (x : X_api_Expr) : x.cells.length = 7 := rfl
theorem Xe_one (x : X_api_Expr) : ∀ u ∈ x.cells, u.oneCell' = true := by
  intro u hu
  simp only [X_api_Expr.cells, List.mem_cons, List.not_mem_nil, or_false] at hu
  rcases hu with rfl | rfl | rfl | rfl | rfl | rfl | rfl <;> rfl

/-- A kid, as the code meets it. -/
theorem ExK.kid {M : Mem} {e : Ex} {x : X_api_Expr} {xs : List X_api_Expr} (h : ExK M e x xs) {i : Nat} {k : Ex} (hk : e.kids[i]? = some k) : ∃ b o y, x.Kids_a = some ⟨b, o, none⟩ ∧ At M b (o + i * 7) y.cells ∧ ExR M k y ∧ xs[i]? = some y := by
  obtain ⟨y, hy, hr⟩ := h.kids.get hk
  obtain ⟨b, o, ha, hat⟩ := h.sl.at Xe_len (by rw [h.xl, h.len]) hy
  exact ⟨b, o, y, ha, hat, hr, hy⟩

/-- What an argument's reading shows. -/
theorem ex_of {H : Type} {enc : TypeId × Value → H} {w : World} : ∀ (n : Nat) (x : X_api_Expr), In_api_Expr enc w n x → ∃ e, ExR (HM w) e x := by
  intro n
  induction n using Nat.strongRecOn with
  | _ n ih =>
    intro x hx
    obtain ⟨h1, h2, h3, h4, h5, h6, h7⟩ := hx
    obtain ⟨xs, hsl, hl, hm, hall⟩ := open_L_Expr h7
    obtain ⟨es, hes⟩ := All2.choose (R := ExR (HM w)) xs fun y hy => by
      obtain ⟨k, hk, hin⟩ := hall y hy
      exact ih k hk y hin
    have hle := hes.length
    obtain ⟨k, s, t, A, l, c⟩ := x
    have : l = es.length := by rw [← hle]; exact hl.symm
    subst this
    exact ⟨.mk k s t es, .mk h1 ⟨h2, h3, h4, h5⟩ h6 hsl hle fun i e x he hx => hes.get' he hx⟩
/-! ### Names, and what a node may be -/

theorem wfI {z : Int} : (Lit.int .i64 z).wf = true → InI z := by
  intro h
  simp [Lit.wf, IntKind.min, IntKind.max, IntKind.signed, IntKind.bits] at h
  unfold InI; omega

def letB (c : UInt8) : Bool := (97 ≤ c.toNat && c.toNat ≤ 122) || (65 ≤ c.toNat && c.toNat ≤ 90)
def digB (c : UInt8) : Bool := 48 ≤ c.toNat && c.toNat ≤ 57
def okC (i : Nat) (c : UInt8) : Bool := letB c || (i != 0 && digB c)
def nameB (s : List UInt8) : Bool := 1 ≤ s.length && s.length ≤ 8 && decide (∀ i, i < s.length → okC i (s[i]?.getD 0) = true)

theorem or32 : ∀ n : Nat, n < 256 → ((decide (bOr .u8 (n : Int) 32 ≥ 97) && decide (bOr .u8 (n : Int) 32 ≤ 122)) = ((decide (97 ≤ n) && decide (n ≤ 122)) || (decide (65 ≤ n) && decide (n ≤ 90)))) := by
  decide +kernel
theorem let32 (c : UInt8) : (decide (bOr .u8 (c.toNat : Int) 32 ≥ 97) && decide (bOr .u8 (c.toNat : Int) 32 ≤ 122)) = letB c := or32 c.toNat c.toNat_lt

theorem nameB_bad {s : List UInt8} {i : Nat} {c : UInt8} (hc : s[i]? = some c) (h : okC i c = false) : nameB s = false := by
  have hi := (List.getElem?_eq_some_iff.1 hc).1
  unfold nameB
  have : ¬ ∀ i, i < s.length → okC i (s[i]?.getD 0) = true := fun hall => by
    have := hall i hi
    simp [hc] at this
    rw [this] at h; cases h
  rw [decide_eq_false this, Bool.and_false]

theorem nameB_ok {s : List UInt8} (h : ∀ (j : Nat) c, s[j]? = some c → okC j c = true) : nameB s = (decide (1 ≤ s.length) && decide (s.length ≤ 8)) := by
  unfold nameB
  have : ∀ i, i < s.length → okC i (s[i]?.getD 0) = true := fun i hi => by
    obtain ⟨c, hc⟩ := getN hi
    simp [hc, h i c hc]
  rw [decide_eq_true this, Bool.and_true]

theorem letter_is (c : UInt8) (M : Mem) (K : Value → Prop) (h : K (.bool (letB c))) : S_chaffref_letter (c.toNat : Int) M K := by
  have key : ∀ b, b = letB c → K (.bool b) := fun b e => e ▸ h
  unfold S_chaffref_letter
  refine ⟨fun h1 => ⟨fun h2 => key _ ?_, fun h2 => ⟨fun h3 => key _ ?_, fun h3 => key _ ?_⟩⟩, fun h1 => ⟨fun h3 => key _ ?_, fun h3 => key _ ?_⟩⟩ <;> (rw [Bool.eq_iff_iff]; simp [letB]; omega)
theorem digits_is (c : UInt8) (M : Mem) (K : Value → Prop) (h : K (.bool (digB c))) : S_chaffref_digits (c.toNat : Int) M K := by
  have key : ∀ b, b = digB c → K (.bool b) := fun b e => e ▸ h
  unfold S_chaffref_digits
  refine ⟨fun h1 => key _ ?_, fun h1 => key _ ?_⟩ <;> (rw [Bool.eq_iff_iff]; simp [digB]; omega)

theorem ename_is (s : List UInt8) (hm : s.length ≤ maxLen) (M : Mem) (K : Value → Prop) (h : K (.bool (nameB s))) : S_expr_Name s M K := by
  have key : ∀ b, b = nameB s → K (.bool b) := fun b e => e ▸ h
  unfold maxLen at hm
  have j1 : ∀ b : Bool, (b = true → ¬ (1 ≤ s.length ∧ s.length ≤ 8)) → (b = false → 1 ≤ s.length ∧ s.length ≤ 8) → S_expr_Name_J1 s b K := by
    intro b h1 h2
    refine ⟨fun hb => key _ ?_, fun hb => ?_⟩
    · have := h1 hb
      unfold nameB
      by_cases a : 1 ≤ s.length
      · have : ¬ s.length ≤ 8 := fun q => this ⟨a, q⟩
        simp [this]
      · simp [a]
    obtain ⟨hl1, hl8⟩ := h2 (by simpa using hb)
    refine ⟨fun i => 0 ≤ i ∧ i ≤ s.length ∧ ∀ (j : Nat) c, (j : Int) < i → s[j]? = some c → okC j c = true, fun i => s.length - i.toNat, ⟨by omega, by omega, fun j c hj => by omega⟩, fun i ⟨h0, h1, h2⟩ => ⟨fun hlt => ?_, fun hge => key _ ?_⟩⟩
    · obtain ⟨c, hc⟩ := getI (l := s) h0 hlt
      have j3 : ∀ b : Bool, b = !(okC i.toNat c) → S_expr_Name_J3 i (fun i => 0 ≤ i ∧ i ≤ s.length ∧ ∀ (j : Nat) c, (j : Int) < i → s[j]? = some c → okC j c = true) (fun i => s.length - i.toNat) b K := by
        intro b hb
        refine ⟨fun e => key _ ?_, fun e => ⟨by unfold InI; omega, ⟨by omega, by omega, fun j d hj hd => ?_⟩, by dsimp only; omega⟩⟩
        · rw [nameB_bad hc (by rw [e] at hb; simpa using hb.symm)]
        · by_cases q : (j : Int) = i
          · have : i.toNat = j := by omega
            rw [this] at hc hb
            rw [hd] at hc; cases hc
            cases b
            · simpa using hb.symm
            · exact absurd rfl e
          · exact h2 j d (by omega) hd
      have j2 : ∀ b : Bool, b = letB c → S_expr_Name_J2 s i (fun i => 0 ≤ i ∧ i ≤ s.length ∧ ∀ (j : Nat) c, (j : Int) < i → s[j]? = some c → okC j c = true) (fun i => s.length - i.toNat) b K := by
        intro b hb
        refine ⟨fun e => ⟨fun hz => j3 _ ?_, fun hz => ⟨c, h0, hc, fun hlt => j3 _ ?_, fun hge => ⟨c, h0, hc, j3 _ ?_⟩⟩⟩, fun e => j3 _ ?_⟩
        · have : letB c = false := by rw [← hb]; simpa using e
          simp [okC, this, show i.toNat = 0 by omega]
        · have : letB c = false := by rw [← hb]; simpa using e
          have : digB c = false := by unfold digB; simp; omega
          simp [okC, *]
        · have : letB c = false := by rw [← hb]; simpa using e
          have hz' : (i.toNat != 0) = true := by simp; omega
          simp only [okC, this, hz', digB, Bool.false_or, Bool.true_and]
          rw [Bool.eq_iff_iff]
          simp; omega
        · have : letB c = true := by rw [← hb]; simpa using e
          simp [okC, this]
      refine ⟨c, h0, hc, fun hge => ⟨c, h0, hc, j2 _ ?_⟩, fun hlt2 => j2 _ ?_⟩
      · rw [← let32 c]; simp [hge]
      · rw [← let32 c]; simp; omega
    · rw [nameB_ok (fun j c hc => h2 j c (by have := (List.getElem?_eq_some_iff.1 hc).1; omega) hc)]; simp [hl1, hl8]
  refine ⟨fun e => j1 _ (fun _ => by subst e; simp) (fun e => by cases e), fun hne => j1 _ (fun hb => ?_) (fun hb => ?_)⟩
  · simp at hb; omega
  · have : 0 < s.length := List.length_pos_iff.2 hne
    simp at hb; omega

theorem rname_is (s : List UInt8) (hm : s.length ≤ maxLen) (M : Mem) (K : Value → Prop) (h : K (.bool (nameB s))) : S_chaffref_Name s M K := by
  have key : ∀ b, b = nameB s → K (.bool b) := fun b e => e ▸ h
  unfold maxLen at hm
  refine ⟨fun i => 0 ≤ i ∧ i ≤ s.length ∧ ∀ (j : Nat) c, (j : Int) < i → s[j]? = some c → okC j c = true, fun i => s.length - i.toNat, ⟨by omega, by omega, fun j c hj => by omega⟩, fun i ⟨h0, h1, h2⟩ => ⟨fun hlt => ?_, fun hge => ?_⟩⟩
  · obtain ⟨c, hc⟩ := getI (l := s) h0 hlt
    have j1 : ∀ b : Bool, b = !(okC i.toNat c) → S_chaffref_Name_J1 i (fun i => 0 ≤ i ∧ i ≤ s.length ∧ ∀ (j : Nat) c, (j : Int) < i → s[j]? = some c → okC j c = true) (fun i => s.length - i.toNat) b K := by
      intro b hb
      refine ⟨fun e => key _ ?_, fun e => ⟨by unfold InI; omega, ⟨by omega, by omega, fun j d hj hd => ?_⟩, by dsimp only; omega⟩⟩
      · rw [nameB_bad hc (by rw [e] at hb; simpa using hb.symm)]
      · by_cases q : (j : Int) = i
        · have : i.toNat = j := by omega
          rw [this] at hc hb
          rw [hd] at hc; cases hc
          cases b
          · simpa using hb.symm
          · exact absurd rfl e
        · exact h2 j d (by omega) hd
    refine ⟨c, h0, hc, s_chaffref_letter _ _ _ (letter_is c _ _ ⟨_, rfl, fun e => ⟨fun hz => j1 _ ?_, fun hz => ⟨c, h0, hc, s_chaffref_digits _ _ _ (digits_is c _ _ ⟨_, rfl, j1 _ ?_⟩)⟩⟩, fun e => j1 _ ?_⟩)⟩
    · have : letB c = false := by simpa using e
      simp [okC, this, show i.toNat = 0 by omega]
    · have : letB c = false := by simpa using e
      have hz' : (i.toNat != 0) = true := by simp; omega
      simp only [okC, this, hz', Bool.false_or, Bool.true_and]
    · have : letB c = true := by simpa using e
      simp [okC, this]
  · have hok := nameB_ok (s := s) fun j c hc => h2 j c (by have := (List.getElem?_eq_some_iff.1 hc).1; omega) hc
    refine ⟨fun h1 => key _ ?_, fun h1 => key _ ?_⟩
    · rw [hok, Bool.eq_iff_iff]; simp; omega
    · rw [hok, eq_comm, Bool.eq_false_iff]; simp; omega

/-- May a node be so, its kids aside? -/
def zs (s : X_api_Set) : Bool := cellsEq [s.w0, s.w1, s.w2, s.w3] [0, 0, 0, 0]
def fitX (x : X_api_Expr) : Bool :=
  if x.Kind = 1 then x.Kids_l == 0 && decide (x.Text = []) && zs x.Set
  else if x.Kind = 2 then x.Kids_l == 0 && decide (x.Text = [])
  else if x.Kind = 3 then x.Kids_l == 0 && zs x.Set && !decide (x.Text = []) && decide (x.Text.length ≤ 12)
  else if x.Kind = 4 then x.Kids_l == 0 && zs x.Set && nameB x.Text
  else if x.Kind = 5 ∨ x.Kind = 6 then decide (x.Text = []) && zs x.Set && decide (2 ≤ x.Kids_l) && decide (x.Kids_l ≤ 8)
  else if 7 ≤ x.Kind ∧ x.Kind ≤ 11 then decide (x.Text = []) && zs x.Set && x.Kids_l == 1
  else false
theorem fit_is (x : X_api_Expr) (hm : x.Text.length ≤ maxLen) (M : Mem) (K : Value → Prop) (h : K (.bool (fitX x))) : S_expr_fit x M K := by
  have key : ∀ b, b = fitX x → K (.bool b) := fun b e => e ▸ h
  have j6 : ∀ (low high : Int) (b : Bool), ((!b) && (decide (low ≤ x.Kids_l) && decide ((x.Kids_l : Int) ≤ high))) = fitX x → S_expr_fit_J6 x low high b K := by
    intro low high b e
    refine ⟨fun hb => key _ ?_, fun hb => ⟨fun h1 => key _ ?_, fun h1 => key _ ?_⟩⟩ <;> rw [← e] <;> simp_all
    intros; omega
  have j5 : ∀ (low high : Int), ((decide (x.Kind = 3) || decide (x.Kind = 4) || decide (x.Text = [])) && (decide (x.Kind = 2) || zs x.Set) && (decide (low ≤ x.Kids_l) && decide ((x.Kids_l : Int) ≤ high))) = fitX x → S_expr_fit_J5 x low high K := by
    intro low high e
    have e' : cellsEq [x.Set.w0, x.Set.w1, x.Set.w2, x.Set.w3] [0, 0, 0, 0] = zs x.Set := rfl
    unfold S_expr_fit_J5
    rw [e']
    refine ⟨fun h1 => ⟨fun h2 => ⟨fun h3 => j6 _ _ _ ?_, fun h3 => ⟨fun h4 => j6 _ _ _ ?_, fun h4 => j6 _ _ _ ?_⟩⟩, fun h2 => ⟨fun h4 => j6 _ _ _ ?_, fun h4 => j6 _ _ _ ?_⟩⟩, fun h2 => ⟨fun h4 => j6 _ _ _ ?_, fun h4 => j6 _ _ _ ?_⟩⟩ <;> rw [← e] <;> simp_all
  have fx : ∀ v, (match v with | true => fitX x = true | false => fitX x = false) → fitX x = v := fun v h => by cases v <;> exact h
  have c0 : (decide ((0 : Int) ≤ x.Kids_l) && decide ((x.Kids_l : Int) ≤ 0)) = (x.Kids_l == 0) := by rw [Bool.eq_iff_iff]; simp <;> omega
  have c1 : (decide ((1 : Int) ≤ x.Kids_l) && decide ((x.Kids_l : Int) ≤ 1)) = (x.Kids_l == 1) := by rw [Bool.eq_iff_iff]; simp <;> omega
  have c2 : (decide ((2 : Int) ≤ x.Kids_l) && decide ((x.Kids_l : Int) ≤ 8)) = (decide (2 ≤ x.Kids_l) && decide (x.Kids_l ≤ 8)) := by rw [Bool.eq_iff_iff]; simp; omega
  have j3 : ∀ b : Bool, x.Kind ≠ 1 → x.Kind ≠ 2 → x.Kind ≠ 3 → x.Kind ≠ 4 → (b = decide (x.Kind = 5 ∨ x.Kind = 6)) → S_expr_fit_J3 x b K := by
    intro b n1 n2 n3 n4 hb
    have j4 : ∀ b : Bool, ¬ (x.Kind = 5 ∨ x.Kind = 6) → (b = decide (7 ≤ x.Kind ∧ x.Kind ≤ 11)) → S_expr_fit_J4 x b K := by
      intro b n56 hb
      refine ⟨fun e => j5 _ _ ?_, fun e => key _ ?_⟩
      · rw [c1]; have : 7 ≤ x.Kind ∧ x.Kind ≤ 11 := by rw [e] at hb; exact of_decide_eq_true hb.symm
        unfold fitX; rw [if_neg n1, if_neg n2, if_neg n3, if_neg n4, if_neg n56, if_pos this]; simp [n2, n3, n4]
      · have : ¬ (7 ≤ x.Kind ∧ x.Kind ≤ 11) := fun q => e (by rw [hb]; exact decide_eq_true q)
        unfold fitX; rw [if_neg n1, if_neg n2, if_neg n3, if_neg n4, if_neg n56, if_neg this]
    refine ⟨fun e => j5 _ _ ?_, fun e => ?_⟩
    · rw [c2]; have : x.Kind = 5 ∨ x.Kind = 6 := by rw [e] at hb; exact of_decide_eq_true hb.symm
      unfold fitX; rw [if_neg n1, if_neg n2, if_neg n3, if_neg n4, if_pos this]; simp [n2, n3, n4, Bool.and_assoc]
    · have n56 : ¬ (x.Kind = 5 ∨ x.Kind = 6) := fun q => e (by rw [hb]; exact decide_eq_true q)
      refine ⟨fun e => j4 _ n56 ?_, fun e => ⟨fun e => j4 _ n56 ?_, fun e => ⟨fun e => j4 _ n56 ?_, fun e => ⟨fun e => j4 _ n56 ?_, fun e => j4 _ n56 ?_⟩⟩⟩⟩ <;> rw [Bool.eq_iff_iff] <;> simp <;> omega
  have j1 : ∀ b : Bool, (b = decide (x.Kind = 1 ∨ x.Kind = 2)) → S_expr_fit_J1 x M b K := by
    intro b hb
    refine ⟨fun e => j5 _ _ ?_, fun e => ?_⟩
    · rw [c0]; have : x.Kind = 1 ∨ x.Kind = 2 := by rw [e] at hb; exact of_decide_eq_true hb.symm
      unfold fitX
      rcases this with q | q
      · rw [if_pos q]; simp [q]; rw [Bool.eq_iff_iff]; simp; exact ⟨fun ⟨⟨a, b⟩, c⟩ => ⟨⟨c, a⟩, b⟩, fun ⟨⟨c, a⟩, b⟩ => ⟨⟨a, b⟩, c⟩⟩
      · rw [if_neg (by omega), if_pos q]; simp [q]; rw [Bool.and_comm]
    · have n12 : ¬ (x.Kind = 1 ∨ x.Kind = 2) := fun q => e (by rw [hb]; exact decide_eq_true q)
      have n1 : x.Kind ≠ 1 := fun q => n12 (.inl q)
      have n2 : x.Kind ≠ 2 := fun q => n12 (.inr q)
      refine ⟨fun q => ?_, fun n3 => ⟨fun q => ?_, fun n4 => ⟨fun q => j3 _ n1 n2 n3 n4 (by simp [q]), fun q => j3 _ n1 n2 n3 n4 (by rw [Bool.eq_iff_iff]; simp; omega)⟩⟩⟩
      · have hf : fitX x = (x.Kids_l == 0 && zs x.Set && !decide (x.Text = []) && decide (x.Text.length ≤ 12)) := by unfold fitX; rw [if_neg n1, if_neg n2, if_pos q]
        have j2 : ∀ b : Bool, (b = !(!decide (x.Text = []) && decide (x.Text.length ≤ 12))) → S_expr_fit_J2 x b K := by
          intro b hb
          refine ⟨fun e => key _ ?_, fun e => j5 _ _ ?_⟩
          · rw [hf]; cases h1 : decide (x.Text = []) <;> cases h2 : decide (x.Text.length ≤ 12) <;> simp_all
          · rw [hf, c0]; cases h1 : decide (x.Text = []) <;> cases h2 : decide (x.Text.length ≤ 12) <;> simp_all
            rw [Bool.and_comm]
        refine ⟨fun e => j2 _ (by simp [e]), fun e => j2 _ ?_⟩
        rw [Bool.eq_iff_iff]; simp [e]; omega
      · have hf : fitX x = (x.Kids_l == 0 && zs x.Set && nameB x.Text) := by unfold fitX; rw [if_neg n1, if_neg n2, if_neg n3, if_pos q]
        refine s_expr_Name _ _ _ (ename_is _ hm _ _ ⟨_, rfl, fun e => key _ ?_, fun e => j5 _ _ ?_⟩)
        · rw [hf]; have : nameB x.Text = false := by simpa using e
          simp [this]
        · rw [hf, c0]; have : nameB x.Text = true := by simpa using e
          simp [this, q]; rw [Bool.and_comm]
  exact ⟨fun e => j1 _ (by simp [e]), fun e => j1 _ (by rw [Bool.eq_iff_iff]; simp; omega)⟩

theorem right_is (x : X_api_Expr) (hm : x.Text.length ≤ maxLen) (M : Mem) (K : Value → Prop) (h : K (.bool (fitX x))) : S_chaffref_right x M K := by
  have key : ∀ b, b = fitX x → K (.bool b) := fun b e => e ▸ h
  have e' : cellsEq [x.Set.w0, x.Set.w1, x.Set.w2, x.Set.w3] [0, 0, 0, 0] = zs x.Set := rfl
  have ht : ∀ t : List UInt8, ((mkS t).toList == (mkS ([] : List UInt8)).toList) = decide (t = []) := fun t => by rw [Bool.eq_iff_iff, mkS_beq]; simp
  have j2 : ∀ b : Bool, ¬ (x.Kind = 1) → ¬ (x.Kind = 2) → ¬ (x.Kind = 3) → ¬ (x.Kind = 4) → ¬ (x.Kind = 5 ∨ x.Kind = 6) → b = decide (7 ≤ x.Kind ∧ x.Kind ≤ 11) → S_chaffref_right_J2 x b K := by
    intro b n1 n2 n3 n4 n56 hb
    unfold S_chaffref_right_J2
    rw [e']
    have hf : fitX x = (decide (7 ≤ x.Kind ∧ x.Kind ≤ 11) && (decide (x.Text = []) && zs x.Set && x.Kids_l == 1)) := by
      unfold fitX; rw [if_neg n1, if_neg n2, if_neg n3, if_neg n4, if_neg n56]; split <;> simp [*]
    rw [← hb] at hf
    clear hb
    refine ⟨fun e => ⟨fun h1 => ⟨fun h2 => key _ ?_, fun h2 => key _ ?_⟩, fun h1 => key _ ?_⟩, fun e => key _ ?_⟩ <;> rw [hf] <;> simp [*]
    rw [Bool.eq_iff_iff]; simp; omega
  have j1 : ∀ b : Bool, ¬ (x.Kind = 1) → ¬ (x.Kind = 2) → ¬ (x.Kind = 3) → ¬ (x.Kind = 4) → b = decide (x.Kind = 5 ∨ x.Kind = 6) → S_chaffref_right_J1 x b K := by
    intro b n1 n2 n3 n4 hb
    unfold S_chaffref_right_J1
    rw [e']
    refine ⟨fun e => ?_, fun e => ?_⟩
    · have : x.Kind = 5 ∨ x.Kind = 6 := by rw [e] at hb; exact of_decide_eq_true hb.symm
      have hf : fitX x = (decide (x.Text = []) && zs x.Set && decide (2 ≤ x.Kids_l) && decide (x.Kids_l ≤ 8)) := by unfold fitX; rw [if_neg n1, if_neg n2, if_neg n3, if_neg n4, if_pos this]
      refine ⟨fun h1 => ⟨fun h2 => ⟨fun h3 => key _ ?_, fun h3 => key _ ?_⟩, fun h2 => key _ ?_⟩, fun h1 => key _ ?_⟩ <;> rw [hf] <;> simp [*]
      · rw [Bool.eq_iff_iff]; simp; omega
      · intro; omega
    · have n56 : ¬ (x.Kind = 5 ∨ x.Kind = 6) := fun q => e (by rw [hb]; exact decide_eq_true q)
      refine ⟨fun h1 => j2 _ n1 n2 n3 n4 n56 ?_, fun h1 => j2 _ n1 n2 n3 n4 n56 ?_⟩
      · rw [Bool.eq_iff_iff]; simp; omega
      · rw [eq_comm, decide_eq_false]; omega
  unfold S_chaffref_right
  rw [e', ht]
  refine ⟨fun q => ?_, fun n1 => ⟨fun q => ?_, fun n2 => ⟨fun q => ?_, fun n3 => ⟨fun q => ?_, fun n4 => ⟨fun q => j1 _ n1 n2 n3 n4 (by simp [q]), fun q => j1 _ n1 n2 n3 n4 (by rw [Bool.eq_iff_iff]; simp; omega)⟩⟩⟩⟩⟩
  · have hf : fitX x = (x.Kids_l == 0 && decide (x.Text = []) && zs x.Set) := by unfold fitX; rw [if_pos q]
    refine ⟨fun h1 => ⟨fun h2 => key _ ?_, fun h2 => key _ ?_⟩, fun h1 => key _ ?_⟩ <;> rw [hf]
    · have : x.Kids_l = 0 := by omega
      simp [*]
    · simp [*]
    · have : ¬ x.Kids_l = 0 := by omega
      simp [*]
  · have hf : fitX x = (x.Kids_l == 0 && decide (x.Text = [])) := by unfold fitX; rw [if_neg n1, if_pos q]
    refine ⟨fun h1 => key _ ?_, fun h1 => key _ ?_⟩ <;> rw [hf]
    · have : x.Kids_l = 0 := by omega
      simp [*]
    · have : ¬ x.Kids_l = 0 := by omega
      simp [*]
  · have hf : fitX x = (x.Kids_l == 0 && zs x.Set && !decide (x.Text = []) && decide (x.Text.length ≤ 12)) := by unfold fitX; rw [if_neg n1, if_neg n2, if_pos q]
    refine ⟨fun h1 => ⟨fun h2 => ⟨fun h3 => key _ ?_, fun h3 => key _ ?_⟩, fun h2 => key _ ?_⟩, fun h1 => key _ ?_⟩ <;> rw [hf]
    · have : x.Kids_l = 0 := by omega
      simp [*]
      omega
    · simp at h3; simp [*]
    · simp [*]
    · have : ¬ x.Kids_l = 0 := by omega
      simp [*]
  · have hf : fitX x = (x.Kids_l == 0 && zs x.Set && nameB x.Text) := by unfold fitX; rw [if_neg n1, if_neg n2, if_neg n3, if_pos q]
    refine ⟨fun h1 => ⟨fun h2 => s_chaffref_Name _ _ _ (rname_is _ hm _ _ ⟨_, rfl, key _ ?_⟩), fun h2 => key _ ?_⟩, fun h1 => key _ ?_⟩ <;> rw [hf]
    · have : x.Kids_l = 0 := by omega
      simp [*]
    · simp [*]
    · have : ¬ x.Kids_l = 0 := by omega
      simp [*]
/-! ### Going through the nodes -/

/-! What the program's walk says, and how many nodes it came to. -/
mutual
def lkE (d n : Int) : Ex → Int × Int
  | .mk k s t ks => if n + 1 > 60 then (2, n + 1) else if d > 12 then (5, n + 1) else if fitX ⟨k, s, t, none, ks.length, 0⟩ = false then (3, n + 1) else lkEs (d + 1) (n + 1) ks
def lkEs (d n : Int) : List Ex → Int × Int
  | [] => (0, n)
  | k :: ks => if (lkE d n k).1 ≠ 0 then lkE d n k else lkEs d (lkE d n k).2 ks
end

mutual
theorem lkE_n : ∀ (e : Ex) (d n : Int), 0 ≤ n → n ≤ 60 → n ≤ (lkE d n e).2 ∧ (lkE d n e).2 ≤ 61 ∧ ((lkE d n e).1 = 0 → (lkE d n e).2 ≤ 60)
  | .mk k s t ks, d, n, h0, h1 => by
    unfold lkE
    split
    · exact ⟨by simp only; omega, by simp only; omega, fun h => by cases h⟩
    · split
      · exact ⟨by simp only; omega, by simp only; omega, fun h => by cases h⟩
      · split
        · exact ⟨by simp only; omega, by simp only; omega, fun h => by cases h⟩
        · have := lkEs_n ks (d + 1) (n + 1) (by omega) (by omega)
          exact ⟨by omega, this.2⟩
theorem lkEs_n : ∀ (es : List Ex) (d n : Int), 0 ≤ n → n ≤ 60 → n ≤ (lkEs d n es).2 ∧ (lkEs d n es).2 ≤ 61 ∧ ((lkEs d n es).1 = 0 → (lkEs d n es).2 ≤ 60)
  | [], d, n, h0, h1 => by unfold lkEs; exact ⟨by simp only; omega, by simp only; omega, fun _ => by simp only; omega⟩
  | k :: ks, d, n, h0, h1 => by
    have h := lkE_n k d n h0 h1
    unfold lkEs
    split
    · exact h
    · rename_i hz
      have hz : (lkE d n k).1 = 0 := by simpa using hz
      have := lkEs_n ks d (lkE d n k).2 (by omega) (h.2.2 hz)
      exact ⟨by omega, this.2⟩
end

theorem fitX_cells {x : X_api_Expr} {e : Ex} {xs : List X_api_Expr} {M : Mem} (h : ExK M e x xs) : fitX x = fitX ⟨e.kind, e.set, e.text, none, e.kids.length, 0⟩ := by
  unfold fitX zs
  rw [h.kind, h.set, h.text, h.len]

theorem fitX_kids {x : X_api_Expr} (h : fitX x = true) : x.Kids_l ≤ 8 := by
  unfold fitX at h
  split at h
  · simp at h; omega
  · split at h
    · simp at h; omega
    · split at h
      · simp at h; omega
      · split at h
        · simp at h; omega
        · split at h
          · simp at h; omega
          · split at h
            · simp at h; omega
            · cases h

/-- The program's walk. -/
theorem look_is : ∀ (m : Nat) (e : Ex), SizeOf.sizeOf e < m → ∀ (x : X_api_Expr) (M : Mem) (d n : Int) (K : Value → Int → Mem → Prop), ExR M e x → 0 ≤ d → d ≤ 13 → 0 ≤ n → n ≤ 60 →
    (∀ M', M.le M' → K (.int .i64 (lkE d n e).1) (lkE d n e).2 M') → C_expr_looker_look x d n M K := by
  intro m
  induction m with
  | zero => intro e h; omega
  | succ m ih =>
    intro e hm x M d n K hR hd hd2 hn hn2 hK
    obtain ⟨xs, hx⟩ := hR.open
    refine s_expr_looker_look _ _ _ _ _ ?_
    unfold S_expr_looker_look
    have hE : lkE d n e = if n + 1 > 60 then (2, n + 1) else if d > 12 then (5, n + 1) else if fitX x = false then (3, n + 1) else lkEs (d + 1) (n + 1) e.kids := by
      obtain ⟨k, s, t, ks⟩ := e
      rw [fitX_cells hx]
      rfl
    refine ⟨by unfold InI; omega, fun h1 => ?_, fun h1 => ⟨fun h2 => ?_, fun h2 => ?_⟩⟩
    · rw [if_pos h1] at hE; rw [hE] at hK; exact hK M (Mem.le.refl M)
    · rw [if_neg h1, if_pos h2] at hE; rw [hE] at hK; exact hK M (Mem.le.refl M)
    rw [if_neg h1, if_neg h2] at hE
    refine s_expr_fit _ _ _ (fit_is x (by rw [hx.text]; exact hx.ht) _ _ ⟨_, rfl, fun hf => ?_, fun hf => ?_⟩)
    · have hf : fitX x = false := by simpa using hf
      rw [if_pos hf] at hE; rw [hE] at hK; exact hK M (Mem.le.refl M)
    have hf : fitX x = true := by simpa using hf
    rw [if_neg (by simp [hf])] at hE
    have hn3 : n + 1 ≤ 60 := by omega
    have hall := lkEs_n e.kids (d + 1) (n + 1) (by omega) hn3
    have hlen : x.Kids_l = e.kids.length := hx.len
    refine ⟨fun i c M' => M.le M' ∧ 0 ≤ i ∧ i ≤ x.Kids_l ∧ 0 ≤ c ∧ c ≤ 60 ∧ lkEs (d + 1) c (e.kids.drop i.toNat) = lkEs (d + 1) (n + 1) e.kids, fun i _ => x.Kids_l - i.toNat, ⟨Mem.le.refl M, by omega, by omega, by omega, by omega, rfl⟩, fun i c M' ⟨hle, h0, hi, hc0, hc, heq⟩ => ⟨fun hlt => ?_, fun hge => ?_⟩⟩
    · obtain ⟨k, hk⟩ := getI (l := e.kids) h0 (by omega)
      obtain ⟨b, o, y, ha, hat, hy, _⟩ := hx.kid hk
      refine ⟨b, o, ha, h0, hlt, y, hat.le hle, by unfold InI; omega, ?_⟩
      have hsz := Ex.kid_lt (List.mem_of_getElem? hk)
      have hk2 := lkE_n k (d + 1) c hc0 hc
      rw [drop_get hk, lkEs] at heq
      refine ih k (by omega) y M' (d + 1) c _ (hy.le hle) (by omega) (by omega) hc0 hc fun M2 hle2 => ⟨_, rfl, fun hne => ?_, fun he => ?_⟩
      · rw [if_pos hne] at heq
        rw [hE, ← heq] at hK; exact hK M2 (hle.trans hle2)
      · have he : (lkE (d + 1) c k).1 = 0 := by simpa using he
        rw [if_neg (by omega)] at heq
        refine ⟨by unfold InI; have := hx.sl.max; omega, ⟨hle.trans hle2, by omega, by omega, by omega, hk2.2.2 he, ?_⟩, by dsimp only; omega⟩
        rw [← heq]; congr 2; omega
    · have : i.toNat = e.kids.length := by omega
      rw [this, List.drop_length, lkEs] at heq
      rw [← heq] at hE
      rw [hE] at hK; exact hK M' hle

/-! ### The reference: a list of nodes -/

/-! All nodes, each ahead of its kids; none beneath those that are too deep or have too many. -/
mutual
def preE (d : Int) : Ex → List (Ex × Int)
  | .mk k s t ks => (.mk k s t ks, d) :: (if d ≤ 12 ∧ ks.length ≤ 8 then preEs (d + 1) ks else [])
def preEs (d : Int) : List Ex → List (Ex × Int)
  | [] => []
  | k :: ks => preE d k ++ preEs d ks
end

def fitE (e : Ex) : Bool := fitX ⟨e.kind, e.set, e.text, none, e.kids.length, 0⟩

/-- What is wrong first. -/
def scan (n : Int) : List (Ex × Int) → Int × Int
  | [] => (0, n)
  | (e, d) :: r => if n + 1 > 60 then (2, n + 1) else if d > 12 then (5, n + 1) else if fitE e = false then (3, n + 1) else scan (n + 1) r

mutual
theorem scan_E : ∀ (e : Ex) (d n : Int) (r : List (Ex × Int)), scan n (preE d e ++ r) = if (lkE d n e).1 ≠ 0 then lkE d n e else scan (lkE d n e).2 r
  | .mk k s t ks, d, n, r => by
    rw [preE, lkE, List.cons_append, scan]
    split
    · rw [if_pos (by simp)]
    split
    · rw [if_pos (by simp)]
    have hfe : fitE (.mk k s t ks) = fitX ⟨k, s, t, none, ks.length, 0⟩ := rfl
    rw [hfe]
    split
    · rw [if_pos (by simp)]
    rename_i hf
    have := fitX_kids (x := ⟨k, s, t, none, ks.length, 0⟩) (by simpa using hf)
    rw [if_pos ⟨by omega, this⟩]
    exact scan_Es ks (d + 1) (n + 1) r
theorem scan_Es : ∀ (es : List Ex) (d n : Int) (r : List (Ex × Int)), scan n (preEs d es ++ r) = if (lkEs d n es).1 ≠ 0 then lkEs d n es else scan (lkEs d n es).2 r
  | [], d, n, r => by rw [preEs, lkEs]; simp
  | k :: ks, d, n, r => by
    rw [preEs, lkEs, List.append_assoc, scan_E k d n]
    split
    · rename_i h; first | rfl | (rw [if_pos h]; done) | (rw [if_pos h]; rfl)
    · rename_i h
      exact scan_Es ks d _ r
end

def NdR (M : Mem) (p : Ex × Int) (x : X_chaffref_Node) : Prop := ExR M p.1 x.Expr ∧ x.Deep = p.2
theorem NdR.le {M M' : Mem} {p : Ex × Int} {x : X_chaffref_Node} (h : NdR M p x) (hl : M.le M') : NdR M' p x := ⟨h.1.le hl, h.2⟩
theorem Xn_len (x : X_chaffref_Node) : x.cells.length = 8 := rfl
theorem Xn_one (x : X_chaffref_Node) : ∀ u ∈ x.cells, u.oneCell' = true := by
  intro u hu
  simp only [X_chaffref_Node.cells, List.mem_cons, List.not_mem_nil, or_false] at hu
  rcases hu with rfl | rfl | rfl | rfl | rfl | rfl | rfl | rfl <;> rfl

/-- The list of nodes, up to the 61st. -/
theorem nodes_is (e : Ex) (x : X_api_Expr) (M : Mem) (K : Value → Mem → Prop) (hR : ExR M e x)
    (hK : ∀ (M' : Mem) (A : Option Addr) (c : Nat) (xs : List X_chaffref_Node), M.le M' → SlV M' A xs.length c 8 (cl X_chaffref_Node.cells xs) → All2 (NdR M') ((preE 1 e).take 61) xs → K (.slice A xs.length c) M') : S_chaffref_Nodes x M K := by
  unfold S_chaffref_Nodes
  let all := preE 1 e
  refine ⟨fun rn rx on ox M' => ∃ (ps qs : List (Ex × Int)) (xs ys : List X_chaffref_Node), M.le M' ∧ rn = xs.length ∧ rx = cl X_chaffref_Node.cells xs ∧ on = ys.length ∧ ox = cl X_chaffref_Node.cells ys ∧ All2 (NdR M') ps xs ∧ All2 (NdR M') qs ys ∧
      qs ++ ps.flatMap (fun p => preE p.2 p.1) = preE 1 e ∧ qs.length ≤ 61 ∧ ps.length ≤ 1 + 8 * qs.length ∧ (∀ p ∈ ps, 0 ≤ p.2 ∧ p.2 ≤ 13), fun _ _ on _ => 61 - on,
    ⟨[(e, 1)], [], [⟨x, 1⟩], [], Mem.le.refl M, rfl, (cl_one _).symm, rfl, rfl, ⟨_, _, rfl, ⟨hR, rfl⟩, rfl⟩, rfl, by simp, by simp, by simp, by simp⟩, ?_⟩
  rintro rn rx on ox M' ⟨ps, qs, xs, ys, hle, rfl, rfl, rfl, rfl, hps, hqs, hall, hq, hp, hdeep⟩
  have hl1 := hps.length
  have hl2 := hqs.length
  have fin : (ps = [] ∨ qs.length = 61) → ∀ b, b = false → S_chaffref_Nodes_J1 xs.length (cl X_chaffref_Node.cells xs) ys.length (cl X_chaffref_Node.cells ys) M' (fun rn rx on ox M' => ∃ (ps qs : List (Ex × Int)) (xs ys : List X_chaffref_Node), M.le M' ∧ rn = xs.length ∧ rx = cl X_chaffref_Node.cells xs ∧ on = ys.length ∧ ox = cl X_chaffref_Node.cells ys ∧ All2 (NdR M') ps xs ∧ All2 (NdR M') qs ys ∧
      qs ++ ps.flatMap (fun p => preE p.2 p.1) = preE 1 e ∧ qs.length ≤ 61 ∧ ps.length ≤ 1 + 8 * qs.length ∧ (∀ p ∈ ps, 0 ≤ p.2 ∧ p.2 ≤ 13)) (fun _ _ on _ => 61 - on) b K := by
    rintro hend b rfl
    refine ⟨fun h => (by cases h), fun _ M2 A c hle2 hsl M3 hle3 => hK M3 A c ys ((hle.trans hle2).trans hle3) (hsl.le hle3) ?_⟩
    have : (preE 1 e).take 61 = qs := by
      rw [← hall]
      rcases hend with rfl | h61
      · simp only [List.flatMap_nil, List.append_nil]; exact List.take_of_length_le hq
      · rw [List.take_append, List.take_of_length_le hq, h61]; simp
    rw [this]
    exact hqs.mono fun p y h => (h.le hle2).le hle3
  refine ⟨fun hpos => ?_, fun hz => fin (.inl ?_) _ rfl⟩
  rotate_left
  · cases ps with
    | nil => rfl
    | cons p r => simp only [List.length_cons] at hl1; omega
  by_cases h61 : qs.length < 61
  rotate_left
  · exact fin (.inr (by omega)) _ (decide_eq_false (by omega))
  rw [decide_eq_true (by omega)]
  refine ⟨fun _ => ?_, fun h => absurd rfl h⟩
  obtain ⟨p, ps', rfl⟩ : ∃ p r, ps = p :: r := by
    cases ps with
    | nil => simp only [List.length_nil] at hl1; omega
    | cons p r => exact ⟨p, r, rfl⟩
  obtain ⟨z, xs', rfl, hz, hxs'⟩ := hps
  refine ⟨by omega, by simp only [List.length_cons]; omega, z, cl_Cs Xn_len (i := 0) rfl, by omega, ?_⟩
  obtain ⟨k, d⟩ := p
  obtain ⟨hzr, hzd⟩ := hz
  simp only at hzr hzd
  have hdd := hdeep (k, d) (by simp)
  simp only at hdd
  obtain ⟨zs, hzk⟩ := hzr.open
  -- the next list of those that wait
  have step : ∀ (ts : List Ex) (ws : List X_chaffref_Node), All2 (NdR M') (ts.map fun t => (t, d + 1)) ws → preE d k = (k, d) :: preEs (d + 1) ts → ts.length ≤ 8 → (ts ≠ [] → d ≤ 12) →
      S_chaffref_Nodes_J3 (xs'.length + 1) (cl X_chaffref_Node.cells (z :: xs')) ys.length (cl X_chaffref_Node.cells ys) M' (fun rn rx on ox M' => ∃ (ps qs : List (Ex × Int)) (xs ys : List X_chaffref_Node), M.le M' ∧ rn = xs.length ∧ rx = cl X_chaffref_Node.cells xs ∧ on = ys.length ∧ ox = cl X_chaffref_Node.cells ys ∧ All2 (NdR M') ps xs ∧ All2 (NdR M') qs ys ∧
      qs ++ ps.flatMap (fun p => preE p.2 p.1) = preE 1 e ∧ qs.length ≤ 61 ∧ ps.length ≤ 1 + 8 * qs.length ∧ (∀ p ∈ ps, 0 ≤ p.2 ∧ p.2 ≤ 13)) (fun _ _ on _ => 61 - on) z ws.length (cl X_chaffref_Node.cells ws) K := by
    intro ts ws hws hpre ht8 htd M2 A c hle2 hsl
    have hrest := hsl.rest 1 (by omega)
    have e1 : (1 : Int).toNat = 1 := rfl
    have hl3 := hws.length
    simp only [List.length_map] at hl3
    simp only [List.length_cons] at hp hl1
    rw [e1, cl_drop Xn_len 1] at *
    refine ⟨by omega, by omega, _, hrest, cl_one' Xn_one _, by omega, ⟨(ts.map fun t => (t, d + 1)) ++ ps', qs ++ [(k, d)], ws ++ xs', ys ++ [z], hle.trans hle2, by simp, ?_, by simp, cl_snoc _ _, ?_, ?_, ?_, ?_, ?_, ?_⟩, by dsimp only; omega⟩
    · rw [cl_append]; rfl
    · exact (hws.mono fun _ _ h => h.le hle2).append (hxs'.mono fun _ _ h => h.le hle2)
    · exact (hqs.mono fun _ _ h => h.le hle2).snoc ⟨hzr.le hle2, hzd⟩
    · rw [← hall, List.flatMap_append, List.append_assoc, List.flatMap_cons]
      simp only [hpre, List.cons_append, List.nil_append]
      congr 2
      congr 1
      clear hws hpre ht8 htd hl3
      induction ts with
      | nil => rfl
      | cons t r ih => rw [List.map_cons, List.flatMap_cons, preEs, ih]
    · simp; omega
    · simp; omega
    · intro q hq'
      rcases List.mem_append.1 hq' with h | h
      · obtain ⟨t, htm, rfl⟩ := List.mem_map.1 h
        have := htd (List.ne_nil_of_mem htm)
        simp only
        omega
      · exact hdeep q (List.mem_cons_of_mem _ h)
  have hpre : preE d k = (k, d) :: (if d ≤ 12 ∧ k.kids.length ≤ 8 then preEs (d + 1) k.kids else []) := by
    obtain ⟨a, b, c, ks⟩ := k
    rw [preE]; rfl
  have no : ¬ (d ≤ 12 ∧ k.kids.length ≤ 8) → ∀ b, b = false → S_chaffref_Nodes_J2 (xs'.length + 1) (cl X_chaffref_Node.cells (z :: xs')) ys.length (cl X_chaffref_Node.cells ys) M' (fun rn rx on ox M' => ∃ (ps qs : List (Ex × Int)) (xs ys : List X_chaffref_Node), M.le M' ∧ rn = xs.length ∧ rx = cl X_chaffref_Node.cells xs ∧ on = ys.length ∧ ox = cl X_chaffref_Node.cells ys ∧ All2 (NdR M') ps xs ∧ All2 (NdR M') qs ys ∧
      qs ++ ps.flatMap (fun p => preE p.2 p.1) = preE 1 e ∧ qs.length ≤ 61 ∧ ps.length ≤ 1 + 8 * qs.length ∧ (∀ p ∈ ps, 0 ≤ p.2 ∧ p.2 ≤ 13)) (fun _ _ on _ => 61 - on) z b K := by
    rintro hno b rfl
    rw [if_neg hno] at hpre
    exact ⟨fun h => (by cases h), fun _ => step [] [] rfl (by rw [hpre, preEs]) (by simp) (fun h => absurd rfl h)⟩
  have hkl : z.Expr.Kids_l = k.kids.length := hzk.len
  refine ⟨fun h12 => ?_, fun h12 => no (fun h => h12 (by omega)) _ rfl⟩
  by_cases h8 : k.kids.length ≤ 8
  rotate_left
  · exact no (fun h => h8 h.2) _ (decide_eq_false (by omega))
  rw [decide_eq_true (by omega)]
  refine ⟨fun _ => ?_, fun h => absurd rfl h⟩
  rw [if_pos ⟨by omega, h8⟩] at hpre
  refine ⟨fun i rn rx => ∃ ws : List X_chaffref_Node, 0 ≤ i ∧ i ≤ z.Expr.Kids_l ∧ rn = ws.length ∧ rx = cl X_chaffref_Node.cells ws ∧ All2 (NdR M') ((k.kids.take i.toNat).map fun t => (t, d + 1)) ws, fun i _ _ => z.Expr.Kids_l - i.toNat, ⟨[], by omega, by omega, rfl, rfl, rfl⟩, ?_⟩
  rintro i rn rx ⟨ws, h0, hi, rfl, rfl, hws⟩
  have hwl := hws.length
  simp only [List.length_map, List.length_take] at hwl
  refine ⟨fun hlt => ?_, fun hge => ?_⟩
  · obtain ⟨t, ht⟩ := getI (l := k.kids) h0 (by omega)
    obtain ⟨b, o, y, ha, hat, hy, _⟩ := hzk.kid ht
    refine ⟨b, o, ha, h0, hlt, y, hat, by unfold InI; omega, by omega, by unfold InI; omega, ⟨ws ++ [⟨y, z.Deep + 1⟩], by omega, by omega, by simp, cl_snoc _ _, ?_⟩, by dsimp only; omega⟩
    have : (i + 1).toNat = i.toNat + 1 := by omega
    rw [this, take_get ht, List.map_append]
    exact hws.snoc ⟨hy, by simp only; omega⟩
  · have : i.toNat = k.kids.length := by omega
    rw [this, List.take_length] at hws
    exact step k.kids ws hws hpre h8 fun _ => by omega

theorem scan_take : ∀ (l : List (Ex × Int)) (n : Int), 0 ≤ n → n ≤ 60 → scan n (l.take (61 - n.toNat)) = scan n l
  | [], n, _, _ => by simp
  | (e, d) :: r, n, h0, h1 => by
    rw [show 61 - n.toNat = (60 - n.toNat) + 1 by omega, List.take_succ_cons, scan, scan]
    split
    · rfl
    · split
      · rfl
      · split
        · rfl
        · rename_i h _ _
          rw [← scan_take r (n + 1) (by omega) (by omega), show 61 - (n + 1).toNat = 60 - n.toNat by omega]

def exErr (e : Ex) : Int := (lkE 1 0 e).1
theorem exErr_scan (e : Ex) : (scan 0 ((preE 1 e).take 61)).1 = exErr e := by
  have h1 := scan_take (preE 1 e) 0 (by omega) (by omega)
  have h2 := scan_E e 1 0 []
  rw [List.append_nil] at h2
  rw [show (0 : Int).toNat = 0 from rfl, Nat.sub_zero] at h1
  rw [h1, h2, exErr]
  split
  · rfl
  · rename_i h; simp only [scan]; simpa using (Eq.symm (by simpa using h) : (0 : Int) = (lkE 1 0 e).1)

theorem rexpr_is (e : Ex) (x : X_api_Expr) (M : Mem) (K : Value → Prop) (hR : ExR M e x) (hK : K (.int .i64 (exErr e))) : S_chaffref_Expr x M K := by
  unfold S_chaffref_Expr
  refine s_chaffref_Nodes _ _ _ (nodes_is e x M _ hR fun M' A c xs hle hsl hall => ⟨_, _, _, rfl, ?_⟩)
  have hl := hall.length
  have hl61 : xs.length ≤ 61 := by rw [hl, List.length_take]; omega
  rw [← exErr_scan] at hK
  refine ⟨fun i => 0 ≤ i ∧ i ≤ xs.length ∧ i ≤ 60 ∧ scan i (((preE 1 e).take 61).drop i.toNat) = scan 0 ((preE 1 e).take 61), fun i => xs.length - i.toNat, ⟨by omega, by omega, by omega, rfl⟩, fun i ⟨h0, h1, h60, heq⟩ => ⟨fun hlt => ?_, fun hge => ?_⟩⟩
  · obtain ⟨p, hp⟩ := getI (l := (preE 1 e).take 61) h0 (by omega)
    obtain ⟨y, hy, hr, hd⟩ := hall.get hp
    obtain ⟨b, o, ha, hat⟩ := hsl.at Xn_len rfl hy
    rw [drop_get hp] at heq
    obtain ⟨k, d⟩ := p
    simp only [scan] at heq
    obtain ⟨zs, hzk⟩ := hr.open
    have hfe : fitX y.Expr = fitE k := fitX_cells hzk
    refine ⟨b, o, ha, h0, hlt, y, hat, fun h => ?_, fun h => ⟨fun h2 => ?_, fun h2 => ?_⟩⟩
    · rw [if_pos (by omega)] at heq; rw [← heq] at hK; exact hK
    · simp only at hd
      rw [if_neg (by omega), if_pos (by omega)] at heq; rw [← heq] at hK; exact hK
    simp only at hd
    rw [if_neg (by omega), if_neg (by omega)] at heq
    refine s_chaffref_right _ _ _ (right_is y.Expr (by rw [hzk.text]; exact hzk.ht) _ _ ⟨_, rfl, fun hf => ?_, fun hf => ?_⟩)
    · have hf : fitX y.Expr = false := by simpa using hf
      rw [if_pos (by rw [← hfe]; exact hf)] at heq; rw [← heq] at hK; exact hK
    · have hf : fitX y.Expr = true := by simpa using hf
      rw [if_neg (by rw [← hfe, hf]; simp)] at heq
      refine ⟨by unfold InI; omega, ⟨by omega, by omega, by omega, ?_⟩, by dsimp only; omega⟩
      rw [← heq]; congr 2; omega
  · have : i.toNat = ((preE 1 e).take 61).length := by omega
    rw [this, List.drop_length] at heq
    rw [← heq] at hK; exact hK

theorem echeck_is (e : Ex) (x : X_api_Expr) (M : Mem) (K : Value → Prop) (hR : ExR M e x) (hK : K (.int .i64 (exErr e))) : S_expr_Check x M K := by
  unfold S_expr_Check
  exact look_is _ e (Nat.lt_succ_self _) x M 1 0 _ hR (by omega) (by omega) (by omega) (by omega) fun M' _ => ⟨_, rfl, hK⟩

theorem walk : WalkGoal := by
  intro H enc W x n hx s hs
  obtain ⟨e, he⟩ := ex_of n x hx
  refine s_chafflaw_ExprChecks _ _ _ _ ?_
  unfold S_chafflaw_ExprChecks
  refine s_expr_Name _ _ _ (ename_is s hs _ _ ⟨_, rfl, s_chaffref_Name _ _ _ (rname_is s hs _ _ ⟨_, rfl, fun _ => ?_, fun h => absurd rfl h⟩)⟩)
  refine s_expr_Check _ _ _ (echeck_is e x _ _ he ⟨_, rfl, s_chaffref_Expr _ _ _ (rexpr_is e x _ _ he ⟨_, rfl, ?_⟩)⟩)
  simp

theorem holds : Rows.ExprChecksSaid := top walk
#print axioms holds
end Go.Proofs.Ytdlfhmdojbejkaa.lawExprChecks
