/- Contracts and what they hang on, of several parts. No condition. -/
import Derived.Test.YtifkffmecfgpeaaM3
import Derived.Test.YtifkffmecfgpeaaTreeSaysLawG
namespace Go.Proofs.Ytifkffmecfgpeaa.core
open Go.Gx Go.RowKit Go.ChangeShapes Go.WideShapes Go.ChangeAt
set_option linter.unusedVariables false
def ChainOk (c : PkC) (L : List Ex) (n : Int) : List Tr → List Evt → List Evt → Prop
 | [], t, t' => t = t'
 | k :: l, t, t' => ∃ e t1, L[k.Kid.toNat]? = some e ∧ (PegOk c.rs e → 0 ≤ k.At → k.At ≤ c.s.length → 0 ≤ n + preN L k.Kid.toNat → n + preN L k.Kid.toNat + cnt e ≤ c.tot → TryOk c e (n + preN L k.Kid.toNat) k.At t t1) ∧ ChainOk c L n l t1 t'
theorem PI.le {c : PkC} {t : List Evt} {M : Mem} (h : PI c t M) : c.V.le M := by obtain ⟨_, _, _, h⟩ := h; exact h.le
section
variable {c : PkC} {e : Ex} {n p : Int} {t t1 : List Evt}
theorem kid_room (hn1 : n + cnt e ≤ c.tot) {i : Nat} {k : Ex} (hk : e.kids[i]? = some k) : n + 1 + preN e.kids i + cnt k ≤ c.tot := by
 have := preN_kid hk
 have := cnt_eq e
 omega
theorem kid_cnt {i : Nat} {k : Ex} (hk : e.kids[i]? = some k) : cnt k ≤ cnt e := by
 have := preN_kid hk
 have := cnt_eq e
 omega
theorem seq_is (hc : c.Ok) (h5 : e.kind = 5) (hok : PegOk c.rs e) (hp : 0 ≤ p) (hl : p ≤ c.s.length) (hn0 : 0 ≤ n) (hn1 : n + cnt e ≤ c.tot) (hch : ChainOk c e.kids (n + 1) (kidK c.rs c.s c.E e p) t t1) {M : Mem} {x : X_api_Expr} {K : Value → Mem → Prop} (hR : ExR c.V e x) (hP : PI c t M)
  (hK : ∀ M' to, PI c t1 M' → (0 ≤ c.res e p → to = c.res e p) → K (.tuple #[.int .i64 to, .bool (decide (0 ≤ c.res e p))]) M') : S_pack_Parser_seq c.ptr x n p M c.LV K := by
 obtain ⟨xs, hx⟩ := hR.open
 have hsm := hc.small
 have hl8 := kids8 hok.good
 have hres : c.res e p = seqE c.rs c.s c.E e.kids p := by
  unfold PkC.res; rw [endE_eq, if_neg (by omega), if_neg (by omega), if_neg (by omega), if_neg (by omega), if_pos h5]
 unfold kidK at hch
 rw [if_pos h5] at hch
 unfold S_pack_Parser_seq
 refine ⟨inI_small (by omega) (by omega), List Evt, fun t' q k i M' => 0 ≤ i ∧ i ≤ e.kids.length ∧ 0 ≤ q ∧ q ≤ c.s.length ∧ k = n + 1 + preN e.kids i.toNat ∧ PI c t' M' ∧ ChainOk c e.kids (n + 1) (seqK (endE c.rs c.s c.E) (e.kids.drop i.toNat) i q) t' t1 ∧ seqE c.rs c.s c.E (e.kids.drop i.toNat) q = c.res e p, fun _ _ _ i => e.kids.length - i.toNat, t,
  ⟨by omega, by omega, hp, hl, by simp [preN], hP, by simpa using hch, by rw [hres]; rfl⟩, fun t' q k i M' ⟨i0, i1, q0, q1, hkn, hP', hch', hrs⟩ => ⟨fun hlt => ?_, fun hge => ?_⟩⟩
 ·rw [hx.len] at hlt
  obtain ⟨ke, hk⟩ := getI (l := e.kids) i0 hlt
  have hkm := List.mem_of_getElem? hk
  obtain ⟨b, o, y, ha, hat, hy, _⟩ := hx.kid hk
  rw [drop_get hk, seqK] at hch'
  rw [drop_get hk, seqE] at hrs
  obtain ⟨e', t2, he', hT', hrest⟩ := hch'
  simp only at he' hT'
  rw [hk] at he'; cases he'
  have hroom := kid_room hn1 hk
  have hcnt := kid_cnt hk
  have hkr : c.res ke q = -1 ∨ (q ≤ c.res ke q ∧ c.res ke q ≤ c.s.length) := hc.hT.res (hok.kid hkm) q0 q1
  have hT' := hT' (hok.kid hkm) q0 q1 (by omega) hroom
  rw [← hkn] at hT'
  refine ⟨b, o, ha, i0, by rw [hx.len]; exact hlt, y, hat.le hP'.le, (s_pack_Parser_try _ _ _ _ _ _ _ (hT' M' y _ hy hP' fun M2 to hP2 hto => ⟨to, _, rfl, fun hno => ?_, fun hyes => ?_⟩)).mono (fun g h => .inl h) (fun v M' _ h => h)⟩
  ·have h0 : c.res ke q < 0 := by simpa using hno
   rw [if_pos h0] at hrest hrs
   have hrest : t2 = t1 := hrest
   subst hrest
   intro M3 hle
   have := hK M3 0 (hP2.up hc hle) (fun h => by rw [← hrs] at h; exact absurd h0 (Int.not_lt.2 h))
   rw [decide_eq_false (by rw [← hrs]; exact Int.not_le.2 h0)] at this
   exact this
  ·have h0 : 0 ≤ c.res ke q := by simpa using hyes
   rw [if_neg (Int.not_lt.2 h0)] at hrest hrs
   have hto := hto h0
   subst hto
   refine (s_pack_count _ _ _ _ (count_is _ ke (Nat.lt_succ_self _) (by omega) _ _ _ (hy.le hP2.le) fun M3 hle3 => ⟨_, rfl, ?_, ?_, t2, ⟨by omega, by omega, h0, by omega, ?_, hP2.up hc hle3, ?_, ?_⟩, ?_⟩)).mono (fun _ h => h.elim) (fun v M' _ h => h)
   ·exact inI_small (by omega) (by omega)
   ·exact inI_small (by omega) (by omega)
   ·rw [show (i + 1).toNat = i.toNat + 1 by omega, preN_succ hk, hkn]; push_cast; omega
   ·rw [show (i + 1).toNat = i.toNat + 1 by omega]; exact hrest
   ·rw [show (i + 1).toNat = i.toNat + 1 by omega]; exact hrs
   ·show e.kids.length - (i + 1).toNat < e.kids.length - i.toNat
    omega
 ·rw [hx.len] at hge
  rw [List.drop_of_length_le (by omega), seqK] at hch'
  rw [List.drop_of_length_le (by omega), seqE] at hrs
  have hch' : t' = t1 := hch'
  subst hch'
  intro M2 hle
  have := hK M2 q (hP'.up hc hle) (fun _ => hrs)
  rw [decide_eq_true (by rw [← hrs]; exact q0)] at this
  exact this
theorem not_two {z p l : Int} (h : z = -1 ∨ (p ≤ z ∧ z ≤ l)) (hp : 0 ≤ p) : z ≠ -2 := by omega
theorem single_is (hc : c.Ok) (h7 : 7 ≤ e.kind) (hok : PegOk c.rs e) (hp : 0 ≤ p) (hl : p ≤ c.s.length) (hn0 : 0 ≤ n) (hn1 : n + cnt e ≤ c.tot) (hch : ChainOk c e.kids (n + 1) (kidK c.rs c.s c.E e p) t t1) {M : Mem} {x : X_api_Expr} {K : Value → Mem → Prop} (hR : ExR c.V e x) (hP : PI c t M)
  (hK : ∀ M' to, PI c t1 M' → (0 ≤ c.res e p → to = c.res e p) → K (.tuple #[.int .i64 to, .bool (decide (0 ≤ c.res e p))]) M') : S_pack_Parser_single c.ptr x n p M c.LV K := by
 obtain ⟨xs, hx⟩ := hR.open
 have hsm := hc.small
 obtain ⟨g1, g2, g3, g4, g5, g6, _⟩ := fitE_kinds hok.good.fit
 obtain ⟨k, hk1⟩ := List.length_eq_one_iff.1 (g5 h7)
 have hk : e.kids[(0 : Int).toNat]? = some k := by rw [hk1]; rfl
 have hkm : k ∈ e.kids := by rw [hk1]; simp
 obtain ⟨b, o, y, ha, hat, hy, _⟩ := hx.kid hk
 have hroom := kid_room hn1 hk
 have hp0 : preN e.kids (0 : Int).toNat = 0 := by simp [preN]
 have hkr : c.res k p = -1 ∨ (p ≤ c.res k p ∧ c.res k p ≤ c.s.length) := hc.hT.res (hok.kid hkm) hp hl
 have hhd : hdE c.rs c.s c.E e.kids = endE c.rs c.s c.E k := by rw [hk1]; funext q; rw [hdE]
 have hres : c.res e p = if e.kind = 7 ∨ e.kind = 8 then strE (endE c.rs c.s c.E k) (decide (e.kind = 8)) (c.s.length + 2) p true else oneE e.kind p (c.res k p) := by
  unfold PkC.res; rw [endE_eq, if_neg (by omega), if_neg (by omega), if_neg (by omega), if_neg (by omega), if_neg (by omega), if_neg (by omega), hhd]
 have hkk : kidK c.rs c.s c.E e p = ⟨0, p⟩ :: (if e.kind = 7 ∨ e.kind = 8 then staK (endE c.rs c.s c.E k) (c.s.length + 2) (c.res k p) else []) := by
  unfold kidK
  rw [if_neg (by omega), if_neg (by omega)]
  by_cases h78 : e.kind = 7 ∨ e.kind = 8
  ·rw [if_pos h78, if_pos h78, staK, if_neg (by omega), hhd]
  ·rw [if_neg h78, if_neg h78, if_pos (by omega)]
 rw [hkk] at hch
 obtain ⟨e', t2, he', hT', hrest⟩ := hch
 simp only at he' hT'
 rw [hk] at he'; cases he'
 have hT' := hT' (hok.kid hkm) hp hl (by omega) hroom
 have hone : ∀ q, (((n + 1 : Int) + (preN e.kids (0 : Int).toNat : Nat))) = n + 1 + q → q = 0 := fun q h => by rw [hp0] at h; omega
 rw [hp0, show (n + 1 : Int) + ((0 : Nat) : Int) = n + 1 by omega] at hT'
 unfold S_pack_Parser_single
 rw [hx.kind]
 have hkl : 0 < ((x.Kids_l : Nat) : Int) := by rw [hx.len, hk1]; simp
 refine ⟨b, o, ha, by omega, hkl, y, hat.le hP.le, inI_small (by omega) (by omega), (s_pack_Parser_try _ _ _ _ _ _ _ (hT' M y _ hy hP fun M2 to hP2 hto => ⟨to, _, rfl, fun k10 => ?_, fun n10 => ⟨fun k11 => ?_, fun n11 => ⟨fun hno => ?_, fun hyes => ?_⟩⟩⟩)).mono (fun g h => .inl h) (fun v M' _ h => h)⟩
 ·rw [if_neg (by omega)] at hrest hres
  have hrest : t2 = t1 := hrest
  subst hrest
  intro M3 hle
  unfold oneE at hres
  rw [if_neg (by omega), if_neg (by omega)] at hres
  have := hK M3 p (hP2.up hc hle) (fun h => by split at hres <;> omega)
  rw [show decide (0 ≤ c.res e p) = decide (0 ≤ c.res k p) by rw [decide_eq_decide]; split at hres <;> omega] at this
  exact this
 ·rw [if_neg (by omega)] at hrest hres
  have hrest : t2 = t1 := hrest
  subst hrest
  intro M3 hle
  unfold oneE at hres
  rw [if_neg (by omega), if_neg (by omega)] at hres
  have := hK M3 p (hP2.up hc hle) (fun h => by split at hres <;> omega)
  rw [show decide (0 ≤ c.res e p) = !decide (0 ≤ c.res k p) by rw [Bool.eq_iff_iff, Bool.not_eq_true', decide_eq_true_iff, decide_eq_false_iff_not]; split at hres <;> omega] at this
  exact this
 ·have h0 : c.res k p < 0 := by simpa using hno
  intro M3 hle
  have hend : t2 = t1 := by
   by_cases h78 : e.kind = 7 ∨ e.kind = 8
   ·rw [if_pos h78, staK, if_pos h0] at hrest; exact hrest
   ·rw [if_neg h78] at hrest; exact hrest
  subst hend
  have hval : c.res e p = if e.kind = 8 then c.res k p else p := by
   rw [hres]
   by_cases h78 : e.kind = 7 ∨ e.kind = 8
   ·rw [if_pos h78, strE]
    by_cases h8 : e.kind = 8
    ·rw [if_pos (.inr ⟨h0, rfl, by simpa using h8⟩), if_pos h8]
    ·rw [if_neg (fun h => h.elim (not_two hkr hp) fun h => h8 (by simpa using h.2.2)), if_pos h0, if_neg h8]
   ·rw [if_neg h78, if_neg (by omega)]
    unfold oneE
    rw [if_neg (by omega), if_neg (by omega), if_neg (by omega)]
  have := hK M3 p (hP2.up hc hle) (fun h => by split at hval <;> omega)
  rw [show decide (0 ≤ c.res e p) = (e.kind != (8 : Int)) by rw [Bool.eq_iff_iff, decide_eq_true_iff, bne_iff_ne]; split at hval <;> omega] at this
  exact this
 ·have h0 : 0 ≤ c.res k p := by simpa using hyes
  have hto := hto h0
  subst hto
  refine ⟨List Evt × Nat, fun g q M' => 0 ≤ q ∧ q ≤ c.s.length ∧ PI c g.1 M' ∧ (e.kind = 7 ∨ e.kind = 8 → ChainOk c e.kids (n + 1) (staK (endE c.rs c.s c.E k) (g.2 + 1) q) g.1 t1 ∧ strE (endE c.rs c.s c.E k) (decide (e.kind = 8)) g.2 q false = c.res e p ∧ c.s.length + 1 ≤ q + g.2) ∧ (¬ (e.kind = 7 ∨ e.kind = 8) → g.1 = t1 ∧ q = c.res e p), fun _ q => (c.s.length + 1 - q).toNat, (t2, c.s.length + 1),
   ⟨h0, by omega, hP2, fun h78 => ⟨by rw [if_pos h78] at hrest; exact hrest, ?_, ?_⟩, fun h78 => ⟨by rw [if_neg h78] at hrest; exact hrest, ?_⟩⟩, fun g q M' ⟨q0, q1, hP', hl78, hl9⟩ => ⟨fun n9 => ?_, fun k9 => ?_⟩⟩
  ·rw [if_pos h78, strE, if_neg (fun h => h.elim (not_two hkr hp) fun h => Int.not_lt.2 h0 h.1), if_neg (Int.not_lt.2 h0)] at hres
   exact hres.symm
  ·have : (e.kind = 7 ∨ e.kind = 8) := h78
   have hem := hok.star hk1 h78
   have hne : c.res k p ≠ p := fun h => by
    have := hc.hT.empty (hok.kid hkm) hp hl h
    rw [this] at hem; cases hem
   push_cast; omega
  ·rw [if_neg h78] at hres
   unfold oneE at hres
   rw [if_neg (by omega)] at hres
   by_cases h9 : e.kind = 9
   ·rw [if_pos ⟨h9, h0⟩] at hres; exact hres.symm
   ·omega
  ·have h78 : e.kind = 7 ∨ e.kind = 8 := by omega
   obtain ⟨hch2, hst, hm⟩ := hl78 h78
   obtain ⟨t3, m⟩ := g
   simp only at hch2 hst hm hP'
   have hem := hok.star hk1 h78
   have hne : c.res k q ≠ q := fun h => by
    have := hc.hT.empty (hok.kid hkm) q0 q1 h
    rw [this] at hem; cases hem
   have hqr : c.res k q = -1 ∨ (q ≤ c.res k q ∧ c.res k q ≤ c.s.length) := hc.hT.res (hok.kid hkm) q0 q1
   rw [staK, if_neg (by omega)] at hch2
   obtain ⟨e', t4, he', hT2, hrest2⟩ := hch2
   simp only at he' hT2
   rw [hk] at he'; cases he'
   have hT2 := hT2 (hok.kid hkm) q0 q1 (by omega) hroom
   rw [hp0, show (n + 1 : Int) + ((0 : Nat) : Int) = n + 1 by omega] at hT2
   cases m with
   | zero => omega
   | succ m =>
    rw [strE] at hst
    refine ⟨b, o, ha, by omega, hkl, y, hat.le hP'.le, inI_small (by omega) (by omega), (s_pack_Parser_try _ _ _ _ _ _ _ (hT2 M' y _ hy hP' fun M3 to hP3 hto => ⟨to, _, rfl, fun hno => ?_, fun hyes => ?_⟩)).mono (fun g h => .inl h) (fun v M' _ h => h)⟩
    ·have hq0 : c.res k q < 0 := by simpa using hno
     rw [staK, if_pos hq0] at hrest2
     have hrest2 : t4 = t1 := hrest2
     subst hrest2
     rw [if_neg (fun h => h.elim (not_two hqr q0) fun h => by cases h.2.1), if_pos hq0] at hst
     unfold S_pack_Parser_single_J1
     intro M4 hle
     have := hK M4 q (hP3.up hc hle) (fun _ => hst)
     rw [decide_eq_true (by rw [← hst]; exact q0)] at this
     exact this
    ·have hq0 : 0 ≤ c.res k q := by simpa using hyes
     have hto := hto hq0
     subst hto
     rw [if_neg (fun h => h.elim (not_two hqr q0) fun h => Int.not_lt.2 hq0 h.1), if_neg (Int.not_lt.2 hq0)] at hst
     exact ⟨(t4, m), ⟨hq0, by omega, hP3, fun _ => ⟨hrest2, hst, by push_cast at hm; omega⟩, fun h => absurd h78 h⟩, by show ((c.s.length : Int) + 1 - c.res k q).toNat < ((c.s.length : Int) + 1 - q).toNat; omega⟩
  ·have h9 : e.kind = 9 := by simpa using k9
   obtain ⟨h1, h2⟩ := hl9 (by omega)
   unfold S_pack_Parser_single_J1
   intro M3 hle
   rw [h1] at hP'
   have := hK M3 q (hP'.up hc hle) (fun _ => h2)
   rw [decide_eq_true (by rw [← h2]; exact q0)] at this
   exact this
end
end Go.Proofs.Ytifkffmecfgpeaa.core

namespace Go.Proofs.Ytifkffmecfgpeaa.core
open Go.Gx Go.RowKit Go.ChangeShapes Go.WideShapes Go.ChangeAt
set_option linter.unusedVariables false
theorem cpl_le : ∀ a b : List UInt8, cpl a b ≤ a.length ∧ cpl a b ≤ b.length
 | [], _ => by simp [cpl]
 | _ :: _, [] => by simp [cpl]
 | x :: a, y :: b => by
  have := cpl_le a b
  rw [cpl]
  split <;> simp <;> omega
theorem cpl_same : ∀ (a b : List UInt8) (k : Nat), k < cpl a b → a[k]? = b[k]?
 | [], _, k, h => by simp [cpl] at h
 | _ :: _, [], k, h => by simp [cpl] at h
 | x :: a, y :: b, k, h => by
  rw [cpl] at h
  split at h
  ·rename_i hxy
   cases k with
   | zero => simp [hxy]
   | succ k => simpa using cpl_same a b k (by omega)
  ·omega
theorem cpl_end : ∀ (a b : List UInt8) (x : UInt8), a[cpl a b]? = some x → b[cpl a b]? ≠ some x
 | [], _, x, h => by simp at h
 | _ :: _, [], x, h => by simp
 | u :: a, v :: b, x, h => by
  rw [cpl] at h ⊢
  split at h
  ·rename_i huv
   rw [if_pos huv]
   simp only [List.getElem?_cons_succ] at h ⊢
   exact cpl_end a b x h
  ·rename_i huv
   rw [if_neg huv]
   simp only [List.getElem?_cons_zero, Option.some.injEq] at h ⊢
   subst h; exact fun h' => huv (Option.some.inj h').symm
theorem cpl_all : ∀ (a b : List UInt8), cpl a b = b.length → b.length ≤ a.length ∧ a.take b.length = b
 | _, [], _ => by simp
 | [], _ :: _, h => by simp [cpl] at h
 | u :: a, v :: b, h => by
  rw [cpl] at h
  split at h
  ·rename_i huv
   have := cpl_all a b (by simpa using h)
   subst huv
   simp only [List.length_cons, List.take_succ_cons]
   exact ⟨by omega, by rw [this.2]⟩
  ·simp at h
theorem Missed.as {far far' p : Int} {want want' : X_api_Set} {f g : Nat → Bool} (h : Missed far want p f far' want') (hfg : ∀ b, b < 256 → f b = g b) : Missed far want p g far' want' :=
 ⟨h.1, h.2.1, fun b hb => by rw [h.2.2 b hb, hfg b hb]⟩
section
variable {c : PkC} {e : Ex} {n p : Int} {t t1 : List Evt}
def RuleOk (c : PkC) (i p : Int) (t t' : List Evt) : Prop := ∀ (M : Mem) (K : Value → Mem → Prop), PI c t M → (∀ M', PI c t' M' → K (outE (c.E p.toNat i.toNat) p).val M') → S_pack_Parser_Rule c.ptr i p M c.LV K
theorem node_is (hc : c.Ok) (hok : PegOk c.rs e) (hp : 0 ≤ p) (hl : p ≤ c.s.length) (hn0 : 0 ≤ n) (hn1 : n + cnt e ≤ c.tot) (h4 : e.kind = 4 → RuleOk c (findR e.text c.rs 0) p t t1) (hch : e.kind ≠ 4 → ChainOk c e.kids (n + 1) (kidK c.rs c.s c.E e p) t t1) : NodeOk c e n p t t1 := by
 intro M x K hR hP hK
 obtain ⟨xs, hx⟩ := hR.open
 have hsm := hc.small
 have hs60 := hc.s60
 have hl8 := kids8 hok.good
 obtain ⟨g1, g2, g3, g4, g5, g6, _⟩ := fitE_kinds hok.good.fit
 have fin : ∀ (M' : Mem) (to : Int) (b : Bool), PI c t1 M' → missOf c.rs c.s c.E (.node n p e) = none → b = decide (0 ≤ c.res e p) → (0 ≤ c.res e p → to = c.res e p) → K (.tuple #[.int .i64 to, .bool b]) M' := fun M' to b ⟨far, want, hF, hB⟩ hm hb hto => by
  rw [hb]; exact hK M' to far want hB (hF.skip hm) hto
 have mnone : e.kind ≠ 2 → e.kind ≠ 3 → missOf c.rs c.s c.E (.node n p e) = none := fun h2 h3 => by
  rw [missOf, if_neg h2, if_neg h3]; split <;> rfl
 have mpos : 0 ≤ c.res e p → missOf c.rs c.s c.E (.node n p e) = none := fun h => by
  rw [missOf, if_neg (Int.not_lt.2 h)]
 have leaf : e.kind ≤ 3 → t = t1 := fun h => by
  have := hch (by omega)
  unfold kidK at this
  rw [if_neg (by omega), if_neg (by omega), if_neg (show ¬ (e.kind = 7 ∨ e.kind = 8) by omega), if_neg (by omega)] at this
  exact this
 have atS : ∀ {t M}, PI c t M → At M c.pb (0 + 1) [.string (mkS c.s)] := fun ⟨far, want, _, h⟩ => by
  obtain ⟨la, lc, h1⟩ := h.at
  exact h1.part 1 [.string (mkS c.s)] rfl
 have atG : ∀ {t M}, PI c t M → At M c.pb 0 [.slice c.ga c.gl c.gc] := fun ⟨far, want, _, h⟩ => by
  obtain ⟨la, lc, h1⟩ := h.at
  exact h1.part 0 [.slice c.ga c.gl c.gc] rfl
 unfold S_pack_Parser_node
 rw [hx.kind]
 refine ⟨fun k1 M2 hle => ?_, fun n1 => ?_⟩
 ·have ht := leaf (by omega)
  subst ht
  have hr : c.res e p = p := by unfold PkC.res; rw [endE_eq, if_pos k1]
  exact fin M2 p true (hP.up hc hle) (mpos (by rw [hr]; exact hp)) (by rw [hr]; exact (decide_eq_true hp).symm) fun _ => hr.symm
 refine ⟨fun k2 => ?_, fun n2 => ?_⟩
 ·have ht := leaf (by omega)
  subst ht
  have hr : c.res e p = setE e.set c.s p := by unfold PkC.res; rw [endE_eq, if_neg n1, if_pos k2]
  have j1 : ∀ v : Bool, v = decide (0 ≤ c.res e p) → (v = true → c.res e p = p + 1) → S_pack_Parser_node_J1 c.ptr x p M c.LV v K := by
   intro v hv hv1
   unfold S_pack_Parser_node_J1
   refine ⟨fun ht => ⟨inI_small (by omega) (by omega), fun M2 hle => fin M2 _ true (hP.up hc hle) (mpos (by rw [hv1 ht]; omega)) (by rw [← hv, ht]) fun _ => (hv1 ht).symm⟩, fun hf => ?_⟩
   have hneg : ¬ 0 ≤ c.res e p := fun h => hf (by rw [hv, decide_eq_true h])
   obtain ⟨far, want, hF, hB⟩ := hP
   rw [hx.set]
   refine (s_pack_Parser_miss _ _ _ _ _ _ (miss_is hc hB hF.wf hx.hs fun M2 far' want' hB2 hm => ⟨rfl, fun M3 hle => ?_⟩)).mono (fun g h => .inl h) (fun v M' _ h => h)
   have := hK M3 0 far' want' (hB2.up hc hle) (hF.miss hp (x := .node n p e) (by rw [missOf, if_pos (Int.not_le.1 hneg), if_pos k2]) hm) fun h => absurd h hneg
   rw [decide_eq_false hneg] at this
   exact this
  refine ⟨c.pb, 0, rfl, c.s, atS hP, fun hlt => ?_, fun hge => ?_⟩
  ·obtain ⟨d, hd⟩ := getI (l := c.s) hp hlt
   unfold setE at hr
   rw [hd] at hr
   simp only at hr
   rw [hx.set]
   refine ⟨c.pb, 0, rfl, c.s, atS hP, d, hp, hd, s_set_Has _ _ _ _ (has_is hx.hs d _ ⟨_, rfl, j1 _ ?_ fun hb => ?_⟩)⟩
   ·rw [Bool.eq_iff_iff, decide_eq_true_iff]
    split at hr <;> rename_i hb <;> simp only [hb, hr] <;> simp <;> omega
   ·rw [if_pos hb] at hr; exact hr
  ·unfold setE at hr
   rw [List.getElem?_eq_none (by omega)] at hr
   simp only at hr
   exact j1 _ (by rw [hr]; rfl) fun h => by cases h
 refine ⟨fun k3 => ?_, fun n3 => ?_⟩
 ·have ht := leaf (by omega)
  subst ht
  have h12 := g6 k3
  have hr : c.res e p = litE e.text c.s p := by unfold PkC.res; rw [endE_eq, if_neg n1, if_neg n2, if_pos k3]
  rw [hx.text]
  refine ⟨c.pb, 0, rfl, c.s, atS hP, hp, hl, by omega, s_strings_HasPrefix _ _ _ _ (prefix_is _ _ _ ⟨_, rfl, fun hyes => ⟨inI_small (by omega) (by omega), fun M2 hle => ?_⟩, fun hno => ?_⟩)⟩
  ·have hh := of_decide_eq_true hyes
   rw [Int.toNat_natCast, List.take_length, List.length_drop] at hh
   have hr2 : c.res e p = p + ((e.text.length : Nat) : Int) := by
    rw [hr]; unfold litE
    rw [if_pos ⟨by omega, by rw [List.drop_take, show (p + ((e.text.length : Nat) : Int)).toNat - p.toNat = e.text.length by omega]; exact hh.2⟩]
   exact fin M2 _ true (hP.up hc hle) (mpos (by rw [hr2]; omega)) (by rw [hr2]; exact (decide_eq_true (by omega)).symm) fun _ => hr2.symm
  ·have hh : ¬ (e.text.length ≤ (c.s.drop p.toNat).length ∧ (c.s.drop p.toNat).take e.text.length = e.text) := by
    intro h
    apply hno
    rw [Int.toNat_natCast, List.take_length, decide_eq_true h]
   have hneg : c.res e p = -1 := by
    rw [hr]; unfold litE
    rw [if_neg]
    rintro ⟨h1, h2⟩
    rw [List.drop_take, show (p + ((e.text.length : Nat) : Int)).toNat - p.toNat = e.text.length by omega] at h2
    exact hh ⟨by rw [List.length_drop]; omega, h2⟩
   obtain ⟨cl1, cl2⟩ := cpl_le (c.s.drop p.toNat) e.text
   have hlt : cpl (c.s.drop p.toNat) e.text < e.text.length := by
    rcases Nat.lt_or_ge (cpl (c.s.drop p.toNat) e.text) e.text.length with h | h
    ·exact h
    ·exact absurd (cpl_all _ _ (by omega)) hh
   have hme : missOf c.rs c.s c.E (.node n p e) = some (p + (cpl (c.s.drop p.toNat) e.text : Nat), fun b => decide ((e.text[cpl (c.s.drop p.toNat) e.text]?).map UInt8.toNat = some b)) := by
    rw [missOf, if_pos (show c.res e p < 0 by rw [hneg]; omega), if_neg n2, if_pos k3]
   have hsame := cpl_same (c.s.drop p.toNat) e.text
   have hend := cpl_end (c.s.drop p.toNat) e.text
   rw [List.length_drop] at cl1
   generalize hC : cpl (c.s.drop p.toNat) e.text = C at hlt hme hsame hend cl1 cl2
   have j2 : ∀ (k : Int) (v : Bool), 0 ≤ k → k ≤ C → (v = true → k + 1 ≤ C) → (v = false → k = C) → S_pack_Parser_node_J2 c.ptr x p M c.LV k (fun k => 0 ≤ k ∧ k ≤ C) (fun k => C - k.toNat) v K := by
    intro k v k0 k1 hv1 hv2
    unfold S_pack_Parser_node_J2
    refine ⟨fun ht => ⟨inI_small (by omega) (by omega), ⟨by omega, by have := hv1 ht; omega⟩, by have := hv1 ht; show C - (k + 1).toNat < C - k.toNat; omega⟩, fun hf => ?_⟩
    have hkC := hv2 (by simpa using hf)
    subst hkC
    obtain ⟨d, hd⟩ := getN (l := e.text) hlt
    have hd' : e.text[((C : Nat) : Int).toNat]? = some d := by rw [Int.toNat_natCast]; exact hd
    obtain ⟨far, want, hF, hB⟩ := hP
    rw [hx.text]
    refine ⟨inI_small (by omega) (by omega), d, k0, hd', d, k0, hd', ?_⟩
    rw [u8wF]
    refine s_set_Range _ _ _ _ (range_is _ _ _ ⟨_, rfl, (s_pack_Parser_miss _ _ _ _ _ _ (miss_is hc hB hF.wf (Us_wf _) fun M2 far' want' hB2 hm => ⟨rfl, fun M3 hle => ?_⟩)).mono (fun g h => .inl h) (fun v M' _ h => h)⟩)
    have := hK M3 0 far' want' (hB2.up hc hle) (hF.miss (by omega) hme (hm.as fun b hb => ?_)) fun h => by rw [hneg] at h; omega
    ·rw [decide_eq_false (by rw [hneg]; omega)] at this
     exact this
    ·rw [bit_Us hb, hd]
     unfold inR
     rw [Option.map_some, decide_eq_decide]
     simp only [Option.some.injEq]
     omega
   refine ⟨fun k => 0 ≤ k ∧ k ≤ C, fun k => C - k.toNat, ⟨by omega, by omega⟩, fun k ⟨k0, k1⟩ => ⟨inI_small (by omega) (by omega), c.pb, 0, rfl, c.s, atS hP, fun hlt2 => ?_, fun hge2 => ?_⟩⟩
   ·obtain ⟨a1, ha1⟩ := getI (l := c.s) (i := p + k) (by omega) hlt2
    obtain ⟨a2, ha2⟩ := getI (l := e.text) (i := k) k0 (by omega)
    have hdr : (c.s.drop p.toNat)[k.toNat]? = some a1 := by rw [List.getElem?_drop, ← ha1]; congr 1; omega
    refine ⟨c.pb, 0, rfl, c.s, atS hP, inI_small (by omega) (by omega), a1, by omega, ha1, a2, k0, ha2, j2 k _ k0 k1 (fun hv => ?_) fun hv => ?_⟩
    ·have hEq : a1 = a2 := by
      have := beq_iff_eq.1 hv
      exact UInt8.toNat_inj.1 (by omega)
     by_cases h : k < C
     ·omega
     ·exfalso
      have hkC : k.toNat = C := by omega
      rw [hkC] at hdr ha2
      exact hend a1 hdr (by rw [ha2, hEq])
    ·by_cases h : k < C
     ·exfalso
      have := hsame k.toNat (by omega)
      rw [hdr, ha2] at this
      have : a1 = a2 := Option.some.inj this
      rw [this] at hv
      simp at hv
     ·omega
   ·exact j2 k false k0 k1 (fun h => by cases h) fun _ => by omega
 refine ⟨fun k4 => ?_, fun n4 => ?_⟩
 ·have hf0 := hok.good.ref k4
  obtain ⟨hf1, hf2⟩ := findR_lt hf0
  have hr : c.res e p = c.E p.toNat (findR e.text c.rs 0).toNat := by unfold PkC.res; rw [endE_eq, if_neg n1, if_neg n2, if_neg n3, if_pos k4]
  have hrr : c.res e p = -1 ∨ (p ≤ c.res e p ∧ c.res e p ≤ c.s.length) := hc.hT.res hok hp hl
  rw [hx.text]
  refine ⟨c.pb, 0, rfl, _, _, _, atG hP, s_gram_Find _ _ _ _ _ _ (find_is (hc.gr.le hP.le) e.text _ ⟨_, rfl, (s_pack_Parser_Rule _ _ _ _ _ _ (h4 k4 M _ hP fun M2 hP2 => ⟨_, rfl, ?_⟩)).mono (fun g h => .inl h) (fun v M' _ h => h)⟩)⟩
  unfold S_pack_Parser_node_J3
  rw [← hr]
  unfold outE
  by_cases h0 : 0 ≤ c.res e p
  ·rw [if_pos h0]
   show InI (p + (c.res e p - p)) ∧ ∀ M', M2.le M' → K (.tuple #[.int .i64 (p + (c.res e p - p)), .bool true]) M'
   exact ⟨inI_small (by omega) (by omega), fun M3 hle => fin M3 _ true (hP2.up hc hle) (mpos h0) (decide_eq_true h0).symm fun _ => by omega⟩
  ·rw [if_neg h0]
   show InI (p + 0) ∧ ∀ M', M2.le M' → K (.tuple #[.int .i64 (p + 0), .bool false]) M'
   exact ⟨inI_small (by omega) (by omega), fun M3 hle => fin M3 _ false (hP2.up hc hle) (mnone n2 n3) (decide_eq_false h0).symm fun h => absurd h h0⟩
 refine ⟨fun k5 => ?_, fun n5 => ?_⟩
 ·refine (s_pack_Parser_seq _ _ _ _ _ _ _ (seq_is hc k5 hok hp hl hn0 hn1 (hch n4) hR hP fun M2 to hP2 hto => ⟨to, _, rfl, fun M3 hle => fin M3 to _ (hP2.up hc hle) (mnone n2 n3) rfl hto⟩)).mono (fun g h => .inl h) (fun v M' _ h => h)
 refine ⟨fun k6 => ?_, fun n6 => ?_⟩
 ·have hres : c.res e p = altE c.rs c.s c.E e.kids p := by
   unfold PkC.res; rw [endE_eq, if_neg n1, if_neg n2, if_neg n3, if_neg n4, if_neg n5, if_pos k6]
  have hch := hch n4
  unfold kidK at hch
  rw [if_neg n5, if_pos k6] at hch
  refine ⟨inI_small (by omega) (by omega), List Evt, fun t' k i M' => 0 ≤ i ∧ i ≤ e.kids.length ∧ k = n + 1 + preN e.kids i.toNat ∧ PI c t' M' ∧ ChainOk c e.kids (n + 1) (altK (endE c.rs c.s c.E) (e.kids.drop i.toNat) i p) t' t1 ∧ altE c.rs c.s c.E (e.kids.drop i.toNat) p = c.res e p, fun _ _ i => e.kids.length - i.toNat, t,
   ⟨by omega, by omega, by simp [preN], hP, by simpa using hch, by rw [hres]; rfl⟩, fun t' k i M' ⟨i0, i1, hkn, hP', hch', hrs⟩ => ⟨fun hlt => ?_, fun hge => ?_⟩⟩
  ·rw [hx.len] at hlt
   obtain ⟨ke, hk⟩ := getI (l := e.kids) i0 hlt
   have hkm := List.mem_of_getElem? hk
   obtain ⟨b, o, y, ha, hat, hy, _⟩ := hx.kid hk
   rw [drop_get hk, altK] at hch'
   rw [drop_get hk, altE] at hrs
   obtain ⟨e', t2, he', hT', hrest⟩ := hch'
   simp only at he' hT'
   rw [hk] at he'; cases he'
   have hroom := kid_room hn1 hk
   have hcnt := kid_cnt hk
   have hkr : c.res ke p = -1 ∨ (p ≤ c.res ke p ∧ c.res ke p ≤ c.s.length) := hc.hT.res (hok.kid hkm) hp hl
   have hT' := hT' (hok.kid hkm) hp hl (by omega) hroom
   rw [← hkn] at hT'
   refine ⟨b, o, ha, i0, by rw [hx.len]; exact hlt, y, hat.le hP'.le, (s_pack_Parser_try _ _ _ _ _ _ _ (hT' M' y _ hy hP' fun M2 to hP2 hto => ⟨to, _, rfl, fun hyes => ?_, fun hno => ?_⟩)).mono (fun g h => .inl h) (fun v M' _ h => h)⟩
   ·have h0 : 0 ≤ c.res ke p := by simpa using hyes
    rw [if_neg (Int.not_lt.2 h0)] at hrest
    have hne : c.res ke p ≠ -1 := by omega
    rw [if_pos hne] at hrs
    have hrest : t2 = t1 := hrest
    subst hrest
    have hto := hto h0
    subst hto
    have hrs : c.res ke p = c.res e p := hrs
    intro M3 hle
    rw [hrs]
    exact fin M3 _ true (hP2.up hc hle) (mnone n2 n3) (by rw [← hrs]; exact (decide_eq_true h0).symm) fun _ => rfl
   ·have h0 : c.res ke p < 0 := by simpa using hno
    rw [if_pos h0] at hrest
    have hne : ¬ c.res ke p ≠ -1 := by omega
    rw [if_neg hne] at hrs
    refine (s_pack_count _ _ _ _ (count_is _ ke (Nat.lt_succ_self _) (by omega) _ _ _ (hy.le hP2.le) fun M3 hle3 => ⟨_, rfl, ?_, ?_, t2, ⟨by omega, by omega, ?_, hP2.up hc hle3, ?_, ?_⟩, ?_⟩)).mono (fun _ h => h.elim) (fun v M' _ h => h)
    ·exact inI_small (by omega) (by omega)
    ·exact inI_small (by omega) (by omega)
    ·rw [show (i + 1).toNat = i.toNat + 1 by omega, preN_succ hk, hkn]; push_cast; omega
    ·rw [show (i + 1).toNat = i.toNat + 1 by omega]; exact hrest
    ·rw [show (i + 1).toNat = i.toNat + 1 by omega]; exact hrs
    ·show e.kids.length - (i + 1).toNat < e.kids.length - i.toNat
     omega
  ·rw [hx.len] at hge
   rw [List.drop_of_length_le (by omega), altK] at hch'
   rw [List.drop_of_length_le (by omega), altE] at hrs
   have hch' : t' = t1 := hch'
   subst hch'
   intro M2 hle
   exact fin M2 0 false (hP'.up hc hle) (mnone n2 n3) (by rw [← hrs]; rfl) fun h => by rw [← hrs] at h; omega
 ·refine (s_pack_Parser_single _ _ _ _ _ _ _ (single_is hc (by omega) hok hp hl hn0 hn1 (hch n4) hR hP fun M2 to hP2 hto => ⟨to, _, rfl, fun M3 hle => fin M3 to _ (hP2.up hc hle) (mnone n2 n3) rfl hto⟩)).mono (fun g h => .inl h) (fun v M' _ h => h)
end
end Go.Proofs.Ytifkffmecfgpeaa.core

namespace Go.Proofs.Ytifkffmecfgpeaa.core
open Go.Gx Go.RowKit Go.ChangeShapes Go.WideShapes Go.ChangeAt
set_option linter.unusedVariables false
def JobOk (rs : List Ru) (s : List UInt8) (E : Nat → Nat → Int) : Job → Prop
 | .node e _ p => PegOk rs e ∧ 0 ≤ p ∧ p ≤ s.length
 | .rule i p => 0 ≤ i ∧ i < rs.length ∧ 0 ≤ p ∧ p ≤ s.length
 | .kids L _ l => ∃ (e : Ex) (p : Int), L = e.kids ∧ PegOk rs e ∧ 0 ≤ p ∧ p ≤ s.length ∧ ∀ k ∈ l, k ∈ kidK rs s E e p
def LowE (rs : List Ru) (st : Nat → Nat) (e : Ex) (p i q : Int) : Prop := p < q ∨ (q = p ∧ ∃ j ∈ needsE rs (knOf rs) e, st i.toNat ≤ st j)
def LowJ (rs : List Ru) (st : Nat → Nat) : Job → Int → Int → Prop
 | .node e _ p, i, q => LowE rs st e p i q
 | .rule k p, i, q => p < q ∨ (q = p ∧ st i.toNat ≤ st k.toNat)
 | .kids L _ l, i, q => ∃ k ∈ l, ∃ e, L[k.Kid.toNat]? = some e ∧ LowE rs st e k.At i q
theorem goes_low {rs : List Ru} {s : List UInt8} {E : Nat → Nat → Int} (hw : WellOk rs) (hT : Tab rs s E) {st : Nat → Nat} (hst : ∀ (i : Nat) r, rs[i]? = some r → ∀ j ∈ needsE rs (knOf rs) r.body, st j < st i) {j : Job} {t t1 : List Evt} (h : Goes rs s E j t t1) :
  JobOk rs s E j → ∀ i q, Evt.done i q ∈ t1 → Evt.done i q ∈ t ∨ LowJ rs st j i q := by
 induction h with
 | @ref e n p t t' h4 _ ih =>
  intro ⟨hok, hp, hl⟩ i q hd
  have hf := hok.good.ref h4
  obtain ⟨f1, f2⟩ := findR_lt hf
  rcases ih ⟨hf, f2, hp, hl⟩ i q (by simpa using hd) with h | h | ⟨h1, h2⟩
  ·exact .inl h
  ·exact .inr (.inl h)
  ·exact .inr (.inr ⟨h1, _, by rw [needsE_eq, if_pos h4]; simp, h2⟩)
 | @inner e n p t t' h4 _ ih =>
  intro ⟨hok, hp, hl⟩ i q hd
  rcases ih ⟨e, p, rfl, hok, hp, hl, fun k hk => hk⟩ i q (by simpa using hd) with h | ⟨k, hk, x, hx, h⟩
  ·exact .inl h
  ·obtain ⟨_, _, x', hx', htr, hpk, hnd⟩ := kid_all hT hok hp hl k hk
   rw [hx] at hx'; cases hx'
   rcases h with h | ⟨h1, j0, h2, h3⟩
   ·exact .inr (.inl (by omega))
   ·by_cases he : k.At = p
    ·exact .inr (.inr ⟨by omega, j0, hnd he j0 h2, h3⟩)
    ·exact .inr (.inl (by omega))
 | seen _ => exact fun _ i q hd => .inl hd
 | @rule k p r t t' hn hr _ ih =>
  intro ⟨hk, hk2, hp, hl⟩ i q hd
  rcases List.mem_append.1 hd with hd | hd
  ·rcases ih ⟨hw.peg (List.mem_of_getElem? hr), hp, hl⟩ i q hd with h | h | ⟨h1, j0, h2, h3⟩
   ·exact .inl h
   ·exact .inr (.inl h)
   ·exact .inr (.inr ⟨h1, Nat.le_of_lt (Nat.lt_of_le_of_lt h3 (hst _ r hr j0 h2))⟩)
  ·simp only [List.mem_singleton, Evt.done.injEq] at hd
   obtain ⟨rfl, rfl⟩ := hd
   exact .inr (.inr ⟨rfl, Nat.le_refl _⟩)
 | nil => exact fun _ i q hd => .inl hd
 | @cons L n k l x t ta tb he _ _ ih1 ih2 =>
  intro ⟨e, p, hL, hok, hp, hl, hks⟩ i q hd
  obtain ⟨_, hk1, x', hx', htr⟩ := kid_all hT hok hp hl k (hks k (by simp))
  rw [← hL, he] at hx'; cases hx'
  rcases ih2 ⟨e, p, hL, hok, hp, hl, fun y hy => hks y (by simp [hy])⟩ i q hd with h | ⟨y, hy, r, hr, h⟩
  ·rcases ih1 ⟨hok.kid htr.1, by have := htr.2.1; omega, hk1⟩ i q h with h | h
   ·exact .inl h
   ·exact .inr ⟨k, by simp, x, he, h⟩
  ·exact .inr ⟨y, by simp [hy], r, hr, h⟩
theorem goes_own {rs : List Ru} {s : List UInt8} {E : Nat → Nat → Int} (hw : WellOk rs) (hT : Tab rs s E) {i p n : Int} {r : Ru} (hr : rs[i.toNat]? = some r) (hp : 0 ≤ p) (hl : p ≤ s.length) {t t1 : List Evt} (h : Goes rs s E (.node r.body n p) t t1) (hn : Evt.done i p ∉ t) : Evt.done i p ∉ t1 := by
 obtain ⟨st, _, hst⟩ := hw.stage
 intro hd
 rcases goes_low hw hT hst h ⟨hw.peg (List.mem_of_getElem? hr), hp, hl⟩ i p hd with h | h | ⟨_, j, h1, h2⟩
 ·exact hn h
 ·omega
 ·have := hst _ r hr j h1; omega
end Go.Proofs.Ytifkffmecfgpeaa.core

namespace Go.Proofs.Ytifkffmecfgpeaa.core
open Go.Gx Go.RowKit Go.ChangeShapes Go.WideShapes Go.ChangeAt
set_option linter.unusedVariables false
section
variable {c : PkC} {t t1 : List Evt} {i p : Int}
theorem rule_is (hc : c.Ok) (hi : 0 ≤ i) {rr : Ru} (hr : c.rs[i.toNat]? = some rr) (hp : 0 ≤ p) (hl : p ≤ c.s.length) (hn : Evt.done i p ∉ t) (hn1 : Evt.done i p ∉ t1) (hT : TryOk c rr.body (fstN c.rs i.toNat) p t t1) : RuleOk c i p t (t1 ++ [.done i p]) := by
 intro M K hP hK
 have hlt := (List.getElem?_eq_some_iff.1 hr).1
 have hgl := hc.gr.len
 have h10 := hc.hw.ok.ten
 have hs60 := hc.s60
 have hok := hc.hw.peg (List.mem_of_getElem? hr)
 have hE : c.E p.toNat i.toNat = c.res rr.body p := by
  have := hc.hT.fix p.toNat i.toNat rr (by omega) hr
  rw [show ((p.toNat : Nat) : Int) = p by omega] at this
  exact this
 have hrr : c.res rr.body p = -1 ∨ (p ≤ c.res rr.body p ∧ c.res rr.body p ≤ c.s.length) := hc.hT.res hok hp hl
 obtain ⟨b2, o2, ha2, hat2⟩ := hc.fst i.toNat hlt
 obtain ⟨r2, x2, b3, o3, hr2, ha3, hat3, hrr3⟩ := hc.gr.at hi (by omega)
 rw [hr] at hr2; cases hr2
 have atK : ∀ {t far want M}, PB c t far want M → ∃ la lc, M c.pb = some (.cells (c.cells la (logOf c.E t).length lc far want).toArray 136 (0, 0)) ∧ At M c.pb (0 + 2) [.map (some c.r)] ∧ At M c.pb 0 [.slice c.ga c.gl c.gc] ∧ At M c.pb (0 + 10) [.slice c.fa c.rs.length c.fc] ∧ At M c.pb (0 + 3) [.slice la (logOf c.E t).length lc] ∧ RowW M 62 4 la (logOf c.E t).length lc (cl X_api_Step.cells (logOf c.E t)) ∧ ∀ g, la = some ⟨g, 0, none⟩ → c.V g = none ∧ ¬ c.JB g ∧ g ≠ c.pb ∧ g ≠ c.r := fun h => by
  obtain ⟨la, lc, h1, h2, h3⟩ := h.bk
  have h0 := At.blk h1
  exact ⟨la, lc, h1, h0.part 2 [.map (some c.r)] rfl, h0.part 0 [.slice c.ga c.gl c.gc] rfl, h0.part 10 [.slice c.fa c.rs.length c.fc] rfl, h0.part 3 [.slice la _ lc] rfl, h2, h3⟩
 obtain ⟨far, want, hF, hB⟩ := id hP
 obtain ⟨la, lc, hblk, a1, a2, a3, a4, hrow, hla⟩ := atK hB
 obtain ⟨f, hf, hfd⟩ := hB.mp
 have hnone : f i p = none := by
  cases hv : f i p with
  | none => rfl
  | some v => exact absurd ((hfd i p v).1 hv).1 hn
 unfold S_pack_Parser_Rule
 rw [show c.gl = c.rs.length from hgl] at *
 refine ⟨c.pb, 0, rfl, _, a1, c.r, f, rfl, hf, inI_small (by omega) (by omega), inI_small (by omega) (by omega), ⟨false, 0⟩, by rw [hnone]; rfl, fun h => (by rw [hnone] at h; cases h), fun _ => ?_⟩
 refine ⟨c.pb, 0, rfl, _, _, _, a2, b3, o3, ha3, hi, by omega, x2.Body, (hat3.part 1 x2.Body.cells rfl).le hB.le, c.pb, 0, rfl, _, _, _, a3, b2, o2, ha2, hi, by omega, _, hat2.le hB.le, ?_⟩
 refine (s_pack_Parser_try _ _ _ _ _ _ _ (hT M x2.Body _ hrr3.2.2 hP fun M2 to hP2 hto => ⟨to, _, rfl, ?_⟩)).mono (fun g h => .inl h) (fun v M' _ h => h)
 have j1 : ∀ (ok : Bool) (N : Int), X_api_Outcome.mk ok N = outE (c.E p.toNat i.toNat) p → S_pack_Parser_Rule_J1 c.ptr i p M c.LV ok M2 N K := by
  intro ok N hout
  obtain ⟨far, want, hF, hB⟩ := hP2
  obtain ⟨la, lc, hblk, a1, a2, a3, a4, hrow, hla⟩ := atK hB
  obtain ⟨f, hf, hfd⟩ := hB.mp
  unfold S_pack_Parser_Rule_J1
  rw [hout]
  refine ⟨c.pb, 0, rfl, _, a1, c.r, f, rfl, hf, inI_small (by omega) (by omega), inI_small (by omega) (by omega), .inl hc.rV, fun M39 hS => ?_⟩
  have hne39 : ∀ b, b ≠ c.r → M39 b = M2 b := fun b hb => hS.ne hb
  have hblk39 : M39 c.pb = _ := (hne39 _ hc.pr).trans hblk
  have hrow39 := hrow.same (M' := M39) fun g o hg ho => by rw [hne39 g (hla g hg).2.2.2]; exact ho
  have hbound := hB.room hc
  refine ⟨c.pb, 0, rfl, la, (logOf c.E t1).length, lc, (At.blk hblk39).part 3 [.slice la _ lc] rfl, fun u hu => St_one ⟨i, p, outE (c.E p.toNat i.toNat) p⟩ u hu, _, hrow39, fun g hg => .inl (hla g hg).1, by omega, fun M49 ad50 cap51 hA => ?_⟩
  have h49pb : M49 c.pb = _ := hA.keep _ _ hblk39 fun g hg e => (hla g hg).2.2.1 e.symm
  refine ⟨c.pb, 0, rfl, Has.blk h49pb (by show 0 + 3 + 1 ≤ 11; omega), .inl hc.pbV, fun M54 hM54 M3 hle => ?_⟩
  refine hK M3 ⟨far, want, hF.skip rfl, PB.up hc ?_ hle⟩
  have hne54 : ∀ b, b ≠ c.pb → M54 b = M49 b := fun b hb => by rw [hM54]; exact Mem.put_ne hb
  have hold : ∀ b o, M2 b = some o → b ≠ c.r → b ≠ c.pb → (∀ g, la = some ⟨g, 0, none⟩ → b ≠ g) → M54 b = some o := fun b o ho h1 h2 h3 => by
   rw [hne54 b h2]; exact hA.keep b o (by rw [hne39 b h1]; exact ho) h3
  have hcells : cl X_api_Step.cells (logOf c.E t1) ++ (X_api_Step.mk i p (outE (c.E p.toNat i.toNat) p)).cells = cl X_api_Step.cells (logOf c.E (t1 ++ [.done i p])) := by rw [logOf_done]; exact cl_snoc _ _
  have hlen : (logOf c.E (t1 ++ [.done i p])).length = (logOf c.E t1).length + 1 := by rw [logOf_done, List.length_append]; rfl
  have hblkg : ∀ g, ad50 = some ⟨g, 0, none⟩ → c.V g = none ∧ ¬ c.JB g ∧ g ≠ c.pb ∧ g ≠ c.r := fun g hg => by
   rcases hA.blk g hg with h | h
   ·exact hla g h
   ·refine ⟨?_, fun hj => ?_, fun e => ?_, fun e => ?_⟩
    ·cases hv : c.V g with
     | none => rfl
     | some o =>
      have := hB.le g o hv
      rw [← hne39 g (fun e => by rw [e, hc.rV] at hv; cases hv), h] at this; cases this
    ·have := hc.has _ _ hB.j g hj
     rw [← hne39 g (fun e => hc.jr (e ▸ hj)), h] at this; cases this
    ·rw [e, hblk39] at h; cases h
    ·obtain ⟨o, hM39, hsome, _⟩ := hS
     rw [e, hM39, Mem.add_eq] at h; cases h
  refine ⟨fun b o ho => ?_, ⟨ad50, cap51, ?_, ?_, hblkg⟩, ?_, hc.done _ _ _ _ (hc.frame _ _ _ hB.j fun b hb => ?_), ?_, fun a b hab => ?_⟩
  ·exact hold b o (hB.le b o ho) (fun e => by rw [e, hc.rV] at ho; cases ho) (fun e => by rw [e, hc.pbV] at ho; cases ho) fun g hg e => by rw [e, (hla g hg).1] at ho; cases ho
  ·rw [hM54, Mem.put_eq h49pb, hlen]; rfl
  ·rw [hlen, ← hcells]
   exact hA.row.same fun g o hg ho => by rw [hne54 g (hblkg g hg).2.2.1]; exact ho
  ·obtain ⟨o, hM39, hsome, hset⟩ := hS
   have hm39 : M39 c.r = some o := by rw [hM39]; exact Mem.add_eq
   have hr54 : M54 c.r = M39 c.r := by
    rw [hne54 _ hc.pr.symm, hm39]
    exact hA.keep _ _ hm39 fun g hg e => (hla g hg).2.2.2 e.symm
   obtain ⟨es, clk, h4, h5⟩ := hset f (fun a b => if a = i ∧ b = p then some (outE (c.E p.toNat i.toNat) p).val else f a b) hf (by simp) (fun a b hab => by rw [if_neg hab])
   refine ⟨_, ⟨es, clk, hr54.trans h4, h5⟩, fun a b v => ?_⟩
   by_cases hab : a = i ∧ b = p
   ·rw [if_pos hab]
    obtain ⟨rfl, rfl⟩ := hab
    exact ⟨fun h => ⟨by simp, (Option.some.inj h).symm⟩, fun h => by rw [h.2]⟩
   ·rw [if_neg hab, hfd a b v]
    refine and_congr_left fun _ => ⟨fun h => by simp [h], fun h => ?_⟩
    rcases List.mem_append.1 h with h | h
    ·exact h
    ·simp only [List.mem_singleton, Evt.done.injEq] at h; exact absurd h hab
  ·have := hc.has _ _ hB.j b hb
   obtain ⟨o, ho⟩ := Option.isSome_iff_exists.1 this
   rw [ho]
   exact hold b o ho (fun e => hc.jr (e ▸ hb)) (fun e => hc.jpb (e ▸ hb)) fun g hg e => (hla g hg).2.1 (e ▸ hb)
  ·rw [logOf_done, List.map_append, List.nodup_append]
   refine ⟨hB.ks.1, by simp, fun a ha b hb => ?_⟩
   obtain ⟨y, hy, rfl⟩ := List.mem_map.1 ha
   obtain ⟨hy1, _⟩ := logOf_mem.1 hy
   have hk := hB.ks.2 _ _ hy1
   simp only [List.map_cons, List.map_nil, List.mem_singleton] at hb
   subst hb
   unfold keyS
   intro e
   have e1 : y.Rule = i := by simp only at e; omega
   have e2 : y.At = p := by simp only at e; omega
   rw [e1, e2] at hy1
   exact hn1 hy1
  ·rcases List.mem_append.1 hab with h | h
   ·exact hB.ks.2 a b h
   ·simp only [List.mem_singleton, Evt.done.injEq] at h
    obtain ⟨rfl, rfl⟩ := h
    exact ⟨hi, by omega, hp, hl⟩
 refine ⟨fun hyes => ⟨?_, j1 _ _ ?_⟩, fun hno => j1 _ _ ?_⟩
 ·have h0 : 0 ≤ c.res rr.body p := by simpa using hyes
  rw [hto h0]
  exact inI_small (by omega) (by omega)
 ·have h0 : 0 ≤ c.res rr.body p := by simpa using hyes
  rw [hto h0, hE, decide_eq_true h0]
  unfold outE
  rw [if_pos h0]
 ·have h0 : ¬ 0 ≤ c.res rr.body p := fun h => hno (decide_eq_true h)
  rw [hE, decide_eq_false h0]
  unfold outE
  rw [if_neg h0]
end
theorem rule_seen {c : PkC} {t : List Evt} {i p : Int} (hc : c.Ok) (hd : Evt.done i p ∈ t) : RuleOk c i p t t := by
 intro M K hP hK
 obtain ⟨far, want, hF, hB⟩ := id hP
 obtain ⟨la, lc, h1⟩ := hB.at
 obtain ⟨f, hf, hfd⟩ := hB.mp
 obtain ⟨k1, k2, k3, k4⟩ := hB.ks.2 i p hd
 have h10 := hc.hw.ok.ten
 have hs60 := hc.s60
 have hv := (hfd i p _).2 ⟨hd, rfl⟩
 unfold S_pack_Parser_Rule
 refine ⟨c.pb, 0, rfl, _, h1.part 2 [.map (some c.r)] rfl, c.r, f, rfl, hf, inI_small (by omega) (by omega), inI_small (by omega) (by omega), outE (c.E p.toNat i.toNat) p, by rw [hv]; rfl, fun _ M2 hle => hK M2 (hP.up hc hle), fun hn => absurd (by rw [hv]; rfl) hn⟩
def WalkOk (c : PkC) : Job → List Evt → List Evt → Prop
 | .node e n p, t, t' => PegOk c.rs e → 0 ≤ p → p ≤ c.s.length → 0 ≤ n → n + cnt e ≤ c.tot → TryOk c e n p t t'
 | .rule i p, t, t' => 0 ≤ i → i < c.rs.length → 0 ≤ p → p ≤ c.s.length → RuleOk c i p t t'
 | .kids L n l, t, t' => ChainOk c L n l t t'
theorem pack_walk {c : PkC} (hc : c.Ok) {j : Job} {t t' : List Evt} (h : Goes c.rs c.s c.E j t t') : WalkOk c j t t' := by
 induction h with
 | @ref e n p t t' h4 _ ih =>
  intro hok hp hl hn0 hn1
  have hf := hok.good.ref h4
  obtain ⟨f1, f2⟩ := findR_lt hf
  exact try_is hc hn0 (by have := cnt_pos e; omega) (node_is hc hok hp hl hn0 hn1 (fun _ => ih hf f2 hp hl) fun n4 => absurd h4 n4)
 | @inner e n p t t' h4 _ ih =>
  intro hok hp hl hn0 hn1
  exact try_is hc hn0 (by have := cnt_pos e; omega) (node_is hc hok hp hl hn0 hn1 (fun k4 => absurd k4 h4) fun _ => ih)
 | seen h => exact fun _ _ _ _ => rule_seen hc h
 | @rule i p r t t' hn hr hg ih =>
  intro hi hi2 hp hl
  have hsum := fstN_rule hr
  have htot := hc.tot
  exact rule_is hc hi hr hp hl hn (goes_own hc.hw hc.hT hr hp hl hg hn) (ih (hc.hw.peg (List.mem_of_getElem? hr)) hp hl (by omega) (by omega))
 | nil => rfl
 | cons he _ _ ih1 ih2 => exact ⟨_, _, he, ih1, ih2⟩
theorem prule_is {c : PkC} (hc : c.Ok) {i p : Int} (hi : 0 ≤ i) (hi2 : i < c.rs.length) (hp : 0 ≤ p) (hl : p ≤ c.s.length) {t : List Evt} {M : Mem} {K : Value → Mem → Prop} (hP : PI c t M) (hK : ∀ M' t', Goes c.rs c.s c.E (.rule i p) t t' → PI c t' M' → K (outE (c.E p.toNat i.toNat) p).val M') : S_pack_Parser_Rule c.ptr i p M c.LV K := by
 by_cases hd : Evt.done i p ∈ t
 ·exact pack_walk hc (.seen hd) hi hi2 hp hl M K hP fun M' => hK M' t (.seen hd)
 ·obtain ⟨r, hr⟩ := getN (l := c.rs) (i := i.toNat) (by omega)
  obtain ⟨t', ht⟩ := goes_ex hc.hw hc.hT r.body p (hc.hw.peg (List.mem_of_getElem? hr)) hp hl (fstN c.rs i.toNat) t
  exact pack_walk hc (.rule hd hr ht) hi hi2 hp hl M K hP fun M' => hK M' _ (.rule hd hr ht)
end Go.Proofs.Ytifkffmecfgpeaa.core

namespace Go.Proofs.Ytifkffmecfgpeaa.core
open Go.Gx Go.RowKit Go.ChangeShapes Go.WideShapes Go.ChangeAt
set_option linter.unusedVariables false
theorem At.off {M : Mem} {b o r : Nat} {vs : List Value} (h : At M b o vs) (hr : ∀ j, M.cell r j = none) : At (but M r) b o vs := fun j v hj => by
 have h1 := h j v hj
 by_cases hb : b = r
 ·subst hb; rw [hr] at h1; cases h1
 ·unfold Mem.cell at h1 ⊢
  rw [but_ne hb]; exact h1
theorem SlV.off {M : Mem} {a : Option Addr} {l c size r : Nat} {xs : List Value} (h : SlV M a l c size xs) (hr : ∀ j, M.cell r j = none) : SlV (but M r) a l c size xs :=
 ⟨h.1, h.2.1, h.2.2.1, fun h0 => by obtain ⟨b, o, e, ha⟩ := h.2.2.2 h0; exact ⟨b, o, e, At.off ha hr⟩⟩
section
variable {rs : List Ru} {s : List UInt8} {E : Nat → Nat → Int} {b r : Nat} {ga ea : Option Addr} {gl gc ec eb : Nat}
end
end Go.Proofs.Ytifkffmecfgpeaa.core

namespace Go.Proofs.Ytifkffmecfgpeaa.core
open Go.Gx Go.RowKit Go.ChangeShapes Go.WideShapes Go.ChangeAt
set_option linter.unusedVariables false
theorem new_raw {rs : List Ru} {s : List UInt8} {ga : Option Addr} {gl gc : Nat} {M : Mem} {K : Value → Mem → Prop} (hg : GrR M rs ga gl gc) (h10 : rs.length ≤ 10) (h120 : (rs.map fun r => cnt r.body).sum ≤ 100000)
  (hK : ∀ (V M' : Mem) (pb r : Nat) (fa : Option Addr) (fc : Nat), M.le V → V pb = none → V r = none → pb ≠ r → (∀ i, i < rs.length → ∃ b o, fa = some ⟨b, o, none⟩ ∧ At V b (o + i * 1) [Value.int .i64 (fstN rs i : Nat)]) →
   M' pb = some (.cells (X_pack_Parser.mk ga rs.length gc s (some r) none 0 0 (-1) (X_api_Set.mk 0 0 0 0) Value.nilFunc fa rs.length fc).cells.toArray 136 (0, 0)) → MapF M' r (fun _ _ => none) → V.le M' → K (.pointer (some ⟨pb, 0, none⟩)) M') :
  S_pack_New ga gl gc s M (fun _ => False) K := by
 have hgl := hg.len
 subst hgl
 unfold S_pack_New
 intro M6 r hr hM6 _
 have hle6 : M.le M6 := by rw [hM6]; exact Mem.add_le hr
 refine ⟨Unit, fun _ n i rn rx M' => 0 ≤ i ∧ i ≤ rs.length ∧ n = (fstN rs i.toNat : Nat) ∧ rn = i.toNat ∧ rx = cl iC ((List.range i.toNat).map fun j => ((fstN rs j : Nat) : Int)) ∧ M6.le M', fun _ _ i _ _ => rs.length - i.toNat, (), ⟨by omega, by omega, by simp [fstN], rfl, rfl, Mem.le.refl _⟩, fun _ n i rn rx M' ⟨i0, i1, hn, hrn, hrx, hle⟩ => ⟨fun hlt => ?_, fun hge => ?_⟩⟩
 ·obtain ⟨rr, x, b, o, hrr, ha, hat, hrx2⟩ := hg.at i0 hlt
  have hsum := fstN_rule hrr
  refine ⟨b, o, ha, i0, hlt, x, hat.le (hle6.trans hle), by omega, (s_pack_count _ _ _ _ (count_is _ rr.body (Nat.lt_succ_self _) (by omega) _ _ _ (hrx2.2.2.le (hle6.trans hle)) fun M2 hle2 => ⟨_, rfl, ?_, ?_, (), ⟨by omega, by omega, ?_, by omega, ?_, hle.trans hle2⟩, ?_⟩)).mono (fun _ h => h.elim) (fun v M' _ h => h)⟩
  ·exact inI_small (by omega) (by omega)
  ·exact inI_small (by omega) (by omega)
  ·rw [show (i + 1).toNat = i.toNat + 1 by omega, fstN_succ hrr, hn]; push_cast; rfl
  ·rw [hrx, hn, show (i + 1).toNat = i.toNat + 1 by omega, List.range_succ, List.map_append]
   exact cl_snoc _ _
  ·show rs.length - (i + 1).toNat < rs.length - i.toNat
   omega
 ·intro M64 hn64 M67 ad cap hn67 pb M68 hpb hM68 M3 hle3
  have hi : i.toNat = rs.length := by omega
  rw [hrn, hi] at hn67
  rw [hrx, hi] at hn67
  have hle67 : M6.le M67 := hle.trans (hn64.le.trans hn67.le)
  have hr67 : M67 r = some (.map #[] 0) := hle67 _ _ (by rw [hM6]; exact Mem.add_eq)
  have hcell : ∀ j, M67.cell r j = none := fun j => by unfold Mem.cell; rw [hr67]
  have hsl := SlV.off hn67.slv hcell
  have hne : pb ≠ r := by rintro rfl; rw [hpb] at hr67; cases hr67
  have hleV : (but M67 r).le M68 := (but_le _ _).trans (by rw [hM68]; exact Mem.add_le hpb)
  refine hK (but M67 r) M3 pb r ad cap (le_but (hle6.trans hle67) hr) ?_ (but_eq _ _) hne (fun j hj => ?_) ?_ ?_ (hleV.trans hle3)
  ·rw [but_ne hne]; exact hpb
  ·exact hsl.at iC_len (by simp) (x := ((fstN rs j : Nat) : Int)) (by rw [List.getElem?_map, List.getElem?_range hj]; rfl)
  ·refine hle3 _ _ ?_
   rw [hM68, Mem.add_eq, hrn, hi]; rfl
  ·refine MapF.le ?_ hle3
   obtain ⟨es, clk, h1, h2⟩ := MapF.new M r
   rw [Mem.add_eq] at h1
   cases h1
   refine ⟨#[], 0, ?_, h2⟩
   rw [hM68, Mem.add_ne hne.symm]; exact hr67
end Go.Proofs.Ytifkffmecfgpeaa.core

namespace Go.Proofs.Ytifkffmecfgpeaa.core
open Go.Gx Go.RowKit Go.ChangeShapes Go.WideShapes Go.ChangeAt
set_option linter.unusedVariables false
theorem tab_same {rs : List Ru} {s : List UInt8} {E E' : Nat → Nat → Int} (hw : WellOk rs) (hT : Tab rs s E) (hT' : Tab rs s E') {p i : Nat} (hp : p ≤ s.length) (hi : i < rs.length) : E p i = E' p i := by
 obtain ⟨r, hr⟩ := getN (l := rs) hi
 have hok := hw.peg (List.mem_of_getElem? hr)
 obtain ⟨m, x, hx⟩ := ev_ex hw hT r.body p hok (by omega) (by omega)
 rw [hT.fix p i r hp hr, hT'.fix p i r hp hr, ← ev_res hw hT m _ _ _ hok (by omega) (by omega) hx, ← ev_res hw hT' m _ _ _ hok (by omega) (by omega) hx]
theorem LV_new {c : PkC} {M : Mem} {L : Nat → Prop} (h : M.le c.V) : ∀ b, c.LV b → Wr L M b := fun b hb => .inr (by
 cases hv : M b with
 | none => rfl
 | some o => have := h b o hv; rw [show c.V b = none from hb] at this; cases this)
section
variable {rs : List Ru} {s : List UInt8} {ga : Option Addr} {gl gc : Nat} {M : Mem} {K : Value → Mem → Prop}
end
end Go.Proofs.Ytifkffmecfgpeaa.core

namespace Go.Proofs.Ytifkffmecfgpeaa.core
open Go.Gx Go.RowKit Go.ChangeShapes Go.WideShapes Go.ChangeAt
set_option linter.unusedVariables false
inductive Tre where
 | mk (rule frm to : Int) (kids : List Tre)
inductive TJ where
 | ex (e : Ex) (p : Int)
 | ls (L : List Ex) (l : List Tr)
inductive Made (rs : List Ru) (s : List UInt8) (E : Nat → Nat → Int) : TJ → List Tre → Prop where
 | no {e : Ex} {p : Int} (h : 10 ≤ e.kind ∨ endE rs s E e p < 0) : Made rs s E (.ex e p) []
 | ref {e : Ex} {p : Int} {r : Ru} {l : List Tre} (h4 : e.kind = 4) (h0 : 0 ≤ endE rs s E e p) (hr : rs[(findR e.text rs 0).toNat]? = some r) (h : Made rs s E (.ex r.body p) l) : Made rs s E (.ex e p) [.mk (findR e.text rs 0) p (endE rs s E e p) l]
 | kids {e : Ex} {p : Int} {l : List Tre} (h4 : e.kind ≠ 4) (h10 : e.kind < 10) (h0 : 0 ≤ endE rs s E e p) (h : Made rs s E (.ls e.kids (kidK rs s E e p)) l) : Made rs s E (.ex e p) l
 | nil {L : List Ex} : Made rs s E (.ls L []) []
 | cons {L : List Ex} {k : Tr} {l : List Tr} {e : Ex} {a b : List Tre} (he : L[k.Kid.toNat]? = some e) (h1 : Made rs s E (.ex e k.At) a) (h2 : Made rs s E (.ls L l) b) : Made rs s E (.ls L (k :: l)) (a ++ b)
section
variable {rs : List Ru} {s : List UInt8} {E : Nat → Nat → Int}
theorem made_ex (hw : WellOk rs) (hT : Tab rs s E) : ∀ (e : Ex) (p : Int), PegOk rs e → 0 ≤ p → p ≤ s.length → ∃ l, Made rs s E (.ex e p) l := by
 refine peg_ind hw s.length _ fun e p hok hp hl ihk ihr => ?_
 by_cases h0 : 10 ≤ e.kind ∨ endE rs s E e p < 0
 ·exact ⟨[], .no h0⟩
 by_cases h4 : e.kind = 4
 ·obtain ⟨rr, hrr⟩ := getN (l := rs) (findR_lt (hok.good.ref h4)).1
  obtain ⟨l, h⟩ := ihr h4 rr hrr
  exact ⟨_, .ref h4 (by omega) hrr h⟩
 ·have key : ∀ (l : List Tr), (∀ k ∈ l, k ∈ kidK rs s E e p) → ∃ t, Made rs s E (.ls e.kids l) t := by
   intro l
   induction l with
   | nil => exact fun _ => ⟨[], .nil⟩
   | cons k l ih =>
    intro hm
    obtain ⟨_, hk1, x, hx, htr⟩ := kid_all hT hok hp hl k (hm k (by simp))
    obtain ⟨a, h1⟩ := ihk x k.At htr hk1
    obtain ⟨b, h2⟩ := ih fun y hy => hm y (by simp [hy])
    exact ⟨_, .cons hx h1 h2⟩
  obtain ⟨t, ht⟩ := key _ fun _ h => h
  exact ⟨t, .kids h4 (by omega) (by omega) ht⟩
def mx (d : Int) : Nat := max 1 d.toNat
theorem mx_le {a b : Int} (h : a ≤ b) : mx a ≤ mx b := by unfold mx; omega
def lastS (f : Int → Int) : Nat → Int → Int
 | 0, q => q
 | m + 1, q => if f q < 0 then q else lastS f m (f q)
def LenE (rs : List Ru) (s : List UInt8) (E : Nat → Nat → Int) (e : Ex) (p : Int) (l : List Tre) : Prop := (PegOk rs e → 0 ≤ p → p ≤ s.length → l.length ≤ cnt e * mx (endE rs s E e p - p)) ∧ (endE rs s E e p < 0 → l = [])
def LenL (rs : List Ru) (s : List UInt8) (E : Nat → Nat → Int) (L : List Ex) : List Tr → List Tre → Prop
 | [], t => t = []
 | k :: l, t => ∃ e a b, L[k.Kid.toNat]? = some e ∧ LenE rs s E e k.At a ∧ t = a ++ b ∧ LenL rs s E L l b
theorem mx_add {a b : Nat} {d : Int} {x y : Nat} {d1 d2 : Int} (hx : x ≤ a * mx d1) (hy : y ≤ b * mx d2) (h1 : d1 ≤ d) (h2 : d2 ≤ d) : x + y ≤ (a + b) * mx d := by
 have e1 := Nat.mul_le_mul_left a (mx_le h1)
 have e2 := Nat.mul_le_mul_left b (mx_le h2)
 rw [Nat.add_mul]
 omega
theorem seq_len {L : List Ex} (hf : ∀ k ∈ L, PegOk rs k ∧ ∀ q : Int, 0 ≤ q → q ≤ s.length → endE rs s E k q = -1 ∨ (q ≤ endE rs s E k q ∧ endE rs s E k q ≤ s.length)) : ∀ (ks : List Ex) (i : Nat) (q : Int) (t : List Tre), ks = L.drop i → 0 ≤ q → q ≤ s.length → 0 ≤ seqE rs s E ks q → LenL rs s E L (seqK (endE rs s E) ks i q) t → q ≤ seqE rs s E ks q ∧ t.length ≤ (ks.map cnt).sum * mx (seqE rs s E ks q - q)
 | [], _, q, t, _, _, _, h0, h => by
  rw [seqK] at h
  rw [h, seqE]; simp
 | k :: ks, i, q, t, hks, hq, hl, h0, h => by
  have hi : L[i]? = some k := by have := congrArg (fun l => l[0]?) hks; simpa using this.symm
  have hks' : ks = L.drop (i + 1) := by rw [drop_get hi] at hks; exact (List.cons.inj hks).2
  obtain ⟨hok, hr⟩ := hf k (List.mem_of_getElem? hi)
  rw [seqK] at h
  obtain ⟨e, a, b, he, ⟨h1, h2⟩, rfl, h3⟩ := h
  simp only [Int.toNat_natCast] at he
  rw [hi] at he; cases he
  have h1 := h1 hok hq hl
  simp only at h1
  rw [seqE] at h0 ⊢
  have hr := hr q hq hl
  by_cases hn : endE rs s E k q < 0
  ·rw [if_pos hn] at h0; omega
  ·rw [if_neg hn] at h0 h3 ⊢
   obtain ⟨g1, g2⟩ := seq_len hf ks (i + 1) _ b hks' (by omega) (by omega) h0 (by rw [show ((i + 1 : Nat) : Int) = (i : Int) + 1 by omega]; exact h3)
   refine ⟨by omega, ?_⟩
   rw [List.length_append, List.map_cons, List.sum_cons]
   exact mx_add h1 g2 (by omega) (by omega)
theorem alt_len {L : List Ex} {p : Int} (hp : 0 ≤ p) (hl : p ≤ s.length) (hf : ∀ k ∈ L, PegOk rs k ∧ (endE rs s E k p = -1 ∨ p ≤ endE rs s E k p)) : ∀ (ks : List Ex) (i : Nat) (t : List Tre), ks = L.drop i → LenL rs s E L (altK (endE rs s E) ks i p) t → t.length ≤ (ks.map cnt).sum * mx (altE rs s E ks p - p)
 | [], _, t, _, h => by
  rw [altK] at h
  rw [h]; simp
 | k :: ks, i, t, hks, h => by
  have hi : L[i]? = some k := by have := congrArg (fun l => l[0]?) hks; simpa using this.symm
  have hks' : ks = L.drop (i + 1) := by rw [drop_get hi] at hks; exact (List.cons.inj hks).2
  obtain ⟨hok, hr⟩ := hf k (List.mem_of_getElem? hi)
  rw [altK] at h
  obtain ⟨e, a, b, he, ⟨h1, h2⟩, rfl, h3⟩ := h
  simp only [Int.toNat_natCast] at he
  rw [hi] at he; cases he
  rw [altE, List.map_cons, List.sum_cons]
  by_cases hn : endE rs s E k p < 0
  ·rw [if_pos hn] at h3
   rw [if_neg (by omega), h2 hn]
   have g := alt_len hp hl hf ks (i + 1) b hks' (by rw [show ((i + 1 : Nat) : Int) = (i : Int) + 1 by omega]; exact h3)
   rw [List.nil_append]
   have := Nat.mul_le_mul_right (mx (altE rs s E ks p - p)) (Nat.le_add_left (ks.map cnt).sum (cnt k))
   omega
  ·rw [if_neg hn] at h3
   have h3 : b = [] := h3
   rw [if_pos (by omega), h3, List.append_nil]
   have h1 := h1 hok hp hl
   simp only at h1
   have := Nat.mul_le_mul_right (mx (endE rs s E k p - p)) (Nat.le_add_right (cnt k) (ks.map cnt).sum)
   omega
theorem sta_len {L : List Ex} {k : Ex} (hL : L[0]? = some k) (hok : PegOk rs k) (hf : ∀ q : Int, 0 ≤ q → q ≤ s.length → endE rs s E k q = -1 ∨ (q < endE rs s E k q ∧ endE rs s E k q ≤ s.length)) : ∀ (m : Nat) (q : Int) (t : List Tre), 0 ≤ q → q ≤ s.length → LenL rs s E L (staK (endE rs s E k) m q) t → q ≤ lastS (endE rs s E k) m q ∧ t.length ≤ cnt k * (lastS (endE rs s E k) m q - q).toNat
 | 0, q, t, _, _, h => by rw [staK] at h; rw [h, lastS]; simp
 | m + 1, q, t, hq, hl, h => by
  rw [staK, if_neg (by omega)] at h
  obtain ⟨e, a, b, he, ⟨h1, h2⟩, rfl, h3⟩ := h
  simp only [Int.toNat_zero] at he
  rw [hL] at he; cases he
  simp only at h1 h2
  have hr := hf q hq hl
  rw [lastS]
  by_cases hn : endE rs s E k q < 0
  ·rw [if_pos hn, h2 hn]
   have h3' : b = [] := by
    cases m with
    | zero => rw [staK] at h3; exact h3
    | succ m => rw [staK, if_pos hn] at h3; exact h3
   rw [h3']; simp
  ·rw [if_neg hn]
   obtain ⟨g1, g2⟩ := sta_len hL hok hf m _ b (by omega) (by omega) h3
   have h1 := h1 hok hq hl
   refine ⟨by omega, ?_⟩
   have e1 : mx (endE rs s E k q - q) = (endE rs s E k q - q).toNat := by unfold mx; omega
   rw [e1] at h1
   rw [List.length_append]
   have e2 : cnt k * (lastS (endE rs s E k) m (endE rs s E k q) - q).toNat = cnt k * (endE rs s E k q - q).toNat + cnt k * (lastS (endE rs s E k) m (endE rs s E k q) - endE rs s E k q).toNat := by
    rw [← Nat.mul_add]; congr 1; omega
   omega
theorem str_last {n : Nat} {f : Int → Int} {b : Bool} (hf : ∀ q : Int, 0 ≤ q → q ≤ n → f q = -1 ∨ (q < f q ∧ f q ≤ n)) : ∀ (m m' : Nat) (q : Int), 0 ≤ q → q ≤ n → n + 1 ≤ q + m → m ≤ m' → strE f b m q false = lastS f m' q
 | 0, _, q, _, _, h, _ => by omega
 | m + 1, 0, q, _, _, _, h => by omega
 | m + 1, m' + 1, q, hq, hl, hm, hmm => by
  rw [strE, lastS]
  have hr := hf q hq hl
  by_cases hn : f q < 0
  ·rw [if_neg (fun h => h.elim (fun h => by omega) fun h => by cases h.2.1), if_pos hn, if_pos hn]
  ·rw [if_neg (by rintro (h | ⟨h, _⟩) <;> omega), if_neg hn, if_neg hn]
   exact str_last hf m m' _ (by omega) (by omega) (by push_cast at hm; omega) (by omega)
theorem made_len (hT : Tab rs s E) {j : TJ} {l : List Tre} (h : Made rs s E j l) : match j with | .ex e p => LenE rs s E e p l | .ls L k => LenL rs s E L k l := by
 induction h with
 | no h => exact ⟨fun _ _ _ => by simp, fun _ => rfl⟩
 | @ref e p r l h4 h0 hr _ ih =>
  refine ⟨fun _ _ _ => ?_, fun h => by omega⟩
  have := cnt_pos e
  have h1 : 1 ≤ mx (endE rs s E e p - p) := by unfold mx; omega
  have := Nat.mul_le_mul this h1
  simpa using this
 | @kids e p l h4 h10 h0 _ ih =>
  refine ⟨fun hok hp hl => ?_, fun h => by omega⟩
  obtain ⟨g1, g2, g3, g4, g5, g6, _⟩ := fitE_kinds hok.good.fit
  have hce := cnt_eq e
  have fin : ∀ {n : Nat}, n ≤ (e.kids.map cnt).sum * mx (endE rs s E e p - p) → n ≤ cnt e * mx (endE rs s E e p - p) := fun h => by
   have := Nat.mul_le_mul_right (mx (endE rs s E e p - p)) (show (e.kids.map cnt).sum ≤ cnt e by omega)
   omega
  have hres : ∀ k ∈ e.kids, PegOk rs k ∧ ∀ q : Int, 0 ≤ q → q ≤ s.length → endE rs s E k q = -1 ∨ (q ≤ endE rs s E k q ∧ endE rs s E k q ≤ s.length) := fun k hk => ⟨hok.kid hk, fun q h1 h2 => hT.res (hok.kid hk) h1 h2⟩
  simp only at ih
  unfold kidK at ih
  by_cases h5 : e.kind = 5
  ·rw [if_pos h5] at ih
   have e1 : endE rs s E e p = seqE rs s E e.kids p := by rw [endE_eq, if_neg (by omega), if_neg (by omega), if_neg (by omega), if_neg (by omega), if_pos h5]
   rw [e1] at h0 fin ⊢
   exact fin (seq_len hres e.kids 0 p l (by rw [List.drop_zero]) hp hl h0 ih).2
  rw [if_neg h5] at ih
  by_cases h6 : e.kind = 6
  ·rw [if_pos h6] at ih
   have e1 : endE rs s E e p = altE rs s E e.kids p := by rw [endE_eq, if_neg (by omega), if_neg (by omega), if_neg (by omega), if_neg (by omega), if_neg (by omega), if_pos h6]
   rw [e1] at fin ⊢
   exact fin (alt_len hp hl (fun k hk => ⟨(hres k hk).1, by rcases (hres k hk).2 p hp hl with h | h <;> omega⟩) e.kids 0 l (by rw [List.drop_zero]) ih)
  rw [if_neg h6] at ih
  by_cases h7 : e.kind = 7 ∨ e.kind = 8
  ·rw [if_pos h7] at ih
   obtain ⟨k, hk1⟩ := List.length_eq_one_iff.1 (g5 (by omega))
   have hkm : k ∈ e.kids := by rw [hk1]; simp
   have hhd : hdE rs s E e.kids = endE rs s E k := by rw [hk1]; funext q; rw [hdE]
   have hem := hok.star hk1 h7
   have hstep : ∀ q : Int, 0 ≤ q → q ≤ s.length → endE rs s E k q = -1 ∨ (q < endE rs s E k q ∧ endE rs s E k q ≤ s.length) := fun q h1 h2 => by
    rcases hT.res (hok.kid hkm) h1 h2 with h | h
    ·exact .inl h
    ·refine .inr ⟨?_, h.2⟩
     have hne : endE rs s E k q ≠ q := fun e => by rw [hT.empty (hok.kid hkm) h1 h2 e] at hem; cases hem
     omega
   rw [hhd] at ih
   have e1 : endE rs s E e p = strE (endE rs s E k) (decide (e.kind = 8)) (s.length + 2) p true := by rw [endE_eq, if_neg (by omega), if_neg (by omega), if_neg (by omega), if_neg (by omega), if_neg (by omega), if_neg (by omega), if_pos h7, hhd]
   obtain ⟨a1, a2⟩ := sta_len (L := e.kids) (by rw [hk1]; rfl) (hok.kid hkm) hstep (s.length + 3) p l hp hl ih
   have e2 : endE rs s E e p = lastS (endE rs s E k) (s.length + 3) p := by
    have hr := hstep p hp hl
    rw [e1] at h0 ⊢
    rw [strE] at h0 ⊢
    rw [lastS]
    by_cases hn : endE rs s E k p < 0
    ·by_cases h8 : endE rs s E k p = -2 ∨ (endE rs s E k p < 0 ∧ true = true ∧ decide (e.kind = 8) = true)
     ·rw [if_pos h8] at h0; omega
     ·rw [if_neg h8, if_pos hn, if_pos hn]
    ·rw [if_neg (by rintro (h | ⟨h, _⟩) <;> omega), if_neg hn, if_neg hn]
     exact str_last hstep (s.length + 1) (s.length + 2) _ (by omega) (by omega) (by push_cast; omega) (by omega)
   rw [e2]
   have hck : cnt k ≤ cnt e := by rw [hce, hk1]; simp
   have h1 : (lastS (endE rs s E k) (s.length + 3) p - p).toNat ≤ mx (lastS (endE rs s E k) (s.length + 3) p - p) := by unfold mx; omega
   exact Nat.le_trans a2 (Nat.mul_le_mul hck h1)
  rw [if_neg h7] at ih
  by_cases h9 : 9 ≤ e.kind
  ·rw [if_pos h9] at ih
   obtain ⟨k, hk1⟩ := List.length_eq_one_iff.1 (g5 (by omega))
   have hkm : k ∈ e.kids := by rw [hk1]; simp
   have hhd : hdE rs s E e.kids = endE rs s E k := by rw [hk1]; funext q; rw [hdE]
   have e1 : endE rs s E e p = oneE e.kind p (endE rs s E k p) := by rw [endE_eq, if_neg (by omega), if_neg (by omega), if_neg (by omega), if_neg (by omega), if_neg (by omega), if_neg (by omega), if_neg h7, hhd]
   obtain ⟨x, a, b, hx, ⟨h1, h2⟩, rfl, hb⟩ := ih
   have hb : b = [] := hb
   subst hb
   rw [show e.kids[(0 : Int).toNat]? = some k by rw [hk1]; rfl] at hx
   cases hx
   simp only at h1 h2
   have hr := hT.res (hok.kid hkm) hp hl
   have hck : cnt k ≤ cnt e := by rw [hce, hk1]; simp
   rw [List.append_nil]
   by_cases hn : endE rs s E k p < 0
   ·rw [h2 hn]; simp
   ·have e2 : endE rs s E e p = endE rs s E k p := by
     rw [e1]; unfold oneE
     rw [if_neg (by omega), if_pos ⟨by omega, by omega⟩]
    rw [e2]
    exact Nat.le_trans (h1 (hok.kid hkm) hp hl) (Nat.mul_le_mul_right _ hck)
  ·rw [if_neg h9] at ih
   have ih : l = [] := ih
   rw [ih]; simp
 | nil => rfl
 | cons he _ _ ih1 ih2 => exact ⟨_, _, _, he, ih1, rfl, ih2⟩
theorem made_max (hw : WellOk rs) (hT : Tab rs s E) (hs60 : s.length ≤ 60) {r : Ru} (hr : r ∈ rs) {p : Int} (hp : 0 ≤ p) (hl : p ≤ s.length) {l : List Tre} (h : Made rs s E (.ex r.body p) l) : l.length ≤ 10000 := by
 have h1 := (made_len hT h).1 (hw.peg hr) hp hl
 have hres := hT.res (hw.peg hr) hp hl
 obtain ⟨h2, _⟩ := flat_max (hw.ok.err r hr)
 have h3 : mx (endE rs s E r.body p - p) ≤ 61 := by unfold mx; omega
 have := Nat.mul_le_mul (show cnt r.body ≤ 60 from h2) h3
 omega
end
end Go.Proofs.Ytifkffmecfgpeaa.core

namespace Go.Proofs.Ytifkffmecfgpeaa.core
open Go.Gx Go.RowKit Go.ChangeShapes Go.WideShapes Go.ChangeAt
set_option linter.unusedVariables false
theorem Tx_len (x : X_api_Tree) : x.cells.length = 4 := rfl
theorem Tx_one (x : X_api_Tree) : ∀ u ∈ x.cells, u.oneCell' = true := by
 intro u hu
 simp only [X_api_Tree.cells, List.mem_cons, List.not_mem_nil, or_false] at hu
 rcases hu with rfl | rfl | rfl | rfl <;> rfl
inductive TrR (M : Mem) : Tre → X_api_Tree → Prop where
 | mk {r f t : Int} {A : Option Addr} {c : Nat} {ks : List Tre} {xs : List X_api_Tree} (hv : SlV M A ks.length c 4 (cl X_api_Tree.cells xs)) (hl : xs.length = ks.length) (hks : ∀ (i : Nat) k x, ks[i]? = some k → xs[i]? = some x → TrR M k x) : TrR M (.mk r f t ks) ⟨r, f, t, A, ks.length, c⟩
theorem TrR.le {M M' : Mem} {t : Tre} {x : X_api_Tree} (h : TrR M t x) (hl : M.le M') : TrR M' t x := by
 induction h with
 | mk hv hl' _ ih => exact .mk (hv.le hl) hl' ih
structure TrL (M : Mem) (ks : List Tre) (xs : List X_api_Tree) : Prop where
 len : xs.length = ks.length
 kid : ∀ (i : Nat) k x, ks[i]? = some k → xs[i]? = some x → TrR M k x
theorem TrL.le {M M' : Mem} {ks : List Tre} {xs : List X_api_Tree} (h : TrL M ks xs) (hl : M.le M') : TrL M' ks xs := ⟨h.len, fun i k x a b => (h.kid i k x a b).le hl⟩
theorem TrL.nil (M : Mem) : TrL M [] [] := ⟨rfl, fun i k x h => by simp at h⟩
theorem TrL.app {M : Mem} {a b : List Tre} {xs ys : List X_api_Tree} (h : TrL M a xs) (k : TrL M b ys) : TrL M (a ++ b) (xs ++ ys) := by
 refine ⟨by rw [List.length_append, List.length_append, h.len, k.len], fun i t x ht hx => ?_⟩
 have hl := h.len
 by_cases hi : i < a.length
 ·rw [List.getElem?_append_left hi] at ht
  rw [List.getElem?_append_left (by omega)] at hx
  exact h.kid i t x ht hx
 ·rw [List.getElem?_append_right (by omega)] at ht
  rw [List.getElem?_append_right (by omega), hl] at hx
  exact k.kid _ t x ht hx
theorem TrL.one {M : Mem} {t : Tre} {x : X_api_Tree} (h : TrR M t x) : TrL M [t] [x] := ⟨rfl, fun i k y hk hy => by
 cases i with
 | zero =>
  simp only [List.getElem?_cons_zero, Option.some.injEq] at hk hy
  subst hk hy; exact h
 | succ i => simp at hk⟩
theorem Tre_kid_lt {r f t : Int} {ks : List Tre} {k : Tre} (h : k ∈ ks) : SizeOf.sizeOf k < SizeOf.sizeOf (Tre.mk r f t ks) := by
 have := List.sizeOf_lt_of_mem h
 simp only [Tre.mk.sizeOf_spec]
 omega
theorem same_is : ∀ (n : Nat) (t : Tre), SizeOf.sizeOf t < n → ∀ (M : Mem) (x y : X_api_Tree) (K : Value → Prop), TrR M t x → TrR M t y → K (.bool true) → S_chaffref_SameTree x y M K
 | 0, _, h => by omega
 | n + 1, t, hn => fun M x y K hx hy hK => by
  cases hx with
  | @mk r f to A c ks xs hv hl hks =>
   cases hy with
   | @mk _ _ _ A2 c2 _ ys hv2 hl2 hks2 =>
    have hm := hv.max
    unfold S_chaffref_SameTree
    refine ⟨fun _ => ⟨fun _ => ⟨fun _ => ?_, fun h => absurd rfl h⟩, fun h => absurd rfl h⟩, fun h => absurd rfl h⟩
    refine s_slices_EqualFunc_Tree _ _ _ _ _ _ _ _ _ ?_
    unfold S_slices_EqualFunc_Tree
    refine ⟨fun h => absurd rfl h, fun _ => ⟨fun i => 0 ≤ i ∧ i ≤ ks.length, fun i => ks.length - i.toNat, ⟨by omega, by omega⟩, fun i ⟨i0, i1⟩ => ⟨fun hlt => ?_, fun _ => ⟨_, rfl, hK⟩⟩⟩⟩
    have hlt : i < ((ks.length : Nat) : Int) := hlt
    obtain ⟨k, hk⟩ := getI (l := ks) i0 hlt
    obtain ⟨a, ha⟩ := getI (l := xs) i0 (by rw [hl]; exact hlt)
    obtain ⟨b, hb⟩ := getI (l := ys) i0 (by rw [hl2]; exact hlt)
    obtain ⟨b1, o1, e1, hat1⟩ := hv.at Tx_len hl ha
    obtain ⟨b2, o2, e2, hat2⟩ := hv2.at Tx_len hl2 hb
    have hsz := Tre_kid_lt (r := r) (f := f) (t := to) (List.mem_of_getElem? hk)
    exact ⟨b1, o1, e1, i0, hlt, a, hat1, b2, o2, e2, i0, hlt, b, hat2, f_chaffref_SameTree _ _ _ _ (same_is n k (by omega) M a b _ (hks _ _ _ hk ha) (hks2 _ _ _ hk hb) ⟨_, rfl, fun h => absurd rfl h, fun _ => ⟨by unfold InI; omega, ⟨by omega, by omega⟩, by dsimp only; omega⟩⟩)⟩
section
variable {rs : List Ru} {s : List UInt8} {E : Nat → Nat → Int} {tb : Nat} {ga ea : Option Addr} {gl gc ec eb : Nat}
def RMadeE (rs : List Ru) (s : List UInt8) (E : Nat → Nat → Int) (tb : Nat) (ga ea : Option Addr) (gl gc ec eb : Nat) (e : Ex) (p : Int) (l : List Tre) : Prop := PegOk rs e → 0 ≤ p → p ≤ s.length → l.length ≤ 10000 → ∀ (M : Mem) (x : X_api_Expr) (K : Value → Mem → Prop), ExR M e x → TabR M rs s E 0 tb ga ea gl gc ec eb →
 (∀ M' A c xs, M.le M' → SlV M' A l.length c 4 (cl X_api_Tree.cells xs) → TrL M' l xs → K (.slice A l.length c) M') → S_chaffref_Table_made (some ⟨tb, 0, none⟩) x p M K
def RMadeL (rs : List Ru) (s : List UInt8) (E : Nat → Nat → Int) (tb : Nat) (ga ea : Option Addr) (gl gc ec eb : Nat) (L : List Ex) : List Tr → List Tre → Prop
 | [], t => t = []
 | k :: l, t => ∃ e a b, L[k.Kid.toNat]? = some e ∧ RMadeE rs s E tb ga ea gl gc ec eb e k.At a ∧ t = a ++ b ∧ RMadeL rs s E tb ga ea gl gc ec eb L l b
theorem rtree_is (hw : WellOk rs) (hT : Tab rs s E) (hs60 : s.length ≤ 60) {i p : Int} {rr : Ru} (hi : 0 ≤ i) (hr : rs[i.toNat]? = some rr) (hp : 0 ≤ p) (hl : p ≤ s.length) {l : List Tre} (hmax : l.length ≤ 10000) (hm : RMadeE rs s E tb ga ea gl gc ec eb rr.body p l) {M : Mem} {K : Value → Mem → Prop} (hM : TabR M rs s E 0 tb ga ea gl gc ec eb)
  (hK : ∀ M' x, M.le M' → TrR M' (.mk i p (E p.toNat i.toNat) l) x → K x.val M') : S_chaffref_Table_Tree (some ⟨tb, 0, none⟩) i p M K := by
 have hlt := (List.getElem?_eq_some_iff.1 hr).1
 have hgl := hM.gr.len
 unfold S_chaffref_Table_Tree
 obtain ⟨ra, rc, hra, hrow⟩ := hM.row p.toNat (by omega) (by omega)
 obtain ⟨b3, o3, hb3, hat3⟩ := hrow.at iC_len (rowE_len E rs.length p.toNat) (rowE_get (i := i.toNat) (by omega))
 obtain ⟨r2, x2, b4, o4, hr2, ha4, hat4, hrr4⟩ := hM.gr.at hi (by omega)
 rw [hr] at hr2; cases hr2
 refine ⟨tb, 0, rfl, _, _, _, hM.en, eb, 0, hM.ea, hp, by omega, ra, _, rc, by rw [Nat.zero_add, Nat.mul_one]; exact hra, b3, o3, hb3, hi, by omega, _, hat3, tb, 0, rfl, _, _, _, hM.gm, b4, o4, ha4, hi, by omega, x2.Body, hat4.part 1 x2.Body.cells rfl, ?_⟩
 refine s_chaffref_Table_made _ _ _ _ _ (hm (hw.peg (List.mem_of_getElem? hr)) hp hl hmax M x2.Body _ hrr4.2.2 hM fun M2 A c xs hle hsl htr => ⟨A, _, c, rfl, fun M3 hle3 => hK M3 _ (hle.trans hle3) (.mk (hsl.le hle3) htr.len fun j k x a b => (htr.kid j k x a b).le hle3)⟩)
theorem rmade_is (hw : WellOk rs) (hT : Tab rs s E) (hs60 : s.length ≤ 60) {j : TJ} {l : List Tre} (h : Made rs s E j l) : match j with | .ex e p => RMadeE rs s E tb ga ea gl gc ec eb e p l | .ls L k => RMadeL rs s E tb ga ea gl gc ec eb L k l := by
 have h10 := hw.ok.ten
 have hcall : ∀ {e : Ex} {p : Int} {M : Mem} {x : X_api_Expr} {K : Value → Prop}, PegOk rs e → 0 ≤ p → p ≤ s.length → ExR M e x → TabR M rs s E 0 tb ga ea gl gc ec eb → K (.int .i64 (endE rs s E e p)) → CallE Try.prog 53 #[Value.pointer (some ⟨tb, 0, none⟩), x.val, .int .i64 p] M (fun v _ => K v) := fun hok hp hl hR hM h => s_chaffref_Table_End _ _ _ _ _ (end_is hs60 h10 hT.ok _ _ (Nat.lt_succ_self _) hok hR hM hp hp hl h)
 induction h with
 | @no e p h =>
  intro hok hp hl hmax M x K hR hM hK
  obtain ⟨xs, hx⟩ := hR.open
  have fin : S_chaffref_Table_made_J1 (some ⟨tb, 0, none⟩) x p M true K := by
   unfold S_chaffref_Table_made_J1
   exact ⟨fun _ M' hle => hK M' none 0 [] hle ⟨rfl, Nat.le_refl _, by decide, fun h => by simp at h⟩ (TrL.nil _), fun h => absurd rfl h⟩
  unfold S_chaffref_Table_made
  rw [hx.kind]
  refine ⟨fun _ => fin, fun hn => hcall hok hp hl hR hM ⟨_, rfl, ?_⟩⟩
  rw [decide_eq_true (h.resolve_left (by omega))]
  exact fin
 | @ref e p r l h4 h0 hr h1 ih =>
  intro hok hp hl hmax M x K hR hM hK
  obtain ⟨xs, hx⟩ := hR.open
  have hf := hok.good.ref h4
  have hml := made_max hw hT hs60 (List.mem_of_getElem? hr) hp hl h1
  have hE : E p.toNat (findR e.text rs 0).toNat = endE rs s E e p := by rw [endE_eq, if_neg (by omega), if_neg (by omega), if_neg (by omega), if_pos h4]
  unfold S_chaffref_Table_made
  rw [hx.kind]
  refine ⟨fun h => by omega, fun hn => hcall hok hp hl hR hM ⟨_, rfl, ?_⟩⟩
  rw [decide_eq_false (by omega)]
  unfold S_chaffref_Table_made_J1
  rw [hx.kind]
  refine ⟨fun h => (by cases h), fun _ => ⟨fun _ => ?_, fun hn4 => absurd h4 hn4⟩⟩
  rw [hx.text]
  refine ⟨tb, 0, rfl, _, _, _, hM.gm, s_chaffref_Find _ _ _ _ _ _ (rfind_is hM.gr e.text _ ⟨_, rfl, ?_⟩)⟩
  refine s_chaffref_Table_Tree _ _ _ _ _ (rtree_is hw hT hs60 hf hr hp hl hml ih hM fun M2 y hle2 hy => ⟨y, rfl, fun M3 ad cap hle3 hsl M4 hle4 => hK M4 ad cap [y] (hle2.trans (hle3.trans hle4)) ?_ (TrL.one ?_)⟩)
  ·have := hsl.le hle4
   rw [cl_one]; exact this
  ·rw [hE] at hy; exact hy.le (hle3.trans hle4)
 | @kids e p l h4 h10' h0 _ ih =>
  intro hok hp hl hmax M x K hR hM hK
  obtain ⟨xs, hx⟩ := hR.open
  have hall := kid_all hT hok hp hl
  unfold S_chaffref_Table_made
  rw [hx.kind]
  refine ⟨fun h => by omega, fun hn => hcall hok hp hl hR hM ⟨_, rfl, ?_⟩⟩
  rw [decide_eq_false (by omega)]
  unfold S_chaffref_Table_made_J1
  rw [hx.kind]
  refine ⟨fun h => (by cases h), fun _ => ⟨fun h => absurd h h4, fun _ => ?_⟩⟩
  refine s_chaffref_Table_Kids _ _ _ _ _ (kids_is hs60 h10 hT hok hR hM hp hl fun M22 ad cap hle hsl => ⟨ad, _, cap, rfl, ?_⟩)
  have hkm := hsl.max
  simp only at ih
  generalize kidK rs s E e p = kl at *
  refine ⟨fun i rn rx M' => 0 ≤ i ∧ i ≤ kl.length ∧ ∃ (a b : List Tre) (ys : List X_api_Tree), l = a ++ b ∧ rn = a.length ∧ rx = cl X_api_Tree.cells ys ∧ TrL M' a ys ∧ RMadeL rs s E tb ga ea gl gc ec eb e.kids (kl.drop i.toNat) b ∧ M22.le M', fun i _ _ => kl.length - i.toNat, ⟨by omega, by omega, [], l, [], rfl, rfl, rfl, TrL.nil _, ih, Mem.le.refl _⟩, fun i rn rx M' ⟨i0, i1, a, b, ys, hab, hrn, hrx, htl, hrest, hle'⟩ => ⟨fun hlt => ?_, fun hge => ?_⟩⟩
  ·obtain ⟨k, hk⟩ := getI (l := kl) i0 hlt
   obtain ⟨bt, ot, hbt, hat⟩ := hsl.at Tr_len rfl hk
   obtain ⟨k0, k1, ke, hke, htr⟩ := hall k (List.mem_of_getElem? hk)
   rw [drop_get hk] at hrest
   obtain ⟨e', a1, b1, he', hE1, hb1, hrest⟩ := hrest
   rw [hke] at he'; cases he'
   obtain ⟨b2, o2, y, ha2, haty, hy, _⟩ := hx.kid hke
   have hklt := (List.getElem?_eq_some_iff.1 hke).1
   have hlen : l.length = a.length + a1.length + b1.length := by rw [hab, hb1]; simp; omega
   refine ⟨bt, ot, hbt, i0, hlt, k, hat.le hle', b2, o2, ha2, k0, by rw [hx.len]; omega, y, haty.le (hle.trans hle'), ?_⟩
   refine s_chaffref_Table_made _ _ _ _ _ (hE1 (hok.kid (List.mem_of_getElem? hke)) (by have := htr.2.1; omega) k1 (by omega) M' y _ (hy.le (hle.trans hle')) (hM.le (hle.trans hle')) fun M3 A c zs hle3 hsl3 htr3 => ⟨A, _, c, rfl, _, hsl3, fun u hu => ?_, by omega, by unfold InI; omega, ⟨by omega, by omega, a ++ a1, b1, ys ++ zs, by rw [hab, hb1, List.append_assoc], by rw [hrn]; simp, ?_, (htl.le hle3).app htr3, ?_, hle'.trans hle3⟩, by dsimp only; omega⟩)
   ·unfold cl at hu
    obtain ⟨w, hw1, hw2⟩ := List.mem_flatten.1 hu
    obtain ⟨z, _, rfl⟩ := List.mem_map.1 hw1
    exact Tx_one z u hw2
   ·rw [hrx]; unfold cl; rw [List.map_append, List.flatten_append]
   ·rw [show (i + 1).toNat = i.toNat + 1 by omega]; exact hrest
  ·rw [List.drop_of_length_le (by omega)] at hrest
   have hb : b = [] := hrest
   rw [hb, List.append_nil] at hab
   subst hab
   intro M77 ad2 cap2 hle2 hsl2 M3 hle3
   rw [hrn]
   rw [hrn, hrx] at hsl2
   exact hK M3 ad2 cap2 ys (hle.trans (hle'.trans (hle2.trans hle3))) (hsl2.le hle3) (htl.le (hle2.trans hle3))
 | nil => rfl
 | cons he _ _ ih1 ih2 => exact ⟨_, _, _, he, ih1, rfl, ih2⟩
end
end Go.Proofs.Ytifkffmecfgpeaa.core

namespace Go.Proofs.Ytifkffmecfgpeaa.core
open Go.Gx Go.RowKit Go.ChangeShapes Go.WideShapes Go.ChangeAt
set_option linter.unusedVariables false
noncomputable def veil (M : Mem) (D : Nat → Prop) : Mem := fun b => @ite _ (D b) (Classical.propDecidable _) none (M b)
theorem veil_iff {M : Mem} {D : Nat → Prop} {b : Nat} {o : Obj} : veil M D b = some o ↔ M b = some o ∧ ¬ D b := by
 unfold veil
 split
 ·rename_i hd; exact ⟨fun h => (by cases h), fun h => absurd hd h.2⟩
 ·rename_i hd; exact ⟨fun h => ⟨h, hd⟩, fun h => h.1⟩
theorem veil_le {M M' : Mem} {D D' : Nat → Prop} (h : ∀ b o, M b = some o → ¬ D b → M' b = some o ∧ ¬ D' b) : (veil M D).le (veil M' D') := fun b o hb => veil_iff.2 (h b o (veil_iff.1 hb).1 (veil_iff.1 hb).2)
def PkOwn (c : PkC) (M : Mem) (b : Nat) : Prop := b = c.pb ∨ b = c.r ∨ ∃ l k, At M c.pb 3 [Value.slice (some ⟨b, 0, none⟩) l k]
structure Plain (c : PkC) : Prop where
 ok : c.Ok
 nil : c.nodeV = .nilFunc
 jb : ∀ b, ¬ c.JB b
 j : ∀ t M, c.J t M
structure GwO (O O' : Nat → Prop) (M M' : Mem) : Prop where
 own : ∀ b, O' b → O b ∨ M b = none
 dom : ∀ b, (M b).isSome = true → (M' b).isSome = true
theorem isNone {M : Mem} {b : Nat} (h : ¬ (M b).isSome = true) : M b = none := by cases hv : M b with
 | none => rfl
 | some o => rw [hv] at h; exact absurd rfl h
theorem GwO.trans {O O' O'' : Nat → Prop} {M M' M'' : Mem} (h : GwO O O' M M') (h' : GwO O' O'' M' M'') : GwO O O'' M M'' := ⟨fun b hb => by
 rcases h'.own b hb with hb | hb
 ·exact h.own b hb
 ·exact .inr (isNone fun hm => by have := h.dom b hm; rw [hb] at this; cases this), fun b hb => h'.dom b (h.dom b hb)⟩
theorem slot {M : Mem} {b k l n m c c' : Nat} {A : Option Addr} (h : At M b k [Value.slice A n c]) (h' : At M b k [.slice (some ⟨l, 0, none⟩) m c']) : A = some ⟨l, 0, none⟩ := by
 have h1 := h 0 _ rfl
 have h2 := h' 0 _ rfl
 rw [h1] at h2
 simp only [Option.some.injEq, Value.slice.injEq] at h2
 exact h2.1
section
variable {c : PkC} {t : List Evt} {M M' : Mem}
theorem pk_own {far : Int} {want : X_api_Set} {la : Option Addr} {ln lc : Nat} (h1 : M c.pb = some (.cells (c.cells la ln lc far want).toArray 136 (0, 0))) {b : Nat} : PkOwn c M b ↔ b = c.pb ∨ b = c.r ∨ la = some ⟨b, 0, none⟩ := by
 have h3 : At M c.pb 3 [.slice la ln lc] := (At.blk h1).part 3 [.slice la ln lc] rfl
 exact or_congr Iff.rfl (or_congr Iff.rfl ⟨fun ⟨l, k, h⟩ => slot h3 h, fun h => ⟨ln, lc, by rw [← h]; exact h3⟩⟩)
theorem PI.off (hc : c.Ok) (h : PI c t M) {b : Nat} (hb : PkOwn c M b) : c.V b = none ∧ (M b).isSome = true := by
 obtain ⟨far, want, _, hB⟩ := h
 obtain ⟨la, lc, h1, h2, h3⟩ := hB.bk
 rcases (pk_own h1).1 hb with rfl | rfl | hb
 ·exact ⟨hc.pbV, by rw [h1]; rfl⟩
 ·obtain ⟨f, ⟨es, clk, h4, _⟩, _⟩ := hB.mp
  exact ⟨hc.rV, by rw [h4]; rfl⟩
 ·refine ⟨(h3 b hb).1, ?_⟩
  obtain ⟨_, _, _, ⟨h4, _⟩ | ⟨g, cur, h4, h5, _⟩⟩ := h2
  ·rw [h4] at hb; cases hb
  ·rw [h4] at hb; cases hb; rw [h5]; rfl
theorem PI.same (pl : Plain c) (h : PI c t M) (hle : c.V.le M') (hk : ∀ b, PkOwn c M b → M' b = M b) : PI c t M' ∧ ∀ b, PkOwn c M' b ↔ PkOwn c M b := by
 obtain ⟨far, want, hF, hB⟩ := h
 obtain ⟨la, lc, h1, h2, h3⟩ := hB.bk
 have h1' := (hk _ (.inl rfl)).trans h1
 obtain ⟨f, ⟨es, clk, h4, h5⟩, h6⟩ := hB.mp
 refine ⟨⟨far, want, hF, hle, ⟨la, lc, h1', h2.same fun g o hg ho => by rw [hk g ((pk_own h1).2 (.inr (.inr hg)))]; exact ho, h3⟩, ⟨f, ⟨es, clk, (hk _ (.inr (.inl rfl))).trans h4, h5⟩, h6⟩, pl.j _ _, hB.ks⟩, fun b => by rw [pk_own h1, pk_own h1']⟩
theorem PI.more (pl : Plain c) (h : PI c t M) (hl : M.le M') : PI c t M' ∧ ∀ b, PkOwn c M' b ↔ PkOwn c M b := h.same pl (h.le.trans hl) fun _ hb => Mem.le.eq hl (h.off pl.ok hb).2
noncomputable abbrev pkVeil (c : PkC) (M : Mem) : PkC := { c with V := veil M (PkOwn c M) }
theorem pk_veil (pl : Plain c) (hP : PI c t M) : c.V.le (pkVeil c M).V ∧ Plain (pkVeil c M) ∧ PI (pkVeil c M) t M := by
 have hV : c.V.le (pkVeil c M).V := fun b o hb => veil_iff.2 ⟨hP.le b o hb, fun h => by rw [(hP.off pl.ok h).1] at hb; cases hb⟩
 have hoff : ∀ b, PkOwn c M b → (pkVeil c M).V b = none := fun b hb => by
  cases hv : (pkVeil c M).V b with
  | none => rfl
  | some o => exact absurd hb (veil_iff.1 hv).2
 refine ⟨hV, ⟨⟨pl.ok.hw, pl.ok.hT, pl.ok.s60, pl.ok.gr.le hV, fun i hi => by
  obtain ⟨b, o, h1, h2⟩ := pl.ok.fst i hi
  exact ⟨b, o, h1, h2.le hV⟩, hoff _ (.inl rfl), hoff _ (.inr (.inl rfl)), pl.ok.pr, pl.jb _, pl.jb _, fun b hb => absurd hb (pl.jb b), fun _ _ _ _ _ => pl.j _ _, fun _ _ _ b hb => absurd hb (pl.jb b), ⟨true, .inl ⟨pl.nil, rfl⟩, fun _ _ _ _ _ _ _ => pl.j _ _, fun h => (by cases h)⟩, fun _ _ _ _ _ => pl.j _ _, pl.ok.tot, pl.ok.small⟩, pl.nil, pl.jb, pl.j⟩, ?_⟩
 obtain ⟨far, want, hF, hB⟩ := hP
 obtain ⟨la, lc, h1, h2, h3⟩ := hB.bk
 exact ⟨far, want, hF, fun b o hb => (veil_iff.1 hb).1, ⟨la, lc, h1, h2, fun g hg => ⟨hoff g ((pk_own h1).2 (.inr (.inr hg))), (h3 g hg).2⟩⟩, hB.mp, hB.j, hB.ks⟩
theorem does_is (pl : Plain c) {e : Ex} {p : Int} (hok : PegOk c.rs e) (hp : 0 ≤ p) (hl : p ≤ c.s.length) (hcn : cnt e ≤ c.tot) {x : X_api_Expr} {L : Nat → Prop} {K : Value → Mem → Prop} (hR : ExR c.V e x) (hP : PI c t M) (hL : ∀ b, PkOwn c M b → L b)
  (hK : ∀ M' t', PI c t' M' → GwO (PkOwn c M) (PkOwn c M') M M' → LeW M (PkOwn c M) M' → K (.bool (decide (0 ≤ c.res e p))) M') : CallW Try.prog 153 #[.pointer c.ptr, x.val, .int .i64 p] M L K := by
 obtain ⟨hV, hd, hP2⟩ := pk_veil pl hP
 have hdn : ∀ {b}, (pkVeil c M).V b = none → PkOwn c M b ∨ M b = none := fun {b} hb => by
  by_cases ho : PkOwn c M b
  ·exact .inl ho
  ·exact .inr (isNone fun hm => by
    obtain ⟨o, hq⟩ := Option.isSome_iff_exists.1 hm
    cases (veil_iff (D := PkOwn c M).2 ⟨hq, ho⟩).symm.trans hb)
 have hnode : ∃ t1, NodeOk (pkVeil c M) e 0 p t t1 := by
  obtain ⟨t', ht⟩ := goes_ex pl.ok.hw pl.ok.hT e p hok hp hl 0 t
  cases ht with
  | ref h4 h =>
   have hf := hok.good.ref h4
   exact ⟨_, node_is hd.ok hok hp hl (Int.le_refl 0) (by show (0 : Int) + cnt e ≤ (c.tot : Nat); omega) (fun _ => pack_walk hd.ok h hf (findR_lt hf).2 hp hl) fun n4 => absurd h4 n4⟩
  | inner h4 h => exact ⟨_, node_is hd.ok hok hp hl (Int.le_refl 0) (by show (0 : Int) + cnt e ≤ (c.tot : Nat); omega) (fun k4 => absurd k4 h4) fun _ => pack_walk hd.ok h⟩
 obtain ⟨t1, hn⟩ := hnode
 refine ((s_pack_Parser_Does _ _ _ _ _ _ ?_ : CallW Try.prog 153 #[.pointer c.ptr, x.val, .int .i64 p] M (PkOwn c M) (fun v M' => v = .bool (decide (0 ≤ c.res e p)) ∧ ∃ t', PI (pkVeil c M) t' M')).mono hL fun v M' hle ⟨hv, t', hP'⟩ => ?_)
 ·unfold S_pack_Parser_Does
  refine (s_pack_Parser_node _ _ _ _ _ _ _ (hn M x (fun v M' => ∃ to : Int, v = .tuple #[.int .i64 to, .bool (decide (0 ≤ c.res e p))] ∧ ∃ t', PI (pkVeil c M) t' M') (hR.le hV) hP2 fun M' to far want hB hF _ => ⟨to, rfl, _, far, want, hF, hB.node hd.ok (fun b o hb _ => hb) (pl.j _ _)⟩)).mono (fun b hb => ?_) fun v M' _ ⟨to, hv, t', hP'⟩ => ⟨to, _, hv, fun M3 hle => ⟨rfl, t', (hP'.more hd hle).1⟩⟩
  rcases hdn hb with h | h
  ·exact .inl h
  ·exact .inr h
 ·rw [hv]
  have hP3 : PI c t' M' := by
   obtain ⟨far, want, hF, hB⟩ := id hP'
   obtain ⟨la, lc, h1, h2, h3⟩ := hB.bk
   refine ⟨far, want, hF, hV.trans hB.le, ⟨la, lc, h1, h2, fun g hg => ⟨?_, (h3 g hg).2⟩⟩, hB.mp, hB.j, hB.ks⟩
   cases hv : c.V g with
   | none => rfl
   | some o => have := (h3 g hg).1; rw [hV g o hv] at this; cases this
  exact hK M' t' hP3 ⟨fun b hb => hdn (hP'.off hd.ok hb).1, hle.dom⟩ hle
def TOwn (c : PkC) (ob : Nat) (M : Mem) (b : Nat) : Prop := PkOwn c M b ∨ b = ob ∨ ∃ l k, At M ob 3 [Value.slice (some ⟨b, 0, none⟩) l k]
abbrev tcs (r0 f0 : Int) (oa : Option Addr) (n oc : Nat) : List Value := [.int .i64 r0, .int .i64 f0, .int .i64 0, .slice oa n oc]
structure TS (c : PkC) (ob : Nat) (B : Nat → Prop) (r0 f0 : Int) (l : List Tre) (t : List Evt) (M : Mem) : Prop where
 pi : PI c t M
 oV : c.V ob = none
 op : ¬ PkOwn c M ob
 hB : ∀ b, B b → c.V b = none ∧ (M b).isSome = true
 bk : ∃ oa oc xs, M ob = some (.cells (tcs r0 f0 oa l.length oc).toArray 89 (0, 0)) ∧ RowW M 89 4 oa l.length oc (cl X_api_Tree.cells xs) ∧ (∀ g, oa = some ⟨g, 0, none⟩ → c.V g = none ∧ g ≠ ob ∧ ¬ PkOwn c M g ∧ ¬ B g) ∧ TrL (veil M fun b => TOwn c ob M b ∨ B b) l xs
theorem t_own {ob : Nat} {r0 f0 : Int} {oa : Option Addr} {n oc : Nat} (h1 : M ob = some (.cells (tcs r0 f0 oa n oc).toArray 89 (0, 0))) {b : Nat} : TOwn c ob M b ↔ PkOwn c M b ∨ b = ob ∨ oa = some ⟨b, 0, none⟩ := by
 have h3 : At M ob 3 [.slice oa n oc] := (At.blk h1).part 3 [.slice oa n oc] rfl
 exact or_congr Iff.rfl (or_congr Iff.rfl ⟨fun ⟨l, k, h⟩ => slot h3 h, fun h => ⟨n, oc, by rw [← h]; exact h3⟩⟩)
theorem roww_has {e size l cap : Nat} {A : Option Addr} {xs : List Value} (h : RowW M e size A l cap xs) {g : Nat} (hg : A = some ⟨g, 0, none⟩) : (M g).isSome = true := by
 obtain ⟨_, _, _, ⟨h4, _⟩ | ⟨g', cur, h4, h5, _⟩⟩ := h
 ·rw [h4] at hg; cases hg
 ·rw [h4] at hg; cases hg; rw [h5]; rfl
section
variable {ob : Nat} {B : Nat → Prop} {r0 f0 : Int} {l : List Tre}
theorem TS.has (hc : c.Ok) (h : TS c ob B r0 f0 l t M) {b : Nat} (hb : TOwn c ob M b) : (M b).isSome = true ∧ c.V b = none := by
 obtain ⟨oa, oc, xs, h1, h2, h3, _⟩ := h.bk
 rcases (t_own h1).1 hb with hb | rfl | hb
 ·exact (h.pi.off hc hb).symm
 ·exact ⟨by rw [h1]; rfl, h.oV⟩
 ·exact ⟨roww_has h2 hb, (h3 b hb).1⟩
theorem TS.keep (hc : c.Ok) (h : TS c ob B r0 f0 l t M) {t' : List Evt} (hP : PI c t' M') (hg : GwO (PkOwn c M) (PkOwn c M') M M') (hk : LeW M (PkOwn c M) M') : TS c ob B r0 f0 l t' M' ∧ GwO (TOwn c ob M) (TOwn c ob M') M M' := by
 obtain ⟨oa, oc, xs, h1, h2, h3, h4⟩ := h.bk
 have h1' := hk.keep _ _ h1 h.op
 have hn : ∀ b, (M b).isSome = true → ¬ PkOwn c M b → ¬ PkOwn c M' b := fun b hs hb hb' => by
  rcases hg.own b hb' with h | h
  ·exact hb h
  ·rw [h] at hs; cases hs
 refine ⟨⟨hP, h.oV, hn _ (by rw [h1]; rfl) h.op, fun b hb => ⟨(h.hB b hb).1, hk.dom b (h.hB b hb).2⟩, oa, oc, xs, h1', h2.same fun g o hg ho => hk.keep g o ho (h3 g hg).2.2.1, fun g hg => ⟨(h3 g hg).1, (h3 g hg).2.1, hn g (roww_has h2 hg) (h3 g hg).2.2.1, (h3 g hg).2.2.2⟩, h4.le (veil_le fun b o hb hD => ?_)⟩, fun b hb => ?_, hk.dom⟩
 ·have hD1 : ¬ TOwn c ob M b := fun h => hD (.inl h)
  rw [t_own h1] at hD1
  refine ⟨hk.keep b o hb fun h => hD1 (.inl h), fun h' => h'.elim (fun h' => ?_) fun h' => hD (.inr h')⟩
  rcases (t_own h1').1 h' with h' | h' | h'
  ·exact hn b (by rw [hb]; rfl) (fun h => hD1 (.inl h)) h'
  ·exact hD1 (.inr (.inl h'))
  ·exact hD1 (.inr (.inr h'))
 ·rw [t_own h1]
  rcases (t_own h1').1 hb with h' | h' | h'
  ·rcases hg.own b h' with h' | h'
   ·exact .inl (.inl h')
   ·exact .inr h'
  ·exact .inl (.inr (.inl h'))
  ·exact .inl (.inr (.inr h'))
theorem LeW.of {L : Nat → Prop} (hl : M.le M') : LeW M L M' := ⟨fun b o hb _ => hl b o hb, fun b hb => by rw [Mem.le.eq hl hb]; exact hb⟩
theorem TS.up (pl : Plain c) (h : TS c ob B r0 f0 l t M) (hl : M.le M') : TS c ob B r0 f0 l t M' ∧ GwO (TOwn c ob M) (TOwn c ob M') M M' := by
 obtain ⟨h1, h2⟩ := h.pi.more pl hl
 exact h.keep pl.ok h1 ⟨fun b hb => .inl ((h2 b).1 hb), fun b hb => by rw [Mem.le.eq hl hb]; exact hb⟩ (LeW.of hl)
theorem put_comm {M : Mem} {a b i j : Nat} {us vs : List Value} (h : a ≠ b) : (M.put a i us).put b j vs = (M.put b j vs).put a i us := by
 funext x
 by_cases hb : x = b
 ·subst hb
  rw [Mem.put_ne (b := a) (Ne.symm h)]
  unfold Mem.put
  rw [if_pos rfl, if_pos rfl, if_neg (Ne.symm h)]
 ·rw [Mem.put_ne hb]
  by_cases ha : x = a
  ·subst ha
   unfold Mem.put
   rw [if_pos rfl, if_pos rfl, if_neg h]
  ·rw [Mem.put_ne ha, Mem.put_ne ha, Mem.put_ne hb]
end
end
end Go.Proofs.Ytifkffmecfgpeaa.core

namespace Go.Proofs.Ytifkffmecfgpeaa.core
open Go.Gx Go.RowKit Go.ChangeShapes Go.WideShapes Go.ChangeAt
set_option linter.unusedVariables false
section
variable {c : PkC} {t : List Evt} {M : Mem} {ob : Nat} {B : Nat → Prop} {r0 f0 : Int} {l : List Tre}
theorem push_is (pl : Plain c) {T : Tre} {x z : X_api_Tree} {oa ad : Option Addr} {oc cap g : Nat} {xs : List X_api_Tree} {M2 : Mem} (hS : TS c ob B r0 f0 l t M) (h1 : M ob = some (.cells (tcs r0 f0 oa l.length oc).toArray 89 (0, 0))) (h2 : RowW M 89 4 oa l.length oc (cl X_api_Tree.cells xs)) (h3 : ∀ g, oa = some ⟨g, 0, none⟩ → c.V g = none ∧ g ≠ ob ∧ ¬ PkOwn c M g ∧ ¬ B g) (h4 : TrL (veil M fun b => TOwn c ob M b ∨ B b) l xs)
  (hA : AppW M M2 89 4 oa ad (l.length + 1) cap (cl X_api_Tree.cells (xs ++ [z]))) (hg : ad = some ⟨g, 0, none⟩) (hx : TrR (veil M fun b => TOwn c ob M b ∨ B b) T x) :
  Has M2 g (0 + l.length * 4) 4 ∧ g ≠ ob ∧ TOwn c ob M ob ∧ (TOwn c ob M g ∨ M g = none) ∧ Has M2 ob 3 1 ∧ TS c ob B r0 f0 (l ++ [T]) t ((M2.put g (0 + l.length * 4) x.cells).put ob 3 [.slice ad (l.length + 1) cap]) ∧ GwO (TOwn c ob M) (TOwn c ob ((M2.put g (0 + l.length * 4) x.cells).put ob 3 [.slice ad (l.length + 1) cap])) M ((M2.put g (0 + l.length * 4) x.cells).put ob 3 [.slice ad (l.length + 1) cap]) := by
 have hgb := hA.blk g hg
 have hgo : g ≠ ob := fun e => by
  rcases hgb with h | h
  ·exact (h3 g h).2.1 e
  ·rw [e, h1] at h; cases h
 have hxl := h4.len
 obtain ⟨_, hhas, hput⟩ := hA.row.put Tx_len (by simp [hxl]) (Nat.lt_succ_self l.length) hg x
 rw [show (xs ++ [z]).set l.length x = xs ++ [x] by rw [← hxl]; simp] at hput
 have kp : ∀ b o, M b = some o → b ≠ ob → oa ≠ some ⟨b, 0, none⟩ → ((M2.put g (0 + l.length * 4) x.cells).put ob 3 [.slice ad (l.length + 1) cap]) b = M b := fun b o hb n1 n2 => by
  rw [Mem.put_ne n1, Mem.put_ne, hA.keep b o hb, hb]
  ·exact fun g' hg' e => n2 (e ▸ hg')
  ·rintro rfl
   rcases hgb with h | h
   ·exact n2 h
   ·rw [h] at hb; cases hb
 have hob2 : M2 ob = M ob := (hA.keep ob _ h1 fun g' hg' e => (h3 g' hg').2.1 e.symm).trans h1.symm
 have hob : ((M2.put g (0 + l.length * 4) x.cells).put ob 3 [.slice ad (l.length + 1) cap]) ob = some (.cells (tcs r0 f0 ad (l ++ [T]).length cap).toArray 89 (0, 0)) := by
  rw [Mem.put_eq (c := (tcs r0 f0 oa l.length oc).toArray) (t := 89) (f := (0, 0)) (by rw [Mem.put_ne (Ne.symm hgo), hob2, h1]), List.length_append]
  rfl
 obtain ⟨hP, hPo⟩ := hS.pi.same pl (M' := (M2.put g (0 + l.length * 4) x.cells).put ob 3 [.slice ad (l.length + 1) cap]) (fun b o hb => (kp b o (hS.pi.le b o hb) (fun e => by rw [e, hS.oV] at hb; cases hb) fun h => by rw [(h3 b h).1] at hb; cases hb).trans (hS.pi.le b o hb)) fun b hb => by
  obtain ⟨o, ho⟩ := Option.isSome_iff_exists.1 (hS.pi.off pl.ok hb).2
  exact kp b o ho (fun e => hS.op (e ▸ hb)) fun h => (h3 b h).2.2.1 hb
 have hdom : ∀ b, (M b).isSome = true → (((M2.put g (0 + l.length * 4) x.cells).put ob 3 [.slice ad (l.length + 1) cap]) b).isSome = true := fun b hb => by
  rw [Mem.put_some, Mem.put_some]; exact hA.dom b hb
 have hgp : ¬ PkOwn c M g := fun h => by
  rcases hgb with h' | h'
  ·exact (h3 g h').2.2.1 h
  ·have := (hS.pi.off pl.ok h).2; rw [h'] at this; cases this
 have hve : (veil M fun b => TOwn c ob M b ∨ B b).le (veil ((M2.put g (0 + l.length * 4) x.cells).put ob 3 [.slice ad (l.length + 1) cap]) fun b => TOwn c ob ((M2.put g (0 + l.length * 4) x.cells).put ob 3 [.slice ad (l.length + 1) cap]) b ∨ B b) := veil_le fun b o hb hD => by
  have hD1 : ¬ TOwn c ob M b := fun h => hD (.inl h)
  rw [t_own h1] at hD1
  refine ⟨(kp b o hb (fun h => hD1 (.inr (.inl h))) fun h => hD1 (.inr (.inr h))).trans hb, fun h' => h'.elim (fun h' => ?_) fun h' => hD (.inr h')⟩
  rcases (t_own hob).1 h' with h' | h' | h'
  ·exact hD1 (.inl ((hPo b).1 h'))
  ·exact hD1 (.inr (.inl h'))
  ·rcases hA.blk b h' with h | h
   ·exact hD1 (.inr (.inr h))
   ·rw [h] at hb; cases hb
 refine ⟨hhas, hgo, .inr (.inl rfl), hgb.imp (fun h => (t_own h1).2 (.inr (.inr h))) id, ⟨_, _, hob2.trans h1, by simp⟩, ⟨hP, hS.oV, fun h => hS.op ((hPo ob).1 h), fun b hb => ⟨(hS.hB b hb).1, hdom b (hS.hB b hb).2⟩, ad, cap, xs ++ [x], hob, ?_, fun g' hg' => ?_, (h4.le hve).app (TrL.one (hx.le hve))⟩, ⟨fun b hb => ?_, hdom⟩⟩
 ·rw [List.length_append]
  refine hput.same fun g' o hg' ho => ?_
  rw [hg] at hg'; cases hg'
  rw [Mem.put_ne hgo]; exact ho
 ·rw [hg] at hg'; cases hg'
  refine ⟨?_, hgo, fun h => hgp ((hPo g).1 h), fun h => ?_⟩
  rotate_left
  ·rcases hgb with h' | h'
   ·exact (h3 g h').2.2.2 h
   ·have := (hS.hB g h).2; rw [h'] at this; cases this
  rcases hgb with h | h
  ·exact (h3 g h).1
  ·cases hv : c.V g with
   | none => rfl
   | some o => rw [hS.pi.le g o hv] at h; cases h
 ·rcases (t_own hob).1 hb with h' | h' | h'
  ·exact .inl (.inl ((hPo b).1 h'))
  ·exact .inl (.inr (.inl h'))
  ·exact (hA.blk b h').imp (fun h => (t_own h1).2 (.inr (.inr h))) id
end
section
variable {c : PkC} {bb : Nat}
def TW (c : PkC) (bb : Nat) (e : Ex) (p : Int) (l : List Tre) : Prop := (c.res e p < 0 → l = []) ∧ (PegOk c.rs e → 0 ≤ p → p ≤ c.s.length → cnt e ≤ c.tot → 0 ≤ c.res e p → ∀ (ob : Nat) (B : Nat → Prop) (r0 f0 : Int) (l0 : List Tre) (t : List Evt) (M : Mem) (x : X_api_Expr) (L : Nat → Prop) (K : Value → Mem → Prop), ExR c.V e x → TS c ob B r0 f0 l0 t M → l0.length + l.length ≤ 10000 → (∀ b, TOwn c ob M b → L b) →
 (∀ M' t', TS c ob B r0 f0 (l0 ++ l) t' M' → GwO (TOwn c ob M) (TOwn c ob M') M M' → K (.int .i64 (c.res e p)) M') → CallW Try.prog 129 #[.pointer (some ⟨bb, 0, none⟩), x.val, .int .i64 p, .pointer (some ⟨ob, 3, none⟩)] M L K)
def TRule (c : PkC) (bb : Nat) (i p : Int) (l : List Tre) : Prop := ∀ (t : List Evt) (M : Mem) (L : Nat → Prop) (K : Value → Mem → Prop), PI c t M → (∀ b, PkOwn c M b → L b) →
 (∀ M' t' x, PI c t' M' → GwO (PkOwn c M) (PkOwn c M') M M' → LeW M (PkOwn c M) M' → TrR (veil M' fun b => PkOwn c M' b ∨ (c.V b = none ∧ (M b).isSome = true)) (.mk i p (c.E p.toNat i.toNat) l) x → K x.val M') → CallW Try.prog 89 #[.pointer (some ⟨bb, 0, none⟩), .int .i64 i, .int .i64 p] M L K
def TChain (c : PkC) (bb : Nat) (L : List Ex) : List Tr → List Tre → Prop
 | [], t => t = []
 | k :: l, t => ∃ e a b, L[k.Kid.toNat]? = some e ∧ TW c bb e k.At a ∧ t = a ++ b ∧ TChain c bb L l b
theorem setE_pos {t : X_api_Set} {s : List UInt8} {p : Int} (h : 0 ≤ setE t s p) : setE t s p = p + 1 := by
 unfold setE at h ⊢
 split at h
 ·split at h
  ·rename_i hb; rw [if_pos hb]
  ·omega
 ·omega
theorem litE_pos {x s : List UInt8} {p : Int} (h : 0 ≤ litE x s p) : litE x s p = p + (x.length : Nat) := by
 unfold litE at h ⊢
 split at h
 ·rename_i hb; rw [if_pos hb]
 ·omega
theorem tw_is (pl : Plain c) (hbb : At c.V bb 0 [.pointer c.ptr]) {e : Ex} {p : Int} {l : List Tre} (hneg : c.res e p < 0 → l = []) (h4 : e.kind = 4 → PegOk c.rs e → 0 ≤ p → p ≤ c.s.length → 0 ≤ c.res e p → ∃ l', l = [.mk (findR e.text c.rs 0) p (c.res e p) l'] ∧ TRule c bb (findR e.text c.rs 0) p l' ∧ c.E p.toNat (findR e.text c.rs 0).toNat = c.res e p) (h10 : 10 ≤ e.kind → l = []) (hch : e.kind ≠ 4 → e.kind < 10 → 0 ≤ c.res e p → TChain c bb e.kids (kidK c.rs c.s c.E e p) l) : TW c bb e p l := by
 refine ⟨hneg, fun hok hp hl hcn h0 ob B r0 f0 l0 t M x L K hR hS hlen hL hK => ?_⟩
 obtain ⟨xs, hx⟩ := hR.open
 have hc := pl.ok
 have hs60 := hc.s60
 have hl8 := kids8 hok.good
 obtain ⟨g1, g2, g3, g4, g5, g6, _⟩ := fitE_kinds hok.good.fit
 have fin : ∀ {M' M'' : Mem} {t' : List Evt} {to : Int}, TS c ob B r0 f0 (l0 ++ l) t' M' → GwO (TOwn c ob M) (TOwn c ob M') M M' → M'.le M'' → to = c.res e p → K (.int .i64 to) M'' := fun h1 h2 h3 h4 => by
  obtain ⟨h5, h6⟩ := h1.up pl h3
  rw [h4]; exact hK _ _ h5 (h2.trans h6)
 have refl : GwO (TOwn c ob M) (TOwn c ob M) M M := ⟨fun _ h => .inl h, fun _ h => h⟩
 have nil : e.kind < 5 → e.kind ≠ 4 → l = [] := fun h h' => by
  have := hch h' (by omega) h0
  unfold kidK at this
  rw [if_neg (by omega), if_neg (by omega), if_neg (show ¬ (e.kind = 7 ∨ e.kind = 8) by omega), if_neg (by omega)] at this
  exact this
 have fin0 : ∀ {M' : Mem} {to : Int}, l = [] → M.le M' → to = c.res e p → K (.int .i64 to) M' := fun h1 h2 h3 => fin (by rw [h1, List.append_nil]; exact hS) refl h2 h3
 have hkm : ∀ {i : Nat} {k : Ex}, e.kids[i]? = some k → PegOk c.rs k ∧ cnt k ≤ c.tot := fun h => ⟨hok.kid (List.mem_of_getElem? h), by have := kid_cnt h; omega⟩
 refine (s_tree_builder_walk _ _ _ _ _ _ _ ?_).mono hL fun v M' _ h => h
 unfold S_tree_builder_walk
 rw [hx.kind]
 refine ⟨fun k2 => ?_, fun n2 => ⟨fun k3 => ?_, fun n3 => ⟨fun k4 => ?_, fun n4 => ⟨fun k5 => ?_, fun n5 => ⟨fun k6 => ?_, fun n6 => ?_⟩⟩⟩⟩⟩
 ·have hr : c.res e p = p + 1 := by
   have h0' := h0
   unfold PkC.res at h0' ⊢
   rw [endE_eq, if_neg (by omega), if_pos k2] at h0' ⊢
   exact setE_pos h0'
  exact ⟨inI_small (by omega) (by omega), fun M' hle => fin0 (nil (by omega) (by omega)) hle hr.symm⟩
 ·have h12 := g6 k3
  have hr : c.res e p = p + (e.text.length : Nat) := by
   have h0' := h0
   unfold PkC.res at h0' ⊢
   rw [endE_eq, if_neg (by omega), if_neg n2, if_pos k3] at h0' ⊢
   exact litE_pos h0'
  rw [hx.text]
  exact ⟨inI_small (by omega) (by omega), fun M' hle => fin0 (nil (by omega) (by omega)) hle hr.symm⟩
 ·obtain ⟨l', hl', hT, hE⟩ := h4 k4 hok hp hl h0
  obtain ⟨far, want, _, hPB⟩ := id hS.pi
  obtain ⟨la, lc, hat⟩ := hPB.at
  rw [hx.text]
  refine ⟨bb, 0, rfl, _, hbb.le hS.pi.le, c.pb, 0, rfl, _, _, _, hat.part 0 [.slice c.ga c.gl c.gc] rfl, s_gram_Find _ _ _ _ _ _ (find_is (hc.gr.le hS.pi.le) e.text _ ⟨_, rfl, ?_⟩)⟩
  refine hT t M _ _ hS.pi (fun b hb => .inl (.inl hb)) fun M16 t' y hP16 hg16 hle16 hy => ⟨y, rfl, ?_⟩
  rw [hE] at hy
  obtain ⟨hS16, ht16⟩ := hS.keep hc hP16 hg16 hle16
  have hto : y.To = c.res e p := by cases hy; rfl
  obtain ⟨oa, oc, zs, b1, b2, b3, b4⟩ := hS16.bk
  have hy2 := hy.le (veil_le (D' := fun b => TOwn c ob M16 b ∨ B b) (M' := M16) fun b o hb hD => ⟨hb, fun h => hD (h.elim (fun h => by
   rcases (t_own b1).1 h with h | h | h
   ·exact .inl h
   ·obtain ⟨oa', oc', zs', b1', _⟩ := hS.bk
    exact .inr ⟨h ▸ hS.oV, by rw [h, b1']; rfl⟩
   ·refine .inr ⟨(b3 b h).1, ?_⟩
    obtain ⟨oa', oc', zs', b1', b2', _⟩ := hS.bk
    have hh := hle16.keep _ _ b1' hS.op
    rw [b1] at hh
    have : oa = oa' := by injection hh with hh; injection hh with hh _; injection hh with hh; injection hh with _ hh; injection hh with _ hh; injection hh with _ hh; injection hh with hh _; injection hh
    exact roww_has b2' (this ▸ h)) fun h => .inr (hS.hB b h))⟩)
  unfold S_tree_builder_walk_J1
  refine ⟨ob, 3, rfl, oa, l0.length, oc, (At.blk b1).part 3 [.slice oa l0.length oc] rfl, Tx_one _, _, b2, fun g hg => ht16.own g ((t_own b1).2 (.inr (.inr hg))), by rw [hl'] at hlen; simp only [List.length_cons, List.length_nil] at hlen; omega, fun M35 ad cap hA => ?_⟩
  rw [cl_snoc] at hA
  obtain ⟨g, hg⟩ : ∃ g, ad = some ⟨g, 0, none⟩ := by
   obtain ⟨_, _, _, ⟨_, h, _⟩ | ⟨g, _, h, _⟩⟩ := hA.row
   ·omega
   ·exact ⟨g, h⟩
  obtain ⟨q1, q2, q3, q4, q5, q6, q7⟩ := push_is pl hS16 b1 b2 b3 b4 hA hg hy2
  have hend : ∀ {M' : Mem}, M' = ((M35.put g (0 + l0.length * 4) y.cells).put ob 3 [.slice ad (l0.length + 1) cap]) → S_tree_builder_walk_J2 y.To M' K := fun h => by
   subst h
   unfold S_tree_builder_walk_J2
   exact fun M' hle => fin (by rw [hl']; exact q6) (ht16.trans q7) hle hto
  have w1 : Wr (TOwn c ob M) M ob := .inl (.inr (.inl rfl))
  have w2 : Wr (TOwn c ob M) M g := by
   rcases q4 with h | h
   ·exact ht16.own g h
   ·exact .inr (isNone fun hm => by have := ht16.dom g hm; rw [h] at this; cases this)
  have q1' : ∀ vs : List Value, Has (M35.put ob 3 vs) g (0 + l0.length * 4) 4 := fun vs => by
   obtain ⟨cs, ty, h, h'⟩ := q1
   exact ⟨cs, ty, by rw [Mem.put_ne q2]; exact h, h'⟩
  have q5' : ∀ vs : List Value, Has (M35.put g (0 + l0.length * 4) vs) ob 3 1 := fun vs => by
   obtain ⟨cs, ty, h, h'⟩ := q5
   exact ⟨cs, ty, by rw [Mem.put_ne (Ne.symm q2)]; exact h, h'⟩
  rw [Int.toNat_natCast]
  refine ⟨g, 0, hg, by omega, by omega, ob, 3, rfl, ⟨q1, w2, fun M42 h42 => ⟨by rw [h42]; exact q5' _, w1, fun M43 h43 => hend (by rw [h43, h42])⟩⟩, ⟨q5, w1, fun M43 h43 => ⟨by rw [h43]; exact q1' _, w2, fun M42 h42 => hend (by rw [h42, h43]; exact put_comm (Ne.symm q2))⟩⟩⟩
 ·have hr : c.res e p = seqE c.rs c.s c.E e.kids p := by unfold PkC.res; rw [endE_eq, if_neg (by omega), if_neg n2, if_neg n3, if_neg n4, if_pos k5]
  have hch := hch n4 (by omega) h0
  unfold kidK at hch
  rw [if_pos k5] at hch
  refine ⟨List Evt × List Tre, fun g q i M' => 0 ≤ i ∧ i ≤ e.kids.length ∧ 0 ≤ q ∧ q ≤ c.s.length ∧ TS c ob B r0 f0 (l0 ++ g.2) g.1 M' ∧ GwO (TOwn c ob M) (TOwn c ob M') M M' ∧ (∃ b, l = g.2 ++ b ∧ TChain c bb e.kids (seqK (endE c.rs c.s c.E) (e.kids.drop i.toNat) i q) b) ∧ seqE c.rs c.s c.E (e.kids.drop i.toNat) q = c.res e p, fun _ _ i => e.kids.length - i.toNat, (t, []),
   ⟨by omega, by omega, hp, hl, by rw [List.append_nil]; exact hS, refl, ⟨l, rfl, hch⟩, hr.symm⟩, fun ⟨t', a⟩ q i M' ⟨i0, i1, q0, q1, hS', hg', ⟨b, hb, hch'⟩, hrs⟩ => ⟨fun hlt => ?_, fun hge => ?_⟩⟩
  ·rw [hx.len] at hlt
   obtain ⟨k, hk⟩ := getI (l := e.kids) i0 hlt
   obtain ⟨b2, o2, y, ha, hat, hy, _⟩ := hx.kid hk
   obtain ⟨hko, hkc⟩ := hkm hk
   rw [drop_get hk, seqK] at hch'
   rw [drop_get hk, seqE] at hrs
   obtain ⟨e', a1, b1, he', ⟨_, hT⟩, hb1, hrest⟩ := hch'
   simp only at he' hT
   rw [hk] at he'; cases he'
   have hkr : c.res k q = -1 ∨ (q ≤ c.res k q ∧ c.res k q ≤ c.s.length) := hc.hT.res hko q0 q1
   have hk0 : 0 ≤ c.res k q := Int.not_lt.1 fun h => by rw [if_pos h] at hrs; rw [← hrs] at h0; exact Int.not_lt.2 h0 h
   rw [if_neg (Int.not_lt.2 hk0)] at hrest hrs
   have hll : l.length = a.length + (a1.length + b1.length) := by rw [hb, hb1]; simp
   refine ⟨b2, o2, ha, i0, by rw [hx.len]; exact hlt, y, hat.le hS'.pi.le, hT hko q0 q1 hkc hk0 ob B r0 f0 (l0 ++ a) t' M' y _ _ hy hS' (by rw [List.length_append]; omega) hg'.own fun M2 t2 hS2 hg2 => ⟨_, rfl, inI_small (by omega) (by omega), (t2, a ++ a1), ⟨by omega, by omega, hk0, by omega, by rw [← List.append_assoc]; exact hS2, hg'.trans hg2, ⟨b1, by rw [hb, hb1, List.append_assoc], ?_⟩, ?_⟩, ?_⟩⟩
   ·rw [show (i + 1).toNat = i.toNat + 1 by omega]; exact hrest
   ·rw [show (i + 1).toNat = i.toNat + 1 by omega]; exact hrs
   ·show e.kids.length - (i + 1).toNat < e.kids.length - i.toNat
    omega
  ·rw [hx.len] at hge
   rw [List.drop_of_length_le (by omega), seqK] at hch'
   rw [List.drop_of_length_le (by omega), seqE] at hrs
   have hch' : b = [] := hch'
   rw [hch', List.append_nil] at hb
   exact fun M2 hle => fin (by rw [hb]; exact hS') hg' hle hrs
 ·have hr : c.res e p = altE c.rs c.s c.E e.kids p := by unfold PkC.res; rw [endE_eq, if_neg (by omega), if_neg n2, if_neg n3, if_neg n4, if_neg n5, if_pos k6]
  have hch := hch n4 (by omega) h0
  unfold kidK at hch
  rw [if_neg n5, if_pos k6] at hch
  refine ⟨List Evt, fun t' i M' => 0 ≤ i ∧ i ≤ e.kids.length ∧ TS c ob B r0 f0 l0 t' M' ∧ GwO (TOwn c ob M) (TOwn c ob M') M M' ∧ TChain c bb e.kids (altK (endE c.rs c.s c.E) (e.kids.drop i.toNat) i p) l ∧ altE c.rs c.s c.E (e.kids.drop i.toNat) p = c.res e p, fun _ i => e.kids.length - i.toNat, t,
   ⟨by omega, by omega, hS, refl, hch, hr.symm⟩, fun t' i M' ⟨i0, i1, hS', hg', hch', hrs⟩ => ⟨fun hlt => ?_, fun hge => ?_⟩⟩
  ·rw [hx.len] at hlt
   obtain ⟨k, hk⟩ := getI (l := e.kids) i0 hlt
   obtain ⟨b2, o2, y, ha, hat, hy, _⟩ := hx.kid hk
   obtain ⟨hko, hkc⟩ := hkm hk
   rw [drop_get hk, altK] at hch'
   rw [drop_get hk, altE] at hrs
   obtain ⟨e', a1, b1, he', ⟨hn, hT⟩, hb1, hrest⟩ := hch'
   simp only at he' hT hn
   rw [hk] at he'; cases he'
   have hkr : c.res k p = -1 ∨ (p ≤ c.res k p ∧ c.res k p ≤ c.s.length) := hc.hT.res hko hp hl
   refine ⟨b2, o2, ha, i0, by rw [hx.len]; exact hlt, y, hat.le hS'.pi.le, bb, 0, rfl, _, hbb.le hS'.pi.le, does_is pl hko hp hl hkc hy hS'.pi (fun b hb => hg'.own b (.inl hb)) fun M2 t2 hP2 hg2 hle2 => ⟨_, rfl, fun hyes => ?_, fun hno => ?_⟩⟩
   ·obtain ⟨hS2, ht2⟩ := hS'.keep hc hP2 hg2 hle2
    have hk0 : 0 ≤ c.res k p := of_decide_eq_true hyes
    rw [if_neg (Int.not_lt.2 hk0)] at hrest
    have hrest : b1 = [] := hrest
    rw [hrest, List.append_nil] at hb1
    rw [if_pos (by intro h; have : c.res k p = -1 := h; omega)] at hrs
    refine hT hko hp hl hkc hk0 ob B r0 f0 l0 t2 M2 y _ _ hy hS2 (by rw [← hb1]; exact hlen) (hg'.trans ht2).own fun M3 t3 hS3 hg3 => ⟨_, rfl, fun M4 hle => fin (by rw [hb1]; exact hS3) ((hg'.trans ht2).trans hg3) hle hrs⟩
   ·obtain ⟨hS2, ht2⟩ := hS'.keep hc hP2 hg2 hle2
    have hk0 : c.res k p < 0 := by simpa using hno
    rw [if_pos hk0] at hrest
    rw [hn hk0, List.nil_append] at hb1
    subst hb1
    rw [if_neg (fun h => h (show c.res k p = -1 by omega))] at hrs
    refine ⟨inI_small (by omega) (by omega), t2, ⟨by omega, by omega, hS2, hg'.trans ht2, ?_, ?_⟩, ?_⟩
    ·rw [show (i + 1).toNat = i.toNat + 1 by omega]; exact hrest
    ·rw [show (i + 1).toNat = i.toNat + 1 by omega]; exact hrs
    ·show e.kids.length - (i + 1).toNat < e.kids.length - i.toNat
     omega
  ·rw [hx.len] at hge
   rw [List.drop_of_length_le (by omega), altE] at hrs
   omega
 have j3 : ∀ v : Bool, (v = true ↔ 7 ≤ e.kind ∧ e.kind ≤ 9) → S_tree_builder_walk_J3 (some ⟨bb, 0, none⟩) x p (some ⟨ob, 3, none⟩) M (TOwn c ob M) v K := by
  intro v hv
  unfold S_tree_builder_walk_J3
  rw [hx.kind]
  refine ⟨fun ht => ?_, fun hf M' hle => ?_⟩
  ·obtain ⟨k7, k9⟩ := hv.1 ht
   have hch := hch n4 (by omega) h0
   obtain ⟨k, hk1⟩ := List.length_eq_one_iff.1 (g5 k7)
   have hk : e.kids[(0 : Int).toNat]? = some k := by rw [hk1]; rfl
   have hhd : hdE c.rs c.s c.E e.kids = endE c.rs c.s c.E k := by rw [hk1]; funext q; rw [hdE]
   obtain ⟨b2, o2, y, ha, hat, hy, _⟩ := hx.kid hk
   obtain ⟨hko, hkc⟩ := hkm hk
   have hkl : 0 < ((x.Kids_l : Nat) : Int) := by rw [hx.len, hk1]; simp
   have hres : c.res e p = if e.kind = 7 ∨ e.kind = 8 then strE (endE c.rs c.s c.E k) (decide (e.kind = 8)) (c.s.length + 2) p true else oneE e.kind p (c.res k p) := by
    unfold PkC.res; rw [endE_eq, if_neg (by omega), if_neg (by omega), if_neg (by omega), if_neg (by omega), if_neg (by omega), if_neg (by omega), hhd]
   unfold kidK at hch
   rw [if_neg n5, if_neg n6, hhd] at hch
   have hch : TChain c bb e.kids (if e.kind = 7 ∨ e.kind = 8 then staK (endE c.rs c.s c.E k) (c.s.length + 2 + 1) p else [⟨0, p⟩]) l := by
    by_cases h78 : e.kind = 7 ∨ e.kind = 8
    ·rw [if_pos h78] at hch ⊢; exact hch
    ·rw [if_neg h78, if_pos (by omega)] at hch; rw [if_neg h78]; exact hch
   refine ⟨List Evt × List Tre × Nat × Bool, fun g q M' => 0 ≤ q ∧ q ≤ c.s.length ∧ TS c ob B r0 f0 (l0 ++ g.2.1) g.1 M' ∧ GwO (TOwn c ob M) (TOwn c ob M') M M' ∧ (∃ b, l = g.2.1 ++ b ∧ TChain c bb e.kids (if e.kind = 7 ∨ e.kind = 8 then staK (endE c.rs c.s c.E k) (g.2.2.1 + 1) q else [⟨0, q⟩]) b) ∧ (if e.kind = 7 ∨ e.kind = 8 then strE (endE c.rs c.s c.E k) (decide (e.kind = 8)) g.2.2.1 q g.2.2.2 else oneE e.kind q (c.res k q)) = c.res e p ∧ c.s.length + 1 ≤ q + g.2.2.1, fun _ q => (c.s.length + 1 - q).toNat, (t, [], c.s.length + 2, true),
    ⟨hp, hl, by rw [List.append_nil]; exact hS, refl, ⟨l, rfl, hch⟩, hres.symm, by push_cast; omega⟩, fun ⟨t', a, m, fi⟩ q M' ⟨q0, q1, hS', hg', ⟨b, hb, hch'⟩, hrs, hm⟩ => ?_⟩
   simp only at hS' hb hch' hrs hm
   have hkr : c.res k q = -1 ∨ (q ≤ c.res k q ∧ c.res k q ≤ c.s.length) := hc.hT.res hko q0 q1
   have hch2 : ∃ a1 b1, TW c bb k q a1 ∧ b = a1 ++ b1 ∧ TChain c bb e.kids (if e.kind = 7 ∨ e.kind = 8 then staK (endE c.rs c.s c.E k) m (c.res k q) else []) b1 := by
    have key : (if e.kind = 7 ∨ e.kind = 8 then staK (endE c.rs c.s c.E k) (m + 1) q else [⟨0, q⟩]) = ⟨0, q⟩ :: (if e.kind = 7 ∨ e.kind = 8 then staK (endE c.rs c.s c.E k) m (c.res k q) else []) := by
     split
     ·rw [staK, if_neg (by omega)]
     ·rfl
    rw [key] at hch'
    obtain ⟨e', a1, b1, he', h1, h2, h3⟩ := hch'
    simp only at he' h1
    rw [hk] at he'; cases he'
    exact ⟨a1, b1, h1, h2, h3⟩
   obtain ⟨a1, b1, ⟨hn, hT⟩, hb1, hrest⟩ := hch2
   have hll : l.length = a.length + (a1.length + b1.length) := by rw [hb, hb1]; simp
   cases m with
   | zero => omega
   | succ m =>
    refine ⟨bb, 0, rfl, _, hbb.le hS'.pi.le, b2, o2, ha, by omega, hkl, y, hat.le hS'.pi.le, does_is pl hko q0 q1 hkc hy hS'.pi (fun b hb => hg'.own b (.inl hb)) fun M2 t2 hP2 hg2 hle2 => ⟨_, rfl, fun hyes => ?_, fun hno => ?_⟩⟩
    ·obtain ⟨hS2, ht2⟩ := hS'.keep hc hP2 hg2 hle2
     have hk0 : 0 ≤ c.res k q := of_decide_eq_true hyes
     refine ⟨b2, o2, ha, by omega, hkl, y, hat.le hS2.pi.le, hT hko q0 q1 hkc hk0 ob B r0 f0 (l0 ++ a) t2 M2 y _ _ hy hS2 (by rw [List.length_append]; omega) (hg'.trans ht2).own fun M3 t3 hS3 hg3 => ⟨_, rfl, fun h9 M4 hle => ?_, fun h9 => ?_⟩⟩
     ·rw [if_neg (by omega)] at hrest hrs
      have hrest : b1 = [] := hrest
      rw [hrest, List.append_nil] at hb1
      unfold oneE at hrs
      rw [if_neg (by omega), if_pos ⟨h9, hk0⟩] at hrs
      exact fin (by rw [hb, hb1, ← List.append_assoc]; exact hS3) ((hg'.trans ht2).trans hg3) hle hrs
     ·have h78 : e.kind = 7 ∨ e.kind = 8 := by omega
      have hem := hok.star hk1 h78
      have hne : c.res k q ≠ q := fun h => by
       have := hc.hT.empty hko q0 q1 h
       rw [this] at hem; cases hem
      rw [if_pos h78] at hrest hrs
      rw [strE, if_neg (fun h => h.elim (not_two hkr q0) fun h => Int.not_lt.2 hk0 h.1), if_neg (Int.not_lt.2 hk0)] at hrs
      refine ⟨(t3, a ++ a1, m, false), ⟨hk0, by omega, by rw [← List.append_assoc]; exact hS3, (hg'.trans ht2).trans hg3, ⟨b1, by rw [hb, hb1, List.append_assoc], by rw [if_pos h78]; exact hrest⟩, by rw [if_pos h78]; exact hrs, by push_cast at hm; show (c.s.length : Int) + 1 ≤ c.res k q + m; omega⟩, ?_⟩
      show ((c.s.length : Int) + 1 - c.res k q).toNat < ((c.s.length : Int) + 1 - q).toNat
      omega
    ·obtain ⟨hS2, ht2⟩ := hS'.keep hc hP2 hg2 hle2
     have hk0 : c.res k q < 0 := by simpa using hno
     rw [hn hk0, List.nil_append] at hb1
     have hb10 : b1 = [] := by
      by_cases h78 : e.kind = 7 ∨ e.kind = 8
      ·rw [if_pos h78, staK, if_pos hk0] at hrest; exact hrest
      ·rw [if_neg h78] at hrest; exact hrest
     rw [hb1, hb10, List.append_nil] at hb
     refine fun M3 hle => fin (by rw [hb]; exact hS2) (hg'.trans ht2) hle ?_
     by_cases h78 : e.kind = 7 ∨ e.kind = 8
     ·rw [if_pos h78, strE] at hrs
      by_cases hbad : endE c.rs c.s c.E k q = -2 ∨ (endE c.rs c.s c.E k q < 0 ∧ fi = true ∧ decide (e.kind = 8) = true)
      ·rw [if_pos hbad] at hrs; rw [← hrs] at h0; exact absurd hk0 (Int.not_lt.2 h0)
      ·rw [if_neg hbad, if_pos hk0] at hrs; exact hrs
     ·rw [if_neg h78] at hrs
      unfold oneE at hrs
      rw [if_neg (by omega), if_neg (by omega), if_neg (by omega)] at hrs
      exact hrs
  ·have hn : ¬ (7 ≤ e.kind ∧ e.kind ≤ 9) := fun h => hf (hv.2 h)
   by_cases k1 : e.kind = 1
   ·refine fin0 (nil (by omega) n4) hle ?_
    unfold PkC.res; rw [endE_eq, if_pos k1]
   ·refine fin0 (h10 (by omega)) hle ?_
    have h0' := h0
    unfold PkC.res at h0' ⊢
    rw [endE_eq, if_neg k1, if_neg n2, if_neg n3, if_neg n4, if_neg n5, if_neg n6, if_neg (by omega)] at h0' ⊢
    unfold oneE at h0' ⊢
    by_cases q1 : hdE c.rs c.s c.E e.kids p = -2
    ·rw [if_pos q1] at h0'; omega
    rw [if_neg q1, if_neg (by omega)] at h0' ⊢
    split at h0'
    ·omega
    ·rename_i hh; rw [if_neg hh]
 refine ⟨fun k9 => j3 _ (by rw [beq_iff_eq]; omega), fun n9 => ⟨fun k7 => j3 _ (by rw [beq_iff_eq]; omega), fun n7 => j3 _ (by rw [beq_iff_eq]; omega)⟩⟩
end
section
variable {c : PkC} {bb : Nat}
theorem trule_is (pl : Plain c) (hbb : At c.V bb 0 [.pointer c.ptr]) {i p : Int} {rr : Ru} (hi : 0 ≤ i) (hr : c.rs[i.toNat]? = some rr) (hp : 0 ≤ p) (hl : p ≤ c.s.length) {l : List Tre} (hlen : l.length ≤ 10000) (h0 : 0 ≤ c.res rr.body p) (hT : TW c bb rr.body p l) : TRule c bb i p l := by
 intro t M L K hP hL hK
 have hc := pl.ok
 have hlt := (List.getElem?_eq_some_iff.1 hr).1
 have hgl := hc.gr.len
 have hsum := fstN_rule hr
 have htot := hc.tot
 have hE : c.E p.toNat i.toNat = c.res rr.body p := by
  have := hc.hT.fix p.toNat i.toNat rr (by omega) hr
  rw [show ((p.toNat : Nat) : Int) = p by omega] at this
  exact this
 obtain ⟨r2, x2, b3, o3, hr2, ha3, hat3, hrr3⟩ := hc.gr.at hi (by omega)
 rw [hr] at hr2; cases hr2
 obtain ⟨far, want, _, hPB⟩ := id hP
 obtain ⟨la, lc, hat⟩ := hPB.at
 refine ((s_tree_builder_rule _ _ _ _ _ _ ?_ : CallW Try.prog 89 #[.pointer (some ⟨bb, 0, none⟩), .int .i64 i, .int .i64 p] M (PkOwn c M) (fun v M' => ∃ (x : X_api_Tree) (t' : List Evt), v = x.val ∧ PI c t' M' ∧ GwO (PkOwn c M) (PkOwn c M') M M' ∧ TrR (veil M' fun b => PkOwn c M' b ∨ (c.V b = none ∧ (M b).isSome = true)) (.mk i p (c.E p.toNat i.toNat) l) x)).mono hL fun v M' hle ⟨x, t', hv, h1, h2, h3⟩ => by rw [hv]; exact hK M' t' x h1 h2 hle h3)
 unfold S_tree_builder_rule
 refine ⟨bb, 0, rfl, _, hbb.le hP.le, c.pb, 0, rfl, _, _, _, hat.part 0 [.slice c.ga c.gl c.gc] rfl, b3, o3, ha3, hi, by omega, x2.Body, (hat3.part 1 x2.Body.cells rfl).le hP.le, fun b5 M17 hb5 hM17 => ?_⟩
 have hle17 : M.le M17 := by rw [hM17]; exact Mem.add_le hb5
 obtain ⟨hP17, ho17⟩ := hP.more pl hle17
 have hV5 : c.V b5 = none := by
  cases hv : c.V b5 with
  | none => rfl
  | some o => rw [hP.le _ _ hv] at hb5; cases hb5
 have h5 : M17 b5 = some (.cells (tcs i p none 0 0).toArray 89 (0, 0)) := by rw [hM17]; exact Mem.add_eq
 have h5o : ¬ PkOwn c M17 b5 := fun h => by
  have := (hP.off hc ((ho17 b5).1 h)).2
  rw [hb5] at this; cases this
 have hS : TS c b5 (fun b => c.V b = none ∧ (M b).isSome = true) i p [] t M17 := ⟨hP17, hV5, h5o, fun b hb => ⟨hb.1, by rw [Mem.le.eq hle17 hb.2]; exact hb.2⟩, none, 0, [], h5, ⟨rfl, Nat.le_refl _, by decide, .inl ⟨rfl, rfl, rfl⟩⟩, fun g hg => (by cases hg), TrL.nil _⟩
 have hown : ∀ b, TOwn c b5 M17 b → PkOwn c M b ∨ b = b5 := fun b hb => by
  rcases (t_own h5).1 hb with h | h | h
  ·exact .inl ((ho17 b).1 h)
  ·exact .inr h
  ·cases h
 have h17n : ∀ {b}, M17 b = none → M b = none := fun {b} hb => isNone fun hm => by
  rw [Mem.le.eq hle17 hm] at hb; rw [hb] at hm; cases hm
 refine hT.2 (hc.hw.peg (List.mem_of_getElem? hr)) hp hl (by omega) h0 b5 _ i p [] t M17 x2.Body _ _ hrr3.2.2 hS (by simpa using hlen) (fun b hb => (hown b hb).imp id fun h => by rw [h]; exact hb5) fun M19 t' hS19 hg19 => ⟨_, rfl, ?_⟩
 rw [List.nil_append] at hS19
 obtain ⟨oa, oc, xs, b1, b2, b3', b4⟩ := hS19.bk
 refine ⟨Has.blk b1 (by show 2 + 1 ≤ 4; omega), .inr hb5, fun M20 hM20 => ?_⟩
 have e20 : ∀ b, b ≠ b5 → M20 b = M19 b := fun b hb => by rw [hM20]; exact Mem.put_ne hb
 have h20 : M20 b5 = some (.cells (X_api_Tree.mk i p (c.E p.toNat i.toNat) oa l.length oc).cells.toArray 89 (0, 0)) := by
  rw [hM20, Mem.put_eq b1, hE]; rfl
 obtain ⟨hP20, ho20⟩ := hS19.pi.same pl (M' := M20) (fun b o hb => (e20 b fun e => by rw [e, hV5] at hb; cases hb).trans (hS19.pi.le b o hb)) fun b hb => e20 b fun e => hS19.op (e ▸ hb)
 refine ⟨⟨i, p, c.E p.toNat i.toNat, oa, l.length, oc⟩, At.blk h20, fun M' hle => ?_⟩
 obtain ⟨hP', ho'⟩ := hP20.more pl hle
 have hgo : ∀ b, TOwn c b5 M19 b → PkOwn c M b ∨ M b = none := fun b hb => by
  rcases hg19.own b hb with h | h
  ·rcases hown b h with h | h
   ·exact .inl h
   ·exact .inr (h ▸ hb5)
  ·exact .inr (h17n h)
 have hkeep : ∀ b o, M19 b = some o → b ≠ b5 → M' b = some o := fun b o hb hne => hle b o ((e20 b hne).trans hb)
 refine ⟨_, t', rfl, hP', ⟨fun b hb => hgo b (.inl ((ho20 b).1 ((ho' b).1 hb))), fun b hb => ?_⟩, .mk (c := oc) (xs := xs) ?_ b4.len fun j k y hj hy => (b4.kid j k y hj hy).le (veil_le fun b o hb hD => ⟨hkeep b o hb fun e => hD (.inl (.inr (.inl e))), fun h => ?_⟩)⟩
 ·have h1 := hg19.dom b (by rw [Mem.le.eq hle17 hb]; exact hb)
  have h2 : (M20 b).isSome = true := by rw [hM20, Mem.put_some]; exact h1
  rw [Mem.le.eq hle h2]; exact h2
 ·have hrow : RowW (veil M' fun b => PkOwn c M' b ∨ (c.V b = none ∧ (M b).isSome = true)) 89 4 oa l.length oc (cl X_api_Tree.cells xs) := b2.same fun g o hg ho => veil_iff.2 ⟨hkeep g o ho (b3' g hg).2.1, fun h => ?_⟩
  ·exact hrow.slv
  ·rcases h with h | h
   ·exact (b3' g hg).2.2.1 ((ho20 g).1 ((ho' g).1 h))
   ·exact (b3' g hg).2.2.2 h
 ·rcases h with h | h
  ·exact hD (.inl (.inl ((ho20 b).1 ((ho' b).1 h))))
  ·exact hD (.inr h)
end
theorem tab_as {M : Mem} {rs : List Ru} {s : List UInt8} {E E' : Nat → Nat → Int} {b : Nat} {ga ea : Option Addr} {gl gc ec eb : Nat} (h : TabR M rs s E' 0 b ga ea gl gc ec eb) (hE : ∀ p i : Nat, p ≤ s.length → i < rs.length → E p i = E' p i) : TabR M rs s E 0 b ga ea gl gc ec eb := by
 refine ⟨h.gm, h.tx, h.en, h.gr, h.ea, fun q h1 h2 => ?_⟩
 obtain ⟨ra, rc, h3, h4⟩ := h.row q h1 h2
 have : rowE E rs.length q = rowE E' rs.length q := by
  unfold rowE
  exact List.map_congr_left fun i hi => hE q i h2 (by simpa using hi)
 exact ⟨ra, rc, h3, by rw [this]; exact h4⟩
theorem tmade_is {c : PkC} {bb : Nat} (pl : Plain c) (hbb : At c.V bb 0 [.pointer c.ptr]) {j : TJ} {l : List Tre} (h : Made c.rs c.s c.E j l) : match j with | .ex e p => TW c bb e p l | .ls L k => TChain c bb L k l := by
 induction h with
 | @no e p h =>
  refine tw_is pl hbb (fun _ => rfl) (fun k4 _ _ _ h0 => ?_) (fun _ => rfl) fun _ k10 h0 => ?_
  ·rcases h with h | h
   ·omega
   ·exact absurd h0 (Int.not_le.2 h)
  ·rcases h with h | h
   ·omega
   ·exact absurd h0 (Int.not_le.2 h)
 | @ref e p r l h4 h0 hr h1 ih =>
  refine tw_is pl hbb (fun h => absurd h0 (Int.not_le.2 h)) (fun _ hok hp hl _ => ?_) (fun h => by omega) fun h => absurd h4 h
  have hf := hok.good.ref h4
  have hE : c.E p.toNat (findR e.text c.rs 0).toNat = c.res e p := by unfold PkC.res; rw [endE_eq, if_neg (by omega), if_neg (by omega), if_neg (by omega), if_pos h4]
  have hE2 := pl.ok.hT.fix p.toNat (findR e.text c.rs 0).toNat r (by omega) hr
  rw [show ((p.toNat : Nat) : Int) = p by omega, hE] at hE2
  exact ⟨l, rfl, trule_is pl hbb hf hr hp hl (made_max pl.ok.hw pl.ok.hT pl.ok.s60 (List.mem_of_getElem? hr) hp hl h1) (by unfold PkC.res; rw [← hE2]; exact h0) ih, hE⟩
 | @kids e p l h4 h10 h0 h1 ih => exact tw_is pl hbb (fun h => absurd h0 (Int.not_le.2 h)) (fun h => absurd h h4) (fun h => by omega) fun _ _ _ => ih
 | nil => rfl
 | cons he _ _ ih1 ih2 => exact ⟨_, _, _, he, ih1, rfl, ih2⟩
theorem tof_is {rs : List Ru} {s : List UInt8} {ga : Option Addr} {gl gc : Nat} {M : Mem} {K : Value → Mem → Prop} (hg : GrR M rs ga gl gc)
  (h1 : lookP rs s ≠ 0 → ∀ M', M.le M' → K (.tuple #[(X_api_Tree.mk 0 0 0 none 0 0).val, .int .i64 (lookP rs s)]) M')
  (h2 : lookP rs s = 0 → ∀ E, Tab rs s E → E 0 0 < 0 → ∀ M', M.le M' → K (.tuple #[(X_api_Tree.mk 0 0 0 none 0 0).val, .int .i64 11]) M')
  (h3 : lookP rs s = 0 → ∀ E, Tab rs s E → 0 ≤ E 0 0 → ∀ r l, rs[0]? = some r → l.length ≤ 10000 → Made rs s E (.ex r.body 0) l → ∀ M' x, M.le M' → TrR M' (.mk 0 0 (E 0 0) l) x → K (.tuple #[x.val, .int .i64 0]) M') : S_tree_Of ga gl gc s M (fun _ => False) K := by
 unfold S_tree_Of
 refine s_mean_Look _ _ _ _ _ _ (mlook_is hg s _ ⟨_, rfl, fun h => h1 h, fun h => ?_⟩)
 have h0 : lookP rs s = 0 := Decidable.not_not.1 h
 obtain ⟨hw, hs⟩ := look_ok h0
 have h10 := hw.ok.ten
 have h11 := hw.ok.one
 have h120 : (rs.map fun r => cnt r.body).sum ≤ 120 := hw.ok.all
 have hgl := hg.len
 subst hgl
 obtain ⟨E, hT⟩ := tab_ex (s := s) hw
 refine (s_pack_New _ _ _ _ _ _ _ (new_raw hg h10 (by omega) fun V M' pb r fa fc hle q1 q2 q3 q4 q5 q6 q7 => ⟨_, rfl, ?_⟩)).mono (fun _ h => h.elim) (fun v M' _ h => h)
 let c : PkC := ⟨V, rs, s, E, pb, r, ga, fa, rs.length, gc, fc, .nilFunc, fun _ => False, fun _ _ => True, 120⟩
 have pl : Plain c := ⟨⟨hw, hT, hs, hg.le hle, q4, q1, q2, q3, fun h => h, fun h => h, fun _ h => h.elim, fun _ _ _ _ _ => trivial, fun _ _ _ _ h => h.elim, ⟨true, .inl ⟨rfl, rfl⟩, fun _ _ _ _ _ _ _ => trivial, fun h => (by cases h)⟩, fun _ _ _ _ _ => trivial, h120, by show 120 ≤ 100000; omega⟩, rfl, fun _ h => h, fun _ _ => trivial⟩
 have hP : PI c [] M' := by
  refine ⟨-1, X_api_Set.mk 0 0 0 0, FW.init _ _ _, q7, ⟨none, 0, ?_, ⟨rfl, Nat.le_refl _, by decide, .inl ⟨rfl, rfl, rfl⟩⟩, fun g hg => by cases hg⟩, ⟨_, q6, fun i p v => ⟨fun h => (by cases h), fun h => (by cases h.1)⟩⟩, trivial, by simp [logOf], fun i p h => by cases h⟩
  exact q5
 refine (s_pack_Parser_Rule _ _ _ _ _ _ (prule_is (c := c) (i := 0) (p := 0) pl.ok (Int.le_refl 0) (by show (0 : Int) < (rs.length : Int); omega) (Int.le_refl 0) (by show (0 : Int) ≤ (s.length : Int); omega) hP fun M12 t' _ hP12 => ⟨_, rfl, fun hno M3 hle3 => ?_, fun hyes b10 M13 hb10 hM13 => ?_⟩)).mono (LV_new (c := c) hle) (fun v M' _ h => h)
 ·refine h2 h0 E hT ?_ M3 (hle.trans (hP12.le.trans hle3))
  have hno : ¬ (outE (E 0 0) 0).Ok = true := hno
  unfold outE at hno
  split at hno
  ·exact absurd rfl hno
  ·omega
 ·have h00 : 0 ≤ E 0 0 := by
   have hyes : (outE (E 0 0) 0).Ok = true := Decidable.not_not.1 hyes
   unfold outE at hyes
   split at hyes
   ·assumption
   ·cases hyes
  have hle13 : M12.le M13 := by rw [hM13]; exact Mem.add_le hb10
  obtain ⟨hP13, ho13⟩ := hP12.more pl hle13
  obtain ⟨v1, v2, v3⟩ := pk_veil pl hP13
  have h10o : ¬ PkOwn c M13 b10 := fun h => by
   have := (hP12.off pl.ok ((ho13 b10).1 h)).2
   rw [hb10] at this; cases this
  obtain ⟨rr, hrr⟩ := getN (l := rs) (i := 0) (by omega)
  have hok := hw.peg (List.mem_of_getElem? hrr)
  obtain ⟨l, hl⟩ := made_ex hw hT rr.body 0 hok (Int.le_refl 0) (by omega)
  have hmax := made_max hw hT hs (List.mem_of_getElem? hrr) (Int.le_refl 0) (by omega) hl
  have hbb : At (pkVeil c M13).V b10 0 [.pointer (pkVeil c M13).ptr] := At.blk (veil_iff.2 ⟨by rw [hM13]; exact Mem.add_eq, h10o⟩)
  have hE0 : 0 ≤ endE rs s E rr.body 0 := by
   have := hT.fix 0 0 rr (Nat.zero_le _) hrr
   rw [this] at h00; exact h00
  refine trule_is (c := pkVeil c M13) v2 hbb (i := 0) (p := 0) (Int.le_refl 0) hrr (Int.le_refl 0) (by show (0 : Int) ≤ (s.length : Int); omega) hmax hE0 (tmade_is (c := pkVeil c M13) v2 hbb hl) t' M13 _ _ v3 (fun b hb => .inr ?_) fun M15 t2 x hP15 hg15 hle15 hx => ⟨x, rfl, fun M16 hle16 => h3 h0 E hT h00 rr l hrr hmax hl M16 x ?_ (hx.le fun b o hb => hle16 b o (veil_iff.1 hb).1)⟩
  ·have := (v3.off v2.ok hb).1
   cases hv : M b with
   | none => rfl
   | some o => rw [v1 _ _ (hle _ _ hv)] at this; cases this
  ·exact (hle.trans v1).trans (hP15.le.trans hle16)
end Go.Proofs.Ytifkffmecfgpeaa.core

