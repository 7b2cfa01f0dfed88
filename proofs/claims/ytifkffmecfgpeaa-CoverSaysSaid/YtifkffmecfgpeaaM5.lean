/- Contracts and what they hang on, of several parts. No condition. -/
import Derived.Test.YtifkffmecfgpeaaM4
import Derived.Test.YtifkffmecfgpeaaM3
namespace Go.Proofs.Ytifkffmecfgpeaa.core
open Go.Gx Go.RowKit Go.ChangeShapes Go.WideShapes Go.ChangeAt
set_option linter.unusedVariables false
def ChainOk (c : PkC) (L : List Ex) (n : Int) : List Tr → List Evt → List Evt → Prop
 | [], t, t' => t = t'
 | k :: l, t, t' => ∃ e t1, L[k.Kid.toNat]? = some e ∧ (PegOk c.rs e → 0 ≤ k.At → k.At ≤ c.s.length → 0 ≤ n + preN L k.Kid.toNat → n + preN L k.Kid.toNat + cnt e ≤ c.tot → TryOk c e (n + preN L k.Kid.toNat) k.At t t1) ∧ ChainOk c L n l t1 t'
theorem PI.le {c : PkC} {t : List Evt} {M : Mem} (h : PI c t M) : c.V.le M := by obtain ⟨_, _, _, h⟩ := h; exact h.le
section
variable {c : PkC} {e : Ex} {n p : Int} {t t1 : List Evt}
theorem kid_room (hn1 : n + cnt e ≤ c.tot) {i : Nat} {k : Ex} (hk : e.kids[i]? = some k) : n + 1 + preN e.kids i + cnt k ≤ c.tot := by
 have := preN_kid hk
 have := cnt_eq e
 omega
theorem kid_cnt {i : Nat} {k : Ex} (hk : e.kids[i]? = some k) : cnt k ≤ cnt e := by
 have := preN_kid hk
 have := cnt_eq e
 omega
theorem seq_is (hc : c.Ok) (h5 : e.kind = 5) (hok : PegOk c.rs e) (hp : 0 ≤ p) (hl : p ≤ c.s.length) (hn0 : 0 ≤ n) (hn1 : n + cnt e ≤ c.tot) (hch : ChainOk c e.kids (n + 1) (kidK c.rs c.s c.E e p) t t1) {M : Mem} {x : X_api_Expr} {K : Value → Mem → Prop} (hR : ExR c.V e x) (hP : PI c t M)
  (hK : ∀ M' to, PI c t1 M' → (0 ≤ c.res e p → to = c.res e p) → K (.tuple #[.int .i64 to, .bool (decide (0 ≤ c.res e p))]) M') : S_pack_Parser_seq c.ptr x n p M c.LV K := by
 obtain ⟨xs, hx⟩ := hR.open
 have hsm := hc.small
 have hl8 := kids8 hok.good
 have hres : c.res e p = seqE c.rs c.s c.E e.kids p := by
  unfold PkC.res; rw [endE_eq, if_neg (by omega), if_neg (by omega), if_neg (by omega), if_neg (by omega), if_pos h5]
 unfold kidK at hch
 rw [if_pos h5] at hch
 unfold S_pack_Parser_seq
 refine ⟨inI_small (by omega) (by omega), List Evt, fun t' q k i M' => 0 ≤ i ∧ i ≤ e.kids.length ∧ 0 ≤ q ∧ q ≤ c.s.length ∧ k = n + 1 + preN e.kids i.toNat ∧ PI c t' M' ∧ ChainOk c e.kids (n + 1) (seqK (endE c.rs c.s c.E) (e.kids.drop i.toNat) i q) t' t1 ∧ seqE c.rs c.s c.E (e.kids.drop i.toNat) q = c.res e p, fun _ _ _ i => e.kids.length - i.toNat, t,
  ⟨by omega, by omega, hp, hl, by simp [preN], hP, by simpa using hch, by rw [hres]; rfl⟩, fun t' q k i M' ⟨i0, i1, q0, q1, hkn, hP', hch', hrs⟩ => ⟨fun hlt => ?_, fun hge => ?_⟩⟩
 ·rw [hx.len] at hlt
  obtain ⟨ke, hk⟩ := getI (l := e.kids) i0 hlt
  have hkm := List.mem_of_getElem? hk
  obtain ⟨b, o, y, ha, hat, hy, _⟩ := hx.kid hk
  rw [drop_get hk, seqK] at hch'
  rw [drop_get hk, seqE] at hrs
  obtain ⟨e', t2, he', hT', hrest⟩ := hch'
  simp only at he' hT'
  rw [hk] at he'; cases he'
  have hroom := kid_room hn1 hk
  have hcnt := kid_cnt hk
  have hkr : c.res ke q = -1 ∨ (q ≤ c.res ke q ∧ c.res ke q ≤ c.s.length) := hc.hT.res (hok.kid hkm) q0 q1
  have hT' := hT' (hok.kid hkm) q0 q1 (by omega) hroom
  rw [← hkn] at hT'
  refine ⟨b, o, ha, i0, by rw [hx.len]; exact hlt, y, hat.le hP'.le, (s_pack_Parser_try _ _ _ _ _ _ _ (hT' M' y _ hy hP' fun M2 to hP2 hto => ⟨to, _, rfl, fun hno => ?_, fun hyes => ?_⟩)).mono (fun g h => .inl h) (fun v M' _ h => h)⟩
  ·have h0 : c.res ke q < 0 := by simpa using hno
   rw [if_pos h0] at hrest hrs
   have hrest : t2 = t1 := hrest
   subst hrest
   intro M3 hle
   have := hK M3 0 (hP2.up hc hle) (fun h => by rw [← hrs] at h; exact absurd h0 (Int.not_lt.2 h))
   rw [decide_eq_false (by rw [← hrs]; exact Int.not_le.2 h0)] at this
   exact this
  ·have h0 : 0 ≤ c.res ke q := by simpa using hyes
   rw [if_neg (Int.not_lt.2 h0)] at hrest hrs
   have hto := hto h0
   subst hto
   refine (s_pack_count _ _ _ _ (count_is _ ke (Nat.lt_succ_self _) (by omega) _ _ _ (hy.le hP2.le) fun M3 hle3 => ⟨_, rfl, ?_, ?_, t2, ⟨by omega, by omega, h0, by omega, ?_, hP2.up hc hle3, ?_, ?_⟩, ?_⟩)).mono (fun _ h => h.elim) (fun v M' _ h => h)
   ·exact inI_small (by omega) (by omega)
   ·exact inI_small (by omega) (by omega)
   ·rw [show (i + 1).toNat = i.toNat + 1 by omega, preN_succ hk, hkn]; push_cast; omega
   ·rw [show (i + 1).toNat = i.toNat + 1 by omega]; exact hrest
   ·rw [show (i + 1).toNat = i.toNat + 1 by omega]; exact hrs
   ·show e.kids.length - (i + 1).toNat < e.kids.length - i.toNat
    omega
 ·rw [hx.len] at hge
  rw [List.drop_of_length_le (by omega), seqK] at hch'
  rw [List.drop_of_length_le (by omega), seqE] at hrs
  have hch' : t' = t1 := hch'
  subst hch'
  intro M2 hle
  have := hK M2 q (hP'.up hc hle) (fun _ => hrs)
  rw [decide_eq_true (by rw [← hrs]; exact q0)] at this
  exact this
theorem not_two {z p l : Int} (h : z = -1 ∨ (p ≤ z ∧ z ≤ l)) (hp : 0 ≤ p) : z ≠ -2 := by omega
theorem single_is (hc : c.Ok) (h7 : 7 ≤ e.kind) (hok : PegOk c.rs e) (hp : 0 ≤ p) (hl : p ≤ c.s.length) (hn0 : 0 ≤ n) (hn1 : n + cnt e ≤ c.tot) (hch : ChainOk c e.kids (n + 1) (kidK c.rs c.s c.E e p) t t1) {M : Mem} {x : X_api_Expr} {K : Value → Mem → Prop} (hR : ExR c.V e x) (hP : PI c t M)
  (hK : ∀ M' to, PI c t1 M' → (0 ≤ c.res e p → to = c.res e p) → K (.tuple #[.int .i64 to, .bool (decide (0 ≤ c.res e p))]) M') : S_pack_Parser_single c.ptr x n p M c.LV K := by
 obtain ⟨xs, hx⟩ := hR.open
 have hsm := hc.small
 obtain ⟨g1, g2, g3, g4, g5, g6, _⟩ := fitE_kinds hok.good.fit
 obtain ⟨k, hk1⟩ := List.length_eq_one_iff.1 (g5 h7)
 have hk : e.kids[(0 : Int).toNat]? = some k := by rw [hk1]; rfl
 have hkm : k ∈ e.kids := by rw [hk1]; simp
 obtain ⟨b, o, y, ha, hat, hy, _⟩ := hx.kid hk
 have hroom := kid_room hn1 hk
 have hp0 : preN e.kids (0 : Int).toNat = 0 := by simp [preN]
 have hkr : c.res k p = -1 ∨ (p ≤ c.res k p ∧ c.res k p ≤ c.s.length) := hc.hT.res (hok.kid hkm) hp hl
 have hhd : hdE c.rs c.s c.E e.kids = endE c.rs c.s c.E k := by rw [hk1]; funext q; rw [hdE]
 have hres : c.res e p = if e.kind = 7 ∨ e.kind = 8 then strE (endE c.rs c.s c.E k) (decide (e.kind = 8)) (c.s.length + 2) p true else oneE e.kind p (c.res k p) := by
  unfold PkC.res; rw [endE_eq, if_neg (by omega), if_neg (by omega), if_neg (by omega), if_neg (by omega), if_neg (by omega), if_neg (by omega), hhd]
 have hkk : kidK c.rs c.s c.E e p = ⟨0, p⟩ :: (if e.kind = 7 ∨ e.kind = 8 then staK (endE c.rs c.s c.E k) (c.s.length + 2) (c.res k p) else []) := by
  unfold kidK
  rw [if_neg (by omega), if_neg (by omega)]
  by_cases h78 : e.kind = 7 ∨ e.kind = 8
  ·rw [if_pos h78, if_pos h78, staK, if_neg (by omega), hhd]
  ·rw [if_neg h78, if_neg h78, if_pos (by omega)]
 rw [hkk] at hch
 obtain ⟨e', t2, he', hT', hrest⟩ := hch
 simp only at he' hT'
 rw [hk] at he'; cases he'
 have hT' := hT' (hok.kid hkm) hp hl (by omega) hroom
 have hone : ∀ q, (((n + 1 : Int) + (preN e.kids (0 : Int).toNat : Nat))) = n + 1 + q → q = 0 := fun q h => by rw [hp0] at h; omega
 rw [hp0, show (n + 1 : Int) + ((0 : Nat) : Int) = n + 1 by omega] at hT'
 unfold S_pack_Parser_single
 rw [hx.kind]
 have hkl : 0 < ((x.Kids_l : Nat) : Int) := by rw [hx.len, hk1]; simp
 refine ⟨b, o, ha, by omega, hkl, y, hat.le hP.le, inI_small (by omega) (by omega), (s_pack_Parser_try _ _ _ _ _ _ _ (hT' M y _ hy hP fun M2 to hP2 hto => ⟨to, _, rfl, fun k10 => ?_, fun n10 => ⟨fun k11 => ?_, fun n11 => ⟨fun hno => ?_, fun hyes => ?_⟩⟩⟩)).mono (fun g h => .inl h) (fun v M' _ h => h)⟩
 ·rw [if_neg (by omega)] at hrest hres
  have hrest : t2 = t1 := hrest
  subst hrest
  intro M3 hle
  unfold oneE at hres
  rw [if_neg (by omega), if_neg (by omega)] at hres
  have := hK M3 p (hP2.up hc hle) (fun h => by split at hres <;> omega)
  rw [show decide (0 ≤ c.res e p) = decide (0 ≤ c.res k p) by rw [decide_eq_decide]; split at hres <;> omega] at this
  exact this
 ·rw [if_neg (by omega)] at hrest hres
  have hrest : t2 = t1 := hrest
  subst hrest
  intro M3 hle
  unfold oneE at hres
  rw [if_neg (by omega), if_neg (by omega)] at hres
  have := hK M3 p (hP2.up hc hle) (fun h => by split at hres <;> omega)
  rw [show decide (0 ≤ c.res e p) = !decide (0 ≤ c.res k p) by rw [Bool.eq_iff_iff, Bool.not_eq_true', decide_eq_true_iff, decide_eq_false_iff_not]; split at hres <;> omega] at this
  exact this
 ·have h0 : c.res k p < 0 := by simpa using hno
  intro M3 hle
  have hend : t2 = t1 := by
   by_cases h78 : e.kind = 7 ∨ e.kind = 8
   ·rw [if_pos h78, staK, if_pos h0] at hrest; exact hrest
   ·rw [if_neg h78] at hrest; exact hrest
  subst hend
  have hval : c.res e p = if e.kind = 8 then c.res k p else p := by
   rw [hres]
   by_cases h78 : e.kind = 7 ∨ e.kind = 8
   ·rw [if_pos h78, strE]
    by_cases h8 : e.kind = 8
    ·rw [if_pos (.inr ⟨h0, rfl, by simpa using h8⟩), if_pos h8]
    ·rw [if_neg (fun h => h.elim (not_two hkr hp) fun h => h8 (by simpa using h.2.2)), if_pos h0, if_neg h8]
   ·rw [if_neg h78, if_neg (by omega)]
    unfold oneE
    rw [if_neg (by omega), if_neg (by omega), if_neg (by omega)]
  have := hK M3 p (hP2.up hc hle) (fun h => by split at hval <;> omega)
  rw [show decide (0 ≤ c.res e p) = (e.kind != (8 : Int)) by rw [Bool.eq_iff_iff, decide_eq_true_iff, bne_iff_ne]; split at hval <;> omega] at this
  exact this
 ·have h0 : 0 ≤ c.res k p := by simpa using hyes
  have hto := hto h0
  subst hto
  refine ⟨List Evt × Nat, fun g q M' => 0 ≤ q ∧ q ≤ c.s.length ∧ PI c g.1 M' ∧ (e.kind = 7 ∨ e.kind = 8 → ChainOk c e.kids (n + 1) (staK (endE c.rs c.s c.E k) (g.2 + 1) q) g.1 t1 ∧ strE (endE c.rs c.s c.E k) (decide (e.kind = 8)) g.2 q false = c.res e p ∧ c.s.length + 1 ≤ q + g.2) ∧ (¬ (e.kind = 7 ∨ e.kind = 8) → g.1 = t1 ∧ q = c.res e p), fun _ q => (c.s.length + 1 - q).toNat, (t2, c.s.length + 1),
   ⟨h0, by omega, hP2, fun h78 => ⟨by rw [if_pos h78] at hrest; exact hrest, ?_, ?_⟩, fun h78 => ⟨by rw [if_neg h78] at hrest; exact hrest, ?_⟩⟩, fun g q M' ⟨q0, q1, hP', hl78, hl9⟩ => ⟨fun n9 => ?_, fun k9 => ?_⟩⟩
  ·rw [if_pos h78, strE, if_neg (fun h => h.elim (not_two hkr hp) fun h => Int.not_lt.2 h0 h.1), if_neg (Int.not_lt.2 h0)] at hres
   exact hres.symm
  ·have : (e.kind = 7 ∨ e.kind = 8) := h78
   have hem := hok.star hk1 h78
   have hne : c.res k p ≠ p := fun h => by
    have := hc.hT.empty (hok.kid hkm) hp hl h
    rw [this] at hem; cases hem
   push_cast; omega
  ·rw [if_neg h78] at hres
   unfold oneE at hres
   rw [if_neg (by omega)] at hres
   by_cases h9 : e.kind = 9
   ·rw [if_pos ⟨h9, h0⟩] at hres; exact hres.symm
   ·omega
  ·have h78 : e.kind = 7 ∨ e.kind = 8 := by omega
   obtain ⟨hch2, hst, hm⟩ := hl78 h78
   obtain ⟨t3, m⟩ := g
   simp only at hch2 hst hm hP'
   have hem := hok.star hk1 h78
   have hne : c.res k q ≠ q := fun h => by
    have := hc.hT.empty (hok.kid hkm) q0 q1 h
    rw [this] at hem; cases hem
   have hqr : c.res k q = -1 ∨ (q ≤ c.res k q ∧ c.res k q ≤ c.s.length) := hc.hT.res (hok.kid hkm) q0 q1
   rw [staK, if_neg (by omega)] at hch2
   obtain ⟨e', t4, he', hT2, hrest2⟩ := hch2
   simp only at he' hT2
   rw [hk] at he'; cases he'
   have hT2 := hT2 (hok.kid hkm) q0 q1 (by omega) hroom
   rw [hp0, show (n + 1 : Int) + ((0 : Nat) : Int) = n + 1 by omega] at hT2
   cases m with
   | zero => omega
   | succ m =>
    rw [strE] at hst
    refine ⟨b, o, ha, by omega, hkl, y, hat.le hP'.le, inI_small (by omega) (by omega), (s_pack_Parser_try _ _ _ _ _ _ _ (hT2 M' y _ hy hP' fun M3 to hP3 hto => ⟨to, _, rfl, fun hno => ?_, fun hyes => ?_⟩)).mono (fun g h => .inl h) (fun v M' _ h => h)⟩
    ·have hq0 : c.res k q < 0 := by simpa using hno
     rw [staK, if_pos hq0] at hrest2
     have hrest2 : t4 = t1 := hrest2
     subst hrest2
     rw [if_neg (fun h => h.elim (not_two hqr q0) fun h => by cases h.2.1), if_pos hq0] at hst
     unfold S_pack_Parser_single_J1
     intro M4 hle
     have := hK M4 q (hP3.up hc hle) (fun _ => hst)
     rw [decide_eq_true (by rw [← hst]; exact q0)] at this
     exact this
    ·have hq0 : 0 ≤ c.res k q := by simpa using hyes
     have hto := hto hq0
     subst hto
     rw [if_neg (fun h => h.elim (not_two hqr q0) fun h => Int.not_lt.2 hq0 h.1), if_neg (Int.not_lt.2 hq0)] at hst
     exact ⟨(t4, m), ⟨hq0, by omega, hP3, fun _ => ⟨hrest2, hst, by push_cast at hm; omega⟩, fun h => absurd h78 h⟩, by show ((c.s.length : Int) + 1 - c.res k q).toNat < ((c.s.length : Int) + 1 - q).toNat; omega⟩
  ·have h9 : e.kind = 9 := by simpa using k9
   obtain ⟨h1, h2⟩ := hl9 (by omega)
   unfold S_pack_Parser_single_J1
   intro M3 hle
   rw [h1] at hP'
   have := hK M3 q (hP'.up hc hle) (fun _ => h2)
   rw [decide_eq_true (by rw [← h2]; exact q0)] at this
   exact this
end
end Go.Proofs.Ytifkffmecfgpeaa.core

namespace Go.Proofs.Ytifkffmecfgpeaa.core
open Go.Gx Go.RowKit Go.ChangeShapes Go.WideShapes Go.ChangeAt
set_option linter.unusedVariables false
theorem cpl_le : ∀ a b : List UInt8, cpl a b ≤ a.length ∧ cpl a b ≤ b.length
 | [], _ => by simp [cpl]
 | _ :: _, [] => by simp [cpl]
 | x :: a, y :: b => by
  have := cpl_le a b
  rw [cpl]
  split <;> simp <;> omega
theorem cpl_same : ∀ (a b : List UInt8) (k : Nat), k < cpl a b → a[k]? = b[k]?
 | [], _, k, h => by simp [cpl] at h
 | _ :: _, [], k, h => by simp [cpl] at h
 | x :: a, y :: b, k, h => by
  rw [cpl] at h
  split at h
  ·rename_i hxy
   cases k with
   | zero => simp [hxy]
   | succ k => simpa using cpl_same a b k (by omega)
  ·omega
theorem cpl_end : ∀ (a b : List UInt8) (x : UInt8), a[cpl a b]? = some x → b[cpl a b]? ≠ some x
 | [], _, x, h => by simp at h
 | _ :: _, [], x, h => by simp
 | u :: a, v :: b, x, h => by
  rw [cpl] at h ⊢
  split at h
  ·rename_i huv
   rw [if_pos huv]
   simp only [List.getElem?_cons_succ] at h ⊢
   exact cpl_end a b x h
  ·rename_i huv
   rw [if_neg huv]
   simp only [List.getElem?_cons_zero, Option.some.injEq] at h ⊢
   subst h; exact fun h' => huv (Option.some.inj h').symm
theorem cpl_all : ∀ (a b : List UInt8), cpl a b = b.length → b.length ≤ a.length ∧ a.take b.length = b
 | _, [], _ => by simp
 | [], _ :: _, h => by simp [cpl] at h
 | u :: a, v :: b, h => by
  rw [cpl] at h
  split at h
  ·rename_i huv
   have := cpl_all a b (by simpa using h)
   subst huv
   simp only [List.length_cons, List.take_succ_cons]
   exact ⟨by omega, by rw [this.2]⟩
  ·simp at h
theorem Missed.as {far far' p : Int} {want want' : X_api_Set} {f g : Nat → Bool} (h : Missed far want p f far' want') (hfg : ∀ b, b < 256 → f b = g b) : Missed far want p g far' want' :=
 ⟨h.1, h.2.1, fun b hb => by rw [h.2.2 b hb, hfg b hb]⟩
section
variable {c : PkC} {e : Ex} {n p : Int} {t t1 : List Evt}
def RuleOk (c : PkC) (i p : Int) (t t' : List Evt) : Prop := ∀ (M : Mem) (K : Value → Mem → Prop), PI c t M → (∀ M', PI c t' M' → K (outE (c.E p.toNat i.toNat) p).val M') → S_pack_Parser_Rule c.ptr i p M c.LV K
theorem node_is (hc : c.Ok) (hok : PegOk c.rs e) (hp : 0 ≤ p) (hl : p ≤ c.s.length) (hn0 : 0 ≤ n) (hn1 : n + cnt e ≤ c.tot) (h4 : e.kind = 4 → RuleOk c (findR e.text c.rs 0) p t t1) (hch : e.kind ≠ 4 → ChainOk c e.kids (n + 1) (kidK c.rs c.s c.E e p) t t1) : NodeOk c e n p t t1 := by
 intro M x K hR hP hK
 obtain ⟨xs, hx⟩ := hR.open
 have hsm := hc.small
 have hs60 := hc.s60
 have hl8 := kids8 hok.good
 obtain ⟨g1, g2, g3, g4, g5, g6, _⟩ := fitE_kinds hok.good.fit
 have fin : ∀ (M' : Mem) (to : Int) (b : Bool), PI c t1 M' → missOf c.rs c.s c.E (.node n p e) = none → b = decide (0 ≤ c.res e p) → (0 ≤ c.res e p → to = c.res e p) → K (.tuple #[.int .i64 to, .bool b]) M' := fun M' to b ⟨far, want, hF, hB⟩ hm hb hto => by
  rw [hb]; exact hK M' to far want hB (hF.skip hm) hto
 have mnone : e.kind ≠ 2 → e.kind ≠ 3 → missOf c.rs c.s c.E (.node n p e) = none := fun h2 h3 => by
  rw [missOf, if_neg h2, if_neg h3]; split <;> rfl
 have mpos : 0 ≤ c.res e p → missOf c.rs c.s c.E (.node n p e) = none := fun h => by
  rw [missOf, if_neg (Int.not_lt.2 h)]
 have leaf : e.kind ≤ 3 → t = t1 := fun h => by
  have := hch (by omega)
  unfold kidK at this
  rw [if_neg (by omega), if_neg (by omega), if_neg (show ¬ (e.kind = 7 ∨ e.kind = 8) by omega), if_neg (by omega)] at this
  exact this
 have atS : ∀ {t M}, PI c t M → At M c.pb (0 + 1) [.string (mkS c.s)] := fun ⟨far, want, _, h⟩ => by
  obtain ⟨la, lc, h1⟩ := h.at
  exact h1.part 1 [.string (mkS c.s)] rfl
 have atG : ∀ {t M}, PI c t M → At M c.pb 0 [.slice c.ga c.gl c.gc] := fun ⟨far, want, _, h⟩ => by
  obtain ⟨la, lc, h1⟩ := h.at
  exact h1.part 0 [.slice c.ga c.gl c.gc] rfl
 unfold S_pack_Parser_node
 rw [hx.kind]
 refine ⟨fun k1 M2 hle => ?_, fun n1 => ?_⟩
 ·have ht := leaf (by omega)
  subst ht
  have hr : c.res e p = p := by unfold PkC.res; rw [endE_eq, if_pos k1]
  exact fin M2 p true (hP.up hc hle) (mpos (by rw [hr]; exact hp)) (by rw [hr]; exact (decide_eq_true hp).symm) fun _ => hr.symm
 refine ⟨fun k2 => ?_, fun n2 => ?_⟩
 ·have ht := leaf (by omega)
  subst ht
  have hr : c.res e p = setE e.set c.s p := by unfold PkC.res; rw [endE_eq, if_neg n1, if_pos k2]
  have j1 : ∀ v : Bool, v = decide (0 ≤ c.res e p) → (v = true → c.res e p = p + 1) → S_pack_Parser_node_J1 c.ptr x p M c.LV v K := by
   intro v hv hv1
   unfold S_pack_Parser_node_J1
   refine ⟨fun ht => ⟨inI_small (by omega) (by omega), fun M2 hle => fin M2 _ true (hP.up hc hle) (mpos (by rw [hv1 ht]; omega)) (by rw [← hv, ht]) fun _ => (hv1 ht).symm⟩, fun hf => ?_⟩
   have hneg : ¬ 0 ≤ c.res e p := fun h => hf (by rw [hv, decide_eq_true h])
   obtain ⟨far, want, hF, hB⟩ := hP
   rw [hx.set]
   refine (s_pack_Parser_miss _ _ _ _ _ _ (miss_is hc hB hF.wf hx.hs fun M2 far' want' hB2 hm => ⟨rfl, fun M3 hle => ?_⟩)).mono (fun g h => .inl h) (fun v M' _ h => h)
   have := hK M3 0 far' want' (hB2.up hc hle) (hF.miss hp (x := .node n p e) (by rw [missOf, if_pos (Int.not_le.1 hneg), if_pos k2]) hm) fun h => absurd h hneg
   rw [decide_eq_false hneg] at this
   exact this
  refine ⟨c.pb, 0, rfl, c.s, atS hP, fun hlt => ?_, fun hge => ?_⟩
  ·obtain ⟨d, hd⟩ := getI (l := c.s) hp hlt
   unfold setE at hr
   rw [hd] at hr
   simp only at hr
   rw [hx.set]
   refine ⟨c.pb, 0, rfl, c.s, atS hP, d, hp, hd, s_set_Has _ _ _ _ (has_is hx.hs d _ ⟨_, rfl, j1 _ ?_ fun hb => ?_⟩)⟩
   ·rw [Bool.eq_iff_iff, decide_eq_true_iff]
    split at hr <;> rename_i hb <;> simp only [hb, hr] <;> simp <;> omega
   ·rw [if_pos hb] at hr; exact hr
  ·unfold setE at hr
   rw [List.getElem?_eq_none (by omega)] at hr
   simp only at hr
   exact j1 _ (by rw [hr]; rfl) fun h => by cases h
 refine ⟨fun k3 => ?_, fun n3 => ?_⟩
 ·have ht := leaf (by omega)
  subst ht
  have h12 := g6 k3
  have hr : c.res e p = litE e.text c.s p := by unfold PkC.res; rw [endE_eq, if_neg n1, if_neg n2, if_pos k3]
  rw [hx.text]
  refine ⟨c.pb, 0, rfl, c.s, atS hP, hp, hl, by omega, s_strings_HasPrefix _ _ _ _ (prefix_is _ _ _ ⟨_, rfl, fun hyes => ⟨inI_small (by omega) (by omega), fun M2 hle => ?_⟩, fun hno => ?_⟩)⟩
  ·have hh := of_decide_eq_true hyes
   rw [Int.toNat_natCast, List.take_length, List.length_drop] at hh
   have hr2 : c.res e p = p + ((e.text.length : Nat) : Int) := by
    rw [hr]; unfold litE
    rw [if_pos ⟨by omega, by rw [List.drop_take, show (p + ((e.text.length : Nat) : Int)).toNat - p.toNat = e.text.length by omega]; exact hh.2⟩]
   exact fin M2 _ true (hP.up hc hle) (mpos (by rw [hr2]; omega)) (by rw [hr2]; exact (decide_eq_true (by omega)).symm) fun _ => hr2.symm
  ·have hh : ¬ (e.text.length ≤ (c.s.drop p.toNat).length ∧ (c.s.drop p.toNat).take e.text.length = e.text) := by
    intro h
    apply hno
    rw [Int.toNat_natCast, List.take_length, decide_eq_true h]
   have hneg : c.res e p = -1 := by
    rw [hr]; unfold litE
    rw [if_neg]
    rintro ⟨h1, h2⟩
    rw [List.drop_take, show (p + ((e.text.length : Nat) : Int)).toNat - p.toNat = e.text.length by omega] at h2
    exact hh ⟨by rw [List.length_drop]; omega, h2⟩
   obtain ⟨cl1, cl2⟩ := cpl_le (c.s.drop p.toNat) e.text
   have hlt : cpl (c.s.drop p.toNat) e.text < e.text.length := by
    rcases Nat.lt_or_ge (cpl (c.s.drop p.toNat) e.text) e.text.length with h | h
    ·exact h
    ·exact absurd (cpl_all _ _ (by omega)) hh
   have hme : missOf c.rs c.s c.E (.node n p e) = some (p + (cpl (c.s.drop p.toNat) e.text : Nat), fun b => decide ((e.text[cpl (c.s.drop p.toNat) e.text]?).map UInt8.toNat = some b)) := by
    rw [missOf, if_pos (show c.res e p < 0 by rw [hneg]; omega), if_neg n2, if_pos k3]
   have hsame := cpl_same (c.s.drop p.toNat) e.text
   have hend := cpl_end (c.s.drop p.toNat) e.text
   rw [List.length_drop] at cl1
   generalize hC : cpl (c.s.drop p.toNat) e.text = C at hlt hme hsame hend cl1 cl2
   have j2 : ∀ (k : Int) (v : Bool), 0 ≤ k → k ≤ C → (v = true → k + 1 ≤ C) → (v = false → k = C) → S_pack_Parser_node_J2 c.ptr x p M c.LV k (fun k => 0 ≤ k ∧ k ≤ C) (fun k => C - k.toNat) v K := by
    intro k v k0 k1 hv1 hv2
    unfold S_pack_Parser_node_J2
    refine ⟨fun ht => ⟨inI_small (by omega) (by omega), ⟨by omega, by have := hv1 ht; omega⟩, by have := hv1 ht; show C - (k + 1).toNat < C - k.toNat; omega⟩, fun hf => ?_⟩
    have hkC := hv2 (by simpa using hf)
    subst hkC
    obtain ⟨d, hd⟩ := getN (l := e.text) hlt
    have hd' : e.text[((C : Nat) : Int).toNat]? = some d := by rw [Int.toNat_natCast]; exact hd
    obtain ⟨far, want, hF, hB⟩ := hP
    rw [hx.text]
    refine ⟨inI_small (by omega) (by omega), d, k0, hd', d, k0, hd', ?_⟩
    rw [u8wF]
    refine s_set_Range _ _ _ _ (range_is _ _ _ ⟨_, rfl, (s_pack_Parser_miss _ _ _ _ _ _ (miss_is hc hB hF.wf (Us_wf _) fun M2 far' want' hB2 hm => ⟨rfl, fun M3 hle => ?_⟩)).mono (fun g h => .inl h) (fun v M' _ h => h)⟩)
    have := hK M3 0 far' want' (hB2.up hc hle) (hF.miss (by omega) hme (hm.as fun b hb => ?_)) fun h => by rw [hneg] at h; omega
    ·rw [decide_eq_false (by rw [hneg]; omega)] at this
     exact this
    ·rw [bit_Us hb, hd]
     unfold inR
     rw [Option.map_some, decide_eq_decide]
     simp only [Option.some.injEq]
     omega
   refine ⟨fun k => 0 ≤ k ∧ k ≤ C, fun k => C - k.toNat, ⟨by omega, by omega⟩, fun k ⟨k0, k1⟩ => ⟨inI_small (by omega) (by omega), c.pb, 0, rfl, c.s, atS hP, fun hlt2 => ?_, fun hge2 => ?_⟩⟩
   ·obtain ⟨a1, ha1⟩ := getI (l := c.s) (i := p + k) (by omega) hlt2
    obtain ⟨a2, ha2⟩ := getI (l := e.text) (i := k) k0 (by omega)
    have hdr : (c.s.drop p.toNat)[k.toNat]? = some a1 := by rw [List.getElem?_drop, ← ha1]; congr 1; omega
    refine ⟨c.pb, 0, rfl, c.s, atS hP, inI_small (by omega) (by omega), a1, by omega, ha1, a2, k0, ha2, j2 k _ k0 k1 (fun hv => ?_) fun hv => ?_⟩
    ·have hEq : a1 = a2 := by
      have := beq_iff_eq.1 hv
      exact UInt8.toNat_inj.1 (by omega)
     by_cases h : k < C
     ·omega
     ·exfalso
      have hkC : k.toNat = C := by omega
      rw [hkC] at hdr ha2
      exact hend a1 hdr (by rw [ha2, hEq])
    ·by_cases h : k < C
     ·exfalso
      have := hsame k.toNat (by omega)
      rw [hdr, ha2] at this
      have : a1 = a2 := Option.some.inj this
      rw [this] at hv
      simp at hv
     ·omega
   ·exact j2 k false k0 k1 (fun h => by cases h) fun _ => by omega
 refine ⟨fun k4 => ?_, fun n4 => ?_⟩
 ·have hf0 := hok.good.ref k4
  obtain ⟨hf1, hf2⟩ := findR_lt hf0
  have hr : c.res e p = c.E p.toNat (findR e.text c.rs 0).toNat := by unfold PkC.res; rw [endE_eq, if_neg n1, if_neg n2, if_neg n3, if_pos k4]
  have hrr : c.res e p = -1 ∨ (p ≤ c.res e p ∧ c.res e p ≤ c.s.length) := hc.hT.res hok hp hl
  rw [hx.text]
  refine ⟨c.pb, 0, rfl, _, _, _, atG hP, s_gram_Find _ _ _ _ _ _ (find_is (hc.gr.le hP.le) e.text _ ⟨_, rfl, (s_pack_Parser_Rule _ _ _ _ _ _ (h4 k4 M _ hP fun M2 hP2 => ⟨_, rfl, ?_⟩)).mono (fun g h => .inl h) (fun v M' _ h => h)⟩)⟩
  unfold S_pack_Parser_node_J3
  rw [← hr]
  unfold outE
  by_cases h0 : 0 ≤ c.res e p
  ·rw [if_pos h0]
   show InI (p + (c.res e p - p)) ∧ ∀ M', M2.le M' → K (.tuple #[.int .i64 (p + (c.res e p - p)), .bool true]) M'
   exact ⟨inI_small (by omega) (by omega), fun M3 hle => fin M3 _ true (hP2.up hc hle) (mpos h0) (decide_eq_true h0).symm fun _ => by omega⟩
  ·rw [if_neg h0]
   show InI (p + 0) ∧ ∀ M', M2.le M' → K (.tuple #[.int .i64 (p + 0), .bool false]) M'
   exact ⟨inI_small (by omega) (by omega), fun M3 hle => fin M3 _ false (hP2.up hc hle) (mnone n2 n3) (decide_eq_false h0).symm fun h => absurd h h0⟩
 refine ⟨fun k5 => ?_, fun n5 => ?_⟩
 ·refine (s_pack_Parser_seq _ _ _ _ _ _ _ (seq_is hc k5 hok hp hl hn0 hn1 (hch n4) hR hP fun M2 to hP2 hto => ⟨to, _, rfl, fun M3 hle => fin M3 to _ (hP2.up hc hle) (mnone n2 n3) rfl hto⟩)).mono (fun g h => .inl h) (fun v M' _ h => h)
 refine ⟨fun k6 => ?_, fun n6 => ?_⟩
 ·have hres : c.res e p = altE c.rs c.s c.E e.kids p := by
   unfold PkC.res; rw [endE_eq, if_neg n1, if_neg n2, if_neg n3, if_neg n4, if_neg n5, if_pos k6]
  have hch := hch n4
  unfold kidK at hch
  rw [if_neg n5, if_pos k6] at hch
  refine ⟨inI_small (by omega) (by omega), List Evt, fun t' k i M' => 0 ≤ i ∧ i ≤ e.kids.length ∧ k = n + 1 + preN e.kids i.toNat ∧ PI c t' M' ∧ ChainOk c e.kids (n + 1) (altK (endE c.rs c.s c.E) (e.kids.drop i.toNat) i p) t' t1 ∧ altE c.rs c.s c.E (e.kids.drop i.toNat) p = c.res e p, fun _ _ i => e.kids.length - i.toNat, t,
   ⟨by omega, by omega, by simp [preN], hP, by simpa using hch, by rw [hres]; rfl⟩, fun t' k i M' ⟨i0, i1, hkn, hP', hch', hrs⟩ => ⟨fun hlt => ?_, fun hge => ?_⟩⟩
  ·rw [hx.len] at hlt
   obtain ⟨ke, hk⟩ := getI (l := e.kids) i0 hlt
   have hkm := List.mem_of_getElem? hk
   obtain ⟨b, o, y, ha, hat, hy, _⟩ := hx.kid hk
   rw [drop_get hk, altK] at hch'
   rw [drop_get hk, altE] at hrs
   obtain ⟨e', t2, he', hT', hrest⟩ := hch'
   simp only at he' hT'
   rw [hk] at he'; cases he'
   have hroom := kid_room hn1 hk
   have hcnt := kid_cnt hk
   have hkr : c.res ke p = -1 ∨ (p ≤ c.res ke p ∧ c.res ke p ≤ c.s.length) := hc.hT.res (hok.kid hkm) hp hl
   have hT' := hT' (hok.kid hkm) hp hl (by omega) hroom
   rw [← hkn] at hT'
   refine ⟨b, o, ha, i0, by rw [hx.len]; exact hlt, y, hat.le hP'.le, (s_pack_Parser_try _ _ _ _ _ _ _ (hT' M' y _ hy hP' fun M2 to hP2 hto => ⟨to, _, rfl, fun hyes => ?_, fun hno => ?_⟩)).mono (fun g h => .inl h) (fun v M' _ h => h)⟩
   ·have h0 : 0 ≤ c.res ke p := by simpa using hyes
    rw [if_neg (Int.not_lt.2 h0)] at hrest
    have hne : c.res ke p ≠ -1 := by omega
    rw [if_pos hne] at hrs
    have hrest : t2 = t1 := hrest
    subst hrest
    have hto := hto h0
    subst hto
    have hrs : c.res ke p = c.res e p := hrs
    intro M3 hle
    rw [hrs]
    exact fin M3 _ true (hP2.up hc hle) (mnone n2 n3) (by rw [← hrs]; exact (decide_eq_true h0).symm) fun _ => rfl
   ·have h0 : c.res ke p < 0 := by simpa using hno
    rw [if_pos h0] at hrest
    have hne : ¬ c.res ke p ≠ -1 := by omega
    rw [if_neg hne] at hrs
    refine (s_pack_count _ _ _ _ (count_is _ ke (Nat.lt_succ_self _) (by omega) _ _ _ (hy.le hP2.le) fun M3 hle3 => ⟨_, rfl, ?_, ?_, t2, ⟨by omega, by omega, ?_, hP2.up hc hle3, ?_, ?_⟩, ?_⟩)).mono (fun _ h => h.elim) (fun v M' _ h => h)
    ·exact inI_small (by omega) (by omega)
    ·exact inI_small (by omega) (by omega)
    ·rw [show (i + 1).toNat = i.toNat + 1 by omega, preN_succ hk, hkn]; push_cast; omega
    ·rw [show (i + 1).toNat = i.toNat + 1 by omega]; exact hrest
    ·rw [show (i + 1).toNat = i.toNat + 1 by omega]; exact hrs
    ·show e.kids.length - (i + 1).toNat < e.kids.length - i.toNat
     omega
  ·rw [hx.len] at hge
   rw [List.drop_of_length_le (by omega), altK] at hch'
   rw [List.drop_of_length_le (by omega), altE] at hrs
   have hch' : t' = t1 := hch'
   subst hch'
   intro M2 hle
   exact fin M2 0 false (hP'.up hc hle) (mnone n2 n3) (by rw [← hrs]; rfl) fun h => by rw [← hrs] at h; omega
 ·refine (s_pack_Parser_single _ _ _ _ _ _ _ (single_is hc (by omega) hok hp hl hn0 hn1 (hch n4) hR hP fun M2 to hP2 hto => ⟨to, _, rfl, fun M3 hle => fin M3 to _ (hP2.up hc hle) (mnone n2 n3) rfl hto⟩)).mono (fun g h => .inl h) (fun v M' _ h => h)
end
end Go.Proofs.Ytifkffmecfgpeaa.core

namespace Go.Proofs.Ytifkffmecfgpeaa.core
open Go.Gx Go.RowKit Go.ChangeShapes Go.WideShapes Go.ChangeAt
set_option linter.unusedVariables false
def JobOk (rs : List Ru) (s : List UInt8) (E : Nat → Nat → Int) : Job → Prop
 | .node e _ p => PegOk rs e ∧ 0 ≤ p ∧ p ≤ s.length
 | .rule i p => 0 ≤ i ∧ i < rs.length ∧ 0 ≤ p ∧ p ≤ s.length
 | .kids L _ l => ∃ (e : Ex) (p : Int), L = e.kids ∧ PegOk rs e ∧ 0 ≤ p ∧ p ≤ s.length ∧ ∀ k ∈ l, k ∈ kidK rs s E e p
def LowE (rs : List Ru) (st : Nat → Nat) (e : Ex) (p i q : Int) : Prop := p < q ∨ (q = p ∧ ∃ j ∈ needsE rs (knOf rs) e, st i.toNat ≤ st j)
def LowJ (rs : List Ru) (st : Nat → Nat) : Job → Int → Int → Prop
 | .node e _ p, i, q => LowE rs st e p i q
 | .rule k p, i, q => p < q ∨ (q = p ∧ st i.toNat ≤ st k.toNat)
 | .kids L _ l, i, q => ∃ k ∈ l, ∃ e, L[k.Kid.toNat]? = some e ∧ LowE rs st e k.At i q
theorem goes_low {rs : List Ru} {s : List UInt8} {E : Nat → Nat → Int} (hw : WellOk rs) (hT : Tab rs s E) {st : Nat → Nat} (hst : ∀ (i : Nat) r, rs[i]? = some r → ∀ j ∈ needsE rs (knOf rs) r.body, st j < st i) {j : Job} {t t1 : List Evt} (h : Goes rs s E j t t1) :
  JobOk rs s E j → ∀ i q, Evt.done i q ∈ t1 → Evt.done i q ∈ t ∨ LowJ rs st j i q := by
 induction h with
 | @ref e n p t t' h4 _ ih =>
  intro ⟨hok, hp, hl⟩ i q hd
  have hf := hok.good.ref h4
  obtain ⟨f1, f2⟩ := findR_lt hf
  rcases ih ⟨hf, f2, hp, hl⟩ i q (by simpa using hd) with h | h | ⟨h1, h2⟩
  ·exact .inl h
  ·exact .inr (.inl h)
  ·exact .inr (.inr ⟨h1, _, by rw [needsE_eq, if_pos h4]; simp, h2⟩)
 | @inner e n p t t' h4 _ ih =>
  intro ⟨hok, hp, hl⟩ i q hd
  rcases ih ⟨e, p, rfl, hok, hp, hl, fun k hk => hk⟩ i q (by simpa using hd) with h | ⟨k, hk, x, hx, h⟩
  ·exact .inl h
  ·obtain ⟨_, _, x', hx', htr, hpk, hnd⟩ := kid_all hT hok hp hl k hk
   rw [hx] at hx'; cases hx'
   rcases h with h | ⟨h1, j0, h2, h3⟩
   ·exact .inr (.inl (by omega))
   ·by_cases he : k.At = p
    ·exact .inr (.inr ⟨by omega, j0, hnd he j0 h2, h3⟩)
    ·exact .inr (.inl (by omega))
 | seen _ => exact fun _ i q hd => .inl hd
 | @rule k p r t t' hn hr _ ih =>
  intro ⟨hk, hk2, hp, hl⟩ i q hd
  rcases List.mem_append.1 hd with hd | hd
  ·rcases ih ⟨hw.peg (List.mem_of_getElem? hr), hp, hl⟩ i q hd with h | h | ⟨h1, j0, h2, h3⟩
   ·exact .inl h
   ·exact .inr (.inl h)
   ·exact .inr (.inr ⟨h1, Nat.le_of_lt (Nat.lt_of_le_of_lt h3 (hst _ r hr j0 h2))⟩)
  ·simp only [List.mem_singleton, Evt.done.injEq] at hd
   obtain ⟨rfl, rfl⟩ := hd
   exact .inr (.inr ⟨rfl, Nat.le_refl _⟩)
 | nil => exact fun _ i q hd => .inl hd
 | @cons L n k l x t ta tb he _ _ ih1 ih2 =>
  intro ⟨e, p, hL, hok, hp, hl, hks⟩ i q hd
  obtain ⟨_, hk1, x', hx', htr⟩ := kid_all hT hok hp hl k (hks k (by simp))
  rw [← hL, he] at hx'; cases hx'
  rcases ih2 ⟨e, p, hL, hok, hp, hl, fun y hy => hks y (by simp [hy])⟩ i q hd with h | ⟨y, hy, r, hr, h⟩
  ·rcases ih1 ⟨hok.kid htr.1, by have := htr.2.1; omega, hk1⟩ i q h with h | h
   ·exact .inl h
   ·exact .inr ⟨k, by simp, x, he, h⟩
  ·exact .inr ⟨y, by simp [hy], r, hr, h⟩
theorem goes_own {rs : List Ru} {s : List UInt8} {E : Nat → Nat → Int} (hw : WellOk rs) (hT : Tab rs s E) {i p n : Int} {r : Ru} (hr : rs[i.toNat]? = some r) (hp : 0 ≤ p) (hl : p ≤ s.length) {t t1 : List Evt} (h : Goes rs s E (.node r.body n p) t t1) (hn : Evt.done i p ∉ t) : Evt.done i p ∉ t1 := by
 obtain ⟨st, _, hst⟩ := hw.stage
 intro hd
 rcases goes_low hw hT hst h ⟨hw.peg (List.mem_of_getElem? hr), hp, hl⟩ i p hd with h | h | ⟨_, j, h1, h2⟩
 ·exact hn h
 ·omega
 ·have := hst _ r hr j h1; omega
end Go.Proofs.Ytifkffmecfgpeaa.core

namespace Go.Proofs.Ytifkffmecfgpeaa.core
open Go.Gx Go.RowKit Go.ChangeShapes Go.WideShapes Go.ChangeAt
set_option linter.unusedVariables false
section
variable {c : PkC} {t t1 : List Evt} {i p : Int}
theorem rule_is (hc : c.Ok) (hi : 0 ≤ i) {rr : Ru} (hr : c.rs[i.toNat]? = some rr) (hp : 0 ≤ p) (hl : p ≤ c.s.length) (hn : Evt.done i p ∉ t) (hn1 : Evt.done i p ∉ t1) (hT : TryOk c rr.body (fstN c.rs i.toNat) p t t1) : RuleOk c i p t (t1 ++ [.done i p]) := by
 intro M K hP hK
 have hlt := (List.getElem?_eq_some_iff.1 hr).1
 have hgl := hc.gr.len
 have h10 := hc.hw.ok.ten
 have hs60 := hc.s60
 have hok := hc.hw.peg (List.mem_of_getElem? hr)
 have hE : c.E p.toNat i.toNat = c.res rr.body p := by
  have := hc.hT.fix p.toNat i.toNat rr (by omega) hr
  rw [show ((p.toNat : Nat) : Int) = p by omega] at this
  exact this
 have hrr : c.res rr.body p = -1 ∨ (p ≤ c.res rr.body p ∧ c.res rr.body p ≤ c.s.length) := hc.hT.res hok hp hl
 obtain ⟨b2, o2, ha2, hat2⟩ := hc.fst i.toNat hlt
 obtain ⟨r2, x2, b3, o3, hr2, ha3, hat3, hrr3⟩ := hc.gr.at hi (by omega)
 rw [hr] at hr2; cases hr2
 have atK : ∀ {t far want M}, PB c t far want M → ∃ la lc, M c.pb = some (.cells (c.cells la (logOf c.E t).length lc far want).toArray 136 (0, 0)) ∧ At M c.pb (0 + 2) [.map (some c.r)] ∧ At M c.pb 0 [.slice c.ga c.gl c.gc] ∧ At M c.pb (0 + 10) [.slice c.fa c.rs.length c.fc] ∧ At M c.pb (0 + 3) [.slice la (logOf c.E t).length lc] ∧ RowW M 62 4 la (logOf c.E t).length lc (cl X_api_Step.cells (logOf c.E t)) ∧ ∀ g, la = some ⟨g, 0, none⟩ → c.V g = none ∧ ¬ c.JB g ∧ g ≠ c.pb ∧ g ≠ c.r := fun h => by
  obtain ⟨la, lc, h1, h2, h3⟩ := h.bk
  have h0 := At.blk h1
  exact ⟨la, lc, h1, h0.part 2 [.map (some c.r)] rfl, h0.part 0 [.slice c.ga c.gl c.gc] rfl, h0.part 10 [.slice c.fa c.rs.length c.fc] rfl, h0.part 3 [.slice la _ lc] rfl, h2, h3⟩
 obtain ⟨far, want, hF, hB⟩ := id hP
 obtain ⟨la, lc, hblk, a1, a2, a3, a4, hrow, hla⟩ := atK hB
 obtain ⟨f, hf, hfd⟩ := hB.mp
 have hnone : f i p = none := by
  cases hv : f i p with
  | none => rfl
  | some v => exact absurd ((hfd i p v).1 hv).1 hn
 unfold S_pack_Parser_Rule
 rw [show c.gl = c.rs.length from hgl] at *
 refine ⟨c.pb, 0, rfl, _, a1, c.r, f, rfl, hf, inI_small (by omega) (by omega), inI_small (by omega) (by omega), ⟨false, 0⟩, by rw [hnone]; rfl, fun h => (by rw [hnone] at h; cases h), fun _ => ?_⟩
 refine ⟨c.pb, 0, rfl, _, _, _, a2, b3, o3, ha3, hi, by omega, x2.Body, (hat3.part 1 x2.Body.cells rfl).le hB.le, c.pb, 0, rfl, _, _, _, a3, b2, o2, ha2, hi, by omega, _, hat2.le hB.le, ?_⟩
 refine (s_pack_Parser_try _ _ _ _ _ _ _ (hT M x2.Body _ hrr3.2.2 hP fun M2 to hP2 hto => ⟨to, _, rfl, ?_⟩)).mono (fun g h => .inl h) (fun v M' _ h => h)
 have j1 : ∀ (ok : Bool) (N : Int), X_api_Outcome.mk ok N = outE (c.E p.toNat i.toNat) p → S_pack_Parser_Rule_J1 c.ptr i p M c.LV ok M2 N K := by
  intro ok N hout
  obtain ⟨far, want, hF, hB⟩ := hP2
  obtain ⟨la, lc, hblk, a1, a2, a3, a4, hrow, hla⟩ := atK hB
  obtain ⟨f, hf, hfd⟩ := hB.mp
  unfold S_pack_Parser_Rule_J1
  rw [hout]
  refine ⟨c.pb, 0, rfl, _, a1, c.r, f, rfl, hf, inI_small (by omega) (by omega), inI_small (by omega) (by omega), .inl hc.rV, fun M39 hS => ?_⟩
  have hne39 : ∀ b, b ≠ c.r → M39 b = M2 b := fun b hb => hS.ne hb
  have hblk39 : M39 c.pb = _ := (hne39 _ hc.pr).trans hblk
  have hrow39 := hrow.same (M' := M39) fun g o hg ho => by rw [hne39 g (hla g hg).2.2.2]; exact ho
  have hbound := hB.room hc
  refine ⟨c.pb, 0, rfl, la, (logOf c.E t1).length, lc, (At.blk hblk39).part 3 [.slice la _ lc] rfl, fun u hu => St_one ⟨i, p, outE (c.E p.toNat i.toNat) p⟩ u hu, _, hrow39, fun g hg => .inl (hla g hg).1, by omega, fun M49 ad50 cap51 hA => ?_⟩
  have h49pb : M49 c.pb = _ := hA.keep _ _ hblk39 fun g hg e => (hla g hg).2.2.1 e.symm
  refine ⟨c.pb, 0, rfl, Has.blk h49pb (by show 0 + 3 + 1 ≤ 11; omega), .inl hc.pbV, fun M54 hM54 M3 hle => ?_⟩
  refine hK M3 ⟨far, want, hF.skip rfl, PB.up hc ?_ hle⟩
  have hne54 : ∀ b, b ≠ c.pb → M54 b = M49 b := fun b hb => by rw [hM54]; exact Mem.put_ne hb
  have hold : ∀ b o, M2 b = some o → b ≠ c.r → b ≠ c.pb → (∀ g, la = some ⟨g, 0, none⟩ → b ≠ g) → M54 b = some o := fun b o ho h1 h2 h3 => by
   rw [hne54 b h2]; exact hA.keep b o (by rw [hne39 b h1]; exact ho) h3
  have hcells : cl X_api_Step.cells (logOf c.E t1) ++ (X_api_Step.mk i p (outE (c.E p.toNat i.toNat) p)).cells = cl X_api_Step.cells (logOf c.E (t1 ++ [.done i p])) := by rw [logOf_done]; exact cl_snoc _ _
  have hlen : (logOf c.E (t1 ++ [.done i p])).length = (logOf c.E t1).length + 1 := by rw [logOf_done, List.length_append]; rfl
  have hblkg : ∀ g, ad50 = some ⟨g, 0, none⟩ → c.V g = none ∧ ¬ c.JB g ∧ g ≠ c.pb ∧ g ≠ c.r := fun g hg => by
   rcases hA.blk g hg with h | h
   ·exact hla g h
   ·refine ⟨?_, fun hj => ?_, fun e => ?_, fun e => ?_⟩
    ·cases hv : c.V g with
     | none => rfl
     | some o =>
      have := hB.le g o hv
      rw [← hne39 g (fun e => by rw [e, hc.rV] at hv; cases hv), h] at this; cases this
    ·have := hc.has _ _ hB.j g hj
     rw [← hne39 g (fun e => hc.jr (e ▸ hj)), h] at this; cases this
    ·rw [e, hblk39] at h; cases h
    ·obtain ⟨o, hM39, hsome, _⟩ := hS
     rw [e, hM39, Mem.add_eq] at h; cases h
  refine ⟨fun b o ho => ?_, ⟨ad50, cap51, ?_, ?_, hblkg⟩, ?_, hc.done _ _ _ _ (hc.frame _ _ _ hB.j fun b hb => ?_), ?_, fun a b hab => ?_⟩
  ·exact hold b o (hB.le b o ho) (fun e => by rw [e, hc.rV] at ho; cases ho) (fun e => by rw [e, hc.pbV] at ho; cases ho) fun g hg e => by rw [e, (hla g hg).1] at ho; cases ho
  ·rw [hM54, Mem.put_eq h49pb, hlen]; rfl
  ·rw [hlen, ← hcells]
   exact hA.row.same fun g o hg ho => by rw [hne54 g (hblkg g hg).2.2.1]; exact ho
  ·obtain ⟨o, hM39, hsome, hset⟩ := hS
   have hm39 : M39 c.r = some o := by rw [hM39]; exact Mem.add_eq
   have hr54 : M54 c.r = M39 c.r := by
    rw [hne54 _ hc.pr.symm, hm39]
    exact hA.keep _ _ hm39 fun g hg e => (hla g hg).2.2.2 e.symm
   obtain ⟨es, clk, h4, h5⟩ := hset f (fun a b => if a = i ∧ b = p then some (outE (c.E p.toNat i.toNat) p).val else f a b) hf (by simp) (fun a b hab => by rw [if_neg hab])
   refine ⟨_, ⟨es, clk, hr54.trans h4, h5⟩, fun a b v => ?_⟩
   by_cases hab : a = i ∧ b = p
   ·rw [if_pos hab]
    obtain ⟨rfl, rfl⟩ := hab
    exact ⟨fun h => ⟨by simp, (Option.some.inj h).symm⟩, fun h => by rw [h.2]⟩
   ·rw [if_neg hab, hfd a b v]
    refine and_congr_left fun _ => ⟨fun h => by simp [h], fun h => ?_⟩
    rcases List.mem_append.1 h with h | h
    ·exact h
    ·simp only [List.mem_singleton, Evt.done.injEq] at h; exact absurd h hab
  ·have := hc.has _ _ hB.j b hb
   obtain ⟨o, ho⟩ := Option.isSome_iff_exists.1 this
   rw [ho]
   exact hold b o ho (fun e => hc.jr (e ▸ hb)) (fun e => hc.jpb (e ▸ hb)) fun g hg e => (hla g hg).2.1 (e ▸ hb)
  ·rw [logOf_done, List.map_append, List.nodup_append]
   refine ⟨hB.ks.1, by simp, fun a ha b hb => ?_⟩
   obtain ⟨y, hy, rfl⟩ := List.mem_map.1 ha
   obtain ⟨hy1, _⟩ := logOf_mem.1 hy
   have hk := hB.ks.2 _ _ hy1
   simp only [List.map_cons, List.map_nil, List.mem_singleton] at hb
   subst hb
   unfold keyS
   intro e
   have e1 : y.Rule = i := by simp only at e; omega
   have e2 : y.At = p := by simp only at e; omega
   rw [e1, e2] at hy1
   exact hn1 hy1
  ·rcases List.mem_append.1 hab with h | h
   ·exact hB.ks.2 a b h
   ·simp only [List.mem_singleton, Evt.done.injEq] at h
    obtain ⟨rfl, rfl⟩ := h
    exact ⟨hi, by omega, hp, hl⟩
 refine ⟨fun hyes => ⟨?_, j1 _ _ ?_⟩, fun hno => j1 _ _ ?_⟩
 ·have h0 : 0 ≤ c.res rr.body p := by simpa using hyes
  rw [hto h0]
  exact inI_small (by omega) (by omega)
 ·have h0 : 0 ≤ c.res rr.body p := by simpa using hyes
  rw [hto h0, hE, decide_eq_true h0]
  unfold outE
  rw [if_pos h0]
 ·have h0 : ¬ 0 ≤ c.res rr.body p := fun h => hno (decide_eq_true h)
  rw [hE, decide_eq_false h0]
  unfold outE
  rw [if_neg h0]
end
theorem rule_seen {c : PkC} {t : List Evt} {i p : Int} (hc : c.Ok) (hd : Evt.done i p ∈ t) : RuleOk c i p t t := by
 intro M K hP hK
 obtain ⟨far, want, hF, hB⟩ := id hP
 obtain ⟨la, lc, h1⟩ := hB.at
 obtain ⟨f, hf, hfd⟩ := hB.mp
 obtain ⟨k1, k2, k3, k4⟩ := hB.ks.2 i p hd
 have h10 := hc.hw.ok.ten
 have hs60 := hc.s60
 have hv := (hfd i p _).2 ⟨hd, rfl⟩
 unfold S_pack_Parser_Rule
 refine ⟨c.pb, 0, rfl, _, h1.part 2 [.map (some c.r)] rfl, c.r, f, rfl, hf, inI_small (by omega) (by omega), inI_small (by omega) (by omega), outE (c.E p.toNat i.toNat) p, by rw [hv]; rfl, fun _ M2 hle => hK M2 (hP.up hc hle), fun hn => absurd (by rw [hv]; rfl) hn⟩
def WalkOk (c : PkC) : Job → List Evt → List Evt → Prop
 | .node e n p, t, t' => PegOk c.rs e → 0 ≤ p → p ≤ c.s.length → 0 ≤ n → n + cnt e ≤ c.tot → TryOk c e n p t t'
 | .rule i p, t, t' => 0 ≤ i → i < c.rs.length → 0 ≤ p → p ≤ c.s.length → RuleOk c i p t t'
 | .kids L n l, t, t' => ChainOk c L n l t t'
theorem pack_walk {c : PkC} (hc : c.Ok) {j : Job} {t t' : List Evt} (h : Goes c.rs c.s c.E j t t') : WalkOk c j t t' := by
 induction h with
 | @ref e n p t t' h4 _ ih =>
  intro hok hp hl hn0 hn1
  have hf := hok.good.ref h4
  obtain ⟨f1, f2⟩ := findR_lt hf
  exact try_is hc hn0 (by have := cnt_pos e; omega) (node_is hc hok hp hl hn0 hn1 (fun _ => ih hf f2 hp hl) fun n4 => absurd h4 n4)
 | @inner e n p t t' h4 _ ih =>
  intro hok hp hl hn0 hn1
  exact try_is hc hn0 (by have := cnt_pos e; omega) (node_is hc hok hp hl hn0 hn1 (fun k4 => absurd k4 h4) fun _ => ih)
 | seen h => exact fun _ _ _ _ => rule_seen hc h
 | @rule i p r t t' hn hr hg ih =>
  intro hi hi2 hp hl
  have hsum := fstN_rule hr
  have htot := hc.tot
  exact rule_is hc hi hr hp hl hn (goes_own hc.hw hc.hT hr hp hl hg hn) (ih (hc.hw.peg (List.mem_of_getElem? hr)) hp hl (by omega) (by omega))
 | nil => rfl
 | cons he _ _ ih1 ih2 => exact ⟨_, _, he, ih1, ih2⟩
theorem prule_is {c : PkC} (hc : c.Ok) {i p : Int} (hi : 0 ≤ i) (hi2 : i < c.rs.length) (hp : 0 ≤ p) (hl : p ≤ c.s.length) {t : List Evt} {M : Mem} {K : Value → Mem → Prop} (hP : PI c t M) (hK : ∀ M' t', Goes c.rs c.s c.E (.rule i p) t t' → PI c t' M' → K (outE (c.E p.toNat i.toNat) p).val M') : S_pack_Parser_Rule c.ptr i p M c.LV K := by
 by_cases hd : Evt.done i p ∈ t
 ·exact pack_walk hc (.seen hd) hi hi2 hp hl M K hP fun M' => hK M' t (.seen hd)
 ·obtain ⟨r, hr⟩ := getN (l := c.rs) (i := i.toNat) (by omega)
  obtain ⟨t', ht⟩ := goes_ex hc.hw hc.hT r.body p (hc.hw.peg (List.mem_of_getElem? hr)) hp hl (fstN c.rs i.toNat) t
  exact pack_walk hc (.rule hd hr ht) hi hi2 hp hl M K hP fun M' => hK M' _ (.rule hd hr ht)
end Go.Proofs.Ytifkffmecfgpeaa.core

namespace Go.Proofs.Ytifkffmecfgpeaa.core
open Go.Gx Go.RowKit Go.ChangeShapes Go.WideShapes Go.ChangeAt
set_option linter.unusedVariables false
theorem At.off {M : Mem} {b o r : Nat} {vs : List Value} (h : At M b o vs) (hr : ∀ j, M.cell r j = none) : At (but M r) b o vs := fun j v hj => by
 have h1 := h j v hj
 by_cases hb : b = r
 ·subst hb; rw [hr] at h1; cases h1
 ·unfold Mem.cell at h1 ⊢
  rw [but_ne hb]; exact h1
theorem SlV.off {M : Mem} {a : Option Addr} {l c size r : Nat} {xs : List Value} (h : SlV M a l c size xs) (hr : ∀ j, M.cell r j = none) : SlV (but M r) a l c size xs :=
 ⟨h.1, h.2.1, h.2.2.1, fun h0 => by obtain ⟨b, o, e, ha⟩ := h.2.2.2 h0; exact ⟨b, o, e, At.off ha hr⟩⟩
section
variable {rs : List Ru} {s : List UInt8} {E : Nat → Nat → Int} {b r : Nat} {ga ea : Option Addr} {gl gc ec eb : Nat}
end
end Go.Proofs.Ytifkffmecfgpeaa.core

namespace Go.Proofs.Ytifkffmecfgpeaa.core
open Go.Gx Go.RowKit Go.ChangeShapes Go.WideShapes Go.ChangeAt
set_option linter.unusedVariables false
theorem new_raw {rs : List Ru} {s : List UInt8} {ga : Option Addr} {gl gc : Nat} {M : Mem} {K : Value → Mem → Prop} (hg : GrR M rs ga gl gc) (h10 : rs.length ≤ 10) (h120 : (rs.map fun r => cnt r.body).sum ≤ 100000)
  (hK : ∀ (V M' : Mem) (pb r : Nat) (fa : Option Addr) (fc : Nat), M.le V → V pb = none → V r = none → pb ≠ r → (∀ i, i < rs.length → ∃ b o, fa = some ⟨b, o, none⟩ ∧ At V b (o + i * 1) [Value.int .i64 (fstN rs i : Nat)]) →
   M' pb = some (.cells (X_pack_Parser.mk ga rs.length gc s (some r) none 0 0 (-1) (X_api_Set.mk 0 0 0 0) Value.nilFunc fa rs.length fc).cells.toArray 136 (0, 0)) → MapF M' r (fun _ _ => none) → V.le M' → K (.pointer (some ⟨pb, 0, none⟩)) M') :
  S_pack_New ga gl gc s M (fun _ => False) K := by
 have hgl := hg.len
 subst hgl
 unfold S_pack_New
 intro M6 r hr hM6 _
 have hle6 : M.le M6 := by rw [hM6]; exact Mem.add_le hr
 refine ⟨Unit, fun _ n i rn rx M' => 0 ≤ i ∧ i ≤ rs.length ∧ n = (fstN rs i.toNat : Nat) ∧ rn = i.toNat ∧ rx = cl iC ((List.range i.toNat).map fun j => ((fstN rs j : Nat) : Int)) ∧ M6.le M', fun _ _ i _ _ => rs.length - i.toNat, (), ⟨by omega, by omega, by simp [fstN], rfl, rfl, Mem.le.refl _⟩, fun _ n i rn rx M' ⟨i0, i1, hn, hrn, hrx, hle⟩ => ⟨fun hlt => ?_, fun hge => ?_⟩⟩
 ·obtain ⟨rr, x, b, o, hrr, ha, hat, hrx2⟩ := hg.at i0 hlt
  have hsum := fstN_rule hrr
  refine ⟨b, o, ha, i0, hlt, x, hat.le (hle6.trans hle), by omega, (s_pack_count _ _ _ _ (count_is _ rr.body (Nat.lt_succ_self _) (by omega) _ _ _ (hrx2.2.2.le (hle6.trans hle)) fun M2 hle2 => ⟨_, rfl, ?_, ?_, (), ⟨by omega, by omega, ?_, by omega, ?_, hle.trans hle2⟩, ?_⟩)).mono (fun _ h => h.elim) (fun v M' _ h => h)⟩
  ·exact inI_small (by omega) (by omega)
  ·exact inI_small (by omega) (by omega)
  ·rw [show (i + 1).toNat = i.toNat + 1 by omega, fstN_succ hrr, hn]; push_cast; rfl
  ·rw [hrx, hn, show (i + 1).toNat = i.toNat + 1 by omega, List.range_succ, List.map_append]
   exact cl_snoc _ _
  ·show rs.length - (i + 1).toNat < rs.length - i.toNat
   omega
 ·intro M64 hn64 M67 ad cap hn67 pb M68 hpb hM68 M3 hle3
  have hi : i.toNat = rs.length := by omega
  rw [hrn, hi] at hn67
  rw [hrx, hi] at hn67
  have hle67 : M6.le M67 := hle.trans (hn64.le.trans hn67.le)
  have hr67 : M67 r = some (.map #[] 0) := hle67 _ _ (by rw [hM6]; exact Mem.add_eq)
  have hcell : ∀ j, M67.cell r j = none := fun j => by unfold Mem.cell; rw [hr67]
  have hsl := SlV.off hn67.slv hcell
  have hne : pb ≠ r := by rintro rfl; rw [hpb] at hr67; cases hr67
  have hleV : (but M67 r).le M68 := (but_le _ _).trans (by rw [hM68]; exact Mem.add_le hpb)
  refine hK (but M67 r) M3 pb r ad cap (le_but (hle6.trans hle67) hr) ?_ (but_eq _ _) hne (fun j hj => ?_) ?_ ?_ (hleV.trans hle3)
  ·rw [but_ne hne]; exact hpb
  ·exact hsl.at iC_len (by simp) (x := ((fstN rs j : Nat) : Int)) (by rw [List.getElem?_map, List.getElem?_range hj]; rfl)
  ·refine hle3 _ _ ?_
   rw [hM68, Mem.add_eq, hrn, hi]; rfl
  ·refine MapF.le ?_ hle3
   obtain ⟨es, clk, h1, h2⟩ := MapF.new M r
   rw [Mem.add_eq] at h1
   cases h1
   refine ⟨#[], 0, ?_, h2⟩
   rw [hM68, Mem.add_ne hne.symm]; exact hr67
end Go.Proofs.Ytifkffmecfgpeaa.core

namespace Go.Proofs.Ytifkffmecfgpeaa.core
open Go.Gx Go.RowKit Go.ChangeShapes Go.WideShapes Go.ChangeAt
set_option linter.unusedVariables false
theorem tab_same {rs : List Ru} {s : List UInt8} {E E' : Nat → Nat → Int} (hw : WellOk rs) (hT : Tab rs s E) (hT' : Tab rs s E') {p i : Nat} (hp : p ≤ s.length) (hi : i < rs.length) : E p i = E' p i := by
 obtain ⟨r, hr⟩ := getN (l := rs) hi
 have hok := hw.peg (List.mem_of_getElem? hr)
 obtain ⟨m, x, hx⟩ := ev_ex hw hT r.body p hok (by omega) (by omega)
 rw [hT.fix p i r hp hr, hT'.fix p i r hp hr, ← ev_res hw hT m _ _ _ hok (by omega) (by omega) hx, ← ev_res hw hT' m _ _ _ hok (by omega) (by omega) hx]
theorem LV_new {c : PkC} {M : Mem} {L : Nat → Prop} (h : M.le c.V) : ∀ b, c.LV b → Wr L M b := fun b hb => .inr (by
 cases hv : M b with
 | none => rfl
 | some o => have := h b o hv; rw [show c.V b = none from hb] at this; cases this)
section
variable {rs : List Ru} {s : List UInt8} {ga : Option Addr} {gl gc : Nat} {M : Mem} {K : Value → Mem → Prop}
end
end Go.Proofs.Ytifkffmecfgpeaa.core

namespace Go.Proofs.Ytifkffmecfgpeaa.core
open Go.Gx Go.RowKit Go.ChangeShapes Go.WideShapes Go.ChangeAt
set_option linter.unusedVariables false
mutual
theorem lkE_less : ∀ (e : Ex) (d n d' n' : Int), (lkE d n e).1 = 0 → d' ≤ d → n' ≤ n → (lkE d' n' e).1 = 0
 | .mk k s t ks, d, n, d', n', h, hd, hn => by
  unfold lkE at h ⊢
  split at h
  ·cases h
  split at h
  ·cases h
  split at h
  ·cases h
  rename_i h1 h2 h3
  rw [if_neg (by omega), if_neg (by omega), if_neg h3]
  exact lkEs_less ks _ _ _ _ h (by omega) (by omega)
theorem lkEs_less : ∀ (ks : List Ex) (d n d' n' : Int), (lkEs d n ks).1 = 0 → d' ≤ d → n' ≤ n → (lkEs d' n' ks).1 = 0
 | [], d, n, d', n', h, hd, hn => by unfold lkEs; rfl
 | k :: ks, d, n, d', n', h, hd, hn => by
  unfold lkEs at h ⊢
  split at h
  ·rename_i h1; exact absurd h h1
  ·rename_i h1
   have h0 : (lkE d n k).1 = 0 := Decidable.not_not.1 h1
   have h2 := lkE_less k d n d' n' h0 hd hn
   rw [if_neg (by rw [h2]; simp)]
   have e1 := (lkE_flat k d n h0).1
   have e2 := (lkE_flat k d' n' h2).1
   exact lkEs_less ks _ _ _ _ h hd (by omega)
end
theorem lkEs_kid : ∀ (ks : List Ex) (d n : Int), (lkEs d n ks).1 = 0 → 0 ≤ n → 1 ≤ d → ∀ k ∈ ks, exErr k = 0
 | [], _, _, _, _, _, k, hk => by cases hk
 | k :: ks, d, n, h, hn, hd, x, hx => by
  unfold lkEs at h
  split at h
  ·rename_i h1; exact absurd h h1
  ·rename_i h1
   have h0 : (lkE d n k).1 = 0 := Decidable.not_not.1 h1
   rcases List.mem_cons.1 hx with rfl | hx
   ·exact lkE_less x d n 1 0 h0 hd hn
   ·have e1 := (lkE_flat k d n h0).1
    exact lkEs_kid ks _ _ h (by omega) hd x hx
theorem exErr_kid {e k : Ex} (h : exErr e = 0) (hk : k ∈ e.kids) : exErr k = 0 := by
 cases e with
 | mk a s t ks =>
  unfold exErr lkE at h
  split at h
  ·cases h
  split at h
  ·cases h
  split at h
  ·cases h
  exact lkEs_kid ks _ _ h (by omega) (by omega) k hk
theorem rcount_is {e : Ex} {x : X_api_Expr} {M : Mem} {K : Value → Mem → Prop} (hR : ExR M e x) (h0 : exErr e = 0) (hK : ∀ M' A c, M.le M' → K (.slice A (cnt e) c) M') : S_chaffref_Nodes x M K := by
 obtain ⟨_, _, htake, hflat⟩ := flat_max h0
 refine nodes_is e x M K hR fun M' A c xs hle hsl hall => ?_
 rw [htake] at hall
 have : xs.length = cnt e := by rw [hall.length, cnt, ← hflat, List.length_map]
 rw [this]; exact hK M' A c hle
noncomputable def hide (M : Mem) (D : Nat → Prop) : Mem := fun b => @ite _ (D b) (Classical.propDecidable _) none (M b)
theorem hide_some {M : Mem} {D : Nat → Prop} {b : Nat} {o : Obj} (h : hide M D b = some o) : M b = some o ∧ ¬ D b := by
 unfold hide at h
 split at h
 ·cases h
 ·rename_i hd; exact ⟨h, hd⟩
theorem le_hide {V M : Mem} {D : Nat → Prop} (h : V.le M) (hd : ∀ b, D b → V b = none) : V.le (hide M D) := fun b o hb => by
 unfold hide
 rw [if_neg (fun k => by rw [hd b k] at hb; cases hb)]
 exact h b o hb
theorem CallE.narrow {P : Program} {f : FuncId} {args : Array Value} {M : Mem} {K K1 : Value → Mem → Prop} (D : Nat → Prop) (hD : ∀ b, D b → (M b).isSome = true) (h : CallE P f args (hide M D) K1) (hK : ∀ v N M', K1 v N → N.le M' → M.le M' → (∀ b, D b → N b = none) → K v M') : CallE P f args M K := by
 intro w hw
 have hw1 : On (hide M D) w := fun b o hb => hw b o (hide_some hb).1
 refine (h w hw1).mono fun _ w' ⟨v, h1, h2, h3⟩ => ⟨v, h1, h2, hK v _ _ h3 (fun b o hb => ?_) (grow_le hw) fun b hb => ?_⟩
 ·unfold grow at hb ⊢
  split
  ·rename_i hs; rw [if_pos hs] at hb; exact hb
  ·rename_i hs; rw [if_neg hs] at hb; exact (hide_some hb).1
 ·obtain ⟨o, ho⟩ := Option.isSome_iff_exists.1 (hD b hb)
  unfold grow
  rw [if_neg (by have := hw.lt ho; omega)]
  unfold hide
  rw [if_pos hb]
theorem a2_index {A : Option Addr} {n c : Nat} {S : List X_A2_i64} {M : Mem} (h : SlV M A n c 2 (cl X_A2_i64.cells S)) (v : X_A2_i64) (K : Value → Prop) (hK : ∀ i : Int, (0 ≤ i ↔ v ∈ S) → K (.int .i64 i)) : S_slices_Index_2_int A n c v M K := by
 have hl : S.length = n := h.len (fun x => rfl) (by omega)
 have hm := h.max
 unfold S_slices_Index_2_int
 refine ⟨fun i => 0 ≤ i ∧ i ≤ n ∧ ∀ (j : Nat) x, (j : Int) < i → S[j]? = some x → x ≠ v, fun i => n - i.toNat, ⟨by omega, by omega, fun j x h => by omega⟩, fun i ⟨i0, i1, hno⟩ => ⟨fun hlt => ?_, fun hge => ?_⟩⟩
 ·obtain ⟨x, hx⟩ := getI (l := S) i0 (by omega)
  obtain ⟨b, o, ha, hat⟩ := h.at (fun x => rfl) hl hx
  have heq : cellsEq [v.w0, v.w1] [x.w0, x.w1] = true ↔ x = v := by
   obtain ⟨a1, a2⟩ := v
   obtain ⟨b1, b2⟩ := x
   unfold cellsEq
   rw [beq_iff_eq]
   constructor
   ·intro h; injection h with h1 h2; injection h2 with h2 h3; simp only at h1 h2; subst h1 h2; rfl
   ·intro h; injection h with h1 h2; rw [h1, h2]
  refine ⟨b, o, ha, i0, hlt, x, hat, fun he => hK i ⟨fun _ => ?_, fun _ => i0⟩, fun hne => ⟨by unfold InI; omega, ⟨by omega, by omega, fun j y hj hy => ?_⟩, by dsimp only; omega⟩⟩
  ·rw [← heq.1 he]; exact List.mem_of_getElem? hx
  ·by_cases hji : (j : Int) < i
   ·exact hno j y hji hy
   ·have : j = i.toNat := by omega
    subst this
    rw [hx] at hy; cases hy
    exact fun e => hne (heq.2 e)
 ·refine hK (-1) ⟨fun h => by omega, fun hmem => ?_⟩
  obtain ⟨j, hj⟩ := List.mem_iff_getElem?.1 hmem
  have := (List.getElem?_eq_some_iff.1 hj).1
  exact absurd rfl (hno j v (by omega) hj)
theorem a2_contains {A : Option Addr} {n c : Nat} {S : List X_A2_i64} {M : Mem} (h : SlV M A n c 2 (cl X_A2_i64.cells S)) (v : X_A2_i64) (K : Value → Prop) (hK : ∀ x : Bool, (x = true ↔ v ∈ S) → K (.bool x)) : S_slices_Contains_2_int A n c v M K := by
 unfold S_slices_Contains_2_int
 exact s_slices_Index_2_int _ _ _ _ _ _ (a2_index h v _ fun i hi => ⟨_, rfl, hK _ (by rw [decide_eq_true_iff, ← hi])⟩)
end Go.Proofs.Ytifkffmecfgpeaa.core

namespace Go.Proofs.Ytifkffmecfgpeaa.core
open Go.Gx Go.RowKit Go.ChangeShapes Go.WideShapes Go.ChangeAt
set_option linter.unusedVariables false
structure VsC where
 V : Mem
 rs : List Ru
 s : List UInt8
 E : Nat → Nat → Int
 tb : Nat
 vb : Nat
 ga : Option Addr
 ea : Option Addr
 fa : Option Addr
 gl : Nat
 gc : Nat
 ec : Nat
 eb : Nat
 fc : Nat
 nodeV : Value
 doneV : Value
 JB : Mem → Nat → Prop
 J : List Evt → Mem → Prop
 tot : Nat
 st : Nat → Nat
abbrev VsC.ptr (c : VsC) : Option Addr := some ⟨c.vb, 0, none⟩
abbrev VsC.cells (c : VsC) (sa : Option Addr) (sn sc : Nat) : List Value := [.pointer (some ⟨c.tb, 0, none⟩), c.nodeV, c.doneV, .slice sa sn sc, .slice c.fa c.rs.length c.fc]
def Own (c : VsC) (M : Mem) (b : Nat) : Prop := b = c.vb ∨ (∃ l k, At M c.vb 3 [Value.slice (some ⟨b, 0, none⟩) l k]) ∨ c.JB M b
def Told (c : VsC) (M : Mem) (u' : List Evt) (v : Value) (M' : Mem) : Prop := v = .tuple #[] ∧ c.J u' M' ∧ ∀ b, c.JB M' b → c.JB M b ∨ M b = none
structure VsC.Ok (c : VsC) : Prop where
 hw : WellOk c.rs
 hT : Tab c.rs c.s c.E
 s60 : c.s.length ≤ 60
 tab : TabR c.V c.rs c.s c.E 0 c.tb c.ga c.ea c.gl c.gc c.ec c.eb
 fst : ∀ i, i < c.rs.length → ∃ b o, c.fa = some ⟨b, o, none⟩ ∧ At c.V b (o + i * 1) [Value.int .i64 (fstN c.rs i : Nat)]
 ord : ∀ (i : Nat) r, c.rs[i]? = some r → ∀ j ∈ needsE c.rs (knOf c.rs) r.body, c.st j < c.st i
 frame : ∀ u M M', c.J u M → (∀ b, c.JB M b → M' b = M b) → c.J u M' ∧ ∀ b, c.JB M' b ↔ c.JB M b
 has : ∀ u M, c.J u M → ∀ b, c.JB M b → (M b).isSome = true
 node : ∃ nil, FnNil c.nodeV nil ∧ (nil = true → ∀ u (n p : Int) e M, c.J u M → c.J (u ++ [.node n p e]) M) ∧ (nil = false → ∀ u (n p : Int) e x M, PegOk c.rs e → 0 ≤ p → p ≤ c.s.length → 0 ≤ n → n < c.tot → ExR c.V e x → c.V.le M → c.J u M → CallFW Try.prog c.nodeV [.int .i64 n, .int .i64 p, x.val] M (c.JB M) (Told c M (u ++ [.node n p e])))
 done : ∃ nil, FnNil c.doneV nil ∧ (nil = true → ∀ u i p M, c.J u M → c.J (u ++ [.done i p]) M) ∧ (nil = false → ∀ u (i p : Int) M, 0 ≤ i → i < c.rs.length → 0 ≤ p → p ≤ c.s.length → (logOf c.E u).length ≤ 610 → c.V.le M → c.J u M → CallFW Try.prog c.doneV [.int .i64 i, .int .i64 p] M (c.JB M) (Told c M (u ++ [.done i p])))
 tot : (c.rs.map fun r => cnt r.body).sum ≤ c.tot
 small : c.tot ≤ 100000
def keyA (x : X_A2_i64) : Nat := x.w0.toNat * 61 + x.w1.toNat
structure VB (c : VsC) (S : List X_A2_i64) (u : List Evt) (M : Mem) : Prop where
 le : c.V.le M
 off : ∀ b, Own c M b → c.V b = none
 bk : ∃ sa sc, M c.vb = some (.cells (c.cells sa S.length sc).toArray 144 (0, 0)) ∧ RowW M 113 2 sa S.length sc (cl X_A2_i64.cells S) ∧ ∀ g, sa = some ⟨g, 0, none⟩ → g ≠ c.vb ∧ ¬ c.JB M g
 jv : ¬ c.JB M c.vb
 j : c.J u M
 ks : (S.map keyA).Nodup ∧ ∀ x ∈ S, 0 ≤ x.w0 ∧ x.w0 < c.rs.length ∧ 0 ≤ x.w1 ∧ x.w1 ≤ c.s.length
structure Gw (c : VsC) (M M' : Mem) : Prop where
 own : ∀ b, Own c M' b → Own c M b ∨ M b = none
 dom : ∀ b, (M b).isSome = true → (M' b).isSome = true
theorem Gw.refl (c : VsC) (M : Mem) : Gw c M M := ⟨fun _ h => .inl h, fun _ h => h⟩
theorem Gw.trans {c : VsC} {M M' M'' : Mem} (h : Gw c M M') (h' : Gw c M' M'') : Gw c M M'' := by
 refine ⟨fun b hb => ?_, fun b hb => h'.dom b (h.dom b hb)⟩
 rcases h'.own b hb with hb | hb
 ·exact h.own b hb
 ·right
  cases hm : M b with
  | none => rfl
  | some o => have := h.dom b (by rw [hm]; rfl); rw [hb] at this; cases this
section
variable {c : VsC} {S : List X_A2_i64} {u : List Evt} {M : Mem}
theorem own_row {sa : Option Addr} {sn sc : Nat} (h1 : M c.vb = some (.cells (c.cells sa sn sc).toArray 144 (0, 0))) {b : Nat} : Own c M b ↔ b = c.vb ∨ sa = some ⟨b, 0, none⟩ ∨ c.JB M b := by
 have h0 := At.blk h1
 have h3 : M.cell c.vb (3 + 0) = some (.slice sa sn sc) := by have := h0 3 (.slice sa sn sc) rfl; simpa using this
 unfold Own
 refine or_congr Iff.rfl (or_congr ⟨fun ⟨l, k, h⟩ => ?_, fun h => ⟨sn, sc, ?_⟩⟩ Iff.rfl)
 ·have := h 0 _ rfl
  rw [h3] at this
  simp only [Option.some.injEq, Value.slice.injEq] at this
  exact this.1
 ·intro j v hj
  cases j with
  | zero => simp only [List.getElem?_cons_zero, Option.some.injEq] at hj; rw [h3, ← hj, h]
  | succ j => simp at hj
theorem VB.room (hc : c.Ok) (h : VB c S u M) : S.length ≤ 610 := by
 have h10 := hc.hw.ok.ten
 have hs60 := hc.s60
 have := nodup_bound 610 _ h.ks.1 fun x hx => by
  obtain ⟨y, hy, rfl⟩ := List.mem_map.1 hx
  have := h.ks.2 y hy
  unfold keyA
  omega
 simpa using this
theorem VB.keep (hc : c.Ok) (h : VB c S u M) {M' : Mem} (hle : c.V.le M') (hk : ∀ b, Own c M b → M' b = M b) : VB c S u M' ∧ ∀ b, Own c M' b ↔ Own c M b := by
 obtain ⟨sa, sc, h1, h2, h3⟩ := h.bk
 obtain ⟨hj, hjb⟩ := hc.frame u M M' h.j fun b hb => hk b (.inr (.inr hb))
 have h1' : M' c.vb = some (.cells (c.cells sa S.length sc).toArray 144 (0, 0)) := (hk _ (.inl rfl)).trans h1
 have ho : ∀ b, Own c M' b ↔ Own c M b := fun b => by rw [own_row h1, own_row h1', hjb b]
 exact ⟨⟨hle, fun b hb => h.off b ((ho b).1 hb), ⟨sa, sc, h1', h2.same fun g o hg ho => by rw [hk g ((own_row h1).2 (.inr (.inl hg)))]; exact ho, fun g hg => ⟨(h3 g hg).1, fun hb => (h3 g hg).2 ((hjb g).1 hb)⟩⟩, fun hb => h.jv ((hjb _).1 hb), hj, h.ks⟩, ho⟩
theorem VB.has (hc : c.Ok) (h : VB c S u M) {b : Nat} (hb : Own c M b) : (M b).isSome = true := by
 obtain ⟨sa, sc, h1, h2, h3⟩ := h.bk
 rcases (own_row h1).1 hb with rfl | hb | hb
 ·rw [h1]; rfl
 ·obtain ⟨_, _, _, ⟨h4, _⟩ | ⟨g, cur, h4, h5, _⟩⟩ := h2
  ·rw [h4] at hb; cases hb
  ·rw [h4] at hb; cases hb; rw [h5]; rfl
 ·exact hc.has u M h.j b hb
theorem VB.up (hc : c.Ok) (h : VB c S u M) {M' : Mem} (hl : M.le M') : VB c S u M' ∧ ∀ b, Own c M' b ↔ Own c M b :=
 h.keep hc (h.le.trans hl) fun b hb => Mem.le.eq hl (h.has hc hb)
theorem Gw.up (hc : c.Ok) (h : VB c S u M) {M' : Mem} (hl : M.le M') : Gw c M M' :=
 ⟨fun b hb => .inl (((h.up hc hl).2 b).1 hb), fun b hb => by rw [Mem.le.eq hl hb]; exact hb⟩
theorem VB.told (hc : c.Ok) (h : VB c S u M) {M' : Mem} {v : Value} {u' : List Evt} (hl : LeW M (c.JB M) M') (ht : Told c M u' v M') : VB c S u' M' ∧ Gw c M M' := by
 obtain ⟨_, hj, hjb⟩ := ht
 obtain ⟨sa, sc, h1, h2, h3⟩ := h.bk
 have h1' := hl.keep _ _ h1 h.jv
 have hnew : ∀ b, (M b).isSome = true → ¬ c.JB M b → ¬ c.JB M' b := fun b hb hn hb' => by
  rcases hjb b hb' with h | h
  ·exact hn h
  ·rw [h] at hb; cases hb
 have hrow : ∀ g, sa = some ⟨g, 0, none⟩ → (M g).isSome = true := fun g hg => h.has hc ((own_row h1).2 (.inr (.inl hg)))
 have hown : ∀ b, Own c M' b → Own c M b ∨ M b = none := fun b hb => by
  rcases (own_row h1').1 hb with hb | hb | hb
  ·exact .inl (.inl hb)
  ·exact .inl ((own_row h1).2 (.inr (.inl hb)))
  ·exact (hjb b hb).imp (fun h => .inr (.inr h)) id
 refine ⟨⟨fun b o hb => hl.keep b o (h.le b o hb) fun hj => ?_, fun b hb => ?_, ⟨sa, sc, h1', h2.same fun g o hg ho => hl.keep g o ho (h3 g hg).2, fun g hg => ⟨(h3 g hg).1, hnew g (hrow g hg) (h3 g hg).2⟩⟩, hnew _ (by rw [h1]; rfl) h.jv, hj, h.ks⟩, hown, hl.dom⟩
 ·rw [h.off b (.inr (.inr hj))] at hb; cases hb
 ·rcases hown b hb with hb | hb
  ·exact h.off b hb
  ·cases hv : c.V b with
   | none => rfl
   | some o => rw [h.le b o hv] at hb; cases hb
theorem VB.push (hc : c.Ok) (h : VB c S u M) {sa : Option Addr} {sc : Nat} (h1 : M c.vb = some (.cells (c.cells sa S.length sc).toArray 144 (0, 0))) {M2 M3 : Mem} {ad : Option Addr} {cap : Nat} {x : X_A2_i64} (hx : x ∉ S) (hr : 0 ≤ x.w0 ∧ x.w0 < c.rs.length ∧ 0 ≤ x.w1 ∧ x.w1 ≤ c.s.length)
  (hA : AppW M M2 113 2 sa ad (S.length + 1) cap (cl X_A2_i64.cells S ++ x.cells)) (hM3 : M3 = M2.put c.vb (0 + 3) [.slice ad (S.length + 1) cap]) : VB c (S ++ [x]) u M3 ∧ Gw c M M3 := by
 have hown := fun b => own_row h1 (b := b)
 obtain ⟨sa', sc', h1', h2, h3⟩ := h.bk
 have hsa : sa' = sa ∧ sc' = sc := by
  rw [h1] at h1'
  simp only [Option.some.injEq, Obj.cells.injEq, Array.mk.injEq, List.cons.injEq, Value.slice.injEq, and_true, true_and] at h1'
  simp [h1'.1, h1'.2]
 obtain ⟨rfl, rfl⟩ := hsa
 have h2pb : M2 c.vb = _ := hA.keep _ _ h1 fun g hg e => (h3 g hg).1 e.symm
 have hne : ∀ b, b ≠ c.vb → M3 b = M2 b := fun b hb => by rw [hM3]; exact Mem.put_ne hb
 have hold : ∀ b o, M b = some o → b ≠ c.vb → (∀ g, sa' = some ⟨g, 0, none⟩ → b ≠ g) → M3 b = some o := fun b o ho hb hg => by rw [hne b hb]; exact hA.keep b o ho hg
 have hjk : ∀ b, c.JB M b → M3 b = M b := fun b hb => by
  obtain ⟨o, ho⟩ := Option.isSome_iff_exists.1 (hc.has u M h.j b hb)
  rw [ho]
  exact hold b o ho (fun e => h.jv (e ▸ hb)) fun g hg e => (h3 g hg).2 (e ▸ hb)
 obtain ⟨hj, hjb⟩ := hc.frame u M M3 h.j hjk
 have hM3b : M3 c.vb = some (.cells (c.cells ad (S ++ [x]).length cap).toArray 144 (0, 0)) := by
  rw [hM3, Mem.put_eq h2pb, List.length_append]; rfl
 have hblk : ∀ g, ad = some ⟨g, 0, none⟩ → (sa' = some ⟨g, 0, none⟩ ∨ M g = none) ∧ g ≠ c.vb ∧ ¬ c.JB M g := fun g hg => by
  rcases hA.blk g hg with h' | h'
  ·exact ⟨.inl h', h3 g h'⟩
  ·refine ⟨.inr h', fun e => ?_, fun hb => ?_⟩
   ·rw [e, h1] at h'; cases h'
   ·have := hc.has u M h.j g hb; rw [h'] at this; cases this
 have hown3 : ∀ b, Own c M3 b → Own c M b ∨ M b = none := fun b hb => by
  rcases (own_row hM3b).1 hb with hb | hb | hb
  ·exact .inl (.inl hb)
  ·exact (hblk b hb).1.imp (fun h => (hown b).2 (.inr (.inl h))) id
  ·exact .inl (.inr (.inr ((hjb b).1 hb)))
 have hadd : ∀ b, (M b).isSome = true → (M3 b).isSome = true := fun b hb => by
  by_cases e : b = c.vb
  ·rw [e, hM3b]; rfl
  ·rw [hne b e]; exact hA.dom b hb
 refine ⟨⟨fun b o hb => ?_, fun b hb => ?_, ⟨ad, cap, hM3b, ?_, fun g hg => ⟨(hblk g hg).2.1, fun hb => (hblk g hg).2.2 ((hjb g).1 hb)⟩⟩, fun hb => h.jv ((hjb _).1 hb), hj, ?_, fun y hy => ?_⟩, hown3, hadd⟩
 ·exact hold b o (h.le b o hb) (fun e => by rw [e, h.off _ (.inl rfl)] at hb; cases hb) fun g hg e => by rw [e, h.off g ((hown g).2 (.inr (.inl hg)))] at hb; cases hb
 ·rcases hown3 b hb with hb | hb
  ·exact h.off b hb
  ·cases hv : c.V b with
   | none => rfl
   | some o => rw [h.le b o hv] at hb; cases hb
 ·have hcl : cl X_A2_i64.cells S ++ x.cells = cl X_A2_i64.cells (S ++ [x]) := cl_snoc _ _
  rw [← hcl, List.length_append]
  exact hA.row.same fun g o hg ho => by rw [hne g (hblk g hg).2.1]; exact ho
 ·rw [List.map_append, List.nodup_append]
  have hs60 := hc.s60
  refine ⟨h.ks.1, by simp, fun a ha b hb => ?_⟩
  obtain ⟨y, hy, rfl⟩ := List.mem_map.1 ha
  have hk := h.ks.2 y hy
  simp only [List.map_cons, List.map_nil, List.mem_singleton] at hb
  subst hb
  intro e
  unfold keyA at e
  have e1 : y.w0 = x.w0 := by omega
  have e2 : y.w1 = x.w1 := by omega
  apply hx
  obtain ⟨a1, a2⟩ := y
  obtain ⟨b1, b2⟩ := x
  simp only at e1 e2
  rw [← e1, ← e2]; exact hy
 ·rcases List.mem_append.1 hy with hy | hy
  ·exact h.ks.2 y hy
  ·simp only [List.mem_singleton] at hy; subst hy; exact hr
end
end Go.Proofs.Ytifkffmecfgpeaa.core

namespace Go.Proofs.Ytifkffmecfgpeaa.core
open Go.Gx Go.RowKit Go.ChangeShapes Go.WideShapes Go.ChangeAt
set_option linter.unusedVariables false
def KS (rs : List Ru) (s : List UInt8) (E : Nat → Nat → Int) (t : List Evt) : Prop := ((logOf E t).map keyS).Nodup ∧ ∀ i p, Evt.done i p ∈ t → 0 ≤ i ∧ i < rs.length ∧ 0 ≤ p ∧ p ≤ s.length
theorem KS.room {rs : List Ru} {s : List UInt8} {E : Nat → Nat → Int} {t : List Evt} (h : KS rs s E t) (h10 : rs.length ≤ 10) (hs60 : s.length ≤ 60) : (logOf E t).length ≤ 610 := by
 have := nodup_bound 610 _ h.1 fun x hx => by
  obtain ⟨y, hy, rfl⟩ := List.mem_map.1 hx
  have := h.2 _ _ (logOf_mem.1 hy).1
  unfold keyS
  omega
 simpa using this
theorem KS.node {rs : List Ru} {s : List UInt8} {E : Nat → Nat → Int} {t : List Evt} (h : KS rs s E t) (n p : Int) (e : Ex) : KS rs s E (t ++ [.node n p e]) := by
 unfold KS
 rw [logOf_node]
 exact ⟨h.1, fun i q hd => h.2 i q (by simpa using hd)⟩
theorem KS.done {rs : List Ru} {s : List UInt8} {E : Nat → Nat → Int} {t : List Evt} (h : KS rs s E t) (hs60 : s.length ≤ 60) {i p : Int} (hn : Evt.done i p ∉ t) (hi : 0 ≤ i) (hi2 : i < rs.length) (hp : 0 ≤ p) (hl : p ≤ s.length) : KS rs s E (t ++ [.done i p]) := by
 refine ⟨?_, fun a b hab => ?_⟩
 ·rw [logOf_done, List.map_append, List.nodup_append]
  refine ⟨h.1, by simp, fun a ha b hb => ?_⟩
  obtain ⟨y, hy, rfl⟩ := List.mem_map.1 ha
  obtain ⟨hy1, _⟩ := logOf_mem.1 hy
  have hk := h.2 _ _ hy1
  simp only [List.map_cons, List.map_nil, List.mem_singleton] at hb
  subst hb
  unfold keyS
  intro e
  have e1 : y.Rule = i := by simp only at e; omega
  have e2 : y.At = p := by simp only at e; omega
  rw [e1, e2] at hy1
  exact hn hy1
 ·rcases List.mem_append.1 hab with h' | h'
  ·exact h.2 a b h'
  ·simp only [List.mem_singleton, Evt.done.injEq] at h'
   obtain ⟨rfl, rfl⟩ := h'
   exact ⟨hi, hi2, hp, hl⟩
def VPost (c : VsC) (pend : Int → Int → Prop) (X : Int → Int → Ex → Prop) (t : List Evt) (M : Mem) : Prop :=
 KS c.rs c.s c.E t ∧ ∃ S u, (∀ i q, X_A2_i64.mk i q ∈ S ↔ (Evt.done i q ∈ t ∨ pend i q)) ∧ logOf c.E u = logOf c.E t ∧ (∀ n p e, Evt.node n p e ∈ u ↔ (Evt.node n p e ∈ t ∨ X n p e)) ∧ VB c S u M
def SafeE (c : VsC) (pend : Int → Int → Prop) (e : Ex) (p : Int) : Prop := ∀ i q, pend i q → q < p ∨ (q = p ∧ ∀ j ∈ needsE c.rs (knOf c.rs) e, c.st j < c.st i.toNat)
def VNode (c : VsC) (e : Ex) (n p : Int) (t t' : List Evt) : Prop := ∀ (pend : Int → Int → Prop) (X : Int → Int → Ex → Prop) (M : Mem) (x : X_api_Expr) (K : Value → Mem → Prop), SafeE c pend e p → ExR c.V e x → VPost c pend X t M →
 (∀ M', VPost c pend X t' M' → Gw c M M' → K (.tuple #[]) M') → S_chaffref_Visit_expr c.ptr x n p M (Own c M) K
def VRule (c : VsC) (i p : Int) (t t' : List Evt) : Prop := ∀ (pend : Int → Int → Prop) (X : Int → Int → Ex → Prop) (M : Mem) (K : Value → Mem → Prop), (∀ k q, pend k q → q < p ∨ (q = p ∧ c.st i.toNat < c.st k.toNat)) → VPost c pend X t M →
 (∀ M', VPost c pend X t' M' → Gw c M M' → K (.tuple #[]) M') → S_chaffref_Visit_rule c.ptr i p M (Own c M) K
def VChain (c : VsC) (L : List Ex) (n : Int) : List Tr → List Evt → List Evt → Prop
 | [], t, t' => t = t'
 | k :: l, t, t' => ∃ e t1, L[k.Kid.toNat]? = some e ∧ (PegOk c.rs e → exErr e = 0 → 0 ≤ k.At → k.At ≤ c.s.length → 0 ≤ n + preN L k.Kid.toNat → n + preN L k.Kid.toNat + cnt e ≤ c.tot → VNode c e (n + preN L k.Kid.toNat) k.At t t1) ∧ VChain c L n l t1 t'
section
variable {c : VsC} {pend : Int → Int → Prop} {X : Int → Int → Ex → Prop} {t t1 : List Evt} {M : Mem}
theorem VPost.le (h : VPost c pend X t M) : c.V.le M := by obtain ⟨_, _, _, _, _, _, h⟩ := h; exact h.le
theorem VPost.up (hc : c.Ok) (h : VPost c pend X t M) {M' : Mem} (hl : M.le M') : VPost c pend X t M' ∧ Gw c M M' ∧ ∀ b, Own c M' b ↔ Own c M b := by
 obtain ⟨h0, S, u, h1, h2, h3, h4⟩ := h
 exact ⟨⟨h0, S, u, h1, h2, h3, (h4.up hc hl).1⟩, Gw.up hc h4 hl, (h4.up hc hl).2⟩
theorem VPost.has (hc : c.Ok) (h : VPost c pend X t M) {b : Nat} (hb : Own c M b) : (M b).isSome = true := by obtain ⟨_, _, _, _, _, _, h⟩ := h; exact h.has hc hb
theorem VPost.off (h : VPost c pend X t M) {b : Nat} (hb : Own c M b) : c.V b = none := by obtain ⟨_, _, _, _, _, _, h⟩ := h; exact h.off b hb
theorem VPost.at (h : VPost c pend X t M) : ∃ sa sn sc, At M c.vb 0 (c.cells sa sn sc) := by
 obtain ⟨_, S, u, _, _, _, h⟩ := h
 obtain ⟨sa, sc, h1, _⟩ := h.bk
 exact ⟨sa, _, sc, At.blk h1⟩
theorem Gw.wr {M1 : Mem} (h : Gw c M M1) {b : Nat} (hb : Own c M1 b) : Wr (Own c M) M b := h.own b hb
theorem vexpr_is (hc : c.Ok) {e : Ex} {n p : Int} (hok : PegOk c.rs e) (her : exErr e = 0) (hp : 0 ≤ p) (hl : p ≤ c.s.length) (hn0 : 0 ≤ n) (hn1 : n + cnt e ≤ c.tot) (h4 : e.kind = 4 → VRule c (findR e.text c.rs 0) p t t1) (hch : e.kind ≠ 4 → VChain c e.kids (n + 1) (kidK c.rs c.s c.E e p) t t1) : VNode c e n p t (t1 ++ [.node n p e]) := by
 intro pend X M x K hsafe hR hP hK
 obtain ⟨xs, hx⟩ := hR.open
 have hsm := hc.small
 have hs60 := hc.s60
 have h10 := hc.hw.ok.ten
 have hl8 := kids8 hok.good
 have hce := cnt_eq e
 let X' : Int → Int → Ex → Prop := fun a b d => X a b d ∨ (a = n ∧ b = p ∧ d = e)
 have hX : ∀ {t M}, VPost c pend X' t M → VPost c pend X (t ++ [.node n p e]) M := fun ⟨h0, S, u, h1, h2, h3, h4⟩ => by
  refine ⟨h0.node n p e, S, u, fun i q => by rw [h1 i q]; simp, by rw [logOf_node]; exact h2, fun a b d => ?_, h4⟩
  rw [h3 a b d]
  simp only [X', List.mem_append, List.mem_singleton, Evt.node.injEq]
  exact ⟨fun h => by rcases h with h | h | h <;> simp [h], fun h => by rcases h with (h | h) | h <;> simp [h]⟩
 have j2 : ∀ (M25 : Mem) (t0 : List Evt) (l : List Tr), VPost c pend X' t0 M25 → Gw c M M25 → l = kidK c.rs c.s c.E e p → VChain c e.kids (n + 1) l t0 t1 → S_chaffref_Visit_expr_J2 c.ptr x n p M (Own c M) M25 K := by
  intro M25 t0 l hP25 hg25 hl' hchain
  obtain ⟨sa, sn, sc, hat⟩ := hP25.at
  unfold S_chaffref_Visit_expr_J2
  have hoff : ∀ b, Own c M25 b → c.V b = none := fun b hb => hP25.off hb
  have hV := le_hide hP25.le hoff
  refine ⟨c.vb, 0, rfl, _, hat.part 0 [.pointer (some ⟨c.tb, 0, none⟩)] rfl, CallE.narrow (Own c M25) (fun b hb => hP25.has hc hb) (s_chaffref_Table_Kids _ _ _ _ _ (kids_is hs60 h10 hc.hT hok (hR.le hV) (hc.tab.le hV) hp hl fun M19 ad cap hle19 hsl => ?_)) (K1 := fun v N => ∃ ad cap, v = .slice ad l.length cap ∧ SlV N ad l.length cap 2 (cl X_chaffref_Tried.cells l)) fun v N M32 ⟨ad, cap, hv, hsl⟩ hNle h32 hNo => ⟨ad, l.length, cap, hv, ?_⟩⟩
  ·rw [← hl'] at hsl ⊢
   exact ⟨ad, cap, rfl, hsl⟩
  obtain ⟨hP32, hg32, ho32⟩ := hP25.up hc h32
  have hmax := hsl.max
  have hall := kid_all hc.hT hok hp hl
  rw [← hl'] at hall
  refine ⟨List Evt, fun tt i M' => 0 ≤ i ∧ i ≤ l.length ∧ VPost c pend X' tt M' ∧ VChain c e.kids (n + 1) (l.drop i.toNat) tt t1 ∧ N.le M' ∧ (∀ b, Own c M' b → N b = none) ∧ Gw c M M', fun _ i => l.length - i.toNat, t0, ⟨by omega, by omega, hP32, hchain, hNle, fun b hb => hNo b ((ho32 b).1 hb), hg25.trans hg32⟩, fun tt i M' ⟨i0, i1, hP', hch', hN', hNo', hg'⟩ => ⟨fun hlt => ?_, fun hge => ?_⟩⟩
  ·obtain ⟨k, hk⟩ := getI (l := l) i0 hlt
   obtain ⟨bt, ot, hbt, hatk⟩ := hsl.at Tr_len rfl hk
   obtain ⟨k0, k1, ke, hke, htr⟩ := hall k (List.mem_of_getElem? hk)
   have hkm := List.mem_of_getElem? hke
   rw [drop_get hk] at hch'
   obtain ⟨e', t2, he', hT', hrest⟩ := hch'
   rw [hke] at he'; cases he'
   obtain ⟨b, o, y, ha, haty, hy, _⟩ := hx.kid hke
   have hklt := (List.getElem?_eq_some_iff.1 hke).1
   have hpre := preN_kid hke
   have hcap := hx.sl.2.1
   have hlen := hx.len
   have hroom : n + 1 + preN e.kids k.Kid.toNat + cnt ke ≤ c.tot := by omega
   have hT' := hT' (hok.kid hkm) (exErr_kid her hkm) (by have := htr.2.1; omega) k1 (by omega) hroom
   refine ⟨bt, ot, hbt, i0, hlt, k, hatk.le hN', inI_small (by omega) (by omega), k0, by omega, Unit, fun _ m j M2 => 0 ≤ j ∧ j ≤ k.Kid ∧ m = n + 1 + (preN e.kids j.toNat : Nat) ∧ M'.le M2, fun _ _ j => k.Kid.toNat - j.toNat, (), ⟨by omega, k0, by simp [preN], Mem.le.refl _⟩, fun _ m j M2 ⟨j0, j1, hm, hle2⟩ => ⟨fun hltj => ?_, fun hgej => ?_⟩⟩
   ·obtain ⟨kj, hkj⟩ := getI (l := e.kids) j0 (by omega)
    obtain ⟨b', o', y', ha', haty', hy', _⟩ := hx.kid hkj
    have hprej := preN_kid hkj
    refine ⟨b', o', ha', j0, hltj, y', haty'.le (hP'.le.trans hle2), s_chaffref_Nodes _ _ _ (rcount_is (hy'.le (hP'.le.trans hle2)) (exErr_kid her (List.mem_of_getElem? hkj)) fun M3 A cc hle3 => ⟨A, _, cc, rfl, ?_, ?_, (), ⟨by omega, by omega, ?_, hle2.trans hle3⟩, ?_⟩)⟩
    ·exact inI_small (by omega) (by omega)
    ·exact inI_small (by omega) (by omega)
    ·rw [show (j + 1).toNat = j.toNat + 1 by omega, preN_succ hkj, hm]; push_cast; omega
    ·show k.Kid.toNat - (j + 1).toNat < k.Kid.toNat - j.toNat
     omega
   ·have hjk : j.toNat = k.Kid.toNat := by omega
    rw [hjk] at hm
    rw [← hm] at hT'
    obtain ⟨hP2, hg2, ho2⟩ := hP'.up hc hle2
    refine ⟨b, o, ha, k0, by omega, y, haty.le hP2.le, (s_chaffref_Visit_expr _ _ _ _ _ _ _ (hT' pend X' M2 y (fun v M3 => v = .tuple #[] ∧ VPost c pend X' t2 M3 ∧ Gw c M2 M3) (fun a q hq => ?_) hy hP2 fun M3 hP3 hg3 => ⟨rfl, hP3, hg3⟩)).mono (fun g hb => (hg'.trans hg2).wr hb) fun v M3 hle3 ⟨hv, hP3, hg3⟩ => ⟨hv, by unfold InI; omega, t2, ⟨by omega, by omega, hP3, ?_, fun g q hq => ?_, fun g hg => ?_, (hg'.trans hg2).trans hg3⟩, ?_⟩⟩
    ·rcases hsafe a q hq with h | ⟨h1, h2⟩
     ·have := htr.2.1; exact .inl (by omega)
     ·by_cases hkp : k.At = p
      ·exact .inr ⟨by omega, fun j hj => h2 j (htr.2.2 hkp j hj)⟩
      ·have := htr.2.1; exact .inl (by omega)
    ·rw [show (i + 1).toNat = i.toNat + 1 by omega]; exact hrest
    ·refine hle3.keep g q (hle2 g q (hN' g q hq)) fun hb => ?_
     rw [hNo' g ((ho2 g).1 hb)] at hq; cases hq
    ·rcases hg3.own g hg with hg | hg
     ·exact hNo' g ((ho2 g).1 hg)
     ·cases hv : N g with
      | none => rfl
      | some q => rw [hle2 g q (hN' g q hv)] at hg; cases hg
    ·show l.length - (i + 1).toNat < l.length - i.toNat
     omega
  ·rw [List.drop_of_length_le (by omega)] at hch'
   have hch' : tt = t1 := hch'
   subst hch'
   intro M3 hle3
   obtain ⟨hP3, hg3, _⟩ := hP'.up hc hle3
   exact hK M3 (hX hP3) (hg'.trans hg3)
 have j1 : ∀ M14, VPost c pend X' t M14 → Gw c M M14 → S_chaffref_Visit_expr_J1 c.ptr x n p M (Own c M) M14 K := by
  intro M14 hP14 hg14
  unfold S_chaffref_Visit_expr_J1
  rw [hx.kind]
  refine ⟨fun k4 => ?_, fun n4 => j2 M14 t _ hP14 hg14 rfl (hch n4)⟩
  have hf0 := hok.good.ref k4
  obtain ⟨hf1, hf2⟩ := findR_lt hf0
  obtain ⟨sa, sn, sc, hat⟩ := hP14.at
  rw [hx.text]
  refine ⟨c.vb, 0, rfl, _, hat.part 0 [.pointer (some ⟨c.tb, 0, none⟩)] rfl, c.tb, 0, rfl, _, _, _, hc.tab.gm.le hP14.le, s_chaffref_Find _ _ _ _ _ _ (rfind_is (hc.tab.gr.le hP14.le) e.text _ ⟨_, rfl, (s_chaffref_Visit_rule _ _ _ _ _ _ (h4 k4 pend X' M14 _ (fun k q hq => ?_) hP14 fun M24 hP24 hg24 => ⟨rfl, j2 M24 t1 [] hP24 (hg14.trans hg24) ?_ rfl⟩)).mono (fun g hb => hg14.wr hb) (fun v M' _ h => h)⟩)⟩
  ·rcases hsafe k q hq with h | ⟨h1, h2⟩
   ·exact .inl h
   ·exact .inr ⟨h1, h2 _ (by rw [needsE_eq, if_pos k4]; simp)⟩
  ·unfold kidK
   rw [if_neg (by omega), if_neg (by omega), if_neg (show ¬ (e.kind = 7 ∨ e.kind = 8) by omega), if_neg (by omega)]
 obtain ⟨nil, hnil, hyes, hno⟩ := hc.node
 obtain ⟨hKS, S, u, hS, hlog, hnod, hB⟩ := id hP
 obtain ⟨sa, sc, hblk, hrow, _⟩ := hB.bk
 have hu : ∀ a b d, Evt.node a b d ∈ u ++ [.node n p e] ↔ (Evt.node a b d ∈ t ∨ X' a b d) := fun a b d => by
  simp only [X', List.mem_append, List.mem_singleton, Evt.node.injEq, hnod a b d]
  exact ⟨fun h => by rcases h with (h | h) | h <;> simp [h], fun h => by rcases h with h | h | h <;> simp [h]⟩
 unfold S_chaffref_Visit_expr
 refine ⟨c.vb, 0, rfl, c.nodeV, (At.blk hblk).part 1 [c.nodeV] rfl, nil, hnil, fun hn => ?_, fun hn => ?_⟩
 ·have hf : nil = false := by simpa using hn
  have hce1 := cnt_pos e
  refine ⟨c.vb, 0, rfl, c.nodeV, (At.blk hblk).part 1 [c.nodeV] rfl, (hno hf u n p e x M hok hp hl hn0 (by omega) hR hB.le hB.j).mono (fun g hb => .inl (.inr (.inr hb))) fun v M2 hle2 ht => ⟨ht.1, ?_⟩⟩
  obtain ⟨hB2, hg2⟩ := hB.told hc hle2 ht
  exact j1 M2 ⟨hKS, S, _, hS, by rw [logOf_node]; exact hlog, hu, hB2⟩ hg2
 ·have ht : nil = true := by simpa using hn
  refine j1 M ⟨hKS, S, _, hS, by rw [logOf_node]; exact hlog, hu, ⟨hB.le, hB.off, hB.bk, hB.jv, hyes ht u n p e M hB.j, hB.ks⟩⟩ (Gw.refl c M)
theorem vrule_seen (hc : c.Ok) {i p : Int} (hd : Evt.done i p ∈ t) : VRule c i p t t := by
 intro pend X M K hsafe hP hK
 obtain ⟨hKS, S, u, hS, hlog, hnod, hB⟩ := id hP
 obtain ⟨sa, sc, hblk, hrow, _⟩ := hB.bk
 unfold S_chaffref_Visit_rule
 refine ⟨c.vb, 0, rfl, sa, S.length, sc, (At.blk hblk).part 3 [.slice sa _ sc] rfl, s_slices_Contains_2_int _ _ _ _ _ _ (a2_contains hrow.slv ⟨i, p⟩ _ fun b hb => ⟨b, rfl, fun _ M2 hle => ?_, fun hn => absurd (hb.2 ((hS i p).2 (.inl hd))) hn⟩)⟩
 obtain ⟨h1, h2, _⟩ := hP.up hc hle
 exact hK M2 h1 h2
theorem vrule_is (hc : c.Ok) {i p : Int} (hi : 0 ≤ i) {rr : Ru} (hr : c.rs[i.toNat]? = some rr) (hp : 0 ≤ p) (hl : p ≤ c.s.length) (hn : Evt.done i p ∉ t) (hn1 : Evt.done i p ∉ t1) (hT : VNode c rr.body (fstN c.rs i.toNat) p t t1) : VRule c i p t (t1 ++ [.done i p]) := by
 intro pend X M K hsafe hP hK
 obtain ⟨hKS, S, u, hS, hlog, hnod, hB⟩ := id hP
 obtain ⟨sa, sc, hblk, hrow, hsa⟩ := hB.bk
 have hlt := (List.getElem?_eq_some_iff.1 hr).1
 have hgl := hc.tab.gr.len
 have hnp : ¬ pend i p := fun h => by rcases hsafe i p h with h | ⟨_, h⟩ <;> omega
 have hnS : X_A2_i64.mk i p ∉ S := fun h => ((hS i p).1 h).elim hn hnp
 have hroom := hB.room hc
 obtain ⟨b2, o2, ha2, hat2⟩ := hc.fst i.toNat hlt
 obtain ⟨r2, x2, b3, o3, hr2, ha3, hat3, hrr3⟩ := hc.tab.gr.at hi (by omega)
 rw [hr] at hr2; cases hr2
 unfold S_chaffref_Visit_rule
 refine ⟨c.vb, 0, rfl, sa, S.length, sc, (At.blk hblk).part 3 [.slice sa _ sc] rfl, s_slices_Contains_2_int _ _ _ _ _ _ (a2_contains hrow.slv ⟨i, p⟩ _ fun b hb => ⟨b, rfl, fun hy => absurd (hb.1 hy) hnS, fun _ => ?_⟩)⟩
 refine ⟨c.vb, 0, rfl, sa, S.length, sc, (At.blk hblk).part 3 [.slice sa _ sc] rfl, fun v hv => ?_, _, hrow, fun g hg => .inl ((own_row hblk).2 (.inr (.inl hg))), by omega, fun M19 ad20 cap21 hA => ?_⟩
 ·simp only [X_A2_i64.cells, List.mem_cons, List.not_mem_nil, or_false] at hv
  rcases hv with rfl | rfl <;> rfl
 have h19 : M19 c.vb = _ := hA.keep _ _ hblk fun g hg e => (hsa g hg).1 e.symm
 refine ⟨c.vb, 0, rfl, Has.blk h19 (by show 0 + 3 + 1 ≤ 5; omega), .inl (.inl rfl), fun M24 hM24 => ?_⟩
 obtain ⟨hB24, hg24⟩ := hB.push hc hblk hnS ⟨hi, by show i < _; omega, hp, hl⟩ hA hM24
 obtain ⟨sa4, sc4, hblk4, _⟩ := hB24.bk
 let pend' : Int → Int → Prop := fun a b => pend a b ∨ (a = i ∧ b = p)
 have hP24 : VPost c pend' X t M24 := by
  refine ⟨hKS, _, u, fun a b => ?_, hlog, hnod, hB24⟩
  rw [List.mem_append, hS a b, List.mem_singleton, X_A2_i64.mk.injEq]
  simp only [pend']
  exact or_assoc
 refine ⟨c.vb, 0, rfl, _, (At.blk hblk4).part 0 [.pointer (some ⟨c.tb, 0, none⟩)] rfl, c.tb, 0, rfl, _, _, _, hc.tab.gm.le hB24.le, b3, o3, ha3, hi, by omega, x2.Body, (hat3.part 1 x2.Body.cells rfl).le hB24.le, c.vb, 0, rfl, _, _, _, (At.blk hblk4).part 4 [.slice c.fa c.rs.length c.fc] rfl, b2, o2, ha2, hi, by omega, _, hat2.le hB24.le, ?_⟩
 refine (s_chaffref_Visit_expr _ _ _ _ _ _ _ (hT pend' X M24 x2.Body _ (fun a q hq => ?_) hrr3.2.2 hP24 fun M44 hP44 hg44 => ⟨rfl, ?_⟩)).mono (fun g hb => hg24.wr hb) (fun v M' _ h => h)
 ·rcases hq with hq | ⟨rfl, rfl⟩
  ·rcases hsafe a q hq with h | ⟨h1, h2⟩
   ·exact .inl h
   ·exact .inr ⟨h1, fun j hj => Nat.lt_trans (hc.ord _ _ hr j hj) h2⟩
  ·exact .inr ⟨rfl, fun j hj => hc.ord _ _ hr j hj⟩
 obtain ⟨hKS4, S4, u4, hS4, hlog4, hnod4, hB4⟩ := id hP44
 obtain ⟨sa5, sc5, hblk5, _⟩ := hB4.bk
 obtain ⟨nil, hnil, hyes, hno⟩ := hc.done
 have fin : ∀ (M5 : Mem), VB c S4 (u4 ++ [.done i p]) M5 → Gw c M44 M5 → ∀ M6, M5.le M6 → K (.tuple #[]) M6 := fun M5 hB5 hg5 M6 hle6 => by
  have hP5 : VPost c pend X (t1 ++ [.done i p]) M5 := by
   refine ⟨hKS4.done hc.s60 hn1 hi (by omega) hp hl, S4, _, fun a b => ?_, by rw [logOf_done, logOf_done, hlog4], fun a b d => ?_, hB5⟩
   ·rw [hS4 a b, List.mem_append, List.mem_singleton, Evt.done.injEq]
    simp only [pend']
    exact ⟨fun h => by rcases h with h | h | h <;> simp [h], fun h => by rcases h with (h | h) | h <;> simp [h]⟩
   ·rw [List.mem_append, hnod4 a b d, List.mem_append]
    simp
  obtain ⟨h1, h2, _⟩ := hP5.up hc hle6
  exact hK M6 h1 (((hg24.trans hg44).trans hg5).trans h2)
 refine ⟨c.vb, 0, rfl, c.doneV, (At.blk hblk5).part 2 [c.doneV] rfl, nil, hnil, fun hn => ?_, fun hn => ?_⟩
 ·have hf : nil = false := by simpa using hn
  have hroom4 : (logOf c.E u4).length ≤ 610 := by rw [hlog4]; exact hKS4.room hc.hw.ok.ten hc.s60
  refine ⟨c.vb, 0, rfl, c.doneV, (At.blk hblk5).part 2 [c.doneV] rfl, (hno hf u4 i p M44 hi (by omega) hp hl hroom4 hB4.le hB4.j).mono (fun g hb => ?_) fun v M2 hle2 ht => ⟨ht.1, ?_⟩⟩
  ·exact (hg24.trans hg44).wr (.inr (.inr hb))
  ·obtain ⟨hB5, hg5⟩ := hB4.told hc hle2 ht
   exact fin M2 hB5 hg5
 ·have ht : nil = true := by simpa using hn
  exact fin M44 ⟨hB4.le, hB4.off, hB4.bk, hB4.jv, hyes ht u4 i p M44 hB4.j, hB4.ks⟩ (Gw.refl c M44)
end
def VisitOk (c : VsC) : Job → List Evt → List Evt → Prop
 | .node e n p, t, t' => PegOk c.rs e → exErr e = 0 → 0 ≤ p → p ≤ c.s.length → 0 ≤ n → n + cnt e ≤ c.tot → VNode c e n p t t'
 | .rule i p, t, t' => 0 ≤ i → i < c.rs.length → 0 ≤ p → p ≤ c.s.length → VRule c i p t t'
 | .kids L n l, t, t' => VChain c L n l t t'
theorem visit_walk {c : VsC} (hc : c.Ok) {j : Job} {t t' : List Evt} (h : Goes c.rs c.s c.E j t t') : VisitOk c j t t' := by
 induction h with
 | @ref e n p t t' h4 _ ih =>
  intro hok her hp hl hn0 hn1
  have hf := hok.good.ref h4
  obtain ⟨f1, f2⟩ := findR_lt hf
  exact vexpr_is hc hok her hp hl hn0 hn1 (fun _ => ih hf f2 hp hl) fun n4 => absurd h4 n4
 | @inner e n p t t' h4 _ ih =>
  intro hok her hp hl hn0 hn1
  exact vexpr_is hc hok her hp hl hn0 hn1 (fun k4 => absurd k4 h4) fun _ => ih
 | seen h => exact fun _ _ _ _ => vrule_seen hc h
 | @rule i p r t t' hn hr hg ih =>
  intro hi hi2 hp hl
  have hsum := fstN_rule hr
  have htot := hc.tot
  have hm := List.mem_of_getElem? hr
  exact vrule_is hc hi hr hp hl hn (goes_own hc.hw hc.hT hr hp hl hg hn) (ih (hc.hw.peg hm) (hc.hw.ok.err r hm) hp hl (by omega) (by omega))
 | nil => rfl
 | cons he _ _ ih1 ih2 => exact ⟨_, _, he, ih1, ih2⟩
def Alike (E : Nat → Nat → Int) (u t : List Evt) : Prop := logOf E u = logOf E t ∧ ∀ n p e, Evt.node n p e ∈ u ↔ Evt.node n p e ∈ t
theorem vfirst_is {c : VsC} (hc : c.Ok) {t : List Evt} (hg : Goes c.rs c.s c.E (.rule 0 0) [] t) {M : Mem} {K : Value → Mem → Prop} (hB : VB c [] [] M) (hK : ∀ M' u, Alike c.E u t → c.V.le M' → c.J u M' → K (.tuple #[]) M') : S_chaffref_Visit_rule c.ptr 0 0 M (Own c M) K := by
 have h11 := hc.hw.ok.one
 refine visit_walk hc hg (Int.le_refl 0) (by omega) (Int.le_refl 0) (by omega) (fun _ _ => False) (fun _ _ _ => False) M K (fun _ _ h => h.elim) ⟨⟨by simp [logOf], fun i p h => by cases h⟩, [], [], fun i q => by simp, rfl, fun n p e => by simp, hB⟩ fun M' hP _ => ?_
 obtain ⟨_, S, u, _, h2, h3, h4⟩ := hP
 exact hK M' u ⟨h2, fun n p e => by rw [h3 n p e]; simp⟩ h4.le h4.j
end Go.Proofs.Ytifkffmecfgpeaa.core

namespace Go.Proofs.Ytifkffmecfgpeaa.core
open Go.Gx Go.RowKit Go.ChangeShapes Go.WideShapes Go.ChangeAt
set_option linter.unusedVariables false
theorem TabR.same {M : Mem} {rs : List Ru} {s : List UInt8} {E E' : Nat → Nat → Int} {b : Nat} {ga ea : Option Addr} {gl gc ec eb : Nat} (h : TabR M rs s E' 0 b ga ea gl gc ec eb) (hE : ∀ p i : Nat, p ≤ s.length → i < rs.length → E p i = E' p i) : TabR M rs s E 0 b ga ea gl gc ec eb := by
 refine ⟨h.gm, h.tx, h.en, h.gr, h.ea, fun q h1 h2 => ?_⟩
 obtain ⟨ra, rc, h3, h4⟩ := h.row q h1 h2
 have : rowE E rs.length q = rowE E' rs.length q := by
  unfold rowE
  exact List.map_congr_left fun i hi => hE q i h2 (by simpa using hi)
 exact ⟨ra, rc, h3, by rw [this]; exact h4⟩
structure VRaw (V : Mem) (vb tb : Nat) (nodeV doneV : Value) (M : Mem) : Prop where
 le : V.le M
 bk : M vb = some (.cells [Value.pointer (some ⟨tb, 0, none⟩), nodeV, doneV, Value.slice none 0 0, Value.slice none 0 0].toArray 144 (0, 0))
 vV : V vb = none
theorem go_is {rs : List Ru} {s : List UInt8} {E : Nat → Nat → Int} {tb vb : Nat} {ga ea : Option Addr} {gl gc ec eb : Nat} {V : Mem} {nodeV doneV : Value} {M : Mem} {L : Nat → Prop} {K : Value → Mem → Prop} (hw : WellOk rs) (hV : TabR V rs s E 0 tb ga ea gl gc ec eb) (hM : VRaw V vb tb nodeV doneV M) (hL : L vb)
  (hK : ∀ (V' : Mem) (fa : Option Addr) (fc : Nat) (M' : Mem), V.le V' → V' vb = none → V'.le M' → (∀ b, b ≠ vb → (M b).isSome = true → V' b = V b) → (∀ b, (M b).isSome = true → (M' b).isSome = true) → (∀ b, b ≠ vb → (M b).isSome = true → M' b = M b) → (∀ i, i < rs.length → ∃ b o, fa = some ⟨b, o, none⟩ ∧ At V' b (o + i * 1) [Value.int .i64 (fstN rs i : Nat)]) →
   M' vb = some (.cells [Value.pointer (some ⟨tb, 0, none⟩), nodeV, doneV, Value.slice none 0 0, Value.slice fa rs.length fc].toArray 144 (0, 0)) → CallW Try.prog 123 #[.pointer (some ⟨vb, 0, none⟩), .int .i64 0, .int .i64 0] M' (Wr L M) (fun v M92 => v = .tuple #[] ∧ ∀ M3, M92.le M3 → K (.tuple #[]) M3)) :
  S_chaffref_Visit_Go (some ⟨vb, 0, none⟩) M L K := by
 have h10 := hw.ok.ten
 have h120 : (rs.map fun r => cnt r.body).sum ≤ 120 := hw.ok.all
 have hgl := hV.gr.len
 have htb : tb ≠ vb := by
  rintro rfl
  have := hV.gm 0 _ rfl
  unfold Mem.cell at this
  rw [hM.vV] at this; cases this
 have h0 := At.blk hM.bk
 unfold S_chaffref_Visit_Go
 refine ⟨vb, 0, rfl, _, h0.part 0 [.pointer (some ⟨tb, 0, none⟩)] rfl, tb, 0, rfl, _, _, _, hV.gm.le hM.le, Unit, fun _ n i M' => 0 ≤ i ∧ i ≤ rs.length ∧ n = (fstN rs i.toNat : Nat) ∧ (∀ b, (M b).isSome = true → (M' b).isSome = true) ∧ (∀ b, b ≠ vb → (M b).isSome = true → M' b = M b) ∧ ∃ fa fc, M' vb = some (.cells [Value.pointer (some ⟨tb, 0, none⟩), nodeV, doneV, Value.slice none 0 0, Value.slice fa i.toNat fc].toArray 144 (0, 0)) ∧
   RowW M' 3 1 fa i.toNat fc (cl iC ((List.range i.toNat).map fun j => ((fstN rs j : Nat) : Int))) ∧ ∀ g, fa = some ⟨g, 0, none⟩ → M g = none, fun _ _ i => rs.length - i.toNat, (), ⟨by omega, by omega, by simp [fstN], fun _ h => h, fun _ _ _ => rfl, none, 0, hM.bk, ⟨rfl, Nat.le_refl _, by decide, .inl ⟨rfl, rfl, rfl⟩⟩, fun g hg => by cases hg⟩, fun _ n i M' ⟨i0, i1, hn, hdom, hkeep, fa, fc, hblk, hrow, hfa⟩ => ?_⟩
 have hVle : V.le M' := fun b o hb => by
  rw [hkeep b (fun e => by rw [e, hM.vV] at hb; cases hb) (by rw [hM.le b o hb]; rfl)]; exact hM.le b o hb
 have hfav : ∀ g, fa = some ⟨g, 0, none⟩ → g ≠ vb := fun g hg e => by have := hfa g hg; rw [e, hM.bk] at this; cases this
 refine ⟨fun hlt => ?_, fun hge => ?_⟩
 ·obtain ⟨rr, x, b, o, hrr, ha, hat, hrx⟩ := hV.gr.at i0 hlt
  have hsum := fstN_rule hrr
  refine ⟨b, o, ha, i0, hlt, x, hat.le hVle, vb, 0, rfl, fa, _, fc, (At.blk hblk).part 4 [.slice fa i.toNat fc] rfl, fun u hu => ?_, _, hrow, fun g hg => .inr (hfa g hg), by omega, fun M82 ad cap hA => ?_⟩
  ·simp only [List.mem_singleton] at hu; rw [hu]; rfl
  have h82 : M82 vb = _ := hA.keep _ _ hblk fun g hg e => hfav g hg e.symm
  refine ⟨vb, 0, rfl, Has.blk h82 (by show 0 + 4 + 1 ≤ 5; omega), .inl hL, fun M87 hM87 => ?_⟩
  have hne : ∀ b, b ≠ vb → M87 b = M82 b := fun b hb => by rw [hM87]; exact Mem.put_ne hb
  have hkeep87 : ∀ b o, M' b = some o → b ≠ vb → (∀ g, fa = some ⟨g, 0, none⟩ → b ≠ g) → M87 b = some o := fun b o ho hb hg => by rw [hne b hb]; exact hA.keep b o ho hg
  have hold : ∀ b, b ≠ vb → (M b).isSome = true → M87 b = M b := fun b hb hs => by
   obtain ⟨o, ho⟩ := Option.isSome_iff_exists.1 hs
   rw [ho]
   exact hkeep87 b o (by rw [hkeep b hb hs]; exact ho) hb fun g hg e => by rw [e, hfa g hg] at hs; cases hs
  have hV87 : V.le M87 := fun b o hb => by
   rw [hold b (fun e => by rw [e, hM.vV] at hb; cases hb) (by rw [hM.le b o hb]; rfl)]; exact hM.le b o hb
  have hadg : ∀ g, ad = some ⟨g, 0, none⟩ → M g = none ∧ g ≠ vb := fun g hg => by
   rcases hA.blk g hg with h | h
   ·exact ⟨hfa g h, hfav g h⟩
   ·refine ⟨?_, fun e => by rw [e, hblk] at h; cases h⟩
    cases hv : M g with
    | none => rfl
    | some o => have := hdom g (by rw [hv]; rfl); rw [h] at this; cases this
  have her := hw.ok.err rr (List.mem_of_getElem? hrr)
  refine s_chaffref_Nodes _ _ _ (rcount_is (hrx.2.2.le hV87) her fun M3 A cc hle3 => ⟨A, _, cc, rfl, ?_, ?_, (), ⟨by omega, by omega, ?_, fun b hb => ?_, fun b hb hs => ?_, ad, cap, ?_, ?_, fun g hg => (hadg g hg).1⟩, ?_⟩)
  ·exact inI_small (by omega) (by omega)
  ·exact inI_small (by omega) (by omega)
  ·rw [show (i + 1).toNat = i.toNat + 1 by omega, fstN_succ hrr, hn]; push_cast; rfl
  ·by_cases e : b = vb
   ·rw [e]
    rw [hle3 _ _ (by rw [hM87]; exact Mem.put_eq h82)]; rfl
   ·rw [Mem.le.eq hle3 (by rw [hold b e hb]; exact hb), hold b e hb]; exact hb
  ·rw [Mem.le.eq hle3 (by rw [hold b hb hs]; exact hs)]; exact hold b hb hs
  ·refine hle3 _ _ ?_
   rw [hM87, Mem.put_eq h82, show (i + 1).toNat = i.toNat + 1 by omega]; rfl
  ·rw [show (i + 1).toNat = i.toNat + 1 by omega, List.range_succ, List.map_append]
   have hcl : cl iC ((List.range i.toNat).map fun j => ((fstN rs j : Nat) : Int)) ++ [Value.int .i64 n] = cl iC ((List.range i.toNat).map (fun j => ((fstN rs j : Nat) : Int)) ++ [((fstN rs i.toNat : Nat) : Int)]) := by rw [hn]; exact cl_snoc _ _
   rw [List.map_cons, List.map_nil, ← hcl]
   exact hA.row.same fun g o hg ho => hle3 _ _ (by rw [hne g (hadg g hg).2]; exact ho)
  ·show rs.length - (i + 1).toNat < rs.length - i.toNat
   omega
 ·have hi : i.toNat = rs.length := by omega
  rw [hi] at hblk hrow
  let V' : Mem := fun b => if b = vb then none else match V b with
   | some o => some o
   | none => if fa = some ⟨b, 0, none⟩ then M' b else none
  have hVV : V.le V' := fun b o hb => by
   have hbv : b ≠ vb := fun e => by rw [e, hM.vV] at hb; cases hb
   simp only [V']
   rw [if_neg hbv, hb]
  refine hK V' fa fc M' hVV (by simp [V']) (fun b o hb => ?_) (fun b hb hs => ?_) hdom hkeep (fun j hj => ?_) hblk
  ·simp only [V'] at hb
   split at hb
   ·cases hb
   ·split at hb
    ·rename_i o' ho'; cases hb; exact hVle b _ ho'
    ·split at hb
     ·exact hb
     ·cases hb
  ·simp only [V']
   rw [if_neg hb]
   cases hv : V b with
   | some o => rfl
   | none =>
    simp only
    rw [if_neg]
    intro e
    rw [hfa b e] at hs; cases hs
  ·obtain ⟨b, o, hfb, hat⟩ := hrow.slv.at iC_len (by simp) (x := ((fstN rs j : Nat) : Int)) (by rw [List.getElem?_map, List.getElem?_range hj]; rfl)
   refine ⟨b, o, hfb, fun k v hk => ?_⟩
   have := hat k v hk
   obtain ⟨_, _, _, ⟨h, _⟩ | ⟨g, cur, hg, hcur, _⟩⟩ := hrow
   ·rw [h] at hfb; cases hfb
   ·rw [hg] at hfb
    cases hfb
    have hgv := hfav b hg
    have hVb : V b = none := by
     cases hv : V b with
     | none => rfl
     | some o => have := hM.le b o hv; rw [hfa b hg] at this; cases this
    unfold Mem.cell at this ⊢
    simp only [V']
    rw [if_neg hgv, hVb]
    simp only
    rw [if_pos hg]; exact this
end Go.Proofs.Ytifkffmecfgpeaa.core

namespace Go.Proofs.Ytifkffmecfgpeaa.core
open Go.Gx Go.RowKit Go.ChangeShapes Go.WideShapes Go.ChangeAt
set_option linter.unusedVariables false
def sumF (rs : List Ru) : Nat := (rs.map fun r => (flatE r.body).length).sum
theorem gnodes_is {rs : List Ru} {ga : Option Addr} {gl gc : Nat} {M : Mem} (hg : GrR M rs ga gl gc) (K : Value → Prop) (h1 : gramErr rs ≠ 0 → K (.tuple #[.int .i64 0, .int .i64 (gramErr rs)])) (h2 : gramErr rs = 0 → K (.tuple #[.int .i64 (sumF rs : Nat), .int .i64 0])) : S_gram_Nodes ga gl gc M K := by
 unfold S_gram_Nodes
 refine s_gram_Check _ _ _ _ _ (gcheck_is hg _ ⟨_, rfl, fun h => h1 h, fun h => ?_⟩)
 have h0 : gramErr rs = 0 := by simpa using h
 have hok := gram_ok h0
 have h10 := hok.ten
 have hgl := hg.len
 have hall := hok.all
 have K2 := h2 h0
 rw [hgl]
 have hsplit : ∀ k : Nat, ((rs.take k).map fun r => (flatE r.body).length).sum ≤ sumF rs := by
  intro k
  have := congrArg (fun l : List Ru => (l.map fun r => (flatE r.body).length).sum) (List.take_append_drop k rs)
  simp only [List.map_append, List.sum_append] at this
  unfold sumF; omega
 unfold sumF at hsplit K2
 refine ⟨fun all i => 0 ≤ i ∧ i ≤ rs.length ∧ all = ((rs.take i.toNat).map fun r => (flatE r.body).length).sum, fun _ i => rs.length - i.toNat, ⟨by omega, by omega, by simp⟩, fun all i ⟨i0, i1, hall'⟩ => ⟨fun hlt => ?_, fun hge => ?_⟩⟩
 ·obtain ⟨r, x, b, o, hr, ha, hat, hrr⟩ := hg.at i0 (by rw [hgl]; exact hlt)
  have herr := hok.err r (List.mem_of_getElem? hr)
  obtain ⟨hf60, _⟩ := flat_max herr
  have hs := hsplit i.toNat
  refine ⟨b, o, ha, i0, hlt, x, hat, s_expr_Size _ _ _ (size_is r.body x.Body _ _ hrr.2.2 (fun h => absurd herr h) fun _ => ⟨_, _, rfl, by unfold InI; omega, by unfold InI; omega, ⟨by omega, by omega, ?_⟩, by dsimp only; omega⟩)⟩
  rw [show (i + 1).toNat = i.toNat + 1 by omega, take_get hr, List.map_append, List.sum_append, hall']; simp
 ·rw [List.take_of_length_le (by omega)] at hall'
  rw [hall']; exact K2
theorem rall_is {rs : List Ru} {ga : Option Addr} {gl gc : Nat} {M : Mem} (hok : GramOk rs) (hg : GrR M rs ga gl gc) (K : Value → Mem → Prop)
  (hK : ∀ M' ad cap, M.le M' → K (.slice ad (sumF rs) cap) M') : S_chaffref_All ga gl gc M K := by
 have h10 := hok.ten
 have hgl := hg.len
 have hall := hok.all
 unfold S_chaffref_All
 rw [hgl]
 have hsplit : ∀ k : Nat, ((rs.take k).map fun r => (flatE r.body).length).sum ≤ sumF rs := by
  intro k
  have := congrArg (fun l : List Ru => (l.map fun r => (flatE r.body).length).sum) (List.take_append_drop k rs)
  simp only [List.map_append, List.sum_append] at this
  unfold sumF; omega
 have hs120 : sumF rs ≤ 120 := hall
 refine ⟨fun i rn rx M1 => 0 ≤ i ∧ i ≤ rs.length ∧ M.le M1 ∧ rn = ((rs.take i.toNat).map fun r => (flatE r.body).length).sum, fun i _ _ => rs.length - i.toNat, ⟨by omega, by omega, Mem.le.refl M, by simp⟩, fun i rn rx M1 ⟨i0, i1, hM1, hrn⟩ => ⟨fun hlt => ?_, fun hge => ?_⟩⟩
 ·obtain ⟨r, x, b, o, hr, ha, hat, hrr⟩ := (hg.le hM1).at i0 (by rw [hgl]; exact hlt)
  have herr := hok.err r (List.mem_of_getElem? hr)
  obtain ⟨hf60, _, htake, hflat⟩ := flat_max herr
  have hs := hsplit i.toNat
  refine ⟨b, o, ha, i0, hlt, x, hat, s_chaffref_Nodes _ _ _ (nodes_is r.body x.Body _ _ hrr.2.2 fun M3 A3 c3 xs hle3 hsl3 hall3 => ⟨_, _, _, rfl, ?_⟩)⟩
  rw [htake] at hall3
  have hxl := hall3.length
  have hfl : (flatE r.body).length = xs.length := by rw [hxl, ← hflat, List.length_map]
  refine ⟨fun j rn2 rx2 => 0 ≤ j ∧ j ≤ xs.length ∧ (rn2 : Int) = rn + j, fun j _ _ => xs.length - j.toNat, ⟨by omega, by omega, by omega⟩, fun j rn2 rx2 ⟨j0, j1, hrn2⟩ => ⟨fun hltj => ?_, fun hgej => ?_⟩⟩
  ·obtain ⟨p, hp⟩ := getI (l := preE 1 r.body) j0 (by omega)
   obtain ⟨y, hy, _, _⟩ := hall3.get hp
   obtain ⟨b2, o2, ha2, hat2⟩ := hsl3.at Xn_len rfl hy
   exact ⟨b2, o2, ha2, j0, hltj, y, hat2, by omega, by unfold InI; omega, ⟨by omega, by omega, by omega⟩, by dsimp only; omega⟩
  ·refine ⟨by unfold InI; omega, ⟨by omega, by omega, hM1.trans hle3, ?_⟩, by dsimp only; omega⟩
   rw [show (i + 1).toNat = i.toNat + 1 by omega, take_get hr, List.map_append, List.sum_append]
   simp only [List.map_cons, List.map_nil, List.sum_cons, List.sum_nil]
   omega
 ·intro M2 ad cap hle2 hsl2 M3 hle3
  rw [List.take_of_length_le (by omega)] at hrn
  have : rn = sumF rs := hrn
  rw [this]
  exact hK M3 ad cap ((hM1.trans hle2).trans hle3)
end Go.Proofs.Ytifkffmecfgpeaa.core

