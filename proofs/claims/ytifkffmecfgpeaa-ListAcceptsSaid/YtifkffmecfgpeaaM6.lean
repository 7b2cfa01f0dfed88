/- Contracts and what they hang on, of several parts. No condition. -/
import Derived.Test.YtifkffmecfgpeaaM5
import Derived.Test.YtifkffmecfgpeaaM3
import Derived.Test.YtifkffmecfgpeaaAlphaG
import Derived.Test.YtifkffmecfgpeaaCoreX
import Derived.Test.YtifkffmecfgpeaaM4
namespace Go.Proofs.Ytifkffmecfgpeaa.core
open Go.Gx Go.RowKit Go.ChangeShapes Go.WideShapes Go.ChangeAt
set_option linter.unusedVariables false
def ChainOk (c : PkC) (L : List Ex) (n : Int) : List Tr → List Evt → List Evt → Prop
 | [], t, t' => t = t'
 | k :: l, t, t' => ∃ e t1, L[k.Kid.toNat]? = some e ∧ (PegOk c.rs e → 0 ≤ k.At → k.At ≤ c.s.length → 0 ≤ n + preN L k.Kid.toNat → n + preN L k.Kid.toNat + cnt e ≤ c.tot → TryOk c e (n + preN L k.Kid.toNat) k.At t t1) ∧ ChainOk c L n l t1 t'
theorem PI.le {c : PkC} {t : List Evt} {M : Mem} (h : PI c t M) : c.V.le M := by obtain ⟨_, _, _, h⟩ := h; exact h.le
section
variable {c : PkC} {e : Ex} {n p : Int} {t t1 : List Evt}
theorem kid_room (hn1 : n + cnt e ≤ c.tot) {i : Nat} {k : Ex} (hk : e.kids[i]? = some k) : n + 1 + preN e.kids i + cnt k ≤ c.tot := by
 have := preN_kid hk
 have := cnt_eq e
 omega
theorem kid_cnt {i : Nat} {k : Ex} (hk : e.kids[i]? = some k) : cnt k ≤ cnt e := by
 have := preN_kid hk
 have := cnt_eq e
 omega
theorem seq_is (hc : c.Ok) (h5 : e.kind = 5) (hok : PegOk c.rs e) (hp : 0 ≤ p) (hl : p ≤ c.s.length) (hn0 : 0 ≤ n) (hn1 : n + cnt e ≤ c.tot) (hch : ChainOk c e.kids (n + 1) (kidK c.rs c.s c.E e p) t t1) {M : Mem} {x : X_api_Expr} {K : Value → Mem → Prop} (hR : ExR c.V e x) (hP : PI c t M)
  (hK : ∀ M' to, PI c t1 M' → (0 ≤ c.res e p → to = c.res e p) → K (.tuple #[.int .i64 to, .bool (decide (0 ≤ c.res e p))]) M') : S_pack_Parser_seq c.ptr x n p M c.LV K := by
 obtain ⟨xs, hx⟩ := hR.open
 have hsm := hc.small
 have hl8 := kids8 hok.good
 have hres : c.res e p = seqE c.rs c.s c.E e.kids p := by
  unfold PkC.res; rw [endE_eq, if_neg (by omega), if_neg (by omega), if_neg (by omega), if_neg (by omega), if_pos h5]
 unfold kidK at hch
 rw [if_pos h5] at hch
 unfold S_pack_Parser_seq
 refine ⟨inI_small (by omega) (by omega), List Evt, fun t' q k i M' => 0 ≤ i ∧ i ≤ e.kids.length ∧ 0 ≤ q ∧ q ≤ c.s.length ∧ k = n + 1 + preN e.kids i.toNat ∧ PI c t' M' ∧ ChainOk c e.kids (n + 1) (seqK (endE c.rs c.s c.E) (e.kids.drop i.toNat) i q) t' t1 ∧ seqE c.rs c.s c.E (e.kids.drop i.toNat) q = c.res e p, fun _ _ _ i => e.kids.length - i.toNat, t,
  ⟨by omega, by omega, hp, hl, by simp [preN], hP, by simpa using hch, by rw [hres]; rfl⟩, fun t' q k i M' ⟨i0, i1, q0, q1, hkn, hP', hch', hrs⟩ => ⟨fun hlt => ?_, fun hge => ?_⟩⟩
 ·rw [hx.len] at hlt
  obtain ⟨ke, hk⟩ := getI (l := e.kids) i0 hlt
  have hkm := List.mem_of_getElem? hk
  obtain ⟨b, o, y, ha, hat, hy, _⟩ := hx.kid hk
  rw [drop_get hk, seqK] at hch'
  rw [drop_get hk, seqE] at hrs
  obtain ⟨e', t2, he', hT', hrest⟩ := hch'
  simp only at he' hT'
  rw [hk] at he'; cases he'
  have hroom := kid_room hn1 hk
  have hcnt := kid_cnt hk
  have hkr : c.res ke q = -1 ∨ (q ≤ c.res ke q ∧ c.res ke q ≤ c.s.length) := hc.hT.res (hok.kid hkm) q0 q1
  have hT' := hT' (hok.kid hkm) q0 q1 (by omega) hroom
  rw [← hkn] at hT'
  refine ⟨b, o, ha, i0, by rw [hx.len]; exact hlt, y, hat.le hP'.le, (s_pack_Parser_try _ _ _ _ _ _ _ (hT' M' y _ hy hP' fun M2 to hP2 hto => ⟨to, _, rfl, fun hno => ?_, fun hyes => ?_⟩)).mono (fun g h => .inl h) (fun v M' _ h => h)⟩
  ·have h0 : c.res ke q < 0 := by simpa using hno
   rw [if_pos h0] at hrest hrs
   have hrest : t2 = t1 := hrest
   subst hrest
   intro M3 hle
   have := hK M3 0 (hP2.up hc hle) (fun h => by rw [← hrs] at h; exact absurd h0 (Int.not_lt.2 h))
   rw [decide_eq_false (by rw [← hrs]; exact Int.not_le.2 h0)] at this
   exact this
  ·have h0 : 0 ≤ c.res ke q := by simpa using hyes
   rw [if_neg (Int.not_lt.2 h0)] at hrest hrs
   have hto := hto h0
   subst hto
   refine (s_pack_count _ _ _ _ (count_is _ ke (Nat.lt_succ_self _) (by omega) _ _ _ (hy.le hP2.le) fun M3 hle3 => ⟨_, rfl, ?_, ?_, t2, ⟨by omega, by omega, h0, by omega, ?_, hP2.up hc hle3, ?_, ?_⟩, ?_⟩)).mono (fun _ h => h.elim) (fun v M' _ h => h)
   ·exact inI_small (by omega) (by omega)
   ·exact inI_small (by omega) (by omega)
   ·rw [show (i + 1).toNat = i.toNat + 1 by omega, preN_succ hk, hkn]; push_cast; omega
   ·rw [show (i + 1).toNat = i.toNat + 1 by omega]; exact hrest
   ·rw [show (i + 1).toNat = i.toNat + 1 by omega]; exact hrs
   ·show e.kids.length - (i + 1).toNat < e.kids.length - i.toNat
    omega
 ·rw [hx.len] at hge
  rw [List.drop_of_length_le (by omega), seqK] at hch'
  rw [List.drop_of_length_le (by omega), seqE] at hrs
  have hch' : t' = t1 := hch'
  subst hch'
  intro M2 hle
  have := hK M2 q (hP'.up hc hle) (fun _ => hrs)
  rw [decide_eq_true (by rw [← hrs]; exact q0)] at this
  exact this
theorem not_two {z p l : Int} (h : z = -1 ∨ (p ≤ z ∧ z ≤ l)) (hp : 0 ≤ p) : z ≠ -2 := by omega
theorem single_is (hc : c.Ok) (h7 : 7 ≤ e.kind) (hok : PegOk c.rs e) (hp : 0 ≤ p) (hl : p ≤ c.s.length) (hn0 : 0 ≤ n) (hn1 : n + cnt e ≤ c.tot) (hch : ChainOk c e.kids (n + 1) (kidK c.rs c.s c.E e p) t t1) {M : Mem} {x : X_api_Expr} {K : Value → Mem → Prop} (hR : ExR c.V e x) (hP : PI c t M)
  (hK : ∀ M' to, PI c t1 M' → (0 ≤ c.res e p → to = c.res e p) → K (.tuple #[.int .i64 to, .bool (decide (0 ≤ c.res e p))]) M') : S_pack_Parser_single c.ptr x n p M c.LV K := by
 obtain ⟨xs, hx⟩ := hR.open
 have hsm := hc.small
 obtain ⟨g1, g2, g3, g4, g5, g6, _⟩ := fitE_kinds hok.good.fit
 obtain ⟨k, hk1⟩ := List.length_eq_one_iff.1 (g5 h7)
 have hk : e.kids[(0 : Int).toNat]? = some k := by rw [hk1]; rfl
 have hkm : k ∈ e.kids := by rw [hk1]; simp
 obtain ⟨b, o, y, ha, hat, hy, _⟩ := hx.kid hk
 have hroom := kid_room hn1 hk
 have hp0 : preN e.kids (0 : Int).toNat = 0 := by simp [preN]
 have hkr : c.res k p = -1 ∨ (p ≤ c.res k p ∧ c.res k p ≤ c.s.length) := hc.hT.res (hok.kid hkm) hp hl
 have hhd : hdE c.rs c.s c.E e.kids = endE c.rs c.s c.E k := by rw [hk1]; funext q; rw [hdE]
 have hres : c.res e p = if e.kind = 7 ∨ e.kind = 8 then strE (endE c.rs c.s c.E k) (decide (e.kind = 8)) (c.s.length + 2) p true else oneE e.kind p (c.res k p) := by
  unfold PkC.res; rw [endE_eq, if_neg (by omega), if_neg (by omega), if_neg (by omega), if_neg (by omega), if_neg (by omega), if_neg (by omega), hhd]
 have hkk : kidK c.rs c.s c.E e p = ⟨0, p⟩ :: (if e.kind = 7 ∨ e.kind = 8 then staK (endE c.rs c.s c.E k) (c.s.length + 2) (c.res k p) else []) := by
  unfold kidK
  rw [if_neg (by omega), if_neg (by omega)]
  by_cases h78 : e.kind = 7 ∨ e.kind = 8
  ·rw [if_pos h78, if_pos h78, staK, if_neg (by omega), hhd]
  ·rw [if_neg h78, if_neg h78, if_pos (by omega)]
 rw [hkk] at hch
 obtain ⟨e', t2, he', hT', hrest⟩ := hch
 simp only at he' hT'
 rw [hk] at he'; cases he'
 have hT' := hT' (hok.kid hkm) hp hl (by omega) hroom
 have hone : ∀ q, (((n + 1 : Int) + (preN e.kids (0 : Int).toNat : Nat))) = n + 1 + q → q = 0 := fun q h => by rw [hp0] at h; omega
 rw [hp0, show (n + 1 : Int) + ((0 : Nat) : Int) = n + 1 by omega] at hT'
 unfold S_pack_Parser_single
 rw [hx.kind]
 have hkl : 0 < ((x.Kids_l : Nat) : Int) := by rw [hx.len, hk1]; simp
 refine ⟨b, o, ha, by omega, hkl, y, hat.le hP.le, inI_small (by omega) (by omega), (s_pack_Parser_try _ _ _ _ _ _ _ (hT' M y _ hy hP fun M2 to hP2 hto => ⟨to, _, rfl, fun k10 => ?_, fun n10 => ⟨fun k11 => ?_, fun n11 => ⟨fun hno => ?_, fun hyes => ?_⟩⟩⟩)).mono (fun g h => .inl h) (fun v M' _ h => h)⟩
 ·rw [if_neg (by omega)] at hrest hres
  have hrest : t2 = t1 := hrest
  subst hrest
  intro M3 hle
  unfold oneE at hres
  rw [if_neg (by omega), if_neg (by omega)] at hres
  have := hK M3 p (hP2.up hc hle) (fun h => by split at hres <;> omega)
  rw [show decide (0 ≤ c.res e p) = decide (0 ≤ c.res k p) by rw [decide_eq_decide]; split at hres <;> omega] at this
  exact this
 ·rw [if_neg (by omega)] at hrest hres
  have hrest : t2 = t1 := hrest
  subst hrest
  intro M3 hle
  unfold oneE at hres
  rw [if_neg (by omega), if_neg (by omega)] at hres
  have := hK M3 p (hP2.up hc hle) (fun h => by split at hres <;> omega)
  rw [show decide (0 ≤ c.res e p) = !decide (0 ≤ c.res k p) by rw [Bool.eq_iff_iff, Bool.not_eq_true', decide_eq_true_iff, decide_eq_false_iff_not]; split at hres <;> omega] at this
  exact this
 ·have h0 : c.res k p < 0 := by simpa using hno
  intro M3 hle
  have hend : t2 = t1 := by
   by_cases h78 : e.kind = 7 ∨ e.kind = 8
   ·rw [if_pos h78, staK, if_pos h0] at hrest; exact hrest
   ·rw [if_neg h78] at hrest; exact hrest
  subst hend
  have hval : c.res e p = if e.kind = 8 then c.res k p else p := by
   rw [hres]
   by_cases h78 : e.kind = 7 ∨ e.kind = 8
   ·rw [if_pos h78, strE]
    by_cases h8 : e.kind = 8
    ·rw [if_pos (.inr ⟨h0, rfl, by simpa using h8⟩), if_pos h8]
    ·rw [if_neg (fun h => h.elim (not_two hkr hp) fun h => h8 (by simpa using h.2.2)), if_pos h0, if_neg h8]
   ·rw [if_neg h78, if_neg (by omega)]
    unfold oneE
    rw [if_neg (by omega), if_neg (by omega), if_neg (by omega)]
  have := hK M3 p (hP2.up hc hle) (fun h => by split at hval <;> omega)
  rw [show decide (0 ≤ c.res e p) = (e.kind != (8 : Int)) by rw [Bool.eq_iff_iff, decide_eq_true_iff, bne_iff_ne]; split at hval <;> omega] at this
  exact this
 ·have h0 : 0 ≤ c.res k p := by simpa using hyes
  have hto := hto h0
  subst hto
  refine ⟨List Evt × Nat, fun g q M' => 0 ≤ q ∧ q ≤ c.s.length ∧ PI c g.1 M' ∧ (e.kind = 7 ∨ e.kind = 8 → ChainOk c e.kids (n + 1) (staK (endE c.rs c.s c.E k) (g.2 + 1) q) g.1 t1 ∧ strE (endE c.rs c.s c.E k) (decide (e.kind = 8)) g.2 q false = c.res e p ∧ c.s.length + 1 ≤ q + g.2) ∧ (¬ (e.kind = 7 ∨ e.kind = 8) → g.1 = t1 ∧ q = c.res e p), fun _ q => (c.s.length + 1 - q).toNat, (t2, c.s.length + 1),
   ⟨h0, by omega, hP2, fun h78 => ⟨by rw [if_pos h78] at hrest; exact hrest, ?_, ?_⟩, fun h78 => ⟨by rw [if_neg h78] at hrest; exact hrest, ?_⟩⟩, fun g q M' ⟨q0, q1, hP', hl78, hl9⟩ => ⟨fun n9 => ?_, fun k9 => ?_⟩⟩
  ·rw [if_pos h78, strE, if_neg (fun h => h.elim (not_two hkr hp) fun h => Int.not_lt.2 h0 h.1), if_neg (Int.not_lt.2 h0)] at hres
   exact hres.symm
  ·have : (e.kind = 7 ∨ e.kind = 8) := h78
   have hem := hok.star hk1 h78
   have hne : c.res k p ≠ p := fun h => by
    have := hc.hT.empty (hok.kid hkm) hp hl h
    rw [this] at hem; cases hem
   push_cast; omega
  ·rw [if_neg h78] at hres
   unfold oneE at hres
   rw [if_neg (by omega)] at hres
   by_cases h9 : e.kind = 9
   ·rw [if_pos ⟨h9, h0⟩] at hres; exact hres.symm
   ·omega
  ·have h78 : e.kind = 7 ∨ e.kind = 8 := by omega
   obtain ⟨hch2, hst, hm⟩ := hl78 h78
   obtain ⟨t3, m⟩ := g
   simp only at hch2 hst hm hP'
   have hem := hok.star hk1 h78
   have hne : c.res k q ≠ q := fun h => by
    have := hc.hT.empty (hok.kid hkm) q0 q1 h
    rw [this] at hem; cases hem
   have hqr : c.res k q = -1 ∨ (q ≤ c.res k q ∧ c.res k q ≤ c.s.length) := hc.hT.res (hok.kid hkm) q0 q1
   rw [staK, if_neg (by omega)] at hch2
   obtain ⟨e', t4, he', hT2, hrest2⟩ := hch2
   simp only at he' hT2
   rw [hk] at he'; cases he'
   have hT2 := hT2 (hok.kid hkm) q0 q1 (by omega) hroom
   rw [hp0, show (n + 1 : Int) + ((0 : Nat) : Int) = n + 1 by omega] at hT2
   cases m with
   | zero => omega
   | succ m =>
    rw [strE] at hst
    refine ⟨b, o, ha, by omega, hkl, y, hat.le hP'.le, inI_small (by omega) (by omega), (s_pack_Parser_try _ _ _ _ _ _ _ (hT2 M' y _ hy hP' fun M3 to hP3 hto => ⟨to, _, rfl, fun hno => ?_, fun hyes => ?_⟩)).mono (fun g h => .inl h) (fun v M' _ h => h)⟩
    ·have hq0 : c.res k q < 0 := by simpa using hno
     rw [staK, if_pos hq0] at hrest2
     have hrest2 : t4 = t1 := hrest2
     subst hrest2
     rw [if_neg (fun h => h.elim (not_two hqr q0) fun h => by cases h.2.1), if_pos hq0] at hst
     unfold S_pack_Parser_single_J1
     intro M4 hle
     have := hK M4 q (hP3.up hc hle) (fun _ => hst)
     rw [decide_eq_true (by rw [← hst]; exact q0)] at this
     exact this
    ·have hq0 : 0 ≤ c.res k q := by simpa using hyes
     have hto := hto hq0
     subst hto
     rw [if_neg (fun h => h.elim (not_two hqr q0) fun h => Int.not_lt.2 hq0 h.1), if_neg (Int.not_lt.2 hq0)] at hst
     exact ⟨(t4, m), ⟨hq0, by omega, hP3, fun _ => ⟨hrest2, hst, by push_cast at hm; omega⟩, fun h => absurd h78 h⟩, by show ((c.s.length : Int) + 1 - c.res k q).toNat < ((c.s.length : Int) + 1 - q).toNat; omega⟩
  ·have h9 : e.kind = 9 := by simpa using k9
   obtain ⟨h1, h2⟩ := hl9 (by omega)
   unfold S_pack_Parser_single_J1
   intro M3 hle
   rw [h1] at hP'
   have := hK M3 q (hP'.up hc hle) (fun _ => h2)
   rw [decide_eq_true (by rw [← h2]; exact q0)] at this
   exact this
end
end Go.Proofs.Ytifkffmecfgpeaa.core

namespace Go.Proofs.Ytifkffmecfgpeaa.core
open Go.Gx Go.RowKit Go.ChangeShapes Go.WideShapes Go.ChangeAt
set_option linter.unusedVariables false
theorem cpl_le : ∀ a b : List UInt8, cpl a b ≤ a.length ∧ cpl a b ≤ b.length
 | [], _ => by simp [cpl]
 | _ :: _, [] => by simp [cpl]
 | x :: a, y :: b => by
  have := cpl_le a b
  rw [cpl]
  split <;> simp <;> omega
theorem cpl_same : ∀ (a b : List UInt8) (k : Nat), k < cpl a b → a[k]? = b[k]?
 | [], _, k, h => by simp [cpl] at h
 | _ :: _, [], k, h => by simp [cpl] at h
 | x :: a, y :: b, k, h => by
  rw [cpl] at h
  split at h
  ·rename_i hxy
   cases k with
   | zero => simp [hxy]
   | succ k => simpa using cpl_same a b k (by omega)
  ·omega
theorem cpl_end : ∀ (a b : List UInt8) (x : UInt8), a[cpl a b]? = some x → b[cpl a b]? ≠ some x
 | [], _, x, h => by simp at h
 | _ :: _, [], x, h => by simp
 | u :: a, v :: b, x, h => by
  rw [cpl] at h ⊢
  split at h
  ·rename_i huv
   rw [if_pos huv]
   simp only [List.getElem?_cons_succ] at h ⊢
   exact cpl_end a b x h
  ·rename_i huv
   rw [if_neg huv]
   simp only [List.getElem?_cons_zero, Option.some.injEq] at h ⊢
   subst h; exact fun h' => huv (Option.some.inj h').symm
theorem cpl_all : ∀ (a b : List UInt8), cpl a b = b.length → b.length ≤ a.length ∧ a.take b.length = b
 | _, [], _ => by simp
 | [], _ :: _, h => by simp [cpl] at h
 | u :: a, v :: b, h => by
  rw [cpl] at h
  split at h
  ·rename_i huv
   have := cpl_all a b (by simpa using h)
   subst huv
   simp only [List.length_cons, List.take_succ_cons]
   exact ⟨by omega, by rw [this.2]⟩
  ·simp at h
theorem Missed.as {far far' p : Int} {want want' : X_api_Set} {f g : Nat → Bool} (h : Missed far want p f far' want') (hfg : ∀ b, b < 256 → f b = g b) : Missed far want p g far' want' :=
 ⟨h.1, h.2.1, fun b hb => by rw [h.2.2 b hb, hfg b hb]⟩
section
variable {c : PkC} {e : Ex} {n p : Int} {t t1 : List Evt}
def RuleOk (c : PkC) (i p : Int) (t t' : List Evt) : Prop := ∀ (M : Mem) (K : Value → Mem → Prop), PI c t M → (∀ M', PI c t' M' → K (outE (c.E p.toNat i.toNat) p).val M') → S_pack_Parser_Rule c.ptr i p M c.LV K
theorem node_is (hc : c.Ok) (hok : PegOk c.rs e) (hp : 0 ≤ p) (hl : p ≤ c.s.length) (hn0 : 0 ≤ n) (hn1 : n + cnt e ≤ c.tot) (h4 : e.kind = 4 → RuleOk c (findR e.text c.rs 0) p t t1) (hch : e.kind ≠ 4 → ChainOk c e.kids (n + 1) (kidK c.rs c.s c.E e p) t t1) : NodeOk c e n p t t1 := by
 intro M x K hR hP hK
 obtain ⟨xs, hx⟩ := hR.open
 have hsm := hc.small
 have hs60 := hc.s60
 have hl8 := kids8 hok.good
 obtain ⟨g1, g2, g3, g4, g5, g6, _⟩ := fitE_kinds hok.good.fit
 have fin : ∀ (M' : Mem) (to : Int) (b : Bool), PI c t1 M' → missOf c.rs c.s c.E (.node n p e) = none → b = decide (0 ≤ c.res e p) → (0 ≤ c.res e p → to = c.res e p) → K (.tuple #[.int .i64 to, .bool b]) M' := fun M' to b ⟨far, want, hF, hB⟩ hm hb hto => by
  rw [hb]; exact hK M' to far want hB (hF.skip hm) hto
 have mnone : e.kind ≠ 2 → e.kind ≠ 3 → missOf c.rs c.s c.E (.node n p e) = none := fun h2 h3 => by
  rw [missOf, if_neg h2, if_neg h3]; split <;> rfl
 have mpos : 0 ≤ c.res e p → missOf c.rs c.s c.E (.node n p e) = none := fun h => by
  rw [missOf, if_neg (Int.not_lt.2 h)]
 have leaf : e.kind ≤ 3 → t = t1 := fun h => by
  have := hch (by omega)
  unfold kidK at this
  rw [if_neg (by omega), if_neg (by omega), if_neg (show ¬ (e.kind = 7 ∨ e.kind = 8) by omega), if_neg (by omega)] at this
  exact this
 have atS : ∀ {t M}, PI c t M → At M c.pb (0 + 1) [.string (mkS c.s)] := fun ⟨far, want, _, h⟩ => by
  obtain ⟨la, lc, h1⟩ := h.at
  exact h1.part 1 [.string (mkS c.s)] rfl
 have atG : ∀ {t M}, PI c t M → At M c.pb 0 [.slice c.ga c.gl c.gc] := fun ⟨far, want, _, h⟩ => by
  obtain ⟨la, lc, h1⟩ := h.at
  exact h1.part 0 [.slice c.ga c.gl c.gc] rfl
 unfold S_pack_Parser_node
 rw [hx.kind]
 refine ⟨fun k1 M2 hle => ?_, fun n1 => ?_⟩
 ·have ht := leaf (by omega)
  subst ht
  have hr : c.res e p = p := by unfold PkC.res; rw [endE_eq, if_pos k1]
  exact fin M2 p true (hP.up hc hle) (mpos (by rw [hr]; exact hp)) (by rw [hr]; exact (decide_eq_true hp).symm) fun _ => hr.symm
 refine ⟨fun k2 => ?_, fun n2 => ?_⟩
 ·have ht := leaf (by omega)
  subst ht
  have hr : c.res e p = setE e.set c.s p := by unfold PkC.res; rw [endE_eq, if_neg n1, if_pos k2]
  have j1 : ∀ v : Bool, v = decide (0 ≤ c.res e p) → (v = true → c.res e p = p + 1) → S_pack_Parser_node_J1 c.ptr x p M c.LV v K := by
   intro v hv hv1
   unfold S_pack_Parser_node_J1
   refine ⟨fun ht => ⟨inI_small (by omega) (by omega), fun M2 hle => fin M2 _ true (hP.up hc hle) (mpos (by rw [hv1 ht]; omega)) (by rw [← hv, ht]) fun _ => (hv1 ht).symm⟩, fun hf => ?_⟩
   have hneg : ¬ 0 ≤ c.res e p := fun h => hf (by rw [hv, decide_eq_true h])
   obtain ⟨far, want, hF, hB⟩ := hP
   rw [hx.set]
   refine (s_pack_Parser_miss _ _ _ _ _ _ (miss_is hc hB hF.wf hx.hs fun M2 far' want' hB2 hm => ⟨rfl, fun M3 hle => ?_⟩)).mono (fun g h => .inl h) (fun v M' _ h => h)
   have := hK M3 0 far' want' (hB2.up hc hle) (hF.miss hp (x := .node n p e) (by rw [missOf, if_pos (Int.not_le.1 hneg), if_pos k2]) hm) fun h => absurd h hneg
   rw [decide_eq_false hneg] at this
   exact this
  refine ⟨c.pb, 0, rfl, c.s, atS hP, fun hlt => ?_, fun hge => ?_⟩
  ·obtain ⟨d, hd⟩ := getI (l := c.s) hp hlt
   unfold setE at hr
   rw [hd] at hr
   simp only at hr
   rw [hx.set]
   refine ⟨c.pb, 0, rfl, c.s, atS hP, d, hp, hd, s_set_Has _ _ _ _ (has_is hx.hs d _ ⟨_, rfl, j1 _ ?_ fun hb => ?_⟩)⟩
   ·rw [Bool.eq_iff_iff, decide_eq_true_iff]
    split at hr <;> rename_i hb <;> simp only [hb, hr] <;> simp <;> omega
   ·rw [if_pos hb] at hr; exact hr
  ·unfold setE at hr
   rw [List.getElem?_eq_none (by omega)] at hr
   simp only at hr
   exact j1 _ (by rw [hr]; rfl) fun h => by cases h
 refine ⟨fun k3 => ?_, fun n3 => ?_⟩
 ·have ht := leaf (by omega)
  subst ht
  have h12 := g6 k3
  have hr : c.res e p = litE e.text c.s p := by unfold PkC.res; rw [endE_eq, if_neg n1, if_neg n2, if_pos k3]
  rw [hx.text]
  refine ⟨c.pb, 0, rfl, c.s, atS hP, hp, hl, by omega, s_strings_HasPrefix _ _ _ _ (prefix_is _ _ _ ⟨_, rfl, fun hyes => ⟨inI_small (by omega) (by omega), fun M2 hle => ?_⟩, fun hno => ?_⟩)⟩
  ·have hh := of_decide_eq_true hyes
   rw [Int.toNat_natCast, List.take_length, List.length_drop] at hh
   have hr2 : c.res e p = p + ((e.text.length : Nat) : Int) := by
    rw [hr]; unfold litE
    rw [if_pos ⟨by omega, by rw [List.drop_take, show (p + ((e.text.length : Nat) : Int)).toNat - p.toNat = e.text.length by omega]; exact hh.2⟩]
   exact fin M2 _ true (hP.up hc hle) (mpos (by rw [hr2]; omega)) (by rw [hr2]; exact (decide_eq_true (by omega)).symm) fun _ => hr2.symm
  ·have hh : ¬ (e.text.length ≤ (c.s.drop p.toNat).length ∧ (c.s.drop p.toNat).take e.text.length = e.text) := by
    intro h
    apply hno
    rw [Int.toNat_natCast, List.take_length, decide_eq_true h]
   have hneg : c.res e p = -1 := by
    rw [hr]; unfold litE
    rw [if_neg]
    rintro ⟨h1, h2⟩
    rw [List.drop_take, show (p + ((e.text.length : Nat) : Int)).toNat - p.toNat = e.text.length by omega] at h2
    exact hh ⟨by rw [List.length_drop]; omega, h2⟩
   obtain ⟨cl1, cl2⟩ := cpl_le (c.s.drop p.toNat) e.text
   have hlt : cpl (c.s.drop p.toNat) e.text < e.text.length := by
    rcases Nat.lt_or_ge (cpl (c.s.drop p.toNat) e.text) e.text.length with h | h
    ·exact h
    ·exact absurd (cpl_all _ _ (by omega)) hh
   have hme : missOf c.rs c.s c.E (.node n p e) = some (p + (cpl (c.s.drop p.toNat) e.text : Nat), fun b => decide ((e.text[cpl (c.s.drop p.toNat) e.text]?).map UInt8.toNat = some b)) := by
    rw [missOf, if_pos (show c.res e p < 0 by rw [hneg]; omega), if_neg n2, if_pos k3]
   have hsame := cpl_same (c.s.drop p.toNat) e.text
   have hend := cpl_end (c.s.drop p.toNat) e.text
   rw [List.length_drop] at cl1
   generalize hC : cpl (c.s.drop p.toNat) e.text = C at hlt hme hsame hend cl1 cl2
   have j2 : ∀ (k : Int) (v : Bool), 0 ≤ k → k ≤ C → (v = true → k + 1 ≤ C) → (v = false → k = C) → S_pack_Parser_node_J2 c.ptr x p M c.LV k (fun k => 0 ≤ k ∧ k ≤ C) (fun k => C - k.toNat) v K := by
    intro k v k0 k1 hv1 hv2
    unfold S_pack_Parser_node_J2
    refine ⟨fun ht => ⟨inI_small (by omega) (by omega), ⟨by omega, by have := hv1 ht; omega⟩, by have := hv1 ht; show C - (k + 1).toNat < C - k.toNat; omega⟩, fun hf => ?_⟩
    have hkC := hv2 (by simpa using hf)
    subst hkC
    obtain ⟨d, hd⟩ := getN (l := e.text) hlt
    have hd' : e.text[((C : Nat) : Int).toNat]? = some d := by rw [Int.toNat_natCast]; exact hd
    obtain ⟨far, want, hF, hB⟩ := hP
    rw [hx.text]
    refine ⟨inI_small (by omega) (by omega), d, k0, hd', d, k0, hd', ?_⟩
    rw [u8wF]
    refine s_set_Range _ _ _ _ (range_is _ _ _ ⟨_, rfl, (s_pack_Parser_miss _ _ _ _ _ _ (miss_is hc hB hF.wf (Us_wf _) fun M2 far' want' hB2 hm => ⟨rfl, fun M3 hle => ?_⟩)).mono (fun g h => .inl h) (fun v M' _ h => h)⟩)
    have := hK M3 0 far' want' (hB2.up hc hle) (hF.miss (by omega) hme (hm.as fun b hb => ?_)) fun h => by rw [hneg] at h; omega
    ·rw [decide_eq_false (by rw [hneg]; omega)] at this
     exact this
    ·rw [bit_Us hb, hd]
     unfold inR
     rw [Option.map_some, decide_eq_decide]
     simp only [Option.some.injEq]
     omega
   refine ⟨fun k => 0 ≤ k ∧ k ≤ C, fun k => C - k.toNat, ⟨by omega, by omega⟩, fun k ⟨k0, k1⟩ => ⟨inI_small (by omega) (by omega), c.pb, 0, rfl, c.s, atS hP, fun hlt2 => ?_, fun hge2 => ?_⟩⟩
   ·obtain ⟨a1, ha1⟩ := getI (l := c.s) (i := p + k) (by omega) hlt2
    obtain ⟨a2, ha2⟩ := getI (l := e.text) (i := k) k0 (by omega)
    have hdr : (c.s.drop p.toNat)[k.toNat]? = some a1 := by rw [List.getElem?_drop, ← ha1]; congr 1; omega
    refine ⟨c.pb, 0, rfl, c.s, atS hP, inI_small (by omega) (by omega), a1, by omega, ha1, a2, k0, ha2, j2 k _ k0 k1 (fun hv => ?_) fun hv => ?_⟩
    ·have hEq : a1 = a2 := by
      have := beq_iff_eq.1 hv
      exact UInt8.toNat_inj.1 (by omega)
     by_cases h : k < C
     ·omega
     ·exfalso
      have hkC : k.toNat = C := by omega
      rw [hkC] at hdr ha2
      exact hend a1 hdr (by rw [ha2, hEq])
    ·by_cases h : k < C
     ·exfalso
      have := hsame k.toNat (by omega)
      rw [hdr, ha2] at this
      have : a1 = a2 := Option.some.inj this
      rw [this] at hv
      simp at hv
     ·omega
   ·exact j2 k false k0 k1 (fun h => by cases h) fun _ => by omega
 refine ⟨fun k4 => ?_, fun n4 => ?_⟩
 ·have hf0 := hok.good.ref k4
  obtain ⟨hf1, hf2⟩ := findR_lt hf0
  have hr : c.res e p = c.E p.toNat (findR e.text c.rs 0).toNat := by unfold PkC.res; rw [endE_eq, if_neg n1, if_neg n2, if_neg n3, if_pos k4]
  have hrr : c.res e p = -1 ∨ (p ≤ c.res e p ∧ c.res e p ≤ c.s.length) := hc.hT.res hok hp hl
  rw [hx.text]
  refine ⟨c.pb, 0, rfl, _, _, _, atG hP, s_gram_Find _ _ _ _ _ _ (find_is (hc.gr.le hP.le) e.text _ ⟨_, rfl, (s_pack_Parser_Rule _ _ _ _ _ _ (h4 k4 M _ hP fun M2 hP2 => ⟨_, rfl, ?_⟩)).mono (fun g h => .inl h) (fun v M' _ h => h)⟩)⟩
  unfold S_pack_Parser_node_J3
  rw [← hr]
  unfold outE
  by_cases h0 : 0 ≤ c.res e p
  ·rw [if_pos h0]
   show InI (p + (c.res e p - p)) ∧ ∀ M', M2.le M' → K (.tuple #[.int .i64 (p + (c.res e p - p)), .bool true]) M'
   exact ⟨inI_small (by omega) (by omega), fun M3 hle => fin M3 _ true (hP2.up hc hle) (mpos h0) (decide_eq_true h0).symm fun _ => by omega⟩
  ·rw [if_neg h0]
   show InI (p + 0) ∧ ∀ M', M2.le M' → K (.tuple #[.int .i64 (p + 0), .bool false]) M'
   exact ⟨inI_small (by omega) (by omega), fun M3 hle => fin M3 _ false (hP2.up hc hle) (mnone n2 n3) (decide_eq_false h0).symm fun h => absurd h h0⟩
 refine ⟨fun k5 => ?_, fun n5 => ?_⟩
 ·refine (s_pack_Parser_seq _ _ _ _ _ _ _ (seq_is hc k5 hok hp hl hn0 hn1 (hch n4) hR hP fun M2 to hP2 hto => ⟨to, _, rfl, fun M3 hle => fin M3 to _ (hP2.up hc hle) (mnone n2 n3) rfl hto⟩)).mono (fun g h => .inl h) (fun v M' _ h => h)
 refine ⟨fun k6 => ?_, fun n6 => ?_⟩
 ·have hres : c.res e p = altE c.rs c.s c.E e.kids p := by
   unfold PkC.res; rw [endE_eq, if_neg n1, if_neg n2, if_neg n3, if_neg n4, if_neg n5, if_pos k6]
  have hch := hch n4
  unfold kidK at hch
  rw [if_neg n5, if_pos k6] at hch
  refine ⟨inI_small (by omega) (by omega), List Evt, fun t' k i M' => 0 ≤ i ∧ i ≤ e.kids.length ∧ k = n + 1 + preN e.kids i.toNat ∧ PI c t' M' ∧ ChainOk c e.kids (n + 1) (altK (endE c.rs c.s c.E) (e.kids.drop i.toNat) i p) t' t1 ∧ altE c.rs c.s c.E (e.kids.drop i.toNat) p = c.res e p, fun _ _ i => e.kids.length - i.toNat, t,
   ⟨by omega, by omega, by simp [preN], hP, by simpa using hch, by rw [hres]; rfl⟩, fun t' k i M' ⟨i0, i1, hkn, hP', hch', hrs⟩ => ⟨fun hlt => ?_, fun hge => ?_⟩⟩
  ·rw [hx.len] at hlt
   obtain ⟨ke, hk⟩ := getI (l := e.kids) i0 hlt
   have hkm := List.mem_of_getElem? hk
   obtain ⟨b, o, y, ha, hat, hy, _⟩ := hx.kid hk
   rw [drop_get hk, altK] at hch'
   rw [drop_get hk, altE] at hrs
   obtain ⟨e', t2, he', hT', hrest⟩ := hch'
   simp only at he' hT'
   rw [hk] at he'; cases he'
   have hroom := kid_room hn1 hk
   have hcnt := kid_cnt hk
   have hkr : c.res ke p = -1 ∨ (p ≤ c.res ke p ∧ c.res ke p ≤ c.s.length) := hc.hT.res (hok.kid hkm) hp hl
   have hT' := hT' (hok.kid hkm) hp hl (by omega) hroom
   rw [← hkn] at hT'
   refine ⟨b, o, ha, i0, by rw [hx.len]; exact hlt, y, hat.le hP'.le, (s_pack_Parser_try _ _ _ _ _ _ _ (hT' M' y _ hy hP' fun M2 to hP2 hto => ⟨to, _, rfl, fun hyes => ?_, fun hno => ?_⟩)).mono (fun g h => .inl h) (fun v M' _ h => h)⟩
   ·have h0 : 0 ≤ c.res ke p := by simpa using hyes
    rw [if_neg (Int.not_lt.2 h0)] at hrest
    have hne : c.res ke p ≠ -1 := by omega
    rw [if_pos hne] at hrs
    have hrest : t2 = t1 := hrest
    subst hrest
    have hto := hto h0
    subst hto
    have hrs : c.res ke p = c.res e p := hrs
    intro M3 hle
    rw [hrs]
    exact fin M3 _ true (hP2.up hc hle) (mnone n2 n3) (by rw [← hrs]; exact (decide_eq_true h0).symm) fun _ => rfl
   ·have h0 : c.res ke p < 0 := by simpa using hno
    rw [if_pos h0] at hrest
    have hne : ¬ c.res ke p ≠ -1 := by omega
    rw [if_neg hne] at hrs
    refine (s_pack_count _ _ _ _ (count_is _ ke (Nat.lt_succ_self _) (by omega) _ _ _ (hy.le hP2.le) fun M3 hle3 => ⟨_, rfl, ?_, ?_, t2, ⟨by omega, by omega, ?_, hP2.up hc hle3, ?_, ?_⟩, ?_⟩)).mono (fun _ h => h.elim) (fun v M' _ h => h)
    ·exact inI_small (by omega) (by omega)
    ·exact inI_small (by omega) (by omega)
    ·rw [show (i + 1).toNat = i.toNat + 1 by omega, preN_succ hk, hkn]; push_cast; omega
    ·rw [show (i + 1).toNat = i.toNat + 1 by omega]; exact hrest
    ·rw [show (i + 1).toNat = i.toNat + 1 by omega]; exact hrs
    ·show e.kids.length - (i + 1).toNat < e.kids.length - i.toNat
     omega
  ·rw [hx.len] at hge
   rw [List.drop_of_length_le (by omega), altK] at hch'
   rw [List.drop_of_length_le (by omega), altE] at hrs
   have hch' : t' = t1 := hch'
   subst hch'
   intro M2 hle
   exact fin M2 0 false (hP'.up hc hle) (mnone n2 n3) (by rw [← hrs]; rfl) fun h => by rw [← hrs] at h; omega
 ·refine (s_pack_Parser_single _ _ _ _ _ _ _ (single_is hc (by omega) hok hp hl hn0 hn1 (hch n4) hR hP fun M2 to hP2 hto => ⟨to, _, rfl, fun M3 hle => fin M3 to _ (hP2.up hc hle) (mnone n2 n3) rfl hto⟩)).mono (fun g h => .inl h) (fun v M' _ h => h)
end
end Go.Proofs.Ytifkffmecfgpeaa.core

namespace Go.Proofs.Ytifkffmecfgpeaa.core
open Go.Gx Go.RowKit Go.ChangeShapes Go.WideShapes Go.ChangeAt
set_option linter.unusedVariables false
def JobOk (rs : List Ru) (s : List UInt8) (E : Nat → Nat → Int) : Job → Prop
 | .node e _ p => PegOk rs e ∧ 0 ≤ p ∧ p ≤ s.length
 | .rule i p => 0 ≤ i ∧ i < rs.length ∧ 0 ≤ p ∧ p ≤ s.length
 | .kids L _ l => ∃ (e : Ex) (p : Int), L = e.kids ∧ PegOk rs e ∧ 0 ≤ p ∧ p ≤ s.length ∧ ∀ k ∈ l, k ∈ kidK rs s E e p
def LowE (rs : List Ru) (st : Nat → Nat) (e : Ex) (p i q : Int) : Prop := p < q ∨ (q = p ∧ ∃ j ∈ needsE rs (knOf rs) e, st i.toNat ≤ st j)
def LowJ (rs : List Ru) (st : Nat → Nat) : Job → Int → Int → Prop
 | .node e _ p, i, q => LowE rs st e p i q
 | .rule k p, i, q => p < q ∨ (q = p ∧ st i.toNat ≤ st k.toNat)
 | .kids L _ l, i, q => ∃ k ∈ l, ∃ e, L[k.Kid.toNat]? = some e ∧ LowE rs st e k.At i q
theorem goes_low {rs : List Ru} {s : List UInt8} {E : Nat → Nat → Int} (hw : WellOk rs) (hT : Tab rs s E) {st : Nat → Nat} (hst : ∀ (i : Nat) r, rs[i]? = some r → ∀ j ∈ needsE rs (knOf rs) r.body, st j < st i) {j : Job} {t t1 : List Evt} (h : Goes rs s E j t t1) :
  JobOk rs s E j → ∀ i q, Evt.done i q ∈ t1 → Evt.done i q ∈ t ∨ LowJ rs st j i q := by
 induction h with
 | @ref e n p t t' h4 _ ih =>
  intro ⟨hok, hp, hl⟩ i q hd
  have hf := hok.good.ref h4
  obtain ⟨f1, f2⟩ := findR_lt hf
  rcases ih ⟨hf, f2, hp, hl⟩ i q (by simpa using hd) with h | h | ⟨h1, h2⟩
  ·exact .inl h
  ·exact .inr (.inl h)
  ·exact .inr (.inr ⟨h1, _, by rw [needsE_eq, if_pos h4]; simp, h2⟩)
 | @inner e n p t t' h4 _ ih =>
  intro ⟨hok, hp, hl⟩ i q hd
  rcases ih ⟨e, p, rfl, hok, hp, hl, fun k hk => hk⟩ i q (by simpa using hd) with h | ⟨k, hk, x, hx, h⟩
  ·exact .inl h
  ·obtain ⟨_, _, x', hx', htr, hpk, hnd⟩ := kid_all hT hok hp hl k hk
   rw [hx] at hx'; cases hx'
   rcases h with h | ⟨h1, j0, h2, h3⟩
   ·exact .inr (.inl (by omega))
   ·by_cases he : k.At = p
    ·exact .inr (.inr ⟨by omega, j0, hnd he j0 h2, h3⟩)
    ·exact .inr (.inl (by omega))
 | seen _ => exact fun _ i q hd => .inl hd
 | @rule k p r t t' hn hr _ ih =>
  intro ⟨hk, hk2, hp, hl⟩ i q hd
  rcases List.mem_append.1 hd with hd | hd
  ·rcases ih ⟨hw.peg (List.mem_of_getElem? hr), hp, hl⟩ i q hd with h | h | ⟨h1, j0, h2, h3⟩
   ·exact .inl h
   ·exact .inr (.inl h)
   ·exact .inr (.inr ⟨h1, Nat.le_of_lt (Nat.lt_of_le_of_lt h3 (hst _ r hr j0 h2))⟩)
  ·simp only [List.mem_singleton, Evt.done.injEq] at hd
   obtain ⟨rfl, rfl⟩ := hd
   exact .inr (.inr ⟨rfl, Nat.le_refl _⟩)
 | nil => exact fun _ i q hd => .inl hd
 | @cons L n k l x t ta tb he _ _ ih1 ih2 =>
  intro ⟨e, p, hL, hok, hp, hl, hks⟩ i q hd
  obtain ⟨_, hk1, x', hx', htr⟩ := kid_all hT hok hp hl k (hks k (by simp))
  rw [← hL, he] at hx'; cases hx'
  rcases ih2 ⟨e, p, hL, hok, hp, hl, fun y hy => hks y (by simp [hy])⟩ i q hd with h | ⟨y, hy, r, hr, h⟩
  ·rcases ih1 ⟨hok.kid htr.1, by have := htr.2.1; omega, hk1⟩ i q h with h | h
   ·exact .inl h
   ·exact .inr ⟨k, by simp, x, he, h⟩
  ·exact .inr ⟨y, by simp [hy], r, hr, h⟩
theorem goes_own {rs : List Ru} {s : List UInt8} {E : Nat → Nat → Int} (hw : WellOk rs) (hT : Tab rs s E) {i p n : Int} {r : Ru} (hr : rs[i.toNat]? = some r) (hp : 0 ≤ p) (hl : p ≤ s.length) {t t1 : List Evt} (h : Goes rs s E (.node r.body n p) t t1) (hn : Evt.done i p ∉ t) : Evt.done i p ∉ t1 := by
 obtain ⟨st, _, hst⟩ := hw.stage
 intro hd
 rcases goes_low hw hT hst h ⟨hw.peg (List.mem_of_getElem? hr), hp, hl⟩ i p hd with h | h | ⟨_, j, h1, h2⟩
 ·exact hn h
 ·omega
 ·have := hst _ r hr j h1; omega
end Go.Proofs.Ytifkffmecfgpeaa.core

namespace Go.Proofs.Ytifkffmecfgpeaa.core
open Go.Gx Go.RowKit Go.ChangeShapes Go.WideShapes Go.ChangeAt
set_option linter.unusedVariables false
section
variable {c : PkC} {t t1 : List Evt} {i p : Int}
theorem rule_is (hc : c.Ok) (hi : 0 ≤ i) {rr : Ru} (hr : c.rs[i.toNat]? = some rr) (hp : 0 ≤ p) (hl : p ≤ c.s.length) (hn : Evt.done i p ∉ t) (hn1 : Evt.done i p ∉ t1) (hT : TryOk c rr.body (fstN c.rs i.toNat) p t t1) : RuleOk c i p t (t1 ++ [.done i p]) := by
 intro M K hP hK
 have hlt := (List.getElem?_eq_some_iff.1 hr).1
 have hgl := hc.gr.len
 have h10 := hc.hw.ok.ten
 have hs60 := hc.s60
 have hok := hc.hw.peg (List.mem_of_getElem? hr)
 have hE : c.E p.toNat i.toNat = c.res rr.body p := by
  have := hc.hT.fix p.toNat i.toNat rr (by omega) hr
  rw [show ((p.toNat : Nat) : Int) = p by omega] at this
  exact this
 have hrr : c.res rr.body p = -1 ∨ (p ≤ c.res rr.body p ∧ c.res rr.body p ≤ c.s.length) := hc.hT.res hok hp hl
 obtain ⟨b2, o2, ha2, hat2⟩ := hc.fst i.toNat hlt
 obtain ⟨r2, x2, b3, o3, hr2, ha3, hat3, hrr3⟩ := hc.gr.at hi (by omega)
 rw [hr] at hr2; cases hr2
 have atK : ∀ {t far want M}, PB c t far want M → ∃ la lc, M c.pb = some (.cells (c.cells la (logOf c.E t).length lc far want).toArray 136 (0, 0)) ∧ At M c.pb (0 + 2) [.map (some c.r)] ∧ At M c.pb 0 [.slice c.ga c.gl c.gc] ∧ At M c.pb (0 + 10) [.slice c.fa c.rs.length c.fc] ∧ At M c.pb (0 + 3) [.slice la (logOf c.E t).length lc] ∧ RowW M 62 4 la (logOf c.E t).length lc (cl X_api_Step.cells (logOf c.E t)) ∧ ∀ g, la = some ⟨g, 0, none⟩ → c.V g = none ∧ ¬ c.JB g ∧ g ≠ c.pb ∧ g ≠ c.r := fun h => by
  obtain ⟨la, lc, h1, h2, h3⟩ := h.bk
  have h0 := At.blk h1
  exact ⟨la, lc, h1, h0.part 2 [.map (some c.r)] rfl, h0.part 0 [.slice c.ga c.gl c.gc] rfl, h0.part 10 [.slice c.fa c.rs.length c.fc] rfl, h0.part 3 [.slice la _ lc] rfl, h2, h3⟩
 obtain ⟨far, want, hF, hB⟩ := id hP
 obtain ⟨la, lc, hblk, a1, a2, a3, a4, hrow, hla⟩ := atK hB
 obtain ⟨f, hf, hfd⟩ := hB.mp
 have hnone : f i p = none := by
  cases hv : f i p with
  | none => rfl
  | some v => exact absurd ((hfd i p v).1 hv).1 hn
 unfold S_pack_Parser_Rule
 rw [show c.gl = c.rs.length from hgl] at *
 refine ⟨c.pb, 0, rfl, _, a1, c.r, f, rfl, hf, inI_small (by omega) (by omega), inI_small (by omega) (by omega), ⟨false, 0⟩, by rw [hnone]; rfl, fun h => (by rw [hnone] at h; cases h), fun _ => ?_⟩
 refine ⟨c.pb, 0, rfl, _, _, _, a2, b3, o3, ha3, hi, by omega, x2.Body, (hat3.part 1 x2.Body.cells rfl).le hB.le, c.pb, 0, rfl, _, _, _, a3, b2, o2, ha2, hi, by omega, _, hat2.le hB.le, ?_⟩
 refine (s_pack_Parser_try _ _ _ _ _ _ _ (hT M x2.Body _ hrr3.2.2 hP fun M2 to hP2 hto => ⟨to, _, rfl, ?_⟩)).mono (fun g h => .inl h) (fun v M' _ h => h)
 have j1 : ∀ (ok : Bool) (N : Int), X_api_Outcome.mk ok N = outE (c.E p.toNat i.toNat) p → S_pack_Parser_Rule_J1 c.ptr i p M c.LV ok M2 N K := by
  intro ok N hout
  obtain ⟨far, want, hF, hB⟩ := hP2
  obtain ⟨la, lc, hblk, a1, a2, a3, a4, hrow, hla⟩ := atK hB
  obtain ⟨f, hf, hfd⟩ := hB.mp
  unfold S_pack_Parser_Rule_J1
  rw [hout]
  refine ⟨c.pb, 0, rfl, _, a1, c.r, f, rfl, hf, inI_small (by omega) (by omega), inI_small (by omega) (by omega), .inl hc.rV, fun M39 hS => ?_⟩
  have hne39 : ∀ b, b ≠ c.r → M39 b = M2 b := fun b hb => hS.ne hb
  have hblk39 : M39 c.pb = _ := (hne39 _ hc.pr).trans hblk
  have hrow39 := hrow.same (M' := M39) fun g o hg ho => by rw [hne39 g (hla g hg).2.2.2]; exact ho
  have hbound := hB.room hc
  refine ⟨c.pb, 0, rfl, la, (logOf c.E t1).length, lc, (At.blk hblk39).part 3 [.slice la _ lc] rfl, fun u hu => St_one ⟨i, p, outE (c.E p.toNat i.toNat) p⟩ u hu, _, hrow39, fun g hg => .inl (hla g hg).1, by omega, fun M49 ad50 cap51 hA => ?_⟩
  have h49pb : M49 c.pb = _ := hA.keep _ _ hblk39 fun g hg e => (hla g hg).2.2.1 e.symm
  refine ⟨c.pb, 0, rfl, Has.blk h49pb (by show 0 + 3 + 1 ≤ 11; omega), .inl hc.pbV, fun M54 hM54 M3 hle => ?_⟩
  refine hK M3 ⟨far, want, hF.skip rfl, PB.up hc ?_ hle⟩
  have hne54 : ∀ b, b ≠ c.pb → M54 b = M49 b := fun b hb => by rw [hM54]; exact Mem.put_ne hb
  have hold : ∀ b o, M2 b = some o → b ≠ c.r → b ≠ c.pb → (∀ g, la = some ⟨g, 0, none⟩ → b ≠ g) → M54 b = some o := fun b o ho h1 h2 h3 => by
   rw [hne54 b h2]; exact hA.keep b o (by rw [hne39 b h1]; exact ho) h3
  have hcells : cl X_api_Step.cells (logOf c.E t1) ++ (X_api_Step.mk i p (outE (c.E p.toNat i.toNat) p)).cells = cl X_api_Step.cells (logOf c.E (t1 ++ [.done i p])) := by rw [logOf_done]; exact cl_snoc _ _
  have hlen : (logOf c.E (t1 ++ [.done i p])).length = (logOf c.E t1).length + 1 := by rw [logOf_done, List.length_append]; rfl
  have hblkg : ∀ g, ad50 = some ⟨g, 0, none⟩ → c.V g = none ∧ ¬ c.JB g ∧ g ≠ c.pb ∧ g ≠ c.r := fun g hg => by
   rcases hA.blk g hg with h | h
   ·exact hla g h
   ·refine ⟨?_, fun hj => ?_, fun e => ?_, fun e => ?_⟩
    ·cases hv : c.V g with
     | none => rfl
     | some o =>
      have := hB.le g o hv
      rw [← hne39 g (fun e => by rw [e, hc.rV] at hv; cases hv), h] at this; cases this
    ·have := hc.has _ _ hB.j g hj
     rw [← hne39 g (fun e => hc.jr (e ▸ hj)), h] at this; cases this
    ·rw [e, hblk39] at h; cases h
    ·obtain ⟨o, hM39, hsome, _⟩ := hS
     rw [e, hM39, Mem.add_eq] at h; cases h
  refine ⟨fun b o ho => ?_, ⟨ad50, cap51, ?_, ?_, hblkg⟩, ?_, hc.done _ _ _ _ (hc.frame _ _ _ hB.j fun b hb => ?_), ?_, fun a b hab => ?_⟩
  ·exact hold b o (hB.le b o ho) (fun e => by rw [e, hc.rV] at ho; cases ho) (fun e => by rw [e, hc.pbV] at ho; cases ho) fun g hg e => by rw [e, (hla g hg).1] at ho; cases ho
  ·rw [hM54, Mem.put_eq h49pb, hlen]; rfl
  ·rw [hlen, ← hcells]
   exact hA.row.same fun g o hg ho => by rw [hne54 g (hblkg g hg).2.2.1]; exact ho
  ·obtain ⟨o, hM39, hsome, hset⟩ := hS
   have hm39 : M39 c.r = some o := by rw [hM39]; exact Mem.add_eq
   have hr54 : M54 c.r = M39 c.r := by
    rw [hne54 _ hc.pr.symm, hm39]
    exact hA.keep _ _ hm39 fun g hg e => (hla g hg).2.2.2 e.symm
   obtain ⟨es, clk, h4, h5⟩ := hset f (fun a b => if a = i ∧ b = p then some (outE (c.E p.toNat i.toNat) p).val else f a b) hf (by simp) (fun a b hab => by rw [if_neg hab])
   refine ⟨_, ⟨es, clk, hr54.trans h4, h5⟩, fun a b v => ?_⟩
   by_cases hab : a = i ∧ b = p
   ·rw [if_pos hab]
    obtain ⟨rfl, rfl⟩ := hab
    exact ⟨fun h => ⟨by simp, (Option.some.inj h).symm⟩, fun h => by rw [h.2]⟩
   ·rw [if_neg hab, hfd a b v]
    refine and_congr_left fun _ => ⟨fun h => by simp [h], fun h => ?_⟩
    rcases List.mem_append.1 h with h | h
    ·exact h
    ·simp only [List.mem_singleton, Evt.done.injEq] at h; exact absurd h hab
  ·have := hc.has _ _ hB.j b hb
   obtain ⟨o, ho⟩ := Option.isSome_iff_exists.1 this
   rw [ho]
   exact hold b o ho (fun e => hc.jr (e ▸ hb)) (fun e => hc.jpb (e ▸ hb)) fun g hg e => (hla g hg).2.1 (e ▸ hb)
  ·rw [logOf_done, List.map_append, List.nodup_append]
   refine ⟨hB.ks.1, by simp, fun a ha b hb => ?_⟩
   obtain ⟨y, hy, rfl⟩ := List.mem_map.1 ha
   obtain ⟨hy1, _⟩ := logOf_mem.1 hy
   have hk := hB.ks.2 _ _ hy1
   simp only [List.map_cons, List.map_nil, List.mem_singleton] at hb
   subst hb
   unfold keyS
   intro e
   have e1 : y.Rule = i := by simp only at e; omega
   have e2 : y.At = p := by simp only at e; omega
   rw [e1, e2] at hy1
   exact hn1 hy1
  ·rcases List.mem_append.1 hab with h | h
   ·exact hB.ks.2 a b h
   ·simp only [List.mem_singleton, Evt.done.injEq] at h
    obtain ⟨rfl, rfl⟩ := h
    exact ⟨hi, by omega, hp, hl⟩
 refine ⟨fun hyes => ⟨?_, j1 _ _ ?_⟩, fun hno => j1 _ _ ?_⟩
 ·have h0 : 0 ≤ c.res rr.body p := by simpa using hyes
  rw [hto h0]
  exact inI_small (by omega) (by omega)
 ·have h0 : 0 ≤ c.res rr.body p := by simpa using hyes
  rw [hto h0, hE, decide_eq_true h0]
  unfold outE
  rw [if_pos h0]
 ·have h0 : ¬ 0 ≤ c.res rr.body p := fun h => hno (decide_eq_true h)
  rw [hE, decide_eq_false h0]
  unfold outE
  rw [if_neg h0]
end
theorem rule_seen {c : PkC} {t : List Evt} {i p : Int} (hc : c.Ok) (hd : Evt.done i p ∈ t) : RuleOk c i p t t := by
 intro M K hP hK
 obtain ⟨far, want, hF, hB⟩ := id hP
 obtain ⟨la, lc, h1⟩ := hB.at
 obtain ⟨f, hf, hfd⟩ := hB.mp
 obtain ⟨k1, k2, k3, k4⟩ := hB.ks.2 i p hd
 have h10 := hc.hw.ok.ten
 have hs60 := hc.s60
 have hv := (hfd i p _).2 ⟨hd, rfl⟩
 unfold S_pack_Parser_Rule
 refine ⟨c.pb, 0, rfl, _, h1.part 2 [.map (some c.r)] rfl, c.r, f, rfl, hf, inI_small (by omega) (by omega), inI_small (by omega) (by omega), outE (c.E p.toNat i.toNat) p, by rw [hv]; rfl, fun _ M2 hle => hK M2 (hP.up hc hle), fun hn => absurd (by rw [hv]; rfl) hn⟩
def WalkOk (c : PkC) : Job → List Evt → List Evt → Prop
 | .node e n p, t, t' => PegOk c.rs e → 0 ≤ p → p ≤ c.s.length → 0 ≤ n → n + cnt e ≤ c.tot → TryOk c e n p t t'
 | .rule i p, t, t' => 0 ≤ i → i < c.rs.length → 0 ≤ p → p ≤ c.s.length → RuleOk c i p t t'
 | .kids L n l, t, t' => ChainOk c L n l t t'
theorem pack_walk {c : PkC} (hc : c.Ok) {j : Job} {t t' : List Evt} (h : Goes c.rs c.s c.E j t t') : WalkOk c j t t' := by
 induction h with
 | @ref e n p t t' h4 _ ih =>
  intro hok hp hl hn0 hn1
  have hf := hok.good.ref h4
  obtain ⟨f1, f2⟩ := findR_lt hf
  exact try_is hc hn0 (by have := cnt_pos e; omega) (node_is hc hok hp hl hn0 hn1 (fun _ => ih hf f2 hp hl) fun n4 => absurd h4 n4)
 | @inner e n p t t' h4 _ ih =>
  intro hok hp hl hn0 hn1
  exact try_is hc hn0 (by have := cnt_pos e; omega) (node_is hc hok hp hl hn0 hn1 (fun k4 => absurd k4 h4) fun _ => ih)
 | seen h => exact fun _ _ _ _ => rule_seen hc h
 | @rule i p r t t' hn hr hg ih =>
  intro hi hi2 hp hl
  have hsum := fstN_rule hr
  have htot := hc.tot
  exact rule_is hc hi hr hp hl hn (goes_own hc.hw hc.hT hr hp hl hg hn) (ih (hc.hw.peg (List.mem_of_getElem? hr)) hp hl (by omega) (by omega))
 | nil => rfl
 | cons he _ _ ih1 ih2 => exact ⟨_, _, he, ih1, ih2⟩
theorem prule_is {c : PkC} (hc : c.Ok) {i p : Int} (hi : 0 ≤ i) (hi2 : i < c.rs.length) (hp : 0 ≤ p) (hl : p ≤ c.s.length) {t : List Evt} {M : Mem} {K : Value → Mem → Prop} (hP : PI c t M) (hK : ∀ M' t', Goes c.rs c.s c.E (.rule i p) t t' → PI c t' M' → K (outE (c.E p.toNat i.toNat) p).val M') : S_pack_Parser_Rule c.ptr i p M c.LV K := by
 by_cases hd : Evt.done i p ∈ t
 ·exact pack_walk hc (.seen hd) hi hi2 hp hl M K hP fun M' => hK M' t (.seen hd)
 ·obtain ⟨r, hr⟩ := getN (l := c.rs) (i := i.toNat) (by omega)
  obtain ⟨t', ht⟩ := goes_ex hc.hw hc.hT r.body p (hc.hw.peg (List.mem_of_getElem? hr)) hp hl (fstN c.rs i.toNat) t
  exact pack_walk hc (.rule hd hr ht) hi hi2 hp hl M K hP fun M' => hK M' _ (.rule hd hr ht)
end Go.Proofs.Ytifkffmecfgpeaa.core

namespace Go.Proofs.Ytifkffmecfgpeaa.core
open Go.Gx Go.RowKit Go.ChangeShapes Go.WideShapes Go.ChangeAt
set_option linter.unusedVariables false
theorem At.off {M : Mem} {b o r : Nat} {vs : List Value} (h : At M b o vs) (hr : ∀ j, M.cell r j = none) : At (but M r) b o vs := fun j v hj => by
 have h1 := h j v hj
 by_cases hb : b = r
 ·subst hb; rw [hr] at h1; cases h1
 ·unfold Mem.cell at h1 ⊢
  rw [but_ne hb]; exact h1
theorem SlV.off {M : Mem} {a : Option Addr} {l c size r : Nat} {xs : List Value} (h : SlV M a l c size xs) (hr : ∀ j, M.cell r j = none) : SlV (but M r) a l c size xs :=
 ⟨h.1, h.2.1, h.2.2.1, fun h0 => by obtain ⟨b, o, e, ha⟩ := h.2.2.2 h0; exact ⟨b, o, e, At.off ha hr⟩⟩
section
variable {rs : List Ru} {s : List UInt8} {E : Nat → Nat → Int} {b r : Nat} {ga ea : Option Addr} {gl gc ec eb : Nat}
end
end Go.Proofs.Ytifkffmecfgpeaa.core

namespace Go.Proofs.Ytifkffmecfgpeaa.core
open Go.Gx Go.RowKit Go.ChangeShapes Go.WideShapes Go.ChangeAt
set_option linter.unusedVariables false
theorem new_raw {rs : List Ru} {s : List UInt8} {ga : Option Addr} {gl gc : Nat} {M : Mem} {K : Value → Mem → Prop} (hg : GrR M rs ga gl gc) (h10 : rs.length ≤ 10) (h120 : (rs.map fun r => cnt r.body).sum ≤ 100000)
  (hK : ∀ (V M' : Mem) (pb r : Nat) (fa : Option Addr) (fc : Nat), M.le V → V pb = none → V r = none → pb ≠ r → (∀ i, i < rs.length → ∃ b o, fa = some ⟨b, o, none⟩ ∧ At V b (o + i * 1) [Value.int .i64 (fstN rs i : Nat)]) →
   M' pb = some (.cells (X_pack_Parser.mk ga rs.length gc s (some r) none 0 0 (-1) (X_api_Set.mk 0 0 0 0) Value.nilFunc fa rs.length fc).cells.toArray 136 (0, 0)) → MapF M' r (fun _ _ => none) → V.le M' → K (.pointer (some ⟨pb, 0, none⟩)) M') :
  S_pack_New ga gl gc s M (fun _ => False) K := by
 have hgl := hg.len
 subst hgl
 unfold S_pack_New
 intro M6 r hr hM6 _
 have hle6 : M.le M6 := by rw [hM6]; exact Mem.add_le hr
 refine ⟨Unit, fun _ n i rn rx M' => 0 ≤ i ∧ i ≤ rs.length ∧ n = (fstN rs i.toNat : Nat) ∧ rn = i.toNat ∧ rx = cl iC ((List.range i.toNat).map fun j => ((fstN rs j : Nat) : Int)) ∧ M6.le M', fun _ _ i _ _ => rs.length - i.toNat, (), ⟨by omega, by omega, by simp [fstN], rfl, rfl, Mem.le.refl _⟩, fun _ n i rn rx M' ⟨i0, i1, hn, hrn, hrx, hle⟩ => ⟨fun hlt => ?_, fun hge => ?_⟩⟩
 ·obtain ⟨rr, x, b, o, hrr, ha, hat, hrx2⟩ := hg.at i0 hlt
  have hsum := fstN_rule hrr
  refine ⟨b, o, ha, i0, hlt, x, hat.le (hle6.trans hle), by omega, (s_pack_count _ _ _ _ (count_is _ rr.body (Nat.lt_succ_self _) (by omega) _ _ _ (hrx2.2.2.le (hle6.trans hle)) fun M2 hle2 => ⟨_, rfl, ?_, ?_, (), ⟨by omega, by omega, ?_, by omega, ?_, hle.trans hle2⟩, ?_⟩)).mono (fun _ h => h.elim) (fun v M' _ h => h)⟩
  ·exact inI_small (by omega) (by omega)
  ·exact inI_small (by omega) (by omega)
  ·rw [show (i + 1).toNat = i.toNat + 1 by omega, fstN_succ hrr, hn]; push_cast; rfl
  ·rw [hrx, hn, show (i + 1).toNat = i.toNat + 1 by omega, List.range_succ, List.map_append]
   exact cl_snoc _ _
  ·show rs.length - (i + 1).toNat < rs.length - i.toNat
   omega
 ·intro M64 hn64 M67 ad cap hn67 pb M68 hpb hM68 M3 hle3
  have hi : i.toNat = rs.length := by omega
  rw [hrn, hi] at hn67
  rw [hrx, hi] at hn67
  have hle67 : M6.le M67 := hle.trans (hn64.le.trans hn67.le)
  have hr67 : M67 r = some (.map #[] 0) := hle67 _ _ (by rw [hM6]; exact Mem.add_eq)
  have hcell : ∀ j, M67.cell r j = none := fun j => by unfold Mem.cell; rw [hr67]
  have hsl := SlV.off hn67.slv hcell
  have hne : pb ≠ r := by rintro rfl; rw [hpb] at hr67; cases hr67
  have hleV : (but M67 r).le M68 := (but_le _ _).trans (by rw [hM68]; exact Mem.add_le hpb)
  refine hK (but M67 r) M3 pb r ad cap (le_but (hle6.trans hle67) hr) ?_ (but_eq _ _) hne (fun j hj => ?_) ?_ ?_ (hleV.trans hle3)
  ·rw [but_ne hne]; exact hpb
  ·exact hsl.at iC_len (by simp) (x := ((fstN rs j : Nat) : Int)) (by rw [List.getElem?_map, List.getElem?_range hj]; rfl)
  ·refine hle3 _ _ ?_
   rw [hM68, Mem.add_eq, hrn, hi]; rfl
  ·refine MapF.le ?_ hle3
   obtain ⟨es, clk, h1, h2⟩ := MapF.new M r
   rw [Mem.add_eq] at h1
   cases h1
   refine ⟨#[], 0, ?_, h2⟩
   rw [hM68, Mem.add_ne hne.symm]; exact hr67
theorem new_is {rs : List Ru} {s : List UInt8} {E : Nat → Nat → Int} {ga : Option Addr} {gl gc : Nat} {M : Mem} {K : Value → Mem → Prop} (hw : WellOk rs) (hT : Tab rs s E) (hs : s.length ≤ 60) (hg : GrR M rs ga gl gc)
  (hK : ∀ (c : PkC) (M' : Mem), c.Ok → c.rs = rs → c.s = s → c.E = E → M.le c.V → PI c [] M' → K (.pointer c.ptr) M') : S_pack_New ga gl gc s M (fun _ => False) K := by
 have h10 := hw.ok.ten
 have h120 : (rs.map fun r => cnt r.body).sum ≤ 120 := hw.ok.all
 have hgl := hg.len
 refine new_raw hg h10 (by omega) fun V M' pb r fa fc hle h1 h2 h3 h4 h5 h6 h7 => ?_
 refine hK ⟨V, rs, s, E, pb, r, ga, fa, gl, gc, fc, .nilFunc, fun _ => False, fun _ _ => True, 120⟩ M' ?_ rfl rfl rfl hle ?_
 ·exact ⟨hw, hT, hs, hg.le hle, h4, h1, h2, h3, fun h => h, fun h => h, fun _ h => h.elim, fun _ _ _ _ _ => trivial, fun _ _ _ _ h => h.elim, ⟨true, .inl ⟨rfl, rfl⟩, fun _ _ _ _ _ _ _ => trivial, fun h => (by cases h)⟩, fun _ _ _ _ _ => trivial, h120, by show 120 ≤ 100000; omega⟩
 ·refine ⟨-1, X_api_Set.mk 0 0 0 0, FW.init _ _ _, h7, ⟨none, 0, ?_, ⟨rfl, Nat.le_refl _, by decide, .inl ⟨rfl, rfl, rfl⟩⟩, fun g hg => by cases hg⟩, ⟨_, h6, fun i p v => ⟨fun h => (by cases h), fun h => (by cases h.1)⟩⟩, trivial, by simp [logOf], fun i p h => by cases h⟩
  rw [h5, hgl]; rfl
end Go.Proofs.Ytifkffmecfgpeaa.core

namespace Go.Proofs.Ytifkffmecfgpeaa.core
open Go.Gx Go.RowKit Go.ChangeShapes Go.WideShapes Go.ChangeAt
set_option linter.unusedVariables false
theorem tab_same {rs : List Ru} {s : List UInt8} {E E' : Nat → Nat → Int} (hw : WellOk rs) (hT : Tab rs s E) (hT' : Tab rs s E') {p i : Nat} (hp : p ≤ s.length) (hi : i < rs.length) : E p i = E' p i := by
 obtain ⟨r, hr⟩ := getN (l := rs) hi
 have hok := hw.peg (List.mem_of_getElem? hr)
 obtain ⟨m, x, hx⟩ := ev_ex hw hT r.body p hok (by omega) (by omega)
 rw [hT.fix p i r hp hr, hT'.fix p i r hp hr, ← ev_res hw hT m _ _ _ hok (by omega) (by omega) hx, ← ev_res hw hT' m _ _ _ hok (by omega) (by omega) hx]
theorem LV_new {c : PkC} {M : Mem} {L : Nat → Prop} (h : M.le c.V) : ∀ b, c.LV b → Wr L M b := fun b hb => .inr (by
 cases hv : M b with
 | none => rfl
 | some o => have := h b o hv; rw [show c.V b = none from hb] at this; cases this)
section
variable {rs : List Ru} {s : List UInt8} {ga : Option Addr} {gl gc : Nat} {M : Mem} {K : Value → Mem → Prop}
theorem prun_is (hg : GrR M rs ga gl gc)
  (h1 : lookP rs s ≠ 0 → ∀ M', M.le M' → K (.tuple #[(X_api_Outcome.mk false 0).val, .slice none 0 0, .int .i64 (lookP rs s)]) M')
  (h3 : lookP rs s = 0 → ∀ E, Tab rs s E → ∀ t, Goes rs s E (.rule 0 0) [] t → ∀ M' la lc, M.le M' → SlV M' la (logOf E t).length lc 4 (cl X_api_Step.cells (logOf E t)) → K (.tuple #[(outE (E 0 0) 0).val, .slice la (logOf E t).length lc, .int .i64 0]) M') :
  S_pack_Run ga gl gc s M (fun _ => False) K := by
 unfold S_pack_Run
 refine s_mean_Look _ _ _ _ _ _ (mlook_is hg s _ ⟨_, rfl, fun h => h1 h, fun h => ?_⟩)
 have h0 : lookP rs s = 0 := Decidable.not_not.1 h
 obtain ⟨hw, hs⟩ := look_ok h0
 have h11 := hw.ok.one
 obtain ⟨E, hT⟩ := tab_ex (s := s) hw
 refine (s_pack_New _ _ _ _ _ _ _ (new_is hw hT hs hg fun c M2 hc hcr hcs hcE hle hP => ⟨_, rfl, ?_⟩)).mono (fun _ h => h.elim) (fun v M' _ h => h)
 subst hcr hcs hcE
 refine (s_pack_Parser_Rule _ _ _ _ _ _ (prule_is hc (Int.le_refl 0) (by omega) (Int.le_refl 0) (by omega) hP fun M3 t' hgo hP3 => ⟨_, rfl, ?_⟩)).mono (LV_new hle) (fun v M' _ h => h)
 obtain ⟨far, want, hF, hB⟩ := id hP3
 obtain ⟨la, lc, hb, hrow, _⟩ := hB.bk
 exact ⟨c.pb, 0, rfl, la, (logOf c.E t').length, lc, (At.blk hb).part 3 [.slice la _ lc] rfl, fun M4 hle4 => h3 h0 c.E hT t' hgo M4 la lc (hle.trans (hP3.le.trans hle4)) (hrow.slv.le hle4)⟩
end
end Go.Proofs.Ytifkffmecfgpeaa.core

namespace Go.Proofs.Ytifkffmecfgpeaa.core
open Go.Gx Go.RowKit Go.ChangeShapes Go.WideShapes Go.ChangeAt
set_option linter.unusedVariables false
noncomputable def accP (rs : List Ru) (s : List UInt8) : Bool := @decide (∃ E, Tab rs s E ∧ E 0 0 = (s.length : Int)) (Classical.propDecidable _)
theorem acc_eq {rs : List Ru} {s : List UInt8} {E : Nat → Nat → Int} (hw : WellOk rs) (hT : Tab rs s E) : accP rs s = decide (E 0 0 = (s.length : Int)) := by
 have h11 := hw.ok.one
 unfold accP
 rw [decide_eq_decide]
 exact ⟨fun ⟨E', hT', h⟩ => by rw [tab_same hw hT hT' (p := 0) (i := 0) (by omega) h11]; exact h, fun h => ⟨E, hT, h⟩⟩
theorem laccepts_is {rs : List Ru} {s : List UInt8} {ga : Option Addr} {gl gc : Nat} {M : Mem} {K : Value → Prop} (hg : GrR M rs ga gl gc) (h1 : lookP rs s ≠ 0 → K (.tuple #[.bool false, .int .i64 (lookP rs s)])) (h2 : lookP rs s = 0 → K (.tuple #[.bool (accP rs s), .int .i64 0])) : S_list_Accepts ga gl gc s M K := by
 unfold S_list_Accepts
 refine e_pack_Run _ _ _ _ _ _ (prun_is hg (fun h M' _ => ⟨_, _, _, _, _, rfl, fun h' => absurd h' h, fun _ => h1 h⟩) fun h E hT t _ M' la lc _ _ => ⟨_, _, _, _, _, rfl, fun _ => ?_, fun hn => absurd rfl hn⟩)
 obtain ⟨hw, hs60⟩ := look_ok h
 have h2 := h2 h
 rw [acc_eq hw hT] at h2
 by_cases h0 : 0 ≤ E 0 0
 ·refine ⟨fun _ => ?_, fun hn => absurd (by unfold outE; rw [if_pos h0]) hn⟩
  have e1 : (outE (E 0 0) 0).N = E 0 0 := by unfold outE; rw [if_pos h0]; simp
  rw [e1]; exact h2
 ·refine ⟨fun hy => ?_, fun _ => ?_⟩
  ·unfold outE at hy; rw [if_neg h0] at hy; cases hy
  ·rw [decide_eq_false (by omega)] at h2; exact h2
theorem raccepts_is {rs : List Ru} {s : List UInt8} {ga : Option Addr} {gl gc : Nat} {M : Mem} {K : Value → Prop} (hw : WellOk rs) (hs60 : s.length ≤ 60) (hg : GrR M rs ga gl gc) (hK : K (.bool (accP rs s))) : S_chaffref_Accepts ga gl gc s M K := by
 have h11 := hw.ok.one
 unfold S_chaffref_Accepts
 refine e_chaffref_Fill _ _ _ _ _ _ (fill_is hw hs60 hg _ fun M7 b ea ec eb E hle hT hTab => ⟨_, rfl, b, 0, rfl, _, _, _, hTab.en, eb, 0, hTab.ea, by omega, by omega, ?_⟩)
 obtain ⟨ra, rc, hra, hrow⟩ := hTab.row 0 (by omega) (by omega)
 obtain ⟨b3, o3, hb3, hat3⟩ := hrow.at iC_len (rowE_len E rs.length 0) (rowE_get (i := 0) h11)
 refine ⟨ra, _, rc, hra, b3, o3, hb3, by omega, by omega, _, hat3, ?_⟩
 rw [acc_eq hw hT] at hK
 exact hK
end Go.Proofs.Ytifkffmecfgpeaa.core

namespace Go.Proofs.Ytifkffmecfgpeaa.core
open Go.Gx Go.RowKit Go.ChangeShapes Go.WideShapes Go.ChangeAt
set_option linter.unusedVariables false
theorem inI_big {z : Int} (h1 : -100000000 ≤ z) (h2 : z ≤ 100000000) : InI z := by unfold InI; omega
def by8 (l : List UInt8) (i : Nat) : UInt8 := (l[i]?).getD 0
def at8 (l : List UInt8) (i : Nat) : Nat := (by8 l i).toNat
def Asc (l : List UInt8) : Prop := ∀ i, i + 1 < l.length → at8 l i < at8 l (i + 1)
theorem at8_get {l : List UInt8} {i : Nat} (h : i < l.length) : l[i]? = some (by8 l i) := by
 unfold by8; rw [List.getElem?_eq_getElem h]; rfl
theorem at8_set {l : List UInt8} {i j : Nat} {x : UInt8} (hi : i < l.length) : at8 (l.set i x) j = if j = i then x.toNat else at8 l j := by
 unfold at8 by8
 rw [List.getElem?_set]
 by_cases h : j = i
 ·subst h; rw [if_pos rfl, if_pos hi, if_pos rfl]; rfl
 ·rw [if_neg (Ne.symm h), if_neg h]
structure RowB (M : Mem) (g c : Nat) (l : List UInt8) : Prop where
 len : l.length ≤ c
 max : c ≤ maxLen
 blk : ∃ cur t f, M g = some (.cells cur t f) ∧ cur.size = c ∧ (f = (0, 0) ∨ cur.size ≤ f.1) ∧ cur.toList.take l.length = bytesV l
def Kp (g : Nat) (M M' : Mem) : Prop := ∀ b o, b ≠ g → M b = some o → M' b = some o
section
variable {M M' : Mem} {g c : Nat} {l : List UInt8}
theorem bytes_at {i : Nat} (h : i < l.length) : (bytesV l)[i]? = some (.int .u8 ((at8 l i : Nat) : Int)) := by
 unfold bytesV at8
 rw [List.getElem?_map, at8_get h]; rfl
theorem RowB.at (h : RowB M g c l) {i : Nat} (hi : i < l.length) : At M g (0 + i * 1) [.int .u8 ((at8 l i : Nat) : Int)] := by
 obtain ⟨cur, t, f, h1, h2, _, h4⟩ := h.blk
 intro j v hj
 cases j with
 | succ j => simp at hj
 | zero =>
  simp only [List.getElem?_cons_zero, Option.some.injEq] at hj
  subst hj
  unfold Mem.cell
  rw [h1]
  have h5 := bytes_at hi
  rw [← h4, List.getElem?_take, if_pos hi] at h5
  simpa using h5
theorem RowB.has (h : RowB M g c l) {i k : Nat} (hi : i + k ≤ l.length) : HasM M g i k := by
 obtain ⟨cur, t, f, h1, h2, h3, _⟩ := h.blk
 have := h.len
 exact ⟨cur, t, f, h1, by omega, h3⟩
theorem RowB.put (h : RowB M g c l) {i : Nat} (hi : i < l.length) (x : UInt8) : RowB (M.put g (0 + i * 1) [.int .u8 (x.toNat : Int)]) g c (l.set i x) := by
 obtain ⟨cur, t, f, h1, h2, h3, h4⟩ := h.blk
 have hl := h.len
 have hsz : (putAt cur.toList (0 + i * 1) [Value.int .u8 (x.toNat : Int)]).toArray.size = cur.size := by
  simp only [List.size_toArray, putAt, List.length_append, List.length_take, List.length_drop, Array.length_toList, List.length_cons, List.length_nil]
  omega
 refine ⟨by rw [List.length_set]; exact hl, h.max, _, t, f, Mem.put_eq h1, by rw [hsz]; exact h2, by rw [hsz]; exact h3, ?_⟩
 rw [List.length_set]
 show (putAt cur.toList (0 + i * 1) [Value.int .u8 (x.toNat : Int)]).take l.length = _
 rw [take_putAt _ _ _ _ (by simp; omega) (by simp; omega), h4]
 have := putAt_map (fun c : UInt8 => Value.int .u8 (c.toNat : Int)) l (0 + i * 1) x (by omega)
 unfold bytesV
 rw [this]
 simp
theorem RowB.cut (h : RowB M g c l) {k : Nat} (hk : k ≤ l.length) (vs : List Value) (hv : k + vs.length ≤ l.length) : RowB (M.put g k vs) g c (l.take k) := by
 obtain ⟨cur, t, f, h1, h2, h3, h4⟩ := h.blk
 have hl := h.len
 have hsz : (putAt cur.toList k vs).toArray.size = cur.size := by
  simp only [List.size_toArray, putAt, List.length_append, List.length_take, List.length_drop, Array.length_toList]
  omega
 have hlk : (l.take k).length = k := by rw [List.length_take]; omega
 refine ⟨by omega, h.max, _, t, f, Mem.put_eq h1, by rw [hsz]; exact h2, by rw [hsz]; exact h3, ?_⟩
 rw [hlk]
 show (putAt cur.toList k vs).take k = _
 have e1 : bytesV (l.take k) = (bytesV l).take k := by unfold bytesV; rw [List.map_take]
 rw [e1, ← h4, List.take_take, Nat.min_eq_left hk]
 unfold putAt
 rw [List.append_assoc, List.take_append_of_le_length (by rw [List.length_take, Array.length_toList]; omega), List.take_take, Nat.min_self]
theorem RowB.le (h : RowB M g c l) (hl : M.le M') : RowB M' g c l := by
 obtain ⟨cur, t, f, h1, h2⟩ := h.blk
 exact ⟨h.len, h.max, cur, t, f, hl _ _ h1, h2⟩
theorem RowB.slv (h : RowB M g c l) : SlV M (some ⟨g, 0, none⟩) l.length c 1 (bytesV l) := by
 refine ⟨by simp [bytesV], h.len, h.max, fun _ => ⟨g, 0, rfl, fun j v hj => ?_⟩⟩
 have hjl : j < l.length := by have := (List.getElem?_eq_some_iff.1 hj).1; simpa [bytesV] using this
 have := h.at hjl 0 v (by rw [bytes_at hjl] at hj; simpa using hj)
 simpa using this
theorem Kp.put {k : Nat} {vs : List Value} (h : Kp g M M') : Kp g M (M'.put g k vs) := fun b o hb hm => by rw [Mem.put_ne hb]; exact h b o hb hm
theorem Kp.le {M2 : Mem} (h : Kp g M M') (hl : M'.le M2) : Kp g M M2 := fun b o hb hm => hl b o (h b o hb hm)
theorem less_is (x y : Int) (M : Mem) (K : Value → Prop) (hK : K (.bool (decide (x < y)))) : S_cmp_Less_byte x y M K := by
 unfold S_cmp_Less_byte
 refine s_cmp_isNaN_byte _ _ _ ?_
 unfold S_cmp_isNaN_byte
 exact ⟨_, rfl, fun h => by simp at h, fun _ => hK⟩
theorem isort_is {L : Nat → Prop} {K : Value → Mem → Prop} (hR : RowB M g c l) (h8 : l.length ≤ 8) (hL : Wr L M g)
  (hK : ∀ M' l', RowB M' g c l' → l'.length = l.length → (∀ i, i + 1 < l.length → at8 l' i ≤ at8 l' (i + 1)) → (Asc l → l' = l) → Kp g M M' → K (.tuple #[]) M') : S_slices_insertionSortOrdered_byte (some ⟨g, 0, none⟩) l.length c 0 ((l.length : Nat) : Int) M L K := by
 unfold S_slices_insertionSortOrdered_byte
 refine ⟨inI_big (by omega) (by omega), List UInt8, fun l' i M' => 1 ≤ i ∧ i ≤ 9 ∧ RowB M' g c l' ∧ l'.length = l.length ∧ (∀ k : Nat, (k : Int) + 1 < i → k + 1 < l.length → at8 l' k ≤ at8 l' (k + 1)) ∧ (Asc l → l' = l) ∧ Kp g M M', fun _ i => 9 - i.toNat, l, ⟨by omega, by omega, hR, rfl, fun k h => by omega, fun _ => rfl, fun _ _ _ h => h⟩, fun l1 i M1 ⟨i1, i9, hR1, hl1, hs1, ha1, hk1⟩ => ⟨fun hlt => ?_, fun hge M' hle => ?_⟩⟩
 ·refine ⟨List UInt8, fun l' j M' => 0 ≤ j ∧ j ≤ i ∧ RowB M' g c l' ∧ l'.length = l.length ∧ (∀ k : Nat, (k : Int) + 1 ≤ i → (k : Int) + 1 ≠ j → at8 l' k ≤ at8 l' (k + 1)) ∧ (0 < j → j < i → at8 l' (j - 1).toNat ≤ at8 l' (j + 1).toNat) ∧ (Asc l → l' = l) ∧ Kp g M M', fun _ j => j.toNat, l1, ⟨by omega, Int.le_refl _, hR1, hl1, fun k h h' => hs1 k (by omega) (by omega), fun _ h => by omega, ha1, hk1⟩, fun l2 j M2 ⟨j0, ji, hR2, hl2, hs2, hc2, ha2, hk2⟩ => ?_⟩
  have hso : (j = 0 ∨ at8 l2 (j - 1).toNat ≤ at8 l2 j.toNat) → ∀ k : Nat, (k : Int) + 1 < i + 1 → k + 1 < l.length → at8 l2 k ≤ at8 l2 (k + 1) := fun h k hk _ => by
   by_cases hkj : (k : Int) + 1 = j
   ·rcases h with h | h
    ·omega
    ·rw [show (j - 1).toNat = k by omega, show j.toNat = k + 1 by omega] at h; exact h
   ·exact hs2 k (by omega) hkj
  refine ⟨fun hj => ?_, fun hj => ?_⟩
  ·have hj1 : j.toNat < l2.length := by omega
   have hj2 : (j - 1).toNat < l2.length := by omega
   refine ⟨g, 0, rfl, by omega, by omega, _, hR2.at hj1, inI_big (by omega) (by omega), g, 0, rfl, by omega, by omega, _, hR2.at hj2, s_cmp_Less_byte _ _ _ _ (less_is _ _ _ _ ⟨_, rfl, ?_⟩)⟩
   unfold S_slices_insertionSortOrdered_byte_J1
   refine ⟨fun hyes => ?_, fun hno => ⟨inI_big (by omega) (by omega), l2, ⟨by omega, by omega, hR2, hl2, hso (.inr ?_), ha2, hk2⟩, ?_⟩⟩
   ·have hlt2 : at8 l2 j.toNat < at8 l2 (j - 1).toNat := by have := of_decide_eq_true hyes; omega
    have hput := hR2.put hj1 (by8 l2 (j - 1).toNat)
    have hput2 := hput.put (i := (j - 1).toNat) (by rw [List.length_set]; exact hj2) (by8 l2 j.toNat)
    have hv : ∀ k, at8 ((l2.set j.toNat (by8 l2 (j - 1).toNat)).set (j - 1).toNat (by8 l2 j.toNat)) k = if k = (j - 1).toNat then at8 l2 j.toNat else if k = j.toNat then at8 l2 (j - 1).toNat else at8 l2 k := fun k => by
     rw [at8_set (by rw [List.length_set]; exact hj2), at8_set hj1]; rfl
    refine ⟨inI_big (by omega) (by omega), inI_big (by omega) (by omega), g, 0, rfl, by omega, by omega, _, hR2.at hj2, g, 0, rfl, by omega, by omega, _, hR2.at hj1, g, 0, rfl, by omega, by omega, hR2.has (by omega), ?_, fun M3 hM3 => ⟨g, 0, rfl, by omega, by omega, ?_, ?_, fun M4 hM4 => ⟨inI_big (by omega) (by omega), (l2.set j.toNat (by8 l2 (j - 1).toNat)).set (j - 1).toNat (by8 l2 j.toNat), ⟨by omega, by omega, ?_, ?_, fun k h1 h2 => ?_, fun h1 h2 => ?_, fun h => ?_, ?_⟩, ?_⟩⟩⟩
    ·exact hL
    ·rw [hM3]; exact hput.has (by rw [List.length_set]; omega)
    ·exact hL
    ·rw [hM4, hM3]; exact hput2
    ·rw [List.length_set, List.length_set]; exact hl2
    ·rw [hv, hv]
     by_cases e1 : k = (j - 1).toNat
     ·rw [if_pos e1, if_neg (by omega), if_pos (by omega)]; omega
     ·rw [if_neg e1]
      by_cases e2 : k = j.toNat
      ·rw [if_pos e2, if_neg (by omega), if_neg (by omega)]
       have := hc2 (by omega) (by omega)
       rw [show (j + 1).toNat = k + 1 by omega] at this; exact this
      ·rw [if_neg e2, if_neg (by omega), if_neg (by omega)]
       exact hs2 k (by omega) (by omega)
    ·rw [hv, hv, if_neg (by omega), if_neg (by omega), if_neg (by omega), if_pos (by omega)]
     have := hs2 (j - 1 - 1).toNat (by omega) (by omega)
     rw [show (j - 1 - 1).toNat + 1 = (j - 1).toNat by omega] at this; exact this
    ·have := h (j - 1).toNat (by omega)
     rw [ha2 h, show (j - 1).toNat + 1 = j.toNat by omega] at *
     omega
    ·rw [hM4, hM3]; exact hk2.put.put
    ·show (j - 1).toNat < j.toNat; omega
   ·have h2 : ¬ ((at8 l2 j.toNat : Nat) : Int) < ((at8 l2 (j - 1).toNat : Nat) : Int) := fun h => hno (decide_eq_true h)
    omega
   ·show 9 - (i + 1).toNat < 9 - i.toNat; omega
  ·unfold S_slices_insertionSortOrdered_byte_J1
   refine ⟨fun h => (by cases h), fun _ => ⟨inI_big (by omega) (by omega), l2, ⟨by omega, by omega, hR2, hl2, hso (.inl (by omega)), ha2, hk2⟩, ?_⟩⟩
   show 9 - (i + 1).toNat < 9 - i.toNat; omega
 ·exact hK M' l1 (hR1.le hle) hl1 (fun k hk => hs1 k (by omega) hk) ha1 (hk1.le hle)
theorem sort_is {L : Nat → Prop} {K : Value → Mem → Prop} (hR : RowB M g c l) (h1 : 1 ≤ l.length) (h8 : l.length ≤ 8) (hL : Wr L M g)
  (hK : ∀ M' l', RowB M' g c l' → l'.length = l.length → (∀ i, i + 1 < l.length → at8 l' i ≤ at8 l' (i + 1)) → (Asc l → l' = l) → Kp g M M' → K (.tuple #[]) M') : S_slices_Sort_byte (some ⟨g, 0, none⟩) l.length c M L K := by
 unfold S_slices_Sort_byte
 have hw : IntKind.wrap .u64 ((l.length : Nat) : Int) = ((l.length : Nat) : Int) := by
  have : ∀ n : Nat, n ≤ 8 → IntKind.wrap .u64 ((n : Nat) : Int) = ((n : Nat) : Int) := by decide
  exact this _ h8
 rw [hw]
 refine s_math_bits_Len _ _ _ ?_
 unfold S_math_bits_Len
 refine s_math_bits_Len64 _ _ _ ?_
 unfold S_math_bits_Len64 S_math_bits_Len64_J1 S_math_bits_Len64_J2 S_math_bits_Len64_J3
 refine ⟨fun h => by omega, fun _ => ⟨fun h => by omega, fun _ => ⟨fun h => by omega, fun _ => ?_⟩⟩⟩
 have hw8 : IntKind.wrap .u8 ((l.length : Nat) : Int) = ((l.length : Nat) : Int) := by
  have : ∀ n : Nat, n ≤ 8 → IntKind.wrap .u8 ((n : Nat) : Int) = ((n : Nat) : Int) := by decide
  exact this _ h8
 rw [hw8]
 have htab : ∀ n : Nat, n ≤ 8 → ∃ z : UInt8, ([0, 1, 2, 2, 3, 3, 3, 3, 4] : List UInt8)[n]? = some z ∧ InI (0 + IntKind.wrap .i64 ((z.toNat : Nat) : Int)) := fun n hn => by
  have : ∀ n : Nat, n ≤ 8 → (match ([0, 1, 2, 2, 3, 3, 3, 3, 4] : List UInt8)[n]? with | some z => decide (-100 ≤ IntKind.wrap .i64 ((z.toNat : Nat) : Int) ∧ IntKind.wrap .i64 ((z.toNat : Nat) : Int) ≤ 100) | none => false) = true := by decide
  have := this n hn
  split at this
  ·rename_i z hz
   have := of_decide_eq_true this
   exact ⟨z, hz, inI_big (by omega) (by omega)⟩
  ·cases this
 have fin : ∀ (T : List UInt8) (K' : UInt8 → Prop), T.take 9 = [0, 1, 2, 2, 3, 3, 3, 3, 4] → (∀ z, K' z) → ∃ c8 : UInt8, (0 : Int) ≤ ((l.length : Nat) : Int) ∧ T[((l.length : Nat) : Int).toNat]? = some c8 ∧ (InI (0 + IntKind.wrap .i64 (c8.toNat : Int)) ∧ K' c8) := fun T K' hT hK' => by
  obtain ⟨z, hz, hzI⟩ := htab _ h8
  refine ⟨z, by omega, ?_, hzI, hK' z⟩
  rw [Int.toNat_natCast]
  rw [← hT, List.getElem?_take] at hz
  split at hz
  ·exact hz
  ·cases hz
 refine fin _ _ ?_ fun z => ⟨_, rfl, _, rfl, ?_⟩
 ·rfl
 ·refine (s_slices_pdqsortOrdered_byte _ _ _ _ _ _ _ _ _ ?_).mono (fun b hb => hb) fun v M' _ h => h
  unfold S_slices_pdqsortOrdered_byte
  refine ⟨fun a b _ _ _ => a = 0 ∧ b = ((l.length : Nat) : Int), fun _ _ _ _ _ => 0, ⟨rfl, rfl⟩, fun a b lim x y ⟨ha, hb⟩ => ?_⟩
  subst ha hb
  refine ⟨inI_big (by omega) (by omega), fun _ => (s_slices_insertionSortOrdered_byte _ _ _ _ _ _ _ _ (isort_is hR h8 hL fun M' l' q1 q2 q3 q4 q5 => ⟨rfl, fun M2 hle => ⟨rfl, fun M3 hle3 => hK M3 l' (q1.le (hle.trans hle3)) q2 q3 q4 (q5.le (hle.trans hle3))⟩⟩)).mono (fun b hb => .inl (.inl hb)) fun v M' _ h => h, fun hn => absurd (by omega) hn⟩
theorem slA_at {k : Nat} (hk : k < c) : slA (some ⟨g, 0, none⟩) k c 1 = some ⟨g, k, none⟩ := by
 unfold slA
 rw [if_neg (by omega)]
 simp [Addr.add]
 exact fun h => h.symm
theorem compact_is {L : Nat → Prop} {K : Value → Mem → Prop} (hR : RowB M g c l) (h8 : l.length ≤ 8) (hL : Wr L M g)
  (h1 : (∀ i, i + 1 < l.length → at8 l i ≠ at8 l (i + 1)) → ∀ M', M.le M' → K (.slice (some ⟨g, 0, none⟩) l.length c) M')
  (h2 : ∀ i, i + 1 < l.length → at8 l i = at8 l (i + 1) → ∀ M' y, RowB M' g c y → y.length < l.length → Kp g M M' → K (.slice (some ⟨g, 0, none⟩) y.length c) M') : S_slices_Compact_byte (some ⟨g, 0, none⟩) l.length c M L K := by
 have hlc := hR.len
 unfold S_slices_Compact_byte
 refine ⟨fun hlt M' hle => h1 (fun i hi => by omega) M' hle, fun hge => ⟨fun k => 1 ≤ k ∧ k ≤ l.length ∧ ∀ i : Nat, (i : Int) + 1 < k → at8 l i ≠ at8 l (i + 1), fun k => l.length - k.toNat, ⟨by omega, by omega, fun i h => by omega⟩, fun k ⟨k1, k2, hne⟩ => ⟨fun hlt => ?_, fun hge M' hle => h1 (fun i hi => hne i (by omega)) M' hle⟩⟩⟩
 refine ⟨g, 0, rfl, by omega, hlt, _, hR.at (by omega), inI_big (by omega) (by omega), g, 0, rfl, by omega, by omega, _, hR.at (by omega), fun heq => ?_, fun hn => ⟨inI_big (by omega) (by omega), ⟨by omega, by omega, fun i hi => ?_⟩, ?_⟩⟩
 ·have hsl := slA_at (g := g) (c := c) (k := k.toNat) (by omega)
  rw [hsl]
  have heq2 : at8 l (k - 1).toNat = at8 l ((k - 1).toNat + 1) := by rw [show (k - 1).toNat + 1 = k.toNat by omega]; omega
  refine ⟨by omega, by omega, List UInt8, fun l' kk k2 M' => RowB M' g c l' ∧ l'.length = l.length ∧ 1 ≤ k2 ∧ k2 ≤ l.length - k ∧ k ≤ kk ∧ kk ≤ k + k2 - 1 ∧ Kp g M M', fun _ _ k2 => (l.length - k2).toNat, l, ⟨hR, rfl, by omega, by omega, by omega, by omega, fun _ _ _ h => h⟩, fun l' kk j M' ⟨r1, r2, r3, r4, r5, r6, r7⟩ => ⟨fun hj => ?_, fun hj => ?_⟩⟩
  ·have at2 : ∀ z : Int, 0 ≤ z → z < l.length - k → At M' g (k.toNat + z.toNat * 1) [.int .u8 ((at8 l' (k.toNat + z.toNat) : Nat) : Int)] := fun z z0 z1 => by
    have := r1.at (i := k.toNat + z.toNat) (by omega)
    rw [show k.toNat + z.toNat * 1 = 0 + (k.toNat + z.toNat) * 1 by omega]; exact this
   refine ⟨g, k.toNat, rfl, by omega, hj, _, at2 j (by omega) (by omega), inI_big (by omega) (by omega), g, k.toNat, rfl, by omega, by omega, _, at2 (j - 1) (by omega) (by omega), fun hd => ?_, fun hd => ?_⟩
   ·refine ⟨g, k.toNat, rfl, by omega, hj, _, at2 j (by omega) (by omega), g, 0, rfl, by omega, by omega, ?_, hL, fun M3 hM3 => ⟨inI_big (by omega) (by omega), ?_⟩⟩
    ·have := r1.has (i := kk.toNat) (k := 1) (by omega)
     rw [show 0 + kk.toNat * 1 = kk.toNat by omega]; exact this
    ·unfold S_slices_Compact_byte_J1
     refine ⟨inI_big (by omega) (by omega), l'.set kk.toNat (by8 l' (k.toNat + j.toNat)), ⟨?_, by rw [List.length_set]; exact r2, by omega, by omega, by omega, by omega, ?_⟩, ?_⟩
     ·rw [hM3]; exact r1.put (by omega) _
     ·rw [hM3]; exact r7.put
     ·show (l.length - (j + 1)).toNat < (l.length - j).toNat; omega
   ·unfold S_slices_Compact_byte_J1
    refine ⟨inI_big (by omega) (by omega), l', ⟨r1, r2, by omega, by omega, by omega, by omega, r7⟩, ?_⟩
    show (l.length - (j + 1)).toNat < (l.length - j).toNat; omega
  ·have hkk : kk.toNat < l.length := by omega
   refine ⟨by omega, by omega, g, kk.toNat, slA_at (by omega), by omega, r1.has (by omega), hL, fun M3 hM3 => ⟨by omega, by omega, fun M4 hle => ?_⟩⟩
   have hcut := r1.cut (k := kk.toNat) (by omega) (List.replicate (l.length - kk.toNat) (Value.int .u8 0)) (by rw [List.length_replicate]; omega)
   have hlen : (l'.take kk.toNat).length = kk.toNat := by rw [List.length_take]; omega
   have := h2 (k - 1).toNat (by omega) heq2 M4 (l'.take kk.toNat) (by rw [hM3] at hle; exact hcut.le hle) (by omega) (by rw [hM3] at hle; exact r7.put.le hle)
   rw [hlen] at this
   exact this
 ·by_cases hik : (i : Int) + 1 = k
  ·rw [show i = (k - 1).toNat by omega, show (k - 1).toNat + 1 = k.toNat by omega]; omega
  ·exact hne i (by omega)
 ·show l.length - (k + 1).toNat < l.length - k.toNat; omega
end
noncomputable def alphaP (a : List UInt8) : Int := if a.length = 0 then 1 else if 8 < a.length then 2 else @ite _ (Asc a) (Classical.propDecidable _) 0 3
theorem ralpha_is (a : List UInt8) (M : Mem) (L : Nat → Prop) (K : Value → Mem → Prop) (hK : ∀ M', M.le M' → K (.int .i64 (alphaP a)) M') : S_chaffref_Alpha a M L K := by
 unfold S_chaffref_Alpha
 refine ⟨fun h0 M' hle => ?_, fun h0 => ⟨fun h8 M' hle => ?_, fun h8 => ⟨by unfold maxLen; omega, fun M2 A c hnb => ?_⟩⟩⟩
 ·have := hK M' hle
  unfold alphaP at this
  rw [if_pos (by omega)] at this; exact this
 ·have := hK M' hle
  unfold alphaP at this
  rw [if_neg (by omega), if_pos (by omega)] at this; exact this
 have hv : alphaP a = @ite _ (Asc a) (Classical.propDecidable _) 0 3 := by unfold alphaP; rw [if_neg (by omega), if_neg (by omega)]
 obtain ⟨hle2, hlc, hcm, g, cur, t, f, rfl, hg, hb, hsz, hf, htk⟩ := hnb
 have hR : RowB M2 g c a := ⟨hlc, hcm, cur, t, f, hb, hsz, hf, htk⟩
 have hMle : ∀ {M'}, Kp g M2 M' → M.le M' := fun hk b o hbo => hk b o (fun e => by rw [e, hg] at hbo; cases hbo) (hle2 b o hbo)
 refine (s_slices_Sort_byte _ _ _ _ (fun b => b = g) _ (sort_is hR (by omega) (by omega) (.inl rfl) fun M5 l' r1 r2 r3 r4 r5 => ⟨rfl, ?_⟩)).mono (fun b hb => .inr (by rw [hb]; exact hg)) fun v M' _ h => h
 rw [← r2]
 have r3 : ∀ i, i + 1 < l'.length → at8 l' i ≤ at8 l' (i + 1) := fun i hi => r3 i (by omega)
 refine (s_slices_Compact_byte _ _ _ _ (fun b => b = g) _ (compact_is r1 (by omega) (.inl rfl) (fun hne M' hle => ⟨_, _, _, rfl, l', (r1.le hle).slv, rfl, fun hd M3 hle3 => ?_, fun hd M3 hle3 => ?_⟩) fun i hi he M' y hy hlt hk => ⟨_, _, _, rfl, y, hy.slv, rfl, fun _ M3 hle3 => ?_, fun hd => ?_⟩)).mono (fun b hb => .inr (by rw [hb]; exact hg)) fun v M' _ h => h
 ·have hna : ¬ Asc a := fun h => hd (r4 h)
  have := hK M3 (hMle ((r5.le hle).le hle3))
  rw [hv, if_neg hna] at this; exact this
 ·have he : l' = a := Decidable.not_not.1 hd
  have hasc : Asc a := fun i hi => by
   have h1 := r3 i (by rw [he]; exact hi)
   have h2 := hne i (by rw [he]; exact hi)
   rw [he] at h1 h2
   omega
  have := hK M3 (hMle ((r5.le hle).le hle3))
  rw [hv, if_pos hasc] at this; exact this
 ·have hna : ¬ Asc a := fun h => by
   have e := r4 h
   rw [e] at he hi
   have := h i hi
   omega
  have := hK M3 (fun b o hbo => hle3 b o (hk b o (fun e => by rw [e, hg] at hbo; cases hbo) (hMle r5 b o hbo)))
  rw [hv, if_neg hna] at this; exact this
 ·have : y = a := Decidable.not_not.1 hd
  rw [this] at hlt; omega
theorem walpha_is (a : List UInt8) (M : Mem) (K : Value → Prop) (hK : K (.int .i64 (alphaP a))) : S_walk_Alpha a M K := by
 unfold S_walk_Alpha
 unfold alphaP at hK
 refine ⟨fun h0 => ?_, fun h0 => ⟨fun h8 => ?_, fun h8 => ?_⟩⟩
 ·rw [if_pos (by rw [h0]; rfl)] at hK; exact hK
 ·rw [if_neg (by omega), if_pos (by omega)] at hK; exact hK
 ·have hl : a.length ≠ 0 := fun h => h0 (List.eq_nil_of_length_eq_zero h)
  rw [if_neg hl, if_neg (by omega)] at hK
  refine ⟨fun i => 1 ≤ i ∧ i ≤ a.length ∧ ∀ k : Nat, (k : Int) + 1 < i → at8 a k < at8 a (k + 1), fun i => a.length - i.toNat, ⟨by omega, by omega, fun k h => by omega⟩, fun i ⟨i1, i2, ha⟩ => ⟨fun hlt => ?_, fun hge => ?_⟩⟩
  ·refine ⟨_, by omega, at8_get (by omega), inI_big (by omega) (by omega), _, by omega, at8_get (by omega), fun hle => ?_, fun hgt => ⟨inI_big (by omega) (by omega), ⟨by omega, by omega, fun k hk => ?_⟩, ?_⟩⟩
   ·have hna : ¬ Asc a := fun h => by
     have := h (i - 1).toNat (by omega)
     rw [show (i - 1).toNat + 1 = i.toNat by omega] at this
     unfold at8 at this
     omega
    rw [if_neg hna] at hK; exact hK
   ·by_cases hki : (k : Int) + 1 = i
    ·rw [show k = (i - 1).toNat by omega, show (i - 1).toNat + 1 = i.toNat by omega]
     unfold at8
     omega
    ·exact ha k (by omega)
   ·show a.length - (i + 1).toNat < a.length - i.toNat; omega
  ·have hasc : Asc a := fun k hk => ha k (by omega)
   rw [if_pos hasc] at hK; exact hK
theorem alpha_ok {a : List UInt8} (h : alphaP a = 0) : 1 ≤ a.length ∧ a.length ≤ 8 ∧ Asc a := by
 unfold alphaP at h
 split at h
 ·omega
 split at h
 ·omega
 split at h
 ·rename_i h1; exact ⟨by omega, by omega, h1⟩
 ·omega
def geo (b : Nat) : Nat → Nat
 | 0 => 0
 | n + 1 => geo b n + b ^ n
theorem pow8 {b n : Nat} (hb : b ≤ 8) (hn : n ≤ 7) : b ^ n ≤ 2097152 := by
 have h1 : b ^ n ≤ 8 ^ n := Nat.pow_le_pow_left hb n
 have h2 : 8 ^ n ≤ 8 ^ 7 := Nat.pow_le_pow_right (by omega) hn
 have h3 : 8 ^ 7 = 2097152 := by decide
 omega
theorem geo8 {b : Nat} (hb : b ≤ 8) : ∀ n : Nat, n ≤ 7 → geo b n ≤ n * 2097152
 | 0, _ => by simp [geo]
 | n + 1, h => by
  have := geo8 hb n (by omega)
  have := pow8 hb (n := n) (by omega)
  rw [geo, Nat.succ_mul]; omega
theorem shorter_is {a : List UInt8} {n : Int} (h8 : a.length ≤ 8) (h0 : 0 ≤ n) (h7 : n ≤ 7) (M : Mem) (K : Value → Prop) (hK : K (.int .i64 ((geo a.length n.toNat : Nat) : Int))) : S_walk_shorter a n M K := by
 unfold S_walk_shorter
 refine ⟨fun o m i => 0 ≤ i ∧ i ≤ n ∧ o = ((geo a.length i.toNat : Nat) : Int) ∧ m = ((a.length ^ i.toNat : Nat) : Int), fun _ _ i => n.toNat - i.toNat, ⟨by omega, h0, rfl, rfl⟩, fun o m i ⟨i0, i1, ho, hm⟩ => ⟨fun hlt => ?_, fun hge => ?_⟩⟩
 ·have e1 : geo a.length (i + 1).toNat = geo a.length i.toNat + a.length ^ i.toNat := by rw [show (i + 1).toNat = i.toNat + 1 by omega, geo]
  have e2 : a.length ^ (i + 1).toNat = a.length ^ i.toNat * a.length := by rw [show (i + 1).toNat = i.toNat + 1 by omega, Nat.pow_succ]
  have b1 := geo8 h8 (i + 1).toNat (by omega)
  have b2 := pow8 h8 (n := (i + 1).toNat) (by omega)
  have hmm : m * ((a.length : Nat) : Int) = ((a.length ^ (i + 1).toNat : Nat) : Int) := by rw [hm, e2]; push_cast; rfl
  have hoo : o + m = ((geo a.length (i + 1).toNat : Nat) : Int) := by rw [ho, hm, e1]; push_cast; rfl
  have b3 : (i + 1).toNat * 2097152 ≤ 7 * 2097152 := Nat.mul_le_mul_right _ (by omega)
  refine ⟨inI_big (by omega) (by omega), inI_big (by omega) (by omega), inI_big (by omega) (by omega), ⟨by omega, by omega, hoo, hmm⟩, ?_⟩
  show n.toNat - (i + 1).toNat < n.toNat - i.toNat; omega
 ·rw [ho, show i = n by omega]; exact hK
theorem power_is {a : List UInt8} {n : Int} (h8 : a.length ≤ 8) (h0 : 0 ≤ n) (h7 : n ≤ 7) (M : Mem) (K : Value → Prop) (hK : K (.int .i64 ((a.length ^ n.toNat : Nat) : Int))) : S_chaffref_Power a n M K := by
 unfold S_chaffref_Power
 refine ⟨fun m i => 0 ≤ i ∧ i ≤ n ∧ m = ((a.length ^ i.toNat : Nat) : Int), fun _ i => n.toNat - i.toNat, ⟨by omega, h0, rfl⟩, fun m i ⟨i0, i1, hm⟩ => ⟨fun hlt => ?_, fun hge => ?_⟩⟩
 ·have e2 : a.length ^ (i + 1).toNat = a.length ^ i.toNat * a.length := by rw [show (i + 1).toNat = i.toNat + 1 by omega, Nat.pow_succ]
  have b2 := pow8 h8 (n := (i + 1).toNat) (by omega)
  have hmm : m * ((a.length : Nat) : Int) = ((a.length ^ (i + 1).toNat : Nat) : Int) := by rw [hm, e2]; push_cast; rfl
  refine ⟨inI_big (by omega) (by omega), inI_big (by omega) (by omega), ⟨by omega, by omega, hmm⟩, ?_⟩
  show n.toNat - (i + 1).toNat < n.toNat - i.toNat; omega
 ·rw [hm, show i = n by omega]; exact hK
theorem rmany_is {a : List UInt8} {n : Int} (h8 : a.length ≤ 8) (h0 : 0 ≤ n) (h6 : n ≤ 6) (M : Mem) (K : Value → Prop) (hK : K (.int .i64 ((geo a.length (n.toNat + 1) : Nat) : Int))) : S_chaffref_Many a n M K := by
 unfold S_chaffref_Many
 refine ⟨inI_big (by omega) (by omega), fun o i => 0 ≤ i ∧ i ≤ n + 1 ∧ o = ((geo a.length i.toNat : Nat) : Int), fun _ i => (n + 1).toNat - i.toNat, ⟨by omega, by omega, rfl⟩, fun o i ⟨i0, i1, ho⟩ => ⟨fun hlt => s_chaffref_Power _ _ _ _ (power_is h8 i0 (by omega) _ _ ⟨_, rfl, ?_⟩), fun hge => ?_⟩⟩
 ·have e1 : geo a.length (i + 1).toNat = geo a.length i.toNat + a.length ^ i.toNat := by rw [show (i + 1).toNat = i.toNat + 1 by omega, geo]
  have b1 := geo8 h8 (i + 1).toNat (by omega)
  have b3 : (i + 1).toNat * 2097152 ≤ 7 * 2097152 := Nat.mul_le_mul_right _ (by omega)
  have hoo : o + ((a.length ^ i.toNat : Nat) : Int) = ((geo a.length (i + 1).toNat : Nat) : Int) := by rw [ho, e1]; push_cast; rfl
  refine ⟨inI_big (by omega) (by omega), inI_big (by omega) (by omega), ⟨by omega, by omega, hoo⟩, ?_⟩
  show (n + 1).toNat - (i + 1).toNat < (n + 1).toNat - i.toNat; omega
 ·rw [ho, show i.toNat = n.toNat + 1 by omega]; exact hK
theorem wmany_is (a : List UInt8) (n : Int) (M : Mem) (K : Value → Prop) (h1 : alphaP a ≠ 0 → K (.tuple #[.int .i64 0, .int .i64 (alphaP a)])) (h2 : alphaP a = 0 → (n < 0 ∨ 6 < n) → K (.tuple #[.int .i64 0, .int .i64 1])) (h3 : alphaP a = 0 → 0 ≤ n → n ≤ 6 → K (.tuple #[.int .i64 ((geo a.length (n.toNat + 1) : Nat) : Int), .int .i64 0])) : S_walk_Many a n M K := by
 unfold S_walk_Many
 refine s_walk_Alpha _ _ _ (walpha_is a _ _ ⟨_, rfl, h1, fun h => ?_⟩)
 have h0 : alphaP a = 0 := Decidable.not_not.1 h
 obtain ⟨_, h8, _⟩ := alpha_ok h0
 have j1 : ∀ v : Bool, v = decide (n < 0 ∨ 6 < n) → S_walk_Many_J1 a n M v K := by
  intro v hv
  unfold S_walk_Many_J1
  refine ⟨fun ht => h2 h0 (of_decide_eq_true (hv ▸ ht)), fun hf => ?_⟩
  have hn : ¬ (n < 0 ∨ 6 < n) := fun h => hf (by rw [hv, decide_eq_true h])
  refine ⟨inI_big (by omega) (by omega), s_walk_shorter _ _ _ _ (shorter_is h8 (by omega) (by omega) _ _ ⟨_, rfl, ?_⟩)⟩
  rw [show (n + 1).toNat = n.toNat + 1 by omega]
  exact h3 h0 (by omega) (by omega)
 exact ⟨fun h => j1 _ (by symm; exact decide_eq_true (.inl h)), fun h => j1 _ (by rw [decide_eq_decide]; omega)⟩
end Go.Proofs.Ytifkffmecfgpeaa.core

namespace Go.Proofs.Ytifkffmecfgpeaa.core
open Go.Gx Go.RowKit Go.ChangeShapes Go.WideShapes Go.ChangeAt
set_option linter.unusedVariables false
noncomputable def listP (rs : List Ru) (a : List UInt8) (n : Int) : Int := if (wellP rs).2 ≠ 0 then (wellP rs).2 else if alphaP a ≠ 0 then alphaP a else if n < 0 ∨ 6 < n then 1 else if 5000 < geo a.length (n.toNat + 1) then 2 else 0
section
variable {rs : List Ru} {ga : Option Addr} {gl gc : Nat} {M : Mem}
theorem llook_is (hg : GrR M rs ga gl gc) (a : List UInt8) (n : Int) (K : Value → Prop) (hK : K (.int .i64 (listP rs a n))) : S_list_Look ga gl gc a n M K := by
 unfold S_list_Look
 unfold listP at hK
 refine s_well_Well _ _ _ _ _ (wwell_is hg _ ⟨_, _, rfl, fun h => ?_, fun h => ?_⟩)
 ·rw [if_pos h] at hK; exact hK
 rw [if_neg h] at hK
 refine s_walk_Many _ _ _ _ (wmany_is a n _ _ (fun h1 => ?_) (fun h1 h2 => ?_) fun h1 h2 h3 => ?_)
 ·rw [if_pos h1] at hK
  exact ⟨_, _, rfl, fun _ => hK, fun hn => absurd h1 hn⟩
 ·rw [if_neg (fun hn => hn h1), if_pos h2] at hK
  exact ⟨_, _, rfl, fun _ => hK, fun hn => absurd (by decide) hn⟩
 ·rw [if_neg (fun hn => hn h1), if_neg (by omega)] at hK
  refine ⟨_, _, rfl, fun hn => absurd rfl hn, fun _ => ⟨fun hgt => ?_, fun hle => ?_⟩⟩
  ·rw [if_pos (by omega)] at hK; exact hK
  ·rw [if_neg (by omega)] at hK; exact hK
theorem rlistable_is (hg : GrR M rs ga gl gc) (a : List UInt8) (n : Int) (K : Value → Prop) (hK : K (.int .i64 (listP rs a n))) : S_chaffref_Listable ga gl gc a n M K := by
 unfold S_chaffref_Listable
 unfold listP at hK
 refine s_chaffref_Well _ _ _ _ _ (rwell_is hg _ ⟨_, _, rfl, fun h => ?_, fun h => ?_⟩)
 ·rw [if_pos h] at hK; exact hK
 rw [if_neg h] at hK
 refine e_chaffref_Alpha _ _ _ (ralpha_is a _ _ _ fun M' hle => ⟨_, rfl, fun h1 => ?_, fun h1 => ?_⟩)
 ·rw [if_pos h1] at hK; exact hK
 rw [if_neg h1] at hK
 obtain ⟨_, h8, _⟩ := alpha_ok (Decidable.not_not.1 h1)
 have j1 : ∀ v : Bool, v = decide (n < 0 ∨ 6 < n) → S_chaffref_Listable_J1 a n M v K := by
  intro v hv
  unfold S_chaffref_Listable_J1
  refine ⟨fun ht => ?_, fun hf => ?_⟩
  ·rw [if_pos (of_decide_eq_true (hv ▸ ht))] at hK; exact hK
  ·have hn : ¬ (n < 0 ∨ 6 < n) := fun h => hf (by rw [hv, decide_eq_true h])
   rw [if_neg hn] at hK
   refine s_chaffref_Many _ _ _ _ (rmany_is h8 (by omega) (by omega) _ _ ⟨_, rfl, fun hgt => ?_, fun hle => ?_⟩)
   ·rw [if_pos (by omega)] at hK; exact hK
   ·rw [if_neg (by omega)] at hK; exact hK
 exact ⟨fun h => j1 _ (by symm; exact decide_eq_true (.inl h)), fun h => j1 _ (by rw [decide_eq_decide]; omega)⟩
end
end Go.Proofs.Ytifkffmecfgpeaa.core

