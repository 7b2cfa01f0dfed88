/- Contracts and what they hang on, of several parts. No condition. -/
import Derived.Test.YtmnilbfhfjdelaaGreatPackG
import Derived.Test.YtmnilbfhfjdelaaGreatM1
import Derived.Test.YtmnilbfhfjdelaaGreatCoreG
namespace Go.Proofs.YtmnilbfhfjdelaaGreat.core
open Go.Gx Go.RowKit Go.ChangeShapes Go.WideShapes Go.ChangeAt
set_option linter.unusedVariables false
def S_list_Accepts (ga1 : Option Addr) (gl2 : Nat) (gc3 : Nat) (s4 : List UInt8) (M : Mem) (K : Value → Prop) : Prop :=
 (CallE Tryz.prog 33 #[(.agg #[(.slice ga1 gl2 gc3)]), (.string (mkS s4))] M (fun v M11 => ∃ (x6 : X_api_Outcome) (xa7 : Option Addr) (xl8 : Nat) (xc9 : Nat) (x10 : Int), v = (Value.tuple #[x6.val, (.slice xa7 xl8 xc9), (.int .i64 x10)]) ∧ (((x10 : Int) = 0 → ((x6.Ok = true → K (Value.tuple #[(.bool ((x6.N : Int) == ((s4.length : Nat) : Int))), (.int .i64 x10)])) ∧ (¬ (x6.Ok = true) → K (Value.tuple #[(.bool false), (.int .i64 x10)])))) ∧ (¬ ((x10 : Int) = 0) → K (Value.tuple #[(.bool false), (.int .i64 x10)])))))
set_option maxRecDepth 100000 in
theorem s_list_Accepts (ga1 : Option Addr) (gl2 : Nat) (gc3 : Nat) (s4 : List UInt8) (M : Mem) (K : Value → Prop) (hS : S_list_Accepts ga1 gl2 gc3 s4 M K) : CallE Tryz.prog 19 #[(Value.agg #[(Value.slice ga1 gl2 gc3)]), (Value.string (mkS s4))] M (fun v _ => K v) := by
 refine eE2 Tryz.func19 30 fun E a hMM hs => ?_; unfold S_list_Accepts at hS; refine qr (stepBox [(.slice ga1 gl2 gc3)] hs rfl rfl rfl (by decide) (fun _ _ b5 hEb5 hs => ?_)); refine sP2 (.bool false) (iv 0) hs fun _ hs => ?_; refine wn (qr (sB [(.slice ga1 gl2 gc3)] true 0 hs fun _ hs => ?_)); refine sP (.string (mkS s4)) hs fun _ hs => ?_; refine cM [(.agg #[(.slice ga1 gl2 gc3)]), (.string (mkS s4))] hs hMM Tryz.func33 hS fun _ _ M11 v hMM hle hS hs => ?_; obtain ⟨x6, xa7, xl8, xc9, x10, rfl, hS⟩ := hS; refine sP4 (Value.tuple #[x6.val, (.slice xa7 xl8 xc9), (iv x10)]) x6.val (.slice xa7 xl8 xc9) (iv x10) hs fun _ hs => ?_; refine stepAlloc [(.bool false), (iv 0)] hs (by kernel_rfl) (by decide) (fun _ _ b12 hEb12 hs => ?_); refine stB 0 [(.bool x6.Ok), (iv x6.N)] [⟨b12, 79, [(.bool x6.Ok), (iv x6.N)]⟩, ⟨b5, 24, [(.slice ga1 gl2 gc3)]⟩] hs fun _ _ hs => ?_; refine sP2 (.slice xa7 xl8 xc9) (iv x10) hs fun _ hs => ?_; refine wn (qr (sP2 (iv x10) (.bool ((x10 : Int) == (0 : Int))) hs fun _ hs => ?_))
 refine sP (.bool ((x10 : Int) == (0 : Int))) hs fun _ hs => ?_; refine bsS beq_iff_eq hs hS (fun hs hS => ?_) (fun hs hS => ?_)
 ·refine ye (pt b12 0) hs fun _ hs => ?_; refine sYe hs (sB1 (.bool x6.Ok) 0 hs fun _ hs => ?_); refine sP2 (.bool x6.Ok) (.bool x6.Ok) hs fun _ hs => ?_; refine bsS Iff.rfl hs hS (fun hs hS => ?_) (fun hs hS => ?_)
  ·refine ye (pt b12 1) hs fun _ hs => ?_; refine sYe hs (sB1 (iv x6.N) 0 hs fun _ hs => ?_); refine ye (.string (mkS s4)) hs fun _ hs => ?_; refine ye (iv (s4.length : Int)) hs fun _ hs => ?_; refine ye (.bool ((x6.N : Int) == (s4.length : Int))) hs fun _ hs => ?_; refine sP4 (.bool ((x6.N : Int) == (s4.length : Int))) (iv x10) (.bool ((x6.N : Int) == (s4.length : Int))) (iv x10) hs fun _ hs => ?_; exact wn (qt (rTT hs hMM hS))
  ·repeat (first | refine sNo hs fun _ hs => ?_ | refine sNu hs fun _ hs => ?_)
   refine sP4 (.bool false) (iv x10) (.bool false) (iv x10) hs fun _ hs => ?_; exact wn (qt (rTT hs hMM hS))
 ·refine sNo hs fun _ hs => ?_; refine sNo hs fun _ hs => ?_; refine sP2 (.bool false) (.bool false) hs fun _ hs => ?_; repeat (first | refine sNo hs fun _ hs => ?_ | refine sNu hs fun _ hs => ?_)
  refine sP4 (.bool false) (iv x10) (.bool false) (iv x10) hs fun _ hs => ?_; exact wn (qt (rTT hs hMM hS))
def S_chaffref_Accepts (ga1 : Option Addr) (gl2 : Nat) (gc3 : Nat) (s4 : List UInt8) (M : Mem) (K : Value → Prop) : Prop :=
 (CallE Tryz.prog 23 #[(.agg #[(.slice ga1 gl2 gc3)]), (.string (mkS s4))] M (fun v M7 => ∃ (x6 : Option Addr), v = (Value.pointer x6) ∧ (∃ (b8 o9 : Nat), x6 = some ⟨b8, o9, none⟩ ∧ (∃ (xa10 : Option Addr) (xl11 : Nat) (xc12 : Nat), At M7 b8 (o9 + 2) [(.slice xa10 xl11 xc12)] ∧ (∃ (b13 o14 : Nat), xa10 = some ⟨b13, o14, none⟩ ∧ (0 : Int) ≤ 0 ∧ 0 < ((xl11 : Nat) : Int) ∧ (∃ (xa15 : Option Addr) (xl16 : Nat) (xc17 : Nat), At M7 b13 (o14 + (0 : Int).toNat * 1) [(.slice xa15 xl16 xc17)] ∧ (∃ (b18 o19 : Nat), xa15 = some ⟨b18, o19, none⟩ ∧ (0 : Int) ≤ 0 ∧ 0 < ((xl16 : Nat) : Int) ∧ (∃ (x20 : Int), At M7 b18 (o19 + (0 : Int).toNat * 1) [(.int .i64 x20)] ∧ K (Value.bool ((x20 : Int) == ((s4.length : Nat) : Int)))))))))))
set_option maxRecDepth 100000 in
theorem s_chaffref_Accepts (ga1 : Option Addr) (gl2 : Nat) (gc3 : Nat) (s4 : List UInt8) (M : Mem) (K : Value → Prop) (hS : S_chaffref_Accepts ga1 gl2 gc3 s4 M K) : CallE Tryz.prog 9 #[(Value.agg #[(Value.slice ga1 gl2 gc3)]), (Value.string (mkS s4))] M (fun v _ => K v) := by
 refine eE2 Tryz.func9 18 fun E a hMM hs => ?_; unfold S_chaffref_Accepts at hS; refine qr (stepBox [(.slice ga1 gl2 gc3)] hs rfl rfl rfl (by decide) (fun _ _ b5 hEb5 hs => ?_)); refine sP (.bool false) hs fun _ hs => ?_; refine wn (qr (sB [(.slice ga1 gl2 gc3)] true 0 hs fun _ hs => ?_)); refine sP (.string (mkS s4)) hs fun _ hs => ?_; refine cM [(.agg #[(.slice ga1 gl2 gc3)]), (.string (mkS s4))] hs hMM Tryz.func23 hS fun _ _ M7 v hMM hle hS hs => ?_; obtain ⟨x6, rfl, hS⟩ := hS; obtain ⟨b8, o9, hp, hS⟩ := hS; refine sY (.pointer (some ⟨b8, o9, none⟩)) hs (Yl.nilck rfl rfl hp) fun _ hs => ?_; refine sP (.pointer (some ⟨b8, o9 + 2, none⟩)) hs fun _ hs => ?_; obtain ⟨xa10, xl11, xc12, hat, hS⟩ := hS; refine sV1 (.slice xa10 xl11 xc12) hat hs fun _ hs => ?_; obtain ⟨b13, o14, ha, h0, hl, hS⟩ := hS; refine sI 58 1 ha h0 hl hs fun _ hs => ?_; obtain ⟨xa15, xl16, xc17, hat, hS⟩ := hS; refine sV1 (.slice xa15 xl16 xc17) hat hs fun _ hs => ?_; obtain ⟨b18, o19, ha, h0, hl, hS⟩ := hS
 refine sI 3 1 ha h0 hl hs fun _ hs => ?_; obtain ⟨x20, hat, hS⟩ := hS; refine sV1 (iv x20) hat hs fun _ hs => ?_; refine sP4 (.string (mkS s4)) (iv (s4.length : Int)) (.bool ((x20 : Int) == (s4.length : Int))) (.bool ((x20 : Int) == (s4.length : Int))) hs fun _ hs => ?_; exact wn (qt (rT hs hMM hS))
end Go.Proofs.YtmnilbfhfjdelaaGreat.core

namespace Go.Gx
open Go.RowKit
def HasM (M : Mem) (b o k : Nat) : Prop := ∃ c t f, M b = some (.cells c t f) ∧ o + k ≤ c.size ∧ (f = (0, 0) ∨ c.size ≤ f.1)
theorem Has.m {M : Mem} {b o k : Nat} (h : Has M b o k) : HasM M b o k := by
 obtain ⟨c, t, h1, h2⟩ := h
 exact ⟨c, t, _, h1, h2, .inl rfl⟩
theorem run_storeM (P : Program) (g o : Nat) (t : TypeId) (f : Nat × Nat) : ∀ (vs : List Value) (i : Nat) (cur : Array Value) (w : World), w.heap[g]? = some (.cells cur t f) → (f = (0, 0) ∨ cur.size ≤ f.1) → o + i + vs.length ≤ cur.size → (∀ v ∈ vs, v.oneCell' = true) →
  (storeCells ⟨g, o, none⟩ vs i).run P w = .ok () (w.setRow g (cur.toList.take (o + i) ++ vs ++ cur.toList.drop (o + i + vs.length)).toArray)
 | [], i, cur, w, hg, _, _, _ => by
  have e : (cur.toList.take (o + i) ++ [] ++ cur.toList.drop (o + i + ([] : List Value).length)).toArray = cur := by simp
  rw [e, setRow_self w g cur t f hg]
  rfl
 | v :: rest, i, cur, w, hg, hf, hl, h1 => by
  have hi : o + i < cur.size := by simp at hl; omega
  have hst : (store ((⟨g, o, none⟩ : Addr).add i) v).run P w = .ok () (w.setRow g (cur.setIfInBounds (o + i) v)) := by
   have hadd : (⟨g, o, none⟩ : Addr).add i = ⟨g, o + i, none⟩ := by unfold Addr.add; split <;> simp_all
   have hfro : w.frozen? ⟨g, o + i, none⟩ = false := by
    obtain ⟨lo, hi'⟩ := f
    rcases hf with h | h
    ·cases h; simp [World.frozen?, hg]
    ·simp only at h
     simp only [World.frozen?, hg, Bool.and_eq_false_iff, decide_eq_false_iff_not]
     exact .inl (by omega)
   have hcell : w.cell? ⟨g, o + i, none⟩ = some cur[o + i] := by simp [World.cell?, hg, hi]
   rw [hadd, run_store P w _ v _ (h1 v (by simp)), hcell]
   simp [hfro, setCell_eq_setRow w g (o + i) cur t f v hg]
  have ih := run_storeM P g o t f rest (i + 1) (cur.setIfInBounds (o + i) v) (w.setRow g (cur.setIfInBounds (o + i) v)) (setRow_heap w g cur _ t _ hg) (by simpa using hf) (by simp at hl ⊢; omega) (fun x hx => h1 x (by simp [hx]))
  simp only [storeCells, Sem.run_bind, hst, Result.andThen_ok, ih, setRow_setRow]
  congr 3
  have e := list_seg_step cur.toList (o + i) v rest (by simp at hl ⊢; omega)
  simpa [Array.toList_setIfInBounds, Nat.add_assoc] using e
def NewB (M M2 : Mem) (ad : Option Addr) (c : Nat) (l : List UInt8) : Prop :=
 M.le M2 ∧ l.length ≤ c ∧ c ≤ maxLen ∧ ∃ g cur t f, ad = some ⟨g, 0, none⟩ ∧ M g = none ∧ M2 g = some (.cells cur t f) ∧ cur.size = c ∧ (f = (0, 0) ∨ cur.size ≤ f.1) ∧ cur.toList.take l.length = bytesV l
section
variable {P : Program} {ops : Array Oper} {Q : Exit → Act → World → Prop} {n : Nat} {E : World} {M M0 : Mem} {L : Nat → Prop} {w : World} {a : Act} {env : Env} {bs : List Bx} {rs : List Rw} {rest : List Oper}
theorem Sx.putM (hs : Sx n E (bwW E M0 L) M w a env bs rs) (hM : WX M M0 E) {b k : Nat} {vs : List Value} {c : Array Value} {t : TypeId} {f : Nat × Nat} (hc : M b = some (.cells c t f)) (hw : L b ∨ M0 b = none) {a' : Act} {env' : Env} (hA : Ag n a' env') :
  Sx n E (bwW E M0 L) (M.put b k vs) (w.setRow b (putAt c.toList k vs).toArray) a' env' bs rs := by
 have hb := hs.on b _ hc
 have hother : ∀ x, x ≠ b → (w.setRow b (putAt c.toList k vs).toArray).heap[x]? = w.heap[x]? := by
  intro x hx
  simp only [World.setRow, Array.getElem?_modify]
  rw [if_neg (by omega)]
 refine ⟨hA, fun x o hx => ?_, ?_, fun x hx => ?_, fun r hr => ?_, hs.nd⟩
 ·by_cases hxb : x = b
  ·subst hxb
   rw [Mem.put_eq hc] at hx
   rw [← hx]
   exact setRow_heap w x c (putAt c.toList k vs).toArray t f hb
  ·rw [Mem.put_ne hxb] at hx
   rw [hother x hxb]; exact hs.on x o hx
 ·obtain ⟨h1, h2, h3, h4, h5⟩ := hs.pr
  refine ⟨h1, h2, h3, by simpa [World.setRow] using h4, fun x hx hn => ?_⟩
  rw [hother x (by
   rintro rfl
   rcases hM.old _ _ hc with h | h
   ·refine hn (mem_bwW.2 ⟨hx, ?_, h⟩)
    rcases hw with h' | h'
    ·exact h'
    ·rw [h'] at h; cases h
   ·omega)]
  exact h5 x hx hn
 ·obtain ⟨h1, h2, h3⟩ := hs.bx x hx
  have hne : x.b ≠ b := by rintro rfl; rw [h2] at hc; cases hc
  exact ⟨(hother _ hne).trans h1, by rw [Mem.put_ne hne]; exact h2, h3⟩
 ·obtain ⟨h1, h2⟩ := hs.rw r hr
  have hne : ∀ g, r.v.ownBlock = some g → g ≠ b := fun g hg => by rintro rfl; rw [(h2 g hg).1] at hc; cases hc
  exact ⟨ownsRow_keep h1 fun g hg => hother g (hne g hg), fun g hg => ⟨by rw [Mem.put_ne (hne g hg)]; exact (h2 g hg).1, (h2 g hg).2⟩⟩
theorem stepStoreM {t ty : TypeId} {p x : Operand} {pos : String} {af : Array Edge} {b k : Nat} {vs : List Value} {v : Value} (hs : Sx n E (bwW E M0 L) M w a env bs rs) (hM : WX M M0 E) (hkp : known env p = true) (hkx : known env x = true)
  (hp : evT env p = .pointer (some ⟨b, k, none⟩)) (hx : evT env x = v) (hc : v.cells = vs.toArray) (hn : (P.info? t).map (·.size) = some vs.length) (h1 : vs.all (·.oneCell') = true) (hfit : HasM M b k vs.length) (hw : L b ∨ M0 b = none)
  (h : ∀ a' w' M2, M2 = M.put b k vs → WX M2 M0 E → Sx n E (bwW E M0 L) M2 w' a' env bs rs → wpList P ops Q rest a' w') : wpList P ops Q (⟨none, .store t p x, ty, pos, af, none⟩ :: rest) a w := by
 refine stepK0 (Z := fun _ _ => False) hs (fun _ _ h => h.elim) rfl (by simp [okOp, notSel, Op.operands, hkp, hkx]) rfl ?_
 obtain ⟨c, bt, f, hb, hfit, hf⟩ := hfit
 have hbw := hs.on b _ hb
 have hst := run_storeM P b k bt f vs 0 c w hbw hf (by simpa using hfit) (fun u hu => List.all_eq_true.1 h1 u hu)
 refine OpW.of_skip (w' := w.setRow b (putAt c.toList k vs).toArray) ?_ ?_
 ·cases hin : P.info? t with
  | none => simp [hin] at hn
  | some ti =>
   simp [hin] at hn
   have e : (c.toList.take (k + 0) ++ vs ++ c.toList.drop (k + 0 + vs.length)).toArray = (putAt c.toList k vs).toArray := by simp [putAt]
   rw [e] at hst
   simp [execOp, Instr.storeAt, hp, hx, Instr.sureAddr, storeVar, hc, sizeOf, typeInfo, hin, hn, hst]
 ·intro a' hA
  exact h a' _ _ rfl (hM.put b k vs) (hs.putM hM hb hw hA)
theorem stepClearM {P : Program} {ops : Array Oper} {Q : Exit → Act → World → Prop} {n : Nat} {E : World} {M0 M : Mem} {L : Nat → Prop} {w : World} {a : Act} {env : Env} {bs : List Bx} {rs : List Rw} {rest : List Oper} {t e ty : TypeId} {x : Operand} {pos : String} {af : Array Edge} {b k l c : Nat} {ad : Option Addr} (z : Value) (hs : Sx n E (bwW E M0 L) M w a env bs rs) (hM : WX M M0 E)
  (had : ad = some ⟨b, k, none⟩) (hl : 0 < l) (hfit : HasM M b k l) (hw : L b ∨ M0 b = none) (h : ∀ a' w' M2, M2 = M.put b k (List.replicate l z) → WX M2 M0 E → Sx n E (bwW E M0 L) M2 w' a' env bs rs → wpList P ops Q rest a' w')
  (hkx : known env x = true := by rfl) (hx : evT env x = .slice ad l c := by rfl) (ht : P.underlying t = some (.slice e) := by kernel_rfl) (hz : (P.info? e).bind (·.zero) = some z := by kernel_rfl) (hzc : z.cells = #[z] := by rfl) (h1 : z.oneCell' = true := by rfl) :
  wpList P ops Q (⟨none, .call { callee := .builtin .clear, args := #[x], argTypes := #[t] }, ty, pos, af, none⟩ :: rest) a w := by
 subst had
 refine stepK0 (Z := fun _ _ => False) hs (fun _ _ h => h.elim) rfl (by simp [okOp, notSel, Op.operands, Call.operands, hkx]) rfl ?_
 obtain ⟨cs, bt, f, hb, hfit, hf⟩ := hfit
 have hbw := hs.on b _ hb
 have hst := run_storeM P b k bt f (List.replicate l z) 0 cs w hbw hf (by simpa using hfit) (fun u hu => by rw [List.eq_of_mem_replicate hu]; exact h1)
 have e1 : (cs.toList.take (k + 0) ++ List.replicate l z ++ cs.toList.drop (k + 0 + (List.replicate l z).length)).toArray = (putAt cs.toList k (List.replicate l z)).toArray := by simp [putAt]
 rw [e1] at hst
 have hzs : (Builtin.zeroCells z.cells l).toList = List.replicate l z := by
  rw [hzc]
  simp [Builtin.zeroCells]
  apply List.ext_getElem
  ·simp
  ·intro i h1 h2
   simp [Nat.mod_one]
 obtain ⟨m, rfl⟩ : ∃ m, l = m + 1 := ⟨l - 1, by omega⟩
 refine OpW.of_run (v := .tuple #[]) (w' := w.setRow b (putAt cs.toList k (List.replicate (m + 1) z)).toArray) ?_ fun a' hA => h a' _ _ rfl (hM.put b k _) (hs.putM hM hb hw hA)
 cases hi : P.info? e with
 | none => simp [hi] at hz
 | some ti =>
  simp [hi] at hz
  simp [execOp, resolve, invoke, builtin, hx, Builtin.clear_, run_underlying ht, zeroValue, typeInfo, hi, hz, hzs, hst, Result.andThen]
theorem stepBytesW {d : Nat} {src dst e ty : TypeId} {x : Operand} {pos : String} {af : Array Edge} {l : List UInt8} (hs : Sx n E (bwW E M0 L) M w a env bs rs) (hMM : WX M M0 E) (hm : l.length ≤ maxLen)
  (h : ∀ a' w' M' A c, NewB M M' A c l → WX M' M0 E → Sx n E (bwW E M0 L) M' w' a' ((d, .slice A l.length c) :: env) bs rs → wpList P ops Q rest a' w')
  (hkx : known env x = true := by rfl) (hx : evT env x = .string (mkS l) := by rfl) (hsr : P.underlying src = some .string := by kernel_rfl) (hd : P.underlying dst = some (.slice e) := by kernel_rfl) (he : P.underlying e = some (.int .u8) := by kernel_rfl) (hdn : d < n := by decide) : wpList P ops Q (⟨some d, .convert src dst x, ty, pos, af, none⟩ :: rest) a w := by
 refine stepK (Z := fun _ _ => False) (d := d) hs (fun _ _ h => h.elim) rfl (by simp [okOp, notSel, Op.operands, hkx]) rfl hdn ?_
 have hrun := run_bytes_of_string (P := P) w src dst e (mkS l) hsr hd he
 refine OpW.of_run (w' := _) (v := .slice (some ⟨w.heap.size, 0, none⟩) l.length (grownCap w l.length 0 e)) (by simp only [execOp, hx, Sem.run_bind, hrun, Result.andThen_ok]; rfl) ?_
 intro a' hA
 have hcap1 := grownCap_ge w l.length 0 e
 have hcap2 := grownCap_le_maxLen w l.length 0 e hm
 let cur := bytesRow (mkS l) (grownCap w (mkS l).size 0 e)
 let ob : Obj := .cells cur e (cur.size, cur.size + 1)
 have hb : Below w.heap.size w (w.drew.alloc ob) := ((Below.refl _ w).drew).alloc (Nat.le_refl _) _
 have hgo := grow_on (w' := w.drew.alloc ob) hs.on (fun k hk _ => hb.block k hk)
 have hnew : (w.drew.alloc ob).heap[w.heap.size]? = some ob := heap_alloc_new w.drew ob
 have hle := grow_le (w' := w.drew.alloc ob) hs.on
 have hsz : cur.size = grownCap w l.length 0 e := by
  show (bytesRow (mkS l) (grownCap w (mkS l).size 0 e)).size = _
  have e2 : (mkS l).size = l.length := rfl
  have e3 : ∀ c : Nat, l.length ≤ c → (bytesRow (mkS l) c).size = c := fun c hc => by
   unfold bytesRow
   have e4 : (mkS l).data.size = l.length := rfl
   simp [e2, e4]
   omega
  rw [e2]
  exact e3 _ hcap1
 refine h a' (w.drew.alloc ob) (grow M w (w.drew.alloc ob)) (some ⟨w.heap.size, 0, none⟩) (grownCap w l.length 0 e) ⟨hle, hcap1, hcap2, w.heap.size, cur, e, (cur.size, cur.size + 1), rfl, hs.on.noneAt (Nat.le_refl _), ?_, hsz, .inr (Nat.le_refl _), ?_⟩ (hMM.next hle fun b o hbo => ?_) ((hs.later hb hgo (fun b hb => ?_)).act hA)
 ·unfold grow
  rw [if_pos (Nat.le_refl _), hnew]
 ·apply List.ext_getElem?
  intro j
  rw [List.getElem?_take]
  split
  ·rename_i hj
   have h1 : (bytesV l)[j]? = some (.int .u8 ((l[j]'hj).toNat : Int)) := by simp [bytesV, hj]
   rw [h1]
   show (bytesRow (mkS l) _).toList[j]? = _
   unfold bytesRow
   rw [Array.getElem?_toList, Array.getElem?_append_left (by simp [mkS, hj])]
   simp [mkS, hj]
  ·rw [List.getElem?_eq_none (by simp [bytesV]; omega)]
 ·unfold grow at hbo
  by_cases hk : w.heap.size ≤ b
  ·exact .inr (Nat.le_trans hs.pr.size hk)
  ·rw [if_neg hk] at hbo; exact .inl hbo
 ·unfold grow
  rw [if_neg (by omega)]
end
def RowM (M : Mem) (e size : Nat) (ad : Option Addr) (n cap : Nat) (xs : List Value) : Prop :=
 xs.length = n * size ∧ n ≤ cap ∧ cap ≤ maxLen ∧ ∃ g cur t f, ad = some ⟨g, 0, none⟩ ∧ M g = some (.cells cur t f) ∧ cur.size = cap * size ∧ (f = (0, 0) ∨ cur.size ≤ f.1) ∧ cur.toList.take (n * size) = xs
structure AppM (M M2 : Mem) (e size : Nat) (ad ad2 : Option Addr) (l2 cap2 : Nat) (xs2 : List Value) : Prop where
 slv : SlV M2 ad2 l2 cap2 size xs2
 keep : ∀ b o, M b = some o → (∀ g, ad = some ⟨g, 0, none⟩ → b ≠ g) → M2 b = some o
 dom : ∀ b, (M b).isSome = true → (M2 b).isSome = true
theorem run_appendM {P : Program} {w : World} {t ty e : TypeId} {size bytes : Nat} (ht : P.underlying t = some (.slice e)) (hi : (P.info? e).map (fun i => (i.size, i.bytes, i.zero.map (·.cells.size))) = some (size, bytes, some size))
  {g n cap : Nat} {cur : Array Value} {bt : TypeId} {f : Nat × Nat} {xs : List Value} (hg : w.heap[g]? = some (.cells cur bt f)) (hcs : cur.size = cap * size) (hf : f = (0, 0) ∨ cur.size ≤ f.1) (hnc : n ≤ cap) (hcm : cap ≤ maxLen) (hxl : xs.length = n * size) (htk : cur.toList.take (n * size) = xs)
  {A : Option Addr} {m c : Nat} {news : List Value} (hr : Src w A m size news) (hm0 : 0 < m) (h63 : n + m ≤ maxLen) (hbytes : (n + m) * bytes ≤ 140737488355328) :
  ∃ (g2 cap2 : Nat) (w' : World) (c2 : Array Value) (t2 : TypeId) (f2 : Nat × Nat), (Builtin.append_ #[t, t] ty #[.slice (some ⟨g, 0, none⟩) n cap, .slice A m c]).run P w = .ok (.slice (some ⟨g2, 0, none⟩) (n + m) cap2) w' ∧ n + m ≤ cap2 ∧ cap2 ≤ maxLen ∧ w'.heap[g2]? = some (.cells c2 t2 f2) ∧ (∀ (j : Nat) (u : Value), (xs ++ news)[j]? = some u → c2[j]? = some u) ∧ w.grownBy w' (some g) ∧ (g2 = g ∨ g2 = w.heap.size) := by
 have hsmall : n + m ≤ 9223372036854775807 := by simp only [maxLen] at h63; omega
 cases hinf : P.info? e with
 | none => simp [hinf] at hi
 | some i =>
  simp only [hinf, Option.map_some, Option.some.injEq, Prod.mk.injEq] at hi
  obtain ⟨rfl, rfl, h3⟩ := hi
  cases hz : i.zero with
  | none => simp [hz] at h3
  | some z =>
   simp only [hz, Option.map_some, Option.some.injEq] at h3
   obtain ⟨hl, h1, hA⟩ := hr
   obtain ⟨ad, rfl, hnews⟩ := hA hm0
   by_cases hroom : n + m ≤ cap
   ·have hfit : n * i.size + news.length ≤ cur.size := by rw [hl, hcs, ← Nat.add_mul]; exact Nat.mul_le_mul_right _ hroom
    have hfc := run_firstCells_some (P := P) w i.size m ad m c news hl hnews
    have hst := run_storeM P g (n * i.size) bt f news 0 cur w hg hf (by simpa using hfit) h1
    simp only [Nat.add_zero] at hst
    have hrun : (Builtin.append_ #[t, t] ty #[.slice (some ⟨g, 0, none⟩) n cap, .slice (some ad) m c]).run P w = .ok (.slice (some ⟨g, 0, none⟩) (n + m) cap) (w.setRow g (cur.toList.take (n * i.size) ++ news ++ cur.toList.drop (n * i.size + news.length)).toArray) := by
     simp [Builtin.append_, run_underlying ht, sizeOf, typeInfo, hinf, Builtin.lenOf, hroom, hfc, Addr.add_lit, hst]
    refine ⟨g, cap, _, _, bt, f, hrun, hroom, hcm, setRow_heap w g cur _ bt f hg, fun j u hj => ?_, ⟨rfl, rfl, rfl, by simp, fun k _ hk => setRow_other w g k _ (fun e => hk (by rw [e]))⟩, .inl rfl⟩
    rw [htk]
    have hlt := (List.getElem?_eq_some_iff.1 hj).1
    simp only [List.getElem?_toArray]
    rw [List.getElem?_append_left hlt]; exact hj
   ·have holds : ∀ j u, xs[j]? = some u → w.cell? ((⟨g, 0, none⟩ : Addr).add j) = some u := fun j u hj => by
     rw [← htk, List.getElem?_take] at hj
     split at hj
     ·have e : (⟨g, 0, none⟩ : Addr).add j = ⟨g, j, none⟩ := by unfold Addr.add; split <;> simp_all
      rw [e]
      simp only [World.cell?, hg]
      simpa using hj
     ·cases hj
    have hr := run_append_grow (P := P) (ty := ty) w t e i z ht hinf hz ⟨g, 0, none⟩ n cap xs hxl holds ad m c news hl hnews (by omega) (by omega) (growslice_fits (by omega) hbytes)
    refine ⟨w.heap.size, _, _, _, e, (0, 0), hr, grownCap_ge w (n + m) cap e, grownCap_le_maxLen w (n + m) cap e h63, heap_alloc_new w.drew _, fun j u hj => ?_, ⟨rfl, rfl, rfl, by simp, fun k hk _ => heap_alloc_old w.drew _ hk⟩, .inr rfl⟩
    have hlt := (List.getElem?_eq_some_iff.1 hj).1
    rw [Array.getElem?_append_left (by simpa using hlt)]
    simpa using hj
section
variable {P : Program} {ops : Array Oper} {Q : Exit → Act → World → Prop} {n : Nat} {E : World} {M M0 : Mem} {L : Nat → Prop} {w : World} {a : Act} {env : Env} {bs : List Bx} {rs : List Rw} {rest : List Oper}
theorem stepAppendM {d : Nat} {ty : TypeId} {x y : Operand} {t e : TypeId} {size bytes : Nat} {pos : String} {af : Array Edge} {ad : Option Addr} {k cap : Nat} {xs : List Value} {A : Option Addr} {m c : Nat} (news : List Value)
  (hs : Sx n E (bwW E M0 L) M w a env bs rs) (hM : WX M M0 E) (hkx : known env x = true) (hky : known env y = true) (hx : evT env x = .slice ad k cap) (hy : evT env y = .slice A m c)
  (ht : P.underlying t = some (.slice e)) (hinf : (P.info? e).map (fun i => (i.size, i.bytes, i.zero.map (·.cells.size))) = some (size, bytes, some size)) (hsz : 0 < size) (hdn : d < n)
  (hr : Src w A m size news) (hrow : RowM M e size ad k cap xs) (hw : ∀ g, ad = some ⟨g, 0, none⟩ → Wr L M0 g) (h63 : k + m ≤ maxLen) (hbytes : (k + m) * bytes ≤ 140737488355328)
  (h : ∀ a' w' M2 ad2 cap2, AppM M M2 e size ad ad2 (k + m) cap2 (xs ++ news) → WX M2 M0 E → Sx n E (bwW E M0 L) M2 w' a' ((d, .slice ad2 (k + m) cap2) :: env) bs rs → wpList P ops Q rest a' w') (hm0 : 0 < m := by decide) :
  wpList P ops Q (⟨some d, .call { callee := .builtin .append, args := #[x, y], argTypes := #[t, t] }, ty, pos, af, none⟩ :: rest) a w := by
 refine stepK (Z := fun _ _ => False) (d := d) hs (fun _ _ h => h.elim) rfl (by simp [okOp, notSel, Op.operands, Call.operands, hkx, hky]) rfl hdn ?_
 obtain ⟨hxl, hnc, hcm, g, cur, bt, f, rfl, hg, hcs, hf, htk⟩ := hrow
 obtain ⟨g2, cap2, w', c2, t2, f2, hrun, q1, q2, q3, q4, h2, h3⟩ := run_appendM (P := P) (ty := ty) (c := c) ht hinf (hs.on g _ hg) hcs hf hnc hcm hxl htk hr hm0 h63 hbytes
 refine OpW.of_run (w' := w') (v := .slice (some ⟨g2, 0, none⟩) (k + m) cap2) (by rw [run_call_append hx hy, hrun]; rfl) ?_
 intro a' hA
 have hp : Pres w (bwW w M (Wr L M0)) w' := by
  refine ⟨h2.os, h2.tape, h2.output, h2.size, fun b hb hn => h2.block b hb fun e => hn ?_⟩
  have e := Option.some.inj e
  exact mem_bwW.2 ⟨hb, hw b (by rw [e]), by rw [e, hg]; rfl⟩
 have hg2 : growW M w w' g2 = some (.cells c2 t2 f2) := by
  unfold growW
  rw [if_pos, q3]
  rcases h3 with rfl | rfl
  ·exact .inr (by rw [hg]; rfl)
  ·exact .inl (Nat.le_refl _)
 refine h a' w' (growW M w w') (some ⟨g2, 0, none⟩) cap2 ⟨⟨by rw [List.length_append, hxl, hr.1, Nat.add_mul], q1, q2, fun _ => ⟨g2, 0, rfl, fun j v hj => ?_⟩⟩, fun b o hb hne => ?_, (growW_le hs.on hp).dom⟩ (hM.grow hs hp) (hs.backW hM hp hA)
 ·unfold Mem.cell
  rw [hg2, Nat.zero_add]
  exact q4 j v hj
 ·unfold growW
  rw [if_pos (.inr (by rw [hb]; rfl)), h2.block b (hs.on.lt hb) (fun e => hne g rfl (Option.some.inj e))]
  exact hs.on b o hb
end
end Go.Gx

namespace Go.Proofs.YtmnilbfhfjdelaaGreat.core
open Go.Gx Go.RowKit Go.ChangeShapes Go.WideShapes Go.ChangeAt
set_option linter.unusedVariables false
def S_walk_Alpha (a1 : List UInt8) (M : Mem) (K : Value → Prop) : Prop :=
 ((a1 = ([] : List UInt8) → K (Value.int .i64 1)) ∧ (¬ (a1 = ([] : List UInt8)) → ((((a1.length : Nat) : Int) > 8 → K (Value.int .i64 2)) ∧ (¬ (((a1.length : Nat) : Int) > 8) → (∃ (I6 : Int → Prop) (mu7 : Int → Nat), I6 1 ∧ ∀ (i5 : Int), (I6 i5 → ((i5 < ((a1.length : Nat) : Int) → (∃ c8 : UInt8, (0 : Int) ≤ i5 ∧ a1[i5.toNat]? = some c8 ∧ (InI (i5 - 1) ∧ (∃ c9 : UInt8, (0 : Int) ≤ i5 - 1 ∧ a1[(i5 - 1).toNat]? = some c9 ∧ (((c8.toNat : Int) ≤ (c9.toNat : Int) → K (Value.int .i64 3)) ∧ (¬ ((c8.toNat : Int) ≤ (c9.toNat : Int)) → (InI (i5 + 1) ∧ I6 (i5 + 1) ∧ mu7 (i5 + 1) < mu7 i5))))))) ∧ (¬ (i5 < ((a1.length : Nat) : Int)) → K (Value.int .i64 0)))))))))
set_option maxRecDepth 100000 in
theorem s_walk_Alpha (a1 : List UInt8) (M : Mem) (K : Value → Prop) (hS : S_walk_Alpha a1 M K) : CallE Tryz.prog 44 #[(Value.string (mkS a1))] M (fun v _ => K v) := by
 refine eE1 Tryz.func44 23 fun E a hMM hs => ?_; unfold S_walk_Alpha at hS; refine qr (sP (iv 0) hs fun _ hs => ?_); refine wn (qs (qr (sP2 (.string (mkS a1)) (.bool ((mkS a1).toList == (mkS ([] : List UInt8)).toList)) hs fun _ hs => ?_))); refine wn (Wp.cS hs mkS_beq hS (fun hS => ?_) (fun hS => ?_))
 ·refine qr (sP (iv 1) hs fun _ hs => ?_); exact wn (qt (rT hs hMM hS))
 ·refine qk (qs (qr (sP3 (.string (mkS a1)) (iv (a1.length : Int)) (.bool (decide ((a1.length : Int) > 8))) hs fun _ hs => ?_))); refine wn (Wp.cS hs decide_eq_true_iff hS (fun hS => ?_) (fun hS => ?_))
  ·refine qr (sP (iv 2) hs fun _ hs => ?_); exact wn (qt (rT hs hMM hS))
  ·refine qk (qs (qr (sP (iv 1) hs fun _ hs => ?_))); refine wn (qb ?_); obtain ⟨I6, mu7, hI0, hst⟩ := hS; refine Wp.loop (σ := (Int)) (fun i5 a w => Sx 23 E [] M w a [(0, (.string (mkS a1))), (3, (iv i5))] [] [] ∧ I6 i5) (fun i5 => mu7 i5) (1) ⟨hs.q, hI0⟩ (fun i5 a w hI => ?_); obtain ⟨hs, hI⟩ := hI; have hS := hst i5 hI; clear hst hI0 hI; refine qs (qr (sP4 (iv i5) (.string (mkS a1)) (iv (a1.length : Int)) (.bool (decide (i5 < (a1.length : Int)))) hs fun _ hs => ?_)); refine wn (Wp.cS hs decide_eq_true_iff hS (fun hS => ?_) (fun hS => ?_))
   ·refine qk (qs (qb (qs (Wp.regionD [true, true, true, true, true, true, true, true] hs (by kernel_rfl) rfl [] (fun _ h => h) [] (fun _ h => h) (fun _ hs hC => ?_))))); have hL := Mem.le.refl M; refine dA (Value.string (mkS a1)) 0 [2, 7] hs fun _ hs => ?_; refine dA (iv i5) 1 [2, 7] hs fun _ hs => ?_; obtain ⟨c8, h0, hi, hS⟩ := hS; refine dF (.int .u8 (c8.toNat : Int)) 2 [7] hs rfl (Yl.indexStr rfl rfl rfl rfl (by kernel_rfl) h0 hi) fun _ hs => ?_; refine dA (Value.string (mkS a1)) 3 [6, 7] hs fun _ hs => ?_; refine sE 4 ?_; refine sP (iv i5) hs fun _ hs => ?_; refine nE 5 ?_; obtain ⟨hI, hS⟩ := hS; refine sY (iv (i5 - 1)) hs (Yl.wr hI) fun _ hs => ?_; refine nE 6 ?_; obtain ⟨c9, h0, hi, hS⟩ := hS; refine sY (.int .u8 (c9.toNat : Int)) hs (Yl.indexStr rfl rfl rfl rfl (by kernel_rfl) h0 hi) fun _ hs => ?_; refine nE 7 ?_; refine sP (.bool (decide ((c8.toNat : Int) ≤ (c9.toNat : Int)))) hs fun _ hs => ?_; refine wN ?_; refine dD ?_; refine Wp.cS hs decide_eq_true_iff hS (fun hS => ?_) (fun hS => ?_)
    ·refine qr (sP (iv 3) hs fun _ hs => ?_); exact wn (qt (rT hs hMM hS))
    ·refine qk (qg (sP (iv i5) hs fun _ hs => ?_)); obtain ⟨hI, hS⟩ := hS; refine sY (iv (i5 + 1)) hs (Yl.wr hI) fun _ hs => ?_; refine sP (iv (i5 + 1)) hs fun _ hs => ?_; exact wn (⟨(i5 + 1), ⟨hs.q, hS.1⟩, hS.2⟩)
   ·refine qx rfl (qr (sP (iv 0) hs fun _ hs => ?_)); exact wn (qt (rT hs hMM hS))
def S_walk_shorter (a1 : List UInt8) (n2 : Int) (M : Mem) (K : Value → Prop) : Prop :=
 (∃ (I9 : Int → Int → Int → Prop) (mu10 : Int → Int → Int → Nat), I9 0 1 0 ∧ ∀ (out6 : Int) (many7 : Int) (x8 : Int), (I9 out6 many7 x8 → ((x8 < n2 → (InI (out6 + many7) ∧ (InI (many7 * ((a1.length : Nat) : Int)) ∧ (InI (x8 + 1) ∧ I9 (out6 + many7) (many7 * ((a1.length : Nat) : Int)) (x8 + 1) ∧ mu10 (out6 + many7) (many7 * ((a1.length : Nat) : Int)) (x8 + 1) < mu10 out6 many7 x8)))) ∧ (¬ (x8 < n2) → K (Value.int .i64 out6)))))
set_option maxRecDepth 100000 in
theorem s_walk_shorter (a1 : List UInt8) (n2 : Int) (M : Mem) (K : Value → Prop) (hS : S_walk_shorter a1 n2 M K) : CallE Tryz.prog 53 #[(Value.string (mkS a1)), (Value.int .i64 n2)] M (fun v _ => K v) := by
 refine eE2 Tryz.func53 19 fun E a hMM hs => ?_; unfold S_walk_shorter at hS; refine qr (sP (iv 0) hs fun _ hs => ?_); refine wn (qr (sP2 (iv 0) (iv 1) hs fun _ hs => ?_)); refine wn (qs (qr (sP2 (iv n2) (iv 0) hs fun _ hs => ?_))); refine wn (qb ?_); obtain ⟨I9, mu10, hI0, hst⟩ := hS; refine Wp.loop (σ := (Int) × (Int) × (Int)) (fun (out6, many7, x8) a w => Sx 19 E [] M w a [(0, (.string (mkS a1))), (5, (iv out6)), (6, (iv many7)), (7, (iv n2)), (8, (iv x8))] [] [] ∧ I9 out6 many7 x8) (fun (out6, many7, x8) => mu10 out6 many7 x8) (0, 1, 0) ⟨hs.q, hI0⟩ (fun s a w hI => ?_); obtain ⟨out6, many7, x8⟩ := s; obtain ⟨hs, hI⟩ := hI; have hS := hst out6 many7 x8 hI; clear hst hI0 hI; refine qr (sP (.bool (decide (x8 < n2))) hs fun _ hs => ?_); refine wn (qs (Wp.cS hs decide_eq_true_iff hS (fun hS => ?_) (fun hS => ?_)))
 ·refine qk (qs (qb (qr (sP2 (iv out6) (iv many7) hs fun _ hs => ?_)))); obtain ⟨hI, hS⟩ := hS; refine sY (iv (out6 + many7)) hs (Yl.wr hI) fun _ hs => ?_; refine sP (iv (out6 + many7)) hs fun _ hs => ?_; refine wn (qg (sP3 (iv many7) (.string (mkS a1)) (iv (a1.length : Int)) hs fun _ hs => ?_)); obtain ⟨hI, hS⟩ := hS; refine sY (iv (many7 * (a1.length : Int))) hs (Yl.wr hI) fun _ hs => ?_; refine sP (iv (many7 * (a1.length : Int))) hs fun _ hs => ?_; refine wn (qg ?_); obtain ⟨hI, hS⟩ := hS; refine sY (iv (x8 + 1)) hs (Yl.wr hI) fun _ hs => ?_; refine sP (iv (x8 + 1)) hs fun _ hs => ?_; exact wn (⟨(out6 + many7, many7 * (a1.length : Int), x8 + 1), ⟨hs.q, hS.1⟩, hS.2⟩)
 ·refine qx rfl (qr (sP (iv out6) hs fun _ hs => ?_)); refine sP (iv out6) hs fun _ hs => ?_; exact wn (qt (rT hs hMM hS))
def S_walk_Many_J1 (a1 : List UInt8) (n2 : Int) (M : Mem) (x4 : Bool) (K : Value → Prop) : Prop :=
 ((x4 = true → K (Value.tuple #[(.int .i64 0), (.int .i64 1)])) ∧ (¬ (x4 = true) → (InI (n2 + 1) ∧ (CallE Tryz.prog 53 #[(.string (mkS a1)), (.int .i64 (n2 + 1))] M (fun v _ => ∃ (x5 : Int), v = (Value.int .i64 x5) ∧ K (Value.tuple #[(.int .i64 x5), (.int .i64 0)]))))))
def S_walk_Many (a1 : List UInt8) (n2 : Int) (M : Mem) (K : Value → Prop) : Prop :=
 (CallE Tryz.prog 44 #[(.string (mkS a1))] M (fun v _ => ∃ (x3 : Int), v = (Value.int .i64 x3) ∧ (((x3 : Int) ≠ 0 → K (Value.tuple #[(.int .i64 0), (.int .i64 x3)])) ∧ (¬ ((x3 : Int) ≠ 0) → ((n2 < 0 → (S_walk_Many_J1 a1 n2 M true K)) ∧ (¬ (n2 < 0) → (S_walk_Many_J1 a1 n2 M (decide (n2 > 6)) K)))))))
set_option maxRecDepth 100000 in
theorem s_walk_Many (a1 : List UInt8) (n2 : Int) (M : Mem) (K : Value → Prop) (hS : S_walk_Many a1 n2 M K) : CallE Tryz.prog 30 #[(Value.string (mkS a1)), (Value.int .i64 n2)] M (fun v _ => K v) := by
 refine eE2 Tryz.func30 22 fun E a hMM hs => ?_; unfold S_walk_Many at hS; refine qr (sP2 (iv 0) (iv 0) hs fun _ hs => ?_); refine wn (qs (qr (sP (.string (mkS a1)) hs fun _ hs => ?_))); refine cP [(.string (mkS a1))] hs Tryz.func44 hS fun _ _ v hS hs => ?_; obtain ⟨x3, rfl, hS⟩ := hS; refine sP (iv x3) hs fun _ hs => ?_; refine wn (qr (sP2 (iv x3) (.bool ((x3 : Int) != (0 : Int))) hs fun _ hs => ?_)); refine wn (Wp.cS hs bne_iff_ne hS (fun hS => ?_) (fun hS => ?_))
 ·refine qr (sP3 (iv x3) (iv 0) (iv x3) hs fun _ hs => ?_); exact wn (qt (rTT hs hMM hS))
 ·refine qk (qs (Wp.join (fun a w => ∃ (x4 : Bool), Sx 22 E [] M w a [(0, (.string (mkS a1))), (1, (iv n2)), (17, (.bool x4))] [] [] ∧ (S_walk_Many_J1 a1 n2 M x4 K)) ?_ ?_))
  ·refine qg (sP3 (iv n2) (.bool (decide (n2 < 0))) (.bool (decide (n2 < 0))) hs fun _ hs => ?_); refine bsS decide_eq_true_iff hs hS (fun hs hS => ?_) (fun hs hS => ?_)
   ·refine sNo hs fun _ hs => ?_; refine sNo hs fun _ hs => ?_; refine sP (.bool true) hs fun _ hs => ?_; exact wn (⟨true, hs.q, hS⟩)
   ·refine ye (iv n2) hs fun _ hs => ?_; refine ye (.bool (decide (n2 > 6))) hs fun _ hs => ?_; refine sP (.bool (decide (n2 > 6))) hs fun _ hs => ?_; exact wn (⟨(decide (n2 > 6)), hs.q, hS⟩)
  ·intro a w hJ; obtain ⟨x4, hs, hS⟩ := hJ; unfold S_walk_Many_J1 at hS; refine Wp.cS hs Iff.rfl hS (fun hS => ?_) (fun hS => ?_)
   ·refine qr (sP2 (iv 0) (iv 1) hs fun _ hs => ?_); exact wn (qt (rTT hs hMM hS))
   ·refine qk (qr (sP2 (.string (mkS a1)) (iv n2) hs fun _ hs => ?_)); obtain ⟨hI, hS⟩ := hS; refine sY (iv (n2 + 1)) hs (Yl.wr hI) fun _ hs => ?_; refine cP [(.string (mkS a1)), (iv (n2 + 1))] hs Tryz.func53 hS fun _ _ v hS hs => ?_; obtain ⟨x5, rfl, hS⟩ := hS; refine sP2 (iv x5) (iv 0) hs fun _ hs => ?_; exact wn (qt (rTT hs hMM hS))
def S_math_bits_Len64_J3 (x6 : Int) (n7 : Int) (K : Value → Prop) : Prop :=
 (∃ c8 : UInt8, (0 : Int) ≤ IntKind.wrap .u8 x6 ∧ ([0, 1, 2, 2, 3, 3, 3, 3, 4, 4, 4, 4, 4, 4, 4, 4, 5, 5, 5, 5, 5, 5, 5, 5, 5, 5, 5, 5, 5, 5, 5, 5, 6, 6, 6, 6, 6, 6, 6, 6, 6, 6, 6, 6, 6, 6, 6, 6, 6, 6, 6, 6, 6, 6, 6, 6, 6, 6, 6, 6, 6, 6, 6, 6, 7, 7, 7, 7, 7, 7, 7, 7, 7, 7, 7, 7, 7, 7, 7, 7, 7, 7, 7, 7, 7, 7, 7, 7, 7, 7, 7, 7, 7, 7, 7, 7, 7, 7, 7, 7, 7, 7, 7, 7, 7, 7, 7, 7, 7, 7, 7, 7, 7, 7, 7, 7, 7, 7, 7, 7, 7, 7, 7, 7, 7, 7, 7, 7, 8, 8, 8, 8, 8, 8, 8, 8, 8, 8, 8, 8, 8, 8, 8, 8, 8, 8, 8, 8, 8, 8, 8, 8, 8, 8, 8, 8, 8, 8, 8, 8, 8, 8, 8, 8, 8, 8, 8, 8, 8, 8, 8, 8, 8, 8, 8, 8, 8, 8, 8, 8, 8, 8, 8, 8, 8, 8, 8, 8, 8, 8, 8, 8, 8, 8, 8, 8, 8, 8, 8, 8, 8, 8, 8, 8, 8, 8, 8, 8, 8, 8, 8, 8, 8, 8, 8, 8, 8, 8, 8, 8, 8, 8, 8, 8, 8, 8, 8, 8, 8, 8, 8, 8, 8, 8, 8, 8, 8, 8, 8, 8, 8, 8, 8, 8, 8, 8, 8, 8, 8, 8, 8, 8, 8, 8, 8, 8] : List UInt8)[(IntKind.wrap .u8 x6).toNat]? = some c8 ∧ (InI (n7 + (IntKind.wrap .i64 (c8.toNat : Int))) ∧ K (Value.int .i64 (n7 + (IntKind.wrap .i64 (c8.toNat : Int))))))
def S_math_bits_Len64_J2 (x4 : Int) (n5 : Int) (K : Value → Prop) : Prop :=
 ((x4 ≥ 256 → (InI (n5 + 8) ∧ (S_math_bits_Len64_J3 (bShr .u64 x4 8) (n5 + 8) K))) ∧ (¬ (x4 ≥ 256) → (S_math_bits_Len64_J3 x4 n5 K)))
def S_math_bits_Len64_J1 (x2 : Int) (n3 : Int) (K : Value → Prop) : Prop :=
 ((x2 ≥ 65536 → (InI (n3 + 16) ∧ (S_math_bits_Len64_J2 (bShr .u64 x2 16) (n3 + 16) K))) ∧ (¬ (x2 ≥ 65536) → (S_math_bits_Len64_J2 x2 n3 K)))
def S_math_bits_Len64 (x1 : Int) (M : Mem) (K : Value → Prop) : Prop :=
 ((x1 ≥ 4294967296 → (S_math_bits_Len64_J1 (bShr .u64 x1 32) 32 K)) ∧ (¬ (x1 ≥ 4294967296) → (S_math_bits_Len64_J1 x1 0 K)))
set_option maxRecDepth 100000 in
theorem s_math_bits_Len64 (x1 : Int) (M : Mem) (K : Value → Prop) (hS : S_math_bits_Len64 x1 M K) : CallE Tryz.prog 93 #[(Value.int .u64 x1)] M (fun v _ => K v) := by
 refine eE1 Tryz.func93 25 fun E a hMM hs => ?_; unfold S_math_bits_Len64 at hS; refine qr (sP (iv 0) hs fun _ hs => ?_); refine wn (Wp.join (fun a w => ∃ (x2 : Int) (n3 : Int), Sx 25 E [] M w a [(0, (.int .u64 x2)), (2, (iv n3))] [] [] ∧ (S_math_bits_Len64_J1 x2 n3 K)) ?_ ?_)
 ·refine qr (sP2 (.int .u64 x1) (.bool (decide (x1 ≥ 4294967296))) hs fun _ hs => ?_); refine wn (Wp.cS hs decide_eq_true_iff hS (fun hS => ?_) (fun hS => ?_))
  ·refine qr (sP3 (.int .u64 x1) (.int .u64 (bShr .u64 x1 32)) (.int .u64 (bShr .u64 x1 32)) hs fun _ hs => ?_); refine wn (qg (sP (iv 32) hs fun _ hs => ?_)); exact wn (⟨(bShr .u64 x1 32), 32, hs.q, hS⟩)
  ·exact qk (⟨x1, 0, hs.q, hS⟩)
 ·intro a w hJ; obtain ⟨x2, n3, hs, hS⟩ := hJ; unfold S_math_bits_Len64_J1 at hS; refine Wp.join (fun a w => ∃ (x4 : Int) (n5 : Int), Sx 25 E [] M w a [(0, (.int .u64 x4)), (2, (iv n5))] [] [] ∧ (S_math_bits_Len64_J2 x4 n5 K)) ?_ ?_
  ·refine qr (sP2 (.int .u64 x2) (.bool (decide (x2 ≥ 65536))) hs fun _ hs => ?_); refine wn (Wp.cS hs decide_eq_true_iff hS (fun hS => ?_) (fun hS => ?_))
   ·refine qr (sP3 (.int .u64 x2) (.int .u64 (bShr .u64 x2 16)) (.int .u64 (bShr .u64 x2 16)) hs fun _ hs => ?_); refine wn (qg (sP (iv n3) hs fun _ hs => ?_)); obtain ⟨hI, hS⟩ := hS; refine sY (iv (n3 + 16)) hs (Yl.wr hI) fun _ hs => ?_; refine sP (iv (n3 + 16)) hs fun _ hs => ?_; exact wn (⟨(bShr .u64 x2 16), (n3 + 16), hs.q, hS⟩)
   ·exact qk (⟨x2, n3, hs.q, hS⟩)
  ·intro a w hJ; obtain ⟨x4, n5, hs, hS⟩ := hJ; unfold S_math_bits_Len64_J2 at hS; refine Wp.join (fun a w => ∃ (x6 : Int) (n7 : Int), Sx 25 E [] M w a [(0, (.int .u64 x6)), (2, (iv n7))] [] [] ∧ (S_math_bits_Len64_J3 x6 n7 K)) ?_ ?_
   ·refine qr (sP2 (.int .u64 x4) (.bool (decide (x4 ≥ 256))) hs fun _ hs => ?_); refine wn (Wp.cS hs decide_eq_true_iff hS (fun hS => ?_) (fun hS => ?_))
    ·refine qr (sP3 (.int .u64 x4) (.int .u64 (bShr .u64 x4 8)) (.int .u64 (bShr .u64 x4 8)) hs fun _ hs => ?_); refine wn (qg (sP (iv n5) hs fun _ hs => ?_)); obtain ⟨hI, hS⟩ := hS; refine sY (iv (n5 + 8)) hs (Yl.wr hI) fun _ hs => ?_; refine sP (iv (n5 + 8)) hs fun _ hs => ?_; exact wn (⟨(bShr .u64 x4 8), (n5 + 8), hs.q, hS⟩)
    ·exact qk (⟨x4, n5, hs.q, hS⟩)
   ·intro a w hJ; obtain ⟨x6, n7, hs, hS⟩ := hJ; unfold S_math_bits_Len64_J3 at hS; refine qr (sP3 (iv n7) (.int .u64 x6) (.int .u8 (IntKind.wrap .u8 x6)) hs fun _ hs => ?_); obtain ⟨c8, h0, hi, hS⟩ := hS; refine sY (.int .u8 (c8.toNat : Int)) hs (Yl.indexStr rfl rfl rfl rfl (by kernel_rfl) h0 hi) fun _ hs => ?_; refine sP (iv (IntKind.wrap .i64 (c8.toNat : Int))) hs fun _ hs => ?_; obtain ⟨hI, hS⟩ := hS; refine sY (iv (n7 + (IntKind.wrap .i64 (c8.toNat : Int)))) hs (Yl.wr hI) fun _ hs => ?_; refine sP (iv (n7 + (IntKind.wrap .i64 (c8.toNat : Int)))) hs fun _ hs => ?_; exact wn (qt (rT hs hMM hS))
def S_math_bits_Len (x1 : Int) (M : Mem) (K : Value → Prop) : Prop :=
 (CallE Tryz.prog 93 #[(.int .u64 x1)] M (fun v _ => ∃ (x2 : Int), v = (Value.int .i64 x2) ∧ K (Value.int .i64 x2)))
set_option maxRecDepth 100000 in
theorem s_math_bits_Len (x1 : Int) (M : Mem) (K : Value → Prop) (hS : S_math_bits_Len x1 M K) : CallE Tryz.prog 66 #[(Value.int .u64 x1)] M (fun v _ => K v) := by
 refine eE1 Tryz.func66 8 fun E a hMM hs => ?_; unfold S_math_bits_Len at hS; refine qr (sP (iv 0) hs fun _ hs => ?_); refine wn (qs (Wp.cond_f hs rfl rfl ?_)); refine qk (qr (sP (.int .u64 x1) hs fun _ hs => ?_)); refine cP [(.int .u64 x1)] hs Tryz.func93 hS fun _ _ v hS hs => ?_; obtain ⟨x2, rfl, hS⟩ := hS; refine sP (iv x2) hs fun _ hs => ?_; exact wn (qt (rT hs hMM hS))
def S_cmp_isNaN_byte (x1 : Int) (M : Mem) (K : Value → Prop) : Prop :=
 K (Value.bool ((x1 : Int) != (x1 : Int)))
set_option maxRecDepth 100000 in
theorem s_cmp_isNaN_byte (x1 : Int) (M : Mem) (K : Value → Prop) (hS : S_cmp_isNaN_byte x1 M K) : CallE Tryz.prog 109 #[(Value.int .u8 x1)] M (fun v _ => K v) := by
 refine eE1 Tryz.func109 6 fun E a hMM hs => ?_; unfold S_cmp_isNaN_byte at hS; refine qr (sP (.bool false) hs fun _ hs => ?_); refine wn (qr (sP4 (.int .u8 x1) (.int .u8 x1) (.bool ((x1 : Int) != (x1 : Int))) (.bool ((x1 : Int) != (x1 : Int))) hs fun _ hs => ?_)); exact wn (qt (rT hs hMM hS))
def S_cmp_Less_byte (x1 : Int) (y2 : Int) (M : Mem) (K : Value → Prop) : Prop :=
 (CallE Tryz.prog 109 #[(.int .u8 x1)] M (fun v _ => ∃ (x3 : Bool), v = (Value.bool x3) ∧ ((x3 = true → (CallE Tryz.prog 109 #[(.int .u8 y2)] M (fun v _ => ∃ (x4 : Bool), v = (Value.bool x4) ∧ ((¬ (x4 = true) → K (Value.bool true)) ∧ (¬ (¬ (x4 = true)) → K (Value.bool (decide (x1 < y2)))))))) ∧ (¬ (x3 = true) → K (Value.bool (decide (x1 < y2)))))))
set_option maxRecDepth 100000 in
theorem s_cmp_Less_byte (x1 : Int) (y2 : Int) (M : Mem) (K : Value → Prop) (hS : S_cmp_Less_byte x1 y2 M K) : CallE Tryz.prog 89 #[(Value.int .u8 x1), (Value.int .u8 y2)] M (fun v _ => K v) := by
 refine eE2 Tryz.func89 17 fun E a hMM hs => ?_; unfold S_cmp_Less_byte at hS; refine qr (sP (.bool false) hs fun _ hs => ?_); refine wn (qr (sP (.int .u8 x1) hs fun _ hs => ?_)); refine cP [(.int .u8 x1)] hs Tryz.func109 hS fun _ _ v hS hs => ?_; obtain ⟨x3, rfl, hS⟩ := hS; refine sP (.bool x3) hs fun _ hs => ?_; refine bsS Iff.rfl hs hS (fun hs hS => ?_) (fun hs hS => ?_)
 ·refine ye (.int .u8 y2) hs fun _ hs => ?_; refine sYe hs (stepCallP [(.int .u8 y2)] hs rfl ⟨_, rfl, rfl⟩ rfl Tryz.func109 rfl (by kernel_rfl) (by decide) hS (fun _ _ v hS hs => ?_)); obtain ⟨x4, rfl, hS⟩ := hS; refine ye (.bool (!x4)) hs fun _ hs => ?_; refine sP2 (.bool (!x4)) (.bool (!x4)) hs fun _ hs => ?_; refine bsS (bnot_iff Iff.rfl) hs hS (fun hs hS => ?_) (fun hs hS => ?_)
  ·repeat (first | refine sNo hs fun _ hs => ?_ | refine sNu hs fun _ hs => ?_)
   refine sP2 (.bool true) (.bool true) hs fun _ hs => ?_; exact wn (qt (rT hs hMM hS))
  ·refine ye (.int .u8 x1) hs fun _ hs => ?_; refine ye (.int .u8 y2) hs fun _ hs => ?_; refine ye (.bool (decide (x1 < y2))) hs fun _ hs => ?_; refine sP2 (.bool (decide (x1 < y2))) (.bool (decide (x1 < y2))) hs fun _ hs => ?_; exact wn (qt (rT hs hMM hS))
 ·repeat (first | refine sNo hs fun _ hs => ?_ | refine sNu hs fun _ hs => ?_)
  refine sP2 (.bool false) (.bool false) hs fun _ hs => ?_; refine ye (.int .u8 x1) hs fun _ hs => ?_; refine ye (.int .u8 y2) hs fun _ hs => ?_; refine ye (.bool (decide (x1 < y2))) hs fun _ hs => ?_; refine sP2 (.bool (decide (x1 < y2))) (.bool (decide (x1 < y2))) hs fun _ hs => ?_; exact wn (qt (rT hs hMM hS))
def S_slices_insertionSortOrdered_byte_J1 (dataa1 : Option Addr) (datal2 : Nat) (M : Mem) (L : Nat → Prop) (i149 : Int) (G153 : Type) (gh154 : G153) (I151 : G153 → Int → Mem → Prop) (mu152 : G153 → Int → Nat) (j199 : Int) (M200 : Mem) (G203 : Type) (gh204 : G203) (I201 : G203 → Int → Mem → Prop) (mu202 : G203 → Int → Nat) (x213 : Bool) (K : Value → Mem → Prop) : Prop :=
 ((x213 = true → (InI (j199 - 1) ∧ (InI (j199 - 1) ∧ (∃ (b214 o215 : Nat), dataa1 = some ⟨b214, o215, none⟩ ∧ (0 : Int) ≤ j199 - 1 ∧ j199 - 1 < ((datal2 : Nat) : Int) ∧ (∃ (x216 : Int), At M200 b214 (o215 + (j199 - 1).toNat * 1) [(.int .u8 x216)] ∧ (∃ (b217 o218 : Nat), dataa1 = some ⟨b217, o218, none⟩ ∧ (0 : Int) ≤ j199 ∧ j199 < ((datal2 : Nat) : Int) ∧ (∃ (x219 : Int), At M200 b217 (o218 + j199.toNat * 1) [(.int .u8 x219)] ∧ (∃ (b220 o221 : Nat), dataa1 = some ⟨b220, o221, none⟩ ∧ (0 : Int) ≤ j199 ∧ j199 < ((datal2 : Nat) : Int) ∧ (HasM M200 b220 (o221 + j199.toNat * 1) 1 ∧ Wr L M b220 ∧ ∀ (M222 : Mem), M222 = M200.put b220 (o221 + j199.toNat * 1) [(.int .u8 x216)] → (∃ (b223 o224 : Nat), dataa1 = some ⟨b223, o224, none⟩ ∧ (0 : Int) ≤ j199 - 1 ∧ j199 - 1 < ((datal2 : Nat) : Int) ∧ (HasM M222 b223 (o224 + (j199 - 1).toNat * 1) 1 ∧ Wr L M b223 ∧ ∀ (M225 : Mem), M225 = M222.put b223 (o224 + (j199 - 1).toNat * 1) [(.int .u8 x219)] → (InI (j199 - 1) ∧ ∃ (gh : G203), I201 gh (j199 - 1) M225 ∧ mu202 gh (j199 - 1) < mu202 gh204 j199)))))))))))) ∧ (¬ (x213 = true) → (InI (i149 + 1) ∧ ∃ (gh : G153), I151 gh (i149 + 1) M200 ∧ mu152 gh (i149 + 1) < mu152 gh154 i149)))
def S_slices_insertionSortOrdered_byte (dataa1 : Option Addr) (datal2 : Nat) (datac3 : Nat) (a4 : Int) (b5 : Int) (M : Mem) (L : Nat → Prop) (K : Value → Mem → Prop) : Prop :=
 (InI (a4 + 1) ∧ (∃ (G153 : Type) (I151 : G153 → Int → Mem → Prop) (mu152 : G153 → Int → Nat) (gz155 : G153), I151 gz155 (a4 + 1) M ∧ ∀ (gh154 : G153) (i149 : Int) (M150 : Mem), (I151 gh154 i149 M150 → ((i149 < b5 → (∃ (G203 : Type) (I201 : G203 → Int → Mem → Prop) (mu202 : G203 → Int → Nat) (gz205 : G203), I201 gz205 i149 M150 ∧ ∀ (gh204 : G203) (j199 : Int) (M200 : Mem), (I201 gh204 j199 M200 → ((j199 > a4 → (∃ (b206 o207 : Nat), dataa1 = some ⟨b206, o207, none⟩ ∧ (0 : Int) ≤ j199 ∧ j199 < ((datal2 : Nat) : Int) ∧ (∃ (x208 : Int), At M200 b206 (o207 + j199.toNat * 1) [(.int .u8 x208)] ∧ (InI (j199 - 1) ∧ (∃ (b209 o210 : Nat), dataa1 = some ⟨b209, o210, none⟩ ∧ (0 : Int) ≤ j199 - 1 ∧ j199 - 1 < ((datal2 : Nat) : Int) ∧ (∃ (x211 : Int), At M200 b209 (o210 + (j199 - 1).toNat * 1) [(.int .u8 x211)] ∧ (CallE Tryz.prog 89 #[(.int .u8 x208), (.int .u8 x211)] M200 (fun v _ => ∃ (x212 : Bool), v = (Value.bool x212) ∧ (S_slices_insertionSortOrdered_byte_J1 dataa1 datal2 M L i149 G153 gh154 I151 mu152 j199 M200 G203 gh204 I201 mu202 x212 K))))))))) ∧ (¬ (j199 > a4) → (S_slices_insertionSortOrdered_byte_J1 dataa1 datal2 M L i149 G153 gh154 I151 mu152 j199 M200 G203 gh204 I201 mu202 false K)))))) ∧ (¬ (i149 < b5) → (∀ M', M150.le M' → K (Value.tuple #[]) M'))))))
set_option maxRecDepth 100000 in
theorem s_slices_insertionSortOrdered_byte (dataa1 : Option Addr) (datal2 : Nat) (datac3 : Nat) (a4 : Int) (b5 : Int) (M : Mem) (L : Nat → Prop) (K : Value → Mem → Prop) (hS : S_slices_insertionSortOrdered_byte dataa1 datal2 datac3 a4 b5 M L K) : CallW Tryz.prog 83 #[(Value.slice dataa1 datal2 datac3), (Value.int .i64 a4), (Value.int .i64 b5)] M L K := by
 refine eW3 Tryz.func83 49 fun E a hMM hs => ?_; unfold S_slices_insertionSortOrdered_byte at hS; refine qr (sP (iv a4) hs fun _ hs => ?_); obtain ⟨hI, hS⟩ := hS; refine sY (iv (a4 + 1)) hs (Yl.wr hI) fun _ hs => ?_; refine sP (iv (a4 + 1)) hs fun _ hs => ?_; refine wn (qb ?_); obtain ⟨G153, I151, mu152, gz155, hI0, hst⟩ := hS; refine Wp.loop (σ := G153 × (Int) × (Mem)) (fun (gh154, i149, M150) a w => WX M150 M E ∧ Sx 49 E (bwW E M L) M150 w a [(0, (.slice dataa1 datal2 datac3)), (1, (iv a4)), (2, (iv b5)), (6, (iv i149))] [] [] ∧ I151 gh154 i149 M150) (fun (gh154, i149, M150) => mu152 gh154 i149) (gz155, a4 + 1, M) ⟨hMM, hs.q, hI0⟩ (fun s a w hI => ?_); obtain ⟨gh154, i149, M150⟩ := s; obtain ⟨hMM, hs, hI⟩ := hI; have hS := hst gh154 i149 M150 hI; clear hst hI0 hI; refine qs (qr (sP3 (iv i149) (iv b5) (.bool (decide (i149 < b5))) hs fun _ hs => ?_)); refine wn (Wp.cS hs decide_eq_true_iff hS (fun hS => ?_) (fun hS => ?_))
 ·refine qk (qs (qb (qr (sP2 (iv i149) (iv i149) hs fun _ hs => ?_)))); refine wn (qb ?_); obtain ⟨G203, I201, mu202, gz205, hI0, hst⟩ := hS; refine Wp.loop (σ := G203 × (Int) × (Mem)) (fun (gh204, j199, M200) a w => WX M200 M E ∧ Sx 49 E (bwW E M L) M200 w a [(0, (.slice dataa1 datal2 datac3)), (1, (iv a4)), (2, (iv b5)), (6, (iv i149)), (7, (iv j199))] [] [] ∧ I201 gh204 j199 M200) (fun (gh204, j199, M200) => mu202 gh204 j199) (gz205, i149, M150) ⟨hMM, hs.q, hI0⟩ (fun s a w hI => ?_); obtain ⟨gh204, j199, M200⟩ := s; obtain ⟨hMM, hs, hI⟩ := hI; have hS := hst gh204 j199 M200 hI; clear hst hI0 hI; refine qs (Wp.join (fun a w => ∃ (x213 : Bool), Sx 49 E (bwW E M L) M200 w a [(0, (.slice dataa1 datal2 datac3)), (1, (iv a4)), (2, (iv b5)), (6, (iv i149)), (7, (iv j199)), (30, (.bool x213))] [] [] ∧ (S_slices_insertionSortOrdered_byte_J1 dataa1 datal2 M L i149 G153 gh154 I151 mu152 j199 M200 G203 gh204 I201 mu202 x213 K)) ?_ ?_)
  ·refine Wp.regionD [true, true, true, true, true, true, true, true, true, true, true, true, true, false, true] hs (by kernel_rfl) rfl [] (fun _ h => h) [] (fun _ h => h) (fun _ hs hC => ?_); have hL := Mem.le.refl M200; refine dA (iv j199) 0 [2, 3, 4, 5, 6, 7, 8, 9, 10, 11, 12, 13, 14] hs fun _ hs => ?_; refine sE 1 ?_; refine sP (iv a4) hs fun _ hs => ?_; refine nE 2 ?_; refine sP (.bool (decide (j199 > a4))) hs fun _ hs => ?_; refine nE 3 ?_; refine sP (.bool (decide (j199 > a4))) hs fun _ hs => ?_; refine wN ?_; refine bsS decide_eq_true_iff hs hS (fun hs hS => ?_) (fun hs hS => ?_)
   ·refine dPy (Value.slice dataa1 datal2 datac3) 4 [6, 7, 13, 14] hs fun _ hs => ?_; refine dPy (iv j199) 5 [6, 7, 13, 14] hs fun _ hs => ?_; obtain ⟨b206, o207, ha, h0, hl, hS⟩ := hS; refine dFy (.pointer (some ⟨b206, o207 + j199.toNat * 1, none⟩)) 6 [7, 13, 14] hs rfl (Yl.iS 5 1 ha h0 hl) fun _ hs => ?_; obtain ⟨x208, hat, hS⟩ := hS; refine dCy (.int .u8 x208) 7 [13, 14] hs hC rfl (Yl.lV [(.int .u8 x208)] false hat) fun _ hs => ?_; refine dPy (Value.slice dataa1 datal2 datac3) 8 [11, 12, 13, 14] hs fun _ hs => ?_; refine sEy (i := 9) hs ?_; refine sP (iv j199) hs fun _ hs => ?_; refine wN ?_; refine sEy (i := 10) hs ?_; obtain ⟨hI, hS⟩ := hS; refine sY (iv (j199 - 1)) hs (Yl.wr hI) fun _ hs => ?_; refine wN ?_; refine sEy (i := 11) hs ?_; obtain ⟨b209, o210, ha, h0, hl, hS⟩ := hS; refine sI 5 1 ha h0 hl hs fun _ hs => ?_; refine wN ?_; refine sEy (i := 12) hs ?_; obtain ⟨x211, hat, hS⟩ := hS; refine sV1 (.int .u8 x211) hat hs fun _ hs => ?_; refine wN ?_; refine sEy (i := 13) hs ?_; refine cP [(.int .u8 x208), (.int .u8 x211)] hs Tryz.func89 hS fun _ _ v hS hs => ?_; obtain ⟨x212, rfl, hS⟩ := hS; refine fE 14 ?_; refine sP (.bool x212) hs fun _ hs => ?_; refine wN ?_; refine dD ?_; exact ⟨x212, hs.q, hS⟩
   ·refine dNo 4 [6, 7, 13, 14] hs fun _ hs => ?_; refine dNo 5 [6, 7, 13, 14] hs fun _ hs => ?_; refine dNo 6 [7, 13, 14] hs fun _ hs => ?_; refine dNo 7 [13, 14] hs fun _ hs => ?_; refine dNo 8 [11, 12, 13, 14] hs fun _ hs => ?_; refine dNo 9 [10, 11, 12, 13, 14] hs fun _ hs => ?_; refine dNo 10 [11, 12, 13, 14] hs fun _ hs => ?_; refine dNo 11 [12, 13, 14] hs fun _ hs => ?_; refine dNo 12 [13, 14] hs fun _ hs => ?_; refine dNo 13 [14] hs fun _ hs => ?_; refine sE 14 ?_; refine sP (.bool false) hs fun _ hs => ?_; refine wN ?_; refine dD ?_; exact ⟨false, hs.q, hS⟩
  ·intro a w hJ; obtain ⟨x213, hs, hS⟩ := hJ; unfold S_slices_insertionSortOrdered_byte_J1 at hS; refine Wp.cS hs Iff.rfl hS (fun hS => ?_) (fun hS => ?_)
   ·refine qk (qs (qb (Wp.regionD [true, true, true, true, true, true, true, true, true, true, true, true, true, true, true, false, true, false] hs (by kernel_rfl) rfl [] (fun _ h => h) [] (fun _ h => h) (fun _ hs hC => ?_)))); have hL := Mem.le.refl M200; refine dA (Value.slice dataa1 datal2 datac3) 0 [14, 15, 16, 17] hs fun _ hs => ?_; refine dA (iv j199) 1 [14, 15, 16, 17] hs fun _ hs => ?_; refine dA (Value.slice dataa1 datal2 datac3) 2 [16, 17] hs fun _ hs => ?_; refine dA (iv j199) 3 [4, 16, 17] hs fun _ hs => ?_; obtain ⟨hI, hS⟩ := hS; refine dF (iv (j199 - 1)) 4 [16, 17] hs rfl (Yl.wr hI) fun _ hs => ?_; refine dA (Value.slice dataa1 datal2 datac3) 5 [8, 9, 14, 15, 16, 17] hs fun _ hs => ?_; refine dA (iv j199) 6 [7, 8, 9, 14, 15, 16, 17] hs fun _ hs => ?_; obtain ⟨hI, hS⟩ := hS; refine dF (iv (j199 - 1)) 7 [8, 9, 14, 15, 16, 17] hs rfl (Yl.wr hI) fun _ hs => ?_; obtain ⟨b214, o215, ha, h0, hl, hS⟩ := hS; refine dF (.pointer (some ⟨b214, o215 + (j199 - 1).toNat * 1, none⟩)) 8 [9, 14, 15, 16, 17] hs rfl (Yl.iS 5 1 ha h0 hl) fun _ hs => ?_; obtain ⟨x216, hat, hS⟩ := hS; refine dC (.int .u8 x216) 9 [14, 15, 16, 17] hs hC rfl (Yl.lV [(.int .u8 x216)] false hat) fun _ hs => ?_; refine dA (Value.slice dataa1 datal2 datac3) 10 [12, 13, 14, 15, 16, 17] hs fun _ hs => ?_; refine sE 11 ?_; refine sP (iv j199) hs fun _ hs => ?_; refine nE 12 ?_; obtain ⟨b217, o218, ha, h0, hl, hS⟩ := hS
    refine sI 5 1 ha h0 hl hs fun _ hs => ?_; refine nE 13 ?_; obtain ⟨x219, hat, hS⟩ := hS; refine sV1 (.int .u8 x219) hat hs fun _ hs => ?_; refine nE 14 ?_; obtain ⟨b220, o221, ha, h0, hl, hS⟩ := hS; refine sI 5 1 ha h0 hl hs fun _ hs => ?_; refine nE 15 ?_; obtain ⟨hhas, hwr, hS⟩ := hS; refine stepStoreM (vs := [(.int .u8 x216)]) hs hMM rfl rfl rfl rfl rfl (by kernel_rfl) rfl hhas hwr (fun _ _ M222 hM2 hMM hs => ?_); have hS := hS M222 hM2; refine fE 16 ?_; obtain ⟨b223, o224, ha, h0, hl, hS⟩ := hS; refine sI 5 1 ha h0 hl hs fun _ hs => ?_; refine nE 17 ?_; obtain ⟨hhas, hwr, hS⟩ := hS; refine stepStoreM (vs := [(.int .u8 x219)]) hs hMM rfl rfl rfl rfl rfl (by kernel_rfl) rfl hhas hwr (fun _ _ M225 hM2 hMM hs => ?_); have hS := hS M225 hM2; refine wF ?_; refine dD ?_; refine qg (sP (iv j199) hs fun _ hs => ?_); obtain ⟨hI, hS⟩ := hS; refine sY (iv (j199 - 1)) hs (Yl.wr hI) fun _ hs => ?_; refine sP (iv (j199 - 1)) hs fun _ hs => ?_; refine wn ?_; obtain ⟨gh, hI1, hI2⟩ := hS; exact ⟨(gh, j199 - 1, M225), ⟨hMM, hs.q, hI1⟩, hI2⟩
   ·refine qx rfl (qg (sP (iv i149) hs fun _ hs => ?_)); obtain ⟨hI, hS⟩ := hS; refine sY (iv (i149 + 1)) hs (Yl.wr hI) fun _ hs => ?_; refine sP (iv (i149 + 1)) hs fun _ hs => ?_; refine wn ?_; obtain ⟨gh, hI1, hI2⟩ := hS; exact ⟨(gh, i149 + 1, M200), ⟨hMM, hs.q, hI1⟩, hI2⟩
 ·exact qx rfl (leaveW (K := K) hs (res hs rfl) hMM hS)
def S_slices_pdqsortOrdered_byte (dataa1 : Option Addr) (datal2 : Nat) (datac3 : Nat) (a4 : Int) (b5 : Int) (limit6 : Int) (M : Mem) (L : Nat → Prop) (K : Value → Mem → Prop) : Prop :=
 (∃ (I20 : Int → Int → Int → Bool → Bool → Prop) (mu21 : Int → Int → Int → Bool → Bool → Nat), I20 a4 b5 limit6 true true ∧ ∀ (a15 : Int) (b16 : Int) (limit17 : Int) (wasBalanced18 : Bool) (wasPartitioned19 : Bool), (I20 a15 b16 limit17 wasBalanced18 wasPartitioned19 → (InI (b16 - a15) ∧ ((b16 - a15 ≤ 12 → (CallW Tryz.prog 83 #[(.slice dataa1 datal2 datac3), (.int .i64 a15), (.int .i64 b16)] M (Wr L M) (fun v M22 => v = (Value.tuple #[]) ∧ (∀ M', M22.le M' → K (Value.tuple #[]) M')))) ∧ (¬ (b16 - a15 ≤ 12) → (((limit17 : Int) = 0 → False) ∧ (¬ ((limit17 : Int) = 0) → ((¬ (wasBalanced18 = true) → False) ∧ (¬ (¬ (wasBalanced18 = true)) → False)))))))))
set_option maxRecDepth 100000 in
theorem s_slices_pdqsortOrdered_byte (dataa1 : Option Addr) (datal2 : Nat) (datac3 : Nat) (a4 : Int) (b5 : Int) (limit6 : Int) (M : Mem) (L : Nat → Prop) (K : Value → Mem → Prop) (hS : S_slices_pdqsortOrdered_byte dataa1 datal2 datac3 a4 b5 limit6 M L K) : CallW Tryz.prog 65 #[(Value.slice dataa1 datal2 datac3), (Value.int .i64 a4), (Value.int .i64 b5), (Value.int .i64 limit6)] M L K := by
 refine eW4 Tryz.func65 134 fun E a hMM hs => ?_; unfold S_slices_pdqsortOrdered_byte at hS; refine qr (sP (.bool true) hs fun _ hs => ?_); refine wn (qr (sP (.bool true) hs fun _ hs => ?_)); refine wn (qb ?_); obtain ⟨I20, mu21, hI0, hst⟩ := hS; refine Wp.loop (σ := (Int) × (Int) × (Int) × (Bool) × (Bool)) (fun (a15, b16, limit17, wasBalanced18, wasPartitioned19) a w => Sx 134 E (bwW E M L) M w a [(0, (.slice dataa1 datal2 datac3)), (1, (iv a15)), (2, (iv b16)), (3, (iv limit17)), (8, (.bool wasBalanced18)), (9, (.bool wasPartitioned19))] [] [] ∧ I20 a15 b16 limit17 wasBalanced18 wasPartitioned19) (fun (a15, b16, limit17, wasBalanced18, wasPartitioned19) => mu21 a15 b16 limit17 wasBalanced18 wasPartitioned19) (a4, b5, limit6, true, true) ⟨hs.q, hI0⟩ (fun s a w hI => ?_); obtain ⟨a15, b16, limit17, wasBalanced18, wasPartitioned19⟩ := s; obtain ⟨hs, hI⟩ := hI; have hS := hst a15 b16 limit17 wasBalanced18 wasPartitioned19 hI; clear hst hI0 hI; refine qb (qr (sP2 (iv b16) (iv a15) hs fun _ hs => ?_)); obtain ⟨hI, hS⟩ := hS; refine sY (iv (b16 - a15)) hs (Yl.wr hI) fun _ hs => ?_
 refine sP (iv (b16 - a15)) hs fun _ hs => ?_; refine wn (qs (qr (sP2 (iv (b16 - a15)) (.bool (decide (b16 - a15 ≤ 12))) hs fun _ hs => ?_))); refine wn (Wp.cS hs decide_eq_true_iff hS (fun hS => ?_) (fun hS => ?_))
 ·refine qr (sP3 (.slice dataa1 datal2 datac3) (iv a15) (iv b16) hs fun _ hs => ?_); refine cW [(.slice dataa1 datal2 datac3), (iv a15), (iv b16)] hs hMM Tryz.func83 hS fun _ _ M22 v hMM hS hs => ?_; obtain ⟨hv, hS⟩ := hS; subst hv; exact wn (qt (leaveW (K := K) hs (res hs rfl) hMM hS))
 ·refine qk (qs (qr (sP2 (iv limit17) (.bool ((limit17 : Int) == (0 : Int))) hs fun _ hs => ?_))); refine wn (Wp.cS hs beq_iff_eq hS (fun hS => ?_) (fun hS => ?_))
  ·refine qr (sP3 (.slice dataa1 datal2 datac3) (iv a15) (iv b16) hs fun _ hs => ?_); exact hS.elim
  ·refine qk (qs (qr (sP2 (.bool wasBalanced18) (.bool (!wasBalanced18)) hs fun _ hs => ?_))); refine wn (Wp.cS hs (bnot_iff Iff.rfl) hS (fun hS => ?_) (fun hS => ?_))
   ·refine qr (sP3 (.slice dataa1 datal2 datac3) (iv a15) (iv b16) hs fun _ hs => ?_); exact hS.elim
   ·refine qk (qr (sP3 (.slice dataa1 datal2 datac3) (iv a15) (iv b16) hs fun _ hs => ?_)); exact hS.elim
def S_slices_Sort_byte (xa1 : Option Addr) (xl2 : Nat) (xc3 : Nat) (M : Mem) (L : Nat → Prop) (K : Value → Mem → Prop) : Prop :=
 (CallE Tryz.prog 66 #[(.int .u64 (IntKind.wrap .u64 ((xl2 : Nat) : Int)))] M (fun v _ => ∃ (x4 : Int), v = (Value.int .i64 x4) ∧ (CallW Tryz.prog 65 #[(.slice xa1 xl2 xc3), (.int .i64 0), (.int .i64 ((xl2 : Nat) : Int)), (.int .i64 x4)] M (Wr L M) (fun v M5 => v = (Value.tuple #[]) ∧ (∀ M', M5.le M' → K (Value.tuple #[]) M')))))
set_option maxRecDepth 100000 in
theorem s_slices_Sort_byte (xa1 : Option Addr) (xl2 : Nat) (xc3 : Nat) (M : Mem) (L : Nat → Prop) (K : Value → Mem → Prop) (hS : S_slices_Sort_byte xa1 xl2 xc3 M L K) : CallW Tryz.prog 40 #[(Value.slice xa1 xl2 xc3)] M L K := by
 refine eW1 Tryz.func40 11 fun E a hMM hs => ?_; unfold S_slices_Sort_byte at hS; refine qr (sP3 (.slice xa1 xl2 xc3) (iv (xl2 : Int)) (iv (xl2 : Int)) hs fun _ hs => ?_); refine wn (qg (sP4 (.slice xa1 xl2 xc3) (iv (xl2 : Int)) (iv (xl2 : Int)) (.int .u64 (IntKind.wrap .u64 (xl2 : Int))) hs fun _ hs => ?_)); refine cP [(.int .u64 (IntKind.wrap .u64 (xl2 : Int)))] hs Tryz.func66 hS fun _ _ v hS hs => ?_; obtain ⟨x4, rfl, hS⟩ := hS; refine cW [(.slice xa1 xl2 xc3), (iv 0), (iv (xl2 : Int)), (iv x4)] hs hMM Tryz.func65 hS fun _ _ M5 v hMM hS hs => ?_; obtain ⟨hv, hS⟩ := hS; subst hv; exact wn (leaveW (K := K) hs (res hs rfl) hMM hS)
def S_slices_Compact_byte_J1 (k111 : Int) (k112 : Int) (G116 : Type) (gh117 : G116) (I114 : G116 → Int → Int → Mem → Prop) (mu115 : G116 → Int → Int → Nat) (k131 : Int) (M132 : Mem) (K : Value → Mem → Prop) : Prop :=
 (InI (k112 + 1) ∧ ∃ (gh : G116), I114 gh k131 (k112 + 1) M132 ∧ mu115 gh k131 (k112 + 1) < mu115 gh117 k111 k112)
def S_slices_Compact_byte (sa1 : Option Addr) (sl2 : Nat) (sc3 : Nat) (M : Mem) (L : Nat → Prop) (K : Value → Mem → Prop) : Prop :=
 ((((sl2 : Nat) : Int) < 2 → (∀ M', M.le M' → K (Value.slice sa1 sl2 sc3) M')) ∧ (¬ (((sl2 : Nat) : Int) < 2) → (∃ (I70 : Int → Prop) (mu71 : Int → Nat), I70 1 ∧ ∀ (k69 : Int), (I70 k69 → ((k69 < ((sl2 : Nat) : Int) → (∃ (b72 o73 : Nat), sa1 = some ⟨b72, o73, none⟩ ∧ (0 : Int) ≤ k69 ∧ k69 < ((sl2 : Nat) : Int) ∧ (∃ (x74 : Int), At M b72 (o73 + k69.toNat * 1) [(.int .u8 x74)] ∧ (InI (k69 - 1) ∧ (∃ (b75 o76 : Nat), sa1 = some ⟨b75, o76, none⟩ ∧ (0 : Int) ≤ k69 - 1 ∧ k69 - 1 < ((sl2 : Nat) : Int) ∧ (∃ (x77 : Int), At M b75 (o76 + (k69 - 1).toNat * 1) [(.int .u8 x77)] ∧ (((x74 : Int) = x77 → ((0 : Int) ≤ k69 ∧ (k69 : Int) ≤ ((sl2 : Nat) : Int) ∧ (∃ (G116 : Type) (I114 : G116 → Int → Int → Mem → Prop) (mu115 : G116 → Int → Int → Nat) (gz118 : G116), I114 gz118 k69 1 M ∧ ∀ (gh117 : G116) (k111 : Int) (k112 : Int) (M113 : Mem), (I114 gh117 k111 k112 M113 → ((k112 < (((sl2 - k69.toNat) : Nat) : Int) → (∃ (b119 o120 : Nat), (slA sa1 k69.toNat sc3 1) = some ⟨b119, o120, none⟩ ∧ (0 : Int) ≤ k112 ∧ k112 < (((sl2 - k69.toNat) : Nat) : Int) ∧ (∃ (x121 : Int), At M113 b119 (o120 + k112.toNat * 1) [(.int .u8 x121)] ∧ (InI (k112 - 1) ∧ (∃ (b122 o123 : Nat), (slA sa1 k69.toNat sc3 1) = some ⟨b122, o123, none⟩ ∧ (0 : Int) ≤ k112 - 1 ∧ k112 - 1 < (((sl2 - k69.toNat) : Nat) : Int) ∧ (∃ (x124 : Int), At M113 b122 (o123 + (k112 - 1).toNat * 1) [(.int .u8 x124)] ∧ (((x121 : Int) ≠ x124 → (∃ (b125 o126 : Nat), (slA sa1 k69.toNat sc3 1) = some ⟨b125, o126, none⟩ ∧ (0 : Int) ≤ k112 ∧ k112 < (((sl2 - k69.toNat) : Nat) : Int) ∧ (∃ (x127 : Int), At M113 b125 (o126 + k112.toNat * 1) [(.int .u8 x127)] ∧ (∃ (b128 o129 : Nat), sa1 = some ⟨b128, o129, none⟩ ∧ (0 : Int) ≤ k111 ∧ k111 < ((sl2 : Nat) : Int) ∧ (HasM M113 b128 (o129 + k111.toNat * 1) 1 ∧ Wr L M b128 ∧ ∀ (M130 : Mem), M130 = M113.put b128 (o129 + k111.toNat * 1) [(.int .u8 x127)] → (InI (k111 + 1) ∧ (S_slices_Compact_byte_J1 k111 k112 G116 gh117 I114 mu115 (k111 + 1) M130 K))))))) ∧ (¬ ((x121 : Int) ≠ x124) → (S_slices_Compact_byte_J1 k111 k112 G116 gh117 I114 mu115 k111 M113 K))))))))) ∧ (¬ (k112 < (((sl2 - k69.toNat) : Nat) : Int)) → ((0 : Int) ≤ k111 ∧ (k111 : Int) ≤ ((sl2 : Nat) : Int) ∧ (∃ (b133 o134 : Nat), (slA sa1 k111.toNat sc3 1) = some ⟨b133, o134, none⟩ ∧ 0 < (sl2 - k111.toNat) ∧ HasM M113 b133 o134 (sl2 - k111.toNat) ∧ Wr L M b133 ∧ ∀ (M135 : Mem), M135 = M113.put b133 o134 (List.replicate (sl2 - k111.toNat) (Value.int .u8 0)) → ((0 : Int) ≤ k111 ∧ (k111 : Int) ≤ ((sc3 : Nat) : Int) ∧ (∀ M', M135.le M' → K (Value.slice sa1 k111.toNat sc3) M')))))))))) ∧ (¬ ((x74 : Int) = x77) → (InI (k69 + 1) ∧ I70 (k69 + 1) ∧ mu71 (k69 + 1) < mu71 k69))))))))) ∧ (¬ (k69 < ((sl2 : Nat) : Int)) → (∀ M', M.le M' → K (Value.slice sa1 sl2 sc3) M')))))))
set_option maxRecDepth 100000 in
theorem s_slices_Compact_byte (sa1 : Option Addr) (sl2 : Nat) (sc3 : Nat) (M : Mem) (L : Nat → Prop) (K : Value → Mem → Prop) (hS : S_slices_Compact_byte sa1 sl2 sc3 M L K) : CallW Tryz.prog 41 #[(Value.slice sa1 sl2 sc3)] M L K := by
 refine eW1 Tryz.func41 61 fun E a hMM hs => ?_; unfold S_slices_Compact_byte at hS; refine qr (sP (.slice none 0 0) hs fun _ hs => ?_); refine wn (qs (qr (sP3 (.slice sa1 sl2 sc3) (iv (sl2 : Int)) (.bool (decide ((sl2 : Int) < 2))) hs fun _ hs => ?_))); refine wn (Wp.cS hs decide_eq_true_iff hS (fun hS => ?_) (fun hS => ?_))
 ·refine qr (sP2 (.slice sa1 sl2 sc3) (.slice sa1 sl2 sc3) hs fun _ hs => ?_); exact wn (qt (leaveW (K := K) hs (resT hs rfl rfl) hMM hS))
 ·refine qk (qs (qr (sP (iv 1) hs fun _ hs => ?_))); refine wn (qb ?_); obtain ⟨I70, mu71, hI0, hst⟩ := hS; refine Wp.loop (σ := (Int)) (fun k69 a w => Sx 61 E (bwW E M L) M w a [(0, (.slice sa1 sl2 sc3)), (3, (iv k69))] [] [] ∧ I70 k69) (fun k69 => mu71 k69) (1) ⟨hs.q, hI0⟩ (fun k69 a w hI => ?_); obtain ⟨hs, hI⟩ := hI; have hS := hst k69 hI; clear hst hI0 hI; refine qs (qr (sP4 (iv k69) (.slice sa1 sl2 sc3) (iv (sl2 : Int)) (.bool (decide (k69 < (sl2 : Int)))) hs fun _ hs => ?_)); refine wn (Wp.cS hs decide_eq_true_iff hS (fun hS => ?_) (fun hS => ?_))
  ·refine qk (qs (qb (qs (Wp.regionD [true, true, true, true, true, true, true, true, true, true] hs (by kernel_rfl) rfl [] (fun _ h => h) [] (fun _ h => h) (fun _ hs hC => ?_))))); have hL := Mem.le.refl M; refine dA (Value.slice sa1 sl2 sc3) 0 [2, 3, 9] hs fun _ hs => ?_; refine dA (iv k69) 1 [2, 3, 9] hs fun _ hs => ?_; obtain ⟨b72, o73, ha, h0, hl, hS⟩ := hS; refine dF (.pointer (some ⟨b72, o73 + k69.toNat * 1, none⟩)) 2 [3, 9] hs rfl (Yl.iS 5 1 ha h0 hl) fun _ hs => ?_; obtain ⟨x74, hat, hS⟩ := hS; refine dC (.int .u8 x74) 3 [9] hs hC rfl (Yl.lV [(.int .u8 x74)] false hat) fun _ hs => ?_; refine dA (Value.slice sa1 sl2 sc3) 4 [7, 8, 9] hs fun _ hs => ?_; refine sE 5 ?_; refine sP (iv k69) hs fun _ hs => ?_; refine nE 6 ?_; obtain ⟨hI, hS⟩ := hS; refine sY (iv (k69 - 1)) hs (Yl.wr hI) fun _ hs => ?_; refine nE 7 ?_; obtain ⟨b75, o76, ha, h0, hl, hS⟩ := hS; refine sI 5 1 ha h0 hl hs fun _ hs => ?_; refine nE 8 ?_; obtain ⟨x77, hat, hS⟩ := hS; refine sV1 (.int .u8 x77) hat hs fun _ hs => ?_; refine nE 9 ?_; refine sP (.bool ((x74 : Int) == (x77 : Int))) hs fun _ hs => ?_; refine wN ?_; refine dD ?_; refine Wp.cS hs beq_iff_eq hS (fun hS => ?_) (fun hS => ?_)
   ·refine qr (sP2 (.slice sa1 sl2 sc3) (iv k69) hs fun _ hs => ?_); obtain ⟨h0, h1, hS⟩ := hS; refine sY (.slice (slA sa1 k69.toNat sc3 1) (sl2 - k69.toNat) (sc3 - k69.toNat)) hs (Yl.sliceSL (e := 5) rfl rfl rfl rfl (by kernel_rfl) (by kernel_rfl) h0 h1) fun _ hs => ?_; refine sP (.slice (slA sa1 k69.toNat sc3 1) (sl2 - k69.toNat) (sc3 - k69.toNat)) hs fun _ hs => ?_; refine wn (qs (qr (sP (iv 1) hs fun _ hs => ?_))); refine wn (qb ?_); obtain ⟨G116, I114, mu115, gz118, hI0, hst⟩ := hS; refine Wp.loop (σ := G116 × (Int) × (Int) × (Mem)) (fun (gh117, k111, k112, M113) a w => WX M113 M E ∧ Sx 61 E (bwW E M L) M113 w a [(0, (.slice sa1 sl2 sc3)), (3, (iv k111)), (4, (.slice (slA sa1 k69.toNat sc3 1) (sl2 - k69.toNat) (sc3 - k69.toNat))), (5, (iv k112))] [] [] ∧ I114 gh117 k111 k112 M113) (fun (gh117, k111, k112, M113) => mu115 gh117 k111 k112) (gz118, k69, 1, M) ⟨hMM, hs.q, hI0⟩ (fun s a w hI => ?_); obtain ⟨gh117, k111, k112, M113⟩ := s; obtain ⟨hMM, hs, hI⟩ := hI; have hS := hst gh117 k111 k112 M113 hI; clear hst hI0 hI; refine qs (qr (sP3 (iv k112) (.slice (slA sa1 k69.toNat sc3 1) (sl2 - k69.toNat) (sc3 - k69.toNat)) (iv (((sl2 - k69.toNat) : Nat) : Int)) hs fun _ hs => ?_))
    refine sP (.bool (decide (k112 < (((sl2 - k69.toNat) : Nat) : Int)))) hs fun _ hs => ?_; refine wn (Wp.cS hs decide_eq_true_iff hS (fun hS => ?_) (fun hS => ?_))
    ·refine qk (Wp.join (fun a w => ∃ (k131 : Int) (M132 : Mem), WX M132 M E ∧ Sx 61 E (bwW E M L) M132 w a [(0, (.slice sa1 sl2 sc3)), (3, (iv k131)), (4, (.slice (slA sa1 k69.toNat sc3 1) (sl2 - k69.toNat) (sc3 - k69.toNat))), (5, (iv k112))] [] [] ∧ (S_slices_Compact_byte_J1 k111 k112 G116 gh117 I114 mu115 k131 M132 K)) ?_ ?_)
     ·refine qb (qs (Wp.regionD [true, true, true, true, true, true, true, true, true, true] hs (by kernel_rfl) rfl [] (fun _ h => h) [] (fun _ h => h) (fun _ hs hC => ?_))); have hL := Mem.le.refl M113; refine dA (Value.slice (slA sa1 k69.toNat sc3 1) (sl2 - k69.toNat) (sc3 - k69.toNat)) 0 [2, 3, 9] hs fun _ hs => ?_; refine dA (iv k112) 1 [2, 3, 9] hs fun _ hs => ?_; obtain ⟨b119, o120, ha, h0, hl, hS⟩ := hS; refine dF (.pointer (some ⟨b119, o120 + k112.toNat * 1, none⟩)) 2 [3, 9] hs rfl (Yl.iS 5 1 ha h0 hl) fun _ hs => ?_; obtain ⟨x121, hat, hS⟩ := hS; refine dC (.int .u8 x121) 3 [9] hs hC rfl (Yl.lV [(.int .u8 x121)] false hat) fun _ hs => ?_; refine dA (Value.slice (slA sa1 k69.toNat sc3 1) (sl2 - k69.toNat) (sc3 - k69.toNat)) 4 [7, 8, 9] hs fun _ hs => ?_; refine sE 5 ?_; refine sP (iv k112) hs fun _ hs => ?_; refine nE 6 ?_; obtain ⟨hI, hS⟩ := hS; refine sY (iv (k112 - 1)) hs (Yl.wr hI) fun _ hs => ?_; refine nE 7 ?_; obtain ⟨b122, o123, ha, h0, hl, hS⟩ := hS; refine sI 5 1 ha h0 hl hs fun _ hs => ?_; refine nE 8 ?_; obtain ⟨x124, hat, hS⟩ := hS; refine sV1 (.int .u8 x124) hat hs fun _ hs => ?_; refine nE 9 ?_; refine sP (.bool ((x121 : Int) != (x124 : Int))) hs fun _ hs => ?_; refine wN ?_; refine dD ?_; refine Wp.cS hs bne_iff_ne hS (fun hS => ?_) (fun hS => ?_)
      ·refine qr (sP4 (.slice sa1 sl2 sc3) (iv k111) (.slice (slA sa1 k69.toNat sc3 1) (sl2 - k69.toNat) (sc3 - k69.toNat)) (iv k112) hs fun _ hs => ?_); obtain ⟨b125, o126, ha, h0, hl, hS⟩ := hS; refine sI 5 1 ha h0 hl hs fun _ hs => ?_; obtain ⟨x127, hat, hS⟩ := hS; refine sV1 (.int .u8 x127) hat hs fun _ hs => ?_; obtain ⟨b128, o129, ha, h0, hl, hS⟩ := hS; refine sI 5 1 ha h0 hl hs fun _ hs => ?_; obtain ⟨hhas, hwr, hS⟩ := hS; refine stepStoreM (vs := [(.int .u8 x127)]) hs hMM rfl rfl rfl rfl rfl (by kernel_rfl) rfl hhas hwr (fun _ _ M130 hM2 hMM hs => ?_); have hS := hS M130 hM2; refine wn (qg (sP (iv k111) hs fun _ hs => ?_)); obtain ⟨hI, hS⟩ := hS; refine sY (iv (k111 + 1)) hs (Yl.wr hI) fun _ hs => ?_; refine sP (iv (k111 + 1)) hs fun _ hs => ?_; exact wn (⟨(k111 + 1), M130, hMM, hs.q, hS⟩)
      ·exact qk (⟨k111, M113, hMM, hs.q, hS⟩)
     ·intro a w hJ; obtain ⟨k131, M132, hMM, hs, hS⟩ := hJ; unfold S_slices_Compact_byte_J1 at hS; refine qg (sP (iv k112) hs fun _ hs => ?_); obtain ⟨hI, hS⟩ := hS; refine sY (iv (k112 + 1)) hs (Yl.wr hI) fun _ hs => ?_; refine sP (iv (k112 + 1)) hs fun _ hs => ?_; refine wn ?_; obtain ⟨gh, hI1, hI2⟩ := hS; exact ⟨(gh, k131, k112 + 1, M132), ⟨hMM, hs.q, hI1⟩, hI2⟩
    ·refine qx rfl (qr (sP (.slice sa1 sl2 sc3) hs fun _ hs => ?_)); refine sP (iv k111) hs fun _ hs => ?_; obtain ⟨h0, h1, hS⟩ := hS; refine sY (.slice (slA sa1 k111.toNat sc3 1) (sl2 - k111.toNat) (sc3 - k111.toNat)) hs (Yl.sliceSL (e := 5) rfl rfl rfl rfl (by kernel_rfl) (by kernel_rfl) h0 h1) fun _ hs => ?_; obtain ⟨b133, o134, had, h0, hhas, hwr, hS⟩ := hS; refine stepClearM (e := 5) (Value.int .u8 0) hs hMM had h0 hhas hwr (fun _ _ M135 hM2 hMM hs => ?_); have hS := hS M135 hM2; refine wn (qr (sP2 (.slice sa1 sl2 sc3) (iv k111) hs fun _ hs => ?_)); obtain ⟨h1, h2, hS⟩ := hS; refine sY (.slice sa1 k111.toNat sc3) hs (Yl.sliceSH (e := 5) (sz := 1) rfl rfl rfl rfl (by kernel_rfl) (by kernel_rfl) h1 h2) fun _ hs => ?_; refine sP (.slice sa1 k111.toNat sc3) hs fun _ hs => ?_; exact wn (qt (leaveW (K := K) hs (resT hs rfl rfl) hMM hS))
   ·refine qk (qg (sP (iv k69) hs fun _ hs => ?_)); obtain ⟨hI, hS⟩ := hS; refine sY (iv (k69 + 1)) hs (Yl.wr hI) fun _ hs => ?_; refine sP (iv (k69 + 1)) hs fun _ hs => ?_; exact wn (⟨(k69 + 1), ⟨hs.q, hS.1⟩, hS.2⟩)
  ·refine qx rfl (qr (sP (.slice sa1 sl2 sc3) hs fun _ hs => ?_)); refine sP (.slice sa1 sl2 sc3) hs fun _ hs => ?_; exact wn (qt (leaveW (K := K) hs (resT hs rfl rfl) hMM hS))
def S_chaffref_Alpha (a1 : List UInt8) (M : Mem) (L : Nat → Prop) (K : Value → Mem → Prop) : Prop :=
 ((((a1.length : Nat) : Int) = 0 → (∀ M', M.le M' → K (Value.int .i64 1) M')) ∧ (¬ (((a1.length : Nat) : Int) = 0) → ((((a1.length : Nat) : Int) > 8 → (∀ M', M.le M' → K (Value.int .i64 2) M')) ∧ (¬ (((a1.length : Nat) : Int) > 8) → (a1.length ≤ maxLen ∧ ∀ (M2 : Mem) (A3 : Option Addr) (c4 : Nat), NewB M M2 A3 c4 a1 → (CallW Tryz.prog 40 #[(.slice A3 ((a1).length) c4)] M2 (Wr L M) (fun v M5 => v = (Value.tuple #[]) ∧ (CallW Tryz.prog 41 #[(.slice A3 ((a1).length) c4)] M5 (Wr L M) (fun v M9 => ∃ (xa6 : Option Addr) (xl7 : Nat) (xc8 : Nat), v = (Value.slice xa6 xl7 xc8) ∧ (∃ (x10 : List UInt8), SlV M9 xa6 xl7 xc8 1 (bytesV x10) ∧ x10.length = xl7 ∧ ((x10 ≠ a1 → (∀ M', M9.le M' → K (Value.int .i64 3) M')) ∧ (¬ (x10 ≠ a1) → (∀ M', M9.le M' → K (Value.int .i64 0) M')))))))))))))
set_option maxRecDepth 100000 in
theorem s_chaffref_Alpha (a1 : List UInt8) (M : Mem) (L : Nat → Prop) (K : Value → Mem → Prop) (hS : S_chaffref_Alpha a1 M L K) : CallW Tryz.prog 21 #[(Value.string (mkS a1))] M L K := by
 refine eW1 Tryz.func21 21 fun E a hMM hs => ?_; unfold S_chaffref_Alpha at hS; refine qr (sP (iv 0) hs fun _ hs => ?_); refine wn (qs (qb (qr (sP4 (.string (mkS a1)) (iv (a1.length : Int)) (.bool ((a1.length : Int) == (0 : Int))) (.bool ((a1.length : Int) == (0 : Int))) hs fun _ hs => ?_)))); refine wn (Wp.cS hs beq_iff_eq hS (fun hS => ?_) (fun hS => ?_))
 ·refine qr (sP (iv 1) hs fun _ hs => ?_); exact wn (qt (leaveW (K := K) hs (resT hs rfl rfl) hMM hS))
 ·refine qr (sP4 (.string (mkS a1)) (iv (a1.length : Int)) (.bool (decide ((a1.length : Int) > 8))) (.bool (decide ((a1.length : Int) > 8))) hs fun _ hs => ?_); refine wn (Wp.cS hs decide_eq_true_iff hS (fun hS => ?_) (fun hS => ?_))
  ·refine qr (sP (iv 2) hs fun _ hs => ?_); exact wn (qt (leaveW (K := K) hs (resT hs rfl rfl) hMM hS))
  ·refine qk (qr (sP (.string (mkS a1)) hs fun _ hs => ?_)); obtain ⟨hm, hS⟩ := hS; refine stepBytesW (e := 5) hs hMM hm (fun _ _ M2 A3 c4 hnb hMM hs => ?_); have hS := hS M2 A3 c4 hnb; refine sP (.slice A3 ((a1).length) c4) hs fun _ hs => ?_; refine wn (qr (sP (.slice A3 ((a1).length) c4) hs fun _ hs => ?_)); refine cW [(.slice A3 ((a1).length) c4)] hs hMM Tryz.func40 hS fun _ _ M5 v hMM hS hs => ?_; obtain ⟨hv, hS⟩ := hS; subst hv; refine wn (qs (qr (sP (.slice A3 ((a1).length) c4) hs fun _ hs => ?_))); refine cW [(.slice A3 ((a1).length) c4)] hs hMM Tryz.func41 hS fun _ _ M9 v hMM hS hs => ?_; obtain ⟨xa6, xl7, xc8, rfl, hS⟩ := hS; obtain ⟨x10, hsl, hln, hS⟩ := hS; refine sY (.string (mkS x10)) hs (Yl.bytesV (e := 5) rfl rfl (by kernel_rfl) (by kernel_rfl) (by kernel_rfl) hsl hln) fun _ hs => ?_; refine sP2 (.string (mkS a1)) (.bool (!((mkS x10).toList == (mkS a1).toList))) hs fun _ hs => ?_; refine wn (Wp.cS hs mkS_bne hS (fun hS => ?_) (fun hS => ?_))
   ·refine qr (sP (iv 3) hs fun _ hs => ?_); exact wn (qt (leaveW (K := K) hs (resT hs rfl rfl) hMM hS))
   ·refine qk (qr (sP (iv 0) hs fun _ hs => ?_)); exact wn (qt (leaveW (K := K) hs (resT hs rfl rfl) hMM hS))
theorem e_chaffref_Alpha (a1 : List UInt8) (M : Mem) (K : Value → Mem → Prop) (hS : S_chaffref_Alpha a1 M (fun _ => False) K) : CallE Tryz.prog 21 #[(Value.string (mkS a1))] M K := (s_chaffref_Alpha _ _ _ _ hS).toE
def S_chaffref_Power (a1 : List UInt8) (n2 : Int) (M : Mem) (K : Value → Prop) : Prop :=
 (∃ (I7 : Int → Int → Prop) (mu8 : Int → Int → Nat), I7 1 0 ∧ ∀ (out5 : Int) (x6 : Int), (I7 out5 x6 → ((x6 < n2 → (InI (out5 * ((a1.length : Nat) : Int)) ∧ (InI (x6 + 1) ∧ I7 (out5 * ((a1.length : Nat) : Int)) (x6 + 1) ∧ mu8 (out5 * ((a1.length : Nat) : Int)) (x6 + 1) < mu8 out5 x6))) ∧ (¬ (x6 < n2) → K (Value.int .i64 out5)))))
set_option maxRecDepth 100000 in
theorem s_chaffref_Power (a1 : List UInt8) (n2 : Int) (M : Mem) (K : Value → Prop) (hS : S_chaffref_Power a1 n2 M K) : CallE Tryz.prog 42 #[(Value.string (mkS a1)), (Value.int .i64 n2)] M (fun v _ => K v) := by
 refine eE2 Tryz.func42 15 fun E a hMM hs => ?_; unfold S_chaffref_Power at hS; refine qr (sP (iv 0) hs fun _ hs => ?_); refine wn (qr (sP (iv 1) hs fun _ hs => ?_)); refine wn (qs (qr (sP2 (iv n2) (iv 0) hs fun _ hs => ?_))); refine wn (qb ?_); obtain ⟨I7, mu8, hI0, hst⟩ := hS; refine Wp.loop (σ := (Int) × (Int)) (fun (out5, x6) a w => Sx 15 E [] M w a [(0, (.string (mkS a1))), (5, (iv out5)), (6, (iv n2)), (7, (iv x6))] [] [] ∧ I7 out5 x6) (fun (out5, x6) => mu8 out5 x6) (1, 0) ⟨hs.q, hI0⟩ (fun s a w hI => ?_); obtain ⟨out5, x6⟩ := s; obtain ⟨hs, hI⟩ := hI; have hS := hst out5 x6 hI; clear hst hI0 hI; refine qr (sP (.bool (decide (x6 < n2))) hs fun _ hs => ?_); refine wn (qs (Wp.cS hs decide_eq_true_iff hS (fun hS => ?_) (fun hS => ?_)))
 ·refine qk (qs (qb (qg (sP3 (iv out5) (.string (mkS a1)) (iv (a1.length : Int)) hs fun _ hs => ?_)))); obtain ⟨hI, hS⟩ := hS; refine sY (iv (out5 * (a1.length : Int))) hs (Yl.wr hI) fun _ hs => ?_; refine sP (iv (out5 * (a1.length : Int))) hs fun _ hs => ?_; refine wn (qg ?_); obtain ⟨hI, hS⟩ := hS; refine sY (iv (x6 + 1)) hs (Yl.wr hI) fun _ hs => ?_; refine sP (iv (x6 + 1)) hs fun _ hs => ?_; exact wn (⟨(out5 * (a1.length : Int), x6 + 1), ⟨hs.q, hS.1⟩, hS.2⟩)
 ·refine qx rfl (qr (sP (iv out5) hs fun _ hs => ?_)); refine sP (iv out5) hs fun _ hs => ?_; exact wn (qt (rT hs hMM hS))
def S_chaffref_Many (a1 : List UInt8) (n2 : Int) (M : Mem) (K : Value → Prop) : Prop :=
 (InI (n2 + 1) ∧ (∃ (I8 : Int → Int → Prop) (mu9 : Int → Int → Nat), I8 0 0 ∧ ∀ (out6 : Int) (x7 : Int), (I8 out6 x7 → ((x7 < n2 + 1 → (CallE Tryz.prog 42 #[(.string (mkS a1)), (.int .i64 x7)] M (fun v _ => ∃ (x10 : Int), v = (Value.int .i64 x10) ∧ (InI (out6 + x10) ∧ (InI (x7 + 1) ∧ I8 (out6 + x10) (x7 + 1) ∧ mu9 (out6 + x10) (x7 + 1) < mu9 out6 x7))))) ∧ (¬ (x7 < n2 + 1) → K (Value.int .i64 out6))))))
set_option maxRecDepth 100000 in
theorem s_chaffref_Many (a1 : List UInt8) (n2 : Int) (M : Mem) (K : Value → Prop) (hS : S_chaffref_Many a1 n2 M K) : CallE Tryz.prog 22 #[(Value.string (mkS a1)), (Value.int .i64 n2)] M (fun v _ => K v) := by
 refine eE2 Tryz.func22 19 fun E a hMM hs => ?_; unfold S_chaffref_Many at hS; refine qr (sP (iv 0) hs fun _ hs => ?_); refine wn (qr (sP (iv 0) hs fun _ hs => ?_)); refine wn (qs (qr (sP (iv n2) hs fun _ hs => ?_))); obtain ⟨hI, hS⟩ := hS; refine sY (iv (n2 + 1)) hs (Yl.wr hI) fun _ hs => ?_; refine sP (iv 0) hs fun _ hs => ?_; refine wn (qb ?_); obtain ⟨I8, mu9, hI0, hst⟩ := hS; refine Wp.loop (σ := (Int) × (Int)) (fun (out6, x7) a w => Sx 19 E [] M w a [(0, (.string (mkS a1))), (5, (iv out6)), (8, (iv (n2 + 1))), (9, (iv x7))] [] [] ∧ I8 out6 x7) (fun (out6, x7) => mu9 out6 x7) (0, 0) ⟨hs.q, hI0⟩ (fun s a w hI => ?_); obtain ⟨out6, x7⟩ := s; obtain ⟨hs, hI⟩ := hI; have hS := hst out6 x7 hI; clear hst hI0 hI; refine qr (sP (.bool (decide (x7 < n2 + 1))) hs fun _ hs => ?_); refine wn (qs (Wp.cS hs decide_eq_true_iff hS (fun hS => ?_) (fun hS => ?_)))
 ·refine qk (qs (qb (qr (sP2 (iv x7) (iv x7) hs fun _ hs => ?_)))); refine wn (qg (sP3 (iv out6) (.string (mkS a1)) (iv x7) hs fun _ hs => ?_)); refine cP [(.string (mkS a1)), (iv x7)] hs Tryz.func42 hS fun _ _ v hS hs => ?_; obtain ⟨x10, rfl, hS⟩ := hS; obtain ⟨hI, hS⟩ := hS; refine sY (iv (out6 + x10)) hs (Yl.wr hI) fun _ hs => ?_; refine sP (iv (out6 + x10)) hs fun _ hs => ?_; refine wn (qg ?_); obtain ⟨hI, hS⟩ := hS; refine sY (iv (x7 + 1)) hs (Yl.wr hI) fun _ hs => ?_; refine sP (iv (x7 + 1)) hs fun _ hs => ?_; exact wn (⟨(out6 + x10, x7 + 1), ⟨hs.q, hS.1⟩, hS.2⟩)
 ·refine qx rfl (qr (sP (iv out6) hs fun _ hs => ?_)); refine sP (iv out6) hs fun _ hs => ?_; exact wn (qt (rT hs hMM hS))
end Go.Proofs.YtmnilbfhfjdelaaGreat.core

namespace Go.Proofs.YtmnilbfhfjdelaaGreat.core
open Go.Gx Go.RowKit Go.ChangeShapes Go.WideShapes Go.ChangeAt
set_option linter.unusedVariables false
def S_list_Look (ga1 : Option Addr) (gl2 : Nat) (gc3 : Nat) (a4 : List UInt8) (n5 : Int) (M : Mem) (K : Value → Prop) : Prop :=
 (CallE Tryz.prog 29 #[(.agg #[(.slice ga1 gl2 gc3)])] M (fun v _ => ∃ (x7 : Int) (x8 : Int), v = (Value.tuple #[(.int .i64 x7), (.int .i64 x8)]) ∧ (((x8 : Int) ≠ 0 → K (Value.int .i64 x8)) ∧ (¬ ((x8 : Int) ≠ 0) → (CallE Tryz.prog 30 #[(.string (mkS a4)), (.int .i64 n5)] M (fun v _ => ∃ (x9 : Int) (x10 : Int), v = (Value.tuple #[(.int .i64 x9), (.int .i64 x10)]) ∧ (((x10 : Int) ≠ 0 → K (Value.int .i64 x10)) ∧ (¬ ((x10 : Int) ≠ 0) → ((x9 > 5000 → K (Value.int .i64 2)) ∧ (¬ (x9 > 5000) → K (Value.int .i64 0)))))))))))
set_option maxRecDepth 100000 in
theorem s_list_Look (ga1 : Option Addr) (gl2 : Nat) (gc3 : Nat) (a4 : List UInt8) (n5 : Int) (M : Mem) (K : Value → Prop) (hS : S_list_Look ga1 gl2 gc3 a4 n5 M K) : CallE Tryz.prog 17 #[(Value.agg #[(Value.slice ga1 gl2 gc3)]), (Value.string (mkS a4)), (Value.int .i64 n5)] M (fun v _ => K v) := by
 refine eE3 Tryz.func17 30 fun E a hMM hs => ?_; unfold S_list_Look at hS; refine qr (stepBox [(.slice ga1 gl2 gc3)] hs rfl rfl rfl (by decide) (fun _ _ b6 hEb6 hs => ?_)); refine sP (iv 0) hs fun _ hs => ?_; refine wn (qs (qr (sB [(.slice ga1 gl2 gc3)] true 0 hs fun _ hs => ?_))); refine cP [(.agg #[(.slice ga1 gl2 gc3)])] hs Tryz.func29 hS fun _ _ v hS hs => ?_; obtain ⟨x7, x8, rfl, hS⟩ := hS; refine sP4 (Value.tuple #[(iv x7), (iv x8)]) (iv x7) (iv x8) (iv x7) hs fun _ hs => ?_; refine sP (iv x8) hs fun _ hs => ?_; refine wn (qr (sP2 (iv x8) (.bool ((x8 : Int) != (0 : Int))) hs fun _ hs => ?_)); refine wn (Wp.cS hs bne_iff_ne hS (fun hS => ?_) (fun hS => ?_))
 ·refine qr (sP2 (iv x8) (iv x8) hs fun _ hs => ?_); exact wn (qt (rT hs hMM hS))
 ·refine qk (qr (sP2 (.string (mkS a4)) (iv n5) hs fun _ hs => ?_)); refine cP [(.string (mkS a4)), (iv n5)] hs Tryz.func30 hS fun _ _ v hS hs => ?_; obtain ⟨x9, x10, rfl, hS⟩ := hS; refine sP4 (Value.tuple #[(iv x9), (iv x10)]) (iv x9) (iv x10) (iv x9) hs fun _ hs => ?_; refine sP (iv x10) hs fun _ hs => ?_; refine wn (qs (qr (sP2 (iv x10) (.bool ((x10 : Int) != (0 : Int))) hs fun _ hs => ?_))); refine wn (Wp.cS hs bne_iff_ne hS (fun hS => ?_) (fun hS => ?_))
  ·refine qr (sP2 (iv x10) (iv x10) hs fun _ hs => ?_); exact wn (qt (rT hs hMM hS))
  ·refine qk (qs (qr (sP2 (iv x9) (.bool (decide (x9 > 5000))) hs fun _ hs => ?_))); refine wn (Wp.cS hs decide_eq_true_iff hS (fun hS => ?_) (fun hS => ?_))
   ·refine qr (sP (iv 2) hs fun _ hs => ?_); exact wn (qt (rT hs hMM hS))
   ·refine qk (qr (sP (iv 0) hs fun _ hs => ?_)); exact wn (qt (rT hs hMM hS))
def S_chaffref_Listable_J1 (a4 : List UInt8) (n5 : Int) (M : Mem) (x10 : Bool) (K : Value → Prop) : Prop :=
 ((x10 = true → K (Value.int .i64 1)) ∧ (¬ (x10 = true) → (CallE Tryz.prog 22 #[(.string (mkS a4)), (.int .i64 n5)] M (fun v _ => ∃ (x11 : Int), v = (Value.int .i64 x11) ∧ ((x11 > 5000 → K (Value.int .i64 2)) ∧ (¬ (x11 > 5000) → K (Value.int .i64 0)))))))
def S_chaffref_Listable (ga1 : Option Addr) (gl2 : Nat) (gc3 : Nat) (a4 : List UInt8) (n5 : Int) (M : Mem) (K : Value → Prop) : Prop :=
 (CallE Tryz.prog 20 #[(.agg #[(.slice ga1 gl2 gc3)])] M (fun v _ => ∃ (x7 : Int) (x8 : Int), v = (Value.tuple #[(.int .i64 x7), (.int .i64 x8)]) ∧ (((x8 : Int) ≠ 0 → K (Value.int .i64 x8)) ∧ (¬ ((x8 : Int) ≠ 0) → (CallE Tryz.prog 21 #[(.string (mkS a4))] M (fun v _ => ∃ (x9 : Int), v = (Value.int .i64 x9) ∧ (((x9 : Int) ≠ 0 → K (Value.int .i64 x9)) ∧ (¬ ((x9 : Int) ≠ 0) → ((n5 < 0 → (S_chaffref_Listable_J1 a4 n5 M true K)) ∧ (¬ (n5 < 0) → (S_chaffref_Listable_J1 a4 n5 M (decide (n5 > 6)) K)))))))))))
set_option maxRecDepth 100000 in
theorem s_chaffref_Listable (ga1 : Option Addr) (gl2 : Nat) (gc3 : Nat) (a4 : List UInt8) (n5 : Int) (M : Mem) (K : Value → Prop) (hS : S_chaffref_Listable ga1 gl2 gc3 a4 n5 M K) : CallE Tryz.prog 7 #[(Value.agg #[(Value.slice ga1 gl2 gc3)]), (Value.string (mkS a4)), (Value.int .i64 n5)] M (fun v _ => K v) := by
 refine eE3 Tryz.func7 33 fun E a hMM hs => ?_; unfold S_chaffref_Listable at hS; refine qr (stepBox [(.slice ga1 gl2 gc3)] hs rfl rfl rfl (by decide) (fun _ _ b6 hEb6 hs => ?_)); refine sP (iv 0) hs fun _ hs => ?_; refine wn (qs (qr (sB [(.slice ga1 gl2 gc3)] true 0 hs fun _ hs => ?_))); refine cP [(.agg #[(.slice ga1 gl2 gc3)])] hs Tryz.func20 hS fun _ _ v hS hs => ?_; obtain ⟨x7, x8, rfl, hS⟩ := hS; refine sP4 (Value.tuple #[(iv x7), (iv x8)]) (iv x7) (iv x8) (iv x7) hs fun _ hs => ?_; refine sP (iv x8) hs fun _ hs => ?_; refine wn (qr (sP2 (iv x8) (.bool ((x8 : Int) != (0 : Int))) hs fun _ hs => ?_)); refine wn (Wp.cS hs bne_iff_ne hS (fun hS => ?_) (fun hS => ?_))
 ·refine qr (sP2 (iv x8) (iv x8) hs fun _ hs => ?_); exact wn (qt (rT hs hMM hS))
 ·refine qk (qs (qr (sP (.string (mkS a4)) hs fun _ hs => ?_))); refine cP [(.string (mkS a4))] hs Tryz.func21 hS fun _ _ v hS hs => ?_; obtain ⟨x9, rfl, hS⟩ := hS; refine sP (iv x9) hs fun _ hs => ?_; refine wn (qr (sP2 (iv x9) (.bool ((x9 : Int) != (0 : Int))) hs fun _ hs => ?_)); refine wn (Wp.cS hs bne_iff_ne hS (fun hS => ?_) (fun hS => ?_))
  ·refine qr (sP2 (iv x9) (iv x9) hs fun _ hs => ?_); exact wn (qt (rT hs hMM hS))
  ·refine qk (qs (Wp.join (fun a w => ∃ (x10 : Bool), Sx 33 E [] M w a [(1, (.string (mkS a4))), (2, (iv n5)), (28, (.bool x10))] [⟨b6, 24, [(.slice ga1 gl2 gc3)]⟩] [] ∧ (S_chaffref_Listable_J1 a4 n5 M x10 K)) ?_ ?_))
   ·refine qg (sP3 (iv n5) (.bool (decide (n5 < 0))) (.bool (decide (n5 < 0))) hs fun _ hs => ?_); refine bsS decide_eq_true_iff hs hS (fun hs hS => ?_) (fun hs hS => ?_)
    ·refine sNo hs fun _ hs => ?_; refine sNo hs fun _ hs => ?_; refine sP (.bool true) hs fun _ hs => ?_; exact wn (⟨true, hs.q, hS⟩)
    ·refine ye (iv n5) hs fun _ hs => ?_; refine ye (.bool (decide (n5 > 6))) hs fun _ hs => ?_; refine sP (.bool (decide (n5 > 6))) hs fun _ hs => ?_; exact wn (⟨(decide (n5 > 6)), hs.q, hS⟩)
   ·intro a w hJ; obtain ⟨x10, hs, hS⟩ := hJ; unfold S_chaffref_Listable_J1 at hS; refine Wp.cS hs Iff.rfl hS (fun hS => ?_) (fun hS => ?_)
    ·refine qr (sP (iv 1) hs fun _ hs => ?_); exact wn (qt (rT hs hMM hS))
    ·refine qk (qs (qr (sP2 (.string (mkS a4)) (iv n5) hs fun _ hs => ?_))); refine cP [(.string (mkS a4)), (iv n5)] hs Tryz.func22 hS fun _ _ v hS hs => ?_; obtain ⟨x11, rfl, hS⟩ := hS; refine sP (.bool (decide (x11 > 5000))) hs fun _ hs => ?_; refine wn (Wp.cS hs decide_eq_true_iff hS (fun hS => ?_) (fun hS => ?_))
     ·refine qr (sP (iv 2) hs fun _ hs => ?_); exact wn (qt (rT hs hMM hS))
     ·refine qk (qr (sP (iv 0) hs fun _ hs => ?_)); exact wn (qt (rT hs hMM hS))
end Go.Proofs.YtmnilbfhfjdelaaGreat.core

namespace Go.Proofs.YtmnilbfhfjdelaaGreat.core
open Go.Gx Go.RowKit Go.ChangeShapes Go.WideShapes Go.ChangeAt
set_option linter.unusedVariables false
def S_internal_stringslite_IndexByte (s1 : List UInt8) (c2 : Int) (M : Mem) (K : Value → Prop) : Prop :=
 K (Value.int .i64 (idxB s1 c2))
set_option maxRecDepth 100000 in
theorem s_internal_stringslite_IndexByte (s1 : List UInt8) (c2 : Int) (M : Mem) (K : Value → Prop) (hS : S_internal_stringslite_IndexByte s1 c2 M K) : CallE Tryz.prog 68 #[(Value.string (mkS s1)), (Value.int .u8 c2)] M (fun v _ => K v) := by
 refine eE2 Tryz.func68 8 fun E a hMM hs => ?_; unfold S_internal_stringslite_IndexByte at hS; refine qr (sP (iv 0) hs fun _ hs => ?_); refine wn (qr (sP2 (.string (mkS s1)) (.int .u8 c2) hs fun _ hs => ?_)); refine sY (iv (idxB s1 c2)) hs (Yl.idxByte rfl ⟨_, rfl, rfl⟩ rfl Tryz.func94 rfl (by kernel_rfl) (by kernel_rfl) (by kernel_rfl)) fun _ hs => ?_; refine sP (iv (idxB s1 c2)) hs fun _ hs => ?_; exact wn (qt (rT hs hMM hS))
def S_strings_IndexByte (s1 : List UInt8) (c2 : Int) (M : Mem) (K : Value → Prop) : Prop :=
 (CallE Tryz.prog 68 #[(.string (mkS s1)), (.int .u8 c2)] M (fun v _ => ∃ (x3 : Int), v = (Value.int .i64 x3) ∧ K (Value.int .i64 x3)))
set_option maxRecDepth 100000 in
theorem s_strings_IndexByte (s1 : List UInt8) (c2 : Int) (M : Mem) (K : Value → Prop) (hS : S_strings_IndexByte s1 c2 M K) : CallE Tryz.prog 45 #[(Value.string (mkS s1)), (Value.int .u8 c2)] M (fun v _ => K v) := by
 refine eE2 Tryz.func45 8 fun E a hMM hs => ?_; unfold S_strings_IndexByte at hS; refine qr (sP (iv 0) hs fun _ hs => ?_); refine wn (qr (sP2 (.string (mkS s1)) (.int .u8 c2) hs fun _ hs => ?_)); refine cP [(.string (mkS s1)), (.int .u8 c2)] hs Tryz.func68 hS fun _ _ v hS hs => ?_; obtain ⟨x3, rfl, hS⟩ := hS; refine sP (iv x3) hs fun _ hs => ?_; exact wn (qt (rT hs hMM hS))
def S_walk_Over (a1 : List UInt8) (s2 : List UInt8) (M : Mem) (K : Value → Prop) : Prop :=
 (CallE Tryz.prog 44 #[(.string (mkS a1))] M (fun v _ => ∃ (x3 : Int), v = (Value.int .i64 x3) ∧ (((x3 : Int) ≠ 0 → K (Value.int .i64 x3)) ∧ (¬ ((x3 : Int) ≠ 0) → ((((s2.length : Nat) : Int) > 6 → K (Value.int .i64 2)) ∧ (¬ (((s2.length : Nat) : Int) > 6) → (∃ (I8 : Int → Prop) (mu9 : Int → Nat), I8 0 ∧ ∀ (x7 : Int), (I8 x7 → ((x7 < ((s2.length : Nat) : Int) → (∃ c10 : UInt8, (0 : Int) ≤ x7 ∧ s2[x7.toNat]? = some c10 ∧ (CallE Tryz.prog 45 #[(.string (mkS a1)), (.int .u8 (c10.toNat : Int))] M (fun v _ => ∃ (x11 : Int), v = (Value.int .i64 x11) ∧ ((x11 < 0 → K (Value.int .i64 12)) ∧ (¬ (x11 < 0) → (InI (x7 + 1) ∧ I8 (x7 + 1) ∧ mu9 (x7 + 1) < mu9 x7))))))) ∧ (¬ (x7 < ((s2.length : Nat) : Int)) → K (Value.int .i64 0)))))))))))
set_option maxRecDepth 100000 in
theorem s_walk_Over (a1 : List UInt8) (s2 : List UInt8) (M : Mem) (K : Value → Prop) (hS : S_walk_Over a1 s2 M K) : CallE Tryz.prog 24 #[(Value.string (mkS a1)), (Value.string (mkS s2))] M (fun v _ => K v) := by
 refine eE2 Tryz.func24 27 fun E a hMM hs => ?_; unfold S_walk_Over at hS; refine qr (sP (iv 0) hs fun _ hs => ?_); refine wn (qs (qr (sP (.string (mkS a1)) hs fun _ hs => ?_))); refine cP [(.string (mkS a1))] hs Tryz.func44 hS fun _ _ v hS hs => ?_; obtain ⟨x3, rfl, hS⟩ := hS; refine sP (iv x3) hs fun _ hs => ?_; refine wn (qr (sP2 (iv x3) (.bool ((x3 : Int) != (0 : Int))) hs fun _ hs => ?_)); refine wn (Wp.cS hs bne_iff_ne hS (fun hS => ?_) (fun hS => ?_))
 ·refine qr (sP2 (iv x3) (iv x3) hs fun _ hs => ?_); exact wn (qt (rT hs hMM hS))
 ·refine qk (qs (qr (sP3 (.string (mkS s2)) (iv (s2.length : Int)) (.bool (decide ((s2.length : Int) > 6))) hs fun _ hs => ?_))); refine wn (Wp.cS hs decide_eq_true_iff hS (fun hS => ?_) (fun hS => ?_))
  ·refine qr (sP (iv 2) hs fun _ hs => ?_); exact wn (qt (rT hs hMM hS))
  ·refine qk (qs (qr (sP3 (.string (mkS s2)) (iv (s2.length : Int)) (iv 0) hs fun _ hs => ?_))); refine wn (qb ?_); obtain ⟨I8, mu9, hI0, hst⟩ := hS; refine Wp.loop (σ := (Int)) (fun x7 a w => Sx 27 E [] M w a [(0, (.string (mkS a1))), (1, (.string (mkS s2))), (16, (iv (s2.length : Int))), (17, (iv x7))] [] [] ∧ I8 x7) (fun x7 => mu9 x7) (0) ⟨hs.q, hI0⟩ (fun x7 a w hI => ?_); obtain ⟨hs, hI⟩ := hI; have hS := hst x7 hI; clear hst hI0 hI; refine qr (sP (.bool (decide (x7 < (s2.length : Int)))) hs fun _ hs => ?_); refine wn (qs (Wp.cS hs decide_eq_true_iff hS (fun hS => ?_) (fun hS => ?_)))
   ·refine qk (qs (qb (qr (sP2 (iv x7) (iv x7) hs fun _ hs => ?_)))); refine wn (qr (sP3 (.string (mkS a1)) (.string (mkS s2)) (iv x7) hs fun _ hs => ?_)); obtain ⟨c10, h0, hi, hS⟩ := hS; refine sY (.int .u8 (c10.toNat : Int)) hs (Yl.indexStr rfl rfl rfl rfl (by kernel_rfl) h0 hi) fun _ hs => ?_; refine cP [(.string (mkS a1)), (.int .u8 (c10.toNat : Int))] hs Tryz.func45 hS fun _ _ v hS hs => ?_; obtain ⟨x11, rfl, hS⟩ := hS; refine sP (.bool (decide (x11 < 0))) hs fun _ hs => ?_; refine wn (Wp.cS hs decide_eq_true_iff hS (fun hS => ?_) (fun hS => ?_))
    ·refine qr (sP (iv 12) hs fun _ hs => ?_); exact wn (qt (rT hs hMM hS))
    ·refine qk (qg ?_); obtain ⟨hI, hS⟩ := hS; refine sY (iv (x7 + 1)) hs (Yl.wr hI) fun _ hs => ?_; refine sP (iv (x7 + 1)) hs fun _ hs => ?_; exact wn (⟨(x7 + 1), ⟨hs.q, hS.1⟩, hS.2⟩)
   ·refine qx rfl (qr (sP (iv 0) hs fun _ hs => ?_)); exact wn (qt (rT hs hMM hS))
def S_walk_Next (a1 : List UInt8) (s2 : List UInt8) (M : Mem) (L : Nat → Prop) (K : Value → Mem → Prop) : Prop :=
 (CallE Tryz.prog 24 #[(.string (mkS a1)), (.string (mkS s2))] M (fun v _ => ∃ (x3 : Int), v = (Value.int .i64 x3) ∧ (((x3 : Int) ≠ 0 → (∀ M', M.le M' → K (Value.tuple #[(.string (mkS ([] : List UInt8))), (.int .i64 x3)]) M')) ∧ (¬ ((x3 : Int) ≠ 0) → (s2.length ≤ maxLen ∧ ∀ (M4 : Mem) (A5 : Option Addr) (c6 : Nat), NewB M M4 A5 c6 s2 → (InI (((s2.length : Nat) : Int) - 1) ∧ (∃ (G36 : Type) (I34 : G36 → Int → Mem → Prop) (mu35 : G36 → Int → Nat) (gz38 : G36), I34 gz38 (((s2.length : Nat) : Int) - 1) M4 ∧ ∀ (gh37 : G36) (i_32 : Int) (M33 : Mem), (I34 gh37 i_32 M33 → ((i_32 ≥ 0 → (∃ c39 : UInt8, (0 : Int) ≤ i_32 ∧ s2[i_32.toNat]? = some c39 ∧ (CallE Tryz.prog 45 #[(.string (mkS a1)), (.int .u8 (c39.toNat : Int))] M33 (fun v _ => ∃ (x40 : Int), v = (Value.int .i64 x40) ∧ (InI (((a1.length : Nat) : Int) - 1) ∧ ((x40 < ((a1.length : Nat) : Int) - 1 → (InI (x40 + 1) ∧ (∃ c41 : UInt8, (0 : Int) ≤ x40 + 1 ∧ a1[(x40 + 1).toNat]? = some c41 ∧ (∃ (b42 o43 : Nat), A5 = some ⟨b42, o43, none⟩ ∧ (0 : Int) ≤ i_32 ∧ i_32 < (((s2).length : Nat) : Int) ∧ (HasM M33 b42 (o43 + i_32.toNat * 1) 1 ∧ Wr L M b42 ∧ ∀ (M44 : Mem), M44 = M33.put b42 (o43 + i_32.toNat * 1) [(.int .u8 (c41.toNat : Int))] → (∃ (x45 : List UInt8), SlV M44 A5 ((s2).length) c6 1 (bytesV x45) ∧ x45.length = ((s2).length) ∧ (∀ M', M44.le M' → K (Value.tuple #[(.string (mkS x45)), (.int .i64 0)]) M'))))))) ∧ (¬ (x40 < ((a1.length : Nat) : Int) - 1) → (∃ c46 : UInt8, (0 : Int) ≤ 0 ∧ a1[(0 : Int).toNat]? = some c46 ∧ (∃ (b47 o48 : Nat), A5 = some ⟨b47, o48, none⟩ ∧ (0 : Int) ≤ i_32 ∧ i_32 < (((s2).length : Nat) : Int) ∧ (HasM M33 b47 (o48 + i_32.toNat * 1) 1 ∧ Wr L M b47 ∧ ∀ (M49 : Mem), M49 = M33.put b47 (o48 + i_32.toNat * 1) [(.int .u8 (c46.toNat : Int))] → (InI (i_32 - 1) ∧ ∃ (gh : G36), I34 gh (i_32 - 1) M49 ∧ mu35 gh (i_32 - 1) < mu35 gh37 i_32))))))))))) ∧ (¬ (i_32 ≥ 0) → ((((s2.length : Nat) : Int) = 6 → (∀ M', M33.le M' → K (Value.tuple #[(.string (mkS ([] : List UInt8))), (.int .i64 12)]) M')) ∧ (¬ (((s2.length : Nat) : Int) = 6) → (∃ c50 : UInt8, (0 : Int) ≤ 0 ∧ a1[(0 : Int).toNat]? = some c50 ∧ ((∀ u ∈ [(Value.int .u8 (c50.toNat : Int))], u.oneCell' = true) ∧ (∃ (xs52 : List Value), RowM M33 5 1 A5 ((s2).length) c6 xs52 ∧ (∀ g, A5 = some ⟨g, 0, none⟩ → Wr L M g) ∧ ((s2).length + 1) * 1 ≤ 140737488355328 ∧ ∀ (M55 : Mem) (ad56 : Option Addr) (cap57 : Nat), AppM M33 M55 5 1 A5 ad56 ((s2).length + 1) cap57 (xs52 ++ [(.int .u8 (c50.toNat : Int))]) → (∃ (x58 : List UInt8), SlV M55 ad56 ((s2).length + 1) cap57 1 (bytesV x58) ∧ x58.length = ((s2).length + 1) ∧ (∀ M', M55.le M' → K (Value.tuple #[(.string (mkS x58)), (.int .i64 0)]) M')))))))))))))))))
set_option maxRecDepth 100000 in
theorem s_walk_Next (a1 : List UInt8) (s2 : List UInt8) (M : Mem) (L : Nat → Prop) (K : Value → Mem → Prop) (hS : S_walk_Next a1 s2 M L K) : CallW Tryz.prog 32 #[(Value.string (mkS a1)), (Value.string (mkS s2))] M L K := by
 refine eW2 Tryz.func32 58 fun E a hMM hs => ?_; unfold S_walk_Next at hS; refine qr (sP2 (.string (mkS ([] : List UInt8))) (iv 0) hs fun _ hs => ?_); refine wn (qs (qr (sP2 (.string (mkS a1)) (.string (mkS s2)) hs fun _ hs => ?_))); refine cP [(.string (mkS a1)), (.string (mkS s2))] hs Tryz.func24 hS fun _ _ v hS hs => ?_; obtain ⟨x3, rfl, hS⟩ := hS; refine sP (iv x3) hs fun _ hs => ?_; refine wn (qr (sP2 (iv x3) (.bool ((x3 : Int) != (0 : Int))) hs fun _ hs => ?_)); refine wn (Wp.cS hs bne_iff_ne hS (fun hS => ?_) (fun hS => ?_))
 ·refine qr (sP3 (iv x3) (.string (mkS ([] : List UInt8))) (iv x3) hs fun _ hs => ?_); exact wn (qt (leaveW (K := K) hs (resTT hs rfl rfl rfl) hMM hS))
 ·refine qk (qr (sP (.string (mkS s2)) hs fun _ hs => ?_)); obtain ⟨hm, hS⟩ := hS; refine stepBytesW (e := 5) hs hMM hm (fun _ _ M4 A5 c6 hnb hMM hs => ?_); have hS := hS M4 A5 c6 hnb; refine sP (.slice A5 ((s2).length) c6) hs fun _ hs => ?_; refine wn (qs (qr (sP2 (.string (mkS s2)) (iv (s2.length : Int)) hs fun _ hs => ?_))); obtain ⟨hI, hS⟩ := hS; refine sY (iv ((s2.length : Int) - 1)) hs (Yl.wr hI) fun _ hs => ?_; refine sP (iv ((s2.length : Int) - 1)) hs fun _ hs => ?_; refine wn (qb ?_); obtain ⟨G36, I34, mu35, gz38, hI0, hst⟩ := hS; refine Wp.loop (σ := G36 × (Int) × (Mem)) (fun (gh37, i_32, M33) a w => WX M33 M E ∧ Sx 58 E (bwW E M L) M33 w a [(0, (.string (mkS a1))), (1, (.string (mkS s2))), (7, (.slice A5 ((s2).length) c6)), (8, (iv i_32))] [] [] ∧ I34 gh37 i_32 M33) (fun (gh37, i_32, M33) => mu35 gh37 i_32) (gz38, (s2.length : Int) - 1, M4) ⟨hMM, hs.q, hI0⟩ (fun s a w hI => ?_); obtain ⟨gh37, i_32, M33⟩ := s; obtain ⟨hMM, hs, hI⟩ := hI; have hS := hst gh37 i_32 M33 hI; clear hst hI0 hI; refine qs (qr (sP2 (iv i_32) (.bool (decide (i_32 ≥ 0))) hs fun _ hs => ?_)); refine wn (Wp.cS hs decide_eq_true_iff hS (fun hS => ?_) (fun hS => ?_))
  ·refine qk (qs (qb (qs (qr (sP3 (.string (mkS a1)) (.string (mkS s2)) (iv i_32) hs fun _ hs => ?_))))); obtain ⟨c39, h0, hi, hS⟩ := hS; refine sY (.int .u8 (c39.toNat : Int)) hs (Yl.indexStr rfl rfl rfl rfl (by kernel_rfl) h0 hi) fun _ hs => ?_; refine cP [(.string (mkS a1)), (.int .u8 (c39.toNat : Int))] hs Tryz.func45 hS fun _ _ v hS hs => ?_; obtain ⟨x40, rfl, hS⟩ := hS; refine sP (iv x40) hs fun _ hs => ?_; refine wn (qr (sP3 (iv x40) (.string (mkS a1)) (iv (a1.length : Int)) hs fun _ hs => ?_)); obtain ⟨hI, hS⟩ := hS; refine sY (iv ((a1.length : Int) - 1)) hs (Yl.wr hI) fun _ hs => ?_; refine sP (.bool (decide (x40 < (a1.length : Int) - 1))) hs fun _ hs => ?_; refine wn (Wp.cS hs decide_eq_true_iff hS (fun hS => ?_) (fun hS => ?_))
   ·refine qr (sP4 (.slice A5 ((s2).length) c6) (iv i_32) (.string (mkS a1)) (iv x40) hs fun _ hs => ?_); obtain ⟨hI, hS⟩ := hS; refine sY (iv (x40 + 1)) hs (Yl.wr hI) fun _ hs => ?_; obtain ⟨c41, h0, hi, hS⟩ := hS; refine sY (.int .u8 (c41.toNat : Int)) hs (Yl.indexStr rfl rfl rfl rfl (by kernel_rfl) h0 hi) fun _ hs => ?_; obtain ⟨b42, o43, ha, h0, hl, hS⟩ := hS; refine sI 5 1 ha h0 hl hs fun _ hs => ?_; obtain ⟨hhas, hwr, hS⟩ := hS; refine stepStoreM (vs := [(.int .u8 (c41.toNat : Int))]) hs hMM rfl rfl rfl rfl rfl (by kernel_rfl) rfl hhas hwr (fun _ _ M44 hM2 hMM hs => ?_); have hS := hS M44 hM2; refine wn (qr (sP (.slice A5 ((s2).length) c6) hs fun _ hs => ?_)); obtain ⟨x45, hsl, hln, hS⟩ := hS; refine sY (.string (mkS x45)) hs (Yl.bytesV (e := 5) rfl rfl (by kernel_rfl) (by kernel_rfl) (by kernel_rfl) hsl hln) fun _ hs => ?_; refine sP2 (.string (mkS x45)) (iv 0) hs fun _ hs => ?_; exact wn (qt (leaveW (K := K) hs (resTT hs rfl rfl rfl) hMM hS))
   ·refine qk (qg (sP3 (.slice A5 ((s2).length) c6) (iv i_32) (.string (mkS a1)) hs fun _ hs => ?_)); obtain ⟨c46, h0, hi, hS⟩ := hS; refine sY (.int .u8 (c46.toNat : Int)) hs (Yl.indexStr rfl rfl rfl rfl (by kernel_rfl) h0 hi) fun _ hs => ?_; obtain ⟨b47, o48, ha, h0, hl, hS⟩ := hS; refine sI 5 1 ha h0 hl hs fun _ hs => ?_; obtain ⟨hhas, hwr, hS⟩ := hS; refine stepStoreM (vs := [(.int .u8 (c46.toNat : Int))]) hs hMM rfl rfl rfl rfl rfl (by kernel_rfl) rfl hhas hwr (fun _ _ M49 hM2 hMM hs => ?_); have hS := hS M49 hM2; refine wn (qg (sP (iv i_32) hs fun _ hs => ?_)); obtain ⟨hI, hS⟩ := hS; refine sY (iv (i_32 - 1)) hs (Yl.wr hI) fun _ hs => ?_; refine sP (iv (i_32 - 1)) hs fun _ hs => ?_; refine wn ?_; obtain ⟨gh, hI1, hI2⟩ := hS; exact ⟨(gh, i_32 - 1, M49), ⟨hMM, hs.q, hI1⟩, hI2⟩
  ·refine qx rfl (qs (qr (sP (.string (mkS s2)) hs fun _ hs => ?_))); refine sP2 (iv (s2.length : Int)) (.bool ((s2.length : Int) == (6 : Int))) hs fun _ hs => ?_; refine wn (Wp.cS hs beq_iff_eq hS (fun hS => ?_) (fun hS => ?_))
   ·refine qr (sP2 (.string (mkS ([] : List UInt8))) (iv 12) hs fun _ hs => ?_); exact wn (qt (leaveW (K := K) hs (resTT hs rfl rfl rfl) hMM hS))
   ·refine qk (qr (sP2 (.slice A5 ((s2).length) c6) (.string (mkS a1)) hs fun _ hs => ?_)); obtain ⟨c50, h0, hi, hS⟩ := hS; refine sY (.int .u8 (c50.toNat : Int)) hs (Yl.indexStr rfl rfl rfl rfl (by kernel_rfl) h0 hi) fun _ hs => ?_; refine stepMake [(.int .u8 (c50.toNat : Int))] 5 1 1 hs rfl rfl rfl (fun _ => by kernel_rfl) rfl (by unfold maxLen; decide) (by decide) (fun _ _ rv51 hs => ?_); obtain ⟨ad53, cap54, hv, hcp, hxl⟩ := hs.rowform 0 rfl
    dsimp only at hv hcp hxl
    subst hv; obtain ⟨ho, hS⟩ := hS; obtain ⟨xs52, hrw, hwr, hB, hS⟩ := hS; refine stepAppendM [(.int .u8 (c50.toNat : Int))] hs hMM rfl rfl rfl rfl (by kernel_rfl) (by kernel_rfl) (by decide) (by decide) (hs.srcRowA 0 rfl ho) hrw hwr (lenb hB (by decide)) hB (fun _ _ M55 ad56 cap57 hap hMM hs => ?_); have hS := hS M55 ad56 cap57 hap; obtain ⟨x58, hsl, hln, hS⟩ := hS; refine sY (.string (mkS x58)) hs (Yl.bytesV (e := 5) rfl rfl (by kernel_rfl) (by kernel_rfl) (by kernel_rfl) hsl hln) fun _ hs => ?_; refine sP2 (.string (mkS x58)) (iv 0) hs fun _ hs => ?_; exact wn (qt (leaveW (K := K) hs (resTT hs rfl rfl rfl) hMM hS))
theorem e_walk_Next (a1 : List UInt8) (s2 : List UInt8) (M : Mem) (K : Value → Mem → Prop) (hS : S_walk_Next a1 s2 M (fun _ => False) K) : CallE Tryz.prog 32 #[(Value.string (mkS a1)), (Value.string (mkS s2))] M K := (s_walk_Next _ _ _ _ _ hS).toE
end Go.Proofs.YtmnilbfhfjdelaaGreat.core

namespace Go.Proofs.YtmnilbfhfjdelaaGreat.core
open Go.Gx Go.RowKit Go.ChangeShapes Go.WideShapes Go.ChangeAt
set_option linter.unusedVariables false
def S_chaffref_Words (a1 : List UInt8) (n2 : Int) (M : Mem) (K : Value → Mem → Prop) : Prop :=
 (∃ (I220 : Int → Nat → List Value → Nat → List Value → Prop) (mu221 : Int → Nat → List Value → Nat → List Value → Nat), I220 0 1 [(.string (mkS ([] : List UInt8)))] 1 [(.string (mkS ([] : List UInt8)))] ∧ ∀ (x213 : Int) (rn215 : Nat) (rx216 : List Value) (rn218 : Nat) (rx219 : List Value), (I220 x213 rn215 rx216 rn218 rx219 → ((x213 < n2 → (∃ (I289 : Int → Nat → List Value → Prop) (mu290 : Int → Nat → List Value → Nat), I289 0 0 [] ∧ ∀ (x284 : Int) (rn286 : Nat) (rx287 : List Value), (I289 x284 rn286 rx287 → ((x284 < ((rn215 : Nat) : Int) → ((0 : Int) ≤ x284 ∧ x284 < ((rn215 : Nat) : Int) ∧ (∃ (x295 : List UInt8), Cs rx216 (0 + x284.toNat * 1) [(.string (mkS x295))] ∧ (∃ (I313 : Int → Nat → List Value → Prop) (mu314 : Int → Nat → List Value → Nat), I313 0 rn286 rx287 ∧ ∀ (x309 : Int) (rn311 : Nat) (rx312 : List Value), (I313 x309 rn311 rx312 → ((x309 < ((a1.length : Nat) : Int) → (InI (x309 + 1) ∧ ((0 : Int) ≤ x309 ∧ (x309 : Int) ≤ x309 + 1 ∧ (x309 + 1 : Int) ≤ ((a1.length : Nat) : Int) ∧ (x295.length + ((a1.take (x309 + 1).toNat).drop x309.toNat).length ≤ 9223372036854775807 ∧ ((rn311 + 1) * 16 ≤ 140737488355328 ∧ (InI (x309 + 1) ∧ I313 (x309 + 1) (rn311 + 1) (rx312 ++ [(.string (mkS (x295 ++ (a1.take (x309 + 1).toNat).drop x309.toNat)))]) ∧ mu314 (x309 + 1) (rn311 + 1) (rx312 ++ [(.string (mkS (x295 ++ (a1.take (x309 + 1).toNat).drop x309.toNat)))]) < mu314 x309 rn311 rx312)))))) ∧ (¬ (x309 < ((a1.length : Nat) : Int)) → (InI (x284 + 1) ∧ I289 (x284 + 1) rn311 rx312 ∧ mu290 (x284 + 1) rn311 rx312 < mu290 x284 rn286 rx287)))))))) ∧ (¬ (x284 < ((rn215 : Nat) : Int)) → ((∀ u ∈ rx287, u.oneCell' = true) ∧ (rn218 + rn286) * 16 ≤ 140737488355328 ∧ (InI (x213 + 1) ∧ I220 (x213 + 1) rn286 rx287 (rn218 + rn286) (rx219 ++ rx287) ∧ mu221 (x213 + 1) rn286 rx287 (rn218 + rn286) (rx219 ++ rx287) < mu221 x213 rn215 rx216 rn218 rx219))))))) ∧ (¬ (x213 < n2) → (∀ (M324 : Mem) (ad322 : Option Addr) (cap323 : Nat), M.le M324 → SlV M324 ad322 rn218 cap323 1 rx219 → (∀ M', M324.le M' → K (Value.slice ad322 rn218 cap323) M'))))))
set_option maxRecDepth 100000 in
theorem s_chaffref_Words (a1 : List UInt8) (n2 : Int) (M : Mem) (K : Value → Mem → Prop) (hS : S_chaffref_Words a1 n2 M K) : CallE Tryz.prog 8 #[(Value.string (mkS a1)), (Value.int .i64 n2)] M K := by
 refine eE2 Tryz.func8 45 fun E a hMM hs => ?_; unfold S_chaffref_Words at hS; refine qr (sP (.slice none 0 0) hs fun _ hs => ?_); refine wn (qr (stepMake [(.string (mkS ([] : List UInt8)))] 9 1 1 hs rfl rfl rfl (fun _ => by kernel_rfl) rfl (by unfold maxLen; decide) (by decide) (fun _ _ rv3 hs => ?_))); refine stepMake [(.string (mkS ([] : List UInt8)))] 9 1 1 hs rfl rfl rfl (fun _ => by kernel_rfl) rfl (by unfold maxLen; decide) (by decide) (fun _ _ rv4 hs => ?_); refine sP2 rv3 rv4 hs fun _ hs => ?_; refine wn (qs (qr (sP2 (iv n2) (iv 0) hs fun _ hs => ?_))); refine wn (qb ?_); obtain ⟨I220, mu221, hI0, hst⟩ := hS
 refine Wp.loop (σ := (Int) × (Nat) × (List Value) × (Nat) × (List Value) × (Value) × (Value)) (fun (x213, rn215, rx216, rn218, rx219, rv214, rv217) a w => Sx 45 E [] M w a [(0, (.string (mkS a1))), (5, rv217), (6, rv214), (13, (iv n2)), (14, (iv x213))] [] [⟨rv214, 9, 1, rn215, rx216, true⟩, ⟨rv217, 9, 1, rn218, rx219, true⟩] ∧ I220 x213 rn215 rx216 rn218 rx219) (fun (x213, rn215, rx216, rn218, rx219, rv214, rv217) => mu221 x213 rn215 rx216 rn218 rx219) (0, 1, [(.string (mkS ([] : List UInt8)))], 1, [(.string (mkS ([] : List UInt8)))], rv4, rv3) ⟨hs.q, hI0⟩ (fun s a w hI => ?_); obtain ⟨x213, rn215, rx216, rn218, rx219, rv214, rv217⟩ := s; obtain ⟨hs, hI⟩ := hI; have hS := hst x213 rn215 rx216 rn218 rx219 hI; clear hst hI0 hI; refine qr (sP (.bool (decide (x213 < n2))) hs fun _ hs => ?_); refine wn (qs (Wp.cS hs decide_eq_true_iff hS (fun hS => ?_) (fun hS => ?_)))
 ·refine qk (qs (qb (qr (sP (.slice none 0 0) hs fun _ hs => ?_)))); have hs := hs.nilrow 9 1; refine wn (qs (qr (sP rv214 hs fun _ hs => ?_))); refine sY (iv (rn215 : Int)) hs (Yl.lenR (e' := 9) 1 rfl rfl rfl (by kernel_rfl)) fun _ hs => ?_; refine sP (iv 0) hs fun _ hs => ?_; refine wn (qb ?_); obtain ⟨I289, mu290, hI0, hst⟩ := hS; refine Wp.loop (σ := (Int) × (Nat) × (List Value) × (Value) × (Value)) (fun (x284, rn286, rx287, rv285, rv288) a w => Sx 45 E [] M w a [(0, (.string (mkS a1))), (5, rv217), (7, rv285), (13, (iv n2)), (14, (iv x213)), (16, rv288), (17, (iv (rn215 : Int))), (18, (iv x284))] [] [⟨rv285, 9, 1, rn286, rx287, true⟩, ⟨rv288, 9, 1, rn215, rx216, true⟩, ⟨rv217, 9, 1, rn218, rx219, true⟩] ∧ I289 x284 rn286 rx287) (fun (x284, rn286, rx287, rv285, rv288) => mu290 x284 rn286 rx287) (0, 0, [], (.slice none 0 0), rv214) ⟨hs.q, hI0⟩ (fun s a w hI => ?_); obtain ⟨x284, rn286, rx287, rv285, rv288⟩ := s; obtain ⟨hs, hI⟩ := hI; have hS := hst x284 rn286 rx287 hI; clear hst hI0 hI; refine qr (sP (.bool (decide (x284 < (rn215 : Int)))) hs fun _ hs => ?_); refine wn (qs (Wp.cS hs decide_eq_true_iff hS (fun hS => ?_) (fun hS => ?_)))
  ·refine qk (qs (qb (qr ?_))); obtain ⟨ad291, cap292, hv, hcp, hxl⟩ := hs.rowform 1 rfl
   dsimp only at hv hcp hxl
   subst hv; obtain ⟨h0, hl, hS⟩ := hS
   have hix293 : x284.toNat < rn215 := by omega
   obtain ⟨g294, hg294⟩ := hs.rowblk 1 rfl (by omega); refine sY (.pointer (some ⟨g294, 0 + x284.toNat * 1, none⟩)) hs (Yl.indexS (e := 9) (sz := 1) rfl rfl rfl rfl (by kernel_rfl) (by kernel_rfl) hg294 h0 hl) fun _ hs => ?_; obtain ⟨x295, hcs, hS⟩ := hS; refine sY (.string (mkS x295)) hs (Yl.loadR (vs := [(.string (mkS x295))]) 1 false rfl hg294 rfl rfl (by kernel_rfl) hcs) fun _ hs => ?_; refine sP (.string (mkS x295)) hs fun _ hs => ?_; refine wn (qr (sP3 (.string (mkS a1)) (iv (a1.length : Int)) (iv 0) hs fun _ hs => ?_)); refine wn (qb ?_); obtain ⟨I313, mu314, hI0, hst⟩ := hS; refine Wp.loop (σ := (Int) × (Nat) × (List Value) × (Value)) (fun (x309, rn311, rx312, rv310) a w => Sx 45 E [] M w a [(0, (.string (mkS a1))), (5, rv217), (7, rv310), (9, (.string (mkS x295))), (13, (iv n2)), (14, (iv x213)), (16, (.slice ad291 rn215 cap292)), (17, (iv (rn215 : Int))), (18, (iv x284)), (23, (iv (a1.length : Int))), (24, (iv x309))] [] [⟨rv310, 9, 1, rn311, rx312, true⟩, ⟨(Value.slice ad291 rn215 cap292), 9, 1, rn215, rx216, true⟩, ⟨rv217, 9, 1, rn218, rx219, true⟩] ∧ I313 x309 rn311 rx312) (fun (x309, rn311, rx312, rv310) => mu314 x309 rn311 rx312) (0, rn286, rx287, rv285) ⟨hs.q, hI0⟩ (fun s a w hI => ?_); obtain ⟨x309, rn311, rx312, rv310⟩ := s; obtain ⟨hs, hI⟩ := hI
   have hS := hst x309 rn311 rx312 hI; clear hst hI0 hI; refine qr (sP (.bool (decide (x309 < (a1.length : Int)))) hs fun _ hs => ?_); refine wn (qs (Wp.cS hs decide_eq_true_iff hS (fun hS => ?_) (fun hS => ?_)))
   ·refine qk (qs (qb (qr (sP2 (iv x309) (iv x309) hs fun _ hs => ?_)))); refine wn (qg (sP4 rv310 (.string (mkS x295)) (.string (mkS a1)) (iv x309) hs fun _ hs => ?_)); refine sP (iv x309) hs fun _ hs => ?_; obtain ⟨hI, hS⟩ := hS; refine sY (iv (x309 + 1)) hs (Yl.wr hI) fun _ hs => ?_; obtain ⟨h0, h1, h2, hS⟩ := hS; refine sY (.string (mkS ((a1.take (x309 + 1).toNat).drop x309.toNat))) hs (Yl.sliceStrLH rfl rfl rfl rfl rfl rfl (by kernel_rfl) h0 h1 h2) fun _ hs => ?_; obtain ⟨hl, hS⟩ := hS; refine sY (.string (mkS (x295 ++ (a1.take (x309 + 1).toNat).drop x309.toNat))) hs (Yl.concat rfl rfl rfl rfl hl) fun _ hs => ?_; refine stepMake [(.string (mkS (x295 ++ (a1.take (x309 + 1).toNat).drop x309.toNat)))] 9 1 1 hs rfl rfl rfl (fun _ => by kernel_rfl) rfl (by unfold maxLen; decide) (by decide) (fun _ _ rv315 hs => ?_); obtain ⟨ad316, cap317, hv, hcp, hxl⟩ := hs.rowform 0 rfl
    dsimp only at hv hcp hxl
    subst hv; obtain ⟨hB, hS⟩ := hS; refine stepAppend 1 [(.string (mkS (x295 ++ (a1.take (x309 + 1).toNat).drop x309.toNat)))] hs rfl rfl rfl rfl rfl (by kernel_rfl) (by kernel_rfl) (by decide) (by decide) (hs.srcRow 0 rfl rfl) (lenb hB (by decide)) hB (fun _ _ rv318 hs => ?_); replace hs := hs.chrs (rs' := [⟨(Value.slice ad316 1 cap317), 9, 1, 1, [(.string (mkS (x295 ++ (a1.take (x309 + 1).toNat).drop x309.toNat)))], true⟩, ⟨rv318, 9, 1, (rn311 + 1), (rx312 ++ [(.string (mkS (x295 ++ (a1.take (x309 + 1).toNat).drop x309.toNat)))]), true⟩, ⟨(Value.slice ad291 rn215 cap292), 9, 1, rn215, rx216, true⟩, ⟨rv217, 9, 1, rn218, rx219, true⟩]) rfl; refine sP rv318 hs fun _ hs => ?_; refine wn (qg ?_); obtain ⟨hI, hS⟩ := hS; refine sY (iv (x309 + 1)) hs (Yl.wr hI) fun _ hs => ?_; refine sP (iv (x309 + 1)) hs fun _ hs => ?_; exact wn (⟨(x309 + 1, (rn311 + 1), (rx312 ++ [(.string (mkS (x295 ++ (a1.take (x309 + 1).toNat).drop x309.toNat)))]), rv318), ⟨(hs.qq (List.Sublist.refl _) (.cons _ (.cons_cons _ (.cons_cons _ (.cons_cons _ List.Sublist.slnil))))), hS.1⟩, hS.2⟩)
   ·refine qx rfl (qg ?_); obtain ⟨hI, hS⟩ := hS; refine sY (iv (x284 + 1)) hs (Yl.wr hI) fun _ hs => ?_; refine sP (iv (x284 + 1)) hs fun _ hs => ?_; exact wn (⟨(x284 + 1, rn311, rx312, rv310, (.slice ad291 rn215 cap292)), ⟨hs.q, hS.1⟩, hS.2⟩)
  ·refine qx rfl (qr (sP rv217 hs fun _ hs => ?_)); refine sP rv285 hs fun _ hs => ?_; obtain ⟨ad319, cap320, hv, hcp, hxl⟩ := hs.rowform 0 rfl
   dsimp only at hv hcp hxl
   subst hv; obtain ⟨ho, hS⟩ := hS; obtain ⟨hB, hS⟩ := hS; refine stepAppend 2 rx287 hs rfl rfl rfl rfl rfl (by kernel_rfl) (by kernel_rfl) (by decide) (by decide) (hs.srcRowA 0 rfl ho) (lenb hB (by decide)) hB (fun _ _ rv321 hs => ?_); replace hs := hs.chrs (rs' := [⟨(Value.slice ad319 rn286 cap320), 9, 1, rn286, rx287, true⟩, ⟨rv288, 9, 1, rn215, rx216, true⟩, ⟨rv321, 9, 1, (rn218 + rn286), (rx219 ++ rx287), true⟩]) rfl; refine sP rv321 hs fun _ hs => ?_; refine wn (qg (sP2 (.slice ad319 rn286 cap320) (.slice ad319 rn286 cap320) hs fun _ hs => ?_)); refine wn (qg ?_); obtain ⟨hI, hS⟩ := hS; refine sY (iv (x213 + 1)) hs (Yl.wr hI) fun _ hs => ?_; refine sP (iv (x213 + 1)) hs fun _ hs => ?_; exact wn (⟨(x213 + 1, rn286, rx287, (rn218 + rn286), (rx219 ++ rx287), (.slice ad319 rn286 cap320), rv321), ⟨(hs.qq (List.Sublist.refl _) (.cons_cons _ (.cons _ (.cons_cons _ List.Sublist.slnil)))), hS.1⟩, hS.2⟩)
 ·refine qx rfl (qr (sP rv217 hs fun _ hs => ?_)); refine sP rv217 hs fun _ hs => ?_; refine wn (qt ?_); obtain ⟨ad322, cap323, hv, hcp, hxl⟩ := hs.rowform 1 rfl
  dsimp only at hv hcp hxl
  subst hv; obtain ⟨M324, hle, hsl, hnew, hs⟩ := hs.release 1 rfl [⟨rv214, 9, 1, rn215, rx216, true⟩] rfl; have hMM := hMM.next hle hnew; have hS := hS M324 ad322 cap323 hle hsl; exact leaveE (K := K) hs (resT hs rfl rfl) hMM.2 hS
end Go.Proofs.YtmnilbfhfjdelaaGreat.core

namespace Go.Gx
open Go.RowKit Go.Maps Go.WideMaps
structure KeyQ (P : Program) (k : TypeId) (D : Value → Prop) : Prop where
 keyed : Keyed P k
 of : ∀ v, D v → ∃ l, keyOf P k v = some l
abbrev DI (v : Value) : Prop := ∃ z, v = .int .i64 z ∧ InI z
abbrev DB (v : Value) : Prop := ∃ z, v = .bool z
theorem KeyQ.int {P : Program} {k : TypeId} (hk : P.underlying k = some (.int .i64)) : KeyQ P k DI := ⟨int_keyed hk, fun v ⟨z, e, hz⟩ => by subst e; exact ⟨_, keyOf_int_mk hk (wf_in hz)⟩⟩
theorem KeyQ.bool {P : Program} {k : TypeId} (hk : P.underlying k = some .bool) : KeyQ P k DB := ⟨bool_keyed hk, fun v ⟨z, e⟩ => by subst e; exact ⟨_, keyOf_bool_mk hk z⟩⟩
def MapA (M : Mem) (r : Nat) (l : List (Value × Value)) : Prop := ∃ es clk, M r = some (.map es clk) ∧ es.toList.map (fun e => (e.key, e.val)) = l
def MapU (M : Mem) (r : Nat) (M' : Mem) : Prop := (∀ b, b ≠ r → M' b = M b) ∧ (M r).isSome = true
theorem MapA.new (M : Mem) (r : Nat) : MapA (M.add r (.map #[] 0)) r [] := ⟨#[], 0, Mem.add_eq, rfl⟩
theorem MapU.le {M0 M M' : Mem} {r : Nat} (h : MapU M r M') (hr : M0 r = none) (hl : M0.le M) : M0.le M' := fun b o hb => by
 have : b ≠ r := by rintro rfl; rw [hr] at hb; cases hb
 rw [h.1 b this]; exact hl b o hb
def kvL {κ α : Type} (fk : κ → Value) (fv : α → Value) (l : List (κ × α)) : List (Value × Value) := l.map fun p => (fk p.1, fv p.2)
def lm {κ α : Type} [DecidableEq κ] : List (κ × α) → α → κ → α
 | [], z, _ => z
 | p :: l, z, x => if p.1 = x then p.2 else lm l z x
def kI (z : Int) : Value := .int .i64 z
def kB (z : Bool) : Value := .bool z
theorem kB_inj {a b : Bool} (h : kB a = kB b) : a = b := by unfold kB at h; injection h
section
variable {P : Program} {ops : Array Oper} {Q : Exit → Act → World → Prop} {n : Nat} {E : World} {M M0 : Mem} {L : Nat → Prop} {w : World} {a : Act} {env : Env} {bs : List Bx} {rs : List Rw} {rest : List Oper}
variable {d : Option Tmp} {ty : TypeId} {pos : String} {af : Array Edge} {gd : Option (Nat × Bool)}
theorem Yl.lookA {κ α : Type} [DecidableEq κ] {D : Value → Prop} (fk : κ → Value) (fv : α → Value) {t k e : TypeId} {m i : Operand} {r : Nat} {l : List (κ × α)} {x : κ} {z : α} (hinj : ∀ a b, fk a = fk b → a = b) (hkm : known env m = true) (hki : known env i = true) (hm : evT env m = .map (some r)) (hi : evT env i = fk x) (ht : P.underlying t = some (.map k e)) (K : KeyQ P k D)
  (hz : ∃ zi, P.info? e = some zi ∧ zi.zero = some (fv z)) (hf : MapA M r (kvL fk fv l)) (hD : ∀ p ∈ l, D (fk p.1)) (hnd : l.Pairwise fun p q => p.1 ≠ q.1) (hx : D (fk x)) : Yl P env M bs rs ⟨d, .lookup t m i false, ty, pos, af, gd⟩ (fv (lm l z x)) := by
 refine ⟨by simp [okOp, notSel, Op.operands, hkm, hki], fun w hw => ?_⟩
 obtain ⟨es, clk, h0, h1⟩ := hf
 have hb := hw.1 r _ h0
 obtain ⟨lx, hl⟩ := K.of _ hx
 obtain ⟨zi, hz1, hz2⟩ := hz
 have hzr : (zeroValue e).run P w = .ok (fv z) w := by simp [zeroValue, typeInfo, hz1, hz2]
 have hks : ∀ en ∈ es.toList, ∃ p ∈ l, en.key = fk p.1 ∧ en.val = fv p.2 := fun en hen => by
  have : (en.key, en.val) ∈ kvL fk fv l := by rw [← h1]; exact List.mem_map.2 ⟨en, hen, rfl⟩
  obtain ⟨p, hp, e⟩ := List.mem_map.1 this
  simp only [Prod.mk.injEq] at e
  exact ⟨p, hp, e.1.symm, e.2.symm⟩
 have miss : ∀ l' : List (κ × α), (∀ p ∈ l', fk p.1 ≠ fk x) → lm l' z x = z := by
  intro l'
  induction l' with
  | nil => intro _; rfl
  | cons p l' ih => intro h; rw [lm, if_neg (fun e => h p (by simp) (by rw [e]))]; exact ih fun q hq => h q (by simp [hq])
 have hit : ∀ l' : List (κ × α), (l'.Pairwise fun p q => p.1 ≠ q.1) → ∀ p ∈ l', p.1 = x → lm l' z x = p.2 := by
  intro l'
  induction l' with
  | nil => intro _ p hp; cases hp
  | cons q l' ih =>
   intro hpw p hp hpx
   obtain ⟨h1, h2⟩ := List.pairwise_cons.1 hpw
   rcases List.mem_cons.1 hp with rfl | hp
   ·rw [lm, if_pos hpx]
   ·rw [lm, if_neg (fun e => h1 p hp (e.trans hpx.symm))]; exact ih h2 p hp hpx
 have gn : ∀ j : Nat, (l[j]?).map (fun p => (fk p.1, fv p.2)) = (es.toList[j]?).map (fun e => (e.key, e.val)) := fun j => by rw [← List.getElem?_map, ← List.getElem?_map, h1]; rfl
 rcases K.keyed.find w hl es.toList (fun en hen => by obtain ⟨p, hp, e1, _⟩ := hks en hen; rw [e1]; exact K.of _ (hD p hp)) with ⟨g1, g2⟩ | ⟨j, en, g1, g2, g3⟩
 ·have hz' : lm l z x = z := miss l fun p hp he => by
   have : (fk p.1, fv p.2) ∈ es.toList.map (fun e => (e.key, e.val)) := by rw [h1]; exact List.mem_map.2 ⟨p, hp, rfl⟩
   obtain ⟨en, hen, e⟩ := List.mem_map.1 this
   simp only [Prod.mk.injEq] at e
   exact g2 en hen (e.1.trans he)
  simp [execOp, hm, hi, Instr.lookup, run_underlying ht, MapKept.run_getObj_map hb, K.keyed.check w _ hl, g1, hzr, Result.andThen, hz']
 ·have hgj := gn j
  rw [g2] at hgj
  cases hp : l[j]? with
  | none => rw [hp] at hgj; cases hgj
  | some p =>
   rw [hp] at hgj
   simp only [Option.map_some, Option.some.injEq, Prod.mk.injEq] at hgj
   have hpx : p.1 = x := hinj _ _ (hgj.1.trans g3)
   have hv := hit l hnd p (List.mem_of_getElem? hp) hpx
   simp [execOp, hm, hi, Instr.lookup, run_underlying ht, MapKept.run_getObj_map hb, K.keyed.check w _ hl, g1, Result.andThen, hv, hgj.2]
theorem stepMapAdd {D : Value → Prop} {t k e ty : TypeId} {m i x : Operand} {pos : String} {af : Array Edge} {r : Nat} {l : List (Value × Value)} {y v : Value} (hs : Sx n E (bwW E M0 L) M w a env bs rs) (hM : WX M M0 E) (hkm : known env m = true) (hki : known env i = true) (hkx : known env x = true)
  (hm : evT env m = .map (some r)) (hi : evT env i = y) (hx : evT env x = v) (ht : P.underlying t = some (.map k e)) (K : KeyQ P k D) (hf : MapA M r l) (hD : ∀ p ∈ l, D p.1) (hy : D y) (hne : ∀ p ∈ l, p.1 ≠ y) (hw : L r ∨ M0 r = none)
  (h : ∀ a' w' M2, MapU M r M2 → MapA M2 r (l ++ [(y, v)]) → WX M2 M0 E → Sx n E (bwW E M0 L) M2 w' a' env bs rs → wpList P ops Q rest a' w') : wpList P ops Q (⟨none, .insert t m i x, ty, pos, af, none⟩ :: rest) a w := by
 refine stepK0 (Z := fun _ _ => False) hs (fun _ _ h => h.elim) rfl (by simp [okOp, notSel, Op.operands, hkm, hki, hkx]) rfl ?_
 obtain ⟨es, clk, h0, h1⟩ := hf
 have hb := hs.on r _ h0
 obtain ⟨ly, hl⟩ := K.of y hy
 have hks : ∀ en ∈ es.toList, ∃ p ∈ l, en.key = p.1 := fun en hen => by
  have : (en.key, en.val) ∈ l := by rw [← h1]; exact List.mem_map.2 ⟨en, hen, rfl⟩
  exact ⟨_, this, rfl⟩
 rcases K.keyed.find w hl es.toList (fun en hen => by obtain ⟨p, hp, e1⟩ := hks en hen; rw [e1]; exact K.of _ (hD p hp)) with ⟨g1, g2⟩ | ⟨j, en, g1, g2, g3⟩
 ·have hset : (Instr.mapUpdate t (.map (some r)) y v).run P w = .ok () (ChangeMaps.setBlock w r (.map (es.push ⟨y, v, clk⟩) (clk + 1))) := by
   simp [Instr.mapUpdate, run_underlying ht, MapKept.run_getObj_map hb, K.keyed.check w false hl, g1, MapKept.run_setObj_map _ hb, Result.andThen, ChangeMaps.setBlock]
  refine OpW.of_skip (w' := ChangeMaps.setBlock w r (.map (es.push ⟨y, v, clk⟩) (clk + 1))) ?_ ?_
  ·simp [execOp, hm, hi, hx, hset]
  ·intro a' hA
   exact h a' _ _ ⟨fun b hb => Mem.add_ne hb, by rw [h0]; rfl⟩ ⟨es.push ⟨y, v, clk⟩, clk + 1, Mem.add_eq, by rw [Array.toList_push, List.map_append, h1]; rfl⟩ (hM.set (by rw [h0]; rfl)) (hs.mapW hM h0 hw hA)
 ·obtain ⟨p, hp, e1⟩ := hks en (List.mem_of_getElem? g2)
  exact absurd (e1.symm.trans g3) (hne p hp)
theorem kvL_snoc {κ α : Type} (fk : κ → Value) (fv : α → Value) (l : List (κ × α)) (y : κ) (u : α) : kvL fk fv l ++ [(fk y, fv u)] = kvL fk fv (l ++ [(y, u)]) := by unfold kvL; rw [List.map_append]; rfl
theorem pw_of {κ α : Type} [DecidableEq κ] {l : List (κ × α)} (h : decide (l.map (·.1)).Nodup = true) : l.Pairwise fun p q => p.1 ≠ q.1 := List.pairwise_map.1 (of_decide_eq_true h)
theorem stepMapB {α : Type} (fv : α → Value) (k e : TypeId) (l : List (Bool × α)) (z : Bool) (u : α) {t ty : TypeId} {m i x : Operand} {pos : String} {af : Array Edge} {r : Nat} (hs : Sx n E (bwW E M0 L) M w a env bs rs) (hM : WX M M0 E) (hf : MapA M r (kvL kB fv l)) (hw : M0 r = none)
  (h : ∀ a' w' M2, MapU M r M2 → MapA M2 r (kvL kB fv (l ++ [(z, u)])) → WX M2 M0 E → Sx n E (bwW E M0 L) M2 w' a' env bs rs → wpList P ops Q rest a' w') (hkm : known env m = true := by rfl) (hki : known env i = true := by rfl) (hkx : known env x = true := by rfl)
  (hm : evT env m = .map (some r) := by rfl) (hi : evT env i = kB z := by rfl) (hx : evT env x = fv u := by rfl) (ht : P.underlying t = some (.map k e) := by kernel_rfl) (hk : P.underlying k = some .bool := by kernel_rfl) (hne : (l.all fun p => p.1 != z) = true := by rfl) :
  wpList P ops Q (⟨none, .insert t m i x, ty, pos, af, none⟩ :: rest) a w := by
 refine stepMapAdd hs hM hkm hki hkx hm hi hx ht (KeyQ.bool hk) hf (fun p hp => ?_) ⟨z, rfl⟩ (fun p hp => ?_) (.inr hw) (fun a' w' M2 h1 h2 h3 h4 => h a' w' M2 h1 (by rw [← kvL_snoc]; exact h2) h3 h4)
 ·obtain ⟨q, hq, rfl⟩ := List.mem_map.1 hp
  exact ⟨q.1, rfl⟩
 ·obtain ⟨q, hq, rfl⟩ := List.mem_map.1 hp
  intro e
  have := List.all_eq_true.1 hne q hq
  rw [kB_inj e] at this
  simp at this
theorem Yl.lookB {α : Type} (fv : α → Value) (k e : TypeId) (l : List (Bool × α)) (z : α) (x : Bool) {t : TypeId} {m i : Operand} {r : Nat} (hf : MapA M r (kvL kB fv l)) (hkm : known env m = true := by rfl) (hki : known env i = true := by rfl) (hm : evT env m = .map (some r) := by rfl) (hi : evT env i = kB x := by rfl)
  (ht : P.underlying t = some (.map k e) := by kernel_rfl) (hk : P.underlying k = some .bool := by kernel_rfl) (hz : ∃ zi, P.info? e = some zi ∧ zi.zero = some (fv z) := by exact ⟨_, rfl, rfl⟩) (hnd : decide (l.map (·.1)).Nodup = true := by rfl) :
  Yl P env M bs rs ⟨d, .lookup t m i false, ty, pos, af, gd⟩ (fv (lm l z x)) :=
 Yl.lookA kB fv (fun _ _ => kB_inj) hkm hki hm hi ht (KeyQ.bool hk) hz hf (fun p hp => ⟨p.1, rfl⟩) (pw_of hnd) ⟨x, rfl⟩
end
section
variable {P : Program} {ops : Array Oper} {Q : Exit → Act → World → Prop} {n : Nat} {E : World} {bw : List Nat} {M : Mem} {w : World} {a : Act} {env : Env} {bs : List Bx} {rs : List Rw} {rest : List Oper} {o : Oper}
theorem sNn {j t : Nat} {b c : Bool} (hs : Sx n E bw M w a env bs rs) (h : ∀ a', Sx n E bw M w a' env bs rs → wpList P ops Q rest a' w) (hg : o.guard = some (j, b) := by rfl) (ht : (ops[j]?).bind (·.dst) = some t := by rfl) (hl : lk env t = some (.bool c) := by rfl) (hne : (c == b) = false := by rfl)
  (hd : o.dst = none := by rfl) : wpList P ops Q (o :: rest) a w := by
 have hw : Region.wanted o (yielded ops a.tmps) = false := by
  simp [Region.wanted, hg, yielded_of hs ht hl]
  simpa using hne
 unfold wpList
 rw [if_neg (by rw [hw]; decide), hd]
 exact h _ (hs.act (hs.ag.put_none undef))
end
end Go.Gx

namespace Go.Proofs.YtmnilbfhfjdelaaGreat.core
open Go.Gx Go.RowKit Go.ChangeShapes Go.WideShapes Go.ChangeAt
set_option linter.unusedVariables false
/- not served: diff.Least: live rangeFunc -/
def S_chafflaw_DiffSays_J1 (ga1 : Option Addr) (gl2 : Nat) (gc3 : Nat) (ha4 : Option Addr) (hl5 : Nat) (hc6 : Nat) (a7 : List UInt8) (n8 : Int) (M : Mem) (x11 : List UInt8) (x12 : Int) (x13 : Int) (want16 : Int) (K : Value → Mem → Prop) : Prop :=
 (((want16 : Int) ≠ 0 → (((x13 : Int) = want16 → ((x11 = ([] : List UInt8) → (∀ M', M.le M' → K (Value.bool ((x12 : Int) == (0 : Int))) M')) ∧ (¬ (x11 = ([] : List UInt8)) → (∀ M', M.le M' → K (Value.bool false) M')))) ∧ (¬ ((x13 : Int) = want16) → (∀ M', M.le M' → K (Value.bool false) M')))) ∧ (¬ ((want16 : Int) ≠ 0) → (CallE Tryz.prog 8 #[(.string (mkS a7)), (.int .i64 n8)] M (fun v M20 => ∃ (xa17 : Option Addr) (xl18 : Nat) (xc19 : Nat), v = (Value.slice xa17 xl18 xc19) ∧ (∃ (I32 : Int → Prop) (mu33 : Int → Nat), I32 0 ∧ ∀ (x31 : Int), (I32 x31 → ((x31 < ((xl18 : Nat) : Int) → (∃ (b34 o35 : Nat), xa17 = some ⟨b34, o35, none⟩ ∧ (0 : Int) ≤ x31 ∧ x31 < ((xl18 : Nat) : Int) ∧ (∃ (x36 : List UInt8), At M20 b34 (o35 + x31.toNat * 1) [(.string (mkS x36))] ∧ (CallE Tryz.prog 9 #[(.agg #[(.slice ga1 gl2 gc3)]), (.string (mkS x36))] M20 (fun v _ => ∃ (x37 : Bool), v = (Value.bool x37) ∧ (CallE Tryz.prog 9 #[(.agg #[(.slice ha4 hl5 hc6)]), (.string (mkS x36))] M20 (fun v _ => ∃ (x38 : Bool), v = (Value.bool x38) ∧ ((¬ (x37 = x38) → (((x13 : Int) = 0 → ((x11 = x36 → (∀ (M39 : Mem) (r40 : Nat), M20 r40 = none → M39 = M20.add r40 (.map #[] 0) → M r40 = none → (∀ (M41 : Mem), MapU M39 r40 M41 → (∀ (M42 : Mem), MapU M41 r40 M42 → (∀ M', M42.le M' → K (Value.bool ((x12 : Int) == (lm ([(true, 1), (false, 2)] : List (Bool × Int)) 0 x37 : Int))) M'))))) ∧ (¬ (x11 = x36) → (∀ M', M20.le M' → K (Value.bool false) M')))) ∧ (¬ ((x13 : Int) = 0) → (∀ M', M20.le M' → K (Value.bool false) M')))) ∧ (¬ (¬ (x37 = x38)) → (InI (x31 + 1) ∧ I32 (x31 + 1) ∧ mu33 (x31 + 1) < mu33 x31)))))))))) ∧ (¬ (x31 < ((xl18 : Nat) : Int)) → (((x13 : Int) = 12 → ((x11 = ([] : List UInt8) → (∀ M', M20.le M' → K (Value.bool ((x12 : Int) == (0 : Int))) M')) ∧ (¬ (x11 = ([] : List UInt8)) → (∀ M', M20.le M' → K (Value.bool false) M')))) ∧ (¬ ((x13 : Int) = 12) → (∀ M', M20.le M' → K (Value.bool false) M')))))))))))
def S_chafflaw_DiffSays (ga1 : Option Addr) (gl2 : Nat) (gc3 : Nat) (ha4 : Option Addr) (hl5 : Nat) (hc6 : Nat) (a7 : List UInt8) (n8 : Int) (M : Mem) (L : Nat → Prop) (K : Value → Mem → Prop) : Prop :=
 (CallE Tryz.prog 6 #[(.agg #[(.slice ga1 gl2 gc3)]), (.agg #[(.slice ha4 hl5 hc6)]), (.string (mkS a7)), (.int .i64 n8)] M (fun v _ => ∃ (x11 : List UInt8) (x12 : Int) (x13 : Int), v = (Value.tuple #[(.string (mkS x11)), (.int .i64 x12), (.int .i64 x13)]) ∧ (CallE Tryz.prog 7 #[(.agg #[(.slice ga1 gl2 gc3)]), (.string (mkS a7)), (.int .i64 n8)] M (fun v _ => ∃ (x14 : Int), v = (Value.int .i64 x14) ∧ (((x14 : Int) = 0 → (CallE Tryz.prog 7 #[(.agg #[(.slice ha4 hl5 hc6)]), (.string (mkS a7)), (.int .i64 n8)] M (fun v _ => ∃ (x15 : Int), v = (Value.int .i64 x15) ∧ (S_chafflaw_DiffSays_J1 ga1 gl2 gc3 ha4 hl5 hc6 a7 n8 M x11 x12 x13 x15 K)))) ∧ (¬ ((x14 : Int) = 0) → (S_chafflaw_DiffSays_J1 ga1 gl2 gc3 ha4 hl5 hc6 a7 n8 M x11 x12 x13 x14 K)))))))
set_option maxRecDepth 100000 in
theorem s_chafflaw_DiffSays (ga1 : Option Addr) (gl2 : Nat) (gc3 : Nat) (ha4 : Option Addr) (hl5 : Nat) (hc6 : Nat) (a7 : List UInt8) (n8 : Int) (M : Mem) (L : Nat → Prop) (K : Value → Mem → Prop) (hS : S_chafflaw_DiffSays ga1 gl2 gc3 ha4 hl5 hc6 a7 n8 M L K) : CallW Tryz.prog 3 #[(Value.agg #[(Value.slice ga1 gl2 gc3)]), (Value.agg #[(Value.slice ha4 hl5 hc6)]), (Value.string (mkS a7)), (Value.int .i64 n8)] M L K := by
 refine eW4 Tryz.func3 90 fun E a hMM hs => ?_; unfold S_chafflaw_DiffSays at hS; refine qr (stepBox [(.slice ga1 gl2 gc3)] hs rfl rfl rfl (by decide) (fun _ _ b9 hEb9 hs => ?_)); refine stepBox [(.slice ha4 hl5 hc6)] hs rfl rfl rfl (by decide) (fun _ _ b10 hEb10 hs => ?_); refine sP (.bool false) hs fun _ hs => ?_; refine wn (qr (sB [(.slice ga1 gl2 gc3)] true 1 hs fun _ hs => ?_)); refine sB [(.slice ha4 hl5 hc6)] true 0 hs fun _ hs => ?_; refine sP2 (.string (mkS a7)) (iv n8) hs fun _ hs => ?_; refine cP [(.agg #[(.slice ga1 gl2 gc3)]), (.agg #[(.slice ha4 hl5 hc6)]), (.string (mkS a7)), (iv n8)] hs Tryz.func6 hS fun _ _ v hS hs => ?_; obtain ⟨x11, x12, x13, rfl, hS⟩ := hS; refine sP4 (Value.tuple #[(.string (mkS x11)), (iv x12), (iv x13)]) (.string (mkS x11)) (iv x12) (iv x13) hs fun _ hs => ?_; refine sP3 (.string (mkS x11)) (iv x12) (iv x13) hs fun _ hs => ?_
 refine wn (qr (sB [(.slice ga1 gl2 gc3)] true 1 hs fun _ hs => ?_)); refine sP2 (.string (mkS a7)) (iv n8) hs fun _ hs => ?_; refine cP [(.agg #[(.slice ga1 gl2 gc3)]), (.string (mkS a7)), (iv n8)] hs Tryz.func7 hS fun _ _ v hS hs => ?_; obtain ⟨x14, rfl, hS⟩ := hS; refine sP (iv x14) hs fun _ hs => ?_; refine wn (Wp.join (fun a w => ∃ (want16 : Int), Sx 90 E (bwW E M L) M w a [(2, (.string (mkS a7))), (3, (iv n8)), (4, (pt b9 0)), (5, (pt b10 0)), (9, (.string (mkS x11))), (10, (iv x12)), (11, (iv x13)), (12, (iv want16))] [⟨b10, 24, [(.slice ha4 hl5 hc6)]⟩, ⟨b9, 24, [(.slice ga1 gl2 gc3)]⟩] [] ∧ (S_chafflaw_DiffSays_J1 ga1 gl2 gc3 ha4 hl5 hc6 a7 n8 M x11 x12 x13 want16 K)) ?_ ?_)
 ·refine qr (sP2 (iv x14) (.bool ((x14 : Int) == (0 : Int))) hs fun _ hs => ?_); refine wn (Wp.cS hs beq_iff_eq hS (fun hS => ?_) (fun hS => ?_))
  ·refine qg (sB [(.slice ha4 hl5 hc6)] true 0 hs fun _ hs => ?_); refine sP2 (.string (mkS a7)) (iv n8) hs fun _ hs => ?_; refine cP [(.agg #[(.slice ha4 hl5 hc6)]), (.string (mkS a7)), (iv n8)] hs Tryz.func7 hS fun _ _ v hS hs => ?_; obtain ⟨x15, rfl, hS⟩ := hS; refine sP (iv x15) hs fun _ hs => ?_; exact wn (⟨x15, hs.q, hS⟩)
  ·exact qk (⟨x14, hs.q, hS⟩)
 ·intro a w hJ; obtain ⟨want16, hs, hS⟩ := hJ; unfold S_chafflaw_DiffSays_J1 at hS; refine qs (qr (sP2 (iv want16) (.bool ((want16 : Int) != (0 : Int))) hs fun _ hs => ?_)); refine wn (Wp.cS hs bne_iff_ne hS (fun hS => ?_) (fun hS => ?_))
  ·refine qr (sP4 (iv x13) (iv want16) (.bool ((x13 : Int) == (want16 : Int))) (.bool ((x13 : Int) == (want16 : Int))) hs fun _ hs => ?_); refine bsS beq_iff_eq hs hS (fun hs hS => ?_) (fun hs hS => ?_)
   ·refine ye (.string (mkS x11)) hs fun _ hs => ?_; refine ye (.bool ((mkS x11).toList == (mkS ([] : List UInt8)).toList)) hs fun _ hs => ?_; refine sP2 (.bool ((mkS x11).toList == (mkS ([] : List UInt8)).toList)) (.bool ((mkS x11).toList == (mkS ([] : List UInt8)).toList)) hs fun _ hs => ?_; refine bsS mkS_beq hs hS (fun hs hS => ?_) (fun hs hS => ?_)
    ·refine ye (iv x12) hs fun _ hs => ?_; refine ye (.bool ((x12 : Int) == (0 : Int))) hs fun _ hs => ?_; refine sP2 (.bool ((x12 : Int) == (0 : Int))) (.bool ((x12 : Int) == (0 : Int))) hs fun _ hs => ?_; exact wn (qt (leaveW (K := K) hs (resT hs rfl rfl) hMM hS))
    ·refine sNo hs fun _ hs => ?_; refine sNo hs fun _ hs => ?_; refine sP2 (.bool false) (.bool false) hs fun _ hs => ?_; exact wn (qt (leaveW (K := K) hs (resT hs rfl rfl) hMM hS))
   ·refine sNo hs fun _ hs => ?_; refine sNo hs fun _ hs => ?_; refine sP2 (.bool false) (.bool false) hs fun _ hs => ?_; refine sNo hs fun _ hs => ?_; refine sNo hs fun _ hs => ?_; refine sP2 (.bool false) (.bool false) hs fun _ hs => ?_; exact wn (qt (leaveW (K := K) hs (resT hs rfl rfl) hMM hS))
  ·refine qk (qs (qr (sP2 (.string (mkS a7)) (iv n8) hs fun _ hs => ?_))); refine cE [(.string (mkS a7)), (iv n8)] hs Tryz.func8 hS fun _ _ M20 v hle hnew hS hs => ?_; have hMM := hMM.next hle hnew; obtain ⟨xa17, xl18, xc19, rfl, hS⟩ := hS; refine sP2 (iv (xl18 : Int)) (iv 0) hs fun _ hs => ?_; refine wn (qb ?_); obtain ⟨I32, mu33, hI0, hst⟩ := hS; refine Wp.loop (σ := (Int)) (fun x31 a w => Sx 90 E (bwW E M L) M20 w a [(4, (pt b9 0)), (5, (pt b10 0)), (9, (.string (mkS x11))), (10, (iv x12)), (11, (iv x13)), (50, (.slice xa17 xl18 xc19)), (51, (iv (xl18 : Int))), (52, (iv x31))] [⟨b10, 24, [(.slice ha4 hl5 hc6)]⟩, ⟨b9, 24, [(.slice ga1 gl2 gc3)]⟩] [] ∧ I32 x31) (fun x31 => mu33 x31) (0) ⟨hs.q, hI0⟩ (fun x31 a w hI => ?_); obtain ⟨hs, hI⟩ := hI; have hS := hst x31 hI; clear hst hI0 hI; refine qr (sP (.bool (decide (x31 < (xl18 : Int)))) hs fun _ hs => ?_); refine wn (qs (Wp.cS hs decide_eq_true_iff hS (fun hS => ?_) (fun hS => ?_)))
   ·refine qk (qs (qb (qr ?_))); obtain ⟨b34, o35, ha, h0, hl, hS⟩ := hS; refine sI 9 1 ha h0 hl hs fun _ hs => ?_; obtain ⟨x36, hat, hS⟩ := hS; refine sV1 (.string (mkS x36)) hat hs fun _ hs => ?_; refine sP (.string (mkS x36)) hs fun _ hs => ?_; refine wn (qr (sB [(.slice ga1 gl2 gc3)] true 1 hs fun _ hs => ?_)); refine sP (.string (mkS x36)) hs fun _ hs => ?_; refine cP [(.agg #[(.slice ga1 gl2 gc3)]), (.string (mkS x36))] hs Tryz.func9 hS fun _ _ v hS hs => ?_; obtain ⟨x37, rfl, hS⟩ := hS; refine sP (.bool x37) hs fun _ hs => ?_; refine wn (qr (sP (.bool x37) hs fun _ hs => ?_)); refine sB [(.slice ha4 hl5 hc6)] true 0 hs fun _ hs => ?_; refine sP (.string (mkS x36)) hs fun _ hs => ?_; refine cP [(.agg #[(.slice ha4 hl5 hc6)]), (.string (mkS x36))] hs Tryz.func9 hS fun _ _ v hS hs => ?_; obtain ⟨x38, rfl, hS⟩ := hS; refine sY (.bool (!(x37 == x38))) hs (Yl.neqB rfl rfl rfl rfl (by kernel_rfl)) fun _ hs => ?_; refine wn (Wp.cS hs (bnot_iff beq_iff_eq) hS (fun hS => ?_) (fun hS => ?_))
    ·refine qr (sP3 (iv x13) (.bool ((x13 : Int) == (0 : Int))) (.bool ((x13 : Int) == (0 : Int))) hs fun _ hs => ?_); refine bsS beq_iff_eq hs hS (fun hs hS => ?_) (fun hs hS => ?_)
     ·refine ye (.string (mkS x11)) hs fun _ hs => ?_; refine ye (.string (mkS x36)) hs fun _ hs => ?_; refine ye (.bool ((mkS x11).toList == (mkS x36).toList)) hs fun _ hs => ?_; refine sP2 (.bool ((mkS x11).toList == (mkS x36).toList)) (.bool ((mkS x11).toList == (mkS x36).toList)) hs fun _ hs => ?_; refine bsS mkS_beq hs hS (fun hs hS => ?_) (fun hs hS => ?_)
      ·refine ye (iv x12) hs fun _ hs => ?_; refine sYe hs (stepMapNew hs hMM (by decide) (fun _ _ M39 r40 hMr hM2 hM0 hMM hs => ?_)); have hS := hS M39 r40 hMr hM2 hM0
       have hmA : MapA M39 r40 (kvL kB kI []) := by rw [hM2]; exact MapA.new _ _
       refine sYe hs (stepMapB kI 4 3 ([] : List (Bool × Int)) true 1 hs hMM hmA hM0 (fun _ _ M41 hMU hmA hMM hs => ?_)); have hS := hS M41 hMU; refine sYe hs (stepMapB kI 4 3 ([(true, 1)] : List (Bool × Int)) false 2 hs hMM hmA hM0 (fun _ _ M42 hMU hmA hMM hs => ?_)); have hS := hS M42 hMU; refine ye (.map (some r40)) hs fun _ hs => ?_; refine ye (.bool x37) hs fun _ hs => ?_; refine sYe hs (sY (iv (lm ([(true, 1), (false, 2)] : List (Bool × Int)) 0 x37)) hs (Yl.lookB kI 4 3 ([(true, 1), (false, 2)] : List (Bool × Int)) 0 x37 hmA) fun _ hs => ?_); refine ye (.bool ((x12 : Int) == (lm ([(true, 1), (false, 2)] : List (Bool × Int)) 0 x37 : Int))) hs fun _ hs => ?_; refine sP2 (.bool ((x12 : Int) == (lm ([(true, 1), (false, 2)] : List (Bool × Int)) 0 x37 : Int))) (.bool ((x12 : Int) == (lm ([(true, 1), (false, 2)] : List (Bool × Int)) 0 x37 : Int))) hs fun _ hs => ?_; exact wn (qt (leaveW (K := K) hs (resT hs rfl rfl) hMM hS))
      ·refine sNo hs fun _ hs => ?_; refine sNo hs fun _ hs => ?_; refine sNn hs fun _ hs => ?_; refine sNn hs fun _ hs => ?_; repeat (first | refine sNo hs fun _ hs => ?_ | refine sNu hs fun _ hs => ?_)
       refine sP2 (.bool false) (.bool false) hs fun _ hs => ?_; exact wn (qt (leaveW (K := K) hs (resT hs rfl rfl) hMM hS))
     ·repeat (first | refine sNo hs fun _ hs => ?_ | refine sNu hs fun _ hs => ?_)
      refine sP2 (.bool false) (.bool false) hs fun _ hs => ?_; refine sNo hs fun _ hs => ?_; refine sNo hs fun _ hs => ?_; refine sNn hs fun _ hs => ?_; refine sNn hs fun _ hs => ?_; repeat (first | refine sNo hs fun _ hs => ?_ | refine sNu hs fun _ hs => ?_)
      refine sP2 (.bool false) (.bool false) hs fun _ hs => ?_; exact wn (qt (leaveW (K := K) hs (resT hs rfl rfl) hMM hS))
    ·refine qk (qg ?_); obtain ⟨hI, hS⟩ := hS; refine sY (iv (x31 + 1)) hs (Yl.wr hI) fun _ hs => ?_; refine sP (iv (x31 + 1)) hs fun _ hs => ?_; exact wn (⟨(x31 + 1), ⟨hs.q, hS.1⟩, hS.2⟩)
   ·refine qx rfl (qr (sP (iv x13) hs fun _ hs => ?_)); refine sP2 (.bool ((x13 : Int) == (12 : Int))) (.bool ((x13 : Int) == (12 : Int))) hs fun _ hs => ?_; refine bsS beq_iff_eq hs hS (fun hs hS => ?_) (fun hs hS => ?_)
    ·refine ye (.string (mkS x11)) hs fun _ hs => ?_; refine ye (.bool ((mkS x11).toList == (mkS ([] : List UInt8)).toList)) hs fun _ hs => ?_; refine sP2 (.bool ((mkS x11).toList == (mkS ([] : List UInt8)).toList)) (.bool ((mkS x11).toList == (mkS ([] : List UInt8)).toList)) hs fun _ hs => ?_; refine bsS mkS_beq hs hS (fun hs hS => ?_) (fun hs hS => ?_)
     ·refine ye (iv x12) hs fun _ hs => ?_; refine ye (.bool ((x12 : Int) == (0 : Int))) hs fun _ hs => ?_; refine sP2 (.bool ((x12 : Int) == (0 : Int))) (.bool ((x12 : Int) == (0 : Int))) hs fun _ hs => ?_; exact wn (qt (leaveW (K := K) hs (resT hs rfl rfl) hMM hS))
     ·refine sNo hs fun _ hs => ?_; refine sNo hs fun _ hs => ?_; refine sP2 (.bool false) (.bool false) hs fun _ hs => ?_; exact wn (qt (leaveW (K := K) hs (resT hs rfl rfl) hMM hS))
    ·refine sNo hs fun _ hs => ?_; refine sNo hs fun _ hs => ?_; refine sP2 (.bool false) (.bool false) hs fun _ hs => ?_; refine sNo hs fun _ hs => ?_; refine sNo hs fun _ hs => ?_; refine sP2 (.bool false) (.bool false) hs fun _ hs => ?_; exact wn (qt (leaveW (K := K) hs (resT hs rfl rfl) hMM hS))
theorem e_chafflaw_DiffSays (ga1 : Option Addr) (gl2 : Nat) (gc3 : Nat) (ha4 : Option Addr) (hl5 : Nat) (hc6 : Nat) (a7 : List UInt8) (n8 : Int) (M : Mem) (K : Value → Mem → Prop) (hS : S_chafflaw_DiffSays ga1 gl2 gc3 ha4 hl5 hc6 a7 n8 M (fun _ => False) K) : CallE Tryz.prog 3 #[(Value.agg #[(Value.slice ga1 gl2 gc3)]), (Value.agg #[(Value.slice ha4 hl5 hc6)]), (Value.string (mkS a7)), (Value.int .i64 n8)] M K := (s_chafflaw_DiffSays _ _ _ _ _ _ _ _ _ _ _ hS).toE
end Go.Proofs.YtmnilbfhfjdelaaGreat.core

