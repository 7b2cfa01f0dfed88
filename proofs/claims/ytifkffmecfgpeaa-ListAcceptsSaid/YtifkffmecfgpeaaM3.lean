/- Contracts and what they hang on, of several parts. No condition. -/
import Derived.Test.YtifkffmecfgpeaaPackG
import Derived.Test.YtifkffmecfgpeaaM1
namespace Go.Proofs.Ytifkffmecfgpeaa.core
open Go.Gx Go.RowKit Go.ChangeShapes Go.WideShapes Go.ChangeAt
set_option linter.unusedVariables false
def S_list_Accepts (ga1 : Option Addr) (gl2 : Nat) (gc3 : Nat) (s4 : List UInt8) (M : Mem) (K : Value → Prop) : Prop :=
 (CallE Try.prog 28 #[(.agg #[(.slice ga1 gl2 gc3)]), (.string (mkS s4))] M (fun v M11 => ∃ (x6 : X_api_Outcome) (xa7 : Option Addr) (xl8 : Nat) (xc9 : Nat) (x10 : Int), v = (Value.tuple #[x6.val, (.slice xa7 xl8 xc9), (.int .i64 x10)]) ∧ (((x10 : Int) = 0 → ((x6.Ok = true → K (Value.tuple #[(.bool ((x6.N : Int) == ((s4.length : Nat) : Int))), (.int .i64 x10)])) ∧ (¬ (x6.Ok = true) → K (Value.tuple #[(.bool false), (.int .i64 x10)])))) ∧ (¬ ((x10 : Int) = 0) → K (Value.tuple #[(.bool false), (.int .i64 x10)])))))
set_option maxRecDepth 100000 in
theorem s_list_Accepts (ga1 : Option Addr) (gl2 : Nat) (gc3 : Nat) (s4 : List UInt8) (M : Mem) (K : Value → Prop) (hS : S_list_Accepts ga1 gl2 gc3 s4 M K) : CallE Try.prog 50 #[(Value.agg #[(Value.slice ga1 gl2 gc3)]), (Value.string (mkS s4))] M (fun v _ => K v) := by
 refine enterE Try.func50 rfl 30 rfl (Nat.le_of_ble_eq_true rfl) (fun E a hs => ?_); unfold S_list_Accepts at hS; have hMM := MX.refl M E; change Sx 30 E [] M E a [(0, (.agg #[(.slice ga1 gl2 gc3)])), (1, (.string (mkS s4)))] [] [] at hs; refine Wp.seq (Wp.region (stepBox [(.slice ga1 gl2 gc3)] hs rfl rfl rfl (by decide) (fun _ _ b5 hEb5 hs => ?_))); refine sP (.bool false) hs fun _ hs => ?_; refine sP (iv 0) hs fun _ hs => ?_; refine wpList_nil (Wp.seq (Wp.region (sY (.agg #[(.slice ga1 gl2 gc3)]) hs (Yl.lB [(.slice ga1 gl2 gc3)] true 0) fun _ hs => ?_))); refine sP (.string (mkS s4)) hs fun _ hs => ?_; refine cE [(.agg #[(.slice ga1 gl2 gc3)]), (.string (mkS s4))] hs Try.func28 hS fun _ _ M11 v hle hnew hS hs => ?_; have hMM := hMM.next hle hnew; obtain ⟨x6, xa7, xl8, xc9, x10, hv, hS⟩ := hS; subst hv; refine sP (Value.tuple #[x6.val, (.slice xa7 xl8 xc9), (iv x10)]) hs fun _ hs => ?_; refine sP x6.val hs fun _ hs => ?_; refine sP (.slice xa7 xl8 xc9) hs fun _ hs => ?_; refine sP (iv x10) hs fun _ hs => ?_; refine stepAlloc [(.bool false), (iv 0)] hs (by kernel_rfl) (by decide) (fun _ _ b12 hEb12 hs => ?_); refine stB 0 [(.bool x6.Ok), (iv x6.N)] [⟨b12, 26, [(.bool x6.Ok), (iv x6.N)]⟩, ⟨b5, 24, [(.slice ga1 gl2 gc3)]⟩] hs fun _ _ hs => ?_; refine sP (.slice xa7 xl8 xc9) hs fun _ hs => ?_; refine sP (iv x10) hs fun _ hs => ?_; refine wpList_nil (Wp.seq (Wp.region (sP (iv x10) hs fun _ hs => ?_))); refine sP (.bool ((x10 : Int) == (0 : Int))) hs fun _ hs => ?_
 refine sP (.bool ((x10 : Int) == (0 : Int))) hs fun _ hs => ?_; refine bsS beq_iff_eq hs hS (fun hs hS => ?_) (fun hs hS => ?_)
 ·refine sYe hs (sP (pt b12 0) hs fun _ hs => ?_); refine sYe hs (sY (.bool x6.Ok) hs (Yl.lB [(.bool x6.Ok)] false 0) fun _ hs => ?_); refine sP (.bool x6.Ok) hs fun _ hs => ?_; refine sP (.bool x6.Ok) hs fun _ hs => ?_; refine bsS Iff.rfl hs hS (fun hs hS => ?_) (fun hs hS => ?_)
  ·refine sYe hs (sP (pt b12 1) hs fun _ hs => ?_); refine sYe hs (sY (iv x6.N) hs (Yl.lB [(iv x6.N)] false 0) fun _ hs => ?_); refine sYe hs (sP (.string (mkS s4)) hs fun _ hs => ?_); refine sYe hs (sP (iv (s4.length : Int)) hs fun _ hs => ?_); refine sYe hs (sP (.bool ((x6.N : Int) == (s4.length : Int))) hs fun _ hs => ?_); refine sP (.bool ((x6.N : Int) == (s4.length : Int))) hs fun _ hs => ?_; refine sP (iv x10) hs fun _ hs => ?_; refine sP (.bool ((x6.N : Int) == (s4.length : Int))) hs fun _ hs => ?_; refine sP (iv x10) hs fun _ hs => ?_; exact wpList_nil (Wp.ret (lvE K hs (resTT hs rfl rfl rfl) hMM.2 hS))
  ·repeat (first | refine sNo hs fun _ hs => ?_ | refine sNu hs fun _ hs => ?_)
   refine sP (.bool false) hs fun _ hs => ?_; refine sP (iv x10) hs fun _ hs => ?_; refine sP (.bool false) hs fun _ hs => ?_; refine sP (iv x10) hs fun _ hs => ?_; exact wpList_nil (Wp.ret (lvE K hs (resTT hs rfl rfl rfl) hMM.2 hS))
 ·refine sNo hs fun _ hs => ?_; refine sNo hs fun _ hs => ?_; refine sP (.bool false) hs fun _ hs => ?_; refine sP (.bool false) hs fun _ hs => ?_; repeat (first | refine sNo hs fun _ hs => ?_ | refine sNu hs fun _ hs => ?_)
  refine sP (.bool false) hs fun _ hs => ?_; refine sP (iv x10) hs fun _ hs => ?_; refine sP (.bool false) hs fun _ hs => ?_; refine sP (iv x10) hs fun _ hs => ?_; exact wpList_nil (Wp.ret (lvE K hs (resTT hs rfl rfl rfl) hMM.2 hS))
def S_chaffref_Accepts (ga1 : Option Addr) (gl2 : Nat) (gc3 : Nat) (s4 : List UInt8) (M : Mem) (K : Value → Prop) : Prop :=
 (CallE Try.prog 17 #[(.agg #[(.slice ga1 gl2 gc3)]), (.string (mkS s4))] M (fun v M7 => ∃ (x6 : Option Addr), v = (Value.pointer x6) ∧ (∃ (b8 o9 : Nat), x6 = some ⟨b8, o9, none⟩ ∧ (∃ (xa10 : Option Addr) (xl11 : Nat) (xc12 : Nat), At M7 b8 (o9 + 2) [(.slice xa10 xl11 xc12)] ∧ (∃ (b13 o14 : Nat), xa10 = some ⟨b13, o14, none⟩ ∧ (0 : Int) ≤ 0 ∧ 0 < ((xl11 : Nat) : Int) ∧ (∃ (xa15 : Option Addr) (xl16 : Nat) (xc17 : Nat), At M7 b13 (o14 + (0 : Int).toNat * 1) [(.slice xa15 xl16 xc17)] ∧ (∃ (b18 o19 : Nat), xa15 = some ⟨b18, o19, none⟩ ∧ (0 : Int) ≤ 0 ∧ 0 < ((xl16 : Nat) : Int) ∧ (∃ (x20 : Int), At M7 b18 (o19 + (0 : Int).toNat * 1) [(.int .i64 x20)] ∧ K (Value.bool ((x20 : Int) == ((s4.length : Nat) : Int)))))))))))
set_option maxRecDepth 100000 in
theorem s_chaffref_Accepts (ga1 : Option Addr) (gl2 : Nat) (gc3 : Nat) (s4 : List UInt8) (M : Mem) (K : Value → Prop) (hS : S_chaffref_Accepts ga1 gl2 gc3 s4 M K) : CallE Try.prog 35 #[(Value.agg #[(Value.slice ga1 gl2 gc3)]), (Value.string (mkS s4))] M (fun v _ => K v) := by
 refine enterE Try.func35 rfl 18 rfl (Nat.le_of_ble_eq_true rfl) (fun E a hs => ?_); unfold S_chaffref_Accepts at hS; have hMM := MX.refl M E; change Sx 18 E [] M E a [(0, (.agg #[(.slice ga1 gl2 gc3)])), (1, (.string (mkS s4)))] [] [] at hs; refine Wp.seq (Wp.region (stepBox [(.slice ga1 gl2 gc3)] hs rfl rfl rfl (by decide) (fun _ _ b5 hEb5 hs => ?_))); refine sP (.bool false) hs fun _ hs => ?_; refine wpList_nil (Wp.seq (Wp.region (sY (.agg #[(.slice ga1 gl2 gc3)]) hs (Yl.lB [(.slice ga1 gl2 gc3)] true 0) fun _ hs => ?_))); refine sP (.string (mkS s4)) hs fun _ hs => ?_; refine cE [(.agg #[(.slice ga1 gl2 gc3)]), (.string (mkS s4))] hs Try.func17 hS fun _ _ M7 v hle hnew hS hs => ?_; have hMM := hMM.next hle hnew; obtain ⟨x6, hv, hS⟩ := hS; subst hv; obtain ⟨b8, o9, hp, hS⟩ := hS; refine sY (.pointer (some ⟨b8, o9, none⟩)) hs (Yl.nilck rfl rfl hp) fun _ hs => ?_; refine sP (.pointer (some ⟨b8, o9 + 2, none⟩)) hs fun _ hs => ?_; obtain ⟨xa10, xl11, xc12, hat, hS⟩ := hS; refine sY (.slice xa10 xl11 xc12) hs (Yl.lV [(.slice xa10 xl11 xc12)] false hat) fun _ hs => ?_; obtain ⟨b13, o14, ha, h0, hl, hS⟩ := hS; refine sY (.pointer (some ⟨b13, o14 + (0 : Int).toNat * 1, none⟩)) hs (Yl.iS 64 1 ha h0 hl) fun _ hs => ?_; obtain ⟨xa15, xl16, xc17, hat, hS⟩ := hS; refine sY (.slice xa15 xl16 xc17) hs (Yl.lV [(.slice xa15 xl16 xc17)] false hat) fun _ hs => ?_; obtain ⟨b18, o19, ha, h0, hl, hS⟩ := hS
 refine sY (.pointer (some ⟨b18, o19 + (0 : Int).toNat * 1, none⟩)) hs (Yl.iS 3 1 ha h0 hl) fun _ hs => ?_; obtain ⟨x20, hat, hS⟩ := hS; refine sY (iv x20) hs (Yl.lV [(iv x20)] false hat) fun _ hs => ?_; refine sP (.string (mkS s4)) hs fun _ hs => ?_; refine sP (iv (s4.length : Int)) hs fun _ hs => ?_; refine sP (.bool ((x20 : Int) == (s4.length : Int))) hs fun _ hs => ?_; refine sP (.bool ((x20 : Int) == (s4.length : Int))) hs fun _ hs => ?_; exact wpList_nil (Wp.ret (lvE K hs (resT hs rfl rfl) hMM.2 hS))
end Go.Proofs.Ytifkffmecfgpeaa.core

namespace Go.Gx
open Go.RowKit
def HasM (M : Mem) (b o k : Nat) : Prop := ∃ c t f, M b = some (.cells c t f) ∧ o + k ≤ c.size ∧ (f = (0, 0) ∨ c.size ≤ f.1)
theorem Has.m {M : Mem} {b o k : Nat} (h : Has M b o k) : HasM M b o k := by
 obtain ⟨c, t, h1, h2⟩ := h
 exact ⟨c, t, _, h1, h2, .inl rfl⟩
theorem run_storeM (P : Program) (g o : Nat) (t : TypeId) (f : Nat × Nat) : ∀ (vs : List Value) (i : Nat) (cur : Array Value) (w : World), w.heap[g]? = some (.cells cur t f) → (f = (0, 0) ∨ cur.size ≤ f.1) → o + i + vs.length ≤ cur.size → (∀ v ∈ vs, v.oneCell' = true) →
  (storeCells ⟨g, o, none⟩ vs i).run P w = .ok () (w.setRow g (cur.toList.take (o + i) ++ vs ++ cur.toList.drop (o + i + vs.length)).toArray)
 | [], i, cur, w, hg, _, _, _ => by
  have e : (cur.toList.take (o + i) ++ [] ++ cur.toList.drop (o + i + ([] : List Value).length)).toArray = cur := by simp
  rw [e, setRow_self w g cur t f hg]
  rfl
 | v :: rest, i, cur, w, hg, hf, hl, h1 => by
  have hi : o + i < cur.size := by simp at hl; omega
  have hst : (store ((⟨g, o, none⟩ : Addr).add i) v).run P w = .ok () (w.setRow g (cur.setIfInBounds (o + i) v)) := by
   have hadd : (⟨g, o, none⟩ : Addr).add i = ⟨g, o + i, none⟩ := by unfold Addr.add; split <;> simp_all
   have hfro : w.frozen? ⟨g, o + i, none⟩ = false := by
    obtain ⟨lo, hi'⟩ := f
    rcases hf with h | h
    ·cases h; simp [World.frozen?, hg]
    ·simp only at h
     simp only [World.frozen?, hg, Bool.and_eq_false_iff, decide_eq_false_iff_not]
     exact .inl (by omega)
   have hcell : w.cell? ⟨g, o + i, none⟩ = some cur[o + i] := by simp [World.cell?, hg, hi]
   rw [hadd, run_store P w _ v _ (h1 v (by simp)), hcell]
   simp [hfro, setCell_eq_setRow w g (o + i) cur t f v hg]
  have ih := run_storeM P g o t f rest (i + 1) (cur.setIfInBounds (o + i) v) (w.setRow g (cur.setIfInBounds (o + i) v)) (setRow_heap w g cur _ t _ hg) (by simpa using hf) (by simp at hl ⊢; omega) (fun x hx => h1 x (by simp [hx]))
  simp only [storeCells, Sem.run_bind, hst, Result.andThen_ok, ih, setRow_setRow]
  congr 3
  have e := list_seg_step cur.toList (o + i) v rest (by simp at hl ⊢; omega)
  simpa [Array.toList_setIfInBounds, Nat.add_assoc] using e
def NewB (M M2 : Mem) (ad : Option Addr) (c : Nat) (l : List UInt8) : Prop :=
 M.le M2 ∧ l.length ≤ c ∧ c ≤ maxLen ∧ ∃ g cur t f, ad = some ⟨g, 0, none⟩ ∧ M g = none ∧ M2 g = some (.cells cur t f) ∧ cur.size = c ∧ (f = (0, 0) ∨ cur.size ≤ f.1) ∧ cur.toList.take l.length = bytesV l
section
variable {P : Program} {ops : Array Oper} {Q : Exit → Act → World → Prop} {n : Nat} {E : World} {M M0 : Mem} {L : Nat → Prop} {w : World} {a : Act} {env : Env} {bs : List Bx} {rs : List Rw} {rest : List Oper}
theorem Sx.putM (hs : Sx n E (bwW E M0 L) M w a env bs rs) (hM : WX M M0 E) {b k : Nat} {vs : List Value} {c : Array Value} {t : TypeId} {f : Nat × Nat} (hc : M b = some (.cells c t f)) (hw : L b ∨ M0 b = none) {a' : Act} {env' : Env} (hA : Ag n a' env') :
  Sx n E (bwW E M0 L) (M.put b k vs) (w.setRow b (putAt c.toList k vs).toArray) a' env' bs rs := by
 have hb := hs.on b _ hc
 have hother : ∀ x, x ≠ b → (w.setRow b (putAt c.toList k vs).toArray).heap[x]? = w.heap[x]? := by
  intro x hx
  simp only [World.setRow, Array.getElem?_modify]
  rw [if_neg (by omega)]
 refine ⟨hA, fun x o hx => ?_, ?_, fun x hx => ?_, fun r hr => ?_, hs.nd⟩
 ·by_cases hxb : x = b
  ·subst hxb
   rw [Mem.put_eq hc] at hx
   rw [← hx]
   exact setRow_heap w x c (putAt c.toList k vs).toArray t f hb
  ·rw [Mem.put_ne hxb] at hx
   rw [hother x hxb]; exact hs.on x o hx
 ·obtain ⟨h1, h2, h3, h4, h5⟩ := hs.pr
  refine ⟨h1, h2, h3, by simpa [World.setRow] using h4, fun x hx hn => ?_⟩
  rw [hother x (by
   rintro rfl
   rcases hM.old _ _ hc with h | h
   ·refine hn (mem_bwW.2 ⟨hx, ?_, h⟩)
    rcases hw with h' | h'
    ·exact h'
    ·rw [h'] at h; cases h
   ·omega)]
  exact h5 x hx hn
 ·obtain ⟨h1, h2, h3⟩ := hs.bx x hx
  have hne : x.b ≠ b := by rintro rfl; rw [h2] at hc; cases hc
  exact ⟨(hother _ hne).trans h1, by rw [Mem.put_ne hne]; exact h2, h3⟩
 ·obtain ⟨h1, h2⟩ := hs.rw r hr
  have hne : ∀ g, r.v.ownBlock = some g → g ≠ b := fun g hg => by rintro rfl; rw [(h2 g hg).1] at hc; cases hc
  exact ⟨ownsRow_keep h1 fun g hg => hother g (hne g hg), fun g hg => ⟨by rw [Mem.put_ne (hne g hg)]; exact (h2 g hg).1, (h2 g hg).2⟩⟩
theorem stepStoreM {t ty : TypeId} {p x : Operand} {pos : String} {af : Array Edge} {b k : Nat} {vs : List Value} {v : Value} (hs : Sx n E (bwW E M0 L) M w a env bs rs) (hM : WX M M0 E) (hkp : known env p = true) (hkx : known env x = true)
  (hp : evT env p = .pointer (some ⟨b, k, none⟩)) (hx : evT env x = v) (hc : v.cells = vs.toArray) (hn : (P.info? t).map (·.size) = some vs.length) (h1 : vs.all (·.oneCell') = true) (hfit : HasM M b k vs.length) (hw : L b ∨ M0 b = none)
  (h : ∀ a' w' M2, M2 = M.put b k vs → WX M2 M0 E → Sx n E (bwW E M0 L) M2 w' a' env bs rs → wpList P ops Q rest a' w') : wpList P ops Q (⟨none, .store t p x, ty, pos, af, none⟩ :: rest) a w := by
 refine stepK0 (Z := fun _ _ => False) hs (fun _ _ h => h.elim) rfl (by simp [okOp, notSel, Op.operands, hkp, hkx]) rfl ?_
 obtain ⟨c, bt, f, hb, hfit, hf⟩ := hfit
 have hbw := hs.on b _ hb
 have hst := run_storeM P b k bt f vs 0 c w hbw hf (by simpa using hfit) (fun u hu => List.all_eq_true.1 h1 u hu)
 refine OpW.of_skip (w' := w.setRow b (putAt c.toList k vs).toArray) ?_ ?_
 ·cases hin : P.info? t with
  | none => simp [hin] at hn
  | some ti =>
   simp [hin] at hn
   have e : (c.toList.take (k + 0) ++ vs ++ c.toList.drop (k + 0 + vs.length)).toArray = (putAt c.toList k vs).toArray := by simp [putAt]
   rw [e] at hst
   simp [execOp, Instr.storeAt, hp, hx, Instr.sureAddr, storeVar, hc, sizeOf, typeInfo, hin, hn, hst]
 ·intro a' hA
  exact h a' _ _ rfl (hM.put b k vs) (hs.putM hM hb hw hA)
theorem stepClearM {P : Program} {ops : Array Oper} {Q : Exit → Act → World → Prop} {n : Nat} {E : World} {M0 M : Mem} {L : Nat → Prop} {w : World} {a : Act} {env : Env} {bs : List Bx} {rs : List Rw} {rest : List Oper} {t e ty : TypeId} {x : Operand} {pos : String} {af : Array Edge} {b k l c : Nat} {ad : Option Addr} (z : Value) (hs : Sx n E (bwW E M0 L) M w a env bs rs) (hM : WX M M0 E)
  (had : ad = some ⟨b, k, none⟩) (hl : 0 < l) (hfit : HasM M b k l) (hw : L b ∨ M0 b = none) (h : ∀ a' w' M2, M2 = M.put b k (List.replicate l z) → WX M2 M0 E → Sx n E (bwW E M0 L) M2 w' a' env bs rs → wpList P ops Q rest a' w')
  (hkx : known env x = true := by rfl) (hx : evT env x = .slice ad l c := by rfl) (ht : P.underlying t = some (.slice e) := by kernel_rfl) (hz : (P.info? e).bind (·.zero) = some z := by kernel_rfl) (hzc : z.cells = #[z] := by rfl) (h1 : z.oneCell' = true := by rfl) :
  wpList P ops Q (⟨none, .call { callee := .builtin .clear, args := #[x], argTypes := #[t] }, ty, pos, af, none⟩ :: rest) a w := by
 subst had
 refine stepK0 (Z := fun _ _ => False) hs (fun _ _ h => h.elim) rfl (by simp [okOp, notSel, Op.operands, Call.operands, hkx]) rfl ?_
 obtain ⟨cs, bt, f, hb, hfit, hf⟩ := hfit
 have hbw := hs.on b _ hb
 have hst := run_storeM P b k bt f (List.replicate l z) 0 cs w hbw hf (by simpa using hfit) (fun u hu => by rw [List.eq_of_mem_replicate hu]; exact h1)
 have e1 : (cs.toList.take (k + 0) ++ List.replicate l z ++ cs.toList.drop (k + 0 + (List.replicate l z).length)).toArray = (putAt cs.toList k (List.replicate l z)).toArray := by simp [putAt]
 rw [e1] at hst
 have hzs : (Builtin.zeroCells z.cells l).toList = List.replicate l z := by
  rw [hzc]
  simp [Builtin.zeroCells]
  apply List.ext_getElem
  ·simp
  ·intro i h1 h2
   simp [Nat.mod_one]
 obtain ⟨m, rfl⟩ : ∃ m, l = m + 1 := ⟨l - 1, by omega⟩
 refine OpW.of_run (v := .tuple #[]) (w' := w.setRow b (putAt cs.toList k (List.replicate (m + 1) z)).toArray) ?_ fun a' hA => h a' _ _ rfl (hM.put b k _) (hs.putM hM hb hw hA)
 cases hi : P.info? e with
 | none => simp [hi] at hz
 | some ti =>
  simp [hi] at hz
  simp [execOp, resolve, invoke, builtin, hx, Builtin.clear_, run_underlying ht, zeroValue, typeInfo, hi, hz, hzs, hst, Result.andThen]
theorem stepBytesW {d : Nat} {src dst e ty : TypeId} {x : Operand} {pos : String} {af : Array Edge} {l : List UInt8} (hs : Sx n E (bwW E M0 L) M w a env bs rs) (hMM : WX M M0 E) (hm : l.length ≤ maxLen)
  (h : ∀ a' w' M' A c, NewB M M' A c l → WX M' M0 E → Sx n E (bwW E M0 L) M' w' a' ((d, .slice A l.length c) :: env) bs rs → wpList P ops Q rest a' w')
  (hkx : known env x = true := by rfl) (hx : evT env x = .string (mkS l) := by rfl) (hsr : P.underlying src = some .string := by kernel_rfl) (hd : P.underlying dst = some (.slice e) := by kernel_rfl) (he : P.underlying e = some (.int .u8) := by kernel_rfl) (hdn : d < n := by decide) : wpList P ops Q (⟨some d, .convert src dst x, ty, pos, af, none⟩ :: rest) a w := by
 refine stepK (Z := fun _ _ => False) (d := d) hs (fun _ _ h => h.elim) rfl (by simp [okOp, notSel, Op.operands, hkx]) rfl hdn ?_
 have hrun := run_bytes_of_string (P := P) w src dst e (mkS l) hsr hd he
 refine OpW.of_run (w' := _) (v := .slice (some ⟨w.heap.size, 0, none⟩) l.length (grownCap w l.length 0 e)) (by simp only [execOp, hx, Sem.run_bind, hrun, Result.andThen_ok]; rfl) ?_
 intro a' hA
 have hcap1 := grownCap_ge w l.length 0 e
 have hcap2 := grownCap_le_maxLen w l.length 0 e hm
 let cur := bytesRow (mkS l) (grownCap w (mkS l).size 0 e)
 let ob : Obj := .cells cur e (cur.size, cur.size + 1)
 have hb : Below w.heap.size w (w.drew.alloc ob) := ((Below.refl _ w).drew).alloc (Nat.le_refl _) _
 have hgo := grow_on (w' := w.drew.alloc ob) hs.on (fun k hk _ => hb.block k hk)
 have hnew : (w.drew.alloc ob).heap[w.heap.size]? = some ob := heap_alloc_new w.drew ob
 have hle := grow_le (w' := w.drew.alloc ob) hs.on
 have hsz : cur.size = grownCap w l.length 0 e := by
  show (bytesRow (mkS l) (grownCap w (mkS l).size 0 e)).size = _
  have e2 : (mkS l).size = l.length := rfl
  have e3 : ∀ c : Nat, l.length ≤ c → (bytesRow (mkS l) c).size = c := fun c hc => by
   unfold bytesRow
   have e4 : (mkS l).data.size = l.length := rfl
   simp [e2, e4]
   omega
  rw [e2]
  exact e3 _ hcap1
 refine h a' (w.drew.alloc ob) (grow M w (w.drew.alloc ob)) (some ⟨w.heap.size, 0, none⟩) (grownCap w l.length 0 e) ⟨hle, hcap1, hcap2, w.heap.size, cur, e, (cur.size, cur.size + 1), rfl, hs.on.noneAt (Nat.le_refl _), ?_, hsz, .inr (Nat.le_refl _), ?_⟩ (hMM.next hle fun b o hbo => ?_) ((hs.later hb hgo (fun b hb => ?_)).act hA)
 ·unfold grow
  rw [if_pos (Nat.le_refl _), hnew]
 ·apply List.ext_getElem?
  intro j
  rw [List.getElem?_take]
  split
  ·rename_i hj
   have h1 : (bytesV l)[j]? = some (.int .u8 ((l[j]'hj).toNat : Int)) := by simp [bytesV, hj]
   rw [h1]
   show (bytesRow (mkS l) _).toList[j]? = _
   unfold bytesRow
   rw [Array.getElem?_toList, Array.getElem?_append_left (by simp [mkS, hj])]
   simp [mkS, hj]
  ·rw [List.getElem?_eq_none (by simp [bytesV]; omega)]
 ·unfold grow at hbo
  by_cases hk : w.heap.size ≤ b
  ·exact .inr (Nat.le_trans hs.pr.size hk)
  ·rw [if_neg hk] at hbo; exact .inl hbo
 ·unfold grow
  rw [if_neg (by omega)]
end
end Go.Gx

