/-
  Calls that write what they are handed: the visible memory as a state, over any program.
-/
import Derived.Test.YtifkffmecfgpeaaGxY
namespace Go.Gx
open Go.RowKit

/-- Cells written into the visible memory. -/
def Mem.put (M : Mem) (b o : Nat) (vs : List Value) : Mem := fun x => if x = b then (match M b with
  | some (.cells c t f) => some (.cells (putAt c.toList o vs).toArray t f)
  | r => r) else M x
/-- A new block. -/
def Mem.add (M : Mem) (b : Nat) (o : Obj) : Mem := fun x => if x = b then some o else M x
/-- There is room for k cells, and they may be written. -/
def Has (M : Mem) (b o k : Nat) : Prop := ∃ c t, M b = some (.cells c t (0, 0)) ∧ o + k ≤ c.size

theorem Mem.put_ne {M : Mem} {b o x : Nat} {vs : List Value} (h : x ≠ b) : M.put b o vs x = M x := by unfold Mem.put; rw [if_neg h]
theorem Mem.put_eq {M : Mem} {b o : Nat} {vs : List Value} {c : Array Value} {t : TypeId} {f : Nat × Nat} (h : M b = some (.cells c t f)) : M.put b o vs b = some (.cells (putAt c.toList o vs).toArray t f) := by
  unfold Mem.put; rw [if_pos rfl, h]
theorem Mem.add_ne {M : Mem} {b x : Nat} {o : Obj} (h : x ≠ b) : M.add b o x = M x := by unfold Mem.add; rw [if_neg h]
theorem Mem.add_eq {M : Mem} {b : Nat} {o : Obj} : M.add b o b = some o := by unfold Mem.add; rw [if_pos rfl]
theorem Mem.add_le {M : Mem} {b : Nat} {o : Obj} (h : M b = none) : M.le (M.add b o) := fun x q hx => by
  rw [Mem.add_ne (by rintro rfl; rw [h] at hx; cases hx)]; exact hx
theorem Mem.put_some {M : Mem} {b o x : Nat} {vs : List Value} : (M.put b o vs x).isSome = (M x).isSome := by
  by_cases h : x = b
  · subst h
    unfold Mem.put
    rw [if_pos rfl]
    split <;> simp_all
  · rw [Mem.put_ne h]

/-- What has come to be seen since the entry. -/
structure WX (M M0 : Mem) (E : World) : Prop where
  old : ∀ b o, M b = some o → (M0 b).isSome = true ∨ E.heap.size ≤ b
  dom : ∀ b, (M0 b).isSome = true → (M b).isSome = true

theorem WX.refl (M : Mem) (E : World) : WX M M E := ⟨fun b o h => .inl (by rw [h]; rfl), fun _ h => h⟩
theorem WX.next {M'' M' M : Mem} {E : World} (h : WX M' M E) (hl : M'.le M'') (k : ∀ b o, M'' b = some o → M' b = some o ∨ E.heap.size ≤ b) : WX M'' M E :=
  ⟨fun b o hb => (k b o hb).elim (fun h' => h.old b o h') .inr, fun b hb => by
    obtain ⟨o, ho⟩ := Option.isSome_iff_exists.1 (h.dom b hb)
    rw [hl b o ho]; rfl⟩
theorem WX.put {M M0 : Mem} {E : World} (h : WX M M0 E) (b o : Nat) (vs : List Value) : WX (M.put b o vs) M0 E :=
  ⟨fun x q hx => by
    have : (M x).isSome = true := by rw [← Mem.put_some (b := b) (o := o) (vs := vs), hx]; rfl
    obtain ⟨r, hr⟩ := Option.isSome_iff_exists.1 this
    exact h.old x r hr, fun x hx => by rw [Mem.put_some]; exact h.dom x hx⟩

/-- The blocks of the entry that may be written. -/
noncomputable def bwW (E : World) (M0 : Mem) (L : Nat → Prop) : List Nat := (List.range E.heap.size).filter fun k => @decide (L k ∧ (M0 k).isSome = true) (Classical.propDecidable _)
theorem mem_bwW {E : World} {M0 : Mem} {L : Nat → Prop} {k : Nat} : k ∈ bwW E M0 L ↔ k < E.heap.size ∧ L k ∧ (M0 k).isSome = true := by
  unfold bwW
  rw [List.mem_filter, List.mem_range]
  simp

/-- What is seen behind a call that writes. -/
def growW (M : Mem) (w w' : World) : Mem := fun b => if w.heap.size ≤ b ∨ (M b).isSome = true then w'.heap[b]? else none
theorem growW_on {M : Mem} {w w' : World} : On (growW M w w') w' := by
  intro b o hb
  unfold growW at hb
  split at hb
  · exact hb
  · cases hb

/-- All that was seen and may not be written is as it was; nothing goes out of sight. -/
structure LeW (M : Mem) (L : Nat → Prop) (M' : Mem) : Prop where
  keep : ∀ b o, M b = some o → ¬ L b → M' b = some o
  dom : ∀ b, (M b).isSome = true → (M' b).isSome = true

/-- What a call may write: what was lent to it, and all that is new. -/
abbrev Wr (L : Nat → Prop) (M : Mem) : Nat → Prop := fun b => L b ∨ M b = none

/-- A call that may write the blocks L of what it sees; all else stays. -/
def CallW (P : Program) (f : FuncId) (args : Array Value) (M : Mem) (L : Nat → Prop) (K : Value → Mem → Prop) : Prop :=
  ∀ w, On M w → Calls P f args w fun e w' => ∃ v, e = .returned v ∧ Pres w (bwW w M L) w' ∧ K v (growW M w w')

theorem growW_le {M : Mem} {L : Nat → Prop} {w w' : World} (hon : On M w) (hp : Pres w (bwW w M L) w') : LeW M L (growW M w w') := by
  refine ⟨fun b o hb hL => ?_, fun b hb => ?_⟩
  · unfold growW
    rw [if_pos (.inr (by rw [hb]; rfl)), hp.block b (hon.lt hb) (fun h => hL (mem_bwW.1 h).2.1)]
    exact hon b o hb
  · obtain ⟨o, ho⟩ := Option.isSome_iff_exists.1 hb
    have := hon.lt ho
    have hs := hp.size
    unfold growW
    rw [if_pos (.inr hb), Array.getElem?_eq_getElem (by omega)]
    rfl

theorem Pres.wider {E w : World} {M : Mem} {L L' : Nat → Prop} (h : Pres E (bwW E M L) w) (hl : ∀ b, L b → L' b) : Pres E (bwW E M L') w :=
  ⟨h.os, h.tape, h.output, h.size, fun k hk hn => h.block k hk fun hm => hn (by obtain ⟨h1, h2, h3⟩ := mem_bwW.1 hm; exact mem_bwW.2 ⟨h1, hl k h2, h3⟩)⟩

theorem CallW.mono {P : Program} {f : FuncId} {args : Array Value} {M : Mem} {L L' : Nat → Prop} {K K' : Value → Mem → Prop} (h : CallW P f args M L K) (hl : ∀ b, L b → L' b) (hK : ∀ v M', LeW M L M' → K v M' → K' v M') : CallW P f args M L' K' :=
  fun w hw => (h w hw).mono fun _ _ ⟨v, h1, h2, h3⟩ => ⟨v, h1, h2.wider hl, hK v _ (growW_le hw h2) h3⟩

theorem grow_same {M : Mem} {w w' : World} (hon : On M w) (hb : Below w.heap.size w w') : grow M w w' = growW M w w' := by
  funext b
  unfold grow growW
  by_cases h : w.heap.size ≤ b
  · rw [if_pos h, if_pos (.inl h)]
  · rw [if_neg h]
    cases hm : M b with
    | none => rw [if_neg (by simp; omega)]
    | some o => rw [if_pos (.inr rfl), hb.block b (by omega)]; exact (hon b o hm).symm

theorem CallE.toW {P : Program} {f : FuncId} {args : Array Value} {M : Mem} {L : Nat → Prop} {K : Value → Mem → Prop} (h : CallE P f args M K) : CallW P f args M L K :=
  fun w hw => (h w hw).mono fun _ _ ⟨v, h1, h2, h3⟩ => ⟨v, h1, ⟨h2.os, h2.tape, h2.output, h2.size, fun k hk _ => h2.block k hk⟩, by rw [← grow_same hw h2]; exact h3⟩

theorem CallW.toE {P : Program} {f : FuncId} {args : Array Value} {M : Mem} {K : Value → Mem → Prop} (h : CallW P f args M (fun _ => False) K) : CallE P f args M K :=
  fun w hw => (h w hw).mono fun _ w' ⟨v, h1, h2, h3⟩ => by
    have hb : Below w.heap.size w w' := ⟨h2.os, h2.tape, h2.output, h2.size, fun k hk => h2.block k hk fun hm => (mem_bwW.1 hm).2.1⟩
    exact ⟨v, h1, hb, by rw [grow_same hw hb]; exact h3⟩

theorem enterW {P : Program} {f : FuncId} {fn : Func} {c : Code} {l : List Value} {M : Mem} {L : Nat → Prop} {K : Value → Mem → Prop}
    (hf : P.funcs[f]? = some fn) (hb : fn.body = some c) (n : Nat) (hn : fn.ntmps = n) (hl : l.length ≤ n)
    (h : ∀ w a, Sx n w (bwW w M L) M w a (argEnv l 0) [] [] → Wp P c (fun a' w' => a'.defers = [] ∧ ∃ v, (results fn a'.tmps).run P w' = .ok v w' ∧ Pres w (bwW w M L) w' ∧ K v (growW M w w')) []
      (fun a' w' => a'.defers = [] ∧ ∃ v, (results fn a'.tmps).run P w' = .ok v w' ∧ Pres w (bwW w M L) w' ∧ K v (growW M w w')) (fun _ _ _ => False) a w) :
    CallW P f l.toArray M L K := by
  intro w hw
  refine calls_of_wp hf hb ?_
  refine Code.wp_mono (fun e a' w' q => ?_) (h w _ ⟨⟨rfl, ?_, fun x v hx => ?_⟩, hw, Pres.refl _ _, (fun x hx => by cases hx), (fun r hr => by cases hr), ⟨List.nodup_nil, (fun x hx => by cases hx), List.Pairwise.nil⟩⟩)
  · cases e with
    | normal => obtain ⟨h1, v, h2, h3, h4⟩ := q; exact ⟨h1, v, h2, v, rfl, h3, h4⟩
    | ret => obtain ⟨h1, v, h2, h3, h4⟩ := q; exact ⟨h1, v, h2, v, rfl, h3, h4⟩
    | _ => exact q.elim
  · simp [hn]; omega
  · obtain ⟨_, h2⟩ := lk_argEnv l 0 x v hx
    simp only [Nat.sub_zero] at h2
    have hx' : x < l.length := by
      rcases Nat.lt_or_ge x l.length with h' | h'
      · exact h'
      · rw [List.getElem?_eq_none h'] at h2; cases h2
    simp only [Array.getD_eq_getD_getElem?]
    rw [Array.getElem?_append_left (by simpa using hx')]
    simp [h2]

theorem leaveW {P : Program} {fn : Func} {n : Nat} {E : World} {M0 M : Mem} {L : Nat → Prop} {w : World} {a : Act} {env : Env} {bs : List Bx} {rs : List Rw} {K : Value → Mem → Prop} {v : Value}
    (hs : Sx n E (bwW E M0 L) M w a env bs rs) (hr : (results fn a.tmps).run P w = .ok v w) (hM : WX M M0 E) (hK : ∀ M', M.le M' → K v M') :
    a.defers = [] ∧ ∃ v, (results fn a.tmps).run P w = .ok v w ∧ Pres E (bwW E M0 L) w ∧ K v (growW M0 E w) := by
  refine ⟨hs.ag.df, v, hr, hs.pr, hK _ fun b o hb => ?_⟩
  unfold growW
  rw [if_pos ((hM.old b o hb).symm)]
  exact hs.on b o hb

section
variable {P : Program} {ops : Array Oper} {Q : Exit → Act → World → Prop} {n : Nat} {E : World} {M M0 : Mem} {L : Nat → Prop} {w : World} {a : Act} {env : Env} {bs : List Bx} {rs : List Rw} {rest : List Oper}

/-- The world with cells of a visible block written. -/
theorem Sx.putW (hs : Sx n E (bwW E M0 L) M w a env bs rs) (hM : WX M M0 E) {b k : Nat} {vs : List Value} {c : Array Value} {t : TypeId} (hc : M b = some (.cells c t (0, 0))) (hw : L b ∨ M0 b = none) {a' : Act} {env' : Env} (hA : Ag n a' env') :
    Sx n E (bwW E M0 L) (M.put b k vs) (w.setRow b (putAt c.toList k vs).toArray) a' env' bs rs := by
  have hb := hs.on b _ hc
  have hother : ∀ x, x ≠ b → (w.setRow b (putAt c.toList k vs).toArray).heap[x]? = w.heap[x]? := by
    intro x hx
    simp only [World.setRow, Array.getElem?_modify]
    rw [if_neg (by omega)]
  refine ⟨hA, fun x o hx => ?_, ?_, fun x hx => ?_, fun r hr => ?_, hs.nd⟩
  · by_cases hxb : x = b
    · subst hxb
      rw [Mem.put_eq hc] at hx
      rw [← hx]
      exact setRow_heap w x c (putAt c.toList k vs).toArray t (0, 0) hb
    · rw [Mem.put_ne hxb] at hx
      rw [hother x hxb]; exact hs.on x o hx
  · obtain ⟨h1, h2, h3, h4, h5⟩ := hs.pr
    refine ⟨h1, h2, h3, by simpa [World.setRow] using h4, fun x hx hn => ?_⟩
    rw [hother x (by
      rintro rfl
      rcases hM.old _ _ hc with h | h
      · refine hn (mem_bwW.2 ⟨hx, ?_, h⟩)
        rcases hw with h' | h'
        · exact h'
        · rw [h'] at h; cases h
      · omega)]
    exact h5 x hx hn
  · obtain ⟨h1, h2, h3⟩ := hs.bx x hx
    have hne : x.b ≠ b := by rintro rfl; rw [h2] at hc; cases hc
    exact ⟨(hother _ hne).trans h1, by rw [Mem.put_ne hne]; exact h2, h3⟩
  · obtain ⟨h1, h2⟩ := hs.rw r hr
    have hne : ∀ g, r.v.ownBlock = some g → g ≠ b := fun g hg => by rintro rfl; rw [(h2 g hg).1] at hc; cases hc
    exact ⟨ownsRow_keep h1 fun g hg => hother g (hne g hg), fun g hg => ⟨by rw [Mem.put_ne (hne g hg)]; exact (h2 g hg).1, (h2 g hg).2⟩⟩

/-- A store into the visible memory. -/
theorem stepStoreW {t ty : TypeId} {p x : Operand} {pos : String} {af : Array Edge} {b k : Nat} {vs : List Value} {v : Value} (hs : Sx n E (bwW E M0 L) M w a env bs rs) (hM : WX M M0 E) (hkp : known env p = true) (hkx : known env x = true)
    (hp : evT env p = .pointer (some ⟨b, k, none⟩)) (hx : evT env x = v) (hc : v.cells = vs.toArray) (hn : (P.info? t).map (·.size) = some vs.length) (h1 : vs.all (·.oneCell') = true) (hfit : Has M b k vs.length) (hw : L b ∨ M0 b = none)
    (h : ∀ a' w' M2, M2 = M.put b k vs → WX M2 M0 E → Sx n E (bwW E M0 L) M2 w' a' env bs rs → wpList P ops Q rest a' w') : wpList P ops Q (⟨none, .store t p x, ty, pos, af, none⟩ :: rest) a w := by
  refine stepK0 (Z := fun _ _ => False) hs (fun _ _ h => h.elim) rfl (by simp [okOp, notSel, Op.operands, hkp, hkx]) rfl ?_
  obtain ⟨c, bt, hb, hfit⟩ := hfit
  have hbw := hs.on b _ hb
  have hst := run_storeCells_at P b k bt vs 0 c w hbw (by simpa using hfit) (fun u hu => List.all_eq_true.1 h1 u hu)
  refine OpW.of_skip (w' := w.setRow b (putAt c.toList k vs).toArray) ?_ ?_
  · cases hin : P.info? t with
    | none => simp [hin] at hn
    | some ti =>
      simp [hin] at hn
      have e : (c.toList.take (k + 0) ++ vs ++ c.toList.drop (k + 0 + vs.length)).toArray = (putAt c.toList k vs).toArray := by simp [putAt]
      rw [e] at hst
      simp [execOp, Instr.storeAt, hp, hx, Instr.sureAddr, storeVar, hc, sizeOf, typeInfo, hin, hn, hst]
  · intro a' hA
    exact h a' _ _ rfl (hM.put b k vs) (hs.putW hM hb hw hA)

/-- Behind a call that may write: the caller's frame again. -/
theorem Sx.backW {w' : World} (hs : Sx n E (bwW E M0 L) M w a env bs rs) (hM : WX M M0 E) (hp : Pres w (bwW w M fun b => L b ∨ M0 b = none) w') {a' : Act} {env' : Env} (hA : Ag n a' env') :
    Sx n E (bwW E M0 L) (growW M w w') w' a' env' bs rs := by
  have hsz := hs.pr.size
  have hhid : ∀ x, x < w.heap.size → M x = none → w'.heap[x]? = w.heap[x]? := fun x hx hm => hp.block x hx fun h => by have := (mem_bwW.1 h).2.2; rw [hm] at this; cases this
  have hnone : ∀ x, x < w.heap.size → M x = none → growW M w w' x = none := fun x hx hm => by
    unfold growW; rw [if_neg]; rw [hm]; simp; omega
  refine ⟨hA, growW_on, ?_, fun x hx => ?_, fun r hr => ?_, hs.nd⟩
  · obtain ⟨h1, h2, h3, h4, h5⟩ := hs.pr
    refine ⟨hp.os.trans h1, hp.tape.trans h2, hp.output.trans h3, Nat.le_trans h4 hp.size, fun k hk hn => ?_⟩
    rw [hp.block k (by omega) (fun hm => ?_)]
    · exact h5 k hk hn
    · obtain ⟨_, g2, g3⟩ := mem_bwW.1 hm
      obtain ⟨o, ho⟩ := Option.isSome_iff_exists.1 g3
      rcases hM.old k o ho with h | h
      · refine hn (mem_bwW.2 ⟨hk, ?_, h⟩)
        rcases g2 with g | g
        · exact g
        · rw [g] at h; cases h
      · omega
  · obtain ⟨h1, h2, h3⟩ := hs.bx x hx
    exact ⟨(hhid _ h1.lt h2).trans h1, hnone _ h1.lt h2, h3⟩
  · obtain ⟨h1, h2⟩ := hs.rw r hr
    exact ⟨ownsRow_keep h1 fun g hg => hhid g (ownBlock_lt h1 hg) (h2 g hg).1, fun g hg => ⟨hnone g (ownBlock_lt h1 hg) (h2 g hg).1, (h2 g hg).2⟩⟩

theorem WX.grow {w' : World} (hs : Sx n E (bwW E M0 L) M w a env bs rs) (hM : WX M M0 E) {L' : Nat → Prop} (hp : Pres w (bwW w M L') w') : WX (growW M w w') M0 E := by
  have hsz := hs.pr.size
  refine ⟨fun b o hb => ?_, fun b hb => (growW_le hs.on hp).dom b (hM.dom b hb)⟩
  unfold growW at hb
  split at hb
  · rename_i h
    rcases h with h | h
    · exact .inr (by omega)
    · obtain ⟨q, hq⟩ := Option.isSome_iff_exists.1 h
      exact hM.old b q hq
  · cases hb

/-- A call that may write all that the caller may. -/
theorem stepCallW {d f : Nat} {ty : TypeId} {c : Call} {pos : String} {af : Array Edge} {fn : Func} {K : Value → Mem → Prop} {first caps : Array Value} (args : List Value) (hs : Sx n E (bwW E M0 L) M w a env bs rs) (hM : WX M M0 E)
    (hk : okOp env ⟨some d, .call c, ty, pos, af, none⟩ = true) (hcal : ∃ x, c.callee = .value x ∧ evT env x = .func (.func f) first caps) (hargs : first.toList ++ c.args.toList.map (evT env) ++ caps.toList = args) (hf : P.funcs[f]? = some fn) (hbody : fn.body.isNone = false) (hname : (fn.name == "runtime.NumGoroutine") = false) (hdn : d < n)
    (hc : CallW P f args.toArray M (fun b => L b ∨ M0 b = none) K)
    (h : ∀ a' w' M' v, WX M' M0 E → K v M' → Sx n E (bwW E M0 L) M' w' a' ((d, v) :: env) bs rs → wpList P ops Q rest a' w') : wpList P ops Q (⟨some d, .call c, ty, pos, af, none⟩ :: rest) a w := by
  refine stepK (Z := fun _ _ => False) (d := d) hs (fun _ _ h => h.elim) rfl hk rfl hdn ?_
  unfold OpW
  rw [run_call args hcal hargs hf hbody hname]
  refine (hc w hs.on).mono fun e w' ⟨v, he, hp, hK⟩ => ?_
  subst he
  intro a' hA
  exact h a' w' _ v (hM.grow hs hp) hK (hs.backW hM hp hA)

/-- A call of a function value that may write. -/
def CallFW (P : Program) (fv : Value) (args : List Value) (M : Mem) (L : Nat → Prop) (K : Value → Mem → Prop) : Prop :=
  ∃ f fn first caps, fv = .func (.func f) first caps ∧ P.funcs[f]? = some fn ∧ fn.body.isNone = false ∧ (fn.name == "runtime.NumGoroutine") = false ∧ CallW P f (first.toList ++ args ++ caps.toList).toArray M L K

theorem CallFW.mono {fv : Value} {args : List Value} {L' : Nat → Prop} {K K' : Value → Mem → Prop} (h : CallFW P fv args M L K) (hl : ∀ b, L b → L' b) (hK : ∀ v M', LeW M L M' → K v M' → K' v M') : CallFW P fv args M L' K' := by
  obtain ⟨f, fn, first, caps, h1, h2, h3, h4, h5⟩ := h
  exact ⟨f, fn, first, caps, h1, h2, h3, h4, h5.mono hl hK⟩
theorem CallF.toW {fv : Value} {args : List Value} {K : Value → Mem → Prop} (h : CallF P fv args M K) : CallFW P fv args M L K := by
  obtain ⟨f, fn, first, caps, h1, h2, h3, h4, h5⟩ := h
  exact ⟨f, fn, first, caps, h1, h2, h3, h4, h5.toW⟩

theorem stepCallFW {d : Nat} {ty : TypeId} {c : Call} {pos : String} {af : Array Edge} {K : Value → Mem → Prop} {fv : Value} (args : List Value) (hs : Sx n E (bwW E M0 L) M w a env bs rs) (hM : WX M M0 E)
    (hk : okOp env ⟨some d, .call c, ty, pos, af, none⟩ = true) (hcal : ∃ x, c.callee = .value x ∧ evT env x = fv) (hargs : c.args.toList.map (evT env) = args) (hdn : d < n)
    (hc : CallFW P fv args M (fun b => L b ∨ M0 b = none) K)
    (h : ∀ a' w' M' v, WX M' M0 E → K v M' → Sx n E (bwW E M0 L) M' w' a' ((d, v) :: env) bs rs → wpList P ops Q rest a' w') : wpList P ops Q (⟨some d, .call c, ty, pos, af, none⟩ :: rest) a w := by
  obtain ⟨f, fn, first, caps, rfl, hf, hbody, hname, hc⟩ := hc
  exact stepCallW _ hs hM hk hcal (by rw [hargs]) hf hbody hname hdn hc h

/-- A box of the call's own becomes visible: it is a new block. -/
theorem Sx.freezeW (hs : Sx n E (bwW E M0 L) M w a env bs rs) (hM : WX M M0 E) (i : Nat) {b : Nat} {t : TypeId} {cs : List Value} (hi : bs[i]? = some ⟨b, t, cs⟩) (hE : E.heap.size ≤ b) {l : List Bx} (hl : bs.eraseIdx i = l) :
    ∃ M2, M2 = M.add b (.cells cs.toArray t (0, 0)) ∧ M b = none ∧ WX M2 M0 E ∧ Sx n E (bwW E M0 L) M2 w a env l rs := by
  refine ⟨_, rfl, ?_⟩
  have hs' := hs.bfront i hi hl
  obtain ⟨hb1, hb2, _⟩ := hs'.bx ⟨b, t, cs⟩ (by simp)
  have hother : ∀ x ∈ l, x.b ≠ b := by
    intro x hx e
    have := hs'.nd.b
    rw [List.map_cons, List.nodup_cons] at this
    exact this.1 (List.mem_map.2 ⟨x, hx, e⟩)
  have hrow : ∀ r ∈ rs, ∀ g, r.v.ownBlock = some g → g ≠ b := fun r hr g hg => by
    rintro rfl; exact hs'.nd.x ⟨g, t, cs⟩ (by simp) r hr hg
  refine ⟨hb2, hM.next (Mem.add_le hb2) (fun x o hx => ?_), hs'.ag, fun k o hk => ?_, hs'.pr, fun x hx => ?_, fun r hr => ?_, hs'.nd.sub (List.sublist_cons_self _ _) (List.Sublist.refl _)⟩
  · by_cases e : x = b
    · exact .inr (e ▸ hE)
    · rw [Mem.add_ne e] at hx; exact .inl hx
  · by_cases e : k = b
    · subst e
      rw [Mem.add_eq] at hk
      rw [← hk]; exact hb1
    · rw [Mem.add_ne e] at hk; exact hs'.on k o hk
  · obtain ⟨h1, h2, h3⟩ := hs'.bx x (by simp [hx])
    exact ⟨h1, by rw [Mem.add_ne (hother x hx)]; exact h2, h3⟩
  · obtain ⟨h1, h2⟩ := hs'.rw r hr
    exact ⟨h1, fun g hg => ⟨by rw [Mem.add_ne (hrow r hr g hg)]; exact (h2 g hg).1, (h2 g hg).2⟩⟩

/-- A new row in the visible memory. -/
def NewRow (M M2 : Mem) (e size : Nat) (ad : Option Addr) (n cap : Nat) (xs : List Value) : Prop :=
  xs.length = n * size ∧ n ≤ cap ∧ cap ≤ maxLen ∧ ((ad = none ∧ n = 0 ∧ cap = 0 ∧ M2 = M) ∨ ∃ g cur, ad = some ⟨g, 0, none⟩ ∧ M g = none ∧ cur.size = cap * size ∧ cur.toList.take (n * size) = xs ∧ M2 = M.add g (.cells cur e (0, 0)))

theorem NewRow.le {M2 : Mem} {e size n cap : Nat} {ad : Option Addr} {xs : List Value} (h : NewRow M M2 e size ad n cap xs) : M.le M2 := by
  obtain ⟨_, _, _, ⟨_, _, _, rfl⟩ | ⟨g, cur, _, hg, _, _, rfl⟩⟩ := h
  · exact Mem.le.refl _
  · exact Mem.add_le hg

theorem NewRow.slv {M2 : Mem} {e size n cap : Nat} {ad : Option Addr} {xs : List Value} (h : NewRow M M2 e size ad n cap xs) : SlV M2 ad n cap size xs := by
  obtain ⟨h1, h2, h3, ⟨_, h4, _, rfl⟩ | ⟨g, cur, rfl, hg, _, ht, rfl⟩⟩ := h
  · exact ⟨h1, h2, h3, fun h => by omega⟩
  · refine ⟨h1, h2, h3, fun _ => ⟨g, 0, rfl, fun j v hj => ?_⟩⟩
    unfold Mem.cell
    rw [Mem.add_eq]
    rw [← ht, List.getElem?_take] at hj
    split at hj
    · simpa using hj
    · cases hj

/-- A row of the call's own becomes visible: it is a new block. -/
theorem Sx.releaseW (hs : Sx n E (bwW E M0 L) M w a env bs rs) (hM : WX M M0 E) (i : Nat) {A : Option Addr} {l c : Nat} {e size : Nat} {xs : List Value} (hi : rs[i]? = some ⟨.slice A l c, e, size, l, xs, true⟩) (rs' : List Rw) (hrs : rs.eraseIdx i = rs') :
    ∃ M', NewRow M M' e size A l c xs ∧ WX M' M0 E ∧ Sx n E (bwW E M0 L) M' w a env bs rs' := by
  have hs' := hs.rfront i hi hrs
  obtain ⟨g1, g2⟩ := hs'.rw ⟨.slice A l c, e, size, l, xs, true⟩ (by simp)
  have hl := g1.1
  rcases g1.2 with ⟨hv, h0⟩ | ⟨g, cap, cur, hv, _, hcell, hc1, hc2, hcs, htk⟩
  · simp only [Value.slice.injEq] at hv h0
    obtain ⟨rfl, rfl, rfl⟩ := hv
    exact ⟨M, ⟨hl, by omega, by omega, .inl ⟨rfl, rfl, rfl, rfl⟩⟩, hM, ⟨hs'.ag, hs'.on, hs'.pr, hs'.bx, fun r hr => hs'.rw r (by simp [hr]), hs'.nd.sub (List.Sublist.refl _) (List.sublist_cons_self _ _)⟩⟩
  · simp only [Value.slice.injEq] at hv
    obtain ⟨rfl, _, rfl⟩ := hv
    obtain ⟨hMg, hgE⟩ := g2 g rfl
    have hgE : E.heap.size ≤ g := by
      rcases hgE with h | h
      · exact h
      · cases h.1
    have hbox : ∀ x ∈ bs, x.b ≠ g := fun x hx hxg => hs'.nd.x x hx ⟨.slice (some ⟨g, 0, none⟩) l c, e, size, l, xs, true⟩ (by simp) (by rw [hxg]; rfl)
    have hrow : ∀ r ∈ rs', ∀ k, r.v.ownBlock = some k → k ≠ g := fun r hr k hk => by
      rintro rfl
      exact (List.pairwise_cons.1 hs'.nd.r).1 r hr k rfl hk
    refine ⟨M.add g (.cells cur e (0, 0)), ⟨hl, hc1, hc2, .inr ⟨g, cur, rfl, hMg, hcs, htk, rfl⟩⟩, hM.next (Mem.add_le hMg) (fun x o hx => ?_), hs'.ag, fun k o hk => ?_, hs'.pr, fun x hx => ?_, fun r hr => ?_, hs'.nd.sub (List.Sublist.refl _) (List.sublist_cons_self _ _)⟩
    · by_cases e : x = g
      · exact .inr (e ▸ hgE)
      · rw [Mem.add_ne e] at hx; exact .inl hx
    · by_cases e : k = g
      · subst e
        rw [Mem.add_eq] at hk
        rw [← hk]; exact hcell
      · rw [Mem.add_ne e] at hk; exact hs'.on k o hk
    · obtain ⟨h1, h2, h3⟩ := hs'.bx x hx
      exact ⟨h1, by rw [Mem.add_ne (hbox x hx)]; exact h2, h3⟩
    · obtain ⟨h1, h2⟩ := hs'.rw r (by simp [hr])
      exact ⟨h1, fun k hk => ⟨by rw [Mem.add_ne (hrow r hr k hk)]; exact (h2 k hk).1, (h2 k hk).2⟩⟩

/-- A visible row whose block is the row's alone. -/
def RowW (M : Mem) (e size : Nat) (ad : Option Addr) (n cap : Nat) (xs : List Value) : Prop :=
  xs.length = n * size ∧ n ≤ cap ∧ cap ≤ maxLen ∧ ((ad = none ∧ n = 0 ∧ cap = 0) ∨ ∃ g cur, ad = some ⟨g, 0, none⟩ ∧ M g = some (.cells cur e (0, 0)) ∧ cur.size = cap * size ∧ cur.toList.take (n * size) = xs)

theorem NewRow.roww {M2 : Mem} {e size l cap : Nat} {ad : Option Addr} {xs : List Value} (h : NewRow M M2 e size ad l cap xs) : RowW M2 e size ad l cap xs := by
  obtain ⟨h1, h2, h3, ⟨h4, h5, h6, rfl⟩ | ⟨g, cur, rfl, hg, hc, ht, rfl⟩⟩ := h
  · exact ⟨h1, h2, h3, .inl ⟨h4, h5, h6⟩⟩
  · exact ⟨h1, h2, h3, .inr ⟨g, cur, rfl, Mem.add_eq, hc, ht⟩⟩

theorem RowW.slv {e size l cap : Nat} {ad : Option Addr} {xs : List Value} (h : RowW M e size ad l cap xs) : SlV M ad l cap size xs := by
  obtain ⟨h1, h2, h3, ⟨_, h4, _⟩ | ⟨g, cur, rfl, hg, _, ht⟩⟩ := h
  · exact ⟨h1, h2, h3, fun h => by omega⟩
  · refine ⟨h1, h2, h3, fun _ => ⟨g, 0, rfl, fun j v hj => ?_⟩⟩
    unfold Mem.cell
    rw [hg]
    rw [← ht, List.getElem?_take] at hj
    split at hj
    · simpa using hj
    · cases hj

end

section
variable {P : Program} {env : Env} {M : Mem} {bs : List Bx} {rs : List Rw} {d : Option Tmp} {ty : TypeId} {pos : String} {af : Array Edge} {gd : Option (Nat × Bool)}

end

theorem RowW.le {M M' : Mem} {e size l cap : Nat} {ad : Option Addr} {xs : List Value} (h : RowW M e size ad l cap xs) (hl : M.le M') : RowW M' e size ad l cap xs := by
  obtain ⟨h1, h2, h3, h4 | ⟨g, cur, h4, hg, hc, ht⟩⟩ := h
  · exact ⟨h1, h2, h3, .inl h4⟩
  · exact ⟨h1, h2, h3, .inr ⟨g, cur, h4, hl g _ hg, hc, ht⟩⟩

/-- The same row in a memory that agrees on its block. -/
theorem RowW.same {M M' : Mem} {e size l cap : Nat} {ad : Option Addr} {xs : List Value} (h : RowW M e size ad l cap xs) (hb : ∀ g o, ad = some ⟨g, 0, none⟩ → M g = some o → M' g = some o) : RowW M' e size ad l cap xs := by
  obtain ⟨h1, h2, h3, h4 | ⟨g, cur, h4, hg, hc, ht⟩⟩ := h
  · exact ⟨h1, h2, h3, .inl h4⟩
  · exact ⟨h1, h2, h3, .inr ⟨g, cur, h4, hb g _ h4 hg, hc, ht⟩⟩

theorem RowW.len {M : Mem} {e size l cap : Nat} {ad : Option Addr} {xs : List Value} (h : RowW M e size ad l cap xs) : xs.length = l * size := h.1

theorem take_putAt (cur : List Value) (a L : Nat) (vs : List Value) (h1 : a + vs.length ≤ L) (h2 : L ≤ cur.length) : (putAt cur a vs).take L = putAt (cur.take L) a vs := by
  unfold putAt
  rw [List.take_append, List.take_take, Nat.min_eq_left (show a ≤ L by omega), List.length_append, List.length_take, Nat.min_eq_left (show a ≤ cur.length by omega), List.take_of_length_le (by simp; omega), List.drop_take]

/-- An element of a row is written. -/
theorem RowW.put {α : Type} {f : α → List Value} {M : Mem} {e size l cap : Nat} {ad : Option Addr} {xs : List α} (hf : ∀ x, (f x).length = size) (h : RowW M e size ad l cap (cl f xs)) (hl : xs.length = l) {i b o : Nat} (hi : i < l) (had : ad = some ⟨b, o, none⟩) (x : α) :
    o = 0 ∧ Has M b (o + i * size) size ∧ RowW (M.put b (o + i * size) (f x)) e size ad l cap (cl f (xs.set i x)) := by
  obtain ⟨h1, h2, h3, ⟨h4, _⟩ | ⟨g, cur, h4, hg, hc, ht⟩⟩ := h
  · rw [h4] at had; cases had
  · rw [h4] at had
    simp only [Option.some.injEq, Addr.mk.injEq, and_true] at had
    obtain ⟨rfl, rfl⟩ := had
    have hfit : i * size + size ≤ l * size := by
      have : (i + 1) * size ≤ l * size := Nat.mul_le_mul_right _ hi
      rw [Nat.succ_mul] at this; exact this
    have hcap : l * size ≤ cap * size := Nat.mul_le_mul_right _ h2
    refine ⟨rfl, ⟨cur, e, hg, by omega⟩, by rw [cl_length hf, List.length_set, hl], h2, h3, .inr ⟨g, _, h4, Mem.put_eq hg, ?_, ?_⟩⟩
    · simp only [List.size_toArray, putAt, List.length_append, List.length_take, List.length_drop, hf, Array.length_toList]
      omega
    · have hx := hf x
      have hput := cl_put (f := f) hf x (i := i) (xs := xs) (by omega)
      rw [← hput, ← ht]
      exact take_putAt _ _ _ _ (by rw [hx]; omega) (by simpa using (show l * size ≤ cur.size by omega))

end Go.Gx
