/-
  Calls that are lent boxes and rows of the caller's own, closures, and boxes that become visible; over any program.
-/
import Derived.Test.YtifkffmecfgpeaaGxR
namespace Go.Gx
open Go.RowKit

structure Sy (E : World) (bw : List Nat) (M : Mem) (w : World) (bs : List Bx) (rs : List Rw) : Prop where
  on : On M w
  pr : Pres E bw w
  bx : ∀ x ∈ bs, BxAt w x ∧ M x.b = none ∧ (E.heap.size ≤ x.b ∨ x.b ∈ bw)
  rw : ∀ r ∈ rs, w.ownsRow 0 r.e r.size r.v r.n r.xs ∧ ∀ g, r.v.ownBlock = some g → M g = none ∧ (E.heap.size ≤ g ∨ (r.own = false ∧ g ∈ bw))
  nd : Nd bs rs

theorem Sy.sx {n : Nat} {E : World} {bw : List Nat} {M : Mem} {w : World} {a : Act} {env : Env} {bs : List Bx} {rs : List Rw} (h : Sy E bw M w bs rs) (hA : Ag n a env) : Sx n E bw M w a env bs rs := ⟨hA, h.on, h.pr, h.bx, h.rw, h.nd⟩

/-- The blocks that are lent. -/
def blk (lb : List Bx) (lr : List Rw) : List Nat := lb.map (·.b) ++ lr.filterMap (·.v.ownBlock)

/-- A call that is lent boxes and rows: it may write them; all else stays. -/
def CallL (P : Program) (f : FuncId) (args : Array Value) (M : Mem) (lb : List Bx) (lr : List Rw) (K : Value → List Bx → List Rw → Mem → Prop) : Prop :=
  ∀ w, Sy w (blk lb lr) M w lb lr → Calls P f args w fun e w' => ∃ v lb' lr' M', e = .returned v ∧ M.le M' ∧ MM M' M w ∧ Sy w (blk lb lr) M' w' lb' lr' ∧ lb'.map (·.b) = lb.map (·.b) ∧ K v lb' lr' M'

theorem CallL.mono {P : Program} {f : FuncId} {args : Array Value} {M : Mem} {lb : List Bx} {lr : List Rw} {K K' : Value → List Bx → List Rw → Mem → Prop} (h : CallL P f args M lb lr K) (hK : ∀ v lb' lr' M', M.le M' → K v lb' lr' M' → K' v lb' lr' M') : CallL P f args M lb lr K' :=
  fun w hw => (h w hw).mono fun _ _ ⟨v, lb', lr', M', h1, h2, h3, h4, h5, h6⟩ => ⟨v, lb', lr', M', h1, h2, h3, h4, h5, hK v _ _ _ h2 h6⟩

def flag (b : Bool) (l : List Rw) : List Rw := l.map fun r => { r with own := b }

theorem enterL {P : Program} {f : FuncId} {fn : Func} {c : Code} {l : List Value} {M : Mem} {lb : List Bx} {lr : List Rw} {K : Value → List Bx → List Rw → Mem → Prop}
    (hf : P.funcs[f]? = some fn) (hb : fn.body = some c) (n : Nat) (hn : fn.ntmps = n) (hl : l.length ≤ n)
    (h : ∀ w a, Sx n w (blk lb lr) M w a (argEnv l 0) lb lr → Wp P c
      (fun a' w' => a'.defers = [] ∧ ∃ v, (results fn a'.tmps).run P w' = .ok v w' ∧ ∃ lb' lr' M', M.le M' ∧ MM M' M w ∧ Sy w (blk lb lr) M' w' lb' lr' ∧ lb'.map (·.b) = lb.map (·.b) ∧ K v lb' lr' M') []
      (fun a' w' => a'.defers = [] ∧ ∃ v, (results fn a'.tmps).run P w' = .ok v w' ∧ ∃ lb' lr' M', M.le M' ∧ MM M' M w ∧ Sy w (blk lb lr) M' w' lb' lr' ∧ lb'.map (·.b) = lb.map (·.b) ∧ K v lb' lr' M') (fun _ _ _ => False) a w) :
    CallL P f l.toArray M lb lr K := by
  intro w hw
  refine calls_of_wp hf hb ?_
  refine Code.wp_mono (fun e a' w' q => ?_) (h w _ (hw.sx ⟨rfl, ?_, fun x v hx => ?_⟩))
  · cases e with
    | normal => obtain ⟨h1, v, h2, lb', lr', M', h3⟩ := q; exact ⟨h1, v, h2, v, lb', lr', M', rfl, h3⟩
    | ret => obtain ⟨h1, v, h2, lb', lr', M', h3⟩ := q; exact ⟨h1, v, h2, v, lb', lr', M', rfl, h3⟩
    | _ => exact q.elim
  · simp [hn]; omega
  · obtain ⟨_, h2⟩ := lk_argEnv l 0 x v hx
    simp only [Nat.sub_zero] at h2
    have hx' : x < l.length := by
      rcases Nat.lt_or_ge x l.length with h' | h'
      · exact h'
      · rw [List.getElem?_eq_none h'] at h2; cases h2
    simp only [Array.getD_eq_getD_getElem?]
    rw [Array.getElem?_append_left (by simpa using hx')]
    simp [h2]

theorem leaveL {P : Program} {fn : Func} {n : Nat} {E : World} {lb : List Bx} {lr : List Rw} {M0 M : Mem} {w : World} {a : Act} {env : Env} {bs : List Bx} {rs : List Rw} {K : Value → List Bx → List Rw → Mem → Prop} {v : Value}
    (hs : Sx n E (blk lb lr) M w a env bs rs) (hr : (results fn a.tmps).run P w = .ok v w) (hL : M0.le M) (hM : MM M M0 E) (lb' : List Bx) (lr' : List Rw) (hb : lb'.Sublist bs) (hrr : lr'.Sublist rs) (he : lb'.map (·.b) = lb.map (·.b)) (hK : K v lb' lr' M) :
    a.defers = [] ∧ ∃ v, (results fn a.tmps).run P w = .ok v w ∧ ∃ lb' lr' M', M0.le M' ∧ MM M' M0 E ∧ Sy E (blk lb lr) M' w lb' lr' ∧ lb'.map (·.b) = lb.map (·.b) ∧ K v lb' lr' M' :=
  ⟨hs.ag.df, v, hr, lb', lr', M, hL, hM, ⟨hs.on, hs.pr, fun x hx => hs.bx x (hb.subset hx), fun r hx => hs.rw r (hrr.subset hx), hs.nd.sub hb hrr⟩, he, hK⟩

theorem ownBlock_lt {w : World} {e size n : Nat} {v : Value} {xs : List Value} (h : w.ownsRow 0 e size v n xs) {g : Nat} (hg : v.ownBlock = some g) : g < w.heap.size := (h.lt g hg).2

theorem ownsRow_keep {w w' : World} {e size n : Nat} {v : Value} {xs : List Value} (h : w.ownsRow 0 e size v n xs) (hk : ∀ g, v.ownBlock = some g → w'.heap[g]? = w.heap[g]?) : w'.ownsRow 0 e size v n xs := by
  refine ⟨h.1, ?_⟩
  rcases h.2 with hn | ⟨g, cap, cur, hv, hb, hg, r3⟩
  · exact .inl hn
  · exact .inr ⟨g, cap, cur, hv, hb, (hk g (by rw [hv]; rfl)).trans hg, r3⟩

section
variable {P : Program} {ops : Array Oper} {Q : Exit → Act → World → Prop} {n : Nat} {E : World} {bw : List Nat} {M : Mem} {w : World} {a : Act} {env : Env} {rest : List Oper}

theorem mem_blk {lb : List Bx} {lr : List Rw} {k : Nat} : k ∈ blk lb lr ↔ (∃ x ∈ lb, x.b = k) ∨ ∃ r ∈ lr, r.v.ownBlock = some k := by
  unfold blk
  simp only [List.mem_append, List.mem_map, List.mem_filterMap]

/-- Behind a call that was lent: the caller's frame again. -/
theorem Sx.back {bs : List Bx} {rs : List Rw} {lb lb' : List Bx} {lr lr' : List Rw} {fl : Bool} {M' : Mem} {w' : World} {a' : Act} {env' : Env} (hs : Sx n E bw M w a env (lb ++ bs) (flag fl lr ++ rs)) (hle : M.le M') (hMM : MM M' M w) (hy : Sy w (blk lb lr) M' w' lb' lr') (hbe : lb'.map (·.b) = lb.map (·.b)) (hA : Ag n a' env') :
    Sx n E bw M' w' a' env' (lb' ++ bs) (flag fl lr' ++ rs) := by
  have hlbE : ∀ x ∈ lb, E.heap.size ≤ x.b ∨ x.b ∈ bw := fun x hx => (hs.bx x (List.mem_append_left _ hx)).2.2
  have hlrE : ∀ r ∈ lr, ∀ g, r.v.ownBlock = some g → E.heap.size ≤ g ∨ (fl = false ∧ g ∈ bw) := fun r hr g hg => ((hs.rw { r with own := fl } (List.mem_append_left _ (List.mem_map.2 ⟨r, hr, rfl⟩))).2 g hg).2
  have hsz := hs.pr.size
  have hbsN : ∀ x ∈ bs, x.b ∉ blk lb lr := by
    intro x hx hm
    rcases mem_blk.1 hm with ⟨y, hy, e⟩ | ⟨r, hr, e⟩
    · have := hs.nd.b
      rw [List.map_append, List.nodup_append] at this
      exact this.2.2 y.b (List.mem_map.2 ⟨y, hy, rfl⟩) x.b (List.mem_map.2 ⟨x, hx, rfl⟩) e
    · exact hs.nd.x x (List.mem_append_right _ hx) { r with own := fl } (List.mem_append_left _ (List.mem_map.2 ⟨r, hr, rfl⟩)) e
  have hrsN : ∀ r ∈ rs, ∀ g, r.v.ownBlock = some g → g ∉ blk lb lr := by
    intro r hr g hg hm
    rcases mem_blk.1 hm with ⟨y, hy, e⟩ | ⟨q, hq, e⟩
    · subst e; exact hs.nd.x y (List.mem_append_left _ hy) r (List.mem_append_right _ hr) hg
    · have := List.pairwise_append.1 hs.nd.r
      exact this.2.2 { q with own := fl } (List.mem_map.2 ⟨q, hq, rfl⟩) r hr g e hg
  have hlb' : ∀ x ∈ lb', ∃ y ∈ lb, y.b = x.b := by
    intro x hx
    have : x.b ∈ lb.map (·.b) := by rw [← hbe]; exact List.mem_map.2 ⟨x, hx, rfl⟩
    obtain ⟨y, hy, e⟩ := List.mem_map.1 this
    exact ⟨y, hy, e⟩
  have hlr' : ∀ r ∈ lr', ∀ g, r.v.ownBlock = some g → w.heap.size ≤ g ∨ g ∈ blk lb lr := fun r hr g hg => ((hy.rw r hr).2 g hg).2.imp id (·.2)
  refine ⟨hA, hy.on, ?_, fun x hx => ?_, fun r hr => ?_, ?_, fun x hx r hr => ?_, ?_⟩
  · obtain ⟨p1, p2, p3, p4, p5⟩ := hs.pr
    obtain ⟨q1, q2, q3, q4, q5⟩ := hy.pr
    refine ⟨q1.trans p1, q2.trans p2, q3.trans p3, Nat.le_trans p4 q4, fun k hk hn => ?_⟩
    rw [q5 k (by omega) (fun hm => ?_)]
    · exact p5 k hk hn
    · rcases mem_blk.1 hm with ⟨y, hy, e⟩ | ⟨q, hq, e⟩
      · subst e
        rcases hlbE y hy with h | h
        · omega
        · exact hn h
      · rcases hlrE q hq k e with h | h
        · omega
        · exact hn h.2
  · rcases List.mem_append.1 hx with hx | hx
    · obtain ⟨h1, h2, _⟩ := hy.bx x hx
      obtain ⟨y, hyl, e⟩ := hlb' x hx
      exact ⟨h1, h2, e ▸ hlbE y hyl⟩
    · obtain ⟨h1, h2, h3⟩ := hs.bx x (List.mem_append_right _ hx)
      refine ⟨(hy.pr.block _ h1.lt (hbsN x hx)).trans h1, ?_, h3⟩
      cases hm : M' x.b with
      | none => rfl
      | some o =>
        rcases hMM _ _ hm with h | h
        · rw [h2] at h; cases h
        · have := h1.lt; omega
  · rcases List.mem_append.1 hr with hr | hr
    · obtain ⟨q, hq, rfl⟩ := List.mem_map.1 hr
      obtain ⟨h1, h2⟩ := hy.rw q hq
      refine ⟨h1, fun g hg => ⟨(h2 g hg).1, ?_⟩⟩
      rcases hlr' q hq g hg with h | h
      · left; omega
      · rcases mem_blk.1 h with ⟨y, hyl, e⟩ | ⟨q', hq', e⟩
        · exfalso
          have : y.b ∈ lb'.map (·.b) := by rw [hbe]; exact List.mem_map.2 ⟨y, hyl, rfl⟩
          obtain ⟨z, hz, ez⟩ := List.mem_map.1 this
          exact hy.nd.x z hz q hq (by rw [ez, e]; exact hg)
        · exact hlrE q' hq' g e
    · obtain ⟨h1, h2⟩ := hs.rw r (List.mem_append_right _ hr)
      refine ⟨ownsRow_keep h1 fun g hg => hy.pr.block g (ownBlock_lt h1 hg) (hrsN r hr g hg), fun g hg => ⟨?_, (h2 g hg).2⟩⟩
      cases hm : M' g with
      | none => rfl
      | some o =>
        rcases hMM _ _ hm with h | h
        · rw [(h2 g hg).1] at h; cases h
        · have := ownBlock_lt h1 hg; omega
  · have := hs.nd.b
    rw [List.map_append] at this ⊢
    rw [hbe]
    exact this
  · rcases List.mem_append.1 hx with hx | hx <;> rcases List.mem_append.1 hr with hr | hr
    · obtain ⟨q, hq, rfl⟩ := List.mem_map.1 hr
      exact hy.nd.x x hx q hq
    · obtain ⟨y, hyl, e⟩ := hlb' x hx
      rw [← e]
      exact hs.nd.x y (List.mem_append_left _ hyl) r (List.mem_append_right _ hr)
    · obtain ⟨q, hq, rfl⟩ := List.mem_map.1 hr
      intro hg
      have hxl := (hs.bx x (List.mem_append_right _ hx)).1.lt
      rcases hlr' q hq _ hg with h | h
      · omega
      · exact hbsN x hx h
    · exact hs.nd.x x (List.mem_append_right _ hx) r (List.mem_append_right _ hr)
  · refine List.pairwise_append.2 ⟨?_, (List.pairwise_append.1 hs.nd.r).2.1, ?_⟩
    · exact List.pairwise_map.2 hy.nd.r
    · intro r hr s hs' g hg hg'
      obtain ⟨q, hq, rfl⟩ := List.mem_map.1 hr
      have hsl := ownBlock_lt (hs.rw s (List.mem_append_right _ hs')).1 hg'
      rcases hlr' q hq g hg with h | h
      · omega
      · exact hrsN s hs' g hg' h

/-- What the callee is handed: a frame of its own. -/
theorem Sx.lend {bs : List Bx} {rs : List Rw} {lb : List Bx} {lr : List Rw} {fl : Bool} (hs : Sx n E bw M w a env (lb ++ bs) (flag fl lr ++ rs)) (hf : lr = flag false lr) : Sy w (blk lb lr) M w lb lr := by
  refine ⟨hs.on, Pres.refl _ _, fun x hx => ?_, fun r hr => ?_, ?_, fun x hx r hr => ?_, ?_⟩
  · obtain ⟨h1, h2, _⟩ := hs.bx x (List.mem_append_left _ hx)
    exact ⟨h1, h2, .inr (mem_blk.2 (.inl ⟨x, hx, rfl⟩))⟩
  · obtain ⟨h1, h2⟩ := hs.rw { r with own := fl } (List.mem_append_left _ (List.mem_map.2 ⟨r, hr, rfl⟩))
    refine ⟨h1, fun g hg => ⟨(h2 g hg).1, .inr ⟨?_, mem_blk.2 (.inr ⟨r, hr, hg⟩)⟩⟩⟩
    rw [hf] at hr
    obtain ⟨q, _, rfl⟩ := List.mem_map.1 hr
    rfl
  · have := hs.nd.b
    rw [List.map_append, List.nodup_append] at this
    exact this.1
  · exact hs.nd.x x (List.mem_append_left _ hx) { r with own := fl } (List.mem_append_left _ (List.mem_map.2 ⟨r, hr, rfl⟩))
  · have := (List.pairwise_append.1 hs.nd.r).1
    exact List.pairwise_map.1 this

/-- A call that is lent boxes and rows. -/
theorem stepCallL {d f : Nat} {ty : TypeId} {c : Call} {pos : String} {af : Array Edge} {fn : Func} {K : Value → List Bx → List Rw → Mem → Prop} {first caps : Array Value} {bs0 : List Bx} {rs0 : List Rw} (args : List Value) (lb bs : List Bx) (lr rs : List Rw) (fl : Bool) (hs : Sx n E bw M w a env bs0 rs0)
    (hbs : bs0 = lb ++ bs) (hrs : rs0 = flag fl lr ++ rs) (hfl : lr = flag false lr)
    (hk : okOp env ⟨some d, .call c, ty, pos, af, none⟩ = true) (hcal : ∃ x, c.callee = .value x ∧ evT env x = .func (.func f) first caps) (hargs : first.toList ++ c.args.toList.map (evT env) ++ caps.toList = args) (hf : P.funcs[f]? = some fn) (hbody : fn.body.isNone = false) (hname : (fn.name == "runtime.NumGoroutine") = false) (hdn : d < n)
    (hc : CallL P f args.toArray M lb lr K)
    (h : ∀ a' w' M' v lb' lr', M.le M' → (∀ b o, M' b = some o → M b = some o ∨ E.heap.size ≤ b) → K v lb' lr' M' → Sx n E bw M' w' a' ((d, v) :: env) (lb' ++ bs) (flag fl lr' ++ rs) → wpList P ops Q rest a' w') : wpList P ops Q (⟨some d, .call c, ty, pos, af, none⟩ :: rest) a w := by
  subst hbs
  subst hrs
  refine stepK (Z := fun _ _ => False) (d := d) hs (fun _ _ h => h.elim) rfl hk rfl hdn ?_
  unfold OpW
  rw [run_call args hcal hargs hf hbody hname]
  refine (hc w (hs.lend hfl)).mono fun e w' ⟨v, lb', lr', M', he, hle, hMM, hy, hbe, hK⟩ => ?_
  subst he
  intro a' hA
  refine h a' w' M' v lb' lr' hle (fun b o hb => (hMM b o hb).imp id fun h => Nat.le_trans hs.pr.size h) hK (hs.back hle hMM hy hbe hA)
end

section
variable {n : Nat} {E : World} {bw : List Nat} {M : Mem} {w : World} {a : Act} {env : Env} {bs : List Bx} {rs : List Rw}

theorem Nd.perm {bs bs' : List Bx} {rs rs' : List Rw} (h : Nd bs rs) (hb : bs.Perm bs') (hr : rs.Perm rs') : Nd bs' rs' :=
  ⟨(hb.map _).nodup_iff.1 h.b, fun x hx r hr' => h.x x (hb.mem_iff.2 hx) r (hr.mem_iff.2 hr'), (List.Perm.pairwise_iff (fun h g hg hg' => h g hg' hg) hr).1 h.r⟩

theorem Sx.perm {bs' : List Bx} {rs' : List Rw} (h : Sx n E bw M w a env bs rs) (hb : bs.Perm bs') (hr : rs.Perm rs') : Sx n E bw M w a env bs' rs' :=
  ⟨h.ag, h.on, h.pr, fun x hx => h.bx x (hb.mem_iff.2 hx), fun r hx => h.rw r (hr.mem_iff.2 hx), h.nd.perm hb hr⟩

theorem perm_front {α : Type} : ∀ (l : List α) (i : Nat) (x : α), l[i]? = some x → l.Perm (x :: l.eraseIdx i)
  | [], i, x, h => by simp at h
  | y :: r, 0, x, h => by simp at h; subst h; exact List.Perm.refl _
  | y :: r, i + 1, x, h => by
    simp only [List.getElem?_cons_succ] at h
    simp only [List.eraseIdx_cons_succ]
    exact (List.Perm.cons y (perm_front r i x h)).trans (List.Perm.swap x y _)

/-- Box i comes to the front. -/
theorem Sx.bfront (h : Sx n E bw M w a env bs rs) (i : Nat) {x : Bx} (hi : bs[i]? = some x) {l : List Bx} (hl : bs.eraseIdx i = l) : Sx n E bw M w a env (x :: l) rs := by
  subst hl; exact h.perm (perm_front bs i x hi) (List.Perm.refl _)
theorem Sx.rfront (h : Sx n E bw M w a env bs rs) (i : Nat) {x : Rw} (hi : rs[i]? = some x) {l : List Rw} (hl : rs.eraseIdx i = l) : Sx n E bw M w a env bs (x :: l) := by
  subst hl; exact h.perm (List.Perm.refl _) (perm_front rs i x hi)

theorem perm_back {α : Type} : ∀ (l : List α) (i : Nat) (x : α), i ≤ l.length → (x :: l).Perm (l.insertIdx i x)
  | l, 0, x, _ => by simp
  | [], i + 1, x, h => by simp at h
  | y :: r, i + 1, x, h => by
    rw [List.insertIdx_succ_cons]
    exact (List.Perm.swap y x r).trans (List.Perm.cons y (perm_back r i x (by simpa using h)))
theorem insert_le {α : Type} {l l' : List α} {i : Nat} {x : α} (h : l.insertIdx i x = l') (hl : l'.length = l.length + 1) : i ≤ l.length := by
  rcases Nat.lt_or_ge l.length i with h' | h'
  · rw [List.insertIdx_of_length_lt h'] at h
    subst h; omega
  · exact h'
theorem Sx.bback {x : Bx} {l : List Bx} (h : Sx n E bw M w a env (x :: l) rs) (i : Nat) {l' : List Bx} (hl : l.insertIdx i x = l') (hn : l'.length = l.length + 1 := by rfl) : Sx n E bw M w a env l' rs := by
  have := insert_le hl hn
  subst hl; exact h.perm (perm_back l i x this) (List.Perm.refl _)
/-- A box of the call's own becomes visible. -/
theorem Sx.freeze (hs : Sx n E bw M w a env bs rs) (i : Nat) {b : Nat} {t : TypeId} {cs : List Value} (hi : bs[i]? = some ⟨b, t, cs⟩) (hE : E.heap.size ≤ b) {l : List Bx} (hl : bs.eraseIdx i = l) :
    ∃ M', M.le M' ∧ At M' b 0 cs ∧ (∀ k o, M' k = some o → M k = some o ∨ E.heap.size ≤ k) ∧ Sx n E bw M' w a env l rs := by
  have hs' := hs.bfront i hi hl
  obtain ⟨hb1, hb2, _⟩ := hs'.bx ⟨b, t, cs⟩ (by simp)
  have hother : ∀ x ∈ l, x.b ≠ b := by
    intro x hx e
    have := hs'.nd.b
    rw [List.map_cons, List.nodup_cons] at this
    exact this.1 (List.mem_map.2 ⟨x, hx, e⟩)
  refine ⟨fun k => if k = b then w.heap[b]? else M k, fun k o hk => ?_, fun j v hj => ?_, fun k o hk => ?_, hs'.ag, fun k o hk => ?_, hs'.pr, fun x hx => ?_, fun r hr => ?_, hs'.nd.sub (List.sublist_cons_self _ _) (List.Sublist.refl _)⟩
  · show (if k = b then w.heap[b]? else M k) = some o
    rw [if_neg (by rintro rfl; simp only at hb2; rw [hb2] at hk; cases hk)]; exact hk
  · unfold Mem.cell
    simp only [if_true]
    have : w.heap[b]? = some (.cells cs.toArray t (0, 0)) := hb1
    rw [this]
    simpa using hj
  · change (if k = b then w.heap[b]? else M k) = some o at hk
    by_cases e : k = b
    · exact .inr (e ▸ hE)
    · rw [if_neg e] at hk; exact .inl hk
  · change (if k = b then w.heap[b]? else M k) = some o at hk
    by_cases e : k = b
    · rw [if_pos e] at hk; rw [e]; exact hk
    · rw [if_neg e] at hk; exact hs'.on k o hk
  · obtain ⟨h1, h2, h3⟩ := hs'.bx x (by simp [hx])
    refine ⟨h1, ?_, h3⟩
    show (if x.b = b then w.heap[b]? else M x.b) = none
    rw [if_neg (hother x hx)]; exact h2
  · obtain ⟨h1, h2⟩ := hs'.rw r hr
    refine ⟨h1, fun g hg => ⟨?_, (h2 g hg).2⟩⟩
    show (if g = b then w.heap[b]? else M g) = none
    rw [if_neg (by rintro rfl; exact hs'.nd.x ⟨g, t, cs⟩ (by simp) r hr hg)]
    exact (h2 g hg).1
end

/-! ### Function values -/

/-- A call of a function value. -/
def CallF (P : Program) (fv : Value) (args : List Value) (M : Mem) (K : Value → Mem → Prop) : Prop :=
  ∃ f fn first caps, fv = .func (.func f) first caps ∧ P.funcs[f]? = some fn ∧ fn.body.isNone = false ∧ (fn.name == "runtime.NumGoroutine") = false ∧ CallE P f (first.toList ++ args ++ caps.toList).toArray M K

theorem CallF.mono {P : Program} {fv : Value} {args : List Value} {M : Mem} {K K' : Value → Mem → Prop} (h : CallF P fv args M K) (hK : ∀ v M', M.le M' → K v M' → K' v M') : CallF P fv args M K' := by
  obtain ⟨f, fn, first, caps, h1, h2, h3, h4, h5⟩ := h
  exact ⟨f, fn, first, caps, h1, h2, h3, h4, h5.mono hK⟩

section
variable {P : Program} {ops : Array Oper} {Q : Exit → Act → World → Prop} {n : Nat} {E : World} {bw : List Nat} {M : Mem} {w : World} {a : Act} {env : Env} {bs : List Bx} {rs : List Rw} {rest : List Oper}

end

end Go.Gx
