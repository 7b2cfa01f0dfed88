/- For every input TopDesk answers true and leaves its arguments as they were. No condition. -/
import Derived.Lib.LaidU8
import Derived.LaidLaws
import Derived.Shelf.Vars
import Derived.Test.YtleaplmdgckmkaaGreatDoorM5
import Derived.Test.YtleaplmdgckmkaaGreatDoorTopDeskT
import Derived.Test.YtleaplmdgckmkaaGreatDoorM8
namespace Go.Proofs.YtleaplmdgckmkaaGreatDoor.lawTopDesk
open Go.Gx Go.RowKit Go.ChangeShapes Go.WideShapes Go.ChangeAt
open core
set_option linter.unusedVariables false
theorem quk {H : Type} {enc : TypeId × Value → H} {w : World} : ∀ (n B : Nat) (x : qaa), qfl enc w n B x → ∃ e, ExR (HM w) e x := by
 intro n
 induction n using Nat.strongRecOn with
 | _ n ih =>
  intro B x hx
  obtain ⟨b6, h1, h2, h3, h4, h5, h6, h7, _⟩ := hx
  obtain ⟨xs, bs, hsl, hl, hm, hall, _⟩ := qmp h7
  obtain ⟨es, hes⟩ := qcX.choose (R := ExR (HM w)) xs fun y hy => by
   obtain ⟨b, k, hk, hin⟩ := hall.left y hy
   exact ih k hk b y hin
  have hle := hes.length
  obtain ⟨k, s, t, A, l, c⟩ := x
  have : l = es.length := by rw [← hle]; exact hl.symm
  subst this
  exact ⟨.mk k s t es, .mk h1 ⟨h2, h3, h4, h5⟩ h6 hsl hle fun i e x he hx => hes.get' he hx⟩
theorem qui {H : Type} {enc : TypeId × Value → H} {w : World} {n B : Nat} {A : Option Addr} {l c : Nat} (h : qje enc w n B ⟨A, l, c⟩) : ∃ rs, GrR (HM w) rs A l c := by
 obtain ⟨xs, bs, hsl, hl, hm, hall, _⟩ := qmo h
 obtain ⟨rs, hrs⟩ := qcX.choose (R := RuR (HM w)) xs fun y hy => by
  obtain ⟨b, k, hk, hin⟩ := hall.left y hy
  obtain ⟨b7, h1, h2, h3, h4, h5, h6, h7, h8, _⟩ := hin
  obtain ⟨e, he⟩ := quk k _ y.Body ⟨b7, h2, h3, h4, h5, h6, h7, h8, Nat.le_refl _⟩
  exact ⟨⟨y.Name, e⟩, rfl, h1, he⟩
 have := hrs.length
 simp only at hl
 exact ⟨rs, xs, hsl, hrs, by omega⟩
theorem qmz {P : Program} {W : World} {name : String} {g : Nat} {cs : Array Value} (hg : P.globalNamed name = some g) (h : W.var? P name = some cs) : ∃ e f, HM W g = some (.cells cs e f) := by
 unfold World.var? at h
 rw [hg] at h
 simp only [Option.bind_some] at h
 split at h
 ·rename_i c e f hq
  cases h
  exact ⟨e, f, hq⟩
 ·cases h
theorem qq5 : (Rows.laid_internal_strconv_uint64pow10 : DataW Unit) = Lib.tabData .u64 Lib.pow10Tab := by kernel_rfl
theorem qtp {W : World} (h : Lib.VarReads Tryz.prog W "internal/strconv.uint64pow10" Rows.laid_internal_strconv_uint64pow10) : ∃ e f, HM W 3 = some (.cells (Lib.pow10Tab.map fun z => Value.int .u64 z).toArray e f) := by
 obtain ⟨g, t, cs, fuel, p, hg, hty, hvar, hd⟩ := h
 obtain rfl := Option.some.inj ((show Tryz.prog.globalNamed "internal/strconv.uint64pow10" = some 3 by kernel_rfl).symm.trans hg)
 obtain rfl := Option.some.inj ((show (Tryz.prog.globals[3]?).map (·.type) = some 245 by kernel_rfl).symm.trans hty)
 rw [qq5] at hd
 have hcs := Lib.cells_of_tab (n := 20) (e := 45) (by kernel_rfl) (by kernel_rfl) (by kernel_rfl) (by kernel_rfl) hd
 obtain ⟨e, f, q⟩ := qmz hg hvar
 refine ⟨e, f, ?_⟩
 rw [q, ← hcs]
theorem qtx {W : World} (h : W.ShapedOpen Tryz.prog) : ∃ m, (HM W).cell 0 0 = some (.int .i64 m) := by
 obtain ⟨m, hm⟩ := cell_of_shapedOpen_int (P := Tryz.prog) (g := 0) (t := 3) (zero := #[.int .i64 0]) h (of_decide_eq_true (by kernel_rfl)) (by kernel_rfl) rfl (by kernel_rfl) (by kernel_rfl) Tryz.underlying3
 exact ⟨m, HM.cell hm⟩
theorem walk : qkG := by
 intro H enc W x n0 B0 hin s hs hL hsh
 have hN : core.qfU (HM W) := ⟨qtp (Lib.laidMet.reads hL (by simp [Rows.topDeskRow])), qtx hsh⟩
 have hT := core.qsl (Lib.laidMet.reads hL (by simp [Rows.topDeskRow]))
 clear hL hsh
 obtain ⟨rs, hg⟩ := qui (A := x.a) (l := x.l) (c := x.c) hin
 refine qg3 _ _ _ _ _ _ ?_
 generalize HM W = M at *
 have hbeg : qaf Tryz.prog 6 #[] M (fun v _ => ∃ (x12 : Bool), v = (Value.bool x12) ∧ (fun v => v = Value.bool true) (Value.bool x12)) := core.qfo _ _ (core.qnG _ ⟨true, rfl, rfl⟩)
 have J1t : ∀ x6 x8 x9, qap x.a x.l x.c s M x6 x8 x9 true (fun v => v = Value.bool true) := fun x6 x8 x9 => ⟨fun _ => hbeg, fun g => absurd rfl g⟩
 have rest : ∀ x6 x7, (x7 = 0 → core.qaZ rs = 0 ∧ x6 = core.qeD rs) → qaf Tryz.prog 5 #[(.agg #[(.slice x.a x.l x.c)])] M (fun v _ => ∃ (x8 : Int) (x9 : Int), v = (Value.tuple #[(.int .i64 x8), (.int .i64 x9)]) ∧ (qaf Tryz.prog 6 #[] M (fun v _ => ∃ (x10 : Bool), v = (Value.bool x10) ∧ ((¬ (x10 = true) → (qap x.a x.l x.c s M x6 x8 x9 true (fun v => v = Value.bool true))) ∧ (¬ (¬ (x10 = true)) → (((x7 : Int) ≠ 0 → (qap x.a x.l x.c s M x6 x8 x9 true (fun v => v = Value.bool true))) ∧ (¬ ((x7 : Int) ≠ 0) → ((((x6.length : Nat) : Int) > 1900 → (qap x.a x.l x.c s M x6 x8 x9 true (fun v => v = Value.bool true))) ∧ (¬ (((x6.length : Nat) : Int) > 1900) → (qap x.a x.l x.c s M x6 x8 x9 (decide (((s.length : Nat) : Int) > 60)) (fun v => v = Value.bool true))))))))))) := fun x6 x7 h67 => by
  refine core.qeZ _ _ _ _ _ (core.qih hg _ ⟨_, _, rfl, core.qfo _ _ (core.qnG _ ⟨true, rfl, fun g => absurd rfl g, fun _ => ⟨fun _ => J1t _ _ _, fun h7 => ⟨fun _ => J1t _ _ _, fun h19 => ?_⟩⟩⟩)⟩)
  obtain ⟨hg0, rfl⟩ := h67 (Decidable.not_not.1 h7)
  by_cases h60 : ((s.length : Nat) : Int) > 60
  ·rw [decide_eq_true h60]; exact J1t _ _ _
  ·rw [decide_eq_false h60]
   refine ⟨fun g => absurd g (by decide), fun _ => ?_⟩
   have hok := core.qi0 hg0
   have h10 := hok.ten
   have hone := hok.one
   have hne : rs ≠ [] := fun e => by rw [e] at hone; simp at hone
   have hgl : core.grL rs ≠ [] := fun e => hne (List.map_eq_nil_iff.1 e)
   have hgn : (core.grL rs).length = rs.length := by simp [core.grL]
   have hall : ∀ r ∈ rs, core.qc2 r.name = true ∧ core.qgK r.body := fun r hr => ⟨hok.name r hr, core.qgK.of (hok.err r hr)⟩
   have hwf : ∀ r ∈ rs, core.WfE r.body := fun r hr => by
    obtain ⟨i, hi⟩ := List.getElem?_of_mem hr
    have hil := (List.getElem?_eq_some_iff.1 hi).1
    obtain ⟨r', y, b, o, g1, g2, g3, g4, g5, g6⟩ := hg.at (i := (i : Int)) (by omega) (by rw [hg.len]; omega)
    rw [Int.toNat_natCast, hi] at g1
    obtain rfl := Option.some.inj g1
    exact g6.wfE
   have hl19 : (core.qeD rs).length ≤ 1900 := by omega
   have hs60 : s.length ≤ 60 := by omega
   have hrd := core.qow hok hg0 hwf hne (by omega)
   have hll := core.qf5 s
   have hlm := core.qls (core.grL rs)
   rw [← core.qe5, hgn] at hlm
   refine core.qd3 _ _ _ (core.qiR s (by omega) _ _ ⟨_, rfl, ?_⟩)
   refine core.qgW _ _ _ _ (core.qlR (core.qdV s) 32 M _ ⟨_, rfl, fun _ => rfl, fun g => ?_⟩)
   have h4 : (32 : UInt8) ∉ core.qdV s := by simpa using g
   refine (core.qtg (by omega)).mono fun v M2 _ hv => ⟨_, hv, ?_⟩
   have hjl : core.qeD rs = core.qlt (core.grL rs) ++ [10] := by rw [core.qe5, core.qjQ hgl]
   have hjn : (core.qlt (core.grL rs)).length ≤ 1900 := by rw [hjl, List.length_append] at hl19; omega
   rw [hjl, core.qn4, ← hjl]
   refine (core.qpk hN (by omega)).mono fun v M19 hle ⟨A, hv, hsl⟩ => ?_
   rw [core.qmZ hgl (core.qtK hall)] at hv hsl
   have hN' := hN.le hle
   have hT' := hT.le hle
   have hg' := hg.le hle
   have htl : ∀ k, (core.qaN (((core.grL rs).map ([114, 117, 108, 101, 32] ++ ·)).take k)).length ≤ 2000 := fun k => by
    have := core.qj6 ((core.grL rs).map ([114, 117, 108, 101, 32] ++ ·)) k
    omega
   refine ⟨A, _, _, hv, fun lines i => ∃ k : Nat, i = k ∧ k ≤ (core.grL rs).length ∧ lines = core.qaN (((core.grL rs).map ([114, 117, 108, 101, 32] ++ ·)).take k), fun _ i => (core.grL rs).length - i.toNat, ⟨0, rfl, by omega, rfl⟩, fun lines i ⟨k, hi, hk, hli⟩ => ⟨fun hlt => ?_, fun hge => ?_⟩⟩
   ·subst hi
    have hk2 : k < (core.grL rs).length := by omega
    obtain ⟨b, o, rfl, hat⟩ := hsl.2.2.2 (by omega)
    obtain ⟨r, hr⟩ : ∃ r, (core.grL rs)[k]? = some r := ⟨_, List.getElem?_eq_getElem hk2⟩
    have hr2 : ((core.grL rs).map ([114, 117, 108, 101, 32] ++ ·))[k]? = some ([114, 117, 108, 101, 32] ++ r) := by rw [List.getElem?_map, hr]; rfl
    have htk := core.qiu hr2
    have hl1 := htl (k + 1)
    have hl0 := htl k
    rw [htk] at hl1
    simp only [List.length_append, List.length_cons, List.length_nil] at hl1
    refine ⟨b, o, rfl, by omega, hlt, r, fun q v hq => ?_, by simp only [List.length_cons, List.length_nil]; omega, by simp only [List.length_append, List.length_cons, List.length_nil]; omega, by rw [hli]; simp only [List.length_append, List.length_cons, List.length_nil]; omega, by unfold InI; omega, ⟨k + 1, by omega, by omega, ?_⟩, by dsimp only; omega⟩
    ·have : q = 0 := by
      cases q with
      | zero => rfl
      | succ q => simp at hq
     subst this
     have := hat k v (by unfold qec; rw [List.getElem?_map, hr]; simpa using hq)
     rw [Int.toNat_natCast, Nat.mul_one]; exact this
    ·rw [htk, hli]; simp only [List.append_assoc]
   ·subst hi
    have hkk : k = (core.grL rs).length := by omega
    have hle2 := htl k
    rw [← hli] at hle2
    have hlines : lines = core.qaN ((core.grL rs).map ([114, 117, 108, 101, 32] ++ ·)) := by rw [hli, hkk, List.take_of_length_le (by simp)]
    have hxl : x.l = rs.length := hg.len
    refine ⟨by simp only [List.length_cons, List.length_nil]; omega, by simp only [List.length_append, List.length_cons, List.length_nil]; omega, by simp only [List.length_append, List.length_cons, List.length_nil]; omega, ?_⟩
    rw [hlines, core.qn9, hxl]
    rw [hxl] at hg'
    have hrep : ∀ M', core.qfU M' → qaf Tryz.prog 12 #[.string (mkS [111, 107, 10]), .int .i64 ((rs.length : Nat) : Int)] M' (fun v _ => v = .string (mkS (Lib.repeatL [111, 107, 10] rs.length))) := fun M' _ => core.qss (by omega) (by simp only [List.length_cons, List.length_nil]; omega)
    have hrl := Lib.repeatL_length [111, 107, 10] rs.length
    simp only [List.length_cons, List.length_nil] at hrl
    have hwlen : (core.qoP rs).length = rs.length := (core.qii rs).len
    obtain ⟨hI1, hI2⟩ := core.qsf hg0 h10 hwlen
    by_cases he : (core.qdY rs).2 = 0
    ·have hk0 : core.qfL rs s = 0 := by unfold core.qfL; rw [if_neg (fun g => g he), if_neg h60]
     obtain ⟨hw, _⟩ := core.qmu hk0
     obtain ⟨E0, hE0⟩ := core.qpb (s := s) hw
     have ho : ∀ E, core.Tab rs s E → core.qhE (E 0 0) 0 = core.qhE (E0 0 0) 0 := fun E hE => by rw [core.qmW hw hE hE0 (Nat.zero_le _) hone]
     have hoI : InI (core.qhE (E0 0 0) 0).N := by
      have hlen := (core.qin rs).len
      obtain ⟨f, hf⟩ : ∃ f, (core.qc3 rs)[0]? = some f := ⟨_, List.getElem?_eq_getElem (by omega)⟩
      have := (hE0.ok.val 0 0 f (Nat.zero_le _) hf).pos (by omega) (by omega)
      unfold core.qhE InI
      split
      ·dsimp only; omega
      ·dsimp only; omega
     generalize core.qhE (E0 0 0) 0 = o at ho hoI
     have hsz : core.ql1 rs ≤ 120 := hok.all
     have i1 := core.qbE (z := ((core.ql1 rs : Nat) : Int)) (by unfold InI; omega)
     have i2 := core.qbE hoI
     have i3 := core.qf5 (core.qeD rs)
     refine core.qjV _ _ _ (core.qqg hN' hT' hall hl19 (by omega) hs60 h4 hrd hg0 (core.qoV he) (by omega) hk0 ho hoI fun M' => ⟨_, rfl, (hrep M19 hN').mono fun v M3 _ hv => ⟨_, hv, fun g => absurd he g, fun _ => ?_⟩⟩)
     refine core.qhZ _ _ _ _ _ (core.qlw hg' _ (fun g => absurd hg0 g) fun _ => ⟨_, _, rfl, ?_⟩)
     refine core.qhQ _ _ _ _ _ _ (core.qmn hg' (fun g => absurd hk0 g) fun _ E hE t hgo M43 la lc hle3 hsl3 => ⟨_, la, _, lc, 0, rfl, ?_⟩)
     rw [ho E hE]
     have hN3 := hN'.le hle3
     refine (core.qhf hN3 (by unfold InI; omega)).mono fun v M4 _ hv => ⟨_, hv, by simp only [List.length_cons, List.length_nil]; omega, by simp only [List.length_append, List.length_cons, List.length_nil]; omega, by simp only [List.length_append, List.length_cons, List.length_nil]; omega, fun hok' => ?_, fun hno => ?_⟩
     ·refine (core.qhf hN3 hoI).mono fun v M5 _ hv => ⟨_, hv, by simp only [List.length_cons, List.length_nil]; omega, by simp only [List.length_append, List.length_cons, List.length_nil]; omega, by simp only [List.length_append, List.length_cons, List.length_nil]; omega, fun _ => core.qd3 _ _ _ (core.qiR _ (by omega) _ _ ⟨_, rfl, by simp only [List.length_append, List.length_cons, List.length_nil]; omega, by simp only [List.length_append, List.length_cons, List.length_nil]; omega, ?_⟩), fun g => absurd rfl g⟩
      rw [core.qlh]
      unfold core.qiS
      rw [if_pos hok']
      simp
     ·refine ⟨by simp only [List.length_append, List.length_cons, List.length_nil]; omega, fun _ => core.qd3 _ _ _ (core.qiR _ (by omega) _ _ ⟨_, rfl, by simp only [List.length_append, List.length_cons, List.length_nil]; omega, by simp only [List.length_append, List.length_cons, List.length_nil]; omega, ?_⟩), fun g => absurd rfl g⟩
      rw [core.qlh]
      unfold core.qiS
      rw [if_neg hno]
      simp
    ·have i1 := core.qbE hI1
     have i2 := core.qbE hI2
     refine core.qjV _ _ _ (core.qrw (r := (core.qdY rs).1) (e := (core.qdY rs).2) hN' hall hl19 (by omega) hs60 h4 hrd rfl he hI2 hI1 fun M' => ⟨_, rfl, (hrep M19 hN').mono fun v M3 _ hv => ⟨_, hv, fun _ => ⟨by simp only [List.length_cons, List.length_nil]; omega, (core.qhf hN' hI2).mono fun v M4 _ hv => ⟨_, hv, by simp only [List.length_append, List.length_cons, List.length_nil]; omega, by simp only [List.length_append, List.length_cons, List.length_nil]; omega, (core.qhf hN' hI1).mono fun v M5 _ hv => ⟨_, hv, by simp only [List.length_append, List.length_cons, List.length_nil]; omega, by simp only [List.length_append, List.length_cons, List.length_nil]; omega, ?_⟩⟩⟩, fun g => absurd he g⟩⟩)
     rw [core.qq6]
     simp
 refine core.qhY _ _ _ _ _ (core.qlv hg hT _ (fun h => ⟨_, _, rfl, rest _ _ fun g => absurd g h⟩) fun h => ⟨_, _, rfl, rest _ _ fun _ => ⟨h, rfl⟩⟩)
theorem holds : Rows.TopDeskCardSaid := card (top walk)
#print axioms holds
end Go.Proofs.YtleaplmdgckmkaaGreatDoor.lawTopDesk
