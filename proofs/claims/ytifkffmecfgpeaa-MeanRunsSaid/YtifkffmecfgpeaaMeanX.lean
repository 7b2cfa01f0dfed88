/- Contracts of functions: what each answers at every input that its caller may hand it. No condition. -/
import Derived.Test.YtifkffmecfgpeaaMeanG
import Derived.Test.YtifkffmecfgpeaaEv2X
namespace Go.Proofs.Ytifkffmecfgpeaa.core
open Go.Gx Go.RowKit Go.ChangeShapes Go.WideShapes Go.ChangeAt
/-! ### Step by step -/

/-- What a run of r and c leaves: enough steps, or too few. -/
def RunK (K : Value → Int → Bool → Mem → Prop) (M : Mem) (left r : Int) (c : Nat) : Prop :=
  (c ≤ left → ∀ M' t, M.le M' → (0 ≤ r → t = r) → K (.tuple #[.int .i64 t, .bool (decide (0 ≤ r))]) (left - c) false M') ∧
  (left < c → ∀ M' t, M.le M' → K (.tuple #[.int .i64 t, .bool false]) 0 true M')
def AgainK (K : Value → Int → Bool → Mem → Prop) (M : Mem) (left r : Int) (c : Nat) : Prop :=
  (c ≤ left → ∀ M', M.le M' → K (.int .i64 r) (left - c) false M') ∧ (left < c → ∀ M' t, M.le M' → K (.int .i64 t) 0 true M')

theorem staV_flag {f : Int → Rc} {q q' : Bool} : ∀ (m : Nat) (p : Int) (fi fi' : Bool), (fi && q) = (fi' && q') → staV f q m p fi = staV f q' m p fi'
  | 0, _, _, _, _ => rfl
  | m + 1, p, fi, fi', h => by
    rw [staV, staV, h]
    congr 1
    funext x
    split
    · rfl
    · rw [staV_flag (q := q) (q' := q') m x.1 false false rfl]
theorem ev_pos {rs : List Ru} {s : List UInt8} {m : Nat} {e : Ex} {p : Int} {x : Int × Nat} (h : ev rs s m e p = some x) : 1 ≤ x.2 := by
  cases m with
  | zero => rw [ev] at h; cases h
  | succ m =>
    rw [ev] at h
    obtain ⟨y, _, rfl⟩ := Option.map_eq_some_iff.1 h
    simp

/-- What is asked of run at one fuel. -/
def RunOk (rs : List Ru) (s : List UInt8) (ga : Option Addr) (gl gc m : Nat) : Prop := ∀ (e : Ex) (p left r : Int) (c : Nat) (M : Mem) (x : X_api_Expr) (K : Value → Int → Bool → Mem → Prop), PegOk rs e → ev rs s m e p = some (r, c) → ExR M e x → GrR M rs ga gl gc → 0 ≤ p → p ≤ s.length → 0 ≤ left → left ≤ 1048576 → RunK K M left r c → C_mean_runner_run x p ga gl gc s left false M K

theorem again_is {rs : List Ru} {s : List UInt8} {E : Nat → Nat → Int} {ga : Option Addr} {gl gc m : Nat} (hw : WellOk rs) (hT : Tab rs s E) (ih : RunOk rs s ga gl gc m) {k : Ex} (hk : PegOk rs k) {n : Nat} {p left r : Int} {c : Nat} {M : Mem} {x : X_api_Expr} {K : Value → Int → Bool → Mem → Prop} (hev : staV (ev rs s m k) false n p true = some (r, c)) (hR : ExR M k x) (hg : GrR M rs ga gl gc) (hp : 0 ≤ p) (hl : p ≤ s.length) (h0 : 0 ≤ left) (h1 : left ≤ 1048576) (hK : AgainK K M left r c) :
    C_mean_runner_again x p ga gl gc s left false M K := by
  refine s_mean_runner_again _ _ _ _ _ _ _ _ _ _ ?_
  unfold S_mean_runner_again
  refine ⟨fun q l ov M' => M.le M' ∧ ov = false ∧ 0 ≤ l ∧ l ≤ 1048576 ∧ 0 ≤ q ∧ q ≤ s.length ∧ ∃ n' c', staV (ev rs s m k) false n' q true = some (r, c') ∧ l - c' = left - c, fun _ l _ => l.toNat, ⟨Mem.le.refl M, rfl, h0, h1, hp, hl, n, c, hev, rfl⟩, fun q l ov M' ⟨hle, hov, l0, l1, q0, q1, n', c', hev', hlc⟩ => ?_⟩
  subst hov
  cases n' with
  | zero => rw [staV] at hev'; cases hev'
  | succ n' =>
    rw [staV] at hev'
    obtain ⟨y, hy, hev'⟩ := Option.bind_eq_some_iff.1 hev'
    have hpos := ev_pos hy
    have hres := ev_res hw hT m k q y hk q0 q1 hy
    have hrr := hT.res hk q0 q1
    refine ih k q l y.1 y.2 M' x _ hk hy (hR.le hle) (hg.le hle) q0 q1 l0 l1 ⟨fun hc M2 t hl2 ht => ?_, fun hc M2 t hl2 => ?_⟩
    · refine ⟨t, _, rfl, fun hno => ?_, fun hyes => ?_⟩
      · have hneg : y.1 < 0 := by simpa using hno
        rw [if_pos hneg] at hev'
        have e1 : (if (true && false) = true then y.1 else q) = q := by simp
        rw [e1] at hev'
        simp only [Option.some.injEq, Prod.mk.injEq] at hev'
        obtain ⟨rfl, rfl⟩ := hev'
        have := hK.1 (by omega) M2 (hle.trans hl2)
        rw [show l - (y.2 : Int) = left - c by omega]; exact this
      · have hge : 0 ≤ y.1 := by simpa using hyes
        rw [if_neg (by omega)] at hev'
        obtain ⟨z, hz, he⟩ := Option.map_eq_some_iff.1 hev'
        simp only [Prod.mk.injEq] at he
        obtain ⟨rfl, rfl⟩ := he
        have ht := ht hge
        subst ht
        refine ⟨⟨hle.trans hl2, rfl, by omega, by omega, hge, by omega, n', z.2, ?_, by push_cast at hlc; omega⟩, by dsimp only; omega⟩
        rw [staV_flag n' y.1 true false (by rfl)]
        exact hz
    · refine ⟨t, _, rfl, fun _ => ?_, fun h => absurd (by simp) h⟩
      refine hK.2 ?_ M2 q (hle.trans hl2)
      split at hev'
      · simp only [Option.some.injEq, Prod.mk.injEq] at hev'; omega
      · obtain ⟨z, hz, he⟩ := Option.map_eq_some_iff.1 hev'
        simp only [Prod.mk.injEq] at he
        omega
end Go.Proofs.Ytifkffmecfgpeaa.core
