/- For every input Names answers true and leaves its arguments as they were. No condition. -/
import Derived.Test.YtdlfhmdojbejkaaNamesG
namespace Go.Proofs.Ytdlfhmdojbejkaa.lawNames
open Go.Gx Go.RowKit Go.ChangeShapes Go.WideShapes Go.ChangeAt
theorem Cs_one {xs : List Value} {k : Nat} {v : Value} (h : xs[k]? = some v) : Cs xs k [v] := by
  unfold Cs
  have hl := (List.getElem?_eq_some_iff.1 h).1
  rw [List.drop_eq_getElem_cons hl]
  rw [List.getElem?_eq_getElem hl] at h
  simp only [List.length_cons, List.length_nil, Nat.zero_add, List.take_succ_cons, List.take_zero]
  cases h
  rfl

def upV (n : Nat) : List Value := ((List.range n).map fun (i : Nat) => [Value.int .i64 ((i : Int) + 1)]).flatten

theorem inner {M : Mem} {A : Option Addr} {n c : Nat} (h : SlV M A n c 1 (upV n)) (hn : n ≤ 1000) (K : Value → Prop) (I80 : Int → Prop) (mu : Int → Nat) (x78 : Int) (hnext : InI (x78 + 1) ∧ I80 (x78 + 1) ∧ mu (x78 + 1) < mu x78) :
    (∃ (I94 : Int → Prop) (mu95 : Int → Nat), I94 0 ∧ ∀ (x93 : Int), (I94 x93 → ((x93 < ((n : Nat) : Int) → (∃ (b96 o97 : Nat), A = some ⟨b96, o97, none⟩ ∧ (0 : Int) ≤ x93 ∧ x93 < ((n : Nat) : Int) ∧ (∃ (x98 : Int), At M b96 (o97 + x93.toNat * 1) [(Value.int .i64 x98)] ∧ (InI (x93 + 1) ∧ (((x98 : Int) ≠ x93 + 1 → K (Value.bool false)) ∧ (¬ ((x98 : Int) ≠ x93 + 1) → (InI (x93 + 1) ∧ I94 (x93 + 1) ∧ mu95 (x93 + 1) < mu95 x93))))))) ∧ (¬ (x93 < ((n : Nat) : Int)) → (InI (x78 + 1) ∧ I80 (x78 + 1) ∧ mu (x78 + 1) < mu x78))))) := by
  refine ⟨fun i => 0 ≤ i ∧ i ≤ n, fun i => n - i.toNat, ⟨by omega, by omega⟩, fun i ⟨h0, h1⟩ => ⟨fun hlt => ?_, fun _ => hnext⟩⟩
  have hx : (List.range n)[i.toNat]? = some i.toNat := by rw [List.getElem?_range (by omega)]
  obtain ⟨b, o, ha, hat⟩ := h.elem (es := List.range n) (f := fun (i : Nat) => [Value.int .i64 ((i : Int) + 1)]) (by simp) (fun _ _ => rfl) hx
  have e : ((i.toNat : Nat) : Int) = i := by omega
  simp only [e] at hat
  exact ⟨b, o, ha, h0, hlt, _, hat, by unfold InI; omega, fun hne => absurd rfl hne, fun _ => ⟨by unfold InI; omega, ⟨by omega, by omega⟩, by dsimp only; omega⟩⟩

def I4 (i : Int) : Prop := i = 0 ∨ i = 1 ∨ i = 2 ∨ i = 3 ∨ i = 4
def m4 (i : Int) : Nat := 4 - i.toNat

theorem law_is (M : Mem) : S_chafflaw_Names M (fun v => v = .bool true) := by
  unfold S_chafflaw_Names
  refine ⟨fun i => 0 ≤ i ∧ i ≤ 16, fun i => 16 - i.toNat, ⟨by omega, by omega⟩, fun i ⟨h0, h1⟩ => ⟨fun hlt => ?_, fun hge => ?_⟩⟩
  · refine ⟨h0, hlt, i, Cs_one ?_, fun h => absurd rfl h, fun _ => ⟨by unfold InI; omega, ⟨by omega, by omega⟩, by dsimp only; omega⟩⟩
    have : ∀ n : Nat, n < 16 → ((List.range 16).map fun (k : Nat) => Value.int .i64 (k : Int))[n]? = some (.int .i64 (n : Int)) := by
      intro n hn; simp [hn]
    have hi := this i.toNat (by omega)
    have e : ((i.toNat : Nat) : Int) = i := by omega
    rw [e] at hi
    have e2 : 0 + i.toNat * 1 = i.toNat := by omega
    rw [e2]
    exact hi
  · intro M1 A1 c1 h1 s1 M2 A2 c2 h2 s2 M3 A3 c3 h3 s3 M4 A4 c4 h4 s4
    have t1 := ((s1.le h2).le h3).le h4
    have t2 := (s2.le h3).le h4
    have t3 := s3.le h4
    refine ⟨I4, m4, .inl rfl, fun i hi => ⟨fun hlt => ?_, fun _ => rfl⟩⟩
    rcases hi with rfl | rfl | rfl | rfl | rfl
    · exact ⟨by omega, hlt, A1, 11, c1, Cs_one rfl, by refine inner t1 (by omega) (fun v => v = .bool true) I4 m4 0 ?_; exact ⟨by unfold InI; omega, .inr (.inl rfl), by decide⟩⟩
    · exact ⟨by omega, hlt, A2, 2, c2, Cs_one rfl, by refine inner t2 (by omega) (fun v => v = .bool true) I4 m4 1 ?_; exact ⟨by unfold InI; omega, .inr (.inr (.inl rfl)), by decide⟩⟩
    · exact ⟨by omega, hlt, A3, 11, c3, Cs_one rfl, by refine inner t3 (by omega) (fun v => v = .bool true) I4 m4 2 ?_; exact ⟨by unfold InI; omega, .inr (.inr (.inr (.inl rfl))), by decide⟩⟩
    · exact ⟨by omega, hlt, A4, 4, c4, Cs_one rfl, by refine inner s4 (by omega) (fun v => v = .bool true) I4 m4 3 ?_; exact ⟨by unfold InI; omega, .inr (.inr (.inr (.inr rfl))), by decide⟩⟩
    · exact absurd hlt (by decide)

theorem walk : WalkGoal := fun _ _ _ => s_chafflaw_Names _ _ (law_is _)

theorem holds : Rows.NamesSaid := top walk
#print axioms holds
end Go.Proofs.Ytdlfhmdojbejkaa.lawNames
