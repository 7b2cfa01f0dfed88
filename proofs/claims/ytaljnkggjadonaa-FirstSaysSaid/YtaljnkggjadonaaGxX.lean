/-
  Calls of functions for which the model itself stands in; over any program.
-/
import Derived.Test.YtaljnkggjadonaaGxU
import Derived.Laws.Externs
import Derived.Lib.Bytealg
namespace Go.Gx
open Go.RowKit

/-- Where byte c stands first in a text, or -1. -/
def idxB (s : List UInt8) (c : Int) : Int := match s.findIdx? (· == c.toNat.toUInt8) with
  | some i => i
  | none => -1

theorem find_same {p q : Nat → Bool} : ∀ {l : List Nat}, (∀ i ∈ l, p i = q i) → l.find? p = l.find? q
  | [], _ => rfl
  | a :: r, h => by rw [List.find?_cons, List.find?_cons, h a (by simp), find_same fun i hi => h i (by simp [hi])]

theorem find_range (l : List UInt8) (c : UInt8) : (List.range l.length).find? (fun i => l.getD i 0 == c) = l.findIdx? (· == c) := by
  cases h : l.findIdx? (· == c) with
  | none =>
    rw [List.findIdx?_eq_none_iff] at h
    rw [List.find?_eq_none]
    intro i hi
    have hl := List.mem_range.1 hi
    have := h l[i] (List.getElem_mem hl)
    simpa [List.getD, List.getElem?_eq_getElem hl] using this
  | some i =>
    rw [List.findIdx?_eq_some_iff_getElem] at h
    obtain ⟨hl, hi, hlt⟩ := h
    rw [List.find?_range_eq_some]
    refine ⟨by simpa [List.getD, List.getElem?_eq_getElem hl] using hi, List.mem_range.2 hl, fun j hj => ?_⟩
    have := hlt j hj
    simpa [List.getD, List.getElem?_eq_getElem (Nat.lt_trans hj hl)] using this

theorem firstIdx_is (l : List UInt8) (c : Int) : firstIdx (mkS l) c.toNat.toUInt8 = idxB l c := by
  unfold firstIdx idxB
  have e : (List.range (mkS l).size).find? (fun i => (mkS l)[i]! == c.toNat.toUInt8) = (List.range l.length).find? (fun i => l.getD i 0 == c.toNat.toUInt8) := by
    have hsz : (mkS l).size = l.length := rfl
    rw [hsz]
    refine find_same fun i hi => ?_
    have hl := List.mem_range.1 hi
    have h1 : (mkS l)[i]! = l[i] := getElem!_pos (mkS l) i hl
    rw [h1]
    simp [List.getD, List.getElem?_eq_getElem hl]
  rw [e, find_range]
  cases l.findIdx? (· == c.toNat.toUInt8) <;> rfl

theorem idxB_cases (s : List UInt8) (c : UInt8) : (idxB s c.toNat = -1 ∧ ∀ (i : Nat) x, s[i]? = some x → x ≠ c) ∨ ∃ i : Nat, idxB s c.toNat = i ∧ s[i]? = some c ∧ ∀ (j : Nat) x, j < i → s[j]? = some x → x ≠ c := by
  have hc : (c.toNat : Int).toNat.toUInt8 = c := by simp
  unfold idxB
  rw [hc]
  cases h : s.findIdx? (· == c) with
  | none =>
    left
    rw [List.findIdx?_eq_none_iff] at h
    refine ⟨rfl, fun i x hx => ?_⟩
    have := h x (List.mem_of_getElem? hx)
    simpa using this
  | some i =>
    right
    rw [List.findIdx?_eq_some_iff_getElem] at h
    obtain ⟨hl, hi, hlt⟩ := h
    refine ⟨i, rfl, by rw [List.getElem?_eq_getElem hl]; simpa using hi, fun j x hj hx => ?_⟩
    have := hlt j hj
    obtain ⟨_, rfl⟩ := List.getElem?_eq_some_iff.1 hx
    simpa using this

section
variable {P : Program} {env : Env} {M : Mem} {bs : List Bx} {rs : List Rw} {d : Option Tmp} {ty : TypeId} {pos : String} {af : Array Edge} {gd : Option (Nat × Bool)}

theorem Yl.ext {f : Nat} {c : Call} {fn : Func} {e : Array Value → Sem Value} {v : Value} (args : List Value) (hk : okOp env ⟨d, .call c, ty, pos, af, gd⟩ = true) (hcal : ∃ x, c.callee = .value x ∧ evT env x = .func (.func f) #[] #[]) (hargs : c.args.toList.map (evT env) = args)
    (hf : P.funcs[f]? = some fn) (hbody : fn.body.isNone = true) (hname : (fn.name == "runtime.NumGoroutine") = false) (hn : (Extern.findNext fn).isNone = true) (he : Extern.find fn = some e) (hr : ∀ w, (e args.toArray).run P w = .ok v w) : Yl P env M bs rs ⟨d, .call c, ty, pos, af, gd⟩ v := by
  refine ⟨hk, fun w _ => ?_⟩
  obtain ⟨x, hcal, hx⟩ := hcal
  have ha : c.args.map (evT env) = args.toArray := by rw [← hargs]; apply Array.ext'; simp
  have hname' : ¬ fn.name = "runtime.NumGoroutine" := beq_eq_false_iff_ne.1 hname
  have hbody' : fn.body = none := by simpa using hbody
  have hn' : Extern.findNext fn = none := by simpa using hn
  simp [execOp, resolve, hcal, hx, Deferred.ofValue, invoke, callFunc, hf, hbody', hname', hn', he, ha, hr]

theorem Yl.idxByte {f : Nat} {c : Call} {fn : Func} {l : List UInt8} {z : Int} (hk : okOp env ⟨d, .call c, ty, pos, af, gd⟩ = true) (hcal : ∃ x, c.callee = .value x ∧ evT env x = .func (.func f) #[] #[]) (hargs : c.args.toList.map (evT env) = [.string (mkS l), .int .u8 z])
    (hf : P.funcs[f]? = some fn) (hbody : fn.body.isNone = true) (hname : (fn.name == "runtime.NumGoroutine") = false) (hn : (Extern.findNext fn).isNone = true) (he : Extern.find fn = some Extern.BytealgIndexByte.indexByte) : Yl P env M bs rs ⟨d, .call c, ty, pos, af, gd⟩ (.int .i64 (idxB l z)) :=
  Yl.ext _ hk hcal hargs hf hbody hname hn he fun w => by rw [← firstIdx_is]; exact run_indexByte_string _ _ _
end
end Go.Gx
