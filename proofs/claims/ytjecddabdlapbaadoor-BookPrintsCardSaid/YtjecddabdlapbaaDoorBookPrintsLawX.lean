/- For every input BookPrints answers true and leaves its arguments as they were. No condition. -/
import Derived.Test.YtjecddabdlapbaaDoorM1
import Derived.Test.YtjecddabdlapbaaDoorBookPrintsT
import Derived.Test.YtjecddabdlapbaaDoorBookBX
import Derived.Test.YtjecddabdlapbaaDoorNumTX
namespace Go.Proofs.YtjecddabdlapbaaDoor.lawBookPrints
open Go.Gx Go.RowKit Go.ChangeShapes Go.WideShapes Go.ChangeAt
open core
set_option linter.unusedVariables false
def chkC : List core.X_api_Case → Int
 | [] => 0
 | c :: r => if core.fitP c ≠ 0 then core.fitP c else chkC r
def casesErr (l : List core.X_api_Case) : Int := if l.length > 40 then 2 else chkC l
theorem chkC_drop {l : List core.X_api_Case} {i : Nat} {c : core.X_api_Case} (h : l[i]? = some c) : chkC (l.drop i) = if core.fitP c ≠ 0 then core.fitP c else chkC (l.drop (i + 1)) := by
 obtain ⟨hi, rfl⟩ := List.getElem?_eq_some_iff.1 h
 rw [List.drop_eq_getElem_cons hi, chkC]
theorem chkC_zero : ∀ {l : List core.X_api_Case}, chkC l = 0 → ∀ c ∈ l, core.fitP c = 0
 | [], _, c, hc => by cases hc
 | a :: r, h, c, hc => by
  rw [chkC] at h
  split at h
  ·exact absurd h (by assumption)
  ·rename_i ha
   rcases List.mem_cons.1 hc with rfl | hc
   ·exact Classical.not_not.1 ha
   ·exact chkC_zero h c hc
theorem fit_facts {c : core.X_api_Case} (h : core.fitP c = 0) : c.Text.length ≤ 60 ∧ (c.Kind = 1 ∨ c.Kind = 2 ∨ c.Kind = 4) ∧ 0 ≤ c.N ∧ c.N ≤ 60 := by
 unfold core.fitP at h
 split at h
 ·cases h
 ·split at h
  ·split at h
   ·cases h
   ·exact ⟨by omega, by omega, by omega, by omega⟩
  ·split at h
   ·split at h
    ·cases h
    ·exact ⟨by omega, by omega, by omega, by omega⟩
   ·cases h
theorem itoa_len {n : Int} (h0 : 0 ≤ n) (h : n ≤ 60) : (Lib.itoa n).length ≤ 2 := by
 unfold Lib.itoa
 rw [if_neg (by omega)]
 by_cases h10 : n.toNat < 10
 ·rw [Lib.decDigits_one h10]; simp
 ·rw [Lib.decDigits_two h10 (by omega)]; simp
theorem lit_len {s : List UInt8} (h : s.length ≤ 60) : (core.litP s).length ≤ 242 := by
 have := core.flat4 [39, 92] 32 s
 unfold core.litP
 rw [List.length_append, List.length_append]
 simp only [List.length_singleton]; omega
def lineT (c : core.X_api_Case) : List UInt8 := core.wdT c (Lib.itoa c.N) ++ core.litP c.Text ++ [10]
theorem line_len {c : core.X_api_Case} (h : core.fitP c = 0) : (lineT c).length ≤ 2000 := by
 obtain ⟨h1, h2, h3, h4⟩ := fit_facts h
 have := core.wdT_len (c := c) (d := Lib.itoa c.N) (by have := itoa_len h3 h4; omega)
 have := lit_len h1
 unfold lineT
 rw [List.length_append, List.length_append]
 simp only [List.length_singleton]; omega
theorem flat_put {l : List core.X_api_Case} {i : Nat} {c : core.X_api_Case} (h : l[i]? = some c) : (l.take (i + 1)).flatMap lineT = (l.take i).flatMap lineT ++ lineT c := by
 rw [List.take_add_one, h]; simp
theorem flat_len {l : List core.X_api_Case} (h : ∀ c ∈ l, core.fitP c = 0) : ∀ i, ((l.take i).flatMap lineT).length ≤ i * 2000
 | 0 => by simp
 | i + 1 => by
  have ih := flat_len h i
  cases hr : l[i]? with
  | none =>
   rw [List.take_add_one, hr, Option.toList_none, List.append_nil]
   exact Nat.le_trans ih (Nat.mul_le_mul_right _ (Nat.le_succ i))
  | some r =>
   have := line_len (h r (List.mem_of_getElem? hr))
   rw [flat_put hr, List.length_append]; omega
section
variable {M : Mem} {A : Option Addr} {n c : Nat} {l : List core.X_api_Case}
theorem bcheck_is (h : SlV M A n c 3 (cl core.X_api_Case.cells l)) (hn : l.length = n) (K : Value → Prop) (hK : K (.int .i64 (casesErr l))) : core.S_book_Check A n c M K := by
 subst hn
 refine ⟨fun g => by unfold casesErr at hK; rw [if_pos (by omega)] at hK; exact hK, fun g => ?_⟩
 have he : casesErr l = chkC l := by unfold casesErr; rw [if_neg (by omega)]
 refine ⟨fun x => ∃ i : Nat, x = i ∧ i ≤ l.length ∧ casesErr l = chkC (l.drop i), fun x => l.length - x.toNat, ⟨0, rfl, by omega, he⟩, fun x ⟨i, hx, hi, hr⟩ => ⟨fun hlt => ?_, fun hge => ?_⟩⟩
 ·subst hx
  obtain ⟨y, hy⟩ : ∃ y, l[i]? = some y := ⟨l[i]'(by omega), List.getElem?_eq_getElem _⟩
  obtain ⟨b, o, h1, h2⟩ := h.at core.Xc_len rfl hy
  rw [chkC_drop hy] at hr
  refine ⟨b, o, h1, by omega, hlt, y, h2, core.s_book_fit _ _ _ (core.bfit_is y _ ⟨_, rfl, fun q => ?_, fun q => ?_⟩)⟩
  ·rw [if_pos q] at hr; rw [hr] at hK; exact hK
  ·rw [if_neg q] at hr
   exact ⟨by unfold InI; omega, ⟨i + 1, by omega, by omega, hr⟩, by dsimp only; omega⟩
 ·subst hx
  have : i = l.length := by omega
  subst this
  rw [List.drop_length, chkC] at hr
  rw [hr] at hK; exact hK
theorem rcases_is (h : SlV M A n c 3 (cl core.X_api_Case.cells l)) (hn : l.length = n) (K : Value → Prop) (hK : K (.int .i64 (casesErr l))) : core.S_chaffref_Cases A n c M K := by
 subst hn
 refine ⟨fun g => by unfold casesErr at hK; rw [if_pos (by omega)] at hK; exact hK, fun g => ?_⟩
 have he : casesErr l = chkC l := by unfold casesErr; rw [if_neg (by omega)]
 refine ⟨fun x => ∃ i : Nat, x = i ∧ i ≤ l.length ∧ casesErr l = chkC (l.drop i), fun x => l.length - x.toNat, ⟨0, rfl, by omega, he⟩, fun x ⟨i, hx, hi, hr⟩ => ⟨fun hlt => ?_, fun hge => ?_⟩⟩
 ·subst hx
  obtain ⟨y, hy⟩ : ∃ y, l[i]? = some y := ⟨l[i]'(by omega), List.getElem?_eq_getElem _⟩
  obtain ⟨b, o, h1, h2⟩ := h.at core.Xc_len rfl hy
  rw [chkC_drop hy] at hr
  refine ⟨b, o, h1, by omega, hlt, y, h2, core.s_chaffref_Case _ _ _ (core.rcase_is y _ ⟨_, rfl, fun q => ?_, fun q => ?_⟩)⟩
  ·rw [if_pos q] at hr; rw [hr] at hK; exact hK
  ·rw [if_neg q] at hr
   exact ⟨by unfold InI; omega, ⟨i + 1, by omega, by omega, hr⟩, by dsimp only; omega⟩
 ·subst hx
  have : i = l.length := by omega
  subst this
  rw [List.drop_length, chkC] at hr
  rw [hr] at hK; exact hK
theorem err_zero (h : casesErr l = 0) : l.length ≤ 40 ∧ ∀ c ∈ l, core.fitP c = 0 := by
 unfold casesErr at h
 split at h
 ·cases h
 ·exact ⟨by omega, chkC_zero h⟩
theorem itoaP_is {P6 : ∃ e f, M 6 = some (.cells (Lib.pow10Tab.map fun z => Value.int .u64 z).toArray e f)} {z : Int} (h : InI z) : CallE Tryd.prog 88 #[.int .i64 z] M (fun v _ => v = .string (mkS (Lib.itoa z))) := by
 intro w hw
 obtain ⟨e, f, hp⟩ := P6
 have hI : -9223372036854775808 ≤ z ∧ z ≤ 9223372036854775807 := by unfold InI at h; omega
 refine (core.sh_strconv_Itoa z hI.1 hI.2 w (core.var_on hw (by kernel_rfl) hp)).mono fun x w' ⟨h1, k, os, h2⟩ => ⟨_, h1, ?_, rfl⟩
 subst h2
 exact Lib.below_grow _ w (Nat.le_refl _) k os
theorem bprint_is (P6 : ∃ e f, M 6 = some (.cells (Lib.pow10Tab.map fun z => Value.int .u64 z).toArray e f)) (h : SlV M A n c 3 (cl core.X_api_Case.cells l)) (hn : l.length = n) (K : Value → Prop) (h1 : casesErr l ≠ 0 → K (.tuple #[.string (mkS []), .int .i64 (casesErr l)])) (h2 : casesErr l = 0 → K (.tuple #[.string (mkS (l.flatMap lineT)), .int .i64 0])) : core.S_book_Print A n c M K := by
 refine core.s_book_Check _ _ _ _ _ (bcheck_is h hn _ ⟨_, rfl, h1, fun h0 => ?_⟩)
 have h0 : casesErr l = 0 := by simpa using h0
 obtain ⟨h40, hfit⟩ := err_zero h0
 subst hn
 refine ⟨fun out x => ∃ i : Nat, x = i ∧ i ≤ l.length ∧ out = (l.take i).flatMap lineT, fun _ x => l.length - x.toNat, ⟨0, rfl, by omega, rfl⟩, fun out x ⟨i, hx, hi, ho⟩ => ⟨fun hlt => ?_, fun hge => ?_⟩⟩
 ·subst hx
  obtain ⟨y, hy⟩ : ∃ y, l[i]? = some y := ⟨l[i]'(by omega), List.getElem?_eq_getElem _⟩
  obtain ⟨b, o, g1, g2⟩ := h.at core.Xc_len rfl hy
  have hf := hfit y (List.mem_of_getElem? hy)
  obtain ⟨f1, f2, f3, f4⟩ := fit_facts hf
  have il := itoa_len f3 f4
  have ll := lit_len f1
  have hl := flat_len hfit i
  have hl' : i * 2000 ≤ 40 * 2000 := Nat.mul_le_mul_right _ (by omega)
  have wl := core.wdT_len (c := y) (d := Lib.itoa y.N) (by omega)
  rw [← ho] at hl
  have end_ : ∀ w : List UInt8, core.wdT y (Lib.itoa y.N) = w → core.S_book_Print_J1 M out i (fun out x => ∃ i : Nat, x = i ∧ i ≤ l.length ∧ out = (l.take i).flatMap lineT) (fun _ x => l.length - x.toNat) y (out ++ w) K := fun w hw => by
   subst hw
   refine core.s_quote_Lit _ _ _ (core.qlit_is _ (by omega) _ _ ⟨_, rfl, by simp only [List.length_singleton]; omega, by simp only [List.length_append, List.length_singleton]; omega, by unfold InI; omega, ⟨i + 1, by omega, by omega, ?_⟩, by dsimp only; omega⟩)
   rw [flat_put hy, ho]; unfold lineT; simp only [List.append_assoc]
  refine ⟨b, o, g1, by omega, hlt, y, g2, fun k1 => ⟨by simp only [List.length_cons, List.length_nil]; omega, end_ _ (by unfold core.wdT; rw [if_pos k1])⟩, fun k1 => ⟨fun k2 => ⟨by simp only [List.length_cons, List.length_nil]; omega, end_ _ (by unfold core.wdT; rw [if_neg k1, if_pos k2])⟩, fun k2 => ?_⟩⟩
  refine core.s_quote_Dec _ _ _ ?_
  refine (itoaP_is (P6 := P6) (z := y.N) (by unfold InI; omega)).mono fun v M' _ hv => ⟨_, hv, ⟨_, rfl, by simp only [List.length_cons, List.length_nil]; omega, by simp only [List.length_append, List.length_cons, List.length_nil]; omega, by simp only [List.length_append, List.length_cons, List.length_nil]; omega, end_ _ (by unfold core.wdT; rw [if_neg k1, if_neg k2])⟩⟩
 ·subst hx
  have : i = l.length := by omega
  subst this
  rw [ho, List.take_length]; exact h2 h0
theorem rbook_is (h : SlV M A n c 3 (cl core.X_api_Case.cells l)) (hn : l.length = n) (h0 : casesErr l = 0) (K : Value → Prop) (hK : K (.string (mkS (l.flatMap lineT)))) : core.S_chaffref_Book A n c M K := by
 obtain ⟨h40, hfit⟩ := err_zero h0
 subst hn
 refine ⟨fun out x => ∃ i : Nat, x = i ∧ i ≤ l.length ∧ out = (l.take i).flatMap lineT, fun _ x => l.length - x.toNat, ⟨0, rfl, by omega, rfl⟩, fun out x ⟨i, hx, hi, ho⟩ => ⟨fun hlt => ?_, fun hge => ?_⟩⟩
 ·subst hx
  obtain ⟨y, hy⟩ : ∃ y, l[i]? = some y := ⟨l[i]'(by omega), List.getElem?_eq_getElem _⟩
  obtain ⟨b, o, g1, g2⟩ := h.at core.Xc_len rfl hy
  have hf := hfit y (List.mem_of_getElem? hy)
  obtain ⟨f1, f2, f3, f4⟩ := fit_facts hf
  have il := itoa_len f3 f4
  have ll := lit_len f1
  have hl := flat_len hfit i
  have hl' : i * 2000 ≤ 40 * 2000 := Nat.mul_le_mul_right _ (by omega)
  have le := line_len hf
  rw [← ho] at hl
  refine ⟨b, o, g1, by omega, hlt, y, g2, lineT y, ⟨_, _, fun M' => core.s_chaffref_Dec _ _ _ (core.rdec_is (by unfold InI; omega) _ rfl), fun M' => core.s_chaffref_Lit _ _ _ (core.rlit_is _ (by omega) _ _ rfl), f2, by omega, by omega, rfl⟩, by omega, by unfold InI; omega, ⟨i + 1, by omega, by omega, by rw [flat_put hy, ho]⟩, by dsimp only; omega⟩
 ·subst hx
  have : i = l.length := by omega
  subst this
  rw [ho, List.take_length]; exact hK
end
theorem walk : WalkGoal := by
 intro H enc W x n0 B0 hin hL
 have hT := core.pow_of (Lib.laidMet.reads hL (n := "internal/strconv.uint64pow10") (d := Rows.laid_internal_strconv_uint64pow10) (by simp [Rows.bookPrintsRow]))
 clear hL
 obtain ⟨l, bs, hsl, hln, _⟩ := open_L_Case hin
 refine s_chafflaw_BookPrints _ _ _ _ _ ?_
 refine core.s_book_Print _ _ _ _ _ (bprint_is hT hsl hln _ (fun h => ⟨_, _, rfl, ?_⟩) (fun h => ⟨_, _, rfl, ?_⟩))
 ·refine core.s_chaffref_Cases _ _ _ _ _ (rcases_is hsl hln _ ⟨_, rfl, core.s_book_Check _ _ _ _ _ (bcheck_is hsl hln _ ⟨_, rfl, fun g => absurd rfl g, fun _ => ⟨fun _ => ⟨fun _ => ?_, fun g => absurd rfl g⟩, fun g => absurd h g⟩⟩)⟩)
  simp
 ·refine core.s_chaffref_Cases _ _ _ _ _ (rcases_is hsl hln _ ⟨_, rfl, core.s_book_Check _ _ _ _ _ (bcheck_is hsl hln _ ⟨_, rfl, fun g => absurd rfl g, fun _ => ⟨fun g => absurd h g, fun _ => ⟨fun _ => core.s_chaffref_Book _ _ _ _ _ (rbook_is hsl hln h _ ⟨_, rfl, ?_⟩), fun g => absurd rfl g⟩⟩⟩)⟩)
  simp
theorem holds : Rows.BookPrintsCardSaid := card (top walk)
#print axioms holds
end Go.Proofs.YtjecddabdlapbaaDoor.lawBookPrints
