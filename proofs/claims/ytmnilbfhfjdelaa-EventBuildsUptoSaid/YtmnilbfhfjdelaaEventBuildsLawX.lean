/- For every input EventBuilds answers true and leaves its arguments as they were. No condition. -/
import Derived.Test.YtmnilbfhfjdelaaEventBuildsLawG
import Derived.Test.YtmnilbfhfjdelaaEventBuildsT
import Derived.Test.YtmnilbfhfjdelaaM2
namespace Go.Proofs.Ytmnilbfhfjdelaa.lawEventBuilds
open Go.Gx Go.RowKit Go.ChangeShapes Go.WideShapes Go.ChangeAt
open core
set_option linter.unusedVariables false
theorem run_open {v : Ev} (h : v.Kind = 1) (st : List Fr) (r : List Ev) : run st (v :: r) = run (⟨v.Rule, v.At, []⟩ :: st) r := by
 conv => lhs; unfold run
 rw [if_pos h]
theorem run_bad {v : Ev} {st : List Fr} {r : List Ev} (h1 : v.Kind ≠ 1) (h : ∀ F st', st = F :: st' → v.Kind = 2 → F.r ≠ v.Rule) : run st (v :: r) = none := by
 unfold run
 rw [if_neg h1]
 cases st with
 | nil => rfl
 | cons F st =>
  dsimp only
  rw [if_neg fun ⟨h2, h3⟩ => h F st rfl h2 h3]
theorem run_last {v : Ev} {F : Fr} (h2 : v.Kind = 2) (hr : F.r = v.Rule) (r : List Ev) : run [F] (v :: r) = if r = [] then some (.mk F.r F.f v.At F.ks) else none := by
 conv => lhs; unfold run
 rw [if_neg (by omega)]
 dsimp only
 rw [if_pos ⟨h2, hr⟩]
theorem run_shut {v : Ev} {F G : Fr} (h2 : v.Kind = 2) (hr : F.r = v.Rule) (st : List Fr) (r : List Ev) : run (F :: G :: st) (v :: r) = run (⟨G.r, G.f, G.ks ++ [.mk F.r F.f v.At F.ks]⟩ :: st) r := by
 conv => lhs; unfold run
 rw [if_neg (by omega)]
 dsimp only
 rw [if_pos ⟨h2, hr⟩]
theorem app_put {M M2 : Mem} {a a2 : Option Addr} {l c b o : Nat} {zs : List X_api_Tree} {z : X_api_Tree} (h : AppW M M2 24 4 a a2 (l + 1) c (cl X_api_Tree.cells zs ++ z.cells)) (hl : zs.length = l) (hb : a2 = some ⟨b, o, none⟩) (x : X_api_Tree) :
  Has M2 b (o + l * 4) 4 ∧ AppW M (M2.put b (o + l * 4) x.cells) 24 4 a a2 (l + 1) c (cl X_api_Tree.cells zs ++ x.cells) := by
 have hr := h.row
 rw [tcl_snoc] at hr
 obtain ⟨rfl, hh, hp⟩ := hr.put Tc_len (by rw [List.length_append, hl]; rfl) (i := l) (by omega) hb x
 rw [show (zs ++ [z]).set l x = zs ++ [x] by rw [← hl]; simp, ← tcl_snoc] at hp
 refine ⟨hh, hp, fun b' o' hM hg => ?_, fun b' hM => ?_, h.blk⟩
 ·rw [Mem.put_ne]
  ·exact h.keep b' o' hM hg
  ·rintro rfl
   rcases h.blk _ hb with e | e
   ·exact hg _ e rfl
   ·rw [e] at hM; cases hM
 ·rw [Mem.put_some]; exact h.dom b' hM
theorem last_of {α : Type} : ∀ {l : List α}, l ≠ [] → ∃ l0 a, l = l0 ++ [a] := fun {l} h => ⟨l.dropLast, l.getLast h, (List.dropLast_concat_getLast h).symm⟩
def BI (l : List Ev) (M : Mem) (i : Int) (rn : Nat) (rx : List Value) (M' : Mem) : Prop := ∃ V fs ys, 0 ≤ i ∧ i ≤ l.length ∧ M.le V ∧ StS V M' fs ys ∧ rn = fs.length ∧ rx = cl X_api_Tree.cells ys ∧ run fs.reverse (l.drop i.toNat) = run [] l ∧ fs.length ≤ i ∧ (fs = [] → i = 0) ∧ ∀ F ∈ fs, (F.ks.length : Int) ≤ i
theorem build_is {l : List Ev} {A : Option Addr} {c : Nat} {M : Mem} {L : Nat → Prop} {K : Value → Mem → Prop} (hb : l.length ≤ 10000000) (hsl : SlV M A l.length c 3 (cl X_api_Event.cells l))
  (h1 : ∀ t x M', run [] l = some t → M.le M' → TrR M' t x → K (.tuple #[x.val, .int .i64 0]) M') (h2 : run [] l = none → ∀ M', M.le M' → K (.tuple #[(X_api_Tree.mk 0 0 0 none 0 0).val, .int .i64 3]) M') : S_event_Build A l.length c M L K := by
 unfold S_event_Build
 refine ⟨Unit, fun _ i rn rx M' => BI l M i rn rx M', fun _ i _ _ => l.length - i.toNat, (), ⟨M, [], [], by omega, by omega, Mem.le.refl _, ⟨rfl, Mem.le.refl _, fun j F y h => by simp at h, fun j j' y y' g _ h => by simp at h⟩, rfl, rfl, rfl, by simp, fun _ => rfl, fun F hF => by simp at hF⟩, fun _ i rn rx M1 ⟨V, fs, ys, i0, il, hMV, hS, hn, hx, hrun, hfi, hf0, hks⟩ => ⟨fun hlt => ?_, fun hge => ?_⟩⟩
 ·obtain ⟨v, hv⟩ := getJ i0 hlt
  have hd : l.drop i.toNat = v :: l.drop (i + 1).toNat := by
   rw [show (i + 1).toNat = i.toNat + 1 by omega]
   obtain ⟨hl1, hv1⟩ := List.getElem?_eq_some_iff.1 hv
   rw [List.drop_eq_getElem_cons hl1, hv1]
  rw [hd] at hrun
  have hM1 := hMV.trans hS.le
  obtain ⟨b, o, ha, hat⟩ := (hsl.le hM1).at Ec_len rfl hv
  have hyl := hS.len
  subst hn hx
  have no : run [] l = none → S_event_Build_J2 l.length M L i fs.length (cl X_api_Tree.cells ys) M1 Unit () (fun _ i rn rx M' => BI l M i rn rx M') (fun _ i _ _ => l.length - i.toNat) v false K := by
   intro hno
   unfold S_event_Build_J2
   exact ⟨fun h => (by cases h), fun _ M2 hnr M3 hle3 => h2 hno M3 ((hM1.trans hnr.le).trans hle3)⟩
  refine ⟨b, o, ha, i0, hlt, v, hat, fun hk => ?_, fun hk => ?_⟩
  ·have j1 : S_event_Build_J1 l.length M L i fs.length (cl X_api_Tree.cells ys) M1 Unit () (fun _ i rn rx M' => BI l M i rn rx M') (fun _ i _ _ => l.length - i.toNat) v true K := by
    unfold S_event_Build_J1
    refine ⟨fun _ => ⟨by omega, ?_⟩, fun h => absurd rfl h⟩
    unfold S_event_Build_J4
    refine ⟨inI_of (by omega) (by omega), (), ⟨V, fs ++ [⟨v.Rule, v.At, []⟩], ys ++ [⟨v.Rule, v.At, 0, none, 0, 0⟩], by omega, by omega, hMV, hS.push _ _, by simp, tcl_snoc _ _, ?_, by rw [List.length_append, List.length_singleton]; omega, fun h => by simp at h, fun F hF => ?_⟩, by dsimp only; omega⟩
    rotate_left
    ·rcases List.mem_append.1 hF with hF | hF
     ·have := hks F hF; omega
     ·rw [List.mem_singleton.1 hF]; show ((0 : Nat) : Int) ≤ _; omega
    rw [List.reverse_append, ← hrun, run_open hk]
    rfl
   refine ⟨fun _ => j1, fun hi => ?_⟩
   have hne : fs ≠ [] := fun h => hi (hf0 h)
   have := List.length_pos_iff.2 hne
   rw [show decide ((fs.length : Int) > 0) = true from decide_eq_true (by omega)]
   exact j1
  ·unfold S_event_Build_J1
   refine ⟨fun h => (by cases h), fun _ => ⟨fun hk2 => ⟨fun hpos => ?_, fun hz => no ?_⟩, fun hk2 => no ?_⟩⟩
   rotate_left
   ·have hnil : fs = [] := List.eq_nil_of_length_eq_zero (by omega)
    rw [← hrun, hnil]
    exact run_bad hk fun F st' e => by cases e
   ·rw [← hrun]
    exact run_bad hk fun F st' _ h => absurd h hk2
   obtain ⟨f0, F, rfl⟩ := last_of (l := fs) (fun h => by rw [h] at hpos; simp at hpos)
   obtain ⟨y0, yF, rfl⟩ := last_of (l := ys) (fun h => by rw [h] at hyl; simp at hyl)
   rw [List.length_append, List.length_append, List.length_singleton, List.length_singleton] at hyl
   have hl0 : y0.length = f0.length := by omega
   have gF : (f0 ++ [F])[f0.length]? = some F := by rw [List.getElem?_append_right (Nat.le_refl _)]; simp
   have gy : (y0 ++ [yF])[f0.length]? = some yF := by rw [← hl0, List.getElem?_append_right (Nat.le_refl _)]; simp
   have hF := hS.row _ _ _ gF gy
   have hlen : ((f0 ++ [F]).length : Int) = f0.length + 1 := by rw [List.length_append, List.length_singleton]; push_cast; rfl
   have et : (((f0 ++ [F]).length : Int) - 1).toNat = f0.length := by omega
   have hcs := cl_Cs Tc_len gy
   have hcr : Cs (cl X_api_Tree.cells (y0 ++ [yF])) (0 + f0.length * 4) [.int .i64 yF.Rule] := by
    unfold Cs at hcs ⊢
    rw [Tc_len] at hcs
    have := congrArg (List.take 1) hcs
    rw [List.take_take] at this
    exact this
   refine ⟨inI_of (by omega) (by omega), by omega, by omega, yF.Rule, by rw [et]; exact hcr, ?_⟩
   rw [hF.r]
   by_cases hr : F.r = v.Rule
   rotate_left
   ·rw [show ((F.r : Int) == (v.Rule : Int)) = false by simpa using hr]
    refine no ?_
    rw [← hrun, List.reverse_append]
    exact run_bad hk fun F' st' e _ => by
     cases e; exact hr
   rw [show ((F.r : Int) == (v.Rule : Int)) = true by simpa using hr]
   rw [List.reverse_append] at hrun
   change run (F :: f0.reverse) (v :: l.drop (i + 1).toNat) = _ at hrun
   unfold S_event_Build_J2
   refine ⟨fun _ => ⟨inI_of (by omega) (by omega), by omega, by omega, yF, by rw [et]; exact hcs, by omega, by omega, fun h0 => ⟨by unfold InI; omega, fun hmore => ?_, fun hlast => ?_⟩, fun h0 => ?_⟩, fun h => absurd rfl h⟩
   ·have hf : f0 = [] := List.eq_nil_of_length_eq_zero (by omega)
    subst hf
    intro M2 hnr M3 hle3
    refine h2 ?_ M3 ((hM1.trans hnr.le).trans hle3)
    rw [← hrun]
    show run [F] _ = none
    rw [run_last hk2 hr, if_neg fun e => by
     have := congrArg List.length e
     rw [List.length_drop, List.length_nil] at this
     omega]
   ·have hf : f0 = [] := List.eq_nil_of_length_eq_zero (by omega)
    subst hf
    intro M3 hle3
    refine h1 (.mk F.r F.f v.At F.ks) _ M3 ?_ (hM1.trans hle3) ((hF.tree v.At).le ((thaw_M hS.le).trans hle3))
    rw [← hrun]
    show run [F] _ = _
    rw [run_last hk2 hr, if_pos (List.drop_of_length_le (by omega))]
   ·obtain ⟨f1, G, rfl⟩ := last_of (l := f0) (fun h => by rw [h] at h0; simp at h0)
    obtain ⟨y1, yG, rfl⟩ := last_of (l := y0) (fun h => by rw [h] at hl0; simp at hl0)
    rw [List.length_append, List.length_append, List.length_singleton, List.length_singleton] at hl0
    clear hlen et
    have hN : (f1 ++ [G] ++ [F]).length = f1.length + 2 := by simp
    have et : (((f1 ++ [G] ++ [F]).length : Int) - 1).toNat = f1.length + 1 := by omega
    have hl1 : y1.length = f1.length := by omega
    have gG : (f1 ++ [G] ++ [F])[f1.length]? = some G := by rw [List.append_assoc, List.getElem?_append_right (Nat.le_refl _)]; simp
    have gyG : (y1 ++ [yG] ++ [yF])[f1.length]? = some yG := by rw [← hl1, List.append_assoc, List.getElem?_append_right (Nat.le_refl _)]; simp
    have hG := hS.row _ _ _ gG gyG
    obtain ⟨zs, hrow, hz⟩ := hG.row
    rw [List.reverse_append] at hrun
    change run (F :: G :: f1.reverse) (v :: l.drop (i + 1).toNat) = _ at hrun
    rw [run_shut hk2 hr] at hrun
    have e2 : (((((f1 ++ [G] ++ [F]).length : Int) - 1)) - 1).toNat = f1.length := by omega
    have etk : (cl X_api_Tree.cells (y1 ++ [yG] ++ [yF])).take ((((f1 ++ [G] ++ [F]).length : Int) - 1).toNat * 4) = cl X_api_Tree.cells (y1 ++ [yG]) := by
     rw [et, cl_take Tc_len, show f1.length + 1 = (y1 ++ [yG]).length by rw [List.length_append, List.length_singleton]; omega, List.take_left]
    have hkb : (G.ks.length : Int) ≤ i := hks G (by simp)
    have hck : Cs (cl X_api_Tree.cells (y1 ++ [yG])) (0 + f1.length * 4 + 3) [.slice yG.Kids_a yG.Kids_l yG.Kids_c] := by
     have hc := cl_Cs Tc_len (show (y1 ++ [yG])[f1.length]? = some yG by rw [← hl1, List.getElem?_append_right (Nat.le_refl _)]; simp)
     unfold Cs at hc ⊢
     rw [Tc_len] at hc
     have := congrArg (List.drop 3) hc
     rw [List.drop_take, List.drop_drop] at this
     exact this
    have hwr : ∀ g, yG.Kids_a = some ⟨g, 0, none⟩ → Wr L M g := fun g hg => .inr (by
     cases hm : M g with
     | none => rfl
     | some o => have := hMV g o hm; rw [hG.fr g hg] at this; cases this)
    have fin : ∀ (M2 : Mem) (a2 : Option Addr) (c2 : Nat), AppW M1 M2 24 4 yG.Kids_a a2 (G.ks.length + 1) c2 (cl X_api_Tree.cells zs ++ (X_api_Tree.mk yF.Rule yF.From v.At yF.Kids_a yF.Kids_l yF.Kids_c).cells) → S_event_Build_J4 i (f1 ++ [G] ++ [F]).length (cl X_api_Tree.cells (y1 ++ [yG] ++ [yF])) Unit () (fun _ i rn rx M' => BI l M i rn rx M') (fun _ i _ _ => l.length - i.toNat) ((((f1 ++ [G] ++ [F]).length : Int) - 1).toNat) (putAt ((cl X_api_Tree.cells (y1 ++ [yG] ++ [yF])).take ((((f1 ++ [G] ++ [F]).length : Int) - 1).toNat * 4)) (0 + ((((f1 ++ [G] ++ [F]).length : Int) - 1) - 1).toNat * 4 + 3) [.slice a2 (G.ks.length + 1) c2]) M2 K := by
     intro M2 a2 c2 hap
     unfold S_event_Build_J4
     rw [etk, e2, et, ← hl1, put_kids, hl1]
     refine ⟨inI_of (by omega) (by omega), (), ⟨thaw V M1 yF.Kids_a, f1 ++ [⟨G.r, G.f, G.ks ++ [.mk F.r F.f v.At F.ks]⟩], _, by omega, by omega, hMV.trans (thaw_V hF.fr), hS.close hl1 v.At hz hap, by simp, rfl, ?_, by rw [List.length_append, List.length_singleton]; omega, fun h => by simp at h, fun E hE => ?_⟩, by dsimp only; omega⟩
     rotate_left
     ·rcases List.mem_append.1 hE with hE | hE
      ·have := hks E (by simp [hE]); omega
      ·rw [List.mem_singleton.1 hE]
       show (((G.ks ++ [Tn.mk F.r F.f v.At F.ks]).length : Nat) : Int) ≤ _
       rw [List.length_append, List.length_singleton]; omega
     rw [List.reverse_append]
     exact hrun
    have bnd : ((((f1 ++ [G] ++ [F]).length : Int) - 1) - 1) < (((((f1 ++ [G] ++ [F]).length : Int) - 1).toNat : Nat) : Int) := by omega
    refine ⟨?_, ?_⟩
    ·unfold S_event_Build_J3
     refine ⟨fun h => (by cases h), fun _ => ⟨inI_of (by omega) (by omega), inI_of (by omega) (by omega), by omega, bnd, yG.Kids_a, yG.Kids_l, yG.Kids_c, by rw [etk, e2]; exact hck, Tc_one _, cl X_api_Tree.cells zs, by rw [hG.kl]; exact hrow, hwr, by rw [hG.kl]; omega, fun M2 a2 c2 hap => ⟨by omega, bnd, ?_⟩⟩⟩
     rw [hG.kl] at hap ⊢
     exact fin M2 a2 c2 hap
    ·unfold S_event_Build_J3
     refine ⟨fun _ => ⟨inI_of (by omega) (by omega), inI_of (by omega) (by omega), by omega, bnd, yG.Kids_a, yG.Kids_l, yG.Kids_c, by rw [etk, e2]; exact hck, Tc_one _, cl X_api_Tree.cells zs, by rw [hG.kl]; exact hrow, hwr, by rw [hG.kl]; omega, fun M2 a2 c2 hap => ⟨by omega, bnd, ?_⟩⟩, fun h => absurd rfl h⟩
     rw [hG.kl] at hap ⊢
     obtain ⟨g, hg⟩ : ∃ g, a2 = some ⟨g, 0, none⟩ := by
      obtain ⟨_, _, _, ⟨_, e, _⟩ | ⟨g, _, e, _⟩⟩ := hap.row
      ·omega
      ·exact ⟨g, e⟩
     obtain ⟨hhas, hap2⟩ := app_put hap hz.1 hg (X_api_Tree.mk yF.Rule yF.From v.At yF.Kids_a yF.Kids_l yF.Kids_c)
     refine ⟨g, 0, hg, by omega, by omega, hhas, ?_, fun M3 hM3 => ?_⟩
     ·rcases hap.blk g hg with e | e
      ·exact hwr g e
      ·refine .inr ?_
       cases hm : M g with
       | none => rfl
       | some o => rw [hM1 g o hm] at e; cases e
     ·subst hM3
      exact fin _ a2 c2 hap2
 ·intro M2 hnr M3 hle3
  refine h2 ?_ M3 (((hMV.trans hS.le).trans hnr.le).trans hle3)
  rw [← hrun, List.drop_of_length_le (by omega)]
  unfold run; rfl
theorem len_sum {α : Type} {R : α → Nat → Prop} (hp : ∀ x b, R x b → 1 ≤ b) : ∀ {xs : List α} {bs : List Nat}, All2 R xs bs → xs.length ≤ bs.sum
 | [], _, _ => Nat.zero_le _
 | a :: xs, cs, h => by
  obtain ⟨b, bs, rfl, h1, h2⟩ := h
  have h3 := len_sum hp h2
  have h4 := hp _ _ h1
  rw [List.length_cons, List.sum_cons]; omega
theorem events_of {H : Type} {enc : TypeId × Value → H} {w : World} {n B : Nat} {A : Option Addr} {l c : Nat} (h : In_L_Event enc w n B ⟨A, l, c⟩) : ∃ es : List Ev, SlV (HM w) A l c 3 (cl X_api_Event.cells es) ∧ es.length = l ∧ l ≤ B := by
 obtain ⟨xs, bs, hsl, hl, hm, hall, hsum⟩ := open_L_Event h
 have := len_sum (fun x b ⟨k, _, hin⟩ => by obtain ⟨_, _, _, h4⟩ := hin; omega) hall
 simp only at hl hsl
 exact ⟨xs, hsl, hl, by omega⟩
theorem walk : WalkGoal := by
 intro H enc W x n B hx hB
 obtain ⟨l, hsl, hl, hlB⟩ := events_of (A := x.a) (l := x.l) (c := x.c) hx
 refine e_chafflaw_EventBuilds _ _ _ _ _ ?_
 unfold S_chafflaw_EventBuilds
 generalize HM W = M at *
 obtain ⟨xa, xl, xc⟩ := x
 dsimp only at *
 subst hl
 have ask : ∀ (M1 : Mem) (y : X_api_Tree) (er : Int), M.le M1 → (∀ t, evs t = l → er = 0 ∧ TrR M1 t y) → ((¬ ∃ t, evs t = l) → er = 3 ∧ y = X_api_Tree.mk 0 0 0 none 0 0) → CallE Try.prog 15 #[.slice xa l.length xc] M1 (fun v M10 => ∃ (x8 : X_api_Tree) (x9 : Int), v = (Value.tuple #[x8.val, (Value.int .i64 x9)]) ∧ (CallE Try.prog 16 #[y.val, x8.val] M10 (fun v _ => ∃ (x12 : Bool), v = (Value.bool x12) ∧ ((x12 = true → (∀ M', M10.le M' → Value.bool ((er : Int) == (x9 : Int)) = .bool true)) ∧ (¬ (x12 = true) → (∀ M', M10.le M' → Value.bool false = .bool true)))))) := by
  intro M1 y er hle hy hn
  refine s_chaffref_BuildOne _ _ _ _ _ (rone_is (by omega) (hsl.le hle) (fun t u M2 ht hle2 htu => ⟨_, _, rfl, ?_⟩) fun hno M2 hle2 => ⟨_, _, rfl, ?_⟩)
  ·obtain ⟨rfl, hty⟩ := hy t ht
   exact s_chaffref_SameTree _ _ _ _ (same_is (hty.le hle2) _ htu _ ⟨_, rfl, fun _ _ _ => rfl, fun h => absurd rfl h⟩)
  ·obtain ⟨rfl, rfl⟩ := hn hno
   have hz : TrR M2 (.mk 0 0 0 []) (X_api_Tree.mk 0 0 0 none 0 0) := .mk (xs := []) (ks := []) (slv0 _ _) rfl fun i t x h => by simp at h
   exact s_chaffref_SameTree _ _ _ _ (same_is hz _ hz _ ⟨_, rfl, fun _ _ _ => rfl, fun h => absurd rfl h⟩)
 refine (s_event_Build _ _ _ _ _ _ (build_is (by omega) hsl (fun t u M1 ht hle htu => ⟨_, _, rfl, ask M1 u 0 hle (fun t' ht' => ⟨rfl, ?_⟩) fun hno => absurd ⟨t, run_iff.1 ht⟩ hno⟩) fun hno M1 hle => ⟨_, _, rfl, ask M1 _ 3 hle (fun t' ht' => ?_) fun _ => ⟨rfl, rfl⟩⟩))
 ·rw [run_iff.2 ht'] at ht
  cases ht; exact htu
 ·rw [run_iff.2 ht'] at hno; cases hno
theorem holds : Rows.EventBuildsUptoSaid := top walk
#print axioms holds
end Go.Proofs.Ytmnilbfhfjdelaa.lawEventBuilds
