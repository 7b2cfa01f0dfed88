/- The outermost frame of GramReads; printed by program. -/
import Derived.Test.YtfpmiahbncnecaaReadG
import Derived.Test.YtfpmiahbncnecaaRReadG
import Derived.Test.YtfpmiahbncnecaaM3
import Derived.Test.YtfpmiahbncnecaaM1
namespace Go.Proofs.Ytfpmiahbncnecaa.lawGramReads
open Go.Gx Go.RowKit Go.ChangeShapes Go.WideShapes Go.ChangeAt
set_option linter.unusedVariables false
open core
def WalkGoal:Prop:=∀(H:Type) (enc:TypeId×Value->H) (W:World) (x0:List UInt8) (_:x0.length<=140737488351232),CallE Try.prog 4 #[.string (mkS x0)] (HM W) (λv _=>v= .bool true)
theorem top_own:ownKnob Try.prog.godebug=none:=by kernel_rfl
theorem top_laidOut:laidOutB Try.prog=true:=by kernel_rfl
set_option maxRecDepth 100000 in
theorem top_lifted (walk:WalkGoal) (os:Os) (started:os.Started) (H:Type) (enc:TypeId×Value->H):
  ReturnsInHanded {} Try.checked os 4 .any (Rows.gramReadsSpec.pre6 enc Try.prog Try.f4 Rows.gramReadsRow.domain false) (Rows.gramReadsSpec.post enc Try.prog Try.f4 false true false false):=by
 refine returnsInHanded_of_change_sized (C:=Try.checked) top_own started (by kernel_rfl) Try.func4
  (ChangeSpec.witness6 (enc:=enc) (C:=Try.checked) false ⟨#[],#[.string (mkS [])],[]⟩ 9 (by kernel_rfl) (by kernel_rfl) (by kernel_rfl) (by kernel_rfl)) ?_
 intro W base args ds gs before hval0 hW hcnd hsz _;have hval:∀(j:Nat) t v,Try.f4.params[j]?=some t->args[j]?=some v->Value.okWide Try.prog W .any base t v:=hval0;have hW':=hW;obtain⟨p,q,hA0,hV,rfl,hfz,hnd⟩:=hW;have hA:DataW.TrodAll enc Try.prog W 0 (λ_=>true) true Try.f4.params.toList args.toList ds p:=hA0;have hA1:=hA;rw[Try.params4]at hA hval;obtain⟨v0,vs0,d0,ds0,p0,q0,hargs,rfl,rfl,h0,r0⟩:=trodAll_cons hA;obtain⟨rfl,rfl,rfl⟩:=trodAll_nil r0
 obtain rfl:args= #[v0]:=by cases args;simp_all
 obtain⟨rfl,rfl⟩:=trodVars_none hV;obtain⟨s0,rfl,rfl,w0⟩:=argStrB Try.underlying9 (hval 0 9 _ rfl rfl) h0;have y0:s0.length<=140737488351232:=sized_string hsz (j:=0) (t:=9) (by kernel_rfl) rfl;clear hA0 hval0;refine(walk H enc W s0 y0 W (HM.on W)).mono λe W' ⟨v,he,bel,hv⟩=>?_;subst he;subst hv;exact⟨_,rfl,_,_,_,[],_,[],hW',trodAll_mk1 (shut_bool Try.underlying4 _),trodAll_below top_laidOut bel (by kernel_rfl) hA1,rfl,bel.frame _,λh=>by cases h⟩
theorem top (walk:WalkGoal):Rows.GramReadsSaid:=
 OpenClaim.holds_of_wide 4 Try.f4 rfl rfl rfl rfl rfl rfl rfl ⟨rfl,rfl,rfl,rfl,rfl⟩ rfl rfl rfl rfl rfl (by kernel_rfl) Try.func4 (by kernel_rfl)
  (of_decide_eq_true (by kernel_rfl)) (by unfold Func.isWrapper;first|(rw[if_pos (by decide+kernel)];kernel_rfl)|(rw[if_neg (by decide+kernel)];exact⟨rfl,rfl⟩))
  (λos started H enc _=>top_lifted walk os started H enc)
end Go.Proofs.Ytfpmiahbncnecaa.lawGramReads
