/- The outermost frame of BookReads; printed by program. -/
import Derived.Test.YtjecddabdlapbaaDoorM2
import Derived.Test.YtjecddabdlapbaaDoorM1
import Derived.Test.YtjecddabdlapbaaDoorBookRG
import Derived.Test.YtjecddabdlapbaaDoorCards
import Derived.Test.YtjecddabdlapbaaDoorTie
import Derived.SevenTiedAt
namespace Go.Proofs.YtjecddabdlapbaaDoor.lawBookReads
open Go.Gx Go.RowKit Go.ChangeShapes Go.WideShapes Go.ChangeAt
set_option linter.unusedVariables false
open core
def WalkGoal:Prop:=∀(H:Type) (enc:TypeId×Value->H) (W:World) (x0:List UInt8) (_:x0.length<=140737488351232) (_:laidMet Tryd.prog Rows.bookReadsRow.laid W),CallE Tryd.prog 12 #[.string (mkS x0)] (HM W) (λv _=>v= .bool true)
theorem top_own:ownKnob Tryd.prog.godebug=none:=by kernel_rfl
theorem top_laidOut:laidOutB Tryd.prog=true:=by kernel_rfl
theorem top_reads (os:Os) {H:Type} (enc:TypeId×Value->H):∃places,DataW.whole enc Tryd.prog ((World.laidAll Tryd.prog os Rows.bookReadsRow.laid).forCall (λ_ _=>0) ⟨#[],#[.string (mkS [])],[]⟩).memory Tryd.f12.params.toList Rows.bookReadsSpec.vars false #[.string (mkS [])].toList 9=some ([.lit (.string [])],[],places):=
 ⟨[],by kernel_rfl⟩
set_option maxRecDepth 100000 in
theorem top_lifted (walk:WalkGoal) (os:Os) (started:os.Started) (H:Type) (enc:TypeId×Value->H) (F:Stop.Interp):
  ReturnsInHanded {} Tryd.checked os 12 .any ((OpenSpec.ofChange Rows.bookReadsSpec).preRow enc Tryd.prog Tryd.f12 Rows.bookReadsRow.domain false Rows.bookReadsRow.laid) (((OpenSpec.ofChange Rows.bookReadsSpec).at F).post enc Tryd.prog Tryd.f12 false true false false):=by
 obtain⟨places,hx⟩:=top_reads os enc;refine returnsInHanded_of_row (C:=Tryd.checked) (s:=OpenSpec.ofChange Rows.bookReadsSpec) top_own started (by kernel_rfl) Tryd.func12
  (witness_row_shaped (enc:=enc) (C:=Tryd.checked) (World.laidAll Tryd.prog os Rows.bookReadsRow.laid) #[.string (mkS [])] rfl (World.shaped_of_ZipB (by kernel_rfl) (by kernel_rfl)) (by kernel_rfl)
   (OpenSpec.preRow_of_cond 9 hx (by kernel_rfl) (λk hk=>by cases hk) (by kernel_rfl) (by rw[MakeChecks.laidMetH_plain _ _ _ (by kernel_rfl)];exact laidMet_laidAll _ (by kernel_rfl) (by kernel_rfl)))) ?_
 intro W base args ds gs before hval0 hW hcnd hk hsz hL0 _ _;have hval:∀(j:Nat) t v,Tryd.f12.params[j]?=some t->args[j]?=some v->Value.okWide Tryd.prog W .any base t v:=hval0;have hW':=hW;obtain⟨p,q,hA0,hV,rfl,hfz,hnd⟩:=hW;have hA:DataW.TrodAll enc Tryd.prog W 0 (λ_=>true) true Tryd.f12.params.toList args.toList ds p:=hA0;have hA1:=hA;rw[Tryd.params12]at hA hval;obtain⟨v0,vs0,d0,ds0,p0,q0,hargs,rfl,rfl,h0,r0⟩:=trodAll_cons hA;obtain⟨rfl,rfl,rfl⟩:=trodAll_nil r0
 obtain rfl:args= #[v0]:=by cases args;simp_all
 obtain⟨rfl,rfl⟩:=trodVars_none hV;obtain⟨s0,rfl,rfl,w0⟩:=argStrB Tryd.underlying9 (hval 0 9 _ rfl rfl) h0;have y0:s0.length<=140737488351232:=sized_string hsz (j:=0) (t:=9) (by kernel_rfl) rfl;clear hA0 hval0
 have hL:laidMet Tryd.prog Rows.bookReadsRow.laid W:=by rw[MakeChecks.laidMetH_plain _ _ _ (by kernel_rfl)]at hL0;exact hL0
 refine(walk H enc W s0 y0 hL W (HM.on W)).mono λe W' ⟨v,he,bel,hv⟩=>?_;subst he;subst hv;exact⟨_,rfl,_,_,_,[],_,[],hW',trodAll_mk1 (shut_bool Tryd.underlying4 _),trodAll_below top_laidOut bel (by kernel_rfl) hA1,rfl,bel.frame _,λh=>by cases h⟩
theorem top (walk:WalkGoal):Rows.BookReadsSaid:=
 OpenClaim.holds_of_cond 12 Tryd.f12 rfl rfl rfl rfl rfl rfl rfl ⟨rfl,rfl,rfl,rfl,rfl⟩ rfl rfl rfl rfl rfl (by kernel_rfl) Tryd.func12 (by kernel_rfl)
  (of_decide_eq_true (by kernel_rfl)) (by unfold Func.isWrapper;first|(rw[if_pos (by decide+kernel)];kernel_rfl)|(rw[if_neg (by decide+kernel)];exact⟨rfl,rfl⟩))
  (λos started H enc _ F=>by rw[OpenClaim.pre_eq_preRow];exact top_lifted walk os started H enc F)
theorem top_plain (f:FuncId) (fn:Func) (hf:Tryd.pinned.checked.prog.funcNamed Rows.bookReadsRow.func=some f) (hfn:Tryd.pinned.checked.prog.funcs[f]?=some fn):
  Rows.bookReadsCard.stood.looks=Tryd.pinned.checked.prog.looks []/\∀(j:Nat) t,fn.params[j]?=some t->Tryd.pinned.checked.prog.wantsStandIn t=false:=by
 obtain rfl:f=12:=Option.some.inj ((show Tryd.prog.funcNamed Rows.bookReadsRow.func=some 12 by kernel_rfl).symm.trans hf) |>.symm
 obtain rfl:fn=Tryd.f12:=(Option.some.inj (Tryd.func12.symm.trans hfn)).symm;refine⟨by kernel_rfl,λj t ht=>?_⟩;rw[Tryd.params12]at ht
 have hm:t∈[9]:=by simpa using Array.mem_of_getElem? ht
 have hall:([9].all λu=> !Tryd.prog.wantsStandIn u)=true:=by kernel_rfl
 exact(show Tryd.prog.wantsStandIn t=false by simpa using List.all_eq_true.1 hall t hm)
theorem card (h:Rows.BookReadsSaid):Rows.BookReadsCardSaid:=
 Claim7.holds_tied_plain_at .later [] _ _ _ _ h (λ_ h=>by cases h) (by kernel_rfl) (λ_ h=>by cases h) bookReads_row_tie rfl ⟨rfl,rfl⟩ (by kernel_rfl) rfl top_plain (by kernel_rfl)
end Go.Proofs.YtjecddabdlapbaaDoor.lawBookReads
