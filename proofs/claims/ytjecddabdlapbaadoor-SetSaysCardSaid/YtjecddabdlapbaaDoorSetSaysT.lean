/- The outermost frame of SetSays; printed by program. -/
import Derived.Test.YtjecddabdlapbaaDoorSetMG
import Derived.Test.YtjecddabdlapbaaDoorSetSaysLawG
import Derived.Test.YtjecddabdlapbaaDoorM1
import Derived.Test.YtjecddabdlapbaaDoorGxC
import Derived.Test.YtjecddabdlapbaaDoorCards
import Derived.Test.YtjecddabdlapbaaDoorTie
import Derived.SevenTiedAt
namespace Go.Proofs.YtjecddabdlapbaaDoor.lawSetSays
open Go.Gx Go.RowKit Go.ChangeShapes Go.WideShapes Go.ChangeAt
set_option linter.unusedVariables false
open core
def In_api_Set {H:Type} (enc:TypeId×Value->H) (w:World) (n B:Nat) (x:X_api_Set):Prop:=(Lit.int .u64 x.w0).wf=true/\(Lit.int .u64 x.w1).wf=true/\(Lit.int .u64 x.w2).wf=true/\(Lit.int .u64 x.w3).wf=true/\1+1+1+1<=B
abbrev lv_api_Set:List Leaf:=[.int .u64,.int .u64,.int .u64,.int .u64]
theorem mk_api_Set {H:Type} {enc:TypeId×Value->H} {w:World} {n B:Nat} {cs:List Value} (h:LvB enc Tryd.prog w n B lv_api_Set cs):∃x:X_api_Set,cs=x.cells/\In_api_Set enc w n B x:=by
 obtain⟨b0,c0,_,_,s0,rfl,⟨p0,z0,rfl,w0⟩,b1,c1,_,_,s1,rfl,⟨p1,z1,rfl,w1⟩,b2,c2,_,_,s2,rfl,⟨p2,z2,rfl,w2⟩,b3,c3,_,_,s3,rfl,⟨p3,z3,rfl,w3⟩,rfl⟩:=h;exact⟨⟨z0,z1,z2,z3⟩,rfl,w0,w1,w2,w3,by first|omega|(simp only;omega)⟩
def WalkGoal:Prop:=∀(H:Type) (enc:TypeId×Value->H) (W:World) (x0:X_api_Set) (n0 B0:Nat) (_:In_api_Set enc W n0 B0 x0) (x1:Int) (_:(Lit.int .i64 x1).wf=true) (x2:Int) (_:(Lit.int .i64 x2).wf=true) (x3:Int) (_:(Lit.int .i64 x3).wf=true) (x4:Int) (_:(Lit.int .u8 x4).wf=true) (_:laidMet Tryd.prog Rows.setSaysRow.laid W),CallE Tryd.prog 3 #[x0.val,.int .i64 x1,.int .i64 x2,.int .i64 x3,.int .u8 x4] (HM W) (λv _=>v= .bool true)
theorem top_own:ownKnob Tryd.prog.godebug=none:=by kernel_rfl
theorem top_laidOut:laidOutB Tryd.prog=true:=by kernel_rfl
theorem top_reads (os:Os) {H:Type} (enc:TypeId×Value->H):∃places,DataW.whole enc Tryd.prog ((World.laidAll Tryd.prog os Rows.setSaysRow.laid).forCall (λ_ _=>0) ⟨#[],#[.agg #[.int .u64 0,.int .u64 0,.int .u64 0,.int .u64 0],.int .i64 0,.int .i64 0,.int .i64 0,.int .u8 0],[]⟩).memory Tryd.f3.params.toList Rows.setSaysSpec.vars false #[.agg #[.int .u64 0,.int .u64 0,.int .u64 0,.int .u64 0],.int .i64 0,.int .i64 0,.int .i64 0,.int .u8 0].toList 9=some ([.agg [.lit (.int .u64 0),.lit (.int .u64 0),.lit (.int .u64 0),.lit (.int .u64 0)],.lit (.int .i64 0),.lit (.int .i64 0),.lit (.int .i64 0),.lit (.int .u8 0)],[],places):=
 ⟨[],by kernel_rfl⟩
set_option maxRecDepth 100000 in
theorem top_lifted (walk:WalkGoal) (os:Os) (started:os.Started) (H:Type) (enc:TypeId×Value->H) (F:Stop.Interp):
  ReturnsInHanded {} Tryd.checked os 3 .any ((OpenSpec.ofChange Rows.setSaysSpec).preRow enc Tryd.prog Tryd.f3 Rows.setSaysRow.domain false Rows.setSaysRow.laid) (((OpenSpec.ofChange Rows.setSaysSpec).at F).post enc Tryd.prog Tryd.f3 false true false false):=by
 obtain⟨places,hx⟩:=top_reads os enc;refine returnsInHanded_of_row (C:=Tryd.checked) (s:=OpenSpec.ofChange Rows.setSaysSpec) top_own started (by kernel_rfl) Tryd.func3
  (witness_row_shaped (enc:=enc) (C:=Tryd.checked) (World.laidAll Tryd.prog os Rows.setSaysRow.laid) #[.agg #[.int .u64 0,.int .u64 0,.int .u64 0,.int .u64 0],.int .i64 0,.int .i64 0,.int .i64 0,.int .u8 0] rfl (World.shaped_of_ZipB (by kernel_rfl) (by kernel_rfl)) (by kernel_rfl)
   (OpenSpec.preRow_of_cond 9 hx (by kernel_rfl) (λk hk=>by cases hk) (by kernel_rfl) (by rw[MakeChecks.laidMetH_plain _ _ _ (by kernel_rfl)];exact laidMet_laidAll _ (by kernel_rfl) (by kernel_rfl)))) ?_
 intro W base args ds gs before hval0 hW hcnd hk hsz hL0 _ _;have hval:∀(j:Nat) t v,Tryd.f3.params[j]?=some t->args[j]?=some v->Value.okWide Tryd.prog W .any base t v:=hval0;have hW':=hW;obtain⟨p,q,hA0,hV,rfl,hfz,hnd⟩:=hW;have hA:DataW.TrodAll enc Tryd.prog W 0 (λ_=>true) true Tryd.f3.params.toList args.toList ds p:=hA0;have hA1:=hA;rw[Tryd.params3]at hA hval;obtain⟨v0,vs0,d0,ds0,p0,q0,hargs,rfl,rfl,h0,r0⟩:=trodAll_cons hA;obtain⟨v1,vs1,d1,ds1,p1,q1,rfl,rfl,rfl,h1,r1⟩:=trodAll_cons r0;obtain⟨v2,vs2,d2,ds2,p2,q2,rfl,rfl,rfl,h2,r2⟩:=trodAll_cons r1;obtain⟨v3,vs3,d3,ds3,p3,q3,rfl,rfl,rfl,h3,r3⟩:=trodAll_cons r2;obtain⟨v4,vs4,d4,ds4,p4,q4,rfl,rfl,rfl,h4,r4⟩:=trodAll_cons r3;obtain⟨rfl,rfl,rfl⟩:=trodAll_nil r4
 obtain rfl:args= #[v0,v1,v2,v3,v4]:=by cases args;simp_all
 obtain⟨rfl,rfl⟩:=trodVars_none hV;obtain⟨cs0,f0,rfl,w0⟩:=argAggAB 9 Tryd.underlying24 (by kernel_rfl:leaves Tryd.prog 9 24=some lv_api_Set) (hval 0 24 _ rfl rfl) h0;obtain⟨x0,e0,y0⟩:=mk_api_Set w0;subst e0;obtain⟨z1,rfl,w1⟩:=argInt Tryd.underlying3 (hval 1 3 _ rfl rfl) h1;obtain⟨z2,rfl,w2⟩:=argInt Tryd.underlying3 (hval 2 3 _ rfl rfl) h2;obtain⟨z3,rfl,w3⟩:=argInt Tryd.underlying3 (hval 3 3 _ rfl rfl) h3;obtain⟨z4,rfl,w4⟩:=argInt Tryd.underlying5 (hval 4 5 _ rfl rfl) h4;clear hA0 hval0
 have hL:laidMet Tryd.prog Rows.setSaysRow.laid W:=by rw[MakeChecks.laidMetH_plain _ _ _ (by kernel_rfl)]at hL0;exact hL0
 refine(walk H enc W x0 f0 _ y0 z1 w1 z2 w2 z3 w3 z4 w4 hL W (HM.on W)).mono λe W' ⟨v,he,bel,hv⟩=>?_;subst he;subst hv;exact⟨_,rfl,_,_,_,[],_,[],hW',trodAll_mk1 (shut_bool Tryd.underlying4 _),trodAll_below top_laidOut bel (by kernel_rfl) hA1,rfl,bel.frame _,λh=>by cases h⟩
theorem top (walk:WalkGoal):Rows.SetSaysSaid:=
 OpenClaim.holds_of_cond 3 Tryd.f3 rfl rfl rfl rfl rfl rfl rfl ⟨rfl,rfl,rfl,rfl,rfl⟩ rfl rfl rfl rfl rfl (by kernel_rfl) Tryd.func3 (by kernel_rfl)
  (of_decide_eq_true (by kernel_rfl)) (by unfold Func.isWrapper;first|(rw[if_pos (by decide+kernel)];kernel_rfl)|(rw[if_neg (by decide+kernel)];exact⟨rfl,rfl⟩))
  (λos started H enc _ F=>by rw[OpenClaim.pre_eq_preRow];exact top_lifted walk os started H enc F)
theorem top_plain (f:FuncId) (fn:Func) (hf:Tryd.pinned.checked.prog.funcNamed "chaffcutter/chafflaw.SetSays"=some f) (hfn:Tryd.pinned.checked.prog.funcs[f]?=some fn):
  Rows.setSaysCard.stood.looks=Tryd.pinned.checked.prog.looks []/\∀(j:Nat) t,fn.params[j]?=some t->Tryd.pinned.checked.prog.wantsStandIn t=false:=by
 obtain rfl:f=3:=Option.some.inj ((show Tryd.prog.funcNamed "chaffcutter/chafflaw.SetSays"=some 3 by kernel_rfl).symm.trans hf) |>.symm
 obtain rfl:fn=Tryd.f3:=(Option.some.inj (Tryd.func3.symm.trans hfn)).symm;refine⟨by kernel_rfl,λj t ht=>?_⟩;rw[Tryd.params3]at ht
 have hm:t∈[24,3,3,3,5]:=by simpa using Array.mem_of_getElem? ht
 have hall:([24,3,3,3,5].all λu=> !Tryd.prog.wantsStandIn u)=true:=by kernel_rfl
 exact(show Tryd.prog.wantsStandIn t=false by simpa using List.all_eq_true.1 hall t hm)
theorem card (h:Rows.SetSaysSaid):Rows.SetSaysCardSaid:=
 Claim7.holds_tied_plain_at .later [] _ _ _ _ h (λ_ h=>by cases h) (by kernel_rfl) (λ_ h=>by cases h) setSays_row_tie rfl ⟨rfl,rfl⟩ (by kernel_rfl) rfl top_plain (by kernel_rfl)
end Go.Proofs.YtjecddabdlapbaaDoor.lawSetSays
