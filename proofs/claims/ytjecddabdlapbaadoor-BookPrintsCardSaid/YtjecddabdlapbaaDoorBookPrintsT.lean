/- The outermost frame of BookPrints; printed by program. -/
import Derived.Test.YtjecddabdlapbaaDoorM1
import Derived.Test.YtjecddabdlapbaaDoorCards
import Derived.Test.YtjecddabdlapbaaDoorTie
import Derived.SevenTiedAt
namespace Go.Proofs.YtjecddabdlapbaaDoor.lawBookPrints
open Go.Gx Go.RowKit Go.ChangeShapes Go.WideShapes Go.ChangeAt
set_option linter.unusedVariables false
open core
def In_L_Case {H:Type} (enc:TypeId×Value->H) (w:World) (n B:Nat) (x:Sl3):Prop:=LeafB enc Tryd.prog w n B (.sl 62 81) (.slice x.a x.l x.c)
def In_api_Case {H:Type} (enc:TypeId×Value->H) (w:World) (n B:Nat) (x:X_api_Case):Prop:=(Lit.int .i64 x.Kind).wf=true/\(Lit.int .i64 x.N).wf=true/\x.Text.length<=maxLen/\1+1+(x.Text.length+1)<=B
abbrev lv_api_Case:List Leaf:=[.int .i64,.int .i64,.str]
theorem mk_api_Case {H:Type} {enc:TypeId×Value->H} {w:World} {n B:Nat} {cs:List Value} (h:LvB enc Tryd.prog w n B lv_api_Case cs):∃x:X_api_Case,cs=x.cells/\In_api_Case enc w n B x:=by
 obtain⟨b0,c0,_,_,s0,rfl,⟨p0,z0,rfl,w0⟩,b1,c1,_,_,s1,rfl,⟨p1,z1,rfl,w1⟩,b2,c2,_,_,s2,rfl,⟨z2,rfl,w2,p2⟩,rfl⟩:=h;exact⟨⟨z0,z1,z2⟩,rfl,w0,w1,w2,by first|omega|(simp only;omega)⟩
theorem open_L_Case {H:Type} {enc:TypeId×Value->H} {w:World} {n B:Nat} {x:Sl3} (h:In_L_Case enc w n B x):∃(xs:List (X_api_Case)) (bs:List Nat),SlV (HM w) x.a x.l x.c 3 (cl X_api_Case.cells xs)/\xs.length=x.l/\x.l<=maxLen/\All2 (λe b=>∃k,k<n/\In_api_Case enc w k b e) xs bs/\bs.sum+1<=B:=by
 obtain⟨A,l,c,xss,bs,e,hsl,hlen,hmax,hall,hsum⟩:=open_slB (v:=.slice x.a x.l x.c) (ls:=lv_api_Case) 9 3 (by kernel_rfl) (by kernel_rfl) rfl (by decide) h;cases e
 obtain⟨es,rfl,hes⟩:=typedB (f:=X_api_Case.cells) (p:=λb e=>∃k,k<n/\In_api_Case enc w k b e) xss bs (hall.mono λcs b ⟨k,hk,hcs⟩=>by
  obtain⟨e,he,hi⟩:=mk_api_Case hcs;exact⟨e,he,k,hk,hi⟩)
 exact⟨es,bs,hsl,by simpa using hlen,hmax,hes,hsum⟩
def WalkGoal:Prop:=∀(H:Type) (enc:TypeId×Value->H) (W:World) (x0:Sl3) (n0 B0:Nat) (_:In_L_Case enc W n0 B0 x0) (_:laidMet Tryd.prog Rows.bookPrintsRow.laid W),CallE Tryd.prog 9 #[.slice x0.a x0.l x0.c] (HM W) (λv _=>v= .bool true)
theorem top_own:ownKnob Tryd.prog.godebug=none:=by kernel_rfl
theorem top_laidOut:laidOutB Tryd.prog=true:=by kernel_rfl
theorem top_reads (os:Os) {H:Type} (enc:TypeId×Value->H):∃places,DataW.whole enc Tryd.prog ((World.laidAll Tryd.prog os Rows.bookPrintsRow.laid).forCall (λ_ _=>0) ⟨#[],#[.slice none 0 0],[]⟩).memory Tryd.f9.params.toList Rows.bookPrintsSpec.vars false #[.slice none 0 0].toList 9=some ([.nil],[],places):=
 ⟨[],by kernel_rfl⟩
set_option maxRecDepth 100000 in
theorem top_lifted (walk:WalkGoal) (os:Os) (started:os.Started) (H:Type) (enc:TypeId×Value->H) (F:Stop.Interp):
  ReturnsInHanded {} Tryd.checked os 9 .any ((OpenSpec.ofChange Rows.bookPrintsSpec).preRow enc Tryd.prog Tryd.f9 Rows.bookPrintsRow.domain false Rows.bookPrintsRow.laid) (((OpenSpec.ofChange Rows.bookPrintsSpec).at F).post enc Tryd.prog Tryd.f9 false true false false):=by
 obtain⟨places,hx⟩:=top_reads os enc;refine returnsInHanded_of_row (C:=Tryd.checked) (s:=OpenSpec.ofChange Rows.bookPrintsSpec) top_own started (by kernel_rfl) Tryd.func9
  (witness_row_shaped (enc:=enc) (C:=Tryd.checked) (World.laidAll Tryd.prog os Rows.bookPrintsRow.laid) #[.slice none 0 0] rfl (World.shaped_of_ZipB (by kernel_rfl) (by kernel_rfl)) (by kernel_rfl)
   (OpenSpec.preRow_of_cond 9 hx (by kernel_rfl) (λk hk=>by cases hk) (by kernel_rfl) (by rw[MakeChecks.laidMetH_plain _ _ _ (by kernel_rfl)];exact laidMet_laidAll _ (by kernel_rfl) (by kernel_rfl)))) ?_
 intro W base args ds gs before hval0 hW hcnd hk hsz hL0 _ _;have hval:∀(j:Nat) t v,Tryd.f9.params[j]?=some t->args[j]?=some v->Value.okWide Tryd.prog W .any base t v:=hval0;have hW':=hW;obtain⟨p,q,hA0,hV,rfl,hfz,hnd⟩:=hW;have hA:DataW.TrodAll enc Tryd.prog W 0 (λ_=>true) true Tryd.f9.params.toList args.toList ds p:=hA0;have hA1:=hA;rw[Tryd.params9]at hA hval;obtain⟨v0,vs0,d0,ds0,p0,q0,hargs,rfl,rfl,h0,r0⟩:=trodAll_cons hA;obtain⟨rfl,rfl,rfl⟩:=trodAll_nil r0
 obtain rfl:args= #[v0]:=by cases args;simp_all
 obtain⟨rfl,rfl⟩:=trodVars_none hV;obtain⟨A0,l0,c0,f0,rfl,w0⟩:=argSlB Tryd.underlying62 (hval 0 62 _ rfl rfl) h0;clear hA0 hval0
 have hL:laidMet Tryd.prog Rows.bookPrintsRow.laid W:=by rw[MakeChecks.laidMetH_plain _ _ _ (by kernel_rfl)]at hL0;exact hL0
 refine(walk H enc W ⟨A0,l0,c0⟩ f0 _ w0 hL W (HM.on W)).mono λe W' ⟨v,he,bel,hv⟩=>?_;subst he;subst hv;exact⟨_,rfl,_,_,_,[],_,[],hW',trodAll_mk1 (shut_bool Tryd.underlying4 _),trodAll_below top_laidOut bel (by kernel_rfl) hA1,rfl,bel.frame _,λh=>by cases h⟩
theorem top (walk:WalkGoal):Rows.BookPrintsSaid:=
 OpenClaim.holds_of_cond 9 Tryd.f9 rfl rfl rfl rfl rfl rfl rfl ⟨rfl,rfl,rfl,rfl,rfl⟩ rfl rfl rfl rfl rfl (by kernel_rfl) Tryd.func9 (by kernel_rfl)
  (of_decide_eq_true (by kernel_rfl)) (by unfold Func.isWrapper;first|(rw[if_pos (by decide+kernel)];kernel_rfl)|(rw[if_neg (by decide+kernel)];exact⟨rfl,rfl⟩))
  (λos started H enc _ F=>by rw[OpenClaim.pre_eq_preRow];exact top_lifted walk os started H enc F)
theorem top_plain (f:FuncId) (fn:Func) (hf:Tryd.pinned.checked.prog.funcNamed Rows.bookPrintsRow.func=some f) (hfn:Tryd.pinned.checked.prog.funcs[f]?=some fn):
  Rows.bookPrintsCard.stood.looks=Tryd.pinned.checked.prog.looks []/\∀(j:Nat) t,fn.params[j]?=some t->Tryd.pinned.checked.prog.wantsStandIn t=false:=by
 obtain rfl:f=9:=Option.some.inj ((show Tryd.prog.funcNamed Rows.bookPrintsRow.func=some 9 by kernel_rfl).symm.trans hf) |>.symm
 obtain rfl:fn=Tryd.f9:=(Option.some.inj (Tryd.func9.symm.trans hfn)).symm;refine⟨by kernel_rfl,λj t ht=>?_⟩;rw[Tryd.params9]at ht
 have hm:t∈[62]:=by simpa using Array.mem_of_getElem? ht
 have hall:([62].all λu=> !Tryd.prog.wantsStandIn u)=true:=by kernel_rfl
 exact(show Tryd.prog.wantsStandIn t=false by simpa using List.all_eq_true.1 hall t hm)
theorem card (h:Rows.BookPrintsSaid):Rows.BookPrintsCardSaid:=
 Claim7.holds_tied_plain_at .later [] _ _ _ _ h (λ_ h=>by cases h) (by kernel_rfl) (λ_ h=>by cases h) bookPrints_row_tie rfl ⟨rfl,rfl⟩ (by kernel_rfl) rfl top_plain (by kernel_rfl)
end Go.Proofs.YtjecddabdlapbaaDoor.lawBookPrints
