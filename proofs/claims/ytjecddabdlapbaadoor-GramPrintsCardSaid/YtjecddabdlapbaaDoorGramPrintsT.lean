/- The outermost frame of GramPrints; printed by program. -/
import Derived.Test.YtjecddabdlapbaaDoorCoreG
import Derived.Test.YtjecddabdlapbaaDoorM2
import Derived.Test.YtjecddabdlapbaaDoorM1
import Derived.Test.YtjecddabdlapbaaDoorCards
import Derived.Test.YtjecddabdlapbaaDoorTie
import Derived.SevenTiedAt
namespace Go.Proofs.YtjecddabdlapbaaDoor.lawGramPrints
open Go.Gx Go.RowKit Go.ChangeShapes Go.WideShapes Go.ChangeAt
set_option linter.unusedVariables false
open core
def In_L_Rule {H:Type} (enc:TypeId×Value->H) (w:World) (n B:Nat) (x:Sl3):Prop:=LeafB enc Tryd.prog w n B (.sl 67 125) (.slice x.a x.l x.c)
def In_L_Expr {H:Type} (enc:TypeId×Value->H) (w:World) (n B:Nat) (x:Sl3):Prop:=LeafB enc Tryd.prog w n B (.sl 54 56) (.slice x.a x.l x.c)
def In_api_Expr {H:Type} (enc:TypeId×Value->H) (w:World) (n B:Nat) (x:X_api_Expr):Prop:=∃b6:Nat,(Lit.int .i64 x.Kind).wf=true/\(Lit.int .u64 x.Set.w0).wf=true/\(Lit.int .u64 x.Set.w1).wf=true/\(Lit.int .u64 x.Set.w2).wf=true/\(Lit.int .u64 x.Set.w3).wf=true/\x.Text.length<=maxLen/\In_L_Expr enc w n b6 ⟨x.Kids_a,x.Kids_l,x.Kids_c⟩/\1+1+1+1+1+(x.Text.length+1)+b6<=B
abbrev lv_api_Expr:List Leaf:=[.int .i64,.int .u64,.int .u64,.int .u64,.int .u64,.str,.sl 54 56]
theorem mk_api_Expr {H:Type} {enc:TypeId×Value->H} {w:World} {n B:Nat} {cs:List Value} (h:LvB enc Tryd.prog w n B lv_api_Expr cs):∃x:X_api_Expr,cs=x.cells/\In_api_Expr enc w n B x:=by
 obtain⟨b0,c0,_,_,s0,rfl,⟨p0,z0,rfl,w0⟩,b1,c1,_,_,s1,rfl,⟨p1,z1,rfl,w1⟩,b2,c2,_,_,s2,rfl,⟨p2,z2,rfl,w2⟩,b3,c3,_,_,s3,rfl,⟨p3,z3,rfl,w3⟩,b4,c4,_,_,s4,rfl,⟨p4,z4,rfl,w4⟩,b5,c5,_,_,s5,rfl,⟨z5,rfl,w5,p5⟩,b6,c6,_,_,s6,rfl,w6,rfl⟩:=h;obtain⟨A6,l6,k6,rfl,w6⟩:=w6.slice;exact⟨⟨z0,⟨z1,z2,z3,z4⟩,z5,A6,l6,k6⟩,rfl,b6,w0,w1,w2,w3,w4,w5,w6,by first|omega|(simp only;omega)⟩
def In_api_Rule {H:Type} (enc:TypeId×Value->H) (w:World) (n B:Nat) (x:X_api_Rule):Prop:=∃b7:Nat,x.Name.length<=maxLen/\(Lit.int .i64 x.Body.Kind).wf=true/\(Lit.int .u64 x.Body.Set.w0).wf=true/\(Lit.int .u64 x.Body.Set.w1).wf=true/\(Lit.int .u64 x.Body.Set.w2).wf=true/\(Lit.int .u64 x.Body.Set.w3).wf=true/\x.Body.Text.length<=maxLen/\In_L_Expr enc w n b7 ⟨x.Body.Kids_a,x.Body.Kids_l,x.Body.Kids_c⟩/\(x.Name.length+1)+1+1+1+1+1+(x.Body.Text.length+1)+b7<=B
abbrev lv_api_Rule:List Leaf:=[.str,.int .i64,.int .u64,.int .u64,.int .u64,.int .u64,.str,.sl 54 56]
theorem mk_api_Rule {H:Type} {enc:TypeId×Value->H} {w:World} {n B:Nat} {cs:List Value} (h:LvB enc Tryd.prog w n B lv_api_Rule cs):∃x:X_api_Rule,cs=x.cells/\In_api_Rule enc w n B x:=by
 obtain⟨b0,c0,_,_,s0,rfl,⟨z0,rfl,w0,p0⟩,b1,c1,_,_,s1,rfl,⟨p1,z1,rfl,w1⟩,b2,c2,_,_,s2,rfl,⟨p2,z2,rfl,w2⟩,b3,c3,_,_,s3,rfl,⟨p3,z3,rfl,w3⟩,b4,c4,_,_,s4,rfl,⟨p4,z4,rfl,w4⟩,b5,c5,_,_,s5,rfl,⟨p5,z5,rfl,w5⟩,b6,c6,_,_,s6,rfl,⟨z6,rfl,w6,p6⟩,b7,c7,_,_,s7,rfl,w7,rfl⟩:=h;obtain⟨A7,l7,k7,rfl,w7⟩:=w7.slice;exact⟨⟨z0,⟨z1,⟨z2,z3,z4,z5⟩,z6,A7,l7,k7⟩⟩,rfl,b7,w0,w1,w2,w3,w4,w5,w6,w7,by first|omega|(simp only;omega)⟩
theorem open_L_Expr {H:Type} {enc:TypeId×Value->H} {w:World} {n B:Nat} {x:Sl3} (h:In_L_Expr enc w n B x):∃(xs:List (X_api_Expr)) (bs:List Nat),SlV (HM w) x.a x.l x.c 7 (cl X_api_Expr.cells xs)/\xs.length=x.l/\x.l<=maxLen/\All2 (λe b=>∃k,k<n/\In_api_Expr enc w k b e) xs bs/\bs.sum+1<=B:=by
 obtain⟨A,l,c,xss,bs,e,hsl,hlen,hmax,hall,hsum⟩:=open_slB (v:=.slice x.a x.l x.c) (ls:=lv_api_Expr) 9 7 (by kernel_rfl) (by kernel_rfl) rfl (by decide) h;cases e
 obtain⟨es,rfl,hes⟩:=typedB (f:=X_api_Expr.cells) (p:=λb e=>∃k,k<n/\In_api_Expr enc w k b e) xss bs (hall.mono λcs b ⟨k,hk,hcs⟩=>by
  obtain⟨e,he,hi⟩:=mk_api_Expr hcs;exact⟨e,he,k,hk,hi⟩)
 exact⟨es,bs,hsl,by simpa using hlen,hmax,hes,hsum⟩
theorem open_L_Rule {H:Type} {enc:TypeId×Value->H} {w:World} {n B:Nat} {x:Sl3} (h:In_L_Rule enc w n B x):∃(xs:List (X_api_Rule)) (bs:List Nat),SlV (HM w) x.a x.l x.c 8 (cl X_api_Rule.cells xs)/\xs.length=x.l/\x.l<=maxLen/\All2 (λe b=>∃k,k<n/\In_api_Rule enc w k b e) xs bs/\bs.sum+1<=B:=by
 obtain⟨A,l,c,xss,bs,e,hsl,hlen,hmax,hall,hsum⟩:=open_slB (v:=.slice x.a x.l x.c) (ls:=lv_api_Rule) 9 8 (by kernel_rfl) (by kernel_rfl) rfl (by decide) h;cases e
 obtain⟨es,rfl,hes⟩:=typedB (f:=X_api_Rule.cells) (p:=λb e=>∃k,k<n/\In_api_Rule enc w k b e) xss bs (hall.mono λcs b ⟨k,hk,hcs⟩=>by
  obtain⟨e,he,hi⟩:=mk_api_Rule hcs;exact⟨e,he,k,hk,hi⟩)
 exact⟨es,bs,hsl,by simpa using hlen,hmax,hes,hsum⟩
def WalkGoal:Prop:=∀(H:Type) (enc:TypeId×Value->H) (W:World) (x0:Sl3) (n0 B0:Nat) (_:In_L_Rule enc W n0 B0 x0) (_:laidMet Tryd.prog Rows.gramPrintsRow.laid W),CallE Tryd.prog 10 #[.agg #[.slice x0.a x0.l x0.c]] (HM W) (λv _=>v= .bool true)
theorem top_own:ownKnob Tryd.prog.godebug=none:=by kernel_rfl
theorem top_laidOut:laidOutB Tryd.prog=true:=by kernel_rfl
theorem top_reads (os:Os) {H:Type} (enc:TypeId×Value->H):∃places,DataW.whole enc Tryd.prog ((World.laidAll Tryd.prog os Rows.gramPrintsRow.laid).forCall (λ_ _=>0) ⟨#[],#[.agg #[.slice none 0 0]],[]⟩).memory Tryd.f10.params.toList Rows.gramPrintsSpec.vars false #[.agg #[.slice none 0 0]].toList 9=some ([.agg [.nil]],[],places):=
 ⟨[],by kernel_rfl⟩
set_option maxRecDepth 100000 in
theorem top_lifted (walk:WalkGoal) (os:Os) (started:os.Started) (H:Type) (enc:TypeId×Value->H) (F:Stop.Interp):
  ReturnsInHanded {} Tryd.checked os 10 .any ((OpenSpec.ofChange Rows.gramPrintsSpec).preRow enc Tryd.prog Tryd.f10 Rows.gramPrintsRow.domain false Rows.gramPrintsRow.laid) (((OpenSpec.ofChange Rows.gramPrintsSpec).at F).post enc Tryd.prog Tryd.f10 false true false false):=by
 obtain⟨places,hx⟩:=top_reads os enc;refine returnsInHanded_of_row (C:=Tryd.checked) (s:=OpenSpec.ofChange Rows.gramPrintsSpec) top_own started (by kernel_rfl) Tryd.func10
  (witness_row_shaped (enc:=enc) (C:=Tryd.checked) (World.laidAll Tryd.prog os Rows.gramPrintsRow.laid) #[.agg #[.slice none 0 0]] rfl (World.shaped_of_ZipB (by kernel_rfl) (by kernel_rfl)) (by kernel_rfl)
   (OpenSpec.preRow_of_cond 9 hx (by kernel_rfl) (λk hk=>by cases hk) (by kernel_rfl) (by rw[MakeChecks.laidMetH_plain _ _ _ (by kernel_rfl)];exact laidMet_laidAll _ (by kernel_rfl) (by kernel_rfl)))) ?_
 intro W base args ds gs before hval0 hW hcnd hk hsz hL0 _ _;have hval:∀(j:Nat) t v,Tryd.f10.params[j]?=some t->args[j]?=some v->Value.okWide Tryd.prog W .any base t v:=hval0;have hW':=hW;obtain⟨p,q,hA0,hV,rfl,hfz,hnd⟩:=hW;have hA:DataW.TrodAll enc Tryd.prog W 0 (λ_=>true) true Tryd.f10.params.toList args.toList ds p:=hA0;have hA1:=hA;rw[Tryd.params10]at hA hval;obtain⟨v0,vs0,d0,ds0,p0,q0,hargs,rfl,rfl,h0,r0⟩:=trodAll_cons hA;obtain⟨rfl,rfl,rfl⟩:=trodAll_nil r0
 obtain rfl:args= #[v0]:=by cases args;simp_all
 obtain⟨rfl,rfl⟩:=trodVars_none hV;obtain⟨cs0,f0,rfl,w0⟩:=argAggB 9 Tryd.underlying69 (by kernel_rfl:leaves Tryd.prog 9 69=some [.sl 67 125]) (hval 0 69 _ rfl rfl) h0;obtain⟨b0,c0,_,_,sb0,rfl,w0,rfl⟩:=w0;obtain⟨A0,l0,c0,rfl,w0⟩:=w0.slice;replace w0:LeafB enc Tryd.prog W f0 (dBulk d0) (.sl 67 125) (.slice A0 l0 c0):=w0.mono (Nat.le_refl _) (by omega) _ _;clear hA0 hval0
 have hL:laidMet Tryd.prog Rows.gramPrintsRow.laid W:=by rw[MakeChecks.laidMetH_plain _ _ _ (by kernel_rfl)]at hL0;exact hL0
 refine(walk H enc W ⟨A0,l0,c0⟩ f0 _ w0 hL W (HM.on W)).mono λe W' ⟨v,he,bel,hv⟩=>?_;subst he;subst hv;exact⟨_,rfl,_,_,_,[],_,[],hW',trodAll_mk1 (shut_bool Tryd.underlying4 _),trodAll_below top_laidOut bel (by kernel_rfl) hA1,rfl,bel.frame _,λh=>by cases h⟩
theorem top (walk:WalkGoal):Rows.GramPrintsSaid:=
 OpenClaim.holds_of_cond 10 Tryd.f10 rfl rfl rfl rfl rfl rfl rfl ⟨rfl,rfl,rfl,rfl,rfl⟩ rfl rfl rfl rfl rfl (by kernel_rfl) Tryd.func10 (by kernel_rfl)
  (of_decide_eq_true (by kernel_rfl)) (by unfold Func.isWrapper;first|(rw[if_pos (by decide+kernel)];kernel_rfl)|(rw[if_neg (by decide+kernel)];exact⟨rfl,rfl⟩))
  (λos started H enc _ F=>by rw[OpenClaim.pre_eq_preRow];exact top_lifted walk os started H enc F)
theorem top_plain (f:FuncId) (fn:Func) (hf:Tryd.pinned.checked.prog.funcNamed Rows.gramPrintsRow.func=some f) (hfn:Tryd.pinned.checked.prog.funcs[f]?=some fn):
  Rows.gramPrintsCard.stood.looks=Tryd.pinned.checked.prog.looks []/\∀(j:Nat) t,fn.params[j]?=some t->Tryd.pinned.checked.prog.wantsStandIn t=false:=by
 obtain rfl:f=10:=Option.some.inj ((show Tryd.prog.funcNamed Rows.gramPrintsRow.func=some 10 by kernel_rfl).symm.trans hf) |>.symm
 obtain rfl:fn=Tryd.f10:=(Option.some.inj (Tryd.func10.symm.trans hfn)).symm;refine⟨by kernel_rfl,λj t ht=>?_⟩;rw[Tryd.params10]at ht
 have hm:t∈[69]:=by simpa using Array.mem_of_getElem? ht
 have hall:([69].all λu=> !Tryd.prog.wantsStandIn u)=true:=by kernel_rfl
 exact(show Tryd.prog.wantsStandIn t=false by simpa using List.all_eq_true.1 hall t hm)
theorem card (h:Rows.GramPrintsSaid):Rows.GramPrintsCardSaid:=
 Claim7.holds_tied_plain_at .later [] _ _ _ _ h (λ_ h=>by cases h) (by kernel_rfl) (λ_ h=>by cases h) gramPrints_row_tie rfl ⟨rfl,rfl⟩ (by kernel_rfl) rfl top_plain (by kernel_rfl)
end Go.Proofs.YtjecddabdlapbaaDoor.lawGramPrints
