/- The outermost frame of TreeTexts; printed by program. -/
import Derived.Test.YtjecddabdlapbaaDoorM1
import Derived.Test.YtjecddabdlapbaaDoorCards
import Derived.Test.YtjecddabdlapbaaDoorTie
import Derived.SevenTiedAt
namespace Go.Proofs.YtjecddabdlapbaaDoor.lawTreeTexts
open Go.Gx Go.RowKit Go.ChangeShapes Go.WideShapes Go.ChangeAt
set_option linter.unusedVariables false
open core
def In_L_Tree {H:Type} (enc:TypeId×Value->H) (w:World) (n B:Nat) (x:Sl3):Prop:=LeafB enc Tryd.prog w n B (.sl 46 48) (.slice x.a x.l x.c)
def In_api_Tree {H:Type} (enc:TypeId×Value->H) (w:World) (n B:Nat) (x:X_api_Tree):Prop:=∃b3:Nat,(Lit.int .i64 x.Rule).wf=true/\(Lit.int .i64 x.From).wf=true/\(Lit.int .i64 x.To).wf=true/\In_L_Tree enc w n b3 ⟨x.Kids_a,x.Kids_l,x.Kids_c⟩/\1+1+1+b3<=B
abbrev lv_api_Tree:List Leaf:=[.int .i64,.int .i64,.int .i64,.sl 46 48]
theorem mk_api_Tree {H:Type} {enc:TypeId×Value->H} {w:World} {n B:Nat} {cs:List Value} (h:LvB enc Tryd.prog w n B lv_api_Tree cs):∃x:X_api_Tree,cs=x.cells/\In_api_Tree enc w n B x:=by
 obtain⟨b0,c0,_,_,s0,rfl,⟨p0,z0,rfl,w0⟩,b1,c1,_,_,s1,rfl,⟨p1,z1,rfl,w1⟩,b2,c2,_,_,s2,rfl,⟨p2,z2,rfl,w2⟩,b3,c3,_,_,s3,rfl,w3,rfl⟩:=h;obtain⟨A3,l3,k3,rfl,w3⟩:=w3.slice;exact⟨⟨z0,z1,z2,A3,l3,k3⟩,rfl,b3,w0,w1,w2,w3,by first|omega|(simp only;omega)⟩
theorem open_L_Tree {H:Type} {enc:TypeId×Value->H} {w:World} {n B:Nat} {x:Sl3} (h:In_L_Tree enc w n B x):∃(xs:List (X_api_Tree)) (bs:List Nat),SlV (HM w) x.a x.l x.c 4 (cl X_api_Tree.cells xs)/\xs.length=x.l/\x.l<=maxLen/\All2 (λe b=>∃k,k<n/\In_api_Tree enc w k b e) xs bs/\bs.sum+1<=B:=by
 obtain⟨A,l,c,xss,bs,e,hsl,hlen,hmax,hall,hsum⟩:=open_slB (v:=.slice x.a x.l x.c) (ls:=lv_api_Tree) 9 4 (by kernel_rfl) (by kernel_rfl) rfl (by decide) h;cases e
 obtain⟨es,rfl,hes⟩:=typedB (f:=X_api_Tree.cells) (p:=λb e=>∃k,k<n/\In_api_Tree enc w k b e) xss bs (hall.mono λcs b ⟨k,hk,hcs⟩=>by
  obtain⟨e,he,hi⟩:=mk_api_Tree hcs;exact⟨e,he,k,hk,hi⟩)
 exact⟨es,bs,hsl,by simpa using hlen,hmax,hes,hsum⟩
def WalkGoal:Prop:=∀(H:Type) (enc:TypeId×Value->H) (W:World) (x0:X_api_Tree) (n0 B0:Nat) (_:In_api_Tree enc W n0 B0 x0) (_:B0<=1048576) (_:laidMet Tryd.prog Rows.treeTextsUptoRow.laid W),CallE Tryd.prog 7 #[x0.val] (HM W) (λv _=>v= .bool true)
theorem top_own:ownKnob Tryd.prog.godebug=none:=by kernel_rfl
theorem top_laidOut:laidOutB Tryd.prog=true:=by kernel_rfl
mutual
theorem bulk1 {H:Type}:∀d:DataW H,Rows.uptoBulk d=dBulk d
 | .lit (.string _)=>by simp only[Rows.uptoBulk,dBulk]
 | .lit (.int _ _)=>by simp only[Rows.uptoBulk,dBulk]
 | .lit (.bool _)=>by simp only[Rows.uptoBulk,dBulk]
 | .lit l=>by cases l<;>simp only[Rows.uptoBulk,dBulk]
 | .nil=>by simp only[Rows.uptoBulk,dBulk]
 | .ptr d=>by simp only[Rows.uptoBulk,dBulk,bulk1 d]
 | .slice es ss=>by simp only[Rows.uptoBulk,dBulk,bulks es,bulks ss]
 | .agg ps=>by simp only[Rows.uptoBulk,dBulk,bulks ps]
 | .iface _ d=>by simp only[Rows.uptoBulk,dBulk,bulk1 d]
 | .map es=>by simp only[Rows.uptoBulk,dBulk,bulkEs es]
 | .held _=>by simp only[Rows.uptoBulk,dBulk]
theorem bulks {H:Type}:∀l:List (DataW H),Rows.uptoBulkAll l=dBulks l
 |[]=>by simp only[Rows.uptoBulkAll,dBulks]
 |d::r=>by simp only[Rows.uptoBulkAll,dBulks,bulk1 d,bulks r]
theorem bulkEs {H:Type}:∀l:List (Lit×DataW H),Rows.uptoBulkEntries l=dBulkEs l
 |[]=>by simp only[Rows.uptoBulkEntries,dBulkEs]
 |x::r=>by simp only[Rows.uptoBulkEntries,dBulkEs,bulkE x,bulkEs r]
theorem bulkE {H:Type}:∀x:Lit×DataW H,Rows.uptoBulkEntry x=dBulkE x
 |(.string _,d)=>by simp only[Rows.uptoBulkEntry,dBulkE,bulk1 d]
 |(.int _ _,d)=>by simp only[Rows.uptoBulkEntry,dBulkE,bulk1 d]
 |(.bool _,d)=>by simp only[Rows.uptoBulkEntry,dBulkE,bulk1 d]
 |(l,d)=>by cases l<;>simp only[Rows.uptoBulkEntry,dBulkE,bulk1 d]
end
theorem top_reads (os:Os) {H:Type} (enc:TypeId×Value->H):∃places,DataW.whole enc Tryd.prog ((World.laidAll Tryd.prog os Rows.treeTextsUptoRow.laid).forCall (λ_ _=>0) ⟨#[],#[.agg #[.int .i64 0,.int .i64 0,.int .i64 0,.slice none 0 0]],[]⟩).memory Tryd.f7.params.toList Rows.treeTextsSpec.vars false #[.agg #[.int .i64 0,.int .i64 0,.int .i64 0,.slice none 0 0]].toList 9=some ([.agg [.lit (.int .i64 0),.lit (.int .i64 0),.lit (.int .i64 0),.nil]],[],places):=
 ⟨[],by kernel_rfl⟩
set_option maxRecDepth 100000 in
theorem top_lifted (walk:WalkGoal) (os:Os) (started:os.Started) (H:Type) (enc:TypeId×Value->H) (F:Stop.Interp):
  ReturnsInHanded {} Tryd.checked os 7 .any ((Rows.OpenSpec.upto Rows.treeTextsSpec).preRow enc Tryd.prog Tryd.f7 Rows.treeTextsUptoRow.domain false Rows.treeTextsUptoRow.laid) (((Rows.OpenSpec.upto Rows.treeTextsSpec).at F).post enc Tryd.prog Tryd.f7 false true false false):=by
 obtain⟨places,hx⟩:=top_reads os enc;refine returnsInHanded_of_row (C:=Tryd.checked) (s:=Rows.OpenSpec.upto Rows.treeTextsSpec) top_own started (by kernel_rfl) Tryd.func7
  (witness_row_shaped (enc:=enc) (C:=Tryd.checked) (World.laidAll Tryd.prog os Rows.treeTextsUptoRow.laid) #[.agg #[.int .i64 0,.int .i64 0,.int .i64 0,.slice none 0 0]] rfl (World.shaped_of_ZipB (by kernel_rfl) (by kernel_rfl)) (by kernel_rfl)
   (OpenSpec.preRow_of_cond 9 hx (by kernel_rfl) (λk hk=>by cases hk;kernel_rfl) (by kernel_rfl) (by rw[MakeChecks.laidMetH_plain _ _ _ (by kernel_rfl)];exact laidMet_laidAll _ (by kernel_rfl) (by kernel_rfl)))) ?_
 intro W base args ds gs before hval0 hW hcnd hk hsz hL0 _ _;have hval:∀(j:Nat) t v,Tryd.f7.params[j]?=some t->args[j]?=some v->Value.okWide Tryd.prog W .any base t v:=hval0;have hW':=hW;obtain⟨p,q,hA0,hV,rfl,hfz,hnd⟩:=hW;have hA:DataW.TrodAll enc Tryd.prog W 0 (λ_=>true) true Tryd.f7.params.toList args.toList ds p:=hA0;have hA1:=hA;rw[Tryd.params7]at hA hval;obtain⟨v0,vs0,d0,ds0,p0,q0,hargs,rfl,rfl,h0,r0⟩:=trodAll_cons hA;obtain⟨rfl,rfl,rfl⟩:=trodAll_nil r0
 obtain rfl:args= #[v0]:=by cases args;simp_all
 obtain⟨rfl,rfl⟩:=trodVars_none hV;obtain⟨cs0,f0,rfl,w0⟩:=argAggB 9 Tryd.underlying48 (by kernel_rfl:leaves Tryd.prog 9 48=some lv_api_Tree) (hval 0 48 _ rfl rfl) h0;obtain⟨x0,e0,y0⟩:=mk_api_Tree w0;subst e0;clear hA0 hval0
 have hL:laidMet Tryd.prog Rows.treeTextsUptoRow.laid W:=by rw[MakeChecks.laidMetH_plain _ _ _ (by kernel_rfl)]at hL0;exact hL0
 replace hk:=hk _ rfl
 have hb:dBulk d0<=1048576:=by
  have h:=of_decide_eq_true hk;rw[bulks]at h;simp only[List.append_nil,dBulks]at h;omega
 refine(walk H enc W x0 f0 _ y0 hb hL W (HM.on W)).mono λe W' ⟨v,he,bel,hv⟩=>?_;subst he;subst hv;exact⟨_,rfl,_,_,_,[],_,[],hW',trodAll_mk1 (shut_bool Tryd.underlying4 _),trodAll_below top_laidOut bel (by kernel_rfl) hA1,rfl,bel.frame _,λh=>by cases h⟩
theorem top (walk:WalkGoal):Rows.TreeTextsUptoSaid:=
 OpenClaim.holds_of_cond 7 Tryd.f7 rfl rfl rfl rfl rfl rfl rfl ⟨rfl,rfl,rfl,rfl,rfl⟩ rfl rfl rfl rfl rfl (by kernel_rfl) Tryd.func7 (by kernel_rfl)
  (of_decide_eq_true (by kernel_rfl)) (by unfold Func.isWrapper;first|(rw[if_pos (by decide+kernel)];kernel_rfl)|(rw[if_neg (by decide+kernel)];exact⟨rfl,rfl⟩))
  (λos started H enc _ F=>by rw[OpenClaim.pre_eq_preRow];exact top_lifted walk os started H enc F)
theorem top_plain (f:FuncId) (fn:Func) (hf:Tryd.pinned.checked.prog.funcNamed Rows.treeTextsUptoRow.func=some f) (hfn:Tryd.pinned.checked.prog.funcs[f]?=some fn):
  Rows.treeTextsUptoCard.stood.looks=Tryd.pinned.checked.prog.looks []/\∀(j:Nat) t,fn.params[j]?=some t->Tryd.pinned.checked.prog.wantsStandIn t=false:=by
 obtain rfl:f=7:=Option.some.inj ((show Tryd.prog.funcNamed Rows.treeTextsUptoRow.func=some 7 by kernel_rfl).symm.trans hf) |>.symm
 obtain rfl:fn=Tryd.f7:=(Option.some.inj (Tryd.func7.symm.trans hfn)).symm;refine⟨by kernel_rfl,λj t ht=>?_⟩;rw[Tryd.params7]at ht
 have hm:t∈[48]:=by simpa using Array.mem_of_getElem? ht
 have hall:([48].all λu=> !Tryd.prog.wantsStandIn u)=true:=by kernel_rfl
 exact(show Tryd.prog.wantsStandIn t=false by simpa using List.all_eq_true.1 hall t hm)
theorem card (h:Rows.TreeTextsUptoSaid):Rows.TreeTextsUptoCardSaid:=
 Claim7.holds_tied_plain_at .later [] _ _ _ _ h (λ_ h=>by cases h) (by kernel_rfl) (λ_ h=>by cases h) treeTextsUpto_row_tie rfl ⟨rfl,rfl⟩ (by kernel_rfl) rfl top_plain (by kernel_rfl)
end Go.Proofs.YtjecddabdlapbaaDoor.lawTreeTexts
