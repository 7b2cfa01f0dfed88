/- The outermost frame of QuoteClasses; printed by program. -/
import Derived.Test.YtjecddabdlapbaaDoorM1
import Derived.Test.YtjecddabdlapbaaDoorClassG
import Derived.Test.YtjecddabdlapbaaDoorM2
import Derived.Test.YtjecddabdlapbaaDoorCards
import Derived.Test.YtjecddabdlapbaaDoorTie
import Derived.SevenTiedAt
namespace Go.Proofs.YtjecddabdlapbaaDoor.lawQuoteClasses
open Go.Gx Go.RowKit Go.ChangeShapes Go.WideShapes Go.ChangeAt
set_option linter.unusedVariables false
open core
def In_api_Set {H:Type} (enc:TypeId×Value->H) (w:World) (n B:Nat) (x:X_api_Set):Prop:=(Lit.int .u64 x.w0).wf=true/\(Lit.int .u64 x.w1).wf=true/\(Lit.int .u64 x.w2).wf=true/\(Lit.int .u64 x.w3).wf=true/\1+1+1+1<=B
abbrev lv_api_Set:List Leaf:=[.int .u64,.int .u64,.int .u64,.int .u64]
theorem mk_api_Set {H:Type} {enc:TypeId×Value->H} {w:World} {n B:Nat} {cs:List Value} (h:LvB enc Tryd.prog w n B lv_api_Set cs):∃x:X_api_Set,cs=x.cells/\In_api_Set enc w n B x:=by
 obtain⟨b0,c0,_,_,s0,rfl,⟨p0,z0,rfl,w0⟩,b1,c1,_,_,s1,rfl,⟨p1,z1,rfl,w1⟩,b2,c2,_,_,s2,rfl,⟨p2,z2,rfl,w2⟩,b3,c3,_,_,s3,rfl,⟨p3,z3,rfl,w3⟩,rfl⟩:=h;exact⟨⟨z0,z1,z2,z3⟩,rfl,w0,w1,w2,w3,by first|omega|(simp only;omega)⟩
def WalkGoal:Prop:=∀(H:Type) (enc:TypeId×Value->H) (W:World) (x0:X_api_Set) (n0 B0:Nat) (_:In_api_Set enc W n0 B0 x0) (x1:List UInt8) (_:x1.length<=140737488351232) (_:B0+(x1.length+1)<=1048576) (_:laidMet Tryd.prog Rows.quoteClassesUptoRow.laid W),CallE Tryd.prog 6 #[x0.val,.string (mkS x1)] (HM W) (λv _=>v= .bool true)
theorem top_own:ownKnob Tryd.prog.godebug=none:=by kernel_rfl
theorem top_laidOut:laidOutB Tryd.prog=true:=by kernel_rfl
mutual
theorem bulk1 {H:Type}:∀d:DataW H,Rows.uptoBulk d=dBulk d
 | .lit (.string _)=>by simp only[Rows.uptoBulk,dBulk]
 | .lit (.int _ _)=>by simp only[Rows.uptoBulk,dBulk]
 | .lit (.bool _)=>by simp only[Rows.uptoBulk,dBulk]
 | .lit l=>by cases l<;>simp only[Rows.uptoBulk,dBulk]
 | .nil=>by simp only[Rows.uptoBulk,dBulk]
 | .ptr d=>by simp only[Rows.uptoBulk,dBulk,bulk1 d]
 | .slice es ss=>by simp only[Rows.uptoBulk,dBulk,bulks es,bulks ss]
 | .agg ps=>by simp only[Rows.uptoBulk,dBulk,bulks ps]
 | .iface _ d=>by simp only[Rows.uptoBulk,dBulk,bulk1 d]
 | .map es=>by simp only[Rows.uptoBulk,dBulk,bulkEs es]
 | .held _=>by simp only[Rows.uptoBulk,dBulk]
theorem bulks {H:Type}:∀l:List (DataW H),Rows.uptoBulkAll l=dBulks l
 |[]=>by simp only[Rows.uptoBulkAll,dBulks]
 |d::r=>by simp only[Rows.uptoBulkAll,dBulks,bulk1 d,bulks r]
theorem bulkEs {H:Type}:∀l:List (Lit×DataW H),Rows.uptoBulkEntries l=dBulkEs l
 |[]=>by simp only[Rows.uptoBulkEntries,dBulkEs]
 |x::r=>by simp only[Rows.uptoBulkEntries,dBulkEs,bulkE x,bulkEs r]
theorem bulkE {H:Type}:∀x:Lit×DataW H,Rows.uptoBulkEntry x=dBulkE x
 |(.string _,d)=>by simp only[Rows.uptoBulkEntry,dBulkE,bulk1 d]
 |(.int _ _,d)=>by simp only[Rows.uptoBulkEntry,dBulkE,bulk1 d]
 |(.bool _,d)=>by simp only[Rows.uptoBulkEntry,dBulkE,bulk1 d]
 |(l,d)=>by cases l<;>simp only[Rows.uptoBulkEntry,dBulkE,bulk1 d]
end
theorem top_reads (os:Os) {H:Type} (enc:TypeId×Value->H):∃places,DataW.whole enc Tryd.prog ((World.laidAll Tryd.prog os Rows.quoteClassesUptoRow.laid).forCall (λ_ _=>0) ⟨#[],#[.agg #[.int .u64 0,.int .u64 0,.int .u64 0,.int .u64 0],.string (mkS [])],[]⟩).memory Tryd.f6.params.toList Rows.quoteClassesSpec.vars false #[.agg #[.int .u64 0,.int .u64 0,.int .u64 0,.int .u64 0],.string (mkS [])].toList 9=some ([.agg [.lit (.int .u64 0),.lit (.int .u64 0),.lit (.int .u64 0),.lit (.int .u64 0)],.lit (.string [])],[],places):=
 ⟨[],by kernel_rfl⟩
set_option maxRecDepth 100000 in
theorem top_lifted (walk:WalkGoal) (os:Os) (started:os.Started) (H:Type) (enc:TypeId×Value->H) (F:Stop.Interp):
  ReturnsInHanded {} Tryd.checked os 6 .any ((Rows.OpenSpec.upto Rows.quoteClassesSpec).preRow enc Tryd.prog Tryd.f6 Rows.quoteClassesUptoRow.domain false Rows.quoteClassesUptoRow.laid) (((Rows.OpenSpec.upto Rows.quoteClassesSpec).at F).post enc Tryd.prog Tryd.f6 false true false false):=by
 obtain⟨places,hx⟩:=top_reads os enc;refine returnsInHanded_of_row (C:=Tryd.checked) (s:=Rows.OpenSpec.upto Rows.quoteClassesSpec) top_own started (by kernel_rfl) Tryd.func6
  (witness_row_shaped (enc:=enc) (C:=Tryd.checked) (World.laidAll Tryd.prog os Rows.quoteClassesUptoRow.laid) #[.agg #[.int .u64 0,.int .u64 0,.int .u64 0,.int .u64 0],.string (mkS [])] rfl (World.shaped_of_ZipB (by kernel_rfl) (by kernel_rfl)) (by kernel_rfl)
   (OpenSpec.preRow_of_cond 9 hx (by kernel_rfl) (λk hk=>by cases hk;kernel_rfl) (by kernel_rfl) (by rw[MakeChecks.laidMetH_plain _ _ _ (by kernel_rfl)];exact laidMet_laidAll _ (by kernel_rfl) (by kernel_rfl)))) ?_
 intro W base args ds gs before hval0 hW hcnd hk hsz hL0 _ _;have hval:∀(j:Nat) t v,Tryd.f6.params[j]?=some t->args[j]?=some v->Value.okWide Tryd.prog W .any base t v:=hval0;have hW':=hW;obtain⟨p,q,hA0,hV,rfl,hfz,hnd⟩:=hW;have hA:DataW.TrodAll enc Tryd.prog W 0 (λ_=>true) true Tryd.f6.params.toList args.toList ds p:=hA0;have hA1:=hA;rw[Tryd.params6]at hA hval;obtain⟨v0,vs0,d0,ds0,p0,q0,hargs,rfl,rfl,h0,r0⟩:=trodAll_cons hA;obtain⟨v1,vs1,d1,ds1,p1,q1,rfl,rfl,rfl,h1,r1⟩:=trodAll_cons r0;obtain⟨rfl,rfl,rfl⟩:=trodAll_nil r1
 obtain rfl:args= #[v0,v1]:=by cases args;simp_all
 obtain⟨rfl,rfl⟩:=trodVars_none hV;obtain⟨cs0,f0,rfl,w0⟩:=argAggAB 9 Tryd.underlying24 (by kernel_rfl:leaves Tryd.prog 9 24=some lv_api_Set) (hval 0 24 _ rfl rfl) h0;obtain⟨x0,e0,y0⟩:=mk_api_Set w0;subst e0;obtain⟨s1,rfl,rfl,w1⟩:=argStrB Tryd.underlying9 (hval 1 9 _ rfl rfl) h1;have y1:s1.length<=140737488351232:=sized_string hsz (j:=1) (t:=9) (by kernel_rfl) rfl;clear hA0 hval0
 have hL:laidMet Tryd.prog Rows.quoteClassesUptoRow.laid W:=by rw[MakeChecks.laidMetH_plain _ _ _ (by kernel_rfl)]at hL0;exact hL0
 replace hk:=hk _ rfl
 have hb:dBulk d0+(s1.length+1)<=1048576:=by
  have h:=of_decide_eq_true hk;rw[bulks]at h;simp only[List.append_nil,dBulks,dBulk]at h;omega
 refine(walk H enc W x0 f0 _ y0 s1 y1 hb hL W (HM.on W)).mono λe W' ⟨v,he,bel,hv⟩=>?_;subst he;subst hv;exact⟨_,rfl,_,_,_,[],_,[],hW',trodAll_mk1 (shut_bool Tryd.underlying4 _),trodAll_below top_laidOut bel (by kernel_rfl) hA1,rfl,bel.frame _,λh=>by cases h⟩
theorem top (walk:WalkGoal):Rows.QuoteClassesUptoSaid:=
 OpenClaim.holds_of_cond 6 Tryd.f6 rfl rfl rfl rfl rfl rfl rfl ⟨rfl,rfl,rfl,rfl,rfl⟩ rfl rfl rfl rfl rfl (by kernel_rfl) Tryd.func6 (by kernel_rfl)
  (of_decide_eq_true (by kernel_rfl)) (by unfold Func.isWrapper;first|(rw[if_pos (by decide+kernel)];kernel_rfl)|(rw[if_neg (by decide+kernel)];exact⟨rfl,rfl⟩))
  (λos started H enc _ F=>by rw[OpenClaim.pre_eq_preRow];exact top_lifted walk os started H enc F)
theorem top_plain (f:FuncId) (fn:Func) (hf:Tryd.pinned.checked.prog.funcNamed Rows.quoteClassesUptoRow.func=some f) (hfn:Tryd.pinned.checked.prog.funcs[f]?=some fn):
  Rows.quoteClassesUptoCard.stood.looks=Tryd.pinned.checked.prog.looks []/\∀(j:Nat) t,fn.params[j]?=some t->Tryd.pinned.checked.prog.wantsStandIn t=false:=by
 obtain rfl:f=6:=Option.some.inj ((show Tryd.prog.funcNamed Rows.quoteClassesUptoRow.func=some 6 by kernel_rfl).symm.trans hf) |>.symm
 obtain rfl:fn=Tryd.f6:=(Option.some.inj (Tryd.func6.symm.trans hfn)).symm;refine⟨by kernel_rfl,λj t ht=>?_⟩;rw[Tryd.params6]at ht
 have hm:t∈[24,9]:=by simpa using Array.mem_of_getElem? ht
 have hall:([24,9].all λu=> !Tryd.prog.wantsStandIn u)=true:=by kernel_rfl
 exact(show Tryd.prog.wantsStandIn t=false by simpa using List.all_eq_true.1 hall t hm)
theorem card (h:Rows.QuoteClassesUptoSaid):Rows.QuoteClassesUptoCardSaid:=
 Claim7.holds_tied_plain_at .later [] _ _ _ _ h (λ_ h=>by cases h) (by kernel_rfl) (λ_ h=>by cases h) quoteClassesUpto_row_tie rfl ⟨rfl,rfl⟩ (by kernel_rfl) rfl top_plain (by kernel_rfl)
end Go.Proofs.YtjecddabdlapbaaDoor.lawQuoteClasses
