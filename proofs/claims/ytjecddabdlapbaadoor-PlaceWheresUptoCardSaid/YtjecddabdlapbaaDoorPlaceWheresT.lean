/- The outermost frame of PlaceWheres; printed by program. -/
import Derived.Test.YtjecddabdlapbaaDoorPlaceG
import Derived.Test.YtjecddabdlapbaaDoorM2
import Derived.Test.YtjecddabdlapbaaDoorM1
import Derived.Test.YtjecddabdlapbaaDoorCards
import Derived.Test.YtjecddabdlapbaaDoorTie
import Derived.SevenTiedAt
namespace Go.Proofs.YtjecddabdlapbaaDoor.lawPlaceWheres
open Go.Gx Go.RowKit Go.ChangeShapes Go.WideShapes Go.ChangeAt
set_option linter.unusedVariables false
open core
def WalkGoal:Prop:=∀(H:Type) (enc:TypeId×Value->H) (W:World) (x0:List UInt8) (_:x0.length<=140737488351232) (x1:Int) (_:(Lit.int .i64 x1).wf=true) (_:(x0.length+1)<=1048576) (_:laidMet Tryd.prog Rows.placeWheresUptoRow.laid W),CallE Tryd.prog 4 #[.string (mkS x0),.int .i64 x1] (HM W) (λv _=>v= .bool true)
theorem top_own:ownKnob Tryd.prog.godebug=none:=by kernel_rfl
theorem top_laidOut:laidOutB Tryd.prog=true:=by kernel_rfl
mutual
theorem bulk1 {H:Type}:∀d:DataW H,Rows.uptoBulk d=dBulk d
 | .lit (.string _)=>by simp only[Rows.uptoBulk,dBulk]
 | .lit (.int _ _)=>by simp only[Rows.uptoBulk,dBulk]
 | .lit (.bool _)=>by simp only[Rows.uptoBulk,dBulk]
 | .lit l=>by cases l<;>simp only[Rows.uptoBulk,dBulk]
 | .nil=>by simp only[Rows.uptoBulk,dBulk]
 | .ptr d=>by simp only[Rows.uptoBulk,dBulk,bulk1 d]
 | .slice es ss=>by simp only[Rows.uptoBulk,dBulk,bulks es,bulks ss]
 | .agg ps=>by simp only[Rows.uptoBulk,dBulk,bulks ps]
 | .iface _ d=>by simp only[Rows.uptoBulk,dBulk,bulk1 d]
 | .map es=>by simp only[Rows.uptoBulk,dBulk,bulkEs es]
 | .held _=>by simp only[Rows.uptoBulk,dBulk]
theorem bulks {H:Type}:∀l:List (DataW H),Rows.uptoBulkAll l=dBulks l
 |[]=>by simp only[Rows.uptoBulkAll,dBulks]
 |d::r=>by simp only[Rows.uptoBulkAll,dBulks,bulk1 d,bulks r]
theorem bulkEs {H:Type}:∀l:List (Lit×DataW H),Rows.uptoBulkEntries l=dBulkEs l
 |[]=>by simp only[Rows.uptoBulkEntries,dBulkEs]
 |x::r=>by simp only[Rows.uptoBulkEntries,dBulkEs,bulkE x,bulkEs r]
theorem bulkE {H:Type}:∀x:Lit×DataW H,Rows.uptoBulkEntry x=dBulkE x
 |(.string _,d)=>by simp only[Rows.uptoBulkEntry,dBulkE,bulk1 d]
 |(.int _ _,d)=>by simp only[Rows.uptoBulkEntry,dBulkE,bulk1 d]
 |(.bool _,d)=>by simp only[Rows.uptoBulkEntry,dBulkE,bulk1 d]
 |(l,d)=>by cases l<;>simp only[Rows.uptoBulkEntry,dBulkE,bulk1 d]
end
theorem top_reads (os:Os) {H:Type} (enc:TypeId×Value->H):∃places,DataW.whole enc Tryd.prog ((World.laidAll Tryd.prog os Rows.placeWheresUptoRow.laid).forCall (λ_ _=>0) ⟨#[],#[.string (mkS []),.int .i64 0],[]⟩).memory Tryd.f4.params.toList Rows.placeWheresSpec.vars false #[.string (mkS []),.int .i64 0].toList 9=some ([.lit (.string []),.lit (.int .i64 0)],[],places):=
 ⟨[],by kernel_rfl⟩
set_option maxRecDepth 100000 in
theorem top_lifted (walk:WalkGoal) (os:Os) (started:os.Started) (H:Type) (enc:TypeId×Value->H) (F:Stop.Interp):
  ReturnsInHanded {} Tryd.checked os 4 .any ((Rows.OpenSpec.upto Rows.placeWheresSpec).preRow enc Tryd.prog Tryd.f4 Rows.placeWheresUptoRow.domain false Rows.placeWheresUptoRow.laid) (((Rows.OpenSpec.upto Rows.placeWheresSpec).at F).post enc Tryd.prog Tryd.f4 false true false false):=by
 obtain⟨places,hx⟩:=top_reads os enc;refine returnsInHanded_of_row (C:=Tryd.checked) (s:=Rows.OpenSpec.upto Rows.placeWheresSpec) top_own started (by kernel_rfl) Tryd.func4
  (witness_row_shaped (enc:=enc) (C:=Tryd.checked) (World.laidAll Tryd.prog os Rows.placeWheresUptoRow.laid) #[.string (mkS []),.int .i64 0] rfl (World.shaped_of_ZipB (by kernel_rfl) (by kernel_rfl)) (by kernel_rfl)
   (OpenSpec.preRow_of_cond 9 hx (by kernel_rfl) (λk hk=>by cases hk;kernel_rfl) (by kernel_rfl) (by rw[MakeChecks.laidMetH_plain _ _ _ (by kernel_rfl)];exact laidMet_laidAll _ (by kernel_rfl) (by kernel_rfl)))) ?_
 intro W base args ds gs before hval0 hW hcnd hk hsz hL0 _ _;have hval:∀(j:Nat) t v,Tryd.f4.params[j]?=some t->args[j]?=some v->Value.okWide Tryd.prog W .any base t v:=hval0;have hW':=hW;obtain⟨p,q,hA0,hV,rfl,hfz,hnd⟩:=hW;have hA:DataW.TrodAll enc Tryd.prog W 0 (λ_=>true) true Tryd.f4.params.toList args.toList ds p:=hA0;have hA1:=hA;rw[Tryd.params4]at hA hval;obtain⟨v0,vs0,d0,ds0,p0,q0,hargs,rfl,rfl,h0,r0⟩:=trodAll_cons hA;obtain⟨v1,vs1,d1,ds1,p1,q1,rfl,rfl,rfl,h1,r1⟩:=trodAll_cons r0;obtain⟨rfl,rfl,rfl⟩:=trodAll_nil r1
 obtain rfl:args= #[v0,v1]:=by cases args;simp_all
 obtain⟨rfl,rfl⟩:=trodVars_none hV;obtain⟨s0,rfl,rfl,w0⟩:=argStrB Tryd.underlying9 (hval 0 9 _ rfl rfl) h0;have y0:s0.length<=140737488351232:=sized_string hsz (j:=0) (t:=9) (by kernel_rfl) rfl;obtain⟨z1,rfl,w1⟩:=argInt Tryd.underlying3 (hval 1 3 _ rfl rfl) h1;clear hA0 hval0
 have hL:laidMet Tryd.prog Rows.placeWheresUptoRow.laid W:=by rw[MakeChecks.laidMetH_plain _ _ _ (by kernel_rfl)]at hL0;exact hL0
 replace hk:=hk _ rfl
 have hb:(s0.length+1)<=1048576:=by
  have h:=of_decide_eq_true hk;rw[bulks]at h;simp only[List.append_nil,dBulks,dBulk]at h;omega
 refine(walk H enc W s0 y0 z1 w1 hb hL W (HM.on W)).mono λe W' ⟨v,he,bel,hv⟩=>?_;subst he;subst hv;exact⟨_,rfl,_,_,_,[],_,[],hW',trodAll_mk1 (shut_bool Tryd.underlying4 _),trodAll_below top_laidOut bel (by kernel_rfl) hA1,rfl,bel.frame _,λh=>by cases h⟩
theorem top (walk:WalkGoal):Rows.PlaceWheresUptoSaid:=
 OpenClaim.holds_of_cond 4 Tryd.f4 rfl rfl rfl rfl rfl rfl rfl ⟨rfl,rfl,rfl,rfl,rfl⟩ rfl rfl rfl rfl rfl (by kernel_rfl) Tryd.func4 (by kernel_rfl)
  (of_decide_eq_true (by kernel_rfl)) (by unfold Func.isWrapper;first|(rw[if_pos (by decide+kernel)];kernel_rfl)|(rw[if_neg (by decide+kernel)];exact⟨rfl,rfl⟩))
  (λos started H enc _ F=>by rw[OpenClaim.pre_eq_preRow];exact top_lifted walk os started H enc F)
theorem top_plain (f:FuncId) (fn:Func) (hf:Tryd.pinned.checked.prog.funcNamed Rows.placeWheresUptoRow.func=some f) (hfn:Tryd.pinned.checked.prog.funcs[f]?=some fn):
  Rows.placeWheresUptoCard.stood.looks=Tryd.pinned.checked.prog.looks []/\∀(j:Nat) t,fn.params[j]?=some t->Tryd.pinned.checked.prog.wantsStandIn t=false:=by
 obtain rfl:f=4:=Option.some.inj ((show Tryd.prog.funcNamed Rows.placeWheresUptoRow.func=some 4 by kernel_rfl).symm.trans hf) |>.symm
 obtain rfl:fn=Tryd.f4:=(Option.some.inj (Tryd.func4.symm.trans hfn)).symm;refine⟨by kernel_rfl,λj t ht=>?_⟩;rw[Tryd.params4]at ht
 have hm:t∈[9,3]:=by simpa using Array.mem_of_getElem? ht
 have hall:([9,3].all λu=> !Tryd.prog.wantsStandIn u)=true:=by kernel_rfl
 exact(show Tryd.prog.wantsStandIn t=false by simpa using List.all_eq_true.1 hall t hm)
theorem card (h:Rows.PlaceWheresUptoSaid):Rows.PlaceWheresUptoCardSaid:=
 Claim7.holds_tied_plain_at .later [] _ _ _ _ h (λ_ h=>by cases h) (by kernel_rfl) (λ_ h=>by cases h) placeWheresUpto_row_tie rfl ⟨rfl,rfl⟩ (by kernel_rfl) rfl top_plain (by kernel_rfl)
end Go.Proofs.YtjecddabdlapbaaDoor.lawPlaceWheres
