/- The outermost frame of EventBuilds; printed by program. -/
import Derived.Test.YtmnilbfhfjdelaaEventBuildsLawG
import Derived.Test.YtmnilbfhfjdelaaM1
namespace Go.Proofs.Ytmnilbfhfjdelaa.lawEventBuilds
open Go.Gx Go.RowKit Go.ChangeShapes Go.WideShapes Go.ChangeAt
set_option linter.unusedVariables false
open core
def In_L_Event {H:Type} (enc:TypeId×Value->H) (w:World) (n B:Nat) (x:Sl3):Prop:=LeafB enc Try.prog w n B (.sl 26 28) (.slice x.a x.l x.c)
def In_api_Event {H:Type} (enc:TypeId×Value->H) (w:World) (n B:Nat) (x:X_api_Event):Prop:=(Lit.int .i64 x.Kind).wf=true/\(Lit.int .i64 x.Rule).wf=true/\(Lit.int .i64 x.At).wf=true/\1+1+1<=B
abbrev lv_api_Event:List Leaf:=[.int .i64,.int .i64,.int .i64]
theorem mk_api_Event {H:Type} {enc:TypeId×Value->H} {w:World} {n B:Nat} {cs:List Value} (h:LvB enc Try.prog w n B lv_api_Event cs):∃x:X_api_Event,cs=x.cells/\In_api_Event enc w n B x:=by
 obtain⟨b0,c0,_,_,s0,rfl,⟨p0,z0,rfl,w0⟩,b1,c1,_,_,s1,rfl,⟨p1,z1,rfl,w1⟩,b2,c2,_,_,s2,rfl,⟨p2,z2,rfl,w2⟩,rfl⟩:=h;exact⟨⟨z0,z1,z2⟩,rfl,w0,w1,w2,by first|omega|(simp only;omega)⟩
theorem open_L_Event {H:Type} {enc:TypeId×Value->H} {w:World} {n B:Nat} {x:Sl3} (h:In_L_Event enc w n B x):∃(xs:List (X_api_Event)) (bs:List Nat),SlV (HM w) x.a x.l x.c 3 (cl X_api_Event.cells xs)/\xs.length=x.l/\x.l<=maxLen/\All2 (λe b=>∃k,k<n/\In_api_Event enc w k b e) xs bs/\bs.sum+1<=B:=by
 obtain⟨A,l,c,xss,bs,e,hsl,hlen,hmax,hall,hsum⟩:=open_slB (v:=.slice x.a x.l x.c) (ls:=lv_api_Event) 9 3 (by kernel_rfl) (by kernel_rfl) rfl (by decide) h;cases e
 obtain⟨es,rfl,hes⟩:=typedB (f:=X_api_Event.cells) (p:=λb e=>∃k,k<n/\In_api_Event enc w k b e) xss bs (hall.mono λcs b ⟨k,hk,hcs⟩=>by
  obtain⟨e,he,hi⟩:=mk_api_Event hcs;exact⟨e,he,k,hk,hi⟩)
 exact⟨es,bs,hsl,by simpa using hlen,hmax,hes,hsum⟩
def WalkGoal:Prop:=∀(H:Type) (enc:TypeId×Value->H) (W:World) (x0:Sl3) (n0 B0:Nat) (_:In_L_Event enc W n0 B0 x0) (_:B0<=1048576),CallE Try.prog 4 #[.slice x0.a x0.l x0.c] (HM W) (λv _=>v= .bool true)
theorem top_own:ownKnob Try.prog.godebug=none:=by kernel_rfl
theorem top_laidOut:laidOutB Try.prog=true:=by kernel_rfl
mutual
theorem bulk1 {H:Type}:∀d:DataW H,Rows.uptoBulk d=dBulk d
 | .lit (.string _)=>by simp only[Rows.uptoBulk,dBulk]
 | .lit (.int _ _)=>by simp only[Rows.uptoBulk,dBulk]
 | .lit (.bool _)=>by simp only[Rows.uptoBulk,dBulk]
 | .lit l=>by cases l<;>simp only[Rows.uptoBulk,dBulk]
 | .nil=>by simp only[Rows.uptoBulk,dBulk]
 | .ptr d=>by simp only[Rows.uptoBulk,dBulk,bulk1 d]
 | .slice es ss=>by simp only[Rows.uptoBulk,dBulk,bulks es,bulks ss]
 | .agg ps=>by simp only[Rows.uptoBulk,dBulk,bulks ps]
 | .iface _ d=>by simp only[Rows.uptoBulk,dBulk,bulk1 d]
 | .map es=>by simp only[Rows.uptoBulk,dBulk,bulkEs es]
 | .held _=>by simp only[Rows.uptoBulk,dBulk]
theorem bulks {H:Type}:∀l:List (DataW H),Rows.uptoBulkAll l=dBulks l
 |[]=>by simp only[Rows.uptoBulkAll,dBulks]
 |d::r=>by simp only[Rows.uptoBulkAll,dBulks,bulk1 d,bulks r]
theorem bulkEs {H:Type}:∀l:List (Lit×DataW H),Rows.uptoBulkEntries l=dBulkEs l
 |[]=>by simp only[Rows.uptoBulkEntries,dBulkEs]
 |x::r=>by simp only[Rows.uptoBulkEntries,dBulkEs,bulkE x,bulkEs r]
theorem bulkE {H:Type}:∀x:Lit×DataW H,Rows.uptoBulkEntry x=dBulkE x
 |(.string _,d)=>by simp only[Rows.uptoBulkEntry,dBulkE,bulk1 d]
 |(.int _ _,d)=>by simp only[Rows.uptoBulkEntry,dBulkE,bulk1 d]
 |(.bool _,d)=>by simp only[Rows.uptoBulkEntry,dBulkE,bulk1 d]
 |(l,d)=>by cases l<;>simp only[Rows.uptoBulkEntry,dBulkE,bulk1 d]
end
set_option maxRecDepth 100000 in
theorem top_lifted (walk:WalkGoal) (os:Os) (started:os.Started) (H:Type) (enc:TypeId×Value->H) (F:Stop.Interp):
  ReturnsInHanded {} Try.checked os 4 .any ((Rows.OpenSpec.upto Rows.eventBuildsSpec).pre6 enc Try.prog Try.f4 Rows.eventBuildsUptoRow.domain false) (((Rows.OpenSpec.upto Rows.eventBuildsSpec).at F).post enc Try.prog Try.f4 false true false false):=by
 refine returnsInHanded_of_cond_sized (C:=Try.checked) (s:=Rows.OpenSpec.upto Rows.eventBuildsSpec) (k:=Rows.uptoSmall) rfl top_own started (by kernel_rfl) Try.func4
  (OpenSpec.witness (enc:=enc) (C:=Try.checked) (s:=Rows.OpenSpec.upto Rows.eventBuildsSpec) (k:=Rows.uptoSmall) rfl false ⟨#[],#[.slice none 0 0],[]⟩ 9 (by kernel_rfl) (by kernel_rfl) (by kernel_rfl) (x:=([.nil],[],[])) (by kernel_rfl) rfl (by kernel_rfl)) ?_
 intro W base args ds gs before hval0 hW hcnd hk hsz _;have hval:∀(j:Nat) t v,Try.f4.params[j]?=some t->args[j]?=some v->Value.okWide Try.prog W .any base t v:=hval0;have hW':=hW;obtain⟨p,q,hA0,hV,rfl,hfz,hnd⟩:=hW;have hA:DataW.TrodAll enc Try.prog W 0 (λ_=>true) true Try.f4.params.toList args.toList ds p:=hA0;have hA1:=hA;rw[Try.params4]at hA hval;obtain⟨v0,vs0,d0,ds0,p0,q0,hargs,rfl,rfl,h0,r0⟩:=trodAll_cons hA;obtain⟨rfl,rfl,rfl⟩:=trodAll_nil r0
 obtain rfl:args= #[v0]:=by cases args;simp_all
 obtain⟨rfl,rfl⟩:=trodVars_none hV;obtain⟨A0,l0,c0,f0,rfl,w0⟩:=argSlB Try.underlying26 (hval 0 26 _ rfl rfl) h0;clear hA0 hval0
 have hb:dBulk d0<=1048576:=by
  have h:=of_decide_eq_true hk;rw[bulks]at h;simp only[List.append_nil,dBulks]at h;omega
 refine(walk H enc W ⟨A0,l0,c0⟩ f0 _ w0 hb W (HM.on W)).mono λe W' ⟨v,he,bel,hv⟩=>?_;subst he;subst hv;exact⟨_,rfl,_,_,_,[],_,[],hW',trodAll_mk1 (shut_bool Try.underlying4 _),trodAll_below top_laidOut bel (by kernel_rfl) hA1,rfl,bel.frame _,λh=>by cases h⟩
theorem top (walk:WalkGoal):Rows.EventBuildsUptoSaid:=
 OpenClaim.holds_of_cond 4 Try.f4 rfl rfl rfl rfl rfl rfl rfl ⟨rfl,rfl,rfl,rfl,rfl⟩ rfl rfl rfl rfl rfl (by kernel_rfl) Try.func4 (by kernel_rfl)
  (of_decide_eq_true (by kernel_rfl)) (by unfold Func.isWrapper;first|(rw[if_pos (by decide+kernel)];kernel_rfl)|(rw[if_neg (by decide+kernel)];exact⟨rfl,rfl⟩))
  (λos started H enc _ F=>top_lifted walk os started H enc F)
end Go.Proofs.Ytmnilbfhfjdelaa.lawEventBuilds
