/- The outermost frame of TopMutants; printed by program. -/
import Derived.Test.YtmnilbfhfjdelaaM2
import Derived.Test.YtmnilbfhfjdelaaWellG
import Derived.Test.YtmnilbfhfjdelaaM3
import Derived.Test.YtmnilbfhfjdelaaPackG
import Derived.Test.YtmnilbfhfjdelaaM4
import Derived.Test.YtmnilbfhfjdelaaM5
import Derived.Test.YtmnilbfhfjdelaaM1
namespace Go.Proofs.Ytmnilbfhfjdelaa.lawTopMutants
open Go.Gx Go.RowKit Go.ChangeShapes Go.WideShapes Go.ChangeAt
set_option linter.unusedVariables false
open core
def In_L_Rule {H:Type} (enc:TypeId×Value->H) (w:World) (n B:Nat) (x:Sl3):Prop:=LeafB enc Try.prog w n B (.sl 36 119) (.slice x.a x.l x.c)
def In_L_Expr {H:Type} (enc:TypeId×Value->H) (w:World) (n B:Nat) (x:Sl3):Prop:=LeafB enc Try.prog w n B (.sl 115 117) (.slice x.a x.l x.c)
def In_api_Expr {H:Type} (enc:TypeId×Value->H) (w:World) (n B:Nat) (x:X_api_Expr):Prop:=∃b6:Nat,(Lit.int .i64 x.Kind).wf=true/\(Lit.int .u64 x.Set.w0).wf=true/\(Lit.int .u64 x.Set.w1).wf=true/\(Lit.int .u64 x.Set.w2).wf=true/\(Lit.int .u64 x.Set.w3).wf=true/\x.Text.length<=maxLen/\In_L_Expr enc w n b6 ⟨x.Kids_a,x.Kids_l,x.Kids_c⟩/\1+1+1+1+1+(x.Text.length+1)+b6<=B
abbrev lv_api_Expr:List Leaf:=[.int .i64,.int .u64,.int .u64,.int .u64,.int .u64,.str,.sl 115 117]
theorem mk_api_Expr {H:Type} {enc:TypeId×Value->H} {w:World} {n B:Nat} {cs:List Value} (h:LvB enc Try.prog w n B lv_api_Expr cs):∃x:X_api_Expr,cs=x.cells/\In_api_Expr enc w n B x:=by
 obtain⟨b0,c0,_,_,s0,rfl,⟨p0,z0,rfl,w0⟩,b1,c1,_,_,s1,rfl,⟨p1,z1,rfl,w1⟩,b2,c2,_,_,s2,rfl,⟨p2,z2,rfl,w2⟩,b3,c3,_,_,s3,rfl,⟨p3,z3,rfl,w3⟩,b4,c4,_,_,s4,rfl,⟨p4,z4,rfl,w4⟩,b5,c5,_,_,s5,rfl,⟨z5,rfl,w5,p5⟩,b6,c6,_,_,s6,rfl,w6,rfl⟩:=h;obtain⟨A6,l6,k6,rfl,w6⟩:=w6.slice;exact⟨⟨z0,⟨z1,z2,z3,z4⟩,z5,A6,l6,k6⟩,rfl,b6,w0,w1,w2,w3,w4,w5,w6,by first|omega|(simp only;omega)⟩
def In_api_Rule {H:Type} (enc:TypeId×Value->H) (w:World) (n B:Nat) (x:X_api_Rule):Prop:=∃b7:Nat,x.Name.length<=maxLen/\(Lit.int .i64 x.Body.Kind).wf=true/\(Lit.int .u64 x.Body.Set.w0).wf=true/\(Lit.int .u64 x.Body.Set.w1).wf=true/\(Lit.int .u64 x.Body.Set.w2).wf=true/\(Lit.int .u64 x.Body.Set.w3).wf=true/\x.Body.Text.length<=maxLen/\In_L_Expr enc w n b7 ⟨x.Body.Kids_a,x.Body.Kids_l,x.Body.Kids_c⟩/\(x.Name.length+1)+1+1+1+1+1+(x.Body.Text.length+1)+b7<=B
abbrev lv_api_Rule:List Leaf:=[.str,.int .i64,.int .u64,.int .u64,.int .u64,.int .u64,.str,.sl 115 117]
theorem mk_api_Rule {H:Type} {enc:TypeId×Value->H} {w:World} {n B:Nat} {cs:List Value} (h:LvB enc Try.prog w n B lv_api_Rule cs):∃x:X_api_Rule,cs=x.cells/\In_api_Rule enc w n B x:=by
 obtain⟨b0,c0,_,_,s0,rfl,⟨z0,rfl,w0,p0⟩,b1,c1,_,_,s1,rfl,⟨p1,z1,rfl,w1⟩,b2,c2,_,_,s2,rfl,⟨p2,z2,rfl,w2⟩,b3,c3,_,_,s3,rfl,⟨p3,z3,rfl,w3⟩,b4,c4,_,_,s4,rfl,⟨p4,z4,rfl,w4⟩,b5,c5,_,_,s5,rfl,⟨p5,z5,rfl,w5⟩,b6,c6,_,_,s6,rfl,⟨z6,rfl,w6,p6⟩,b7,c7,_,_,s7,rfl,w7,rfl⟩:=h;obtain⟨A7,l7,k7,rfl,w7⟩:=w7.slice;exact⟨⟨z0,⟨z1,⟨z2,z3,z4,z5⟩,z6,A7,l7,k7⟩⟩,rfl,b7,w0,w1,w2,w3,w4,w5,w6,w7,by first|omega|(simp only;omega)⟩
theorem open_L_Expr {H:Type} {enc:TypeId×Value->H} {w:World} {n B:Nat} {x:Sl3} (h:In_L_Expr enc w n B x):∃(xs:List (X_api_Expr)) (bs:List Nat),SlV (HM w) x.a x.l x.c 7 (cl X_api_Expr.cells xs)/\xs.length=x.l/\x.l<=maxLen/\All2 (λe b=>∃k,k<n/\In_api_Expr enc w k b e) xs bs/\bs.sum+1<=B:=by
 obtain⟨A,l,c,xss,bs,e,hsl,hlen,hmax,hall,hsum⟩:=open_slB (v:=.slice x.a x.l x.c) (ls:=lv_api_Expr) 9 7 (by kernel_rfl) (by kernel_rfl) rfl (by decide) h;cases e
 obtain⟨es,rfl,hes⟩:=typedB (f:=X_api_Expr.cells) (p:=λb e=>∃k,k<n/\In_api_Expr enc w k b e) xss bs (hall.mono λcs b ⟨k,hk,hcs⟩=>by
  obtain⟨e,he,hi⟩:=mk_api_Expr hcs;exact⟨e,he,k,hk,hi⟩)
 exact⟨es,bs,hsl,by simpa using hlen,hmax,hes,hsum⟩
theorem open_L_Rule {H:Type} {enc:TypeId×Value->H} {w:World} {n B:Nat} {x:Sl3} (h:In_L_Rule enc w n B x):∃(xs:List (X_api_Rule)) (bs:List Nat),SlV (HM w) x.a x.l x.c 8 (cl X_api_Rule.cells xs)/\xs.length=x.l/\x.l<=maxLen/\All2 (λe b=>∃k,k<n/\In_api_Rule enc w k b e) xs bs/\bs.sum+1<=B:=by
 obtain⟨A,l,c,xss,bs,e,hsl,hlen,hmax,hall,hsum⟩:=open_slB (v:=.slice x.a x.l x.c) (ls:=lv_api_Rule) 9 8 (by kernel_rfl) (by kernel_rfl) rfl (by decide) h;cases e
 obtain⟨es,rfl,hes⟩:=typedB (f:=X_api_Rule.cells) (p:=λb e=>∃k,k<n/\In_api_Rule enc w k b e) xss bs (hall.mono λcs b ⟨k,hk,hcs⟩=>by
  obtain⟨e,he,hi⟩:=mk_api_Rule hcs;exact⟨e,he,k,hk,hi⟩)
 exact⟨es,bs,hsl,by simpa using hlen,hmax,hes,hsum⟩
def WalkGoal:Prop:=∀(H:Type) (enc:TypeId×Value->H) (W:World) (x0:Sl3) (n0 B0:Nat) (_:In_L_Rule enc W n0 B0 x0) (x1:List UInt8) (_:x1.length<=140737488351232) (x2:Int) (_:(Lit.int .i64 x2).wf=true) (x3:Int) (_:(Lit.int .i64 x3).wf=true),CallE Try.prog 10 #[.agg #[.slice x0.a x0.l x0.c],.string (mkS x1),.int .i64 x2,.int .i64 x3] (HM W) (λv _=>v= .bool true)
theorem top_own:ownKnob Try.prog.godebug=none:=by kernel_rfl
theorem top_laidOut:laidOutB Try.prog=true:=by kernel_rfl
set_option maxRecDepth 100000 in
theorem top_lifted (walk:WalkGoal) (os:Os) (started:os.Started) (H:Type) (enc:TypeId×Value->H):
  ReturnsInHanded {} Try.checked os 10 .any (Rows.topMutantsSpec.pre6 enc Try.prog Try.f10 Rows.topMutantsRow.domain false) (Rows.topMutantsSpec.post enc Try.prog Try.f10 false true false false):=by
 refine returnsInHanded_of_change_sized (C:=Try.checked) top_own started (by kernel_rfl) Try.func10
  (ChangeSpec.witness6 (enc:=enc) (C:=Try.checked) false ⟨#[],#[.agg #[.slice none 0 0],.string (mkS []),.int .i64 0,.int .i64 0],[]⟩ 9 (by kernel_rfl) (by kernel_rfl) (by kernel_rfl) (by kernel_rfl)) ?_
 intro W base args ds gs before hval0 hW hcnd hsz _;have hval:∀(j:Nat) t v,Try.f10.params[j]?=some t->args[j]?=some v->Value.okWide Try.prog W .any base t v:=hval0;have hW':=hW;obtain⟨p,q,hA0,hV,rfl,hfz,hnd⟩:=hW;have hA:DataW.TrodAll enc Try.prog W 0 (λ_=>true) true Try.f10.params.toList args.toList ds p:=hA0;have hA1:=hA;rw[Try.params10]at hA hval;obtain⟨v0,vs0,d0,ds0,p0,q0,hargs,rfl,rfl,h0,r0⟩:=trodAll_cons hA;obtain⟨v1,vs1,d1,ds1,p1,q1,rfl,rfl,rfl,h1,r1⟩:=trodAll_cons r0;obtain⟨v2,vs2,d2,ds2,p2,q2,rfl,rfl,rfl,h2,r2⟩:=trodAll_cons r1;obtain⟨v3,vs3,d3,ds3,p3,q3,rfl,rfl,rfl,h3,r3⟩:=trodAll_cons r2;obtain⟨rfl,rfl,rfl⟩:=trodAll_nil r3
 obtain rfl:args= #[v0,v1,v2,v3]:=by cases args;simp_all
 obtain⟨rfl,rfl⟩:=trodVars_none hV;obtain⟨cs0,f0,rfl,w0⟩:=argAggB 9 Try.underlying38 (by kernel_rfl:leaves Try.prog 9 38=some [.sl 36 119]) (hval 0 38 _ rfl rfl) h0;obtain⟨b0,c0,_,_,sb0,rfl,w0,rfl⟩:=w0;obtain⟨A0,l0,c0,rfl,w0⟩:=w0.slice;replace w0:LeafB enc Try.prog W f0 (dBulk d0) (.sl 36 119) (.slice A0 l0 c0):=w0.mono (Nat.le_refl _) (by omega) _ _;obtain⟨s1,rfl,rfl,w1⟩:=argStrB Try.underlying9 (hval 1 9 _ rfl rfl) h1;have y1:s1.length<=140737488351232:=sized_string hsz (j:=1) (t:=9) (by kernel_rfl) rfl;obtain⟨z2,rfl,w2⟩:=argInt Try.underlying3 (hval 2 3 _ rfl rfl) h2;obtain⟨z3,rfl,w3⟩:=argInt Try.underlying3 (hval 3 3 _ rfl rfl) h3;clear hA0 hval0;refine(walk H enc W ⟨A0,l0,c0⟩ f0 _ w0 s1 y1 z2 w2 z3 w3 W (HM.on W)).mono λe W' ⟨v,he,bel,hv⟩=>?_;subst he;subst hv;exact⟨_,rfl,_,_,_,[],_,[],hW',trodAll_mk1 (shut_bool Try.underlying4 _),trodAll_below top_laidOut bel (by kernel_rfl) hA1,rfl,bel.frame _,λh=>by cases h⟩
theorem top (walk:WalkGoal):Rows.TopMutantsSaid:=
 OpenClaim.holds_of_wide 10 Try.f10 rfl rfl rfl rfl rfl rfl rfl ⟨rfl,rfl,rfl,rfl,rfl⟩ rfl rfl rfl rfl rfl (by kernel_rfl) Try.func10 (by kernel_rfl)
  (of_decide_eq_true (by kernel_rfl)) (by unfold Func.isWrapper;first|(rw[if_pos (by decide+kernel)];kernel_rfl)|(rw[if_neg (by decide+kernel)];exact⟨rfl,rfl⟩))
  (λos started H enc _=>top_lifted walk os started H enc)
end Go.Proofs.Ytmnilbfhfjdelaa.lawTopMutants
