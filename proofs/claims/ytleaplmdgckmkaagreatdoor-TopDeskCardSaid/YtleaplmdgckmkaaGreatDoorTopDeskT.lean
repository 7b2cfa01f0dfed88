/- The outermost frame of TopDesk; printed by program. -/
import Derived.Test.YtleaplmdgckmkaaGreatDoorM2
import Derived.Test.YtleaplmdgckmkaaGreatDoorM3
import Derived.Test.YtleaplmdgckmkaaGreatDoorWellG
import Derived.Test.YtleaplmdgckmkaaGreatDoorM4
import Derived.Test.YtleaplmdgckmkaaGreatDoorPackG
import Derived.Test.YtleaplmdgckmkaaGreatDoorM5
import Derived.Test.YtleaplmdgckmkaaGreatDoorReadG
import Derived.Test.YtleaplmdgckmkaaGreatDoorDeskG
import Derived.Test.YtleaplmdgckmkaaGreatDoorM1
import Derived.Test.YtleaplmdgckmkaaGreatDoorCards
import Derived.Test.YtleaplmdgckmkaaGreatDoorTie
import Derived.SevenTiedAt
namespace Go.Proofs.YtleaplmdgckmkaaGreatDoor.lawTopDesk
open Go.Gx Go.RowKit Go.ChangeShapes Go.WideShapes Go.ChangeAt
set_option linter.unusedVariables false
open core
def qje {H:Type} (enc:TypeId×Value->H) (w:World) (n B:Nat) (x:Sl3):Prop:=qhn enc Tryz.prog w n B (.sl 22 52) (.slice x.a x.l x.c)
def qjf {H:Type} (enc:TypeId×Value->H) (w:World) (n B:Nat) (x:Sl3):Prop:=qhn enc Tryz.prog w n B (.sl 48 50) (.slice x.a x.l x.c)
def qfl {H:Type} (enc:TypeId×Value->H) (w:World) (n B:Nat) (x:qaa):Prop:=∃b6:Nat,(Lit.int .i64 x.Kind).wf=true/\(Lit.int .u64 x.Set.w0).wf=true/\(Lit.int .u64 x.Set.w1).wf=true/\(Lit.int .u64 x.Set.w2).wf=true/\(Lit.int .u64 x.Set.w3).wf=true/\x.Text.length<=maxLen/\qjf enc w n b6 ⟨x.Kids_a,x.Kids_l,x.Kids_c⟩/\1+1+1+1+1+(x.Text.length+1)+b6<=B
abbrev qiU:List qmN:=[.int .i64,.int .u64,.int .u64,.int .u64,.int .u64,.str,.sl 48 50]
theorem qmr {H:Type} {enc:TypeId×Value->H} {w:World} {n B:Nat} {cs:List Value} (h:LvB enc Tryz.prog w n B qiU cs):∃x:qaa,cs=x.cells/\qfl enc w n B x:=by
 obtain⟨b0,c0,_,_,s0,rfl,⟨p0,z0,rfl,w0⟩,b1,c1,_,_,s1,rfl,⟨p1,z1,rfl,w1⟩,b2,c2,_,_,s2,rfl,⟨p2,z2,rfl,w2⟩,b3,c3,_,_,s3,rfl,⟨p3,z3,rfl,w3⟩,b4,c4,_,_,s4,rfl,⟨p4,z4,rfl,w4⟩,b5,c5,_,_,s5,rfl,⟨z5,rfl,w5,p5⟩,b6,c6,_,_,s6,rfl,w6,rfl⟩:=h;obtain⟨A6,l6,k6,rfl,w6⟩:=w6.slice;exact⟨⟨z0,⟨z1,z2,z3,z4⟩,z5,A6,l6,k6⟩,rfl,b6,w0,w1,w2,w3,w4,w5,w6,by first|omega|(simp only;omega)⟩
def qgJ {H:Type} (enc:TypeId×Value->H) (w:World) (n B:Nat) (x:qai):Prop:=∃b7:Nat,x.Name.length<=maxLen/\(Lit.int .i64 x.Body.Kind).wf=true/\(Lit.int .u64 x.Body.Set.w0).wf=true/\(Lit.int .u64 x.Body.Set.w1).wf=true/\(Lit.int .u64 x.Body.Set.w2).wf=true/\(Lit.int .u64 x.Body.Set.w3).wf=true/\x.Body.Text.length<=maxLen/\qjf enc w n b7 ⟨x.Body.Kids_a,x.Body.Kids_l,x.Body.Kids_c⟩/\(x.Name.length+1)+1+1+1+1+1+(x.Body.Text.length+1)+b7<=B
abbrev qiT:List qmN:=[.str,.int .i64,.int .u64,.int .u64,.int .u64,.int .u64,.str,.sl 48 50]
theorem qmq {H:Type} {enc:TypeId×Value->H} {w:World} {n B:Nat} {cs:List Value} (h:LvB enc Tryz.prog w n B qiT cs):∃x:qai,cs=x.cells/\qgJ enc w n B x:=by
 obtain⟨b0,c0,_,_,s0,rfl,⟨z0,rfl,w0,p0⟩,b1,c1,_,_,s1,rfl,⟨p1,z1,rfl,w1⟩,b2,c2,_,_,s2,rfl,⟨p2,z2,rfl,w2⟩,b3,c3,_,_,s3,rfl,⟨p3,z3,rfl,w3⟩,b4,c4,_,_,s4,rfl,⟨p4,z4,rfl,w4⟩,b5,c5,_,_,s5,rfl,⟨p5,z5,rfl,w5⟩,b6,c6,_,_,s6,rfl,⟨z6,rfl,w6,p6⟩,b7,c7,_,_,s7,rfl,w7,rfl⟩:=h;obtain⟨A7,l7,k7,rfl,w7⟩:=w7.slice;exact⟨⟨z0,⟨z1,⟨z2,z3,z4,z5⟩,z6,A7,l7,k7⟩⟩,rfl,b7,w0,w1,w2,w3,w4,w5,w6,w7,by first|omega|(simp only;omega)⟩
theorem qmp {H:Type} {enc:TypeId×Value->H} {w:World} {n B:Nat} {x:Sl3} (h:qjf enc w n B x):∃(xs:List (qaa)) (bs:List Nat),SlV (HM w) x.a x.l x.c 7 (cl qaa.cells xs)/\xs.length=x.l/\x.l<=maxLen/\qcX (λe b=>∃k,k<n/\qfl enc w k b e) xs bs/\bs.sum+1<=B:=by
 obtain⟨A,l,c,xss,bs,e,hsl,hlen,hmax,hall,hsum⟩:=qnc (v:=.slice x.a x.l x.c) (ls:=qiU) 9 7 (by kernel_rfl) (by kernel_rfl) rfl (by decide) h;cases e
 obtain⟨es,rfl,hes⟩:=qo1 (f:=qaa.cells) (p:=λb e=>∃k,k<n/\qfl enc w k b e) xss bs (hall.mono λcs b ⟨k,hk,hcs⟩=>by
  obtain⟨e,he,hi⟩:=qmr hcs;exact⟨e,he,k,hk,hi⟩)
 exact⟨es,bs,hsl,by simpa using hlen,hmax,hes,hsum⟩
theorem qmo {H:Type} {enc:TypeId×Value->H} {w:World} {n B:Nat} {x:Sl3} (h:qje enc w n B x):∃(xs:List (qai)) (bs:List Nat),SlV (HM w) x.a x.l x.c 8 (cl qai.cells xs)/\xs.length=x.l/\x.l<=maxLen/\qcX (λe b=>∃k,k<n/\qgJ enc w k b e) xs bs/\bs.sum+1<=B:=by
 obtain⟨A,l,c,xss,bs,e,hsl,hlen,hmax,hall,hsum⟩:=qnc (v:=.slice x.a x.l x.c) (ls:=qiT) 9 8 (by kernel_rfl) (by kernel_rfl) rfl (by decide) h;cases e
 obtain⟨es,rfl,hes⟩:=qo1 (f:=qai.cells) (p:=λb e=>∃k,k<n/\qgJ enc w k b e) xss bs (hall.mono λcs b ⟨k,hk,hcs⟩=>by
  obtain⟨e,he,hi⟩:=qmq hcs;exact⟨e,he,k,hk,hi⟩)
 exact⟨es,bs,hsl,by simpa using hlen,hmax,hes,hsum⟩
def qkG:Prop:=∀(H:Type) (enc:TypeId×Value->H) (W:World) (x0:Sl3) (n0 B0:Nat) (_:qje enc W n0 B0 x0) (x1:List UInt8) (_:x1.length<=140737488351232) (_:laidMet Tryz.prog Rows.topDeskRow.laid W) (_:W.ShapedOpen Tryz.prog),qaf Tryz.prog 3 #[.agg #[.slice x0.a x0.l x0.c],.string (mkS x1)] (HM W) (λv _=>v= .bool true)
theorem qsk:ownKnob Tryz.prog.godebug=none:=by kernel_rfl
theorem ql7:laidOutB Tryz.prog=true:=by kernel_rfl
theorem qo3 (os:Os) {H:Type} (enc:TypeId×Value->H):∃places,DataW.whole enc Tryz.prog ((World.laidAll Tryz.prog os Rows.topDeskRow.laid).forCall (λ_ _=>0) ⟨#[],#[.agg #[.slice none 0 0],.string (mkS [])],[]⟩).memory Tryz.f3.params.toList Rows.topDeskSpec.vars false #[.agg #[.slice none 0 0],.string (mkS [])].toList 9=some ([.agg [.nil],.lit (.string [])],[],places):=
 ⟨[],by kernel_rfl⟩
set_option maxRecDepth 100000 in
theorem qn6 (walk:qkG) (os:Os) (started:os.Started) (H:Type) (enc:TypeId×Value->H) (F:Stop.Interp):
  ReturnsInHanded {} Tryz.checked os 3 .any ((OpenSpec.ofChange Rows.topDeskSpec).preRow enc Tryz.prog Tryz.f3 Rows.topDeskRow.domain false Rows.topDeskRow.laid) (((OpenSpec.ofChange Rows.topDeskSpec).at F).post enc Tryz.prog Tryz.f3 false true false false):=by
 obtain⟨places,hx⟩:=qo3 os enc;refine returnsInHanded_of_row (C:=Tryz.checked) (s:=OpenSpec.ofChange Rows.topDeskSpec) qsk started (by kernel_rfl) Tryz.func3
  (qgN (enc:=enc) (C:=Tryz.checked) (World.laidAll Tryz.prog os Rows.topDeskRow.laid) #[.agg #[.slice none 0 0],.string (mkS [])] rfl (World.shaped_of_ZipB (by kernel_rfl) (by kernel_rfl)) (by kernel_rfl)
   (OpenSpec.preRow_of_cond 9 hx (by kernel_rfl) (λk hk=>by cases hk) (by kernel_rfl) (by rw[MakeChecks.laidMetH_plain _ _ _ (by kernel_rfl)];exact laidMet_laidAll _ (by kernel_rfl) (by kernel_rfl)))) ?_
 intro W base args ds gs before hval0 hW hcnd hk hsz hL0 hsh _;have hval:∀(j:Nat) t v,Tryz.f3.params[j]?=some t->args[j]?=some v->Value.okWide Tryz.prog W .any base t v:=hval0;have hW':=hW;obtain⟨p,q,hA0,hV,rfl,hfz,hnd⟩:=hW;have hA:DataW.TrodAll enc Tryz.prog W 0 (λ_=>true) true Tryz.f3.params.toList args.toList ds p:=hA0;have hA1:=hA;rw[Tryz.params3]at hA hval;obtain⟨v0,vs0,d0,ds0,p0,q0,hargs,rfl,rfl,h0,r0⟩:=trodAll_cons hA;obtain⟨v1,vs1,d1,ds1,p1,q1,rfl,rfl,rfl,h1,r1⟩:=trodAll_cons r0;obtain⟨rfl,rfl,rfl⟩:=trodAll_nil r1
 obtain rfl:args= #[v0,v1]:=by cases args;simp_all
 obtain⟨rfl,rfl⟩:=trodVars_none hV;obtain⟨cs0,f0,rfl,w0⟩:=qs6 9 Tryz.underlying24 (by kernel_rfl:qh1 Tryz.prog 9 24=some [.sl 22 52]) (hval 0 24 _ rfl rfl) h0;obtain⟨b0,c0,_,_,sb0,rfl,w0,rfl⟩:=w0;obtain⟨A0,l0,c0,rfl,w0⟩:=w0.slice;replace w0:qhn enc Tryz.prog W f0 (qcv d0) (.sl 22 52) (.slice A0 l0 c0):=w0.mono (Nat.le_refl _) (by omega) _ _;obtain⟨s1,rfl,rfl,w1⟩:=qs5 Tryz.underlying9 (hval 1 9 _ rfl rfl) h1;have y1:s1.length<=140737488351232:=sized_string hsz (j:=1) (t:=9) (by kernel_rfl) rfl;clear hA0 hval0
 have hL:laidMet Tryz.prog Rows.topDeskRow.laid W:=by rw[MakeChecks.laidMetH_plain _ _ _ (by kernel_rfl)]at hL0;exact hL0
 refine(walk H enc W ⟨A0,l0,c0⟩ f0 _ w0 s1 y1 hL hsh W (HM.on W)).mono λe W' ⟨v,he,bel,hv⟩=>?_;subst he;subst hv;exact⟨_,rfl,_,_,_,[],_,[],hW',trodAll_mk1 (shut_bool Tryz.underlying4 _),qgP ql7 bel (by kernel_rfl) hA1,rfl,bel.frame _,λh=>by cases h⟩
theorem top (walk:qkG):Rows.TopDeskSaid:=
 OpenClaim.holds_of_cond 3 Tryz.f3 rfl rfl rfl rfl rfl rfl rfl ⟨rfl,rfl,rfl,rfl,rfl⟩ rfl rfl rfl rfl rfl (by kernel_rfl) Tryz.func3 (by kernel_rfl)
  (of_decide_eq_true (by kernel_rfl)) (by unfold Func.isWrapper;first|(rw[if_pos (by decide+kernel)];kernel_rfl)|(rw[if_neg (by decide+kernel)];exact⟨rfl,rfl⟩))
  (λos started H enc _ F=>by rw[OpenClaim.pre_eq_preRow];exact qn6 walk os started H enc F)
theorem qo4 (f:FuncId) (fn:Func) (hf:Tryz.pinned.checked.prog.funcNamed Rows.topDeskRow.func=some f) (hfn:Tryz.pinned.checked.prog.funcs[f]?=some fn):
  Rows.topDeskCard.stood.looks=Tryz.pinned.checked.prog.looks []/\∀(j:Nat) t,fn.params[j]?=some t->Tryz.pinned.checked.prog.wantsStandIn t=false:=by
 obtain rfl:f=3:=Option.some.inj ((show Tryz.prog.funcNamed Rows.topDeskRow.func=some 3 by kernel_rfl).symm.trans hf) |>.symm
 obtain rfl:fn=Tryz.f3:=(Option.some.inj (Tryz.func3.symm.trans hfn)).symm;refine⟨by kernel_rfl,λj t ht=>?_⟩;rw[Tryz.params3]at ht
 have hm:t∈[24,9]:=by simpa using Array.mem_of_getElem? ht
 have hall:([24,9].all λu=> !Tryz.prog.wantsStandIn u)=true:=by kernel_rfl
 exact(show Tryz.prog.wantsStandIn t=false by simpa using List.all_eq_true.1 hall t hm)
theorem card (h:Rows.TopDeskSaid):Rows.TopDeskCardSaid:=
 Claim7.holds_tied_plain_at .later [] _ _ _ _ h (λ_ h=>by cases h) (by kernel_rfl) (λ_ h=>by cases h) topDesk_row_tie rfl ⟨rfl,rfl⟩ (by kernel_rfl) rfl qo4 (by kernel_rfl)
end Go.Proofs.YtleaplmdgckmkaaGreatDoor.lawTopDesk
