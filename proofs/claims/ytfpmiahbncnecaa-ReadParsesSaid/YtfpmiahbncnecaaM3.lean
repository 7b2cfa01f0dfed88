/- Contracts and what they hang on, of several parts. No condition. -/
import Derived.Test.YtfpmiahbncnecaaM2
import Derived.Recover
import Derived.Test.YtfpmiahbncnecaaReadG
import Derived.Test.YtfpmiahbncnecaaRReadG
namespace Go.Gx
open Go.RowKit
def ResW (M:Mem) (L:Nat->Prop) (K:Value->Mem->Prop) (w:World):Ending->World->Prop:=λe w'=>∃v,e= .returned v/\Pres w (bwW w M L) w'/\K v (growW M w w')
abbrev EndL (P:Program) (fn:Func) (M:Mem) (L:Nat->Prop) (K:Value->Mem->Prop) (w:World) (a':Act) (w':World):Prop:=Leaves P fn a'.tmps (ResW M L K w) a'.defers .returning w'
abbrev EndZ (P:Program) (fn:Func) (M:Mem) (L:Nat->Prop) (K:Value->Mem->Prop) (w:World) (c:List PanicEntry) (a':Act) (w':World):Prop:=Leaves P fn a'.tmps (ResW M L K w) a'.defers (.panicking c) w'
theorem enterD {P:Program} {f:FuncId} {fn:Func} {c:Code} {l:List Value} {M:Mem} {L:Nat->Prop} {K:Value->Mem->Prop}
  (hf:P.funcs[f]?=some fn) (hb:fn.body=some c) (n:Nat) (hn:fn.ntmps=n) (hl:l.length<=n)
  (h:∀w a,@Sx dfs0 n w (bwW w M L) M w a (argEnv l 0) [] []->Wp P c (EndL P fn M L K w) [] (EndL P fn M L K w) (EndZ P fn M L K w) a w):
  CallW P f l.toArray M L K:=by
 intro w hw
 refine calls_of_wp_defers hf hb ?_
 refine Code.wp_mono (λe a' w' q=>?_) (h w _ ⟨⟨rfl,?_,λx v hx=>?_⟩,hw,Pres.refl _ _,(λx hx=>by cases hx),(λr hr=>by cases hr),⟨List.nodup_nil,(λx hx=>by cases hx),List.Pairwise.nil⟩⟩)
 ·cases e with
  |normal=>exact q
  |ret=>exact q
  |panic ch=>exact q
  |_=>exact q.elim
 ·simp[hn];omega
 ·obtain⟨_,h2⟩:=lk_argEnv l 0 x v hx
  simp only[Nat.sub_zero]at h2
  have hx':x<l.length:=by
   rcases Nat.lt_or_ge x l.length with h'|h'
   ·exact h'
   ·rw[List.getElem?_eq_none h']at h2;cases h2
  simp only[Array.getD_eq_getD_getElem?]
  rw[Array.getElem?_append_left (by simpa using hx')]
  simp[h2]
def slotNe (d:Nat):ResultVar->Bool
 | .tmp t=>t != d
 | .cell c _=>c != d
theorem results_put {fn:Func} {tmps:Array Value} {d:Nat} {v:Value} (h:fn.results.toList.all (slotNe d)=true):results fn (tmps.setIfInBounds d v)=results fn tmps:=by
 have hg:∀c,(c != d)=true->(tmps.setIfInBounds d v).getD c undef=tmps.getD c undef:=λc hc=>by
  have hne:d≠c:=λe=>by subst e;simp at hc
  simp only[Array.getD_eq_getD_getElem?,Array.getElem?_setIfInBounds_ne hne]
 unfold results
 rw[Array.mapM_eq_mapM_toList,Array.mapM_eq_mapM_toList]
 congr 2
 generalize fn.results.toList=l at h
 induction l with
 |nil=>rfl
 |cons r l ih=>
  simp only[List.all_cons,Bool.and_eq_true]at h
  rw[List.mapM_cons,List.mapM_cons,ih h.2]
  congr 1
  cases r with
  |tmp t=>simp only[hg t h.1]
  |cell c t=>simp only[hg c h.1]
theorem leaves_congr {P:Program} {fn:Func} {t t':Array Value} {R:Ending->World->Prop} (h:results fn t=results fn t'):∀(ds:List Deferred) (u:FrameMode) (w:World),Leaves P fn t R ds u w->Leaves P fn t' R ds u w
 |[],.returning,w,q=>by obtain⟨v,h1,h2⟩:=q;exact⟨v,by rw[<-h];exact h1,h2⟩
 |[],.panicking _,_,q=>q
 |[],.run,_,q=>q.elim
 |_::ds,_,_,q=>by
  obtain⟨h1,fv,cap,f,args,h2,h3,h4⟩:=q
  refine⟨h1,fv,cap,f,args,h2,h3,h4.mono λe u' w' q=>?_⟩
  cases e with
  |returned v=>exact leaves_congr h ds _ _ q
  |panicked ch=>exact leaves_congr h ds _ _ q
  |outgrown=>exact q
theorem QZ.ez {P:Program} {fn:Func} {M:Mem} {L:Nat->Prop} {K:Value->Mem->Prop} {E:World} {N:Act->World->Prop} {X:List (Nat×(Act->World->Prop))} {R:Act->World->Prop} {d:Nat} (h:fn.results.toList.all (slotNe d)=true):QZ (QQ N X R (EndZ P fn M L K E)) d:=
 λ_ _ _ _ q=>leaves_congr (results_put h) _ _ _ q
theorem invoke_fn {P:Program} {g:FuncId} {fn:Func} {caps:Array Value} {w:World} (hf:P.funcs[g]?=some fn) (hbody:fn.body.isNone=false) (hname:(fn.name== "runtime.NumGoroutine")=false):(invoke (.fn (.func g) caps) #[]).run P w= .ok (.enter g caps) w:=by
 have hname':¬fn.name= "runtime.NumGoroutine":=beq_eq_false_iff_ne.1 hname
 have hbody':¬fn.body=none:=by intro e;rw[e]at hbody;cases hbody
 simp[invoke,callFunc,hf,hbody',hname']
section
variable {P:Program} {ops:Array Oper} {Q:Exit->Act->World->Prop} {n:Nat} {E:World} {bw:List Nat} {M:Mem} {w:World} {a:Act} {env:Env} {bs:List Bx} {rs:List Rw} {rest:List Oper}
theorem stepDefer {c:Call} {ty:TypeId} {pos:String} {af:Array Edge} {f:Fn} {caps:Array Value} (hs:Sx n E bw M w a env bs rs) (hk:okOp env ⟨none,.defer c,ty,pos,af,none⟩=true) (hcal:∃x,c.callee= .value x/\evT env x= .func f #[] caps) (hargs:c.args= #[])
  (h:∀(I:Dfs),I.D=[⟨.fn f caps,#[]⟩]->∀a',@Sx I n E bw M w a' env bs rs->wpList P ops Q rest a' w):wpList P ops Q (⟨none,.defer c,ty,pos,af,none⟩::rest) a w:=by
 refine wpList_plain rfl λK hK=>?_
 obtain⟨x,hcx,hx⟩:=hcal
 unfold Oper.wp
 rw[hs.ag.exec hk]
 have hr:(execOp (evT env) ⟨none,.defer c,ty,pos,af,none⟩).run P w= .ok (.defer ⟨.fn f caps,#[]⟩) w:=by
  simp[execOp,resolve,hcx,hx,Deferred.ofValue,hargs]
 rw[hr]
 obtain⟨⟨h1,h2,h3⟩,h4,h5,h6,h7,h8⟩:=hs
 refine hK _ _ (h ⟨[⟨.fn f caps,#[]⟩]⟩ rfl _ (@Sx.mk ⟨[⟨.fn f caps,#[]⟩]⟩ _ _ _ _ _ _ _ _ _ (@Ag.mk ⟨[⟨.fn f caps,#[]⟩]⟩ _ _ _ ?_ h2 h3) h4 h5 h6 h7 h8))
 show _::a.defers=_
 rw[h1];rfl
end
section
variable [Dfs]
set_option linter.unusedSectionVars false
variable {P:Program} {ops:Array Oper} {N:Act->World->Prop} {X:List (Nat×(Act->World->Prop))} {R:Act->World->Prop} {Z:List PanicEntry->Act->World->Prop} {n:Nat} {E:World} {M M0:Mem} {L:Nat->Prop} {w:World} {a:Act} {env:Env} {bs:List Bx} {rs:List Rw} {rest:List Oper}
theorem stepCallD {Q:Exit->Act->World->Prop} {d f:Nat} {ty:TypeId} {c:Call} {pos:String} {af:Array Edge} {fn:Func} {K:Value->Mem->Prop} {Kp':List PanicEntry->Prop} {first caps:Array Value} (args:List Value) (hs:Sx n E (bwW E M0 L) M w a env bs rs) (hM:WX M M0 E)
  (hk:okOp env ⟨some d,.call c,ty,pos,af,none⟩=true) (hcal:∃x,c.callee= .value x/\evT env x= .func (.func f) first caps) (hargs:first.toList++c.args.toList.map (evT env)++caps.toList=args) (hf:P.funcs[f]?=some fn) (hbody:fn.body.isNone=false) (hname:(fn.name== "runtime.NumGoroutine")=false) (hdn:d<n)
  (hc:CallP P f args.toArray M (λb=>L b\/M0 b=none) K Kp') (hp:∀c a' w' M',Kp' c->WX M' M0 E->Sx n E (bwW E M0 L) M' w' a' env bs rs->Q (.panic c) a' w')
  (h:∀a' w' M' v,WX M' M0 E->K v M'->Sx n E (bwW E M0 L) M' w' a' ((d,v)::env) bs rs->wpList P ops Q rest a' w'):wpList P ops Q (⟨some d,.call c,ty,pos,af,none⟩::rest) a w:=by
 refine stepK (Z:=λc w'=>Pres w (bwW w M λb=>L b\/M0 b=none) w'/\Kp' c) (d:=d) hs (λc w' ⟨h1,h2⟩=>hp c a w' _ h2 (hM.grow hs h1) (hs.backW hM h1 hs.ag)) rfl hk rfl hdn ?_
 unfold OpW
 rw[run_call args hcal hargs hf hbody hname]
 refine(hc w hs.on).mono λe w' ⟨h1,h2⟩=>?_
 rcases h2 with⟨v,he,hK⟩|⟨ch,he,hK⟩
 ·subst he
  intro a' hA
  exact h a' w' _ v (hM.grow hs h1) hK (hs.backW hM h1 hA)
 ·subst he
  exact⟨h1,hK⟩
theorem leaveD {fn:Func} {K:Value->Mem->Prop} {g:FuncId} {caps:Array Value} {v:Value} (hs:Sx n E (bwW E M0 L) M w a env bs rs) (hI:Dfs.D=[⟨.fn (.func g) caps,#[]⟩]) (hM:WX M M0 E) (hr:(results fn a.tmps).run P w= .ok v w)
  (hi:(invoke (.fn (.func g) caps) #[]).run P w= .ok (.enter g caps) w) (hC:CallsD P g caps .returning w λe u' w'=>e= .returned (.tuple #[])/\u'= .returning/\w'=w) (hK:∀M',M.le M'->K v M'):EndL P fn M0 L K E a w:=by
 unfold EndL
 rw[hs.ag.df,hI]
 refine leaves_cons (by simp) hi (hC.mono ?_)
 rintro e u' w' ⟨rfl,rfl,rfl⟩
 refine⟨v,hr,v,rfl,hs.pr,hK _ λb o hb=>?_⟩
 unfold growW
 rw[if_pos ((hM.old b o hb).symm)]
 exact hs.on b o hb
theorem catchD {fn:Func} {K:Value->Mem->Prop} {g:FuncId} {caps:Array Value} {ch:List PanicEntry} {t:TypeId} {u:Value} (hs:Sx n E (bwW E M0 L) M w a env bs rs) (hI:Dfs.D=[⟨.fn (.func g) caps,#[]⟩])
  (hi:(invoke (.fn (.func g) caps) #[]).run P w= .ok (.enter g caps) w)
  (hC:CallsD P g caps (.panicking ch) w λe u' w'=>e= .returned (.tuple #[])/\u'= .panicking [{v:=.iface t u,recovered:=true}]/\∃M' bs' rs' v,WX M' M0 E/\Sx n E (bwW E M0 L) M' w' a env bs' rs'/\(results fn a.tmps).run P w'= .ok v w'/\∀M'',M'.le M''->K v M''):EndZ P fn M0 L K E ch a w:=by
 unfold EndZ
 rw[hs.ag.df,hI]
 refine leaves_cons (by simp) hi (hC.mono ?_)
 rintro e u' w' ⟨rfl,rfl,M',bs',rs',v,hM',hs',hr,hK⟩
 refine⟨v,hr,v,rfl,hs'.pr,hK _ λb o hb=>?_⟩
 unfold growW
 rw[if_pos ((hM'.old b o hb).symm)]
 exact hs'.on b o hb
theorem resCCC {fn:Func} {t0 t1 t2:TypeId} {c0 c1 c2 b0 b1 b2:Nat} {cs0:List Value} {x1 x2:Value} {bw:List Nat} (g:Bool) (hs:Sx n E bw M w a env [⟨b2,t2,[x2]⟩,⟨b1,t1,[x1]⟩,⟨b0,t0,cs0⟩] rs) (hr:fn.results= #[.cell c0 t0,.cell c1 t1,.cell c2 t2])
  (h0:lk env c0=some (.pointer (some ⟨b0,0,none⟩))) (h1:lk env c1=some (.pointer (some ⟨b1,0,none⟩))) (h2:lk env c2=some (.pointer (some ⟨b2,0,none⟩))) (ht0:tyOk P t0 g cs0.length=true) (ht1:tyOk P t1 false 1=true) (ht2:tyOk P t2 false 1=true):(results fn a.tmps).run P w= .ok (.tuple #[ofCells g cs0,x1,x2]) w:=by
 have r0:=run_cell (P:=P) (vs:=cs0) (k:=0) (g:=g) hs (i:=2) rfl ht0 (by simp)
 have r1:=run_cell (P:=P) (vs:=[x1]) (k:=0) (g:=false) hs (i:=1) rfl ht1 rfl
 have r2:=run_cell (P:=P) (vs:=[x2]) (k:=0) (g:=false) hs (i:=0) rfl ht2 rfl
 have e0:=hs.ag.at_ c0 _ h0
 have e1:=hs.ag.at_ c1 _ h1
 have e2:=hs.ag.at_ c2 _ h2
 simp only[results,hr]
 simp[-Array.getD_eq_getD_getElem?,e0,e1,e2,asAddr,r0,r1,r2]
 exact⟨rfl,rfl⟩
theorem Sx.cell1 {v x:Value} {b:Nat} {t:TypeId} {bw:List Nat} (hs:Sx n E bw M w a env bs rs) (i:Nat) (hi:bs[i]?=some ⟨b,t,[x]⟩):Sx n E bw M (w.setCell ⟨b,0,none⟩ v) a env (bs.set i ⟨b,t,[v]⟩) rs:=by
 have hb:=(hs.bx _ (List.mem_of_getElem? hi)).1
 have he:w.setCell ⟨b,0,none⟩ v=w.setRow b #[v]:=by
  unfold World.setCell World.setRow
  congr 1
  apply Array.ext_getElem?
  intro j
  rw[Array.getElem?_modify,Array.getElem?_modify]
  by_cases e:b=j
  ·subst e
   unfold BxAt at hb
   rw[if_pos rfl,if_pos rfl,hb]
   simp
  ·rw[if_neg e,if_neg e]
 rw[he]
 exact hs.set i hi [v] hs.ag
end
end Go.Gx

namespace Go.Proofs.Ytfpmiahbncnecaa.core
open Go.Gx Go.RowKit Go.ChangeShapes Go.WideShapes Go.ChangeAt
set_option linter.unusedVariables false
def S_read_whole (s1:List UInt8) (M:Mem) (L:Nat->Prop) (K:PK):Prop:=
 (CallP Try.prog 24 #[(.string (mkS s1)),(.bool false)] M (Wr L M) (λv M6=>∃(x5:Option Addr),v=(Value.pointer x5)/\(CallP Try.prog 25 #[(.pointer x5)] M6 (Wr L M) (λv M8=>∃(x7:X_api_Expr),v=x7.val/\(CallP Try.prog 26 #[(.pointer x5)] M8 (Wr L M) (λv M9=>v=(Value.tuple #[])/\(∀M',M9.le M'->K (Value.tuple #[x7.val,(.int .i64 0),(.int .i64 0)]) M')) (thrK K))) (thrK K))) (thrK K))
set_option maxRecDepth 100000 in
theorem s_read_whole (s1:List UInt8) (M:Mem) (L:Nat->Prop) (K:PK) (hS:S_read_whole s1 M L K) (hz:∀(E:World) (I:Dfs) (ch:List PanicEntry) (a:Act) (w:World) (M':Mem) (env:Env) (rs:List Rw) (b0 b1 b2:Nat) (cs0:List Value) (x1 x2:Value),K.p ch->WX M' M E-> @Sx I 14 E (bwW E M L) M' w a env [⟨b2,28,[x2]⟩,⟨b1,3,[x1]⟩,⟨b0,27,cs0⟩] rs->I.D=[⟨.fn (.func 22) #[Value.pointer (some ⟨b1,0,none⟩),Value.pointer (some ⟨b2,0,none⟩)],#[]⟩]->lk env 2=some (Value.pointer (some ⟨b0,0,none⟩))->lk env 3=some (Value.pointer (some ⟨b1,0,none⟩))->lk env 4=some (Value.pointer (some ⟨b2,0,none⟩))->(∃x:X_api_Expr,cs0=x.cells)->EndZ Try.prog Try.f11 M L K.r E ch a w) (hi:∀(p q:Addr) (w:World),CallsD Try.prog 22 #[.pointer (some p),.pointer (some q)] .returning w λe u' w'=>e= .returned (.tuple #[])/\u'= .returning/\w'=w):CallW Try.prog 11 #[(Value.string (mkS s1))] M L K:=by
 refine enterD Try.func11 rfl 14 rfl (Nat.le_of_ble_eq_true rfl) (λE a hs=>?_);unfold S_read_whole at hS;have hMM:=WX.refl M E;change Sx 14 E (bwW E M L) M E a [(0,(.string (mkS s1)))] [] []at hs;refine qr (stepAlloc [(iv 0),(.int .u64 0),(.int .u64 0),(.int .u64 0),(.int .u64 0),(.string (mkS [])),(.slice none 0 0)] hs (by kernel_rfl) (by decide) (λ_ _ b2 hEb2 hs=>?_));refine stepAlloc [(iv 0)] hs (by kernel_rfl) (by decide) (λ_ _ b3 hEb3 hs=>?_);refine stepAlloc [(iv 0)] hs (by kernel_rfl) (by decide) (λ_ _ b4 hEb4 hs=>?_);refine wn (qr (sP (Value.func (.func 22) #[] #[(pt b3 0),(pt b4 0)]) hs λ_ hs=>?_));refine stepDefer hs rfl ⟨_,rfl,rfl⟩ rfl (λI hI _ hs=>?_);refine wn (qr (sP (.string (mkS s1)) hs λ_ hs=>?_));refine stepCallD [(.string (mkS s1)),(.bool false)] hs hMM rfl ⟨_,rfl,rfl⟩ rfl Try.func24 rfl (by kernel_rfl) (by decide) hS (λ_ _ _ _ hc hMM hs=>hz _ _ _ _ _ _ _ _ _ _ _ _ _ _ hc hMM hs hI rfl rfl rfl (by first|exact⟨_,rfl⟩|exact⟨⟨0,⟨0,0,0,0⟩,[],none,0,0⟩,rfl⟩)) (λ_ _ M6 v hMM hS hs=>?_);obtain⟨x5,rfl,hS⟩:=hS;refine sP (.pointer x5) hs λ_ hs=>?_;refine wn (qr (sP (.pointer x5) hs λ_ hs=>?_))
 refine stepCallD [(.pointer x5)] hs hMM rfl ⟨_,rfl,rfl⟩ rfl Try.func25 rfl (by kernel_rfl) (by decide) hS (λ_ _ _ _ hc hMM hs=>hz _ _ _ _ _ _ _ _ _ _ _ _ _ _ hc hMM hs hI rfl rfl rfl (by first|exact⟨_,rfl⟩|exact⟨⟨0,⟨0,0,0,0⟩,[],none,0,0⟩,rfl⟩)) (λ_ _ M8 v hMM hS hs=>?_);obtain⟨x7,rfl,hS⟩:=hS;refine stB 2 x7.cells [⟨b4,28,[(iv 0)]⟩,⟨b3,3,[(iv 0)]⟩,⟨b2,27,x7.cells⟩] hs λ_ _ hs=>?_;refine wn (qr (sP (.pointer x5) hs λ_ hs=>?_));refine stepCallD [(.pointer x5)] hs hMM rfl ⟨_,rfl,rfl⟩ rfl Try.func26 rfl (by kernel_rfl) (by decide) hS (λ_ _ _ _ hc hMM hs=>hz _ _ _ _ _ _ _ _ _ _ _ _ _ _ hc hMM hs hI rfl rfl rfl (by first|exact⟨_,rfl⟩|exact⟨⟨0,⟨0,0,0,0⟩,[],none,0,0⟩,rfl⟩)) (λ_ _ M9 v hMM hS hs=>?_);obtain⟨hv,hS⟩:=hS;subst hv;refine wn (qr (sY x7.val hs (Yl.lB x7.cells true 2) λ_ hs=>?_));refine stB 2 x7.cells [⟨b4,28,[(iv 0)]⟩,⟨b3,3,[(iv 0)]⟩,⟨b2,27,x7.cells⟩] hs λ_ _ hs=>?_;refine stB 1 [(iv 0)] [⟨b4,28,[(iv 0)]⟩,⟨b3,3,[(iv 0)]⟩,⟨b2,27,x7.cells⟩] hs λ_ _ hs=>?_;refine stB 0 [(iv 0)] [⟨b4,28,[(iv 0)]⟩,⟨b3,3,[(iv 0)]⟩,⟨b2,27,x7.cells⟩] hs λ_ _ hs=>?_;exact wn (qt (leaveD (K:=K.r) hs hI hMM (resCCC true hs rfl rfl rfl rfl (by kernel_rfl) (by kernel_rfl) (by kernel_rfl)) (invoke_fn Try.func22 rfl (by kernel_rfl)) (hi _ _ _) hS))
def S_read_Parse (s1:List UInt8) (M:Mem) (K:Value->Mem->Prop):Prop:=
 ((((s1.length:Nat):Int)>2000->(∀M',M.le M'->K (Value.tuple #[(X_api_Expr.mk 0 (X_api_Set.mk 0 0 0 0) [] none 0 0).val,(.int .i64 0),(.int .i64 2)]) M'))/\(¬(((s1.length:Nat):Int)>2000)->(CallE Try.prog 11 #[(.string (mkS s1))] M (λv M6=>∃(x3:X_api_Expr) (x4:Int) (x5:Int),v=(Value.tuple #[x3.val,(.int .i64 x4),(.int .i64 x5)])/\(((x5:Int)≠0->(∀M',M6.le M'->K (Value.tuple #[(X_api_Expr.mk 0 (X_api_Set.mk 0 0 0 0) [] none 0 0).val,(.int .i64 x4),(.int .i64 x5)]) M'))/\(¬((x5:Int)≠0)->(CallE Try.prog 12 #[x3.val] M6 (λv _=>∃(x8:Int),v=(Value.int .i64 x8)/\(((x8:Int)≠0->(∀M',M6.le M'->K (Value.tuple #[(X_api_Expr.mk 0 (X_api_Set.mk 0 0 0 0) [] none 0 0).val,(.int .i64 0),(.int .i64 x8)]) M'))/\(¬((x8:Int)≠0)->(∀M',M6.le M'->K (Value.tuple #[x3.val,(.int .i64 0),(.int .i64 0)]) M')))))))))))
set_option maxRecDepth 100000 in
theorem s_read_Parse (s1:List UInt8) (M:Mem) (K:Value->Mem->Prop) (hS:S_read_Parse s1 M K):CallE Try.prog 5 #[(Value.string (mkS s1))] M K:=by
 refine eE1 Try.func5 31 λE a hMM hs=>?_;unfold S_read_Parse at hS;refine qr (stepAlloc [(iv 0),(.int .u64 0),(.int .u64 0),(.int .u64 0),(.int .u64 0),(.string (mkS [])),(.slice none 0 0)] hs (by kernel_rfl) (by decide) (λ_ _ b2 hEb2 hs=>?_));refine sP2 (iv 0) (iv 0) hs λ_ hs=>?_;refine wn (qs (qr (sP3 (.string (mkS s1)) (iv (s1.length:Int)) (.bool (decide ((s1.length:Int)>2000))) hs λ_ hs=>?_)));refine wn (Wp.cS hs decide_eq_true_iff hS (λhS=>?_) (λhS=>?_))
 ·refine qr (sP (X_api_Expr.mk 0 (X_api_Set.mk 0 0 0 0) [] none 0 0).val hs λ_ hs=>?_);refine stB 0 [(iv 0),(.int .u64 0),(.int .u64 0),(.int .u64 0),(.int .u64 0),(.string (mkS [])),(.slice none 0 0)] [⟨b2,27,[(iv 0),(.int .u64 0),(.int .u64 0),(.int .u64 0),(.int .u64 0),(.string (mkS [])),(.slice none 0 0)]⟩] hs λ_ _ hs=>?_;refine sP2 (iv 0) (iv 2) hs λ_ hs=>?_;exact wn (qt (leaveE (K:=K) hs (resCTT (vs:=[(iv 0),(.int .u64 0),(.int .u64 0),(.int .u64 0),(.int .u64 0),(.string (mkS [])),(.slice none 0 0)]) true 0 hs rfl rfl rfl (by kernel_rfl) rfl rfl rfl) hMM.2 hS))
 ·refine qk (qr (sP (.string (mkS s1)) hs λ_ hs=>?_));refine cM [(.string (mkS s1))] hs hMM Try.func11 hS λ_ _ M6 v hMM hle hS hs=>?_;obtain⟨x3,x4,x5,rfl,hS⟩:=hS;refine sP4 (Value.tuple #[x3.val,(iv x4),(iv x5)]) x3.val (iv x4) (iv x5) hs λ_ hs=>?_;refine stepAlloc [(iv 0),(.int .u64 0),(.int .u64 0),(.int .u64 0),(.int .u64 0),(.string (mkS [])),(.slice none 0 0)] hs (by kernel_rfl) (by decide) (λ_ _ b7 hEb7 hs=>?_);refine stB 0 x3.cells [⟨b7,27,x3.cells⟩,⟨b2,27,[(iv 0),(.int .u64 0),(.int .u64 0),(.int .u64 0),(.int .u64 0),(.string (mkS [])),(.slice none 0 0)]⟩] hs λ_ _ hs=>?_;refine sP2 (iv x4) (iv x5) hs λ_ hs=>?_;refine wn (qs (qr (sP2 (iv x5) (.bool ((x5:Int) != (0:Int))) hs λ_ hs=>?_)));refine wn (Wp.cS hs bne_iff_ne hS (λhS=>?_) (λhS=>?_))
  ·refine qr (sP3 (X_api_Expr.mk 0 (X_api_Set.mk 0 0 0 0) [] none 0 0).val (iv x4) (iv x5) hs λ_ hs=>?_);refine stB 1 [(iv 0),(.int .u64 0),(.int .u64 0),(.int .u64 0),(.int .u64 0),(.string (mkS [])),(.slice none 0 0)] [⟨b7,27,x3.cells⟩,⟨b2,27,[(iv 0),(.int .u64 0),(.int .u64 0),(.int .u64 0),(.int .u64 0),(.string (mkS [])),(.slice none 0 0)]⟩] hs λ_ _ hs=>?_;refine sP2 (iv x4) (iv x5) hs λ_ hs=>?_;exact wn (qt (leaveE (K:=K) hs (resCTT (vs:=[(iv 0),(.int .u64 0),(.int .u64 0),(.int .u64 0),(.int .u64 0),(.string (mkS [])),(.slice none 0 0)]) true 1 hs rfl rfl rfl (by kernel_rfl) rfl rfl rfl) hMM.2 hS))
  ·refine qk (qs (qr (sY x3.val hs (Yl.lB x3.cells true 0) λ_ hs=>?_)));refine cP [x3.val] hs Try.func12 hS λ_ _ v hS hs=>?_;obtain⟨x8,rfl,hS⟩:=hS;refine sP (iv x8) hs λ_ hs=>?_;refine wn (qr (sP2 (iv x8) (.bool ((x8:Int) != (0:Int))) hs λ_ hs=>?_));refine wn (Wp.cS hs bne_iff_ne hS (λhS=>?_) (λhS=>?_))
   ·refine qr (sP2 (X_api_Expr.mk 0 (X_api_Set.mk 0 0 0 0) [] none 0 0).val (iv x8) hs λ_ hs=>?_);refine stB 1 [(iv 0),(.int .u64 0),(.int .u64 0),(.int .u64 0),(.int .u64 0),(.string (mkS [])),(.slice none 0 0)] [⟨b7,27,x3.cells⟩,⟨b2,27,[(iv 0),(.int .u64 0),(.int .u64 0),(.int .u64 0),(.int .u64 0),(.string (mkS [])),(.slice none 0 0)]⟩] hs λ_ _ hs=>?_;refine sP2 (iv 0) (iv x8) hs λ_ hs=>?_;exact wn (qt (leaveE (K:=K) hs (resCTT (vs:=[(iv 0),(.int .u64 0),(.int .u64 0),(.int .u64 0),(.int .u64 0),(.string (mkS [])),(.slice none 0 0)]) true 1 hs rfl rfl rfl (by kernel_rfl) rfl rfl rfl) hMM.2 hS))
   ·refine qk (qr (sY x3.val hs (Yl.lB x3.cells true 0) λ_ hs=>?_));refine stB 1 x3.cells [⟨b7,27,x3.cells⟩,⟨b2,27,x3.cells⟩] hs λ_ _ hs=>?_;refine sP2 (iv 0) (iv 0) hs λ_ hs=>?_;exact wn (qt (leaveE (K:=K) hs (resCTT (vs:=x3.cells) true 1 hs rfl rfl rfl (by kernel_rfl) rfl rfl rfl) hMM.2 hS))
end Go.Proofs.Ytfpmiahbncnecaa.core

namespace Go.Proofs.Ytfpmiahbncnecaa.core
open Go.Gx Go.RowKit Go.ChangeShapes Go.WideShapes Go.ChangeAt
set_option linter.unusedVariables false
def S_chafflaw_ReadParses (s1:List UInt8) (M:Mem) (K:Value->Prop):Prop:=
 (CallE Try.prog 5 #[(.string (mkS s1))] M (λv M5=>∃(x2:X_api_Expr) (x3:Int) (x4:Int),v=(Value.tuple #[x2.val,(.int .i64 x3),(.int .i64 x4)])/\(CallE Try.prog 6 #[(.string (mkS s1))] M5 (λv M10=>∃(x7:X_api_Expr) (x8:Int) (x9:Int),v=(Value.tuple #[x7.val,(.int .i64 x8),(.int .i64 x9)])/\(CallE Try.prog 7 #[x2.val,x7.val] M10 (λv _=>∃(x12:Bool),v=(Value.bool x12)/\((x12=true->(((x3:Int)=x8->K (Value.bool ((x4:Int)==(x9:Int))))/\(¬((x3:Int)=x8)->K (Value.bool false))))/\(¬(x12=true)->K (Value.bool false)))))))))
set_option maxRecDepth 100000 in
theorem s_chafflaw_ReadParses (s1:List UInt8) (M:Mem) (K:Value->Prop) (hS:S_chafflaw_ReadParses s1 M K):CallE Try.prog 3 #[(Value.string (mkS s1))] M (λv _=>K v):=by
 refine eE1 Try.func3 34 λE a hMM hs=>?_;unfold S_chafflaw_ReadParses at hS;refine qr (sP (.bool false) hs λ_ hs=>?_);refine wn (qr (sP (.string (mkS s1)) hs λ_ hs=>?_));refine cM [(.string (mkS s1))] hs hMM Try.func5 hS λ_ _ M5 v hMM hle hS hs=>?_;obtain⟨x2,x3,x4,rfl,hS⟩:=hS;refine sP4 (Value.tuple #[x2.val,(iv x3),(iv x4)]) x2.val (iv x3) (iv x4) hs λ_ hs=>?_;refine stepAlloc [(iv 0),(.int .u64 0),(.int .u64 0),(.int .u64 0),(.int .u64 0),(.string (mkS [])),(.slice none 0 0)] hs (by kernel_rfl) (by decide) (λ_ _ b6 hEb6 hs=>?_);refine stB 0 x2.cells [⟨b6,27,x2.cells⟩] hs λ_ _ hs=>?_;refine sP2 (iv x3) (iv x4) hs λ_ hs=>?_;refine wn (qr (sP (.string (mkS s1)) hs λ_ hs=>?_));refine cM [(.string (mkS s1))] hs hMM Try.func6 hS λ_ _ M10 v hMM hle hS hs=>?_;obtain⟨x7,x8,x9,rfl,hS⟩:=hS;refine sP4 (Value.tuple #[x7.val,(iv x8),(iv x9)]) x7.val (iv x8) (iv x9) hs λ_ hs=>?_
 refine stepAlloc [(iv 0),(.int .u64 0),(.int .u64 0),(.int .u64 0),(.int .u64 0),(.string (mkS [])),(.slice none 0 0)] hs (by kernel_rfl) (by decide) (λ_ _ b11 hEb11 hs=>?_);refine stB 0 x7.cells [⟨b11,27,x7.cells⟩,⟨b6,27,x2.cells⟩] hs λ_ _ hs=>?_;refine sP2 (iv x8) (iv x9) hs λ_ hs=>?_;refine wn (qr (sY x2.val hs (Yl.lB x2.cells true 1) λ_ hs=>?_));refine sY x7.val hs (Yl.lB x7.cells true 0) λ_ hs=>?_;refine cP [x2.val,x7.val] hs Try.func7 hS λ_ _ v hS hs=>?_;obtain⟨x12,rfl,hS⟩:=hS;refine sP (.bool x12) hs λ_ hs=>?_;refine bsS Iff.rfl hs hS (λhs hS=>?_) (λhs hS=>?_)
 ·refine ye (iv x3) hs λ_ hs=>?_;refine ye (iv x8) hs λ_ hs=>?_;refine ye (.bool ((x3:Int)==(x8:Int))) hs λ_ hs=>?_;refine sP2 (.bool ((x3:Int)==(x8:Int))) (.bool ((x3:Int)==(x8:Int))) hs λ_ hs=>?_;refine bsS beq_iff_eq hs hS (λhs hS=>?_) (λhs hS=>?_)
  ·refine ye (iv x4) hs λ_ hs=>?_;refine ye (iv x9) hs λ_ hs=>?_;refine ye (.bool ((x4:Int)==(x9:Int))) hs λ_ hs=>?_;refine sP2 (.bool ((x4:Int)==(x9:Int))) (.bool ((x4:Int)==(x9:Int))) hs λ_ hs=>?_;exact wn (qt (rT hs hMM hS))
  ·repeat (first|refine sNo hs λ_ hs=>?_|refine sNu hs λ_ hs=>?_)
   refine sP2 (.bool false) (.bool false) hs λ_ hs=>?_;exact wn (qt (rT hs hMM hS))
 ·repeat (first|refine sNo hs λ_ hs=>?_|refine sNu hs λ_ hs=>?_)
  refine sP2 (.bool false) (.bool false) hs λ_ hs=>?_;repeat (first|refine sNo hs λ_ hs=>?_|refine sNu hs λ_ hs=>?_)
  refine sP2 (.bool false) (.bool false) hs λ_ hs=>?_;exact wn (qt (rT hs hMM hS))
end Go.Proofs.Ytfpmiahbncnecaa.core

