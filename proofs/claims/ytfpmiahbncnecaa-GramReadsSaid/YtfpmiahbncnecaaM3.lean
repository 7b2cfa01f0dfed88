/- Contracts and what they hang on, of several parts. No condition. -/
import Derived.Test.YtfpmiahbncnecaaM2
import Derived.Recover
import Derived.Test.YtfpmiahbncnecaaReadG
import Derived.Test.YtfpmiahbncnecaaRReadG
namespace Go.Gx
open Go.RowKit
def ResW (M:Mem) (L:Nat->Prop) (K:Value->Mem->Prop) (w:World):Ending->World->Prop:=λe w'=>∃v,e= .returned v/\Pres w (bwW w M L) w'/\K v (growW M w w')
abbrev EndL (P:Program) (fn:Func) (M:Mem) (L:Nat->Prop) (K:Value->Mem->Prop) (w:World) (a':Act) (w':World):Prop:=Leaves P fn a'.tmps (ResW M L K w) a'.defers .returning w'
abbrev EndZ (P:Program) (fn:Func) (M:Mem) (L:Nat->Prop) (K:Value->Mem->Prop) (w:World) (c:List PanicEntry) (a':Act) (w':World):Prop:=Leaves P fn a'.tmps (ResW M L K w) a'.defers (.panicking c) w'
theorem enterD {P:Program} {f:FuncId} {fn:Func} {c:Code} {l:List Value} {M:Mem} {L:Nat->Prop} {K:Value->Mem->Prop}
  (hf:P.funcs[f]?=some fn) (hb:fn.body=some c) (n:Nat) (hn:fn.ntmps=n) (hl:l.length<=n)
  (h:∀w a,@Sx dfs0 n w (bwW w M L) M w a (argEnv l 0) [] []->Wp P c (EndL P fn M L K w) [] (EndL P fn M L K w) (EndZ P fn M L K w) a w):
  CallW P f l.toArray M L K:=by
 intro w hw
 refine calls_of_wp_defers hf hb ?_
 refine Code.wp_mono (λe a' w' q=>?_) (h w _ ⟨⟨rfl,?_,λx v hx=>?_⟩,hw,Pres.refl _ _,(λx hx=>by cases hx),(λr hr=>by cases hr),⟨List.nodup_nil,(λx hx=>by cases hx),List.Pairwise.nil⟩⟩)
 ·cases e with
  |normal=>exact q
  |ret=>exact q
  |panic ch=>exact q
  |_=>exact q.elim
 ·simp[hn];omega
 ·obtain⟨_,h2⟩:=lk_argEnv l 0 x v hx
  simp only[Nat.sub_zero]at h2
  have hx':x<l.length:=by
   rcases Nat.lt_or_ge x l.length with h'|h'
   ·exact h'
   ·rw[List.getElem?_eq_none h']at h2;cases h2
  simp only[Array.getD_eq_getD_getElem?]
  rw[Array.getElem?_append_left (by simpa using hx')]
  simp[h2]
def slotNe (d:Nat):ResultVar->Bool
 | .tmp t=>t != d
 | .cell c _=>c != d
theorem results_put {fn:Func} {tmps:Array Value} {d:Nat} {v:Value} (h:fn.results.toList.all (slotNe d)=true):results fn (tmps.setIfInBounds d v)=results fn tmps:=by
 have hg:∀c,(c != d)=true->(tmps.setIfInBounds d v).getD c undef=tmps.getD c undef:=λc hc=>by
  have hne:d≠c:=λe=>by subst e;simp at hc
  simp only[Array.getD_eq_getD_getElem?,Array.getElem?_setIfInBounds_ne hne]
 unfold results
 rw[Array.mapM_eq_mapM_toList,Array.mapM_eq_mapM_toList]
 congr 2
 generalize fn.results.toList=l at h
 induction l with
 |nil=>rfl
 |cons r l ih=>
  simp only[List.all_cons,Bool.and_eq_true]at h
  rw[List.mapM_cons,List.mapM_cons,ih h.2]
  congr 1
  cases r with
  |tmp t=>simp only[hg t h.1]
  |cell c t=>simp only[hg c h.1]
theorem leaves_congr {P:Program} {fn:Func} {t t':Array Value} {R:Ending->World->Prop} (h:results fn t=results fn t'):∀(ds:List Deferred) (u:FrameMode) (w:World),Leaves P fn t R ds u w->Leaves P fn t' R ds u w
 |[],.returning,w,q=>by obtain⟨v,h1,h2⟩:=q;exact⟨v,by rw[<-h];exact h1,h2⟩
 |[],.panicking _,_,q=>q
 |[],.run,_,q=>q.elim
 |_::ds,_,_,q=>by
  obtain⟨h1,fv,cap,f,args,h2,h3,h4⟩:=q
  refine⟨h1,fv,cap,f,args,h2,h3,h4.mono λe u' w' q=>?_⟩
  cases e with
  |returned v=>exact leaves_congr h ds _ _ q
  |panicked ch=>exact leaves_congr h ds _ _ q
  |outgrown=>exact q
theorem QZ.ez {P:Program} {fn:Func} {M:Mem} {L:Nat->Prop} {K:Value->Mem->Prop} {E:World} {N:Act->World->Prop} {X:List (Nat×(Act->World->Prop))} {R:Act->World->Prop} {d:Nat} (h:fn.results.toList.all (slotNe d)=true):QZ (QQ N X R (EndZ P fn M L K E)) d:=
 λ_ _ _ _ q=>leaves_congr (results_put h) _ _ _ q
theorem invoke_fn {P:Program} {g:FuncId} {fn:Func} {caps:Array Value} {w:World} (hf:P.funcs[g]?=some fn) (hbody:fn.body.isNone=false) (hname:(fn.name== "runtime.NumGoroutine")=false):(invoke (.fn (.func g) caps) #[]).run P w= .ok (.enter g caps) w:=by
 have hname':¬fn.name= "runtime.NumGoroutine":=beq_eq_false_iff_ne.1 hname
 have hbody':¬fn.body=none:=by intro e;rw[e]at hbody;cases hbody
 simp[invoke,callFunc,hf,hbody',hname']
section
variable {P:Program} {ops:Array Oper} {Q:Exit->Act->World->Prop} {n:Nat} {E:World} {bw:List Nat} {M:Mem} {w:World} {a:Act} {env:Env} {bs:List Bx} {rs:List Rw} {rest:List Oper}
theorem stepDefer {c:Call} {ty:TypeId} {pos:String} {af:Array Edge} {f:Fn} {caps:Array Value} (hs:Sx n E bw M w a env bs rs) (hk:okOp env ⟨none,.defer c,ty,pos,af,none⟩=true) (hcal:∃x,c.callee= .value x/\evT env x= .func f #[] caps) (hargs:c.args= #[])
  (h:∀(I:Dfs),I.D=[⟨.fn f caps,#[]⟩]->∀a',@Sx I n E bw M w a' env bs rs->wpList P ops Q rest a' w):wpList P ops Q (⟨none,.defer c,ty,pos,af,none⟩::rest) a w:=by
 refine wpList_plain rfl λK hK=>?_
 obtain⟨x,hcx,hx⟩:=hcal
 unfold Oper.wp
 rw[hs.ag.exec hk]
 have hr:(execOp (evT env) ⟨none,.defer c,ty,pos,af,none⟩).run P w= .ok (.defer ⟨.fn f caps,#[]⟩) w:=by
  simp[execOp,resolve,hcx,hx,Deferred.ofValue,hargs]
 rw[hr]
 obtain⟨⟨h1,h2,h3⟩,h4,h5,h6,h7,h8⟩:=hs
 refine hK _ _ (h ⟨[⟨.fn f caps,#[]⟩]⟩ rfl _ (@Sx.mk ⟨[⟨.fn f caps,#[]⟩]⟩ _ _ _ _ _ _ _ _ _ (@Ag.mk ⟨[⟨.fn f caps,#[]⟩]⟩ _ _ _ ?_ h2 h3) h4 h5 h6 h7 h8))
 show _::a.defers=_
 rw[h1];rfl
end
section
variable [Dfs]
set_option linter.unusedSectionVars false
variable {P:Program} {ops:Array Oper} {N:Act->World->Prop} {X:List (Nat×(Act->World->Prop))} {R:Act->World->Prop} {Z:List PanicEntry->Act->World->Prop} {n:Nat} {E:World} {M M0:Mem} {L:Nat->Prop} {w:World} {a:Act} {env:Env} {bs:List Bx} {rs:List Rw} {rest:List Oper}
theorem stepCallD {Q:Exit->Act->World->Prop} {d f:Nat} {ty:TypeId} {c:Call} {pos:String} {af:Array Edge} {fn:Func} {K:Value->Mem->Prop} {Kp':List PanicEntry->Prop} {first caps:Array Value} (args:List Value) (hs:Sx n E (bwW E M0 L) M w a env bs rs) (hM:WX M M0 E)
  (hk:okOp env ⟨some d,.call c,ty,pos,af,none⟩=true) (hcal:∃x,c.callee= .value x/\evT env x= .func (.func f) first caps) (hargs:first.toList++c.args.toList.map (evT env)++caps.toList=args) (hf:P.funcs[f]?=some fn) (hbody:fn.body.isNone=false) (hname:(fn.name== "runtime.NumGoroutine")=false) (hdn:d<n)
  (hc:CallP P f args.toArray M (λb=>L b\/M0 b=none) K Kp') (hp:∀c a' w' M',Kp' c->WX M' M0 E->Sx n E (bwW E M0 L) M' w' a' env bs rs->Q (.panic c) a' w')
  (h:∀a' w' M' v,WX M' M0 E->K v M'->Sx n E (bwW E M0 L) M' w' a' ((d,v)::env) bs rs->wpList P ops Q rest a' w'):wpList P ops Q (⟨some d,.call c,ty,pos,af,none⟩::rest) a w:=by
 refine stepK (Z:=λc w'=>Pres w (bwW w M λb=>L b\/M0 b=none) w'/\Kp' c) (d:=d) hs (λc w' ⟨h1,h2⟩=>hp c a w' _ h2 (hM.grow hs h1) (hs.backW hM h1 hs.ag)) rfl hk rfl hdn ?_
 unfold OpW
 rw[run_call args hcal hargs hf hbody hname]
 refine(hc w hs.on).mono λe w' ⟨h1,h2⟩=>?_
 rcases h2 with⟨v,he,hK⟩|⟨ch,he,hK⟩
 ·subst he
  intro a' hA
  exact h a' w' _ v (hM.grow hs h1) hK (hs.backW hM h1 hA)
 ·subst he
  exact⟨h1,hK⟩
theorem leaveD {fn:Func} {K:Value->Mem->Prop} {g:FuncId} {caps:Array Value} {v:Value} (hs:Sx n E (bwW E M0 L) M w a env bs rs) (hI:Dfs.D=[⟨.fn (.func g) caps,#[]⟩]) (hM:WX M M0 E) (hr:(results fn a.tmps).run P w= .ok v w)
  (hi:(invoke (.fn (.func g) caps) #[]).run P w= .ok (.enter g caps) w) (hC:CallsD P g caps .returning w λe u' w'=>e= .returned (.tuple #[])/\u'= .returning/\w'=w) (hK:∀M',M.le M'->K v M'):EndL P fn M0 L K E a w:=by
 unfold EndL
 rw[hs.ag.df,hI]
 refine leaves_cons (by simp) hi (hC.mono ?_)
 rintro e u' w' ⟨rfl,rfl,rfl⟩
 refine⟨v,hr,v,rfl,hs.pr,hK _ λb o hb=>?_⟩
 unfold growW
 rw[if_pos ((hM.old b o hb).symm)]
 exact hs.on b o hb
theorem catchD {fn:Func} {K:Value->Mem->Prop} {g:FuncId} {caps:Array Value} {ch:List PanicEntry} {t:TypeId} {u:Value} (hs:Sx n E (bwW E M0 L) M w a env bs rs) (hI:Dfs.D=[⟨.fn (.func g) caps,#[]⟩])
  (hi:(invoke (.fn (.func g) caps) #[]).run P w= .ok (.enter g caps) w)
  (hC:CallsD P g caps (.panicking ch) w λe u' w'=>e= .returned (.tuple #[])/\u'= .panicking [{v:=.iface t u,recovered:=true}]/\∃M' bs' rs' v,WX M' M0 E/\Sx n E (bwW E M0 L) M' w' a env bs' rs'/\(results fn a.tmps).run P w'= .ok v w'/\∀M'',M'.le M''->K v M''):EndZ P fn M0 L K E ch a w:=by
 unfold EndZ
 rw[hs.ag.df,hI]
 refine leaves_cons (by simp) hi (hC.mono ?_)
 rintro e u' w' ⟨rfl,rfl,M',bs',rs',v,hM',hs',hr,hK⟩
 refine⟨v,hr,v,rfl,hs'.pr,hK _ λb o hb=>?_⟩
 unfold growW
 rw[if_pos ((hM'.old b o hb).symm)]
 exact hs'.on b o hb
theorem resCCC {fn:Func} {t0 t1 t2:TypeId} {c0 c1 c2 b0 b1 b2:Nat} {cs0:List Value} {x1 x2:Value} {bw:List Nat} (g:Bool) (hs:Sx n E bw M w a env [⟨b2,t2,[x2]⟩,⟨b1,t1,[x1]⟩,⟨b0,t0,cs0⟩] rs) (hr:fn.results= #[.cell c0 t0,.cell c1 t1,.cell c2 t2])
  (h0:lk env c0=some (.pointer (some ⟨b0,0,none⟩))) (h1:lk env c1=some (.pointer (some ⟨b1,0,none⟩))) (h2:lk env c2=some (.pointer (some ⟨b2,0,none⟩))) (ht0:tyOk P t0 g cs0.length=true) (ht1:tyOk P t1 false 1=true) (ht2:tyOk P t2 false 1=true):(results fn a.tmps).run P w= .ok (.tuple #[ofCells g cs0,x1,x2]) w:=by
 have r0:=run_cell (P:=P) (vs:=cs0) (k:=0) (g:=g) hs (i:=2) rfl ht0 (by simp)
 have r1:=run_cell (P:=P) (vs:=[x1]) (k:=0) (g:=false) hs (i:=1) rfl ht1 rfl
 have r2:=run_cell (P:=P) (vs:=[x2]) (k:=0) (g:=false) hs (i:=0) rfl ht2 rfl
 have e0:=hs.ag.at_ c0 _ h0
 have e1:=hs.ag.at_ c1 _ h1
 have e2:=hs.ag.at_ c2 _ h2
 simp only[results,hr]
 simp[-Array.getD_eq_getD_getElem?,e0,e1,e2,asAddr,r0,r1,r2]
 exact⟨rfl,rfl⟩
theorem Sx.cell1 {v x:Value} {b:Nat} {t:TypeId} {bw:List Nat} (hs:Sx n E bw M w a env bs rs) (i:Nat) (hi:bs[i]?=some ⟨b,t,[x]⟩):Sx n E bw M (w.setCell ⟨b,0,none⟩ v) a env (bs.set i ⟨b,t,[v]⟩) rs:=by
 have hb:=(hs.bx _ (List.mem_of_getElem? hi)).1
 have he:w.setCell ⟨b,0,none⟩ v=w.setRow b #[v]:=by
  unfold World.setCell World.setRow
  congr 1
  apply Array.ext_getElem?
  intro j
  rw[Array.getElem?_modify,Array.getElem?_modify]
  by_cases e:b=j
  ·subst e
   unfold BxAt at hb
   rw[if_pos rfl,if_pos rfl,hb]
   simp
  ·rw[if_neg e,if_neg e]
 rw[he]
 exact hs.set i hi [v] hs.ag
end
end Go.Gx

namespace Go.Proofs.Ytfpmiahbncnecaa.core
open Go.Gx Go.RowKit Go.ChangeShapes Go.WideShapes Go.ChangeAt
set_option linter.unusedVariables false
def S_gram_rules_J2 (M:Mem) (L:Nat->Prop) (x5:Option Addr) (rn62:Nat) (rx63:List Value) (G67:Type) (gh68:G67) (I65:G67->Nat->List Value->Mem->Prop) (mu66:G67->Nat->List Value->Nat) (rn88:Nat) (rx89:List Value) (M90:Mem) (K:PK):Prop:=
 (CallW Try.prog 44 #[(.pointer x5)] M90 (Wr L M) (λv M92=>∃(x91:Bool),v=(Value.bool x91)/\((x91=true->(∀(M95:Mem) (ad93:Option Addr) (cap94:Nat),NewRow M92 M95 49 8 ad93 rn88 cap94 rx89->(∀M',M95.le M'->K (Value.tuple #[(.agg #[(.slice ad93 rn88 cap94)]),(.int .i64 0),(.int .i64 0)]) M')))/\(¬(x91=true)->∃(gh:G67),I65 gh rn88 rx89 M92/\mu66 gh rn88 rx89<mu66 gh68 rn62 rx63))))
def S_gram_rules_J1 (M:Mem) (L:Nat->Prop) (x5:Option Addr) (rn62:Nat) (rx63:List Value) (G67:Type) (gh68:G67) (I65:G67->Nat->List Value->Mem->Prop) (mu66:G67->Nat->List Value->Nat) (M73:Mem) (K:PK):Prop:=
 (∃(b74 o75:Nat),x5=some ⟨b74,o75,none⟩/\(∃(x76:List UInt8),At M73 b74 (o75+2+3+5) [(.string (mkS x76))]/\(CallP Try.prog 43 #[(.pointer x5)] M73 (Wr L M) (λv M77=>v=(Value.tuple #[])/\(CallP Try.prog 43 #[(.pointer x5)] M77 (Wr L M) (λv M78=>v=(Value.tuple #[])/\(CallP Try.prog 25 #[(.pointer x5)] M78 (Wr L M) (λv M80=>∃(x79:X_api_Expr),v=x79.val/\((rn62+1)*96<=140737488355328/\(S_gram_rules_J2 M L x5 rn62 rx63 G67 gh68 I65 mu66 (rn62+1) (rx63++(X_api_Rule.mk x76 x79).cells) M80 K))) (thrK K))) (thrK K))) (thrK K))))
def S_gram_rules (s1:List UInt8) (M:Mem) (L:Nat->Prop) (K:PK):Prop:=
 (CallP Try.prog 24 #[(.string (mkS s1)),(.bool true)] M (Wr L M) (λv M6=>∃(x5:Option Addr),v=(Value.pointer x5)/\(∃(G67:Type) (I65:G67->Nat->List Value->Mem->Prop) (mu66:G67->Nat->List Value->Nat) (gz69:G67),I65 gz69 0 [] M6/\∀(gh68:G67) (rn62:Nat) (rx63:List Value) (M64:Mem),(I65 gh68 rn62 rx63 M64->(CallW Try.prog 41 #[(.pointer x5)] M64 (Wr L M) (λv M71=>∃(x70:Bool),v=(Value.bool x70)/\((¬(x70=true)->(CallP Try.prog 42 #[(.pointer x5)] M71 (Wr L M) (λv M72=>v=(Value.tuple #[])/\(S_gram_rules_J1 M L x5 rn62 rx63 G67 gh68 I65 mu66 M72 K)) (thrK K)))/\(¬(¬(x70=true))->(S_gram_rules_J1 M L x5 rn62 rx63 G67 gh68 I65 mu66 M71 K)))))))) (thrK K))
set_option maxRecDepth 100000 in
theorem s_gram_rules (s1:List UInt8) (M:Mem) (L:Nat->Prop) (K:PK) (hS:S_gram_rules s1 M L K) (hz:∀(E:World) (I:Dfs) (ch:List PanicEntry) (a:Act) (w:World) (M':Mem) (env:Env) (rs:List Rw) (b0 b1 b2:Nat) (cs0:List Value) (x1 x2:Value),K.p ch->WX M' M E-> @Sx I 37 E (bwW E M L) M' w a env [⟨b2,28,[x2]⟩,⟨b1,3,[x1]⟩,⟨b0,35,cs0⟩] rs->I.D=[⟨.fn (.func 40) #[Value.pointer (some ⟨b1,0,none⟩),Value.pointer (some ⟨b2,0,none⟩)],#[]⟩]->lk env 2=some (Value.pointer (some ⟨b0,0,none⟩))->lk env 3=some (Value.pointer (some ⟨b1,0,none⟩))->lk env 4=some (Value.pointer (some ⟨b2,0,none⟩))->(∃(i:Nat) (r:Rw),rs[i]?=some r/\cs0=[r.v])->EndZ Try.prog Try.f17 M L K.r E ch a w) (hi:∀(p q:Addr) (w:World),CallsD Try.prog 40 #[.pointer (some p),.pointer (some q)] .returning w λe u' w'=>e= .returned (.tuple #[])/\u'= .returning/\w'=w):CallW Try.prog 17 #[(Value.string (mkS s1))] M L K:=by
 refine enterD Try.func17 rfl 37 rfl (Nat.le_of_ble_eq_true rfl) (λE a hs=>?_);unfold S_gram_rules at hS;have hMM:=WX.refl M E;change Sx 37 E (bwW E M L) M E a [(0,(.string (mkS s1)))] [] []at hs;refine qr (stepAlloc [(.slice none 0 0)] hs (by kernel_rfl) (by decide) (λ_ _ b2 hEb2 hs=>?_));have hs:=hs.nilrow 49 8;refine stepAlloc [(iv 0)] hs (by kernel_rfl) (by decide) (λ_ _ b3 hEb3 hs=>?_);refine stepAlloc [(iv 0)] hs (by kernel_rfl) (by decide) (λ_ _ b4 hEb4 hs=>?_);refine wn (qr (sP (Value.func (.func 40) #[] #[(pt b3 0),(pt b4 0)]) hs λ_ hs=>?_));refine stepDefer hs rfl ⟨_,rfl,rfl⟩ rfl (λI hI _ hs=>?_);refine wn (qr (sP (.string (mkS s1)) hs λ_ hs=>?_));refine stepCallD [(.string (mkS s1)),(.bool true)] hs hMM rfl ⟨_,rfl,rfl⟩ rfl Try.func24 rfl (by kernel_rfl) (by decide) hS (λ_ _ _ _ hc hMM hs=>hz _ _ _ _ _ _ _ _ _ _ _ _ _ _ hc hMM hs hI rfl rfl rfl ⟨0,_,rfl,rfl⟩) (λ_ _ M6 v hMM hS hs=>?_);obtain⟨x5,rfl,hS⟩:=hS;refine sP (.pointer x5) hs λ_ hs=>?_;refine wn (qb ?_);obtain⟨G67,I65,mu66,gz69,hI0,hst⟩:=hS
 refine Wp.loop (σ:=G67×(Nat)×(List Value)×(Value)×(Mem)) (λ(gh68,rn62,rx63,rv61,M64) a w=>WX M64 M E/\Sx 37 E (bwW E M L) M64 w a [(2,(pt b2 0)),(3,(pt b3 0)),(4,(pt b4 0)),(5,(.pointer x5))] [⟨b4,28,[(iv 0)]⟩,⟨b3,3,[(iv 0)]⟩,⟨b2,35,[rv61]⟩] [⟨rv61,49,8,rn62,rx63,true⟩]/\I65 gh68 rn62 rx63 M64) (λ(gh68,rn62,rx63,rv61,M64)=>mu66 gh68 rn62 rx63) (gz69,0,[],(.slice none 0 0),M6) ⟨hMM,hs.q,hI0⟩ (λs a w hI=>?_);obtain⟨gh68,rn62,rx63,rv61,M64⟩:=s;obtain⟨hMM,hs,hI⟩:=hI;have hS:=hst gh68 rn62 rx63 M64 hI;clear hst hI0 hI;refine qb (Wp.join (λa w=>∃(M73:Mem),WX M73 M E/\Sx 37 E (bwW E M L) M73 w a [(2,(pt b2 0)),(3,(pt b3 0)),(4,(pt b4 0)),(5,(.pointer x5))] [⟨b4,28,[(iv 0)]⟩,⟨b3,3,[(iv 0)]⟩,⟨b2,35,[rv61]⟩] [⟨rv61,49,8,rn62,rx63,true⟩]/\(S_gram_rules_J1 M L x5 rn62 rx63 G67 gh68 I65 mu66 M73 K)) ?_ ?_)
 ·refine qr (sP (.pointer x5) hs λ_ hs=>?_);refine cW [(.pointer x5)] hs hMM Try.func41 hS λ_ _ M71 v hMM hS hs=>?_;obtain⟨x70,rfl,hS⟩:=hS;refine sP (.bool (!x70)) hs λ_ hs=>?_;refine wn (Wp.cS hs (bnot_iff Iff.rfl) hS (λhS=>?_) (λhS=>?_))
  ·refine qg (sP (.pointer x5) hs λ_ hs=>?_);refine stepCallD [(.pointer x5)] hs hMM rfl ⟨_,rfl,rfl⟩ rfl Try.func42 rfl (by kernel_rfl) (by decide) hS (λ_ _ _ _ hc hMM hs=>hz _ _ _ _ _ _ _ _ _ _ _ _ _ _ hc hMM hs hI rfl rfl rfl ⟨0,_,rfl,rfl⟩) (λ_ _ M72 v hMM hS hs=>?_);obtain⟨hv,hS⟩:=hS;subst hv;exact wn (⟨M72,hMM,hs.q,hS⟩)
  ·exact qk (⟨M71,hMM,hs.q,hS⟩)
 ·intro a w hJ;obtain⟨M73,hMM,hs,hS⟩:=hJ;unfold S_gram_rules_J1 at hS;refine qr (sP (.pointer x5) hs λ_ hs=>?_);obtain⟨b74,o75,hp,hS⟩:=hS;refine sY (.pointer (some ⟨b74,o75,none⟩)) hs (Yl.nilck rfl rfl hp) λ_ hs=>?_;refine sP3 (.pointer (some ⟨b74,o75+2,none⟩)) (.pointer (some ⟨b74,o75+2+3,none⟩)) (.pointer (some ⟨b74,o75+2+3+5,none⟩)) hs λ_ hs=>?_;obtain⟨x76,hat,hS⟩:=hS;refine sV1 (.string (mkS x76)) hat hs λ_ hs=>?_;refine sP (.string (mkS x76)) hs λ_ hs=>?_;refine wn (qr (sP (.pointer x5) hs λ_ hs=>?_));refine stepCallD [(.pointer x5)] hs hMM rfl ⟨_,rfl,rfl⟩ rfl Try.func43 rfl (by kernel_rfl) (by decide) hS (λ_ _ _ _ hc hMM hs=>hz _ _ _ _ _ _ _ _ _ _ _ _ _ _ hc hMM hs hI rfl rfl rfl ⟨0,_,rfl,rfl⟩) (λ_ _ M77 v hMM hS hs=>?_);obtain⟨hv,hS⟩:=hS;subst hv;refine wn (qr (sP (.pointer x5) hs λ_ hs=>?_));refine stepCallD [(.pointer x5)] hs hMM rfl ⟨_,rfl,rfl⟩ rfl Try.func43 rfl (by kernel_rfl) (by decide) hS (λ_ _ _ _ hc hMM hs=>hz _ _ _ _ _ _ _ _ _ _ _ _ _ _ hc hMM hs hI rfl rfl rfl ⟨0,_,rfl,rfl⟩) (λ_ _ M78 v hMM hS hs=>?_);obtain⟨hv,hS⟩:=hS;subst hv
  refine wn (Wp.join (λa w=>∃(rn88:Nat) (rx89:List Value) (rv87:Value) (M90:Mem),WX M90 M E/\Sx 37 E (bwW E M L) M90 w a [(2,(pt b2 0)),(3,(pt b3 0)),(4,(pt b4 0)),(5,(.pointer x5))] [⟨b4,28,[(iv 0)]⟩,⟨b3,3,[(iv 0)]⟩,⟨b2,35,[rv87]⟩] [⟨rv87,49,8,rn88,rx89,true⟩]/\(S_gram_rules_J2 M L x5 rn62 rx63 G67 gh68 I65 mu66 rn88 rx89 M90 K)) ?_ ?_)
  ·refine Wp.regionD [true,true,true,true,false,true,false,false,true,false] hs (by kernel_rfl) rfl [⟨b4,28,[(iv 0)]⟩,⟨b3,3,[(iv 0)]⟩,⟨b2,35,[rv61]⟩] (λ_ h=>h) [⟨rv61,49,8,rn62,rx63,true⟩] (λ_ h=>h) (λ_ hs hC=>?_);have hL:=Mem.le.refl M78;refine dP (pt b2 0) 0 [1,7,8,9] hs (QZ.ez rfl) (wanted_none rfl) λ_ hs=>?_;refine dP (Value.string (mkS x76)) 2 [5,6,7,8,9] hs (QZ.ez rfl) (wanted_none rfl) λ_ hs=>?_;refine dP (Value.pointer x5) 3 [4,5,6,7,8,9] hs (QZ.ez rfl) (wanted_none rfl) λ_ hs=>?_;refine WpD.ors (by kernel_rfl:_=[1,4]) ⟨?_,?_,trivial⟩
   ·refine stepOne 1 rfl (wanted_none rfl) #[] ?_;refine sB1 rv61 2 hs λ_ hs=>?_;refine nE 4 ?_;refine stepCallD [(.pointer x5)] hs hMM rfl ⟨_,rfl,rfl⟩ rfl Try.func25 rfl (by kernel_rfl) (by decide) hS (λ_ _ _ _ hc hMM hs=>hz _ _ _ _ _ _ _ _ _ _ _ _ _ _ hc hMM hs hI rfl rfl rfl ⟨0,_,rfl,rfl⟩) (λ_ _ M80 v hMM hS hs=>?_);obtain⟨x79,rfl,hS⟩:=hS;refine fE 5 ?_;refine sP (X_api_Rule.mk x76 x79).val hs λ_ hs=>?_;refine nE 6 ?_;refine stepMake ((X_api_Rule.mk x76 x79).cells) 49 8 1 hs rfl rfl rfl (λ_=>by kernel_rfl) rfl (by unfold maxLen;decide) (by decide) (λ_ _ rv81 hs=>?_);refine fE 7 ?_;obtain⟨ad82,cap83,hv,hcp,hxl⟩:=hs.rowform 0 rfl
    dsimp only at hv hcp hxl
    subst hv;obtain⟨hB,hS⟩:=hS;refine stepAppend 1 ((X_api_Rule.mk x76 x79).cells) hs rfl rfl rfl rfl rfl (by kernel_rfl) (by kernel_rfl) (by decide) (by decide) (hs.srcRow 0 rfl rfl) (lenb hB (by decide)) hB (λ_ _ rv84 hs=>?_);replace hs:=hs.chrs (rs':=[⟨(Value.slice ad82 1 cap83),49,8,1,(X_api_Rule.mk x76 x79).cells,true⟩,⟨rv84,49,8,(rn62+1),(rx63++(X_api_Rule.mk x76 x79).cells),true⟩]) rfl;refine fE 8 ?_;refine sP (pt b2 0) hs λ_ hs=>?_;refine nE 9 ?_;obtain⟨ad85,cap86,hv,hcp,hxl⟩:=hs.rowform 1 rfl
    dsimp only at hv hcp hxl
    subst hv;refine stB 2 [(.slice ad85 (rn62+1) cap86)] [⟨b4,28,[(iv 0)]⟩,⟨b3,3,[(iv 0)]⟩,⟨b2,35,[(.slice ad85 (rn62+1) cap86)]⟩] hs λ_ _ hs=>?_;refine wF ?_;refine dD ?_;exact⟨(rn62+1),(rx63++(X_api_Rule.mk x76 x79).cells),(.slice ad85 (rn62+1) cap86),M80,hMM,(hs.qq (List.Sublist.refl _) (.cons _ (.cons_cons _ List.Sublist.slnil))),hS⟩
   ·refine stepOne 4 rfl (wanted_none rfl) #[] ?_;refine stepCallD [(.pointer x5)] hs hMM rfl ⟨_,rfl,rfl⟩ rfl Try.func25 rfl (by kernel_rfl) (by decide) hS (λ_ _ _ _ hc hMM hs=>hz _ _ _ _ _ _ _ _ _ _ _ _ _ _ hc hMM hs hI rfl rfl rfl ⟨0,_,rfl,rfl⟩) (λ_ _ M80 v hMM hS hs=>?_);obtain⟨x79,rfl,hS⟩:=hS;refine wF ?_;refine dP (X_api_Rule.mk x76 x79).val 5 [6,7,8,9] hs (QZ.ez rfl) (wanted_none rfl) λ_ hs=>?_;refine WpD.ors (by kernel_rfl:_=[1,6]) ⟨?_,?_,trivial⟩
    ·refine stepOne 1 rfl (wanted_none rfl) #[] ?_;refine sB1 rv61 2 hs λ_ hs=>?_;refine nE 6 ?_;refine stepMake ((X_api_Rule.mk x76 x79).cells) 49 8 1 hs rfl rfl rfl (λ_=>by kernel_rfl) rfl (by unfold maxLen;decide) (by decide) (λ_ _ rv81 hs=>?_);refine fE 7 ?_;obtain⟨ad82,cap83,hv,hcp,hxl⟩:=hs.rowform 0 rfl
     dsimp only at hv hcp hxl
     subst hv;obtain⟨hB,hS⟩:=hS;refine stepAppend 1 ((X_api_Rule.mk x76 x79).cells) hs rfl rfl rfl rfl rfl (by kernel_rfl) (by kernel_rfl) (by decide) (by decide) (hs.srcRow 0 rfl rfl) (lenb hB (by decide)) hB (λ_ _ rv84 hs=>?_);replace hs:=hs.chrs (rs':=[⟨(Value.slice ad82 1 cap83),49,8,1,(X_api_Rule.mk x76 x79).cells,true⟩,⟨rv84,49,8,(rn62+1),(rx63++(X_api_Rule.mk x76 x79).cells),true⟩]) rfl;refine fE 8 ?_;refine sP (pt b2 0) hs λ_ hs=>?_;refine nE 9 ?_;obtain⟨ad85,cap86,hv,hcp,hxl⟩:=hs.rowform 1 rfl
     dsimp only at hv hcp hxl
     subst hv;refine stB 2 [(.slice ad85 (rn62+1) cap86)] [⟨b4,28,[(iv 0)]⟩,⟨b3,3,[(iv 0)]⟩,⟨b2,35,[(.slice ad85 (rn62+1) cap86)]⟩] hs λ_ _ hs=>?_;refine wF ?_;refine dD ?_;exact⟨(rn62+1),(rx63++(X_api_Rule.mk x76 x79).cells),(.slice ad85 (rn62+1) cap86),M80,hMM,(hs.qq (List.Sublist.refl _) (.cons _ (.cons_cons _ List.Sublist.slnil))),hS⟩
    ·refine stepOne 6 rfl (wanted_none rfl) #[] ?_;refine stepMake ((X_api_Rule.mk x76 x79).cells) 49 8 1 hs rfl rfl rfl (λ_=>by kernel_rfl) rfl (by unfold maxLen;decide) (by decide) (λ_ _ rv81 hs=>?_);refine fE 1 ?_;refine sB1 rv61 2 hs λ_ hs=>?_;refine nE 7 ?_;obtain⟨ad82,cap83,hv,hcp,hxl⟩:=hs.rowform 0 rfl
     dsimp only at hv hcp hxl
     subst hv;obtain⟨hB,hS⟩:=hS;refine stepAppend 1 ((X_api_Rule.mk x76 x79).cells) hs rfl rfl rfl rfl rfl (by kernel_rfl) (by kernel_rfl) (by decide) (by decide) (hs.srcRow 0 rfl rfl) (lenb hB (by decide)) hB (λ_ _ rv84 hs=>?_);replace hs:=hs.chrs (rs':=[⟨(Value.slice ad82 1 cap83),49,8,1,(X_api_Rule.mk x76 x79).cells,true⟩,⟨rv84,49,8,(rn62+1),(rx63++(X_api_Rule.mk x76 x79).cells),true⟩]) rfl;refine fE 8 ?_;refine sP (pt b2 0) hs λ_ hs=>?_;refine nE 9 ?_;obtain⟨ad85,cap86,hv,hcp,hxl⟩:=hs.rowform 1 rfl
     dsimp only at hv hcp hxl
     subst hv;refine stB 2 [(.slice ad85 (rn62+1) cap86)] [⟨b4,28,[(iv 0)]⟩,⟨b3,3,[(iv 0)]⟩,⟨b2,35,[(.slice ad85 (rn62+1) cap86)]⟩] hs λ_ _ hs=>?_;refine wF ?_;refine dD ?_;exact⟨(rn62+1),(rx63++(X_api_Rule.mk x76 x79).cells),(.slice ad85 (rn62+1) cap86),M80,hMM,(hs.qq (List.Sublist.refl _) (.cons _ (.cons_cons _ List.Sublist.slnil))),hS⟩
  ·intro a w hJ;obtain⟨rn88,rx89,rv87,M90,hMM,hs,hS⟩:=hJ;unfold S_gram_rules_J2 at hS;refine qr (sP (.pointer x5) hs λ_ hs=>?_);refine cW [(.pointer x5)] hs hMM Try.func44 hS λ_ _ M92 v hMM hS hs=>?_;obtain⟨x91,rfl,hS⟩:=hS;refine wn (Wp.cS hs Iff.rfl hS (λhS=>?_) (λhS=>?_))
   ·refine qr (sB [rv87] true 2 hs λ_ hs=>?_);obtain⟨ad93,cap94,hv,hcp,hxl⟩:=hs.rowform 0 rfl
    dsimp only at hv hcp hxl
    subst hv;refine stB 2 [(.slice ad93 rn88 cap94)] [⟨b4,28,[(iv 0)]⟩,⟨b3,3,[(iv 0)]⟩,⟨b2,35,[(.slice ad93 rn88 cap94)]⟩] hs λ_ _ hs=>?_;refine stB 1 [(iv 0)] [⟨b4,28,[(iv 0)]⟩,⟨b3,3,[(iv 0)]⟩,⟨b2,35,[(.slice ad93 rn88 cap94)]⟩] hs λ_ _ hs=>?_;refine stB 0 [(iv 0)] [⟨b4,28,[(iv 0)]⟩,⟨b3,3,[(iv 0)]⟩,⟨b2,35,[(.slice ad93 rn88 cap94)]⟩] hs λ_ _ hs=>?_;refine wn (qt ?_);obtain⟨M95,hnr,hMM,hs⟩:=hs.releaseW hMM 0 rfl [] rfl;have hS:=hS M95 ad93 cap94 hnr;exact leaveD (K:=K.r) hs hI hMM (resCCC true hs rfl rfl rfl rfl (by kernel_rfl) (by kernel_rfl) (by kernel_rfl)) (invoke_fn Try.func40 rfl (by kernel_rfl)) (hi _ _ _) hS
   ·refine qk ?_;obtain⟨gh,hI1,hI2⟩:=hS;exact⟨(gh,rn88,rx89,rv87,M92),⟨hMM,hs.q,hI1⟩,hI2⟩
def S_gram_Read (s1:List UInt8) (M:Mem) (K:Value->Mem->Prop):Prop:=
 ((((s1.length:Nat):Int)>2000->(∀(M3:Mem),M.le M3->SlV M3 none 0 0 8 []->(∀M',M3.le M'->K (Value.tuple #[(.agg #[(.slice none 0 0)]),(.int .i64 0),(.int .i64 2)]) M')))/\(¬(((s1.length:Nat):Int)>2000)->(CallE Try.prog 17 #[(.string (mkS s1))] M (λv M9=>∃(xa4:Option Addr) (xl5:Nat) (xc6:Nat) (x7:Int) (x8:Int),v=(Value.tuple #[(.agg #[(.slice xa4 xl5 xc6)]),(.int .i64 x7),(.int .i64 x8)])/\(((x8:Int)≠0->(∀(M11:Mem),M9.le M11->SlV M11 none 0 0 8 []->(∀M',M11.le M'->K (Value.tuple #[(.agg #[(.slice none 0 0)]),(.int .i64 x7),(.int .i64 x8)]) M')))/\(¬((x8:Int)≠0)->(CallE Try.prog 18 #[(.agg #[(.slice xa4 xl5 xc6)])] M9 (λv _=>∃(x12:Int),v=(Value.int .i64 x12)/\(((x12:Int)≠0->(∀(M13:Mem),M9.le M13->SlV M13 none 0 0 8 []->(∀M',M13.le M'->K (Value.tuple #[(.agg #[(.slice none 0 0)]),(.int .i64 0),(.int .i64 x12)]) M')))/\(¬((x12:Int)≠0)->(∀M',M9.le M'->K (Value.tuple #[(.agg #[(.slice xa4 xl5 xc6)]),(.int .i64 0),(.int .i64 0)]) M')))))))))))
set_option maxRecDepth 100000 in
theorem s_gram_Read (s1:List UInt8) (M:Mem) (K:Value->Mem->Prop) (hS:S_gram_Read s1 M K):CallE Try.prog 8 #[(Value.string (mkS s1))] M K:=by
 refine eE1 Try.func8 31 λE a hMM hs=>?_;unfold S_gram_Read at hS;refine qr (stepAlloc [(.slice none 0 0)] hs (by kernel_rfl) (by decide) (λ_ _ b2 hEb2 hs=>?_));have hs:=hs.nilrow 49 8;refine sP2 (iv 0) (iv 0) hs λ_ hs=>?_;refine wn (qs (qr (sP3 (.string (mkS s1)) (iv (s1.length:Int)) (.bool (decide ((s1.length:Int)>2000))) hs λ_ hs=>?_)));refine wn (Wp.cS hs decide_eq_true_iff hS (λhS=>?_) (λhS=>?_))
 ·refine qr (sP (.agg #[(.slice none 0 0)]) hs λ_ hs=>?_);refine stB 0 [(.slice none 0 0)] [⟨b2,35,[(.slice none 0 0)]⟩] hs λ_ _ hs=>?_;have hs:=hs.nilrow 49 8;refine sP2 (iv 0) (iv 2) hs λ_ hs=>?_;refine wn (qt ?_);obtain⟨M3,hle,hsl,hnew,hs⟩:=hs.release 0 rfl [⟨(Value.slice none 0 0),49,8,0,[],true⟩] rfl;have hMM:=hMM.next hle hnew;have hS:=hS M3 hle hsl;exact leaveE (K:=K) hs (resCTT (vs:=[(.slice none 0 0)]) true 0 hs rfl rfl rfl (by kernel_rfl) rfl rfl rfl) hMM.2 hS
 ·refine qk (qr (sP (.string (mkS s1)) hs λ_ hs=>?_));refine cM [(.string (mkS s1))] hs hMM Try.func17 hS λ_ _ M9 v hMM hle hS hs=>?_;obtain⟨xa4,xl5,xc6,x7,x8,rfl,hS⟩:=hS;refine sP4 (Value.tuple #[(.agg #[(.slice xa4 xl5 xc6)]),(iv x7),(iv x8)]) (.agg #[(.slice xa4 xl5 xc6)]) (iv x7) (iv x8) hs λ_ hs=>?_;refine stepAlloc [(.slice none 0 0)] hs (by kernel_rfl) (by decide) (λ_ _ b10 hEb10 hs=>?_);have hs:=hs.nilrow 49 8;refine stB 0 [(.slice xa4 xl5 xc6)] [⟨b10,35,[(.slice xa4 xl5 xc6)]⟩,⟨b2,35,[(.slice none 0 0)]⟩] hs λ_ _ hs=>?_;refine sP2 (iv x7) (iv x8) hs λ_ hs=>?_;refine wn (qs (qr (sP2 (iv x8) (.bool ((x8:Int) != (0:Int))) hs λ_ hs=>?_)));refine wn (Wp.cS hs bne_iff_ne hS (λhS=>?_) (λhS=>?_))
  ·refine qr (sP3 (.agg #[(.slice none 0 0)]) (iv x7) (iv x8) hs λ_ hs=>?_);refine stB 1 [(.slice none 0 0)] [⟨b10,35,[(.slice xa4 xl5 xc6)]⟩,⟨b2,35,[(.slice none 0 0)]⟩] hs λ_ _ hs=>?_;have hs:=hs.nilrow 49 8;refine sP2 (iv x7) (iv x8) hs λ_ hs=>?_;refine wn (qt ?_);obtain⟨M11,hle,hsl,hnew,hs⟩:=hs.release 0 rfl [⟨(Value.slice none 0 0),49,8,0,[],true⟩,⟨(Value.slice none 0 0),49,8,0,[],true⟩] rfl;have hMM:=hMM.next hle hnew;have hS:=hS M11 hle hsl;exact leaveE (K:=K) hs (resCTT (vs:=[(.slice none 0 0)]) true 1 hs rfl rfl rfl (by kernel_rfl) rfl rfl rfl) hMM.2 hS
  ·refine qk (qs (qr (sB [(.slice xa4 xl5 xc6)] true 0 hs λ_ hs=>?_)));refine cP [(.agg #[(.slice xa4 xl5 xc6)])] hs Try.func18 hS λ_ _ v hS hs=>?_;obtain⟨x12,rfl,hS⟩:=hS;refine sP (iv x12) hs λ_ hs=>?_;refine wn (qr (sP2 (iv x12) (.bool ((x12:Int) != (0:Int))) hs λ_ hs=>?_));refine wn (Wp.cS hs bne_iff_ne hS (λhS=>?_) (λhS=>?_))
   ·refine qr (sP2 (.agg #[(.slice none 0 0)]) (iv x12) hs λ_ hs=>?_);refine stB 1 [(.slice none 0 0)] [⟨b10,35,[(.slice xa4 xl5 xc6)]⟩,⟨b2,35,[(.slice none 0 0)]⟩] hs λ_ _ hs=>?_;have hs:=hs.nilrow 49 8;refine sP2 (iv 0) (iv x12) hs λ_ hs=>?_;refine wn (qt ?_);obtain⟨M13,hle,hsl,hnew,hs⟩:=hs.release 0 rfl [⟨(Value.slice none 0 0),49,8,0,[],true⟩,⟨(Value.slice none 0 0),49,8,0,[],true⟩] rfl;have hMM:=hMM.next hle hnew;have hS:=hS M13 hle hsl;exact leaveE (K:=K) hs (resCTT (vs:=[(.slice none 0 0)]) true 1 hs rfl rfl rfl (by kernel_rfl) rfl rfl rfl) hMM.2 hS
   ·refine qk (qr (sB [(.slice xa4 xl5 xc6)] true 0 hs λ_ hs=>?_));refine stB 1 [(.slice xa4 xl5 xc6)] [⟨b10,35,[(.slice xa4 xl5 xc6)]⟩,⟨b2,35,[(.slice xa4 xl5 xc6)]⟩] hs λ_ _ hs=>?_;refine sP2 (iv 0) (iv 0) hs λ_ hs=>?_;exact wn (qt (leaveE (K:=K) hs (resCTT (vs:=[(.slice xa4 xl5 xc6)]) true 1 hs rfl rfl rfl (by kernel_rfl) rfl rfl rfl) hMM.2 hS))
def S_chaffref_Read_J1 (xa4:Option Addr) (xl5:Nat) (xc6:Nat) (i69:Int) (rn71:Nat) (rx72:List Value) (M73:Mem) (I74:Int->Nat->List Value->Mem->Prop) (mu75:Int->Nat->List Value->Nat) (x79:Bool) (K:Value->Mem->Prop):Prop:=
 ((x79=true->(∃(b80 o81:Nat),xa4=some ⟨b80,o81,none⟩/\(0:Int)<=i69/\i69<((xl5:Nat):Int)/\(∃(x82:Int),At M73 b80 (o81+i69.toNat*10) [(.int .u8 x82)]/\(((x82:Int)≠104->(∃(b83 o84:Nat),xa4=some ⟨b83,o84,none⟩/\(0:Int)<=i69/\i69<((xl5:Nat):Int)/\(∃(x85:Int),At M73 b83 (o84+i69.toNat*10+1) [(.int .i64 x85)]/\(∀(M86:Mem),M73.le M86->SlV M86 none 0 0 8 []->(∀M',M86.le M'->K (Value.tuple #[(.agg #[(.slice none 0 0)]),(.int .i64 x85),(.int .i64 4)]) M')))))/\(¬((x82:Int)≠104)->(∃(b88 o89:Nat),xa4=some ⟨b88,o89,none⟩/\(0:Int)<=i69/\i69<((xl5:Nat):Int)/\(∃(x90:List UInt8),At M73 b88 (o89+i69.toNat*10+9) [(.string (mkS x90))]/\(InI (i69+1)/\(CallE Try.prog 14 #[(.slice xa4 xl5 xc6),(.int .i64 (i69+1))] M73 (λv M94=>∃(x91:X_api_Expr) (x92:Int) (x93:Bool),v=(Value.tuple #[x91.val,(.int .i64 x92),(.bool x93)])/\((¬(x93=true)->(∃(b96 o97:Nat),xa4=some ⟨b96,o97,none⟩/\(0:Int)<=x92/\x92<((xl5:Nat):Int)/\(∃(x98:Int),At M94 b96 (o97+x92.toNat*10+1) [(.int .i64 x98)]/\(∀(M99:Mem),M94.le M99->SlV M99 none 0 0 8 []->(∀M',M99.le M'->K (Value.tuple #[(.agg #[(.slice none 0 0)]),(.int .i64 x98),(.int .i64 4)]) M')))))/\(¬(¬(x93=true))->((rn71+1)*96<=140737488355328/\I74 x92 (rn71+1) (rx72++(X_api_Rule.mk x90 x91).cells) M94/\mu75 x92 (rn71+1) (rx72++(X_api_Rule.mk x90 x91).cells)<mu75 i69 rn71 rx72)))))))))))))/\(¬(x79=true)->(∀(M109:Mem) (ad107:Option Addr) (cap108:Nat),M73.le M109->SlV M109 ad107 rn71 cap108 8 rx72->(CallE Try.prog 19 #[(.agg #[(.slice ad107 rn71 cap108)])] M109 (λv _=>∃(x110:Int),v=(Value.int .i64 x110)/\(((x110:Int)≠0->(∀(M111:Mem),M109.le M111->SlV M111 none 0 0 8 []->(∀M',M111.le M'->K (Value.tuple #[(.agg #[(.slice none 0 0)]),(.int .i64 0),(.int .i64 x110)]) M')))/\(¬((x110:Int)≠0)->(∀M',M109.le M'->K (Value.tuple #[(.agg #[(.slice ad107 rn71 cap108)]),(.int .i64 0),(.int .i64 0)]) M'))))))))
def S_chaffref_Read (s1:List UInt8) (M:Mem) (K:Value->Mem->Prop):Prop:=
 ((((s1.length:Nat):Int)>2000->(∀(M3:Mem),M.le M3->SlV M3 none 0 0 8 []->(∀M',M3.le M'->K (Value.tuple #[(.agg #[(.slice none 0 0)]),(.int .i64 0),(.int .i64 2)]) M')))/\(¬(((s1.length:Nat):Int)>2000)->(CallE Try.prog 13 #[(.string (mkS s1)),(.bool true)] M (λv M7=>∃(xa4:Option Addr) (xl5:Nat) (xc6:Nat),v=(Value.slice xa4 xl5 xc6)/\(∃(I74:Int->Nat->List Value->Mem->Prop) (mu75:Int->Nat->List Value->Nat),I74 0 0 [] M7/\∀(i69:Int) (rn71:Nat) (rx72:List Value) (M73:Mem),(I74 i69 rn71 rx72 M73->(((i69:Int)=0->(S_chaffref_Read_J1 xa4 xl5 xc6 i69 rn71 rx72 M73 I74 mu75 true K))/\(¬((i69:Int)=0)->(∃(b76 o77:Nat),xa4=some ⟨b76,o77,none⟩/\(0:Int)<=i69/\i69<((xl5:Nat):Int)/\(∃(x78:Int),At M73 b76 (o77+i69.toNat*10) [(.int .u8 x78)]/\(S_chaffref_Read_J1 xa4 xl5 xc6 i69 rn71 rx72 M73 I74 mu75 ((x78:Int) != (101:Int)) K)))))))))))
set_option maxRecDepth 100000 in
theorem s_chaffref_Read (s1:List UInt8) (M:Mem) (K:Value->Mem->Prop) (hS:S_chaffref_Read s1 M K):CallE Try.prog 9 #[(Value.string (mkS s1))] M K:=by
 refine eE1 Try.func9 78 λE a hMM hs=>?_;unfold S_chaffref_Read at hS;refine qr (stepAlloc [(.slice none 0 0)] hs (by kernel_rfl) (by decide) (λ_ _ b2 hEb2 hs=>?_));have hs:=hs.nilrow 49 8;refine sP2 (iv 0) (iv 0) hs λ_ hs=>?_;refine wn (qs (qr (sP3 (.string (mkS s1)) (iv (s1.length:Int)) (.bool (decide ((s1.length:Int)>2000))) hs λ_ hs=>?_)));refine wn (Wp.cS hs decide_eq_true_iff hS (λhS=>?_) (λhS=>?_))
 ·refine qr (sP (.agg #[(.slice none 0 0)]) hs λ_ hs=>?_);refine stB 0 [(.slice none 0 0)] [⟨b2,35,[(.slice none 0 0)]⟩] hs λ_ _ hs=>?_;have hs:=hs.nilrow 49 8;refine sP2 (iv 0) (iv 2) hs λ_ hs=>?_;refine wn (qt ?_);obtain⟨M3,hle,hsl,hnew,hs⟩:=hs.release 0 rfl [⟨(Value.slice none 0 0),49,8,0,[],true⟩] rfl;have hMM:=hMM.next hle hnew;have hS:=hS M3 hle hsl;exact leaveE (K:=K) hs (resCTT (vs:=[(.slice none 0 0)]) true 0 hs rfl rfl rfl (by kernel_rfl) rfl rfl rfl) hMM.2 hS
 ·refine qk (qr (sP (.string (mkS s1)) hs λ_ hs=>?_));refine cM [(.string (mkS s1)),(.bool true)] hs hMM Try.func13 hS λ_ _ M7 v hMM hle hS hs=>?_;obtain⟨xa4,xl5,xc6,rfl,hS⟩:=hS;refine sP (.slice xa4 xl5 xc6) hs λ_ hs=>?_;refine wn (qr (stepAlloc [(.slice none 0 0)] hs (by kernel_rfl) (by decide) (λ_ _ b8 hEb8 hs=>?_)));have hs:=hs.nilrow 49 8;refine wn (qs (qr (sP (iv 0) hs λ_ hs=>?_)));refine wn (qb ?_);obtain⟨I74,mu75,hI0,hst⟩:=hS;refine Wp.loop (σ:=(Int)×(Nat)×(List Value)×(Value)×(Mem)) (λ(i69,rn71,rx72,rv70,M73) a w=>MX M73 M E/\Sx 78 E [] M73 w a [(2,(pt b2 0)),(5,(.slice xa4 xl5 xc6)),(6,(pt b8 0)),(7,(iv i69))] [⟨b8,35,[rv70]⟩,⟨b2,35,[(.slice none 0 0)]⟩] [⟨rv70,49,8,rn71,rx72,true⟩,⟨(Value.slice none 0 0),49,8,0,[],true⟩]/\I74 i69 rn71 rx72 M73) (λ(i69,rn71,rx72,rv70,M73)=>mu75 i69 rn71 rx72) (0,0,[],(.slice none 0 0),M7) ⟨hMM,hs.q,hI0⟩ (λs a w hI=>?_);obtain⟨i69,rn71,rx72,rv70,M73⟩:=s;obtain⟨hMM,hs,hI⟩:=hI;have hS:=hst i69 rn71 rx72 M73 hI;clear hst hI0 hI
  refine qs (Wp.join (λa w=>∃(x79:Bool),Sx 78 E [] M73 w a [(2,(pt b2 0)),(5,(.slice xa4 xl5 xc6)),(6,(pt b8 0)),(7,(iv i69)),(28,(.bool x79))] [⟨b8,35,[rv70]⟩,⟨b2,35,[(.slice none 0 0)]⟩] [⟨rv70,49,8,rn71,rx72,true⟩,⟨(Value.slice none 0 0),49,8,0,[],true⟩]/\(S_chaffref_Read_J1 xa4 xl5 xc6 i69 rn71 rx72 M73 I74 mu75 x79 K)) ?_ ?_)
  ·refine qg (sP3 (iv i69) (.bool ((i69:Int)==(0:Int))) (.bool ((i69:Int)==(0:Int))) hs λ_ hs=>?_);refine bsS beq_iff_eq hs hS (λhs hS=>?_) (λhs hS=>?_)
   ·repeat (first|refine sNo hs λ_ hs=>?_|refine sNu hs λ_ hs=>?_)
    refine sP (.bool true) hs λ_ hs=>?_;exact wn (⟨true,hs.q,hS⟩)
   ·refine ye (.slice xa4 xl5 xc6) hs λ_ hs=>?_;refine ye (iv i69) hs λ_ hs=>?_;refine sYe hs ?_;obtain⟨b76,o77,ha,h0,hl,hS⟩:=hS;refine sI 45 10 ha h0 hl hs λ_ hs=>?_;refine ye (.pointer (some ⟨b76,o77+i69.toNat*10,none⟩)) hs λ_ hs=>?_;refine sYe hs ?_;obtain⟨x78,hat,hS⟩:=hS;refine sV1 (.int .u8 x78) hat hs λ_ hs=>?_;refine ye (.bool ((x78:Int) != (101:Int))) hs λ_ hs=>?_;refine sP (.bool ((x78:Int) != (101:Int))) hs λ_ hs=>?_;exact wn (⟨((x78:Int) != (101:Int)),hs.q,hS⟩)
  ·intro a w hJ;obtain⟨x79,hs,hS⟩:=hJ;unfold S_chaffref_Read_J1 at hS;refine Wp.cS hs Iff.rfl hS (λhS=>?_) (λhS=>?_)
   ·refine qk (qb (qs (qr (sP2 (.slice xa4 xl5 xc6) (iv i69) hs λ_ hs=>?_))));obtain⟨b80,o81,ha,h0,hl,hS⟩:=hS;refine sI 45 10 ha h0 hl hs λ_ hs=>?_;refine sP (.pointer (some ⟨b80,o81+i69.toNat*10,none⟩)) hs λ_ hs=>?_;obtain⟨x82,hat,hS⟩:=hS;refine sV1 (.int .u8 x82) hat hs λ_ hs=>?_;refine sP (.bool ((x82:Int) != (104:Int))) hs λ_ hs=>?_;refine wn (Wp.cS hs bne_iff_ne hS (λhS=>?_) (λhS=>?_))
    ·refine qs (Wp.regionD [true,true,true,true,true,true,false,true,true] hs (by kernel_rfl) rfl [⟨b8,35,[rv70]⟩,⟨b2,35,[(.slice none 0 0)]⟩] (λ_ h=>h) [⟨rv70,49,8,rn71,rx72,true⟩,⟨(Value.slice none 0 0),49,8,0,[],true⟩] (λ_ h=>h) (λ_ hs hC=>?_));have hL:=Mem.le.refl M73;refine dA (Value.agg #[(.slice none 0 0)]) 0 [6,7,8] hs λ_ hs=>?_;refine dA (Value.slice xa4 xl5 xc6) 1 [3,4,5,7,8] hs λ_ hs=>?_;refine dA (iv i69) 2 [3,4,5,7,8] hs λ_ hs=>?_;obtain⟨b83,o84,ha,h0,hl,hS⟩:=hS;refine dF (.pointer (some ⟨b83,o84+i69.toNat*10,none⟩)) 3 [4,5,7,8] hs rfl (Yl.iS 45 10 ha h0 hl) λ_ hs=>?_;refine dA (Value.pointer (some ⟨b83,o84+i69.toNat*10+1,none⟩)) 4 [5,7,8] hs λ_ hs=>?_;refine WpD.ors (by kernel_rfl:_=[5,6]) ⟨?_,?_,trivial⟩
     ·refine stepOne 5 rfl (wanted_none rfl) #[] ?_;obtain⟨x85,hat,hS⟩:=hS;refine sV1 (iv x85) hat hs λ_ hs=>?_;refine nE 6 ?_;refine stB 1 [(.slice none 0 0)] [⟨b8,35,[rv70]⟩,⟨b2,35,[(.slice none 0 0)]⟩] hs λ_ _ hs=>?_;have hs:=hs.nilrow 49 8;refine fE 7 ?_;refine sP (iv x85) hs λ_ hs=>?_;refine nE 8 ?_;refine sP (iv 4) hs λ_ hs=>?_;refine wN ?_;refine dD ?_;refine qt ?_;obtain⟨M86,hle,hsl,hnew,hs⟩:=hs.release 0 rfl [⟨rv70,49,8,rn71,rx72,true⟩,⟨(Value.slice none 0 0),49,8,0,[],true⟩] rfl;have hMM:=hMM.next hle hnew;have hS:=hS M86 hle hsl;exact leaveE (K:=K) hs (resCTT (vs:=[(.slice none 0 0)]) true 1 hs rfl rfl rfl (by kernel_rfl) rfl rfl rfl) hMM.2 hS
     ·refine stepOne 6 rfl (wanted_none rfl) #[] ?_;refine stB 1 [(.slice none 0 0)] [⟨b8,35,[rv70]⟩,⟨b2,35,[(.slice none 0 0)]⟩] hs λ_ _ hs=>?_;have hs:=hs.nilrow 49 8;refine fE 5 ?_;obtain⟨x85,hat,hS⟩:=hS;refine sV1 (iv x85) hat hs λ_ hs=>?_;refine nE 7 ?_;refine sP (iv x85) hs λ_ hs=>?_;refine nE 8 ?_;refine sP (iv 4) hs λ_ hs=>?_;refine wN ?_;refine dD ?_;refine qt ?_;obtain⟨M87,hle,hsl,hnew,hs⟩:=hs.release 0 rfl [⟨rv70,49,8,rn71,rx72,true⟩,⟨(Value.slice none 0 0),49,8,0,[],true⟩] rfl;have hMM:=hMM.next hle hnew;have hS:=hS M87 hle hsl;exact leaveE (K:=K) hs (resCTT (vs:=[(.slice none 0 0)]) true 1 hs rfl rfl rfl (by kernel_rfl) rfl rfl rfl) hMM.2 hS
    ·refine qk (qr (sP2 (.slice xa4 xl5 xc6) (iv i69) hs λ_ hs=>?_));obtain⟨b88,o89,ha,h0,hl,hS⟩:=hS;refine sI 45 10 ha h0 hl hs λ_ hs=>?_;refine sP (.pointer (some ⟨b88,o89+i69.toNat*10+9,none⟩)) hs λ_ hs=>?_;obtain⟨x90,hat,hS⟩:=hS;refine sV1 (.string (mkS x90)) hat hs λ_ hs=>?_;refine sP (.string (mkS x90)) hs λ_ hs=>?_;refine wn (qr (sP2 (.slice xa4 xl5 xc6) (iv i69) hs λ_ hs=>?_));obtain⟨hI,hS⟩:=hS;refine sY (iv (i69+1)) hs (Yl.wr hI) λ_ hs=>?_;refine cM [(.slice xa4 xl5 xc6),(iv (i69+1))] hs hMM Try.func14 hS λ_ _ M94 v hMM hle hS hs=>?_;obtain⟨x91,x92,x93,rfl,hS⟩:=hS;refine sP4 (Value.tuple #[x91.val,(iv x92),(.bool x93)]) x91.val (iv x92) (.bool x93) hs λ_ hs=>?_;refine stepAlloc [(iv 0),(.int .u64 0),(.int .u64 0),(.int .u64 0),(.int .u64 0),(.string (mkS [])),(.slice none 0 0)] hs (by kernel_rfl) (by decide) (λ_ _ b95 hEb95 hs=>?_);refine stB 0 x91.cells [⟨b95,27,x91.cells⟩,⟨b8,35,[rv70]⟩,⟨b2,35,[(.slice none 0 0)]⟩] hs λ_ _ hs=>?_;refine sP2 (iv x92) (.bool x93) hs λ_ hs=>?_
     refine wn (qs (qr (sP2 (.bool x93) (.bool (!x93)) hs λ_ hs=>?_)));refine wn (Wp.cS hs (bnot_iff Iff.rfl) hS (λhS=>?_) (λhS=>?_))
     ·refine qs (Wp.regionD [true,true,true,true,true,true,false,true,true] hs (by kernel_rfl) rfl [⟨b95,27,x91.cells⟩,⟨b8,35,[rv70]⟩,⟨b2,35,[(.slice none 0 0)]⟩] (λ_ h=>h) [⟨rv70,49,8,rn71,rx72,true⟩,⟨(Value.slice none 0 0),49,8,0,[],true⟩] (λ_ h=>h) (λ_ hs hC=>?_));have hL:=Mem.le.refl M94;refine dA (Value.agg #[(.slice none 0 0)]) 0 [6,7,8] hs λ_ hs=>?_;refine dA (Value.slice xa4 xl5 xc6) 1 [3,4,5,7,8] hs λ_ hs=>?_;refine dA (iv x92) 2 [3,4,5,7,8] hs λ_ hs=>?_;obtain⟨b96,o97,ha,h0,hl,hS⟩:=hS;refine dF (.pointer (some ⟨b96,o97+x92.toNat*10,none⟩)) 3 [4,5,7,8] hs rfl (Yl.iS 45 10 ha h0 hl) λ_ hs=>?_;refine dA (Value.pointer (some ⟨b96,o97+x92.toNat*10+1,none⟩)) 4 [5,7,8] hs λ_ hs=>?_;refine WpD.ors (by kernel_rfl:_=[5,6]) ⟨?_,?_,trivial⟩
      ·refine stepOne 5 rfl (wanted_none rfl) #[] ?_;obtain⟨x98,hat,hS⟩:=hS;refine sV1 (iv x98) hat hs λ_ hs=>?_;refine nE 6 ?_;refine stB 2 [(.slice none 0 0)] [⟨b95,27,x91.cells⟩,⟨b8,35,[rv70]⟩,⟨b2,35,[(.slice none 0 0)]⟩] hs λ_ _ hs=>?_;have hs:=hs.nilrow 49 8;refine fE 7 ?_;refine sP (iv x98) hs λ_ hs=>?_;refine nE 8 ?_;refine sP (iv 4) hs λ_ hs=>?_;refine wN ?_;refine dD ?_;refine qt ?_;obtain⟨M99,hle,hsl,hnew,hs⟩:=hs.release 0 rfl [⟨rv70,49,8,rn71,rx72,true⟩,⟨(Value.slice none 0 0),49,8,0,[],true⟩] rfl;have hMM:=hMM.next hle hnew;have hS:=hS M99 hle hsl;exact leaveE (K:=K) hs (resCTT (vs:=[(.slice none 0 0)]) true 2 hs rfl rfl rfl (by kernel_rfl) rfl rfl rfl) hMM.2 hS
      ·refine stepOne 6 rfl (wanted_none rfl) #[] ?_;refine stB 2 [(.slice none 0 0)] [⟨b95,27,x91.cells⟩,⟨b8,35,[rv70]⟩,⟨b2,35,[(.slice none 0 0)]⟩] hs λ_ _ hs=>?_;have hs:=hs.nilrow 49 8;refine fE 5 ?_;obtain⟨x98,hat,hS⟩:=hS;refine sV1 (iv x98) hat hs λ_ hs=>?_;refine nE 7 ?_;refine sP (iv x98) hs λ_ hs=>?_;refine nE 8 ?_;refine sP (iv 4) hs λ_ hs=>?_;refine wN ?_;refine dD ?_;refine qt ?_;obtain⟨M100,hle,hsl,hnew,hs⟩:=hs.release 0 rfl [⟨rv70,49,8,rn71,rx72,true⟩,⟨(Value.slice none 0 0),49,8,0,[],true⟩] rfl;have hMM:=hMM.next hle hnew;have hS:=hS M100 hle hsl;exact leaveE (K:=K) hs (resCTT (vs:=[(.slice none 0 0)]) true 2 hs rfl rfl rfl (by kernel_rfl) rfl rfl rfl) hMM.2 hS
     ·refine qk (qr (sP (pt b8 0) hs λ_ hs=>?_));refine sB1 rv70 1 hs λ_ hs=>?_;refine sP (.string (mkS x90)) hs λ_ hs=>?_;refine sY x91.val hs (Yl.lB x91.cells true 0) λ_ hs=>?_;refine sP (X_api_Rule.mk x90 x91).val hs λ_ hs=>?_;refine stepMake ((X_api_Rule.mk x90 x91).cells) 49 8 1 hs rfl rfl rfl (λ_=>by kernel_rfl) rfl (by unfold maxLen;decide) (by decide) (λ_ _ rv101 hs=>?_);obtain⟨ad102,cap103,hv,hcp,hxl⟩:=hs.rowform 0 rfl
      dsimp only at hv hcp hxl
      subst hv;obtain⟨hB,hS⟩:=hS;refine stepAppend 1 ((X_api_Rule.mk x90 x91).cells) hs rfl rfl rfl rfl rfl (by kernel_rfl) (by kernel_rfl) (by decide) (by decide) (hs.srcRow 0 rfl rfl) (lenb hB (by decide)) hB (λ_ _ rv104 hs=>?_);replace hs:=hs.chrs (rs':=[⟨(Value.slice ad102 1 cap103),49,8,1,(X_api_Rule.mk x90 x91).cells,true⟩,⟨rv104,49,8,(rn71+1),(rx72++(X_api_Rule.mk x90 x91).cells),true⟩,⟨(Value.slice none 0 0),49,8,0,[],true⟩]) rfl;refine sP (pt b8 0) hs λ_ hs=>?_;obtain⟨ad105,cap106,hv,hcp,hxl⟩:=hs.rowform 1 rfl
      dsimp only at hv hcp hxl
      subst hv;refine stB 1 [(.slice ad105 (rn71+1) cap106)] [⟨b95,27,x91.cells⟩,⟨b8,35,[(.slice ad105 (rn71+1) cap106)]⟩,⟨b2,35,[(.slice none 0 0)]⟩] hs λ_ _ hs=>?_;refine wn (qg (sP2 (iv x92) (iv x92) hs λ_ hs=>?_));exact wn (⟨(x92,(rn71+1),(rx72++(X_api_Rule.mk x90 x91).cells),(.slice ad105 (rn71+1) cap106),M94),⟨hMM,(hs.qq (.cons _ (.cons_cons _ (.cons_cons _ List.Sublist.slnil))) (.cons _ (.cons_cons _ (.cons_cons _ List.Sublist.slnil)))),hS.1⟩,hS.2⟩)
   ·refine qx rfl (qs (qr (sB [rv70] true 0 hs λ_ hs=>?_)));obtain⟨ad107,cap108,hv,hcp,hxl⟩:=hs.rowform 0 rfl
    dsimp only at hv hcp hxl
    subst hv;obtain⟨M109,hle,hsl,hnew,hs⟩:=hs.release 0 rfl [⟨(Value.slice none 0 0),49,8,0,[],true⟩] rfl;have hMM:=hMM.next hle hnew;have hS:=hS M109 ad107 cap108 hle hsl;refine cP [(.agg #[(.slice ad107 rn71 cap108)])] hs Try.func19 hS λ_ _ v hS hs=>?_;obtain⟨x110,rfl,hS⟩:=hS;refine sP (iv x110) hs λ_ hs=>?_;refine wn (qr (sP2 (iv x110) (.bool ((x110:Int) != (0:Int))) hs λ_ hs=>?_));refine wn (Wp.cS hs bne_iff_ne hS (λhS=>?_) (λhS=>?_))
    ·refine qr (sP2 (.agg #[(.slice none 0 0)]) (iv x110) hs λ_ hs=>?_);refine stB 1 [(.slice none 0 0)] [⟨b8,35,[(.slice ad107 rn71 cap108)]⟩,⟨b2,35,[(.slice none 0 0)]⟩] hs λ_ _ hs=>?_;have hs:=hs.nilrow 49 8;refine sP2 (iv 0) (iv x110) hs λ_ hs=>?_;refine wn (qt ?_);obtain⟨M111,hle,hsl,hnew,hs⟩:=hs.release 0 rfl [⟨(Value.slice none 0 0),49,8,0,[],true⟩] rfl;have hMM:=hMM.next hle hnew;have hS:=hS M111 hle hsl;exact leaveE (K:=K) hs (resCTT (vs:=[(.slice none 0 0)]) true 1 hs rfl rfl rfl (by kernel_rfl) rfl rfl rfl) hMM.2 hS
    ·refine qk (qr (sB [(.slice ad107 rn71 cap108)] true 0 hs λ_ hs=>?_));refine stB 1 [(.slice ad107 rn71 cap108)] [⟨b8,35,[(.slice ad107 rn71 cap108)]⟩,⟨b2,35,[(.slice ad107 rn71 cap108)]⟩] hs λ_ _ hs=>?_;refine sP2 (iv 0) (iv 0) hs λ_ hs=>?_;exact wn (qt (leaveE (K:=K) hs (resCTT (vs:=[(.slice ad107 rn71 cap108)]) true 1 hs rfl rfl rfl (by kernel_rfl) rfl rfl rfl) hMM.2 hS))
def S_slices_EqualFunc_Rule (sa1:Option Addr) (sl2:Nat) (sc3:Nat) (sa4:Option Addr) (sl5:Nat) (sc6:Nat) (eq7:Value) (M:Mem) (K:Value->Prop):Prop:=
 ((((sl2:Nat):Int)≠((sl5:Nat):Int)->K (Value.bool false))/\(¬(((sl2:Nat):Int)≠((sl5:Nat):Int))->(∃(I19:Int->Prop) (mu20:Int->Nat),I19 0/\∀(x18:Int),(I19 x18->((x18<((sl2:Nat):Int)->(∃(b21 o22:Nat),sa1=some ⟨b21,o22,none⟩/\(0:Int)<=x18/\x18<((sl2:Nat):Int)/\(∃(x23:X_api_Rule),At M b21 (o22+x18.toNat*8) x23.cells/\(∃(b25 o26:Nat),sa4=some ⟨b25,o26,none⟩/\(0:Int)<=x18/\x18<((sl5:Nat):Int)/\(∃(x27:X_api_Rule),At M b25 (o26+x18.toNat*8) x27.cells/\(CallF Try.prog eq7 [x23.val,x27.val] M (λv _=>∃(x29:Bool),v=(Value.bool x29)/\((¬(x29=true)->K (Value.bool false))/\(¬(¬(x29=true))->(InI (x18+1)/\I19 (x18+1)/\mu20 (x18+1)<mu20 x18))))))))))/\(¬(x18<((sl2:Nat):Int))->K (Value.bool true)))))))
set_option maxRecDepth 100000 in
theorem s_slices_EqualFunc_Rule (sa1:Option Addr) (sl2:Nat) (sc3:Nat) (sa4:Option Addr) (sl5:Nat) (sc6:Nat) (eq7:Value) (M:Mem) (K:Value->Prop) (hS:S_slices_EqualFunc_Rule sa1 sl2 sc3 sa4 sl5 sc6 eq7 M K):CallE Try.prog 20 #[(Value.slice sa1 sl2 sc3),(Value.slice sa4 sl5 sc6),eq7] M (λv _=>K v):=by
 refine eE3 Try.func20 32 λE a hMM hs=>?_;unfold S_slices_EqualFunc_Rule at hS;refine qr (sP (.bool false) hs λ_ hs=>?_);refine wn (qs (qr (sP4 (.slice sa1 sl2 sc3) (iv (sl2:Int)) (.slice sa4 sl5 sc6) (iv (sl5:Int)) hs λ_ hs=>?_)));refine sP (.bool ((sl2:Int) != (sl5:Int))) hs λ_ hs=>?_;refine wn (Wp.cS hs bne_iff_ne hS (λhS=>?_) (λhS=>?_))
 ·refine qr (sP (.bool false) hs λ_ hs=>?_);exact wn (qt (rT hs hMM hS))
 ·refine qk (qs (qr (sP3 (.slice sa1 sl2 sc3) (iv (sl2:Int)) (iv 0) hs λ_ hs=>?_)));refine wn (qb ?_);obtain⟨I19,mu20,hI0,hst⟩:=hS;refine Wp.loop (σ:=(Int)) (λx18 a w=>Sx 32 E [] M w a [(1,(.slice sa4 sl5 sc6)),(2,eq7),(15,(.slice sa1 sl2 sc3)),(16,(iv (sl2:Int))),(17,(iv x18))] [] []/\I19 x18) (λx18=>mu20 x18) (0) ⟨hs.q,hI0⟩ (λx18 a w hI=>?_);obtain⟨hs,hI⟩:=hI;have hS:=hst x18 hI;clear hst hI0 hI;refine qr (sP (.bool (decide (x18<(sl2:Int)))) hs λ_ hs=>?_);refine wn (qs (Wp.cS hs decide_eq_true_iff hS (λhS=>?_) (λhS=>?_)))
  ·refine qk (qs (qb (qr (sP (iv x18) hs λ_ hs=>?_))));obtain⟨b21,o22,ha,h0,hl,hS⟩:=hS;refine sI 49 8 ha h0 hl hs λ_ hs=>?_;obtain⟨x23,hat,hS⟩:=hS;refine sY x23.val hs (Yl.lV x23.cells true hat) λ_ hs=>?_;refine stepAlloc [(.string (mkS [])),(iv 0),(.int .u64 0),(.int .u64 0),(.int .u64 0),(.int .u64 0),(.string (mkS [])),(.slice none 0 0)] hs (by kernel_rfl) (by decide) (λ_ _ b24 hEb24 hs=>?_);refine sP (iv x18) hs λ_ hs=>?_;refine stB 0 x23.cells [⟨b24,49,x23.cells⟩] hs λ_ _ hs=>?_;refine wn (qr (sP2 (.slice sa4 sl5 sc6) (iv x18) hs λ_ hs=>?_));obtain⟨b25,o26,ha,h0,hl,hS⟩:=hS;refine sI 49 8 ha h0 hl hs λ_ hs=>?_;obtain⟨x27,hat,hS⟩:=hS;refine sY x27.val hs (Yl.lV x27.cells true hat) λ_ hs=>?_;refine stepAlloc [(.string (mkS [])),(iv 0),(.int .u64 0),(.int .u64 0),(.int .u64 0),(.int .u64 0),(.string (mkS [])),(.slice none 0 0)] hs (by kernel_rfl) (by decide) (λ_ _ b28 hEb28 hs=>?_);refine stB 0 x27.cells [⟨b28,49,x27.cells⟩,⟨b24,49,x23.cells⟩] hs λ_ _ hs=>?_;refine wn (qr (sP eq7 hs λ_ hs=>?_));refine sY x23.val hs (Yl.lB x23.cells true 1) λ_ hs=>?_;refine sY x27.val hs (Yl.lB x27.cells true 0) λ_ hs=>?_
   refine stepCallG [x23.val,x27.val] hs rfl ⟨_,rfl,rfl⟩ rfl (by decide) hS (λ_ _ v hS hs=>?_);obtain⟨x29,rfl,hS⟩:=hS;refine sP (.bool (!x29)) hs λ_ hs=>?_;refine wn (Wp.cS hs (bnot_iff Iff.rfl) hS (λhS=>?_) (λhS=>?_))
   ·refine qr (sP (.bool false) hs λ_ hs=>?_);exact wn (qt (rT hs hMM hS))
   ·refine qk (qg ?_);obtain⟨hI,hS⟩:=hS;refine sY (iv (x18+1)) hs (Yl.wr hI) λ_ hs=>?_;refine sP (iv (x18+1)) hs λ_ hs=>?_;exact wn (⟨(x18+1),⟨(hs.qq (.cons _ (.cons _ List.Sublist.slnil)) (List.Sublist.refl _)),hS.1⟩,hS.2⟩)
  ·refine qx rfl (qr (sP (.bool true) hs λ_ hs=>?_));exact wn (qt (rT hs hMM hS))
def S_chaffref_SameGrammar_1 (a1:X_api_Rule) (b2:X_api_Rule) (M:Mem) (K:Value->Prop):Prop:=
 ((a1.Name=b2.Name->(CallE Try.prog 7 #[a1.Body.val,b2.Body.val] M (λv _=>∃(x5:Bool),v=(Value.bool x5)/\K (Value.bool x5))))/\(¬(a1.Name=b2.Name)->K (Value.bool false)))
set_option maxRecDepth 100000 in
theorem s_chaffref_SameGrammar_1 (a1:X_api_Rule) (b2:X_api_Rule) (M:Mem) (K:Value->Prop) (hS:S_chaffref_SameGrammar_1 a1 b2 M K):CallE Try.prog 21 #[a1.val,b2.val] M (λv _=>K v):=by
 refine eE2 Try.func21 17 λE a hMM hs=>?_;unfold S_chaffref_SameGrammar_1 at hS;refine qr (stepBox a1.cells hs rfl rfl rfl (by decide) (λ_ _ b3 hEb3 hs=>?_));refine stepBox b2.cells hs rfl rfl rfl (by decide) (λ_ _ b4 hEb4 hs=>?_);refine sP (.bool false) hs λ_ hs=>?_;refine wn (qr (sP (pt b3 0) hs λ_ hs=>?_));refine sB1 (.string (mkS a1.Name)) 1 hs λ_ hs=>?_;refine sP (pt b4 0) hs λ_ hs=>?_;refine sB1 (.string (mkS b2.Name)) 0 hs λ_ hs=>?_;refine sP2 (.bool ((mkS a1.Name).toList==(mkS b2.Name).toList)) (.bool ((mkS a1.Name).toList==(mkS b2.Name).toList)) hs λ_ hs=>?_;refine bsS mkS_beq hs hS (λhs hS=>?_) (λhs hS=>?_)
 ·refine ye (pt b3 1) hs λ_ hs=>?_;refine sYe hs (sY a1.Body.val hs (Yl.lB a1.Body.cells true 1) λ_ hs=>?_);refine ye (pt b4 1) hs λ_ hs=>?_;refine sYe hs (sY b2.Body.val hs (Yl.lB b2.Body.cells true 0) λ_ hs=>?_);refine sYe hs (stepCallP [a1.Body.val,b2.Body.val] hs rfl ⟨_,rfl,rfl⟩ rfl Try.func7 rfl (by kernel_rfl) (by decide) hS (λ_ _ v hS hs=>?_));obtain⟨x5,rfl,hS⟩:=hS;refine sP2 (.bool x5) (.bool x5) hs λ_ hs=>?_;exact wn (qt (rT hs hMM hS))
 ·repeat (first|refine sNo hs λ_ hs=>?_|refine sNu hs λ_ hs=>?_)
  refine sP2 (.bool false) (.bool false) hs λ_ hs=>?_;exact wn (qt (rT hs hMM hS))
theorem f_chaffref_SameGrammar_1 (a1:X_api_Rule) (b2:X_api_Rule) (M:Mem) (K:Value->Prop) (hS:S_chaffref_SameGrammar_1 a1 b2 M K):CallF Try.prog (Value.func (.func 21) #[] #[]) [a1.val,b2.val] M (λv _=>K v):=⟨21,_,_,_,rfl,Try.func21,rfl,(by decide),s_chaffref_SameGrammar_1 _ _ _ _ hS⟩
def S_chaffref_SameGrammar (ga1:Option Addr) (gl2:Nat) (gc3:Nat) (ha4:Option Addr) (hl5:Nat) (hc6:Nat) (M:Mem) (K:Value->Prop):Prop:=
 (CallE Try.prog 20 #[(.slice ga1 gl2 gc3),(.slice ha4 hl5 hc6),(Value.func (.func 21) #[] #[])] M (λv _=>∃(x9:Bool),v=(Value.bool x9)/\K (Value.bool x9)))
set_option maxRecDepth 100000 in
theorem s_chaffref_SameGrammar (ga1:Option Addr) (gl2:Nat) (gc3:Nat) (ha4:Option Addr) (hl5:Nat) (hc6:Nat) (M:Mem) (K:Value->Prop) (hS:S_chaffref_SameGrammar ga1 gl2 gc3 ha4 hl5 hc6 M K):CallE Try.prog 10 #[(Value.agg #[(Value.slice ga1 gl2 gc3)]),(Value.agg #[(Value.slice ha4 hl5 hc6)])] M (λv _=>K v):=by
 refine eE2 Try.func10 10 λE a hMM hs=>?_;unfold S_chaffref_SameGrammar at hS;refine qr (stepBox [(.slice ga1 gl2 gc3)] hs rfl rfl rfl (by decide) (λ_ _ b7 hEb7 hs=>?_));refine stepBox [(.slice ha4 hl5 hc6)] hs rfl rfl rfl (by decide) (λ_ _ b8 hEb8 hs=>?_);refine sP (.bool false) hs λ_ hs=>?_;refine wn (qr (sP (pt b7 0) hs λ_ hs=>?_));refine sB1 (.slice ga1 gl2 gc3) 1 hs λ_ hs=>?_;refine sP (pt b8 0) hs λ_ hs=>?_;refine sB1 (.slice ha4 hl5 hc6) 0 hs λ_ hs=>?_;refine cP [(.slice ga1 gl2 gc3),(.slice ha4 hl5 hc6),(Value.func (.func 21) #[] #[])] hs Try.func20 hS λ_ _ v hS hs=>?_;obtain⟨x9,rfl,hS⟩:=hS;refine sP (.bool x9) hs λ_ hs=>?_;exact wn (qt (rT hs hMM hS))
end Go.Proofs.Ytfpmiahbncnecaa.core

namespace Go.Proofs.Ytfpmiahbncnecaa.core
open Go.Gx Go.RowKit Go.ChangeShapes Go.WideShapes Go.ChangeAt
set_option linter.unusedVariables false
def S_chafflaw_GramReads (s1:List UInt8) (M:Mem) (K:Value->Prop):Prop:=
 (CallE Try.prog 8 #[(.string (mkS s1))] M (λv M7=>∃(xa2:Option Addr) (xl3:Nat) (xc4:Nat) (x5:Int) (x6:Int),v=(Value.tuple #[(.agg #[(.slice xa2 xl3 xc4)]),(.int .i64 x5),(.int .i64 x6)])/\(CallE Try.prog 9 #[(.string (mkS s1))] M7 (λv M14=>∃(xa9:Option Addr) (xl10:Nat) (xc11:Nat) (x12:Int) (x13:Int),v=(Value.tuple #[(.agg #[(.slice xa9 xl10 xc11)]),(.int .i64 x12),(.int .i64 x13)])/\(CallE Try.prog 10 #[(.agg #[(.slice xa2 xl3 xc4)]),(.agg #[(.slice xa9 xl10 xc11)])] M14 (λv _=>∃(x16:Bool),v=(Value.bool x16)/\((x16=true->(((x5:Int)=x12->K (Value.bool ((x6:Int)==(x13:Int))))/\(¬((x5:Int)=x12)->K (Value.bool false))))/\(¬(x16=true)->K (Value.bool false)))))))))
set_option maxRecDepth 100000 in
theorem s_chafflaw_GramReads (s1:List UInt8) (M:Mem) (K:Value->Prop) (hS:S_chafflaw_GramReads s1 M K):CallE Try.prog 4 #[(Value.string (mkS s1))] M (λv _=>K v):=by
 refine eE1 Try.func4 34 λE a hMM hs=>?_;unfold S_chafflaw_GramReads at hS;refine qr (sP (.bool false) hs λ_ hs=>?_);refine wn (qr (sP (.string (mkS s1)) hs λ_ hs=>?_));refine cM [(.string (mkS s1))] hs hMM Try.func8 hS λ_ _ M7 v hMM hle hS hs=>?_;obtain⟨xa2,xl3,xc4,x5,x6,rfl,hS⟩:=hS;refine sP4 (Value.tuple #[(.agg #[(.slice xa2 xl3 xc4)]),(iv x5),(iv x6)]) (.agg #[(.slice xa2 xl3 xc4)]) (iv x5) (iv x6) hs λ_ hs=>?_;refine stepAlloc [(.slice none 0 0)] hs (by kernel_rfl) (by decide) (λ_ _ b8 hEb8 hs=>?_);have hs:=hs.nilrow 49 8;refine stB 0 [(.slice xa2 xl3 xc4)] [⟨b8,35,[(.slice xa2 xl3 xc4)]⟩] hs λ_ _ hs=>?_;refine sP2 (iv x5) (iv x6) hs λ_ hs=>?_;refine wn (qr (sP (.string (mkS s1)) hs λ_ hs=>?_));refine cM [(.string (mkS s1))] hs hMM Try.func9 hS λ_ _ M14 v hMM hle hS hs=>?_;obtain⟨xa9,xl10,xc11,x12,x13,rfl,hS⟩:=hS;refine sP3 (Value.tuple #[(.agg #[(.slice xa9 xl10 xc11)]),(iv x12),(iv x13)]) (.agg #[(.slice xa9 xl10 xc11)]) (iv x12) hs λ_ hs=>?_
 refine sP (iv x13) hs λ_ hs=>?_;refine stepAlloc [(.slice none 0 0)] hs (by kernel_rfl) (by decide) (λ_ _ b15 hEb15 hs=>?_);have hs:=hs.nilrow 49 8;refine stB 0 [(.slice xa9 xl10 xc11)] [⟨b15,35,[(.slice xa9 xl10 xc11)]⟩,⟨b8,35,[(.slice xa2 xl3 xc4)]⟩] hs λ_ _ hs=>?_;refine sP2 (iv x12) (iv x13) hs λ_ hs=>?_;refine wn (qr (sB [(.slice xa2 xl3 xc4)] true 1 hs λ_ hs=>?_));refine sB [(.slice xa9 xl10 xc11)] true 0 hs λ_ hs=>?_;refine cP [(.agg #[(.slice xa2 xl3 xc4)]),(.agg #[(.slice xa9 xl10 xc11)])] hs Try.func10 hS λ_ _ v hS hs=>?_;obtain⟨x16,rfl,hS⟩:=hS;refine sP (.bool x16) hs λ_ hs=>?_;refine bsS Iff.rfl hs hS (λhs hS=>?_) (λhs hS=>?_)
 ·refine ye (iv x5) hs λ_ hs=>?_;refine ye (iv x12) hs λ_ hs=>?_;refine ye (.bool ((x5:Int)==(x12:Int))) hs λ_ hs=>?_;refine sP2 (.bool ((x5:Int)==(x12:Int))) (.bool ((x5:Int)==(x12:Int))) hs λ_ hs=>?_;refine bsS beq_iff_eq hs hS (λhs hS=>?_) (λhs hS=>?_)
  ·refine ye (iv x6) hs λ_ hs=>?_;refine ye (iv x13) hs λ_ hs=>?_;refine ye (.bool ((x6:Int)==(x13:Int))) hs λ_ hs=>?_;refine sP2 (.bool ((x6:Int)==(x13:Int))) (.bool ((x6:Int)==(x13:Int))) hs λ_ hs=>?_;exact wn (qt (rT hs hMM hS))
  ·repeat (first|refine sNo hs λ_ hs=>?_|refine sNu hs λ_ hs=>?_)
   refine sP2 (.bool false) (.bool false) hs λ_ hs=>?_;exact wn (qt (rT hs hMM hS))
 ·repeat (first|refine sNo hs λ_ hs=>?_|refine sNu hs λ_ hs=>?_)
  refine sP2 (.bool false) (.bool false) hs λ_ hs=>?_;repeat (first|refine sNo hs λ_ hs=>?_|refine sNu hs λ_ hs=>?_)
  refine sP2 (.bool false) (.bool false) hs λ_ hs=>?_;exact wn (qt (rT hs hMM hS))
end Go.Proofs.Ytfpmiahbncnecaa.core

