/- Contracts and what they hang on, of several parts. No condition. -/
import Derived.Test.YtmnilbfhfjdelaaPackG
import Derived.Test.YtmnilbfhfjdelaaM1
import Derived.Test.YtmnilbfhfjdelaaCoreG
namespace Go.Proofs.Ytmnilbfhfjdelaa.core
open Go.Gx Go.RowKit Go.ChangeShapes Go.WideShapes Go.ChangeAt
set_option linter.unusedVariables false
def S_list_Accepts (ga1:Option Addr) (gl2:Nat) (gc3:Nat) (s4:List UInt8) (M:Mem) (K:Value->Prop):Prop:=
 (CallE Try.prog 50 #[(.agg #[(.slice ga1 gl2 gc3)]),(.string (mkS s4))] M (λv M11=>∃(x6:X_api_Outcome) (xa7:Option Addr) (xl8:Nat) (xc9:Nat) (x10:Int),v=(Value.tuple #[x6.val,(.slice xa7 xl8 xc9),(.int .i64 x10)])/\(((x10:Int)=0->((x6.Ok=true->K (Value.tuple #[(.bool ((x6.N:Int)==((s4.length:Nat):Int))),(.int .i64 x10)]))/\(¬(x6.Ok=true)->K (Value.tuple #[(.bool false),(.int .i64 x10)]))))/\(¬((x10:Int)=0)->K (Value.tuple #[(.bool false),(.int .i64 x10)])))))
set_option maxRecDepth 100000 in
theorem s_list_Accepts (ga1:Option Addr) (gl2:Nat) (gc3:Nat) (s4:List UInt8) (M:Mem) (K:Value->Prop) (hS:S_list_Accepts ga1 gl2 gc3 s4 M K):CallE Try.prog 23 #[(Value.agg #[(Value.slice ga1 gl2 gc3)]),(Value.string (mkS s4))] M (λv _=>K v):=by
 refine eE2 Try.func23 30 λE a hMM hs=>?_;unfold S_list_Accepts at hS;refine qr (stepBox [(.slice ga1 gl2 gc3)] hs rfl rfl rfl (by decide) (λ_ _ b5 hEb5 hs=>?_));refine sP2 (.bool false) (iv 0) hs λ_ hs=>?_;refine wn (qr (sB [(.slice ga1 gl2 gc3)] true 0 hs λ_ hs=>?_));refine sP (.string (mkS s4)) hs λ_ hs=>?_;refine cM [(.agg #[(.slice ga1 gl2 gc3)]),(.string (mkS s4))] hs hMM Try.func50 hS λ_ _ M11 v hMM hle hS hs=>?_;obtain⟨x6,xa7,xl8,xc9,x10,rfl,hS⟩:=hS;refine sP4 (Value.tuple #[x6.val,(.slice xa7 xl8 xc9),(iv x10)]) x6.val (.slice xa7 xl8 xc9) (iv x10) hs λ_ hs=>?_;refine stepAlloc [(.bool false),(iv 0)] hs (by kernel_rfl) (by decide) (λ_ _ b12 hEb12 hs=>?_);refine stB 0 [(.bool x6.Ok),(iv x6.N)] [⟨b12,101,[(.bool x6.Ok),(iv x6.N)]⟩,⟨b5,38,[(.slice ga1 gl2 gc3)]⟩] hs λ_ _ hs=>?_;refine sP2 (.slice xa7 xl8 xc9) (iv x10) hs λ_ hs=>?_;refine wn (qr (sP2 (iv x10) (.bool ((x10:Int)==(0:Int))) hs λ_ hs=>?_))
 refine sP (.bool ((x10:Int)==(0:Int))) hs λ_ hs=>?_;refine bsS beq_iff_eq hs hS (λhs hS=>?_) (λhs hS=>?_)
 ·refine ye (pt b12 0) hs λ_ hs=>?_;refine sYe hs (sB1 (.bool x6.Ok) 0 hs λ_ hs=>?_);refine sP2 (.bool x6.Ok) (.bool x6.Ok) hs λ_ hs=>?_;refine bsS Iff.rfl hs hS (λhs hS=>?_) (λhs hS=>?_)
  ·refine ye (pt b12 1) hs λ_ hs=>?_;refine sYe hs (sB1 (iv x6.N) 0 hs λ_ hs=>?_);refine ye (.string (mkS s4)) hs λ_ hs=>?_;refine ye (iv (s4.length:Int)) hs λ_ hs=>?_;refine ye (.bool ((x6.N:Int)==(s4.length:Int))) hs λ_ hs=>?_;refine sP4 (.bool ((x6.N:Int)==(s4.length:Int))) (iv x10) (.bool ((x6.N:Int)==(s4.length:Int))) (iv x10) hs λ_ hs=>?_;exact wn (qt (rTT hs hMM hS))
  ·repeat (first|refine sNo hs λ_ hs=>?_|refine sNu hs λ_ hs=>?_)
   refine sP4 (.bool false) (iv x10) (.bool false) (iv x10) hs λ_ hs=>?_;exact wn (qt (rTT hs hMM hS))
 ·refine sNo hs λ_ hs=>?_;refine sNo hs λ_ hs=>?_;refine sP2 (.bool false) (.bool false) hs λ_ hs=>?_;repeat (first|refine sNo hs λ_ hs=>?_|refine sNu hs λ_ hs=>?_)
  refine sP4 (.bool false) (iv x10) (.bool false) (iv x10) hs λ_ hs=>?_;exact wn (qt (rTT hs hMM hS))
end Go.Proofs.Ytmnilbfhfjdelaa.core

namespace Go.Gx
open Go.RowKit
theorem Yl.rem {P:Program} {env:Env} {M:Mem} {bs:List Bx} {rs:List Rw} {d:Option Tmp} {ty:TypeId} {pos:String} {af:Array Edge} {gd:Option (Nat×Bool)} {t u:TypeId} {x y:Operand} {k:IntKind} {a b:Int} (hb:b≠0) (hkx:known env x=true:=by rfl) (hky:known env y=true:=by rfl) (hx:evT env x= .int k a:=by rfl) (hy:evT env y= .int k b:=by rfl):
  Yl P env M bs rs ⟨d,.binOp .rem t x y u,ty,pos,af,gd⟩ (.int k (a.tmod b)):=by
 refine⟨by simp[okOp,notSel,Op.operands,hkx,hky],λw _=>?_⟩
 simp[execOp,eqGuard,hx,hy,binOp,Op.intDiv,hb]
def HasM (M:Mem) (b o k:Nat):Prop:=∃c t f,M b=some (.cells c t f)/\o+k<=c.size/\(f=(0,0)\/c.size<=f.1)
theorem Has.m {M:Mem} {b o k:Nat} (h:Has M b o k):HasM M b o k:=by
 obtain⟨c,t,h1,h2⟩:=h
 exact⟨c,t,_,h1,h2,.inl rfl⟩
theorem run_storeM (P:Program) (g o:Nat) (t:TypeId) (f:Nat×Nat):∀(vs:List Value) (i:Nat) (cur:Array Value) (w:World),w.heap[g]?=some (.cells cur t f)->(f=(0,0)\/cur.size<=f.1)->o+i+vs.length<=cur.size->(∀v∈vs,v.oneCell'=true)->
  (storeCells ⟨g,o,none⟩ vs i).run P w= .ok () (w.setRow g (cur.toList.take (o+i)++vs++cur.toList.drop (o+i+vs.length)).toArray)
 |[],i,cur,w,hg,_,_,_=>by
  have e:(cur.toList.take (o+i)++[]++cur.toList.drop (o+i+([]:List Value).length)).toArray=cur:=by simp
  rw[e,setRow_self w g cur t f hg]
  rfl
 |v::rest,i,cur,w,hg,hf,hl,h1=>by
  have hi:o+i<cur.size:=by simp at hl;omega
  have hst:(store ((⟨g,o,none⟩:Addr).add i) v).run P w= .ok () (w.setRow g (cur.setIfInBounds (o+i) v)):=by
   have hadd:(⟨g,o,none⟩:Addr).add i=⟨g,o+i,none⟩:=by unfold Addr.add;split<;>simp_all
   have hfro:w.frozen? ⟨g,o+i,none⟩=false:=by
    obtain⟨lo,hi'⟩:=f
    rcases hf with h|h
    ·cases h;simp[World.frozen?,hg]
    ·simp only at h
     simp only[World.frozen?,hg,Bool.and_eq_false_iff,decide_eq_false_iff_not]
     exact .inl (by omega)
   have hcell:w.cell? ⟨g,o+i,none⟩=some cur[o+i]:=by simp[World.cell?,hg,hi]
   rw[hadd,run_store P w _ v _ (h1 v (by simp)),hcell]
   simp[hfro,setCell_eq_setRow w g (o+i) cur t f v hg]
  have ih:=run_storeM P g o t f rest (i+1) (cur.setIfInBounds (o+i) v) (w.setRow g (cur.setIfInBounds (o+i) v)) (setRow_heap w g cur _ t _ hg) (by simpa using hf) (by simp at hl ⊢;omega) (λx hx=>h1 x (by simp[hx]))
  simp only[storeCells,Sem.run_bind,hst,Result.andThen_ok,ih,setRow_setRow]
  congr 3
  have e:=list_seg_step cur.toList (o+i) v rest (by simp at hl ⊢;omega)
  simpa[Array.toList_setIfInBounds,Nat.add_assoc]using e
def NewB (M M2:Mem) (ad:Option Addr) (c:Nat) (l:List UInt8):Prop:=
 M.le M2/\l.length<=c/\c<=maxLen/\∃g cur t f,ad=some ⟨g,0,none⟩/\M g=none/\M2 g=some (.cells cur t f)/\cur.size=c/\(f=(0,0)\/cur.size<=f.1)/\cur.toList.take l.length=bytesV l
section
variable {P:Program} {ops:Array Oper} {Q:Exit->Act->World->Prop} {n:Nat} {E:World} {M M0:Mem} {L:Nat->Prop} {w:World} {a:Act} {env:Env} {bs:List Bx} {rs:List Rw} {rest:List Oper}
theorem Sx.putM (hs:Sx n E (bwW E M0 L) M w a env bs rs) (hM:WX M M0 E) {b k:Nat} {vs:List Value} {c:Array Value} {t:TypeId} {f:Nat×Nat} (hc:M b=some (.cells c t f)) (hw:L b\/M0 b=none) {a':Act} {env':Env} (hA:Ag n a' env'):
  Sx n E (bwW E M0 L) (M.put b k vs) (w.setRow b (putAt c.toList k vs).toArray) a' env' bs rs:=by
 have hb:=hs.on b _ hc
 have hother:∀x,x≠b->(w.setRow b (putAt c.toList k vs).toArray).heap[x]?=w.heap[x]?:=by
  intro x hx
  simp only[World.setRow,Array.getElem?_modify]
  rw[if_neg (by omega)]
 refine⟨hA,λx o hx=>?_,?_,λx hx=>?_,λr hr=>?_,hs.nd⟩
 ·by_cases hxb:x=b
  ·subst hxb
   rw[Mem.put_eq hc]at hx
   rw[<-hx]
   exact setRow_heap w x c (putAt c.toList k vs).toArray t f hb
  ·rw[Mem.put_ne hxb]at hx
   rw[hother x hxb];exact hs.on x o hx
 ·obtain⟨h1,h2,h3,h4,h5⟩:=hs.pr
  refine⟨h1,h2,h3,by simpa[World.setRow]using h4,λx hx hn=>?_⟩
  rw[hother x (by
   rintro rfl
   rcases hM.old _ _ hc with h|h
   ·refine hn (mem_bwW.2 ⟨hx,?_,h⟩)
    rcases hw with h'|h'
    ·exact h'
    ·rw[h']at h;cases h
   ·omega)]
  exact h5 x hx hn
 ·obtain⟨h1,h2,h3⟩:=hs.bx x hx
  have hne:x.b≠b:=by rintro rfl;rw[h2]at hc;cases hc
  exact⟨(hother _ hne).trans h1,by rw[Mem.put_ne hne];exact h2,h3⟩
 ·obtain⟨h1,h2⟩:=hs.rw r hr
  have hne:∀g,r.v.ownBlock=some g->g≠b:=λg hg=>by rintro rfl;rw[(h2 g hg).1]at hc;cases hc
  exact⟨ownsRow_keep h1 λg hg=>hother g (hne g hg),λg hg=>⟨by rw[Mem.put_ne (hne g hg)];exact(h2 g hg).1,(h2 g hg).2⟩⟩
theorem stepStoreM {t ty:TypeId} {p x:Operand} {pos:String} {af:Array Edge} {b k:Nat} {vs:List Value} {v:Value} (hs:Sx n E (bwW E M0 L) M w a env bs rs) (hM:WX M M0 E) (hkp:known env p=true) (hkx:known env x=true)
  (hp:evT env p= .pointer (some ⟨b,k,none⟩)) (hx:evT env x=v) (hc:v.cells=vs.toArray) (hn:(P.info? t).map (·.size)=some vs.length) (h1:vs.all (·.oneCell')=true) (hfit:HasM M b k vs.length) (hw:L b\/M0 b=none)
  (h:∀a' w' M2,M2=M.put b k vs->WX M2 M0 E->Sx n E (bwW E M0 L) M2 w' a' env bs rs->wpList P ops Q rest a' w'):wpList P ops Q (⟨none,.store t p x,ty,pos,af,none⟩::rest) a w:=by
 refine stepK0 (Z:=λ_ _=>False) hs (λ_ _ h=>h.elim) rfl (by simp[okOp,notSel,Op.operands,hkp,hkx]) rfl ?_
 obtain⟨c,bt,f,hb,hfit,hf⟩:=hfit
 have hbw:=hs.on b _ hb
 have hst:=run_storeM P b k bt f vs 0 c w hbw hf (by simpa using hfit) (λu hu=>List.all_eq_true.1 h1 u hu)
 refine OpW.of_skip (w':=w.setRow b (putAt c.toList k vs).toArray) ?_ ?_
 ·cases hin:P.info? t with
  |none=>simp[hin]at hn
  |some ti=>
   simp[hin]at hn
   have e:(c.toList.take (k+0)++vs++c.toList.drop (k+0+vs.length)).toArray=(putAt c.toList k vs).toArray:=by simp[putAt]
   rw[e]at hst
   simp[execOp,Instr.storeAt,hp,hx,Instr.sureAddr,storeVar,hc,sizeOf,typeInfo,hin,hn,hst]
 ·intro a' hA
  exact h a' _ _ rfl (hM.put b k vs) (hs.putM hM hb hw hA)
theorem stepBytesW {d:Nat} {src dst e ty:TypeId} {x:Operand} {pos:String} {af:Array Edge} {l:List UInt8} (hs:Sx n E (bwW E M0 L) M w a env bs rs) (hMM:WX M M0 E) (hm:l.length<=maxLen)
  (h:∀a' w' M' A c,NewB M M' A c l->WX M' M0 E->Sx n E (bwW E M0 L) M' w' a' ((d,.slice A l.length c)::env) bs rs->wpList P ops Q rest a' w')
  (hkx:known env x=true:=by rfl) (hx:evT env x= .string (mkS l):=by rfl) (hsr:P.underlying src=some .string:=by kernel_rfl) (hd:P.underlying dst=some (.slice e):=by kernel_rfl) (he:P.underlying e=some (.int .u8):=by kernel_rfl) (hdn:d<n:=by decide):wpList P ops Q (⟨some d,.convert src dst x,ty,pos,af,none⟩::rest) a w:=by
 refine stepK (Z:=λ_ _=>False) (d:=d) hs (λ_ _ h=>h.elim) rfl (by simp[okOp,notSel,Op.operands,hkx]) rfl hdn ?_
 have hrun:=run_bytes_of_string (P:=P) w src dst e (mkS l) hsr hd he
 refine OpW.of_run (w':=_) (v:=.slice (some ⟨w.heap.size,0,none⟩) l.length (grownCap w l.length 0 e)) (by simp only[execOp,hx,Sem.run_bind,hrun,Result.andThen_ok];rfl) ?_
 intro a' hA
 have hcap1:=grownCap_ge w l.length 0 e
 have hcap2:=grownCap_le_maxLen w l.length 0 e hm
 let cur:=bytesRow (mkS l) (grownCap w (mkS l).size 0 e)
 let ob:Obj:=.cells cur e (cur.size,cur.size+1)
 have hb:Below w.heap.size w (w.drew.alloc ob):=((Below.refl _ w).drew).alloc (Nat.le_refl _) _
 have hgo:=grow_on (w':=w.drew.alloc ob) hs.on (λk hk _=>hb.block k hk)
 have hnew:(w.drew.alloc ob).heap[w.heap.size]?=some ob:=heap_alloc_new w.drew ob
 have hle:=grow_le (w':=w.drew.alloc ob) hs.on
 have hsz:cur.size=grownCap w l.length 0 e:=by
  show(bytesRow (mkS l) (grownCap w (mkS l).size 0 e)).size=_
  have e2:(mkS l).size=l.length:=rfl
  have e3:∀c:Nat,l.length<=c->(bytesRow (mkS l) c).size=c:=λc hc=>by
   unfold bytesRow
   have e4:(mkS l).data.size=l.length:=rfl
   simp[e2,e4]
   omega
  rw[e2]
  exact e3 _ hcap1
 refine h a' (w.drew.alloc ob) (grow M w (w.drew.alloc ob)) (some ⟨w.heap.size,0,none⟩) (grownCap w l.length 0 e) ⟨hle,hcap1,hcap2,w.heap.size,cur,e,(cur.size,cur.size+1),rfl,hs.on.noneAt (Nat.le_refl _),?_,hsz,.inr (Nat.le_refl _),?_⟩ (hMM.next hle λb o hbo=>?_) ((hs.later hb hgo (λb hb=>?_)).act hA)
 ·unfold grow
  rw[if_pos (Nat.le_refl _),hnew]
 ·apply List.ext_getElem?
  intro j
  rw[List.getElem?_take]
  split
  ·rename_i hj
   have h1:(bytesV l)[j]?=some (.int .u8 ((l[j]'hj).toNat:Int)):=by simp[bytesV,hj]
   rw[h1]
   show(bytesRow (mkS l) _).toList[j]?=_
   unfold bytesRow
   rw[Array.getElem?_toList,Array.getElem?_append_left (by simp[mkS,hj])]
   simp[mkS,hj]
  ·rw[List.getElem?_eq_none (by simp[bytesV];omega)]
 ·unfold grow at hbo
  by_cases hk:w.heap.size<=b
  ·exact .inr (Nat.le_trans hs.pr.size hk)
  ·rw[if_neg hk]at hbo;exact .inl hbo
 ·unfold grow
  rw[if_neg (by omega)]
end
def RowM (M:Mem) (e size:Nat) (ad:Option Addr) (n cap:Nat) (xs:List Value):Prop:=
 xs.length=n*size/\n<=cap/\cap<=maxLen/\∃g cur t f,ad=some ⟨g,0,none⟩/\M g=some (.cells cur t f)/\cur.size=cap*size/\(f=(0,0)\/cur.size<=f.1)/\cur.toList.take (n*size)=xs
structure AppM (M M2:Mem) (e size:Nat) (ad ad2:Option Addr) (l2 cap2:Nat) (xs2:List Value):Prop where
 slv:SlV M2 ad2 l2 cap2 size xs2
 keep:∀b o,M b=some o->(∀g,ad=some ⟨g,0,none⟩->b≠g)->M2 b=some o
 dom:∀b,(M b).isSome=true->(M2 b).isSome=true
theorem run_appendM {P:Program} {w:World} {t ty e:TypeId} {size bytes:Nat} (ht:P.underlying t=some (.slice e)) (hi:(P.info? e).map (λi=>(i.size,i.bytes,i.zero.map (·.cells.size)))=some (size,bytes,some size))
  {g n cap:Nat} {cur:Array Value} {bt:TypeId} {f:Nat×Nat} {xs:List Value} (hg:w.heap[g]?=some (.cells cur bt f)) (hcs:cur.size=cap*size) (hf:f=(0,0)\/cur.size<=f.1) (hnc:n<=cap) (hcm:cap<=maxLen) (hxl:xs.length=n*size) (htk:cur.toList.take (n*size)=xs)
  {A:Option Addr} {m c:Nat} {news:List Value} (hr:Src w A m size news) (hm0:0<m) (h63:n+m<=maxLen) (hbytes:(n+m)*bytes<=140737488355328):
  ∃(g2 cap2:Nat) (w':World) (c2:Array Value) (t2:TypeId) (f2:Nat×Nat),(Builtin.append_ #[t,t] ty #[.slice (some ⟨g,0,none⟩) n cap,.slice A m c]).run P w= .ok (.slice (some ⟨g2,0,none⟩) (n+m) cap2) w'/\n+m<=cap2/\cap2<=maxLen/\w'.heap[g2]?=some (.cells c2 t2 f2)/\(∀(j:Nat) (u:Value),(xs++news)[j]?=some u->c2[j]?=some u)/\w.grownBy w' (some g)/\(g2=g\/g2=w.heap.size):=by
 have hsmall:n+m<=9223372036854775807:=by simp only[maxLen]at h63;omega
 cases hinf:P.info? e with
 |none=>simp[hinf]at hi
 |some i=>
  simp only[hinf,Option.map_some,Option.some.injEq,Prod.mk.injEq]at hi
  obtain⟨rfl,rfl,h3⟩:=hi
  cases hz:i.zero with
  |none=>simp[hz]at h3
  |some z=>
   simp only[hz,Option.map_some,Option.some.injEq]at h3
   obtain⟨hl,h1,hA⟩:=hr
   obtain⟨ad,rfl,hnews⟩:=hA hm0
   by_cases hroom:n+m<=cap
   ·have hfit:n*i.size+news.length<=cur.size:=by rw[hl,hcs,<-Nat.add_mul];exact Nat.mul_le_mul_right _ hroom
    have hfc:=run_firstCells_some (P:=P) w i.size m ad m c news hl hnews
    have hst:=run_storeM P g (n*i.size) bt f news 0 cur w hg hf (by simpa using hfit) h1
    simp only[Nat.add_zero]at hst
    have hrun:(Builtin.append_ #[t,t] ty #[.slice (some ⟨g,0,none⟩) n cap,.slice (some ad) m c]).run P w= .ok (.slice (some ⟨g,0,none⟩) (n+m) cap) (w.setRow g (cur.toList.take (n*i.size)++news++cur.toList.drop (n*i.size+news.length)).toArray):=by
     simp[Builtin.append_,run_underlying ht,sizeOf,typeInfo,hinf,Builtin.lenOf,hroom,hfc,Addr.add_lit,hst]
    refine⟨g,cap,_,_,bt,f,hrun,hroom,hcm,setRow_heap w g cur _ bt f hg,λj u hj=>?_,⟨rfl,rfl,rfl,by simp,λk _ hk=>setRow_other w g k _ (λe=>hk (by rw[e]))⟩,.inl rfl⟩
    rw[htk]
    have hlt:=(List.getElem?_eq_some_iff.1 hj).1
    simp only[List.getElem?_toArray]
    rw[List.getElem?_append_left hlt];exact hj
   ·have holds:∀j u,xs[j]?=some u->w.cell? ((⟨g,0,none⟩:Addr).add j)=some u:=λj u hj=>by
     rw[<-htk,List.getElem?_take]at hj
     split at hj
     ·have e:(⟨g,0,none⟩:Addr).add j=⟨g,j,none⟩:=by unfold Addr.add;split<;>simp_all
      rw[e]
      simp only[World.cell?,hg]
      simpa using hj
     ·cases hj
    have hr:=run_append_grow (P:=P) (ty:=ty) w t e i z ht hinf hz ⟨g,0,none⟩ n cap xs hxl holds ad m c news hl hnews (by omega) (by omega) (growslice_fits (by omega) hbytes)
    refine⟨w.heap.size,_,_,_,e,(0,0),hr,grownCap_ge w (n+m) cap e,grownCap_le_maxLen w (n+m) cap e h63,heap_alloc_new w.drew _,λj u hj=>?_,⟨rfl,rfl,rfl,by simp,λk hk _=>heap_alloc_old w.drew _ hk⟩,.inr rfl⟩
    have hlt:=(List.getElem?_eq_some_iff.1 hj).1
    rw[Array.getElem?_append_left (by simpa using hlt)]
    simpa using hj
section
variable {P:Program} {ops:Array Oper} {Q:Exit->Act->World->Prop} {n:Nat} {E:World} {M M0:Mem} {L:Nat->Prop} {w:World} {a:Act} {env:Env} {bs:List Bx} {rs:List Rw} {rest:List Oper}
theorem stepAppendM {d:Nat} {ty:TypeId} {x y:Operand} {t e:TypeId} {size bytes:Nat} {pos:String} {af:Array Edge} {ad:Option Addr} {k cap:Nat} {xs:List Value} {A:Option Addr} {m c:Nat} (news:List Value)
  (hs:Sx n E (bwW E M0 L) M w a env bs rs) (hM:WX M M0 E) (hkx:known env x=true) (hky:known env y=true) (hx:evT env x= .slice ad k cap) (hy:evT env y= .slice A m c)
  (ht:P.underlying t=some (.slice e)) (hinf:(P.info? e).map (λi=>(i.size,i.bytes,i.zero.map (·.cells.size)))=some (size,bytes,some size)) (hsz:0<size) (hdn:d<n)
  (hr:Src w A m size news) (hrow:RowM M e size ad k cap xs) (hw:∀g,ad=some ⟨g,0,none⟩->Wr L M0 g) (h63:k+m<=maxLen) (hbytes:(k+m)*bytes<=140737488355328)
  (h:∀a' w' M2 ad2 cap2,AppM M M2 e size ad ad2 (k+m) cap2 (xs++news)->WX M2 M0 E->Sx n E (bwW E M0 L) M2 w' a' ((d,.slice ad2 (k+m) cap2)::env) bs rs->wpList P ops Q rest a' w') (hm0:0<m:=by decide):
  wpList P ops Q (⟨some d,.call {callee:=.builtin .append,args:= #[x,y],argTypes:= #[t,t]},ty,pos,af,none⟩::rest) a w:=by
 refine stepK (Z:=λ_ _=>False) (d:=d) hs (λ_ _ h=>h.elim) rfl (by simp[okOp,notSel,Op.operands,Call.operands,hkx,hky]) rfl hdn ?_
 obtain⟨hxl,hnc,hcm,g,cur,bt,f,rfl,hg,hcs,hf,htk⟩:=hrow
 obtain⟨g2,cap2,w',c2,t2,f2,hrun,q1,q2,q3,q4,h2,h3⟩:=run_appendM (P:=P) (ty:=ty) (c:=c) ht hinf (hs.on g _ hg) hcs hf hnc hcm hxl htk hr hm0 h63 hbytes
 refine OpW.of_run (w':=w') (v:=.slice (some ⟨g2,0,none⟩) (k+m) cap2) (by rw[run_call_append hx hy,hrun];rfl) ?_
 intro a' hA
 have hp:Pres w (bwW w M (Wr L M0)) w':=by
  refine⟨h2.os,h2.tape,h2.output,h2.size,λb hb hn=>h2.block b hb λe=>hn ?_⟩
  have e:=Option.some.inj e
  exact mem_bwW.2 ⟨hb,hw b (by rw[e]),by rw[e,hg];rfl⟩
 have hg2:growW M w w' g2=some (.cells c2 t2 f2):=by
  unfold growW
  rw[if_pos,q3]
  rcases h3 with rfl|rfl
  ·exact .inr (by rw[hg];rfl)
  ·exact .inl (Nat.le_refl _)
 refine h a' w' (growW M w w') (some ⟨g2,0,none⟩) cap2 ⟨⟨by rw[List.length_append,hxl,hr.1,Nat.add_mul],q1,q2,λ_=>⟨g2,0,rfl,λj v hj=>?_⟩⟩,λb o hb hne=>?_,(growW_le hs.on hp).dom⟩ (hM.grow hs hp) (hs.backW hM hp hA)
 ·unfold Mem.cell
  rw[hg2,Nat.zero_add]
  exact q4 j v hj
 ·unfold growW
  rw[if_pos (.inr (by rw[hb];rfl)),h2.block b (hs.on.lt hb) (λe=>hne g rfl (Option.some.inj e))]
  exact hs.on b o hb
end
end Go.Gx

namespace Go.Proofs.Ytmnilbfhfjdelaa.core
open Go.Gx Go.RowKit Go.ChangeShapes Go.WideShapes Go.ChangeAt
set_option linter.unusedVariables false
def S_walk_Alpha (a1:List UInt8) (M:Mem) (K:Value->Prop):Prop:=
 ((a1=([]:List UInt8)->K (Value.int .i64 1))/\(¬(a1=([]:List UInt8))->((((a1.length:Nat):Int)>8->K (Value.int .i64 2))/\(¬(((a1.length:Nat):Int)>8)->(∃(I6:Int->Prop) (mu7:Int->Nat),I6 1/\∀(i5:Int),(I6 i5->((i5<((a1.length:Nat):Int)->(∃c8:UInt8,(0:Int)<=i5/\a1[i5.toNat]?=some c8/\(InI (i5-1)/\(∃c9:UInt8,(0:Int)<=i5-1/\a1[(i5-1).toNat]?=some c9/\(((c8.toNat:Int)<=(c9.toNat:Int)->K (Value.int .i64 3))/\(¬((c8.toNat:Int)<=(c9.toNat:Int))->(InI (i5+1)/\I6 (i5+1)/\mu7 (i5+1)<mu7 i5)))))))/\(¬(i5<((a1.length:Nat):Int))->K (Value.int .i64 0)))))))))
set_option maxRecDepth 100000 in
theorem s_walk_Alpha (a1:List UInt8) (M:Mem) (K:Value->Prop) (hS:S_walk_Alpha a1 M K):CallE Try.prog 46 #[(Value.string (mkS a1))] M (λv _=>K v):=by
 refine eE1 Try.func46 23 λE a hMM hs=>?_;unfold S_walk_Alpha at hS;refine qr (sP (iv 0) hs λ_ hs=>?_);refine wn (qs (qr (sP2 (.string (mkS a1)) (.bool ((mkS a1).toList==(mkS ([]:List UInt8)).toList)) hs λ_ hs=>?_)));refine wn (Wp.cS hs mkS_beq hS (λhS=>?_) (λhS=>?_))
 ·refine qr (sP (iv 1) hs λ_ hs=>?_);exact wn (qt (rT hs hMM hS))
 ·refine qk (qs (qr (sP3 (.string (mkS a1)) (iv (a1.length:Int)) (.bool (decide ((a1.length:Int)>8))) hs λ_ hs=>?_)));refine wn (Wp.cS hs decide_eq_true_iff hS (λhS=>?_) (λhS=>?_))
  ·refine qr (sP (iv 2) hs λ_ hs=>?_);exact wn (qt (rT hs hMM hS))
  ·refine qk (qs (qr (sP (iv 1) hs λ_ hs=>?_)));refine wn (qb ?_);obtain⟨I6,mu7,hI0,hst⟩:=hS;refine Wp.loop (σ:=(Int)) (λi5 a w=>Sx 23 E [] M w a [(0,(.string (mkS a1))),(3,(iv i5))] [] []/\I6 i5) (λi5=>mu7 i5) (1) ⟨hs.q,hI0⟩ (λi5 a w hI=>?_);obtain⟨hs,hI⟩:=hI;have hS:=hst i5 hI;clear hst hI0 hI;refine qs (qr (sP4 (iv i5) (.string (mkS a1)) (iv (a1.length:Int)) (.bool (decide (i5<(a1.length:Int)))) hs λ_ hs=>?_));refine wn (Wp.cS hs decide_eq_true_iff hS (λhS=>?_) (λhS=>?_))
   ·refine qk (qs (qb (qs (Wp.regionD [true,true,true,true,true,true,true,true] hs (by kernel_rfl) rfl [] (λ_ h=>h) [] (λ_ h=>h) (λ_ hs hC=>?_)))));have hL:=Mem.le.refl M;refine dA (Value.string (mkS a1)) 0 [2,7] hs λ_ hs=>?_;refine dA (iv i5) 1 [2,7] hs λ_ hs=>?_;obtain⟨c8,h0,hi,hS⟩:=hS;refine dF (.int .u8 (c8.toNat:Int)) 2 [7] hs rfl (Yl.indexStr rfl rfl rfl rfl (by kernel_rfl) h0 hi) λ_ hs=>?_;refine dA (Value.string (mkS a1)) 3 [6,7] hs λ_ hs=>?_;refine sE 4 ?_;refine sP (iv i5) hs λ_ hs=>?_;refine nE 5 ?_;obtain⟨hI,hS⟩:=hS;refine sY (iv (i5-1)) hs (Yl.wr hI) λ_ hs=>?_;refine nE 6 ?_;obtain⟨c9,h0,hi,hS⟩:=hS;refine sY (.int .u8 (c9.toNat:Int)) hs (Yl.indexStr rfl rfl rfl rfl (by kernel_rfl) h0 hi) λ_ hs=>?_;refine nE 7 ?_;refine sP (.bool (decide ((c8.toNat:Int)<=(c9.toNat:Int)))) hs λ_ hs=>?_;refine wN ?_;refine dD ?_;refine Wp.cS hs decide_eq_true_iff hS (λhS=>?_) (λhS=>?_)
    ·refine qr (sP (iv 3) hs λ_ hs=>?_);exact wn (qt (rT hs hMM hS))
    ·refine qk (qg (sP (iv i5) hs λ_ hs=>?_));obtain⟨hI,hS⟩:=hS;refine sY (iv (i5+1)) hs (Yl.wr hI) λ_ hs=>?_;refine sP (iv (i5+1)) hs λ_ hs=>?_;exact wn (⟨(i5+1),⟨hs.q,hS.1⟩,hS.2⟩)
   ·refine qx rfl (qr (sP (iv 0) hs λ_ hs=>?_));exact wn (qt (rT hs hMM hS))
def S_walk_shorter (a1:List UInt8) (n2:Int) (M:Mem) (K:Value->Prop):Prop:=
 (∃(I9:Int->Int->Int->Prop) (mu10:Int->Int->Int->Nat),I9 0 1 0/\∀(out6:Int) (many7:Int) (x8:Int),(I9 out6 many7 x8->((x8<n2->(InI (out6+many7)/\(InI (many7*((a1.length:Nat):Int))/\(InI (x8+1)/\I9 (out6+many7) (many7*((a1.length:Nat):Int)) (x8+1)/\mu10 (out6+many7) (many7*((a1.length:Nat):Int)) (x8+1)<mu10 out6 many7 x8))))/\(¬(x8<n2)->K (Value.int .i64 out6)))))
set_option maxRecDepth 100000 in
theorem s_walk_shorter (a1:List UInt8) (n2:Int) (M:Mem) (K:Value->Prop) (hS:S_walk_shorter a1 n2 M K):CallE Try.prog 47 #[(Value.string (mkS a1)),(Value.int .i64 n2)] M (λv _=>K v):=by
 refine eE2 Try.func47 19 λE a hMM hs=>?_;unfold S_walk_shorter at hS;refine qr (sP (iv 0) hs λ_ hs=>?_);refine wn (qr (sP2 (iv 0) (iv 1) hs λ_ hs=>?_));refine wn (qs (qr (sP2 (iv n2) (iv 0) hs λ_ hs=>?_)));refine wn (qb ?_);obtain⟨I9,mu10,hI0,hst⟩:=hS;refine Wp.loop (σ:=(Int)×(Int)×(Int)) (λ(out6,many7,x8) a w=>Sx 19 E [] M w a [(0,(.string (mkS a1))),(5,(iv out6)),(6,(iv many7)),(7,(iv n2)),(8,(iv x8))] [] []/\I9 out6 many7 x8) (λ(out6,many7,x8)=>mu10 out6 many7 x8) (0,1,0) ⟨hs.q,hI0⟩ (λs a w hI=>?_);obtain⟨out6,many7,x8⟩:=s;obtain⟨hs,hI⟩:=hI;have hS:=hst out6 many7 x8 hI;clear hst hI0 hI;refine qr (sP (.bool (decide (x8<n2))) hs λ_ hs=>?_);refine wn (qs (Wp.cS hs decide_eq_true_iff hS (λhS=>?_) (λhS=>?_)))
 ·refine qk (qs (qb (qr (sP2 (iv out6) (iv many7) hs λ_ hs=>?_))));obtain⟨hI,hS⟩:=hS;refine sY (iv (out6+many7)) hs (Yl.wr hI) λ_ hs=>?_;refine sP (iv (out6+many7)) hs λ_ hs=>?_;refine wn (qg (sP3 (iv many7) (.string (mkS a1)) (iv (a1.length:Int)) hs λ_ hs=>?_));obtain⟨hI,hS⟩:=hS;refine sY (iv (many7*(a1.length:Int))) hs (Yl.wr hI) λ_ hs=>?_;refine sP (iv (many7*(a1.length:Int))) hs λ_ hs=>?_;refine wn (qg ?_);obtain⟨hI,hS⟩:=hS;refine sY (iv (x8+1)) hs (Yl.wr hI) λ_ hs=>?_;refine sP (iv (x8+1)) hs λ_ hs=>?_;exact wn (⟨(out6+many7,many7*(a1.length:Int),x8+1),⟨hs.q,hS.1⟩,hS.2⟩)
 ·refine qx rfl (qr (sP (iv out6) hs λ_ hs=>?_));refine sP (iv out6) hs λ_ hs=>?_;exact wn (qt (rT hs hMM hS))
def S_walk_Many_J1 (a1:List UInt8) (n2:Int) (M:Mem) (x4:Bool) (K:Value->Prop):Prop:=
 ((x4=true->K (Value.tuple #[(.int .i64 0),(.int .i64 1)]))/\(¬(x4=true)->(InI (n2+1)/\(CallE Try.prog 47 #[(.string (mkS a1)),(.int .i64 (n2+1))] M (λv _=>∃(x5:Int),v=(Value.int .i64 x5)/\K (Value.tuple #[(.int .i64 x5),(.int .i64 0)]))))))
def S_walk_Many (a1:List UInt8) (n2:Int) (M:Mem) (K:Value->Prop):Prop:=
 (CallE Try.prog 46 #[(.string (mkS a1))] M (λv _=>∃(x3:Int),v=(Value.int .i64 x3)/\(((x3:Int)≠0->K (Value.tuple #[(.int .i64 0),(.int .i64 x3)]))/\(¬((x3:Int)≠0)->((n2<0->(S_walk_Many_J1 a1 n2 M true K))/\(¬(n2<0)->(S_walk_Many_J1 a1 n2 M (decide (n2>6)) K)))))))
set_option maxRecDepth 100000 in
theorem s_walk_Many (a1:List UInt8) (n2:Int) (M:Mem) (K:Value->Prop) (hS:S_walk_Many a1 n2 M K):CallE Try.prog 20 #[(Value.string (mkS a1)),(Value.int .i64 n2)] M (λv _=>K v):=by
 refine eE2 Try.func20 22 λE a hMM hs=>?_;unfold S_walk_Many at hS;refine qr (sP2 (iv 0) (iv 0) hs λ_ hs=>?_);refine wn (qs (qr (sP (.string (mkS a1)) hs λ_ hs=>?_)));refine cP [(.string (mkS a1))] hs Try.func46 hS λ_ _ v hS hs=>?_;obtain⟨x3,rfl,hS⟩:=hS;refine sP (iv x3) hs λ_ hs=>?_;refine wn (qr (sP2 (iv x3) (.bool ((x3:Int) != (0:Int))) hs λ_ hs=>?_));refine wn (Wp.cS hs bne_iff_ne hS (λhS=>?_) (λhS=>?_))
 ·refine qr (sP3 (iv x3) (iv 0) (iv x3) hs λ_ hs=>?_);exact wn (qt (rTT hs hMM hS))
 ·refine qk (qs (Wp.join (λa w=>∃(x4:Bool),Sx 22 E [] M w a [(0,(.string (mkS a1))),(1,(iv n2)),(17,(.bool x4))] [] []/\(S_walk_Many_J1 a1 n2 M x4 K)) ?_ ?_))
  ·refine qg (sP3 (iv n2) (.bool (decide (n2<0))) (.bool (decide (n2<0))) hs λ_ hs=>?_);refine bsS decide_eq_true_iff hs hS (λhs hS=>?_) (λhs hS=>?_)
   ·refine sNo hs λ_ hs=>?_;refine sNo hs λ_ hs=>?_;refine sP (.bool true) hs λ_ hs=>?_;exact wn (⟨true,hs.q,hS⟩)
   ·refine ye (iv n2) hs λ_ hs=>?_;refine ye (.bool (decide (n2>6))) hs λ_ hs=>?_;refine sP (.bool (decide (n2>6))) hs λ_ hs=>?_;exact wn (⟨(decide (n2>6)),hs.q,hS⟩)
  ·intro a w hJ;obtain⟨x4,hs,hS⟩:=hJ;unfold S_walk_Many_J1 at hS;refine Wp.cS hs Iff.rfl hS (λhS=>?_) (λhS=>?_)
   ·refine qr (sP2 (iv 0) (iv 1) hs λ_ hs=>?_);exact wn (qt (rTT hs hMM hS))
   ·refine qk (qr (sP2 (.string (mkS a1)) (iv n2) hs λ_ hs=>?_));obtain⟨hI,hS⟩:=hS;refine sY (iv (n2+1)) hs (Yl.wr hI) λ_ hs=>?_;refine cP [(.string (mkS a1)),(iv (n2+1))] hs Try.func47 hS λ_ _ v hS hs=>?_;obtain⟨x5,rfl,hS⟩:=hS;refine sP2 (iv x5) (iv 0) hs λ_ hs=>?_;exact wn (qt (rTT hs hMM hS))
end Go.Proofs.Ytmnilbfhfjdelaa.core

namespace Go.Proofs.Ytmnilbfhfjdelaa.core
open Go.Gx Go.RowKit Go.ChangeShapes Go.WideShapes Go.ChangeAt
set_option linter.unusedVariables false
def S_list_Look (ga1:Option Addr) (gl2:Nat) (gc3:Nat) (a4:List UInt8) (n5:Int) (M:Mem) (K:Value->Prop):Prop:=
 (CallE Try.prog 56 #[(.agg #[(.slice ga1 gl2 gc3)])] M (λv _=>∃(x7:Int) (x8:Int),v=(Value.tuple #[(.int .i64 x7),(.int .i64 x8)])/\(((x8:Int)≠0->K (Value.int .i64 x8))/\(¬((x8:Int)≠0)->(CallE Try.prog 20 #[(.string (mkS a4)),(.int .i64 n5)] M (λv _=>∃(x9:Int) (x10:Int),v=(Value.tuple #[(.int .i64 x9),(.int .i64 x10)])/\(((x10:Int)≠0->K (Value.int .i64 x10))/\(¬((x10:Int)≠0)->((x9>5000->K (Value.int .i64 2))/\(¬(x9>5000)->K (Value.int .i64 0)))))))))))
set_option maxRecDepth 100000 in
theorem s_list_Look (ga1:Option Addr) (gl2:Nat) (gc3:Nat) (a4:List UInt8) (n5:Int) (M:Mem) (K:Value->Prop) (hS:S_list_Look ga1 gl2 gc3 a4 n5 M K):CallE Try.prog 45 #[(Value.agg #[(Value.slice ga1 gl2 gc3)]),(Value.string (mkS a4)),(Value.int .i64 n5)] M (λv _=>K v):=by
 refine eE3 Try.func45 30 λE a hMM hs=>?_;unfold S_list_Look at hS;refine qr (stepBox [(.slice ga1 gl2 gc3)] hs rfl rfl rfl (by decide) (λ_ _ b6 hEb6 hs=>?_));refine sP (iv 0) hs λ_ hs=>?_;refine wn (qs (qr (sB [(.slice ga1 gl2 gc3)] true 0 hs λ_ hs=>?_)));refine cP [(.agg #[(.slice ga1 gl2 gc3)])] hs Try.func56 hS λ_ _ v hS hs=>?_;obtain⟨x7,x8,rfl,hS⟩:=hS;refine sP4 (Value.tuple #[(iv x7),(iv x8)]) (iv x7) (iv x8) (iv x7) hs λ_ hs=>?_;refine sP (iv x8) hs λ_ hs=>?_;refine wn (qr (sP2 (iv x8) (.bool ((x8:Int) != (0:Int))) hs λ_ hs=>?_));refine wn (Wp.cS hs bne_iff_ne hS (λhS=>?_) (λhS=>?_))
 ·refine qr (sP2 (iv x8) (iv x8) hs λ_ hs=>?_);exact wn (qt (rT hs hMM hS))
 ·refine qk (qr (sP2 (.string (mkS a4)) (iv n5) hs λ_ hs=>?_));refine cP [(.string (mkS a4)),(iv n5)] hs Try.func20 hS λ_ _ v hS hs=>?_;obtain⟨x9,x10,rfl,hS⟩:=hS;refine sP4 (Value.tuple #[(iv x9),(iv x10)]) (iv x9) (iv x10) (iv x9) hs λ_ hs=>?_;refine sP (iv x10) hs λ_ hs=>?_;refine wn (qs (qr (sP2 (iv x10) (.bool ((x10:Int) != (0:Int))) hs λ_ hs=>?_)));refine wn (Wp.cS hs bne_iff_ne hS (λhS=>?_) (λhS=>?_))
  ·refine qr (sP2 (iv x10) (iv x10) hs λ_ hs=>?_);exact wn (qt (rT hs hMM hS))
  ·refine qk (qs (qr (sP2 (iv x9) (.bool (decide (x9>5000))) hs λ_ hs=>?_)));refine wn (Wp.cS hs decide_eq_true_iff hS (λhS=>?_) (λhS=>?_))
   ·refine qr (sP (iv 2) hs λ_ hs=>?_);exact wn (qt (rT hs hMM hS))
   ·refine qk (qr (sP (iv 0) hs λ_ hs=>?_));exact wn (qt (rT hs hMM hS))
end Go.Proofs.Ytmnilbfhfjdelaa.core

namespace Go.Proofs.Ytmnilbfhfjdelaa.core
open Go.Gx Go.RowKit Go.ChangeShapes Go.WideShapes Go.ChangeAt
set_option linter.unusedVariables false
def S_internal_stringslite_IndexByte (s1:List UInt8) (c2:Int) (M:Mem) (K:Value->Prop):Prop:=
 K (Value.int .i64 (idxB s1 c2))
set_option maxRecDepth 100000 in
theorem s_internal_stringslite_IndexByte (s1:List UInt8) (c2:Int) (M:Mem) (K:Value->Prop) (hS:S_internal_stringslite_IndexByte s1 c2 M K):CallE Try.prog 84 #[(Value.string (mkS s1)),(Value.int .u8 c2)] M (λv _=>K v):=by
 refine eE2 Try.func84 8 λE a hMM hs=>?_;unfold S_internal_stringslite_IndexByte at hS;refine qr (sP (iv 0) hs λ_ hs=>?_);refine wn (qr (sP2 (.string (mkS s1)) (.int .u8 c2) hs λ_ hs=>?_));refine sY (iv (idxB s1 c2)) hs (Yl.idxByte rfl ⟨_,rfl,rfl⟩ rfl Try.func116 rfl (by kernel_rfl) (by kernel_rfl) (by kernel_rfl)) λ_ hs=>?_;refine sP (iv (idxB s1 c2)) hs λ_ hs=>?_;exact wn (qt (rT hs hMM hS))
def S_strings_IndexByte (s1:List UInt8) (c2:Int) (M:Mem) (K:Value->Prop):Prop:=
 (CallE Try.prog 84 #[(.string (mkS s1)),(.int .u8 c2)] M (λv _=>∃(x3:Int),v=(Value.int .i64 x3)/\K (Value.int .i64 x3)))
set_option maxRecDepth 100000 in
theorem s_strings_IndexByte (s1:List UInt8) (c2:Int) (M:Mem) (K:Value->Prop) (hS:S_strings_IndexByte s1 c2 M K):CallE Try.prog 51 #[(Value.string (mkS s1)),(Value.int .u8 c2)] M (λv _=>K v):=by
 refine eE2 Try.func51 8 λE a hMM hs=>?_;unfold S_strings_IndexByte at hS;refine qr (sP (iv 0) hs λ_ hs=>?_);refine wn (qr (sP2 (.string (mkS s1)) (.int .u8 c2) hs λ_ hs=>?_));refine cP [(.string (mkS s1)),(.int .u8 c2)] hs Try.func84 hS λ_ _ v hS hs=>?_;obtain⟨x3,rfl,hS⟩:=hS;refine sP (iv x3) hs λ_ hs=>?_;exact wn (qt (rT hs hMM hS))
def S_walk_Over (a1:List UInt8) (s2:List UInt8) (M:Mem) (K:Value->Prop):Prop:=
 (CallE Try.prog 46 #[(.string (mkS a1))] M (λv _=>∃(x3:Int),v=(Value.int .i64 x3)/\(((x3:Int)≠0->K (Value.int .i64 x3))/\(¬((x3:Int)≠0)->((((s2.length:Nat):Int)>6->K (Value.int .i64 2))/\(¬(((s2.length:Nat):Int)>6)->(∃(I8:Int->Prop) (mu9:Int->Nat),I8 0/\∀(x7:Int),(I8 x7->((x7<((s2.length:Nat):Int)->(∃c10:UInt8,(0:Int)<=x7/\s2[x7.toNat]?=some c10/\(CallE Try.prog 51 #[(.string (mkS a1)),(.int .u8 (c10.toNat:Int))] M (λv _=>∃(x11:Int),v=(Value.int .i64 x11)/\((x11<0->K (Value.int .i64 12))/\(¬(x11<0)->(InI (x7+1)/\I8 (x7+1)/\mu9 (x7+1)<mu9 x7)))))))/\(¬(x7<((s2.length:Nat):Int))->K (Value.int .i64 0)))))))))))
set_option maxRecDepth 100000 in
theorem s_walk_Over (a1:List UInt8) (s2:List UInt8) (M:Mem) (K:Value->Prop) (hS:S_walk_Over a1 s2 M K):CallE Try.prog 48 #[(Value.string (mkS a1)),(Value.string (mkS s2))] M (λv _=>K v):=by
 refine eE2 Try.func48 27 λE a hMM hs=>?_;unfold S_walk_Over at hS;refine qr (sP (iv 0) hs λ_ hs=>?_);refine wn (qs (qr (sP (.string (mkS a1)) hs λ_ hs=>?_)));refine cP [(.string (mkS a1))] hs Try.func46 hS λ_ _ v hS hs=>?_;obtain⟨x3,rfl,hS⟩:=hS;refine sP (iv x3) hs λ_ hs=>?_;refine wn (qr (sP2 (iv x3) (.bool ((x3:Int) != (0:Int))) hs λ_ hs=>?_));refine wn (Wp.cS hs bne_iff_ne hS (λhS=>?_) (λhS=>?_))
 ·refine qr (sP2 (iv x3) (iv x3) hs λ_ hs=>?_);exact wn (qt (rT hs hMM hS))
 ·refine qk (qs (qr (sP3 (.string (mkS s2)) (iv (s2.length:Int)) (.bool (decide ((s2.length:Int)>6))) hs λ_ hs=>?_)));refine wn (Wp.cS hs decide_eq_true_iff hS (λhS=>?_) (λhS=>?_))
  ·refine qr (sP (iv 2) hs λ_ hs=>?_);exact wn (qt (rT hs hMM hS))
  ·refine qk (qs (qr (sP3 (.string (mkS s2)) (iv (s2.length:Int)) (iv 0) hs λ_ hs=>?_)));refine wn (qb ?_);obtain⟨I8,mu9,hI0,hst⟩:=hS;refine Wp.loop (σ:=(Int)) (λx7 a w=>Sx 27 E [] M w a [(0,(.string (mkS a1))),(1,(.string (mkS s2))),(16,(iv (s2.length:Int))),(17,(iv x7))] [] []/\I8 x7) (λx7=>mu9 x7) (0) ⟨hs.q,hI0⟩ (λx7 a w hI=>?_);obtain⟨hs,hI⟩:=hI;have hS:=hst x7 hI;clear hst hI0 hI;refine qr (sP (.bool (decide (x7<(s2.length:Int)))) hs λ_ hs=>?_);refine wn (qs (Wp.cS hs decide_eq_true_iff hS (λhS=>?_) (λhS=>?_)))
   ·refine qk (qs (qb (qr (sP2 (iv x7) (iv x7) hs λ_ hs=>?_))));refine wn (qr (sP3 (.string (mkS a1)) (.string (mkS s2)) (iv x7) hs λ_ hs=>?_));obtain⟨c10,h0,hi,hS⟩:=hS;refine sY (.int .u8 (c10.toNat:Int)) hs (Yl.indexStr rfl rfl rfl rfl (by kernel_rfl) h0 hi) λ_ hs=>?_;refine cP [(.string (mkS a1)),(.int .u8 (c10.toNat:Int))] hs Try.func51 hS λ_ _ v hS hs=>?_;obtain⟨x11,rfl,hS⟩:=hS;refine sP (.bool (decide (x11<0))) hs λ_ hs=>?_;refine wn (Wp.cS hs decide_eq_true_iff hS (λhS=>?_) (λhS=>?_))
    ·refine qr (sP (iv 12) hs λ_ hs=>?_);exact wn (qt (rT hs hMM hS))
    ·refine qk (qg ?_);obtain⟨hI,hS⟩:=hS;refine sY (iv (x7+1)) hs (Yl.wr hI) λ_ hs=>?_;refine sP (iv (x7+1)) hs λ_ hs=>?_;exact wn (⟨(x7+1),⟨hs.q,hS.1⟩,hS.2⟩)
   ·refine qx rfl (qr (sP (iv 0) hs λ_ hs=>?_));exact wn (qt (rT hs hMM hS))
def S_walk_Next (a1:List UInt8) (s2:List UInt8) (M:Mem) (L:Nat->Prop) (K:Value->Mem->Prop):Prop:=
 (CallE Try.prog 48 #[(.string (mkS a1)),(.string (mkS s2))] M (λv _=>∃(x3:Int),v=(Value.int .i64 x3)/\(((x3:Int)≠0->(∀M',M.le M'->K (Value.tuple #[(.string (mkS ([]:List UInt8))),(.int .i64 x3)]) M'))/\(¬((x3:Int)≠0)->(s2.length<=maxLen/\∀(M4:Mem) (A5:Option Addr) (c6:Nat),NewB M M4 A5 c6 s2->(InI (((s2.length:Nat):Int)-1)/\(∃(G36:Type) (I34:G36->Int->Mem->Prop) (mu35:G36->Int->Nat) (gz38:G36),I34 gz38 (((s2.length:Nat):Int)-1) M4/\∀(gh37:G36) (i_32:Int) (M33:Mem),(I34 gh37 i_32 M33->((i_32>=0->(∃c39:UInt8,(0:Int)<=i_32/\s2[i_32.toNat]?=some c39/\(CallE Try.prog 51 #[(.string (mkS a1)),(.int .u8 (c39.toNat:Int))] M33 (λv _=>∃(x40:Int),v=(Value.int .i64 x40)/\(InI (((a1.length:Nat):Int)-1)/\((x40<((a1.length:Nat):Int)-1->(InI (x40+1)/\(∃c41:UInt8,(0:Int)<=x40+1/\a1[(x40+1).toNat]?=some c41/\(∃(b42 o43:Nat),A5=some ⟨b42,o43,none⟩/\(0:Int)<=i_32/\i_32<(((s2).length:Nat):Int)/\(HasM M33 b42 (o43+i_32.toNat*1) 1/\Wr L M b42/\∀(M44:Mem),M44=M33.put b42 (o43+i_32.toNat*1) [(.int .u8 (c41.toNat:Int))]->(∃(x45:List UInt8),SlV M44 A5 ((s2).length) c6 1 (bytesV x45)/\x45.length=((s2).length)/\(∀M',M44.le M'->K (Value.tuple #[(.string (mkS x45)),(.int .i64 0)]) M')))))))/\(¬(x40<((a1.length:Nat):Int)-1)->(∃c46:UInt8,(0:Int)<=0/\a1[(0:Int).toNat]?=some c46/\(∃(b47 o48:Nat),A5=some ⟨b47,o48,none⟩/\(0:Int)<=i_32/\i_32<(((s2).length:Nat):Int)/\(HasM M33 b47 (o48+i_32.toNat*1) 1/\Wr L M b47/\∀(M49:Mem),M49=M33.put b47 (o48+i_32.toNat*1) [(.int .u8 (c46.toNat:Int))]->(InI (i_32-1)/\∃(gh:G36),I34 gh (i_32-1) M49/\mu35 gh (i_32-1)<mu35 gh37 i_32)))))))))))/\(¬(i_32>=0)->((((s2.length:Nat):Int)=6->(∀M',M33.le M'->K (Value.tuple #[(.string (mkS ([]:List UInt8))),(.int .i64 12)]) M'))/\(¬(((s2.length:Nat):Int)=6)->(∃c50:UInt8,(0:Int)<=0/\a1[(0:Int).toNat]?=some c50/\((∀u∈[(Value.int .u8 (c50.toNat:Int))],u.oneCell'=true)/\(∃(xs52:List Value),RowM M33 5 1 A5 ((s2).length) c6 xs52/\(∀g,A5=some ⟨g,0,none⟩->Wr L M g)/\((s2).length+1)*1<=140737488355328/\∀(M55:Mem) (ad56:Option Addr) (cap57:Nat),AppM M33 M55 5 1 A5 ad56 ((s2).length+1) cap57 (xs52++[(.int .u8 (c50.toNat:Int))])->(∃(x58:List UInt8),SlV M55 ad56 ((s2).length+1) cap57 1 (bytesV x58)/\x58.length=((s2).length+1)/\(∀M',M55.le M'->K (Value.tuple #[(.string (mkS x58)),(.int .i64 0)]) M')))))))))))))))))
set_option maxRecDepth 100000 in
theorem s_walk_Next (a1:List UInt8) (s2:List UInt8) (M:Mem) (L:Nat->Prop) (K:Value->Mem->Prop) (hS:S_walk_Next a1 s2 M L K):CallW Try.prog 24 #[(Value.string (mkS a1)),(Value.string (mkS s2))] M L K:=by
 refine eW2 Try.func24 58 λE a hMM hs=>?_;unfold S_walk_Next at hS;refine qr (sP2 (.string (mkS ([]:List UInt8))) (iv 0) hs λ_ hs=>?_);refine wn (qs (qr (sP2 (.string (mkS a1)) (.string (mkS s2)) hs λ_ hs=>?_)));refine cP [(.string (mkS a1)),(.string (mkS s2))] hs Try.func48 hS λ_ _ v hS hs=>?_;obtain⟨x3,rfl,hS⟩:=hS;refine sP (iv x3) hs λ_ hs=>?_;refine wn (qr (sP2 (iv x3) (.bool ((x3:Int) != (0:Int))) hs λ_ hs=>?_));refine wn (Wp.cS hs bne_iff_ne hS (λhS=>?_) (λhS=>?_))
 ·refine qr (sP3 (iv x3) (.string (mkS ([]:List UInt8))) (iv x3) hs λ_ hs=>?_);exact wn (qt (leaveW (K:=K) hs (resTT hs rfl rfl rfl) hMM hS))
 ·refine qk (qr (sP (.string (mkS s2)) hs λ_ hs=>?_));obtain⟨hm,hS⟩:=hS;refine stepBytesW (e:=5) hs hMM hm (λ_ _ M4 A5 c6 hnb hMM hs=>?_);have hS:=hS M4 A5 c6 hnb;refine sP (.slice A5 ((s2).length) c6) hs λ_ hs=>?_;refine wn (qs (qr (sP2 (.string (mkS s2)) (iv (s2.length:Int)) hs λ_ hs=>?_)));obtain⟨hI,hS⟩:=hS;refine sY (iv ((s2.length:Int)-1)) hs (Yl.wr hI) λ_ hs=>?_;refine sP (iv ((s2.length:Int)-1)) hs λ_ hs=>?_;refine wn (qb ?_);obtain⟨G36,I34,mu35,gz38,hI0,hst⟩:=hS;refine Wp.loop (σ:=G36×(Int)×(Mem)) (λ(gh37,i_32,M33) a w=>WX M33 M E/\Sx 58 E (bwW E M L) M33 w a [(0,(.string (mkS a1))),(1,(.string (mkS s2))),(7,(.slice A5 ((s2).length) c6)),(8,(iv i_32))] [] []/\I34 gh37 i_32 M33) (λ(gh37,i_32,M33)=>mu35 gh37 i_32) (gz38,(s2.length:Int)-1,M4) ⟨hMM,hs.q,hI0⟩ (λs a w hI=>?_);obtain⟨gh37,i_32,M33⟩:=s;obtain⟨hMM,hs,hI⟩:=hI;have hS:=hst gh37 i_32 M33 hI;clear hst hI0 hI;refine qs (qr (sP2 (iv i_32) (.bool (decide (i_32>=0))) hs λ_ hs=>?_));refine wn (Wp.cS hs decide_eq_true_iff hS (λhS=>?_) (λhS=>?_))
  ·refine qk (qs (qb (qs (qr (sP3 (.string (mkS a1)) (.string (mkS s2)) (iv i_32) hs λ_ hs=>?_)))));obtain⟨c39,h0,hi,hS⟩:=hS;refine sY (.int .u8 (c39.toNat:Int)) hs (Yl.indexStr rfl rfl rfl rfl (by kernel_rfl) h0 hi) λ_ hs=>?_;refine cP [(.string (mkS a1)),(.int .u8 (c39.toNat:Int))] hs Try.func51 hS λ_ _ v hS hs=>?_;obtain⟨x40,rfl,hS⟩:=hS;refine sP (iv x40) hs λ_ hs=>?_;refine wn (qr (sP3 (iv x40) (.string (mkS a1)) (iv (a1.length:Int)) hs λ_ hs=>?_));obtain⟨hI,hS⟩:=hS;refine sY (iv ((a1.length:Int)-1)) hs (Yl.wr hI) λ_ hs=>?_;refine sP (.bool (decide (x40<(a1.length:Int)-1))) hs λ_ hs=>?_;refine wn (Wp.cS hs decide_eq_true_iff hS (λhS=>?_) (λhS=>?_))
   ·refine qr (sP4 (.slice A5 ((s2).length) c6) (iv i_32) (.string (mkS a1)) (iv x40) hs λ_ hs=>?_);obtain⟨hI,hS⟩:=hS;refine sY (iv (x40+1)) hs (Yl.wr hI) λ_ hs=>?_;obtain⟨c41,h0,hi,hS⟩:=hS;refine sY (.int .u8 (c41.toNat:Int)) hs (Yl.indexStr rfl rfl rfl rfl (by kernel_rfl) h0 hi) λ_ hs=>?_;obtain⟨b42,o43,ha,h0,hl,hS⟩:=hS;refine sI 5 1 ha h0 hl hs λ_ hs=>?_;obtain⟨hhas,hwr,hS⟩:=hS;refine stepStoreM (vs:=[(.int .u8 (c41.toNat:Int))]) hs hMM rfl rfl rfl rfl rfl (by kernel_rfl) rfl hhas hwr (λ_ _ M44 hM2 hMM hs=>?_);have hS:=hS M44 hM2;refine wn (qr (sP (.slice A5 ((s2).length) c6) hs λ_ hs=>?_));obtain⟨x45,hsl,hln,hS⟩:=hS;refine sY (.string (mkS x45)) hs (Yl.bytesV (e:=5) rfl rfl (by kernel_rfl) (by kernel_rfl) (by kernel_rfl) hsl hln) λ_ hs=>?_;refine sP2 (.string (mkS x45)) (iv 0) hs λ_ hs=>?_;exact wn (qt (leaveW (K:=K) hs (resTT hs rfl rfl rfl) hMM hS))
   ·refine qk (qg (sP3 (.slice A5 ((s2).length) c6) (iv i_32) (.string (mkS a1)) hs λ_ hs=>?_));obtain⟨c46,h0,hi,hS⟩:=hS;refine sY (.int .u8 (c46.toNat:Int)) hs (Yl.indexStr rfl rfl rfl rfl (by kernel_rfl) h0 hi) λ_ hs=>?_;obtain⟨b47,o48,ha,h0,hl,hS⟩:=hS;refine sI 5 1 ha h0 hl hs λ_ hs=>?_;obtain⟨hhas,hwr,hS⟩:=hS;refine stepStoreM (vs:=[(.int .u8 (c46.toNat:Int))]) hs hMM rfl rfl rfl rfl rfl (by kernel_rfl) rfl hhas hwr (λ_ _ M49 hM2 hMM hs=>?_);have hS:=hS M49 hM2;refine wn (qg (sP (iv i_32) hs λ_ hs=>?_));obtain⟨hI,hS⟩:=hS;refine sY (iv (i_32-1)) hs (Yl.wr hI) λ_ hs=>?_;refine sP (iv (i_32-1)) hs λ_ hs=>?_;refine wn ?_;obtain⟨gh,hI1,hI2⟩:=hS;exact⟨(gh,i_32-1,M49),⟨hMM,hs.q,hI1⟩,hI2⟩
  ·refine qx rfl (qs (qr (sP (.string (mkS s2)) hs λ_ hs=>?_)));refine sP2 (iv (s2.length:Int)) (.bool ((s2.length:Int)==(6:Int))) hs λ_ hs=>?_;refine wn (Wp.cS hs beq_iff_eq hS (λhS=>?_) (λhS=>?_))
   ·refine qr (sP2 (.string (mkS ([]:List UInt8))) (iv 12) hs λ_ hs=>?_);exact wn (qt (leaveW (K:=K) hs (resTT hs rfl rfl rfl) hMM hS))
   ·refine qk (qr (sP2 (.slice A5 ((s2).length) c6) (.string (mkS a1)) hs λ_ hs=>?_));obtain⟨c50,h0,hi,hS⟩:=hS;refine sY (.int .u8 (c50.toNat:Int)) hs (Yl.indexStr rfl rfl rfl rfl (by kernel_rfl) h0 hi) λ_ hs=>?_;refine stepMake [(.int .u8 (c50.toNat:Int))] 5 1 1 hs rfl rfl rfl (λ_=>by kernel_rfl) rfl (by unfold maxLen;decide) (by decide) (λ_ _ rv51 hs=>?_);obtain⟨ad53,cap54,hv,hcp,hxl⟩:=hs.rowform 0 rfl
    dsimp only at hv hcp hxl
    subst hv;obtain⟨ho,hS⟩:=hS;obtain⟨xs52,hrw,hwr,hB,hS⟩:=hS;refine stepAppendM [(.int .u8 (c50.toNat:Int))] hs hMM rfl rfl rfl rfl (by kernel_rfl) (by kernel_rfl) (by decide) (by decide) (hs.srcRowA 0 rfl ho) hrw hwr (lenb hB (by decide)) hB (λ_ _ M55 ad56 cap57 hap hMM hs=>?_);have hS:=hS M55 ad56 cap57 hap;obtain⟨x58,hsl,hln,hS⟩:=hS;refine sY (.string (mkS x58)) hs (Yl.bytesV (e:=5) rfl rfl (by kernel_rfl) (by kernel_rfl) (by kernel_rfl) hsl hln) λ_ hs=>?_;refine sP2 (.string (mkS x58)) (iv 0) hs λ_ hs=>?_;exact wn (qt (leaveW (K:=K) hs (resTT hs rfl rfl rfl) hMM hS))
theorem e_walk_Next (a1:List UInt8) (s2:List UInt8) (M:Mem) (K:Value->Mem->Prop) (hS:S_walk_Next a1 s2 M (λ_=>False) K):CallE Try.prog 24 #[(Value.string (mkS a1)),(Value.string (mkS s2))] M K:=(s_walk_Next _ _ _ _ _ hS).toE
end Go.Proofs.Ytmnilbfhfjdelaa.core

namespace Go.Proofs.Ytmnilbfhfjdelaa.core
open Go.Gx Go.RowKit Go.ChangeShapes Go.WideShapes Go.ChangeAt
set_option linter.unusedVariables false
end Go.Proofs.Ytmnilbfhfjdelaa.core

namespace Go.Proofs.Ytmnilbfhfjdelaa.core
open Go.Gx Go.RowKit Go.ChangeShapes Go.WideShapes Go.ChangeAt
set_option linter.unusedVariables false
def S_chafftop_x (M:Mem) (K:Value->Mem->Prop):Prop:=
 (∀(M5:Mem) (ad3:Option Addr) (cap4:Nat),M.le M5->SlV M5 ad3 1 cap4 8 ((X_api_Rule.mk ([97]:List UInt8) (X_api_Expr.mk 3 (X_api_Set.mk 0 0 0 0) ([120]:List UInt8) none 0 0)).cells)->(∀M',M5.le M'->K (Value.agg #[(.slice ad3 1 cap4)]) M'))
set_option maxRecDepth 100000 in
theorem s_chafftop_x (M:Mem) (K:Value->Mem->Prop) (hS:S_chafftop_x M K):CallE Try.prog 44 #[] M K:=by
 refine eE0 Try.func44 5 λE a hMM hs=>?_;unfold S_chafftop_x at hS;refine qr (stepAlloc [(.slice none 0 0)] hs (by kernel_rfl) (by decide) (λ_ _ b1 hEb1 hs=>?_));have hs:=hs.nilrow 119 8;refine wn (qr (sP2 (X_api_Expr.mk 3 (X_api_Set.mk 0 0 0 0) ([120]:List UInt8) none 0 0).val (X_api_Rule.mk ([97]:List UInt8) (X_api_Expr.mk 3 (X_api_Set.mk 0 0 0 0) ([120]:List UInt8) none 0 0)).val hs λ_ hs=>?_));refine stepMake ((X_api_Rule.mk ([97]:List UInt8) (X_api_Expr.mk 3 (X_api_Set.mk 0 0 0 0) ([120]:List UInt8) none 0 0)).cells) 119 8 1 hs rfl rfl rfl (λ_=>by kernel_rfl) rfl (by unfold maxLen;decide) (by decide) (λ_ _ rv2 hs=>?_);obtain⟨ad3,cap4,hv,hcp,hxl⟩:=hs.rowform 0 rfl
 dsimp only at hv hcp hxl
 subst hv;refine sP (.agg #[(.slice ad3 1 cap4)]) hs λ_ hs=>?_;refine stB 0 [(.slice ad3 1 cap4)] [⟨b1,38,[(.slice ad3 1 cap4)]⟩] hs λ_ _ hs=>?_;refine wn (qt ?_);obtain⟨M5,hle,hsl,hnew,hs⟩:=hs.release 0 rfl [⟨(Value.slice none 0 0),119,8,0,[],true⟩] rfl;have hMM:=hMM.next hle hnew;have hS:=hS M5 ad3 cap4 hle hsl;exact leaveE (K:=K) hs (resC (vs:=[(.slice ad3 1 cap4)]) true 0 hs rfl rfl rfl (by kernel_rfl) rfl) hMM.2 hS
def S_chafftop_begun (M:Mem) (K:Value->Prop):Prop:=
 (CallE Try.prog 44 #[] M (λv M4=>∃(xa1:Option Addr) (xl2:Nat) (xc3:Nat),v=(Value.agg #[(.slice xa1 xl2 xc3)])/\(CallE Try.prog 23 #[(.agg #[(.slice xa1 xl2 xc3)]),(.string (mkS ([120]:List UInt8)))] M4 (λv _=>∃(x5:Bool) (x6:Int),v=(Value.tuple #[(.bool x5),(.int .i64 x6)])/\((x5=true->K (Value.bool ((x6:Int)==(0:Int))))/\(¬(x5=true)->K (Value.bool false)))))))
set_option maxRecDepth 100000 in
theorem s_chafftop_begun (M:Mem) (K:Value->Prop) (hS:S_chafftop_begun M K):CallE Try.prog 18 #[] M (λv _=>K v):=by
 refine eE0 Try.func18 13 λE a hMM hs=>?_;unfold S_chafftop_begun at hS;refine qr (sP (.bool false) hs λ_ hs=>?_);refine wn (qr (stepCallE [] hs rfl ⟨_,rfl,rfl⟩ rfl Try.func44 rfl (by kernel_rfl) (by decide) hS (λ_ _ M4 v hle hnew hS hs=>?_)));have hMM:=hMM.next hle hnew;obtain⟨xa1,xl2,xc3,rfl,hS⟩:=hS;refine cP [(.agg #[(.slice xa1 xl2 xc3)]),(.string (mkS ([120]:List UInt8)))] hs Try.func23 hS λ_ _ v hS hs=>?_;obtain⟨x5,x6,rfl,hS⟩:=hS;refine sP4 (Value.tuple #[(.bool x5),(iv x6)]) (.bool x5) (iv x6) (.bool x5) hs λ_ hs=>?_;refine sP (iv x6) hs λ_ hs=>?_;refine wn (qr (sP2 (.bool x5) (.bool x5) hs λ_ hs=>?_));refine bsS Iff.rfl hs hS (λhs hS=>?_) (λhs hS=>?_)
 ·refine ye (iv x6) hs λ_ hs=>?_;refine ye (.bool ((x6:Int)==(0:Int))) hs λ_ hs=>?_;refine sP2 (.bool ((x6:Int)==(0:Int))) (.bool ((x6:Int)==(0:Int))) hs λ_ hs=>?_;exact wn (qt (rT hs hMM hS))
 ·refine sNo hs λ_ hs=>?_;refine sNo hs λ_ hs=>?_;refine sP2 (.bool false) (.bool false) hs λ_ hs=>?_;exact wn (qt (rT hs hMM hS))
def S_chaffkeep_Within (k1:Int) (n2:Int) (M:Mem) (K:Value->Prop):Prop:=
 (IntKind.wrap .u64 n2≠(0:Int)/\K (Value.int .i64 (IntKind.wrap .i64 ((IntKind.wrap .u64 k1).tmod (IntKind.wrap .u64 n2)))))
set_option maxRecDepth 100000 in
theorem s_chaffkeep_Within (k1:Int) (n2:Int) (M:Mem) (K:Value->Prop) (hS:S_chaffkeep_Within k1 n2 M K):CallE Try.prog 36 #[(Value.int .i64 k1),(Value.int .i64 n2)] M (λv _=>K v):=by
 refine eE2 Try.func36 11 λE a hMM hs=>?_;unfold S_chaffkeep_Within at hS;refine qr (sP (iv 0) hs λ_ hs=>?_);refine wn (qr (sP4 (iv k1) (.int .u64 (IntKind.wrap .u64 k1)) (iv n2) (.int .u64 (IntKind.wrap .u64 n2)) hs λ_ hs=>?_));obtain⟨hz,hS⟩:=hS;refine sY (.int .u64 ((IntKind.wrap .u64 k1).tmod (IntKind.wrap .u64 n2))) hs (Yl.rem hz) λ_ hs=>?_;refine sP2 (iv (IntKind.wrap .i64 ((IntKind.wrap .u64 k1).tmod (IntKind.wrap .u64 n2)))) (iv (IntKind.wrap .i64 ((IntKind.wrap .u64 k1).tmod (IntKind.wrap .u64 n2)))) hs λ_ hs=>?_;exact wn (qt (rT hs hMM hS))
def S_chafftop_small (a1:List UInt8) (n2:Int) (M:Mem) (K:Value->Prop):Prop:=
 ((0:Int)<=0/\(0:Int)<=(if 3<((a1.length:Nat):Int) then 3 else((a1.length:Nat):Int))/\(if 3<((a1.length:Nat):Int) then 3 else((a1.length:Nat):Int))<=((a1.length:Nat):Int)/\(CallE Try.prog 36 #[(.int .i64 n2),(.int .i64 5)] M (λv _=>∃(x3:Int),v=(Value.int .i64 x3)/\K (Value.tuple #[(.string (mkS ((a1.take (if 3<((a1.length:Nat):Int) then 3 else((a1.length:Nat):Int)).toNat).drop (0:Int).toNat))),(.int .i64 x3)]))))
set_option maxRecDepth 100000 in
theorem s_chafftop_small (a1:List UInt8) (n2:Int) (M:Mem) (K:Value->Prop) (hS:S_chafftop_small a1 n2 M K):CallE Try.prog 17 #[(Value.string (mkS a1)),(Value.int .i64 n2)] M (λv _=>K v):=by
 refine eE2 Try.func17 13 λE a hMM hs=>?_;unfold S_chafftop_small at hS;refine qr (sP2 (.string (mkS ([]:List UInt8))) (iv 0) hs λ_ hs=>?_);refine wn (qs (Wp.regionD [true,true,true,true,true,true,true,true,true] hs (by kernel_rfl) rfl [] (λ_ h=>h) [] (λ_ h=>h) (λ_ hs hC=>?_)));have hL:=Mem.le.refl M;refine dA (Value.string (mkS a1)) 0 [4,7,8] hs λ_ hs=>?_;refine dA (Value.string (mkS a1)) 1 [2,3,4,7,8] hs λ_ hs=>?_;refine dA (iv (a1.length:Int)) 2 [3,4,7,8] hs λ_ hs=>?_;refine dA (iv (if 3<(a1.length:Int) then 3 else(a1.length:Int))) 3 [4,7,8] hs λ_ hs=>?_;obtain⟨h0,h1,h2,hS⟩:=hS;refine dF (.string (mkS ((a1.take (if 3<(a1.length:Int) then 3 else(a1.length:Int)).toNat).drop (0:Int).toNat))) 4 [7,8] hs rfl (Yl.sliceStrH rfl rfl rfl rfl (by kernel_rfl) h0 h1 h2) λ_ hs=>?_;refine sE 5 ?_;refine sP (iv n2) hs λ_ hs=>?_;refine nE 6 ?_;refine cP [(iv n2),(iv 5)] hs Try.func36 hS λ_ _ v hS hs=>?_;obtain⟨x3,rfl,hS⟩:=hS;refine wn (⟨λ_ _=>hs.cxle hL (List.Sublist.refl _) (List.Sublist.refl _),?_⟩);have hC:=hs.cxle hL (List.Sublist.refl _) (List.Sublist.refl _);refine sE 7 ?_
 refine sP (.string (mkS ((a1.take (if 3<(a1.length:Int) then 3 else(a1.length:Int)).toNat).drop (0:Int).toNat))) hs λ_ hs=>?_;refine nE 8 ?_;refine sP (iv x3) hs λ_ hs=>?_;refine wN ?_;refine dD ?_;exact qt (rTT hs hMM hS)
def S_chafftop_right (ga1:Option Addr) (gl2:Nat) (gc3:Nat) (a4:List UInt8) (n5:Int) (M:Mem) (K:Value->Prop):Prop:=
 (CallE Try.prog 45 #[(.agg #[(.slice ga1 gl2 gc3)]),(.string (mkS a4)),(.int .i64 n5)] M (λv _=>∃(x7:Int),v=(Value.int .i64 x7)/\K (Value.bool ((x7:Int)==(0:Int)))))
set_option maxRecDepth 100000 in
theorem s_chafftop_right (ga1:Option Addr) (gl2:Nat) (gc3:Nat) (a4:List UInt8) (n5:Int) (M:Mem) (K:Value->Prop) (hS:S_chafftop_right ga1 gl2 gc3 a4 n5 M K):CallE Try.prog 19 #[(Value.agg #[(Value.slice ga1 gl2 gc3)]),(Value.string (mkS a4)),(Value.int .i64 n5)] M (λv _=>K v):=by
 refine eE3 Try.func19 12 λE a hMM hs=>?_;unfold S_chafftop_right at hS;refine qr (stepBox [(.slice ga1 gl2 gc3)] hs rfl rfl rfl (by decide) (λ_ _ b6 hEb6 hs=>?_));refine sP (.bool false) hs λ_ hs=>?_;refine wn (qr (sB [(.slice ga1 gl2 gc3)] true 0 hs λ_ hs=>?_));refine sP2 (.string (mkS a4)) (iv n5) hs λ_ hs=>?_;refine cP [(.agg #[(.slice ga1 gl2 gc3)]),(.string (mkS a4)),(iv n5)] hs Try.func45 hS λ_ _ v hS hs=>?_;obtain⟨x7,rfl,hS⟩:=hS;refine sP2 (.bool ((x7:Int)==(0:Int))) (.bool ((x7:Int)==(0:Int))) hs λ_ hs=>?_;exact wn (qt (rT hs hMM hS))
end Go.Proofs.Ytmnilbfhfjdelaa.core

namespace Go.Proofs.Ytmnilbfhfjdelaa.core
open Go.Gx Go.RowKit Go.ChangeShapes Go.WideShapes Go.ChangeAt
set_option linter.unusedVariables false
structure X_api_Pred where
 Kind:Int
 A_Rules_a:Option Addr
 A_Rules_l:Nat
 A_Rules_c:Nat
 B_Rules_a:Option Addr
 B_Rules_l:Nat
 B_Rules_c:Nat
def X_api_Pred.cells (x:X_api_Pred):List Value:=[(.int .i64 x.Kind),(.slice x.A_Rules_a x.A_Rules_l x.A_Rules_c),(.slice x.B_Rules_a x.B_Rules_l x.B_Rules_c)]
def X_api_Pred.val (x:X_api_Pred):Value:=.agg x.cells.toArray
def S_shrink_Check_J1 (p1:X_api_Pred) (M:Mem) (x3:Bool) (K:Value->Prop):Prop:=
 ((x3=true->K (Value.int .i64 1))/\(¬(x3=true)->(CallE Try.prog 56 #[(.agg #[(.slice p1.A_Rules_a p1.A_Rules_l p1.A_Rules_c)])] M (λv _=>∃(x4:Int) (x5:Int),v=(Value.tuple #[(.int .i64 x4),(.int .i64 x5)])/\(((x5:Int)≠0->K (Value.int .i64 x5))/\(¬((x5:Int)≠0)->(((p1.Kind:Int)=3->(CallE Try.prog 56 #[(.agg #[(.slice p1.B_Rules_a p1.B_Rules_l p1.B_Rules_c)])] M (λv _=>∃(x6:Int) (x7:Int),v=(Value.tuple #[(.int .i64 x6),(.int .i64 x7)])/\K (Value.int .i64 x7))))/\(¬((p1.Kind:Int)=3)->((((p1.B_Rules_l:Nat):Int)>0->K (Value.int .i64 3))/\(¬(((p1.B_Rules_l:Nat):Int)>0)->K (Value.int .i64 0)))))))))))
def S_shrink_Check (p1:X_api_Pred) (M:Mem) (K:Value->Prop):Prop:=
 ((p1.Kind<1->(S_shrink_Check_J1 p1 M true K))/\(¬(p1.Kind<1)->(S_shrink_Check_J1 p1 M (decide (p1.Kind>3)) K)))
set_option maxRecDepth 100000 in
theorem s_shrink_Check (p1:X_api_Pred) (M:Mem) (K:Value->Prop) (hS:S_shrink_Check p1 M K):CallE Try.prog 85 #[p1.val] M (λv _=>K v):=by
 refine eE1 Try.func85 39 λE a hMM hs=>?_;unfold S_shrink_Check at hS;refine qr (stepBox p1.cells hs rfl rfl rfl (by decide) (λ_ _ b2 hEb2 hs=>?_));refine sP (iv 0) hs λ_ hs=>?_;refine wn (qs (Wp.join (λa w=>∃(x3:Bool),Sx 39 E [] M w a [(1,(pt b2 0)),(14,(.bool x3))] [⟨b2,62,p1.cells⟩] []/\(S_shrink_Check_J1 p1 M x3 K)) ?_ ?_))
 ·refine qg (sP (pt b2 0) hs λ_ hs=>?_);refine sB1 (iv p1.Kind) 0 hs λ_ hs=>?_;refine sP2 (.bool (decide (p1.Kind<1))) (.bool (decide (p1.Kind<1))) hs λ_ hs=>?_;refine bsS decide_eq_true_iff hs hS (λhs hS=>?_) (λhs hS=>?_)
  ·repeat (first|refine sNo hs λ_ hs=>?_|refine sNu hs λ_ hs=>?_)
   refine sP (.bool true) hs λ_ hs=>?_;exact wn (⟨true,hs.q,hS⟩)
  ·refine ye (pt b2 0) hs λ_ hs=>?_;refine sYe hs (sB1 (iv p1.Kind) 0 hs λ_ hs=>?_);refine ye (.bool (decide (p1.Kind>3))) hs λ_ hs=>?_;refine sP (.bool (decide (p1.Kind>3))) hs λ_ hs=>?_;exact wn (⟨(decide (p1.Kind>3)),hs.q,hS⟩)
 ·intro a w hJ;obtain⟨x3,hs,hS⟩:=hJ;unfold S_shrink_Check_J1 at hS;refine Wp.cS hs Iff.rfl hS (λhS=>?_) (λhS=>?_)
  ·refine qr (sP (iv 1) hs λ_ hs=>?_);exact wn (qt (rT hs hMM hS))
  ·refine qk (qs (qr (sP (pt b2 1) hs λ_ hs=>?_)));refine sB [(.slice p1.A_Rules_a p1.A_Rules_l p1.A_Rules_c)] true 0 hs λ_ hs=>?_;refine cP [(.agg #[(.slice p1.A_Rules_a p1.A_Rules_l p1.A_Rules_c)])] hs Try.func56 hS λ_ _ v hS hs=>?_;obtain⟨x4,x5,rfl,hS⟩:=hS;refine sP4 (Value.tuple #[(iv x4),(iv x5)]) (iv x4) (iv x5) (iv x4) hs λ_ hs=>?_;refine sP (iv x5) hs λ_ hs=>?_;refine wn (qr (sP2 (iv x5) (.bool ((x5:Int) != (0:Int))) hs λ_ hs=>?_));refine wn (Wp.cS hs bne_iff_ne hS (λhS=>?_) (λhS=>?_))
   ·refine qr (sP2 (iv x5) (iv x5) hs λ_ hs=>?_);exact wn (qt (rT hs hMM hS))
   ·refine qk (qs (qr (sP (pt b2 0) hs λ_ hs=>?_)));refine sB1 (iv p1.Kind) 0 hs λ_ hs=>?_;refine sP (.bool ((p1.Kind:Int)==(3:Int))) hs λ_ hs=>?_;refine wn (Wp.cS hs beq_iff_eq hS (λhS=>?_) (λhS=>?_))
    ·refine qr (sP (pt b2 2) hs λ_ hs=>?_);refine sB [(.slice p1.B_Rules_a p1.B_Rules_l p1.B_Rules_c)] true 0 hs λ_ hs=>?_;refine cP [(.agg #[(.slice p1.B_Rules_a p1.B_Rules_l p1.B_Rules_c)])] hs Try.func56 hS λ_ _ v hS hs=>?_;obtain⟨x6,x7,rfl,hS⟩:=hS;refine sP4 (Value.tuple #[(iv x6),(iv x7)]) (iv x6) (iv x7) (iv x6) hs λ_ hs=>?_;refine sP (iv x7) hs λ_ hs=>?_;refine wn (qr (sP2 (iv x7) (iv x7) hs λ_ hs=>?_));exact wn (qt (rT hs hMM hS))
    ·refine qk (qs (qr (sP2 (pt b2 2) (pt b2 2) hs λ_ hs=>?_)));refine sB1 (.slice p1.B_Rules_a p1.B_Rules_l p1.B_Rules_c) 0 hs λ_ hs=>?_;refine sP2 (iv (p1.B_Rules_l:Int)) (.bool (decide ((p1.B_Rules_l:Int)>0))) hs λ_ hs=>?_;refine wn (Wp.cS hs decide_eq_true_iff hS (λhS=>?_) (λhS=>?_))
     ·refine qr (sP (iv 3) hs λ_ hs=>?_);exact wn (qt (rT hs hMM hS))
     ·refine qk (qr (sP (iv 0) hs λ_ hs=>?_));exact wn (qt (rT hs hMM hS))
def S_shrink_test_1 (s1:List UInt8) (b2:Nat) (M:Mem) (K:Value->Prop):Prop:=
 (∃(xa3:Option Addr) (xl4:Nat) (xc5:Nat),At M b2 1 [(.slice xa3 xl4 xc5)]/\(CallE Try.prog 23 #[(.agg #[(.slice xa3 xl4 xc5)]),(.string (mkS s1))] M (λv _=>∃(x6:Bool) (x7:Int),v=(Value.tuple #[(.bool x6),(.int .i64 x7)])/\K (Value.bool x6))))
set_option maxRecDepth 100000 in
theorem s_shrink_test_1 (s1:List UInt8) (b2:Nat) (M:Mem) (K:Value->Prop) (hS:S_shrink_test_1 s1 b2 M K):CallE Try.prog 86 #[(Value.string (mkS s1)),(Value.pointer (some ⟨b2,0,none⟩))] M (λv _=>K v):=by
 refine eE2 Try.func86 14 λE a hMM hs=>?_;unfold S_shrink_test_1 at hS;refine qr (sP (.bool false) hs λ_ hs=>?_);refine wn (qr (sP (pt b2 1) hs λ_ hs=>?_));obtain⟨xa3,xl4,xc5,hat,hS⟩:=hS;refine sV [(.slice xa3 xl4 xc5)] true hat hs λ_ hs=>?_;refine sP (.string (mkS s1)) hs λ_ hs=>?_;refine cP [(.agg #[(.slice xa3 xl4 xc5)]),(.string (mkS s1))] hs Try.func23 hS λ_ _ v hS hs=>?_;obtain⟨x6,x7,rfl,hS⟩:=hS;refine sP4 (Value.tuple #[(.bool x6),(iv x7)]) (.bool x6) (iv x7) (.bool x6) hs λ_ hs=>?_;refine sP (iv x7) hs λ_ hs=>?_;refine wn (qr (sP2 (.bool x6) (.bool x6) hs λ_ hs=>?_));exact wn (qt (rT hs hMM hS))
theorem f_shrink_test_1 (s1:List UInt8) (b2:Nat) (M:Mem) (K:Value->Prop) (hS:S_shrink_test_1 s1 b2 M K):CallF Try.prog (Value.func (.func 86) #[] #[(Value.pointer (some ⟨b2,0,none⟩))]) [(Value.string (mkS s1))] M (λv _=>K v):=⟨86,_,_,_,rfl,Try.func86,rfl,(by decide),s_shrink_test_1 _ _ _ _ hS⟩
def S_shrink_test_2 (s1:List UInt8) (b2:Nat) (M:Mem) (K:Value->Prop):Prop:=
 (∃(xa3:Option Addr) (xl4:Nat) (xc5:Nat),At M b2 1 [(.slice xa3 xl4 xc5)]/\(CallE Try.prog 23 #[(.agg #[(.slice xa3 xl4 xc5)]),(.string (mkS s1))] M (λv _=>∃(x6:Bool) (x7:Int),v=(Value.tuple #[(.bool x6),(.int .i64 x7)])/\K (Value.bool (!x6)))))
set_option maxRecDepth 100000 in
theorem s_shrink_test_2 (s1:List UInt8) (b2:Nat) (M:Mem) (K:Value->Prop) (hS:S_shrink_test_2 s1 b2 M K):CallE Try.prog 87 #[(Value.string (mkS s1)),(Value.pointer (some ⟨b2,0,none⟩))] M (λv _=>K v):=by
 refine eE2 Try.func87 15 λE a hMM hs=>?_;unfold S_shrink_test_2 at hS;refine qr (sP (.bool false) hs λ_ hs=>?_);refine wn (qr (sP (pt b2 1) hs λ_ hs=>?_));obtain⟨xa3,xl4,xc5,hat,hS⟩:=hS;refine sV [(.slice xa3 xl4 xc5)] true hat hs λ_ hs=>?_;refine sP (.string (mkS s1)) hs λ_ hs=>?_;refine cP [(.agg #[(.slice xa3 xl4 xc5)]),(.string (mkS s1))] hs Try.func23 hS λ_ _ v hS hs=>?_;obtain⟨x6,x7,rfl,hS⟩:=hS;refine sP4 (Value.tuple #[(.bool x6),(iv x7)]) (.bool x6) (iv x7) (.bool x6) hs λ_ hs=>?_;refine sP (iv x7) hs λ_ hs=>?_;refine wn (qr (sP3 (.bool x6) (.bool (!x6)) (.bool (!x6)) hs λ_ hs=>?_));exact wn (qt (rT hs hMM hS))
theorem f_shrink_test_2 (s1:List UInt8) (b2:Nat) (M:Mem) (K:Value->Prop) (hS:S_shrink_test_2 s1 b2 M K):CallF Try.prog (Value.func (.func 87) #[] #[(Value.pointer (some ⟨b2,0,none⟩))]) [(Value.string (mkS s1))] M (λv _=>K v):=⟨87,_,_,_,rfl,Try.func87,rfl,(by decide),s_shrink_test_2 _ _ _ _ hS⟩
def S_shrink_test_3 (s1:List UInt8) (b2:Nat) (M:Mem) (K:Value->Prop):Prop:=
 (∃(xa3:Option Addr) (xl4:Nat) (xc5:Nat),At M b2 1 [(.slice xa3 xl4 xc5)]/\(CallE Try.prog 23 #[(.agg #[(.slice xa3 xl4 xc5)]),(.string (mkS s1))] M (λv _=>∃(x6:Bool) (x7:Int),v=(Value.tuple #[(.bool x6),(.int .i64 x7)])/\(∃(xa8:Option Addr) (xl9:Nat) (xc10:Nat),At M b2 2 [(.slice xa8 xl9 xc10)]/\(CallE Try.prog 23 #[(.agg #[(.slice xa8 xl9 xc10)]),(.string (mkS s1))] M (λv _=>∃(x11:Bool) (x12:Int),v=(Value.tuple #[(.bool x11),(.int .i64 x12)])/\K (Value.bool (!(x6==x11)))))))))
set_option maxRecDepth 100000 in
theorem s_shrink_test_3 (s1:List UInt8) (b2:Nat) (M:Mem) (K:Value->Prop) (hS:S_shrink_test_3 s1 b2 M K):CallE Try.prog 88 #[(Value.string (mkS s1)),(Value.pointer (some ⟨b2,0,none⟩))] M (λv _=>K v):=by
 refine eE2 Try.func88 25 λE a hMM hs=>?_;unfold S_shrink_test_3 at hS;refine qr (sP (.bool false) hs λ_ hs=>?_);refine wn (qr (sP (pt b2 1) hs λ_ hs=>?_));obtain⟨xa3,xl4,xc5,hat,hS⟩:=hS;refine sV [(.slice xa3 xl4 xc5)] true hat hs λ_ hs=>?_;refine sP (.string (mkS s1)) hs λ_ hs=>?_;refine cP [(.agg #[(.slice xa3 xl4 xc5)]),(.string (mkS s1))] hs Try.func23 hS λ_ _ v hS hs=>?_;obtain⟨x6,x7,rfl,hS⟩:=hS;refine sP4 (Value.tuple #[(.bool x6),(iv x7)]) (.bool x6) (iv x7) (.bool x6) hs λ_ hs=>?_;refine sP (iv x7) hs λ_ hs=>?_;refine wn (qr (sP (pt b2 2) hs λ_ hs=>?_));obtain⟨xa8,xl9,xc10,hat,hS⟩:=hS;refine sV [(.slice xa8 xl9 xc10)] true hat hs λ_ hs=>?_;refine sP (.string (mkS s1)) hs λ_ hs=>?_;refine cP [(.agg #[(.slice xa8 xl9 xc10)]),(.string (mkS s1))] hs Try.func23 hS λ_ _ v hS hs=>?_;obtain⟨x11,x12,rfl,hS⟩:=hS;refine sP3 (Value.tuple #[(.bool x11),(iv x12)]) (.bool x11) (iv x12) hs λ_ hs=>?_
 refine sP2 (.bool x11) (iv x12) hs λ_ hs=>?_;refine wn (qr (sP2 (.bool x6) (.bool x11) hs λ_ hs=>?_));refine sY (.bool (!(x6==x11))) hs (Yl.neqB rfl rfl rfl rfl (by kernel_rfl)) λ_ hs=>?_;refine sP (.bool (!(x6==x11))) hs λ_ hs=>?_;exact wn (qt (rT hs hMM hS))
theorem f_shrink_test_3 (s1:List UInt8) (b2:Nat) (M:Mem) (K:Value->Prop) (hS:S_shrink_test_3 s1 b2 M K):CallF Try.prog (Value.func (.func 88) #[] #[(Value.pointer (some ⟨b2,0,none⟩))]) [(Value.string (mkS s1))] M (λv _=>K v):=⟨88,_,_,_,rfl,Try.func88,rfl,(by decide),s_shrink_test_3 _ _ _ _ hS⟩
def S_shrink_test (p1:X_api_Pred) (M:Mem) (K:Value->Mem->Prop):Prop:=
 (((p1.Kind:Int)=1->(∀(M3:Mem) (b2:Nat),M.le M3->At M3 b2 0 [(.int .i64 p1.Kind),(.slice p1.A_Rules_a p1.A_Rules_l p1.A_Rules_c),(.slice p1.B_Rules_a p1.B_Rules_l p1.B_Rules_c)]->(∀M',M3.le M'->K (Value.func (.func 86) #[] #[(.pointer (some ⟨b2,0,none⟩))]) M')))/\(¬((p1.Kind:Int)=1)->(((p1.Kind:Int)=2->(∀(M4:Mem) (b2:Nat),M.le M4->At M4 b2 0 [(.int .i64 p1.Kind),(.slice p1.A_Rules_a p1.A_Rules_l p1.A_Rules_c),(.slice p1.B_Rules_a p1.B_Rules_l p1.B_Rules_c)]->(∀M',M4.le M'->K (Value.func (.func 87) #[] #[(.pointer (some ⟨b2,0,none⟩))]) M')))/\(¬((p1.Kind:Int)=2)->(∀(M5:Mem) (b2:Nat),M.le M5->At M5 b2 0 [(.int .i64 p1.Kind),(.slice p1.A_Rules_a p1.A_Rules_l p1.A_Rules_c),(.slice p1.B_Rules_a p1.B_Rules_l p1.B_Rules_c)]->(∀M',M5.le M'->K (Value.func (.func 88) #[] #[(.pointer (some ⟨b2,0,none⟩))]) M'))))))
set_option maxRecDepth 100000 in
theorem s_shrink_test (p1:X_api_Pred) (M:Mem) (K:Value->Mem->Prop) (hS:S_shrink_test p1 M K):CallE Try.prog 54 #[p1.val] M K:=by
 refine eE1 Try.func54 12 λE a hMM hs=>?_;unfold S_shrink_test at hS;refine qr (stepBox p1.cells hs rfl rfl rfl (by decide) (λ_ _ b2 hEb2 hs=>?_));refine sP Value.nilFunc hs λ_ hs=>?_;refine wn (qs (qr (sP (pt b2 0) hs λ_ hs=>?_)));refine sB1 (iv p1.Kind) 0 hs λ_ hs=>?_;refine wn (qb (qr (sP2 (.bool ((p1.Kind:Int)==(1:Int))) (.bool ((p1.Kind:Int)==(1:Int))) hs λ_ hs=>?_)));refine wn (Wp.cS hs beq_iff_eq hS (λhS=>?_) (λhS=>?_))
 ·refine qr (sP2 (Value.func (.func 86) #[] #[(pt b2 0)]) (Value.func (.func 86) #[] #[(pt b2 0)]) hs λ_ hs=>?_);refine wn (qt ?_);obtain⟨M3,hle,hat,hnew,hs⟩:=hs.freeze 0 rfl hEb2 rfl;have hMM:=hMM.next hle hnew;have hS:=hS M3 b2 hle hat;exact leaveE (K:=K) hs (resT hs rfl rfl) hMM.2 hS
 ·refine qr (sP2 (.bool ((p1.Kind:Int)==(2:Int))) (.bool ((p1.Kind:Int)==(2:Int))) hs λ_ hs=>?_);refine wn (Wp.cS hs beq_iff_eq hS (λhS=>?_) (λhS=>?_))
  ·refine qr (sP2 (Value.func (.func 87) #[] #[(pt b2 0)]) (Value.func (.func 87) #[] #[(pt b2 0)]) hs λ_ hs=>?_);refine wn (qt ?_);obtain⟨M4,hle,hat,hnew,hs⟩:=hs.freeze 0 rfl hEb2 rfl;have hMM:=hMM.next hle hnew;have hS:=hS M4 b2 hle hat;exact leaveE (K:=K) hs (resT hs rfl rfl) hMM.2 hS
  ·refine qk (qr (sP2 (Value.func (.func 88) #[] #[(pt b2 0)]) (Value.func (.func 88) #[] #[(pt b2 0)]) hs λ_ hs=>?_));refine wn (qt ?_);obtain⟨M5,hle,hat,hnew,hs⟩:=hs.freeze 0 rfl hEb2 rfl;have hMM:=hMM.next hle hnew;have hS:=hS M5 b2 hle hat;exact leaveE (K:=K) hs (resT hs rfl rfl) hMM.2 hS
def S_shrink_Holds (p1:X_api_Pred) (s2:List UInt8) (M:Mem) (K:Value->Prop):Prop:=
 (CallE Try.prog 85 #[p1.val] M (λv _=>∃(x4:Int),v=(Value.int .i64 x4)/\(((x4:Int)≠0->K (Value.tuple #[(.bool false),(.int .i64 x4)]))/\(¬((x4:Int)≠0)->((((s2.length:Nat):Int)>60->K (Value.tuple #[(.bool false),(.int .i64 2)]))/\(¬(((s2.length:Nat):Int)>60)->(CallE Try.prog 54 #[p1.val] M (λv M6=>∃(x5:Value),v=x5/\(CallF Try.prog x5 [(.string (mkS s2))] M6 (λv _=>∃(x7:Bool),v=(Value.bool x7)/\K (Value.tuple #[(.bool x7),(.int .i64 0)])))))))))))
set_option maxRecDepth 100000 in
theorem s_shrink_Holds (p1:X_api_Pred) (s2:List UInt8) (M:Mem) (K:Value->Prop) (hS:S_shrink_Holds p1 s2 M K):CallE Try.prog 53 #[p1.val,(Value.string (mkS s2))] M (λv _=>K v):=by
 refine eE2 Try.func53 19 λE a hMM hs=>?_;unfold S_shrink_Holds at hS;refine qr (stepBox p1.cells hs rfl rfl rfl (by decide) (λ_ _ b3 hEb3 hs=>?_));refine sP2 (.bool false) (iv 0) hs λ_ hs=>?_;refine wn (qs (qr (sY p1.val hs (Yl.lB p1.cells true 0) λ_ hs=>?_)));refine cP [p1.val] hs Try.func85 hS λ_ _ v hS hs=>?_;obtain⟨x4,rfl,hS⟩:=hS;refine sP (iv x4) hs λ_ hs=>?_;refine wn (qr (sP2 (iv x4) (.bool ((x4:Int) != (0:Int))) hs λ_ hs=>?_));refine wn (Wp.cS hs bne_iff_ne hS (λhS=>?_) (λhS=>?_))
 ·refine qr (sP3 (iv x4) (.bool false) (iv x4) hs λ_ hs=>?_);exact wn (qt (rTT hs hMM hS))
 ·refine qk (qs (qr (sP3 (.string (mkS s2)) (iv (s2.length:Int)) (.bool (decide ((s2.length:Int)>60))) hs λ_ hs=>?_)));refine wn (Wp.cS hs decide_eq_true_iff hS (λhS=>?_) (λhS=>?_))
  ·refine qr (sP2 (.bool false) (iv 2) hs λ_ hs=>?_);exact wn (qt (rTT hs hMM hS))
  ·refine qk (qr (sY p1.val hs (Yl.lB p1.cells true 0) λ_ hs=>?_));refine cM [p1.val] hs hMM Try.func54 hS λ_ _ M6 v hMM hle hS hs=>?_;obtain⟨x5,hv,hS⟩:=hS;subst v;refine sP (.string (mkS s2)) hs λ_ hs=>?_;refine stepCallG [(.string (mkS s2))] hs rfl ⟨_,rfl,rfl⟩ rfl (by decide) hS (λ_ _ v hS hs=>?_);obtain⟨x7,rfl,hS⟩:=hS;refine sP2 (.bool x7) (iv 0) hs λ_ hs=>?_;exact wn (qt (rTT hs hMM hS))
def S_shrink_cut (s1:List UInt8) (n2:Int) (holds3:Value) (M:Mem) (K:Value->Prop):Prop:=
 (∃(I11:List UInt8->Bool->Int->Prop) (mu12:List UInt8->Bool->Int->Nat),I11 s1 false 0/\∀(s8:List UInt8) (some9:Bool) (i10:Int),(I11 s8 some9 i10->((i10<((s8.length:Nat):Int)->((0:Int)<=0/\(0:Int)<=i10/\(i10:Int)<=((s8.length:Nat):Int)/\(InI (i10+n2)/\((0:Int)<=(if i10+n2<((s8.length:Nat):Int) then i10+n2 else((s8.length:Nat):Int))/\(if i10+n2<((s8.length:Nat):Int) then i10+n2 else((s8.length:Nat):Int))<=((s8.length:Nat):Int)/\((s8.length:Nat):Int)<=((s8.length:Nat):Int)/\(((s8.take i10.toNat).drop (0:Int).toNat).length+((s8.take ((s8.length:Nat):Int).toNat).drop (if i10+n2<((s8.length:Nat):Int) then i10+n2 else((s8.length:Nat):Int)).toNat).length<=9223372036854775807/\(CallF Try.prog holds3 [(.string (mkS ((s8.take i10.toNat).drop (0:Int).toNat++(s8.take ((s8.length:Nat):Int).toNat).drop (if i10+n2<((s8.length:Nat):Int) then i10+n2 else((s8.length:Nat):Int)).toNat)))] M (λv _=>∃(x13:Bool),v=(Value.bool x13)/\((x13=true->I11 ((s8.take i10.toNat).drop (0:Int).toNat++(s8.take ((s8.length:Nat):Int).toNat).drop (if i10+n2<((s8.length:Nat):Int) then i10+n2 else((s8.length:Nat):Int)).toNat) true i10/\mu12 ((s8.take i10.toNat).drop (0:Int).toNat++(s8.take ((s8.length:Nat):Int).toNat).drop (if i10+n2<((s8.length:Nat):Int) then i10+n2 else((s8.length:Nat):Int)).toNat) true i10<mu12 s8 some9 i10)/\(¬(x13=true)->(InI (i10+n2)/\I11 s8 some9 (i10+n2)/\mu12 s8 some9 (i10+n2)<mu12 s8 some9 i10))))))))))/\(¬(i10<((s8.length:Nat):Int))->K (Value.tuple #[(.string (mkS s8)),(.bool some9)])))))
set_option maxRecDepth 100000 in
theorem s_shrink_cut (s1:List UInt8) (n2:Int) (holds3:Value) (M:Mem) (K:Value->Prop) (hS:S_shrink_cut s1 n2 holds3 M K):CallE Try.prog 55 #[(Value.string (mkS s1)),(Value.int .i64 n2),holds3] M (λv _=>K v):=by
 refine eE3 Try.func55 36 λE a hMM hs=>?_;unfold S_shrink_cut at hS;refine qr (sP2 (.string (mkS ([]:List UInt8))) (.bool false) hs λ_ hs=>?_);refine wn (qr (sP (.bool false) hs λ_ hs=>?_));refine wn (qs (qr (sP (iv 0) hs λ_ hs=>?_)));refine wn (qb ?_);obtain⟨I11,mu12,hI0,hst⟩:=hS;refine Wp.loop (σ:=(List UInt8)×(Bool)×(Int)) (λ(s8,some9,i10) a w=>Sx 36 E [] M w a [(0,(.string (mkS s8))),(1,(iv n2)),(2,holds3),(8,(.bool some9)),(9,(iv i10))] [] []/\I11 s8 some9 i10) (λ(s8,some9,i10)=>mu12 s8 some9 i10) (s1,false,0) ⟨hs.q,hI0⟩ (λs a w hI=>?_);obtain⟨s8,some9,i10⟩:=s;obtain⟨hs,hI⟩:=hI;have hS:=hst s8 some9 i10 hI;clear hst hI0 hI;refine qs (qr (sP4 (iv i10) (.string (mkS s8)) (iv (s8.length:Int)) (.bool (decide (i10<(s8.length:Int)))) hs λ_ hs=>?_));refine wn (Wp.cS hs decide_eq_true_iff hS (λhS=>?_) (λhS=>?_))
 ·refine qk (qb (qs (Wp.regionD [true,true,true,true,true,true,true,true,true,true,true,true,true] hs (by kernel_rfl) rfl [] (λ_ h=>h) [] (λ_ h=>h) (λ_ hs hC=>?_))));have hL:=Mem.le.refl M;refine dA (Value.string (mkS s8)) 0 [2,11,12] hs λ_ hs=>?_;refine dA (iv i10) 1 [2,11,12] hs λ_ hs=>?_;obtain⟨h0,h1,h2,hS⟩:=hS;refine dF (.string (mkS ((s8.take i10.toNat).drop (0:Int).toNat))) 2 [11,12] hs rfl (Yl.sliceStrH rfl rfl rfl rfl (by kernel_rfl) h0 h1 h2) λ_ hs=>?_;refine dA (Value.string (mkS s8)) 3 [10,11,12] hs λ_ hs=>?_;refine dA (Value.string (mkS s8)) 4 [5,9,10,11,12] hs λ_ hs=>?_;refine dA (iv (s8.length:Int)) 5 [9,10,11,12] hs λ_ hs=>?_;refine dA (iv i10) 6 [8,9,10,11,12] hs λ_ hs=>?_;refine sE 7 ?_;refine sP (iv n2) hs λ_ hs=>?_;refine nE 8 ?_;obtain⟨hI,hS⟩:=hS;refine sY (iv (i10+n2)) hs (Yl.wr hI) λ_ hs=>?_;refine nE 9 ?_;refine sP (iv (if i10+n2<(s8.length:Int) then i10+n2 else(s8.length:Int))) hs λ_ hs=>?_;refine nE 10 ?_;obtain⟨h0,h1,h2,hS⟩:=hS;refine sY (.string (mkS ((s8.take (s8.length:Int).toNat).drop (if i10+n2<(s8.length:Int) then i10+n2 else(s8.length:Int)).toNat))) hs (Yl.sliceStrL rfl rfl rfl rfl (by kernel_rfl) h0 h1 h2) λ_ hs=>?_;refine nE 11 ?_;obtain⟨hl,hS⟩:=hS
  refine sY (.string (mkS ((s8.take i10.toNat).drop (0:Int).toNat++(s8.take (s8.length:Int).toNat).drop (if i10+n2<(s8.length:Int) then i10+n2 else(s8.length:Int)).toNat))) hs (Yl.concat rfl rfl rfl rfl hl) λ_ hs=>?_;refine nE 12 ?_;refine sP (.string (mkS ((s8.take i10.toNat).drop (0:Int).toNat++(s8.take (s8.length:Int).toNat).drop (if i10+n2<(s8.length:Int) then i10+n2 else(s8.length:Int)).toNat))) hs λ_ hs=>?_;refine wN ?_;refine dD ?_;refine qr (sP2 holds3 (.string (mkS ((s8.take i10.toNat).drop (0:Int).toNat++(s8.take (s8.length:Int).toNat).drop (if i10+n2<(s8.length:Int) then i10+n2 else(s8.length:Int)).toNat))) hs λ_ hs=>?_);refine stepCallG [(.string (mkS ((s8.take i10.toNat).drop (0:Int).toNat++(s8.take (s8.length:Int).toNat).drop (if i10+n2<(s8.length:Int) then i10+n2 else(s8.length:Int)).toNat)))] hs rfl ⟨_,rfl,rfl⟩ rfl (by decide) hS (λ_ _ v hS hs=>?_);obtain⟨x13,rfl,hS⟩:=hS;refine wn (Wp.cS hs Iff.rfl hS (λhS=>?_) (λhS=>?_))
  ·refine qg (sP3 (.string (mkS ((s8.take i10.toNat).drop (0:Int).toNat++(s8.take (s8.length:Int).toNat).drop (if i10+n2<(s8.length:Int) then i10+n2 else(s8.length:Int)).toNat))) (.string (mkS ((s8.take i10.toNat).drop (0:Int).toNat++(s8.take (s8.length:Int).toNat).drop (if i10+n2<(s8.length:Int) then i10+n2 else(s8.length:Int)).toNat))) (.bool true) hs λ_ hs=>?_);exact wn (⟨((s8.take i10.toNat).drop (0:Int).toNat++(s8.take (s8.length:Int).toNat).drop (if i10+n2<(s8.length:Int) then i10+n2 else(s8.length:Int)).toNat,true,i10),⟨hs.q,hS.1⟩,hS.2⟩)
  ·refine qg (sP2 (iv i10) (iv n2) hs λ_ hs=>?_);obtain⟨hI,hS⟩:=hS;refine sY (iv (i10+n2)) hs (Yl.wr hI) λ_ hs=>?_;refine sP (iv (i10+n2)) hs λ_ hs=>?_;exact wn (⟨(s8,some9,i10+n2),⟨hs.q,hS.1⟩,hS.2⟩)
 ·refine qx rfl (qr (sP (.string (mkS s8)) hs λ_ hs=>?_));refine sP3 (.bool some9) (.string (mkS s8)) (.bool some9) hs λ_ hs=>?_;exact wn (qt (rTT hs hMM hS))
def S_shrink_Shrink (p1:X_api_Pred) (s2:List UInt8) (M:Mem) (K:Value->Prop):Prop:=
 (CallE Try.prog 53 #[p1.val,(.string (mkS s2))] M (λv _=>∃(x4:Bool) (x5:Int),v=(Value.tuple #[(.bool x4),(.int .i64 x5)])/\(((x5:Int)≠0->K (Value.tuple #[(.string (mkS ([]:List UInt8))),(.int .i64 x5)]))/\(¬((x5:Int)≠0)->((¬(x4=true)->K (Value.tuple #[(.string (mkS ([]:List UInt8))),(.int .i64 11)]))/\(¬(¬(x4=true))->(CallE Try.prog 54 #[p1.val] M (λv M7=>∃(x6:Value),v=x6/\(∃(I14:List UInt8->Int->Prop) (mu15:List UInt8->Int->Nat),I14 s2 ((s2.length:Nat):Int)/\∀(s12:List UInt8) (n13:Int),(I14 s12 n13->((n13>1->(CallE Try.prog 55 #[(.string (mkS s12)),(.int .i64 n13),x6] M7 (λv _=>∃(x16:List UInt8) (x17:Bool),v=(Value.tuple #[(.string (mkS x16)),(.bool x17)])/\(InI (n13+1)/\(InI ((n13+1).tdiv 2)/\I14 x16 ((n13+1).tdiv 2)/\mu15 x16 ((n13+1).tdiv 2)<mu15 s12 n13)))))/\(¬(n13>1)->(∃(I24:List UInt8->Bool->Prop) (mu25:List UInt8->Bool->Nat),I24 s12 true/\∀(s22:List UInt8) (some23:Bool),(I24 s22 some23->((some23=true->(CallE Try.prog 55 #[(.string (mkS s22)),(.int .i64 1),x6] M7 (λv _=>∃(x26:List UInt8) (x27:Bool),v=(Value.tuple #[(.string (mkS x26)),(.bool x27)])/\I24 x26 x27/\mu25 x26 x27<mu25 s22 some23)))/\(¬(some23=true)->K (Value.tuple #[(.string (mkS s22)),(.int .i64 0)])))))))))))))))))
set_option maxRecDepth 100000 in
theorem s_shrink_Shrink (p1:X_api_Pred) (s2:List UInt8) (M:Mem) (K:Value->Prop) (hS:S_shrink_Shrink p1 s2 M K):CallE Try.prog 28 #[p1.val,(Value.string (mkS s2))] M (λv _=>K v):=by
 refine eE2 Try.func28 46 λE a hMM hs=>?_;unfold S_shrink_Shrink at hS;refine qr (stepBox p1.cells hs rfl rfl rfl (by decide) (λ_ _ b3 hEb3 hs=>?_));refine sP2 (.string (mkS ([]:List UInt8))) (iv 0) hs λ_ hs=>?_;refine wn (qr (sY p1.val hs (Yl.lB p1.cells true 0) λ_ hs=>?_));refine sP (.string (mkS s2)) hs λ_ hs=>?_;refine cP [p1.val,(.string (mkS s2))] hs Try.func53 hS λ_ _ v hS hs=>?_;obtain⟨x4,x5,rfl,hS⟩:=hS;refine sP4 (Value.tuple #[(.bool x4),(iv x5)]) (.bool x4) (iv x5) (.bool x4) hs λ_ hs=>?_;refine sP (iv x5) hs λ_ hs=>?_;refine wn (qs (qr (sP2 (iv x5) (.bool ((x5:Int) != (0:Int))) hs λ_ hs=>?_)));refine wn (Wp.cS hs bne_iff_ne hS (λhS=>?_) (λhS=>?_))
 ·refine qr (sP3 (iv x5) (.string (mkS ([]:List UInt8))) (iv x5) hs λ_ hs=>?_);exact wn (qt (rTT hs hMM hS))
 ·refine qk (qs (qr (sP2 (.bool x4) (.bool (!x4)) hs λ_ hs=>?_)));refine wn (Wp.cS hs (bnot_iff Iff.rfl) hS (λhS=>?_) (λhS=>?_))
  ·refine qr (sP2 (.string (mkS ([]:List UInt8))) (iv 11) hs λ_ hs=>?_);exact wn (qt (rTT hs hMM hS))
  ·refine qk (qr (sY p1.val hs (Yl.lB p1.cells true 0) λ_ hs=>?_));refine cM [p1.val] hs hMM Try.func54 hS λ_ _ M7 v hMM hle hS hs=>?_;obtain⟨x6,hv,hS⟩:=hS;subst v;refine sP x6 hs λ_ hs=>?_;refine wn (qs (qr (sP3 (.string (mkS s2)) (iv (s2.length:Int)) (iv (s2.length:Int)) hs λ_ hs=>?_)));refine wn (qb ?_);obtain⟨I14,mu15,hI0,hst⟩:=hS;refine Wp.loop (σ:=(List UInt8)×(Int)) (λ(s12,n13) a w=>Sx 46 E [] M7 w a [(1,(.string (mkS s12))),(8,x6),(9,(iv n13))] [⟨b3,62,p1.cells⟩] []/\I14 s12 n13) (λ(s12,n13)=>mu15 s12 n13) (s2,(s2.length:Int)) ⟨hs.q,hI0⟩ (λs a w hI=>?_);obtain⟨s12,n13⟩:=s;obtain⟨hs,hI⟩:=hI;have hS:=hst s12 n13 hI;clear hst hI0 hI;refine qs (qr (sP2 (iv n13) (.bool (decide (n13>1))) hs λ_ hs=>?_));refine wn (Wp.cS hs decide_eq_true_iff hS (λhS=>?_) (λhS=>?_))
   ·refine qk (qs (qb (qg (sP3 (.string (mkS s12)) (iv n13) x6 hs λ_ hs=>?_))));refine cP [(.string (mkS s12)),(iv n13),x6] hs Try.func55 hS λ_ _ v hS hs=>?_;obtain⟨x16,x17,rfl,hS⟩:=hS;refine sP4 (Value.tuple #[(.string (mkS x16)),(.bool x17)]) (.string (mkS x16)) (.bool x17) (.string (mkS x16)) hs λ_ hs=>?_;refine wn (qg (sP (iv n13) hs λ_ hs=>?_));obtain⟨hI,hS⟩:=hS;refine sY (iv (n13+1)) hs (Yl.wr hI) λ_ hs=>?_;obtain⟨hI,hS⟩:=hS;refine sY (iv ((n13+1).tdiv 2)) hs (Yl.wr hI) λ_ hs=>?_;refine sP (iv ((n13+1).tdiv 2)) hs λ_ hs=>?_;exact wn (⟨(x16,(n13+1).tdiv 2),⟨hs.q,hS.1⟩,hS.2⟩)
   ·refine qx rfl (qs (qr (sP (.bool true) hs λ_ hs=>?_)));refine wn (qb ?_);obtain⟨I24,mu25,hI0,hst⟩:=hS;refine Wp.loop (σ:=(List UInt8)×(Bool)) (λ(s22,some23) a w=>Sx 46 E [] M7 w a [(1,(.string (mkS s22))),(8,x6),(10,(.bool some23))] [⟨b3,62,p1.cells⟩] []/\I24 s22 some23) (λ(s22,some23)=>mu25 s22 some23) (s12,true) ⟨hs.q,hI0⟩ (λs a w hI=>?_);obtain⟨s22,some23⟩:=s;obtain⟨hs,hI⟩:=hI;have hS:=hst s22 some23 hI;clear hst hI0 hI;refine qs (qr (sP (.bool some23) hs λ_ hs=>?_));refine wn (Wp.cS hs Iff.rfl hS (λhS=>?_) (λhS=>?_))
    ·refine qk (qb (qg (sP2 (.string (mkS s22)) x6 hs λ_ hs=>?_)));refine cP [(.string (mkS s22)),(iv 1),x6] hs Try.func55 hS λ_ _ v hS hs=>?_;obtain⟨x26,x27,rfl,hS⟩:=hS;refine sP4 (Value.tuple #[(.string (mkS x26)),(.bool x27)]) (.string (mkS x26)) (.bool x27) (.string (mkS x26)) hs λ_ hs=>?_;refine sP (.bool x27) hs λ_ hs=>?_;exact wn (⟨(x26,x27),⟨hs.q,hS.1⟩,hS.2⟩)
    ·refine qx rfl (qr (sP (.string (mkS s22)) hs λ_ hs=>?_));refine sP2 (.string (mkS s22)) (iv 0) hs λ_ hs=>?_;exact wn (qt (rTT hs hMM hS))
end Go.Proofs.Ytmnilbfhfjdelaa.core

namespace Go.Proofs.Ytmnilbfhfjdelaa.core
open Go.Gx Go.RowKit Go.ChangeShapes Go.WideShapes Go.ChangeAt
set_option linter.unusedVariables false
/- not served: diff.Least: live rangeFunc -/
def S_chafftop_TopShrink_J1 (ga1:Option Addr) (gl2:Nat) (gc3:Nat) (ha4:Option Addr) (hl5:Nat) (hc6:Nat) (M:Mem) (x11:List UInt8) (x12:Int) (x16:Bool) (K:Value->Prop):Prop:=
 ((x16=true->(CallE Try.prog 18 #[] M (λv _=>∃(x17:Bool),v=(Value.bool x17)/\K (Value.bool x17))))/\(¬(x16=true)->(CallE Try.prog 25 #[(.agg #[(.slice ga1 gl2 gc3)]),(.agg #[(.slice ha4 hl5 hc6)]),(.string (mkS x11)),(.int .i64 x12)] M (λv _=>∃(x18:List UInt8) (x19:Int) (x20:Int),v=(Value.tuple #[(.string (mkS x18)),(.int .i64 x19),(.int .i64 x20)])/\(((x20:Int)≠0->K (Value.bool ((x20:Int)==(12:Int))))/\(¬((x20:Int)≠0)->(CallE Try.prog 28 #[(X_api_Pred.mk 3 ga1 gl2 gc3 ha4 hl5 hc6).val,(.string (mkS x18))] M (λv _=>∃(x21:List UInt8) (x22:Int),v=(Value.tuple #[(.string (mkS x21)),(.int .i64 x22)])/\(CallE Try.prog 23 #[(.agg #[(.slice ga1 gl2 gc3)]),(.string (mkS x21))] M (λv _=>∃(x23:Bool) (x24:Int),v=(Value.tuple #[(.bool x23),(.int .i64 x24)])/\(CallE Try.prog 23 #[(.agg #[(.slice ha4 hl5 hc6)]),(.string (mkS x21))] M (λv _=>∃(x25:Bool) (x26:Int),v=(Value.tuple #[(.bool x25),(.int .i64 x26)])/\(((x22:Int)=0->((x21=x18->K (Value.bool (!(x23==x25))))/\(¬(x21=x18)->K (Value.bool false))))/\(¬((x22:Int)=0)->K (Value.bool false)))))))))))))))
def S_chafftop_TopShrink (ga1:Option Addr) (gl2:Nat) (gc3:Nat) (ha4:Option Addr) (hl5:Nat) (hc6:Nat) (a7:List UInt8) (n8:Int) (M:Mem) (K:Value->Prop):Prop:=
 (CallE Try.prog 17 #[(.string (mkS a7)),(.int .i64 n8)] M (λv _=>∃(x11:List UInt8) (x12:Int),v=(Value.tuple #[(.string (mkS x11)),(.int .i64 x12)])/\(CallE Try.prog 18 #[] M (λv _=>∃(x13:Bool),v=(Value.bool x13)/\((¬(x13=true)->(S_chafftop_TopShrink_J1 ga1 gl2 gc3 ha4 hl5 hc6 M x11 x12 true K))/\(¬(¬(x13=true))->(CallE Try.prog 19 #[(.agg #[(.slice ga1 gl2 gc3)]),(.string (mkS x11)),(.int .i64 x12)] M (λv _=>∃(x14:Bool),v=(Value.bool x14)/\((¬(x14=true)->(S_chafftop_TopShrink_J1 ga1 gl2 gc3 ha4 hl5 hc6 M x11 x12 true K))/\(¬(¬(x14=true))->(CallE Try.prog 19 #[(.agg #[(.slice ha4 hl5 hc6)]),(.string (mkS x11)),(.int .i64 x12)] M (λv _=>∃(x15:Bool),v=(Value.bool x15)/\(S_chafftop_TopShrink_J1 ga1 gl2 gc3 ha4 hl5 hc6 M x11 x12 (!x15) K)))))))))))))
set_option maxRecDepth 100000 in
theorem s_chafftop_TopShrink (ga1:Option Addr) (gl2:Nat) (gc3:Nat) (ha4:Option Addr) (hl5:Nat) (hc6:Nat) (a7:List UInt8) (n8:Int) (M:Mem) (K:Value->Prop) (hS:S_chafftop_TopShrink ga1 gl2 gc3 ha4 hl5 hc6 a7 n8 M K):CallE Try.prog 7 #[(Value.agg #[(Value.slice ga1 gl2 gc3)]),(Value.agg #[(Value.slice ha4 hl5 hc6)]),(Value.string (mkS a7)),(Value.int .i64 n8)] M (λv _=>K v):=by
 refine eE4 Try.func7 85 λE a hMM hs=>?_;unfold S_chafftop_TopShrink at hS;refine qr (stepBox [(.slice ga1 gl2 gc3)] hs rfl rfl rfl (by decide) (λ_ _ b9 hEb9 hs=>?_));refine stepBox [(.slice ha4 hl5 hc6)] hs rfl rfl rfl (by decide) (λ_ _ b10 hEb10 hs=>?_);refine sP (.bool false) hs λ_ hs=>?_;refine wn (qr (sP2 (.string (mkS a7)) (iv n8) hs λ_ hs=>?_));refine cP [(.string (mkS a7)),(iv n8)] hs Try.func17 hS λ_ _ v hS hs=>?_;obtain⟨x11,x12,rfl,hS⟩:=hS;refine sP4 (Value.tuple #[(.string (mkS x11)),(iv x12)]) (.string (mkS x11)) (iv x12) (.string (mkS x11)) hs λ_ hs=>?_;refine sP (iv x12) hs λ_ hs=>?_;refine wn (qs (Wp.join (λa w=>∃(x16:Bool),Sx 85 E [] M w a [(2,(.string (mkS x11))),(3,(iv x12)),(4,(pt b9 0)),(5,(pt b10 0)),(38,(.bool x16))] [⟨b10,38,[(.slice ha4 hl5 hc6)]⟩,⟨b9,38,[(.slice ga1 gl2 gc3)]⟩] []/\(S_chafftop_TopShrink_J1 ga1 gl2 gc3 ha4 hl5 hc6 M x11 x12 x16 K)) ?_ ?_))
 ·refine qg (stepCallP [] hs rfl ⟨_,rfl,rfl⟩ rfl Try.func18 rfl (by kernel_rfl) (by decide) hS (λ_ _ v hS hs=>?_));obtain⟨x13,rfl,hS⟩:=hS;refine sP2 (.bool (!x13)) (.bool (!x13)) hs λ_ hs=>?_;refine bsS (bnot_iff Iff.rfl) hs hS (λhs hS=>?_) (λhs hS=>?_)
  ·repeat (first|refine sNo hs λ_ hs=>?_|refine sNu hs λ_ hs=>?_)
   refine sP2 (.bool true) (.bool true) hs λ_ hs=>?_;repeat (first|refine sNo hs λ_ hs=>?_|refine sNu hs λ_ hs=>?_)
   refine sP (.bool true) hs λ_ hs=>?_;exact wn (⟨true,hs.q,hS⟩)
  ·refine sYe hs (sB [(.slice ga1 gl2 gc3)] true 1 hs λ_ hs=>?_);refine ye (.string (mkS x11)) hs λ_ hs=>?_;refine ye (iv x12) hs λ_ hs=>?_;refine sYe hs (stepCallP [(.agg #[(.slice ga1 gl2 gc3)]),(.string (mkS x11)),(iv x12)] hs rfl ⟨_,rfl,rfl⟩ rfl Try.func19 rfl (by kernel_rfl) (by decide) hS (λ_ _ v hS hs=>?_));obtain⟨x14,rfl,hS⟩:=hS;refine ye (.bool (!x14)) hs λ_ hs=>?_;refine sP2 (.bool (!x14)) (.bool (!x14)) hs λ_ hs=>?_;refine bsS (bnot_iff Iff.rfl) hs hS (λhs hS=>?_) (λhs hS=>?_)
   ·repeat (first|refine sNo hs λ_ hs=>?_|refine sNu hs λ_ hs=>?_)
    refine sP (.bool true) hs λ_ hs=>?_;exact wn (⟨true,hs.q,hS⟩)
   ·refine sYe hs (sB [(.slice ha4 hl5 hc6)] true 0 hs λ_ hs=>?_);refine ye (.string (mkS x11)) hs λ_ hs=>?_;refine ye (iv x12) hs λ_ hs=>?_;refine sYe hs (stepCallP [(.agg #[(.slice ha4 hl5 hc6)]),(.string (mkS x11)),(iv x12)] hs rfl ⟨_,rfl,rfl⟩ rfl Try.func19 rfl (by kernel_rfl) (by decide) hS (λ_ _ v hS hs=>?_));obtain⟨x15,rfl,hS⟩:=hS;refine ye (.bool (!x15)) hs λ_ hs=>?_;refine sP (.bool (!x15)) hs λ_ hs=>?_;exact wn (⟨(!x15),hs.q,hS⟩)
 ·intro a w hJ;obtain⟨x16,hs,hS⟩:=hJ;unfold S_chafftop_TopShrink_J1 at hS;refine Wp.cS hs Iff.rfl hS (λhS=>?_) (λhS=>?_)
  ·refine qr (stepCallP [] hs rfl ⟨_,rfl,rfl⟩ rfl Try.func18 rfl (by kernel_rfl) (by decide) hS (λ_ _ v hS hs=>?_));obtain⟨x17,rfl,hS⟩:=hS;refine sP (.bool x17) hs λ_ hs=>?_;exact wn (qt (rT hs hMM hS))
  ·refine qk (qr (sB [(.slice ga1 gl2 gc3)] true 1 hs λ_ hs=>?_));refine sB [(.slice ha4 hl5 hc6)] true 0 hs λ_ hs=>?_;refine sP2 (.string (mkS x11)) (iv x12) hs λ_ hs=>?_;refine cP [(.agg #[(.slice ga1 gl2 gc3)]),(.agg #[(.slice ha4 hl5 hc6)]),(.string (mkS x11)),(iv x12)] hs Try.func25 hS λ_ _ v hS hs=>?_;obtain⟨x18,x19,x20,rfl,hS⟩:=hS;refine sP4 (Value.tuple #[(.string (mkS x18)),(iv x19),(iv x20)]) (.string (mkS x18)) (iv x19) (iv x20) hs λ_ hs=>?_;refine sP3 (.string (mkS x18)) (iv x19) (iv x20) hs λ_ hs=>?_;refine wn (qs (qr (sP2 (iv x20) (.bool ((x20:Int) != (0:Int))) hs λ_ hs=>?_)));refine wn (Wp.cS hs bne_iff_ne hS (λhS=>?_) (λhS=>?_))
   ·refine qr (sP3 (iv x20) (.bool ((x20:Int)==(12:Int))) (.bool ((x20:Int)==(12:Int))) hs λ_ hs=>?_);exact wn (qt (rT hs hMM hS))
   ·refine qk (qr (sB [(.slice ga1 gl2 gc3)] true 1 hs λ_ hs=>?_));refine sB [(.slice ha4 hl5 hc6)] true 0 hs λ_ hs=>?_;refine sP2 (X_api_Pred.mk 3 ga1 gl2 gc3 ha4 hl5 hc6).val (.string (mkS x18)) hs λ_ hs=>?_;refine cP [(X_api_Pred.mk 3 ga1 gl2 gc3 ha4 hl5 hc6).val,(.string (mkS x18))] hs Try.func28 hS λ_ _ v hS hs=>?_;obtain⟨x21,x22,rfl,hS⟩:=hS;refine sP4 (Value.tuple #[(.string (mkS x21)),(iv x22)]) (.string (mkS x21)) (iv x22) (.string (mkS x21)) hs λ_ hs=>?_;refine sP (iv x22) hs λ_ hs=>?_;refine wn (qr (sB [(.slice ga1 gl2 gc3)] true 1 hs λ_ hs=>?_));refine sP (.string (mkS x21)) hs λ_ hs=>?_;refine cP [(.agg #[(.slice ga1 gl2 gc3)]),(.string (mkS x21))] hs Try.func23 hS λ_ _ v hS hs=>?_;obtain⟨x23,x24,rfl,hS⟩:=hS;refine sP4 (Value.tuple #[(.bool x23),(iv x24)]) (.bool x23) (iv x24) (.bool x23) hs λ_ hs=>?_;refine sP (iv x24) hs λ_ hs=>?_;refine wn (qr (sB [(.slice ha4 hl5 hc6)] true 0 hs λ_ hs=>?_));refine sP (.string (mkS x21)) hs λ_ hs=>?_
    refine cP [(.agg #[(.slice ha4 hl5 hc6)]),(.string (mkS x21))] hs Try.func23 hS λ_ _ v hS hs=>?_;obtain⟨x25,x26,rfl,hS⟩:=hS;refine sP4 (Value.tuple #[(.bool x25),(iv x26)]) (.bool x25) (iv x26) (.bool x25) hs λ_ hs=>?_;refine sP (iv x26) hs λ_ hs=>?_;refine wn (qr (sP3 (iv x22) (.bool ((x22:Int)==(0:Int))) (.bool ((x22:Int)==(0:Int))) hs λ_ hs=>?_));refine bsS beq_iff_eq hs hS (λhs hS=>?_) (λhs hS=>?_)
    ·refine ye (.string (mkS x21)) hs λ_ hs=>?_;refine ye (.string (mkS x18)) hs λ_ hs=>?_;refine ye (.bool ((mkS x21).toList==(mkS x18).toList)) hs λ_ hs=>?_;refine sP2 (.bool ((mkS x21).toList==(mkS x18).toList)) (.bool ((mkS x21).toList==(mkS x18).toList)) hs λ_ hs=>?_;refine bsS mkS_beq hs hS (λhs hS=>?_) (λhs hS=>?_)
     ·refine ye (.bool x23) hs λ_ hs=>?_;refine ye (.bool x25) hs λ_ hs=>?_;refine sYe hs (sY (.bool (!(x23==x25))) hs (Yl.neqB rfl rfl rfl rfl (by kernel_rfl)) λ_ hs=>?_);refine sP2 (.bool (!(x23==x25))) (.bool (!(x23==x25))) hs λ_ hs=>?_;exact wn (qt (rT hs hMM hS))
     ·repeat (first|refine sNo hs λ_ hs=>?_|refine sNu hs λ_ hs=>?_)
      refine sP2 (.bool false) (.bool false) hs λ_ hs=>?_;exact wn (qt (rT hs hMM hS))
    ·repeat (first|refine sNo hs λ_ hs=>?_|refine sNu hs λ_ hs=>?_)
     refine sP2 (.bool false) (.bool false) hs λ_ hs=>?_;repeat (first|refine sNo hs λ_ hs=>?_|refine sNu hs λ_ hs=>?_)
     refine sP2 (.bool false) (.bool false) hs λ_ hs=>?_;exact wn (qt (rT hs hMM hS))
end Go.Proofs.Ytmnilbfhfjdelaa.core

