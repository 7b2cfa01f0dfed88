/- Contracts and what they hang on, of several parts. No condition. -/
import Derived.Test.YtmnilbfhfjdelaaPackG
import Derived.Test.YtmnilbfhfjdelaaM1
import Derived.Test.YtmnilbfhfjdelaaCoreG
import Derived.Lib.AppendZeros
namespace Go.Proofs.Ytmnilbfhfjdelaa.core
open Go.Gx Go.RowKit Go.ChangeShapes Go.WideShapes Go.ChangeAt
set_option linter.unusedVariables false
def S_list_Accepts (ga1:Option Addr) (gl2:Nat) (gc3:Nat) (s4:List UInt8) (M:Mem) (K:Value->Prop):Prop:=
 (CallE Try.prog 50 #[(.agg #[(.slice ga1 gl2 gc3)]),(.string (mkS s4))] M (λv M11=>∃(x6:X_api_Outcome) (xa7:Option Addr) (xl8:Nat) (xc9:Nat) (x10:Int),v=(Value.tuple #[x6.val,(.slice xa7 xl8 xc9),(.int .i64 x10)])/\(((x10:Int)=0->((x6.Ok=true->K (Value.tuple #[(.bool ((x6.N:Int)==((s4.length:Nat):Int))),(.int .i64 x10)]))/\(¬(x6.Ok=true)->K (Value.tuple #[(.bool false),(.int .i64 x10)]))))/\(¬((x10:Int)=0)->K (Value.tuple #[(.bool false),(.int .i64 x10)])))))
set_option maxRecDepth 100000 in
theorem s_list_Accepts (ga1:Option Addr) (gl2:Nat) (gc3:Nat) (s4:List UInt8) (M:Mem) (K:Value->Prop) (hS:S_list_Accepts ga1 gl2 gc3 s4 M K):CallE Try.prog 23 #[(Value.agg #[(Value.slice ga1 gl2 gc3)]),(Value.string (mkS s4))] M (λv _=>K v):=by
 refine eE2 Try.func23 30 λE a hMM hs=>?_;unfold S_list_Accepts at hS;refine qr (stepBox [(.slice ga1 gl2 gc3)] hs rfl rfl rfl (by decide) (λ_ _ b5 hEb5 hs=>?_));refine sP2 (.bool false) (iv 0) hs λ_ hs=>?_;refine wn (qr (sB [(.slice ga1 gl2 gc3)] true 0 hs λ_ hs=>?_));refine sP (.string (mkS s4)) hs λ_ hs=>?_;refine cM [(.agg #[(.slice ga1 gl2 gc3)]),(.string (mkS s4))] hs hMM Try.func50 hS λ_ _ M11 v hMM hle hS hs=>?_;obtain⟨x6,xa7,xl8,xc9,x10,rfl,hS⟩:=hS;refine sP4 (Value.tuple #[x6.val,(.slice xa7 xl8 xc9),(iv x10)]) x6.val (.slice xa7 xl8 xc9) (iv x10) hs λ_ hs=>?_;refine stepAlloc [(.bool false),(iv 0)] hs (by kernel_rfl) (by decide) (λ_ _ b12 hEb12 hs=>?_);refine stB 0 [(.bool x6.Ok),(iv x6.N)] [⟨b12,101,[(.bool x6.Ok),(iv x6.N)]⟩,⟨b5,38,[(.slice ga1 gl2 gc3)]⟩] hs λ_ _ hs=>?_;refine sP2 (.slice xa7 xl8 xc9) (iv x10) hs λ_ hs=>?_;refine wn (qr (sP2 (iv x10) (.bool ((x10:Int)==(0:Int))) hs λ_ hs=>?_))
 refine sP (.bool ((x10:Int)==(0:Int))) hs λ_ hs=>?_;refine bsS beq_iff_eq hs hS (λhs hS=>?_) (λhs hS=>?_)
 ·refine ye (pt b12 0) hs λ_ hs=>?_;refine sYe hs (sB1 (.bool x6.Ok) 0 hs λ_ hs=>?_);refine sP2 (.bool x6.Ok) (.bool x6.Ok) hs λ_ hs=>?_;refine bsS Iff.rfl hs hS (λhs hS=>?_) (λhs hS=>?_)
  ·refine ye (pt b12 1) hs λ_ hs=>?_;refine sYe hs (sB1 (iv x6.N) 0 hs λ_ hs=>?_);refine ye (.string (mkS s4)) hs λ_ hs=>?_;refine ye (iv (s4.length:Int)) hs λ_ hs=>?_;refine ye (.bool ((x6.N:Int)==(s4.length:Int))) hs λ_ hs=>?_;refine sP4 (.bool ((x6.N:Int)==(s4.length:Int))) (iv x10) (.bool ((x6.N:Int)==(s4.length:Int))) (iv x10) hs λ_ hs=>?_;exact wn (qt (rTT hs hMM hS))
  ·repeat (first|refine sNo hs λ_ hs=>?_|refine sNu hs λ_ hs=>?_)
   refine sP4 (.bool false) (iv x10) (.bool false) (iv x10) hs λ_ hs=>?_;exact wn (qt (rTT hs hMM hS))
 ·refine sNo hs λ_ hs=>?_;refine sNo hs λ_ hs=>?_;refine sP2 (.bool false) (.bool false) hs λ_ hs=>?_;repeat (first|refine sNo hs λ_ hs=>?_|refine sNu hs λ_ hs=>?_)
  refine sP4 (.bool false) (iv x10) (.bool false) (iv x10) hs λ_ hs=>?_;exact wn (qt (rTT hs hMM hS))
end Go.Proofs.Ytmnilbfhfjdelaa.core

namespace Go.Gx
open Go.RowKit
def HasM (M:Mem) (b o k:Nat):Prop:=∃c t f,M b=some (.cells c t f)/\o+k<=c.size/\(f=(0,0)\/c.size<=f.1)
theorem Has.m {M:Mem} {b o k:Nat} (h:Has M b o k):HasM M b o k:=by
 obtain⟨c,t,h1,h2⟩:=h
 exact⟨c,t,_,h1,h2,.inl rfl⟩
theorem run_storeM (P:Program) (g o:Nat) (t:TypeId) (f:Nat×Nat):∀(vs:List Value) (i:Nat) (cur:Array Value) (w:World),w.heap[g]?=some (.cells cur t f)->(f=(0,0)\/cur.size<=f.1)->o+i+vs.length<=cur.size->(∀v∈vs,v.oneCell'=true)->
  (storeCells ⟨g,o,none⟩ vs i).run P w= .ok () (w.setRow g (cur.toList.take (o+i)++vs++cur.toList.drop (o+i+vs.length)).toArray)
 |[],i,cur,w,hg,_,_,_=>by
  have e:(cur.toList.take (o+i)++[]++cur.toList.drop (o+i+([]:List Value).length)).toArray=cur:=by simp
  rw[e,setRow_self w g cur t f hg]
  rfl
 |v::rest,i,cur,w,hg,hf,hl,h1=>by
  have hi:o+i<cur.size:=by simp at hl;omega
  have hst:(store ((⟨g,o,none⟩:Addr).add i) v).run P w= .ok () (w.setRow g (cur.setIfInBounds (o+i) v)):=by
   have hadd:(⟨g,o,none⟩:Addr).add i=⟨g,o+i,none⟩:=by unfold Addr.add;split<;>simp_all
   have hfro:w.frozen? ⟨g,o+i,none⟩=false:=by
    obtain⟨lo,hi'⟩:=f
    rcases hf with h|h
    ·cases h;simp[World.frozen?,hg]
    ·simp only at h
     simp only[World.frozen?,hg,Bool.and_eq_false_iff,decide_eq_false_iff_not]
     exact .inl (by omega)
   have hcell:w.cell? ⟨g,o+i,none⟩=some cur[o+i]:=by simp[World.cell?,hg,hi]
   rw[hadd,run_store P w _ v _ (h1 v (by simp)),hcell]
   simp[hfro,setCell_eq_setRow w g (o+i) cur t f v hg]
  have ih:=run_storeM P g o t f rest (i+1) (cur.setIfInBounds (o+i) v) (w.setRow g (cur.setIfInBounds (o+i) v)) (setRow_heap w g cur _ t _ hg) (by simpa using hf) (by simp at hl ⊢;omega) (λx hx=>h1 x (by simp[hx]))
  simp only[storeCells,Sem.run_bind,hst,Result.andThen_ok,ih,setRow_setRow]
  congr 3
  have e:=list_seg_step cur.toList (o+i) v rest (by simp at hl ⊢;omega)
  simpa[Array.toList_setIfInBounds,Nat.add_assoc]using e
def NewB (M M2:Mem) (ad:Option Addr) (c:Nat) (l:List UInt8):Prop:=
 M.le M2/\l.length<=c/\c<=maxLen/\∃g cur t f,ad=some ⟨g,0,none⟩/\M g=none/\M2 g=some (.cells cur t f)/\cur.size=c/\(f=(0,0)\/cur.size<=f.1)/\cur.toList.take l.length=bytesV l
section
variable {P:Program} {ops:Array Oper} {Q:Exit->Act->World->Prop} {n:Nat} {E:World} {M M0:Mem} {L:Nat->Prop} {w:World} {a:Act} {env:Env} {bs:List Bx} {rs:List Rw} {rest:List Oper}
theorem Sx.putM (hs:Sx n E (bwW E M0 L) M w a env bs rs) (hM:WX M M0 E) {b k:Nat} {vs:List Value} {c:Array Value} {t:TypeId} {f:Nat×Nat} (hc:M b=some (.cells c t f)) (hw:L b\/M0 b=none) {a':Act} {env':Env} (hA:Ag n a' env'):
  Sx n E (bwW E M0 L) (M.put b k vs) (w.setRow b (putAt c.toList k vs).toArray) a' env' bs rs:=by
 have hb:=hs.on b _ hc
 have hother:∀x,x≠b->(w.setRow b (putAt c.toList k vs).toArray).heap[x]?=w.heap[x]?:=by
  intro x hx
  simp only[World.setRow,Array.getElem?_modify]
  rw[if_neg (by omega)]
 refine⟨hA,λx o hx=>?_,?_,λx hx=>?_,λr hr=>?_,hs.nd⟩
 ·by_cases hxb:x=b
  ·subst hxb
   rw[Mem.put_eq hc]at hx
   rw[<-hx]
   exact setRow_heap w x c (putAt c.toList k vs).toArray t f hb
  ·rw[Mem.put_ne hxb]at hx
   rw[hother x hxb];exact hs.on x o hx
 ·obtain⟨h1,h2,h3,h4,h5⟩:=hs.pr
  refine⟨h1,h2,h3,by simpa[World.setRow]using h4,λx hx hn=>?_⟩
  rw[hother x (by
   rintro rfl
   rcases hM.old _ _ hc with h|h
   ·refine hn (mem_bwW.2 ⟨hx,?_,h⟩)
    rcases hw with h'|h'
    ·exact h'
    ·rw[h']at h;cases h
   ·omega)]
  exact h5 x hx hn
 ·obtain⟨h1,h2,h3⟩:=hs.bx x hx
  have hne:x.b≠b:=by rintro rfl;rw[h2]at hc;cases hc
  exact⟨(hother _ hne).trans h1,by rw[Mem.put_ne hne];exact h2,h3⟩
 ·obtain⟨h1,h2⟩:=hs.rw r hr
  have hne:∀g,r.v.ownBlock=some g->g≠b:=λg hg=>by rintro rfl;rw[(h2 g hg).1]at hc;cases hc
  exact⟨ownsRow_keep h1 λg hg=>hother g (hne g hg),λg hg=>⟨by rw[Mem.put_ne (hne g hg)];exact(h2 g hg).1,(h2 g hg).2⟩⟩
theorem stepStoreM {t ty:TypeId} {p x:Operand} {pos:String} {af:Array Edge} {b k:Nat} {vs:List Value} {v:Value} (hs:Sx n E (bwW E M0 L) M w a env bs rs) (hM:WX M M0 E) (hkp:known env p=true) (hkx:known env x=true)
  (hp:evT env p= .pointer (some ⟨b,k,none⟩)) (hx:evT env x=v) (hc:v.cells=vs.toArray) (hn:(P.info? t).map (·.size)=some vs.length) (h1:vs.all (·.oneCell')=true) (hfit:HasM M b k vs.length) (hw:L b\/M0 b=none)
  (h:∀a' w' M2,M2=M.put b k vs->WX M2 M0 E->Sx n E (bwW E M0 L) M2 w' a' env bs rs->wpList P ops Q rest a' w'):wpList P ops Q (⟨none,.store t p x,ty,pos,af,none⟩::rest) a w:=by
 refine stepK0 (Z:=λ_ _=>False) hs (λ_ _ h=>h.elim) rfl (by simp[okOp,notSel,Op.operands,hkp,hkx]) rfl ?_
 obtain⟨c,bt,f,hb,hfit,hf⟩:=hfit
 have hbw:=hs.on b _ hb
 have hst:=run_storeM P b k bt f vs 0 c w hbw hf (by simpa using hfit) (λu hu=>List.all_eq_true.1 h1 u hu)
 refine OpW.of_skip (w':=w.setRow b (putAt c.toList k vs).toArray) ?_ ?_
 ·cases hin:P.info? t with
  |none=>simp[hin]at hn
  |some ti=>
   simp[hin]at hn
   have e:(c.toList.take (k+0)++vs++c.toList.drop (k+0+vs.length)).toArray=(putAt c.toList k vs).toArray:=by simp[putAt]
   rw[e]at hst
   simp[execOp,Instr.storeAt,hp,hx,Instr.sureAddr,storeVar,hc,sizeOf,typeInfo,hin,hn,hst]
 ·intro a' hA
  exact h a' _ _ rfl (hM.put b k vs) (hs.putM hM hb hw hA)
theorem stepBytesW {d:Nat} {src dst e ty:TypeId} {x:Operand} {pos:String} {af:Array Edge} {l:List UInt8} (hs:Sx n E (bwW E M0 L) M w a env bs rs) (hMM:WX M M0 E) (hm:l.length<=maxLen)
  (h:∀a' w' M' A c,NewB M M' A c l->WX M' M0 E->Sx n E (bwW E M0 L) M' w' a' ((d,.slice A l.length c)::env) bs rs->wpList P ops Q rest a' w')
  (hkx:known env x=true:=by rfl) (hx:evT env x= .string (mkS l):=by rfl) (hsr:P.underlying src=some .string:=by kernel_rfl) (hd:P.underlying dst=some (.slice e):=by kernel_rfl) (he:P.underlying e=some (.int .u8):=by kernel_rfl) (hdn:d<n:=by decide):wpList P ops Q (⟨some d,.convert src dst x,ty,pos,af,none⟩::rest) a w:=by
 refine stepK (Z:=λ_ _=>False) (d:=d) hs (λ_ _ h=>h.elim) rfl (by simp[okOp,notSel,Op.operands,hkx]) rfl hdn ?_
 have hrun:=run_bytes_of_string (P:=P) w src dst e (mkS l) hsr hd he
 refine OpW.of_run (w':=_) (v:=.slice (some ⟨w.heap.size,0,none⟩) l.length (grownCap w l.length 0 e)) (by simp only[execOp,hx,Sem.run_bind,hrun,Result.andThen_ok];rfl) ?_
 intro a' hA
 have hcap1:=grownCap_ge w l.length 0 e
 have hcap2:=grownCap_le_maxLen w l.length 0 e hm
 let cur:=bytesRow (mkS l) (grownCap w (mkS l).size 0 e)
 let ob:Obj:=.cells cur e (cur.size,cur.size+1)
 have hb:Below w.heap.size w (w.drew.alloc ob):=((Below.refl _ w).drew).alloc (Nat.le_refl _) _
 have hgo:=grow_on (w':=w.drew.alloc ob) hs.on (λk hk _=>hb.block k hk)
 have hnew:(w.drew.alloc ob).heap[w.heap.size]?=some ob:=heap_alloc_new w.drew ob
 have hle:=grow_le (w':=w.drew.alloc ob) hs.on
 have hsz:cur.size=grownCap w l.length 0 e:=by
  show(bytesRow (mkS l) (grownCap w (mkS l).size 0 e)).size=_
  have e2:(mkS l).size=l.length:=rfl
  have e3:∀c:Nat,l.length<=c->(bytesRow (mkS l) c).size=c:=λc hc=>by
   unfold bytesRow
   have e4:(mkS l).data.size=l.length:=rfl
   simp[e2,e4]
   omega
  rw[e2]
  exact e3 _ hcap1
 refine h a' (w.drew.alloc ob) (grow M w (w.drew.alloc ob)) (some ⟨w.heap.size,0,none⟩) (grownCap w l.length 0 e) ⟨hle,hcap1,hcap2,w.heap.size,cur,e,(cur.size,cur.size+1),rfl,hs.on.noneAt (Nat.le_refl _),?_,hsz,.inr (Nat.le_refl _),?_⟩ (hMM.next hle λb o hbo=>?_) ((hs.later hb hgo (λb hb=>?_)).act hA)
 ·unfold grow
  rw[if_pos (Nat.le_refl _),hnew]
 ·apply List.ext_getElem?
  intro j
  rw[List.getElem?_take]
  split
  ·rename_i hj
   have h1:(bytesV l)[j]?=some (.int .u8 ((l[j]'hj).toNat:Int)):=by simp[bytesV,hj]
   rw[h1]
   show(bytesRow (mkS l) _).toList[j]?=_
   unfold bytesRow
   rw[Array.getElem?_toList,Array.getElem?_append_left (by simp[mkS,hj])]
   simp[mkS,hj]
  ·rw[List.getElem?_eq_none (by simp[bytesV];omega)]
 ·unfold grow at hbo
  by_cases hk:w.heap.size<=b
  ·exact .inr (Nat.le_trans hs.pr.size hk)
  ·rw[if_neg hk]at hbo;exact .inl hbo
 ·unfold grow
  rw[if_neg (by omega)]
end
def RowM (M:Mem) (e size:Nat) (ad:Option Addr) (n cap:Nat) (xs:List Value):Prop:=
 xs.length=n*size/\n<=cap/\cap<=maxLen/\∃g cur t f,ad=some ⟨g,0,none⟩/\M g=some (.cells cur t f)/\cur.size=cap*size/\(f=(0,0)\/cur.size<=f.1)/\cur.toList.take (n*size)=xs
structure AppM (M M2:Mem) (e size:Nat) (ad ad2:Option Addr) (l2 cap2:Nat) (xs2:List Value):Prop where
 slv:SlV M2 ad2 l2 cap2 size xs2
 keep:∀b o,M b=some o->(∀g,ad=some ⟨g,0,none⟩->b≠g)->M2 b=some o
 dom:∀b,(M b).isSome=true->(M2 b).isSome=true
theorem run_appendM {P:Program} {w:World} {t ty e:TypeId} {size bytes:Nat} (ht:P.underlying t=some (.slice e)) (hi:(P.info? e).map (λi=>(i.size,i.bytes,i.zero.map (·.cells.size)))=some (size,bytes,some size))
  {g n cap:Nat} {cur:Array Value} {bt:TypeId} {f:Nat×Nat} {xs:List Value} (hg:w.heap[g]?=some (.cells cur bt f)) (hcs:cur.size=cap*size) (hf:f=(0,0)\/cur.size<=f.1) (hnc:n<=cap) (hcm:cap<=maxLen) (hxl:xs.length=n*size) (htk:cur.toList.take (n*size)=xs)
  {A:Option Addr} {m c:Nat} {news:List Value} (hr:Src w A m size news) (hm0:0<m) (h63:n+m<=maxLen) (hbytes:(n+m)*bytes<=140737488355328):
  ∃(g2 cap2:Nat) (w':World) (c2:Array Value) (t2:TypeId) (f2:Nat×Nat),(Builtin.append_ #[t,t] ty #[.slice (some ⟨g,0,none⟩) n cap,.slice A m c]).run P w= .ok (.slice (some ⟨g2,0,none⟩) (n+m) cap2) w'/\n+m<=cap2/\cap2<=maxLen/\w'.heap[g2]?=some (.cells c2 t2 f2)/\(∀(j:Nat) (u:Value),(xs++news)[j]?=some u->c2[j]?=some u)/\w.grownBy w' (some g)/\(g2=g\/g2=w.heap.size):=by
 have hsmall:n+m<=9223372036854775807:=by simp only[maxLen]at h63;omega
 cases hinf:P.info? e with
 |none=>simp[hinf]at hi
 |some i=>
  simp only[hinf,Option.map_some,Option.some.injEq,Prod.mk.injEq]at hi
  obtain⟨rfl,rfl,h3⟩:=hi
  cases hz:i.zero with
  |none=>simp[hz]at h3
  |some z=>
   simp only[hz,Option.map_some,Option.some.injEq]at h3
   obtain⟨hl,h1,hA⟩:=hr
   obtain⟨ad,rfl,hnews⟩:=hA hm0
   by_cases hroom:n+m<=cap
   ·have hfit:n*i.size+news.length<=cur.size:=by rw[hl,hcs,<-Nat.add_mul];exact Nat.mul_le_mul_right _ hroom
    have hfc:=run_firstCells_some (P:=P) w i.size m ad m c news hl hnews
    have hst:=run_storeM P g (n*i.size) bt f news 0 cur w hg hf (by simpa using hfit) h1
    simp only[Nat.add_zero]at hst
    have hrun:(Builtin.append_ #[t,t] ty #[.slice (some ⟨g,0,none⟩) n cap,.slice (some ad) m c]).run P w= .ok (.slice (some ⟨g,0,none⟩) (n+m) cap) (w.setRow g (cur.toList.take (n*i.size)++news++cur.toList.drop (n*i.size+news.length)).toArray):=by
     simp[Builtin.append_,run_underlying ht,sizeOf,typeInfo,hinf,Builtin.lenOf,hroom,hfc,Addr.add_lit,hst]
    refine⟨g,cap,_,_,bt,f,hrun,hroom,hcm,setRow_heap w g cur _ bt f hg,λj u hj=>?_,⟨rfl,rfl,rfl,by simp,λk _ hk=>setRow_other w g k _ (λe=>hk (by rw[e]))⟩,.inl rfl⟩
    rw[htk]
    have hlt:=(List.getElem?_eq_some_iff.1 hj).1
    simp only[List.getElem?_toArray]
    rw[List.getElem?_append_left hlt];exact hj
   ·have holds:∀j u,xs[j]?=some u->w.cell? ((⟨g,0,none⟩:Addr).add j)=some u:=λj u hj=>by
     rw[<-htk,List.getElem?_take]at hj
     split at hj
     ·have e:(⟨g,0,none⟩:Addr).add j=⟨g,j,none⟩:=by unfold Addr.add;split<;>simp_all
      rw[e]
      simp only[World.cell?,hg]
      simpa using hj
     ·cases hj
    have hr:=run_append_grow (P:=P) (ty:=ty) w t e i z ht hinf hz ⟨g,0,none⟩ n cap xs hxl holds ad m c news hl hnews (by omega) (by omega) (growslice_fits (by omega) hbytes)
    refine⟨w.heap.size,_,_,_,e,(0,0),hr,grownCap_ge w (n+m) cap e,grownCap_le_maxLen w (n+m) cap e h63,heap_alloc_new w.drew _,λj u hj=>?_,⟨rfl,rfl,rfl,by simp,λk hk _=>heap_alloc_old w.drew _ hk⟩,.inr rfl⟩
    have hlt:=(List.getElem?_eq_some_iff.1 hj).1
    rw[Array.getElem?_append_left (by simpa using hlt)]
    simpa using hj
section
variable {P:Program} {ops:Array Oper} {Q:Exit->Act->World->Prop} {n:Nat} {E:World} {M M0:Mem} {L:Nat->Prop} {w:World} {a:Act} {env:Env} {bs:List Bx} {rs:List Rw} {rest:List Oper}
theorem stepAppendM {d:Nat} {ty:TypeId} {x y:Operand} {t e:TypeId} {size bytes:Nat} {pos:String} {af:Array Edge} {ad:Option Addr} {k cap:Nat} {xs:List Value} {A:Option Addr} {m c:Nat} (news:List Value)
  (hs:Sx n E (bwW E M0 L) M w a env bs rs) (hM:WX M M0 E) (hkx:known env x=true) (hky:known env y=true) (hx:evT env x= .slice ad k cap) (hy:evT env y= .slice A m c)
  (ht:P.underlying t=some (.slice e)) (hinf:(P.info? e).map (λi=>(i.size,i.bytes,i.zero.map (·.cells.size)))=some (size,bytes,some size)) (hsz:0<size) (hdn:d<n)
  (hr:Src w A m size news) (hrow:RowM M e size ad k cap xs) (hw:∀g,ad=some ⟨g,0,none⟩->Wr L M0 g) (h63:k+m<=maxLen) (hbytes:(k+m)*bytes<=140737488355328)
  (h:∀a' w' M2 ad2 cap2,AppM M M2 e size ad ad2 (k+m) cap2 (xs++news)->WX M2 M0 E->Sx n E (bwW E M0 L) M2 w' a' ((d,.slice ad2 (k+m) cap2)::env) bs rs->wpList P ops Q rest a' w') (hm0:0<m:=by decide):
  wpList P ops Q (⟨some d,.call {callee:=.builtin .append,args:= #[x,y],argTypes:= #[t,t]},ty,pos,af,none⟩::rest) a w:=by
 refine stepK (Z:=λ_ _=>False) (d:=d) hs (λ_ _ h=>h.elim) rfl (by simp[okOp,notSel,Op.operands,Call.operands,hkx,hky]) rfl hdn ?_
 obtain⟨hxl,hnc,hcm,g,cur,bt,f,rfl,hg,hcs,hf,htk⟩:=hrow
 obtain⟨g2,cap2,w',c2,t2,f2,hrun,q1,q2,q3,q4,h2,h3⟩:=run_appendM (P:=P) (ty:=ty) (c:=c) ht hinf (hs.on g _ hg) hcs hf hnc hcm hxl htk hr hm0 h63 hbytes
 refine OpW.of_run (w':=w') (v:=.slice (some ⟨g2,0,none⟩) (k+m) cap2) (by rw[run_call_append hx hy,hrun];rfl) ?_
 intro a' hA
 have hp:Pres w (bwW w M (Wr L M0)) w':=by
  refine⟨h2.os,h2.tape,h2.output,h2.size,λb hb hn=>h2.block b hb λe=>hn ?_⟩
  have e:=Option.some.inj e
  exact mem_bwW.2 ⟨hb,hw b (by rw[e]),by rw[e,hg];rfl⟩
 have hg2:growW M w w' g2=some (.cells c2 t2 f2):=by
  unfold growW
  rw[if_pos,q3]
  rcases h3 with rfl|rfl
  ·exact .inr (by rw[hg];rfl)
  ·exact .inl (Nat.le_refl _)
 refine h a' w' (growW M w w') (some ⟨g2,0,none⟩) cap2 ⟨⟨by rw[List.length_append,hxl,hr.1,Nat.add_mul],q1,q2,λ_=>⟨g2,0,rfl,λj v hj=>?_⟩⟩,λb o hb hne=>?_,(growW_le hs.on hp).dom⟩ (hM.grow hs hp) (hs.backW hM hp hA)
 ·unfold Mem.cell
  rw[hg2,Nat.zero_add]
  exact q4 j v hj
 ·unfold growW
  rw[if_pos (.inr (by rw[hb];rfl)),h2.block b (hs.on.lt hb) (λe=>hne g rfl (Option.some.inj e))]
  exact hs.on b o hb
end
end Go.Gx

namespace Go.Proofs.Ytmnilbfhfjdelaa.core
open Go.Gx Go.RowKit Go.ChangeShapes Go.WideShapes Go.ChangeAt
set_option linter.unusedVariables false
def S_walk_Alpha (a1:List UInt8) (M:Mem) (K:Value->Prop):Prop:=
 ((a1=([]:List UInt8)->K (Value.int .i64 1))/\(¬(a1=([]:List UInt8))->((((a1.length:Nat):Int)>8->K (Value.int .i64 2))/\(¬(((a1.length:Nat):Int)>8)->(∃(I6:Int->Prop) (mu7:Int->Nat),I6 1/\∀(i5:Int),(I6 i5->((i5<((a1.length:Nat):Int)->(∃c8:UInt8,(0:Int)<=i5/\a1[i5.toNat]?=some c8/\(InI (i5-1)/\(∃c9:UInt8,(0:Int)<=i5-1/\a1[(i5-1).toNat]?=some c9/\(((c8.toNat:Int)<=(c9.toNat:Int)->K (Value.int .i64 3))/\(¬((c8.toNat:Int)<=(c9.toNat:Int))->(InI (i5+1)/\I6 (i5+1)/\mu7 (i5+1)<mu7 i5)))))))/\(¬(i5<((a1.length:Nat):Int))->K (Value.int .i64 0)))))))))
set_option maxRecDepth 100000 in
theorem s_walk_Alpha (a1:List UInt8) (M:Mem) (K:Value->Prop) (hS:S_walk_Alpha a1 M K):CallE Try.prog 46 #[(Value.string (mkS a1))] M (λv _=>K v):=by
 refine eE1 Try.func46 23 λE a hMM hs=>?_;unfold S_walk_Alpha at hS;refine qr (sP (iv 0) hs λ_ hs=>?_);refine wn (qs (qr (sP2 (.string (mkS a1)) (.bool ((mkS a1).toList==(mkS ([]:List UInt8)).toList)) hs λ_ hs=>?_)));refine wn (Wp.cS hs mkS_beq hS (λhS=>?_) (λhS=>?_))
 ·refine qr (sP (iv 1) hs λ_ hs=>?_);exact wn (qt (rT hs hMM hS))
 ·refine qk (qs (qr (sP3 (.string (mkS a1)) (iv (a1.length:Int)) (.bool (decide ((a1.length:Int)>8))) hs λ_ hs=>?_)));refine wn (Wp.cS hs decide_eq_true_iff hS (λhS=>?_) (λhS=>?_))
  ·refine qr (sP (iv 2) hs λ_ hs=>?_);exact wn (qt (rT hs hMM hS))
  ·refine qk (qs (qr (sP (iv 1) hs λ_ hs=>?_)));refine wn (qb ?_);obtain⟨I6,mu7,hI0,hst⟩:=hS;refine Wp.loop (σ:=(Int)) (λi5 a w=>Sx 23 E [] M w a [(0,(.string (mkS a1))),(3,(iv i5))] [] []/\I6 i5) (λi5=>mu7 i5) (1) ⟨hs.q,hI0⟩ (λi5 a w hI=>?_);obtain⟨hs,hI⟩:=hI;have hS:=hst i5 hI;clear hst hI0 hI;refine qs (qr (sP4 (iv i5) (.string (mkS a1)) (iv (a1.length:Int)) (.bool (decide (i5<(a1.length:Int)))) hs λ_ hs=>?_));refine wn (Wp.cS hs decide_eq_true_iff hS (λhS=>?_) (λhS=>?_))
   ·refine qk (qs (qb (qs (Wp.regionD [true,true,true,true,true,true,true,true] hs (by kernel_rfl) rfl [] (λ_ h=>h) [] (λ_ h=>h) (λ_ hs hC=>?_)))));have hL:=Mem.le.refl M;refine dA (Value.string (mkS a1)) 0 [2,7] hs λ_ hs=>?_;refine dA (iv i5) 1 [2,7] hs λ_ hs=>?_;obtain⟨c8,h0,hi,hS⟩:=hS;refine dF (.int .u8 (c8.toNat:Int)) 2 [7] hs rfl (Yl.indexStr rfl rfl rfl rfl (by kernel_rfl) h0 hi) λ_ hs=>?_;refine dA (Value.string (mkS a1)) 3 [6,7] hs λ_ hs=>?_;refine sE 4 ?_;refine sP (iv i5) hs λ_ hs=>?_;refine nE 5 ?_;obtain⟨hI,hS⟩:=hS;refine sY (iv (i5-1)) hs (Yl.wr hI) λ_ hs=>?_;refine nE 6 ?_;obtain⟨c9,h0,hi,hS⟩:=hS;refine sY (.int .u8 (c9.toNat:Int)) hs (Yl.indexStr rfl rfl rfl rfl (by kernel_rfl) h0 hi) λ_ hs=>?_;refine nE 7 ?_;refine sP (.bool (decide ((c8.toNat:Int)<=(c9.toNat:Int)))) hs λ_ hs=>?_;refine wN ?_;refine dD ?_;refine Wp.cS hs decide_eq_true_iff hS (λhS=>?_) (λhS=>?_)
    ·refine qr (sP (iv 3) hs λ_ hs=>?_);exact wn (qt (rT hs hMM hS))
    ·refine qk (qg (sP (iv i5) hs λ_ hs=>?_));obtain⟨hI,hS⟩:=hS;refine sY (iv (i5+1)) hs (Yl.wr hI) λ_ hs=>?_;refine sP (iv (i5+1)) hs λ_ hs=>?_;exact wn (⟨(i5+1),⟨hs.q,hS.1⟩,hS.2⟩)
   ·refine qx rfl (qr (sP (iv 0) hs λ_ hs=>?_));exact wn (qt (rT hs hMM hS))
def S_walk_shorter (a1:List UInt8) (n2:Int) (M:Mem) (K:Value->Prop):Prop:=
 (∃(I9:Int->Int->Int->Prop) (mu10:Int->Int->Int->Nat),I9 0 1 0/\∀(out6:Int) (many7:Int) (x8:Int),(I9 out6 many7 x8->((x8<n2->(InI (out6+many7)/\(InI (many7*((a1.length:Nat):Int))/\(InI (x8+1)/\I9 (out6+many7) (many7*((a1.length:Nat):Int)) (x8+1)/\mu10 (out6+many7) (many7*((a1.length:Nat):Int)) (x8+1)<mu10 out6 many7 x8))))/\(¬(x8<n2)->K (Value.int .i64 out6)))))
set_option maxRecDepth 100000 in
theorem s_walk_shorter (a1:List UInt8) (n2:Int) (M:Mem) (K:Value->Prop) (hS:S_walk_shorter a1 n2 M K):CallE Try.prog 47 #[(Value.string (mkS a1)),(Value.int .i64 n2)] M (λv _=>K v):=by
 refine eE2 Try.func47 19 λE a hMM hs=>?_;unfold S_walk_shorter at hS;refine qr (sP (iv 0) hs λ_ hs=>?_);refine wn (qr (sP2 (iv 0) (iv 1) hs λ_ hs=>?_));refine wn (qs (qr (sP2 (iv n2) (iv 0) hs λ_ hs=>?_)));refine wn (qb ?_);obtain⟨I9,mu10,hI0,hst⟩:=hS;refine Wp.loop (σ:=(Int)×(Int)×(Int)) (λ(out6,many7,x8) a w=>Sx 19 E [] M w a [(0,(.string (mkS a1))),(5,(iv out6)),(6,(iv many7)),(7,(iv n2)),(8,(iv x8))] [] []/\I9 out6 many7 x8) (λ(out6,many7,x8)=>mu10 out6 many7 x8) (0,1,0) ⟨hs.q,hI0⟩ (λs a w hI=>?_);obtain⟨out6,many7,x8⟩:=s;obtain⟨hs,hI⟩:=hI;have hS:=hst out6 many7 x8 hI;clear hst hI0 hI;refine qr (sP (.bool (decide (x8<n2))) hs λ_ hs=>?_);refine wn (qs (Wp.cS hs decide_eq_true_iff hS (λhS=>?_) (λhS=>?_)))
 ·refine qk (qs (qb (qr (sP2 (iv out6) (iv many7) hs λ_ hs=>?_))));obtain⟨hI,hS⟩:=hS;refine sY (iv (out6+many7)) hs (Yl.wr hI) λ_ hs=>?_;refine sP (iv (out6+many7)) hs λ_ hs=>?_;refine wn (qg (sP3 (iv many7) (.string (mkS a1)) (iv (a1.length:Int)) hs λ_ hs=>?_));obtain⟨hI,hS⟩:=hS;refine sY (iv (many7*(a1.length:Int))) hs (Yl.wr hI) λ_ hs=>?_;refine sP (iv (many7*(a1.length:Int))) hs λ_ hs=>?_;refine wn (qg ?_);obtain⟨hI,hS⟩:=hS;refine sY (iv (x8+1)) hs (Yl.wr hI) λ_ hs=>?_;refine sP (iv (x8+1)) hs λ_ hs=>?_;exact wn (⟨(out6+many7,many7*(a1.length:Int),x8+1),⟨hs.q,hS.1⟩,hS.2⟩)
 ·refine qx rfl (qr (sP (iv out6) hs λ_ hs=>?_));refine sP (iv out6) hs λ_ hs=>?_;exact wn (qt (rT hs hMM hS))
def S_walk_Many_J1 (a1:List UInt8) (n2:Int) (M:Mem) (x4:Bool) (K:Value->Prop):Prop:=
 ((x4=true->K (Value.tuple #[(.int .i64 0),(.int .i64 1)]))/\(¬(x4=true)->(InI (n2+1)/\(CallE Try.prog 47 #[(.string (mkS a1)),(.int .i64 (n2+1))] M (λv _=>∃(x5:Int),v=(Value.int .i64 x5)/\K (Value.tuple #[(.int .i64 x5),(.int .i64 0)]))))))
def S_walk_Many (a1:List UInt8) (n2:Int) (M:Mem) (K:Value->Prop):Prop:=
 (CallE Try.prog 46 #[(.string (mkS a1))] M (λv _=>∃(x3:Int),v=(Value.int .i64 x3)/\(((x3:Int)≠0->K (Value.tuple #[(.int .i64 0),(.int .i64 x3)]))/\(¬((x3:Int)≠0)->((n2<0->(S_walk_Many_J1 a1 n2 M true K))/\(¬(n2<0)->(S_walk_Many_J1 a1 n2 M (decide (n2>6)) K)))))))
set_option maxRecDepth 100000 in
theorem s_walk_Many (a1:List UInt8) (n2:Int) (M:Mem) (K:Value->Prop) (hS:S_walk_Many a1 n2 M K):CallE Try.prog 20 #[(Value.string (mkS a1)),(Value.int .i64 n2)] M (λv _=>K v):=by
 refine eE2 Try.func20 22 λE a hMM hs=>?_;unfold S_walk_Many at hS;refine qr (sP2 (iv 0) (iv 0) hs λ_ hs=>?_);refine wn (qs (qr (sP (.string (mkS a1)) hs λ_ hs=>?_)));refine cP [(.string (mkS a1))] hs Try.func46 hS λ_ _ v hS hs=>?_;obtain⟨x3,rfl,hS⟩:=hS;refine sP (iv x3) hs λ_ hs=>?_;refine wn (qr (sP2 (iv x3) (.bool ((x3:Int) != (0:Int))) hs λ_ hs=>?_));refine wn (Wp.cS hs bne_iff_ne hS (λhS=>?_) (λhS=>?_))
 ·refine qr (sP3 (iv x3) (iv 0) (iv x3) hs λ_ hs=>?_);exact wn (qt (rTT hs hMM hS))
 ·refine qk (qs (Wp.join (λa w=>∃(x4:Bool),Sx 22 E [] M w a [(0,(.string (mkS a1))),(1,(iv n2)),(17,(.bool x4))] [] []/\(S_walk_Many_J1 a1 n2 M x4 K)) ?_ ?_))
  ·refine qg (sP3 (iv n2) (.bool (decide (n2<0))) (.bool (decide (n2<0))) hs λ_ hs=>?_);refine bsS decide_eq_true_iff hs hS (λhs hS=>?_) (λhs hS=>?_)
   ·refine sNo hs λ_ hs=>?_;refine sNo hs λ_ hs=>?_;refine sP (.bool true) hs λ_ hs=>?_;exact wn (⟨true,hs.q,hS⟩)
   ·refine ye (iv n2) hs λ_ hs=>?_;refine ye (.bool (decide (n2>6))) hs λ_ hs=>?_;refine sP (.bool (decide (n2>6))) hs λ_ hs=>?_;exact wn (⟨(decide (n2>6)),hs.q,hS⟩)
  ·intro a w hJ;obtain⟨x4,hs,hS⟩:=hJ;unfold S_walk_Many_J1 at hS;refine Wp.cS hs Iff.rfl hS (λhS=>?_) (λhS=>?_)
   ·refine qr (sP2 (iv 0) (iv 1) hs λ_ hs=>?_);exact wn (qt (rTT hs hMM hS))
   ·refine qk (qr (sP2 (.string (mkS a1)) (iv n2) hs λ_ hs=>?_));obtain⟨hI,hS⟩:=hS;refine sY (iv (n2+1)) hs (Yl.wr hI) λ_ hs=>?_;refine cP [(.string (mkS a1)),(iv (n2+1))] hs Try.func47 hS λ_ _ v hS hs=>?_;obtain⟨x5,rfl,hS⟩:=hS;refine sP2 (iv x5) (iv 0) hs λ_ hs=>?_;exact wn (qt (rTT hs hMM hS))
end Go.Proofs.Ytmnilbfhfjdelaa.core

namespace Go.Proofs.Ytmnilbfhfjdelaa.core
open Go.Gx Go.RowKit Go.ChangeShapes Go.WideShapes Go.ChangeAt
set_option linter.unusedVariables false
def S_list_Look (ga1:Option Addr) (gl2:Nat) (gc3:Nat) (a4:List UInt8) (n5:Int) (M:Mem) (K:Value->Prop):Prop:=
 (CallE Try.prog 56 #[(.agg #[(.slice ga1 gl2 gc3)])] M (λv _=>∃(x7:Int) (x8:Int),v=(Value.tuple #[(.int .i64 x7),(.int .i64 x8)])/\(((x8:Int)≠0->K (Value.int .i64 x8))/\(¬((x8:Int)≠0)->(CallE Try.prog 20 #[(.string (mkS a4)),(.int .i64 n5)] M (λv _=>∃(x9:Int) (x10:Int),v=(Value.tuple #[(.int .i64 x9),(.int .i64 x10)])/\(((x10:Int)≠0->K (Value.int .i64 x10))/\(¬((x10:Int)≠0)->((x9>5000->K (Value.int .i64 2))/\(¬(x9>5000)->K (Value.int .i64 0)))))))))))
set_option maxRecDepth 100000 in
theorem s_list_Look (ga1:Option Addr) (gl2:Nat) (gc3:Nat) (a4:List UInt8) (n5:Int) (M:Mem) (K:Value->Prop) (hS:S_list_Look ga1 gl2 gc3 a4 n5 M K):CallE Try.prog 45 #[(Value.agg #[(Value.slice ga1 gl2 gc3)]),(Value.string (mkS a4)),(Value.int .i64 n5)] M (λv _=>K v):=by
 refine eE3 Try.func45 30 λE a hMM hs=>?_;unfold S_list_Look at hS;refine qr (stepBox [(.slice ga1 gl2 gc3)] hs rfl rfl rfl (by decide) (λ_ _ b6 hEb6 hs=>?_));refine sP (iv 0) hs λ_ hs=>?_;refine wn (qs (qr (sB [(.slice ga1 gl2 gc3)] true 0 hs λ_ hs=>?_)));refine cP [(.agg #[(.slice ga1 gl2 gc3)])] hs Try.func56 hS λ_ _ v hS hs=>?_;obtain⟨x7,x8,rfl,hS⟩:=hS;refine sP4 (Value.tuple #[(iv x7),(iv x8)]) (iv x7) (iv x8) (iv x7) hs λ_ hs=>?_;refine sP (iv x8) hs λ_ hs=>?_;refine wn (qr (sP2 (iv x8) (.bool ((x8:Int) != (0:Int))) hs λ_ hs=>?_));refine wn (Wp.cS hs bne_iff_ne hS (λhS=>?_) (λhS=>?_))
 ·refine qr (sP2 (iv x8) (iv x8) hs λ_ hs=>?_);exact wn (qt (rT hs hMM hS))
 ·refine qk (qr (sP2 (.string (mkS a4)) (iv n5) hs λ_ hs=>?_));refine cP [(.string (mkS a4)),(iv n5)] hs Try.func20 hS λ_ _ v hS hs=>?_;obtain⟨x9,x10,rfl,hS⟩:=hS;refine sP4 (Value.tuple #[(iv x9),(iv x10)]) (iv x9) (iv x10) (iv x9) hs λ_ hs=>?_;refine sP (iv x10) hs λ_ hs=>?_;refine wn (qs (qr (sP2 (iv x10) (.bool ((x10:Int) != (0:Int))) hs λ_ hs=>?_)));refine wn (Wp.cS hs bne_iff_ne hS (λhS=>?_) (λhS=>?_))
  ·refine qr (sP2 (iv x10) (iv x10) hs λ_ hs=>?_);exact wn (qt (rT hs hMM hS))
  ·refine qk (qs (qr (sP2 (iv x9) (.bool (decide (x9>5000))) hs λ_ hs=>?_)));refine wn (Wp.cS hs decide_eq_true_iff hS (λhS=>?_) (λhS=>?_))
   ·refine qr (sP (iv 2) hs λ_ hs=>?_);exact wn (qt (rT hs hMM hS))
   ·refine qk (qr (sP (iv 0) hs λ_ hs=>?_));exact wn (qt (rT hs hMM hS))
end Go.Proofs.Ytmnilbfhfjdelaa.core

namespace Go.Proofs.Ytmnilbfhfjdelaa.core
open Go.Gx Go.RowKit Go.ChangeShapes Go.WideShapes Go.ChangeAt
set_option linter.unusedVariables false
def S_internal_stringslite_IndexByte (s1:List UInt8) (c2:Int) (M:Mem) (K:Value->Prop):Prop:=
 K (Value.int .i64 (idxB s1 c2))
set_option maxRecDepth 100000 in
theorem s_internal_stringslite_IndexByte (s1:List UInt8) (c2:Int) (M:Mem) (K:Value->Prop) (hS:S_internal_stringslite_IndexByte s1 c2 M K):CallE Try.prog 84 #[(Value.string (mkS s1)),(Value.int .u8 c2)] M (λv _=>K v):=by
 refine eE2 Try.func84 8 λE a hMM hs=>?_;unfold S_internal_stringslite_IndexByte at hS;refine qr (sP (iv 0) hs λ_ hs=>?_);refine wn (qr (sP2 (.string (mkS s1)) (.int .u8 c2) hs λ_ hs=>?_));refine sY (iv (idxB s1 c2)) hs (Yl.idxByte rfl ⟨_,rfl,rfl⟩ rfl Try.func116 rfl (by kernel_rfl) (by kernel_rfl) (by kernel_rfl)) λ_ hs=>?_;refine sP (iv (idxB s1 c2)) hs λ_ hs=>?_;exact wn (qt (rT hs hMM hS))
def S_strings_IndexByte (s1:List UInt8) (c2:Int) (M:Mem) (K:Value->Prop):Prop:=
 (CallE Try.prog 84 #[(.string (mkS s1)),(.int .u8 c2)] M (λv _=>∃(x3:Int),v=(Value.int .i64 x3)/\K (Value.int .i64 x3)))
set_option maxRecDepth 100000 in
theorem s_strings_IndexByte (s1:List UInt8) (c2:Int) (M:Mem) (K:Value->Prop) (hS:S_strings_IndexByte s1 c2 M K):CallE Try.prog 51 #[(Value.string (mkS s1)),(Value.int .u8 c2)] M (λv _=>K v):=by
 refine eE2 Try.func51 8 λE a hMM hs=>?_;unfold S_strings_IndexByte at hS;refine qr (sP (iv 0) hs λ_ hs=>?_);refine wn (qr (sP2 (.string (mkS s1)) (.int .u8 c2) hs λ_ hs=>?_));refine cP [(.string (mkS s1)),(.int .u8 c2)] hs Try.func84 hS λ_ _ v hS hs=>?_;obtain⟨x3,rfl,hS⟩:=hS;refine sP (iv x3) hs λ_ hs=>?_;exact wn (qt (rT hs hMM hS))
def S_walk_Over (a1:List UInt8) (s2:List UInt8) (M:Mem) (K:Value->Prop):Prop:=
 (CallE Try.prog 46 #[(.string (mkS a1))] M (λv _=>∃(x3:Int),v=(Value.int .i64 x3)/\(((x3:Int)≠0->K (Value.int .i64 x3))/\(¬((x3:Int)≠0)->((((s2.length:Nat):Int)>6->K (Value.int .i64 2))/\(¬(((s2.length:Nat):Int)>6)->(∃(I8:Int->Prop) (mu9:Int->Nat),I8 0/\∀(x7:Int),(I8 x7->((x7<((s2.length:Nat):Int)->(∃c10:UInt8,(0:Int)<=x7/\s2[x7.toNat]?=some c10/\(CallE Try.prog 51 #[(.string (mkS a1)),(.int .u8 (c10.toNat:Int))] M (λv _=>∃(x11:Int),v=(Value.int .i64 x11)/\((x11<0->K (Value.int .i64 12))/\(¬(x11<0)->(InI (x7+1)/\I8 (x7+1)/\mu9 (x7+1)<mu9 x7)))))))/\(¬(x7<((s2.length:Nat):Int))->K (Value.int .i64 0)))))))))))
set_option maxRecDepth 100000 in
theorem s_walk_Over (a1:List UInt8) (s2:List UInt8) (M:Mem) (K:Value->Prop) (hS:S_walk_Over a1 s2 M K):CallE Try.prog 48 #[(Value.string (mkS a1)),(Value.string (mkS s2))] M (λv _=>K v):=by
 refine eE2 Try.func48 27 λE a hMM hs=>?_;unfold S_walk_Over at hS;refine qr (sP (iv 0) hs λ_ hs=>?_);refine wn (qs (qr (sP (.string (mkS a1)) hs λ_ hs=>?_)));refine cP [(.string (mkS a1))] hs Try.func46 hS λ_ _ v hS hs=>?_;obtain⟨x3,rfl,hS⟩:=hS;refine sP (iv x3) hs λ_ hs=>?_;refine wn (qr (sP2 (iv x3) (.bool ((x3:Int) != (0:Int))) hs λ_ hs=>?_));refine wn (Wp.cS hs bne_iff_ne hS (λhS=>?_) (λhS=>?_))
 ·refine qr (sP2 (iv x3) (iv x3) hs λ_ hs=>?_);exact wn (qt (rT hs hMM hS))
 ·refine qk (qs (qr (sP3 (.string (mkS s2)) (iv (s2.length:Int)) (.bool (decide ((s2.length:Int)>6))) hs λ_ hs=>?_)));refine wn (Wp.cS hs decide_eq_true_iff hS (λhS=>?_) (λhS=>?_))
  ·refine qr (sP (iv 2) hs λ_ hs=>?_);exact wn (qt (rT hs hMM hS))
  ·refine qk (qs (qr (sP3 (.string (mkS s2)) (iv (s2.length:Int)) (iv 0) hs λ_ hs=>?_)));refine wn (qb ?_);obtain⟨I8,mu9,hI0,hst⟩:=hS;refine Wp.loop (σ:=(Int)) (λx7 a w=>Sx 27 E [] M w a [(0,(.string (mkS a1))),(1,(.string (mkS s2))),(16,(iv (s2.length:Int))),(17,(iv x7))] [] []/\I8 x7) (λx7=>mu9 x7) (0) ⟨hs.q,hI0⟩ (λx7 a w hI=>?_);obtain⟨hs,hI⟩:=hI;have hS:=hst x7 hI;clear hst hI0 hI;refine qr (sP (.bool (decide (x7<(s2.length:Int)))) hs λ_ hs=>?_);refine wn (qs (Wp.cS hs decide_eq_true_iff hS (λhS=>?_) (λhS=>?_)))
   ·refine qk (qs (qb (qr (sP2 (iv x7) (iv x7) hs λ_ hs=>?_))));refine wn (qr (sP3 (.string (mkS a1)) (.string (mkS s2)) (iv x7) hs λ_ hs=>?_));obtain⟨c10,h0,hi,hS⟩:=hS;refine sY (.int .u8 (c10.toNat:Int)) hs (Yl.indexStr rfl rfl rfl rfl (by kernel_rfl) h0 hi) λ_ hs=>?_;refine cP [(.string (mkS a1)),(.int .u8 (c10.toNat:Int))] hs Try.func51 hS λ_ _ v hS hs=>?_;obtain⟨x11,rfl,hS⟩:=hS;refine sP (.bool (decide (x11<0))) hs λ_ hs=>?_;refine wn (Wp.cS hs decide_eq_true_iff hS (λhS=>?_) (λhS=>?_))
    ·refine qr (sP (iv 12) hs λ_ hs=>?_);exact wn (qt (rT hs hMM hS))
    ·refine qk (qg ?_);obtain⟨hI,hS⟩:=hS;refine sY (iv (x7+1)) hs (Yl.wr hI) λ_ hs=>?_;refine sP (iv (x7+1)) hs λ_ hs=>?_;exact wn (⟨(x7+1),⟨hs.q,hS.1⟩,hS.2⟩)
   ·refine qx rfl (qr (sP (iv 0) hs λ_ hs=>?_));exact wn (qt (rT hs hMM hS))
def S_walk_Next (a1:List UInt8) (s2:List UInt8) (M:Mem) (L:Nat->Prop) (K:Value->Mem->Prop):Prop:=
 (CallE Try.prog 48 #[(.string (mkS a1)),(.string (mkS s2))] M (λv _=>∃(x3:Int),v=(Value.int .i64 x3)/\(((x3:Int)≠0->(∀M',M.le M'->K (Value.tuple #[(.string (mkS ([]:List UInt8))),(.int .i64 x3)]) M'))/\(¬((x3:Int)≠0)->(s2.length<=maxLen/\∀(M4:Mem) (A5:Option Addr) (c6:Nat),NewB M M4 A5 c6 s2->(InI (((s2.length:Nat):Int)-1)/\(∃(G36:Type) (I34:G36->Int->Mem->Prop) (mu35:G36->Int->Nat) (gz38:G36),I34 gz38 (((s2.length:Nat):Int)-1) M4/\∀(gh37:G36) (i_32:Int) (M33:Mem),(I34 gh37 i_32 M33->((i_32>=0->(∃c39:UInt8,(0:Int)<=i_32/\s2[i_32.toNat]?=some c39/\(CallE Try.prog 51 #[(.string (mkS a1)),(.int .u8 (c39.toNat:Int))] M33 (λv _=>∃(x40:Int),v=(Value.int .i64 x40)/\(InI (((a1.length:Nat):Int)-1)/\((x40<((a1.length:Nat):Int)-1->(InI (x40+1)/\(∃c41:UInt8,(0:Int)<=x40+1/\a1[(x40+1).toNat]?=some c41/\(∃(b42 o43:Nat),A5=some ⟨b42,o43,none⟩/\(0:Int)<=i_32/\i_32<(((s2).length:Nat):Int)/\(HasM M33 b42 (o43+i_32.toNat*1) 1/\Wr L M b42/\∀(M44:Mem),M44=M33.put b42 (o43+i_32.toNat*1) [(.int .u8 (c41.toNat:Int))]->(∃(x45:List UInt8),SlV M44 A5 ((s2).length) c6 1 (bytesV x45)/\x45.length=((s2).length)/\(∀M',M44.le M'->K (Value.tuple #[(.string (mkS x45)),(.int .i64 0)]) M')))))))/\(¬(x40<((a1.length:Nat):Int)-1)->(∃c46:UInt8,(0:Int)<=0/\a1[(0:Int).toNat]?=some c46/\(∃(b47 o48:Nat),A5=some ⟨b47,o48,none⟩/\(0:Int)<=i_32/\i_32<(((s2).length:Nat):Int)/\(HasM M33 b47 (o48+i_32.toNat*1) 1/\Wr L M b47/\∀(M49:Mem),M49=M33.put b47 (o48+i_32.toNat*1) [(.int .u8 (c46.toNat:Int))]->(InI (i_32-1)/\∃(gh:G36),I34 gh (i_32-1) M49/\mu35 gh (i_32-1)<mu35 gh37 i_32)))))))))))/\(¬(i_32>=0)->((((s2.length:Nat):Int)=6->(∀M',M33.le M'->K (Value.tuple #[(.string (mkS ([]:List UInt8))),(.int .i64 12)]) M'))/\(¬(((s2.length:Nat):Int)=6)->(∃c50:UInt8,(0:Int)<=0/\a1[(0:Int).toNat]?=some c50/\((∀u∈[(Value.int .u8 (c50.toNat:Int))],u.oneCell'=true)/\(∃(xs52:List Value),RowM M33 5 1 A5 ((s2).length) c6 xs52/\(∀g,A5=some ⟨g,0,none⟩->Wr L M g)/\((s2).length+1)*1<=140737488355328/\∀(M55:Mem) (ad56:Option Addr) (cap57:Nat),AppM M33 M55 5 1 A5 ad56 ((s2).length+1) cap57 (xs52++[(.int .u8 (c50.toNat:Int))])->(∃(x58:List UInt8),SlV M55 ad56 ((s2).length+1) cap57 1 (bytesV x58)/\x58.length=((s2).length+1)/\(∀M',M55.le M'->K (Value.tuple #[(.string (mkS x58)),(.int .i64 0)]) M')))))))))))))))))
set_option maxRecDepth 100000 in
theorem s_walk_Next (a1:List UInt8) (s2:List UInt8) (M:Mem) (L:Nat->Prop) (K:Value->Mem->Prop) (hS:S_walk_Next a1 s2 M L K):CallW Try.prog 24 #[(Value.string (mkS a1)),(Value.string (mkS s2))] M L K:=by
 refine eW2 Try.func24 58 λE a hMM hs=>?_;unfold S_walk_Next at hS;refine qr (sP2 (.string (mkS ([]:List UInt8))) (iv 0) hs λ_ hs=>?_);refine wn (qs (qr (sP2 (.string (mkS a1)) (.string (mkS s2)) hs λ_ hs=>?_)));refine cP [(.string (mkS a1)),(.string (mkS s2))] hs Try.func48 hS λ_ _ v hS hs=>?_;obtain⟨x3,rfl,hS⟩:=hS;refine sP (iv x3) hs λ_ hs=>?_;refine wn (qr (sP2 (iv x3) (.bool ((x3:Int) != (0:Int))) hs λ_ hs=>?_));refine wn (Wp.cS hs bne_iff_ne hS (λhS=>?_) (λhS=>?_))
 ·refine qr (sP3 (iv x3) (.string (mkS ([]:List UInt8))) (iv x3) hs λ_ hs=>?_);exact wn (qt (leaveW (K:=K) hs (resTT hs rfl rfl rfl) hMM hS))
 ·refine qk (qr (sP (.string (mkS s2)) hs λ_ hs=>?_));obtain⟨hm,hS⟩:=hS;refine stepBytesW (e:=5) hs hMM hm (λ_ _ M4 A5 c6 hnb hMM hs=>?_);have hS:=hS M4 A5 c6 hnb;refine sP (.slice A5 ((s2).length) c6) hs λ_ hs=>?_;refine wn (qs (qr (sP2 (.string (mkS s2)) (iv (s2.length:Int)) hs λ_ hs=>?_)));obtain⟨hI,hS⟩:=hS;refine sY (iv ((s2.length:Int)-1)) hs (Yl.wr hI) λ_ hs=>?_;refine sP (iv ((s2.length:Int)-1)) hs λ_ hs=>?_;refine wn (qb ?_);obtain⟨G36,I34,mu35,gz38,hI0,hst⟩:=hS;refine Wp.loop (σ:=G36×(Int)×(Mem)) (λ(gh37,i_32,M33) a w=>WX M33 M E/\Sx 58 E (bwW E M L) M33 w a [(0,(.string (mkS a1))),(1,(.string (mkS s2))),(7,(.slice A5 ((s2).length) c6)),(8,(iv i_32))] [] []/\I34 gh37 i_32 M33) (λ(gh37,i_32,M33)=>mu35 gh37 i_32) (gz38,(s2.length:Int)-1,M4) ⟨hMM,hs.q,hI0⟩ (λs a w hI=>?_);obtain⟨gh37,i_32,M33⟩:=s;obtain⟨hMM,hs,hI⟩:=hI;have hS:=hst gh37 i_32 M33 hI;clear hst hI0 hI;refine qs (qr (sP2 (iv i_32) (.bool (decide (i_32>=0))) hs λ_ hs=>?_));refine wn (Wp.cS hs decide_eq_true_iff hS (λhS=>?_) (λhS=>?_))
  ·refine qk (qs (qb (qs (qr (sP3 (.string (mkS a1)) (.string (mkS s2)) (iv i_32) hs λ_ hs=>?_)))));obtain⟨c39,h0,hi,hS⟩:=hS;refine sY (.int .u8 (c39.toNat:Int)) hs (Yl.indexStr rfl rfl rfl rfl (by kernel_rfl) h0 hi) λ_ hs=>?_;refine cP [(.string (mkS a1)),(.int .u8 (c39.toNat:Int))] hs Try.func51 hS λ_ _ v hS hs=>?_;obtain⟨x40,rfl,hS⟩:=hS;refine sP (iv x40) hs λ_ hs=>?_;refine wn (qr (sP3 (iv x40) (.string (mkS a1)) (iv (a1.length:Int)) hs λ_ hs=>?_));obtain⟨hI,hS⟩:=hS;refine sY (iv ((a1.length:Int)-1)) hs (Yl.wr hI) λ_ hs=>?_;refine sP (.bool (decide (x40<(a1.length:Int)-1))) hs λ_ hs=>?_;refine wn (Wp.cS hs decide_eq_true_iff hS (λhS=>?_) (λhS=>?_))
   ·refine qr (sP4 (.slice A5 ((s2).length) c6) (iv i_32) (.string (mkS a1)) (iv x40) hs λ_ hs=>?_);obtain⟨hI,hS⟩:=hS;refine sY (iv (x40+1)) hs (Yl.wr hI) λ_ hs=>?_;obtain⟨c41,h0,hi,hS⟩:=hS;refine sY (.int .u8 (c41.toNat:Int)) hs (Yl.indexStr rfl rfl rfl rfl (by kernel_rfl) h0 hi) λ_ hs=>?_;obtain⟨b42,o43,ha,h0,hl,hS⟩:=hS;refine sI 5 1 ha h0 hl hs λ_ hs=>?_;obtain⟨hhas,hwr,hS⟩:=hS;refine stepStoreM (vs:=[(.int .u8 (c41.toNat:Int))]) hs hMM rfl rfl rfl rfl rfl (by kernel_rfl) rfl hhas hwr (λ_ _ M44 hM2 hMM hs=>?_);have hS:=hS M44 hM2;refine wn (qr (sP (.slice A5 ((s2).length) c6) hs λ_ hs=>?_));obtain⟨x45,hsl,hln,hS⟩:=hS;refine sY (.string (mkS x45)) hs (Yl.bytesV (e:=5) rfl rfl (by kernel_rfl) (by kernel_rfl) (by kernel_rfl) hsl hln) λ_ hs=>?_;refine sP2 (.string (mkS x45)) (iv 0) hs λ_ hs=>?_;exact wn (qt (leaveW (K:=K) hs (resTT hs rfl rfl rfl) hMM hS))
   ·refine qk (qg (sP3 (.slice A5 ((s2).length) c6) (iv i_32) (.string (mkS a1)) hs λ_ hs=>?_));obtain⟨c46,h0,hi,hS⟩:=hS;refine sY (.int .u8 (c46.toNat:Int)) hs (Yl.indexStr rfl rfl rfl rfl (by kernel_rfl) h0 hi) λ_ hs=>?_;obtain⟨b47,o48,ha,h0,hl,hS⟩:=hS;refine sI 5 1 ha h0 hl hs λ_ hs=>?_;obtain⟨hhas,hwr,hS⟩:=hS;refine stepStoreM (vs:=[(.int .u8 (c46.toNat:Int))]) hs hMM rfl rfl rfl rfl rfl (by kernel_rfl) rfl hhas hwr (λ_ _ M49 hM2 hMM hs=>?_);have hS:=hS M49 hM2;refine wn (qg (sP (iv i_32) hs λ_ hs=>?_));obtain⟨hI,hS⟩:=hS;refine sY (iv (i_32-1)) hs (Yl.wr hI) λ_ hs=>?_;refine sP (iv (i_32-1)) hs λ_ hs=>?_;refine wn ?_;obtain⟨gh,hI1,hI2⟩:=hS;exact⟨(gh,i_32-1,M49),⟨hMM,hs.q,hI1⟩,hI2⟩
  ·refine qx rfl (qs (qr (sP (.string (mkS s2)) hs λ_ hs=>?_)));refine sP2 (iv (s2.length:Int)) (.bool ((s2.length:Int)==(6:Int))) hs λ_ hs=>?_;refine wn (Wp.cS hs beq_iff_eq hS (λhS=>?_) (λhS=>?_))
   ·refine qr (sP2 (.string (mkS ([]:List UInt8))) (iv 12) hs λ_ hs=>?_);exact wn (qt (leaveW (K:=K) hs (resTT hs rfl rfl rfl) hMM hS))
   ·refine qk (qr (sP2 (.slice A5 ((s2).length) c6) (.string (mkS a1)) hs λ_ hs=>?_));obtain⟨c50,h0,hi,hS⟩:=hS;refine sY (.int .u8 (c50.toNat:Int)) hs (Yl.indexStr rfl rfl rfl rfl (by kernel_rfl) h0 hi) λ_ hs=>?_;refine stepMake [(.int .u8 (c50.toNat:Int))] 5 1 1 hs rfl rfl rfl (λ_=>by kernel_rfl) rfl (by unfold maxLen;decide) (by decide) (λ_ _ rv51 hs=>?_);obtain⟨ad53,cap54,hv,hcp,hxl⟩:=hs.rowform 0 rfl
    dsimp only at hv hcp hxl
    subst hv;obtain⟨ho,hS⟩:=hS;obtain⟨xs52,hrw,hwr,hB,hS⟩:=hS;refine stepAppendM [(.int .u8 (c50.toNat:Int))] hs hMM rfl rfl rfl rfl (by kernel_rfl) (by kernel_rfl) (by decide) (by decide) (hs.srcRowA 0 rfl ho) hrw hwr (lenb hB (by decide)) hB (λ_ _ M55 ad56 cap57 hap hMM hs=>?_);have hS:=hS M55 ad56 cap57 hap;obtain⟨x58,hsl,hln,hS⟩:=hS;refine sY (.string (mkS x58)) hs (Yl.bytesV (e:=5) rfl rfl (by kernel_rfl) (by kernel_rfl) (by kernel_rfl) hsl hln) λ_ hs=>?_;refine sP2 (.string (mkS x58)) (iv 0) hs λ_ hs=>?_;exact wn (qt (leaveW (K:=K) hs (resTT hs rfl rfl rfl) hMM hS))
theorem e_walk_Next (a1:List UInt8) (s2:List UInt8) (M:Mem) (K:Value->Mem->Prop) (hS:S_walk_Next a1 s2 M (λ_=>False) K):CallE Try.prog 24 #[(Value.string (mkS a1)),(Value.string (mkS s2))] M K:=(s_walk_Next _ _ _ _ _ hS).toE
end Go.Proofs.Ytmnilbfhfjdelaa.core

namespace Go.Proofs.Ytmnilbfhfjdelaa.core
open Go.Gx Go.RowKit Go.ChangeShapes Go.WideShapes Go.ChangeAt
set_option linter.unusedVariables false
structure X_api_Cursor where
 Text:List UInt8
 Over:Bool
def X_api_Cursor.cells (x:X_api_Cursor):List Value:=[(.string (mkS x.Text)),(.bool x.Over)]
def X_api_Cursor.val (x:X_api_Cursor):Value:=.agg x.cells.toArray
def S_slices_Equal_string (sa1:Option Addr) (sl2:Nat) (sc3:Nat) (sa4:Option Addr) (sl5:Nat) (sc6:Nat) (M:Mem) (K:Value->Prop):Prop:=
 ((((sl2:Nat):Int)≠((sl5:Nat):Int)->K (Value.bool false))/\(¬(((sl2:Nat):Int)≠((sl5:Nat):Int))->(∃(I15:Int->Prop) (mu16:Int->Nat),I15 0/\∀(x14:Int),(I15 x14->((x14<((sl2:Nat):Int)->(∃(b17 o18:Nat),sa1=some ⟨b17,o18,none⟩/\(0:Int)<=x14/\x14<((sl2:Nat):Int)/\(∃(x19:List UInt8),At M b17 (o18+x14.toNat*1) [(.string (mkS x19))]/\(∃(b20 o21:Nat),sa4=some ⟨b20,o21,none⟩/\(0:Int)<=x14/\x14<((sl5:Nat):Int)/\(∃(x22:List UInt8),At M b20 (o21+x14.toNat*1) [(.string (mkS x22))]/\((x19≠x22->K (Value.bool false))/\(¬(x19≠x22)->(InI (x14+1)/\I15 (x14+1)/\mu16 (x14+1)<mu16 x14))))))))/\(¬(x14<((sl2:Nat):Int))->K (Value.bool true)))))))
set_option maxRecDepth 100000 in
theorem s_slices_Equal_string (sa1:Option Addr) (sl2:Nat) (sc3:Nat) (sa4:Option Addr) (sl5:Nat) (sc6:Nat) (M:Mem) (K:Value->Prop) (hS:S_slices_Equal_string sa1 sl2 sc3 sa4 sl5 sc6 M K):CallE Try.prog 26 #[(Value.slice sa1 sl2 sc3),(Value.slice sa4 sl5 sc6)] M (λv _=>K v):=by
 refine eE2 Try.func26 26 λE a hMM hs=>?_;unfold S_slices_Equal_string at hS;refine qr (sP (.bool false) hs λ_ hs=>?_);refine wn (qs (qr (sP4 (.slice sa1 sl2 sc3) (iv (sl2:Int)) (.slice sa4 sl5 sc6) (iv (sl5:Int)) hs λ_ hs=>?_)));refine sP (.bool ((sl2:Int) != (sl5:Int))) hs λ_ hs=>?_;refine wn (Wp.cS hs bne_iff_ne hS (λhS=>?_) (λhS=>?_))
 ·refine qr (sP (.bool false) hs λ_ hs=>?_);exact wn (qt (rT hs hMM hS))
 ·refine qk (qs (qr (sP3 (.slice sa1 sl2 sc3) (iv (sl2:Int)) (iv 0) hs λ_ hs=>?_)));refine wn (qb ?_);obtain⟨I15,mu16,hI0,hst⟩:=hS;refine Wp.loop (σ:=(Int)) (λx14 a w=>Sx 26 E [] M w a [(0,(.slice sa1 sl2 sc3)),(1,(.slice sa4 sl5 sc6)),(12,(iv (sl2:Int))),(13,(iv x14))] [] []/\I15 x14) (λx14=>mu16 x14) (0) ⟨hs.q,hI0⟩ (λx14 a w hI=>?_);obtain⟨hs,hI⟩:=hI;have hS:=hst x14 hI;clear hst hI0 hI;refine qr (sP (.bool (decide (x14<(sl2:Int)))) hs λ_ hs=>?_);refine wn (qs (Wp.cS hs decide_eq_true_iff hS (λhS=>?_) (λhS=>?_)))
  ·refine qk (qs (qb (qr (sP2 (iv x14) (iv x14) hs λ_ hs=>?_))));refine wn (qs (Wp.regionD [true,true,true,true,true,true,true,true,true] hs (by kernel_rfl) rfl [] (λ_ h=>h) [] (λ_ h=>h) (λ_ hs hC=>?_)));have hL:=Mem.le.refl M;refine dA (Value.slice sa1 sl2 sc3) 0 [2,3,8] hs λ_ hs=>?_;refine dA (iv x14) 1 [2,3,8] hs λ_ hs=>?_;obtain⟨b17,o18,ha,h0,hl,hS⟩:=hS;refine dF (.pointer (some ⟨b17,o18+x14.toNat*1,none⟩)) 2 [3,8] hs rfl (Yl.iS 9 1 ha h0 hl) λ_ hs=>?_;obtain⟨x19,hat,hS⟩:=hS;refine dC (.string (mkS x19)) 3 [8] hs hC rfl (Yl.lV [(.string (mkS x19))] false hat) λ_ hs=>?_;refine dA (Value.slice sa4 sl5 sc6) 4 [6,7,8] hs λ_ hs=>?_;refine sE 5 ?_;refine sP (iv x14) hs λ_ hs=>?_;refine nE 6 ?_;obtain⟨b20,o21,ha,h0,hl,hS⟩:=hS;refine sI 9 1 ha h0 hl hs λ_ hs=>?_;refine nE 7 ?_;obtain⟨x22,hat,hS⟩:=hS;refine sV1 (.string (mkS x22)) hat hs λ_ hs=>?_;refine nE 8 ?_;refine sP (.bool (!((mkS x19).toList==(mkS x22).toList))) hs λ_ hs=>?_;refine wN ?_;refine dD ?_;refine Wp.cS hs mkS_bne hS (λhS=>?_) (λhS=>?_)
   ·refine qr (sP (.bool false) hs λ_ hs=>?_);exact wn (qt (rT hs hMM hS))
   ·refine qk (qg ?_);obtain⟨hI,hS⟩:=hS;refine sY (iv (x14+1)) hs (Yl.wr hI) λ_ hs=>?_;refine sP (iv (x14+1)) hs λ_ hs=>?_;exact wn (⟨(x14+1),⟨hs.q,hS.1⟩,hS.2⟩)
  ·refine qx rfl (qr (sP (.bool true) hs λ_ hs=>?_));exact wn (qt (rT hs hMM hS))
end Go.Proofs.Ytmnilbfhfjdelaa.core

namespace Go.Proofs.Ytmnilbfhfjdelaa.core
open Go.Gx Go.RowKit Go.ChangeShapes Go.WideShapes Go.ChangeAt
set_option linter.unusedVariables false
def S_chafftop_x (M:Mem) (K:Value->Mem->Prop):Prop:=
 (∀(M5:Mem) (ad3:Option Addr) (cap4:Nat),M.le M5->SlV M5 ad3 1 cap4 8 ((X_api_Rule.mk ([97]:List UInt8) (X_api_Expr.mk 3 (X_api_Set.mk 0 0 0 0) ([120]:List UInt8) none 0 0)).cells)->(∀M',M5.le M'->K (Value.agg #[(.slice ad3 1 cap4)]) M'))
set_option maxRecDepth 100000 in
theorem s_chafftop_x (M:Mem) (K:Value->Mem->Prop) (hS:S_chafftop_x M K):CallE Try.prog 44 #[] M K:=by
 refine eE0 Try.func44 5 λE a hMM hs=>?_;unfold S_chafftop_x at hS;refine qr (stepAlloc [(.slice none 0 0)] hs (by kernel_rfl) (by decide) (λ_ _ b1 hEb1 hs=>?_));have hs:=hs.nilrow 119 8;refine wn (qr (sP2 (X_api_Expr.mk 3 (X_api_Set.mk 0 0 0 0) ([120]:List UInt8) none 0 0).val (X_api_Rule.mk ([97]:List UInt8) (X_api_Expr.mk 3 (X_api_Set.mk 0 0 0 0) ([120]:List UInt8) none 0 0)).val hs λ_ hs=>?_));refine stepMake ((X_api_Rule.mk ([97]:List UInt8) (X_api_Expr.mk 3 (X_api_Set.mk 0 0 0 0) ([120]:List UInt8) none 0 0)).cells) 119 8 1 hs rfl rfl rfl (λ_=>by kernel_rfl) rfl (by unfold maxLen;decide) (by decide) (λ_ _ rv2 hs=>?_);obtain⟨ad3,cap4,hv,hcp,hxl⟩:=hs.rowform 0 rfl
 dsimp only at hv hcp hxl
 subst hv;refine sP (.agg #[(.slice ad3 1 cap4)]) hs λ_ hs=>?_;refine stB 0 [(.slice ad3 1 cap4)] [⟨b1,38,[(.slice ad3 1 cap4)]⟩] hs λ_ _ hs=>?_;refine wn (qt ?_);obtain⟨M5,hle,hsl,hnew,hs⟩:=hs.release 0 rfl [⟨(Value.slice none 0 0),119,8,0,[],true⟩] rfl;have hMM:=hMM.next hle hnew;have hS:=hS M5 ad3 cap4 hle hsl;exact leaveE (K:=K) hs (resC (vs:=[(.slice ad3 1 cap4)]) true 0 hs rfl rfl rfl (by kernel_rfl) rfl) hMM.2 hS
def S_chafftop_begun (M:Mem) (K:Value->Prop):Prop:=
 (CallE Try.prog 44 #[] M (λv M4=>∃(xa1:Option Addr) (xl2:Nat) (xc3:Nat),v=(Value.agg #[(.slice xa1 xl2 xc3)])/\(CallE Try.prog 23 #[(.agg #[(.slice xa1 xl2 xc3)]),(.string (mkS ([120]:List UInt8)))] M4 (λv _=>∃(x5:Bool) (x6:Int),v=(Value.tuple #[(.bool x5),(.int .i64 x6)])/\((x5=true->K (Value.bool ((x6:Int)==(0:Int))))/\(¬(x5=true)->K (Value.bool false)))))))
set_option maxRecDepth 100000 in
theorem s_chafftop_begun (M:Mem) (K:Value->Prop) (hS:S_chafftop_begun M K):CallE Try.prog 18 #[] M (λv _=>K v):=by
 refine eE0 Try.func18 13 λE a hMM hs=>?_;unfold S_chafftop_begun at hS;refine qr (sP (.bool false) hs λ_ hs=>?_);refine wn (qr (stepCallE [] hs rfl ⟨_,rfl,rfl⟩ rfl Try.func44 rfl (by kernel_rfl) (by decide) hS (λ_ _ M4 v hle hnew hS hs=>?_)));have hMM:=hMM.next hle hnew;obtain⟨xa1,xl2,xc3,rfl,hS⟩:=hS;refine cP [(.agg #[(.slice xa1 xl2 xc3)]),(.string (mkS ([120]:List UInt8)))] hs Try.func23 hS λ_ _ v hS hs=>?_;obtain⟨x5,x6,rfl,hS⟩:=hS;refine sP4 (Value.tuple #[(.bool x5),(iv x6)]) (.bool x5) (iv x6) (.bool x5) hs λ_ hs=>?_;refine sP (iv x6) hs λ_ hs=>?_;refine wn (qr (sP2 (.bool x5) (.bool x5) hs λ_ hs=>?_));refine bsS Iff.rfl hs hS (λhs hS=>?_) (λhs hS=>?_)
 ·refine ye (iv x6) hs λ_ hs=>?_;refine ye (.bool ((x6:Int)==(0:Int))) hs λ_ hs=>?_;refine sP2 (.bool ((x6:Int)==(0:Int))) (.bool ((x6:Int)==(0:Int))) hs λ_ hs=>?_;exact wn (qt (rT hs hMM hS))
 ·refine sNo hs λ_ hs=>?_;refine sNo hs λ_ hs=>?_;refine sP2 (.bool false) (.bool false) hs λ_ hs=>?_;exact wn (qt (rT hs hMM hS))
end Go.Proofs.Ytmnilbfhfjdelaa.core

namespace Go.Gx
open Go.RowKit Go.Maps Go.WideMaps
section
variable {P:Program} {ops:Array Oper} {Q:Exit->Act->World->Prop} {n:Nat} {E:World} {M M0:Mem} {L:Nat->Prop} {w:World} {a:Act} {env:Env} {bs:List Bx} {rs:List Rw} {rest:List Oper}
variable {d:Option Tmp} {ty:TypeId} {pos:String} {af:Array Edge} {gd:Option (Nat×Bool)}
end
section
variable {P:Program} {ops:Array Oper} {Q:Exit->Act->World->Prop} {n:Nat} {E:World} {bw:List Nat} {M:Mem} {w:World} {a:Act} {env:Env} {bs:List Bx} {rs:List Rw} {rest:List Oper} {o:Oper}
end
end Go.Gx

namespace Go.Proofs.Ytmnilbfhfjdelaa.core
open Go.Gx Go.RowKit Go.ChangeShapes Go.WideShapes Go.ChangeAt
set_option linter.unusedVariables false
structure X_api_Job where
 Grammar_Rules_a:Option Addr
 Grammar_Rules_l:Nat
 Grammar_Rules_c:Nat
 Alpha:List UInt8
 N:Int
 Budget:Int
def X_api_Job.cells (x:X_api_Job):List Value:=[(.slice x.Grammar_Rules_a x.Grammar_Rules_l x.Grammar_Rules_c),(.string (mkS x.Alpha)),(.int .i64 x.N),(.int .i64 x.Budget)]
def X_api_Job.val (x:X_api_Job):Value:=.agg x.cells.toArray
structure X_api_State where
 Found_a:Option Addr
 Found_l:Nat
 Found_c:Nat
 Cursor:X_api_Cursor
 Left:Int
def X_api_State.cells (x:X_api_State):List Value:=[(.slice x.Found_a x.Found_l x.Found_c),(.string (mkS x.Cursor.Text)),(.bool x.Cursor.Over),(.int .i64 x.Left)]
def X_api_State.val (x:X_api_State):Value:=.agg x.cells.toArray
structure X_jobs_task where
 Job:X_api_Job
 State:X_api_State
def X_jobs_task.cells (x:X_jobs_task):List Value:=[(.slice x.Job.Grammar_Rules_a x.Job.Grammar_Rules_l x.Job.Grammar_Rules_c),(.string (mkS x.Job.Alpha)),(.int .i64 x.Job.N),(.int .i64 x.Job.Budget),(.slice x.State.Found_a x.State.Found_l x.State.Found_c),(.string (mkS x.State.Cursor.Text)),(.bool x.State.Cursor.Over),(.int .i64 x.State.Left)]
def X_jobs_task.val (x:X_jobs_task):Value:=.agg x.cells.toArray
/- not served: list.List: live rangeFunc -/
def S_jobs_task_over (t1:Option Addr) (M:Mem) (L:Nat->Prop) (K:Value->Mem->Prop):Prop:=
 (∃(b2 o3:Nat),t1=some ⟨b2,o3,none⟩/\(∃(x4:Bool),At M b2 (o3+4+1+1) [(.bool x4)]/\((x4=true->(∀M',M.le M'->K (Value.bool true) M'))/\(¬(x4=true)->(∃(b5 o6:Nat),t1=some ⟨b5,o6,none⟩/\(∃(x7:Int),At M b5 (o6+4+3) [(.int .i64 x7)]/\(∀M',M.le M'->K (Value.bool ((x7:Int)==(0:Int))) M')))))))
set_option maxRecDepth 100000 in
theorem s_jobs_task_over (t1:Option Addr) (M:Mem) (L:Nat->Prop) (K:Value->Mem->Prop) (hS:S_jobs_task_over t1 M L K):CallW Try.prog 71 #[(Value.pointer t1)] M L K:=by
 refine eW1 Try.func71 17 λE a hMM hs=>?_;unfold S_jobs_task_over at hS;refine qr (sP (.bool false) hs λ_ hs=>?_);refine wn (qr (sP (.pointer t1) hs λ_ hs=>?_));obtain⟨b2,o3,hp,hS⟩:=hS;refine sY (.pointer (some ⟨b2,o3,none⟩)) hs (Yl.nilck rfl rfl hp) λ_ hs=>?_;refine sP3 (.pointer (some ⟨b2,o3+4,none⟩)) (.pointer (some ⟨b2,o3+4+1,none⟩)) (.pointer (some ⟨b2,o3+4+1+1,none⟩)) hs λ_ hs=>?_;obtain⟨x4,hat,hS⟩:=hS;refine sV1 (.bool x4) hat hs λ_ hs=>?_;refine sP (.bool x4) hs λ_ hs=>?_;refine bsS Iff.rfl hs hS (λhs hS=>?_) (λhs hS=>?_)
 ·repeat (first|refine sNo hs λ_ hs=>?_|refine sNu hs λ_ hs=>?_)
  refine sP2 (.bool true) (.bool true) hs λ_ hs=>?_;exact wn (qt (leaveW (K:=K) hs (resT hs rfl rfl) hMM hS))
 ·refine ye (.pointer t1) hs λ_ hs=>?_;refine sYe hs ?_;obtain⟨b5,o6,hp,hS⟩:=hS;refine sY (.pointer (some ⟨b5,o6,none⟩)) hs (Yl.nilck rfl rfl hp) λ_ hs=>?_;refine ye (.pointer (some ⟨b5,o6+4,none⟩)) hs λ_ hs=>?_;refine ye (.pointer (some ⟨b5,o6+4+3,none⟩)) hs λ_ hs=>?_;refine sYe hs ?_;obtain⟨x7,hat,hS⟩:=hS;refine sV1 (iv x7) hat hs λ_ hs=>?_;refine ye (.bool ((x7:Int)==(0:Int))) hs λ_ hs=>?_;refine sP2 (.bool ((x7:Int)==(0:Int))) (.bool ((x7:Int)==(0:Int))) hs λ_ hs=>?_;exact wn (qt (leaveW (K:=K) hs (resT hs rfl rfl) hMM hS))
def S_jobs_task_work_J1 (t1:Option Addr) (n2:Int) (M:Mem) (L:Nat->Prop) (x5:Int) (la28:Option Addr) (ll29:Nat) (lc30:Nat) (c31:List UInt8) (c32:Bool) (M33:Mem) (K:Value->Mem->Prop):Prop:=
 (∃(b34 o35:Nat),t1=some ⟨b34,o35,none⟩/\(∃(xa36:Option Addr) (xl37:Nat) (xc38:Nat),At M33 b34 (o35+4) [(.slice xa36 xl37 xc38)]/\(∃(news40:List Value),SlV M33 la28 ll29 lc30 1 news40/\(∀u∈news40,u.oneCell'=true)/\(∃(xs39:List Value),RowW M33 9 1 xa36 xl37 xc38 xs39/\(∀g,xa36=some ⟨g,0,none⟩->Wr L M g)/\(xl37+ll29)*16<=140737488355328/\∀(M41:Mem) (ad42:Option Addr) (cap43:Nat),AppW M33 M41 9 1 xa36 ad42 (xl37+ll29) cap43 (xs39++news40)->(∃(b44 o45:Nat),t1=some ⟨b44,o45,none⟩/\(Has M41 b44 (o45+4) 1/\Wr L M b44/\∀(M46:Mem),M46=M41.put b44 (o45+4) [(.slice ad42 (xl37+ll29) cap43)]->(∃(b47 o48:Nat),t1=some ⟨b47,o48,none⟩/\(Has M46 b47 (o48+4+1) 2/\Wr L M b47/\∀(M49:Mem),M49=M46.put b47 (o48+4+1) (X_api_Cursor.mk c31 c32).cells->(∃(b50 o51:Nat),t1=some ⟨b50,o51,none⟩/\(∃(x52:Int),At M49 b50 (o51+4+3) [(.int .i64 x52)]/\(InI (x52-(if x5<n2 then x5 else n2))/\(∃(b53 o54:Nat),t1=some ⟨b53,o54,none⟩/\(Has M49 b53 (o54+4+3) 1/\Wr L M b53/\∀(M55:Mem),M55=M49.put b53 (o54+4+3) [(.int .i64 (x52-(if x5<n2 then x5 else n2)))]->(∀M',M55.le M'->K (Value.tuple #[]) M'))))))))))))))
def S_jobs_task_work (t1:Option Addr) (n2:Int) (M:Mem) (L:Nat->Prop) (K:Value->Mem->Prop):Prop:=
 (∃(b3 o4:Nat),t1=some ⟨b3,o4,none⟩/\(∃(x5:Int),At M b3 (o4+4+3) [(.int .i64 x5)]/\(∃(b6 o7:Nat),t1=some ⟨b6,o7,none⟩/\(∃(xa8:Option Addr) (xl9:Nat) (xc10:Nat),At M b6 o7 [(.slice xa8 xl9 xc10)]/\(∃(b11 o12:Nat),t1=some ⟨b11,o12,none⟩/\(∃(x13:List UInt8),At M b11 (o12+1) [(.string (mkS x13))]/\(∃(b14 o15:Nat),t1=some ⟨b14,o15,none⟩/\(∃(x16:Int),At M b14 (o15+2) [(.int .i64 x16)]/\(∃(b17 o18:Nat),t1=some ⟨b17,o18,none⟩/\(∃(x19:X_api_Cursor),At M b17 (o18+4+1) x19.cells/\(CallE Try.prog 21 #[(.agg #[(.slice xa8 xl9 xc10)]),(.string (mkS x13)),(.int .i64 x16),x19.val,(.int .i64 (if x5<n2 then x5 else n2))] M (λv M25=>∃(xa20:Option Addr) (xl21:Nat) (xc22:Nat) (x23:X_api_Cursor) (x24:Int),v=(Value.tuple #[(.slice xa20 xl21 xc22),x23.val,(.int .i64 x24)])/\(S_jobs_task_work_J1 t1 n2 M L x5 xa20 xl21 xc22 x23.Text x23.Over M25 K)))))))))))))
set_option maxRecDepth 100000 in
theorem s_jobs_task_work (t1:Option Addr) (n2:Int) (M:Mem) (L:Nat->Prop) (K:Value->Mem->Prop) (hS:S_jobs_task_work t1 n2 M L K):CallW Try.prog 72 #[(Value.pointer t1),(Value.int .i64 n2)] M L K:=by
 refine eW2 Try.func72 66 λE a hMM hs=>?_;unfold S_jobs_task_work at hS;refine qr (sP2 (iv n2) (.pointer t1) hs λ_ hs=>?_);obtain⟨b3,o4,hp,hS⟩:=hS;refine sY (.pointer (some ⟨b3,o4,none⟩)) hs (Yl.nilck rfl rfl hp) λ_ hs=>?_;refine sP2 (.pointer (some ⟨b3,o4+4,none⟩)) (.pointer (some ⟨b3,o4+4+3,none⟩)) hs λ_ hs=>?_;obtain⟨x5,hat,hS⟩:=hS;refine sV1 (iv x5) hat hs λ_ hs=>?_;refine sP2 (iv (if x5<n2 then x5 else n2)) (iv (if x5<n2 then x5 else n2)) hs λ_ hs=>?_;refine wn (Wp.join (λa w=>∃(la28:Option Addr) (ll29:Nat) (lc30:Nat) (c31:List UInt8) (c32:Bool) (b27:Nat) (M33:Mem),WX M33 M E/\E.heap.size<=b27/\Sx 66 E (bwW E M L) M33 w a [(0,(.pointer t1)),(1,(iv (if x5<n2 then x5 else n2))),(4,(.slice la28 ll29 lc30)),(5,(pt b27 0))] [⟨b27,47,[(.string (mkS c31)),(.bool c32)]⟩] []/\(S_jobs_task_work_J1 t1 n2 M L x5 la28 ll29 lc30 c31 c32 M33 K)) ?_ ?_)
 ·refine Wp.regionD [true,true,true,true,true,true,true,true,true,true,true,true,true,true,true,true,true,true,true,true,true,true,true,true,true,true,true,true,true,true] hs (by kernel_rfl) rfl [] (λ_ h=>h) [] (λ_ h=>h) (λ_ hs hC=>?_);have hL:=Mem.le.refl M;refine dA (Value.pointer t1) 0 [1,2,3,4,21,22,23,24,25,27,28,29] hs λ_ hs=>?_;obtain⟨b6,o7,hp,hS⟩:=hS;refine dF (.pointer (some ⟨b6,o7,none⟩)) 1 [2,3,4,21,22,23,24,25,27,28,29] hs rfl (Yl.nilck rfl rfl hp) λ_ hs=>?_;refine dA (Value.pointer (some ⟨b6,o7,none⟩)) 2 [3,4,21,22,23,24,25,27,28,29] hs λ_ hs=>?_;refine dA (Value.pointer (some ⟨b6,o7,none⟩)) 3 [4,21,22,23,24,25,27,28,29] hs λ_ hs=>?_;obtain⟨xa8,xl9,xc10,hat,hS⟩:=hS;refine dC (.agg #[(.slice xa8 xl9 xc10)]) 4 [21,22,23,24,25,27,28,29] hs hC rfl (Yl.lV [(.slice xa8 xl9 xc10)] true hat) λ_ hs=>?_;refine dA (Value.pointer t1) 5 [6,7,8,9,21,22,23,24,25,27,28,29] hs λ_ hs=>?_;obtain⟨b11,o12,hp,hS⟩:=hS;refine dF (.pointer (some ⟨b11,o12,none⟩)) 6 [7,8,9,21,22,23,24,25,27,28,29] hs rfl (Yl.nilck rfl rfl hp) λ_ hs=>?_;refine dA (Value.pointer (some ⟨b11,o12,none⟩)) 7 [8,9,21,22,23,24,25,27,28,29] hs λ_ hs=>?_;refine dA (Value.pointer (some ⟨b11,o12+1,none⟩)) 8 [9,21,22,23,24,25,27,28,29] hs λ_ hs=>?_;obtain⟨x13,hat,hS⟩:=hS
  refine dC (.string (mkS x13)) 9 [21,22,23,24,25,27,28,29] hs hC rfl (Yl.lV [(.string (mkS x13))] false hat) λ_ hs=>?_;refine dA (Value.pointer t1) 10 [11,12,13,14,21,22,23,24,25,27,28,29] hs λ_ hs=>?_;obtain⟨b14,o15,hp,hS⟩:=hS;refine dF (.pointer (some ⟨b14,o15,none⟩)) 11 [12,13,14,21,22,23,24,25,27,28,29] hs rfl (Yl.nilck rfl rfl hp) λ_ hs=>?_;refine dA (Value.pointer (some ⟨b14,o15,none⟩)) 12 [13,14,21,22,23,24,25,27,28,29] hs λ_ hs=>?_;refine dA (Value.pointer (some ⟨b14,o15+2,none⟩)) 13 [14,21,22,23,24,25,27,28,29] hs λ_ hs=>?_;obtain⟨x16,hat,hS⟩:=hS;refine dC (iv x16) 14 [21,22,23,24,25,27,28,29] hs hC rfl (Yl.lV [(iv x16)] false hat) λ_ hs=>?_;refine dA (Value.pointer t1) 15 [16,17,18,19,21,22,23,24,25,27,28,29] hs λ_ hs=>?_;obtain⟨b17,o18,hp,hS⟩:=hS;refine dF (.pointer (some ⟨b17,o18,none⟩)) 16 [17,18,19,21,22,23,24,25,27,28,29] hs rfl (Yl.nilck rfl rfl hp) λ_ hs=>?_;refine dA (Value.pointer (some ⟨b17,o18+4,none⟩)) 17 [18,19,21,22,23,24,25,27,28,29] hs λ_ hs=>?_;refine dA (Value.pointer (some ⟨b17,o18+4+1,none⟩)) 18 [19,21,22,23,24,25,27,28,29] hs λ_ hs=>?_;obtain⟨x19,hat,hS⟩:=hS;refine dC x19.val 19 [21,22,23,24,25,27,28,29] hs hC rfl (Yl.lV x19.cells true hat) λ_ hs=>?_
  refine dA (iv (if x5<n2 then x5 else n2)) 20 [21,22,23,24,25,27,28,29] hs λ_ hs=>?_;refine WpD.ors (by kernel_rfl:_=[21,26]) ⟨?_,?_,trivial⟩
  ·refine stepOne 21 rfl (wanted_none rfl) #[] ?_;refine cE [(.agg #[(.slice xa8 xl9 xc10)]),(.string (mkS x13)),(iv x16),x19.val,(iv (if x5<n2 then x5 else n2))] hs Try.func21 hS λ_ _ M25 v hle hnew hS hs=>?_;have hMM:=hMM.next hle hnew;replace hL:=hL.trans hle;obtain⟨xa20,xl21,xc22,x23,x24,rfl,hS⟩:=hS;refine wn (⟨λ_ _=>hs.cxle hL (List.Sublist.refl _) (List.Sublist.refl _),?_⟩);have hC:=hs.cxle hL (List.Sublist.refl _) (List.Sublist.refl _);refine dA (Value.tuple #[(.slice xa20 xl21 xc22),x23.val,(iv x24)]) 22 [23,24,25,27,28,29] hs λ_ hs=>?_;refine dA (Value.slice xa20 xl21 xc22) 23 [27,28,29] hs λ_ hs=>?_;refine dA x23.val 24 [28,29] hs λ_ hs=>?_;refine dA (iv x24) 25 [29] hs λ_ hs=>?_;refine sE 26 ?_;refine stepAlloc [(.string (mkS [])),(.bool false)] hs (by kernel_rfl) (by decide) (λ_ _ b26 hEb26 hs=>?_);refine wn (⟨λ_ _=>hs.cxle hL (.cons _ List.Sublist.slnil) (List.Sublist.refl _),?_⟩);have hC:=hs.cxle hL (.cons _ List.Sublist.slnil) (List.Sublist.refl _);refine sE 27 ?_;refine sP (.slice xa20 xl21 xc22) hs λ_ hs=>?_;refine nE 28 ?_;refine stB 0 [(.string (mkS x23.Text)),(.bool x23.Over)] [⟨b26,47,[(.string (mkS x23.Text)),(.bool x23.Over)]⟩] hs λ_ _ hs=>?_;refine wn (⟨λ_ _=>hs.cxle hL (.cons _ List.Sublist.slnil) (List.Sublist.refl _),?_⟩);have hC:=hs.cxle hL (.cons _ List.Sublist.slnil) (List.Sublist.refl _)
   refine sE 29 ?_;refine sP (iv x24) hs λ_ hs=>?_;refine wN ?_;refine dD ?_;exact⟨xa20,xl21,xc22,x23.Text,x23.Over,b26,M25,hMM,hEb26,hs.q,hS⟩
  ·refine stepOne 26 rfl (wanted_none rfl) #[] ?_;refine stepAlloc [(.string (mkS [])),(.bool false)] hs (by kernel_rfl) (by decide) (λ_ _ b26 hEb26 hs=>?_);refine wn (⟨λ_ _=>hs.cxle hL (.cons _ List.Sublist.slnil) (List.Sublist.refl _),?_⟩);have hC:=hs.cxle hL (.cons _ List.Sublist.slnil) (List.Sublist.refl _);refine sE 21 ?_;refine cE [(.agg #[(.slice xa8 xl9 xc10)]),(.string (mkS x13)),(iv x16),x19.val,(iv (if x5<n2 then x5 else n2))] hs Try.func21 hS λ_ _ M25 v hle hnew hS hs=>?_;have hMM:=hMM.next hle hnew;replace hL:=hL.trans hle;obtain⟨xa20,xl21,xc22,x23,x24,rfl,hS⟩:=hS;refine wn (⟨λ_ _=>hs.cxle hL (.cons _ List.Sublist.slnil) (List.Sublist.refl _),?_⟩);have hC:=hs.cxle hL (.cons _ List.Sublist.slnil) (List.Sublist.refl _);refine sE 22 ?_;refine sP (Value.tuple #[(.slice xa20 xl21 xc22),x23.val,(iv x24)]) hs λ_ hs=>?_;refine wN ?_;refine dA (Value.slice xa20 xl21 xc22) 23 [27,28,29] hs λ_ hs=>?_;refine dA x23.val 24 [28,29] hs λ_ hs=>?_;refine dA (iv x24) 25 [29] hs λ_ hs=>?_;refine sE 27 ?_;refine sP (.slice xa20 xl21 xc22) hs λ_ hs=>?_;refine nE 28 ?_;refine stB 0 [(.string (mkS x23.Text)),(.bool x23.Over)] [⟨b26,47,[(.string (mkS x23.Text)),(.bool x23.Over)]⟩] hs λ_ _ hs=>?_;refine wn (⟨λ_ _=>hs.cxle hL (.cons _ List.Sublist.slnil) (List.Sublist.refl _),?_⟩)
   have hC:=hs.cxle hL (.cons _ List.Sublist.slnil) (List.Sublist.refl _);refine sE 29 ?_;refine sP (iv x24) hs λ_ hs=>?_;refine wN ?_;refine dD ?_;exact⟨xa20,xl21,xc22,x23.Text,x23.Over,b26,M25,hMM,hEb26,hs.q,hS⟩
 ·intro a w hJ;obtain⟨la28,ll29,lc30,c31,c32,b27,M33,hMM,hEb27,hs,hS⟩:=hJ;unfold S_jobs_task_work_J1 at hS;refine qr (sP2 (.pointer t1) (.pointer t1) hs λ_ hs=>?_);obtain⟨b34,o35,hp,hS⟩:=hS;refine sY (.pointer (some ⟨b34,o35,none⟩)) hs (Yl.nilck rfl rfl hp) λ_ hs=>?_;refine sP2 (.pointer (some ⟨b34,o35+4,none⟩)) (.pointer (some ⟨b34,o35+4,none⟩)) hs λ_ hs=>?_;obtain⟨xa36,xl37,xc38,hat,hS⟩:=hS;refine sV1 (.slice xa36 xl37 xc38) hat hs λ_ hs=>?_;refine sP (.slice la28 ll29 lc30) hs λ_ hs=>?_;obtain⟨news40,hsl,ho,hS⟩:=hS;obtain⟨xs39,hrw,hwr,hB,hS⟩:=hS;refine stepAppendW news40 hs hMM rfl rfl rfl rfl (by kernel_rfl) (by kernel_rfl) (by decide) (by decide) (hs.srcV hsl ho) hrw hwr (lenb hB (by decide)) hB (λ_ _ M41 ad42 cap43 hap hMM hs=>?_);have hS:=hS M41 ad42 cap43 hap;obtain⟨b44,o45,hp,hS⟩:=hS;refine sY (.pointer (some ⟨b44,o45,none⟩)) hs (Yl.nilck rfl rfl hp) λ_ hs=>?_;refine sP2 (.pointer (some ⟨b44,o45+4,none⟩)) (.pointer (some ⟨b44,o45+4,none⟩)) hs λ_ hs=>?_;obtain⟨hhas,hwr,hS⟩:=hS;refine stepStoreW (vs:=[(.slice ad42 (xl37+ll29) cap43)]) hs hMM rfl rfl rfl rfl rfl (by kernel_rfl) rfl hhas hwr (λ_ _ M46 hM2 hMM hs=>?_);have hS:=hS M46 hM2
  refine wn (qr (sP (.pointer t1) hs λ_ hs=>?_));refine sY (X_api_Cursor.mk c31 c32).val hs (Yl.lB (X_api_Cursor.mk c31 c32).cells true 0) λ_ hs=>?_;obtain⟨b47,o48,hp,hS⟩:=hS;refine sY (.pointer (some ⟨b47,o48,none⟩)) hs (Yl.nilck rfl rfl hp) λ_ hs=>?_;refine sP2 (.pointer (some ⟨b47,o48+4,none⟩)) (.pointer (some ⟨b47,o48+4+1,none⟩)) hs λ_ hs=>?_;obtain⟨hhas,hwr,hS⟩:=hS;refine stepStoreW (vs:=(X_api_Cursor.mk c31 c32).cells) hs hMM rfl rfl rfl rfl rfl (by kernel_rfl) rfl hhas hwr (λ_ _ M49 hM2 hMM hs=>?_);have hS:=hS M49 hM2;refine wn (qg (sP (.pointer t1) hs λ_ hs=>?_));obtain⟨b50,o51,hp,hS⟩:=hS;refine sY (.pointer (some ⟨b50,o51,none⟩)) hs (Yl.nilck rfl rfl hp) λ_ hs=>?_;refine sP2 (.pointer (some ⟨b50,o51+4,none⟩)) (.pointer (some ⟨b50,o51+4+3,none⟩)) hs λ_ hs=>?_;obtain⟨x52,hat,hS⟩:=hS;refine sV1 (iv x52) hat hs λ_ hs=>?_;refine sP (iv (if x5<n2 then x5 else n2)) hs λ_ hs=>?_;obtain⟨hI,hS⟩:=hS;refine sY (iv (x52-(if x5<n2 then x5 else n2))) hs (Yl.wr hI) λ_ hs=>?_;obtain⟨b53,o54,hp,hS⟩:=hS;refine sY (.pointer (some ⟨b53,o54,none⟩)) hs (Yl.nilck rfl rfl hp) λ_ hs=>?_;refine sP2 (.pointer (some ⟨b53,o54+4,none⟩)) (.pointer (some ⟨b53,o54+4+3,none⟩)) hs λ_ hs=>?_
  obtain⟨hhas,hwr,hS⟩:=hS;refine stepStoreW (vs:=[(iv (x52-(if x5<n2 then x5 else n2)))]) hs hMM rfl rfl rfl rfl rfl (by kernel_rfl) rfl hhas hwr (λ_ _ M55 hM2 hMM hs=>?_);have hS:=hS M55 hM2;exact wn (leaveW (K:=K) hs (res hs rfl) hMM hS)
def S_jobs_Run_J2 (x197:Int) (G202:Type) (gh203:G202) (I200:G202->Int->Mem->Prop) (mu201:G202->Int->Nat) (M214:Mem) (K:Value->Mem->Prop):Prop:=
 (InI (x197+1)/\∃(gh:G202),I200 gh (x197+1) M214/\mu201 gh (x197+1)<mu201 gh203 x197)
def S_jobs_Run_J1 (la1:Option Addr) (ll2:Nat) (slice4:Int) (rounds5:Int) (M:Mem) (L:Nat->Prop) (x6:Bool) (K:Value->Mem->Prop):Prop:=
 ((x6=true->(∀M',M.le M'->K (Value.tuple #[(.slice none 0 0),(.int .i64 1)]) M'))/\(¬(x6=true)->(∃(G56:Type) (I54:G56->Int->Nat->List Value->Mem->Prop) (mu55:G56->Int->Nat->List Value->Nat) (gz58:G56),I54 gz58 0 0 [] M/\∀(gh57:G56) (x49:Int) (rn51:Nat) (rx52:List Value) (M53:Mem),(I54 gh57 x49 rn51 rx52 M53->((x49<((ll2:Nat):Int)->(∃(b59 o60:Nat),la1=some ⟨b59,o60,none⟩/\(0:Int)<=x49/\x49<((ll2:Nat):Int)/\(∃(x61:X_api_Job),At M53 b59 (o60+x49.toNat*4) x61.cells/\(CallE Try.prog 21 #[(.agg #[(.slice x61.Grammar_Rules_a x61.Grammar_Rules_l x61.Grammar_Rules_c)]),(.string (mkS x61.Alpha)),(.int .i64 x61.N),(X_api_Cursor.mk [] false).val,(.int .i64 (if x61.Budget<0 then x61.Budget else 0))] M53 (λv M68=>∃(xa63:Option Addr) (xl64:Nat) (xc65:Nat) (x66:X_api_Cursor) (x67:Int),v=(Value.tuple #[(.slice xa63 xl64 xc65),x66.val,(.int .i64 x67)])/\(((x67:Int)≠0->(∀M',M68.le M'->K (Value.tuple #[(.slice none 0 0),(.int .i64 x67)]) M'))/\(¬((x67:Int)≠0)->((x61.Budget>1048576->(∀M',M68.le M'->K (Value.tuple #[(.slice none 0 0),(.int .i64 1)]) M'))/\(¬(x61.Budget>1048576)->(∀(M71:Mem),NewRow M68 M71 9 1 none 0 0 []->(∀(b70:Nat),(∀(M72:Mem),M71 b70=none->M72=M71.add b70 (.cells [(.slice x61.Grammar_Rules_a x61.Grammar_Rules_l x61.Grammar_Rules_c),(.string (mkS x61.Alpha)),(.int .i64 x61.N),(.int .i64 x61.Budget),(.slice none 0 0),(.string (mkS [])),(.bool false),(.int .i64 x61.Budget)].toArray 139 (0,0))->((rn51+1)*8<=140737488355328/\(InI (x49+1)/\∃(gh:G56),I54 gh (x49+1) (rn51+1) (rx52++[(.pointer (some ⟨b70,0,none⟩))]) M72/\mu55 gh (x49+1) (rn51+1) (rx52++[(.pointer (some ⟨b70,0,none⟩))])<mu55 gh57 x49 rn51 rx52))))))))))))))/\(¬(x49<((ll2:Nat):Int))->(∃(G170:Type) (I168:G170->Int->Mem->Prop) (mu169:G170->Int->Nat) (gz172:G170),I168 gz172 0 M53/\∀(gh171:G170) (x165:Int) (M167:Mem),(I168 gh171 x165 M167->((x165<rounds5->(∃(G202:Type) (I200:G202->Int->Mem->Prop) (mu201:G202->Int->Nat) (gz204:G202),I200 gz204 0 M167/\∀(gh203:G202) (x197:Int) (M199:Mem),(I200 gh203 x197 M199->((x197<((rn51:Nat):Int)->((0:Int)<=x197/\x197<((rn51:Nat):Int)/\(∃(x209:Option Addr),Cs rx52 (0+x197.toNat*1) [(.pointer x209)]/\(CallW Try.prog 71 #[(.pointer x209)] M199 (Wr L M) (λv M211=>∃(x210:Bool),v=(Value.bool x210)/\((¬(x210=true)->(CallW Try.prog 72 #[(.pointer x209),(.int .i64 slice4)] M211 (Wr L M) (λv M212=>v=(Value.tuple #[])/\(S_jobs_Run_J2 x197 G202 gh203 I200 mu201 M212 K))))/\(¬(¬(x210=true))->(S_jobs_Run_J2 x197 G202 gh203 I200 mu201 M211 K))))))))/\(¬(x197<((rn51:Nat):Int))->(InI (x165+1)/\∃(gh:G170),I168 gh (x165+1) M199/\mu169 gh (x165+1)<mu169 gh171 x165))))))/\(¬(x165<rounds5)->(∃(I250:Int->Nat->List Value->Prop) (mu251:Int->Nat->List Value->Nat),I250 0 0 []/\∀(x245:Int) (rn247:Nat) (rx248:List Value),(I250 x245 rn247 rx248->((x245<((rn51:Nat):Int)->((0:Int)<=x245/\x245<((rn51:Nat):Int)/\(∃(x256:Option Addr),Cs rx52 (0+x245.toNat*1) [(.pointer x256)]/\(∃(b257 o258:Nat),x256=some ⟨b257,o258,none⟩/\(∃(x259:X_api_State),At M167 b257 (o258+4) x259.cells/\((rn247+1)*56<=140737488355328/\(InI (x245+1)/\I250 (x245+1) (rn247+1) (rx248++x259.cells)/\mu251 (x245+1) (rn247+1) (rx248++x259.cells)<mu251 x245 rn247 rx248)))))))/\(¬(x245<((rn51:Nat):Int))->(∀(M266:Mem) (ad264:Option Addr) (cap265:Nat),NewRow M167 M266 78 4 ad264 rn247 cap265 rx248->(∀M',M266.le M'->K (Value.tuple #[(.slice ad264 rn247 cap265),(.int .i64 0)]) M'))))))))))))))))
def S_jobs_Run (la1:Option Addr) (ll2:Nat) (lc3:Nat) (slice4:Int) (rounds5:Int) (M:Mem) (L:Nat->Prop) (K:Value->Mem->Prop):Prop:=
 ((((ll2:Nat):Int)>8->(∀M',M.le M'->K (Value.tuple #[(.slice none 0 0),(.int .i64 2)]) M'))/\(¬(((ll2:Nat):Int)>8)->((slice4<1->(S_jobs_Run_J1 la1 ll2 slice4 rounds5 M L true K))/\(¬(slice4<1)->((slice4>1000->(S_jobs_Run_J1 la1 ll2 slice4 rounds5 M L true K))/\(¬(slice4>1000)->((rounds5<0->(S_jobs_Run_J1 la1 ll2 slice4 rounds5 M L true K))/\(¬(rounds5<0)->(S_jobs_Run_J1 la1 ll2 slice4 rounds5 M L (decide (rounds5>1000)) K)))))))))
set_option maxRecDepth 100000 in
theorem s_jobs_Run (la1:Option Addr) (ll2:Nat) (lc3:Nat) (slice4:Int) (rounds5:Int) (M:Mem) (L:Nat->Prop) (K:Value->Mem->Prop) (hS:S_jobs_Run la1 ll2 lc3 slice4 rounds5 M L K):CallW Try.prog 34 #[(Value.slice la1 ll2 lc3),(Value.int .i64 slice4),(Value.int .i64 rounds5)] M L K:=by
 refine eW3 Try.func34 105 λE a hMM hs=>?_;unfold S_jobs_Run at hS;refine qr (sP2 (.slice none 0 0) (iv 0) hs λ_ hs=>?_);refine wn (qs (qr (sP3 (.slice la1 ll2 lc3) (iv (ll2:Int)) (.bool (decide ((ll2:Int)>8))) hs λ_ hs=>?_)));refine wn (Wp.cS hs decide_eq_true_iff hS (λhS=>?_) (λhS=>?_))
 ·refine qr (sP2 (.slice none 0 0) (iv 2) hs λ_ hs=>?_);exact wn (qt (leaveW (K:=K) hs (resTT hs rfl rfl rfl) hMM hS))
 ·refine qk (qs (Wp.join (λa w=>∃(x6:Bool),Sx 105 E (bwW E M L) M w a [(0,(.slice la1 ll2 lc3)),(1,(iv slice4)),(2,(iv rounds5)),(35,(.bool x6))] [] []/\(S_jobs_Run_J1 la1 ll2 slice4 rounds5 M L x6 K)) ?_ ?_))
  ·refine qg (sP3 (iv slice4) (.bool (decide (slice4<1))) (.bool (decide (slice4<1))) hs λ_ hs=>?_);refine bsS decide_eq_true_iff hs hS (λhs hS=>?_) (λhs hS=>?_)
   ·refine sNo hs λ_ hs=>?_;refine sNo hs λ_ hs=>?_;refine sP2 (.bool true) (.bool true) hs λ_ hs=>?_;refine sNo hs λ_ hs=>?_;refine sNo hs λ_ hs=>?_;refine sP2 (.bool true) (.bool true) hs λ_ hs=>?_;refine sNo hs λ_ hs=>?_;refine sNo hs λ_ hs=>?_;refine sP (.bool true) hs λ_ hs=>?_;exact wn (⟨true,hs.q,hS⟩)
   ·refine ye (iv slice4) hs λ_ hs=>?_;refine ye (.bool (decide (slice4>1000))) hs λ_ hs=>?_;refine sP2 (.bool (decide (slice4>1000))) (.bool (decide (slice4>1000))) hs λ_ hs=>?_;refine bsS decide_eq_true_iff hs hS (λhs hS=>?_) (λhs hS=>?_)
    ·refine sNo hs λ_ hs=>?_;refine sNo hs λ_ hs=>?_;refine sP2 (.bool true) (.bool true) hs λ_ hs=>?_;refine sNo hs λ_ hs=>?_;refine sNo hs λ_ hs=>?_;refine sP (.bool true) hs λ_ hs=>?_;exact wn (⟨true,hs.q,hS⟩)
    ·refine ye (iv rounds5) hs λ_ hs=>?_;refine ye (.bool (decide (rounds5<0))) hs λ_ hs=>?_;refine sP2 (.bool (decide (rounds5<0))) (.bool (decide (rounds5<0))) hs λ_ hs=>?_;refine bsS decide_eq_true_iff hs hS (λhs hS=>?_) (λhs hS=>?_)
     ·refine sNo hs λ_ hs=>?_;refine sNo hs λ_ hs=>?_;refine sP (.bool true) hs λ_ hs=>?_;exact wn (⟨true,hs.q,hS⟩)
     ·refine ye (iv rounds5) hs λ_ hs=>?_;refine ye (.bool (decide (rounds5>1000))) hs λ_ hs=>?_;refine sP (.bool (decide (rounds5>1000))) hs λ_ hs=>?_;exact wn (⟨(decide (rounds5>1000)),hs.q,hS⟩)
  ·intro a w hJ;obtain⟨x6,hs,hS⟩:=hJ;unfold S_jobs_Run_J1 at hS;refine Wp.cS hs Iff.rfl hS (λhS=>?_) (λhS=>?_)
   ·refine qr (sP2 (.slice none 0 0) (iv 1) hs λ_ hs=>?_);exact wn (qt (leaveW (K:=K) hs (resTT hs rfl rfl rfl) hMM hS))
   ·refine qk (qr (sP (.slice none 0 0) hs λ_ hs=>?_));have hs:=hs.nilrow 137 1;refine wn (qs (qr (sP3 (.slice la1 ll2 lc3) (iv (ll2:Int)) (iv 0) hs λ_ hs=>?_)));refine wn (qb ?_);obtain⟨G56,I54,mu55,gz58,hI0,hst⟩:=hS;refine Wp.loop (σ:=G56×(Int)×(Nat)×(List Value)×(Value)×(Mem)) (λ(gh57,x49,rn51,rx52,rv50,M53) a w=>WX M53 M E/\Sx 105 E (bwW E M L) M53 w a [(1,(iv slice4)),(2,(iv rounds5)),(8,rv50),(36,(.slice la1 ll2 lc3)),(37,(iv (ll2:Int))),(38,(iv x49))] [] [⟨rv50,137,1,rn51,rx52,true⟩]/\I54 gh57 x49 rn51 rx52 M53) (λ(gh57,x49,rn51,rx52,rv50,M53)=>mu55 gh57 x49 rn51 rx52) (gz58,0,0,[],(.slice none 0 0),M) ⟨hMM,hs.q,hI0⟩ (λs a w hI=>?_);obtain⟨gh57,x49,rn51,rx52,rv50,M53⟩:=s;obtain⟨hMM,hs,hI⟩:=hI;have hS:=hst gh57 x49 rn51 rx52 M53 hI;clear hst hI0 hI;refine qr (sP (.bool (decide (x49<(ll2:Int)))) hs λ_ hs=>?_);refine wn (qs (Wp.cS hs decide_eq_true_iff hS (λhS=>?_) (λhS=>?_)))
    ·refine qk (qs (qb (qr ?_)));obtain⟨b59,o60,ha,h0,hl,hS⟩:=hS;refine sI 76 4 ha h0 hl hs λ_ hs=>?_;obtain⟨x61,hat,hS⟩:=hS;refine sY x61.val hs (Yl.lV x61.cells true hat) λ_ hs=>?_;refine stepAlloc [(.slice none 0 0),(.string (mkS [])),(iv 0),(iv 0)] hs (by kernel_rfl) (by decide) (λ_ _ b62 hEb62 hs=>?_);refine stB 0 x61.cells [⟨b62,76,x61.cells⟩] hs λ_ _ hs=>?_;refine wn (qs (qr (sP (pt b62 0) hs λ_ hs=>?_)));refine sB [(.slice x61.Grammar_Rules_a x61.Grammar_Rules_l x61.Grammar_Rules_c)] true 0 hs λ_ hs=>?_;refine sP (pt b62 1) hs λ_ hs=>?_;refine sB1 (.string (mkS x61.Alpha)) 0 hs λ_ hs=>?_;refine sP (pt b62 2) hs λ_ hs=>?_;refine sB1 (iv x61.N) 0 hs λ_ hs=>?_;refine sP2 (X_api_Cursor.mk [] false).val (pt b62 3) hs λ_ hs=>?_;refine sB1 (iv x61.Budget) 0 hs λ_ hs=>?_;refine sP (iv (if x61.Budget<0 then x61.Budget else 0)) hs λ_ hs=>?_
     refine cE [(.agg #[(.slice x61.Grammar_Rules_a x61.Grammar_Rules_l x61.Grammar_Rules_c)]),(.string (mkS x61.Alpha)),(iv x61.N),(X_api_Cursor.mk [] false).val,(iv (if x61.Budget<0 then x61.Budget else 0))] hs Try.func21 hS λ_ _ M68 v hle hnew hS hs=>?_;have hMM:=hMM.next hle hnew;obtain⟨xa63,xl64,xc65,x66,x67,rfl,hS⟩:=hS;refine sP4 (Value.tuple #[(.slice xa63 xl64 xc65),x66.val,(iv x67)]) (.slice xa63 xl64 xc65) x66.val (iv x67) hs λ_ hs=>?_;refine stepAlloc [(.string (mkS [])),(.bool false)] hs (by kernel_rfl) (by decide) (λ_ _ b69 hEb69 hs=>?_);refine sP (.slice xa63 xl64 xc65) hs λ_ hs=>?_;refine stB 0 [(.string (mkS x66.Text)),(.bool x66.Over)] [⟨b69,47,[(.string (mkS x66.Text)),(.bool x66.Over)]⟩,⟨b62,76,x61.cells⟩] hs λ_ _ hs=>?_;refine sP (iv x67) hs λ_ hs=>?_;refine wn (qr (sP2 (iv x67) (.bool ((x67:Int) != (0:Int))) hs λ_ hs=>?_));refine wn (Wp.cS hs bne_iff_ne hS (λhS=>?_) (λhS=>?_))
     ·refine qr (sP3 (iv x67) (.slice none 0 0) (iv x67) hs λ_ hs=>?_);exact wn (qt (leaveW (K:=K) hs (resTT hs rfl rfl rfl) hMM hS))
     ·refine qk (qs (qr (sP (pt b62 3) hs λ_ hs=>?_)));refine sB1 (iv x61.Budget) 1 hs λ_ hs=>?_;refine sP (.bool (decide (x61.Budget>1048576))) hs λ_ hs=>?_;refine wn (Wp.cS hs decide_eq_true_iff hS (λhS=>?_) (λhS=>?_))
      ·refine qr (sP2 (.slice none 0 0) (iv 1) hs λ_ hs=>?_);exact wn (qt (leaveW (K:=K) hs (resTT hs rfl rfl rfl) hMM hS))
      ·refine qk (qg (sP rv50 hs λ_ hs=>?_));refine sY x61.val hs (Yl.lB x61.cells true 1) λ_ hs=>?_;refine sP (pt b62 3) hs λ_ hs=>?_;refine sB1 (iv x61.Budget) 1 hs λ_ hs=>?_;refine sP2 (X_api_State.mk none 0 0 (X_api_Cursor.mk [] false) x61.Budget).val (X_jobs_task.mk x61 (X_api_State.mk none 0 0 (X_api_Cursor.mk [] false) x61.Budget)).val hs λ_ hs=>?_;refine stepBox [(.slice x61.Grammar_Rules_a x61.Grammar_Rules_l x61.Grammar_Rules_c),(.string (mkS x61.Alpha)),(iv x61.N),(iv x61.Budget),(.slice none 0 0),(.string (mkS [])),(.bool false),(iv x61.Budget)] hs rfl rfl rfl (by decide) (λ_ _ b70 hEb70 hs=>?_);have hs:=hs.nilrow 9 1;obtain⟨M71,hnr,hMM,hs⟩:=hs.releaseW hMM 0 rfl [⟨rv50,137,1,rn51,rx52,true⟩] rfl;have hS:=hS M71 hnr;have hS:=hS b70;obtain⟨M72,hM2,hno,hMM,hs⟩:=hs.freezeW hMM 0 rfl hEb70 rfl;have hS:=hS M72 hno hM2;refine stepMake [(pt b70 0)] 137 1 1 hs rfl rfl rfl (λ_=>by kernel_rfl) rfl (by unfold maxLen;decide) (by decide) (λ_ _ rv73 hs=>?_);obtain⟨ad74,cap75,hv,hcp,hxl⟩:=hs.rowform 0 rfl
       dsimp only at hv hcp hxl
       subst hv;obtain⟨hB,hS⟩:=hS;refine stepAppend 1 [(pt b70 0)] hs rfl rfl rfl rfl rfl (by kernel_rfl) (by kernel_rfl) (by decide) (by decide) (hs.srcRow 0 rfl rfl) (lenb hB (by decide)) hB (λ_ _ rv76 hs=>?_);replace hs:=hs.chrs (rs':=[⟨(Value.slice ad74 1 cap75),137,1,1,[(pt b70 0)],true⟩,⟨rv76,137,1,(rn51+1),(rx52++[(pt b70 0)]),true⟩]) rfl;refine sP rv76 hs λ_ hs=>?_;refine wn (qg ?_);obtain⟨hI,hS⟩:=hS;refine sY (iv (x49+1)) hs (Yl.wr hI) λ_ hs=>?_;refine sP (iv (x49+1)) hs λ_ hs=>?_;refine wn ?_;obtain⟨gh,hI1,hI2⟩:=hS;exact⟨(gh,x49+1,(rn51+1),(rx52++[(pt b70 0)]),rv76,M72),⟨hMM,(hs.qq (.cons _ (.cons _ List.Sublist.slnil)) (.cons _ (.cons_cons _ List.Sublist.slnil))),hI1⟩,hI2⟩
    ·refine qx rfl (qs (qr (sP (iv rounds5) hs λ_ hs=>?_)));refine sP (iv 0) hs λ_ hs=>?_;refine wn (qb ?_);obtain⟨G170,I168,mu169,gz172,hI0,hst⟩:=hS;refine Wp.loop (σ:=G170×(Int)×(Value)×(Mem)) (λ(gh171,x165,rv166,M167) a w=>WX M167 M E/\Sx 105 E (bwW E M L) M167 w a [(1,(iv slice4)),(8,rv166),(73,(iv rounds5)),(74,(iv x165))] [] [⟨rv166,137,1,rn51,rx52,true⟩]/\I168 gh171 x165 M167) (λ(gh171,x165,rv166,M167)=>mu169 gh171 x165) (gz172,0,rv50,M53) ⟨hMM,hs.q,hI0⟩ (λs a w hI=>?_);obtain⟨gh171,x165,rv166,M167⟩:=s;obtain⟨hMM,hs,hI⟩:=hI;have hS:=hst gh171 x165 M167 hI;clear hst hI0 hI;refine qr (sP (.bool (decide (x165<rounds5))) hs λ_ hs=>?_);refine wn (qs (Wp.cS hs decide_eq_true_iff hS (λhS=>?_) (λhS=>?_)))
     ·refine qk (qs (qb (qr (sP rv166 hs λ_ hs=>?_))));refine sY (iv (rn51:Int)) hs (Yl.lenR (e':=137) 0 rfl rfl rfl (by kernel_rfl)) λ_ hs=>?_;refine sP (iv 0) hs λ_ hs=>?_;refine wn (qb ?_);obtain⟨G202,I200,mu201,gz204,hI0,hst⟩:=hS;refine Wp.loop (σ:=G202×(Int)×(Value)×(Mem)) (λ(gh203,x197,rv198,M199) a w=>WX M199 M E/\Sx 105 E (bwW E M L) M199 w a [(1,(iv slice4)),(8,rv198),(73,(iv rounds5)),(74,(iv x165)),(76,rv198),(77,(iv (rn51:Int))),(78,(iv x197))] [] [⟨rv198,137,1,rn51,rx52,true⟩]/\I200 gh203 x197 M199) (λ(gh203,x197,rv198,M199)=>mu201 gh203 x197) (gz204,0,rv166,M167) ⟨hMM,hs.q,hI0⟩ (λs a w hI=>?_);obtain⟨gh203,x197,rv198,M199⟩:=s;obtain⟨hMM,hs,hI⟩:=hI;have hS:=hst gh203 x197 M199 hI;clear hst hI0 hI;refine qr (sP (.bool (decide (x197<(rn51:Int)))) hs λ_ hs=>?_);refine wn (qs (Wp.cS hs decide_eq_true_iff hS (λhS=>?_) (λhS=>?_)))
      ·refine qk (Wp.join (λa w=>∃(rv213:Value) (M214:Mem),WX M214 M E/\Sx 105 E (bwW E M L) M214 w a [(1,(iv slice4)),(8,rv213),(73,(iv rounds5)),(74,(iv x165)),(76,rv213),(77,(iv (rn51:Int))),(78,(iv x197))] [] [⟨rv213,137,1,rn51,rx52,true⟩]/\(S_jobs_Run_J2 x197 G202 gh203 I200 mu201 M214 K)) ?_ ?_)
       ·refine qb (qr ?_);obtain⟨ad205,cap206,hv,hcp,hxl⟩:=hs.rowform 0 rfl
        dsimp only at hv hcp hxl
        subst hv;obtain⟨h0,hl,hS⟩:=hS
        have hix207:x197.toNat<rn51:=by omega
        obtain⟨g208,hg208⟩:=hs.rowblk 0 rfl (by omega);refine sY (.pointer (some ⟨g208,0+x197.toNat*1,none⟩)) hs (Yl.indexS (e:=137) (sz:=1) rfl rfl rfl rfl (by kernel_rfl) (by kernel_rfl) hg208 h0 hl) λ_ hs=>?_;obtain⟨x209,hcs,hS⟩:=hS;refine sY (.pointer x209) hs (Yl.loadR (vs:=[(.pointer x209)]) 0 false rfl hg208 rfl rfl (by kernel_rfl) hcs) λ_ hs=>?_;refine sP (.pointer x209) hs λ_ hs=>?_;refine wn (qr (sP (.pointer x209) hs λ_ hs=>?_));refine cW [(.pointer x209)] hs hMM Try.func71 hS λ_ _ M211 v hMM hS hs=>?_;obtain⟨x210,rfl,hS⟩:=hS;refine sP (.bool (!x210)) hs λ_ hs=>?_;refine wn (Wp.cS hs (bnot_iff Iff.rfl) hS (λhS=>?_) (λhS=>?_))
        ·refine qg (sP2 (.pointer x209) (iv slice4) hs λ_ hs=>?_);refine cW [(.pointer x209),(iv slice4)] hs hMM Try.func72 hS λ_ _ M212 v hMM hS hs=>?_;obtain⟨hv,hS⟩:=hS;subst hv;exact wn (⟨(Value.slice ad205 rn51 cap206),M212,hMM,hs.q,hS⟩)
        ·exact qk (⟨(Value.slice ad205 rn51 cap206),M211,hMM,hs.q,hS⟩)
       ·intro a w hJ;obtain⟨rv213,M214,hMM,hs,hS⟩:=hJ;unfold S_jobs_Run_J2 at hS;refine qg ?_;obtain⟨hI,hS⟩:=hS;refine sY (iv (x197+1)) hs (Yl.wr hI) λ_ hs=>?_;refine sP (iv (x197+1)) hs λ_ hs=>?_;refine wn ?_;obtain⟨gh,hI1,hI2⟩:=hS;exact⟨(gh,x197+1,rv213,M214),⟨hMM,hs.q,hI1⟩,hI2⟩
      ·refine qx rfl (qg ?_);obtain⟨hI,hS⟩:=hS;refine sY (iv (x165+1)) hs (Yl.wr hI) λ_ hs=>?_;refine sP (iv (x165+1)) hs λ_ hs=>?_;refine wn ?_;obtain⟨gh,hI1,hI2⟩:=hS;exact⟨(gh,x165+1,rv198,M199),⟨hMM,hs.q,hI1⟩,hI2⟩
     ·refine qx rfl (qr (sP (.slice none 0 0) hs λ_ hs=>?_));have hs:=hs.nilrow 78 4;refine wn (qs (qr (sP rv166 hs λ_ hs=>?_)));refine sY (iv (rn51:Int)) hs (Yl.lenR (e':=137) 1 rfl rfl rfl (by kernel_rfl)) λ_ hs=>?_;refine sP (iv 0) hs λ_ hs=>?_;refine wn (qb ?_);obtain⟨I250,mu251,hI0,hst⟩:=hS;refine Wp.loop (σ:=(Int)×(Nat)×(List Value)×(Value)×(Value)) (λ(x245,rn247,rx248,rv246,rv249) a w=>Sx 105 E (bwW E M L) M167 w a [(16,rv246),(90,rv249),(91,(iv (rn51:Int))),(92,(iv x245))] [] [⟨rv246,78,4,rn247,rx248,true⟩,⟨rv249,137,1,rn51,rx52,true⟩]/\I250 x245 rn247 rx248) (λ(x245,rn247,rx248,rv246,rv249)=>mu251 x245 rn247 rx248) (0,0,[],(.slice none 0 0),rv166) ⟨hs.q,hI0⟩ (λs a w hI=>?_);obtain⟨x245,rn247,rx248,rv246,rv249⟩:=s;obtain⟨hs,hI⟩:=hI;have hS:=hst x245 rn247 rx248 hI;clear hst hI0 hI;refine qr (sP (.bool (decide (x245<(rn51:Int)))) hs λ_ hs=>?_);refine wn (qs (Wp.cS hs decide_eq_true_iff hS (λhS=>?_) (λhS=>?_)))
      ·refine qk (qs (qb (qr ?_)));obtain⟨ad252,cap253,hv,hcp,hxl⟩:=hs.rowform 1 rfl
       dsimp only at hv hcp hxl
       subst hv;obtain⟨h0,hl,hS⟩:=hS
       have hix254:x245.toNat<rn51:=by omega
       obtain⟨g255,hg255⟩:=hs.rowblk 1 rfl (by omega);refine sY (.pointer (some ⟨g255,0+x245.toNat*1,none⟩)) hs (Yl.indexS (e:=137) (sz:=1) rfl rfl rfl rfl (by kernel_rfl) (by kernel_rfl) hg255 h0 hl) λ_ hs=>?_;obtain⟨x256,hcs,hS⟩:=hS;refine sY (.pointer x256) hs (Yl.loadR (vs:=[(.pointer x256)]) 1 false rfl hg255 rfl rfl (by kernel_rfl) hcs) λ_ hs=>?_;refine sP (.pointer x256) hs λ_ hs=>?_;refine wn (qg (sP2 rv246 (.pointer x256) hs λ_ hs=>?_));obtain⟨b257,o258,hp,hS⟩:=hS;refine sY (.pointer (some ⟨b257,o258,none⟩)) hs (Yl.nilck rfl rfl hp) λ_ hs=>?_;refine sP (.pointer (some ⟨b257,o258+4,none⟩)) hs λ_ hs=>?_;obtain⟨x259,hat,hS⟩:=hS;refine sY x259.val hs (Yl.lV x259.cells true hat) λ_ hs=>?_;refine stepMake x259.cells 78 4 1 hs rfl rfl rfl (λ_=>by kernel_rfl) rfl (by unfold maxLen;decide) (by decide) (λ_ _ rv260 hs=>?_);obtain⟨ad261,cap262,hv,hcp,hxl⟩:=hs.rowform 0 rfl
       dsimp only at hv hcp hxl
       subst hv;obtain⟨hB,hS⟩:=hS;refine stepAppend 1 x259.cells hs rfl rfl rfl rfl rfl (by kernel_rfl) (by kernel_rfl) (by decide) (by decide) (hs.srcRow 0 rfl rfl) (lenb hB (by decide)) hB (λ_ _ rv263 hs=>?_);replace hs:=hs.chrs (rs':=[⟨(Value.slice ad261 1 cap262),78,4,1,x259.cells,true⟩,⟨rv263,78,4,(rn247+1),(rx248++x259.cells),true⟩,⟨(Value.slice ad252 rn51 cap253),137,1,rn51,rx52,true⟩]) rfl;refine sP rv263 hs λ_ hs=>?_;refine wn (qg ?_);obtain⟨hI,hS⟩:=hS;refine sY (iv (x245+1)) hs (Yl.wr hI) λ_ hs=>?_;refine sP (iv (x245+1)) hs λ_ hs=>?_;exact wn (⟨(x245+1,(rn247+1),(rx248++x259.cells),rv263,(.slice ad252 rn51 cap253)),⟨(hs.qq (List.Sublist.refl _) (.cons _ (.cons_cons _ (.cons_cons _ List.Sublist.slnil)))),hS.1⟩,hS.2⟩)
      ·refine qx rfl (qr (sP rv246 hs λ_ hs=>?_));refine sP2 rv246 (iv 0) hs λ_ hs=>?_;refine wn (qt ?_);obtain⟨ad264,cap265,hv,hcp,hxl⟩:=hs.rowform 0 rfl
       dsimp only at hv hcp hxl
       subst hv;obtain⟨M266,hnr,hMM,hs⟩:=hs.releaseW hMM 0 rfl [⟨rv249,137,1,rn51,rx52,true⟩] rfl;have hS:=hS M266 ad264 cap265 hnr;exact leaveW (K:=K) hs (resTT hs rfl rfl rfl) hMM hS
theorem e_jobs_Run (la1:Option Addr) (ll2:Nat) (lc3:Nat) (slice4:Int) (rounds5:Int) (M:Mem) (K:Value->Mem->Prop) (hS:S_jobs_Run la1 ll2 lc3 slice4 rounds5 M (λ_=>False) K):CallE Try.prog 34 #[(Value.slice la1 ll2 lc3),(Value.int .i64 slice4),(Value.int .i64 rounds5)] M K:=(s_jobs_Run _ _ _ _ _ _ _ _ hS).toE
end Go.Proofs.Ytmnilbfhfjdelaa.core

namespace Go.Gx
open Go.RowKit
section
variable {P:Program} {ops:Array Oper} {Q:Exit->Act->World->Prop} {n:Nat} {E:World} {bw:List Nat} {M:Mem} {w:World} {a:Act} {env:Env} {bs:List Bx} {rs:List Rw} {rest:List Oper}
theorem zeroCells_repl (z:Array Value) (n:Nat):(Builtin.zeroCells z n).toList=repl n z.toList:=by
 unfold repl
 by_cases hz:z.size=0
 ·have e:z= #[]:=Array.eq_empty_of_size_eq_zero hz
  subst e
  simp[Builtin.zeroCells]
 apply List.ext_getElem
 ·simp[Builtin.zeroCells]
 ·intro i h1 h2
  have hlt:i<n*z.size:=by simpa[Builtin.zeroCells]using h1
  have key:∀(m j:Nat) (h:j<((List.replicate m z.toList).flatten).length),((List.replicate m z.toList).flatten)[j]=z[j % z.size]'(Nat.mod_lt _ (by omega)):=by
   intro m
   induction m with
   |zero=>intro j h;simp at h
   |succ m ih=>
    intro j h
    simp only[List.replicate_succ,List.flatten_cons]
    by_cases hj:j<z.toList.length
    ·rw[List.getElem_append_left hj]
     have:j % z.size=j:=Nat.mod_eq_of_lt (by simpa using hj)
     simp[this]
    ·have hj2:z.toList.length<=j:=Nat.le_of_not_lt hj
     rw[List.getElem_append_right hj2,ih]
     have this:(j-z.size) % z.size=j % z.size:=by
      have hz2:z.toList.length=z.size:=by simp
      rw[hz2]at hj2
      conv=>rhs;rw[show j=(j-z.size)+z.size by omega,Nat.add_mod_right]
     simp only[Array.length_toList,this]
  rw[key]
  have hm:i % z.size<z.size:=Nat.mod_lt _ (by omega)
  simp[Builtin.zeroCells]
  exact getElem!_pos z (i % z.size) hm
theorem stepAppendZ (i:Nat) {d:Nat} {ty:TypeId} {x y:Operand} {t tn e:TypeId} {size bytes:Nat} {pos:String} {af:Array Edge} {ow:Bool} {q kn:IntKind} {z:Int} (zc:List Value)
  (hs:Sx n E bw M w a env bs rs) (hi:rs[i]?=some ⟨.slice none 0 0,e,size,0,[],ow⟩) (hkx:known env x=true) (hky:known env y=true) (hx:evT env x= .slice none 0 0) (hy:evT env y= .int q z)
  (ht:P.underlying t=some (.slice e)) (htn:P.underlying tn=some (.int kn)) (hinf:(P.info? e).map (λi=>(i.size,i.bytes,i.zero.map (·.cells)))=some (size,bytes,some zc.toArray)) (hsz:zc.length=size) (hsz0:0<size) (hdn:d<n)
  (hz0:0<z) (h63:z.toNat<=maxLen) (hbytes:z.toNat*bytes<=140737488355328)
  (h:∀a' w' v',Sx n E bw M w' a' ((d,v')::env) bs (rs.set i ⟨v',e,size,z.toNat,repl z.toNat zc,ow⟩)->wpList P ops Q rest a' w'):
  wpList P ops Q (⟨some d,.call {callee:=.builtin .append,args:= #[x,y],argTypes:= #[t,tn]},ty,pos,af,none⟩::rest) a w:=by
 refine stepK (Z:=λ_ _=>False) (d:=d) hs (λ_ _ h=>h.elim) rfl (by simp[okOp,notSel,Op.operands,Call.operands,hkx,hky]) rfl hdn ?_
 cases hp:P.info? e with
 |none=>simp[hp]at hinf
 |some ti=>
  simp only[hp,Option.map_some,Option.some.injEq,Prod.mk.injEq]at hinf
  obtain⟨e1,e2,e3⟩:=hinf
  cases hzz:ti.zero with
  |none=>simp[hzz]at e3
  |some zv=>
   simp only[hzz,Option.map_some,Option.some.injEq]at e3
   have hzn:((z.toNat:Nat):Int)=z:=by omega
   have h63':((z.toNat:Nat):Int)<=9223372036854775807:=by unfold maxLen at h63;omega
   have hrun:=Lib.run_append_nil_zeros (P:=P) w t tn ty e ti zv q kn ht htn hp hzz z.toNat (by omega) (by omega) h63' (by rw[e2];omega)
   rw[hzn]at hrun
   let ob:Obj:=.cells (Builtin.zeroCells zv.cells z.toNat++Builtin.zeroCells zv.cells (grownCap w z.toNat 0 e-z.toNat)) e
   refine OpW.of_run (w':=w.drew.alloc ob) (v:=.slice (some ⟨w.heap.size,0,none⟩) z.toNat (grownCap w z.toNat 0 e)) (by simp only[execOp,resolve,invoke,builtin,Sem.run_bind,Sem.run_pure,Result.andThen_ok,List.map_toArray,List.map_cons,List.map_nil,hx,hy,hrun];try rfl) ?_
   intro a' hA
   have hge:=grownCap_ge w z.toNat 0 e
   have hcm:=grownCap_le_maxLen w z.toNat 0 e h63
   have hzs:zv.cells.size=size:=by rw[e3];simpa using hsz
   have hzl:zv.cells.toList=zc:=by rw[e3]
   have hgb:w.grownBy (w.drew.alloc ob) (Value.slice none 0 0).ownBlock:=⟨rfl,rfl,rfl,by simp,λk hk _=>heap_alloc_old w.drew _ hk⟩
   have hown:(w.drew.alloc ob).ownsRow 0 e size (.slice (some ⟨w.heap.size,0,none⟩) z.toNat (grownCap w z.toNat 0 e)) z.toNat (repl z.toNat zc):=by
    refine⟨by rw[repl_length,hsz],.inr ⟨w.heap.size,_,_,rfl,Nat.zero_le _,heap_alloc_new w.drew _,hge,hcm,?_,?_⟩⟩
    ·simp only[Array.size_append,size_zeroCells,hzs,<-Nat.add_mul]
     congr 1
     omega
    ·rw[Array.toList_append,zeroCells_repl,hzl]
     have hl:(repl z.toNat zc).length=z.toNat*size:=by rw[repl_length,hsz]
     rw[List.take_append_of_le_length (by omega),List.take_of_length_le (by omega)]
   exact h a' _ _ (hs.rowset (r':=⟨.slice (some ⟨w.heap.size,0,none⟩) z.toNat (grownCap w z.toNat 0 e),e,size,z.toNat,repl z.toNat zc,ow⟩) i hi hgb rfl hown (.inr (.inr rfl)) hA)
end
end Go.Gx

namespace Go.Proofs.Ytmnilbfhfjdelaa.core
open Go.Gx Go.RowKit Go.ChangeShapes Go.WideShapes Go.ChangeAt
set_option linter.unusedVariables false
def C_slices_Grow_string (n1:Int) (M:Mem) (K:Nat->List Value->Prop):Prop:=CallL Try.prog 73 #[(.slice none 0 0),(.int .i64 n1)] M [] [] (λv lb' lr' M'=>∃(rn3:Nat) (rx4:List Value) (rv2:Value),v=rv2/\lb'=[]/\lr'=[⟨rv2,9,1,rn3,rx4,true⟩]/\K rn3 rx4)
def C_slices_Concat_string (slicesa1:Option Addr) (slicesl2:Nat) (slicesc3:Nat) (M:Mem) (K:Nat->List Value->Prop):Prop:=CallL Try.prog 35 #[(.slice slicesa1 slicesl2 slicesc3)] M [] [] (λv lb' lr' M'=>∃(rn5:Nat) (rx6:List Value) (rv4:Value),v=rv4/\lb'=[]/\lr'=[⟨rv4,9,1,rn5,rx6,true⟩]/\K rn5 rx6)
def S_slices_Grow_string (n1:Int) (M:Mem) (K:Nat->List Value->Prop):Prop:=
 ((n1<0->False)/\(¬(n1<0)->(InI (0-((0:Nat):Int))/\(InI (n1-(0-((0:Nat):Int)))/\((n1-(0-((0:Nat):Int))>0->(0<n1-(0-((0:Nat):Int))/\(n1-(0-((0:Nat):Int))).toNat*16<=140737488355328/\((0:Int)<=((0:Nat):Int)/\((0:Nat):Int)<=(((n1-(0-((0:Nat):Int))).toNat:Nat):Int)/\K (((0:Nat):Int).toNat) (List.take (((0:Nat):Int).toNat*1) (repl (n1-(0-((0:Nat):Int))).toNat [(.string (mkS []))])))))/\(¬(n1-(0-((0:Nat):Int))>0)->K 0 []))))))
set_option maxRecDepth 100000 in
theorem s_slices_Grow_string (n1:Int) (M:Mem) (K:Nat->List Value->Prop) (hS:S_slices_Grow_string n1 M K):C_slices_Grow_string n1 M K:=by
 unfold C_slices_Grow_string;refine enterL Try.func73 rfl 27 rfl (Nat.le_of_ble_eq_true rfl) (λE a hs=>?_);unfold S_slices_Grow_string at hS;have hMM:=MX.refl M E;change Sx 27 E (blk [] []) M E a [(0,(.slice none 0 0)),(1,(iv n1))] [] []at hs;refine qr (sP (.slice none 0 0) hs λ_ hs=>?_);refine wn (qs (qr (sP2 (iv n1) (.bool (decide (n1<0))) hs λ_ hs=>?_)));refine wn (Wp.cS hs decide_eq_true_iff hS (λhS=>?_) (λhS=>?_))
 ·refine qg (sP (Value.iface 9 (Value.string (mkS ([99,97,110,110,111,116,32,98,101,32,110,101,103,97,116,105,118,101]:List UInt8)))) hs λ_ hs=>?_);exact hS.elim
 ·refine qk (qs (qr (sP4 (iv n1) (.slice none 0 0) (iv 0) (.slice none 0 0) hs λ_ hs=>?_)));refine sP (iv (0:Int)) hs λ_ hs=>?_;obtain⟨hI,hS⟩:=hS;refine sY (iv (0-(0:Int))) hs (Yl.wr hI) λ_ hs=>?_;obtain⟨hI,hS⟩:=hS;refine sY (iv (n1-(0-(0:Int)))) hs (Yl.wr hI) λ_ hs=>?_;refine sP (iv (n1-(0-(0:Int)))) hs λ_ hs=>?_;refine wn (qr (sP2 (iv (n1-(0-(0:Int)))) (.bool (decide (n1-(0-(0:Int))>0))) hs λ_ hs=>?_));refine wn (Wp.cS hs decide_eq_true_iff hS (λhS=>?_) (λhS=>?_))
  ·refine qg (sP4 (.slice none 0 0) (.slice none 0 0) (iv 0) (.slice none 0 0) hs λ_ hs=>?_);refine sP (iv (n1-(0-(0:Int)))) hs λ_ hs=>?_;have hs:=hs.nilrow 9 1;obtain⟨h0,hB,hS⟩:=hS;refine stepAppendZ (kn:=.i64) 0 [(.string (mkS []))] hs rfl rfl rfl rfl rfl (by kernel_rfl) (by kernel_rfl) (by kernel_rfl) rfl (by decide) (by decide) h0 (lenb hB (by decide)) hB (λ_ _ rv5 hs=>?_);replace hs:=hs.chrs (rs':=[⟨rv5,9,1,((n1-(0-(0:Int))).toNat),(repl (n1-(0-(0:Int))).toNat [(.string (mkS []))]),true⟩]) rfl;refine sP2 (.slice none 0 0) (iv (0:Int)) hs λ_ hs=>?_;obtain⟨ad6,cap7,hv,hcp,hxl⟩:=hs.rowform 0 rfl
   dsimp only at hv hcp hxl
   subst hv;obtain⟨h0,h1,hS⟩:=hS;refine stepCut 0 hs rfl rfl rfl rfl rfl (by kernel_rfl) (by kernel_rfl) (by decide) h0 h1 (λ_ _ rv8 hs=>?_);replace hs:=hs.chrs (rs':=[⟨rv8,9,1,((0:Int).toNat),(List.take ((0:Int).toNat*1) (repl (n1-(0-(0:Int))).toNat [(.string (mkS []))])),true⟩]) rfl;refine sP rv8 hs λ_ hs=>?_;refine wn (qr (sP2 rv8 rv8 hs λ_ hs=>?_));exact wn (qt (leaveL hs (resT hs rfl rfl) hMM.1 hMM.2 [] [⟨rv8,9,1,((0:Int).toNat),(List.take ((0:Int).toNat*1) (repl (n1-(0-(0:Int))).toNat [(.string (mkS []))])),true⟩] (List.Sublist.refl _) (List.Sublist.refl _) rfl ⟨(0:Int).toNat,(List.take ((0:Int).toNat*1) (repl (n1-(0-(0:Int))).toNat [(.string (mkS []))])),rv8,rfl,rfl,rfl,hS⟩))
  ·refine qk (qr (sP2 (.slice none 0 0) (.slice none 0 0) hs λ_ hs=>?_));refine wn (qt ?_);have hs:=hs.nilrow 9 1;exact leaveL hs (resT hs rfl rfl) hMM.1 hMM.2 [] [⟨(Value.slice none 0 0),9,1,0,[],true⟩] (List.Sublist.refl _) (List.Sublist.refl _) rfl ⟨0,[],(.slice none 0 0),rfl,rfl,rfl,hS⟩
def S_slices_Concat_string (slicesa1:Option Addr) (slicesl2:Nat) (slicesc3:Nat) (M:Mem) (K:Nat->List Value->Prop):Prop:=
 (∃(I16:Int->Int->Prop) (mu17:Int->Int->Nat),I16 0 0/\∀(size14:Int) (x15:Int),(I16 size14 x15->((x15<((slicesl2:Nat):Int)->(∃(b18 o19:Nat),slicesa1=some ⟨b18,o19,none⟩/\(0:Int)<=x15/\x15<((slicesl2:Nat):Int)/\(∃(xa20:Option Addr) (xl21:Nat) (xc22:Nat),At M b18 (o19+x15.toNat*1) [(.slice xa20 xl21 xc22)]/\(InI (size14+((xl21:Nat):Int))/\((size14+((xl21:Nat):Int)<0->False)/\(¬(size14+((xl21:Nat):Int)<0)->(InI (x15+1)/\I16 (size14+((xl21:Nat):Int)) (x15+1)/\mu17 (size14+((xl21:Nat):Int)) (x15+1)<mu17 size14 x15)))))))/\(¬(x15<((slicesl2:Nat):Int))->(C_slices_Grow_string size14 M (λrn25 rx26=>(∃(I50:Int->Nat->List Value->Prop) (mu51:Int->Nat->List Value->Nat),I50 0 rn25 rx26/\∀(x46:Int) (rn48:Nat) (rx49:List Value),(I50 x46 rn48 rx49->((x46<((slicesl2:Nat):Int)->(∃(b52 o53:Nat),slicesa1=some ⟨b52,o53,none⟩/\(0:Int)<=x46/\x46<((slicesl2:Nat):Int)/\(∃(xa54:Option Addr) (xl55:Nat) (xc56:Nat),At M b52 (o53+x46.toNat*1) [(.slice xa54 xl55 xc56)]/\(∃(news57:List Value),SlV M xa54 xl55 xc56 1 news57/\(∀u∈news57,u.oneCell'=true)/\(rn48+xl55)*16<=140737488355328/\(InI (x46+1)/\I50 (x46+1) (rn48+xl55) (rx49++news57)/\mu51 (x46+1) (rn48+xl55) (rx49++news57)<mu51 x46 rn48 rx49)))))/\(¬(x46<((slicesl2:Nat):Int))->K rn48 rx49))))))))))
set_option maxRecDepth 100000 in
theorem s_slices_Concat_string (slicesa1:Option Addr) (slicesl2:Nat) (slicesc3:Nat) (M:Mem) (K:Nat->List Value->Prop) (hS:S_slices_Concat_string slicesa1 slicesl2 slicesc3 M K):C_slices_Concat_string slicesa1 slicesl2 slicesc3 M K:=by
 unfold C_slices_Concat_string;refine enterL Try.func35 rfl 36 rfl (Nat.le_of_ble_eq_true rfl) (λE a hs=>?_);unfold S_slices_Concat_string at hS;have hMM:=MX.refl M E;change Sx 36 E (blk [] []) M E a [(0,(.slice slicesa1 slicesl2 slicesc3))] [] []at hs;refine qr (sP (.slice none 0 0) hs λ_ hs=>?_);refine wn (qr (sP (iv 0) hs λ_ hs=>?_));refine wn (qs (qr (sP3 (.slice slicesa1 slicesl2 slicesc3) (iv (slicesl2:Int)) (iv 0) hs λ_ hs=>?_)));refine wn (qb ?_);obtain⟨I16,mu17,hI0,hst⟩:=hS;refine Wp.loop (σ:=(Int)×(Int)) (λ(size14,x15) a w=>Sx 36 E (blk [] []) M w a [(0,(.slice slicesa1 slicesl2 slicesc3)),(3,(iv size14)),(9,(.slice slicesa1 slicesl2 slicesc3)),(10,(iv (slicesl2:Int))),(11,(iv x15))] [] []/\I16 size14 x15) (λ(size14,x15)=>mu17 size14 x15) (0,0) ⟨hs.q,hI0⟩ (λs a w hI=>?_);obtain⟨size14,x15⟩:=s;obtain⟨hs,hI⟩:=hI;have hS:=hst size14 x15 hI;clear hst hI0 hI;refine qr (sP (.bool (decide (x15<(slicesl2:Int)))) hs λ_ hs=>?_);refine wn (qs (Wp.cS hs decide_eq_true_iff hS (λhS=>?_) (λhS=>?_)))
 ·refine qk (qs (qb (qr ?_)));obtain⟨b18,o19,ha,h0,hl,hS⟩:=hS;refine sI 45 1 ha h0 hl hs λ_ hs=>?_;obtain⟨xa20,xl21,xc22,hat,hS⟩:=hS;refine sV1 (.slice xa20 xl21 xc22) hat hs λ_ hs=>?_;refine sP (.slice xa20 xl21 xc22) hs λ_ hs=>?_;refine wn (qr (sP3 (iv size14) (.slice xa20 xl21 xc22) (iv (xl21:Int)) hs λ_ hs=>?_));obtain⟨hI,hS⟩:=hS;refine sY (iv (size14+(xl21:Int))) hs (Yl.wr hI) λ_ hs=>?_;refine sP (iv (size14+(xl21:Int))) hs λ_ hs=>?_;refine wn (qr (sP2 (iv (size14+(xl21:Int))) (.bool (decide (size14+(xl21:Int)<0))) hs λ_ hs=>?_));refine wn (Wp.cS hs decide_eq_true_iff hS (λhS=>?_) (λhS=>?_))
  ·refine qg (sP (Value.iface 9 (Value.string (mkS ([108,101,110,32,111,117,116,32,111,102,32,114,97,110,103,101]:List UInt8)))) hs λ_ hs=>?_);exact hS.elim
  ·refine qk (qg ?_);obtain⟨hI,hS⟩:=hS;refine sY (iv (x15+1)) hs (Yl.wr hI) λ_ hs=>?_;refine sP (iv (x15+1)) hs λ_ hs=>?_;exact wn (⟨(size14+(xl21:Int),x15+1),⟨hs.q,hS.1⟩,hS.2⟩)
 ·refine qx rfl (qr (sP (iv size14) hs λ_ hs=>?_));refine stepCallO [(.slice none 0 0),(iv size14)] [] [] [] [] true hs rfl rfl rfl rfl ⟨_,rfl,rfl⟩ rfl Try.func73 rfl (by kernel_rfl) (by decide) (hS) (λ_ _ _ v lb lr hS hs=>?_);obtain⟨rn25,rx26,rv24,hv,hlb,hlr,hS⟩:=hS;replace hv:=hv.symm;subst hv hlb hlr;replace hs:=hs.chbx (bs':=[]) rfl;replace hs:=hs.chrs (rs':=[⟨rv24,9,1,rn25,rx26,true⟩]) rfl;refine sP rv24 hs λ_ hs=>?_;refine wn (qs (qr (sP3 (.slice slicesa1 slicesl2 slicesc3) (iv (slicesl2:Int)) (iv 0) hs λ_ hs=>?_)));refine wn (qb ?_);obtain⟨I50,mu51,hI0,hst⟩:=hS;refine Wp.loop (σ:=(Int)×(Nat)×(List Value)×(Value)) (λ(x46,rn48,rx49,rv47) a w=>Sx 36 E (blk [] []) M w a [(6,rv47),(25,(.slice slicesa1 slicesl2 slicesc3)),(26,(iv (slicesl2:Int))),(27,(iv x46))] [] [⟨rv47,9,1,rn48,rx49,true⟩]/\I50 x46 rn48 rx49) (λ(x46,rn48,rx49,rv47)=>mu51 x46 rn48 rx49) (0,rn25,rx26,rv24) ⟨hs.q,hI0⟩ (λs a w hI=>?_);obtain⟨x46,rn48,rx49,rv47⟩:=s;obtain⟨hs,hI⟩:=hI;have hS:=hst x46 rn48 rx49 hI;clear hst hI0 hI;refine qr (sP (.bool (decide (x46<(slicesl2:Int)))) hs λ_ hs=>?_)
  refine wn (qs (Wp.cS hs decide_eq_true_iff hS (λhS=>?_) (λhS=>?_)))
  ·refine qk (qs (qb (qr ?_)));obtain⟨b52,o53,ha,h0,hl,hS⟩:=hS;refine sI 45 1 ha h0 hl hs λ_ hs=>?_;obtain⟨xa54,xl55,xc56,hat,hS⟩:=hS;refine sV1 (.slice xa54 xl55 xc56) hat hs λ_ hs=>?_;refine sP (.slice xa54 xl55 xc56) hs λ_ hs=>?_;refine wn (qg (sP2 rv47 (.slice xa54 xl55 xc56) hs λ_ hs=>?_));obtain⟨news57,hsl,ho,hS⟩:=hS;obtain⟨hB,hS⟩:=hS;refine stepAppend 0 news57 hs rfl rfl rfl rfl rfl (by kernel_rfl) (by kernel_rfl) (by decide) (by decide) (hs.srcV hsl ho) (lenb hB (by decide)) hB (λ_ _ rv58 hs=>?_);replace hs:=hs.chrs (rs':=[⟨rv58,9,1,(rn48+xl55),(rx49++news57),true⟩]) rfl;refine sP rv58 hs λ_ hs=>?_;refine wn (qg ?_);obtain⟨hI,hS⟩:=hS;refine sY (iv (x46+1)) hs (Yl.wr hI) λ_ hs=>?_;refine sP (iv (x46+1)) hs λ_ hs=>?_;exact wn (⟨(x46+1,(rn48+xl55),(rx49++news57),rv58),⟨hs.q,hS.1⟩,hS.2⟩)
  ·refine qx rfl (qr (sP rv47 hs λ_ hs=>?_));refine sP rv47 hs λ_ hs=>?_;exact wn (qt (leaveL hs (resT hs rfl rfl) hMM.1 hMM.2 [] [⟨rv47,9,1,rn48,rx49,true⟩] (List.Sublist.refl _) (List.Sublist.refl _) rfl ⟨rn48,rx49,rv47,rfl,rfl,rfl,hS⟩))
def S_chafftop_TopJobs_J5 (x165:Int) (I167:Int->Mem->Prop) (mu168:Int->Nat) (M224:Mem) (x242:Bool) (K:Value->Prop):Prop:=
 ((x242=true->K (Value.bool false))/\(¬(x242=true)->(InI (x165+1)/\I167 (x165+1) M224/\mu168 (x165+1)<mu168 x165)))
def S_chafftop_TopJobs_J4 (xa6:Option Addr) (xl7:Nat) (x165:Int) (I167:Int->Mem->Prop) (mu168:Int->Nat) (xa173:Option Addr) (xl174:Nat) (xc175:Nat) (e218:Int) (resta219:Option Addr) (restl220:Nat) (restc221:Nat) (c223:Bool) (M224:Mem) (K:Value->Prop):Prop:=
 (((e218:Int)≠0->(S_chafftop_TopJobs_J5 x165 I167 mu168 M224 true K))/\(¬((e218:Int)≠0)->((¬(c223=true)->(S_chafftop_TopJobs_J5 x165 I167 mu168 M224 true K))/\(¬(¬(c223=true))->(∃(b225 o226:Nat),xa6=some ⟨b225,o226,none⟩/\(0:Int)<=x165/\x165<((xl7:Nat):Int)/\(∃(xa227:Option Addr) (xl228:Nat) (xc229:Nat),At M224 b225 (o226+x165.toNat*4) [(.slice xa227 xl228 xc229)]/\(∀(M233:Mem) (ad231:Option Addr) (cap232:Nat),M224.le M233->SlV M233 ad231 2 cap232 1 [(.slice xa227 xl228 xc229),(.slice resta219 restl220 restc221)]->(C_slices_Concat_string ad231 2 cap232 M233 (λrn236 rx237=>(∀(M241:Mem) (ad239:Option Addr) (cap240:Nat),M224.le M241->SlV M241 ad239 rn236 cap240 1 rx237->(CallE Try.prog 26 #[(.slice ad239 rn236 cap240),(.slice xa173 xl174 xc175)] M241 (λv _=>∃(x238:Bool),v=(Value.bool x238)/\(S_chafftop_TopJobs_J5 x165 I167 mu168 M224 (!x238) K)))))))))))))
def S_chafftop_TopJobs_J3 (xa6:Option Addr) (xl7:Nat) (x165:Int) (I167:Int->Mem->Prop) (mu168:Int->Nat) (x171:X_api_Job) (xa173:Option Addr) (xl174:Nat) (xc175:Nat) (M178:Mem) (x206:Bool) (K:Value->Prop):Prop:=
 ((x206=true->K (Value.bool false))/\(¬(x206=true)->(∃(b207 o208:Nat),xa6=some ⟨b207,o208,none⟩/\(0:Int)<=x165/\x165<((xl7:Nat):Int)/\(∃(x209:X_api_Cursor),At M178 b207 (o208+x165.toNat*4+1) x209.cells/\(CallE Try.prog 21 #[(.agg #[(.slice x171.Grammar_Rules_a x171.Grammar_Rules_l x171.Grammar_Rules_c)]),(.string (mkS x171.Alpha)),(.int .i64 x171.N),x209.val,(.int .i64 1048576)] M178 (λv M215=>∃(xa210:Option Addr) (xl211:Nat) (xc212:Nat) (x213:X_api_Cursor) (x214:Int),v=(Value.tuple #[(.slice xa210 xl211 xc212),x213.val,(.int .i64 x214)])/\(S_chafftop_TopJobs_J4 xa6 xl7 x165 I167 mu168 xa173 xl174 xc175 x214 xa210 xl211 xc212 x213.Over M215 K)))))))
def S_chafftop_TopJobs_J2 (xa6:Option Addr) (xl7:Nat) (x165:Int) (I167:Int->Mem->Prop) (mu168:Int->Nat) (x171:X_api_Job) (xa173:Option Addr) (xl174:Nat) (xc175:Nat) (M178:Mem) (x196:Bool) (K:Value->Prop):Prop:=
 ((x196=true->K (Value.bool false))/\(¬(x196=true)->(∃(b197 o198:Nat),xa6=some ⟨b197,o198,none⟩/\(0:Int)<=x165/\x165<((xl7:Nat):Int)/\(∃(x199:Bool),At M178 b197 (o198+x165.toNat*4+1+1) [(.bool x199)]/\((x199=true->(∃(b200 o201:Nat),xa6=some ⟨b200,o201,none⟩/\(0:Int)<=x165/\x165<((xl7:Nat):Int)/\(∃(xa202:Option Addr) (xl203:Nat) (xc204:Nat),At M178 b200 (o201+x165.toNat*4) [(.slice xa202 xl203 xc204)]/\(CallE Try.prog 26 #[(.slice xa202 xl203 xc204),(.slice xa173 xl174 xc175)] M178 (λv _=>∃(x205:Bool),v=(Value.bool x205)/\(S_chafftop_TopJobs_J3 xa6 xl7 x165 I167 mu168 x171 xa173 xl174 xc175 M178 (!x205) K))))))/\(¬(x199=true)->(S_chafftop_TopJobs_J3 xa6 xl7 x165 I167 mu168 x171 xa173 xl174 xc175 M178 false K)))))))
def S_chafftop_TopJobs_J1 (la1:Option Addr) (ll2:Nat) (xa6:Option Addr) (xl7:Nat) (M10:Mem) (x12:Bool) (K:Value->Prop):Prop:=
 ((x12=true->(CallE Try.prog 18 #[] M10 (λv _=>∃(x13:Bool),v=(Value.bool x13)/\((x13=true->K (Value.bool (((xl7:Nat):Int)==(0:Int))))/\(¬(x13=true)->K (Value.bool false))))))/\(¬(x12=true)->((((xl7:Nat):Int)≠((ll2:Nat):Int)->K (Value.bool false))/\(¬(((xl7:Nat):Int)≠((ll2:Nat):Int))->(∃(I167:Int->Mem->Prop) (mu168:Int->Nat),I167 0 M10/\∀(x165:Int) (M166:Mem),(I167 x165 M166->((x165<((ll2:Nat):Int)->(∃(b169 o170:Nat),la1=some ⟨b169,o170,none⟩/\(0:Int)<=x165/\x165<((ll2:Nat):Int)/\(∃(x171:X_api_Job),At M166 b169 (o170+x165.toNat*4) x171.cells/\(CallE Try.prog 21 #[(.agg #[(.slice x171.Grammar_Rules_a x171.Grammar_Rules_l x171.Grammar_Rules_c)]),(.string (mkS x171.Alpha)),(.int .i64 x171.N),(X_api_Cursor.mk [] false).val,(.int .i64 1048576)] M166 (λv M178=>∃(xa173:Option Addr) (xl174:Nat) (xc175:Nat) (x176:X_api_Cursor) (x177:Int),v=(Value.tuple #[(.slice xa173 xl174 xc175),x176.val,(.int .i64 x177)])/\(((x177:Int)≠0->(S_chafftop_TopJobs_J2 xa6 xl7 x165 I167 mu168 x171 xa173 xl174 xc175 M178 true K))/\(¬((x177:Int)≠0)->(∃(b180 o181:Nat),xa6=some ⟨b180,o181,none⟩/\(0:Int)<=x165/\x165<((xl7:Nat):Int)/\(∃(xa182:Option Addr) (xl183:Nat) (xc184:Nat),At M178 b180 (o181+x165.toNat*4) [(.slice xa182 xl183 xc184)]/\((((xl183:Nat):Int)>((xl174:Nat):Int)->(S_chafftop_TopJobs_J2 xa6 xl7 x165 I167 mu168 x171 xa173 xl174 xc175 M178 true K))/\(¬(((xl183:Nat):Int)>((xl174:Nat):Int))->(∃(b185 o186:Nat),xa6=some ⟨b185,o186,none⟩/\(0:Int)<=x165/\x165<((xl7:Nat):Int)/\(∃(xa187:Option Addr) (xl188:Nat) (xc189:Nat),At M178 b185 (o186+x165.toNat*4) [(.slice xa187 xl188 xc189)]/\(∃(b190 o191:Nat),xa6=some ⟨b190,o191,none⟩/\(0:Int)<=x165/\x165<((xl7:Nat):Int)/\(∃(xa192:Option Addr) (xl193:Nat) (xc194:Nat),At M178 b190 (o191+x165.toNat*4) [(.slice xa192 xl193 xc194)]/\((0:Int)<=((xl193:Nat):Int)/\((xl193:Nat):Int)<=((xc175:Nat):Int)/\(CallE Try.prog 26 #[(.slice xa187 xl188 xc189),(.slice xa173 (((xl193:Nat):Int).toNat) xc175)] M178 (λv _=>∃(x195:Bool),v=(Value.bool x195)/\(S_chafftop_TopJobs_J2 xa6 xl7 x165 I167 mu168 x171 xa173 xl174 xc175 M178 (!x195) K)))))))))))))))))))/\(¬(x165<((ll2:Nat):Int))->K (Value.bool true)))))))))
def S_chafftop_TopJobs (la1:Option Addr) (ll2:Nat) (lc3:Nat) (slice4:Int) (rounds5:Int) (M:Mem) (K:Value->Prop):Prop:=
 (CallE Try.prog 34 #[(.slice la1 ll2 lc3),(.int .i64 slice4),(.int .i64 rounds5)] M (λv M10=>∃(xa6:Option Addr) (xl7:Nat) (xc8:Nat) (x9:Int),v=(Value.tuple #[(.slice xa6 xl7 xc8),(.int .i64 x9)])/\(CallE Try.prog 18 #[] M10 (λv _=>∃(x11:Bool),v=(Value.bool x11)/\((¬(x11=true)->(S_chafftop_TopJobs_J1 la1 ll2 xa6 xl7 M10 true K))/\(¬(¬(x11=true))->(S_chafftop_TopJobs_J1 la1 ll2 xa6 xl7 M10 ((x9:Int) != (0:Int)) K)))))))
set_option maxRecDepth 100000 in
theorem s_chafftop_TopJobs (la1:Option Addr) (ll2:Nat) (lc3:Nat) (slice4:Int) (rounds5:Int) (M:Mem) (K:Value->Prop) (hS:S_chafftop_TopJobs la1 ll2 lc3 slice4 rounds5 M K):CallE Try.prog 9 #[(Value.slice la1 ll2 lc3),(Value.int .i64 slice4),(Value.int .i64 rounds5)] M (λv _=>K v):=by
 refine eE3 Try.func9 142 λE a hMM hs=>?_;unfold S_chafftop_TopJobs at hS;refine qr (sP (.bool false) hs λ_ hs=>?_);refine wn (qr (sP3 (.slice la1 ll2 lc3) (iv slice4) (iv rounds5) hs λ_ hs=>?_));refine cM [(.slice la1 ll2 lc3),(iv slice4),(iv rounds5)] hs hMM Try.func34 hS λ_ _ M10 v hMM hle hS hs=>?_;obtain⟨xa6,xl7,xc8,x9,rfl,hS⟩:=hS;refine sP4 (Value.tuple #[(.slice xa6 xl7 xc8),(iv x9)]) (.slice xa6 xl7 xc8) (iv x9) (.slice xa6 xl7 xc8) hs λ_ hs=>?_;refine sP (iv x9) hs λ_ hs=>?_;refine wn (qs (Wp.join (λa w=>∃(x12:Bool),Sx 142 E [] M10 w a [(0,(.slice la1 ll2 lc3)),(7,(.slice xa6 xl7 xc8)),(28,(.bool x12))] [] []/\(S_chafftop_TopJobs_J1 la1 ll2 xa6 xl7 M10 x12 K)) ?_ ?_))
 ·refine qg (stepCallP [] hs rfl ⟨_,rfl,rfl⟩ rfl Try.func18 rfl (by kernel_rfl) (by decide) hS (λ_ _ v hS hs=>?_));obtain⟨x11,rfl,hS⟩:=hS;refine sP2 (.bool (!x11)) (.bool (!x11)) hs λ_ hs=>?_;refine bsS (bnot_iff Iff.rfl) hs hS (λhs hS=>?_) (λhs hS=>?_)
  ·refine sNo hs λ_ hs=>?_;refine sNo hs λ_ hs=>?_;refine sP (.bool true) hs λ_ hs=>?_;exact wn (⟨true,hs.q,hS⟩)
  ·refine ye (iv x9) hs λ_ hs=>?_;refine ye (.bool ((x9:Int) != (0:Int))) hs λ_ hs=>?_;refine sP (.bool ((x9:Int) != (0:Int))) hs λ_ hs=>?_;exact wn (⟨((x9:Int) != (0:Int)),hs.q,hS⟩)
 ·intro a w hJ;obtain⟨x12,hs,hS⟩:=hJ;unfold S_chafftop_TopJobs_J1 at hS;refine Wp.cS hs Iff.rfl hS (λhS=>?_) (λhS=>?_)
  ·refine qr (stepCallP [] hs rfl ⟨_,rfl,rfl⟩ rfl Try.func18 rfl (by kernel_rfl) (by decide) hS (λ_ _ v hS hs=>?_));obtain⟨x13,rfl,hS⟩:=hS;refine sP (.bool x13) hs λ_ hs=>?_;refine bsS Iff.rfl hs hS (λhs hS=>?_) (λhs hS=>?_)
   ·refine ye (.slice xa6 xl7 xc8) hs λ_ hs=>?_;refine ye (iv (xl7:Int)) hs λ_ hs=>?_;refine ye (.bool ((xl7:Int)==(0:Int))) hs λ_ hs=>?_;refine sP2 (.bool ((xl7:Int)==(0:Int))) (.bool ((xl7:Int)==(0:Int))) hs λ_ hs=>?_;exact wn (qt (rT hs hMM hS))
   ·repeat (first|refine sNo hs λ_ hs=>?_|refine sNu hs λ_ hs=>?_)
    refine sP2 (.bool false) (.bool false) hs λ_ hs=>?_;exact wn (qt (rT hs hMM hS))
  ·refine qk (qs (qr (sP4 (.slice xa6 xl7 xc8) (iv (xl7:Int)) (.slice la1 ll2 lc3) (iv (ll2:Int)) hs λ_ hs=>?_)));refine sP (.bool ((xl7:Int) != (ll2:Int))) hs λ_ hs=>?_;refine wn (Wp.cS hs bne_iff_ne hS (λhS=>?_) (λhS=>?_))
   ·refine qr (sP (.bool false) hs λ_ hs=>?_);exact wn (qt (rT hs hMM hS))
   ·refine qk (qs (qr (sP3 (.slice la1 ll2 lc3) (iv (ll2:Int)) (iv 0) hs λ_ hs=>?_)));refine wn (qb ?_);obtain⟨I167,mu168,hI0,hst⟩:=hS;refine Wp.loop (σ:=(Int)×(Mem)) (λ(x165,M166) a w=>MX M166 M E/\Sx 142 E [] M166 w a [(7,(.slice xa6 xl7 xc8)),(40,(.slice la1 ll2 lc3)),(41,(iv (ll2:Int))),(42,(iv x165))] [] []/\I167 x165 M166) (λ(x165,M166)=>mu168 x165) (0,M10) ⟨hMM,hs.q,hI0⟩ (λs a w hI=>?_);obtain⟨x165,M166⟩:=s;obtain⟨hMM,hs,hI⟩:=hI;have hS:=hst x165 M166 hI;clear hst hI0 hI;refine qr (sP (.bool (decide (x165<(ll2:Int)))) hs λ_ hs=>?_);refine wn (qs (Wp.cS hs decide_eq_true_iff hS (λhS=>?_) (λhS=>?_)))
    ·refine qk (qs (qb (qr (sP (iv x165) hs λ_ hs=>?_))));obtain⟨b169,o170,ha,h0,hl,hS⟩:=hS;refine sI 76 4 ha h0 hl hs λ_ hs=>?_;obtain⟨x171,hat,hS⟩:=hS;refine sY x171.val hs (Yl.lV x171.cells true hat) λ_ hs=>?_;refine stepAlloc [(.slice none 0 0),(.string (mkS [])),(iv 0),(iv 0)] hs (by kernel_rfl) (by decide) (λ_ _ b172 hEb172 hs=>?_);refine sP (iv x165) hs λ_ hs=>?_;refine stB 0 x171.cells [⟨b172,76,x171.cells⟩] hs λ_ _ hs=>?_;refine wn (qr (sP (pt b172 0) hs λ_ hs=>?_));refine sB [(.slice x171.Grammar_Rules_a x171.Grammar_Rules_l x171.Grammar_Rules_c)] true 0 hs λ_ hs=>?_;refine sP (pt b172 1) hs λ_ hs=>?_;refine sB1 (.string (mkS x171.Alpha)) 0 hs λ_ hs=>?_;refine sP (pt b172 2) hs λ_ hs=>?_;refine sB1 (iv x171.N) 0 hs λ_ hs=>?_;refine sP (X_api_Cursor.mk [] false).val hs λ_ hs=>?_;refine cM [(.agg #[(.slice x171.Grammar_Rules_a x171.Grammar_Rules_l x171.Grammar_Rules_c)]),(.string (mkS x171.Alpha)),(iv x171.N),(X_api_Cursor.mk [] false).val,(iv 1048576)] hs hMM Try.func21 hS λ_ _ M178 v hMM hle hS hs=>?_;obtain⟨xa173,xl174,xc175,x176,x177,hv,hS⟩:=hS
     subst hv;refine sP4 (Value.tuple #[(.slice xa173 xl174 xc175),x176.val,(iv x177)]) (.slice xa173 xl174 xc175) x176.val (iv x177) hs λ_ hs=>?_;refine stepAlloc [(.string (mkS [])),(.bool false)] hs (by kernel_rfl) (by decide) (λ_ _ b179 hEb179 hs=>?_);refine sP (.slice xa173 xl174 xc175) hs λ_ hs=>?_;refine stB 0 [(.string (mkS x176.Text)),(.bool x176.Over)] [⟨b179,47,[(.string (mkS x176.Text)),(.bool x176.Over)]⟩,⟨b172,76,x171.cells⟩] hs λ_ _ hs=>?_;refine sP (iv x177) hs λ_ hs=>?_;refine wn (qs (Wp.join (λa w=>∃(x196:Bool),Sx 142 E [] M178 w a [(7,(.slice xa6 xl7 xc8)),(9,(iv x165)),(10,(pt b172 0)),(11,(.slice xa173 xl174 xc175)),(40,(.slice la1 ll2 lc3)),(41,(iv (ll2:Int))),(42,(iv x165)),(88,(.bool x196))] [⟨b179,47,[(.string (mkS x176.Text)),(.bool x176.Over)]⟩,⟨b172,76,x171.cells⟩] []/\(S_chafftop_TopJobs_J2 xa6 xl7 x165 I167 mu168 x171 xa173 xl174 xc175 M178 x196 K)) ?_ ?_))
     ·refine Wp.regionD [true,true,true,true,true,true,true,true,true,true,true,true,true,true,true,true,true,true,true,true,true,true,true,true,true,true,true,true,true,true] hs (by kernel_rfl) rfl [⟨b179,47,[(.string (mkS x176.Text)),(.bool x176.Over)]⟩,⟨b172,76,x171.cells⟩] (λ_ h=>h) [] (λ_ h=>h) (λ_ hs hC=>?_);have hL:=Mem.le.refl M178;refine sE 0 ?_;refine sP (iv x177) hs λ_ hs=>?_;refine nE 1 ?_;refine sP (.bool ((x177:Int) != (0:Int))) hs λ_ hs=>?_;refine nE 2 ?_;refine sP (.bool ((x177:Int) != (0:Int))) hs λ_ hs=>?_;refine wN ?_;refine bsS bne_iff_ne hs hS (λhs hS=>?_) (λhs hS=>?_)
      ·refine dNo 3 [5,6,7,8,11,12,13,14,15,16,17,18,19,20,21,22,23,24,25,26,27,28,29] hs λ_ hs=>?_;refine dNo 4 [5,6,7,8,11,12,13,14,15,16,17,18,19,20,21,22,23,24,25,26,27,28,29] hs λ_ hs=>?_;refine dNo 5 [6,7,8,11,12,13,14,15,16,17,18,19,20,21,22,23,24,25,26,27,28,29] hs λ_ hs=>?_;refine dNo 6 [7,8,11,12,13,14,15,16,17,18,19,20,21,22,23,24,25,26,27,28,29] hs λ_ hs=>?_;refine dNo 7 [8,11,12,13,14,15,16,17,18,19,20,21,22,23,24,25,26,27,28,29] hs λ_ hs=>?_;refine dNo 8 [11,12,13,14,15,16,17,18,19,20,21,22,23,24,25,26,27,28,29] hs λ_ hs=>?_;refine dNo 9 [10,11,12,13,14,15,16,17,18,19,20,21,22,23,24,25,26,27,28,29] hs λ_ hs=>?_;refine dNo 10 [11,12,13,14,15,16,17,18,19,20,21,22,23,24,25,26,27,28,29] hs λ_ hs=>?_;refine dNo 11 [12,13,14,15,16,17,18,19,20,21,22,23,24,25,26,27,28,29] hs λ_ hs=>?_;refine sE 12 ?_;refine sP (.bool true) hs λ_ hs=>?_;refine nE 13 ?_;refine sP (.bool true) hs λ_ hs=>?_;refine wN ?_
       refine dNo 14 [16,17,18,27,28,29] hs λ_ hs=>?_;refine dNo 15 [16,17,18,27,28,29] hs λ_ hs=>?_;refine dNo 16 [17,18,27,28,29] hs λ_ hs=>?_;refine dNo 17 [18,27,28,29] hs λ_ hs=>?_;refine dNo 18 [27,28,29] hs λ_ hs=>?_;refine dNo 19 [26,27,28,29] hs λ_ hs=>?_;refine dNo 20 [22,23,24,25,26,27,28,29] hs λ_ hs=>?_;refine dNo 21 [22,23,24,25,26,27,28,29] hs λ_ hs=>?_;refine dNo 22 [23,24,25,26,27,28,29] hs λ_ hs=>?_;refine dNo 23 [24,25,26,27,28,29] hs λ_ hs=>?_;refine dNo 24 [25,26,27,28,29] hs λ_ hs=>?_;refine dNo 25 [26,27,28,29] hs λ_ hs=>?_;refine dNo 26 [27,28,29] hs λ_ hs=>?_;refine dNo 27 [28,29] hs λ_ hs=>?_;refine dNo 28 [29] hs λ_ hs=>?_;refine sE 29 ?_;refine sP (.bool true) hs λ_ hs=>?_;refine wN ?_;refine dD ?_
       exact⟨true,hs.q,hS⟩
      ·refine dPy (Value.slice xa6 xl7 xc8) 3 [5,6,7,8,11,12,13,14,15,16,17,18,19,20,21,22,23,24,25,26,27,28,29] hs λ_ hs=>?_;refine dPy (iv x165) 4 [5,6,7,8,11,12,13,14,15,16,17,18,19,20,21,22,23,24,25,26,27,28,29] hs λ_ hs=>?_;obtain⟨b180,o181,ha,h0,hl,hS⟩:=hS;refine dFy (.pointer (some ⟨b180,o181+x165.toNat*4,none⟩)) 5 [6,7,8,11,12,13,14,15,16,17,18,19,20,21,22,23,24,25,26,27,28,29] hs rfl (Yl.iS 78 4 ha h0 hl) λ_ hs=>?_;refine dPy (Value.pointer (some ⟨b180,o181+x165.toNat*4,none⟩)) 6 [7,8,11,12,13,14,15,16,17,18,19,20,21,22,23,24,25,26,27,28,29] hs λ_ hs=>?_;obtain⟨xa182,xl183,xc184,hat,hS⟩:=hS;refine dCy (.slice xa182 xl183 xc184) 7 [8,11,12,13,14,15,16,17,18,19,20,21,22,23,24,25,26,27,28,29] hs hC rfl (Yl.lV [(.slice xa182 xl183 xc184)] false hat) λ_ hs=>?_;refine dPy (iv (xl183:Int)) 8 [11,12,13,14,15,16,17,18,19,20,21,22,23,24,25,26,27,28,29] hs λ_ hs=>?_;refine sEy (i:=9) hs ?_;refine sP (.slice xa173 xl174 xc175) hs λ_ hs=>?_;refine wN ?_;refine sEy (i:=10) hs ?_;refine sP (iv (xl174:Int)) hs λ_ hs=>?_;refine wN ?_;refine sEy (i:=11) hs ?_;refine sP (.bool (decide ((xl183:Int)>(xl174:Int)))) hs λ_ hs=>?_
       refine nE 12 ?_;refine sP (.bool (decide ((xl183:Int)>(xl174:Int)))) hs λ_ hs=>?_;refine nE 13 ?_;refine sP (.bool (decide ((xl183:Int)>(xl174:Int)))) hs λ_ hs=>?_;refine wN ?_;refine bsS decide_eq_true_iff hs hS (λhs hS=>?_) (λhs hS=>?_)
       ·refine dNo 14 [16,17,18,27,28,29] hs λ_ hs=>?_;refine dNo 15 [16,17,18,27,28,29] hs λ_ hs=>?_;refine dNo 16 [17,18,27,28,29] hs λ_ hs=>?_;refine dNo 17 [18,27,28,29] hs λ_ hs=>?_;refine dNo 18 [27,28,29] hs λ_ hs=>?_;refine dNo 19 [26,27,28,29] hs λ_ hs=>?_;refine dNo 20 [22,23,24,25,26,27,28,29] hs λ_ hs=>?_;refine dNo 21 [22,23,24,25,26,27,28,29] hs λ_ hs=>?_;refine dNo 22 [23,24,25,26,27,28,29] hs λ_ hs=>?_;refine dNo 23 [24,25,26,27,28,29] hs λ_ hs=>?_;refine dNo 24 [25,26,27,28,29] hs λ_ hs=>?_;refine dNo 25 [26,27,28,29] hs λ_ hs=>?_;refine dNo 26 [27,28,29] hs λ_ hs=>?_;refine dNo 27 [28,29] hs λ_ hs=>?_;refine dNo 28 [29] hs λ_ hs=>?_;refine sE 29 ?_;refine sP (.bool true) hs λ_ hs=>?_;refine wN ?_;refine dD ?_
        exact⟨true,hs.q,hS⟩
       ·refine dPy (Value.slice xa6 xl7 xc8) 14 [16,17,18,27,28,29] hs λ_ hs=>?_;refine dPy (iv x165) 15 [16,17,18,27,28,29] hs λ_ hs=>?_;obtain⟨b185,o186,ha,h0,hl,hS⟩:=hS;refine dFy (.pointer (some ⟨b185,o186+x165.toNat*4,none⟩)) 16 [17,18,27,28,29] hs rfl (Yl.iS 78 4 ha h0 hl) λ_ hs=>?_;refine dPy (Value.pointer (some ⟨b185,o186+x165.toNat*4,none⟩)) 17 [18,27,28,29] hs λ_ hs=>?_;obtain⟨xa187,xl188,xc189,hat,hS⟩:=hS;refine dCy (.slice xa187 xl188 xc189) 18 [27,28,29] hs hC rfl (Yl.lV [(.slice xa187 xl188 xc189)] false hat) λ_ hs=>?_;refine dPy (Value.slice xa173 xl174 xc175) 19 [26,27,28,29] hs λ_ hs=>?_;refine dPy (Value.slice xa6 xl7 xc8) 20 [22,23,24,25,26,27,28,29] hs λ_ hs=>?_;refine sEy (i:=21) hs ?_;refine sP (iv x165) hs λ_ hs=>?_;refine wN ?_;refine sEy (i:=22) hs ?_;obtain⟨b190,o191,ha,h0,hl,hS⟩:=hS;refine sI 78 4 ha h0 hl hs λ_ hs=>?_;refine wN ?_;refine sEy (i:=23) hs ?_;refine sP (.pointer (some ⟨b190,o191+x165.toNat*4,none⟩)) hs λ_ hs=>?_;refine wN ?_;refine sEy (i:=24) hs ?_;obtain⟨xa192,xl193,xc194,hat,hS⟩:=hS
        refine sV1 (.slice xa192 xl193 xc194) hat hs λ_ hs=>?_;refine wN ?_;refine sEy (i:=25) hs ?_;refine sP (iv (xl193:Int)) hs λ_ hs=>?_;refine wN ?_;refine sEy (i:=26) hs ?_;obtain⟨h1,h2,hS⟩:=hS;refine sY (.slice xa173 ((xl193:Int).toNat) xc175) hs (Yl.sliceSH (e:=9) (sz:=1) rfl rfl rfl rfl (by kernel_rfl) (by kernel_rfl) h1 h2) λ_ hs=>?_;refine wN ?_;refine sEy (i:=27) hs ?_;refine cP [(.slice xa187 xl188 xc189),(.slice xa173 ((xl193:Int).toNat) xc175)] hs Try.func26 hS λ_ _ v hS hs=>?_;obtain⟨x195,rfl,hS⟩:=hS;refine wn (⟨λ_ _=>hs.cxle hL (List.Sublist.refl _) (List.Sublist.refl _),?_⟩);have hC:=hs.cxle hL (List.Sublist.refl _) (List.Sublist.refl _);refine sEy (i:=28) hs ?_;refine sP (.bool (!x195)) hs λ_ hs=>?_;refine nE 29 ?_;refine sP (.bool (!x195)) hs λ_ hs=>?_;refine wN ?_;refine dD ?_;exact⟨(!x195),hs.q,hS⟩
     ·intro a w hJ;obtain⟨x196,hs,hS⟩:=hJ;unfold S_chafftop_TopJobs_J2 at hS;refine Wp.cS hs Iff.rfl hS (λhS=>?_) (λhS=>?_)
      ·refine qr (sP (.bool false) hs λ_ hs=>?_);exact wn (qt (rT hs hMM hS))
      ·refine qk (qs (Wp.join (λa w=>∃(x206:Bool),Sx 142 E [] M178 w a [(7,(.slice xa6 xl7 xc8)),(9,(iv x165)),(10,(pt b172 0)),(11,(.slice xa173 xl174 xc175)),(40,(.slice la1 ll2 lc3)),(41,(iv (ll2:Int))),(42,(iv x165)),(104,(.bool x206))] [⟨b179,47,[(.string (mkS x176.Text)),(.bool x176.Over)]⟩,⟨b172,76,x171.cells⟩] []/\(S_chafftop_TopJobs_J3 xa6 xl7 x165 I167 mu168 x171 xa173 xl174 xc175 M178 x206 K)) ?_ ?_))
       ·refine qg (sP2 (.slice xa6 xl7 xc8) (iv x165) hs λ_ hs=>?_);obtain⟨b197,o198,ha,h0,hl,hS⟩:=hS;refine sI 78 4 ha h0 hl hs λ_ hs=>?_;refine sP2 (.pointer (some ⟨b197,o198+x165.toNat*4+1,none⟩)) (.pointer (some ⟨b197,o198+x165.toNat*4+1+1,none⟩)) hs λ_ hs=>?_;obtain⟨x199,hat,hS⟩:=hS;refine sV1 (.bool x199) hat hs λ_ hs=>?_;refine sP (.bool x199) hs λ_ hs=>?_;refine bsS Iff.rfl hs hS (λhs hS=>?_) (λhs hS=>?_)
        ·refine ye (.slice xa6 xl7 xc8) hs λ_ hs=>?_;refine ye (iv x165) hs λ_ hs=>?_;refine sYe hs ?_;obtain⟨b200,o201,ha,h0,hl,hS⟩:=hS;refine sI 78 4 ha h0 hl hs λ_ hs=>?_;refine ye (.pointer (some ⟨b200,o201+x165.toNat*4,none⟩)) hs λ_ hs=>?_;refine sYe hs ?_;obtain⟨xa202,xl203,xc204,hat,hS⟩:=hS;refine sV1 (.slice xa202 xl203 xc204) hat hs λ_ hs=>?_;refine ye (.slice xa173 xl174 xc175) hs λ_ hs=>?_;refine sYe hs (stepCallP [(.slice xa202 xl203 xc204),(.slice xa173 xl174 xc175)] hs rfl ⟨_,rfl,rfl⟩ rfl Try.func26 rfl (by kernel_rfl) (by decide) hS (λ_ _ v hS hs=>?_));obtain⟨x205,rfl,hS⟩:=hS;refine ye (.bool (!x205)) hs λ_ hs=>?_;refine sP (.bool (!x205)) hs λ_ hs=>?_;exact wn (⟨(!x205),hs.q,hS⟩)
        ·repeat (first|refine sNo hs λ_ hs=>?_|refine sNu hs λ_ hs=>?_)
         refine sP (.bool false) hs λ_ hs=>?_;exact wn (⟨false,hs.q,hS⟩)
       ·intro a w hJ;obtain⟨x206,hs,hS⟩:=hJ;unfold S_chafftop_TopJobs_J3 at hS;refine Wp.cS hs Iff.rfl hS (λhS=>?_) (λhS=>?_)
        ·refine qr (sP (.bool false) hs λ_ hs=>?_);exact wn (qt (rT hs hMM hS))
        ·refine qk (Wp.join (λa w=>∃(e218:Int) (resta219:Option Addr) (restl220:Nat) (restc221:Nat) (c222:List UInt8) (c223:Bool) (b217:Nat) (M224:Mem),MX M224 M E/\E.heap.size<=b217/\Sx 142 E [] M224 w a [(7,(.slice xa6 xl7 xc8)),(9,(iv x165)),(11,(.slice xa173 xl174 xc175)),(13,(iv e218)),(14,(.slice resta219 restl220 restc221)),(15,(pt b217 0)),(40,(.slice la1 ll2 lc3)),(41,(iv (ll2:Int))),(42,(iv x165))] [⟨b217,47,[(.string (mkS c222)),(.bool c223)]⟩,⟨b179,47,[(.string (mkS x176.Text)),(.bool x176.Over)]⟩,⟨b172,76,x171.cells⟩] []/\(S_chafftop_TopJobs_J4 xa6 xl7 x165 I167 mu168 xa173 xl174 xc175 e218 resta219 restl220 restc221 c223 M224 K)) ?_ ?_)
         ·refine Wp.regionD [true,true,true,true,true,true,true,true,true,true,true,true,true,true,true,true,true,true,false,true] hs (by kernel_rfl) rfl [⟨b179,47,[(.string (mkS x176.Text)),(.bool x176.Over)]⟩,⟨b172,76,x171.cells⟩] (λ_ h=>h) [] (λ_ h=>h) (λ_ hs hC=>?_);have hL:=Mem.le.refl M178;refine dA (pt b172 0) 0 [1,11,12,13,14,15,17,18,19] hs λ_ hs=>?_;refine dC (.agg #[(.slice x171.Grammar_Rules_a x171.Grammar_Rules_l x171.Grammar_Rules_c)]) 1 [11,12,13,14,15,17,18,19] hs hC rfl (Yl.lB [(.slice x171.Grammar_Rules_a x171.Grammar_Rules_l x171.Grammar_Rules_c)] true 1) λ_ hs=>?_;refine dA (pt b172 1) 2 [3,11,12,13,14,15,17,18,19] hs λ_ hs=>?_;refine dC (.string (mkS x171.Alpha)) 3 [11,12,13,14,15,17,18,19] hs hC rfl (Yl.lB [(.string (mkS x171.Alpha))] false 1) λ_ hs=>?_;refine dA (pt b172 2) 4 [5,11,12,13,14,15,17,18,19] hs λ_ hs=>?_;refine dC (iv x171.N) 5 [11,12,13,14,15,17,18,19] hs hC rfl (Yl.lB [(iv x171.N)] false 1) λ_ hs=>?_;refine dA (Value.slice xa6 xl7 xc8) 6 [8,9,10,11,12,13,14,15,17,18,19] hs λ_ hs=>?_;refine dA (iv x165) 7 [8,9,10,11,12,13,14,15,17,18,19] hs λ_ hs=>?_;obtain⟨b207,o208,ha,h0,hl,hS⟩:=hS;refine dF (.pointer (some ⟨b207,o208+x165.toNat*4,none⟩)) 8 [9,10,11,12,13,14,15,17,18,19] hs rfl (Yl.iS 78 4 ha h0 hl) λ_ hs=>?_
          refine dA (Value.pointer (some ⟨b207,o208+x165.toNat*4+1,none⟩)) 9 [10,11,12,13,14,15,17,18,19] hs λ_ hs=>?_;obtain⟨x209,hat,hS⟩:=hS;refine dC x209.val 10 [11,12,13,14,15,17,18,19] hs hC rfl (Yl.lV x209.cells true hat) λ_ hs=>?_;refine WpD.ors (by kernel_rfl:_=[11,16]) ⟨?_,?_,trivial⟩
          ·refine stepOne 11 rfl (wanted_none rfl) #[] ?_;refine cM [(.agg #[(.slice x171.Grammar_Rules_a x171.Grammar_Rules_l x171.Grammar_Rules_c)]),(.string (mkS x171.Alpha)),(iv x171.N),x209.val,(iv 1048576)] hs hMM Try.func21 hS λ_ _ M215 v hMM hle hS hs=>?_;replace hL:=hL.trans hle;obtain⟨xa210,xl211,xc212,x213,x214,rfl,hS⟩:=hS;refine wn (⟨λ_ _=>hs.cxle hL (List.Sublist.refl _) (List.Sublist.refl _),?_⟩);have hC:=hs.cxle hL (List.Sublist.refl _) (List.Sublist.refl _);refine dA (Value.tuple #[(.slice xa210 xl211 xc212),x213.val,(iv x214)]) 12 [13,14,15,17,18,19] hs λ_ hs=>?_;refine dA (Value.slice xa210 xl211 xc212) 13 [17,18,19] hs λ_ hs=>?_;refine dA x213.val 14 [18,19] hs λ_ hs=>?_;refine dA (iv x214) 15 [19] hs λ_ hs=>?_;refine sE 16 ?_;refine stepAlloc [(.string (mkS [])),(.bool false)] hs (by kernel_rfl) (by decide) (λ_ _ b216 hEb216 hs=>?_);refine wn (⟨λ_ _=>hs.cxle hL (.cons _ (.cons_cons _ (.cons_cons _ List.Sublist.slnil))) (List.Sublist.refl _),?_⟩);have hC:=hs.cxle hL (.cons _ (.cons_cons _ (.cons_cons _ List.Sublist.slnil))) (List.Sublist.refl _);refine sE 17 ?_;refine sP (.slice xa210 xl211 xc212) hs λ_ hs=>?_;refine nE 18 ?_
           refine stB 0 [(.string (mkS x213.Text)),(.bool x213.Over)] [⟨b216,47,[(.string (mkS x213.Text)),(.bool x213.Over)]⟩,⟨b179,47,[(.string (mkS x176.Text)),(.bool x176.Over)]⟩,⟨b172,76,x171.cells⟩] hs λ_ _ hs=>?_;refine fE 19 ?_;refine sP (iv x214) hs λ_ hs=>?_;refine wN ?_;refine dD ?_;exact⟨x214,xa210,xl211,xc212,x213.Text,x213.Over,b216,M215,hMM,hEb216,hs.q,hS⟩
          ·refine stepOne 16 rfl (wanted_none rfl) #[] ?_;refine stepAlloc [(.string (mkS [])),(.bool false)] hs (by kernel_rfl) (by decide) (λ_ _ b216 hEb216 hs=>?_);refine wn (⟨λ_ _=>hs.cxle hL (.cons _ (.cons_cons _ (.cons_cons _ List.Sublist.slnil))) (List.Sublist.refl _),?_⟩);have hC:=hs.cxle hL (.cons _ (.cons_cons _ (.cons_cons _ List.Sublist.slnil))) (List.Sublist.refl _);refine sE 11 ?_;refine cM [(.agg #[(.slice x171.Grammar_Rules_a x171.Grammar_Rules_l x171.Grammar_Rules_c)]),(.string (mkS x171.Alpha)),(iv x171.N),x209.val,(iv 1048576)] hs hMM Try.func21 hS λ_ _ M215 v hMM hle hS hs=>?_;replace hL:=hL.trans hle;obtain⟨xa210,xl211,xc212,x213,x214,rfl,hS⟩:=hS;refine wn (⟨λ_ _=>hs.cxle hL (.cons _ (.cons_cons _ (.cons_cons _ List.Sublist.slnil))) (List.Sublist.refl _),?_⟩);have hC:=hs.cxle hL (.cons _ (.cons_cons _ (.cons_cons _ List.Sublist.slnil))) (List.Sublist.refl _);refine sE 12 ?_;refine sP (Value.tuple #[(.slice xa210 xl211 xc212),x213.val,(iv x214)]) hs λ_ hs=>?_;refine wN ?_;refine dA (Value.slice xa210 xl211 xc212) 13 [17,18,19] hs λ_ hs=>?_;refine dA x213.val 14 [18,19] hs λ_ hs=>?_;refine dA (iv x214) 15 [19] hs λ_ hs=>?_;refine sE 17 ?_;refine sP (.slice xa210 xl211 xc212) hs λ_ hs=>?_;refine nE 18 ?_
           refine stB 0 [(.string (mkS x213.Text)),(.bool x213.Over)] [⟨b216,47,[(.string (mkS x213.Text)),(.bool x213.Over)]⟩,⟨b179,47,[(.string (mkS x176.Text)),(.bool x176.Over)]⟩,⟨b172,76,x171.cells⟩] hs λ_ _ hs=>?_;refine fE 19 ?_;refine sP (iv x214) hs λ_ hs=>?_;refine wN ?_;refine dD ?_;exact⟨x214,xa210,xl211,xc212,x213.Text,x213.Over,b216,M215,hMM,hEb216,hs.q,hS⟩
         ·intro a w hJ;obtain⟨e218,resta219,restl220,restc221,c222,c223,b217,M224,hMM,hEb217,hs,hS⟩:=hJ;unfold S_chafftop_TopJobs_J4 at hS;refine Wp.join (λa w=>∃(x242:Bool),Sx 142 E [] M224 w a [(7,(.slice xa6 xl7 xc8)),(40,(.slice la1 ll2 lc3)),(41,(iv (ll2:Int))),(42,(iv x165)),(140,(.bool x242))] [⟨b217,47,[(.string (mkS c222)),(.bool c223)]⟩,⟨b179,47,[(.string (mkS x176.Text)),(.bool x176.Over)]⟩,⟨b172,76,x171.cells⟩] []/\(S_chafftop_TopJobs_J5 x165 I167 mu168 M224 x242 K)) ?_ ?_
          ·refine qg (sP3 (iv e218) (.bool ((e218:Int) != (0:Int))) (.bool ((e218:Int) != (0:Int))) hs λ_ hs=>?_);refine bsS bne_iff_ne hs hS (λhs hS=>?_) (λhs hS=>?_)
           ·repeat (first|refine sNo hs λ_ hs=>?_|refine sNu hs λ_ hs=>?_)
            refine sP2 (.bool true) (.bool true) hs λ_ hs=>?_;repeat (first|refine sNo hs λ_ hs=>?_|refine sNu hs λ_ hs=>?_)
            refine sP (.bool true) hs λ_ hs=>?_;exact wn (⟨true,hs.q,hS⟩)
           ·refine ye (pt b217 1) hs λ_ hs=>?_;refine sYe hs (sB1 (.bool c223) 0 hs λ_ hs=>?_);refine ye (.bool (!c223)) hs λ_ hs=>?_;refine sP2 (.bool (!c223)) (.bool (!c223)) hs λ_ hs=>?_;refine bsS (bnot_iff Iff.rfl) hs hS (λhs hS=>?_) (λhs hS=>?_)
            ·repeat (first|refine sNo hs λ_ hs=>?_|refine sNu hs λ_ hs=>?_)
             refine sP (.bool true) hs λ_ hs=>?_;exact wn (⟨true,hs.q,hS⟩)
            ·refine ye (.slice xa6 xl7 xc8) hs λ_ hs=>?_;refine ye (iv x165) hs λ_ hs=>?_;refine sYe hs ?_;obtain⟨b225,o226,ha,h0,hl,hS⟩:=hS;refine sI 78 4 ha h0 hl hs λ_ hs=>?_;refine ye (.pointer (some ⟨b225,o226+x165.toNat*4,none⟩)) hs λ_ hs=>?_;refine sYe hs ?_;obtain⟨xa227,xl228,xc229,hat,hS⟩:=hS;refine sV1 (.slice xa227 xl228 xc229) hat hs λ_ hs=>?_;refine ye (.slice resta219 restl220 restc221) hs λ_ hs=>?_;refine sYe hs (stepMake [(.slice xa227 xl228 xc229),(.slice resta219 restl220 restc221)] 45 1 2 hs rfl rfl rfl (λ_=>by kernel_rfl) rfl (by unfold maxLen;decide) (by decide) (λ_ _ rv230 hs=>?_));refine sYe hs ?_;obtain⟨ad231,cap232,hv,hcp,hxl⟩:=hs.rowform 0 rfl
             dsimp only at hv hcp hxl
             subst hv;have hS:=hS _ ad231 cap232 hs.on.hm (hs.peek 0 rfl);refine stepCallR [(.slice ad231 2 cap232)] hs rfl ⟨_,rfl,rfl⟩ rfl Try.func35 rfl (by kernel_rfl) (by decide) hS (λ_ _ _ v lb lr hS hs=>?_);obtain⟨rn236,rx237,rv235,hv,hlb,hlr,hS⟩:=hS;replace hv:=hv.symm;subst hv hlb hlr;replace hs:=hs.chbx (bs':=[⟨b217,47,[(.string (mkS c222)),(.bool c223)]⟩,⟨b179,47,[(.string (mkS x176.Text)),(.bool x176.Over)]⟩,⟨b172,76,x171.cells⟩]) rfl;replace hs:=hs.chrs (rs':=[⟨rv235,9,1,rn236,rx237,true⟩,⟨(Value.slice ad231 2 cap232),45,1,2,[(.slice xa227 xl228 xc229),(.slice resta219 restl220 restc221)],true⟩]) rfl;refine ye (.slice xa173 xl174 xc175) hs λ_ hs=>?_;refine sYe hs ?_;obtain⟨ad239,cap240,hv,hcp,hxl⟩:=hs.rowform 0 rfl
             dsimp only at hv hcp hxl
             subst hv;have hS:=hS _ ad239 cap240 hs.on.hm (hs.peek 0 rfl);refine stepCallPr [(.slice ad239 rn236 cap240),(.slice xa173 xl174 xc175)] hs rfl ⟨_,rfl,rfl⟩ rfl Try.func26 rfl (by kernel_rfl) (by decide) hS (λ_ _ v hS hs=>?_);obtain⟨x238,rfl,hS⟩:=hS;refine ye (.bool (!x238)) hs λ_ hs=>?_;refine sP (.bool (!x238)) hs λ_ hs=>?_;exact wn (⟨(!x238),(hs.qq (List.Sublist.refl _) (.cons _ (.cons _ List.Sublist.slnil))),hS⟩)
          ·intro a w hJ;obtain⟨x242,hs,hS⟩:=hJ;unfold S_chafftop_TopJobs_J5 at hS;refine Wp.cS hs Iff.rfl hS (λhS=>?_) (λhS=>?_)
           ·refine qr (sP (.bool false) hs λ_ hs=>?_);exact wn (qt (rT hs hMM hS))
           ·refine qk (qg ?_);obtain⟨hI,hS⟩:=hS;refine sY (iv (x165+1)) hs (Yl.wr hI) λ_ hs=>?_;refine sP (iv (x165+1)) hs λ_ hs=>?_;exact wn (⟨(x165+1,M224),⟨hMM,(hs.qq (.cons _ (.cons _ (.cons _ List.Sublist.slnil))) (List.Sublist.refl _)),hS.1⟩,hS.2⟩)
    ·refine qx rfl (qr (sP (.bool true) hs λ_ hs=>?_));exact wn (qt (rT hs hMM hS))
end Go.Proofs.Ytmnilbfhfjdelaa.core

