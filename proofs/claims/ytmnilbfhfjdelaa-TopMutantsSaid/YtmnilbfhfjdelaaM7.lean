/- Contracts and what they hang on, of several parts. No condition. -/
import Derived.Test.YtmnilbfhfjdelaaM4
import Derived.Test.YtmnilbfhfjdelaaM6
import Derived.RangeFuncNested
import Derived.RangeFuncBound
import Derived.RangeFuncCalls
import Derived.RangeFuncLeaves
import Derived.RangeFuncWrites
import Derived.RangeFuncBox
import Derived.Shelf.Abstract
import Derived.WalkKit
import Derived.OwnWalkIn
import Derived.TacticsInMore
import Derived.LoopNIn
import Derived.LoopIn
import Derived.Maps.OwnIn
import Derived.Maps.AppendAt
import Derived.StringKeys
import Derived.BigRegionIn
import Derived.Test.YtmnilbfhfjdelaaM5
namespace Go.Proofs.Ytmnilbfhfjdelaa.core
open Go.Gx Go.RowKit Go.ChangeShapes Go.WideShapes Go.ChangeAt
set_option linter.unusedVariables false
noncomputable def accP (rs:List Ru) (s:List UInt8):Bool:= @decide (∃E,Tab rs s E/\E 0 0=(s.length:Int)) (Classical.propDecidable _)
theorem acc_eq {rs:List Ru} {s:List UInt8} {E:Nat->Nat->Int} (hw:WellOk rs) (hT:Tab rs s E):accP rs s=decide (E 0 0=(s.length:Int)):=by
 have h11:=hw.ok.one
 unfold accP
 rw[decide_eq_decide]
 exact⟨λ⟨E',hT',h⟩=>by rw[tab_same hw hT hT' (p:=0) (i:=0) (by omega) h11];exact h,λh=>⟨E,hT,h⟩⟩
theorem laccepts_is {rs:List Ru} {s:List UInt8} {ga:Option Addr} {gl gc:Nat} {M:Mem} {K:Value->Prop} (hg:GrR M rs ga gl gc) (h1:lookP rs s≠0->K (.tuple #[.bool false,.int .i64 (lookP rs s)])) (h2:lookP rs s=0->K (.tuple #[.bool (accP rs s),.int .i64 0])):S_list_Accepts ga gl gc s M K:=by
 unfold S_list_Accepts
 refine e_pack_Run _ _ _ _ _ _ (prun_is hg (λh M' _=>⟨_,_,_,_,_,rfl,λh'=>absurd h' h,λ_=>h1 h⟩) λh E hT t _ M' la lc _ _=>⟨_,_,_,_,_,rfl,λ_=>?_,λhn=>absurd rfl hn⟩)
 obtain⟨hw,hs60⟩:=look_ok h
 have h2:=h2 h
 rw[acc_eq hw hT]at h2
 by_cases h0:0<=E 0 0
 ·refine⟨λ_=>?_,λhn=>absurd (by unfold outE;rw[if_pos h0]) hn⟩
  have e1:(outE (E 0 0) 0).N=E 0 0:=by unfold outE;rw[if_pos h0];simp
  rw[e1];exact h2
 ·refine⟨λhy=>?_,λ_=>?_⟩
  ·unfold outE at hy;rw[if_neg h0]at hy;cases hy
  ·rw[decide_eq_false (by omega)]at h2;exact h2
end Go.Proofs.Ytmnilbfhfjdelaa.core

namespace Go.Proofs.Ytmnilbfhfjdelaa.core
open Go.Gx Go.RowKit Go.ChangeShapes Go.WideShapes Go.ChangeAt
set_option linter.unusedVariables false
noncomputable def listP (rs:List Ru) (a:List UInt8) (n:Int):Int:=if (wellP rs).2≠0 then(wellP rs).2 else if alphaP a≠0 then alphaP a else if n<0\/6<n then 1 else if 5000<geo a.length (n.toNat+1) then 2 else 0
section
variable {rs:List Ru} {ga:Option Addr} {gl gc:Nat} {M:Mem}
theorem llook_is (hg:GrR M rs ga gl gc) (a:List UInt8) (n:Int) (K:Value->Prop) (hK:K (.int .i64 (listP rs a n))):S_list_Look ga gl gc a n M K:=by
 unfold S_list_Look
 unfold listP at hK
 refine s_well_Well _ _ _ _ _ (wwell_is hg _ ⟨_,_,rfl,λh=>?_,λh=>?_⟩)
 ·rw[if_pos h]at hK;exact hK
 rw[if_neg h]at hK
 refine s_walk_Many _ _ _ _ (wmany_is a n _ _ (λh1=>?_) (λh1 h2=>?_) λh1 h2 h3=>?_)
 ·rw[if_pos h1]at hK
  exact⟨_,_,rfl,λ_=>hK,λhn=>absurd h1 hn⟩
 ·rw[if_neg (λhn=>hn h1),if_pos h2]at hK
  exact⟨_,_,rfl,λ_=>hK,λhn=>absurd (by decide) hn⟩
 ·rw[if_neg (λhn=>hn h1),if_neg (by omega)]at hK
  refine⟨_,_,rfl,λhn=>absurd rfl hn,λ_=>⟨λhgt=>?_,λhle=>?_⟩⟩
  ·rw[if_pos (by omega)]at hK;exact hK
  ·rw[if_neg (by omega)]at hK;exact hK
end
end Go.Proofs.Ytmnilbfhfjdelaa.core

namespace Go.Proofs.Ytmnilbfhfjdelaa.core
open Go.Gx Go.RowKit Go.ChangeShapes Go.WideShapes Go.ChangeAt
set_option linter.unusedVariables false
open Go.Shelf Go.Proofs
attribute [local go_sem] Oper.semAt_some
structure KX (n₀:Nat) (ex:List Nat) (A B:World):Prop where
 os:B.os=A.os
 tape:B.tape=A.tape
 output:B.output=A.output
 size:A.heap.size<=B.heap.size
 block:∀k,k<n₀->k∉ex->B.heap[k]?=A.heap[k]?
theorem KX.refl (n₀:Nat) (ex:List Nat) (A:World):KX n₀ ex A A:=⟨rfl,rfl,rfl,Nat.le_refl _,λ_ _ _=>rfl⟩
theorem KX.trans {n₀:Nat} {ex:List Nat} {A B C:World} (h:KX n₀ ex A B) (k:KX n₀ ex B C):KX n₀ ex A C:=
 ⟨k.os.trans h.os,k.tape.trans h.tape,k.output.trans h.output,Nat.le_trans h.size k.size,λi hi hx=>(k.block i hi hx).trans (h.block i hi hx)⟩
theorem KX.grown {n₀:Nat} {ex:List Nat} {A B:World} {row:Option Nat} (hg:A.grownBy B row) (hn:n₀<=A.heap.size) (hr:∀k,row=some k->k<n₀->k∈ex):KX n₀ ex A B:=
 ⟨hg.os,hg.tape,hg.output,hg.size,λk hk hx=>hg.block k (by omega) (λe=>hx (hr k e.symm hk))⟩
theorem KX.below {n₀:Nat} {ex:List Nat} {A B:World} {m:Nat} (h:KX n₀ ex A B) (hm:m<=n₀) (hx:∀k∈ex,m<=k):Below m A B:=
 ⟨h.os,h.tape,h.output,h.size,λk hk=>h.block k (by omega) (λhk'=>by have:=hx k hk';omega)⟩
theorem KX.of {n₀:Nat} {ex:List Nat} {A B:World} (h:Below n₀ A B):KX n₀ ex A B:=⟨h.os,h.tape,h.output,h.size,λk hk _=>h.block k hk⟩
theorem grown_of {A B:World} (h:Below A.heap.size A B):A.grownBy B none:=⟨h.os,h.tape,h.output,h.size,λk hk _=>h.block k hk⟩
abbrev W6:={x:List UInt8 // x.length<=6}
set_option maxRecDepth 100000 in
set_option maxHeartbeats 2000000 in
theorem texts1_in (l n₀:Nat) (ex:List Nat) (a:List UInt8) (s0:W6) (k:Nat) (T:List W6) (h1:1<=a.length) (hal:alphaP a=0) (hk6:k<=6) (hs0:∀c∈s0.1,c∈a) (hs0k:s0.1.length<=k)
  (hTl:T.length=geo a.length (k+1)-rankN a s0.1) (hT:∀(i:Nat) (s:W6),(∀c∈s.1,c∈a)->s.1.length<=k->rankN a s.1=rankN a s0.1+i->T[i]?=some s)
  (Ba Bf Bn:Nat) (J Jx:List W6->World->Prop) (hJ:∀s W W',J s W->W.grownBy W' none->J s W')
  (hY:∀m pre x W,J pre W->pre.length<T.length->YieldAt Fence.wide m Try.prog l #[.string (mkS x.1)] W λe W'=>
   (e= .returned (.bool true)/\J (pre++[x]) W'/\KX n₀ ex W W')\/(e= .returned (.bool false)/\Jx (pre++[x]) W'))
  (n:Nat) (W:World) (hn:n₀<=W.heap.size) (hBa:Boxed W Ba 9 (.string (mkS a))) (hBf:Boxed W Bf 9 (.string (mkS s0.1))) (hBn:Boxed W Bn 3 (.int .i64 k)) (hba:Ba<n₀/\Ba∉ex) (hbn:Bn<n₀/\Bn∉ex) (h0:J [] W):
  CallsIn Fence.wide n Try.prog 80 #[.func (.yield l) #[] #[],.pointer (some ⟨Bf,0,none⟩),.pointer (some ⟨Bn,0,none⟩),.pointer (some ⟨Ba,0,none⟩)] W λe W'=>(∃v,e= .returned v)/\
   ((∃xs,xs=T/\J xs W')\/(∃q,(q=T.take q.length/\q.length<=T.length)/\Jx q W')):=by
 have hcf:=hBf.cell
 refine callsIn_of_wp Try.func80 rfl trivial ?_ rfl
 simp only[Try.ntmps80,List.size_toArray,List.length_cons,List.length_nil,Nat.reduceAdd,Nat.reduceSub,Array.replicate_succ,Array.replicate_zero,List.push_toArray,List.append_toArray,List.nil_append,List.cons_append]
 gi_wp2
 gi_loopw [5] (λt wr=>∃(pre:List W6) (s:W6),t= .string (mkS s.1)/\(∀c∈s.1,c∈a)/\pre=T.take pre.length/\pre.length<=T.length/\rankN a s.1=rankN a s0.1+pre.length/\J pre wr/\KX n₀ ex W wr)
  (λt _=>match t with| .string b=>geo a.length 8-rankN a b.toList|_=>0)
 case atStart=>exact⟨[],s0,rfl,hs0,rfl,by simp,by simp,h0,KX.refl _ _ _⟩
 case round=>
  obtain⟨pre,s,rfl,hin,hpre,hpl,hrk,hj,hkx⟩:=hrel
  have hbn':Boxed wr Bn 3 (.int .i64 k):=(hkx.block Bn hbn.1 hbn.2).trans hBn
  have hba':Boxed wr Ba 9 (.string (mkS a)):=(hkx.block Ba hba.1 hba.2).trans hBa
  have hcn:=hbn'.cell
  have hsz:((mkS s.1).size:Int)=s.1.length:=rfl
  by_cases hlt:s.1.length<=k
  ·have hT1:=hT pre.length s hin hlt hrk
   have hlt2:pre.length<T.length:=(List.getElem?_eq_some_iff.1 hT1).1
   obtain⟨fn,tmps,assign,body,hy,hRd⟩:=hY (n-1) pre s wr hj hlt2
   have hb:((mkS s.1).size:Int)<=(k:Int):=by rw[hsz];omega
   gi_wp2
   refine⟨λh=>(by cases h),hRd.mono ?_⟩
   have hov:=over_of hal s.2 hin
   have hnx:=e_walk_Next a s.1 (λ_=>none) (λv _=>(rankN a s.1+1=geo a.length 7/\v= .tuple #[.string (mkS []),.int .i64 12])\/∃t:W6,(∀c∈t.1,c∈a)/\rankN a t.1=rankN a s.1+1/\v= .tuple #[.string (mkS t.1),.int .i64 0])
    (wnext_is _ _ (λh=>absurd hov h) (λ_ h M' _=>.inl ⟨h,rfl⟩) λ_ t h6 ht hr M' _=>.inr ⟨⟨t,h6⟩,ht,hr,rfl⟩)
   have hpre1:pre++[s]=T.take (pre.length+1):=by rw[List.take_add_one,hT1,<-hpre];rfl
   have hlen1:(pre++[s]).length=pre.length+1:=by simp
   rintro e W1 (⟨rfl,hj1,hkx1⟩|⟨rfl,hx1⟩)
   ·have hba1:Boxed W1 Ba 9 (.string (mkS a)):=(hkx1.block Ba hba.1 hba.2).trans hba'
    have hca:=hba1.cell
    have hnx1:=hnx W1 (λb o h=>by cases h)
    clear hnx
    gi_wp2
    refine⟨trivial,λh=>(by cases h),(callsIn_wide.2 hnx1).mono ?_⟩
    rintro e W2 ⟨v,rfl,hbel,(⟨hr,rfl⟩|⟨t,ht,hr,rfl⟩)⟩
    ·have e:pre++[s]=T:=by
      have hlt3:=(rank_le (n:=k) h1 hin).1 hlt
      have hg:geo a.length (k+1)<=geo a.length 7:=by
       rcases Nat.lt_or_ge k 6 with h|h
       ·exact Nat.le_of_lt (geo_lt h1 (by omega))
       ·rw[show k=6 by omega];exact Nat.le_refl _
      rw[hpre1,List.take_of_length_le (by omega)]
     have hj2:=hJ _ _ _ hj1 (grown_of hbel)
     rw[e]at hj2
     gi_wp2
     refine bodyPost_ret (results_none rfl _ _ _) rfl ?_
     exact⟨⟨_,rfl⟩,.inl ⟨_,rfl,hj2⟩⟩
    ·have hms:geo a.length 8-rankN a (mkS t.1).toList<geo a.length 8-rankN a (mkS s.1).toList:=by
      have hr1:rankN a s.1<geo a.length 8:=(rank_le (n:=7) h1 hin).1 (Nat.le_trans s.2 (by omega))
      rw[mkS_toList,mkS_toList];omega
     have hj2:=hJ _ _ _ hj1 (grown_of hbel)
     have hkx2:=hkx.trans (hkx1.trans (KX.of (hbel.mono (Nat.le_trans hn (Nat.le_trans hkx.size hkx1.size)))))
     gi_wp2
     exact⟨⟨_,t,rfl,ht,by rw[hlen1];exact hpre1,by rw[hlen1];exact hlt2,by rw[hlen1];omega,hj2,hkx2⟩,hms⟩
   ·gi_wp2
    refine bodyPost_ret (results_none rfl _ _ _) rfl ?_
    exact⟨⟨_,rfl⟩,.inr ⟨_,⟨by rw[hlen1];exact hpre1,by rw[hlen1];exact hlt2⟩,hx1⟩⟩
  ·have hb:¬((mkS s.1).size:Int)<=(k:Int):=by rw[hsz];omega
   have e:pre=T:=by
    have hx:¬rankN a s.1<geo a.length (k+1):=λh=>hlt ((rank_le h1 hin).2 h)
    rw[hpre,List.take_of_length_le (by omega)]
   gi_wp2
   go_end0
   exact⟨⟨_,rfl⟩,.inl (e▸hj)⟩
set_option maxHeartbeats 1000000 in
theorem texts_mk (n:Nat) (a s:List UInt8) (k:Int) (w:World):
  CallsIn Fence.wide n Try.prog 49 #[.string (mkS a),.string (mkS s),.int .i64 k] w λe w'=>e= .returned (.func (.func 80) #[] #[.pointer (some ⟨w.heap.size+1,0,none⟩),.pointer (some ⟨w.heap.size+1+1,0,none⟩),.pointer (some ⟨w.heap.size,0,none⟩)])/\
   w'=((w.alloc (.cells #[.string (mkS a)] 9)).alloc (.cells #[.string (mkS s)] 9)).alloc (.cells #[.int .i64 k] 3):=by
 refine callsIn_of_wp Try.func49 rfl trivial ?_ rfl
 simp only[Try.ntmps49,List.size_toArray,List.length_cons,List.length_nil,Nat.reduceAdd,Nat.reduceSub,Array.replicate_succ,Array.replicate_zero,List.push_toArray,List.append_toArray,List.nil_append,List.cons_append]
 gi_wp2
 go_ret
 exact⟨rfl,rfl⟩
theorem texts_stops (n:Nat) (n₀:Nat) (ex:List Nat) (a:List UInt8) (s0:W6) (k:Nat) (T:List W6) (h1:1<=a.length) (hal:alphaP a=0) (hk6:k<=6) (hs0:∀c∈s0.1,c∈a) (hs0k:s0.1.length<=k)
  (hTl:T.length=geo a.length (k+1)-rankN a s0.1) (hT:∀(i:Nat) (s:W6),(∀c∈s.1,c∈a)->s.1.length<=k->rankN a s.1=rankN a s0.1+i->T[i]?=some s)
  (Ba Bf Bn:Nat) (w:World) (hn:n₀<=w.heap.size) (hBa:Boxed w Ba 9 (.string (mkS a))) (hBf:Boxed w Bf 9 (.string (mkS s0.1))) (hBn:Boxed w Bn 3 (.int .i64 k)) (hba:Ba<n₀/\Ba∉ex) (hbn:Bn<n₀/\Bn∉ex):
  SeqStopsK Fence.wide n Try.prog 80 #[.pointer (some ⟨Bf,0,none⟩),.pointer (some ⟨Bn,0,none⟩),.pointer (some ⟨Ba,0,none⟩)] (λx:W6=> #[.string (mkS x.1)]) (KX n₀ ex) (λxs=>xs=T) (λq=>q=T.take q.length/\q.length<=T.length) T.length w:=λl J Jx W hW hJ _ hY h0=>
 texts1_in l n₀ ex a s0 k T h1 hal hk6 hs0 hs0k hTl hT Ba Bf Bn J Jx (λs A B hs hg=>hJ s A B none hs hg (λr e=>by cases e)) (λm pre x W1 hj hl=>YieldAt.deep m (hY pre x W1 hj hl)) n W (Nat.le_trans hn hW.size)
  ((hW.block Ba hBa.lt).trans hBa) ((hW.block Bf hBf.lt).trans hBf) ((hW.block Bn hBn.lt).trans hBn) hba hbn h0
end Go.Proofs.Ytmnilbfhfjdelaa.core

namespace Go.Proofs.Ytmnilbfhfjdelaa.core
open Go.Gx Go.RowKit Go.ChangeShapes Go.WideShapes Go.ChangeAt
set_option linter.unusedVariables false
open Go.Shelf Go.Proofs
attribute [local go_sem] Oper.semAt_some
def sv6 (x:W6):Value:=.string (mkS x.1)
theorem listP_ok {rs:List Ru} {a:List UInt8} {n:Int} (h:listP rs a n=0):WellOk rs/\alphaP a=0/\0<=n/\n<=6/\geo a.length (n.toNat+1)<=5000:=by
 unfold listP at h
 split at h
 ·rename_i h1;exact absurd h h1
 rename_i h1
 split at h
 ·rename_i h2;exact absurd h h2
 rename_i h2
 split at h
 ·omega
 split at h
 ·omega
 exact⟨(look_ok (s:=[]) (by unfold lookP;rw[if_neg h1];rfl)).1,Decidable.not_not.1 h2,by omega,by omega,by omega⟩
theorem look_ok' {rs:List Ru} {a:List UInt8} {n:Int} (h:listP rs a n=0):(wellP rs).2=0:=by
 unfold listP at h
 split at h
 ·rename_i h1;exact absurd h h1
 ·rename_i h1;exact Decidable.not_not.1 h1
theorem six_ex (l:List (List UInt8)) (h:∀x∈l,x.length<=6):∃T:List W6,T.map (·.1)=l:=⟨l.pmap Subtype.mk h,by rw[List.map_pmap];simp⟩
theorem six (w:World) (o0 o1 o2 o3 o4 o5:Obj):∃W,((((((w.alloc o0).alloc o1).alloc o2).alloc o3).alloc o4).alloc o5)=W/\W.heap[w.heap.size]?=some o0/\W.heap[w.heap.size+1]?=some o1/\W.heap[w.heap.size+1+1]?=some o2/\
  W.heap[w.heap.size+1+1+1]?=some o3/\W.heap[w.heap.size+1+1+1+1]?=some o4/\W.heap[w.heap.size+1+1+1+1+1]?=some o5/\Below w.heap.size w W/\W.heap.size=w.heap.size+6:=by
 refine⟨_,rfl,?_,?_,?_,?_,?_,?_,?_,by simp⟩
 all_goals first
  |(refine((((((Below.refl _ w).alloc ?_ _).alloc ?_ _).alloc ?_ _).alloc ?_ _).alloc ?_ _).alloc ?_ _<;>simp<;>omega)
  |(simp only[World.alloc,Array.getElem?_push,Array.size_push];repeat (first|rw[if_pos trivial]|rw[if_pos (by omega)]|rw[if_neg (by omega)]))
theorem set1 {W:World} {b:Nat} {cs:Array Value} {t:TypeId} {f:Nat×Nat} (h:W.heap[b]?=some (.cells cs t f)) (i:Nat) (v:Value):(W.setCell ⟨b,i,none⟩ v).heap[b]?=some (.cells (cs.setIfInBounds i v) t f):=by
 simp only[World.setCell,Array.getElem?_modify,if_pos,h];rfl
theorem set2 {W:World} {b b':Nat} (hb:b≠b') (i:Nat) (v:Value):(W.setCell ⟨b',i,none⟩ v).heap[b]?=W.heap[b]?:=Below.heap_setCell _ _ _ _ hb
theorem tail3 {P:Program} {fn:Func} {p1 p2 p3:Tmp} {y1 y2 y3:TypeId} (hr:fn.results= #[.cell p1 y1,.cell p2 y2,.cell p3 y3]) {tmps:Array Value} {W:World} {b1 b2 b3:Nat} {vs1 vs2 vs3:List Value} {t1 t2 t3:TypeId} (g1 g2 g3:Bool)
  (e1:tmps.getD p1 undef= .pointer (some ⟨b1,0,none⟩)) (e2:tmps.getD p2 undef= .pointer (some ⟨b2,0,none⟩)) (e3:tmps.getD p3 undef= .pointer (some ⟨b3,0,none⟩))
  (h1:W.heap[b1]?=some (.cells vs1.toArray t1 (0,0))) (h2:W.heap[b2]?=some (.cells vs2.toArray t2 (0,0))) (h3:W.heap[b3]?=some (.cells vs3.toArray t3 (0,0)))
  (k1:tyOk P y1 g1 vs1.length=true) (k2:tyOk P y2 g2 vs2.length=true) (k3:tyOk P y3 g3 vs3.length=true):
  (results fn tmps).run P W= .ok (.tuple #[ofCells g1 vs1,ofCells g2 vs2,ofCells g3 vs3]) W:=by
 have ld:∀{y:TypeId} {b:Nat} {vs:List Value} {t:TypeId} {g:Bool},W.heap[b]?=some (.cells vs.toArray t (0,0))->tyOk P y g vs.length=true->(loadVar y ⟨b,0,none⟩).run P W= .ok (ofCells g vs) W:=λ{y b vs t g} h k=>by
  obtain⟨q1,q2,q3,q4⟩:=tyOk_spec k
  exact run_load_at (P:=P) q1 q2 q3 q4 λj v hj=>by simp[World.cell?,h,hj]
 have l1:=ld h1 k1
 have l2:=ld h2 k2
 have l3:=ld h3 k3
 simp only[results,hr]
 simp[-Array.getD_eq_getD_getElem?,e1,e2,e3,asAddr,l1,l2,l3]
theorem Boxed.below {W W':World} {B:Nat} {t:TypeId} {v:Value} (h:Boxed W B t v) (hb:Below W.heap.size W W'):Boxed W' B t v:=(hb.block B h.lt).trans h
theorem KX.set {n₀:Nat} {ex:List Nat} {W:World} {B i:Nat} (hn:n₀<=W.heap.size) (hB:B∈ex) (v:Value):KX n₀ ex W (W.setCell ⟨B,i,none⟩ v):=
 ⟨rfl,rfl,rfl,by simp[World.setCell],λk _ hk=>Below.heap_setCell _ _ _ _ (λe=>hk (by rw[e];exact hB))⟩
theorem below_put {B D:Nat} {w W:World} (h:Below B w W) (hD:B<=D) {o o':Obj} (hl:W.heap[D]?=some o) (hB:B<=W.heap.size):Below B w (W.putObj D o'):=
 h.grown (grownBy_putObj' W D o') hB (λk e=>by cases e;exact hD)
theorem Hid.mk3 {p q:Prop} (h:p) (k:q):Hid (p/\q):=⟨h,k⟩
end Go.Proofs.Ytmnilbfhfjdelaa.core

namespace Go.Proofs.Ytmnilbfhfjdelaa.core
open Go.Gx Go.RowKit Go.ChangeShapes Go.WideShapes Go.ChangeAt
set_option linter.unusedVariables false
def sC (s:List UInt8):List Value:=[.string (mkS s)]
theorem sC_len (s:List UInt8):(sC s).length=1:=rfl
theorem strV_cl (l:List (List UInt8)):strV l=cl sC l:=by
 unfold strV cl sC
 induction l with
 |nil=>rfl
 |cons x l ih=>simp only[List.map_cons,List.flatten_cons];rw[<-ih];rfl
theorem strV_app (x y:List (List UInt8)):strV (x++y)=strV x++strV y:=by unfold strV;rw[List.map_append]
theorem strV_one (l:List (List UInt8)):∀u∈strV l,u.oneCell'=true:=by
 intro u hu
 unfold strV at hu
 obtain⟨s,_,rfl⟩:=List.mem_map.1 hu
 rfl
theorem str_Cs {l:List (List UInt8)} {i:Nat} {s:List UInt8} (h:l[i]?=some s):Cs (strV l) (0+i*1) [.string (mkS s)]:=by
 rw[strV_cl];exact cl_Cs sC_len h
section
variable {rs:List Ru} {ga:Option Addr} {gl gc:Nat} {M:Mem}
theorem slice1 {a:List UInt8} {i:Nat} (h:i<a.length):(a.take (i+1)).drop i=[by8 a i]:=by
 rw[List.take_add_one,at8_get h,List.drop_append_of_le_length (by rw[List.length_take];omega),List.drop_of_length_le (by rw[List.length_take];omega)];rfl
theorem grow1_take {a:List UInt8} {l:List (List UInt8)} {j:Nat} {s:List UInt8} (h:l[j]?=some s):grow1 a (l.take (j+1))=grow1 a (l.take j)++a.map λc=>s++[c]:=by
 unfold grow1
 rw[List.take_add_one,h,List.flatMap_append];simp
theorem grow1_le (a:List UInt8) (l:List (List UInt8)) (j:Nat):(grow1 a (l.take j)).length<=l.length*a.length:=by
 rw[grow1_len,List.length_take]
 exact Nat.mul_le_mul_right _ (Nat.min_le_right _ _)
theorem lev_size {a:List UInt8}:∀(k:Nat) (s:List UInt8),s∈lev a k->s.length=k
 |0,s,h=>by rw[lev,List.mem_singleton]at h;rw[h];rfl
 |k+1,s,h=>by
  rw[lev]at h
  unfold grow1 at h
  obtain⟨u,hu,hs⟩:=List.mem_flatMap.1 h
  obtain⟨c,_,rfl⟩:=List.mem_map.1 hs
  rw[List.length_append,lev_size k u hu];rfl
end
end Go.Proofs.Ytmnilbfhfjdelaa.core

namespace Go.Proofs.Ytmnilbfhfjdelaa.core
open Go.Gx Go.RowKit Go.ChangeShapes Go.WideShapes Go.ChangeAt
set_option linter.unusedVariables false
def ru0:Ru:=⟨[97],.mk 3 ⟨0,0,0,0⟩ [120] []⟩
theorem well0:wellP [ru0]=(0,0):=by rfl
theorem acc0:accP [ru0] [120]=true:=by
 have hw:=well_ok (rs:=[ru0]) (by rw[well0])
 obtain⟨E,hT⟩:=tab_ex (s:=[120]) hw
 rw[acc_eq hw hT,hT.fix 0 0 ru0 (by simp) rfl]
 rfl
theorem x_gr {M:Mem} {A:Option Addr} {c:Nat} (h:SlV M A 1 c 8 (X_api_Rule.mk [97] (X_api_Expr.mk 3 (X_api_Set.mk 0 0 0 0) [120] none 0 0)).cells):GrR M [ru0] A 1 c:=by
 refine⟨[X_api_Rule.mk [97] (X_api_Expr.mk 3 (X_api_Set.mk 0 0 0 0) [120] none 0 0)],by simpa[cl]using h,All2.of rfl λi r x hr hx=>?_,rfl⟩
 cases i with
 |zero=>
  cases hr;cases hx
  exact⟨rfl,by unfold maxLen ru0;simp,.mk (xs:=[]) (by decide) ⟨by decide,by decide,by decide,by decide⟩ (by unfold maxLen;simp) ⟨rfl,Nat.le_refl _,by unfold maxLen;simp,λh=>by simp at h⟩ rfl (λi e x h=>by simp at h)⟩
 |succ i=>simp at hr
section
variable {M:Mem}
theorem begun_is (K:Value->Prop) (hK:K (.bool true)):S_chafftop_begun M K:=by
 unfold S_chafftop_begun
 refine s_chafftop_x _ _ λM5 A c hle hsl M' hle2=>⟨_,_,_,rfl,s_list_Accepts _ _ _ _ _ _ (laccepts_is ((x_gr hsl).le hle2) (λh=>absurd (by unfold lookP;rw[well0];rfl) h) λ_=>⟨_,_,rfl,λ_=>hK,λh=>absurd acc0 h⟩)⟩
theorem within_is (k n:Int) (h0:1<=n) (h1:n<=1000000) (K:Value->Prop) (hK:∀z:Int,0<=z->z<n->K (.int .i64 z)):S_chaffkeep_Within k n M K:=by
 unfold S_chaffkeep_Within
 have e:IntKind.wrap .u64 n=n:=by simp[IntKind.wrap,IntKind.signed,IntKind.bits];omega
 have hk:0<=IntKind.wrap .u64 k:=by simp[IntKind.wrap,IntKind.signed,IntKind.bits];omega
 rw[e]
 have hm0:0<=(IntKind.wrap .u64 k).tmod n:=Int.tmod_nonneg _ hk
 have hm1:(IntKind.wrap .u64 k).tmod n<n:=Int.tmod_lt_of_pos _ (by omega)
 generalize (IntKind.wrap .u64 k).tmod n=m at*
 have e2:IntKind.wrap .i64 m=m:=by simp[IntKind.wrap,IntKind.signed,IntKind.bits];omega
 rw[e2]
 exact⟨by omega,hK m hm0 hm1⟩
variable {rs:List Ru} {ga:Option Addr} {gl gc:Nat}
theorem tright_is (hg:GrR M rs ga gl gc) (a:List UInt8) (n:Int) (K:Value->Prop) (hK:K (.bool (listP rs a n==0))):S_chafftop_right ga gl gc a n M K:=by
 unfold S_chafftop_right
 exact s_list_Look _ _ _ _ _ _ _ (llook_is hg a n _ ⟨_,rfl,hK⟩)
end
end Go.Proofs.Ytmnilbfhfjdelaa.core

namespace Go.Proofs.Ytmnilbfhfjdelaa.core
open Go.Gx Go.RowKit Go.ChangeShapes Go.WideShapes Go.ChangeAt
set_option linter.unusedVariables false
def compS (s:X_api_Set):X_api_Set:=Us λb=> !bitS s b
def z4:X_api_Set:=⟨0,0,0,0⟩
def lessL (ks:List Ex) (i:Nat):List Ex:=ks.take i++ks.drop (i+1)
def lessE (k:Int) (l:List Ex):Ex:=match l with
 |[x]=>x
 |l=>.mk k z4 [] l
def swapL (ks:List Ex) (i:Nat):List Ex:=match ks[i]?,ks[i+1]? with
 |some x,some y=>(ks.set i y).set (i+1) x
 |_,_=>ks
def turnsE:Ex->List Ex
 | .mk k s _ ks=>
  if k=2 then[.mk 2 (compS s) [] []]
  else if k=5 then(List.range ks.length).map λi=>lessE k (lessL ks i)
  else if k=6 then((List.range ks.length).map λi=>lessE k (lessL ks i))++(List.range (ks.length-1)).map λi=>.mk 6 z4 [] (swapL ks i)
  else if k=7\/k=9 then ks.take 1
  else if k=8 then[.mk 7 z4 [] ks] else if k=10 then[.mk 11 z4 [] ks] else if k=11 then[.mk 10 z4 [] ks] else[]
mutual
def allE:Ex->List Ex
 | .mk k s t ks=>turnsE (.mk k s t ks)++allEs k [] ks
def allEs (k:Int) (pre:List Ex):List Ex->List Ex
 |[]=>[]
 |x::ks=>((allE x).map λy=>.mk k z4 [] (pre++y::ks))++allEs k (pre++[x]) ks
end
theorem not_is {s:X_api_Set} (hs:wfS s) {M:Mem} (K:Value->Prop) (hK:K (compS s).val):S_set_Not s M K:=by
 unfold S_set_Not
 refine s_set_both _ _ _ _ _ ?_
 unfold compS at hK
 obtain⟨a,b,c,d⟩:=s
 obtain⟨h0,h1,h2,h3⟩:=hs
 obtain⟨a,rfl,ha⟩:=nat_of h0
 obtain⟨b,rfl,hb⟩:=nat_of h1
 obtain⟨c,rfl,hc⟩:=nat_of h2
 obtain⟨d,rfl,hd⟩:=nat_of h3
 have hw:∀(w x:Nat),[a,b,c,d].getD w 0=x->x<2 ^ 64->((2 ^ 64-1) ^^^ x)=Uw (λq=> !bitS ⟨a,b,c,d⟩ q) w 64:=by
  intro w x hx hxl
  refine word_is _ w (Nat.xor_lt_two_pow (by decide) hxl) λk hk=>?_
  rw[Nat.testBit_xor,Nat.testBit_two_pow_sub_one,decide_eq_true hk,<-hx,Bool.true_xor]
  rw[<-hasW_at [a,b,c,d] w k hk];rfl
 have hfin:(⟨(((2 ^ 64-1) ^^^ a:Nat):Int),(((2 ^ 64-1) ^^^ b:Nat):Int),(((2 ^ 64-1) ^^^ c:Nat):Int),(((2 ^ 64-1) ^^^ d:Nat):Int)⟩:X_api_Set)=Us λq=> !bitS ⟨a,b,c,d⟩ q:=by
  unfold Us
  rw[hw 0 a rfl ha,hw 1 b rfl hb,hw 2 c rfl hc,hw 3 d rfl hd]
 rw[<-hfin]at hK
 have call:∀(x:Nat) (y:Int) (K:Value->Prop),x<2 ^ 64->K (.int .u64 (((2 ^ 64-1) ^^^ x:Nat):Int))->CallF Try.prog (Value.func (.func 142) #[] #[]) [.int .u64 (x:Int),.int .u64 y] M (λv _=>K v):=λx y K hx hK=>
  f_set_Not_1 _ _ _ _ (by unfold S_set_Not_1;rw[bNotU x hx];exact hK)
 unfold S_set_both
 refine⟨λi zs=>(i=0/\zs=[(a:Int),b,c,d])\/(i=1/\zs=[(((2 ^ 64-1) ^^^ a:Nat):Int),b,c,d])\/(i=2/\zs=[(((2 ^ 64-1) ^^^ a:Nat):Int),(((2 ^ 64-1) ^^^ b:Nat):Int),c,d])\/(i=3/\zs=[(((2 ^ 64-1) ^^^ a:Nat):Int),(((2 ^ 64-1) ^^^ b:Nat):Int),(((2 ^ 64-1) ^^^ c:Nat):Int),d])\/(i=4/\zs=[(((2 ^ 64-1) ^^^ a:Nat):Int),(((2 ^ 64-1) ^^^ b:Nat):Int),(((2 ^ 64-1) ^^^ c:Nat):Int),(((2 ^ 64-1) ^^^ d:Nat):Int)]),λi _=>4-i.toNat,.inl ⟨rfl,rfl⟩,λi zs hI=>?_⟩
 rcases hI with⟨rfl,rfl⟩|⟨rfl,rfl⟩|⟨rfl,rfl⟩|⟨rfl,rfl⟩|⟨rfl,rfl⟩
 ·exact⟨λ_=>⟨by omega,by omega,_,rfl,by omega,by omega,_,rfl,call _ _ _ ha ⟨_,rfl,by omega,by omega,by simp,by unfold InI;omega,.inr (.inl ⟨rfl,rfl⟩),by dsimp only;decide⟩⟩,λh=>absurd h (by decide)⟩
 ·exact⟨λ_=>⟨by omega,by omega,_,rfl,by omega,by omega,_,rfl,call _ _ _ hb ⟨_,rfl,by omega,by omega,by simp,by unfold InI;omega,.inr (.inr (.inl ⟨rfl,rfl⟩)),by dsimp only;decide⟩⟩,λh=>absurd h (by decide)⟩
 ·exact⟨λ_=>⟨by omega,by omega,_,rfl,by omega,by omega,_,rfl,call _ _ _ hc ⟨_,rfl,by omega,by omega,by simp,by unfold InI;omega,.inr (.inr (.inr (.inl ⟨rfl,rfl⟩))),by dsimp only;decide⟩⟩,λh=>absurd h (by decide)⟩
 ·exact⟨λ_=>⟨by omega,by omega,_,rfl,by omega,by omega,_,rfl,call _ _ _ hd ⟨_,rfl,by omega,by omega,by simp,by unfold InI;omega,.inr (.inr (.inr (.inr ⟨rfl,rfl⟩))),by dsimp only;decide⟩⟩,λh=>absurd h (by decide)⟩
 ·exact⟨λh=>absurd h (by decide),λ_=>⟨_,_,_,_,rfl,rfl,_,_,_,_,rfl,_,rfl,hK⟩⟩
theorem eclone_is {A:Option Addr} {l c:Nat} {M:Mem} {xs:List X_api_Expr} (h:SlV M A l c 7 (cl X_api_Expr.cells xs)) (hb:l<=1000000) (K:Nat->List Value->Mem->Prop) (hK:K l (cl X_api_Expr.cells xs) M):S_slices_Clone_Expr A l c M K:=by
 unfold S_slices_Clone_Expr
 refine⟨λhn=>?_,λ_=>⟨_,h,?_,by omega,by rw[Nat.zero_add,List.nil_append];exact hK⟩⟩
 ·have h0:l=0:=by
   rcases Nat.eq_zero_or_pos l with h0|h0
   ·exact h0
   ·obtain⟨b,o,e,_⟩:=h.2.2.2 h0
    rw[e]at hn;cases hn
  subst h0
  have hx:cl X_api_Expr.cells xs=[]:=List.eq_nil_of_length_eq_zero (by rw[h.1])
  rw[hx]at hK;exact hK
 ·intro u hu
  obtain⟨d,hd,hu⟩:=List.mem_flatten.1 hu
  obtain⟨x,_,rfl⟩:=List.mem_map.1 hd
  exact Xe_one x u hu
theorem edelete_is {i:Int} {rn:Nat} {rx:List Value} {M:Mem} (h0:0<=i) (hi:i<(rn:Int)) (h1:∀u∈rx,u.oneCell'=true) (K:Nat->List Value->Mem->Prop) (hK:K (rn-1) (rx.take (i.toNat*7)++rx.drop ((i.toNat+1)*7)) M):S_slices_Delete_Expr i (i+1) rn rx M K:=by
 unfold S_slices_Delete_Expr
 have e:(i+1).toNat=i.toNat+1:=by omega
 rw[e]
 refine⟨h0,by omega,by omega,by omega,λh=>by omega,λ_=>⟨h0,by omega,by omega,by omega,by omega,by omega,by omega,h1,by omega,by omega,by omega,by omega,?_⟩⟩
 rw[show i.toNat+(rn-(i.toNat+1))=rn-1 by omega]
 exact hK
theorem eput_is (ys:List X_api_Expr) (z x:X_api_Expr):putAt (cl X_api_Expr.cells ys++z.cells) (0+((ys.length:Nat):Int).toNat*7) x.cells=cl X_api_Expr.cells (ys++[x]):=by
 have e:cl X_api_Expr.cells ys++z.cells=cl X_api_Expr.cells (ys++[z]):=by unfold cl;simp
 rw[e,Int.toNat_natCast,cl_put Xe_len x (by simp)]
 congr 1
 simp
theorem with_is {k:Int} {A:Option Addr} {l c:Nat} {ys:List X_api_Expr} {M:Mem} (hb:ys.length<=1000000) (K:Value->Nat->List Value->Mem->Prop) (hK:K (.tuple #[]) (ys++[X_api_Expr.mk k z4 [] A l c]).length (cl X_api_Expr.cells (ys++[X_api_Expr.mk k z4 [] A l c])) M):C_mutate_turns_1 k A l c ys.length (cl X_api_Expr.cells ys) M K:=by
 refine s_mutate_turns_1 _ _ _ _ _ _ _ _ ?_
 unfold S_mutate_turns_1
 refine⟨by omega,by omega,by omega,?_⟩
 rw[eput_is]
 rw[List.length_append,List.length_singleton]at hK
 exact hK
end Go.Proofs.Ytmnilbfhfjdelaa.core

namespace Go.Proofs.Ytmnilbfhfjdelaa.core
open Go.Gx Go.RowKit Go.ChangeShapes Go.WideShapes Go.ChangeAt
set_option linter.unusedVariables false
def few (e:Ex):Prop:=∀q∈flatE e,q.kids.length<=8
theorem few_mk {k:Int} {s:X_api_Set} {t:List UInt8} {ks:List Ex} (hl:ks.length<=8) (h:∀x∈ks,few x):few (.mk k s t ks):=by
 intro q hq
 rw[flatE]at hq
 rcases List.mem_cons.1 hq with rfl|hq
 ·exact hl
 ·clear hl
  revert hq
  induction ks with
  |nil=>intro hq;rw[flatEs]at hq;cases hq
  |cons a r ih=>
   intro hq
   rw[flatEs]at hq
   rcases List.mem_append.1 hq with hq|hq
   ·exact h a (by simp) q hq
   ·exact ih (λx hx=>h x (by simp[hx])) (List.mem_cons_of_mem _ hq) hq
theorem few_kids {k:Int} {s:X_api_Set} {t:List UInt8} {ks:List Ex} (h:few (.mk k s t ks)):ks.length<=8/\∀x∈ks,few x:=by
 refine⟨h (.mk k s t ks) (by rw[flatE];simp),λx hx q hq=>h q ?_⟩
 rw[flatE]
 refine List.mem_cons_of_mem _ ?_
 clear h
 induction ks with
 |nil=>cases hx
 |cons a r ih=>
  rw[flatEs]
  rcases List.mem_cons.1 hx with rfl|hx
  ·exact List.mem_append_left _ hq
  ·exact List.mem_append_right _ (ih hx)
theorem lessL_mem {ks:List Ex} {i:Nat} {x:Ex} (h:x∈lessL ks i):x∈ks:=by
 unfold lessL at h
 rcases List.mem_append.1 h with h|h
 ·exact List.mem_of_mem_take h
 ·exact List.mem_of_mem_drop h
theorem lessL_len (ks:List Ex) (i:Nat):(lessL ks i).length<=ks.length:=by
 unfold lessL;simp;omega
theorem swapL_len (ks:List Ex) (i:Nat):(swapL ks i).length=ks.length:=by
 unfold swapL;split<;>simp
theorem swapL_mem {ks:List Ex} {i:Nat} {x:Ex} (h:x∈swapL ks i):x∈ks:=by
 unfold swapL at h
 split at h
 ·rename_i a b ha hb
  have hma:=List.mem_of_getElem? ha
  have hmb:=List.mem_of_getElem? hb
  rcases List.mem_or_eq_of_mem_set h with h|rfl
  ·rcases List.mem_or_eq_of_mem_set h with h|rfl
   ·exact h
   ·exact hmb
  ·exact hma
 ·exact h
theorem few_less {k:Int} {l:List Ex} (hl:l.length<=8) (h:∀x∈l,few x):few (lessE k l):=by
 unfold lessE
 split
 ·exact h _ (by simp)
 ·exact few_mk hl h
theorem turns_few:∀{e y:Ex},few e->y∈turnsE e->few y:=by
 rintro⟨k,s,t,ks⟩ y h hy
 obtain⟨h8,hk⟩:=few_kids h
 rw[turnsE]at hy
 have hd:∀i,few (lessE k (lessL ks i)):=λi=>few_less (by have:=lessL_len ks i;omega) λx hx=>hk x (lessL_mem hx)
 split at hy
 ·rw[List.mem_singleton]at hy;subst hy
  exact few_mk (by simp) (by simp)
 split at hy
 ·obtain⟨i,_,rfl⟩:=List.mem_map.1 hy
  exact hd i
 split at hy
 ·rcases List.mem_append.1 hy with hy|hy
  ·obtain⟨i,_,rfl⟩:=List.mem_map.1 hy
   exact hd i
  ·obtain⟨i,_,rfl⟩:=List.mem_map.1 hy
   exact few_mk (by rw[swapL_len];exact h8) λx hx=>hk x (swapL_mem hx)
 split at hy
 ·exact hk y (List.mem_of_mem_take hy)
 split at hy
 ·rw[List.mem_singleton]at hy;subst hy;exact few_mk h8 hk
 split at hy
 ·rw[List.mem_singleton]at hy;subst hy;exact few_mk h8 hk
 split at hy
 ·rw[List.mem_singleton]at hy;subst hy;exact few_mk h8 hk
 ·cases hy
theorem turns_len:∀{e:Ex},e.kids.length<=8->(turnsE e).length<=16:=by
 rintro⟨k,s,t,ks⟩ h
 simp only[Ex.kids]at h
 rw[turnsE]
 split
 ·simp
 split
 ·simp;omega
 split
 ·simp;omega
 split
 ·simp;omega
 split
 ·simp
 split
 ·simp
 split
 ·simp
 ·simp
mutual
theorem all_few:∀(e y:Ex),few e->y∈allE e->few y
 | .mk k s t ks,y,h,hy=>by
  rw[allE]at hy
  rcases List.mem_append.1 hy with hy|hy
  ·exact turns_few h hy
  ·obtain⟨h8,hk⟩:=few_kids h
   exact all_fews ks k [] y (by simpa using h8) (by simp) hk hy
theorem all_fews:∀(ks:List Ex) (k:Int) (pre:List Ex) (y:Ex),pre.length+ks.length<=8->(∀x∈pre,few x)->(∀x∈ks,few x)->y∈allEs k pre ks->few y
 |[],k,pre,y,_,_,_,hy=>by rw[allEs]at hy;cases hy
 |x::ks,k,pre,y,hl,hp,hk,hy=>by
  rw[allEs]at hy
  simp only[List.length_cons]at hl
  rcases List.mem_append.1 hy with hy|hy
  ·obtain⟨z,hz,rfl⟩:=List.mem_map.1 hy
   have:=all_few x z (hk x (by simp)) hz
   refine few_mk (by simp;omega) λw hw=>?_
   rcases List.mem_append.1 hw with hw|hw
   ·exact hp w hw
   ·rcases List.mem_cons.1 hw with rfl|hw
    ·exact this
    ·exact hk w (by simp[hw])
  ·refine all_fews ks k (pre++[x]) y (by simp;omega) (λw hw=>?_) (λw hw=>hk w (by simp[hw])) hy
   rcases List.mem_append.1 hw with hw|hw
   ·exact hp w hw
   ·rw[List.mem_singleton]at hw;subst hw;exact hk w (by simp)
end
mutual
theorem all_len:∀(e:Ex),few e->(allE e).length<=16*(flatE e).length
 | .mk k s t ks,h=>by
  obtain⟨h8,hk⟩:=few_kids h
  have h1:=turns_len (e:=.mk k s t ks) h8
  have h2:=all_lens ks k [] hk
  rw[allE,flatE,List.length_append,List.length_cons];omega
theorem all_lens:∀(ks:List Ex) (k:Int) (pre:List Ex),(∀x∈ks,few x)->(allEs k pre ks).length<=16*(flatEs ks).length
 |[],k,pre,_=>by rw[allEs,flatEs];simp
 |x::ks,k,pre,hk=>by
  have h1:=all_len x (hk x (by simp))
  have h2:=all_lens ks k (pre++[x]) λw hw=>hk w (by simp[hw])
  rw[allEs,flatEs,List.length_append,List.length_append,List.length_map];omega
end
theorem ExR.make {M:Mem} {k:Int} {s:X_api_Set} {t:List UInt8} {A:Option Addr} {l c:Nat} {ks:List Ex} {xs:List X_api_Expr} (hk:(Lit.int .i64 k).wf=true) (hs:wfS s) (ht:t.length<=maxLen)
  (hv:SlV M A l c 7 (cl X_api_Expr.cells xs)) (hall:All2 (ExR M) ks xs):ExR M (.mk k s t ks) ⟨k,s,t,A,l,c⟩:=by
 have h1:=hv.len Xe_len (by omega)
 have h2:=hall.length
 have:l=ks.length:=by omega
 subst this
 exact .mk hk hs ht hv h2 λi e x he hx=>hall.get' he hx
theorem All2.le {M M':Mem} {ks:List Ex} {xs:List X_api_Expr} (h:All2 (ExR M) ks xs) (hl:M.le M'):All2 (ExR M') ks xs:=h.mono λ_ _ h=>h.le hl
theorem copy_is:∀(n:Nat) (e:Ex),SizeOf.sizeOf e<n->e.kids.length<=140737488355328 / 80->(∀k∈flatE e,k.kids.length<=140737488355328 / 80)->∀{M:Mem} {x:X_api_Expr} {K:Value->Mem->Prop},ExR M e x->(∀M' y,M.le M'->ExR M' e y->K y.val M')->S_expr_Copy x M K:=by
 intro n
 induction n with
 |zero=>intro e h;omega
 |succ n ih=>
  intro e hn hl8 hall M x K hR hK
  obtain⟨xs0,hx⟩:=hR.open
  unfold S_expr_Copy
  refine⟨λi rn rx M1=>0<=i/\i<=e.kids.length/\M.le M1/\rn=i.toNat/\∃xs,rx=cl X_api_Expr.cells xs/\All2 (ExR M1) (e.kids.take i.toNat) xs,λi _ _=>e.kids.length-i.toNat,⟨by omega,by omega,Mem.le.refl M,rfl,[],rfl,rfl⟩,λi rn rx M1 ⟨i0,i1,hM1,hrn,xs,hrx,hxs⟩=>⟨λhlt=>?_,λhge=>?_⟩⟩
  ·rw[hx.len]at hlt
   subst hrn hrx
   obtain⟨k,hk⟩:=getI (l:=e.kids) i0 hlt
   obtain⟨xs1,hx1⟩:=(hR.le hM1).open
   obtain⟨b,o,y,ha,hat,hy,_⟩:=hx1.kid hk
   have hmem:=List.mem_of_getElem? hk
   refine⟨b,o,ha,i0,by rw[hx.len];exact hlt,y,hat,s_expr_Copy _ _ _ (ih k (by have:=Ex.kid_lt hmem;omega) (hall k (flatE_kid hmem k (flatE_self k))) (λz hz=>hall z (flatE_kid hmem z hz)) hy λM2 y2 hle2 hy2=>⟨_,rfl,by omega,by unfold InI;omega,⟨by omega,by omega,hM1.trans hle2,by omega,xs++[y2],cl_snoc xs y2,?_⟩,by dsimp only;omega⟩)⟩
   rw[show(i+1).toNat=i.toNat+1 by omega,take_get hk]
   exact(All2.le hxs hle2).snoc hy2
  ·rw[hx.len]at hge
   subst hrn hrx
   intro M2 ad cap hle2 hsl2 M3 hle3
   rw[List.take_of_length_le (by omega)]at hxs
   have h:=ExR.make (M:=M3) (k:=e.kind) (s:=e.set) (t:=e.text) hx.hk hx.hs hx.ht (hsl2.le hle3) (All2.le hxs (hle2.trans hle3))
   rw[hx.kind,hx.set,hx.text]
   exact hK M3 _ ((hM1.trans hle2).trans hle3) (by cases e;exact h)
theorem slvE_nil (M:Mem) (sz:Nat):SlV M none 0 0 sz []:=⟨by simp,Nat.le_refl _,Nat.zero_le _,λh=>by omega⟩
theorem wf_z4:wfS z4:=by unfold wfS z4;decide
theorem all2_set {α β:Type} {R:α->β->Prop}:∀{l:List α} {bs:List β},All2 R l bs->∀{a:α} {b:β},R a b->∀i:Nat,All2 R (l.set i a) (bs.set i b)
 |[],bs,h,a,b,_,i=>by
  cases bs with
  |nil=>exact h
  |cons=>cases h
 |a::l,bs,h,a',b',hr,i=>by
  obtain⟨b,bs',rfl,h1,h2⟩:=h
  cases i with
  |zero=>exact⟨b',bs',rfl,hr,h2⟩
  |succ i=>exact⟨b,bs'.set i b',rfl,h1,all2_set h2 hr i⟩
def TnR (M:Mem) (es:List Ex) (n:Nat) (rx:List Value):Prop:=∃ys:List X_api_Expr,n=ys.length/\rx=cl X_api_Expr.cells ys/\All2 (ExR M) es ys
theorem TnR.le {M M':Mem} {es:List Ex} {n:Nat} {rx:List Value} (h:TnR M es n rx) (hl:M.le M'):TnR M' es n rx:=by
 obtain⟨ys,h1,h2,h3⟩:=h
 exact⟨ys,h1,h2,All2.le h3 hl⟩
theorem TnR.nil (M:Mem):TnR M [] 0 []:=⟨[],rfl,rfl,rfl⟩
theorem TnR.snoc {M:Mem} {es:List Ex} {n:Nat} {rx:List Value} (h:TnR M es n rx) {e:Ex} {z x:X_api_Expr} (hx:ExR M e x):TnR M (es++[e]) (n+1) (putAt (rx++z.cells) (0+((n:Nat):Int).toNat*7) x.cells):=by
 obtain⟨ys,rfl,rfl,h3⟩:=h
 exact⟨ys++[x],by simp,eput_is ys z x,h3.snoc hx⟩
theorem TnR.len {M:Mem} {es:List Ex} {n:Nat} {rx:List Value} (h:TnR M es n rx):n=es.length:=by
 obtain⟨ys,rfl,rfl,h3⟩:=h
 exact h3.length
theorem within_mk {M:Mem} {es ks:List Ex} {n:Nat} {rx:List Value} (h:TnR M es n rx) (hn:es.length<=1000000) {k:Int} {A:Option Addr} {l c:Nat} {xs:List X_api_Expr} (hk:(Lit.int .i64 k).wf=true) (hv:SlV M A l c 7 (cl X_api_Expr.cells xs)) (hall:All2 (ExR M) ks xs) (K:Value->Nat->List Value->Mem->Prop)
  (hK:∀n' rx',TnR M (es++[.mk k z4 [] ks]) n' rx'->K (.tuple #[]) n' rx' M):C_mutate_turns_1 k A l c n rx M K:=by
 have hlen:=h.len
 obtain⟨ys,rfl,rfl,h3⟩:=h
 exact with_is (by omega) K (hK _ _ ⟨_,rfl,rfl,h3.snoc (ExR.make hk wf_z4 (by simp) hv hall)⟩)
theorem less_cells {xs:List X_api_Expr} (i:Nat):(cl X_api_Expr.cells xs).take (i*7)++(cl X_api_Expr.cells xs).drop ((i+1)*7)=cl X_api_Expr.cells (xs.take i++xs.drop (i+1)):=by
 rw[cl_take Xe_len,cl_drop Xe_len,cl_append]
theorem turns_is {e:Ex} {x:X_api_Expr} {M:Mem} {K:Nat->List Value->Mem->Prop} (hR:ExR M e x) (h8:e.kids.length<=8) (h1:e.kind=7\/e.kind=9->e.kids≠[]) (hK:∀M' n rx,M.le M'->TnR M' (turnsE e) n rx->K n rx M'):C_mutate_turns x M K:=by
 refine s_mutate_turns _ _ _ ?_
 obtain⟨xs,hx⟩:=hR.open
 obtain⟨k,s,t,ks⟩:=e
 have hkind:=hx.kind
 have hlen:=hx.len
 have hk0:=hx.hk
 have hxl:=hx.xl
 simp only[Ex.kind,Ex.kids]at hkind hlen hk0 h8 h1 hxl
 rw[turnsE]at hK
 unfold S_mutate_turns
 rw[hkind]
 refine⟨λh2=>?_,λh2=>?_⟩
 ·rw[if_pos h2]at hK
  have hs:=hx.hs
  simp only[Ex.set]at hs
  have hset:x.Set=s:=hx.set
  rw[hset]
  exact s_set_Not _ _ _ (not_is hs _ ⟨compS s,rfl,by omega,by omega,by omega,hK M _ _ (Mem.le.refl M) ((TnR.nil M).snoc (ExR.make (xs:=[]) (by decide) (Us_wf _) (by simp) (slvE_nil M 7) (show All2 (ExR M) [] [] from rfl)))⟩)
 rw[if_neg h2]at hK
 have two:∀(i:Int),0<=i->i<(ks.length:Int)->∃k',ks[i.toNat]?=some k':=λi a b=>getI a b
 have loops:k=5\/k=6->S_mutate_turns_J1 x M true K:=by
  intro h56
  unfold S_mutate_turns_J1
  refine⟨λ_=>?_,λh=>absurd rfl h⟩
  refine⟨λi n rx M'=>0<=i/\i<=ks.length/\M.le M'/\TnR M' ((List.range i.toNat).map λi=>lessE k (lessL ks i)) n rx,λi _ _=>ks.length-i.toNat,⟨by omega,by omega,Mem.le.refl M,TnR.nil M⟩,λi n rx M1 ⟨i0,i1,hle,hT⟩=>⟨λhlt=>?_,λhge=>?_⟩⟩
  ·rw[hlen]at hlt
   have hn:=hT.len
   rw[List.length_map,List.length_range]at hn
   have j2:∀M2 n' rx',M1.le M2->TnR M2 ((List.range i.toNat).map (λi=>lessE k (lessL ks i))++[lessE k (lessL ks i.toNat)]) n' rx'->S_mutate_turns_J2 i n rx (λi n rx M'=>0<=i/\i<=ks.length/\M.le M'/\TnR M' ((List.range i.toNat).map λi=>lessE k (lessL ks i)) n rx) (λi _ _=>ks.length-i.toNat) n' rx' M2 K:=λM2 n' rx' hle2 h=>⟨by unfold InI;omega,⟨by omega,by omega,hle.trans hle2,by rw[show(i+1).toNat=i.toNat+1 by omega,List.range_succ,List.map_append];exact h⟩,by dsimp only;omega⟩
   have hx1:=(hR.le hle).open
   refine⟨λh2'=>?_,λh2'=>?_⟩
   ·rw[hlen]at h2'
    obtain⟨k',hk'⟩:=two (1-i) (by omega) (by omega)
    obtain⟨xs1,hx1⟩:=hx1
    obtain⟨b,o,y,ha,hat,hy,_⟩:=hx1.kid hk'
    refine⟨by unfold InI;omega,b,o,ha,by omega,by rw[hlen];omega,y,hat,by omega,by omega,by omega,j2 M1 _ _ (Mem.le.refl M1) ?_⟩
    have:lessE k (lessL ks i.toNat)=k':=by
     match ks,h2',hk' with
     |[a,b],_,hk'=>
      have:i=0\/i=1:=by simp at hlt;omega
      rcases this with rfl|rfl
      ·simp at hk';subst hk';rfl
      ·simp at hk';subst hk';rfl
    rw[this]
    exact hT.snoc hy
   ·rw[hlen]at h2'
    obtain⟨xs1,hx1⟩:=hx1
    have hxl1:=hx1.xl
    simp only[Ex.kids]at hxl1
    refine⟨by unfold InI;omega,s_slices_Clone_Expr _ _ _ _ _ (eclone_is hx1.sl (by omega) _ ?_)⟩
    refine s_slices_Delete_Expr _ _ _ _ _ _ (edelete_is i0 (by omega) (cl_one' Xe_one _) _ ?_)
    intro M2 ad cap hle2 hsl
    rw[less_cells]at hsl
    have hl:lessE k (lessL ks i.toNat)= .mk k z4 [] (lessL ks i.toNat):=by
     have:(lessL ks i.toNat).length≠1:=by unfold lessL;simp;omega
     unfold lessE
     split
     ·rename_i h;rw[h]at this;exact absurd rfl this
     ·rfl
    rw[hkind]
    refine within_mk (hT.le hle2) (by simp;omega) hk0 hsl (ks:=lessL ks i.toNat) (All2.le ?_ hle2) _ λn' rx' h=>⟨rfl,j2 M2 _ _ hle2 (by rw[hl];exact h)⟩
    exact(hx1.kids.take i.toNat).append (hx1.kids.drop (i.toNat+1))
  ·rw[hlen]at hge
   have hi:i.toNat=ks.length:=by omega
   rw[hi]at hT
   have hn0:=hT.len
   rw[List.length_map,List.length_range]at hn0
   refine⟨λi n rx M'=>1<=i/\(k=6->i<=ks.length\/i=1)/\M.le M'/\(k=5->i=1)/\TnR M' ((List.range ks.length).map (λi=>lessE k (lessL ks i))++(List.range (i.toNat-1)).map λi=>.mk k z4 [] (swapL ks i)) n rx,λi _ _=>ks.length-i.toNat,⟨by omega,by omega,hle,by omega,by simpa using hT⟩,λi n rx M1 ⟨i0,i1,hle,h5,hT⟩=>⟨λhlt=>?_,λhge=>?_⟩⟩
   ·rw[hlen]at hlt
    have hn:=hT.len
    rw[List.length_append,List.length_map,List.length_range,List.length_map,List.length_range]at hn
    unfold S_mutate_turns_J3
    refine⟨λh6=>?_,λh6=>?_⟩
    ·have h6:k=6:=by rw[hkind]at h6;simpa using h6
     obtain⟨xs1,hx1⟩:=(hR.le hle).open
     have hxl1:=hx1.xl
     simp only[Ex.kids]at hxl1
     refine s_slices_Clone_Expr _ _ _ _ _ (eclone_is hx1.sl (by omega) _ ?_)
     obtain⟨p,hp⟩:=two i (by omega) (by omega)
     obtain⟨q,hq⟩:=two (i-1) (by omega) (by omega)
     obtain⟨y,hy,hyr⟩:=hx1.kids.get hp
     obtain⟨z,hz,hzr⟩:=hx1.kids.get hq
     rw[hlen]
     refine⟨by unfold InI;omega,by omega,by omega,y,cl_Cs Xe_len hy,by unfold InI;omega,by omega,by omega,z,cl_Cs Xe_len hz,by omega,by omega,by omega,by omega,?_⟩
     intro M2 ad cap hle2 hsl
     have hi':i.toNat=(i-1).toNat+1:=by omega
     rw[cl_put Xe_len _ (by omega),cl_put Xe_len _ (by simp;omega)]at hsl
     rw[hkind]
     refine within_mk (hT.le hle2) (by simp;omega) hk0 hsl (ks:=swapL ks (i-1).toNat) (All2.le ?_ hle2) _ λn' rx' h=>⟨rfl,by unfold InI;omega,⟨by omega,by omega,hle.trans hle2,by omega,?_⟩,by dsimp only;omega⟩
     ·unfold swapL
      rw[hq,<-hi',hp]
      exact all2_set (all2_set hx1.kids hyr _) hzr _
     ·rw[show(i+1).toNat-1=(i.toNat-1)+1 by omega,List.range_succ,List.map_append,<-List.append_assoc,show i.toNat-1=(i-1).toNat by omega]
      rw[show i.toNat-1=(i-1).toNat by omega]at h
      exact h
    ·have h5':k=5:=by
      rcases h56 with h|h
      ·exact h
      ·exact absurd (by rw[hkind,h];rfl) h6
     rw[if_pos h5']at hK
     refine hK _ _ _ hle ?_
     rw[h5 h5']at hT
     simpa using hT
   ·rw[hlen]at hge
    unfold S_mutate_turns_J3
    refine⟨λh=>absurd h (by decide),λ_=>hK _ _ _ hle ?_⟩
    rcases h56 with h|h
    ·rw[if_pos h]
     rw[h5 h]at hT
     simpa using hT
    ·rw[if_neg (by omega),if_pos h]
     have:i.toNat-1=ks.length-1:=by omega
     rw[this,h]at hT
     rw[h];exact hT
 refine⟨λh5=>(by rw[h5];exact loops (.inl h5)),λh5=>?_⟩
 by_cases h6:k=6
 ·rw[h6];exact loops (.inr h6)
 rw[if_neg h5,if_neg h6]at hK
 have hb:((k:Int)==(6:Int))=false:=by simpa using h6
 rw[hb]
 have j4:(k=7\/k=9)->S_mutate_turns_J4 x M true K:=by
  intro h79
  rw[if_pos h79]at hK
  unfold S_mutate_turns_J4
  refine⟨λ_=>?_,λh=>absurd rfl h⟩
  have hne:0<ks.length:=List.length_pos_iff.2 (h1 h79)
  obtain⟨k',hk'⟩:=two 0 (by omega) (by omega)
  obtain⟨b,o,y,ha,hat,hy,_⟩:=hx.kid hk'
  refine⟨b,o,ha,by omega,by rw[hlen];omega,y,hat,by omega,by omega,by omega,hK M _ _ (Mem.le.refl M) ?_⟩
  have:ks.take 1=[k']:=by
   cases ks with
   |nil=>cases hne
   |cons a r=>simp at hk';subst hk';rfl
  rw[this]
  exact(TnR.nil M).snoc hy
 unfold S_mutate_turns_J1
 refine⟨λh=>absurd h (by decide),λ_=>?_⟩
 rw[hkind]
 refine⟨λh7=>(by rw[h7];exact j4 (.inl h7)),λh7=>?_⟩
 by_cases h9:k=9
 ·rw[h9];exact j4 (.inr h9)
 have hb:((k:Int)==(9:Int))=false:=by simpa using h9
 rw[hb]
 rw[if_neg (by omega)]at hK
 unfold S_mutate_turns_J4
 rw[hkind]
 have one:∀k':Int,(Lit.int .i64 k').wf=true->(∀M' n rx,M.le M'->TnR M' [.mk k' z4 [] ks] n rx->K n rx M')->C_mutate_turns_1 k' x.Kids_a x.Kids_l x.Kids_c 0 [] M (λv rn204 rx205 M203=>v=(Value.tuple #[])/\(S_mutate_turns_J5 rn204 rx205 M203 K)):=λk' hw hK=>
  within_mk (TnR.nil M) (by simp) hw hx.sl hx.kids _ λn' rx' h=>⟨rfl,hK M _ _ (Mem.le.refl M) h⟩
 refine⟨λh=>absurd h (by decide),λ_=>⟨λh=>?_,λh=>⟨λh'=>?_,λh'=>⟨λh''=>?_,λh''=>?_⟩⟩⟩⟩
 ·exact one 7 (by decide) (by rw[if_pos h]at hK;exact hK)
 ·exact one 11 (by decide) (by rw[if_neg h,if_pos h']at hK;exact hK)
 ·exact one 10 (by decide) (by rw[if_neg h,if_neg h',if_pos h'']at hK;exact hK)
 ·rw[if_neg h,if_neg h',if_neg h'']at hK
  exact hK M _ _ (Mem.le.refl M) (TnR.nil M)
end Go.Proofs.Ytmnilbfhfjdelaa.core

namespace Go.Proofs.Ytmnilbfhfjdelaa.core
open Go.Gx Go.RowKit Go.ChangeShapes Go.WideShapes Go.ChangeAt
set_option linter.unusedVariables false
def kidT (k:Int) (ks:List Ex) (p:Ex×Nat):List Ex:=(allE p.1).map λy=>.mk k z4 [] (ks.set p.2 y)
theorem put_mid {α:Type} (pre:List α) (x y:α) (r:List α):(pre++x::r).set pre.length y=pre++y::r:=by
 induction pre with
 |nil=>rfl
 |cons a t ih=>simp
theorem allEs_zip (k:Int):∀(ks pre:List Ex),allEs k pre ks=(ks.zipIdx pre.length).flatMap (kidT k (pre++ks)):=by
 intro ks
 induction ks with
 |nil=>intro pre;rw[allEs];rfl
 |cons x r ih=>
  intro pre
  rw[allEs,List.zipIdx_cons,List.flatMap_cons,ih (pre++[x])]
  congr 1
  ·unfold kidT
   simp only[put_mid]
  ·rw[List.length_append,List.length_singleton,List.append_assoc,List.singleton_append]
theorem allE_zip (k:Int) (s:X_api_Set) (t:List UInt8) (ks:List Ex):allE (.mk k s t ks)=turnsE (.mk k s t ks)++(ks.zipIdx 0).flatMap (kidT k ks):=by
 rw[allE,allEs_zip k ks []];rfl
theorem TnR.snoc' {M:Mem} {es:List Ex} {n:Nat} {rx:List Value} (h:TnR M es n rx) {e:Ex} {x:X_api_Expr} (hx:ExR M e x):TnR M (es++[e]) (n+1) (rx++x.cells):=by
 obtain⟨ys,rfl,rfl,h3⟩:=h
 exact⟨ys++[x],by simp,cl_snoc ys x,h3.snoc hx⟩
theorem TnR.at {M:Mem} {es:List Ex} {n:Nat} {rx:List Value} (h:TnR M es n rx) {i:Int} (h0:0<=i) (h1:i<((n:Nat):Int)):∃e x,es[i.toNat]?=some e/\Cs rx (0+i.toNat*7) x.cells/\ExR M e x:=by
 have hl:=h.len
 obtain⟨ys,rfl,rfl,h3⟩:=h
 obtain⟨e,he⟩:=getI (l:=es) h0 (by omega)
 obtain⟨x,hx,hr⟩:=h3.get he
 exact⟨e,x,he,cl_Cs Xe_len hx,hr⟩
def firsts (e:Ex):Prop:=∀q∈flatE e,(q.kind=7\/q.kind=9)->q.kids≠[]
theorem take_len_le {α β:Type} (f:α->List β):∀(l:List α) (n:Nat),((l.take n).flatMap f).length<=(l.flatMap f).length:=by
 intro l
 induction l with
 |nil=>intro n;simp
 |cons a r ih=>
  intro n
  cases n with
  |zero=>simp
  |succ n=>rw[List.take_succ_cons,List.flatMap_cons,List.flatMap_cons,List.length_append,List.length_append];have:=ih n;omega
theorem all_is:∀(n:Nat) (e:Ex),SizeOf.sizeOf e<n->few e->firsts e->(flatE e).length<=1000->∀{M:Mem} {x:X_api_Expr} {K:Nat->List Value->Mem->Prop},ExR M e x->(∀M' n rx,M.le M'->TnR M' (allE e) n rx->K n rx M')->C_mutate_all x M K:=by
 intro n
 induction n with
 |zero=>intro e h;omega
 |succ n ih=>
  intro e hn h8 h1 hf M x K hR hK
  have hal:=all_len e h8
  refine s_mutate_all _ _ _ ?_
  obtain⟨k,s,t,ks⟩:=e
  have hk8:=(few_kids h8).1
  unfold S_mutate_all
  refine turns_is hR hk8 (λh=>h1 _ (by rw[flatE];simp) h) λM1 n1 rx1 hle1 hT1=>?_
  rw[allE_zip]at hK hal
  obtain⟨xs,hx⟩:=hR.open
  have hlen:=hx.len
  have hkind:=hx.kind
  have hk0:=hx.hk
  simp only[Ex.kids,Ex.kind]at hlen hkind hk0
  refine⟨λi n rx M'=>0<=i/\i<=ks.length/\M.le M'/\TnR M' (turnsE (.mk k s t ks)++((ks.zipIdx 0).take i.toNat).flatMap (kidT k ks)) n rx,λi _ _=>ks.length-i.toNat,⟨by omega,by omega,hle1,by simpa using hT1⟩,λi n2 rx2 M2 ⟨i0,i1,hle,hT⟩=>⟨λhlt=>?_,λhge=>?_⟩⟩
  ·rw[hlen]at hlt
   obtain⟨k',hk'⟩:=getI (l:=ks) i0 hlt
   obtain⟨xs2,hx2⟩:=(hR.le hle).open
   obtain⟨b,o,y,ha,hat,hy,_⟩:=hx2.kid hk'
   have hmem:=List.mem_of_getElem? hk'
   have hp:(ks.zipIdx 0)[i.toNat]?=some (k',i.toNat):=by rw[List.getElem?_zipIdx,hk'];simp
   have hstep:(turnsE (.mk k s t ks)++((ks.zipIdx 0).take (i.toNat+1)).flatMap (kidT k ks))=(turnsE (.mk k s t ks)++((ks.zipIdx 0).take i.toNat).flatMap (kidT k ks))++kidT k ks (k',i.toNat):=by
    rw[take_get hp,List.flatMap_append,List.append_assoc];simp
   have hbound:(turnsE (.mk k s t ks)++((ks.zipIdx 0).take (i.toNat+1)).flatMap (kidT k ks)).length<=16*1000:=by
    have:=take_len_le (kidT k ks) (ks.zipIdx 0) (i.toNat+1)
    rw[List.length_append]at hal ⊢
    omega
   rw[hstep,List.length_append]at hbound
   have hsub:(flatE k').length<=1000:=by
    have:=flatE_kidlen (e:=.mk k s t ks) hmem
    omega
   refine⟨b,o,ha,i0,by rw[hlen];exact hlt,y,hat,ih k' (by have:=Ex.kid_lt (e:=.mk k s t ks) hmem;omega) (λq hq=>h8 q (flatE_kid (e:=.mk k s t ks) hmem q hq)) (λq hq=>h1 q (flatE_kid (e:=.mk k s t ks) hmem q hq)) hsub hy λM3 n3 rx3 hle3 hT3=>?_⟩
   have hn3:=hT3.len
   refine⟨λj n rx M'=>0<=j/\j<=n3/\M3.le M'/\TnR M' ((turnsE (.mk k s t ks)++((ks.zipIdx 0).take i.toNat).flatMap (kidT k ks))++((allE k').take j.toNat).map λy=>.mk k z4 [] (ks.set i.toNat y)) n rx,λj _ _=>n3-j.toNat,⟨by omega,by omega,Mem.le.refl M3,by simpa using hT.le hle3⟩,λj n4 rx4 M4 ⟨j0,j1,hle4,hT4⟩=>⟨λhjl=>?_,λhjg=>?_⟩⟩
   ·obtain⟨y',z,hy',hcs,hz⟩:=hT3.at j0 hjl
    obtain⟨xs4,hx4⟩:=((hR.le hle).le (hle3.trans hle4)).open
    have hxl4:=hx4.xl
    simp only[Ex.kids]at hxl4
    have hn4:=hT4.len
    refine⟨j0,hjl,z,hcs,s_slices_Clone_Expr _ _ _ _ _ (eclone_is hx4.sl (by omega) _ ⟨i0,by rw[hlen];exact hlt,λM5 ad cap hle5 hsl=>?_⟩)⟩
    rw[cl_put Xe_len _ (by omega)]at hsl
    have hkb:(kidT k ks (k',i.toNat)).length=(allE k').length:=by unfold kidT;simp
    have:n4<=16*1000:=by
     rw[hn4,List.length_append,List.length_map,List.length_take]
     omega
    refine⟨by omega,by unfold InI;omega,⟨by omega,by omega,hle4.trans hle5,?_⟩,by dsimp only;omega⟩
    rw[show(j+1).toNat=j.toNat+1 by omega,take_get hy',List.map_append,<-List.append_assoc]
    rw[hkind]
    exact(hT4.le hle5).snoc' (ExR.make (k:=k) hk0 wf_z4 (by simp) hsl (All2.le (all2_set hx4.kids (hz.le hle4) i.toNat) hle5))
   ·refine⟨by unfold InI;omega,⟨by omega,by omega,hle.trans (hle3.trans hle4),?_⟩,by dsimp only;omega⟩
    rw[show(i+1).toNat=i.toNat+1 by omega,hstep]
    rw[List.take_of_length_le (l:=allE k') (by omega)]at hT4
    exact hT4
  ·rw[hlen]at hge
   rw[List.take_of_length_le (by simp;omega)]at hT
   exact hK _ _ _ hle hT
end Go.Proofs.Ytmnilbfhfjdelaa.core

namespace Go.Proofs.Ytmnilbfhfjdelaa.core
open Go.Gx Go.RowKit Go.ChangeShapes Go.WideShapes Go.ChangeAt
set_option linter.unusedVariables false
theorem slC1 (x:Sl3):(slC x).length=1:=rfl
def mutR (rs:List Ru) (p:Ru×Nat):List (List Ru):=(allE p.1.body).map λy=>rs.set p.2 ⟨p.1.name,y⟩
noncomputable def okF (g:List Ru):Bool:=decide ((wellP g).2=0)
noncomputable def mutG (rs:List Ru):List (List Ru):=((rs.zipIdx 0).flatMap (mutR rs)).filter okF
def GgR (M:Mem) (gs:List (List Ru)) (n:Nat) (rx:List Value):Prop:=∃ys:List Sl3,n=ys.length/\rx=cl slC ys/\All2 (λg y=>GrR M g y.a y.l y.c) gs ys
theorem GgR.le {M M':Mem} {gs:List (List Ru)} {n:Nat} {rx:List Value} (h:GgR M gs n rx) (hl:M.le M'):GgR M' gs n rx:=by
 obtain⟨ys,h1,h2,h3⟩:=h
 exact⟨ys,h1,h2,h3.mono λ_ _ h=>h.le hl⟩
theorem GgR.nil (M:Mem):GgR M [] 0 []:=⟨[],rfl,rfl,rfl⟩
theorem GgR.snoc {M:Mem} {gs:List (List Ru)} {n:Nat} {rx:List Value} (h:GgR M gs n rx) {g:List Ru} {a:Option Addr} {l c:Nat} (hg:GrR M g a l c):GgR M (gs++[g]) (n+1) (rx++[.slice a l c]):=by
 obtain⟨ys,rfl,rfl,h3⟩:=h
 exact⟨ys++[⟨a,l,c⟩],by simp,cl_snoc ys (⟨a,l,c⟩:Sl3),h3.snoc hg⟩
theorem few_good {rs:List Ru} {e:Ex} (h:GoodE rs e):few e/\firsts e:=by
 have:∀(n:Nat) (e:Ex),SizeOf.sizeOf e<n->GoodE rs e->∀q∈flatE e,GoodE rs q:=by
  intro n
  induction n with
  |zero=>intro e h;omega
  |succ n ih=>
   intro e hn h q hq
   obtain⟨k,s,t,ks⟩:=e
   rw[flatE]at hq
   rcases List.mem_cons.1 hq with rfl|hq
   ·exact h
   have key:∀l:List Ex,(∀x∈l,x∈ks)->q∈flatEs l->GoodE rs q:=by
    intro l
    induction l with
    |nil=>intro _ h;rw[flatEs]at h;cases h
    |cons a r iht=>
     intro hs h'
     rw[flatEs]at h'
     rcases List.mem_append.1 h' with h'|h'
     ·have hm:a∈(Ex.mk k s t ks).kids:=hs a (by simp)
      exact ih a (by have:=Ex.kid_lt hm;omega) (h.kid a hm) q h'
     ·exact iht (λx hx=>hs x (by simp[hx])) h'
   exact key ks (λx hx=>hx) hq
 refine⟨λq hq=>?_,λq hq hk=>?_⟩
 ·have hf:=fitE_kinds (this _ e (Nat.lt_succ_self _) h q hq).fit
  obtain⟨f1,f2,f3,f4,f5,_⟩:=hf
  by_cases h4:q.kind<=4
  ·rw[f3 h4];simp
  by_cases h7:7<=q.kind
  ·have:=f5 h7;omega
  ·have:=f4 (by omega);omega
 ·have hf:=fitE_kinds (this _ e (Nat.lt_succ_self _) h q hq).fit
  obtain⟨f1,f2,f3,f4,f5,_⟩:=hf
  intro h0
  have:=f5 (by omega)
  rw[h0]at this;simp at this
theorem mutants_is {rs:List Ru} {ga:Option Addr} {gl gc:Nat} {M:Mem} {K:Value->Mem->Prop} (hg:GrR M rs ga gl gc) (h1:(wellP rs).2≠0->∀M',M.le M'->K (.tuple #[.slice none 0 0,.int .i64 (wellP rs).2]) M')
  (hW:(wellP rs).2=0->GramOk rs)
  (h2:(wellP rs).2=0->∀M' A n c rx,M.le M'->SlV M' A n c 1 rx->GgR M' (mutG rs) n rx->K (.tuple #[.slice A n c,.int .i64 0]) M'):S_mutate_Mutants ga gl gc M K:=by
 unfold S_mutate_Mutants
 refine s_well_Well _ _ _ _ _ (wwell_is hg _ ⟨_,_,rfl,h1,λh0=>?_⟩)
 have h0:(wellP rs).2=0:=Decidable.not_not.1 h0
 have ok:=hW h0
 have h2:=h2 h0
 have hgl:=hg.max.1
 have h10:=ok.ten
 refine⟨λi n rx M'=>0<=i/\i<=rs.length/\M.le M'/\n<=1000*i.toNat/\GgR M' (((rs.zipIdx 0).take i.toNat).flatMap (mutR rs) |>.filter okF) n rx,λi _ _=>rs.length-i.toNat,⟨by omega,by omega,Mem.le.refl M,by omega,GgR.nil M⟩,λi n rx M1 ⟨i0,i1,hle,hn,hT⟩=>⟨λhlt=>?_,λhge=>?_⟩⟩
 ·obtain⟨r,x,b,o,hr,hb,hat,hrr⟩:=(hg.le hle).at i0 hlt
  have hmem:=List.mem_of_getElem? hr
  obtain⟨f8,f1⟩:=few_good (ok.good r hmem)
  have f60:=(flat_max (ok.err r hmem)).1
  have hal:=all_len r.body f8
  have hp:(rs.zipIdx 0)[i.toNat]?=some (r,i.toNat):=by rw[List.getElem?_zipIdx,hr];simp
  refine⟨b,o,hb,i0,hlt,x,hat,all_is _ r.body (Nat.lt_succ_self _) f8 f1 (by omega) hrr.2.2 λM2 n2 rx2 hle2 hT2=>?_⟩
  have hn2:=hT2.len
  refine⟨λj n rx M'=>0<=j/\j<=n2/\M2.le M'/\n<=1000*i.toNat+j.toNat/\GgR M' ((((rs.zipIdx 0).take i.toNat).flatMap (mutR rs)++((allE r.body).take j.toNat).map λy=>rs.set i.toNat ⟨r.name,y⟩).filter okF) n rx,λj _ _=>n2-j.toNat,⟨by omega,by omega,Mem.le.refl M2,by omega,by simpa using hT.le hle2⟩,λj n3 rx3 M3 ⟨j0,j1,hle3,hn3,hT3⟩=>⟨λhjl=>?_,λhjg=>?_⟩⟩
  ·obtain⟨y,z,hy,hcs,hz⟩:=hT2.at j0 hjl
   have hyf:few y:=all_few _ _ f8 (List.mem_of_getElem? hy)
   refine⟨j0,hjl,z,hcs,?_⟩
   refine⟨λk n rx M'=>0<=k/\k<=rs.length/\M3.le M'/\∃xs,n=xs.length/\rx=cl X_api_Rule.cells xs/\All2 (RuR M') ((rs.set i.toNat ⟨r.name,y⟩).take k.toNat) xs,λk _ _=>rs.length-k.toNat,⟨by omega,by omega,Mem.le.refl M3,[],rfl,rfl,rfl⟩,λk n4 rx4 M4 ⟨k0,k1,hle4,xs,hn4,hrx4,hxs⟩=>⟨λhkl=>?_,λhkg=>?_⟩⟩
   ·obtain⟨r2,x2,b2,o2,hr2,hb2,hat2,hrr2⟩:=(hg.le (hle.trans (hle2.trans (hle3.trans hle4)))).at k0 hkl
    have hlx:=hxs.length
    rw[List.length_take,List.length_set]at hlx
    refine⟨b2,o2,hb2,k0,hkl,x2,hat2,?_⟩
    have cp:∀(e:Ex) (w:X_api_Expr),ExR M4 e w->few e->(rs.set i.toNat ⟨r.name,y⟩)[k.toNat]?=some ⟨r2.name,e⟩->S_mutate_Mutants_J1 k n4 rx4 M4 (λk n rx M'=>0<=k/\k<=rs.length/\M3.le M'/\∃xs,n=xs.length/\rx=cl X_api_Rule.cells xs/\All2 (RuR M') ((rs.set i.toNat ⟨r.name,y⟩).take k.toNat) xs) (λk _ _=>rs.length-k.toNat) x2 w.Kind w.Set.w0 w.Set.w1 w.Set.w2 w.Set.w3 w.Text w.Kids_a w.Kids_l w.Kids_c K:=by
     intro e w hw hf hat
     unfold S_mutate_Mutants_J1
     refine s_expr_Copy _ _ _ (copy_is _ e (Nat.lt_succ_self _) (by have:=hf e (flatE_self e);omega) (λq hq=>by have:=hf q hq;omega) hw λM5 w5 hle5 hw5=>⟨w5,rfl,by omega,by unfold InI;omega,⟨by omega,by omega,hle4.trans hle5,xs++[⟨x2.Name,w5⟩],by simp[hn4],by rw[hrx4];exact cl_snoc xs (⟨x2.Name,w5⟩:X_api_Rule),?_⟩,by dsimp only;omega⟩)
     rw[show(k+1).toNat=k.toNat+1 by omega,take_get hat]
     exact(hxs.mono λ_ _ h=>h.le hle5).snoc ⟨hrr2.1,hrr2.2.1,hw5⟩
    refine⟨λhe=>?_,λhne=>?_⟩
    ·subst he
     rw[hr]at hr2;cases hr2
     exact cp y z (hz.le (hle3.trans hle4)) hyf (by rw[List.getElem?_set_self (by omega)])
    ·have hm2:=List.mem_of_getElem? hr2
     exact cp r2.body x2.Body hrr2.2.2 (few_good (ok.good r2 hm2)).1 (by rw[List.getElem?_set_ne (by omega),hr2])
   ·intro M5 ad cap hle5 hsl
    rw[List.take_of_length_le (by simp;omega)]at hxs
    subst hrx4
    have hg5:GrR M5 (rs.set i.toNat ⟨r.name,y⟩) ad n4 cap:=⟨xs,hsl,hxs.mono λ_ _ h=>h.le hle5,by rw[hn4,hxs.length]⟩
    have hstep:((((rs.zipIdx 0).take i.toNat).flatMap (mutR rs)++((allE r.body).take (j.toNat+1)).map λy=>rs.set i.toNat ⟨r.name,y⟩).filter okF)=((((rs.zipIdx 0).take i.toNat).flatMap (mutR rs)++((allE r.body).take j.toNat).map λy=>rs.set i.toNat ⟨r.name,y⟩).filter okF)++([rs.set i.toNat ⟨r.name,y⟩].filter okF):=by
     rw[take_get hy,List.map_append,<-List.append_assoc,List.filter_append];rfl
    refine s_well_Well _ _ _ _ _ (wwell_is hg5 _ ⟨_,_,rfl,λhw=>⟨by omega,?_⟩,λhw=>?_⟩)
    ·refine⟨by unfold InI;omega,⟨by omega,by omega,hle3.trans (hle4.trans hle5),by omega,?_⟩,by dsimp only;omega⟩
     rw[show(j+1).toNat=j.toNat+1 by omega,hstep]
     have:[rs.set i.toNat ⟨r.name,y⟩].filter okF=[rs.set i.toNat ⟨r.name,y⟩]:=by
      rw[List.filter_cons,if_pos (by unfold okF;simpa using hw)];rfl
     rw[this]
     exact(hT3.le (hle4.trans hle5)).snoc hg5
    ·refine⟨by unfold InI;omega,⟨by omega,by omega,hle3.trans (hle4.trans hle5),by omega,?_⟩,by dsimp only;omega⟩
     rw[show(j+1).toNat=j.toNat+1 by omega,hstep]
     have:[rs.set i.toNat ⟨r.name,y⟩].filter okF=[]:=by
      rw[List.filter_cons,if_neg (by unfold okF;simpa using hw)];rfl
     rw[this,List.append_nil]
     exact hT3.le (hle4.trans hle5)
  ·refine⟨by unfold InI;omega,⟨by omega,by omega,hle.trans (hle2.trans hle3),by omega,?_⟩,by dsimp only;omega⟩
   rw[show(i+1).toNat=i.toNat+1 by omega,take_get hp,List.flatMap_append]
   rw[List.take_of_length_le (l:=allE r.body) (by omega)]at hT3
   simpa[mutR]using hT3
 ·rw[List.take_of_length_le (by simp;omega)]at hT
  intro M2 ad cap hle2 hsl M3 hle3
  exact h2 M3 ad n cap rx (hle.trans (hle2.trans hle3)) (hsl.le hle3) ((hT.le hle2).le hle3)
end Go.Proofs.Ytmnilbfhfjdelaa.core

namespace Go.Proofs.Ytmnilbfhfjdelaa.core
open Go.Gx Go.RowKit Go.ChangeShapes Go.WideShapes Go.ChangeAt
set_option linter.unusedVariables false
open Go.Shelf Go.Proofs
attribute [local go_sem] Oper.semAt_some
noncomputable def difL (rs ss:List Ru) (t:List UInt8):Bool:=accP rs t != accP ss t
noncomputable def leastO (rs ss:List Ru) (l:List (List UInt8)):List UInt8×Int×Int:=match l.find? (difL rs ss)with
 |none=>([],0,12)
 |some t=>(t,if accP rs t=true then 1 else 2,0)
theorem least_done {rs ss:List Ru} {T:List W6} (h:∀t∈T,difL rs ss t.1=false):leastO rs ss (T.map (·.1))=([],0,12):=by
 unfold leastO
 rw[List.find?_eq_none.2 (λt ht=>by
  obtain⟨u,hu,rfl⟩:=List.mem_map.1 ht
  rw[h u hu];decide)]
theorem least_stop {rs ss:List Ru} {T pre:List W6} {x:W6} (h:pre++[x]=T.take (pre++[x]).length) (hp:∀t∈pre,difL rs ss t.1=false) (hx:difL rs ss x.1=true):leastO rs ss (T.map (·.1))=(x.1,if accP rs x.1=true then 1 else 2,0):=by
 unfold leastO
 have e:T.map (·.1)=(pre++[x]).map (·.1)++(T.drop (pre++[x]).length).map (·.1):=by
  rw[<-List.map_append]
  congr 1
  conv=>lhs;rw[<-List.take_append_drop (pre++[x]).length T]
  rw[<-h]
 rw[e,List.map_append,List.append_assoc,List.find?_append,List.find?_eq_none.2 (λt ht=>by
  obtain⟨u,hu,rfl⟩:=List.mem_map.1 ht
  rw[hp u hu];decide),Option.none_or]
 rw[List.map_cons,List.map_nil,List.singleton_append,List.find?_cons_of_pos hx]
theorem three (w:World) (o0 o1 o2:Obj):∃W,(((w.alloc o0).alloc o1).alloc o2)=W/\W.heap[w.heap.size]?=some o0/\W.heap[w.heap.size+1]?=some o1/\W.heap[w.heap.size+1+1]?=some o2/\Below w.heap.size w W/\W.heap.size=w.heap.size+3:=by
 refine⟨_,rfl,?_,?_,?_,?_,by simp⟩
 all_goals first
  |(refine(((Below.refl _ w).alloc ?_ _).alloc ?_ _).alloc ?_ _<;>simp<;>omega)
  |(simp only[World.alloc,Array.getElem?_push,Array.size_push];repeat (first|rw[if_pos trivial]|rw[if_pos (by omega)]|rw[if_neg (by omega)]))
structure Fiv (h:Nat) (g g' s i e:Value) (W:World):Prop where
 r0:W.heap[h]?=some (.cells #[g] 38 (0,0))
 r1:W.heap[h+1]?=some (.cells #[g'] 38 (0,0))
 r2:W.heap[h+1+1]?=some (.cells #[s] 9 (0,0))
 r3:W.heap[h+1+1+1]?=some (.cells #[i] 3 (0,0))
 r4:W.heap[h+1+1+1+1]?=some (.cells #[e] 31 (0,0))
theorem Fiv.on {h n₀:Nat} {g g' s i e:Value} {W W':World} (q:Fiv h g g' s i e W) (hb:Below n₀ W W') (hn:h+5<=n₀):Fiv h g g' s i e W':=by
 have l:∀{k o},k<h+5->W.heap[k]?=some o->W'.heap[k]?=some o:=λ{k o} h1 hk=>(hb.block k (by omega)).trans hk
 exact⟨l (by omega) q.r0,l (by omega) q.r1,l (by omega) q.r2,l (by omega) q.r3,l (by omega) q.r4⟩
theorem Fiv.cells {h:Nat} {g g' s i e:Value} {W:World} (q:Fiv h g g' s i e W):
  W.cell? ⟨h,0,none⟩=some g/\W.cell? ⟨h+1,0,none⟩=some g'/\W.cell? ⟨h+1+1,0,none⟩=some s/\W.cell? ⟨h+1+1+1,0,none⟩=some i/\W.cell? ⟨h+1+1+1+1,0,none⟩=some e/\
  W.frozen? ⟨h+1+1,0,none⟩=false/\W.frozen? ⟨h+1+1+1,0,none⟩=false/\W.frozen? ⟨h+1+1+1+1,0,none⟩=false:=by
 obtain⟨r0,r1,r2,r3,r4⟩:=q
 refine⟨?_,?_,?_,?_,?_,?_,?_,?_⟩<;>simp[World.cell?,World.frozen?,r0,r1,r2,r3,r4]
theorem Fiv.stored {h:Nat} {g g' s i e:Value} {W:World} (q:Fiv h g g' s i e W) (v1 v2 v3:Value):∃W',(((W.setCell ⟨h+1+1,0,none⟩ v1).setCell ⟨h+1+1+1,0,none⟩ v2).setCell ⟨h+1+1+1+1,0,none⟩ v3)=W'/\
  W'.heap[h+1+1]?=some (.cells [v1].toArray 9 (0,0))/\W'.heap[h+1+1+1]?=some (.cells [v2].toArray 3 (0,0))/\W'.heap[h+1+1+1+1]?=some (.cells [v3].toArray 31 (0,0))/\Below h W W':=by
 refine⟨_,rfl,?_,?_,?_,?_⟩
 ·rw[set2 (by omega),set2 (by omega)];exact set1 q.r2 0 v1
 ·rw[set2 (by omega)];exact set1 ((set2 (by omega) 0 v1).trans q.r3) 0 v2
 ·exact set1 ((set2 (by omega) 0 v2).trans ((set2 (by omega) 0 v1).trans q.r4)) 0 v3
 ·exact(((Below.refl h W).setCell (p:=⟨h+1+1,0,none⟩) (by show h<=h+1+1;omega) _).setCell (p:=⟨h+1+1+1,0,none⟩) (by show h<=h+1+1+1;omega) _).setCell (p:=⟨h+1+1+1+1,0,none⟩) (by show h<=h+1+1+1+1;omega) _
theorem Fiv.fin {h:Nat} {g g' s i e:Value} {W:World} (q:Fiv h g g' s i e W) (v1 v2 v3:Value) {R:Ending->World->Prop} {tmps:Array Value}
  (e1:tmps.getD 8 undef= .pointer (some ⟨h+1+1,0,none⟩)) (e2:tmps.getD 9 undef= .pointer (some ⟨h+1+1+1,0,none⟩)) (e3:tmps.getD 10 undef= .pointer (some ⟨h+1+1+1+1,0,none⟩))
  (hR:∀W2,Below h W W2->R (.returned (.tuple #[v1,v2,v3])) W2):
  bodyPostM Fence.wide 3 Try.prog Try.f25 R .ret {tmps:=tmps,defers:=[]} (((W.setCell ⟨h+1+1,0,none⟩ v1).setCell ⟨h+1+1+1,0,none⟩ v2).setCell ⟨h+1+1+1+1,0,none⟩ v3):=by
 obtain⟨W2,hW2,s1,s2,s3,hB2⟩:=q.stored v1 v2 v3
 rw[hW2]
 exact⟨_,tail3 rfl false false false e1 e2 e3 s1 s2 s3 (by kernel_rfl) (by kernel_rfl) (by kernel_rfl),hR W2 hB2⟩
theorem leastD {h D:Nat} {W:World} {v1 v2 v3:Value} {R:Ending->World->Prop} {tmps:Array Value}
  (e1:tmps.getD 8 undef= .pointer (some ⟨h+1+1,0,none⟩)) (e2:tmps.getD 9 undef= .pointer (some ⟨h+1+1+1,0,none⟩)) (e3:tmps.getD 10 undef= .pointer (some ⟨h+1+1+1+1,0,none⟩))
  (s1:W.heap[h+1+1]?=some (.cells [v1].toArray 9 (0,0))) (s2:W.heap[h+1+1+1]?=some (.cells [v2].toArray 3 (0,0))) (s3:W.heap[h+1+1+1+1]?=some (.cells [v3].toArray 31 (0,0)))
  (hD:h+5<=D) (hK:W.heap[D]?=some (.deferred (some []))) (hR:R (.returned (.tuple #[v1,v2,v3])) (W.putObj D (.deferred none))):
  bodyPostM Fence.wide 3 Try.prog Try.f25 R .ret {tmps:=tmps,defers:=[{target:=.collected D,args:= #[]}]} W:=
 ⟨by simp,.inl ⟨_,_,rfl,run_takeDeferred hK,⟨_,tail3 (W:=W.putObj D (.deferred none)) rfl false false false e1 e2 e3 ((World.putObj_heap_other (by omega)).trans s1) ((World.putObj_heap_other (by omega)).trans s2) ((World.putObj_heap_other (by omega)).trans s3) (by kernel_rfl) (by kernel_rfl) (by kernel_rfl),hR⟩⟩⟩
noncomputable def leastE (rs ss:List Ru) (a:List UInt8) (n:Int):Int:=if listP rs a n≠0 then listP rs a n else listP ss a n
set_option maxRecDepth 100000 in
set_option maxHeartbeats 4000000 in
theorem least_in (V:Mem) (rs ss:List Ru) (ga ha:Option Addr) (gl gc hl hc:Nat) (a:List UInt8) (n:Int) (hg:GrR V rs ga gl gc) (hh:GrR V ss ha hl hc) (w:World) (hon:On V w) (R:Ending->World->Prop)
  (hR1:leastE rs ss a n≠0->∀W,Below w.heap.size w W->R (.returned (.tuple #[.string (mkS []),.int .i64 0,.int .i64 (leastE rs ss a n)])) W)
  (hR2:leastE rs ss a n=0->∀W,Below w.heap.size w W->R (.returned (.tuple #[.string (mkS (leastO rs ss (wordsN a n.toNat)).1),.int .i64 (leastO rs ss (wordsN a n.toNat)).2.1,.int .i64 (leastO rs ss (wordsN a n.toNat)).2.2])) W):
  CallsIn Fence.wide 3 Try.prog 25 #[.agg #[.slice ga gl gc],.agg #[.slice ha hl hc],.string (mkS a),.int .i64 n] w R:=by
 refine callsIn_of_wp_marks Try.func25 rfl trivial ?_ rfl
 obtain⟨W0,hW0,q0,q1,q2,q3,q4,q5,hB0,hz0⟩:=six w (.cells #[.slice ga gl gc] 38) (.cells #[.slice ha hl hc] 38) (.cells #[.string (mkS [])] 9) (.cells #[.int .i64 0] 3) (.cells #[.int .i64 0] 31) (.cells #[.slice ga gl gc,.slice ha hl hc] 38)
 have q:Fiv w.heap.size (.slice ga gl gc) (.slice ha hl hc) (.string (mkS [])) (.int .i64 0) (.int .i64 0) W0:=⟨q0,q1,q2,q3,q4⟩
 clear q0 q1 q2 q3 q4
 simp only[Try.ntmps25,List.size_toArray,List.length_cons,List.length_nil,Nat.reduceAdd,Nat.reduceSub,Array.replicate_succ,Array.replicate_zero,List.push_toArray,List.append_toArray,List.nil_append,List.cons_append]
 have HD:=Hid.mk3 hR1 hR2
 clear hR1 hR2
 gi_wp2
 rw[show((((((w.alloc (.cells #[.slice ga gl gc] 38)).alloc (.cells #[.slice ha hl hc] 38)).alloc (.cells #[.string {data:= #[]}] 9)).alloc (.cells #[.int .i64 0] 3)).alloc (.cells #[.int .i64 0] 31)).alloc (.cells #[.slice ga gl gc,.slice ha hl hc] 38))=W0 from hW0]
 clear hW0
 gi_loopw [23] (λt wr=>∃j:Nat,t= .int .i64 j/\j<=2/\(0<j->listP rs a n=0)/\(1<j->listP ss a n=0)/\Below W0.heap.size W0 wr)
  (λt _=>2-(intOf t).toNat)
 case atStart=>exact⟨0,rfl,by omega,λh=>by omega,λh=>by omega,Below.refl _ _⟩
 case round=>
  obtain⟨j,rfl,hj,h0,h1,hbw⟩:=hrel
  have q':=q.on hbw (by omega)
  have hBw:Below w.heap.size w wr:=hB0.trans (hbw.mono (by omega))
  have q5':=(hbw.block _ (show w.heap.size+1+1+1+1+1<W0.heap.size by omega)).trans q5
  have d0:wr.cell? ⟨w.heap.size+1+1+1+1+1,0,none⟩=some (.slice ga gl gc):=by simp[World.cell?,q5']
  have d1:wr.cell? ⟨w.heap.size+1+1+1+1+1,1,none⟩=some (.slice ha hl hc):=by simp[World.cell?,q5']
  have hj3:j=0\/j=1\/j=2:=by omega
  have err:∀(Wx:World) (v:Int),Below wr.heap.size wr Wx->v≠0->leastE rs ss a n=v->∀W2,Below w.heap.size Wx W2->R (.returned (.tuple #[.string (mkS []),.int .i64 0,.int .i64 v])) W2:=λWx v hb hv he W2 h2=>by
   subst he;exact HD.out.1 hv W2 ((hBw.trans (hb.mono hBw.size)).trans h2)
  have gr:∀(o:Obj),Below wr.heap.size wr (wr.alloc o):=λo=>(Below.refl _ wr).alloc (Nat.le_refl _) o
  rcases hj3 with rfl|rfl|rfl
  ·have hcall:=s_list_Look ga gl gc a n V _ (llook_is hg a n (λv=>v= .int .i64 (listP rs a n)) rfl) (wr.alloc (.cells #[.slice ga gl gc] 38)) (On.keep (λb o h=>hon.lt h) hon (hBw.trans ((gr _).mono hBw.size)))
   gi_wp2
   refine⟨trivial,(callsIn_wide.2 hcall).mono ?_⟩
   rintro e Wl ⟨v,rfl,hbl,rfl⟩
   have hbl2:Below wr.heap.size wr Wl:=(gr _).trans (hbl.mono (by simp))
   have q2:=q'.on hbl2 (by have:=hbw.size;omega)
   obtain⟨c0,c1,c2,c3,c4,f2,f3,f4⟩:=q2.cells
   by_cases he:listP rs a n=0
   ·gi_wp2
    go_roundw
    case rel=>exact⟨1,rfl,by omega,λ_=>he,λh=>by omega,hbw.trans (hbl2.mono hbw.size)⟩
    case measure=>simp[intOf]
   ·have hE:leastE rs ss a n=listP rs a n:=by unfold leastE;rw[if_pos he]
    have HE:=Hid.mk3 hE he
    clear hE
    gi_wp2
    refine q2.fin _ _ _ ?_ ?_ ?_ (err Wl _ hbl2 HE.out.2 HE.out.1)<;>rfl
  ·have hl0:=h0 (by omega)
   have hcall:=s_list_Look ha hl hc a n V _ (llook_is hh a n (λv=>v= .int .i64 (listP ss a n)) rfl) (wr.alloc (.cells #[.slice ha hl hc] 38)) (On.keep (λb o h=>hon.lt h) hon (hBw.trans ((gr _).mono hBw.size)))
   gi_wp2
   refine⟨trivial,(callsIn_wide.2 hcall).mono ?_⟩
   rintro e Wl ⟨v,rfl,hbl,rfl⟩
   have hbl2:Below wr.heap.size wr Wl:=(gr _).trans (hbl.mono (by simp))
   have q2:=q'.on hbl2 (by have:=hbw.size;omega)
   obtain⟨c0,c1,c2,c3,c4,f2,f3,f4⟩:=q2.cells
   have hE:leastE rs ss a n=listP ss a n:=by unfold leastE;rw[if_neg (λh=>h hl0)]
   by_cases he:listP ss a n=0
   ·clear hE
    gi_wp2
    go_roundw
    case rel=>exact⟨2,rfl,by omega,λ_=>hl0,λ_=>he,hbw.trans (hbl2.mono hbw.size)⟩
    case measure=>simp[intOf]
   ·have HE:=Hid.mk3 hE he
    clear hE
    gi_wp2
    refine q2.fin _ _ _ ?_ ?_ ?_ (err Wl _ hbl2 HE.out.2 HE.out.1)<;>rfl
  ·have hl0:=h0 (by omega)
   have hl1:=h1 (by omega)
   have htx:=texts_mk 2 a [] n wr
   clear err gr d0 d1 q5' h0 h1
   gi_wp2
   refine⟨trivial,htx.mono ?_⟩
   rintro e w' ⟨rfl,rfl⟩
   obtain⟨Wt,hWt,p0,p1,p2,hbt,hzt⟩:=three wr (.cells #[.string (mkS a)] 9) (.cells #[.string (mkS [])] 9) (.cells #[.int .i64 n] 3)
   rw[hWt]
   have hszw:=hbw.size
   replace q':=q'.on hbt (by omega)
   replace hBw:=hBw.trans (hbt.mono hBw.size)
   have hszr:=hBw.size
   clear hWt hbt htx hbw q hB0 q5
   obtain⟨hwr,hal,hn0,hn6,hg5⟩:=listP_ok hl0
   obtain⟨hws,_⟩:=listP_ok hl1
   obtain⟨a1,a8,hasc⟩:=alpha_ok hal
   obtain⟨k,rfl⟩:∃k:Nat,n=k:=⟨n.toNat,by omega⟩
   have hin0:∀c∈([]:List UInt8),c∈a:=λc hc=>by cases hc
   obtain⟨T,hTv⟩:=six_ex (wordsN a k) (λx hx=>by have:=(words_mem hasc hx).1;omega)
   have hr0:rankN a []=0:=rfl
   have hTl:T.length=geo a.length (k+1)-rankN a []:=by
    have:=congrArg List.length hTv
    rw[hr0]
    simpa[words_len]using this
   have hT:∀(i:Nat) (s:W6),(∀c∈s.1,c∈a)->s.1.length<=k->rankN a s.1=rankN a []+i->T[i]?=some s:=λi s hs1 hs2 hs3=>by
    have h1:=words_at k s.1 hs2 hs1
    rw[hs3,hr0,Nat.zero_add]at h1
    have h2:=congrArg (·[i]?) hTv
    simp only[List.getElem?_map]at h2
    rw[h1]at h2
    cases h3:T[i]? with
    |none=>rw[h3]at h2;cases h2
    |some t=>rw[h3]at h2;simp only[Option.map_some,Option.some.injEq]at h2;exact congrArg some (Subtype.ext h2)
   have hE:leastE rs ss a k=0:=by unfold leastE;rw[if_neg (λh=>h hl0)];exact hl1
   have hO:leastO rs ss (wordsN a (k:Int).toNat)=leastO rs ss (T.map (·.1)):=by rw[hTv,Int.toNat_natCast]
   have hfin:=HD.out.2 hE
   rw[hO]at hfin
   have HF:=Hid.mk3 hfin trivial
   clear hfin hO hE HD
   gi_wp2
   refine wpIn_rangeFunc_ownG_of_H rfl (by omega) (gf:=80) (lb:= #[.pointer (some ⟨wr.heap.size+1,0,none⟩),.pointer (some ⟨wr.heap.size+1+1,0,none⟩),.pointer (some ⟨wr.heap.size,0,none⟩)]) rfl trivial (enters_of Try.func80 (by kernel_rfl) rfl)
    (texts_stops 2 Wt.heap.size [] a ⟨[],by simp⟩ k T a1 hal (by omega) hin0 (by simp) hTl hT wr.heap.size (wr.heap.size+1) (wr.heap.size+1+1) Wt (Nat.le_refl _) p0 p1 p2 ⟨by omega,by simp⟩ ⟨by omega,by simp⟩)
    (λh k=>h.trans k) (λW' l o o' h1 h2 h3 h4=>KX.grown (grownBy_putObj' W' l o') (by have:=(Array.getElem?_eq_some_iff.1 h2).1;omega) (λk e hk=>by cases e;omega)) (Below.refl _ _) (λ_=>rfl)
    (λpre W'=>(∀t∈pre,difL rs ss t.1=false)/\KX Wt.heap.size [] Wt W')
    (λc pre W'=>c= .ret/\∃pre0 x,pre=pre0++[x]/\(∀t∈pre0,difL rs ss t.1=false)/\difL rs ss x.1=true/\
     W'.heap[w.heap.size+1+1]?=some (.cells [sv6 x].toArray 9 (0,0))/\W'.heap[w.heap.size+1+1+1]?=some (.cells [.int .i64 (if accP rs x.1=true then 1 else 2)].toArray 3 (0,0))/\W'.heap[w.heap.size+1+1+1+1]?=some (.cells [.int .i64 0].toArray 31 (0,0))/\Below w.heap.size w W')
    ?ownI ?ownIx ?start ?act ?assign ?body ?done ?stop (λW=>KX.refl _ _ W)
   case assign=>
    intro l x W' K hK
    gi_wp2
    exact hK
   case ownI=>exact λs A B row hs hg hr=>⟨hs.1,hs.2.trans (KX.grown hg hs.2.size (λk e hk=>by have:=(hr _ e).1;omega))⟩
   case ownIx=>
    rintro c s A B row ⟨rfl,pre0,x,e1,e2,e3,s1,s2,s3,hb⟩ hg hr
    have l:∀{k o},k<Wt.heap.size->A.heap[k]?=some o->B.heap[k]?=some o:=λ{k o} h1 hk'=>(hg.block k (Array.getElem?_eq_some_iff.1 hk').1 (λe=>by have:=(hr _ e.symm).1;omega)).trans hk'
    exact⟨rfl,pre0,x,e1,e2,e3,l (by omega) s1,l (by omega) s2,l (by omega) s3,hb.grown hg hb.size (λk e=>by have:=(hr k e).1;omega)⟩
   case start=>exact⟨(λt h=>by cases h),KX.refl _ _ _⟩
   case body=>
    rintro l pre x W' ⟨hpre,hkx⟩ hlt
    have hbx:Below Wt.heap.size Wt W':=hkx.below (Nat.le_refl _) (λk hk=>by cases hk)
    have q2:=q'.on hbx (by omega)
    have hB2:=hBw.trans (hbx.mono hszr)
    have hlk:∀rs',(wellP rs').2=0->lookP rs' x.1=0:=λrs' h=>by
     unfold lookP
     rw[if_neg (λh'=>h' h),if_neg (by have:=x.2;omega)]
    have hl1':=hlk rs (look_ok' hl0)
    have hl2':=hlk ss (look_ok' hl1)
    have ha1:=s_list_Accepts ga gl gc x.1 V _ (laccepts_is hg (λh=>absurd hl1' h) (λ_=>rfl:lookP rs x.1=0->(λv=>v=Value.tuple #[.bool (accP rs x.1),.int .i64 0]) (.tuple #[.bool (accP rs x.1),.int .i64 0]))) W' (On.keep (λb o h=>hon.lt h) hon hB2)
    obtain⟨c0,c1,c2,c3,c4,f2,f3,f4⟩:=q2.cells
    clear hlk
    gi_wp2
    refine⟨trivial,(show CallsIn (Fence.wide.inRound l) 0 _ _ _ _ _ from callsIn_wide.2 ha1).mono ?_⟩
    rintro e W1 ⟨v,rfl,hb1,rfl⟩
    have hbx1:=hbx.trans (hb1.mono hbx.size)
    have q3:=q'.on hbx1 (by omega)
    have hB3:=hBw.trans (hbx1.mono hszr)
    have ha2:=s_list_Accepts ha hl hc x.1 V _ (laccepts_is hh (λh=>absurd hl2' h) (λ_=>rfl:lookP ss x.1=0->(λv=>v=Value.tuple #[.bool (accP ss x.1),.int .i64 0]) (.tuple #[.bool (accP ss x.1),.int .i64 0]))) W1 (On.keep (λb o h=>hon.lt h) hon hB3)
    clear c0 c1 c2 c3 c4 f2 f3 f4 ha1
    obtain⟨c0,c1,c2,c3,c4,f2,f3,f4⟩:=q3.cells
    gi_wp2
    refine⟨trivial,(show CallsIn (Fence.wide.inRound l) 0 _ _ _ _ _ from callsIn_wide.2 ha2).mono ?_⟩
    rintro e W2 ⟨v,rfl,hb2,rfl⟩
    have hbx2:=hbx1.trans (hb2.mono hbx1.size)
    have q4:=q'.on hbx2 (by omega)
    have hB4:=hBw.trans (hbx2.mono hszr)
    have hgg:W'.grownBy W2 none:=grown_of (hb1.trans (hb2.mono hb1.size))
    have hko:KeepsOthers W' W2:=KeepsOthers.of_grownBy hgg (λj o e _=>by cases e)
    have hkk:KX Wt.heap.size [] W' W2:=KX.grown hgg hbx.size (λk e=>by cases e)
    clear c0 c1 c2 c3 c4 f2 f3 f4 ha2
    obtain⟨c0,c1,c2,c3,c4,f2,f3,f4⟩:=q4.cells
    have go:difL rs ss x.1=false->KeepsFrom Wt.heap.size W' W2/\KX Wt.heap.size [] W' W2/\(∀t∈pre++[x],difL rs ss t.1=false)/\KX Wt.heap.size [] Wt W2:=λhd=>⟨hko.from _,hkk,λt ht=>by
     rcases List.mem_append.1 ht with h|h
     ·exact hpre t h
     ·rw[List.mem_singleton.1 h];exact hd,hkx.trans hkk⟩
    have st:difL rs ss x.1=true->∀side:Int,side=(if accP rs x.1=true then 1 else 2)->∃W3,(((W2.setCell ⟨w.heap.size+1+1,0,none⟩ (sv6 x)).setCell ⟨w.heap.size+1+1+1,0,none⟩ (.int .i64 side)).setCell ⟨w.heap.size+1+1+1+1,0,none⟩ (.int .i64 0))=W3/\
      KeepsFrom Wt.heap.size W' W3/\(Code.ret=Code.ret/\∃pre0 y,pre++[x]=pre0++[y]/\(∀t∈pre0,difL rs ss t.1=false)/\difL rs ss y.1=true/\
     W3.heap[w.heap.size+1+1]?=some (.cells [sv6 y].toArray 9 (0,0))/\W3.heap[w.heap.size+1+1+1]?=some (.cells [.int .i64 (if accP rs y.1=true then 1 else 2)].toArray 3 (0,0))/\W3.heap[w.heap.size+1+1+1+1]?=some (.cells [.int .i64 0].toArray 31 (0,0))/\Below w.heap.size w W3):=by
     rintro hd side rfl
     obtain⟨W3,hW3,s1,s2,s3,hB5⟩:=q4.stored (sv6 x) (.int .i64 (if accP rs x.1=true then 1 else 2)) (.int .i64 0)
     refine⟨W3,hW3,?_,rfl,pre,x,rfl,hpre,hd,s1,s2,s3,hB4.trans hB5⟩
     rw[<-hW3]
     exact(hko.trans (((KeepsOthers.setCell W2 ⟨w.heap.size+1+1,0,none⟩ (sv6 x)).trans (KeepsOthers.setCell _ ⟨w.heap.size+1+1+1,0,none⟩ (.int .i64 (if accP rs x.1=true then 1 else 2)))).trans (KeepsOthers.setCell _ ⟨w.heap.size+1+1+1+1,0,none⟩ (.int .i64 0)))).from _
    have hdf:difL rs ss x.1=(accP rs x.1 != accP ss x.1):=rfl
    have HG:=Hid.mk3 (Hid.mk3 go st) hdf
    clear go st hdf hpre
    cases h1:accP rs x.1<;>cases h2:accP ss x.1
    ·gi_wp2
     exact HG.out.1.out.1 (by rw[HG.out.2,h1,h2];rfl)
    ·gi_wp2
     obtain⟨W3,hW3,hA,hB⟩:=HG.out.1.out.2 (by rw[HG.out.2,h1,h2];rfl) 2 (by rw[h1];rfl)
     exact hW3▸⟨hA,rfl,hB.2⟩
    ·gi_wp2
     obtain⟨W3,hW3,hA,hB⟩:=HG.out.1.out.2 (by rw[HG.out.2,h1,h2];rfl) 1 (by rw[h1];rfl)
     exact hW3▸⟨hA,rfl,hB.2⟩
    ·gi_wp2
     exact HG.out.1.out.1 (by rw[HG.out.2,h1,h2];rfl)
   case done=>
    rintro D xs W' hD rfl ⟨hall,hkx⟩ hK
    have hbx:Below Wt.heap.size Wt W':=hkx.below (Nat.le_refl _) (λk hk=>by cases hk)
    have q2:=q'.on hbx (by omega)
    have hB2:=hBw.trans (hbx.mono hszr)
    obtain⟨c0,c1,c2,c3,c4,f2,f3,f4⟩:=q2.cells
    have hO:=least_done hall
    have HO:=Hid.mk3 hO hall
    clear hO hall
    gi_wp2
    obtain⟨W2,hW2,s1,s2,s3,hB3⟩:=q2.stored (.string (mkS [])) (.int .i64 0) (.int .i64 12)
    have hK2:W2.heap[D]?=some (.deferred (some [])):=by rw[<-hW2,set2 (by omega),set2 (by omega),set2 (by omega)];exact hK
    rw[show(((W'.setCell ⟨w.heap.size+1+1,0,none⟩ (.string {data:= #[]})).setCell ⟨w.heap.size+1+1+1,0,none⟩ (.int .i64 0)).setCell ⟨w.heap.size+1+1+1+1,0,none⟩ (.int .i64 12))=W2 from hW2]
    refine leastD (h:=w.heap.size) ?_ ?_ ?_ s1 s2 s3 (by omega) hK2 ?_
    ·rfl
    ·rfl
    ·rfl
    have hB4:=hB2.trans hB3
    have hfin:=HF.out.1 (W2.putObj D (.deferred none)) (below_put hB4 (by omega) hK2 hB4.size)
    rw[HO.out.1]at hfin
    exact hfin
   case stop=>
    rintro D c pre W' hD ⟨hp1,hp2⟩ ⟨rfl,pre0,x,rfl,e1,e2,s1,s2,s3,hb⟩ hK
    have hO:=least_stop hp1 e1 e2
    have HO:=Hid.mk3 hO hp1
    clear hO hp1 hp2 e1 e2
    gi_wp2
    refine leastD (h:=w.heap.size) ?_ ?_ ?_ s1 s2 s3 (by omega) hK ?_
    ·rfl
    ·rfl
    ·rfl
    have hfin:=HF.out.1 (W'.putObj D (.deferred none)) (below_put hb (by omega) hK hb.size)
    rw[HO.out.1]at hfin
    exact hfin
section
variable {rs ss:List Ru} {ga ha:Option Addr} {gl gc hl hc:Nat} {M:Mem}
theorem lleast_is (hg:GrR M rs ga gl gc) (hh:GrR M ss ha hl hc) (a:List UInt8) (n:Int) (K:Value->Prop)
  (h1:leastE rs ss a n≠0->K (.tuple #[.string (mkS []),.int .i64 0,.int .i64 (leastE rs ss a n)]))
  (h2:leastE rs ss a n=0->K (.tuple #[.string (mkS (leastO rs ss (wordsN a n.toNat)).1),.int .i64 (leastO rs ss (wordsN a n.toNat)).2.1,.int .i64 (leastO rs ss (wordsN a n.toNat)).2.2])):
  CallE Try.prog 25 #[.agg #[.slice ga gl gc],.agg #[.slice ha hl hc],.string (mkS a),.int .i64 n] M λv _=>K v:=
 λw hon=>callsIn_wide.1 (least_in M rs ss ga ha gl gc hl hc a n hg hh w hon _ (λh W hb=>⟨_,rfl,hb,h1 h⟩) λh W hb=>⟨_,rfl,hb,h2 h⟩)
end
end Go.Proofs.Ytmnilbfhfjdelaa.core

