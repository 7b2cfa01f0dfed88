/- Contracts and what they hang on, of several parts. No condition. -/
import Derived.Test.YtmnilbfhfjdelaaM3
import Derived.Test.YtmnilbfhfjdelaaM4
import Derived.RangeFuncNested
import Derived.RangeFuncBound
import Derived.RangeFuncCalls
import Derived.RangeFuncLeaves
import Derived.RangeFuncWrites
import Derived.RangeFuncBox
import Derived.Shelf.Abstract
import Derived.WalkKit
import Derived.OwnWalkIn
import Derived.TacticsInMore
import Derived.LoopNIn
import Derived.LoopIn
import Derived.Maps.OwnIn
import Derived.Maps.AppendAt
import Derived.StringKeys
import Derived.BigRegionIn
namespace Go.Proofs.Ytmnilbfhfjdelaa.core
open Go.Gx Go.RowKit Go.ChangeShapes Go.WideShapes Go.ChangeAt
set_option linter.unusedVariables false
noncomputable def listP (rs:List Ru) (a:List UInt8) (n:Int):Int:=if (wellP rs).2≠0 then(wellP rs).2 else if alphaP a≠0 then alphaP a else if n<0\/6<n then 1 else if 5000<geo a.length (n.toNat+1) then 2 else 0
section
variable {rs:List Ru} {ga:Option Addr} {gl gc:Nat} {M:Mem}
theorem llook_is (hg:GrR M rs ga gl gc) (a:List UInt8) (n:Int) (K:Value->Prop) (hK:K (.int .i64 (listP rs a n))):S_list_Look ga gl gc a n M K:=by
 unfold S_list_Look
 unfold listP at hK
 refine s_well_Well _ _ _ _ _ (wwell_is hg _ ⟨_,_,rfl,λh=>?_,λh=>?_⟩)
 ·rw[if_pos h]at hK;exact hK
 rw[if_neg h]at hK
 refine s_walk_Many _ _ _ _ (wmany_is a n _ _ (λh1=>?_) (λh1 h2=>?_) λh1 h2 h3=>?_)
 ·rw[if_pos h1]at hK
  exact⟨_,_,rfl,λ_=>hK,λhn=>absurd h1 hn⟩
 ·rw[if_neg (λhn=>hn h1),if_pos h2]at hK
  exact⟨_,_,rfl,λ_=>hK,λhn=>absurd (by decide) hn⟩
 ·rw[if_neg (λhn=>hn h1),if_neg (by omega)]at hK
  refine⟨_,_,rfl,λhn=>absurd rfl hn,λ_=>⟨λhgt=>?_,λhle=>?_⟩⟩
  ·rw[if_pos (by omega)]at hK;exact hK
  ·rw[if_neg (by omega)]at hK;exact hK
end
end Go.Proofs.Ytmnilbfhfjdelaa.core

namespace Go.Proofs.Ytmnilbfhfjdelaa.core
open Go.Gx Go.RowKit Go.ChangeShapes Go.WideShapes Go.ChangeAt
set_option linter.unusedVariables false
open Go.Shelf Go.Proofs
attribute [local go_sem] Oper.semAt_some
structure KX (n₀:Nat) (ex:List Nat) (A B:World):Prop where
 os:B.os=A.os
 tape:B.tape=A.tape
 output:B.output=A.output
 size:A.heap.size<=B.heap.size
 block:∀k,k<n₀->k∉ex->B.heap[k]?=A.heap[k]?
theorem KX.refl (n₀:Nat) (ex:List Nat) (A:World):KX n₀ ex A A:=⟨rfl,rfl,rfl,Nat.le_refl _,λ_ _ _=>rfl⟩
theorem KX.trans {n₀:Nat} {ex:List Nat} {A B C:World} (h:KX n₀ ex A B) (k:KX n₀ ex B C):KX n₀ ex A C:=
 ⟨k.os.trans h.os,k.tape.trans h.tape,k.output.trans h.output,Nat.le_trans h.size k.size,λi hi hx=>(k.block i hi hx).trans (h.block i hi hx)⟩
theorem KX.grown {n₀:Nat} {ex:List Nat} {A B:World} {row:Option Nat} (hg:A.grownBy B row) (hn:n₀<=A.heap.size) (hr:∀k,row=some k->k<n₀->k∈ex):KX n₀ ex A B:=
 ⟨hg.os,hg.tape,hg.output,hg.size,λk hk hx=>hg.block k (by omega) (λe=>hx (hr k e.symm hk))⟩
theorem KX.below {n₀:Nat} {ex:List Nat} {A B:World} {m:Nat} (h:KX n₀ ex A B) (hm:m<=n₀) (hx:∀k∈ex,m<=k):Below m A B:=
 ⟨h.os,h.tape,h.output,h.size,λk hk=>h.block k (by omega) (λhk'=>by have:=hx k hk';omega)⟩
theorem KX.of {n₀:Nat} {ex:List Nat} {A B:World} (h:Below n₀ A B):KX n₀ ex A B:=⟨h.os,h.tape,h.output,h.size,λk hk _=>h.block k hk⟩
theorem grown_of {A B:World} (h:Below A.heap.size A B):A.grownBy B none:=⟨h.os,h.tape,h.output,h.size,λk hk _=>h.block k hk⟩
abbrev W6:={x:List UInt8 // x.length<=6}
set_option maxRecDepth 100000 in
set_option maxHeartbeats 2000000 in
theorem texts1_in (l n₀:Nat) (ex:List Nat) (a:List UInt8) (s0:W6) (k:Nat) (T:List W6) (h1:1<=a.length) (hal:alphaP a=0) (hk6:k<=6) (hs0:∀c∈s0.1,c∈a) (hs0k:s0.1.length<=k)
  (hTl:T.length=geo a.length (k+1)-rankN a s0.1) (hT:∀(i:Nat) (s:W6),(∀c∈s.1,c∈a)->s.1.length<=k->rankN a s.1=rankN a s0.1+i->T[i]?=some s)
  (Ba Bf Bn:Nat) (J Jx:List W6->World->Prop) (hJ:∀s W W',J s W->W.grownBy W' none->J s W')
  (hY:∀m pre x W,J pre W->pre.length<T.length->YieldAt Fence.wide m Try.prog l #[.string (mkS x.1)] W λe W'=>
   (e= .returned (.bool true)/\J (pre++[x]) W'/\KX n₀ ex W W')\/(e= .returned (.bool false)/\Jx (pre++[x]) W'))
  (n:Nat) (W:World) (hn:n₀<=W.heap.size) (hBa:Boxed W Ba 9 (.string (mkS a))) (hBf:Boxed W Bf 9 (.string (mkS s0.1))) (hBn:Boxed W Bn 3 (.int .i64 k)) (hba:Ba<n₀/\Ba∉ex) (hbn:Bn<n₀/\Bn∉ex) (h0:J [] W):
  CallsIn Fence.wide n Try.prog 80 #[.func (.yield l) #[] #[],.pointer (some ⟨Bf,0,none⟩),.pointer (some ⟨Bn,0,none⟩),.pointer (some ⟨Ba,0,none⟩)] W λe W'=>(∃v,e= .returned v)/\
   ((∃xs,xs=T/\J xs W')\/(∃q,(q=T.take q.length/\q.length<=T.length)/\Jx q W')):=by
 have hcf:=hBf.cell
 refine callsIn_of_wp Try.func80 rfl trivial ?_ rfl
 simp only[Try.ntmps80,List.size_toArray,List.length_cons,List.length_nil,Nat.reduceAdd,Nat.reduceSub,Array.replicate_succ,Array.replicate_zero,List.push_toArray,List.append_toArray,List.nil_append,List.cons_append]
 gi_wp2
 gi_loopw [5] (λt wr=>∃(pre:List W6) (s:W6),t= .string (mkS s.1)/\(∀c∈s.1,c∈a)/\pre=T.take pre.length/\pre.length<=T.length/\rankN a s.1=rankN a s0.1+pre.length/\J pre wr/\KX n₀ ex W wr)
  (λt _=>match t with| .string b=>geo a.length 8-rankN a b.toList|_=>0)
 case atStart=>exact⟨[],s0,rfl,hs0,rfl,by simp,by simp,h0,KX.refl _ _ _⟩
 case round=>
  obtain⟨pre,s,rfl,hin,hpre,hpl,hrk,hj,hkx⟩:=hrel
  have hbn':Boxed wr Bn 3 (.int .i64 k):=(hkx.block Bn hbn.1 hbn.2).trans hBn
  have hba':Boxed wr Ba 9 (.string (mkS a)):=(hkx.block Ba hba.1 hba.2).trans hBa
  have hcn:=hbn'.cell
  have hsz:((mkS s.1).size:Int)=s.1.length:=rfl
  by_cases hlt:s.1.length<=k
  ·have hT1:=hT pre.length s hin hlt hrk
   have hlt2:pre.length<T.length:=(List.getElem?_eq_some_iff.1 hT1).1
   obtain⟨fn,tmps,assign,body,hy,hRd⟩:=hY (n-1) pre s wr hj hlt2
   have hb:((mkS s.1).size:Int)<=(k:Int):=by rw[hsz];omega
   gi_wp2
   refine⟨λh=>(by cases h),hRd.mono ?_⟩
   have hov:=over_of hal s.2 hin
   have hnx:=e_walk_Next a s.1 (λ_=>none) (λv _=>(rankN a s.1+1=geo a.length 7/\v= .tuple #[.string (mkS []),.int .i64 12])\/∃t:W6,(∀c∈t.1,c∈a)/\rankN a t.1=rankN a s.1+1/\v= .tuple #[.string (mkS t.1),.int .i64 0])
    (wnext_is _ _ (λh=>absurd hov h) (λ_ h M' _=>.inl ⟨h,rfl⟩) λ_ t h6 ht hr M' _=>.inr ⟨⟨t,h6⟩,ht,hr,rfl⟩)
   have hpre1:pre++[s]=T.take (pre.length+1):=by rw[List.take_add_one,hT1,<-hpre];rfl
   have hlen1:(pre++[s]).length=pre.length+1:=by simp
   rintro e W1 (⟨rfl,hj1,hkx1⟩|⟨rfl,hx1⟩)
   ·have hba1:Boxed W1 Ba 9 (.string (mkS a)):=(hkx1.block Ba hba.1 hba.2).trans hba'
    have hca:=hba1.cell
    have hnx1:=hnx W1 (λb o h=>by cases h)
    clear hnx
    gi_wp2
    refine⟨trivial,λh=>(by cases h),(callsIn_wide.2 hnx1).mono ?_⟩
    rintro e W2 ⟨v,rfl,hbel,(⟨hr,rfl⟩|⟨t,ht,hr,rfl⟩)⟩
    ·have e:pre++[s]=T:=by
      have hlt3:=(rank_le (n:=k) h1 hin).1 hlt
      have hg:geo a.length (k+1)<=geo a.length 7:=by
       rcases Nat.lt_or_ge k 6 with h|h
       ·exact Nat.le_of_lt (geo_lt h1 (by omega))
       ·rw[show k=6 by omega];exact Nat.le_refl _
      rw[hpre1,List.take_of_length_le (by omega)]
     have hj2:=hJ _ _ _ hj1 (grown_of hbel)
     rw[e]at hj2
     gi_wp2
     refine bodyPost_ret (results_none rfl _ _ _) rfl ?_
     exact⟨⟨_,rfl⟩,.inl ⟨_,rfl,hj2⟩⟩
    ·have hms:geo a.length 8-rankN a (mkS t.1).toList<geo a.length 8-rankN a (mkS s.1).toList:=by
      have hr1:rankN a s.1<geo a.length 8:=(rank_le (n:=7) h1 hin).1 (Nat.le_trans s.2 (by omega))
      rw[mkS_toList,mkS_toList];omega
     have hj2:=hJ _ _ _ hj1 (grown_of hbel)
     have hkx2:=hkx.trans (hkx1.trans (KX.of (hbel.mono (Nat.le_trans hn (Nat.le_trans hkx.size hkx1.size)))))
     gi_wp2
     exact⟨⟨_,t,rfl,ht,by rw[hlen1];exact hpre1,by rw[hlen1];exact hlt2,by rw[hlen1];omega,hj2,hkx2⟩,hms⟩
   ·gi_wp2
    refine bodyPost_ret (results_none rfl _ _ _) rfl ?_
    exact⟨⟨_,rfl⟩,.inr ⟨_,⟨by rw[hlen1];exact hpre1,by rw[hlen1];exact hlt2⟩,hx1⟩⟩
  ·have hb:¬((mkS s.1).size:Int)<=(k:Int):=by rw[hsz];omega
   have e:pre=T:=by
    have hx:¬rankN a s.1<geo a.length (k+1):=λh=>hlt ((rank_le h1 hin).2 h)
    rw[hpre,List.take_of_length_le (by omega)]
   gi_wp2
   go_end0
   exact⟨⟨_,rfl⟩,.inl (e▸hj)⟩
set_option maxHeartbeats 1000000 in
theorem texts_mk (n:Nat) (a s:List UInt8) (k:Int) (w:World):
  CallsIn Fence.wide n Try.prog 49 #[.string (mkS a),.string (mkS s),.int .i64 k] w λe w'=>e= .returned (.func (.func 80) #[] #[.pointer (some ⟨w.heap.size+1,0,none⟩),.pointer (some ⟨w.heap.size+1+1,0,none⟩),.pointer (some ⟨w.heap.size,0,none⟩)])/\
   w'=((w.alloc (.cells #[.string (mkS a)] 9)).alloc (.cells #[.string (mkS s)] 9)).alloc (.cells #[.int .i64 k] 3):=by
 refine callsIn_of_wp Try.func49 rfl trivial ?_ rfl
 simp only[Try.ntmps49,List.size_toArray,List.length_cons,List.length_nil,Nat.reduceAdd,Nat.reduceSub,Array.replicate_succ,Array.replicate_zero,List.push_toArray,List.append_toArray,List.nil_append,List.cons_append]
 gi_wp2
 go_ret
 exact⟨rfl,rfl⟩
theorem texts_stops (n:Nat) (n₀:Nat) (ex:List Nat) (a:List UInt8) (s0:W6) (k:Nat) (T:List W6) (h1:1<=a.length) (hal:alphaP a=0) (hk6:k<=6) (hs0:∀c∈s0.1,c∈a) (hs0k:s0.1.length<=k)
  (hTl:T.length=geo a.length (k+1)-rankN a s0.1) (hT:∀(i:Nat) (s:W6),(∀c∈s.1,c∈a)->s.1.length<=k->rankN a s.1=rankN a s0.1+i->T[i]?=some s)
  (Ba Bf Bn:Nat) (w:World) (hn:n₀<=w.heap.size) (hBa:Boxed w Ba 9 (.string (mkS a))) (hBf:Boxed w Bf 9 (.string (mkS s0.1))) (hBn:Boxed w Bn 3 (.int .i64 k)) (hba:Ba<n₀/\Ba∉ex) (hbn:Bn<n₀/\Bn∉ex):
  SeqStopsK Fence.wide n Try.prog 80 #[.pointer (some ⟨Bf,0,none⟩),.pointer (some ⟨Bn,0,none⟩),.pointer (some ⟨Ba,0,none⟩)] (λx:W6=> #[.string (mkS x.1)]) (KX n₀ ex) (λxs=>xs=T) (λq=>q=T.take q.length/\q.length<=T.length) T.length w:=λl J Jx W hW hJ _ hY h0=>
 texts1_in l n₀ ex a s0 k T h1 hal hk6 hs0 hs0k hTl hT Ba Bf Bn J Jx (λs A B hs hg=>hJ s A B none hs hg (λr e=>by cases e)) (λm pre x W1 hj hl=>YieldAt.deep m (hY pre x W1 hj hl)) n W (Nat.le_trans hn hW.size)
  ((hW.block Ba hBa.lt).trans hBa) ((hW.block Bf hBf.lt).trans hBf) ((hW.block Bn hBn.lt).trans hBn) hba hbn h0
end Go.Proofs.Ytmnilbfhfjdelaa.core

namespace Go.Proofs.Ytmnilbfhfjdelaa.core
open Go.Gx Go.RowKit Go.ChangeShapes Go.WideShapes Go.ChangeAt
set_option linter.unusedVariables false
open Go.Shelf Go.Proofs
attribute [local go_sem] Oper.semAt_some
def sv6 (x:W6):Value:=.string (mkS x.1)
theorem listP_ok {rs:List Ru} {a:List UInt8} {n:Int} (h:listP rs a n=0):WellOk rs/\alphaP a=0/\0<=n/\n<=6/\geo a.length (n.toNat+1)<=5000:=by
 unfold listP at h
 split at h
 ·rename_i h1;exact absurd h h1
 rename_i h1
 split at h
 ·rename_i h2;exact absurd h h2
 rename_i h2
 split at h
 ·omega
 split at h
 ·omega
 exact⟨(look_ok (s:=[]) (by unfold lookP;rw[if_neg h1];rfl)).1,Decidable.not_not.1 h2,by omega,by omega,by omega⟩
theorem look_ok' {rs:List Ru} {a:List UInt8} {n:Int} (h:listP rs a n=0):(wellP rs).2=0:=by
 unfold listP at h
 split at h
 ·rename_i h1;exact absurd h h1
 ·rename_i h1;exact Decidable.not_not.1 h1
theorem six_ex (l:List (List UInt8)) (h:∀x∈l,x.length<=6):∃T:List W6,T.map (·.1)=l:=⟨l.pmap Subtype.mk h,by rw[List.map_pmap];simp⟩
theorem six (w:World) (o0 o1 o2 o3 o4 o5:Obj):∃W,((((((w.alloc o0).alloc o1).alloc o2).alloc o3).alloc o4).alloc o5)=W/\W.heap[w.heap.size]?=some o0/\W.heap[w.heap.size+1]?=some o1/\W.heap[w.heap.size+1+1]?=some o2/\
  W.heap[w.heap.size+1+1+1]?=some o3/\W.heap[w.heap.size+1+1+1+1]?=some o4/\W.heap[w.heap.size+1+1+1+1+1]?=some o5/\Below w.heap.size w W/\W.heap.size=w.heap.size+6:=by
 refine⟨_,rfl,?_,?_,?_,?_,?_,?_,?_,by simp⟩
 all_goals first
  |(refine((((((Below.refl _ w).alloc ?_ _).alloc ?_ _).alloc ?_ _).alloc ?_ _).alloc ?_ _).alloc ?_ _<;>simp<;>omega)
  |(simp only[World.alloc,Array.getElem?_push,Array.size_push];repeat (first|rw[if_pos trivial]|rw[if_pos (by omega)]|rw[if_neg (by omega)]))
theorem set1 {W:World} {b:Nat} {cs:Array Value} {t:TypeId} {f:Nat×Nat} (h:W.heap[b]?=some (.cells cs t f)) (i:Nat) (v:Value):(W.setCell ⟨b,i,none⟩ v).heap[b]?=some (.cells (cs.setIfInBounds i v) t f):=by
 simp only[World.setCell,Array.getElem?_modify,if_pos,h];rfl
theorem set2 {W:World} {b b':Nat} (hb:b≠b') (i:Nat) (v:Value):(W.setCell ⟨b',i,none⟩ v).heap[b]?=W.heap[b]?:=Below.heap_setCell _ _ _ _ hb
theorem tail3 {P:Program} {fn:Func} {p1 p2 p3:Tmp} {y1 y2 y3:TypeId} (hr:fn.results= #[.cell p1 y1,.cell p2 y2,.cell p3 y3]) {tmps:Array Value} {W:World} {b1 b2 b3:Nat} {vs1 vs2 vs3:List Value} {t1 t2 t3:TypeId} (g1 g2 g3:Bool)
  (e1:tmps.getD p1 undef= .pointer (some ⟨b1,0,none⟩)) (e2:tmps.getD p2 undef= .pointer (some ⟨b2,0,none⟩)) (e3:tmps.getD p3 undef= .pointer (some ⟨b3,0,none⟩))
  (h1:W.heap[b1]?=some (.cells vs1.toArray t1 (0,0))) (h2:W.heap[b2]?=some (.cells vs2.toArray t2 (0,0))) (h3:W.heap[b3]?=some (.cells vs3.toArray t3 (0,0)))
  (k1:tyOk P y1 g1 vs1.length=true) (k2:tyOk P y2 g2 vs2.length=true) (k3:tyOk P y3 g3 vs3.length=true):
  (results fn tmps).run P W= .ok (.tuple #[ofCells g1 vs1,ofCells g2 vs2,ofCells g3 vs3]) W:=by
 have ld:∀{y:TypeId} {b:Nat} {vs:List Value} {t:TypeId} {g:Bool},W.heap[b]?=some (.cells vs.toArray t (0,0))->tyOk P y g vs.length=true->(loadVar y ⟨b,0,none⟩).run P W= .ok (ofCells g vs) W:=λ{y b vs t g} h k=>by
  obtain⟨q1,q2,q3,q4⟩:=tyOk_spec k
  exact run_load_at (P:=P) q1 q2 q3 q4 λj v hj=>by simp[World.cell?,h,hj]
 have l1:=ld h1 k1
 have l2:=ld h2 k2
 have l3:=ld h3 k3
 simp only[results,hr]
 simp[-Array.getD_eq_getD_getElem?,e1,e2,e3,asAddr,l1,l2,l3]
theorem Boxed.below {W W':World} {B:Nat} {t:TypeId} {v:Value} (h:Boxed W B t v) (hb:Below W.heap.size W W'):Boxed W' B t v:=(hb.block B h.lt).trans h
theorem KX.set {n₀:Nat} {ex:List Nat} {W:World} {B i:Nat} (hn:n₀<=W.heap.size) (hB:B∈ex) (v:Value):KX n₀ ex W (W.setCell ⟨B,i,none⟩ v):=
 ⟨rfl,rfl,rfl,by simp[World.setCell],λk _ hk=>Below.heap_setCell _ _ _ _ (λe=>hk (by rw[e];exact hB))⟩
theorem below_put {B D:Nat} {w W:World} (h:Below B w W) (hD:B<=D) {o o':Obj} (hl:W.heap[D]?=some o) (hB:B<=W.heap.size):Below B w (W.putObj D o'):=
 h.grown (grownBy_putObj' W D o') hB (λk e=>by cases e;exact hD)
theorem Hid.mk3 {p q:Prop} (h:p) (k:q):Hid (p/\q):=⟨h,k⟩
end Go.Proofs.Ytmnilbfhfjdelaa.core

namespace Go.Proofs.Ytmnilbfhfjdelaa.core
open Go.Gx Go.RowKit Go.ChangeShapes Go.WideShapes Go.ChangeAt
set_option linter.unusedVariables false
section
variable {rs:List Ru} {ga:Option Addr} {gl gc:Nat} {M:Mem}
end
end Go.Proofs.Ytmnilbfhfjdelaa.core

namespace Go.Proofs.Ytmnilbfhfjdelaa.core
open Go.Gx Go.RowKit Go.ChangeShapes Go.WideShapes Go.ChangeAt
set_option linter.unusedVariables false
def ru0:Ru:=⟨[97],.mk 3 ⟨0,0,0,0⟩ [120] []⟩
theorem well0:wellP [ru0]=(0,0):=by rfl
theorem acc0:accP [ru0] [120]=true:=by
 have hw:=well_ok (rs:=[ru0]) (by rw[well0])
 obtain⟨E,hT⟩:=tab_ex (s:=[120]) hw
 rw[acc_eq hw hT,hT.fix 0 0 ru0 (by simp) rfl]
 rfl
theorem x_gr {M:Mem} {A:Option Addr} {c:Nat} (h:SlV M A 1 c 8 (X_api_Rule.mk [97] (X_api_Expr.mk 3 (X_api_Set.mk 0 0 0 0) [120] none 0 0)).cells):GrR M [ru0] A 1 c:=by
 refine⟨[X_api_Rule.mk [97] (X_api_Expr.mk 3 (X_api_Set.mk 0 0 0 0) [120] none 0 0)],by simpa[cl]using h,All2.of rfl λi r x hr hx=>?_,rfl⟩
 cases i with
 |zero=>
  cases hr;cases hx
  exact⟨rfl,by unfold maxLen ru0;simp,.mk (xs:=[]) (by decide) ⟨by decide,by decide,by decide,by decide⟩ (by unfold maxLen;simp) ⟨rfl,Nat.le_refl _,by unfold maxLen;simp,λh=>by simp at h⟩ rfl (λi e x h=>by simp at h)⟩
 |succ i=>simp at hr
section
variable {M:Mem}
theorem begun_is (K:Value->Prop) (hK:K (.bool true)):S_chafftop_begun M K:=by
 unfold S_chafftop_begun
 refine s_chafftop_x _ _ λM5 A c hle hsl M' hle2=>⟨_,_,_,rfl,s_list_Accepts _ _ _ _ _ _ (laccepts_is ((x_gr hsl).le hle2) (λh=>absurd (by unfold lookP;rw[well0];rfl) h) λ_=>⟨_,_,rfl,λ_=>hK,λh=>absurd acc0 h⟩)⟩
theorem within_is (k n:Int) (h0:1<=n) (h1:n<=1000000) (K:Value->Prop) (hK:∀z:Int,0<=z->z<n->K (.int .i64 z)):S_chaffkeep_Within k n M K:=by
 unfold S_chaffkeep_Within
 have e:IntKind.wrap .u64 n=n:=by simp[IntKind.wrap,IntKind.signed,IntKind.bits];omega
 have hk:0<=IntKind.wrap .u64 k:=by simp[IntKind.wrap,IntKind.signed,IntKind.bits];omega
 rw[e]
 have hm0:0<=(IntKind.wrap .u64 k).tmod n:=Int.tmod_nonneg _ hk
 have hm1:(IntKind.wrap .u64 k).tmod n<n:=Int.tmod_lt_of_pos _ (by omega)
 generalize (IntKind.wrap .u64 k).tmod n=m at*
 have e2:IntKind.wrap .i64 m=m:=by simp[IntKind.wrap,IntKind.signed,IntKind.bits];omega
 rw[e2]
 exact⟨by omega,hK m hm0 hm1⟩
theorem small_is (a:List UInt8) (n:Int) (hl:a.length<=maxLen) (K:Value->Prop) (hK:∀(a':List UInt8) (n':Int),K (.tuple #[.string (mkS a'),.int .i64 n'])):S_chafftop_small a n M K:=by
 unfold S_chafftop_small
 refine⟨Int.le_refl _,by split<;>omega,by split<;>omega,s_chaffkeep_Within _ _ _ _ (within_is _ _ (by omega) (by omega) _ λz _ _=>⟨_,rfl,hK _ _⟩)⟩
variable {rs:List Ru} {ga:Option Addr} {gl gc:Nat}
theorem tright_is (hg:GrR M rs ga gl gc) (a:List UInt8) (n:Int) (K:Value->Prop) (hK:K (.bool (listP rs a n==0))):S_chafftop_right ga gl gc a n M K:=by
 unfold S_chafftop_right
 exact s_list_Look _ _ _ _ _ _ _ (llook_is hg a n _ ⟨_,rfl,hK⟩)
end
end Go.Proofs.Ytmnilbfhfjdelaa.core

namespace Go.Proofs.Ytmnilbfhfjdelaa.core
open Go.Gx Go.RowKit Go.ChangeShapes Go.WideShapes Go.ChangeAt
set_option linter.unusedVariables false
def predE (k:Int) (ra rb:List Ru):Int:=if k<1\/3<k then 1 else if (wellP ra).2≠0 then(wellP ra).2 else if k=3 then(wellP rb).2 else if rb.length≠0 then 3 else 0
noncomputable def holdsP (k:Int) (ra rb:List Ru) (s:List UInt8):Bool:=if k=1 then accP ra s else if k=2 then !accP ra s else !(accP ra s==accP rb s)
section
variable {p:X_api_Pred} {ra rb:List Ru} {s:List UInt8} {M:Mem} {K:Value->Prop}
theorem check_is (ha:GrR M ra p.A_Rules_a p.A_Rules_l p.A_Rules_c) (hb:GrR M rb p.B_Rules_a p.B_Rules_l p.B_Rules_c) (hK:K (.int .i64 (predE p.Kind ra rb))):S_shrink_Check p M K:=by
 have hl:=hb.len
 have j1:∀v:Bool,v=decide (p.Kind<1\/3<p.Kind)->S_shrink_Check_J1 p M v K:=by
  intro v hv
  unfold S_shrink_Check_J1
  unfold predE at hK
  refine⟨λht=>by rw[if_pos (of_decide_eq_true (by rw[<-hv,ht]))]at hK;exact hK,λhf=>?_⟩
  rw[if_neg (λh=>hf (by rw[hv,decide_eq_true h]))]at hK
  refine s_well_Well _ _ _ _ _ (wwell_is ha _ ⟨_,_,rfl,λh=>by rw[if_pos h]at hK;exact hK,λh=>?_⟩)
  rw[if_neg h]at hK
  refine⟨λk3=>?_,λn3=>?_⟩
  ·rw[if_pos k3]at hK
   exact s_well_Well _ _ _ _ _ (wwell_is hb _ ⟨_,_,rfl,hK⟩)
  ·rw[if_neg n3]at hK
   exact⟨λhgt=>by rw[if_pos (by omega)]at hK;exact hK,λhle=>by rw[if_neg (by omega)]at hK;exact hK⟩
 unfold S_shrink_Check
 exact⟨λh=>j1 _ (by symm;exact decide_eq_true (.inl h)),λh=>j1 _ (by rw[decide_eq_decide];omega)⟩
theorem pred_well (h:predE p.Kind ra rb=0):1<=p.Kind/\p.Kind<=3/\(wellP ra).2=0/\(p.Kind=3->(wellP rb).2=0):=by
 unfold predE at h
 split at h
 ·cases h
 split at h
 ·rename_i h1;exact absurd h h1
 rename_i h0 h1
 refine⟨by omega,by omega,Decidable.not_not.1 h1,λk3=>?_⟩
 rw[if_pos k3]at h;exact h
theorem look_of (h:(wellP ra).2=0) (hs:s.length<=60):lookP ra s=0:=by
 unfold lookP
 rw[if_neg (λh'=>h' h),if_neg (by omega)]
theorem holds_is (ha:GrR M ra p.A_Rules_a p.A_Rules_l p.A_Rules_c) (hb:GrR M rb p.B_Rules_a p.B_Rules_l p.B_Rules_c) (h1:predE p.Kind ra rb≠0->K (.tuple #[.bool false,.int .i64 (predE p.Kind ra rb)])) (h2:predE p.Kind ra rb=0->60<s.length->K (.tuple #[.bool false,.int .i64 2])) (h3:predE p.Kind ra rb=0->s.length<=60->K (.tuple #[.bool (holdsP p.Kind ra rb s),.int .i64 0])):S_shrink_Holds p s M K:=by
 unfold S_shrink_Holds
 refine s_shrink_Check _ _ _ (check_is ha hb ⟨_,rfl,h1,λhn=>⟨λhgt=>h2 (Decidable.not_not.1 hn) (by omega),λhle=>?_⟩⟩)
 have h0:=Decidable.not_not.1 hn
 have hs:s.length<=60:=by omega
 obtain⟨k1,k3,hwa,hwb⟩:=pred_well h0
 have h3:=h3 h0 hs
 unfold holdsP at h3
 have la:=look_of hwa hs
 refine s_shrink_test _ _ _ ?_
 unfold S_shrink_test
 refine⟨λe1 M3 b2 hle3 hat M4 hle4=>⟨_,rfl,f_shrink_test_1 _ _ _ _ ?_⟩,λe1=>⟨λe2 M3 b2 hle3 hat M4 hle4=>⟨_,rfl,f_shrink_test_2 _ _ _ _ ?_⟩,λe2 M3 b2 hle3 hat M4 hle4=>⟨_,rfl,f_shrink_test_3 _ _ _ _ ?_⟩⟩⟩
 ·unfold S_shrink_test_1
  rw[if_pos e1]at h3
  exact⟨_,_,_,(hat.part 1 [.slice p.A_Rules_a p.A_Rules_l p.A_Rules_c] rfl).le hle4,s_list_Accepts _ _ _ _ _ _ (laccepts_is (ha.le (hle3.trans hle4)) (λh=>absurd la h) λ_=>⟨_,_,rfl,_,rfl,h3⟩)⟩
 ·unfold S_shrink_test_2
  rw[if_neg e1,if_pos e2]at h3
  exact⟨_,_,_,(hat.part 1 [.slice p.A_Rules_a p.A_Rules_l p.A_Rules_c] rfl).le hle4,s_list_Accepts _ _ _ _ _ _ (laccepts_is (ha.le (hle3.trans hle4)) (λh=>absurd la h) λ_=>⟨_,_,rfl,_,rfl,h3⟩)⟩
 ·unfold S_shrink_test_3
  rw[if_neg e1,if_neg e2]at h3
  have lb:=look_of (hwb (by omega)) hs
  exact⟨_,_,_,(hat.part 1 [.slice p.A_Rules_a p.A_Rules_l p.A_Rules_c] rfl).le hle4,s_list_Accepts _ _ _ _ _ _ (laccepts_is (ha.le (hle3.trans hle4)) (λh=>absurd la h) λ_=>⟨_,_,rfl,_,_,_,(hat.part 2 [.slice p.B_Rules_a p.B_Rules_l p.B_Rules_c] rfl).le hle4,s_list_Accepts _ _ _ _ _ _ (laccepts_is (hb.le (hle3.trans hle4)) (λh=>absurd lb h) λ_=>⟨_,_,rfl,_,rfl,h3⟩)⟩)⟩
end
section
variable {p:X_api_Pred} {ra rb:List Ru} {s:List UInt8} {M:Mem} {K:Value->Mem->Prop}
theorem test_is (ha:GrR M ra p.A_Rules_a p.A_Rules_l p.A_Rules_c) (hb:GrR M rb p.B_Rules_a p.B_Rules_l p.B_Rules_c) (h0:predE p.Kind ra rb=0) (hK:∀fv M',M.le M'->(∀t:List UInt8,t.length<=60->CallF Try.prog fv [.string (mkS t)] M' (λv _=>v= .bool (holdsP p.Kind ra rb t)))->K fv M'):S_shrink_test p M K:=by
 obtain⟨k1,k3,hwa,hwb⟩:=pred_well h0
 unfold S_shrink_test
 refine⟨λe1 M3 b2 hle3 hat M4 hle4=>hK _ M4 (hle3.trans hle4) λt ht=>f_shrink_test_1 _ _ _ _ ?_,λe1=>⟨λe2 M3 b2 hle3 hat M4 hle4=>hK _ M4 (hle3.trans hle4) λt ht=>f_shrink_test_2 _ _ _ _ ?_,λe2 M3 b2 hle3 hat M4 hle4=>hK _ M4 (hle3.trans hle4) λt ht=>f_shrink_test_3 _ _ _ _ ?_⟩⟩
 ·have la:=look_of hwa ht
  unfold S_shrink_test_1 holdsP
  rw[if_pos e1]
  exact⟨_,_,_,(hat.part 1 [.slice p.A_Rules_a p.A_Rules_l p.A_Rules_c] rfl).le hle4,s_list_Accepts _ _ _ _ _ _ (laccepts_is (ha.le (hle3.trans hle4)) (λh=>absurd la h) λ_=>⟨_,_,rfl,rfl⟩)⟩
 ·have la:=look_of hwa ht
  unfold S_shrink_test_2 holdsP
  rw[if_neg e1,if_pos e2]
  exact⟨_,_,_,(hat.part 1 [.slice p.A_Rules_a p.A_Rules_l p.A_Rules_c] rfl).le hle4,s_list_Accepts _ _ _ _ _ _ (laccepts_is (ha.le (hle3.trans hle4)) (λh=>absurd la h) λ_=>⟨_,_,rfl,rfl⟩)⟩
 ·have la:=look_of hwa ht
  have lb:=look_of (hwb (by omega)) ht
  unfold S_shrink_test_3 holdsP
  rw[if_neg e1,if_neg e2]
  exact⟨_,_,_,(hat.part 1 [.slice p.A_Rules_a p.A_Rules_l p.A_Rules_c] rfl).le hle4,s_list_Accepts _ _ _ _ _ _ (laccepts_is (ha.le (hle3.trans hle4)) (λh=>absurd la h) λ_=>⟨_,_,rfl,_,_,_,(hat.part 2 [.slice p.B_Rules_a p.B_Rules_l p.B_Rules_c] rfl).le hle4,s_list_Accepts _ _ _ _ _ _ (laccepts_is (hb.le (hle3.trans hle4)) (λh=>absurd lb h) λ_=>⟨_,_,rfl,rfl⟩)⟩)⟩
end
def outT (s:List UInt8) (i j:Nat):List UInt8:=s.take i++s.drop j
theorem outT_sub (s:List UInt8) {i j:Nat} (h:i<=j):(outT s i j).Sublist s:=by
 unfold outT
 have h1:(s.drop j).Sublist (s.drop i):=by
  have:s.drop j=(s.drop i).drop (j-i):=by rw[List.drop_drop];congr 1;omega
  rw[this];exact List.drop_sublist _ _
 have:=List.Sublist.append (List.Sublist.refl (s.take i)) h1
 rwa [List.take_append_drop]at this
theorem outT_len (s:List UInt8) {i j:Nat} (h:i<=j) (hj:j<=s.length):(outT s i j).length=s.length-(j-i):=by
 unfold outT
 rw[List.length_append,List.length_take,List.length_drop]
 omega
theorem outT_eq (s:List UInt8) (i j:Int):(s.take i.toNat).drop (0:Int).toNat++(s.take ((s.length:Nat):Int).toNat).drop j.toNat=outT s i.toNat j.toNat:=by
 unfold outT
 rw[Int.toNat_natCast,List.take_length,Int.toNat_zero,List.drop_zero]
theorem cut_is {s:List UInt8} {n:Int} {fv:Value} {f:List UInt8->Bool} {M:Mem} {K:Value->Prop} (hs:s.length<=60) (hn:1<=n) (hn2:n<=60) (hf:∀t:List UInt8,t.length<=60->CallF Try.prog fv [.string (mkS t)] M (λv _=>v= .bool (f t)))
  (hK:∀(t:List UInt8) (b:Bool),t.Sublist s->(b=false->t=s/\(n=1->∀i,i<s.length->f (outT s i (i+1))=false))->(b=true->t.length<s.length/\f t=true)->K (.tuple #[.string (mkS t),.bool b])):S_shrink_cut s n fv M K:=by
 unfold S_shrink_cut
 refine⟨λt b i=>0<=i/\i<=120/\t.Sublist s/\(b=false->t=s/\(n=1->∀j:Nat,(j:Int)<i->j<s.length->f (outT s j (j+1))=false))/\(b=true->t.length<s.length/\f t=true),λt _ i=>(t.length-i).toNat,⟨by omega,by omega,List.Sublist.refl _,λ_=>⟨rfl,λ_ j h=>by omega⟩,λh=>by cases h⟩,λt b i ⟨i0,i1,hsub,hb0,hb1⟩=>⟨λhlt=>?_,λhge=>?_⟩⟩
 ·have htl:=hsub.length_le
  generalize hj:(if i+n<((t.length:Nat):Int) then i+n else((t.length:Nat):Int))=j
  have hj0:i<j/\j<=t.length:=by rw[<-hj];split<;>omega
  rw[outT_eq]
  have hlen:=outT_len t (i:=i.toNat) (j:=j.toNat) (by omega) (by omega)
  have hsub2:=(outT_sub t (i:=i.toNat) (j:=j.toNat) (by omega)).trans hsub
  refine⟨by omega,i0,by omega,by unfold InI;omega,by omega,by omega,by omega,?_,(hf _ (by omega)).mono λv _ _ hv=>⟨_,hv,λhy=>⟨⟨i0,i1,hsub2,λh=>(by cases h),λ_=>⟨by omega,hy⟩⟩,?_⟩,λhno=>⟨by unfold InI;omega,⟨by omega,by omega,hsub,λh=>⟨(hb0 h).1,λh1 k hk hks=>?_⟩,hb1⟩,?_⟩⟩⟩
  ·have e:=congrArg List.length (outT_eq t i j)
   rw[List.length_append]at e
   omega
  ·dsimp only;omega
  ·by_cases hki:(k:Int)<i
   ·exact(hb0 h).2 h1 k hki hks
   ·obtain⟨e,_⟩:=hb0 h
    subst e
    have hkk:k=i.toNat:=by omega
    have hjj:j.toNat=k+1:=by
     have:j=i+1:=by rw[<-hj];split<;>omega
     omega
    subst hkk
    rw[<-hjj]
    simpa using hno
  ·dsimp only;omega
 ·exact hK t b hsub (λh=>⟨(hb0 h).1,λh1 k hk=>by
   have e:=(hb0 h).1
   subst e
   exact(hb0 h).2 h1 k (by omega) hk⟩) hb1
def leastP (f:List UInt8->Bool) (s t:List UInt8):Prop:=t.Sublist s/\f t=true/\∀i,i<t.length->f (outT t i (i+1))=false
section
variable {p:X_api_Pred} {ra rb:List Ru} {s:List UInt8} {M:Mem} {K:Value->Prop}
theorem shrink_is (ha:GrR M ra p.A_Rules_a p.A_Rules_l p.A_Rules_c) (hb:GrR M rb p.B_Rules_a p.B_Rules_l p.B_Rules_c) (h1:predE p.Kind ra rb≠0->K (.tuple #[.string (mkS []),.int .i64 (predE p.Kind ra rb)])) (h2:predE p.Kind ra rb=0->60<s.length->K (.tuple #[.string (mkS []),.int .i64 2]))
  (h3:predE p.Kind ra rb=0->s.length<=60->holdsP p.Kind ra rb s=false->K (.tuple #[.string (mkS []),.int .i64 11])) (h4:predE p.Kind ra rb=0->s.length<=60->holdsP p.Kind ra rb s=true->∀t,leastP (holdsP p.Kind ra rb) s t->K (.tuple #[.string (mkS t),.int .i64 0])):S_shrink_Shrink p s M K:=by
 unfold S_shrink_Shrink
 refine s_shrink_Holds _ _ _ _ (holds_is ha hb (λh=>⟨_,_,rfl,λ_=>h1 h,λhn=>absurd h hn⟩) (λh h60=>⟨_,_,rfl,λ_=>h2 h h60,λhn=>absurd (by decide) hn⟩) λh h60=>⟨_,_,rfl,λhn=>absurd rfl hn,λ_=>⟨λhf=>h3 h h60 (by simpa using hf),λht=>?_⟩⟩)
 have ht:holdsP p.Kind ra rb s=true:=by simpa using ht
 have h4:=h4 h h60 ht
 generalize hfd:holdsP p.Kind ra rb=f at h4 ht
 refine s_shrink_test _ _ _ (test_is ha hb h λfv M7 hle hf=>⟨_,rfl,?_⟩)
 rw[hfd]at hf
 refine⟨λt n=>t.Sublist s/\f t=true/\0<=n/\n<=60,λ_ n=>n.toNat,⟨List.Sublist.refl _,ht,by omega,by omega⟩,λt n ⟨hsub,hft,n0,n1⟩=>⟨λhgt=>?_,λhle1=>?_⟩⟩
 ·have hl:=hsub.length_le
  have hd:(n+1).tdiv 2=(n+1) / 2:=Int.tdiv_eq_ediv_of_nonneg (by omega)
  refine s_shrink_cut _ _ _ _ _ (cut_is (by omega) (by omega) (by omega) hf λt' b h1 h2 h3=>⟨_,_,rfl,by unfold InI;omega,by rw[hd];unfold InI;omega,⟨h1.trans hsub,?_,by rw[hd];omega,by rw[hd];omega⟩,?_⟩)
  ·cases b with
   |false=>rw[(h2 rfl).1];exact hft
   |true=>exact(h3 rfl).2
  ·show((n+1).tdiv 2).toNat<n.toNat
   rw[hd];omega
 ·refine⟨λt b=>t.Sublist s/\f t=true/\(b=false->∀i,i<t.length->f (outT t i (i+1))=false),λt b=>2*t.length+(if b=true then 1 else 0),⟨hsub,hft,λh=>by cases h⟩,λt b ⟨hsub,hft,hb⟩=>⟨λhy=>?_,λhn=>?_⟩⟩
  ·have hl:=hsub.length_le
   subst hy
   refine s_shrink_cut _ _ _ _ _ (cut_is (n:=1) (by omega) (by omega) (by omega) hf λt' b h1 h2 h3=>⟨_,_,rfl,⟨h1.trans hsub,?_,λh=>?_⟩,?_⟩)
   ·cases b with
    |false=>rw[(h2 rfl).1];exact hft
    |true=>exact(h3 rfl).2
   ·obtain⟨e,h5⟩:=h2 h
    subst e;exact h5 rfl
   ·dsimp only
    cases b with
    |false=>rw[(h2 rfl).1];simp
    |true=>have:=(h3 rfl).1;simp;omega
  ·exact h4 t ⟨hsub,hft,hb (by simpa using hn)⟩
end
end Go.Proofs.Ytmnilbfhfjdelaa.core

namespace Go.Proofs.Ytmnilbfhfjdelaa.core
open Go.Gx Go.RowKit Go.ChangeShapes Go.WideShapes Go.ChangeAt
set_option linter.unusedVariables false
open Go.Shelf Go.Proofs
attribute [local go_sem] Oper.semAt_some
noncomputable def difL (rs ss:List Ru) (t:List UInt8):Bool:=accP rs t != accP ss t
noncomputable def leastO (rs ss:List Ru) (l:List (List UInt8)):List UInt8×Int×Int:=match l.find? (difL rs ss)with
 |none=>([],0,12)
 |some t=>(t,if accP rs t=true then 1 else 2,0)
theorem least_done {rs ss:List Ru} {T:List W6} (h:∀t∈T,difL rs ss t.1=false):leastO rs ss (T.map (·.1))=([],0,12):=by
 unfold leastO
 rw[List.find?_eq_none.2 (λt ht=>by
  obtain⟨u,hu,rfl⟩:=List.mem_map.1 ht
  rw[h u hu];decide)]
theorem least_stop {rs ss:List Ru} {T pre:List W6} {x:W6} (h:pre++[x]=T.take (pre++[x]).length) (hp:∀t∈pre,difL rs ss t.1=false) (hx:difL rs ss x.1=true):leastO rs ss (T.map (·.1))=(x.1,if accP rs x.1=true then 1 else 2,0):=by
 unfold leastO
 have e:T.map (·.1)=(pre++[x]).map (·.1)++(T.drop (pre++[x]).length).map (·.1):=by
  rw[<-List.map_append]
  congr 1
  conv=>lhs;rw[<-List.take_append_drop (pre++[x]).length T]
  rw[<-h]
 rw[e,List.map_append,List.append_assoc,List.find?_append,List.find?_eq_none.2 (λt ht=>by
  obtain⟨u,hu,rfl⟩:=List.mem_map.1 ht
  rw[hp u hu];decide),Option.none_or]
 rw[List.map_cons,List.map_nil,List.singleton_append,List.find?_cons_of_pos hx]
theorem three (w:World) (o0 o1 o2:Obj):∃W,(((w.alloc o0).alloc o1).alloc o2)=W/\W.heap[w.heap.size]?=some o0/\W.heap[w.heap.size+1]?=some o1/\W.heap[w.heap.size+1+1]?=some o2/\Below w.heap.size w W/\W.heap.size=w.heap.size+3:=by
 refine⟨_,rfl,?_,?_,?_,?_,by simp⟩
 all_goals first
  |(refine(((Below.refl _ w).alloc ?_ _).alloc ?_ _).alloc ?_ _<;>simp<;>omega)
  |(simp only[World.alloc,Array.getElem?_push,Array.size_push];repeat (first|rw[if_pos trivial]|rw[if_pos (by omega)]|rw[if_neg (by omega)]))
structure Fiv (h:Nat) (g g' s i e:Value) (W:World):Prop where
 r0:W.heap[h]?=some (.cells #[g] 38 (0,0))
 r1:W.heap[h+1]?=some (.cells #[g'] 38 (0,0))
 r2:W.heap[h+1+1]?=some (.cells #[s] 9 (0,0))
 r3:W.heap[h+1+1+1]?=some (.cells #[i] 3 (0,0))
 r4:W.heap[h+1+1+1+1]?=some (.cells #[e] 31 (0,0))
theorem Fiv.on {h n₀:Nat} {g g' s i e:Value} {W W':World} (q:Fiv h g g' s i e W) (hb:Below n₀ W W') (hn:h+5<=n₀):Fiv h g g' s i e W':=by
 have l:∀{k o},k<h+5->W.heap[k]?=some o->W'.heap[k]?=some o:=λ{k o} h1 hk=>(hb.block k (by omega)).trans hk
 exact⟨l (by omega) q.r0,l (by omega) q.r1,l (by omega) q.r2,l (by omega) q.r3,l (by omega) q.r4⟩
theorem Fiv.cells {h:Nat} {g g' s i e:Value} {W:World} (q:Fiv h g g' s i e W):
  W.cell? ⟨h,0,none⟩=some g/\W.cell? ⟨h+1,0,none⟩=some g'/\W.cell? ⟨h+1+1,0,none⟩=some s/\W.cell? ⟨h+1+1+1,0,none⟩=some i/\W.cell? ⟨h+1+1+1+1,0,none⟩=some e/\
  W.frozen? ⟨h+1+1,0,none⟩=false/\W.frozen? ⟨h+1+1+1,0,none⟩=false/\W.frozen? ⟨h+1+1+1+1,0,none⟩=false:=by
 obtain⟨r0,r1,r2,r3,r4⟩:=q
 refine⟨?_,?_,?_,?_,?_,?_,?_,?_⟩<;>simp[World.cell?,World.frozen?,r0,r1,r2,r3,r4]
theorem Fiv.stored {h:Nat} {g g' s i e:Value} {W:World} (q:Fiv h g g' s i e W) (v1 v2 v3:Value):∃W',(((W.setCell ⟨h+1+1,0,none⟩ v1).setCell ⟨h+1+1+1,0,none⟩ v2).setCell ⟨h+1+1+1+1,0,none⟩ v3)=W'/\
  W'.heap[h+1+1]?=some (.cells [v1].toArray 9 (0,0))/\W'.heap[h+1+1+1]?=some (.cells [v2].toArray 3 (0,0))/\W'.heap[h+1+1+1+1]?=some (.cells [v3].toArray 31 (0,0))/\Below h W W':=by
 refine⟨_,rfl,?_,?_,?_,?_⟩
 ·rw[set2 (by omega),set2 (by omega)];exact set1 q.r2 0 v1
 ·rw[set2 (by omega)];exact set1 ((set2 (by omega) 0 v1).trans q.r3) 0 v2
 ·exact set1 ((set2 (by omega) 0 v2).trans ((set2 (by omega) 0 v1).trans q.r4)) 0 v3
 ·exact(((Below.refl h W).setCell (p:=⟨h+1+1,0,none⟩) (by show h<=h+1+1;omega) _).setCell (p:=⟨h+1+1+1,0,none⟩) (by show h<=h+1+1+1;omega) _).setCell (p:=⟨h+1+1+1+1,0,none⟩) (by show h<=h+1+1+1+1;omega) _
theorem Fiv.fin {h:Nat} {g g' s i e:Value} {W:World} (q:Fiv h g g' s i e W) (v1 v2 v3:Value) {R:Ending->World->Prop} {tmps:Array Value}
  (e1:tmps.getD 8 undef= .pointer (some ⟨h+1+1,0,none⟩)) (e2:tmps.getD 9 undef= .pointer (some ⟨h+1+1+1,0,none⟩)) (e3:tmps.getD 10 undef= .pointer (some ⟨h+1+1+1+1,0,none⟩))
  (hR:∀W2,Below h W W2->R (.returned (.tuple #[v1,v2,v3])) W2):
  bodyPostM Fence.wide 3 Try.prog Try.f25 R .ret {tmps:=tmps,defers:=[]} (((W.setCell ⟨h+1+1,0,none⟩ v1).setCell ⟨h+1+1+1,0,none⟩ v2).setCell ⟨h+1+1+1+1,0,none⟩ v3):=by
 obtain⟨W2,hW2,s1,s2,s3,hB2⟩:=q.stored v1 v2 v3
 rw[hW2]
 exact⟨_,tail3 rfl false false false e1 e2 e3 s1 s2 s3 (by kernel_rfl) (by kernel_rfl) (by kernel_rfl),hR W2 hB2⟩
theorem leastD {h D:Nat} {W:World} {v1 v2 v3:Value} {R:Ending->World->Prop} {tmps:Array Value}
  (e1:tmps.getD 8 undef= .pointer (some ⟨h+1+1,0,none⟩)) (e2:tmps.getD 9 undef= .pointer (some ⟨h+1+1+1,0,none⟩)) (e3:tmps.getD 10 undef= .pointer (some ⟨h+1+1+1+1,0,none⟩))
  (s1:W.heap[h+1+1]?=some (.cells [v1].toArray 9 (0,0))) (s2:W.heap[h+1+1+1]?=some (.cells [v2].toArray 3 (0,0))) (s3:W.heap[h+1+1+1+1]?=some (.cells [v3].toArray 31 (0,0)))
  (hD:h+5<=D) (hK:W.heap[D]?=some (.deferred (some []))) (hR:R (.returned (.tuple #[v1,v2,v3])) (W.putObj D (.deferred none))):
  bodyPostM Fence.wide 3 Try.prog Try.f25 R .ret {tmps:=tmps,defers:=[{target:=.collected D,args:= #[]}]} W:=
 ⟨by simp,.inl ⟨_,_,rfl,run_takeDeferred hK,⟨_,tail3 (W:=W.putObj D (.deferred none)) rfl false false false e1 e2 e3 ((World.putObj_heap_other (by omega)).trans s1) ((World.putObj_heap_other (by omega)).trans s2) ((World.putObj_heap_other (by omega)).trans s3) (by kernel_rfl) (by kernel_rfl) (by kernel_rfl),hR⟩⟩⟩
noncomputable def leastE (rs ss:List Ru) (a:List UInt8) (n:Int):Int:=if listP rs a n≠0 then listP rs a n else listP ss a n
set_option maxRecDepth 100000 in
set_option maxHeartbeats 4000000 in
theorem least_in (V:Mem) (rs ss:List Ru) (ga ha:Option Addr) (gl gc hl hc:Nat) (a:List UInt8) (n:Int) (hg:GrR V rs ga gl gc) (hh:GrR V ss ha hl hc) (w:World) (hon:On V w) (R:Ending->World->Prop)
  (hR1:leastE rs ss a n≠0->∀W,Below w.heap.size w W->R (.returned (.tuple #[.string (mkS []),.int .i64 0,.int .i64 (leastE rs ss a n)])) W)
  (hR2:leastE rs ss a n=0->∀W,Below w.heap.size w W->R (.returned (.tuple #[.string (mkS (leastO rs ss (wordsN a n.toNat)).1),.int .i64 (leastO rs ss (wordsN a n.toNat)).2.1,.int .i64 (leastO rs ss (wordsN a n.toNat)).2.2])) W):
  CallsIn Fence.wide 3 Try.prog 25 #[.agg #[.slice ga gl gc],.agg #[.slice ha hl hc],.string (mkS a),.int .i64 n] w R:=by
 refine callsIn_of_wp_marks Try.func25 rfl trivial ?_ rfl
 obtain⟨W0,hW0,q0,q1,q2,q3,q4,q5,hB0,hz0⟩:=six w (.cells #[.slice ga gl gc] 38) (.cells #[.slice ha hl hc] 38) (.cells #[.string (mkS [])] 9) (.cells #[.int .i64 0] 3) (.cells #[.int .i64 0] 31) (.cells #[.slice ga gl gc,.slice ha hl hc] 38)
 have q:Fiv w.heap.size (.slice ga gl gc) (.slice ha hl hc) (.string (mkS [])) (.int .i64 0) (.int .i64 0) W0:=⟨q0,q1,q2,q3,q4⟩
 clear q0 q1 q2 q3 q4
 simp only[Try.ntmps25,List.size_toArray,List.length_cons,List.length_nil,Nat.reduceAdd,Nat.reduceSub,Array.replicate_succ,Array.replicate_zero,List.push_toArray,List.append_toArray,List.nil_append,List.cons_append]
 have HD:=Hid.mk3 hR1 hR2
 clear hR1 hR2
 gi_wp2
 rw[show((((((w.alloc (.cells #[.slice ga gl gc] 38)).alloc (.cells #[.slice ha hl hc] 38)).alloc (.cells #[.string {data:= #[]}] 9)).alloc (.cells #[.int .i64 0] 3)).alloc (.cells #[.int .i64 0] 31)).alloc (.cells #[.slice ga gl gc,.slice ha hl hc] 38))=W0 from hW0]
 clear hW0
 gi_loopw [23] (λt wr=>∃j:Nat,t= .int .i64 j/\j<=2/\(0<j->listP rs a n=0)/\(1<j->listP ss a n=0)/\Below W0.heap.size W0 wr)
  (λt _=>2-(intOf t).toNat)
 case atStart=>exact⟨0,rfl,by omega,λh=>by omega,λh=>by omega,Below.refl _ _⟩
 case round=>
  obtain⟨j,rfl,hj,h0,h1,hbw⟩:=hrel
  have q':=q.on hbw (by omega)
  have hBw:Below w.heap.size w wr:=hB0.trans (hbw.mono (by omega))
  have q5':=(hbw.block _ (show w.heap.size+1+1+1+1+1<W0.heap.size by omega)).trans q5
  have d0:wr.cell? ⟨w.heap.size+1+1+1+1+1,0,none⟩=some (.slice ga gl gc):=by simp[World.cell?,q5']
  have d1:wr.cell? ⟨w.heap.size+1+1+1+1+1,1,none⟩=some (.slice ha hl hc):=by simp[World.cell?,q5']
  have hj3:j=0\/j=1\/j=2:=by omega
  have err:∀(Wx:World) (v:Int),Below wr.heap.size wr Wx->v≠0->leastE rs ss a n=v->∀W2,Below w.heap.size Wx W2->R (.returned (.tuple #[.string (mkS []),.int .i64 0,.int .i64 v])) W2:=λWx v hb hv he W2 h2=>by
   subst he;exact HD.out.1 hv W2 ((hBw.trans (hb.mono hBw.size)).trans h2)
  have gr:∀(o:Obj),Below wr.heap.size wr (wr.alloc o):=λo=>(Below.refl _ wr).alloc (Nat.le_refl _) o
  rcases hj3 with rfl|rfl|rfl
  ·have hcall:=s_list_Look ga gl gc a n V _ (llook_is hg a n (λv=>v= .int .i64 (listP rs a n)) rfl) (wr.alloc (.cells #[.slice ga gl gc] 38)) (On.keep (λb o h=>hon.lt h) hon (hBw.trans ((gr _).mono hBw.size)))
   gi_wp2
   refine⟨trivial,(callsIn_wide.2 hcall).mono ?_⟩
   rintro e Wl ⟨v,rfl,hbl,rfl⟩
   have hbl2:Below wr.heap.size wr Wl:=(gr _).trans (hbl.mono (by simp))
   have q2:=q'.on hbl2 (by have:=hbw.size;omega)
   obtain⟨c0,c1,c2,c3,c4,f2,f3,f4⟩:=q2.cells
   by_cases he:listP rs a n=0
   ·gi_wp2
    go_roundw
    case rel=>exact⟨1,rfl,by omega,λ_=>he,λh=>by omega,hbw.trans (hbl2.mono hbw.size)⟩
    case measure=>simp[intOf]
   ·have hE:leastE rs ss a n=listP rs a n:=by unfold leastE;rw[if_pos he]
    have HE:=Hid.mk3 hE he
    clear hE
    gi_wp2
    refine q2.fin _ _ _ ?_ ?_ ?_ (err Wl _ hbl2 HE.out.2 HE.out.1)<;>rfl
  ·have hl0:=h0 (by omega)
   have hcall:=s_list_Look ha hl hc a n V _ (llook_is hh a n (λv=>v= .int .i64 (listP ss a n)) rfl) (wr.alloc (.cells #[.slice ha hl hc] 38)) (On.keep (λb o h=>hon.lt h) hon (hBw.trans ((gr _).mono hBw.size)))
   gi_wp2
   refine⟨trivial,(callsIn_wide.2 hcall).mono ?_⟩
   rintro e Wl ⟨v,rfl,hbl,rfl⟩
   have hbl2:Below wr.heap.size wr Wl:=(gr _).trans (hbl.mono (by simp))
   have q2:=q'.on hbl2 (by have:=hbw.size;omega)
   obtain⟨c0,c1,c2,c3,c4,f2,f3,f4⟩:=q2.cells
   have hE:leastE rs ss a n=listP ss a n:=by unfold leastE;rw[if_neg (λh=>h hl0)]
   by_cases he:listP ss a n=0
   ·clear hE
    gi_wp2
    go_roundw
    case rel=>exact⟨2,rfl,by omega,λ_=>hl0,λ_=>he,hbw.trans (hbl2.mono hbw.size)⟩
    case measure=>simp[intOf]
   ·have HE:=Hid.mk3 hE he
    clear hE
    gi_wp2
    refine q2.fin _ _ _ ?_ ?_ ?_ (err Wl _ hbl2 HE.out.2 HE.out.1)<;>rfl
  ·have hl0:=h0 (by omega)
   have hl1:=h1 (by omega)
   have htx:=texts_mk 2 a [] n wr
   clear err gr d0 d1 q5' h0 h1
   gi_wp2
   refine⟨trivial,htx.mono ?_⟩
   rintro e w' ⟨rfl,rfl⟩
   obtain⟨Wt,hWt,p0,p1,p2,hbt,hzt⟩:=three wr (.cells #[.string (mkS a)] 9) (.cells #[.string (mkS [])] 9) (.cells #[.int .i64 n] 3)
   rw[hWt]
   have hszw:=hbw.size
   replace q':=q'.on hbt (by omega)
   replace hBw:=hBw.trans (hbt.mono hBw.size)
   have hszr:=hBw.size
   clear hWt hbt htx hbw q hB0 q5
   obtain⟨hwr,hal,hn0,hn6,hg5⟩:=listP_ok hl0
   obtain⟨hws,_⟩:=listP_ok hl1
   obtain⟨a1,a8,hasc⟩:=alpha_ok hal
   obtain⟨k,rfl⟩:∃k:Nat,n=k:=⟨n.toNat,by omega⟩
   have hin0:∀c∈([]:List UInt8),c∈a:=λc hc=>by cases hc
   obtain⟨T,hTv⟩:=six_ex (wordsN a k) (λx hx=>by have:=(words_mem hasc hx).1;omega)
   have hr0:rankN a []=0:=rfl
   have hTl:T.length=geo a.length (k+1)-rankN a []:=by
    have:=congrArg List.length hTv
    rw[hr0]
    simpa[words_len]using this
   have hT:∀(i:Nat) (s:W6),(∀c∈s.1,c∈a)->s.1.length<=k->rankN a s.1=rankN a []+i->T[i]?=some s:=λi s hs1 hs2 hs3=>by
    have h1:=words_at k s.1 hs2 hs1
    rw[hs3,hr0,Nat.zero_add]at h1
    have h2:=congrArg (·[i]?) hTv
    simp only[List.getElem?_map]at h2
    rw[h1]at h2
    cases h3:T[i]? with
    |none=>rw[h3]at h2;cases h2
    |some t=>rw[h3]at h2;simp only[Option.map_some,Option.some.injEq]at h2;exact congrArg some (Subtype.ext h2)
   have hE:leastE rs ss a k=0:=by unfold leastE;rw[if_neg (λh=>h hl0)];exact hl1
   have hO:leastO rs ss (wordsN a (k:Int).toNat)=leastO rs ss (T.map (·.1)):=by rw[hTv,Int.toNat_natCast]
   have hfin:=HD.out.2 hE
   rw[hO]at hfin
   have HF:=Hid.mk3 hfin trivial
   clear hfin hO hE HD
   gi_wp2
   refine wpIn_rangeFunc_ownG_of_H rfl (by omega) (gf:=80) (lb:= #[.pointer (some ⟨wr.heap.size+1,0,none⟩),.pointer (some ⟨wr.heap.size+1+1,0,none⟩),.pointer (some ⟨wr.heap.size,0,none⟩)]) rfl trivial (enters_of Try.func80 (by kernel_rfl) rfl)
    (texts_stops 2 Wt.heap.size [] a ⟨[],by simp⟩ k T a1 hal (by omega) hin0 (by simp) hTl hT wr.heap.size (wr.heap.size+1) (wr.heap.size+1+1) Wt (Nat.le_refl _) p0 p1 p2 ⟨by omega,by simp⟩ ⟨by omega,by simp⟩)
    (λh k=>h.trans k) (λW' l o o' h1 h2 h3 h4=>KX.grown (grownBy_putObj' W' l o') (by have:=(Array.getElem?_eq_some_iff.1 h2).1;omega) (λk e hk=>by cases e;omega)) (Below.refl _ _) (λ_=>rfl)
    (λpre W'=>(∀t∈pre,difL rs ss t.1=false)/\KX Wt.heap.size [] Wt W')
    (λc pre W'=>c= .ret/\∃pre0 x,pre=pre0++[x]/\(∀t∈pre0,difL rs ss t.1=false)/\difL rs ss x.1=true/\
     W'.heap[w.heap.size+1+1]?=some (.cells [sv6 x].toArray 9 (0,0))/\W'.heap[w.heap.size+1+1+1]?=some (.cells [.int .i64 (if accP rs x.1=true then 1 else 2)].toArray 3 (0,0))/\W'.heap[w.heap.size+1+1+1+1]?=some (.cells [.int .i64 0].toArray 31 (0,0))/\Below w.heap.size w W')
    ?ownI ?ownIx ?start ?act ?assign ?body ?done ?stop (λW=>KX.refl _ _ W)
   case assign=>
    intro l x W' K hK
    gi_wp2
    exact hK
   case ownI=>exact λs A B row hs hg hr=>⟨hs.1,hs.2.trans (KX.grown hg hs.2.size (λk e hk=>by have:=(hr _ e).1;omega))⟩
   case ownIx=>
    rintro c s A B row ⟨rfl,pre0,x,e1,e2,e3,s1,s2,s3,hb⟩ hg hr
    have l:∀{k o},k<Wt.heap.size->A.heap[k]?=some o->B.heap[k]?=some o:=λ{k o} h1 hk'=>(hg.block k (Array.getElem?_eq_some_iff.1 hk').1 (λe=>by have:=(hr _ e.symm).1;omega)).trans hk'
    exact⟨rfl,pre0,x,e1,e2,e3,l (by omega) s1,l (by omega) s2,l (by omega) s3,hb.grown hg hb.size (λk e=>by have:=(hr k e).1;omega)⟩
   case start=>exact⟨(λt h=>by cases h),KX.refl _ _ _⟩
   case body=>
    rintro l pre x W' ⟨hpre,hkx⟩ hlt
    have hbx:Below Wt.heap.size Wt W':=hkx.below (Nat.le_refl _) (λk hk=>by cases hk)
    have q2:=q'.on hbx (by omega)
    have hB2:=hBw.trans (hbx.mono hszr)
    have hlk:∀rs',(wellP rs').2=0->lookP rs' x.1=0:=λrs' h=>by
     unfold lookP
     rw[if_neg (λh'=>h' h),if_neg (by have:=x.2;omega)]
    have hl1':=hlk rs (look_ok' hl0)
    have hl2':=hlk ss (look_ok' hl1)
    have ha1:=s_list_Accepts ga gl gc x.1 V _ (laccepts_is hg (λh=>absurd hl1' h) (λ_=>rfl:lookP rs x.1=0->(λv=>v=Value.tuple #[.bool (accP rs x.1),.int .i64 0]) (.tuple #[.bool (accP rs x.1),.int .i64 0]))) W' (On.keep (λb o h=>hon.lt h) hon hB2)
    obtain⟨c0,c1,c2,c3,c4,f2,f3,f4⟩:=q2.cells
    clear hlk
    gi_wp2
    refine⟨trivial,(show CallsIn (Fence.wide.inRound l) 0 _ _ _ _ _ from callsIn_wide.2 ha1).mono ?_⟩
    rintro e W1 ⟨v,rfl,hb1,rfl⟩
    have hbx1:=hbx.trans (hb1.mono hbx.size)
    have q3:=q'.on hbx1 (by omega)
    have hB3:=hBw.trans (hbx1.mono hszr)
    have ha2:=s_list_Accepts ha hl hc x.1 V _ (laccepts_is hh (λh=>absurd hl2' h) (λ_=>rfl:lookP ss x.1=0->(λv=>v=Value.tuple #[.bool (accP ss x.1),.int .i64 0]) (.tuple #[.bool (accP ss x.1),.int .i64 0]))) W1 (On.keep (λb o h=>hon.lt h) hon hB3)
    clear c0 c1 c2 c3 c4 f2 f3 f4 ha1
    obtain⟨c0,c1,c2,c3,c4,f2,f3,f4⟩:=q3.cells
    gi_wp2
    refine⟨trivial,(show CallsIn (Fence.wide.inRound l) 0 _ _ _ _ _ from callsIn_wide.2 ha2).mono ?_⟩
    rintro e W2 ⟨v,rfl,hb2,rfl⟩
    have hbx2:=hbx1.trans (hb2.mono hbx1.size)
    have q4:=q'.on hbx2 (by omega)
    have hB4:=hBw.trans (hbx2.mono hszr)
    have hgg:W'.grownBy W2 none:=grown_of (hb1.trans (hb2.mono hb1.size))
    have hko:KeepsOthers W' W2:=KeepsOthers.of_grownBy hgg (λj o e _=>by cases e)
    have hkk:KX Wt.heap.size [] W' W2:=KX.grown hgg hbx.size (λk e=>by cases e)
    clear c0 c1 c2 c3 c4 f2 f3 f4 ha2
    obtain⟨c0,c1,c2,c3,c4,f2,f3,f4⟩:=q4.cells
    have go:difL rs ss x.1=false->KeepsFrom Wt.heap.size W' W2/\KX Wt.heap.size [] W' W2/\(∀t∈pre++[x],difL rs ss t.1=false)/\KX Wt.heap.size [] Wt W2:=λhd=>⟨hko.from _,hkk,λt ht=>by
     rcases List.mem_append.1 ht with h|h
     ·exact hpre t h
     ·rw[List.mem_singleton.1 h];exact hd,hkx.trans hkk⟩
    have st:difL rs ss x.1=true->∀side:Int,side=(if accP rs x.1=true then 1 else 2)->∃W3,(((W2.setCell ⟨w.heap.size+1+1,0,none⟩ (sv6 x)).setCell ⟨w.heap.size+1+1+1,0,none⟩ (.int .i64 side)).setCell ⟨w.heap.size+1+1+1+1,0,none⟩ (.int .i64 0))=W3/\
      KeepsFrom Wt.heap.size W' W3/\(Code.ret=Code.ret/\∃pre0 y,pre++[x]=pre0++[y]/\(∀t∈pre0,difL rs ss t.1=false)/\difL rs ss y.1=true/\
     W3.heap[w.heap.size+1+1]?=some (.cells [sv6 y].toArray 9 (0,0))/\W3.heap[w.heap.size+1+1+1]?=some (.cells [.int .i64 (if accP rs y.1=true then 1 else 2)].toArray 3 (0,0))/\W3.heap[w.heap.size+1+1+1+1]?=some (.cells [.int .i64 0].toArray 31 (0,0))/\Below w.heap.size w W3):=by
     rintro hd side rfl
     obtain⟨W3,hW3,s1,s2,s3,hB5⟩:=q4.stored (sv6 x) (.int .i64 (if accP rs x.1=true then 1 else 2)) (.int .i64 0)
     refine⟨W3,hW3,?_,rfl,pre,x,rfl,hpre,hd,s1,s2,s3,hB4.trans hB5⟩
     rw[<-hW3]
     exact(hko.trans (((KeepsOthers.setCell W2 ⟨w.heap.size+1+1,0,none⟩ (sv6 x)).trans (KeepsOthers.setCell _ ⟨w.heap.size+1+1+1,0,none⟩ (.int .i64 (if accP rs x.1=true then 1 else 2)))).trans (KeepsOthers.setCell _ ⟨w.heap.size+1+1+1+1,0,none⟩ (.int .i64 0)))).from _
    have hdf:difL rs ss x.1=(accP rs x.1 != accP ss x.1):=rfl
    have HG:=Hid.mk3 (Hid.mk3 go st) hdf
    clear go st hdf hpre
    cases h1:accP rs x.1<;>cases h2:accP ss x.1
    ·gi_wp2
     exact HG.out.1.out.1 (by rw[HG.out.2,h1,h2];rfl)
    ·gi_wp2
     obtain⟨W3,hW3,hA,hB⟩:=HG.out.1.out.2 (by rw[HG.out.2,h1,h2];rfl) 2 (by rw[h1];rfl)
     exact hW3▸⟨hA,rfl,hB.2⟩
    ·gi_wp2
     obtain⟨W3,hW3,hA,hB⟩:=HG.out.1.out.2 (by rw[HG.out.2,h1,h2];rfl) 1 (by rw[h1];rfl)
     exact hW3▸⟨hA,rfl,hB.2⟩
    ·gi_wp2
     exact HG.out.1.out.1 (by rw[HG.out.2,h1,h2];rfl)
   case done=>
    rintro D xs W' hD rfl ⟨hall,hkx⟩ hK
    have hbx:Below Wt.heap.size Wt W':=hkx.below (Nat.le_refl _) (λk hk=>by cases hk)
    have q2:=q'.on hbx (by omega)
    have hB2:=hBw.trans (hbx.mono hszr)
    obtain⟨c0,c1,c2,c3,c4,f2,f3,f4⟩:=q2.cells
    have hO:=least_done hall
    have HO:=Hid.mk3 hO hall
    clear hO hall
    gi_wp2
    obtain⟨W2,hW2,s1,s2,s3,hB3⟩:=q2.stored (.string (mkS [])) (.int .i64 0) (.int .i64 12)
    have hK2:W2.heap[D]?=some (.deferred (some [])):=by rw[<-hW2,set2 (by omega),set2 (by omega),set2 (by omega)];exact hK
    rw[show(((W'.setCell ⟨w.heap.size+1+1,0,none⟩ (.string {data:= #[]})).setCell ⟨w.heap.size+1+1+1,0,none⟩ (.int .i64 0)).setCell ⟨w.heap.size+1+1+1+1,0,none⟩ (.int .i64 12))=W2 from hW2]
    refine leastD (h:=w.heap.size) ?_ ?_ ?_ s1 s2 s3 (by omega) hK2 ?_
    ·rfl
    ·rfl
    ·rfl
    have hB4:=hB2.trans hB3
    have hfin:=HF.out.1 (W2.putObj D (.deferred none)) (below_put hB4 (by omega) hK2 hB4.size)
    rw[HO.out.1]at hfin
    exact hfin
   case stop=>
    rintro D c pre W' hD ⟨hp1,hp2⟩ ⟨rfl,pre0,x,rfl,e1,e2,s1,s2,s3,hb⟩ hK
    have hO:=least_stop hp1 e1 e2
    have HO:=Hid.mk3 hO hp1
    clear hO hp1 hp2 e1 e2
    gi_wp2
    refine leastD (h:=w.heap.size) ?_ ?_ ?_ s1 s2 s3 (by omega) hK ?_
    ·rfl
    ·rfl
    ·rfl
    have hfin:=HF.out.1 (W'.putObj D (.deferred none)) (below_put hb (by omega) hK hb.size)
    rw[HO.out.1]at hfin
    exact hfin
section
variable {rs ss:List Ru} {ga ha:Option Addr} {gl gc hl hc:Nat} {M:Mem}
theorem lleast_is (hg:GrR M rs ga gl gc) (hh:GrR M ss ha hl hc) (a:List UInt8) (n:Int) (K:Value->Prop)
  (h1:leastE rs ss a n≠0->K (.tuple #[.string (mkS []),.int .i64 0,.int .i64 (leastE rs ss a n)]))
  (h2:leastE rs ss a n=0->K (.tuple #[.string (mkS (leastO rs ss (wordsN a n.toNat)).1),.int .i64 (leastO rs ss (wordsN a n.toNat)).2.1,.int .i64 (leastO rs ss (wordsN a n.toNat)).2.2])):
  CallE Try.prog 25 #[.agg #[.slice ga gl gc],.agg #[.slice ha hl hc],.string (mkS a),.int .i64 n] M λv _=>K v:=
 λw hon=>callsIn_wide.1 (least_in M rs ss ga ha gl gc hl hc a n hg hh w hon _ (λh W hb=>⟨_,rfl,hb,h1 h⟩) λh W hb=>⟨_,rfl,hb,h2 h⟩)
end
end Go.Proofs.Ytmnilbfhfjdelaa.core

