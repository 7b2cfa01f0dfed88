/- Contracts and what they hang on, of several parts. No condition. -/
import Derived.Test.YtmnilbfhfjdelaaM3
import Derived.Test.YtmnilbfhfjdelaaM4
import Derived.RangeFuncNested
import Derived.RangeFuncBound
import Derived.RangeFuncCalls
import Derived.RangeFuncLeaves
import Derived.RangeFuncWrites
import Derived.RangeFuncBox
import Derived.Shelf.Abstract
import Derived.WalkKit
import Derived.OwnWalkIn
import Derived.TacticsInMore
import Derived.LoopNIn
import Derived.LoopIn
import Derived.Maps.OwnIn
import Derived.Maps.AppendAt
import Derived.StringKeys
import Derived.BigRegionIn
namespace Go.Proofs.Ytmnilbfhfjdelaa.core
open Go.Gx Go.RowKit Go.ChangeShapes Go.WideShapes Go.ChangeAt
set_option linter.unusedVariables false
noncomputable def listP (rs:List Ru) (a:List UInt8) (n:Int):Int:=if (wellP rs).2≠0 then(wellP rs).2 else if alphaP a≠0 then alphaP a else if n<0\/6<n then 1 else if 5000<geo a.length (n.toNat+1) then 2 else 0
section
variable {rs:List Ru} {ga:Option Addr} {gl gc:Nat} {M:Mem}
theorem llook_is (hg:GrR M rs ga gl gc) (a:List UInt8) (n:Int) (K:Value->Prop) (hK:K (.int .i64 (listP rs a n))):S_list_Look ga gl gc a n M K:=by
 unfold S_list_Look
 unfold listP at hK
 refine s_well_Well _ _ _ _ _ (wwell_is hg _ ⟨_,_,rfl,λh=>?_,λh=>?_⟩)
 ·rw[if_pos h]at hK;exact hK
 rw[if_neg h]at hK
 refine s_walk_Many _ _ _ _ (wmany_is a n _ _ (λh1=>?_) (λh1 h2=>?_) λh1 h2 h3=>?_)
 ·rw[if_pos h1]at hK
  exact⟨_,_,rfl,λ_=>hK,λhn=>absurd h1 hn⟩
 ·rw[if_neg (λhn=>hn h1),if_pos h2]at hK
  exact⟨_,_,rfl,λ_=>hK,λhn=>absurd (by decide) hn⟩
 ·rw[if_neg (λhn=>hn h1),if_neg (by omega)]at hK
  refine⟨_,_,rfl,λhn=>absurd rfl hn,λ_=>⟨λhgt=>?_,λhle=>?_⟩⟩
  ·rw[if_pos (by omega)]at hK;exact hK
  ·rw[if_neg (by omega)]at hK;exact hK
end
end Go.Proofs.Ytmnilbfhfjdelaa.core

namespace Go.Proofs.Ytmnilbfhfjdelaa.core
open Go.Gx Go.RowKit Go.ChangeShapes Go.WideShapes Go.ChangeAt
set_option linter.unusedVariables false
open Go.Shelf Go.Proofs
attribute [local go_sem] Oper.semAt_some
structure KX (n₀:Nat) (ex:List Nat) (A B:World):Prop where
 os:B.os=A.os
 tape:B.tape=A.tape
 output:B.output=A.output
 size:A.heap.size<=B.heap.size
 block:∀k,k<n₀->k∉ex->B.heap[k]?=A.heap[k]?
theorem KX.refl (n₀:Nat) (ex:List Nat) (A:World):KX n₀ ex A A:=⟨rfl,rfl,rfl,Nat.le_refl _,λ_ _ _=>rfl⟩
theorem KX.trans {n₀:Nat} {ex:List Nat} {A B C:World} (h:KX n₀ ex A B) (k:KX n₀ ex B C):KX n₀ ex A C:=
 ⟨k.os.trans h.os,k.tape.trans h.tape,k.output.trans h.output,Nat.le_trans h.size k.size,λi hi hx=>(k.block i hi hx).trans (h.block i hi hx)⟩
theorem KX.grown {n₀:Nat} {ex:List Nat} {A B:World} {row:Option Nat} (hg:A.grownBy B row) (hn:n₀<=A.heap.size) (hr:∀k,row=some k->k<n₀->k∈ex):KX n₀ ex A B:=
 ⟨hg.os,hg.tape,hg.output,hg.size,λk hk hx=>hg.block k (by omega) (λe=>hx (hr k e.symm hk))⟩
theorem KX.below {n₀:Nat} {ex:List Nat} {A B:World} {m:Nat} (h:KX n₀ ex A B) (hm:m<=n₀) (hx:∀k∈ex,m<=k):Below m A B:=
 ⟨h.os,h.tape,h.output,h.size,λk hk=>h.block k (by omega) (λhk'=>by have:=hx k hk';omega)⟩
theorem KX.of {n₀:Nat} {ex:List Nat} {A B:World} (h:Below n₀ A B):KX n₀ ex A B:=⟨h.os,h.tape,h.output,h.size,λk hk _=>h.block k hk⟩
theorem grown_of {A B:World} (h:Below A.heap.size A B):A.grownBy B none:=⟨h.os,h.tape,h.output,h.size,λk hk _=>h.block k hk⟩
abbrev W6:={x:List UInt8 // x.length<=6}
set_option maxRecDepth 100000 in
set_option maxHeartbeats 2000000 in
theorem texts1_in (l n₀:Nat) (ex:List Nat) (a:List UInt8) (s0:W6) (k:Nat) (T:List W6) (h1:1<=a.length) (hal:alphaP a=0) (hk6:k<=6) (hs0:∀c∈s0.1,c∈a) (hs0k:s0.1.length<=k)
  (hTl:T.length=geo a.length (k+1)-rankN a s0.1) (hT:∀(i:Nat) (s:W6),(∀c∈s.1,c∈a)->s.1.length<=k->rankN a s.1=rankN a s0.1+i->T[i]?=some s)
  (Ba Bf Bn:Nat) (J Jx:List W6->World->Prop) (hJ:∀s W W',J s W->W.grownBy W' none->J s W')
  (hY:∀m pre x W,J pre W->pre.length<T.length->YieldAt Fence.wide m Try.prog l #[.string (mkS x.1)] W λe W'=>
   (e= .returned (.bool true)/\J (pre++[x]) W'/\KX n₀ ex W W')\/(e= .returned (.bool false)/\Jx (pre++[x]) W'))
  (n:Nat) (W:World) (hn:n₀<=W.heap.size) (hBa:Boxed W Ba 9 (.string (mkS a))) (hBf:Boxed W Bf 9 (.string (mkS s0.1))) (hBn:Boxed W Bn 3 (.int .i64 k)) (hba:Ba<n₀/\Ba∉ex) (hbn:Bn<n₀/\Bn∉ex) (h0:J [] W):
  CallsIn Fence.wide n Try.prog 80 #[.func (.yield l) #[] #[],.pointer (some ⟨Bf,0,none⟩),.pointer (some ⟨Bn,0,none⟩),.pointer (some ⟨Ba,0,none⟩)] W λe W'=>(∃v,e= .returned v)/\
   ((∃xs,xs=T/\J xs W')\/(∃q,(q=T.take q.length/\q.length<=T.length)/\Jx q W')):=by
 have hcf:=hBf.cell
 refine callsIn_of_wp Try.func80 rfl trivial ?_ rfl
 simp only[Try.ntmps80,List.size_toArray,List.length_cons,List.length_nil,Nat.reduceAdd,Nat.reduceSub,Array.replicate_succ,Array.replicate_zero,List.push_toArray,List.append_toArray,List.nil_append,List.cons_append]
 gi_wp2
 gi_loopw [5] (λt wr=>∃(pre:List W6) (s:W6),t= .string (mkS s.1)/\(∀c∈s.1,c∈a)/\pre=T.take pre.length/\pre.length<=T.length/\rankN a s.1=rankN a s0.1+pre.length/\J pre wr/\KX n₀ ex W wr)
  (λt _=>match t with| .string b=>geo a.length 8-rankN a b.toList|_=>0)
 case atStart=>exact⟨[],s0,rfl,hs0,rfl,by simp,by simp,h0,KX.refl _ _ _⟩
 case round=>
  obtain⟨pre,s,rfl,hin,hpre,hpl,hrk,hj,hkx⟩:=hrel
  have hbn':Boxed wr Bn 3 (.int .i64 k):=(hkx.block Bn hbn.1 hbn.2).trans hBn
  have hba':Boxed wr Ba 9 (.string (mkS a)):=(hkx.block Ba hba.1 hba.2).trans hBa
  have hcn:=hbn'.cell
  have hsz:((mkS s.1).size:Int)=s.1.length:=rfl
  by_cases hlt:s.1.length<=k
  ·have hT1:=hT pre.length s hin hlt hrk
   have hlt2:pre.length<T.length:=(List.getElem?_eq_some_iff.1 hT1).1
   obtain⟨fn,tmps,assign,body,hy,hRd⟩:=hY (n-1) pre s wr hj hlt2
   have hb:((mkS s.1).size:Int)<=(k:Int):=by rw[hsz];omega
   gi_wp2
   refine⟨λh=>(by cases h),hRd.mono ?_⟩
   have hov:=over_of hal s.2 hin
   have hnx:=e_walk_Next a s.1 (λ_=>none) (λv _=>(rankN a s.1+1=geo a.length 7/\v= .tuple #[.string (mkS []),.int .i64 12])\/∃t:W6,(∀c∈t.1,c∈a)/\rankN a t.1=rankN a s.1+1/\v= .tuple #[.string (mkS t.1),.int .i64 0])
    (wnext_is _ _ (λh=>absurd hov h) (λ_ h M' _=>.inl ⟨h,rfl⟩) λ_ t h6 ht hr M' _=>.inr ⟨⟨t,h6⟩,ht,hr,rfl⟩)
   have hpre1:pre++[s]=T.take (pre.length+1):=by rw[List.take_add_one,hT1,<-hpre];rfl
   have hlen1:(pre++[s]).length=pre.length+1:=by simp
   rintro e W1 (⟨rfl,hj1,hkx1⟩|⟨rfl,hx1⟩)
   ·have hba1:Boxed W1 Ba 9 (.string (mkS a)):=(hkx1.block Ba hba.1 hba.2).trans hba'
    have hca:=hba1.cell
    have hnx1:=hnx W1 (λb o h=>by cases h)
    clear hnx
    gi_wp2
    refine⟨trivial,λh=>(by cases h),(callsIn_wide.2 hnx1).mono ?_⟩
    rintro e W2 ⟨v,rfl,hbel,(⟨hr,rfl⟩|⟨t,ht,hr,rfl⟩)⟩
    ·have e:pre++[s]=T:=by
      have hlt3:=(rank_le (n:=k) h1 hin).1 hlt
      have hg:geo a.length (k+1)<=geo a.length 7:=by
       rcases Nat.lt_or_ge k 6 with h|h
       ·exact Nat.le_of_lt (geo_lt h1 (by omega))
       ·rw[show k=6 by omega];exact Nat.le_refl _
      rw[hpre1,List.take_of_length_le (by omega)]
     have hj2:=hJ _ _ _ hj1 (grown_of hbel)
     rw[e]at hj2
     gi_wp2
     refine bodyPost_ret (results_none rfl _ _ _) rfl ?_
     exact⟨⟨_,rfl⟩,.inl ⟨_,rfl,hj2⟩⟩
    ·have hms:geo a.length 8-rankN a (mkS t.1).toList<geo a.length 8-rankN a (mkS s.1).toList:=by
      have hr1:rankN a s.1<geo a.length 8:=(rank_le (n:=7) h1 hin).1 (Nat.le_trans s.2 (by omega))
      rw[mkS_toList,mkS_toList];omega
     have hj2:=hJ _ _ _ hj1 (grown_of hbel)
     have hkx2:=hkx.trans (hkx1.trans (KX.of (hbel.mono (Nat.le_trans hn (Nat.le_trans hkx.size hkx1.size)))))
     gi_wp2
     exact⟨⟨_,t,rfl,ht,by rw[hlen1];exact hpre1,by rw[hlen1];exact hlt2,by rw[hlen1];omega,hj2,hkx2⟩,hms⟩
   ·gi_wp2
    refine bodyPost_ret (results_none rfl _ _ _) rfl ?_
    exact⟨⟨_,rfl⟩,.inr ⟨_,⟨by rw[hlen1];exact hpre1,by rw[hlen1];exact hlt2⟩,hx1⟩⟩
  ·have hb:¬((mkS s.1).size:Int)<=(k:Int):=by rw[hsz];omega
   have e:pre=T:=by
    have hx:¬rankN a s.1<geo a.length (k+1):=λh=>hlt ((rank_le h1 hin).2 h)
    rw[hpre,List.take_of_length_le (by omega)]
   gi_wp2
   go_end0
   exact⟨⟨_,rfl⟩,.inl (e▸hj)⟩
set_option maxHeartbeats 1000000 in
theorem texts_mk (n:Nat) (a s:List UInt8) (k:Int) (w:World):
  CallsIn Fence.wide n Try.prog 49 #[.string (mkS a),.string (mkS s),.int .i64 k] w λe w'=>e= .returned (.func (.func 80) #[] #[.pointer (some ⟨w.heap.size+1,0,none⟩),.pointer (some ⟨w.heap.size+1+1,0,none⟩),.pointer (some ⟨w.heap.size,0,none⟩)])/\
   w'=((w.alloc (.cells #[.string (mkS a)] 9)).alloc (.cells #[.string (mkS s)] 9)).alloc (.cells #[.int .i64 k] 3):=by
 refine callsIn_of_wp Try.func49 rfl trivial ?_ rfl
 simp only[Try.ntmps49,List.size_toArray,List.length_cons,List.length_nil,Nat.reduceAdd,Nat.reduceSub,Array.replicate_succ,Array.replicate_zero,List.push_toArray,List.append_toArray,List.nil_append,List.cons_append]
 gi_wp2
 go_ret
 exact⟨rfl,rfl⟩
theorem texts_stops (n:Nat) (n₀:Nat) (ex:List Nat) (a:List UInt8) (s0:W6) (k:Nat) (T:List W6) (h1:1<=a.length) (hal:alphaP a=0) (hk6:k<=6) (hs0:∀c∈s0.1,c∈a) (hs0k:s0.1.length<=k)
  (hTl:T.length=geo a.length (k+1)-rankN a s0.1) (hT:∀(i:Nat) (s:W6),(∀c∈s.1,c∈a)->s.1.length<=k->rankN a s.1=rankN a s0.1+i->T[i]?=some s)
  (Ba Bf Bn:Nat) (w:World) (hn:n₀<=w.heap.size) (hBa:Boxed w Ba 9 (.string (mkS a))) (hBf:Boxed w Bf 9 (.string (mkS s0.1))) (hBn:Boxed w Bn 3 (.int .i64 k)) (hba:Ba<n₀/\Ba∉ex) (hbn:Bn<n₀/\Bn∉ex):
  SeqStopsK Fence.wide n Try.prog 80 #[.pointer (some ⟨Bf,0,none⟩),.pointer (some ⟨Bn,0,none⟩),.pointer (some ⟨Ba,0,none⟩)] (λx:W6=> #[.string (mkS x.1)]) (KX n₀ ex) (λxs=>xs=T) (λq=>q=T.take q.length/\q.length<=T.length) T.length w:=λl J Jx W hW hJ _ hY h0=>
 texts1_in l n₀ ex a s0 k T h1 hal hk6 hs0 hs0k hTl hT Ba Bf Bn J Jx (λs A B hs hg=>hJ s A B none hs hg (λr e=>by cases e)) (λm pre x W1 hj hl=>YieldAt.deep m (hY pre x W1 hj hl)) n W (Nat.le_trans hn hW.size)
  ((hW.block Ba hBa.lt).trans hBa) ((hW.block Bf hBf.lt).trans hBf) ((hW.block Bn hBn.lt).trans hBn) hba hbn h0
end Go.Proofs.Ytmnilbfhfjdelaa.core

namespace Go.Proofs.Ytmnilbfhfjdelaa.core
open Go.Gx Go.RowKit Go.ChangeShapes Go.WideShapes Go.ChangeAt
set_option linter.unusedVariables false
open Go.Shelf Go.Proofs
attribute [local go_sem] Oper.semAt_some
def sv6 (x:W6):Value:=.string (mkS x.1)
noncomputable def accL (rs:List Ru) (l:List W6):List W6:=l.filter λx=>accP rs x.1
noncomputable def listE (rs:List Ru) (a:List UInt8) (n:Int) (c:X_api_Cursor) (b:Int):Int:=
 if listP rs a n≠0 then listP rs a n else if b<0\/1048576<b\/overP a c.Text≠0\/n<c.Text.length\/(c.Over=true/\c.Text≠[]) then 1 else 0
def listT (a:List UInt8) (n:Int) (c:X_api_Cursor):List (List UInt8):=(wordsN a n.toNat).drop (rankN a c.Text)
noncomputable def listO (rs:List Ru) (a:List UInt8) (n:Int) (c:X_api_Cursor) (b:Int):List (List UInt8)×X_api_Cursor:=
 if c.Over=true then([],c) else if b<(listT a n c).length then(((listT a n c).take b.toNat).filter (accP rs),⟨((listT a n c)[b.toNat]?).getD [],false⟩) else((listT a n c).filter (accP rs),⟨[],true⟩)
theorem listE_ok {rs:List Ru} {a:List UInt8} {n:Int} {c:X_api_Cursor} {b:Int} (he:listP rs a n=0) (hb0:0<=b) (hb1:b<=1048576) (ho:overP a c.Text=0) (hn:(c.Text.length:Int)<=n) (hc:¬(c.Over=true/\c.Text≠[])):listE rs a n c b=0:=by
 unfold listE
 rw[if_neg (λh=>h he),if_neg]
 rintro(h|h|h|h|h)
 ·omega
 ·omega
 ·exact h ho
 ·omega
 ·exact hc h
theorem listP_ok {rs:List Ru} {a:List UInt8} {n:Int} (h:listP rs a n=0):WellOk rs/\alphaP a=0/\0<=n/\n<=6/\geo a.length (n.toNat+1)<=5000:=by
 unfold listP at h
 split at h
 ·rename_i h1;exact absurd h h1
 rename_i h1
 split at h
 ·rename_i h2;exact absurd h h2
 rename_i h2
 split at h
 ·omega
 split at h
 ·omega
 exact⟨(look_ok (s:=[]) (by unfold lookP;rw[if_neg h1];rfl)).1,Decidable.not_not.1 h2,by omega,by omega,by omega⟩
theorem look_ok' {rs:List Ru} {a:List UInt8} {n:Int} (h:listP rs a n=0):(wellP rs).2=0:=by
 unfold listP at h
 split at h
 ·rename_i h1;exact absurd h h1
 ·rename_i h1;exact Decidable.not_not.1 h1
theorem accL_snoc (rs:List Ru) (l:List W6) (x:W6):accL rs (l++[x])=if accP rs x.1=true then accL rs l++[x] else accL rs l:=by
 unfold accL
 rw[List.filter_append]
 split<;>rename_i h<;>simp[h]
theorem accL_len (rs:List Ru) (l:List W6):(accL rs l).length<=l.length:=List.length_filter_le ..
theorem six_ex (l:List (List UInt8)) (h:∀x∈l,x.length<=6):∃T:List W6,T.map (·.1)=l:=⟨l.pmap Subtype.mk h,by rw[List.map_pmap];simp⟩
theorem accL_map (rs:List Ru) (T:List W6):(T.map (·.1)).filter (accP rs)=(accL rs T).map (·.1):=by
 unfold accL
 rw[List.filter_map];rfl
theorem listO_done {rs:List Ru} {a:List UInt8} {n:Int} {c:X_api_Cursor} {b:Int} {T:List W6} (hTv:T.map (·.1)=listT a n c) (hc:c.Over=false) (hle:(T.length:Int)<=b):listO rs a n c b=((accL rs T).map (·.1),⟨[],true⟩):=by
 unfold listO
 have hl:(listT a n c).length=T.length:=by rw[<-hTv,List.length_map]
 rw[if_neg (by rw[hc];decide),if_neg (by rw[hl];omega),<-hTv,accL_map]
theorem listO_stop {rs:List Ru} {a:List UInt8} {n:Int} {c:X_api_Cursor} {b:Int} {T:List W6} (hTv:T.map (·.1)=listT a n c) (hc:c.Over=false) {pre:List W6} {x:W6} (h:pre++[x]=T.take (pre++[x]).length) (hl:(pre++[x]).length<=T.length) (hb:(pre.length:Int)=b):listO rs a n c b=((accL rs pre).map (·.1),⟨x.1,false⟩):=by
 unfold listO
 have hlen:(listT a n c).length=T.length:=by rw[<-hTv,List.length_map]
 rw[List.length_append,List.length_singleton]at h hl
 have h1:T.take pre.length=pre:=by
  have:=congrArg (List.take pre.length) h
  rw[List.take_left,List.take_take,Nat.min_eq_left (by omega)]at this
  exact this.symm
 have h2:T[pre.length]?=some x:=by
  have:=congrArg (·[pre.length]?) h
  simp only[List.getElem?_take]at this
  rw[if_pos (by omega),List.getElem?_append_right (Nat.le_refl _)]at this
  simpa using this.symm
 have hbn:b.toNat=pre.length:=by omega
 rw[if_neg (by rw[hc];decide),if_pos (by rw[hlen];omega),<-hTv,hbn,<-List.map_take,h1,accL_map,List.getElem?_map,h2]
 rfl
theorem strV_6 (l:List W6):strV (l.map (·.1))=l.map sv6:=by
 unfold strV sv6
 rw[List.map_map];rfl
theorem six (w:World) (o0 o1 o2 o3 o4 o5:Obj):∃W,((((((w.alloc o0).alloc o1).alloc o2).alloc o3).alloc o4).alloc o5)=W/\W.heap[w.heap.size]?=some o0/\W.heap[w.heap.size+1]?=some o1/\W.heap[w.heap.size+1+1]?=some o2/\
  W.heap[w.heap.size+1+1+1]?=some o3/\W.heap[w.heap.size+1+1+1+1]?=some o4/\W.heap[w.heap.size+1+1+1+1+1]?=some o5/\Below w.heap.size w W/\W.heap.size=w.heap.size+6:=by
 refine⟨_,rfl,?_,?_,?_,?_,?_,?_,?_,by simp⟩
 all_goals first
  |(refine((((((Below.refl _ w).alloc ?_ _).alloc ?_ _).alloc ?_ _).alloc ?_ _).alloc ?_ _).alloc ?_ _<;>simp<;>omega)
  |(simp only[World.alloc,Array.getElem?_push,Array.size_push];repeat (first|rw[if_pos trivial]|rw[if_pos (by omega)]|rw[if_neg (by omega)]))
theorem set1 {W:World} {b:Nat} {cs:Array Value} {t:TypeId} {f:Nat×Nat} (h:W.heap[b]?=some (.cells cs t f)) (i:Nat) (v:Value):(W.setCell ⟨b,i,none⟩ v).heap[b]?=some (.cells (cs.setIfInBounds i v) t f):=by
 simp only[World.setCell,Array.getElem?_modify,if_pos,h];rfl
theorem set2 {W:World} {b b':Nat} (hb:b≠b') (i:Nat) (v:Value):(W.setCell ⟨b',i,none⟩ v).heap[b]?=W.heap[b]?:=Below.heap_setCell _ _ _ _ hb
theorem tail3 {P:Program} {fn:Func} {p1 p2 p3:Tmp} {y1 y2 y3:TypeId} (hr:fn.results= #[.cell p1 y1,.cell p2 y2,.cell p3 y3]) {tmps:Array Value} {W:World} {b1 b2 b3:Nat} {vs1 vs2 vs3:List Value} {t1 t2 t3:TypeId} (g1 g2 g3:Bool)
  (e1:tmps.getD p1 undef= .pointer (some ⟨b1,0,none⟩)) (e2:tmps.getD p2 undef= .pointer (some ⟨b2,0,none⟩)) (e3:tmps.getD p3 undef= .pointer (some ⟨b3,0,none⟩))
  (h1:W.heap[b1]?=some (.cells vs1.toArray t1 (0,0))) (h2:W.heap[b2]?=some (.cells vs2.toArray t2 (0,0))) (h3:W.heap[b3]?=some (.cells vs3.toArray t3 (0,0)))
  (k1:tyOk P y1 g1 vs1.length=true) (k2:tyOk P y2 g2 vs2.length=true) (k3:tyOk P y3 g3 vs3.length=true):
  (results fn tmps).run P W= .ok (.tuple #[ofCells g1 vs1,ofCells g2 vs2,ofCells g3 vs3]) W:=by
 have ld:∀{y:TypeId} {b:Nat} {vs:List Value} {t:TypeId} {g:Bool},W.heap[b]?=some (.cells vs.toArray t (0,0))->tyOk P y g vs.length=true->(loadVar y ⟨b,0,none⟩).run P W= .ok (ofCells g vs) W:=λ{y b vs t g} h k=>by
  obtain⟨q1,q2,q3,q4⟩:=tyOk_spec k
  exact run_load_at (P:=P) q1 q2 q3 q4 λj v hj=>by simp[World.cell?,h,hj]
 have l1:=ld h1 k1
 have l2:=ld h2 k2
 have l3:=ld h3 k3
 simp only[results,hr]
 simp[-Array.getD_eq_getD_getElem?,e1,e2,e3,asAddr,l1,l2,l3]
theorem stored3 {W:World} {b1 b2 b3:Nat} {u1 u2 u2' u3:Value} {t1 t2 t3:TypeId} (r1:W.heap[b1]?=some (.cells #[u1] t1 (0,0))) (r2:W.heap[b2]?=some (.cells #[u2,u2'] t2 (0,0))) (r3:W.heap[b3]?=some (.cells #[u3] t3 (0,0)))
  (n12:b1≠b2) (n13:b1≠b3) (n23:b2≠b3) (v1 x0 x1 v3:Value):∃W',(((W.setCell ⟨b1,0,none⟩ v1).setCell ⟨b2,0,none⟩ x0).setCell ⟨b2,1,none⟩ x1).setCell ⟨b3,0,none⟩ v3=W'/\
  W'.heap[b1]?=some (.cells [v1].toArray t1 (0,0))/\W'.heap[b2]?=some (.cells [x0,x1].toArray t2 (0,0))/\W'.heap[b3]?=some (.cells [v3].toArray t3 (0,0))/\∀B,B<=b1->B<=b2->B<=b3->Below B W W':=by
 refine⟨_,rfl,?_,?_,?_,λB h1 h2 h3=>?_⟩
 ·rw[set2 n13,set2 n12,set2 n12];exact set1 r1 0 v1
 ·rw[set2 n23]
  have:=set1 (set1 ((set2 (Ne.symm n12) 0 v1).trans r2) 0 x0) 1 x1
  simpa using this
 ·refine(set1 (((set2 (Ne.symm n23) 1 x1).trans ((set2 (Ne.symm n23) 0 x0).trans ((set2 (Ne.symm n13) 0 v1).trans r3)))) 0 v3).trans ?_
  simp
 ·exact(((((Below.refl B W).setCell (p:=⟨b1,0,none⟩) h1 _).setCell (p:=⟨b2,0,none⟩) h2 _).setCell (p:=⟨b2,1,none⟩) h2 _).setCell (p:=⟨b3,0,none⟩) h3 _)
structure Six (h:Nat) (g c0 c1 b s0 s1 s2 e:Value) (W:World):Prop where
 r0:W.heap[h]?=some (.cells #[g] 38 (0,0))
 r1:W.heap[h+1]?=some (.cells #[c0,c1] 47 (0,0))
 r2:W.heap[h+1+1]?=some (.cells #[b] 3 (0,0))
 r3:W.heap[h+1+1+1]?=some (.cells #[s0] 45 (0,0))
 r4:W.heap[h+1+1+1+1]?=some (.cells #[s1,s2] 47 (0,0))
 r5:W.heap[h+1+1+1+1+1]?=some (.cells #[e] 31 (0,0))
theorem Six.on {h:Nat} {g c0 c1 b s0 s1 s2 e:Value} {W W':World} (q:Six h g c0 c1 b s0 s1 s2 e W) (hb:Below W.heap.size W W'):Six h g c0 c1 b s0 s1 s2 e W':=by
 have l:∀{k o},W.heap[k]?=some o->W'.heap[k]?=some o:=λ{k o} hk=>(hb.block k (Array.getElem?_eq_some_iff.1 hk).1).trans hk
 exact⟨l q.r0,l q.r1,l q.r2,l q.r3,l q.r4,l q.r5⟩
theorem Six.cells {h:Nat} {g c0 c1 b s0 s1 s2 e:Value} {W:World} (q:Six h g c0 c1 b s0 s1 s2 e W):
  W.cell? ⟨h,0,none⟩=some g/\W.cell? ⟨h+1,0,none⟩=some c0/\W.cell? ⟨h+1,1,none⟩=some c1/\W.cell? ⟨h+1+1,0,none⟩=some b/\W.cell? ⟨h+1+1+1,0,none⟩=some s0/\
  W.cell? ⟨h+1+1+1+1,0,none⟩=some s1/\W.cell? ⟨h+1+1+1+1,1,none⟩=some s2/\W.cell? ⟨h+1+1+1+1+1,0,none⟩=some e/\
  W.frozen? ⟨h+1+1+1,0,none⟩=false/\W.frozen? ⟨h+1+1+1+1,0,none⟩=false/\W.frozen? ⟨h+1+1+1+1,1,none⟩=false/\W.frozen? ⟨h+1+1+1+1+1,0,none⟩=false:=by
 obtain⟨r0,r1,r2,r3,r4,r5⟩:=q
 refine⟨?_,?_,?_,?_,?_,?_,?_,?_,?_,?_,?_,?_⟩<;>simp[World.cell?,World.frozen?,r0,r1,r2,r3,r4,r5]
theorem Six.fin {h:Nat} {g c0 c1 b s0 s1 s2 e:Value} {W:World} (q:Six h g c0 c1 b s0 s1 s2 e W) (v1 x0 x1 v3:Value) {R:Ending->World->Prop} {tmps:Array Value}
  (e1:tmps.getD 10 undef= .pointer (some ⟨h+1+1+1,0,none⟩)) (e2:tmps.getD 11 undef= .pointer (some ⟨h+1+1+1+1,0,none⟩)) (e3:tmps.getD 12 undef= .pointer (some ⟨h+1+1+1+1+1,0,none⟩))
  (hR:∀W2,Below h W W2->R (.returned (.tuple #[v1,.agg #[x0,x1],v3])) W2):
  bodyPostM Fence.wide 3 Try.prog Try.f21 R .ret {tmps:=tmps,defers:=[]} ((((W.setCell ⟨h+1+1+1,0,none⟩ v1).setCell ⟨h+1+1+1+1,0,none⟩ x0).setCell ⟨h+1+1+1+1,1,none⟩ x1).setCell ⟨h+1+1+1+1+1,0,none⟩ v3):=by
 obtain⟨W2,hW2,s1,s2,s3,hB2⟩:=stored3 q.r3 q.r4 q.r5 (by omega) (by omega) (by omega) v1 x0 x1 v3
 rw[hW2]
 exact⟨_,tail3 rfl false true false e1 e2 e3 s1 s2 s3 (by kernel_rfl) (by kernel_rfl) (by kernel_rfl),hR W2 (hB2 _ (by omega) (by omega) (by omega))⟩
theorem Six.finD {h:Nat} {g c0 c1 b s0 s1 s2 e:Value} {W:World} (q:Six h g c0 c1 b s0 s1 s2 e W) (v1 x0 x1 v3:Value) {R:Ending->World->Prop} {tmps:Array Value}
  (e1:tmps.getD 10 undef= .pointer (some ⟨h+1+1+1,0,none⟩)) (e2:tmps.getD 11 undef= .pointer (some ⟨h+1+1+1+1,0,none⟩)) (e3:tmps.getD 12 undef= .pointer (some ⟨h+1+1+1+1+1,0,none⟩))
  (hR:∀W2,Below h W W2->R (.returned (.tuple #[v1,.agg #[x0,x1],v3])) W2):
  bodyPostM Fence.wide 3 Try.prog Try.f21 R .ret {tmps:=tmps,defers:=[]} ((((W.setCell ⟨h+1+1+1,0,none⟩ v1).setCell ⟨h+1+1+1+1,0,none⟩ x0).setCell ⟨h+1+1+1+1,1,none⟩ x1).setCell ⟨h+1+1+1+1+1,0,none⟩ v3).drew:=by
 obtain⟨W2,hW2,s1,s2,s3,hB2⟩:=stored3 q.r3 q.r4 q.r5 (by omega) (by omega) (by omega) v1 x0 x1 v3
 rw[hW2]
 exact⟨_,tail3 (W:=W2.drew) rfl false true false e1 e2 e3 s1 s2 s3 (by kernel_rfl) (by kernel_rfl) (by kernel_rfl),hR W2.drew (hB2 _ (by omega) (by omega) (by omega)).drew⟩
theorem four (w:World) (o0 o1 o2 o3:Obj):∃W,((((w.alloc o0).alloc o1).alloc o2).alloc o3)=W/\W.heap[w.heap.size]?=some o0/\W.heap[w.heap.size+1]?=some o1/\W.heap[w.heap.size+1+1]?=some o2/\
  W.heap[w.heap.size+1+1+1]?=some o3/\Below w.heap.size w W/\W.heap.size=w.heap.size+4:=by
 refine⟨_,rfl,?_,?_,?_,?_,?_,by simp⟩
 all_goals first
  |(refine((((Below.refl _ w).alloc ?_ _).alloc ?_ _).alloc ?_ _).alloc ?_ _<;>simp<;>omega)
  |(simp only[World.alloc,Array.getElem?_push,Array.size_push];repeat (first|rw[if_pos trivial]|rw[if_pos (by omega)]|rw[if_neg (by omega)]))
theorem row_grown {W W':World} {row:Option Nat} {base e size k:Nat} {v:Value} {xs:List Value} (hr:W.ownsRow base e size v k xs) (hg:W.grownBy W' row) (hrow:∀r,row=some r->∃o:Obj,W.heap[r]?=some o/\o.isCells=false):W'.ownsRow base e size v k xs:=by
 refine hr.kept hg ?_
 rcases hr.2 with⟨rfl,_⟩|⟨g,cap,cur,rfl,_,hgb,_⟩
 ·exact .inl rfl
 ·refine .inr λe'=>?_
  obtain⟨o,ho,hc⟩:=hrow g (by simpa[Value.ownBlock]using e'.symm)
  rw[hgb]at ho;cases ho;cases hc
theorem row_slice {W:World} {base e size k:Nat} {v:Value} {xs:List Value} (hr:W.ownsRow base e size v k xs):∃A c,v= .slice A k c:=by
 rcases hr.2 with⟨rfl,h⟩|⟨g,cap,cur,rfl,_⟩
 ·subst h;exact⟨_,_,rfl⟩
 ·exact⟨_,_,rfl⟩
theorem row_below {W W':World} {base e size k:Nat} {v:Value} {xs:List Value} (hr:W.ownsRow base e size v k xs) (hb:Below W.heap.size W W'):W'.ownsRow base e size v k xs:=
 row_grown hr (grown_of hb) (λr e=>by cases e)
theorem Boxed.below {W W':World} {B:Nat} {t:TypeId} {v:Value} (h:Boxed W B t v) (hb:Below W.heap.size W W'):Boxed W' B t v:=(hb.block B h.lt).trans h
theorem Boxed.appX {W w1:World} {n₀ B:Nat} {ex:List Nat} {t e:TypeId} {size:Nat} {v v':Value} {k m:Nat} {xs ys:List Value} {tmp:Obj}
  (hv:Boxed W B t v) (hte:t≠e) (hrow:W.ownsRow n₀ e size v k xs) (hn₀:n₀<=W.heap.size) (hB:B∈ex)
  (hown':w1.ownsRow n₀ e size v' m ys) (hgrow:(W.alloc tmp).grownBy w1 v.ownBlock):
  Boxed w1 B t v/\Boxed (w1.setCell ⟨B,0,none⟩ v') B t v'/\(w1.setCell ⟨B,0,none⟩ v').ownsRow n₀ e size v' m ys/\KeepsOthers W (w1.setCell ⟨B,0,none⟩ v')/\KX n₀ ex W (w1.setCell ⟨B,0,none⟩ v'):=by
 have hv1:Boxed w1 B t v:=(hv.alloc tmp).kept hgrow (hv.not_row hte hrow)
 refine⟨hv1,hv1.set v',hown'.kept (grownBy_setCell' w1 B v') (.inr (hv1.not_row hte hown').symm),?_,?_⟩
 ·refine((KeepsOthers.alloc W tmp).trans (KeepsOthers.of_grownBy hgrow λj o ej hj=>?_)).trans (KeepsOthers.setCell _ _ _)
  rcases(hrow.alloc tmp).2 with⟨rfl,_⟩|⟨g,cap,cur,rfl,_,hgb,_⟩
  ·simp[Value.ownBlock]at ej
  ·obtain rfl:g=j:=by simpa[Value.ownBlock]using ej
   rw[hgb]at hj;cases hj;rfl
 ·refine((KX.grown (World.grownBy_alloc W tmp none) hn₀ (λk e=>by cases e)).trans (KX.grown hgrow (by simp;omega) λj ej hlt=>?_)).trans (KX.grown (grownBy_setCell' w1 B v') ?_ λj ej _=>by cases ej;exact hB)
  ·rcases hrow.2 with⟨rfl,_⟩|⟨g,cap,cur,rfl,hb,_,_⟩
   ·simp[Value.ownBlock]at ej
   ·obtain rfl:g=j:=by simpa[Value.ownBlock]using ej
    omega
  ·have:=hgrow.size
   simp at this;omega
theorem KX.set {n₀:Nat} {ex:List Nat} {W:World} {B i:Nat} (hn:n₀<=W.heap.size) (hB:B∈ex) (v:Value):KX n₀ ex W (W.setCell ⟨B,i,none⟩ v):=
 ⟨rfl,rfl,rfl,by simp[World.setCell],λk _ hk=>Below.heap_setCell _ _ _ _ (λe=>hk (by rw[e];exact hB))⟩
theorem Six.kx {h:Nat} {g c0 c1 b s0 s1 s2 e b':Value} {W W':World} {n₀:Nat} {ex:List Nat} (q:Six h g c0 c1 b s0 s1 s2 e W) (hk:KX n₀ ex W W') (hn:h+6<=n₀) (hx:∀k∈ex,k=h+1+1\/h+6<=k) (hb:W'.heap[h+1+1]?=some (.cells #[b'] 3 (0,0))):Six h g c0 c1 b' s0 s1 s2 e W':=by
 have l:∀{k o},k<h+6->k≠h+1+1->W.heap[k]?=some o->W'.heap[k]?=some o:=λ{k o} h1 h2 hk'=>(hk.block k (by omega) (λhm=>by have:=hx k hm;omega)).trans hk'
 exact⟨l (by omega) (by omega) q.r0,l (by omega) (by omega) q.r1,hb,l (by omega) (by omega) q.r3,l (by omega) (by omega) q.r4,l (by omega) (by omega) q.r5⟩
theorem leaveD {h D:Nat} {W:World} {v1 x0 x1 v3:Value} {R:Ending->World->Prop} {tmps:Array Value}
  (e1:tmps.getD 10 undef= .pointer (some ⟨h+1+1+1,0,none⟩)) (e2:tmps.getD 11 undef= .pointer (some ⟨h+1+1+1+1,0,none⟩)) (e3:tmps.getD 12 undef= .pointer (some ⟨h+1+1+1+1+1,0,none⟩))
  (s1:W.heap[h+1+1+1]?=some (.cells [v1].toArray 45 (0,0))) (s2:W.heap[h+1+1+1+1]?=some (.cells [x0,x1].toArray 47 (0,0))) (s3:W.heap[h+1+1+1+1+1]?=some (.cells [v3].toArray 31 (0,0)))
  (hD:h+6<=D) (hK:W.heap[D]?=some (.deferred (some []))) (hR:R (.returned (.tuple #[v1,.agg #[x0,x1],v3])) (W.putObj D (.deferred none))):
  bodyPostM Fence.wide 3 Try.prog Try.f21 R .ret {tmps:=tmps,defers:=[{target:=.collected D,args:= #[]}]} W:=
 ⟨by simp,.inl ⟨_,_,rfl,run_takeDeferred hK,⟨_,tail3 (W:=W.putObj D (.deferred none)) rfl false true false e1 e2 e3 ((World.putObj_heap_other (by omega)).trans s1) ((World.putObj_heap_other (by omega)).trans s2) ((World.putObj_heap_other (by omega)).trans s3) (by kernel_rfl) (by kernel_rfl) (by kernel_rfl),hR⟩⟩⟩
theorem row_set {W:World} {base e size k:Nat} {v:Value} {xs:List Value} (h:W.ownsRow base e size v k xs) {b1 b2 b3:Nat} (h1:b1<base) (h2:b2<base) (h3:b3<base) (v1 x0 x1 v3:Value):
  ((((W.setCell ⟨b1,0,none⟩ v1).setCell ⟨b2,0,none⟩ x0).setCell ⟨b2,1,none⟩ x1).setCell ⟨b3,0,none⟩ v3).ownsRow base e size v k xs:=
 ownsRow_setCell_below (ownsRow_setCell_below (ownsRow_setCell_below (ownsRow_setCell_below h (a:=⟨b1,0,none⟩) h1 _) (a:=⟨b2,0,none⟩) h2 _) (a:=⟨b2,1,none⟩) h2 _) (a:=⟨b3,0,none⟩) h3 _
theorem keeps_set (W:World) (B b1 b2 b3:Nat) (v1 x0 x1 v3:Value):KeepsFrom B W ((((W.setCell ⟨b1,0,none⟩ v1).setCell ⟨b2,0,none⟩ x0).setCell ⟨b2,1,none⟩ x1).setCell ⟨b3,0,none⟩ v3):=
 ((((KeepsOthers.setCell W ⟨b1,0,none⟩ v1).trans (KeepsOthers.setCell _ ⟨b2,0,none⟩ x0)).trans (KeepsOthers.setCell _ ⟨b2,1,none⟩ x1)).trans (KeepsOthers.setCell _ ⟨b3,0,none⟩ v3)).from B
theorem below_put {B D:Nat} {w W:World} (h:Below B w W) (hD:B<=D) {o o':Obj} (hl:W.heap[D]?=some o) (hB:B<=W.heap.size):Below B w (W.putObj D o'):=
 h.grown (grownBy_putObj' W D o') hB (λk e=>by cases e;exact hD)
theorem Hid.mk3 {p q:Prop} (h:p) (k:q):Hid (p/\q):=⟨h,k⟩
set_option maxRecDepth 100000 in
set_option maxHeartbeats 4000000 in
theorem list_in (V:Mem) (rs:List Ru) (ga:Option Addr) (gl gc:Nat) (a:List UInt8) (n:Int) (c:X_api_Cursor) (b:Int) (hg:GrR V rs ga gl gc) (w:World) (hon:On V w) (R:Ending->World->Prop)
  (hR1:listE rs a n c b≠0->∀W,Below w.heap.size w W->R (.returned (.tuple #[.slice none 0 0,(X_api_Cursor.mk [] false).val,.int .i64 (listE rs a n c b)])) W)
  (hR2:listE rs a n c b=0->∀W v,Below w.heap.size w W->W.ownsRow w.heap.size 9 1 v (listO rs a n c b).1.length (strV (listO rs a n c b).1)->R (.returned (.tuple #[v,(listO rs a n c b).2.val,.int .i64 0])) W):
  CallsIn Fence.wide 3 Try.prog 21 #[.agg #[.slice ga gl gc],.string (mkS a),.int .i64 n,c.val,.int .i64 b] w R:=by
 refine callsIn_of_wp_marks Try.func21 rfl trivial ?_ rfl
 obtain⟨ct,co⟩:=c
 obtain⟨W0,hW0,q0,q1,q2,q3,q4,q5,hB0,hz0⟩:=six w (.cells #[.slice ga gl gc] 38) (.cells #[.string (mkS ct),.bool co] 47) (.cells #[.int .i64 b] 3) (.cells #[.slice none 0 0] 45) (.cells #[.string (mkS []),.bool false] 47) (.cells #[.int .i64 0] 31)
 have hl:=s_list_Look ga gl gc a n V _ (llook_is hg a n (λv=>v= .int .i64 (listP rs a n)) rfl) W0 (On.keep (λb o h=>hon.lt h) hon hB0)
 simp only[Try.ntmps21,X_api_Cursor.val,X_api_Cursor.cells,List.size_toArray,List.length_cons,List.length_nil,Nat.reduceAdd,Nat.reduceSub,Array.replicate_succ,Array.replicate_zero,List.push_toArray,List.append_toArray,List.nil_append,List.cons_append]
 gi_wp2
 rw[show(((((((w.alloc (.cells #[.slice ga gl gc] 38)).alloc (.cells #[.string (mkS ct),.bool co] 47)).alloc (.cells #[.int .i64 b] 3)).alloc (.cells #[.slice none 0 0] 45)).alloc (.cells #[.string {data:= #[]},.bool false] 47)).alloc (.cells #[.int .i64 0] 31)))=W0 from hW0]
 refine⟨trivial,(callsIn_wide.2 hl).mono ?_⟩
 rintro e W ⟨v,rfl,hbW,rfl⟩
 have q:Six w.heap.size (.slice ga gl gc) (.string (mkS ct)) (.bool co) (.int .i64 b) (.slice none 0 0) (.string (mkS [])) (.bool false) (.int .i64 0) W:=Six.on ⟨q0,q1,q2,q3,q4,q5⟩ hbW
 have hBW:Below w.heap.size w W:=hB0.trans (hbW.mono (by omega))
 have hzW:w.heap.size+6<=W.heap.size:=by have:=hbW.size;omega
 clear q0 q1 q2 q3 q4 q5 hW0 hl
 have hR1':∀e,listE rs a n ⟨ct,co⟩ b=e->e≠0->∀W,Below w.heap.size w W->R (.returned (.tuple #[.slice none 0 0,.agg #[.string (mkS []),.bool false],.int .i64 e])) W:=λe h1 h2=>by subst h1;exact hR1 h2
 clear hR1
 obtain⟨c0,c1,c1',c2,c3,c4,c4',c5,f3,f4,f4',f5⟩:=q.cells
 by_cases he:listP rs a n=0
 ·by_cases hb0:b<0
  ·replace hR1':=hR1' 1 (by unfold listE;rw[if_neg (λh=>h he),if_pos (.inl hb0)]) (by decide)
   clear hR2
   gi_wp2
   refine⟨trivial,?_⟩
   gi_wp2
   refine q.fin (.slice none 0 0) (.string (mkS [])) (.bool false) _ ?_ ?_ ?_ (λW2 h=>hR1' W2 (hBW.trans h))<;>rfl
  by_cases hb1:b>1048576
  ·replace hR1':=hR1' 1 (by unfold listE;rw[if_neg (λh=>h he),if_pos (.inr (.inl hb1))]) (by decide)
   clear hR2
   gi_wp2
   refine⟨trivial,?_⟩
   gi_wp2
   refine q.fin (.slice none 0 0) (.string (mkS [])) (.bool false) _ ?_ ?_ ?_ (λW2 h=>hR1' W2 (hBW.trans h))<;>rfl
  have hov:=s_walk_Over a ct V _ (wover_is (λv=>v= .int .i64 (overP a ct)) rfl) W (On.keep (λb o h=>hon.lt h) hon hBW)
  have HD:=Hid.mk3 hR1' hR2
  clear hR1' hR2
  gi_wp2
  refine⟨trivial,(callsIn_wide.2 hov).mono ?_⟩
  rintro e Wo ⟨v,rfl,hbo,rfl⟩
  replace q:=q.on hbo
  replace hBW:=hBW.trans (hbo.mono (by omega))
  replace hzW:w.heap.size+6<=Wo.heap.size:=by have:=hbo.size;omega
  clear c0 c1 c1' c2 c3 c4 c4' c5 f3 f4 f4' f5 hov hbo hbW hB0 hz0
  clear W W0
  obtain⟨c0,c1,c1',c2,c3,c4,c4',c5,f3,f4,f4',f5⟩:=q.cells
  by_cases ho:overP a ct=0
  ·have hsz:((mkS ct).size:Int)=ct.length:=rfl
   by_cases hn:(ct.length:Int)>n
   ·gi_wp2
    exact q.fin _ _ _ _ (by rfl) (by rfl) (by rfl) λW2 h=>HD.out.1 1 (by unfold listE;rw[if_neg (λh=>h he),if_pos (.inr (.inr (.inr (.inl hn))))]) (by decide) W2 (hBW.trans h)
   ·cases co with
    |true=>
     by_cases ht:ct=[]
     ·subst ht
      have hne:(mkS []).toList.isEmpty=true:=by rw[mkS_toList];rfl
      gi_wp2
      gi_region
      gi_wp2
      exact q.finD _ _ _ _ (by rfl) (by rfl) (by rfl) λW2 h=>HD.out.2 (listE_ok he hb0 hb1 ho hn (λh=>h.2 rfl)) W2 _ (hBW.trans h) (World.ownsRow_nil _ _ _ _)
     ·have hne:(mkS ct).toList.isEmpty=false:=by rw[mkS_toList];cases ct<;>first|rfl|exact absurd rfl ht
      gi_wp2
      exact q.fin _ _ _ _ (by rfl) (by rfl) (by rfl) λW2 h=>HD.out.1 1 (by unfold listE;rw[if_neg (λh=>h he),if_pos (.inr (.inr (.inr (.inr ⟨rfl,ht⟩))))]) (by decide) W2 (hBW.trans h)
    |false=>
     have q':=q.on ((Below.refl _ Wo).alloc (Nat.le_refl _) (.cells #[.slice none 0 0] 45))
     obtain⟨d0,d1,d1',d2,d3,d4,d4',d5,g3,g4,g4',g5⟩:=q'.cells
     have htx:=texts_mk 2 a ct n (Wo.alloc (.cells #[.slice none 0 0] 45))
     gi_wp2
     refine⟨trivial,htx.mono ?_⟩
     rintro e w' ⟨rfl,rfl⟩
     clear htx d0 d1 d1' d2 d3 d4 d4' d5 g3 g4 g4' g5 c0 c1 c1' c2 c3 c4 c4' c5 f3 f4 f4' f5 q'
     obtain⟨Wt,hWt,p0,p1,p2,p3,hbt,hzt⟩:=four Wo (.cells #[.slice none 0 0] 45) (.cells #[.string (mkS a)] 9) (.cells #[.string (mkS ct)] 9) (.cells #[.int .i64 n] 3)
     gi_wp2
     replace q:=q.on hbt
     replace hBW:=hBW.trans (hbt.mono (by omega))
     clear hWt hbt
     obtain⟨hwell,hal,hn0,hn6,hg5⟩:=listP_ok he
     obtain⟨h1,h8,hasc,h6,hin⟩:=over_ok ho
     obtain⟨k,rfl⟩:∃k:Nat,n=k:=⟨n.toNat,by omega⟩
     have hck:ct.length<=k:=by omega
     obtain⟨T,hTv⟩:=six_ex (listT a k ⟨ct,false⟩) (λx hx=>by have:=(words_mem hasc (List.mem_of_mem_drop hx)).1;simp at this;omega)
     have hTl:T.length=geo a.length (k+1)-rankN a ct:=by
      have:=congrArg List.length hTv
      simpa[listT,words_len]using this
     have hT:∀(i:Nat) (s:W6),(∀c∈s.1,c∈a)->s.1.length<=k->rankN a s.1=rankN a ct+i->T[i]?=some s:=λi s hs1 hs2 hs3=>by
      have h1:=words_at k s.1 hs2 hs1
      rw[hs3,<-List.getElem?_drop]at h1
      have h2:=congrArg (·[i]?) hTv
      simp only[listT,Int.toNat_natCast,List.getElem?_map]at h2
      rw[h1]at h2
      cases h3:T[i]? with
      |none=>rw[h3]at h2;cases h2
      |some t=>rw[h3]at h2;simp only[Option.map_some,Option.some.injEq]at h2;exact congrArg some (Subtype.ext h2)
     refine wpIn_rangeFunc_ownG_of_H rfl (by omega) (gf:=80) (lb:= #[.pointer (some ⟨Wo.heap.size+1+1,0,none⟩),.pointer (some ⟨Wo.heap.size+1+1+1,0,none⟩),.pointer (some ⟨Wo.heap.size+1,0,none⟩)]) rfl trivial (enters_of Try.func80 (by kernel_rfl) rfl)
      (texts_stops 2 Wt.heap.size [w.heap.size+1+1,Wo.heap.size] a ⟨ct,h6⟩ k T h1 hal (by omega) hin hck hTl hT (Wo.heap.size+1) (Wo.heap.size+1+1) (Wo.heap.size+1+1+1) Wt (Nat.le_refl _) p1 p2 p3 ⟨by omega,by simp;omega⟩ ⟨by omega,by simp;omega⟩)
      (λh k=>h.trans k) (λW' l o o' h1 h2 h3 h4=>KX.grown (grownBy_putObj' W' l o') (by have:=(Array.getElem?_eq_some_iff.1 h2).1;omega) (λk e hk=>by cases e;omega)) (Below.refl _ _) (λ_=>rfl)
      (λpre W'=>(∃v,Boxed W' Wo.heap.size 45 v/\W'.ownsRow Wt.heap.size 9 1 v (accL rs pre).length ((accL rs pre).map sv6)/\True)/\(Boxed W' (w.heap.size+1+1) 3 (.int .i64 (b-pre.length))/\(pre.length:Int)<=b)/\KX Wt.heap.size [w.heap.size+1+1,Wo.heap.size] Wt W')
      (λc pre W'=>c= .ret/\∃pre0 x v,pre=pre0++[x]/\(pre0.length:Int)=b/\W'.ownsRow Wt.heap.size 9 1 v (accL rs pre0).length ((accL rs pre0).map sv6)/\
       W'.heap[w.heap.size+1+1+1]?=some (.cells [v].toArray 45 (0,0))/\W'.heap[w.heap.size+1+1+1+1]?=some (.cells [sv6 x,.bool false].toArray 47 (0,0))/\W'.heap[w.heap.size+1+1+1+1+1]?=some (.cells [.int .i64 0].toArray 31 (0,0))/\Below w.heap.size w W')
      ?ownI ?ownIx ?start ?act ?assign ?body ?done ?stop (λW=>KX.refl _ _ W)
     case assign=>
      intro l x W' K hK
      gi_wp2
      exact hK
     case ownI=>
      refine OwnFrom.and (Own.from (holdsRow_own Wt.heap.size Wo.heap.size 45 9 1 (λpre=>(accL rs pre).length) (λpre=>(accL rs pre).map sv6) (λ_ _=>True)) _) (OwnFrom.and (λs A B row hs hg hr=>⟨hs.1.kept hg (λe=>by have:=(hr _ e.symm).1;omega),hs.2⟩) (λs A B row hs hg hr=>hs.trans (KX.grown hg hs.size (λk e hk=>by have:=(hr _ e).1;omega))))
     case ownIx=>
      rintro c s A B row ⟨rfl,pre0,x,v,e1,e2,hr0,s1,s2,s3,hb⟩ hg hr
      have l:∀{k o},k<Wt.heap.size->A.heap[k]?=some o->B.heap[k]?=some o:=λ{k o} h1 hk'=>(hg.block k (Array.getElem?_eq_some_iff.1 hk').1 (λe=>by have:=(hr _ e.symm).1;omega)).trans hk'
      exact⟨rfl,pre0,x,v,e1,e2,row_grown hr0 hg (λr e=>(hr r e).2),l (by omega) s1,l (by omega) s2,l (by omega) s3,hb.grown hg hb.size (λk e=>by have:=(hr k e).1;omega)⟩
     case start=>exact⟨⟨_,p0,World.ownsRow_nil _ _ _ _,trivial⟩,⟨by have:=q.r2;simpa[Boxed]using this,by simpa using hb0⟩,KX.refl _ _ _⟩
     case body=>
      rintro l pre x W' ⟨⟨v,hv,hrow,_⟩,⟨hbud,hle⟩,hkx⟩ hlt
      obtain⟨oa,oc,rfl⟩:=row_slice hrow
      have q':=q.kx hkx (by omega) (by intro k hk;simp at hk;omega) hbud
      obtain⟨c0,c1,c1',c2,c3,c4,c4',c5,f3,f4,f4',f5⟩:=q'.cells
      have hcO:=hv.cell
      have hfB:=hbud.frozen
      by_cases hz:b-pre.length=0
      ·gi_wp2
       obtain⟨W2,hW2,s1,s2,s3,hB2⟩:=stored3 q'.r3 q'.r4 q'.r5 (by omega) (by omega) (by omega) (.slice oa (accL rs pre).length oc) (sv6 x) (.bool false) (.int .i64 0)
       have hk2:=keeps_set W' Wt.heap.size (w.heap.size+1+1+1) (w.heap.size+1+1+1+1) (w.heap.size+1+1+1+1+1) (.slice oa (accL rs pre).length oc) (sv6 x) (.bool false) (.int .i64 0)
       have hr2:=row_set hrow (b1:=w.heap.size+1+1+1) (b2:=w.heap.size+1+1+1+1) (b3:=w.heap.size+1+1+1+1+1) (by omega) (by omega) (by omega) (.slice oa (accL rs pre).length oc) (sv6 x) (.bool false) (.int .i64 0)
       rw[hW2]at hk2 hr2
       have hB3:Below w.heap.size w W2:=(hBW.trans (hkx.below (by omega) (by intro k hk;simp at hk;omega))).trans (hB2 _ (by omega) (by omega) (by omega))
       refine⟨?_,rfl,pre,x,.slice oa (accL rs pre).length oc,rfl,by omega,?_,?_,?_,?_,?_⟩
       ·exact hW2▸hk2
       ·exact hW2▸hr2
       ·exact hW2▸s1
       ·exact hW2▸s2
       ·exact hW2▸s3
       ·exact hW2▸hB3
      ·have hlk:lookP rs x.1=0:=by
        unfold lookP
        rw[if_neg (λh=>h (look_ok' he)),if_neg (by have:=x.2;omega)]
       have hw1:wrap64 (b-pre.length-1)=b-pre.length-1:=by unfold wrap64;omega
       have hcB:=hbud.cell
       have hbud1:=hbud.set (.int .i64 (b-pre.length-1))
       have hv1:=hv.other (B':=w.heap.size+1+1) (by omega) (.int .i64 (b-pre.length-1))
       have hrow1:=ownsRow_setCell_below hrow (a:=⟨w.heap.size+1+1,0,none⟩) (by show w.heap.size+1+1<_;omega) (.int .i64 (b-pre.length-1))
       have hkx1:KX Wt.heap.size [w.heap.size+1+1,Wo.heap.size] W' (W'.setCell ⟨w.heap.size+1+1,0,none⟩ (.int .i64 (b-pre.length-1))):=KX.set hkx.size (by simp) _
       have hko1:KeepsOthers W' (W'.setCell ⟨w.heap.size+1+1,0,none⟩ (.int .i64 (b-pre.length-1))):=KeepsOthers.setCell _ _ _
       obtain⟨W1,hW1⟩:∃W1,W'.setCell ⟨w.heap.size+1+1,0,none⟩ (.int .i64 (b-pre.length-1))=W1:=⟨_,rfl⟩
       rw[hW1]at hbud1 hv1 hrow1 hkx1 hko1
       have cG:W1.cell? ⟨w.heap.size,0,none⟩=some (.slice ga gl gc):=by
        have:=(q.kx (hkx.trans hkx1) (by omega) (by intro k hk;simp at hk;omega) hbud1).r0
        simp[World.cell?,this]
       have hB1:Below w.heap.size w W1:=hBW.trans ((hkx.trans hkx1).below (by omega) (by intro k hk;simp at hk;omega))
       have hac:=s_list_Accepts ga gl gc x.1 V _ (laccepts_is hg (λh=>absurd hlk h) (λ_=>rfl:lookP rs x.1=0->(λv=>v=Value.tuple #[.bool (accP rs x.1),.int .i64 0]) (.tuple #[.bool (accP rs x.1),.int .i64 0]))) W1 (On.keep (λb o h=>hon.lt h) hon hB1)
       clear hcO
       have hln:((pre++[x]).length:Int)=pre.length+1:=by simp
       have hT5:T.length<=5000:=by rw[Int.toNat_natCast]at hg5;omega
       gi_wp2
       refine⟨trivial,(show CallsIn (Fence.wide.inRound l) 0 _ _ _ _ _ from callsIn_wide.2 hac).mono ?_⟩
       rintro e W2 ⟨v,rfl,hbel,rfl⟩
       have hz2:Wt.heap.size<=W1.heap.size:=Nat.le_trans hkx.size hkx1.size
       have hz3:Wt.heap.size<=W2.heap.size:=Nat.le_trans hz2 hbel.size
       have hv2:=Boxed.below hv1 hbel
       have hrow2:=row_below hrow1 hbel
       have hbud2:=Boxed.below hbud1 hbel
       have hkx2:KX Wt.heap.size [w.heap.size+1+1,Wo.heap.size] W' W2:=hkx1.trans (KX.grown (grown_of hbel) hz2 (λk e=>by cases e))
       have hko2:KeepsOthers W' W2:=hko1.trans (KeepsOthers.of_grownBy (grown_of hbel) (λj o e _=>by cases e))
       have hcO:=hv2.cell
       clear hac hW1 hv1 hrow1 hbud1 hkx1 hko1 cG hB1 hcB hbel c0 c1 c1' c2 c3 c4 c4' c5 f3 f4 f4' f5 hfB
       have hbe:b-(pre.length:Int)-1=b-((pre++[x]).length:Int):=by omega
       have hlb:((pre++[x]).length:Int)<=b:=by omega
       by_cases hacc:accP rs x.1=true
       ·have he1:accL rs (pre++[x])=accL rs pre++[x]:=by rw[accL_snoc,if_pos hacc]
        have hll:=accL_len rs pre
        obtain⟨i0,hi,hz0,hz1,hz2'⟩:=info_parts (show(Try.prog.info? 9).map (λi=>(i.zero,i.size,i.bytes))=some (some (.string (mkS [])),1,16) by kernel_rfl)
        have HD3:=Hid.mk3 he1 hbe
        have hlb2:(accL rs pre).length+1<=5000:=by omega
        clear he1 hbe hll
        gi_wp2_with (gi_at_builtin;refine wpListIn_append_own _ rfl _ _ 45 rfl Wt.heap.size 9 i0 (.string (mkS [])) 1 16 (by kernel_rfl) hi hz0 hz1 hz2' rfl (by decide) _ _ _ rfl (hrow2.alloc _) ⟨W2.heap.size,0,none⟩ 1 1 [.string (mkS x.1)] rfl rfl (cell_one_new _ _ _) (by simp[Value.oneCell']) (by unfold maxLen;omega) (by omega) (by simp;omega) ?_;intro v' w2 hown' hgrow _;obtain⟨g',cap',rfl⟩:=ownsRow_succ hown';obtain⟨hv3,hv4,hr4,hk4,hx4⟩:=Boxed.appX (ex:=[w.heap.size+1+1,Wo.heap.size]) hv2 (by decide) hrow2 hz3 (by simp) hown' hgrow;have hc2:=hv3.cell;have hf2:=hv3.frozen)
        have hbud4:Boxed (w2.setCell ⟨Wo.heap.size,0,none⟩ (.slice (some ⟨g',0,none⟩) ((accL rs pre).length+1) cap')) (w.heap.size+1+1) 3 (.int .i64 (b-pre.length-1)):=
         Boxed.other ((hbud2.alloc (.cells #[.string (mkS x.1)] 9)).kept hgrow (Boxed.not_row (hbud2.alloc (.cells #[.string (mkS x.1)] 9)) (by decide) (hrow2.alloc (.cells #[.string (mkS x.1)] 9)))) (by omega) _
        refine⟨(hko2.trans hk4).from _,hkx2.trans hx4,⟨_,hv4,by rw[HD3.out.1];simpa[sv6]using hr4,trivial⟩,⟨by rw[<-HD3.out.2];exact hbud4,hlb⟩,hkx.trans (hkx2.trans hx4)⟩
       ·have he1:accL rs (pre++[x])=accL rs pre:=by rw[accL_snoc,if_neg hacc]
        have HD3:=Hid.mk3 he1 hbe
        clear he1 hbe
        gi_wp2
        refine⟨hko2.from _,hkx2,⟨_,hv2,by rw[HD3.out.1];exact hrow2,trivial⟩,⟨by rw[<-HD3.out.2];exact hbud2,hlb⟩,hkx.trans hkx2⟩
     case done=>
      rintro D xs W' hD rfl ⟨⟨v,hv,hrow,_⟩,⟨hbud,hle⟩,hkx⟩ hK
      obtain⟨oa,oc,rfl⟩:=row_slice hrow
      have q':=q.kx hkx (by omega) (by intro k hk;simp at hk;omega) hbud
      obtain⟨c0,c1,c1',c2,c3,c4,c4',c5,f3,f4,f4',f5⟩:=q'.cells
      have hcO:=hv.cell
      have hO:=listO_done (rs:=rs) (c:=⟨ct,false⟩) hTv rfl hle
      have hE:=listE_ok (c:=⟨ct,false⟩) he hb0 hb1 ho hn (λh=>by cases h.1)
      have HD2:=Hid.mk3 hO hE
      clear hO hE
      gi_wp2
      obtain⟨W2,hW2,s1,s2,s3,hB2⟩:=stored3 q'.r3 q'.r4 q'.r5 (by omega) (by omega) (by omega) (.slice oa (accL rs xs).length oc) (.string (mkS [])) (.bool true) (.int .i64 0)
      have hr2:=row_set hrow (b1:=w.heap.size+1+1+1) (b2:=w.heap.size+1+1+1+1) (b3:=w.heap.size+1+1+1+1+1) (by omega) (by omega) (by omega) (.slice oa (accL rs xs).length oc) (.string (mkS [])) (.bool true) (.int .i64 0)
      rw[hW2]at hr2
      have hB3:Below w.heap.size w W2:=(hBW.trans (hkx.below (by omega) (by intro k hk;simp at hk;omega))).trans (hB2 _ (by omega) (by omega) (by omega))
      have hK2:W2.heap[D]?=some (.deferred (some [])):=by rw[<-hW2,set2 (by omega),set2 (by omega),set2 (by omega),set2 (by omega)];exact hK
      rw[show((((W'.setCell ⟨w.heap.size+1+1+1,0,none⟩ (.slice oa (accL rs xs).length oc)).setCell ⟨w.heap.size+1+1+1+1,0,none⟩ (.string {data:= #[]})).setCell ⟨w.heap.size+1+1+1+1,1,none⟩ (.bool true)).setCell ⟨w.heap.size+1+1+1+1+1,0,none⟩ (.int .i64 0))=W2 from hW2]
      refine leaveD (h:=w.heap.size) ?_ ?_ ?_ s1 s2 s3 (by omega) hK2 ?_
      ·rfl
      ·rfl
      ·rfl
      have hfin:=HD.out.2 HD2.out.2 (W2.putObj D (.deferred none)) (.slice oa (accL rs xs).length oc) (below_put hB3 (by omega) hK2 hB3.size)
      rw[HD2.out.1]at hfin
      refine hfin ?_
      rw[strV_6,List.length_map]
      exact row_base (ownsRow_putObj hr2 _ hK2 rfl) (by omega)
     case stop=>
      rintro D c pre W' hD ⟨hp1,hp2⟩ ⟨rfl,pre0,x,v,rfl,e2,hr0,s1,s2,s3,hb⟩ hK
      have hO:=listO_stop (rs:=rs) (c:=⟨ct,false⟩) hTv rfl hp1 hp2 e2
      have hE:=listE_ok (c:=⟨ct,false⟩) he hb0 hb1 ho hn (λh=>by cases h.1)
      have HD2:=Hid.mk3 hO hE
      clear hO hE hp1 hp2 e2
      gi_wp2
      refine leaveD (h:=w.heap.size) ?_ ?_ ?_ s1 s2 s3 (by omega) hK ?_
      ·rfl
      ·rfl
      ·rfl
      have hfin:=HD.out.2 HD2.out.2 (W'.putObj D (.deferred none)) v (below_put hb (by omega) hK hb.size)
      rw[HD2.out.1]at hfin
      refine hfin ?_
      rw[strV_6,List.length_map]
      exact row_base (ownsRow_putObj hr0 _ hK rfl) (by omega)
  ·gi_wp2
   exact q.fin _ _ _ _ (by rfl) (by rfl) (by rfl) λW2 h=>HD.out.1 1 (by unfold listE;rw[if_neg (λh=>h he),if_pos (.inr (.inr (.inl ho)))]) (by decide) W2 (hBW.trans h)
 ·replace hR1':=hR1' (listP rs a n) (by unfold listE;rw[if_pos he]) he
  clear hR2
  gi_wp2
  refine q.fin (.slice none 0 0) (.string (mkS [])) (.bool false) _ ?_ ?_ ?_ (λW2 h=>hR1' W2 (hBW.trans h))<;>rfl
end Go.Proofs.Ytmnilbfhfjdelaa.core

namespace Go.Proofs.Ytmnilbfhfjdelaa.core
open Go.Gx Go.RowKit Go.ChangeShapes Go.WideShapes Go.ChangeAt
set_option linter.unusedVariables false
theorem strs_equal {A B:Option Addr} {n m c d:Nat} {zs ws:List (List UInt8)} {M:Mem} (h:SlV M A n c 1 (strV zs)) (k:SlV M B m d 1 (strV ws)) (K:Value->Prop) (hK:∀b:Bool,(b=true↔zs=ws)->K (.bool b)):S_slices_Equal_string A n c B m d M K:=by
 have hn:=SlV1.len h
 have hm:=SlV1.len k
 have hmx:n<=maxLen:=Nat.le_trans h.2.1 h.2.2.1
 unfold maxLen at hmx
 unfold S_slices_Equal_string
 refine⟨λhne=>hK false ⟨λe=>(by cases e),λe=>by rw[e]at hn;omega⟩,λheq=>⟨λi=>0<=i/\i<=n/\∀j:Nat,(j:Int)<i->zs[j]?=ws[j]?,λi=>n-i.toNat,⟨by omega,by omega,λj hj=>by omega⟩,λi ⟨h0,h1,h2⟩=>⟨λhlt=>?_,λhge=>?_⟩⟩⟩
 ·obtain⟨x,hx⟩:=getI (l:=zs) h0 (by omega)
  obtain⟨y,hy⟩:=getI (l:=ws) h0 (by omega)
  obtain⟨b,o,ha,hat⟩:=SlV1 h hn hx
  obtain⟨b',o',ha',hat'⟩:=SlV1 k hm hy
  refine⟨b,o,ha,h0,hlt,x,hat,b',o',ha',h0,by omega,y,hat',λhne=>hK false ⟨λe=>(by cases e),λe=>?_⟩,λhe=>⟨by unfold InI;omega,⟨by omega,by omega,λj hj=>?_⟩,by dsimp only;omega⟩⟩
  ·rw[e,hy]at hx;exact absurd (by injection hx with hx;exact hx.symm) hne
  ·by_cases e:(j:Int)=i
   ·have:i.toNat=j:=by omega
    rw[<-this,hx,hy]
    rw[Classical.not_not.1 he]
   ·exact h2 j (by omega)
 ·refine hK true ⟨λ_=>List.ext_getElem? λj=>?_,λ_=>rfl⟩
  by_cases hj:(j:Int)<i
  ·exact h2 j hj
  ·rw[List.getElem?_eq_none (by omega),List.getElem?_eq_none (by omega)]
theorem strV_len (l:List (List UInt8)):(strV l).length=l.length:=by unfold strV;rw[List.length_map]
theorem strV_app (x y:List (List UInt8)):strV (x++y)=strV x++strV y:=by unfold strV;rw[List.map_append]
theorem strV_one (l:List (List UInt8)):∀u∈strV l,u.oneCell'=true:=by
 intro u hu
 unfold strV at hu
 obtain⟨s,_,rfl⟩:=List.mem_map.1 hu
 rfl
section
variable {rs:List Ru} {ga:Option Addr} {gl gc:Nat} {M:Mem}
theorem llist_is (hg:GrR M rs ga gl gc) (a:List UInt8) (n:Int) (c:X_api_Cursor) (b:Int) (K:Value->Mem->Prop)
  (h1:listE rs a n c b≠0->∀M',M.le M'->K (.tuple #[.slice none 0 0,(X_api_Cursor.mk [] false).val,.int .i64 (listE rs a n c b)]) M')
  (h2:listE rs a n c b=0->∀(M':Mem) (A:Option Addr) (cap:Nat),M.le M'->SlV M' A (listO rs a n c b).1.length cap 1 (strV (listO rs a n c b).1)->K (.tuple #[.slice A (listO rs a n c b).1.length cap,(listO rs a n c b).2.val,.int .i64 0]) M'):
  CallE Try.prog 21 #[.agg #[.slice ga gl gc],.string (mkS a),.int .i64 n,c.val,.int .i64 b] M K:=by
 intro w hon
 refine callsIn_wide.1 (list_in M rs ga gl gc a n c b hg w hon _ (λh W hb=>⟨_,rfl,hb,h1 h _ (grow_le hon)⟩) (λh W v hb hrow=>?_))
 generalize hO:listO rs a n c b=O at*
 obtain⟨hl,⟨rfl,h0⟩|⟨g,cap,cur,rfl,hg,hgb,hle,hmax,hsz,htk⟩⟩:=hrow
 ·refine⟨_,rfl,hb,?_⟩
  have:=h2 h (grow M w W) none 0 (grow_le hon) (by rw[h0];refine⟨by simp[strV_len,h0],Nat.le_refl _,by unfold maxLen;omega,λh=>by omega⟩)
  rw[h0]at this;exact this
 ·refine⟨_,rfl,hb,h2 h (grow M w W) (some ⟨g,0,none⟩) cap (grow_le hon) ⟨by simp[strV_len],hle,hmax,λ_=>⟨g,0,rfl,?_⟩⟩⟩
  intro j v hj
  have hc:(grow M w W) g=some (.cells cur 9 (0,0)):=by unfold grow;rw[if_pos hg];exact hgb
  have hj2:(cur.toList.take (O.1.length*1))[j]?=some v:=by rw[htk];exact hj
  rw[List.getElem?_take]at hj2
  split at hj2
  ·unfold Mem.cell;rw[hc];simp only[Nat.zero_add];simpa using hj2
  ·cases hj2
end
end Go.Proofs.Ytmnilbfhfjdelaa.core

namespace Go.Proofs.Ytmnilbfhfjdelaa.core
open Go.Gx Go.RowKit Go.ChangeShapes Go.WideShapes Go.ChangeAt
set_option linter.unusedVariables false
def ru0:Ru:=⟨[97],.mk 3 ⟨0,0,0,0⟩ [120] []⟩
theorem well0:wellP [ru0]=(0,0):=by rfl
theorem acc0:accP [ru0] [120]=true:=by
 have hw:=well_ok (rs:=[ru0]) (by rw[well0])
 obtain⟨E,hT⟩:=tab_ex (s:=[120]) hw
 rw[acc_eq hw hT,hT.fix 0 0 ru0 (by simp) rfl]
 rfl
theorem x_gr {M:Mem} {A:Option Addr} {c:Nat} (h:SlV M A 1 c 8 (X_api_Rule.mk [97] (X_api_Expr.mk 3 (X_api_Set.mk 0 0 0 0) [120] none 0 0)).cells):GrR M [ru0] A 1 c:=by
 refine⟨[X_api_Rule.mk [97] (X_api_Expr.mk 3 (X_api_Set.mk 0 0 0 0) [120] none 0 0)],by simpa[cl]using h,All2.of rfl λi r x hr hx=>?_,rfl⟩
 cases i with
 |zero=>
  cases hr;cases hx
  exact⟨rfl,by unfold maxLen ru0;simp,.mk (xs:=[]) (by decide) ⟨by decide,by decide,by decide,by decide⟩ (by unfold maxLen;simp) ⟨rfl,Nat.le_refl _,by unfold maxLen;simp,λh=>by simp at h⟩ rfl (λi e x h=>by simp at h)⟩
 |succ i=>simp at hr
section
variable {M:Mem}
theorem begun_is (K:Value->Prop) (hK:K (.bool true)):S_chafftop_begun M K:=by
 unfold S_chafftop_begun
 refine s_chafftop_x _ _ λM5 A c hle hsl M' hle2=>⟨_,_,_,rfl,s_list_Accepts _ _ _ _ _ _ (laccepts_is ((x_gr hsl).le hle2) (λh=>absurd (by unfold lookP;rw[well0];rfl) h) λ_=>⟨_,_,rfl,λ_=>hK,λh=>absurd acc0 h⟩)⟩
variable {rs:List Ru} {ga:Option Addr} {gl gc:Nat}
end
theorem list0 {rs:List Ru} {a:List UInt8} {n:Int} (h:listP rs a n=0):listE rs a n ⟨[],false⟩ 1048576=0/\(listO rs a n ⟨[],false⟩ 1048576).1=(wordsN a n.toNat).filter (accP rs):=by
 obtain⟨hw,hal,h0,h6,hg5⟩:=listP_ok h
 refine⟨listE_ok h (by omega) (by omega) (over_of hal (by simp) (by simp)) (by simpa using h0) (by simp),?_⟩
 have e:listT a n ⟨[],false⟩=wordsN a n.toNat:=by simp[listT,rankN,geo,sumD]
 unfold listO
 rw[if_neg (by simp),e,if_neg (by rw[words_len];omega)]
end Go.Proofs.Ytmnilbfhfjdelaa.core

namespace Go.Proofs.Ytmnilbfhfjdelaa.core
open Go.Gx Go.RowKit Go.ChangeShapes Go.WideShapes Go.ChangeAt
set_option linter.unusedVariables false
structure Jb where
 rs:List Ru
 al:List UInt8
 n:Int
 b:Int
noncomputable def jobE (j:Jb):Int:=if listP j.rs j.al j.n≠0 then listP j.rs j.al j.n else if j.b<0\/1048576<j.b then 1 else 0
noncomputable def jobsE1:List Jb->Int
 |[]=>0
 |j::l=>if jobE j≠0 then jobE j else jobsE1 l
noncomputable def jobsE (l:List Jb) (s r:Int):Int:=if 8<l.length then 2 else if s<1\/1000<s\/r<0\/1000<r then 1 else jobsE1 l
theorem jobs1_ok:∀{l:List Jb},jobsE1 l=0->∀j∈l,jobE j=0
 |[],_,j,h=>by cases h
 |a::l,h,j,hj=>by
  rw[jobsE1]at h
  split at h
  ·rename_i h1;exact absurd h h1
  ·rename_i h1
   rcases List.mem_cons.1 hj with rfl|hj
   ·exact Decidable.not_not.1 h1
   ·exact jobs1_ok h j hj
def Jb.T (j:Jb):List (List UInt8):=wordsN j.al j.n.toNat
noncomputable def Jb.found (j:Jb) (p:Nat):List (List UInt8):=(j.T.take p).filter (accP j.rs)
def Jb.cur (j:Jb) (p:Nat):X_api_Cursor:=if p<j.T.length then⟨(j.T[p]?).getD [],false⟩ else⟨[],true⟩
def Jb.pw (j:Jb) (s:Nat):Nat->Nat
 |0=>0
 |t+1=>if j.T.length<=j.pw s t\/j.b.toNat=j.pw s t then j.pw s t else j.pw s t+min s (j.b.toNat-j.pw s t)
structure JOk (j:Jb):Prop where
 l:listP j.rs j.al j.n=0
 b0:0<=j.b
 b1:j.b<=1048576
theorem jobE_ok {j:Jb} (h:jobE j=0):JOk j:=by
 unfold jobE at h
 split at h
 ·rename_i h1;exact absurd h h1
 rename_i h1
 split at h
 ·omega
 exact⟨Decidable.not_not.1 h1,by omega,by omega⟩
theorem JOk.asc {j:Jb} (h:JOk j):1<=j.al.length/\j.al.length<=8/\Asc j.al/\0<=j.n/\j.n<=6/\j.T.length<=5000/\1<=j.T.length:=by
 obtain⟨_,h2,h3,h4,h5⟩:=listP_ok h.l
 obtain⟨a1,a8,ha⟩:=alpha_ok h2
 refine⟨a1,a8,ha,h3,h4,?_,?_⟩
 ·unfold Jb.T;rw[words_len];exact h5
 ·unfold Jb.T
  rw[words_len]
  have:=geo_lt a1 (show 0<j.n.toNat+1 by omega)
  omega
theorem Jb.pw_le {j:Jb} (s:Nat):∀t,j.pw s t<=j.b.toNat
 |0=>Nat.zero_le _
 |t+1=>by
  have:=j.pw_le s t
  rw[Jb.pw]
  split<;>omega
theorem Jb.found_add (j:Jb) (p m:Nat):j.found (p+m)=j.found p++((j.T.drop p).take m).filter (accP j.rs):=by
 unfold Jb.found
 rw[List.take_add,List.filter_append]
theorem Jb.cur_zero {j:Jb} (h:JOk j):j.cur 0=⟨[],false⟩:=by
 obtain⟨a1,a8,ha,h3,h4,h5,h6⟩:=h.asc
 unfold Jb.cur
 rw[if_pos (by omega)]
 have:=words_at (a:=j.al) j.n.toNat [] (Nat.zero_le _) (λc hc=>by cases hc)
 have hr0:rankN j.al []=0:=rfl
 rw[hr0]at this
 unfold Jb.T
 rw[this];rfl
theorem Jb.step {j:Jb} (h:JOk j) {p m:Nat} (hp:p<j.T.length) (hm:m<=1048576):listE j.rs j.al j.n (j.cur p) m=0/\listO j.rs j.al j.n (j.cur p) m=(((j.T.drop p).take m).filter (accP j.rs),j.cur (p+m)):=by
 obtain⟨a1,a8,ha,h3,h4,h5,h6⟩:=h.asc
 obtain⟨_,hal,_⟩:=listP_ok h.l
 obtain⟨t,ht⟩:=getN hp
 have hcur:j.cur p=⟨t,false⟩:=by unfold Jb.cur;rw[if_pos hp,ht];rfl
 obtain⟨t1,t2,t3⟩:=words_is ha _ _ _ ht
 have hT:listT j.al j.n (j.cur p)=j.T.drop p:=by unfold listT;rw[hcur];rw[t3];rfl
 refine⟨listE_ok h.l (by omega) (by omega) (by rw[hcur];exact over_of hal (show t.length<=6 by omega) t2) (by rw[hcur];show(t.length:Int)<=j.n;omega) (by rw[hcur];rintro⟨h,_⟩;cases h),?_⟩
 unfold listO
 rw[if_neg (by rw[hcur];simp),hT]
 rw[List.length_drop]
 by_cases hlt:p+m<j.T.length
 ·rw[if_pos (by omega),Int.toNat_natCast,List.getElem?_drop]
  unfold Jb.cur
  rw[if_pos hlt]
 ·rw[if_neg (by omega)]
  have:(j.T.drop p).take m=j.T.drop p:=List.take_of_length_le (by rw[List.length_drop];omega)
  rw[this]
  unfold Jb.cur
  rw[if_neg hlt]
structure JobR (M:Mem) (j:Jb) (x:X_api_Job):Prop where
 al:x.Alpha=j.al
 n:x.N=j.n
 b:x.Budget=j.b
 gr:GrR M j.rs x.Grammar_Rules_a x.Grammar_Rules_l x.Grammar_Rules_c
theorem JobR.le {M M':Mem} {j:Jb} {x:X_api_Job} (h:JobR M j x) (hl:M.le M'):JobR M' j x:=⟨h.al,h.n,h.b,h.gr.le hl⟩
theorem Jx_len (x:X_api_Job):x.cells.length=4:=rfl
theorem Sx_len (x:X_api_State):x.cells.length=4:=rfl
structure JobsR (M:Mem) (js:List Jb) (xs:List X_api_Job) (la:Option Addr) (ll lc:Nat):Prop where
 sl:SlV M la ll lc 4 (cl X_api_Job.cells xs)
 xl:xs.length=ll
 jl:js.length=ll
 row:∀(i:Nat) j x,js[i]?=some j->xs[i]?=some x->JobR M j x
section
variable {M M' V:Mem} {js:List Jb} {xs:List X_api_Job} {la:Option Addr} {ll lc:Nat}
theorem JobsR.le (h:JobsR M js xs la ll lc) (hl:M.le M'):JobsR M' js xs la ll lc:=⟨h.sl.le hl,h.xl,h.jl,λi j x a b=>(h.row i j x a b).le hl⟩
theorem JobsR.at (h:JobsR M js xs la ll lc) {i:Int} (h0:0<=i) (hi:i<((ll:Nat):Int)):∃(j:Jb) (x:X_api_Job) (b o:Nat),js[i.toNat]?=some j/\xs[i.toNat]?=some x/\la=some ⟨b,o,none⟩/\At M b (o+i.toNat*4) x.cells/\JobR M j x:=by
 obtain⟨j,hj⟩:=getI (l:=js) h0 (by rw[h.jl];exact hi)
 obtain⟨x,hx⟩:=getI (l:=xs) h0 (by rw[h.xl];exact hi)
 obtain⟨b,o,ha,hat⟩:=h.sl.at Jx_len h.xl hx
 exact⟨j,x,b,o,hj,hx,ha,hat,h.row _ _ _ hj hx⟩
end
noncomputable def tkC (j:Jb) (x:X_api_Job) (p:Nat) (fa:Option Addr) (fc:Nat):X_jobs_task:=⟨x,⟨fa,(j.found p).length,fc,j.cur p,j.b-p⟩⟩
structure Tk (V M:Mem) (j:Jb) (x:X_api_Job) (bk p:Nat) (go:Option Nat):Prop where
 nov:V bk=none
 blk:∃fa fc,M bk=some (.cells (tkC j x p fa fc).cells.toArray 139 (0,0))/\RowW M 9 1 fa (j.found p).length fc (strV (j.found p))/\(∀g,fa=some ⟨g,0,none⟩->go=some g/\V g=none/\g≠bk)/\∀g,go=some g->fa=some ⟨g,0,none⟩
section
variable {V M M':Mem} {j:Jb} {x:X_api_Job} {bk p:Nat} {go:Option Nat}
theorem Tk.keep (h:Tk V M j x bk p go) (hk:∀b o,M b=some o->(b=bk\/go=some b)->M' b=some o):Tk V M' j x bk p go:=by
 obtain⟨h1,fa,fc,h2,h3,h4⟩:=h
 exact⟨h1,fa,fc,hk _ _ h2 (.inl rfl),h3.same λg o hg hm=>hk g o hm (.inr (h4.1 g hg).1),h4⟩
theorem over_is (ht:Tk V M j x bk p go) (hpb:p<=j.b.toNat) (hok:JOk j) {L:Nat->Prop} {K:Value->Mem->Prop} (hK:∀M',M.le M'->K (.bool (decide (j.T.length<=p\/j.b.toNat=p))) M'):S_jobs_task_over (some ⟨bk,0,none⟩) M L K:=by
 obtain⟨h1,fa,fc,h2,h3,h4⟩:=ht
 have hb:=hok.b0
 unfold S_jobs_task_over
 refine⟨bk,0,rfl,(j.cur p).Over,(At.blk h2).part 6 [.bool (j.cur p).Over] rfl,λho M' hle=>?_,λho=>⟨bk,0,rfl,j.b-p,(At.blk h2).part 7 [.int .i64 (j.b-p)] rfl,λM' hle=>?_⟩⟩
 ·have:j.T.length<=p:=by
   unfold Jb.cur at ho
   split at ho
   ·cases ho
   ·omega
  have:=hK M' hle
  rw[decide_eq_true (.inl (by assumption))]at this;exact this
 ·have hlt:p<j.T.length:=by
   unfold Jb.cur at ho
   split at ho
   ·assumption
   ·exact absurd rfl ho
  have:=hK M' hle
  have e:decide (j.T.length<=p\/j.b.toNat=p)=(j.b-(p:Int)==0):=by
   rw[Bool.eq_iff_iff,decide_eq_true_iff,beq_iff_eq];omega
  rw[e]at this;exact this
theorem work_is (hVM:V.le M) (hok:JOk j) (hx:JobR V j x) (ht:Tk V M j x bk p go) (hp:p<j.T.length) (hpb:p<j.b.toNat) {s:Nat} (hs1:1<=s) (hs2:s<=1000) {L:Nat->Prop} (hL:∀b,V b=none->L b) {K:Value->Mem->Prop}
  (hK:∀M' go',V.le M'->(∀b o,M b=some o->b≠bk->go≠some b->M' b=some o)->(∀b,(M b).isSome=true->(M' b).isSome=true)->Tk V M' j x bk (p+min s (j.b.toNat-p)) go'->(∀g,go'=some g->go=some g\/M g=none)->K (.tuple #[]) M'):S_jobs_task_work (some ⟨bk,0,none⟩) s M L K:=by
 obtain⟨h1,fa,fc,h2,h3,h4,h5⟩:=ht
 have hb0:=hok.b0
 have hb1:=hok.b1
 obtain⟨a1,a8,hasc,hn0,hn6,hT5,hT1⟩:=hok.asc
 have hmin:(if j.b-(p:Int)<(s:Int) then j.b-(p:Int) else(s:Int))=((min s (j.b.toNat-p):Nat):Int):=by split<;>omega
 unfold S_jobs_task_work
 refine⟨bk,0,rfl,j.b-p,(At.blk h2).part 7 [.int .i64 (j.b-p)] rfl,bk,0,rfl,x.Grammar_Rules_a,x.Grammar_Rules_l,x.Grammar_Rules_c,(At.blk h2).part 0 [.slice x.Grammar_Rules_a x.Grammar_Rules_l x.Grammar_Rules_c] rfl,bk,0,rfl,x.Alpha,(At.blk h2).part 1 [.string (mkS x.Alpha)] rfl,
  bk,0,rfl,x.N,(At.blk h2).part 2 [.int .i64 x.N] rfl,bk,0,rfl,j.cur p,(At.blk h2).part 5 (j.cur p).cells rfl,?_⟩
 rw[hmin,hx.al,hx.n]
 obtain⟨hE,hO⟩:=Jb.step hok hp (m:=min s (j.b.toNat-p)) (by omega)
 refine llist_is (hx.gr.le hVM) j.al j.n (j.cur p) _ _ (λh=>absurd hE h) λ_ M25 A cap hle hsl=>?_
 rw[hO]at hsl ⊢
 dsimp only at hsl ⊢
 refine⟨_,_,_,_,_,rfl,?_⟩
 have h2':=hle _ _ h2
 have h3':=h3.le hle
 unfold S_jobs_task_work_J1
 have hfl:(j.found p).length<=5000:=by
  unfold Jb.found
  have:=List.length_filter_le (accP j.rs) (j.T.take p)
  rw[List.length_take]at this;omega
 have hnl:(((j.T.drop p).take (min s (j.b.toNat-p))).filter (accP j.rs)).length<=5000:=by
  have:=List.length_filter_le (accP j.rs) ((j.T.drop p).take (min s (j.b.toNat-p)))
  rw[List.length_take,List.length_drop]at this;omega
 have hVL:∀b,V b=none->Wr L M b:=λb hb=>.inl (hL b hb)
 refine⟨bk,0,rfl,fa,(j.found p).length,fc,(At.blk h2').part 4 [.slice fa (j.found p).length fc] rfl,_,hsl,strV_one _,_,h3',λg hg=>hVL g (h4 g hg).2.1,by omega,λM41 ad42 cap43 hap=>?_⟩
 have hbk41:M41 bk=some (.cells (tkC j x p fa fc).cells.toArray 139 (0,0)):=hap.keep _ _ h2' λg hg e=>(h4 g hg).2.2 e.symm
 have hl2:(j.found p).length+(((j.T.drop p).take (min s (j.b.toNat-p))).filter (accP j.rs)).length=(j.found (p+min s (j.b.toNat-p))).length:=by rw[Jb.found_add,List.length_append]
 have hrow:=hap.row
 rw[hl2,<-strV_app,<-Jb.found_add]at hrow
 rw[hl2]
 refine⟨bk,0,rfl,Has.blk hbk41 (by show 4+1<=8;omega),hVL bk h1,λM46 hM46=>?_⟩
 have hbk46:M46 bk=some (.cells (putAt (tkC j x p fa fc).cells 4 [Value.slice ad42 (j.found (p+min s (j.b.toNat-p))).length cap43]).toArray 139 (0,0)):=by rw[hM46];exact Mem.put_eq hbk41
 refine⟨bk,0,rfl,Has.blk hbk46 (by show 4+1+2<=8;omega),hVL bk h1,λM49 hM49=>?_⟩
 have hbk49:M49 bk=some (.cells (putAt (putAt (tkC j x p fa fc).cells 4 [Value.slice ad42 (j.found (p+min s (j.b.toNat-p))).length cap43]) 5 (j.cur (p+min s (j.b.toNat-p))).cells).toArray 139 (0,0)):=by rw[hM49];exact Mem.put_eq hbk46
 refine⟨bk,0,rfl,j.b-p,(At.blk hbk49).part 7 [.int .i64 (j.b-p)] rfl,by rw[hmin];exact inI_big (by omega) (by omega),bk,0,rfl,Has.blk hbk49 (by show 4+3+1<=8;omega),hVL bk h1,λM55 hM55 M' hle'=>?_⟩
 rw[hmin]at hM55
 have hbk55:M55 bk=some (.cells (tkC j x (p+min s (j.b.toNat-p)) ad42 cap43).cells.toArray 139 (0,0)):=by
  rw[hM55,Mem.put_eq hbk49]
  have e:j.b-(p:Int)-((min s (j.b.toNat-p):Nat):Int)=j.b-((p+min s (j.b.toNat-p):Nat):Int):=by push_cast;omega
  rw[e];rfl
 have hoth:∀b,b≠bk->M55 b=M41 b:=λb hb=>by rw[hM55,Mem.put_ne hb,hM49,Mem.put_ne hb,hM46,Mem.put_ne hb]
 have hkeep:∀b o,M b=some o->b≠bk->go≠some b->M' b=some o:=λb o hb hne hng=>hle' _ _ (by
  rw[hoth b hne]
  exact hap.keep _ _ (hle _ _ hb) λg hg e=>hng (by rw[e];exact(h4 g hg).1))
 have hble:∀b,M25 b=none->M b=none:=λb hb=>by
  cases hm:M b with
  |none=>rfl
  |some o=>rw[hle _ _ hm]at hb;cases hb
 have hVn:∀b,M b=none->V b=none:=λb hb=>by
  cases hm:V b with
  |none=>rfl
  |some o=>rw[hVM _ _ hm]at hb;cases hb
 have hnew:∀g,ad42=some ⟨g,0,none⟩->V g=none/\g≠bk/\(go=some g\/M g=none):=λg hg=>by
  rcases hap.blk g hg with h|h
  ·exact⟨(h4 g h).2.1,(h4 g h).2.2,.inl (h4 g h).1⟩
  ·exact⟨hVn _ (hble _ h),(by rintro rfl;rw[h2']at h;cases h),.inr (hble _ h)⟩
 have hform:ad42=none\/∃g,ad42=some ⟨g,0,none⟩:=by
  obtain⟨_,_,_,⟨h,_⟩|⟨g,cur,h,_⟩⟩:=id hrow
  ·exact .inl h
  ·exact .inr ⟨g,h⟩
 have hback:∀g,ad42.map (·.block)=some g->ad42=some ⟨g,0,none⟩:=λg hg=>by
  rcases hform with h|⟨g',h⟩
  ·rw[h]at hg;cases hg
  ·rw[h]at hg ⊢
   simp only[Option.map_some,Option.some.injEq]at hg
   rw[hg]
 refine hK M' (ad42.map (·.block)) (λb o hb=>?_) hkeep (λb hb=>?_) ⟨h1,ad42,cap43,hle' _ _ hbk55,hrow.same λg o hg hm=>hle' _ _ ?_,λg hg=>⟨by rw[hg];rfl,(hnew g hg).1,(hnew g hg).2.1⟩,hback⟩ λg hg=>(hnew g (hback g hg)).2.2
 ·exact hkeep b o (hVM b o hb) (by rintro rfl;rw[h1]at hb;cases hb) λhgo=>by rw[(h4 b (h5 b hgo)).2.1]at hb;cases hb
 ·obtain⟨o,ho⟩:=Option.isSome_iff_exists.1 hb
  by_cases e:b=bk
  ·subst e;rw[hle' _ _ hbk55];rfl
  ·have:=hap.dom b (by rw[hle _ _ ho];rfl)
   obtain⟨o',ho'⟩:=Option.isSome_iff_exists.1 this
   rw[hle' _ _ ((hoth b e).trans ho')];rfl
 ·rw[hoth g (hnew g hg).2.1];exact hm
end
theorem job_list (j:Jb):listE j.rs j.al j.n ⟨[],false⟩ (if j.b<0 then j.b else 0)=if listP j.rs j.al j.n≠0 then listP j.rs j.al j.n else if j.b<0 then 1 else 0:=by
 by_cases h:listP j.rs j.al j.n=0
 ·obtain⟨_,hal,hn0,_⟩:=listP_ok h
  have e:(if listP j.rs j.al j.n≠0 then listP j.rs j.al j.n else if j.b<0 then 1 else 0)=(if j.b<0 then 1 else 0):=if_neg (λh'=>h' h)
  rw[e]
  by_cases hb:j.b<0
  ·rw[if_pos hb,if_pos hb]
   unfold listE
   rw[if_neg (λh'=>h' h),if_pos (.inl hb)]
  ·rw[if_neg hb,if_neg hb]
   exact listE_ok h (by omega) (by omega) (over_of hal (by simp) (λc hc=>by cases hc)) (by simpa using hn0) (λh=>by cases h.1)
 ·unfold listE
  rw[if_pos h,if_pos h]
def pC (b:Nat):List Value:=[.pointer (some ⟨b,0,none⟩)]
theorem pC_len (b:Nat):(pC b).length=1:=rfl
def pwAt (js:List Jb) (s i t:Nat):Nat:=match js[i]? with
 |some j=>j.pw s t
 |none=>0
theorem pwAt_some {js:List Jb} {s i t:Nat} {j:Jb} (h:js[i]?=some j):pwAt js s i t=j.pw s t:=by unfold pwAt;rw[h]
structure Ts (V M:Mem) (js:List Jb) (xs:List X_api_Job) (bks:List Nat) (P:Nat->Nat) (gs:List (Option Nat)):Prop where
 gl:gs.length=bks.length
 tk:∀(i:Nat) j x bk go,js[i]?=some j->xs[i]?=some x->bks[i]?=some bk->gs[i]?=some go->Tk V M j x bk (P i) go
 nd:∀(i k:Nat) b,bks[i]?=some b->bks[k]?=some b->i=k
 ng:∀(i k:Nat) g,gs[i]?=some (some g)->gs[k]?=some (some g)->i=k
section
variable {V M M':Mem} {js:List Jb} {xs:List X_api_Job} {bks:List Nat} {P P':Nat->Nat} {gs:List (Option Nat)}
theorem Ts.le (h:Ts V M js xs bks P gs) (hl:M.le M'):Ts V M' js xs bks P gs:=⟨h.gl,λi j x bk go a b c d=>(h.tk i j x bk go a b c d).keep λb o hb _=>hl b o hb,h.nd,h.ng⟩
theorem Ts.same (h:Ts V M js xs bks P gs) (hP:∀i,i<bks.length->P' i=P i):Ts V M js xs bks P' gs:=
 ⟨h.gl,λi j x bk go a b c d=>by rw[hP i (List.getElem?_eq_some_iff.1 c).1];exact h.tk i j x bk go a b c d,h.nd,h.ng⟩
theorem Tk.seen {j:Jb} {x:X_api_Job} {bk p:Nat} {go:Option Nat} (h:Tk V M j x bk p go):(∃cs f,M bk=some (.cells cs 139 f))/\∀g,go=some g->∃cs f,M g=some (.cells cs 9 f):=by
 obtain⟨_,fa,fc,h2,h3,h4,h5⟩:=h
 refine⟨⟨_,_,h2⟩,λg hg=>?_⟩
 obtain⟨_,_,_,⟨h,_⟩|⟨g',cur,h,hb,_⟩⟩:=h3
 ·rw[h5 g hg]at h;cases h
 ·rw[h5 g hg]at h
  cases h
  exact⟨_,_,hb⟩
theorem tk_ne {cs cs':Array Value} {f f':Nat×Nat} {b g:Nat} (h:M b=some (.cells cs 139 f)) (k:M g=some (.cells cs' 9 f')):g≠b:=by
 rintro rfl
 rw[h]at k
 simp only[Option.some.injEq,Obj.cells.injEq]at k
 exact absurd k.2.1 (by decide)
theorem Ts.add (h:Ts V M js xs bks P gs) (hb:bks.length<=js.length) (hx:xs.length=js.length) {j:Jb} {x:X_api_Job} (hj:js[bks.length]?=some j) (hxj:xs[bks.length]?=some x) (hok:JOk j) (hxb:x.Budget=j.b) (hP:P bks.length=0) {b:Nat} (hV:V b=none) (hM:M b=none):
  Ts V (M.add b (.cells [(Value.slice x.Grammar_Rules_a x.Grammar_Rules_l x.Grammar_Rules_c),(Value.string (mkS x.Alpha)),(Value.int .i64 x.N),(Value.int .i64 x.Budget),(Value.slice none 0 0),(Value.string (mkS [])),(Value.bool false),(Value.int .i64 x.Budget)].toArray 139 (0,0))) js xs (bks++[b]) P (gs++[none]):=by
 have hle:M.le (M.add b (.cells [(Value.slice x.Grammar_Rules_a x.Grammar_Rules_l x.Grammar_Rules_c),(Value.string (mkS x.Alpha)),(Value.int .i64 x.N),(Value.int .i64 x.Budget),(Value.slice none 0 0),(Value.string (mkS [])),(Value.bool false),(Value.int .i64 x.Budget)].toArray 139 (0,0))):=Mem.add_le hM
 have old:=h.le hle
 have gl:=h.gl
 have hnew:∀(i:Nat) bi,bks[i]?=some bi->bi≠b:=λi bi hi=>by
  rintro rfl
  have hil:=(List.getElem?_eq_some_iff.1 hi).1
  obtain⟨j',hj'⟩:=getN (l:=js) (i:=i) (by omega)
  obtain⟨x',hx'⟩:=getN (l:=xs) (i:=i) (by omega)
  obtain⟨go,hgo⟩:=getN (l:=gs) (i:=i) (by omega)
  obtain⟨⟨cs,f,hs⟩,_⟩:=(h.tk i j' x' bi go hj' hx' hi hgo).seen
  rw[hM]at hs;cases hs
 have one:∀{α:Type} {l:List α} {a c:α} {i:Nat},(l++[a])[i]?=some c->l[i]?=some c\/(i=l.length/\c=a):=λ{α l a c i} hi=>by
  by_cases hlt:i<l.length
  ·rw[List.getElem?_append_left hlt]at hi;exact .inl hi
  ·rw[List.getElem?_append_right (by omega)]at hi
   have:i-l.length=0:=by
    have:=(List.getElem?_eq_some_iff.1 hi).1
    simpa using this
   rw[this]at hi
   simp only[List.getElem?_cons_zero,Option.some.injEq]at hi
   exact .inr ⟨by omega,hi.symm⟩
 refine⟨by simp[gl],λi j' x' bk go a1 a2 a3 a4=>?_,λi k bi h1 h2=>?_,λi k g h1 h2=>?_⟩
 ·rcases one a3 with h3|⟨rfl,rfl⟩
  ·have hil:=(List.getElem?_eq_some_iff.1 h3).1
   rcases one a4 with h4|⟨h4,_⟩
   ·exact old.tk i j' x' bk go a1 a2 h3 h4
   ·omega
  ·rcases one a4 with h4|⟨_,rfl⟩
   ·have:=(List.getElem?_eq_some_iff.1 h4).1
    omega
   ·rw[hj]at a1;rw[hxj]at a2
    cases a1;cases a2
    rw[hP]
    refine⟨hV,none,0,?_,⟨rfl,Nat.le_refl _,by unfold maxLen;omega,.inl ⟨rfl,rfl,rfl⟩⟩,⟨(λg hg=>by cases hg),λg hg=>by cases hg⟩⟩
    rw[Mem.add_eq]
    have e:(tkC j x 0 none 0).cells=[(Value.slice x.Grammar_Rules_a x.Grammar_Rules_l x.Grammar_Rules_c),(Value.string (mkS x.Alpha)),(Value.int .i64 x.N),(Value.int .i64 x.Budget),(Value.slice none 0 0),(Value.string (mkS [])),(Value.bool false),(Value.int .i64 x.Budget)]:=by
     unfold tkC
     rw[Jb.cur_zero hok,show j.b-((0:Nat):Int)=j.b by omega,<-hxb]
     rfl
    rw[e]
 ·rcases one h1 with g1|⟨e1,e2⟩
  ·rcases one h2 with g2|⟨e1,e2⟩
   ·exact h.nd i k bi g1 g2
   ·exact absurd e2 (hnew _ _ g1)
  ·rcases one h2 with g2|⟨e3,_⟩
   ·exact absurd e2 (hnew _ _ g2)
   ·rw[e1,e3]
 ·rcases one h1 with h1|⟨_,h1⟩
  ·rcases one h2 with h2|⟨_,h2⟩
   ·exact h.ng i k g h1 h2
   ·cases h2
  ·cases h1
theorem Ts.work (h:Ts V M js xs bks P gs) (hbl:bks.length=js.length) (hx:xs.length=js.length) {k:Nat} {j:Jb} {x:X_api_Job} {bk:Nat} {go go':Option Nat} (hj:js[k]?=some j) (hxj:xs[k]?=some x) (hbk:bks[k]?=some bk) (hgo:gs[k]?=some go)
  (hkeep:∀b o,M b=some o->b≠bk->go≠some b->M' b=some o) (ht:Tk V M' j x bk (P' k) go') (hg':∀g,go'=some g->go=some g\/M g=none) (hP:∀i,i≠k->P' i=P i):Ts V M' js xs bks P' (gs.set k go'):=by
 have hkl:=(List.getElem?_eq_some_iff.1 hbk).1
 have gl:=h.gl
 have all:∀(i:Nat) bi,bks[i]?=some bi->∃j x go,js[i]?=some j/\xs[i]?=some x/\gs[i]?=some go/\Tk V M j x bi (P i) go:=λi bi hi=>by
  have hil:=(List.getElem?_eq_some_iff.1 hi).1
  obtain⟨j',hj'⟩:=getN (l:=js) (i:=i) (by omega)
  obtain⟨x',hx'⟩:=getN (l:=xs) (i:=i) (by omega)
  obtain⟨go,hgo⟩:=getN (l:=gs) (i:=i) (by omega)
  exact⟨j',x',go,hj',hx',hgo,h.tk i j' x' bi go hj' hx' hi hgo⟩
 obtain⟨⟨cs0,f0,hs0⟩,hr0⟩:=(h.tk k j x bk go hj hxj hbk hgo).seen
 refine⟨by rw[List.length_set];exact gl,λi j' x' bi gi a1 a2 a3 a4=>?_,h.nd,λi i' g h1 h2=>?_⟩
 ·by_cases hik:i=k
  ·subst hik
   rw[hj]at a1;rw[hxj]at a2;rw[hbk]at a3
   cases a1;cases a2;cases a3
   rw[List.getElem?_set,if_pos rfl,if_pos (by omega)]at a4
   cases a4;exact ht
  ·rw[List.getElem?_set,if_neg (λe=>hik e.symm)]at a4
   rw[hP i hik]
   have hti:=h.tk i j' x' bi gi a1 a2 a3 a4
   obtain⟨⟨cs,f,hs⟩,hr⟩:=hti.seen
   refine hti.keep λb o hb hor=>hkeep b o hb ?_ ?_
   ·rcases hor with rfl|hor
    ·exact λe=>hik (h.nd i k _ a3 (by rw[hbk,e]))
    ·obtain⟨cs',f',hs'⟩:=hr b hor
     exact tk_ne hs0 hs'
   ·intro e
    rcases hor with rfl|hor
    ·obtain⟨cs',f',hs'⟩:=hr0 b e
     exact tk_ne hs hs' rfl
    ·exact hik (h.ng i k b (by rw[a4,hor]) (by rw[hgo,e]))
 ·have pick:∀m:Nat,(gs.set k go')[m]?=some (some g)->(m=k/\go'=some g)\/(m≠k/\gs[m]?=some (some g)):=λm hm=>by
   rw[List.getElem?_set]at hm
   by_cases e:k=m
   ·subst e
    rw[if_pos rfl,if_pos (by omega)]at hm
    simp only[Option.some.injEq]at hm
    exact .inl ⟨rfl,hm⟩
   ·rw[if_neg e]at hm;exact .inr ⟨λe'=>e e'.symm,hm⟩
  have other:∀m,m≠k->gs[m]?=some (some g)->go'≠some g:=λm hm h3 he=>by
   rcases hg' g he with h4|h4
   ·exact hm (h.ng m k g h3 (by rw[hgo,h4]))
   ·obtain⟨b,hb⟩:=getN (l:=bks) (i:=m) (by have:=(List.getElem?_eq_some_iff.1 h3).1;omega)
    obtain⟨j',x',gm,_,_,h7,h8⟩:=all m b hb
    rw[h3]at h7
    cases h7
    obtain⟨cs',f',hs'⟩:=h8.seen.2 g rfl
    rw[h4]at hs';cases hs'
  rcases pick i h1 with⟨rfl,e1⟩|⟨n1,e1⟩
  ·rcases pick i' h2 with⟨rfl,_⟩|⟨n2,e2⟩
   ·rfl
   ·exact absurd e1 (other i' n2 e2)
  ·rcases pick i' h2 with⟨rfl,e2⟩|⟨n2,e2⟩
   ·exact absurd e2 (other i n1 e1)
   ·exact h.ng i i' g e1 e2
end
structure StR (M:Mem) (j:Jb) (p:Nat) (y:X_api_State):Prop where
 fl:y.Found_l=(j.found p).length
 fo:SlV M y.Found_a y.Found_l y.Found_c 1 (strV (j.found p))
 cu:y.Cursor=j.cur p
 le:y.Left=j.b-p
theorem StR.mono {M M':Mem} {j:Jb} {p:Nat} {y:X_api_State} (h:StR M j p y) (hl:M.le M'):StR M' j p y:=⟨h.fl,h.fo.le hl,h.cu,h.le⟩
section
variable {M:Mem} {js:List Jb} {xs:List X_api_Job} {la:Option Addr} {ll lc:Nat}
theorem jrun_is (hJ:JobsR M js xs la ll lc) (s r:Int) (L:Nat->Prop) (K:Value->Mem->Prop)
  (h1:jobsE js s r≠0->∀M',M.le M'->K (.tuple #[.slice none 0 0,.int .i64 (jobsE js s r)]) M')
  (h2:jobsE js s r=0->∀M' A cap ys,M.le M'->SlV M' A ll cap 4 (cl X_api_State.cells ys)->ys.length=ll->(∀(i:Nat) j y,js[i]?=some j->ys[i]?=some y->StR M' j (j.pw s.toNat r.toNat) y)->K (.tuple #[.slice A ll cap,.int .i64 0]) M'):
  S_jobs_Run la ll lc s r M L K:=by
 have hjl:=hJ.jl
 have hxl:=hJ.xl
 unfold S_jobs_Run
 unfold jobsE at h1 h2
 refine⟨λh8 M' hle=>?_,λh8=>?_⟩
 ·rw[if_pos (by omega)]at h1;exact h1 (by decide) M' hle
 rw[if_neg (by omega)]at h1 h2
 have j1:∀v:Bool,v=decide (s<1\/1000<s\/r<0\/1000<r)->S_jobs_Run_J1 la ll s r M L v K:=by
  intro v hv
  unfold S_jobs_Run_J1
  refine⟨λht M' hle=>?_,λhf=>?_⟩
  ·rw[if_pos (of_decide_eq_true (hv▸ht))]at h1;exact h1 (by decide) M' hle
  have hin:¬(s<1\/1000<s\/r<0\/1000<r):=λh=>hf (by rw[hv,decide_eq_true h])
  rw[if_neg hin]at h1 h2
  refine⟨Unit,λ_ x rn rx M'=>0<=x/\x<=ll/\M.le M'/\jobsE1 (js.drop x.toNat)=jobsE1 js/\(∀(i:Nat) j,(i:Int)<x->js[i]?=some j->JOk j)/\∃bks gs,rn=bks.length/\(bks.length:Int)=x/\rx=cl pC bks/\Ts M M' js xs bks (λ_=>0) gs,λ_ x _ _=>ll-x.toNat,(),
   ⟨by omega,by omega,Mem.le.refl _,rfl,λi j h=>by omega,[],[],rfl,rfl,rfl,⟨rfl,λi j x bk go _ _ h=>by simp at h,λi k b h=>by simp at h,λi k g h=>by simp at h⟩⟩,λ_ x rn rx M1 ⟨x0,xl,hM1,hE1,hoks,bks,gs,hrn,hbx,hrx,hTs⟩=>⟨λhlt=>?_,λhge=>?_⟩⟩
  ·obtain⟨j,y,b,o,hj,hy,ha,hat,hjr⟩:=(hJ.le hM1).at x0 hlt
   rw[drop_get hj,jobsE1]at hE1
   have hjl':=job_list j
   have hbr:(if y.Budget<0 then y.Budget else 0)=(if j.b<0 then j.b else 0):=by rw[hjr.b]
   refine⟨b,o,ha,x0,hlt,y,hat,?_⟩
   rw[hbr]
   refine llist_is hjr.gr y.Alpha y.N ⟨[],false⟩ _ _ (λhne M2 hle2=>⟨_,_,_,_,_,rfl,λ_ M' hle'=>?_,λhn=>absurd hne hn⟩) λhe M2 A cap hle2 hsl=>⟨_,_,_,_,_,rfl,λhn=>absurd rfl hn,λ_=>?_⟩
   ·have e:jobE j=listE j.rs y.Alpha y.N ⟨[],false⟩ (if j.b<0 then j.b else 0):=by
     rw[hjr.al,hjr.n]at hne ⊢
     rw[hjl']at hne ⊢
     unfold jobE
     by_cases h0:listP j.rs j.al j.n=0
     ·by_cases hb:j.b<0
      ·simp[h0,hb]
      ·simp[h0,hb]at hne
     ·rw[if_pos h0,if_pos h0]
    rw[e,if_pos hne]at hE1
    rw[hE1]
    exact h1 (by rw[<-hE1];exact hne) M' (hM1.trans (hle2.trans hle'))
   ·rw[hjr.al,hjr.n]at he
    rw[he]at hjl'
    have hl0:listP j.rs j.al j.n=0:=by
     by_cases h:listP j.rs j.al j.n=0
     ·exact h
     ·rw[if_pos h]at hjl';exact absurd hjl'.symm h
    have hb0:¬j.b<0:=λhb=>by rw[if_neg (λh=>h hl0),if_pos hb]at hjl';omega
    refine⟨λhb M' hle'=>?_,λhb M71 hnr b70 M72 hb70 hM72=>?_⟩
    ·have e:jobE j=1:=by unfold jobE;rw[if_neg (λh=>h hl0),if_pos (.inr (by rw[<-hjr.b];exact hb))]
     rw[e,if_pos (by decide)]at hE1
     rw[<-hE1]at h1
     exact h1 (by decide) M' (hM1.trans (hle2.trans hle'))
    ·have hok:JOk j:=⟨hl0,by omega,by rw[<-hjr.b];omega⟩
     have hE0:jobE j=0:=by unfold jobE;rw[if_neg (λh=>h hl0),if_neg (λh=>h.elim hb0 (λh=>hb (by rw[hjr.b];exact h)))]
     rw[hE0,if_neg (λh=>h rfl)]at hE1
     have hlen71:=hnr.le
     have hbl:bks.length=x.toNat:=by omega
     have hV70:M b70=none:=by
      cases hm:M b70 with
      |none=>rfl
      |some o=>rw[hlen71 _ _ (hle2 _ _ (hM1 _ _ hm))]at hb70;cases hb70
     have hTs2:=((hTs.le hle2).le hlen71).add (j:=j) (x:=y) (b:=b70) (by omega) (by omega) (by rw[hbl];exact hj) (by rw[hbl];exact hy) hok hjr.b rfl hV70 hb70
     have hle72:M71.le M72:=by rw[hM72];exact Mem.add_le hb70
     have e1:(x+1).toNat=x.toNat+1:=by omega
     refine⟨by omega,inI_big (by omega) (by omega),(),⟨by omega,by omega,hM1.trans (hle2.trans (hlen71.trans hle72)),by rw[e1];exact hE1,λi j' hi hj'=>?_,bks++[b70],gs++[none],by rw[List.length_append,hrn];rfl,by rw[List.length_append];simp;omega,by rw[hrx,<-cl_snoc];rfl,by rw[hM72];exact hTs2⟩,by show ll-(x+1).toNat<ll-x.toNat;omega⟩
     by_cases hix:(i:Int)<x
     ·exact hoks i j' hix hj'
     ·rw[show i=x.toNat by omega,hj]at hj'
      cases hj';exact hok
  ·have hx:x.toNat=js.length:=by omega
   rw[hx,List.drop_length,jobsE1]at hE1
   replace h2:=h2 hE1.symm
   have hok:∀(i:Nat) j,js[i]?=some j->JOk j:=λi j hj=>hoks i j (by have:=(List.getElem?_eq_some_iff.1 hj).1;omega) hj
   have hbl:bks.length=js.length:=by omega
   subst hrn hrx
   obtain⟨sn,rfl⟩:∃sn:Nat,s=sn:=⟨s.toNat,by omega⟩
   obtain⟨rnn,rfl⟩:∃rn:Nat,r=rn:=⟨r.toNat,by omega⟩
   rw[Int.toNat_natCast,Int.toNat_natCast]at h2
   have hpw0:∀i,i<bks.length->pwAt js sn i 0=0:=λi _=>by unfold pwAt;split<;>rfl
   refine⟨Unit,λ_ t M'=>0<=t/\t<=rnn/\M.le M'/\∃gs,Ts M M' js xs bks (λi=>pwAt js sn i t.toNat) gs,λ_ t=>rnn-t.toNat,(),⟨by omega,by omega,hM1,gs,hTs.same hpw0⟩,λ_ t M2 ⟨t0,tr,hM2,gs2,hTs2⟩=>⟨λhlt=>?_,λhge=>?_⟩⟩
   ·have e1:(t+1).toNat=t.toNat+1:=by omega
    refine⟨Unit,λ_ k M'=>0<=k/\k<=bks.length/\M.le M'/\∃gs,Ts M M' js xs bks (λi=>if (i:Int)<k then pwAt js sn i (t.toNat+1) else pwAt js sn i t.toNat) gs,λ_ k=>bks.length-k.toNat,(),⟨by omega,by omega,hM2,gs2,hTs2.same λi _=>by rw[if_neg (by omega)]⟩,λ_ k M3 ⟨k0,kl,hM3,gs3,hTs3⟩=>⟨λhltk=>?_,λhgek=>?_⟩⟩
    ·obtain⟨bk,hbk⟩:=getI (l:=bks) k0 hltk
     have gl3:=hTs3.gl
     obtain⟨j,hj⟩:=getN (l:=js) (i:=k.toNat) (by omega)
     obtain⟨y,hy⟩:=getN (l:=xs) (i:=k.toNat) (by omega)
     obtain⟨go,hgo⟩:=getN (l:=gs3) (i:=k.toNat) (by omega)
     have htk:=hTs3.tk _ j y bk go hj hy hbk hgo
     have hpk:(if ((k.toNat:Nat):Int)<k then pwAt js sn k.toNat (t.toNat+1) else pwAt js sn k.toNat t.toNat)=j.pw sn t.toNat:=by rw[if_neg (by omega),pwAt_some hj]
     simp only[hpk]at htk
     have hok':=hok _ j hj
     have hple:=Jb.pw_le (j:=j) sn t.toNat
     refine⟨k0,hltk,some ⟨bk,0,none⟩,cl_Cs pC_len hbk,s_jobs_task_over _ _ _ _ (over_is htk hple hok' λM4 hle4=>⟨_,rfl,λhno=>?_,λhyes=>?_⟩)⟩
     ·have hno':¬(j.T.length<=j.pw sn t.toNat\/j.b.toNat=j.pw sn t.toNat):=λh=>hno (decide_eq_true h)
      have hTs4:=hTs3.le hle4
      refine s_jobs_task_work _ _ _ _ _ (work_is (hM3.trans hle4) hok' ((hJ.row _ _ _ hj hy)) (htk.keep λb o hb _=>hle4 b o hb) (by omega) (by omega) (s:=sn) (by omega) (by omega) (λb hb=>.inr hb) λM5 go' hV5 hk5 _ htk5 hg5=>⟨rfl,?_⟩)
      unfold S_jobs_Run_J2
      have hTs5:=hTs4.work (P':=λi=>if (i:Int)<k+1 then pwAt js sn i (t.toNat+1) else pwAt js sn i t.toNat) hbl (by omega) hj hy hbk hgo hk5 (by
       have e:(if ((k.toNat:Nat):Int)<k+1 then pwAt js sn k.toNat (t.toNat+1) else pwAt js sn k.toNat t.toNat)=j.pw sn t.toNat+min sn (j.b.toNat-j.pw sn t.toNat):=by
        rw[if_pos (by omega),pwAt_some hj,Jb.pw,if_neg hno']
       simp only[e];exact htk5) hg5 λi hi=>by
        by_cases h:(i:Int)<k
        ·rw[if_pos (by omega),if_pos h]
        ·rw[if_neg (by omega),if_neg h]
      exact⟨inI_big (by omega) (by omega),(),⟨by omega,by omega,hV5,_,hTs5⟩,by show bks.length-(k+1).toNat<bks.length-k.toNat;omega⟩
     ·have hy':j.T.length<=j.pw sn t.toNat\/j.b.toNat=j.pw sn t.toNat:=of_decide_eq_true (Decidable.not_not.1 hyes)
      unfold S_jobs_Run_J2
      refine⟨inI_big (by omega) (by omega),(),⟨by omega,by omega,hM3.trans hle4,gs3,(hTs3.le hle4).same λi hi=>?_⟩,by show bks.length-(k+1).toNat<bks.length-k.toNat;omega⟩
      by_cases h:(i:Int)<k
      ·rw[if_pos (by omega),if_pos h]
      ·by_cases h':(i:Int)<k+1
       ·rw[if_pos h',if_neg h]
        have:i=k.toNat:=by omega
        rw[this,pwAt_some hj,pwAt_some hj,Jb.pw,if_pos hy']
       ·rw[if_neg h',if_neg h]
    ·refine⟨inI_big (by omega) (by omega),(),⟨by omega,by omega,hM3,gs3,hTs3.same λi hi=>?_⟩,by show rnn-(t+1).toNat<rnn-t.toNat;omega⟩
     rw[if_pos (by omega),e1]
   ·have ht:t.toNat=rnn:=by omega
    rw[ht]at hTs2
    refine⟨λk rn rx=>0<=k/\k<=bks.length/\∃ys,rn=ys.length/\(ys.length:Int)=k/\rx=cl X_api_State.cells ys/\∀(i:Nat) j y,js[i]?=some j->ys[i]?=some y->StR M2 j (j.pw sn rnn) y,λk _ _=>bks.length-k.toNat,⟨by omega,by omega,[],rfl,rfl,rfl,λi j y _ h=>by simp at h⟩,λk rn rx ⟨k0,kl,ys,hrn,hyk,hrx,hst⟩=>⟨λhltk=>?_,λhgek M6 A6 c6 hnr M7 hle7=>?_⟩⟩
    ·obtain⟨bk,hbk⟩:=getI (l:=bks) k0 hltk
     have gl2:=hTs2.gl
     obtain⟨j,hj⟩:=getN (l:=js) (i:=k.toNat) (by omega)
     obtain⟨y,hy⟩:=getN (l:=xs) (i:=k.toNat) (by omega)
     obtain⟨go,hgo⟩:=getN (l:=gs2) (i:=k.toNat) (by omega)
     obtain⟨_,fa,fc,hb2,hrow,_⟩:=hTs2.tk _ j y bk go hj hy hbk hgo
     rw[pwAt_some hj]at hb2 hrow
     have hylen:ys.length=k.toNat:=by omega
     refine⟨k0,hltk,some ⟨bk,0,none⟩,cl_Cs pC_len hbk,bk,0,rfl,(tkC j y (j.pw sn rnn) fa fc).State,(At.blk hb2).part 4 _ rfl,by omega,inI_big (by omega) (by omega),⟨by omega,by omega,ys++[(tkC j y (j.pw sn rnn) fa fc).State],by rw[List.length_append,hrn];rfl,by rw[List.length_append];simp;omega,by rw[hrx,cl_snoc],λi j' y' hj' hy'=>?_⟩,by show bks.length-(k+1).toNat<bks.length-k.toNat;omega⟩
     by_cases hi:i<ys.length
     ·rw[List.getElem?_append_left hi]at hy'
      exact hst i j' y' hj' hy'
     ·rw[List.getElem?_append_right (by omega)]at hy'
      have hi0:i-ys.length=0:=by
       have:=(List.getElem?_eq_some_iff.1 hy').1
       simpa using this
      rw[hi0]at hy'
      simp only[List.getElem?_cons_zero,Option.some.injEq]at hy'
      rw[show i=k.toNat by omega,hj]at hj'
      cases hj'
      subst hy'
      exact⟨rfl,hrow.slv,rfl,rfl⟩
    ·have hyl:ys.length=ll:=by omega
     subst hrn hrx
     have:=h2 M7 A6 c6 ys (hM2.trans (hnr.le.trans hle7)) (by rw[<-hyl];exact hnr.slv.le hle7) hyl λi j y hj hy=>(hst i j y hj hy).mono (hnr.le.trans hle7)
     rw[hyl];exact this
 exact⟨λh=>j1 _ (by symm;exact decide_eq_true (.inl h)),λh=>⟨λh'=>j1 _ (by symm;exact decide_eq_true (.inr (.inl (by omega)))),λh'=>⟨λh''=>j1 _ (by symm;exact decide_eq_true (.inr (.inr (.inl h'')))),λh''=>j1 _ (by rw[decide_eq_decide];omega)⟩⟩⟩
end
section
variable {M:Mem} {js:List Jb} {xs:List X_api_Job} {la:Option Addr} {ll lc:Nat}
end
end Go.Proofs.Ytmnilbfhfjdelaa.core

