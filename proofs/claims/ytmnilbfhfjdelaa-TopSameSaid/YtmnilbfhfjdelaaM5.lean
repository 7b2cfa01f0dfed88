/- Contracts and what they hang on, of several parts. No condition. -/
import Derived.Test.YtmnilbfhfjdelaaM3
import Derived.Test.YtmnilbfhfjdelaaM4
import Derived.RangeFuncNested
import Derived.RangeFuncBound
import Derived.RangeFuncCalls
import Derived.RangeFuncLeaves
import Derived.RangeFuncWrites
import Derived.RangeFuncBox
import Derived.Shelf.Abstract
import Derived.WalkKit
import Derived.OwnWalkIn
import Derived.TacticsInMore
import Derived.LoopNIn
import Derived.LoopIn
import Derived.Maps.OwnIn
import Derived.Maps.AppendAt
import Derived.StringKeys
import Derived.BigRegionIn
namespace Go.Proofs.Ytmnilbfhfjdelaa.core
open Go.Gx Go.RowKit Go.ChangeShapes Go.WideShapes Go.ChangeAt
set_option linter.unusedVariables false
noncomputable def listP (rs:List Ru) (a:List UInt8) (n:Int):Int:=if (wellP rs).2≠0 then(wellP rs).2 else if alphaP a≠0 then alphaP a else if n<0\/6<n then 1 else if 5000<geo a.length (n.toNat+1) then 2 else 0
section
variable {rs:List Ru} {ga:Option Addr} {gl gc:Nat} {M:Mem}
theorem llook_is (hg:GrR M rs ga gl gc) (a:List UInt8) (n:Int) (K:Value->Prop) (hK:K (.int .i64 (listP rs a n))):S_list_Look ga gl gc a n M K:=by
 unfold S_list_Look
 unfold listP at hK
 refine s_well_Well _ _ _ _ _ (wwell_is hg _ ⟨_,_,rfl,λh=>?_,λh=>?_⟩)
 ·rw[if_pos h]at hK;exact hK
 rw[if_neg h]at hK
 refine s_walk_Many _ _ _ _ (wmany_is a n _ _ (λh1=>?_) (λh1 h2=>?_) λh1 h2 h3=>?_)
 ·rw[if_pos h1]at hK
  exact⟨_,_,rfl,λ_=>hK,λhn=>absurd h1 hn⟩
 ·rw[if_neg (λhn=>hn h1),if_pos h2]at hK
  exact⟨_,_,rfl,λ_=>hK,λhn=>absurd (by decide) hn⟩
 ·rw[if_neg (λhn=>hn h1),if_neg (by omega)]at hK
  refine⟨_,_,rfl,λhn=>absurd rfl hn,λ_=>⟨λhgt=>?_,λhle=>?_⟩⟩
  ·rw[if_pos (by omega)]at hK;exact hK
  ·rw[if_neg (by omega)]at hK;exact hK
end
end Go.Proofs.Ytmnilbfhfjdelaa.core

namespace Go.Proofs.Ytmnilbfhfjdelaa.core
open Go.Gx Go.RowKit Go.ChangeShapes Go.WideShapes Go.ChangeAt
set_option linter.unusedVariables false
open Go.Shelf Go.Proofs
attribute [local go_sem] Oper.semAt_some
structure KX (n₀:Nat) (ex:List Nat) (A B:World):Prop where
 os:B.os=A.os
 tape:B.tape=A.tape
 output:B.output=A.output
 size:A.heap.size<=B.heap.size
 block:∀k,k<n₀->k∉ex->B.heap[k]?=A.heap[k]?
theorem KX.refl (n₀:Nat) (ex:List Nat) (A:World):KX n₀ ex A A:=⟨rfl,rfl,rfl,Nat.le_refl _,λ_ _ _=>rfl⟩
theorem KX.trans {n₀:Nat} {ex:List Nat} {A B C:World} (h:KX n₀ ex A B) (k:KX n₀ ex B C):KX n₀ ex A C:=
 ⟨k.os.trans h.os,k.tape.trans h.tape,k.output.trans h.output,Nat.le_trans h.size k.size,λi hi hx=>(k.block i hi hx).trans (h.block i hi hx)⟩
theorem KX.grown {n₀:Nat} {ex:List Nat} {A B:World} {row:Option Nat} (hg:A.grownBy B row) (hn:n₀<=A.heap.size) (hr:∀k,row=some k->k<n₀->k∈ex):KX n₀ ex A B:=
 ⟨hg.os,hg.tape,hg.output,hg.size,λk hk hx=>hg.block k (by omega) (λe=>hx (hr k e.symm hk))⟩
theorem KX.below {n₀:Nat} {ex:List Nat} {A B:World} {m:Nat} (h:KX n₀ ex A B) (hm:m<=n₀) (hx:∀k∈ex,m<=k):Below m A B:=
 ⟨h.os,h.tape,h.output,h.size,λk hk=>h.block k (by omega) (λhk'=>by have:=hx k hk';omega)⟩
theorem KX.of {n₀:Nat} {ex:List Nat} {A B:World} (h:Below n₀ A B):KX n₀ ex A B:=⟨h.os,h.tape,h.output,h.size,λk hk _=>h.block k hk⟩
theorem grown_of {A B:World} (h:Below A.heap.size A B):A.grownBy B none:=⟨h.os,h.tape,h.output,h.size,λk hk _=>h.block k hk⟩
abbrev W6:={x:List UInt8 // x.length<=6}
set_option maxRecDepth 100000 in
set_option maxHeartbeats 2000000 in
theorem texts1_in (l n₀:Nat) (ex:List Nat) (a:List UInt8) (s0:W6) (k:Nat) (T:List W6) (h1:1<=a.length) (hal:alphaP a=0) (hk6:k<=6) (hs0:∀c∈s0.1,c∈a) (hs0k:s0.1.length<=k)
  (hTl:T.length=geo a.length (k+1)-rankN a s0.1) (hT:∀(i:Nat) (s:W6),(∀c∈s.1,c∈a)->s.1.length<=k->rankN a s.1=rankN a s0.1+i->T[i]?=some s)
  (Ba Bf Bn:Nat) (J Jx:List W6->World->Prop) (hJ:∀s W W',J s W->W.grownBy W' none->J s W')
  (hY:∀m pre x W,J pre W->pre.length<T.length->YieldAt Fence.wide m Try.prog l #[.string (mkS x.1)] W λe W'=>
   (e= .returned (.bool true)/\J (pre++[x]) W'/\KX n₀ ex W W')\/(e= .returned (.bool false)/\Jx (pre++[x]) W'))
  (n:Nat) (W:World) (hn:n₀<=W.heap.size) (hBa:Boxed W Ba 9 (.string (mkS a))) (hBf:Boxed W Bf 9 (.string (mkS s0.1))) (hBn:Boxed W Bn 3 (.int .i64 k)) (hba:Ba<n₀/\Ba∉ex) (hbn:Bn<n₀/\Bn∉ex) (h0:J [] W):
  CallsIn Fence.wide n Try.prog 80 #[.func (.yield l) #[] #[],.pointer (some ⟨Bf,0,none⟩),.pointer (some ⟨Bn,0,none⟩),.pointer (some ⟨Ba,0,none⟩)] W λe W'=>(∃v,e= .returned v)/\
   ((∃xs,xs=T/\J xs W')\/(∃q,(q=T.take q.length/\q.length<=T.length)/\Jx q W')):=by
 have hcf:=hBf.cell
 refine callsIn_of_wp Try.func80 rfl trivial ?_ rfl
 simp only[Try.ntmps80,List.size_toArray,List.length_cons,List.length_nil,Nat.reduceAdd,Nat.reduceSub,Array.replicate_succ,Array.replicate_zero,List.push_toArray,List.append_toArray,List.nil_append,List.cons_append]
 gi_wp2
 gi_loopw [5] (λt wr=>∃(pre:List W6) (s:W6),t= .string (mkS s.1)/\(∀c∈s.1,c∈a)/\pre=T.take pre.length/\pre.length<=T.length/\rankN a s.1=rankN a s0.1+pre.length/\J pre wr/\KX n₀ ex W wr)
  (λt _=>match t with| .string b=>geo a.length 8-rankN a b.toList|_=>0)
 case atStart=>exact⟨[],s0,rfl,hs0,rfl,by simp,by simp,h0,KX.refl _ _ _⟩
 case round=>
  obtain⟨pre,s,rfl,hin,hpre,hpl,hrk,hj,hkx⟩:=hrel
  have hbn':Boxed wr Bn 3 (.int .i64 k):=(hkx.block Bn hbn.1 hbn.2).trans hBn
  have hba':Boxed wr Ba 9 (.string (mkS a)):=(hkx.block Ba hba.1 hba.2).trans hBa
  have hcn:=hbn'.cell
  have hsz:((mkS s.1).size:Int)=s.1.length:=rfl
  by_cases hlt:s.1.length<=k
  ·have hT1:=hT pre.length s hin hlt hrk
   have hlt2:pre.length<T.length:=(List.getElem?_eq_some_iff.1 hT1).1
   obtain⟨fn,tmps,assign,body,hy,hRd⟩:=hY (n-1) pre s wr hj hlt2
   have hb:((mkS s.1).size:Int)<=(k:Int):=by rw[hsz];omega
   gi_wp2
   refine⟨λh=>(by cases h),hRd.mono ?_⟩
   have hov:=over_of hal s.2 hin
   have hnx:=e_walk_Next a s.1 (λ_=>none) (λv _=>(rankN a s.1+1=geo a.length 7/\v= .tuple #[.string (mkS []),.int .i64 12])\/∃t:W6,(∀c∈t.1,c∈a)/\rankN a t.1=rankN a s.1+1/\v= .tuple #[.string (mkS t.1),.int .i64 0])
    (wnext_is _ _ (λh=>absurd hov h) (λ_ h M' _=>.inl ⟨h,rfl⟩) λ_ t h6 ht hr M' _=>.inr ⟨⟨t,h6⟩,ht,hr,rfl⟩)
   have hpre1:pre++[s]=T.take (pre.length+1):=by rw[List.take_add_one,hT1,<-hpre];rfl
   have hlen1:(pre++[s]).length=pre.length+1:=by simp
   rintro e W1 (⟨rfl,hj1,hkx1⟩|⟨rfl,hx1⟩)
   ·have hba1:Boxed W1 Ba 9 (.string (mkS a)):=(hkx1.block Ba hba.1 hba.2).trans hba'
    have hca:=hba1.cell
    have hnx1:=hnx W1 (λb o h=>by cases h)
    clear hnx
    gi_wp2
    refine⟨trivial,λh=>(by cases h),(callsIn_wide.2 hnx1).mono ?_⟩
    rintro e W2 ⟨v,rfl,hbel,(⟨hr,rfl⟩|⟨t,ht,hr,rfl⟩)⟩
    ·have e:pre++[s]=T:=by
      have hlt3:=(rank_le (n:=k) h1 hin).1 hlt
      have hg:geo a.length (k+1)<=geo a.length 7:=by
       rcases Nat.lt_or_ge k 6 with h|h
       ·exact Nat.le_of_lt (geo_lt h1 (by omega))
       ·rw[show k=6 by omega];exact Nat.le_refl _
      rw[hpre1,List.take_of_length_le (by omega)]
     have hj2:=hJ _ _ _ hj1 (grown_of hbel)
     rw[e]at hj2
     gi_wp2
     refine bodyPost_ret (results_none rfl _ _ _) rfl ?_
     exact⟨⟨_,rfl⟩,.inl ⟨_,rfl,hj2⟩⟩
    ·have hms:geo a.length 8-rankN a (mkS t.1).toList<geo a.length 8-rankN a (mkS s.1).toList:=by
      have hr1:rankN a s.1<geo a.length 8:=(rank_le (n:=7) h1 hin).1 (Nat.le_trans s.2 (by omega))
      rw[mkS_toList,mkS_toList];omega
     have hj2:=hJ _ _ _ hj1 (grown_of hbel)
     have hkx2:=hkx.trans (hkx1.trans (KX.of (hbel.mono (Nat.le_trans hn (Nat.le_trans hkx.size hkx1.size)))))
     gi_wp2
     exact⟨⟨_,t,rfl,ht,by rw[hlen1];exact hpre1,by rw[hlen1];exact hlt2,by rw[hlen1];omega,hj2,hkx2⟩,hms⟩
   ·gi_wp2
    refine bodyPost_ret (results_none rfl _ _ _) rfl ?_
    exact⟨⟨_,rfl⟩,.inr ⟨_,⟨by rw[hlen1];exact hpre1,by rw[hlen1];exact hlt2⟩,hx1⟩⟩
  ·have hb:¬((mkS s.1).size:Int)<=(k:Int):=by rw[hsz];omega
   have e:pre=T:=by
    have hx:¬rankN a s.1<geo a.length (k+1):=λh=>hlt ((rank_le h1 hin).2 h)
    rw[hpre,List.take_of_length_le (by omega)]
   gi_wp2
   go_end0
   exact⟨⟨_,rfl⟩,.inl (e▸hj)⟩
set_option maxHeartbeats 1000000 in
theorem texts_mk (n:Nat) (a s:List UInt8) (k:Int) (w:World):
  CallsIn Fence.wide n Try.prog 49 #[.string (mkS a),.string (mkS s),.int .i64 k] w λe w'=>e= .returned (.func (.func 80) #[] #[.pointer (some ⟨w.heap.size+1,0,none⟩),.pointer (some ⟨w.heap.size+1+1,0,none⟩),.pointer (some ⟨w.heap.size,0,none⟩)])/\
   w'=((w.alloc (.cells #[.string (mkS a)] 9)).alloc (.cells #[.string (mkS s)] 9)).alloc (.cells #[.int .i64 k] 3):=by
 refine callsIn_of_wp Try.func49 rfl trivial ?_ rfl
 simp only[Try.ntmps49,List.size_toArray,List.length_cons,List.length_nil,Nat.reduceAdd,Nat.reduceSub,Array.replicate_succ,Array.replicate_zero,List.push_toArray,List.append_toArray,List.nil_append,List.cons_append]
 gi_wp2
 go_ret
 exact⟨rfl,rfl⟩
theorem texts_stops (n:Nat) (n₀:Nat) (ex:List Nat) (a:List UInt8) (s0:W6) (k:Nat) (T:List W6) (h1:1<=a.length) (hal:alphaP a=0) (hk6:k<=6) (hs0:∀c∈s0.1,c∈a) (hs0k:s0.1.length<=k)
  (hTl:T.length=geo a.length (k+1)-rankN a s0.1) (hT:∀(i:Nat) (s:W6),(∀c∈s.1,c∈a)->s.1.length<=k->rankN a s.1=rankN a s0.1+i->T[i]?=some s)
  (Ba Bf Bn:Nat) (w:World) (hn:n₀<=w.heap.size) (hBa:Boxed w Ba 9 (.string (mkS a))) (hBf:Boxed w Bf 9 (.string (mkS s0.1))) (hBn:Boxed w Bn 3 (.int .i64 k)) (hba:Ba<n₀/\Ba∉ex) (hbn:Bn<n₀/\Bn∉ex):
  SeqStopsK Fence.wide n Try.prog 80 #[.pointer (some ⟨Bf,0,none⟩),.pointer (some ⟨Bn,0,none⟩),.pointer (some ⟨Ba,0,none⟩)] (λx:W6=> #[.string (mkS x.1)]) (KX n₀ ex) (λxs=>xs=T) (λq=>q=T.take q.length/\q.length<=T.length) T.length w:=λl J Jx W hW hJ _ hY h0=>
 texts1_in l n₀ ex a s0 k T h1 hal hk6 hs0 hs0k hTl hT Ba Bf Bn J Jx (λs A B hs hg=>hJ s A B none hs hg (λr e=>by cases e)) (λm pre x W1 hj hl=>YieldAt.deep m (hY pre x W1 hj hl)) n W (Nat.le_trans hn hW.size)
  ((hW.block Ba hBa.lt).trans hBa) ((hW.block Bf hBf.lt).trans hBf) ((hW.block Bn hBn.lt).trans hBn) hba hbn h0
end Go.Proofs.Ytmnilbfhfjdelaa.core

namespace Go.Proofs.Ytmnilbfhfjdelaa.core
open Go.Gx Go.RowKit Go.ChangeShapes Go.WideShapes Go.ChangeAt
set_option linter.unusedVariables false
open Go.Shelf Go.Proofs
attribute [local go_sem] Oper.semAt_some
def sv6 (x:W6):Value:=.string (mkS x.1)
noncomputable def accL (rs:List Ru) (l:List W6):List W6:=l.filter λx=>accP rs x.1
noncomputable def listE (rs:List Ru) (a:List UInt8) (n:Int) (c:X_api_Cursor) (b:Int):Int:=
 if listP rs a n≠0 then listP rs a n else if b<0\/1048576<b\/overP a c.Text≠0\/n<c.Text.length\/(c.Over=true/\c.Text≠[]) then 1 else 0
def listT (a:List UInt8) (n:Int) (c:X_api_Cursor):List (List UInt8):=(wordsN a n.toNat).drop (rankN a c.Text)
noncomputable def listO (rs:List Ru) (a:List UInt8) (n:Int) (c:X_api_Cursor) (b:Int):List (List UInt8)×X_api_Cursor:=
 if c.Over=true then([],c) else if b<(listT a n c).length then(((listT a n c).take b.toNat).filter (accP rs),⟨((listT a n c)[b.toNat]?).getD [],false⟩) else((listT a n c).filter (accP rs),⟨[],true⟩)
theorem listE_ok {rs:List Ru} {a:List UInt8} {n:Int} {c:X_api_Cursor} {b:Int} (he:listP rs a n=0) (hb0:0<=b) (hb1:b<=1048576) (ho:overP a c.Text=0) (hn:(c.Text.length:Int)<=n) (hc:¬(c.Over=true/\c.Text≠[])):listE rs a n c b=0:=by
 unfold listE
 rw[if_neg (λh=>h he),if_neg]
 rintro(h|h|h|h|h)
 ·omega
 ·omega
 ·exact h ho
 ·omega
 ·exact hc h
theorem listP_ok {rs:List Ru} {a:List UInt8} {n:Int} (h:listP rs a n=0):WellOk rs/\alphaP a=0/\0<=n/\n<=6/\geo a.length (n.toNat+1)<=5000:=by
 unfold listP at h
 split at h
 ·rename_i h1;exact absurd h h1
 rename_i h1
 split at h
 ·rename_i h2;exact absurd h h2
 rename_i h2
 split at h
 ·omega
 split at h
 ·omega
 exact⟨(look_ok (s:=[]) (by unfold lookP;rw[if_neg h1];rfl)).1,Decidable.not_not.1 h2,by omega,by omega,by omega⟩
theorem look_ok' {rs:List Ru} {a:List UInt8} {n:Int} (h:listP rs a n=0):(wellP rs).2=0:=by
 unfold listP at h
 split at h
 ·rename_i h1;exact absurd h h1
 ·rename_i h1;exact Decidable.not_not.1 h1
theorem accL_snoc (rs:List Ru) (l:List W6) (x:W6):accL rs (l++[x])=if accP rs x.1=true then accL rs l++[x] else accL rs l:=by
 unfold accL
 rw[List.filter_append]
 split<;>rename_i h<;>simp[h]
theorem accL_len (rs:List Ru) (l:List W6):(accL rs l).length<=l.length:=List.length_filter_le ..
theorem six_ex (l:List (List UInt8)) (h:∀x∈l,x.length<=6):∃T:List W6,T.map (·.1)=l:=⟨l.pmap Subtype.mk h,by rw[List.map_pmap];simp⟩
theorem accL_map (rs:List Ru) (T:List W6):(T.map (·.1)).filter (accP rs)=(accL rs T).map (·.1):=by
 unfold accL
 rw[List.filter_map];rfl
theorem listO_done {rs:List Ru} {a:List UInt8} {n:Int} {c:X_api_Cursor} {b:Int} {T:List W6} (hTv:T.map (·.1)=listT a n c) (hc:c.Over=false) (hle:(T.length:Int)<=b):listO rs a n c b=((accL rs T).map (·.1),⟨[],true⟩):=by
 unfold listO
 have hl:(listT a n c).length=T.length:=by rw[<-hTv,List.length_map]
 rw[if_neg (by rw[hc];decide),if_neg (by rw[hl];omega),<-hTv,accL_map]
theorem listO_stop {rs:List Ru} {a:List UInt8} {n:Int} {c:X_api_Cursor} {b:Int} {T:List W6} (hTv:T.map (·.1)=listT a n c) (hc:c.Over=false) {pre:List W6} {x:W6} (h:pre++[x]=T.take (pre++[x]).length) (hl:(pre++[x]).length<=T.length) (hb:(pre.length:Int)=b):listO rs a n c b=((accL rs pre).map (·.1),⟨x.1,false⟩):=by
 unfold listO
 have hlen:(listT a n c).length=T.length:=by rw[<-hTv,List.length_map]
 rw[List.length_append,List.length_singleton]at h hl
 have h1:T.take pre.length=pre:=by
  have:=congrArg (List.take pre.length) h
  rw[List.take_left,List.take_take,Nat.min_eq_left (by omega)]at this
  exact this.symm
 have h2:T[pre.length]?=some x:=by
  have:=congrArg (·[pre.length]?) h
  simp only[List.getElem?_take]at this
  rw[if_pos (by omega),List.getElem?_append_right (Nat.le_refl _)]at this
  simpa using this.symm
 have hbn:b.toNat=pre.length:=by omega
 rw[if_neg (by rw[hc];decide),if_pos (by rw[hlen];omega),<-hTv,hbn,<-List.map_take,h1,accL_map,List.getElem?_map,h2]
 rfl
theorem strV_6 (l:List W6):strV (l.map (·.1))=l.map sv6:=by
 unfold strV sv6
 rw[List.map_map];rfl
theorem six (w:World) (o0 o1 o2 o3 o4 o5:Obj):∃W,((((((w.alloc o0).alloc o1).alloc o2).alloc o3).alloc o4).alloc o5)=W/\W.heap[w.heap.size]?=some o0/\W.heap[w.heap.size+1]?=some o1/\W.heap[w.heap.size+1+1]?=some o2/\
  W.heap[w.heap.size+1+1+1]?=some o3/\W.heap[w.heap.size+1+1+1+1]?=some o4/\W.heap[w.heap.size+1+1+1+1+1]?=some o5/\Below w.heap.size w W/\W.heap.size=w.heap.size+6:=by
 refine⟨_,rfl,?_,?_,?_,?_,?_,?_,?_,by simp⟩
 all_goals first
  |(refine((((((Below.refl _ w).alloc ?_ _).alloc ?_ _).alloc ?_ _).alloc ?_ _).alloc ?_ _).alloc ?_ _<;>simp<;>omega)
  |(simp only[World.alloc,Array.getElem?_push,Array.size_push];repeat (first|rw[if_pos trivial]|rw[if_pos (by omega)]|rw[if_neg (by omega)]))
theorem set1 {W:World} {b:Nat} {cs:Array Value} {t:TypeId} {f:Nat×Nat} (h:W.heap[b]?=some (.cells cs t f)) (i:Nat) (v:Value):(W.setCell ⟨b,i,none⟩ v).heap[b]?=some (.cells (cs.setIfInBounds i v) t f):=by
 simp only[World.setCell,Array.getElem?_modify,if_pos,h];rfl
theorem set2 {W:World} {b b':Nat} (hb:b≠b') (i:Nat) (v:Value):(W.setCell ⟨b',i,none⟩ v).heap[b]?=W.heap[b]?:=Below.heap_setCell _ _ _ _ hb
theorem tail3 {P:Program} {fn:Func} {p1 p2 p3:Tmp} {y1 y2 y3:TypeId} (hr:fn.results= #[.cell p1 y1,.cell p2 y2,.cell p3 y3]) {tmps:Array Value} {W:World} {b1 b2 b3:Nat} {vs1 vs2 vs3:List Value} {t1 t2 t3:TypeId} (g1 g2 g3:Bool)
  (e1:tmps.getD p1 undef= .pointer (some ⟨b1,0,none⟩)) (e2:tmps.getD p2 undef= .pointer (some ⟨b2,0,none⟩)) (e3:tmps.getD p3 undef= .pointer (some ⟨b3,0,none⟩))
  (h1:W.heap[b1]?=some (.cells vs1.toArray t1 (0,0))) (h2:W.heap[b2]?=some (.cells vs2.toArray t2 (0,0))) (h3:W.heap[b3]?=some (.cells vs3.toArray t3 (0,0)))
  (k1:tyOk P y1 g1 vs1.length=true) (k2:tyOk P y2 g2 vs2.length=true) (k3:tyOk P y3 g3 vs3.length=true):
  (results fn tmps).run P W= .ok (.tuple #[ofCells g1 vs1,ofCells g2 vs2,ofCells g3 vs3]) W:=by
 have ld:∀{y:TypeId} {b:Nat} {vs:List Value} {t:TypeId} {g:Bool},W.heap[b]?=some (.cells vs.toArray t (0,0))->tyOk P y g vs.length=true->(loadVar y ⟨b,0,none⟩).run P W= .ok (ofCells g vs) W:=λ{y b vs t g} h k=>by
  obtain⟨q1,q2,q3,q4⟩:=tyOk_spec k
  exact run_load_at (P:=P) q1 q2 q3 q4 λj v hj=>by simp[World.cell?,h,hj]
 have l1:=ld h1 k1
 have l2:=ld h2 k2
 have l3:=ld h3 k3
 simp only[results,hr]
 simp[-Array.getD_eq_getD_getElem?,e1,e2,e3,asAddr,l1,l2,l3]
theorem stored3 {W:World} {b1 b2 b3:Nat} {u1 u2 u2' u3:Value} {t1 t2 t3:TypeId} (r1:W.heap[b1]?=some (.cells #[u1] t1 (0,0))) (r2:W.heap[b2]?=some (.cells #[u2,u2'] t2 (0,0))) (r3:W.heap[b3]?=some (.cells #[u3] t3 (0,0)))
  (n12:b1≠b2) (n13:b1≠b3) (n23:b2≠b3) (v1 x0 x1 v3:Value):∃W',(((W.setCell ⟨b1,0,none⟩ v1).setCell ⟨b2,0,none⟩ x0).setCell ⟨b2,1,none⟩ x1).setCell ⟨b3,0,none⟩ v3=W'/\
  W'.heap[b1]?=some (.cells [v1].toArray t1 (0,0))/\W'.heap[b2]?=some (.cells [x0,x1].toArray t2 (0,0))/\W'.heap[b3]?=some (.cells [v3].toArray t3 (0,0))/\∀B,B<=b1->B<=b2->B<=b3->Below B W W':=by
 refine⟨_,rfl,?_,?_,?_,λB h1 h2 h3=>?_⟩
 ·rw[set2 n13,set2 n12,set2 n12];exact set1 r1 0 v1
 ·rw[set2 n23]
  have:=set1 (set1 ((set2 (Ne.symm n12) 0 v1).trans r2) 0 x0) 1 x1
  simpa using this
 ·refine(set1 (((set2 (Ne.symm n23) 1 x1).trans ((set2 (Ne.symm n23) 0 x0).trans ((set2 (Ne.symm n13) 0 v1).trans r3)))) 0 v3).trans ?_
  simp
 ·exact(((((Below.refl B W).setCell (p:=⟨b1,0,none⟩) h1 _).setCell (p:=⟨b2,0,none⟩) h2 _).setCell (p:=⟨b2,1,none⟩) h2 _).setCell (p:=⟨b3,0,none⟩) h3 _)
structure Six (h:Nat) (g c0 c1 b s0 s1 s2 e:Value) (W:World):Prop where
 r0:W.heap[h]?=some (.cells #[g] 38 (0,0))
 r1:W.heap[h+1]?=some (.cells #[c0,c1] 47 (0,0))
 r2:W.heap[h+1+1]?=some (.cells #[b] 3 (0,0))
 r3:W.heap[h+1+1+1]?=some (.cells #[s0] 45 (0,0))
 r4:W.heap[h+1+1+1+1]?=some (.cells #[s1,s2] 47 (0,0))
 r5:W.heap[h+1+1+1+1+1]?=some (.cells #[e] 31 (0,0))
theorem Six.on {h:Nat} {g c0 c1 b s0 s1 s2 e:Value} {W W':World} (q:Six h g c0 c1 b s0 s1 s2 e W) (hb:Below W.heap.size W W'):Six h g c0 c1 b s0 s1 s2 e W':=by
 have l:∀{k o},W.heap[k]?=some o->W'.heap[k]?=some o:=λ{k o} hk=>(hb.block k (Array.getElem?_eq_some_iff.1 hk).1).trans hk
 exact⟨l q.r0,l q.r1,l q.r2,l q.r3,l q.r4,l q.r5⟩
theorem Six.cells {h:Nat} {g c0 c1 b s0 s1 s2 e:Value} {W:World} (q:Six h g c0 c1 b s0 s1 s2 e W):
  W.cell? ⟨h,0,none⟩=some g/\W.cell? ⟨h+1,0,none⟩=some c0/\W.cell? ⟨h+1,1,none⟩=some c1/\W.cell? ⟨h+1+1,0,none⟩=some b/\W.cell? ⟨h+1+1+1,0,none⟩=some s0/\
  W.cell? ⟨h+1+1+1+1,0,none⟩=some s1/\W.cell? ⟨h+1+1+1+1,1,none⟩=some s2/\W.cell? ⟨h+1+1+1+1+1,0,none⟩=some e/\
  W.frozen? ⟨h+1+1+1,0,none⟩=false/\W.frozen? ⟨h+1+1+1+1,0,none⟩=false/\W.frozen? ⟨h+1+1+1+1,1,none⟩=false/\W.frozen? ⟨h+1+1+1+1+1,0,none⟩=false:=by
 obtain⟨r0,r1,r2,r3,r4,r5⟩:=q
 refine⟨?_,?_,?_,?_,?_,?_,?_,?_,?_,?_,?_,?_⟩<;>simp[World.cell?,World.frozen?,r0,r1,r2,r3,r4,r5]
theorem Six.fin {h:Nat} {g c0 c1 b s0 s1 s2 e:Value} {W:World} (q:Six h g c0 c1 b s0 s1 s2 e W) (v1 x0 x1 v3:Value) {R:Ending->World->Prop} {tmps:Array Value}
  (e1:tmps.getD 10 undef= .pointer (some ⟨h+1+1+1,0,none⟩)) (e2:tmps.getD 11 undef= .pointer (some ⟨h+1+1+1+1,0,none⟩)) (e3:tmps.getD 12 undef= .pointer (some ⟨h+1+1+1+1+1,0,none⟩))
  (hR:∀W2,Below h W W2->R (.returned (.tuple #[v1,.agg #[x0,x1],v3])) W2):
  bodyPostM Fence.wide 3 Try.prog Try.f21 R .ret {tmps:=tmps,defers:=[]} ((((W.setCell ⟨h+1+1+1,0,none⟩ v1).setCell ⟨h+1+1+1+1,0,none⟩ x0).setCell ⟨h+1+1+1+1,1,none⟩ x1).setCell ⟨h+1+1+1+1+1,0,none⟩ v3):=by
 obtain⟨W2,hW2,s1,s2,s3,hB2⟩:=stored3 q.r3 q.r4 q.r5 (by omega) (by omega) (by omega) v1 x0 x1 v3
 rw[hW2]
 exact⟨_,tail3 rfl false true false e1 e2 e3 s1 s2 s3 (by kernel_rfl) (by kernel_rfl) (by kernel_rfl),hR W2 (hB2 _ (by omega) (by omega) (by omega))⟩
theorem Six.finD {h:Nat} {g c0 c1 b s0 s1 s2 e:Value} {W:World} (q:Six h g c0 c1 b s0 s1 s2 e W) (v1 x0 x1 v3:Value) {R:Ending->World->Prop} {tmps:Array Value}
  (e1:tmps.getD 10 undef= .pointer (some ⟨h+1+1+1,0,none⟩)) (e2:tmps.getD 11 undef= .pointer (some ⟨h+1+1+1+1,0,none⟩)) (e3:tmps.getD 12 undef= .pointer (some ⟨h+1+1+1+1+1,0,none⟩))
  (hR:∀W2,Below h W W2->R (.returned (.tuple #[v1,.agg #[x0,x1],v3])) W2):
  bodyPostM Fence.wide 3 Try.prog Try.f21 R .ret {tmps:=tmps,defers:=[]} ((((W.setCell ⟨h+1+1+1,0,none⟩ v1).setCell ⟨h+1+1+1+1,0,none⟩ x0).setCell ⟨h+1+1+1+1,1,none⟩ x1).setCell ⟨h+1+1+1+1+1,0,none⟩ v3).drew:=by
 obtain⟨W2,hW2,s1,s2,s3,hB2⟩:=stored3 q.r3 q.r4 q.r5 (by omega) (by omega) (by omega) v1 x0 x1 v3
 rw[hW2]
 exact⟨_,tail3 (W:=W2.drew) rfl false true false e1 e2 e3 s1 s2 s3 (by kernel_rfl) (by kernel_rfl) (by kernel_rfl),hR W2.drew (hB2 _ (by omega) (by omega) (by omega)).drew⟩
theorem four (w:World) (o0 o1 o2 o3:Obj):∃W,((((w.alloc o0).alloc o1).alloc o2).alloc o3)=W/\W.heap[w.heap.size]?=some o0/\W.heap[w.heap.size+1]?=some o1/\W.heap[w.heap.size+1+1]?=some o2/\
  W.heap[w.heap.size+1+1+1]?=some o3/\Below w.heap.size w W/\W.heap.size=w.heap.size+4:=by
 refine⟨_,rfl,?_,?_,?_,?_,?_,by simp⟩
 all_goals first
  |(refine((((Below.refl _ w).alloc ?_ _).alloc ?_ _).alloc ?_ _).alloc ?_ _<;>simp<;>omega)
  |(simp only[World.alloc,Array.getElem?_push,Array.size_push];repeat (first|rw[if_pos trivial]|rw[if_pos (by omega)]|rw[if_neg (by omega)]))
theorem row_grown {W W':World} {row:Option Nat} {base e size k:Nat} {v:Value} {xs:List Value} (hr:W.ownsRow base e size v k xs) (hg:W.grownBy W' row) (hrow:∀r,row=some r->∃o:Obj,W.heap[r]?=some o/\o.isCells=false):W'.ownsRow base e size v k xs:=by
 refine hr.kept hg ?_
 rcases hr.2 with⟨rfl,_⟩|⟨g,cap,cur,rfl,_,hgb,_⟩
 ·exact .inl rfl
 ·refine .inr λe'=>?_
  obtain⟨o,ho,hc⟩:=hrow g (by simpa[Value.ownBlock]using e'.symm)
  rw[hgb]at ho;cases ho;cases hc
theorem row_slice {W:World} {base e size k:Nat} {v:Value} {xs:List Value} (hr:W.ownsRow base e size v k xs):∃A c,v= .slice A k c:=by
 rcases hr.2 with⟨rfl,h⟩|⟨g,cap,cur,rfl,_⟩
 ·subst h;exact⟨_,_,rfl⟩
 ·exact⟨_,_,rfl⟩
theorem row_below {W W':World} {base e size k:Nat} {v:Value} {xs:List Value} (hr:W.ownsRow base e size v k xs) (hb:Below W.heap.size W W'):W'.ownsRow base e size v k xs:=
 row_grown hr (grown_of hb) (λr e=>by cases e)
theorem Boxed.below {W W':World} {B:Nat} {t:TypeId} {v:Value} (h:Boxed W B t v) (hb:Below W.heap.size W W'):Boxed W' B t v:=(hb.block B h.lt).trans h
theorem Boxed.appX {W w1:World} {n₀ B:Nat} {ex:List Nat} {t e:TypeId} {size:Nat} {v v':Value} {k m:Nat} {xs ys:List Value} {tmp:Obj}
  (hv:Boxed W B t v) (hte:t≠e) (hrow:W.ownsRow n₀ e size v k xs) (hn₀:n₀<=W.heap.size) (hB:B∈ex)
  (hown':w1.ownsRow n₀ e size v' m ys) (hgrow:(W.alloc tmp).grownBy w1 v.ownBlock):
  Boxed w1 B t v/\Boxed (w1.setCell ⟨B,0,none⟩ v') B t v'/\(w1.setCell ⟨B,0,none⟩ v').ownsRow n₀ e size v' m ys/\KeepsOthers W (w1.setCell ⟨B,0,none⟩ v')/\KX n₀ ex W (w1.setCell ⟨B,0,none⟩ v'):=by
 have hv1:Boxed w1 B t v:=(hv.alloc tmp).kept hgrow (hv.not_row hte hrow)
 refine⟨hv1,hv1.set v',hown'.kept (grownBy_setCell' w1 B v') (.inr (hv1.not_row hte hown').symm),?_,?_⟩
 ·refine((KeepsOthers.alloc W tmp).trans (KeepsOthers.of_grownBy hgrow λj o ej hj=>?_)).trans (KeepsOthers.setCell _ _ _)
  rcases(hrow.alloc tmp).2 with⟨rfl,_⟩|⟨g,cap,cur,rfl,_,hgb,_⟩
  ·simp[Value.ownBlock]at ej
  ·obtain rfl:g=j:=by simpa[Value.ownBlock]using ej
   rw[hgb]at hj;cases hj;rfl
 ·refine((KX.grown (World.grownBy_alloc W tmp none) hn₀ (λk e=>by cases e)).trans (KX.grown hgrow (by simp;omega) λj ej hlt=>?_)).trans (KX.grown (grownBy_setCell' w1 B v') ?_ λj ej _=>by cases ej;exact hB)
  ·rcases hrow.2 with⟨rfl,_⟩|⟨g,cap,cur,rfl,hb,_,_⟩
   ·simp[Value.ownBlock]at ej
   ·obtain rfl:g=j:=by simpa[Value.ownBlock]using ej
    omega
  ·have:=hgrow.size
   simp at this;omega
theorem KX.set {n₀:Nat} {ex:List Nat} {W:World} {B i:Nat} (hn:n₀<=W.heap.size) (hB:B∈ex) (v:Value):KX n₀ ex W (W.setCell ⟨B,i,none⟩ v):=
 ⟨rfl,rfl,rfl,by simp[World.setCell],λk _ hk=>Below.heap_setCell _ _ _ _ (λe=>hk (by rw[e];exact hB))⟩
theorem Six.kx {h:Nat} {g c0 c1 b s0 s1 s2 e b':Value} {W W':World} {n₀:Nat} {ex:List Nat} (q:Six h g c0 c1 b s0 s1 s2 e W) (hk:KX n₀ ex W W') (hn:h+6<=n₀) (hx:∀k∈ex,k=h+1+1\/h+6<=k) (hb:W'.heap[h+1+1]?=some (.cells #[b'] 3 (0,0))):Six h g c0 c1 b' s0 s1 s2 e W':=by
 have l:∀{k o},k<h+6->k≠h+1+1->W.heap[k]?=some o->W'.heap[k]?=some o:=λ{k o} h1 h2 hk'=>(hk.block k (by omega) (λhm=>by have:=hx k hm;omega)).trans hk'
 exact⟨l (by omega) (by omega) q.r0,l (by omega) (by omega) q.r1,hb,l (by omega) (by omega) q.r3,l (by omega) (by omega) q.r4,l (by omega) (by omega) q.r5⟩
theorem leaveD {h D:Nat} {W:World} {v1 x0 x1 v3:Value} {R:Ending->World->Prop} {tmps:Array Value}
  (e1:tmps.getD 10 undef= .pointer (some ⟨h+1+1+1,0,none⟩)) (e2:tmps.getD 11 undef= .pointer (some ⟨h+1+1+1+1,0,none⟩)) (e3:tmps.getD 12 undef= .pointer (some ⟨h+1+1+1+1+1,0,none⟩))
  (s1:W.heap[h+1+1+1]?=some (.cells [v1].toArray 45 (0,0))) (s2:W.heap[h+1+1+1+1]?=some (.cells [x0,x1].toArray 47 (0,0))) (s3:W.heap[h+1+1+1+1+1]?=some (.cells [v3].toArray 31 (0,0)))
  (hD:h+6<=D) (hK:W.heap[D]?=some (.deferred (some []))) (hR:R (.returned (.tuple #[v1,.agg #[x0,x1],v3])) (W.putObj D (.deferred none))):
  bodyPostM Fence.wide 3 Try.prog Try.f21 R .ret {tmps:=tmps,defers:=[{target:=.collected D,args:= #[]}]} W:=
 ⟨by simp,.inl ⟨_,_,rfl,run_takeDeferred hK,⟨_,tail3 (W:=W.putObj D (.deferred none)) rfl false true false e1 e2 e3 ((World.putObj_heap_other (by omega)).trans s1) ((World.putObj_heap_other (by omega)).trans s2) ((World.putObj_heap_other (by omega)).trans s3) (by kernel_rfl) (by kernel_rfl) (by kernel_rfl),hR⟩⟩⟩
theorem row_set {W:World} {base e size k:Nat} {v:Value} {xs:List Value} (h:W.ownsRow base e size v k xs) {b1 b2 b3:Nat} (h1:b1<base) (h2:b2<base) (h3:b3<base) (v1 x0 x1 v3:Value):
  ((((W.setCell ⟨b1,0,none⟩ v1).setCell ⟨b2,0,none⟩ x0).setCell ⟨b2,1,none⟩ x1).setCell ⟨b3,0,none⟩ v3).ownsRow base e size v k xs:=
 ownsRow_setCell_below (ownsRow_setCell_below (ownsRow_setCell_below (ownsRow_setCell_below h (a:=⟨b1,0,none⟩) h1 _) (a:=⟨b2,0,none⟩) h2 _) (a:=⟨b2,1,none⟩) h2 _) (a:=⟨b3,0,none⟩) h3 _
theorem keeps_set (W:World) (B b1 b2 b3:Nat) (v1 x0 x1 v3:Value):KeepsFrom B W ((((W.setCell ⟨b1,0,none⟩ v1).setCell ⟨b2,0,none⟩ x0).setCell ⟨b2,1,none⟩ x1).setCell ⟨b3,0,none⟩ v3):=
 ((((KeepsOthers.setCell W ⟨b1,0,none⟩ v1).trans (KeepsOthers.setCell _ ⟨b2,0,none⟩ x0)).trans (KeepsOthers.setCell _ ⟨b2,1,none⟩ x1)).trans (KeepsOthers.setCell _ ⟨b3,0,none⟩ v3)).from B
theorem below_put {B D:Nat} {w W:World} (h:Below B w W) (hD:B<=D) {o o':Obj} (hl:W.heap[D]?=some o) (hB:B<=W.heap.size):Below B w (W.putObj D o'):=
 h.grown (grownBy_putObj' W D o') hB (λk e=>by cases e;exact hD)
theorem Hid.mk3 {p q:Prop} (h:p) (k:q):Hid (p/\q):=⟨h,k⟩
set_option maxRecDepth 100000 in
set_option maxHeartbeats 4000000 in
theorem list_in (V:Mem) (rs:List Ru) (ga:Option Addr) (gl gc:Nat) (a:List UInt8) (n:Int) (c:X_api_Cursor) (b:Int) (hg:GrR V rs ga gl gc) (w:World) (hon:On V w) (R:Ending->World->Prop)
  (hR1:listE rs a n c b≠0->∀W,Below w.heap.size w W->R (.returned (.tuple #[.slice none 0 0,(X_api_Cursor.mk [] false).val,.int .i64 (listE rs a n c b)])) W)
  (hR2:listE rs a n c b=0->∀W v,Below w.heap.size w W->W.ownsRow w.heap.size 9 1 v (listO rs a n c b).1.length (strV (listO rs a n c b).1)->R (.returned (.tuple #[v,(listO rs a n c b).2.val,.int .i64 0])) W):
  CallsIn Fence.wide 3 Try.prog 21 #[.agg #[.slice ga gl gc],.string (mkS a),.int .i64 n,c.val,.int .i64 b] w R:=by
 refine callsIn_of_wp_marks Try.func21 rfl trivial ?_ rfl
 obtain⟨ct,co⟩:=c
 obtain⟨W0,hW0,q0,q1,q2,q3,q4,q5,hB0,hz0⟩:=six w (.cells #[.slice ga gl gc] 38) (.cells #[.string (mkS ct),.bool co] 47) (.cells #[.int .i64 b] 3) (.cells #[.slice none 0 0] 45) (.cells #[.string (mkS []),.bool false] 47) (.cells #[.int .i64 0] 31)
 have hl:=s_list_Look ga gl gc a n V _ (llook_is hg a n (λv=>v= .int .i64 (listP rs a n)) rfl) W0 (On.keep (λb o h=>hon.lt h) hon hB0)
 simp only[Try.ntmps21,X_api_Cursor.val,X_api_Cursor.cells,List.size_toArray,List.length_cons,List.length_nil,Nat.reduceAdd,Nat.reduceSub,Array.replicate_succ,Array.replicate_zero,List.push_toArray,List.append_toArray,List.nil_append,List.cons_append]
 gi_wp2
 rw[show(((((((w.alloc (.cells #[.slice ga gl gc] 38)).alloc (.cells #[.string (mkS ct),.bool co] 47)).alloc (.cells #[.int .i64 b] 3)).alloc (.cells #[.slice none 0 0] 45)).alloc (.cells #[.string {data:= #[]},.bool false] 47)).alloc (.cells #[.int .i64 0] 31)))=W0 from hW0]
 refine⟨trivial,(callsIn_wide.2 hl).mono ?_⟩
 rintro e W ⟨v,rfl,hbW,rfl⟩
 have q:Six w.heap.size (.slice ga gl gc) (.string (mkS ct)) (.bool co) (.int .i64 b) (.slice none 0 0) (.string (mkS [])) (.bool false) (.int .i64 0) W:=Six.on ⟨q0,q1,q2,q3,q4,q5⟩ hbW
 have hBW:Below w.heap.size w W:=hB0.trans (hbW.mono (by omega))
 have hzW:w.heap.size+6<=W.heap.size:=by have:=hbW.size;omega
 clear q0 q1 q2 q3 q4 q5 hW0 hl
 have hR1':∀e,listE rs a n ⟨ct,co⟩ b=e->e≠0->∀W,Below w.heap.size w W->R (.returned (.tuple #[.slice none 0 0,.agg #[.string (mkS []),.bool false],.int .i64 e])) W:=λe h1 h2=>by subst h1;exact hR1 h2
 clear hR1
 obtain⟨c0,c1,c1',c2,c3,c4,c4',c5,f3,f4,f4',f5⟩:=q.cells
 by_cases he:listP rs a n=0
 ·by_cases hb0:b<0
  ·replace hR1':=hR1' 1 (by unfold listE;rw[if_neg (λh=>h he),if_pos (.inl hb0)]) (by decide)
   clear hR2
   gi_wp2
   refine⟨trivial,?_⟩
   gi_wp2
   refine q.fin (.slice none 0 0) (.string (mkS [])) (.bool false) _ ?_ ?_ ?_ (λW2 h=>hR1' W2 (hBW.trans h))<;>rfl
  by_cases hb1:b>1048576
  ·replace hR1':=hR1' 1 (by unfold listE;rw[if_neg (λh=>h he),if_pos (.inr (.inl hb1))]) (by decide)
   clear hR2
   gi_wp2
   refine⟨trivial,?_⟩
   gi_wp2
   refine q.fin (.slice none 0 0) (.string (mkS [])) (.bool false) _ ?_ ?_ ?_ (λW2 h=>hR1' W2 (hBW.trans h))<;>rfl
  have hov:=s_walk_Over a ct V _ (wover_is (λv=>v= .int .i64 (overP a ct)) rfl) W (On.keep (λb o h=>hon.lt h) hon hBW)
  have HD:=Hid.mk3 hR1' hR2
  clear hR1' hR2
  gi_wp2
  refine⟨trivial,(callsIn_wide.2 hov).mono ?_⟩
  rintro e Wo ⟨v,rfl,hbo,rfl⟩
  replace q:=q.on hbo
  replace hBW:=hBW.trans (hbo.mono (by omega))
  replace hzW:w.heap.size+6<=Wo.heap.size:=by have:=hbo.size;omega
  clear c0 c1 c1' c2 c3 c4 c4' c5 f3 f4 f4' f5 hov hbo hbW hB0 hz0
  clear W W0
  obtain⟨c0,c1,c1',c2,c3,c4,c4',c5,f3,f4,f4',f5⟩:=q.cells
  by_cases ho:overP a ct=0
  ·have hsz:((mkS ct).size:Int)=ct.length:=rfl
   by_cases hn:(ct.length:Int)>n
   ·gi_wp2
    exact q.fin _ _ _ _ (by rfl) (by rfl) (by rfl) λW2 h=>HD.out.1 1 (by unfold listE;rw[if_neg (λh=>h he),if_pos (.inr (.inr (.inr (.inl hn))))]) (by decide) W2 (hBW.trans h)
   ·cases co with
    |true=>
     by_cases ht:ct=[]
     ·subst ht
      have hne:(mkS []).toList.isEmpty=true:=by rw[mkS_toList];rfl
      gi_wp2
      gi_region
      gi_wp2
      exact q.finD _ _ _ _ (by rfl) (by rfl) (by rfl) λW2 h=>HD.out.2 (listE_ok he hb0 hb1 ho hn (λh=>h.2 rfl)) W2 _ (hBW.trans h) (World.ownsRow_nil _ _ _ _)
     ·have hne:(mkS ct).toList.isEmpty=false:=by rw[mkS_toList];cases ct<;>first|rfl|exact absurd rfl ht
      gi_wp2
      exact q.fin _ _ _ _ (by rfl) (by rfl) (by rfl) λW2 h=>HD.out.1 1 (by unfold listE;rw[if_neg (λh=>h he),if_pos (.inr (.inr (.inr (.inr ⟨rfl,ht⟩))))]) (by decide) W2 (hBW.trans h)
    |false=>
     have q':=q.on ((Below.refl _ Wo).alloc (Nat.le_refl _) (.cells #[.slice none 0 0] 45))
     obtain⟨d0,d1,d1',d2,d3,d4,d4',d5,g3,g4,g4',g5⟩:=q'.cells
     have htx:=texts_mk 2 a ct n (Wo.alloc (.cells #[.slice none 0 0] 45))
     gi_wp2
     refine⟨trivial,htx.mono ?_⟩
     rintro e w' ⟨rfl,rfl⟩
     clear htx d0 d1 d1' d2 d3 d4 d4' d5 g3 g4 g4' g5 c0 c1 c1' c2 c3 c4 c4' c5 f3 f4 f4' f5 q'
     obtain⟨Wt,hWt,p0,p1,p2,p3,hbt,hzt⟩:=four Wo (.cells #[.slice none 0 0] 45) (.cells #[.string (mkS a)] 9) (.cells #[.string (mkS ct)] 9) (.cells #[.int .i64 n] 3)
     gi_wp2
     replace q:=q.on hbt
     replace hBW:=hBW.trans (hbt.mono (by omega))
     clear hWt hbt
     obtain⟨hwell,hal,hn0,hn6,hg5⟩:=listP_ok he
     obtain⟨h1,h8,hasc,h6,hin⟩:=over_ok ho
     obtain⟨k,rfl⟩:∃k:Nat,n=k:=⟨n.toNat,by omega⟩
     have hck:ct.length<=k:=by omega
     obtain⟨T,hTv⟩:=six_ex (listT a k ⟨ct,false⟩) (λx hx=>by have:=(words_mem hasc (List.mem_of_mem_drop hx)).1;simp at this;omega)
     have hTl:T.length=geo a.length (k+1)-rankN a ct:=by
      have:=congrArg List.length hTv
      simpa[listT,words_len]using this
     have hT:∀(i:Nat) (s:W6),(∀c∈s.1,c∈a)->s.1.length<=k->rankN a s.1=rankN a ct+i->T[i]?=some s:=λi s hs1 hs2 hs3=>by
      have h1:=words_at k s.1 hs2 hs1
      rw[hs3,<-List.getElem?_drop]at h1
      have h2:=congrArg (·[i]?) hTv
      simp only[listT,Int.toNat_natCast,List.getElem?_map]at h2
      rw[h1]at h2
      cases h3:T[i]? with
      |none=>rw[h3]at h2;cases h2
      |some t=>rw[h3]at h2;simp only[Option.map_some,Option.some.injEq]at h2;exact congrArg some (Subtype.ext h2)
     refine wpIn_rangeFunc_ownG_of_H rfl (by omega) (gf:=80) (lb:= #[.pointer (some ⟨Wo.heap.size+1+1,0,none⟩),.pointer (some ⟨Wo.heap.size+1+1+1,0,none⟩),.pointer (some ⟨Wo.heap.size+1,0,none⟩)]) rfl trivial (enters_of Try.func80 (by kernel_rfl) rfl)
      (texts_stops 2 Wt.heap.size [w.heap.size+1+1,Wo.heap.size] a ⟨ct,h6⟩ k T h1 hal (by omega) hin hck hTl hT (Wo.heap.size+1) (Wo.heap.size+1+1) (Wo.heap.size+1+1+1) Wt (Nat.le_refl _) p1 p2 p3 ⟨by omega,by simp;omega⟩ ⟨by omega,by simp;omega⟩)
      (λh k=>h.trans k) (λW' l o o' h1 h2 h3 h4=>KX.grown (grownBy_putObj' W' l o') (by have:=(Array.getElem?_eq_some_iff.1 h2).1;omega) (λk e hk=>by cases e;omega)) (Below.refl _ _) (λ_=>rfl)
      (λpre W'=>(∃v,Boxed W' Wo.heap.size 45 v/\W'.ownsRow Wt.heap.size 9 1 v (accL rs pre).length ((accL rs pre).map sv6)/\True)/\(Boxed W' (w.heap.size+1+1) 3 (.int .i64 (b-pre.length))/\(pre.length:Int)<=b)/\KX Wt.heap.size [w.heap.size+1+1,Wo.heap.size] Wt W')
      (λc pre W'=>c= .ret/\∃pre0 x v,pre=pre0++[x]/\(pre0.length:Int)=b/\W'.ownsRow Wt.heap.size 9 1 v (accL rs pre0).length ((accL rs pre0).map sv6)/\
       W'.heap[w.heap.size+1+1+1]?=some (.cells [v].toArray 45 (0,0))/\W'.heap[w.heap.size+1+1+1+1]?=some (.cells [sv6 x,.bool false].toArray 47 (0,0))/\W'.heap[w.heap.size+1+1+1+1+1]?=some (.cells [.int .i64 0].toArray 31 (0,0))/\Below w.heap.size w W')
      ?ownI ?ownIx ?start ?act ?assign ?body ?done ?stop (λW=>KX.refl _ _ W)
     case assign=>
      intro l x W' K hK
      gi_wp2
      exact hK
     case ownI=>
      refine OwnFrom.and (Own.from (holdsRow_own Wt.heap.size Wo.heap.size 45 9 1 (λpre=>(accL rs pre).length) (λpre=>(accL rs pre).map sv6) (λ_ _=>True)) _) (OwnFrom.and (λs A B row hs hg hr=>⟨hs.1.kept hg (λe=>by have:=(hr _ e.symm).1;omega),hs.2⟩) (λs A B row hs hg hr=>hs.trans (KX.grown hg hs.size (λk e hk=>by have:=(hr _ e).1;omega))))
     case ownIx=>
      rintro c s A B row ⟨rfl,pre0,x,v,e1,e2,hr0,s1,s2,s3,hb⟩ hg hr
      have l:∀{k o},k<Wt.heap.size->A.heap[k]?=some o->B.heap[k]?=some o:=λ{k o} h1 hk'=>(hg.block k (Array.getElem?_eq_some_iff.1 hk').1 (λe=>by have:=(hr _ e.symm).1;omega)).trans hk'
      exact⟨rfl,pre0,x,v,e1,e2,row_grown hr0 hg (λr e=>(hr r e).2),l (by omega) s1,l (by omega) s2,l (by omega) s3,hb.grown hg hb.size (λk e=>by have:=(hr k e).1;omega)⟩
     case start=>exact⟨⟨_,p0,World.ownsRow_nil _ _ _ _,trivial⟩,⟨by have:=q.r2;simpa[Boxed]using this,by simpa using hb0⟩,KX.refl _ _ _⟩
     case body=>
      rintro l pre x W' ⟨⟨v,hv,hrow,_⟩,⟨hbud,hle⟩,hkx⟩ hlt
      obtain⟨oa,oc,rfl⟩:=row_slice hrow
      have q':=q.kx hkx (by omega) (by intro k hk;simp at hk;omega) hbud
      obtain⟨c0,c1,c1',c2,c3,c4,c4',c5,f3,f4,f4',f5⟩:=q'.cells
      have hcO:=hv.cell
      have hfB:=hbud.frozen
      by_cases hz:b-pre.length=0
      ·gi_wp2
       obtain⟨W2,hW2,s1,s2,s3,hB2⟩:=stored3 q'.r3 q'.r4 q'.r5 (by omega) (by omega) (by omega) (.slice oa (accL rs pre).length oc) (sv6 x) (.bool false) (.int .i64 0)
       have hk2:=keeps_set W' Wt.heap.size (w.heap.size+1+1+1) (w.heap.size+1+1+1+1) (w.heap.size+1+1+1+1+1) (.slice oa (accL rs pre).length oc) (sv6 x) (.bool false) (.int .i64 0)
       have hr2:=row_set hrow (b1:=w.heap.size+1+1+1) (b2:=w.heap.size+1+1+1+1) (b3:=w.heap.size+1+1+1+1+1) (by omega) (by omega) (by omega) (.slice oa (accL rs pre).length oc) (sv6 x) (.bool false) (.int .i64 0)
       rw[hW2]at hk2 hr2
       have hB3:Below w.heap.size w W2:=(hBW.trans (hkx.below (by omega) (by intro k hk;simp at hk;omega))).trans (hB2 _ (by omega) (by omega) (by omega))
       refine⟨?_,rfl,pre,x,.slice oa (accL rs pre).length oc,rfl,by omega,?_,?_,?_,?_,?_⟩
       ·exact hW2▸hk2
       ·exact hW2▸hr2
       ·exact hW2▸s1
       ·exact hW2▸s2
       ·exact hW2▸s3
       ·exact hW2▸hB3
      ·have hlk:lookP rs x.1=0:=by
        unfold lookP
        rw[if_neg (λh=>h (look_ok' he)),if_neg (by have:=x.2;omega)]
       have hw1:wrap64 (b-pre.length-1)=b-pre.length-1:=by unfold wrap64;omega
       have hcB:=hbud.cell
       have hbud1:=hbud.set (.int .i64 (b-pre.length-1))
       have hv1:=hv.other (B':=w.heap.size+1+1) (by omega) (.int .i64 (b-pre.length-1))
       have hrow1:=ownsRow_setCell_below hrow (a:=⟨w.heap.size+1+1,0,none⟩) (by show w.heap.size+1+1<_;omega) (.int .i64 (b-pre.length-1))
       have hkx1:KX Wt.heap.size [w.heap.size+1+1,Wo.heap.size] W' (W'.setCell ⟨w.heap.size+1+1,0,none⟩ (.int .i64 (b-pre.length-1))):=KX.set hkx.size (by simp) _
       have hko1:KeepsOthers W' (W'.setCell ⟨w.heap.size+1+1,0,none⟩ (.int .i64 (b-pre.length-1))):=KeepsOthers.setCell _ _ _
       obtain⟨W1,hW1⟩:∃W1,W'.setCell ⟨w.heap.size+1+1,0,none⟩ (.int .i64 (b-pre.length-1))=W1:=⟨_,rfl⟩
       rw[hW1]at hbud1 hv1 hrow1 hkx1 hko1
       have cG:W1.cell? ⟨w.heap.size,0,none⟩=some (.slice ga gl gc):=by
        have:=(q.kx (hkx.trans hkx1) (by omega) (by intro k hk;simp at hk;omega) hbud1).r0
        simp[World.cell?,this]
       have hB1:Below w.heap.size w W1:=hBW.trans ((hkx.trans hkx1).below (by omega) (by intro k hk;simp at hk;omega))
       have hac:=s_list_Accepts ga gl gc x.1 V _ (laccepts_is hg (λh=>absurd hlk h) (λ_=>rfl:lookP rs x.1=0->(λv=>v=Value.tuple #[.bool (accP rs x.1),.int .i64 0]) (.tuple #[.bool (accP rs x.1),.int .i64 0]))) W1 (On.keep (λb o h=>hon.lt h) hon hB1)
       clear hcO
       have hln:((pre++[x]).length:Int)=pre.length+1:=by simp
       have hT5:T.length<=5000:=by rw[Int.toNat_natCast]at hg5;omega
       gi_wp2
       refine⟨trivial,(show CallsIn (Fence.wide.inRound l) 0 _ _ _ _ _ from callsIn_wide.2 hac).mono ?_⟩
       rintro e W2 ⟨v,rfl,hbel,rfl⟩
       have hz2:Wt.heap.size<=W1.heap.size:=Nat.le_trans hkx.size hkx1.size
       have hz3:Wt.heap.size<=W2.heap.size:=Nat.le_trans hz2 hbel.size
       have hv2:=Boxed.below hv1 hbel
       have hrow2:=row_below hrow1 hbel
       have hbud2:=Boxed.below hbud1 hbel
       have hkx2:KX Wt.heap.size [w.heap.size+1+1,Wo.heap.size] W' W2:=hkx1.trans (KX.grown (grown_of hbel) hz2 (λk e=>by cases e))
       have hko2:KeepsOthers W' W2:=hko1.trans (KeepsOthers.of_grownBy (grown_of hbel) (λj o e _=>by cases e))
       have hcO:=hv2.cell
       clear hac hW1 hv1 hrow1 hbud1 hkx1 hko1 cG hB1 hcB hbel c0 c1 c1' c2 c3 c4 c4' c5 f3 f4 f4' f5 hfB
       have hbe:b-(pre.length:Int)-1=b-((pre++[x]).length:Int):=by omega
       have hlb:((pre++[x]).length:Int)<=b:=by omega
       by_cases hacc:accP rs x.1=true
       ·have he1:accL rs (pre++[x])=accL rs pre++[x]:=by rw[accL_snoc,if_pos hacc]
        have hll:=accL_len rs pre
        obtain⟨i0,hi,hz0,hz1,hz2'⟩:=info_parts (show(Try.prog.info? 9).map (λi=>(i.zero,i.size,i.bytes))=some (some (.string (mkS [])),1,16) by kernel_rfl)
        have HD3:=Hid.mk3 he1 hbe
        have hlb2:(accL rs pre).length+1<=5000:=by omega
        clear he1 hbe hll
        gi_wp2_with (gi_at_builtin;refine wpListIn_append_own _ rfl _ _ 45 rfl Wt.heap.size 9 i0 (.string (mkS [])) 1 16 (by kernel_rfl) hi hz0 hz1 hz2' rfl (by decide) _ _ _ rfl (hrow2.alloc _) ⟨W2.heap.size,0,none⟩ 1 1 [.string (mkS x.1)] rfl rfl (cell_one_new _ _ _) (by simp[Value.oneCell']) (by unfold maxLen;omega) (by omega) (by simp;omega) ?_;intro v' w2 hown' hgrow _;obtain⟨g',cap',rfl⟩:=ownsRow_succ hown';obtain⟨hv3,hv4,hr4,hk4,hx4⟩:=Boxed.appX (ex:=[w.heap.size+1+1,Wo.heap.size]) hv2 (by decide) hrow2 hz3 (by simp) hown' hgrow;have hc2:=hv3.cell;have hf2:=hv3.frozen)
        have hbud4:Boxed (w2.setCell ⟨Wo.heap.size,0,none⟩ (.slice (some ⟨g',0,none⟩) ((accL rs pre).length+1) cap')) (w.heap.size+1+1) 3 (.int .i64 (b-pre.length-1)):=
         Boxed.other ((hbud2.alloc (.cells #[.string (mkS x.1)] 9)).kept hgrow (Boxed.not_row (hbud2.alloc (.cells #[.string (mkS x.1)] 9)) (by decide) (hrow2.alloc (.cells #[.string (mkS x.1)] 9)))) (by omega) _
        refine⟨(hko2.trans hk4).from _,hkx2.trans hx4,⟨_,hv4,by rw[HD3.out.1];simpa[sv6]using hr4,trivial⟩,⟨by rw[<-HD3.out.2];exact hbud4,hlb⟩,hkx.trans (hkx2.trans hx4)⟩
       ·have he1:accL rs (pre++[x])=accL rs pre:=by rw[accL_snoc,if_neg hacc]
        have HD3:=Hid.mk3 he1 hbe
        clear he1 hbe
        gi_wp2
        refine⟨hko2.from _,hkx2,⟨_,hv2,by rw[HD3.out.1];exact hrow2,trivial⟩,⟨by rw[<-HD3.out.2];exact hbud2,hlb⟩,hkx.trans hkx2⟩
     case done=>
      rintro D xs W' hD rfl ⟨⟨v,hv,hrow,_⟩,⟨hbud,hle⟩,hkx⟩ hK
      obtain⟨oa,oc,rfl⟩:=row_slice hrow
      have q':=q.kx hkx (by omega) (by intro k hk;simp at hk;omega) hbud
      obtain⟨c0,c1,c1',c2,c3,c4,c4',c5,f3,f4,f4',f5⟩:=q'.cells
      have hcO:=hv.cell
      have hO:=listO_done (rs:=rs) (c:=⟨ct,false⟩) hTv rfl hle
      have hE:=listE_ok (c:=⟨ct,false⟩) he hb0 hb1 ho hn (λh=>by cases h.1)
      have HD2:=Hid.mk3 hO hE
      clear hO hE
      gi_wp2
      obtain⟨W2,hW2,s1,s2,s3,hB2⟩:=stored3 q'.r3 q'.r4 q'.r5 (by omega) (by omega) (by omega) (.slice oa (accL rs xs).length oc) (.string (mkS [])) (.bool true) (.int .i64 0)
      have hr2:=row_set hrow (b1:=w.heap.size+1+1+1) (b2:=w.heap.size+1+1+1+1) (b3:=w.heap.size+1+1+1+1+1) (by omega) (by omega) (by omega) (.slice oa (accL rs xs).length oc) (.string (mkS [])) (.bool true) (.int .i64 0)
      rw[hW2]at hr2
      have hB3:Below w.heap.size w W2:=(hBW.trans (hkx.below (by omega) (by intro k hk;simp at hk;omega))).trans (hB2 _ (by omega) (by omega) (by omega))
      have hK2:W2.heap[D]?=some (.deferred (some [])):=by rw[<-hW2,set2 (by omega),set2 (by omega),set2 (by omega),set2 (by omega)];exact hK
      rw[show((((W'.setCell ⟨w.heap.size+1+1+1,0,none⟩ (.slice oa (accL rs xs).length oc)).setCell ⟨w.heap.size+1+1+1+1,0,none⟩ (.string {data:= #[]})).setCell ⟨w.heap.size+1+1+1+1,1,none⟩ (.bool true)).setCell ⟨w.heap.size+1+1+1+1+1,0,none⟩ (.int .i64 0))=W2 from hW2]
      refine leaveD (h:=w.heap.size) ?_ ?_ ?_ s1 s2 s3 (by omega) hK2 ?_
      ·rfl
      ·rfl
      ·rfl
      have hfin:=HD.out.2 HD2.out.2 (W2.putObj D (.deferred none)) (.slice oa (accL rs xs).length oc) (below_put hB3 (by omega) hK2 hB3.size)
      rw[HD2.out.1]at hfin
      refine hfin ?_
      rw[strV_6,List.length_map]
      exact row_base (ownsRow_putObj hr2 _ hK2 rfl) (by omega)
     case stop=>
      rintro D c pre W' hD ⟨hp1,hp2⟩ ⟨rfl,pre0,x,v,rfl,e2,hr0,s1,s2,s3,hb⟩ hK
      have hO:=listO_stop (rs:=rs) (c:=⟨ct,false⟩) hTv rfl hp1 hp2 e2
      have hE:=listE_ok (c:=⟨ct,false⟩) he hb0 hb1 ho hn (λh=>by cases h.1)
      have HD2:=Hid.mk3 hO hE
      clear hO hE hp1 hp2 e2
      gi_wp2
      refine leaveD (h:=w.heap.size) ?_ ?_ ?_ s1 s2 s3 (by omega) hK ?_
      ·rfl
      ·rfl
      ·rfl
      have hfin:=HD.out.2 HD2.out.2 (W'.putObj D (.deferred none)) v (below_put hb (by omega) hK hb.size)
      rw[HD2.out.1]at hfin
      refine hfin ?_
      rw[strV_6,List.length_map]
      exact row_base (ownsRow_putObj hr0 _ hK rfl) (by omega)
  ·gi_wp2
   exact q.fin _ _ _ _ (by rfl) (by rfl) (by rfl) λW2 h=>HD.out.1 1 (by unfold listE;rw[if_neg (λh=>h he),if_pos (.inr (.inr (.inl ho)))]) (by decide) W2 (hBW.trans h)
 ·replace hR1':=hR1' (listP rs a n) (by unfold listE;rw[if_pos he]) he
  clear hR2
  gi_wp2
  refine q.fin (.slice none 0 0) (.string (mkS [])) (.bool false) _ ?_ ?_ ?_ (λW2 h=>hR1' W2 (hBW.trans h))<;>rfl
end Go.Proofs.Ytmnilbfhfjdelaa.core

namespace Go.Proofs.Ytmnilbfhfjdelaa.core
open Go.Gx Go.RowKit Go.ChangeShapes Go.WideShapes Go.ChangeAt
set_option linter.unusedVariables false
theorem strs_equal {A B:Option Addr} {n m c d:Nat} {zs ws:List (List UInt8)} {M:Mem} (h:SlV M A n c 1 (strV zs)) (k:SlV M B m d 1 (strV ws)) (K:Value->Prop) (hK:∀b:Bool,(b=true↔zs=ws)->K (.bool b)):S_slices_Equal_string A n c B m d M K:=by
 have hn:=SlV1.len h
 have hm:=SlV1.len k
 have hmx:n<=maxLen:=Nat.le_trans h.2.1 h.2.2.1
 unfold maxLen at hmx
 unfold S_slices_Equal_string
 refine⟨λhne=>hK false ⟨λe=>(by cases e),λe=>by rw[e]at hn;omega⟩,λheq=>⟨λi=>0<=i/\i<=n/\∀j:Nat,(j:Int)<i->zs[j]?=ws[j]?,λi=>n-i.toNat,⟨by omega,by omega,λj hj=>by omega⟩,λi ⟨h0,h1,h2⟩=>⟨λhlt=>?_,λhge=>?_⟩⟩⟩
 ·obtain⟨x,hx⟩:=getI (l:=zs) h0 (by omega)
  obtain⟨y,hy⟩:=getI (l:=ws) h0 (by omega)
  obtain⟨b,o,ha,hat⟩:=SlV1 h hn hx
  obtain⟨b',o',ha',hat'⟩:=SlV1 k hm hy
  refine⟨b,o,ha,h0,hlt,x,hat,b',o',ha',h0,by omega,y,hat',λhne=>hK false ⟨λe=>(by cases e),λe=>?_⟩,λhe=>⟨by unfold InI;omega,⟨by omega,by omega,λj hj=>?_⟩,by dsimp only;omega⟩⟩
  ·rw[e,hy]at hx;exact absurd (by injection hx with hx;exact hx.symm) hne
  ·by_cases e:(j:Int)=i
   ·have:i.toNat=j:=by omega
    rw[<-this,hx,hy]
    rw[Classical.not_not.1 he]
   ·exact h2 j (by omega)
 ·refine hK true ⟨λ_=>List.ext_getElem? λj=>?_,λ_=>rfl⟩
  by_cases hj:(j:Int)<i
  ·exact h2 j hj
  ·rw[List.getElem?_eq_none (by omega),List.getElem?_eq_none (by omega)]
theorem strV_len (l:List (List UInt8)):(strV l).length=l.length:=by unfold strV;rw[List.length_map]
section
variable {rs:List Ru} {ga:Option Addr} {gl gc:Nat} {M:Mem}
theorem llist_is (hg:GrR M rs ga gl gc) (a:List UInt8) (n:Int) (c:X_api_Cursor) (b:Int) (K:Value->Mem->Prop)
  (h1:listE rs a n c b≠0->∀M',M.le M'->K (.tuple #[.slice none 0 0,(X_api_Cursor.mk [] false).val,.int .i64 (listE rs a n c b)]) M')
  (h2:listE rs a n c b=0->∀(M':Mem) (A:Option Addr) (cap:Nat),M.le M'->SlV M' A (listO rs a n c b).1.length cap 1 (strV (listO rs a n c b).1)->K (.tuple #[.slice A (listO rs a n c b).1.length cap,(listO rs a n c b).2.val,.int .i64 0]) M'):
  CallE Try.prog 21 #[.agg #[.slice ga gl gc],.string (mkS a),.int .i64 n,c.val,.int .i64 b] M K:=by
 intro w hon
 refine callsIn_wide.1 (list_in M rs ga gl gc a n c b hg w hon _ (λh W hb=>⟨_,rfl,hb,h1 h _ (grow_le hon)⟩) (λh W v hb hrow=>?_))
 generalize hO:listO rs a n c b=O at*
 obtain⟨hl,⟨rfl,h0⟩|⟨g,cap,cur,rfl,hg,hgb,hle,hmax,hsz,htk⟩⟩:=hrow
 ·refine⟨_,rfl,hb,?_⟩
  have:=h2 h (grow M w W) none 0 (grow_le hon) (by rw[h0];refine⟨by simp[strV_len,h0],Nat.le_refl _,by unfold maxLen;omega,λh=>by omega⟩)
  rw[h0]at this;exact this
 ·refine⟨_,rfl,hb,h2 h (grow M w W) (some ⟨g,0,none⟩) cap (grow_le hon) ⟨by simp[strV_len],hle,hmax,λ_=>⟨g,0,rfl,?_⟩⟩⟩
  intro j v hj
  have hc:(grow M w W) g=some (.cells cur 9 (0,0)):=by unfold grow;rw[if_pos hg];exact hgb
  have hj2:(cur.toList.take (O.1.length*1))[j]?=some v:=by rw[htk];exact hj
  rw[List.getElem?_take]at hj2
  split at hj2
  ·unfold Mem.cell;rw[hc];simp only[Nat.zero_add];simpa using hj2
  ·cases hj2
end
end Go.Proofs.Ytmnilbfhfjdelaa.core

namespace Go.Proofs.Ytmnilbfhfjdelaa.core
open Go.Gx Go.RowKit Go.ChangeShapes Go.WideShapes Go.ChangeAt
set_option linter.unusedVariables false
def ru0:Ru:=⟨[97],.mk 3 ⟨0,0,0,0⟩ [120] []⟩
theorem well0:wellP [ru0]=(0,0):=by rfl
theorem acc0:accP [ru0] [120]=true:=by
 have hw:=well_ok (rs:=[ru0]) (by rw[well0])
 obtain⟨E,hT⟩:=tab_ex (s:=[120]) hw
 rw[acc_eq hw hT,hT.fix 0 0 ru0 (by simp) rfl]
 rfl
theorem x_gr {M:Mem} {A:Option Addr} {c:Nat} (h:SlV M A 1 c 8 (X_api_Rule.mk [97] (X_api_Expr.mk 3 (X_api_Set.mk 0 0 0 0) [120] none 0 0)).cells):GrR M [ru0] A 1 c:=by
 refine⟨[X_api_Rule.mk [97] (X_api_Expr.mk 3 (X_api_Set.mk 0 0 0 0) [120] none 0 0)],by simpa[cl]using h,All2.of rfl λi r x hr hx=>?_,rfl⟩
 cases i with
 |zero=>
  cases hr;cases hx
  exact⟨rfl,by unfold maxLen ru0;simp,.mk (xs:=[]) (by decide) ⟨by decide,by decide,by decide,by decide⟩ (by unfold maxLen;simp) ⟨rfl,Nat.le_refl _,by unfold maxLen;simp,λh=>by simp at h⟩ rfl (λi e x h=>by simp at h)⟩
 |succ i=>simp at hr
section
variable {M:Mem}
theorem begun_is (K:Value->Prop) (hK:K (.bool true)):S_chafftop_begun M K:=by
 unfold S_chafftop_begun
 refine s_chafftop_x _ _ λM5 A c hle hsl M' hle2=>⟨_,_,_,rfl,s_list_Accepts _ _ _ _ _ _ (laccepts_is ((x_gr hsl).le hle2) (λh=>absurd (by unfold lookP;rw[well0];rfl) h) λ_=>⟨_,_,rfl,λ_=>hK,λh=>absurd acc0 h⟩)⟩
theorem within_is (k n:Int) (h0:1<=n) (h1:n<=1000000) (K:Value->Prop) (hK:∀z:Int,0<=z->z<n->K (.int .i64 z)):S_chaffkeep_Within k n M K:=by
 unfold S_chaffkeep_Within
 have e:IntKind.wrap .u64 n=n:=by simp[IntKind.wrap,IntKind.signed,IntKind.bits];omega
 have hk:0<=IntKind.wrap .u64 k:=by simp[IntKind.wrap,IntKind.signed,IntKind.bits];omega
 rw[e]
 have hm0:0<=(IntKind.wrap .u64 k).tmod n:=Int.tmod_nonneg _ hk
 have hm1:(IntKind.wrap .u64 k).tmod n<n:=Int.tmod_lt_of_pos _ (by omega)
 generalize (IntKind.wrap .u64 k).tmod n=m at*
 have e2:IntKind.wrap .i64 m=m:=by simp[IntKind.wrap,IntKind.signed,IntKind.bits];omega
 rw[e2]
 exact⟨by omega,hK m hm0 hm1⟩
theorem small_is (a:List UInt8) (n:Int) (hl:a.length<=maxLen) (K:Value->Prop) (hK:∀(a':List UInt8) (n':Int),K (.tuple #[.string (mkS a'),.int .i64 n'])):S_chafftop_small a n M K:=by
 unfold S_chafftop_small
 refine⟨Int.le_refl _,by split<;>omega,by split<;>omega,s_chaffkeep_Within _ _ _ _ (within_is _ _ (by omega) (by omega) _ λz _ _=>⟨_,rfl,hK _ _⟩)⟩
variable {rs:List Ru} {ga:Option Addr} {gl gc:Nat}
theorem tright_is (hg:GrR M rs ga gl gc) (a:List UInt8) (n:Int) (K:Value->Prop) (hK:K (.bool (listP rs a n==0))):S_chafftop_right ga gl gc a n M K:=by
 unfold S_chafftop_right
 exact s_list_Look _ _ _ _ _ _ _ (llook_is hg a n _ ⟨_,rfl,hK⟩)
end
theorem list0 {rs:List Ru} {a:List UInt8} {n:Int} (h:listP rs a n=0):listE rs a n ⟨[],false⟩ 1048576=0/\(listO rs a n ⟨[],false⟩ 1048576).1=(wordsN a n.toNat).filter (accP rs):=by
 obtain⟨hw,hal,h0,h6,hg5⟩:=listP_ok h
 refine⟨listE_ok h (by omega) (by omega) (over_of hal (by simp) (by simp)) (by simpa using h0) (by simp),?_⟩
 have e:listT a n ⟨[],false⟩=wordsN a n.toNat:=by simp[listT,rankN,geo,sumD]
 unfold listO
 rw[if_neg (by simp),e,if_neg (by rw[words_len];omega)]
end Go.Proofs.Ytmnilbfhfjdelaa.core

namespace Go.Proofs.Ytmnilbfhfjdelaa.core
open Go.Gx Go.RowKit Go.ChangeShapes Go.WideShapes Go.ChangeAt
set_option linter.unusedVariables false
open Go.Shelf Go.Proofs
attribute [local go_sem] Oper.semAt_some
noncomputable def difL (rs ss:List Ru) (t:List UInt8):Bool:=accP rs t != accP ss t
noncomputable def leastO (rs ss:List Ru) (l:List (List UInt8)):List UInt8×Int×Int:=match l.find? (difL rs ss)with
 |none=>([],0,12)
 |some t=>(t,if accP rs t=true then 1 else 2,0)
theorem least_done {rs ss:List Ru} {T:List W6} (h:∀t∈T,difL rs ss t.1=false):leastO rs ss (T.map (·.1))=([],0,12):=by
 unfold leastO
 rw[List.find?_eq_none.2 (λt ht=>by
  obtain⟨u,hu,rfl⟩:=List.mem_map.1 ht
  rw[h u hu];decide)]
theorem least_stop {rs ss:List Ru} {T pre:List W6} {x:W6} (h:pre++[x]=T.take (pre++[x]).length) (hp:∀t∈pre,difL rs ss t.1=false) (hx:difL rs ss x.1=true):leastO rs ss (T.map (·.1))=(x.1,if accP rs x.1=true then 1 else 2,0):=by
 unfold leastO
 have e:T.map (·.1)=(pre++[x]).map (·.1)++(T.drop (pre++[x]).length).map (·.1):=by
  rw[<-List.map_append]
  congr 1
  conv=>lhs;rw[<-List.take_append_drop (pre++[x]).length T]
  rw[<-h]
 rw[e,List.map_append,List.append_assoc,List.find?_append,List.find?_eq_none.2 (λt ht=>by
  obtain⟨u,hu,rfl⟩:=List.mem_map.1 ht
  rw[hp u hu];decide),Option.none_or]
 rw[List.map_cons,List.map_nil,List.singleton_append,List.find?_cons_of_pos hx]
theorem three (w:World) (o0 o1 o2:Obj):∃W,(((w.alloc o0).alloc o1).alloc o2)=W/\W.heap[w.heap.size]?=some o0/\W.heap[w.heap.size+1]?=some o1/\W.heap[w.heap.size+1+1]?=some o2/\Below w.heap.size w W/\W.heap.size=w.heap.size+3:=by
 refine⟨_,rfl,?_,?_,?_,?_,by simp⟩
 all_goals first
  |(refine(((Below.refl _ w).alloc ?_ _).alloc ?_ _).alloc ?_ _<;>simp<;>omega)
  |(simp only[World.alloc,Array.getElem?_push,Array.size_push];repeat (first|rw[if_pos trivial]|rw[if_pos (by omega)]|rw[if_neg (by omega)]))
structure Fiv (h:Nat) (g g' s i e:Value) (W:World):Prop where
 r0:W.heap[h]?=some (.cells #[g] 38 (0,0))
 r1:W.heap[h+1]?=some (.cells #[g'] 38 (0,0))
 r2:W.heap[h+1+1]?=some (.cells #[s] 9 (0,0))
 r3:W.heap[h+1+1+1]?=some (.cells #[i] 3 (0,0))
 r4:W.heap[h+1+1+1+1]?=some (.cells #[e] 31 (0,0))
theorem Fiv.on {h n₀:Nat} {g g' s i e:Value} {W W':World} (q:Fiv h g g' s i e W) (hb:Below n₀ W W') (hn:h+5<=n₀):Fiv h g g' s i e W':=by
 have l:∀{k o},k<h+5->W.heap[k]?=some o->W'.heap[k]?=some o:=λ{k o} h1 hk=>(hb.block k (by omega)).trans hk
 exact⟨l (by omega) q.r0,l (by omega) q.r1,l (by omega) q.r2,l (by omega) q.r3,l (by omega) q.r4⟩
theorem Fiv.cells {h:Nat} {g g' s i e:Value} {W:World} (q:Fiv h g g' s i e W):
  W.cell? ⟨h,0,none⟩=some g/\W.cell? ⟨h+1,0,none⟩=some g'/\W.cell? ⟨h+1+1,0,none⟩=some s/\W.cell? ⟨h+1+1+1,0,none⟩=some i/\W.cell? ⟨h+1+1+1+1,0,none⟩=some e/\
  W.frozen? ⟨h+1+1,0,none⟩=false/\W.frozen? ⟨h+1+1+1,0,none⟩=false/\W.frozen? ⟨h+1+1+1+1,0,none⟩=false:=by
 obtain⟨r0,r1,r2,r3,r4⟩:=q
 refine⟨?_,?_,?_,?_,?_,?_,?_,?_⟩<;>simp[World.cell?,World.frozen?,r0,r1,r2,r3,r4]
theorem Fiv.stored {h:Nat} {g g' s i e:Value} {W:World} (q:Fiv h g g' s i e W) (v1 v2 v3:Value):∃W',(((W.setCell ⟨h+1+1,0,none⟩ v1).setCell ⟨h+1+1+1,0,none⟩ v2).setCell ⟨h+1+1+1+1,0,none⟩ v3)=W'/\
  W'.heap[h+1+1]?=some (.cells [v1].toArray 9 (0,0))/\W'.heap[h+1+1+1]?=some (.cells [v2].toArray 3 (0,0))/\W'.heap[h+1+1+1+1]?=some (.cells [v3].toArray 31 (0,0))/\Below h W W':=by
 refine⟨_,rfl,?_,?_,?_,?_⟩
 ·rw[set2 (by omega),set2 (by omega)];exact set1 q.r2 0 v1
 ·rw[set2 (by omega)];exact set1 ((set2 (by omega) 0 v1).trans q.r3) 0 v2
 ·exact set1 ((set2 (by omega) 0 v2).trans ((set2 (by omega) 0 v1).trans q.r4)) 0 v3
 ·exact(((Below.refl h W).setCell (p:=⟨h+1+1,0,none⟩) (by show h<=h+1+1;omega) _).setCell (p:=⟨h+1+1+1,0,none⟩) (by show h<=h+1+1+1;omega) _).setCell (p:=⟨h+1+1+1+1,0,none⟩) (by show h<=h+1+1+1+1;omega) _
theorem Fiv.fin {h:Nat} {g g' s i e:Value} {W:World} (q:Fiv h g g' s i e W) (v1 v2 v3:Value) {R:Ending->World->Prop} {tmps:Array Value}
  (e1:tmps.getD 8 undef= .pointer (some ⟨h+1+1,0,none⟩)) (e2:tmps.getD 9 undef= .pointer (some ⟨h+1+1+1,0,none⟩)) (e3:tmps.getD 10 undef= .pointer (some ⟨h+1+1+1+1,0,none⟩))
  (hR:∀W2,Below h W W2->R (.returned (.tuple #[v1,v2,v3])) W2):
  bodyPostM Fence.wide 3 Try.prog Try.f25 R .ret {tmps:=tmps,defers:=[]} (((W.setCell ⟨h+1+1,0,none⟩ v1).setCell ⟨h+1+1+1,0,none⟩ v2).setCell ⟨h+1+1+1+1,0,none⟩ v3):=by
 obtain⟨W2,hW2,s1,s2,s3,hB2⟩:=q.stored v1 v2 v3
 rw[hW2]
 exact⟨_,tail3 rfl false false false e1 e2 e3 s1 s2 s3 (by kernel_rfl) (by kernel_rfl) (by kernel_rfl),hR W2 hB2⟩
theorem leastD {h D:Nat} {W:World} {v1 v2 v3:Value} {R:Ending->World->Prop} {tmps:Array Value}
  (e1:tmps.getD 8 undef= .pointer (some ⟨h+1+1,0,none⟩)) (e2:tmps.getD 9 undef= .pointer (some ⟨h+1+1+1,0,none⟩)) (e3:tmps.getD 10 undef= .pointer (some ⟨h+1+1+1+1,0,none⟩))
  (s1:W.heap[h+1+1]?=some (.cells [v1].toArray 9 (0,0))) (s2:W.heap[h+1+1+1]?=some (.cells [v2].toArray 3 (0,0))) (s3:W.heap[h+1+1+1+1]?=some (.cells [v3].toArray 31 (0,0)))
  (hD:h+5<=D) (hK:W.heap[D]?=some (.deferred (some []))) (hR:R (.returned (.tuple #[v1,v2,v3])) (W.putObj D (.deferred none))):
  bodyPostM Fence.wide 3 Try.prog Try.f25 R .ret {tmps:=tmps,defers:=[{target:=.collected D,args:= #[]}]} W:=
 ⟨by simp,.inl ⟨_,_,rfl,run_takeDeferred hK,⟨_,tail3 (W:=W.putObj D (.deferred none)) rfl false false false e1 e2 e3 ((World.putObj_heap_other (by omega)).trans s1) ((World.putObj_heap_other (by omega)).trans s2) ((World.putObj_heap_other (by omega)).trans s3) (by kernel_rfl) (by kernel_rfl) (by kernel_rfl),hR⟩⟩⟩
noncomputable def leastE (rs ss:List Ru) (a:List UInt8) (n:Int):Int:=if listP rs a n≠0 then listP rs a n else listP ss a n
set_option maxRecDepth 100000 in
set_option maxHeartbeats 4000000 in
theorem least_in (V:Mem) (rs ss:List Ru) (ga ha:Option Addr) (gl gc hl hc:Nat) (a:List UInt8) (n:Int) (hg:GrR V rs ga gl gc) (hh:GrR V ss ha hl hc) (w:World) (hon:On V w) (R:Ending->World->Prop)
  (hR1:leastE rs ss a n≠0->∀W,Below w.heap.size w W->R (.returned (.tuple #[.string (mkS []),.int .i64 0,.int .i64 (leastE rs ss a n)])) W)
  (hR2:leastE rs ss a n=0->∀W,Below w.heap.size w W->R (.returned (.tuple #[.string (mkS (leastO rs ss (wordsN a n.toNat)).1),.int .i64 (leastO rs ss (wordsN a n.toNat)).2.1,.int .i64 (leastO rs ss (wordsN a n.toNat)).2.2])) W):
  CallsIn Fence.wide 3 Try.prog 25 #[.agg #[.slice ga gl gc],.agg #[.slice ha hl hc],.string (mkS a),.int .i64 n] w R:=by
 refine callsIn_of_wp_marks Try.func25 rfl trivial ?_ rfl
 obtain⟨W0,hW0,q0,q1,q2,q3,q4,q5,hB0,hz0⟩:=six w (.cells #[.slice ga gl gc] 38) (.cells #[.slice ha hl hc] 38) (.cells #[.string (mkS [])] 9) (.cells #[.int .i64 0] 3) (.cells #[.int .i64 0] 31) (.cells #[.slice ga gl gc,.slice ha hl hc] 38)
 have q:Fiv w.heap.size (.slice ga gl gc) (.slice ha hl hc) (.string (mkS [])) (.int .i64 0) (.int .i64 0) W0:=⟨q0,q1,q2,q3,q4⟩
 clear q0 q1 q2 q3 q4
 simp only[Try.ntmps25,List.size_toArray,List.length_cons,List.length_nil,Nat.reduceAdd,Nat.reduceSub,Array.replicate_succ,Array.replicate_zero,List.push_toArray,List.append_toArray,List.nil_append,List.cons_append]
 have HD:=Hid.mk3 hR1 hR2
 clear hR1 hR2
 gi_wp2
 rw[show((((((w.alloc (.cells #[.slice ga gl gc] 38)).alloc (.cells #[.slice ha hl hc] 38)).alloc (.cells #[.string {data:= #[]}] 9)).alloc (.cells #[.int .i64 0] 3)).alloc (.cells #[.int .i64 0] 31)).alloc (.cells #[.slice ga gl gc,.slice ha hl hc] 38))=W0 from hW0]
 clear hW0
 gi_loopw [23] (λt wr=>∃j:Nat,t= .int .i64 j/\j<=2/\(0<j->listP rs a n=0)/\(1<j->listP ss a n=0)/\Below W0.heap.size W0 wr)
  (λt _=>2-(intOf t).toNat)
 case atStart=>exact⟨0,rfl,by omega,λh=>by omega,λh=>by omega,Below.refl _ _⟩
 case round=>
  obtain⟨j,rfl,hj,h0,h1,hbw⟩:=hrel
  have q':=q.on hbw (by omega)
  have hBw:Below w.heap.size w wr:=hB0.trans (hbw.mono (by omega))
  have q5':=(hbw.block _ (show w.heap.size+1+1+1+1+1<W0.heap.size by omega)).trans q5
  have d0:wr.cell? ⟨w.heap.size+1+1+1+1+1,0,none⟩=some (.slice ga gl gc):=by simp[World.cell?,q5']
  have d1:wr.cell? ⟨w.heap.size+1+1+1+1+1,1,none⟩=some (.slice ha hl hc):=by simp[World.cell?,q5']
  have hj3:j=0\/j=1\/j=2:=by omega
  have err:∀(Wx:World) (v:Int),Below wr.heap.size wr Wx->v≠0->leastE rs ss a n=v->∀W2,Below w.heap.size Wx W2->R (.returned (.tuple #[.string (mkS []),.int .i64 0,.int .i64 v])) W2:=λWx v hb hv he W2 h2=>by
   subst he;exact HD.out.1 hv W2 ((hBw.trans (hb.mono hBw.size)).trans h2)
  have gr:∀(o:Obj),Below wr.heap.size wr (wr.alloc o):=λo=>(Below.refl _ wr).alloc (Nat.le_refl _) o
  rcases hj3 with rfl|rfl|rfl
  ·have hcall:=s_list_Look ga gl gc a n V _ (llook_is hg a n (λv=>v= .int .i64 (listP rs a n)) rfl) (wr.alloc (.cells #[.slice ga gl gc] 38)) (On.keep (λb o h=>hon.lt h) hon (hBw.trans ((gr _).mono hBw.size)))
   gi_wp2
   refine⟨trivial,(callsIn_wide.2 hcall).mono ?_⟩
   rintro e Wl ⟨v,rfl,hbl,rfl⟩
   have hbl2:Below wr.heap.size wr Wl:=(gr _).trans (hbl.mono (by simp))
   have q2:=q'.on hbl2 (by have:=hbw.size;omega)
   obtain⟨c0,c1,c2,c3,c4,f2,f3,f4⟩:=q2.cells
   by_cases he:listP rs a n=0
   ·gi_wp2
    go_roundw
    case rel=>exact⟨1,rfl,by omega,λ_=>he,λh=>by omega,hbw.trans (hbl2.mono hbw.size)⟩
    case measure=>simp[intOf]
   ·have hE:leastE rs ss a n=listP rs a n:=by unfold leastE;rw[if_pos he]
    have HE:=Hid.mk3 hE he
    clear hE
    gi_wp2
    refine q2.fin _ _ _ ?_ ?_ ?_ (err Wl _ hbl2 HE.out.2 HE.out.1)<;>rfl
  ·have hl0:=h0 (by omega)
   have hcall:=s_list_Look ha hl hc a n V _ (llook_is hh a n (λv=>v= .int .i64 (listP ss a n)) rfl) (wr.alloc (.cells #[.slice ha hl hc] 38)) (On.keep (λb o h=>hon.lt h) hon (hBw.trans ((gr _).mono hBw.size)))
   gi_wp2
   refine⟨trivial,(callsIn_wide.2 hcall).mono ?_⟩
   rintro e Wl ⟨v,rfl,hbl,rfl⟩
   have hbl2:Below wr.heap.size wr Wl:=(gr _).trans (hbl.mono (by simp))
   have q2:=q'.on hbl2 (by have:=hbw.size;omega)
   obtain⟨c0,c1,c2,c3,c4,f2,f3,f4⟩:=q2.cells
   have hE:leastE rs ss a n=listP ss a n:=by unfold leastE;rw[if_neg (λh=>h hl0)]
   by_cases he:listP ss a n=0
   ·clear hE
    gi_wp2
    go_roundw
    case rel=>exact⟨2,rfl,by omega,λ_=>hl0,λ_=>he,hbw.trans (hbl2.mono hbw.size)⟩
    case measure=>simp[intOf]
   ·have HE:=Hid.mk3 hE he
    clear hE
    gi_wp2
    refine q2.fin _ _ _ ?_ ?_ ?_ (err Wl _ hbl2 HE.out.2 HE.out.1)<;>rfl
  ·have hl0:=h0 (by omega)
   have hl1:=h1 (by omega)
   have htx:=texts_mk 2 a [] n wr
   clear err gr d0 d1 q5' h0 h1
   gi_wp2
   refine⟨trivial,htx.mono ?_⟩
   rintro e w' ⟨rfl,rfl⟩
   obtain⟨Wt,hWt,p0,p1,p2,hbt,hzt⟩:=three wr (.cells #[.string (mkS a)] 9) (.cells #[.string (mkS [])] 9) (.cells #[.int .i64 n] 3)
   rw[hWt]
   have hszw:=hbw.size
   replace q':=q'.on hbt (by omega)
   replace hBw:=hBw.trans (hbt.mono hBw.size)
   have hszr:=hBw.size
   clear hWt hbt htx hbw q hB0 q5
   obtain⟨hwr,hal,hn0,hn6,hg5⟩:=listP_ok hl0
   obtain⟨hws,_⟩:=listP_ok hl1
   obtain⟨a1,a8,hasc⟩:=alpha_ok hal
   obtain⟨k,rfl⟩:∃k:Nat,n=k:=⟨n.toNat,by omega⟩
   have hin0:∀c∈([]:List UInt8),c∈a:=λc hc=>by cases hc
   obtain⟨T,hTv⟩:=six_ex (wordsN a k) (λx hx=>by have:=(words_mem hasc hx).1;omega)
   have hr0:rankN a []=0:=rfl
   have hTl:T.length=geo a.length (k+1)-rankN a []:=by
    have:=congrArg List.length hTv
    rw[hr0]
    simpa[words_len]using this
   have hT:∀(i:Nat) (s:W6),(∀c∈s.1,c∈a)->s.1.length<=k->rankN a s.1=rankN a []+i->T[i]?=some s:=λi s hs1 hs2 hs3=>by
    have h1:=words_at k s.1 hs2 hs1
    rw[hs3,hr0,Nat.zero_add]at h1
    have h2:=congrArg (·[i]?) hTv
    simp only[List.getElem?_map]at h2
    rw[h1]at h2
    cases h3:T[i]? with
    |none=>rw[h3]at h2;cases h2
    |some t=>rw[h3]at h2;simp only[Option.map_some,Option.some.injEq]at h2;exact congrArg some (Subtype.ext h2)
   have hE:leastE rs ss a k=0:=by unfold leastE;rw[if_neg (λh=>h hl0)];exact hl1
   have hO:leastO rs ss (wordsN a (k:Int).toNat)=leastO rs ss (T.map (·.1)):=by rw[hTv,Int.toNat_natCast]
   have hfin:=HD.out.2 hE
   rw[hO]at hfin
   have HF:=Hid.mk3 hfin trivial
   clear hfin hO hE HD
   gi_wp2
   refine wpIn_rangeFunc_ownG_of_H rfl (by omega) (gf:=80) (lb:= #[.pointer (some ⟨wr.heap.size+1,0,none⟩),.pointer (some ⟨wr.heap.size+1+1,0,none⟩),.pointer (some ⟨wr.heap.size,0,none⟩)]) rfl trivial (enters_of Try.func80 (by kernel_rfl) rfl)
    (texts_stops 2 Wt.heap.size [] a ⟨[],by simp⟩ k T a1 hal (by omega) hin0 (by simp) hTl hT wr.heap.size (wr.heap.size+1) (wr.heap.size+1+1) Wt (Nat.le_refl _) p0 p1 p2 ⟨by omega,by simp⟩ ⟨by omega,by simp⟩)
    (λh k=>h.trans k) (λW' l o o' h1 h2 h3 h4=>KX.grown (grownBy_putObj' W' l o') (by have:=(Array.getElem?_eq_some_iff.1 h2).1;omega) (λk e hk=>by cases e;omega)) (Below.refl _ _) (λ_=>rfl)
    (λpre W'=>(∀t∈pre,difL rs ss t.1=false)/\KX Wt.heap.size [] Wt W')
    (λc pre W'=>c= .ret/\∃pre0 x,pre=pre0++[x]/\(∀t∈pre0,difL rs ss t.1=false)/\difL rs ss x.1=true/\
     W'.heap[w.heap.size+1+1]?=some (.cells [sv6 x].toArray 9 (0,0))/\W'.heap[w.heap.size+1+1+1]?=some (.cells [.int .i64 (if accP rs x.1=true then 1 else 2)].toArray 3 (0,0))/\W'.heap[w.heap.size+1+1+1+1]?=some (.cells [.int .i64 0].toArray 31 (0,0))/\Below w.heap.size w W')
    ?ownI ?ownIx ?start ?act ?assign ?body ?done ?stop (λW=>KX.refl _ _ W)
   case assign=>
    intro l x W' K hK
    gi_wp2
    exact hK
   case ownI=>exact λs A B row hs hg hr=>⟨hs.1,hs.2.trans (KX.grown hg hs.2.size (λk e hk=>by have:=(hr _ e).1;omega))⟩
   case ownIx=>
    rintro c s A B row ⟨rfl,pre0,x,e1,e2,e3,s1,s2,s3,hb⟩ hg hr
    have l:∀{k o},k<Wt.heap.size->A.heap[k]?=some o->B.heap[k]?=some o:=λ{k o} h1 hk'=>(hg.block k (Array.getElem?_eq_some_iff.1 hk').1 (λe=>by have:=(hr _ e.symm).1;omega)).trans hk'
    exact⟨rfl,pre0,x,e1,e2,e3,l (by omega) s1,l (by omega) s2,l (by omega) s3,hb.grown hg hb.size (λk e=>by have:=(hr k e).1;omega)⟩
   case start=>exact⟨(λt h=>by cases h),KX.refl _ _ _⟩
   case body=>
    rintro l pre x W' ⟨hpre,hkx⟩ hlt
    have hbx:Below Wt.heap.size Wt W':=hkx.below (Nat.le_refl _) (λk hk=>by cases hk)
    have q2:=q'.on hbx (by omega)
    have hB2:=hBw.trans (hbx.mono hszr)
    have hlk:∀rs',(wellP rs').2=0->lookP rs' x.1=0:=λrs' h=>by
     unfold lookP
     rw[if_neg (λh'=>h' h),if_neg (by have:=x.2;omega)]
    have hl1':=hlk rs (look_ok' hl0)
    have hl2':=hlk ss (look_ok' hl1)
    have ha1:=s_list_Accepts ga gl gc x.1 V _ (laccepts_is hg (λh=>absurd hl1' h) (λ_=>rfl:lookP rs x.1=0->(λv=>v=Value.tuple #[.bool (accP rs x.1),.int .i64 0]) (.tuple #[.bool (accP rs x.1),.int .i64 0]))) W' (On.keep (λb o h=>hon.lt h) hon hB2)
    obtain⟨c0,c1,c2,c3,c4,f2,f3,f4⟩:=q2.cells
    clear hlk
    gi_wp2
    refine⟨trivial,(show CallsIn (Fence.wide.inRound l) 0 _ _ _ _ _ from callsIn_wide.2 ha1).mono ?_⟩
    rintro e W1 ⟨v,rfl,hb1,rfl⟩
    have hbx1:=hbx.trans (hb1.mono hbx.size)
    have q3:=q'.on hbx1 (by omega)
    have hB3:=hBw.trans (hbx1.mono hszr)
    have ha2:=s_list_Accepts ha hl hc x.1 V _ (laccepts_is hh (λh=>absurd hl2' h) (λ_=>rfl:lookP ss x.1=0->(λv=>v=Value.tuple #[.bool (accP ss x.1),.int .i64 0]) (.tuple #[.bool (accP ss x.1),.int .i64 0]))) W1 (On.keep (λb o h=>hon.lt h) hon hB3)
    clear c0 c1 c2 c3 c4 f2 f3 f4 ha1
    obtain⟨c0,c1,c2,c3,c4,f2,f3,f4⟩:=q3.cells
    gi_wp2
    refine⟨trivial,(show CallsIn (Fence.wide.inRound l) 0 _ _ _ _ _ from callsIn_wide.2 ha2).mono ?_⟩
    rintro e W2 ⟨v,rfl,hb2,rfl⟩
    have hbx2:=hbx1.trans (hb2.mono hbx1.size)
    have q4:=q'.on hbx2 (by omega)
    have hB4:=hBw.trans (hbx2.mono hszr)
    have hgg:W'.grownBy W2 none:=grown_of (hb1.trans (hb2.mono hb1.size))
    have hko:KeepsOthers W' W2:=KeepsOthers.of_grownBy hgg (λj o e _=>by cases e)
    have hkk:KX Wt.heap.size [] W' W2:=KX.grown hgg hbx.size (λk e=>by cases e)
    clear c0 c1 c2 c3 c4 f2 f3 f4 ha2
    obtain⟨c0,c1,c2,c3,c4,f2,f3,f4⟩:=q4.cells
    have go:difL rs ss x.1=false->KeepsFrom Wt.heap.size W' W2/\KX Wt.heap.size [] W' W2/\(∀t∈pre++[x],difL rs ss t.1=false)/\KX Wt.heap.size [] Wt W2:=λhd=>⟨hko.from _,hkk,λt ht=>by
     rcases List.mem_append.1 ht with h|h
     ·exact hpre t h
     ·rw[List.mem_singleton.1 h];exact hd,hkx.trans hkk⟩
    have st:difL rs ss x.1=true->∀side:Int,side=(if accP rs x.1=true then 1 else 2)->∃W3,(((W2.setCell ⟨w.heap.size+1+1,0,none⟩ (sv6 x)).setCell ⟨w.heap.size+1+1+1,0,none⟩ (.int .i64 side)).setCell ⟨w.heap.size+1+1+1+1,0,none⟩ (.int .i64 0))=W3/\
      KeepsFrom Wt.heap.size W' W3/\(Code.ret=Code.ret/\∃pre0 y,pre++[x]=pre0++[y]/\(∀t∈pre0,difL rs ss t.1=false)/\difL rs ss y.1=true/\
     W3.heap[w.heap.size+1+1]?=some (.cells [sv6 y].toArray 9 (0,0))/\W3.heap[w.heap.size+1+1+1]?=some (.cells [.int .i64 (if accP rs y.1=true then 1 else 2)].toArray 3 (0,0))/\W3.heap[w.heap.size+1+1+1+1]?=some (.cells [.int .i64 0].toArray 31 (0,0))/\Below w.heap.size w W3):=by
     rintro hd side rfl
     obtain⟨W3,hW3,s1,s2,s3,hB5⟩:=q4.stored (sv6 x) (.int .i64 (if accP rs x.1=true then 1 else 2)) (.int .i64 0)
     refine⟨W3,hW3,?_,rfl,pre,x,rfl,hpre,hd,s1,s2,s3,hB4.trans hB5⟩
     rw[<-hW3]
     exact(hko.trans (((KeepsOthers.setCell W2 ⟨w.heap.size+1+1,0,none⟩ (sv6 x)).trans (KeepsOthers.setCell _ ⟨w.heap.size+1+1+1,0,none⟩ (.int .i64 (if accP rs x.1=true then 1 else 2)))).trans (KeepsOthers.setCell _ ⟨w.heap.size+1+1+1+1,0,none⟩ (.int .i64 0)))).from _
    have hdf:difL rs ss x.1=(accP rs x.1 != accP ss x.1):=rfl
    have HG:=Hid.mk3 (Hid.mk3 go st) hdf
    clear go st hdf hpre
    cases h1:accP rs x.1<;>cases h2:accP ss x.1
    ·gi_wp2
     exact HG.out.1.out.1 (by rw[HG.out.2,h1,h2];rfl)
    ·gi_wp2
     obtain⟨W3,hW3,hA,hB⟩:=HG.out.1.out.2 (by rw[HG.out.2,h1,h2];rfl) 2 (by rw[h1];rfl)
     exact hW3▸⟨hA,rfl,hB.2⟩
    ·gi_wp2
     obtain⟨W3,hW3,hA,hB⟩:=HG.out.1.out.2 (by rw[HG.out.2,h1,h2];rfl) 1 (by rw[h1];rfl)
     exact hW3▸⟨hA,rfl,hB.2⟩
    ·gi_wp2
     exact HG.out.1.out.1 (by rw[HG.out.2,h1,h2];rfl)
   case done=>
    rintro D xs W' hD rfl ⟨hall,hkx⟩ hK
    have hbx:Below Wt.heap.size Wt W':=hkx.below (Nat.le_refl _) (λk hk=>by cases hk)
    have q2:=q'.on hbx (by omega)
    have hB2:=hBw.trans (hbx.mono hszr)
    obtain⟨c0,c1,c2,c3,c4,f2,f3,f4⟩:=q2.cells
    have hO:=least_done hall
    have HO:=Hid.mk3 hO hall
    clear hO hall
    gi_wp2
    obtain⟨W2,hW2,s1,s2,s3,hB3⟩:=q2.stored (.string (mkS [])) (.int .i64 0) (.int .i64 12)
    have hK2:W2.heap[D]?=some (.deferred (some [])):=by rw[<-hW2,set2 (by omega),set2 (by omega),set2 (by omega)];exact hK
    rw[show(((W'.setCell ⟨w.heap.size+1+1,0,none⟩ (.string {data:= #[]})).setCell ⟨w.heap.size+1+1+1,0,none⟩ (.int .i64 0)).setCell ⟨w.heap.size+1+1+1+1,0,none⟩ (.int .i64 12))=W2 from hW2]
    refine leastD (h:=w.heap.size) ?_ ?_ ?_ s1 s2 s3 (by omega) hK2 ?_
    ·rfl
    ·rfl
    ·rfl
    have hB4:=hB2.trans hB3
    have hfin:=HF.out.1 (W2.putObj D (.deferred none)) (below_put hB4 (by omega) hK2 hB4.size)
    rw[HO.out.1]at hfin
    exact hfin
   case stop=>
    rintro D c pre W' hD ⟨hp1,hp2⟩ ⟨rfl,pre0,x,rfl,e1,e2,s1,s2,s3,hb⟩ hK
    have hO:=least_stop hp1 e1 e2
    have HO:=Hid.mk3 hO hp1
    clear hO hp1 hp2 e1 e2
    gi_wp2
    refine leastD (h:=w.heap.size) ?_ ?_ ?_ s1 s2 s3 (by omega) hK ?_
    ·rfl
    ·rfl
    ·rfl
    have hfin:=HF.out.1 (W'.putObj D (.deferred none)) (below_put hb (by omega) hK hb.size)
    rw[HO.out.1]at hfin
    exact hfin
section
variable {rs ss:List Ru} {ga ha:Option Addr} {gl gc hl hc:Nat} {M:Mem}
theorem lleast_is (hg:GrR M rs ga gl gc) (hh:GrR M ss ha hl hc) (a:List UInt8) (n:Int) (K:Value->Prop)
  (h1:leastE rs ss a n≠0->K (.tuple #[.string (mkS []),.int .i64 0,.int .i64 (leastE rs ss a n)]))
  (h2:leastE rs ss a n=0->K (.tuple #[.string (mkS (leastO rs ss (wordsN a n.toNat)).1),.int .i64 (leastO rs ss (wordsN a n.toNat)).2.1,.int .i64 (leastO rs ss (wordsN a n.toNat)).2.2])):
  CallE Try.prog 25 #[.agg #[.slice ga gl gc],.agg #[.slice ha hl hc],.string (mkS a),.int .i64 n] M λv _=>K v:=
 λw hon=>callsIn_wide.1 (least_in M rs ss ga ha gl gc hl hc a n hg hh w hon _ (λh W hb=>⟨_,rfl,hb,h1 h⟩) λh W hb=>⟨_,rfl,hb,h2 h⟩)
end
end Go.Proofs.Ytmnilbfhfjdelaa.core

