/- Contracts and what they hang on, of several parts. No condition. -/
import Derived.Test.YtjecddabdlapbaaDoorCoreX
import Derived.Test.YtjecddabdlapbaaDoorM2
import Derived.Test.YtjecddabdlapbaaDoorM1
import Derived.Test.YtjecddabdlapbaaDoorM3
import Derived.Lib.LaidU8
namespace Go.Proofs.YtjecddabdlapbaaDoor.core
open Go.Gx Go.RowKit Go.ChangeShapes Go.WideShapes Go.ChangeAt
set_option linter.unusedVariables false
theorem fitE_kinds {e:Ex} (h:fitE e=true):1<=e.kind/\e.kind<=11/\(e.kind<=4->e.kids=[])/\(e.kind=5\/e.kind=6->2<=e.kids.length/\e.kids.length<=8)/\(7<=e.kind->e.kids.length=1)/\(e.kind=3->e.text≠[]/\e.text.length<=12)/\(e.kind≠2->zs e.set=true)/\(e.kind≠3->e.kind≠4->e.text=[]):=by
 unfold fitE fitX at h
 simp only at h
 have nil:∀l:List Ex,(l.length==0)=true->l=[]:=λl h=>List.eq_nil_of_length_eq_zero (by simpa using h)
 split at h
 ·simp only[Bool.and_eq_true,decide_eq_true_eq]at h
  exact⟨by omega,by omega,λ_=>nil _ h.1.1,λq=>by omega,λq=>by omega,λq=>by omega,λ_=>h.2,λ_ _=>h.1.2⟩
 ·split at h
  ·simp only[Bool.and_eq_true,decide_eq_true_eq]at h
   exact⟨by omega,by omega,λ_=>nil _ h.1,λq=>by omega,λq=>by omega,λq=>by omega,λq=>by omega,λ_ _=>h.2⟩
  ·split at h
   ·simp only[Bool.and_eq_true,decide_eq_true_eq,Bool.not_eq_true',decide_eq_false_iff_not]at h
    exact⟨by omega,by omega,λ_=>nil _ h.1.1.1,λq=>by omega,λq=>by omega,λ_=>⟨h.1.2,h.2⟩,λ_=>h.1.1.2,λq=>by omega⟩
   ·split at h
    ·simp only[Bool.and_eq_true]at h
     exact⟨by omega,by omega,λ_=>nil _ h.1.1,λq=>by omega,λq=>by omega,λq=>by omega,λ_=>h.1.2,λ_ q=>by omega⟩
    ·split at h
     ·simp only[Bool.and_eq_true,decide_eq_true_eq]at h
      exact⟨by omega,by omega,λq=>by omega,λ_=>⟨h.1.2,h.2⟩,λq=>by omega,λq=>by omega,λ_=>h.1.1.2,λ_ _=>h.1.1.1⟩
     ·split at h
      ·simp only[Bool.and_eq_true,decide_eq_true_eq,beq_iff_eq]at h
       exact⟨by omega,by omega,λq=>by omega,λq=>by omega,λ_=>h.2,λq=>by omega,λ_=>h.1.2,λ_ _=>h.1.1⟩
      ·cases h
inductive GoodE (rs:List Ru):Ex->Prop
 |mk (e:Ex) (hf:fitE e=true) (hr:e.kind=4->0<=findR e.text rs 0) (hk:∀k∈e.kids,GoodE rs k):GoodE rs e
theorem GoodE.fit {rs:List Ru} {e:Ex} (h:GoodE rs e):fitE e=true:=by cases h;assumption
theorem GoodE.kid {rs:List Ru} {e:Ex} (h:GoodE rs e):∀k∈e.kids,GoodE rs k:=by cases h;assumption
mutual
theorem flat_fit:∀(e:Ex) (d n:Int),(lkE d n e).1=0->∀x∈flatE e,fitE x=true
 | .mk k s t ks,d,n,h,x,hx=>by
  unfold lkE at h
  split at h
  ·cases h
  ·split at h
   ·cases h
   ·split at h
    ·cases h
    ·rename_i h3
     rw[flatE]at hx
     rcases List.mem_cons.1 hx with rfl|hx
     ·simpa[fitE,Ex.kind,Ex.set,Ex.text,Ex.kids]using h3
     ·exact flats_fit ks _ _ h x hx
theorem flats_fit:∀(ks:List Ex) (d n:Int),(lkEs d n ks).1=0->∀x∈flatEs ks,fitE x=true
 |[],_,_,_,x,hx=>by simp[flatEs]at hx
 |k::ks,d,n,h,x,hx=>by
  rw[lkEs]at h
  rw[flatEs]at hx
  split at h
  ·rename_i hne;exact absurd h hne
  ·rename_i he
   have he:(lkE d n k).1=0:=by simpa using he
   rcases List.mem_append.1 hx with hx|hx
   ·exact flat_fit k _ _ he x hx
   ·exact flats_fit ks _ _ h x hx
end
theorem flatEs_mem {k:Ex}:∀{ks:List Ex},k∈ks->∀x∈flatE k,x∈flatEs ks
 |a::r,h,x,hx=>by
  rw[flatEs]
  rcases List.mem_cons.1 h with rfl|h
  ·exact List.mem_append_left _ hx
  ·exact List.mem_append_right _ (flatEs_mem h x hx)
theorem flatE_self (e:Ex):e∈flatE e:=by cases e;simp[flatE]
theorem flatE_kid {e k:Ex} (h:k∈e.kids):∀x∈flatE k,x∈flatE e:=by
 intro x hx
 cases e
 rw[flatE]
 exact List.mem_cons_of_mem _ (flatEs_mem h x hx)
theorem good_of (rs:List Ru) (e:Ex) (h:∀x∈flatE e,fitE x=true/\(x.kind=4->0<=findR x.text rs 0)):GoodE rs e:=by
 induction hn:SizeOf.sizeOf e using Nat.strongRecOn generalizing e with
 |_ n ih=>
  subst hn
  have h0:=h e (flatE_self e)
  exact .mk e h0.1 h0.2 λk hk=>ih _ (Ex.kid_lt hk) k (λx hx=>h x (flatE_kid hk x hx)) rfl
theorem ref_fold:∀(l:List Ex) (acc:List (List UInt8)),(∀s∈acc,s∈l.foldl refStep acc)/\∀x∈l,x.kind=4->x.text∈l.foldl refStep acc
 |[],acc=>⟨λs h=>h,λx h=>by cases h⟩
 |a::r,acc=>by
  obtain⟨h1,h2⟩:=ref_fold r (refStep acc a)
  have hs:∀s∈acc,s∈refStep acc a:=λs h=>by unfold refStep;split<;>simp[h]
  refine⟨λs h=>h1 s (hs s h),λx hx hk=>?_⟩
  rcases List.mem_cons.1 hx with rfl|hx
  ·refine h1 _ ?_
   unfold refStep
   split
   ·simp
   ·rename_i hno
    by_cases hm:x.text∈acc
    ·exact hm
    ·exact absurd ⟨hk,hm⟩ hno
  ·exact h2 x hx hk
theorem refs_mem {e x:Ex} (hx:x∈flatE e) (hk:x.kind=4):x.text∈refsE e:=(ref_fold (flatE e) []).2 x hx hk
structure GramOk (rs:List Ru):Prop where
 one:0<rs.length
 ten:rs.length<=10
 good:∀r∈rs,GoodE rs r.body
 err:∀r∈rs,exErr r.body=0
 name:∀r∈rs,nameB r.name=true
 at_:∀(i:Nat) r,rs[i]?=some r->findR r.name rs 0=i
 all:((rs.map λr=>(flatE r.body).length).sum)<=120
theorem refsR_zero (rs0:List Ru):∀l:List Ru,refsR rs0 l=0->∀r∈l,∀s∈refsE r.body,0<=findR s rs0 0
 |[],_,r,h,_,_=>by cases h
 |a::t,h,r,hr,s,hs=>by
  rw[refsR]at h
  split at h
  ·cases h
  ·rename_i hall
   rcases List.mem_cons.1 hr with rfl|hr
   ·have hall:(refsE r.body).all (λs=>decide (0<=findR s rs0 0))=true:=by simpa using hall
    simpa using List.all_eq_true.1 hall s hs
   ·exact refsR_zero rs0 t h r hr s hs
theorem chkR_zero (rs0:List Ru):∀(l:List Ru) (i n:Int),chkR rs0 l i n=0->refsR rs0 rs0=0/\(∀(j:Nat) r,l[j]?=some r->nameB r.name=true/\findR r.name rs0 0=i+j/\exErr r.body=0)/\n+((l.map λr=>(flatE r.body).length).sum:Nat)<=120
 |[],i,n,h=>by
  rw[chkR]at h
  split at h
  ·cases h
  ·exact⟨h,λj r hj=>by simp at hj,by simp;omega⟩
 |a::t,i,n,h=>by
  rw[chkR]at h
  split at h
  ·cases h
  ·rename_i h1
   split at h
   ·cases h
   ·rename_i h2
    split at h
    ·rename_i h3;exact absurd h h3
    ·rename_i h3
     obtain⟨g1,g2,g3⟩:=chkR_zero rs0 t (i+1) _ h
     refine⟨g1,λj r hj=>?_,by simp only[List.map_cons,List.sum_cons];omega⟩
     cases j with
     |zero=>
      simp only[List.getElem?_cons_zero,Option.some.injEq]at hj
      subst hj
      exact⟨by simpa using h1,by simpa using h2,by simpa using h3⟩
     |succ j=>
      obtain⟨k1,k2,k3⟩:=g2 j r (by simpa using hj)
      exact⟨k1,by rw[k2];omega,k3⟩
theorem gram_ok {rs:List Ru} (h:gramErr rs=0):GramOk rs:=by
 unfold gramErr at h
 split at h
 ·cases h
 ·split at h
  ·cases h
  ·obtain⟨h1,h2,h3⟩:=chkR_zero rs rs 0 0 h
   have hget:∀r∈rs,∃j,rs[j]?=some r:=λr hr=>List.mem_iff_getElem?.1 hr
   refine⟨by omega,by omega,λr hr=>good_of rs r.body λx hx=>?_,λr hr=>?_,λr hr=>?_,λi r hi=>by have:=(h2 i r hi).2.1;omega,by omega⟩
   ·obtain⟨j,hj⟩:=hget r hr
    exact⟨flat_fit _ _ _ (h2 j r hj).2.2 x hx,λhk=>refsR_zero rs rs h1 r hr _ (refs_mem hx hk)⟩
   ·obtain⟨j,hj⟩:=hget r hr;exact(h2 j r hj).2.2
   ·obtain⟨j,hj⟩:=hget r hr;exact(h2 j r hj).1
theorem GrR.len {M:Mem} {rs:List Ru} {A:Option Addr} {l c:Nat} (h:GrR M rs A l c):l=rs.length:=h.max.1
end Go.Proofs.YtjecddabdlapbaaDoor.core

namespace Go.Proofs.YtjecddabdlapbaaDoor.core
open Go.Gx Go.RowKit Go.ChangeShapes Go.WideShapes Go.ChangeAt
set_option linter.unusedVariables false
theorem slIndexByte_is (s:List UInt8) (c:UInt8) (M:Mem) (K:Value->Prop) (h:K (.int .i64 (idxB s c.toNat))):S_internal_stringslite_IndexByte s (c.toNat:Int) M K:=h
theorem indexByte_is (s:List UInt8) (c:UInt8) (M:Mem) (K:Value->Prop) (h:K (.int .i64 (idxB s c.toNat))):S_strings_IndexByte s (c.toNat:Int) M K:=
 s_internal_stringslite_IndexByte _ _ _ _ (slIndexByte_is s c _ _ ⟨_,rfl,h⟩)
theorem idxB_mem (s:List UInt8) (c:UInt8):decide (idxB s c.toNat>=0)=decide (c∈s):=by
 rcases idxB_cases s c with⟨h,hn⟩|⟨i,h,hi,_⟩
 ·rw[h]
  have:¬c∈s:=λhm=>by
   obtain⟨j,hj⟩:=List.mem_iff_getElem?.1 hm
   exact hn j c hj rfl
  simp[this]
 ·rw[h]
  have:=List.mem_of_getElem? hi
  simp[this]
theorem slIndex1_is (s:List UInt8) (c:UInt8) (M:Mem) (K:Value->Prop) (h:∀z:Int,decide (z>=0)=decide (c∈s)->(z=idxB s c.toNat)->K (.int .i64 z)):S_internal_stringslite_Index s [c] M K:=by
 have j1:∀b:Bool,b=((mkS [c]).toList==(mkS s).toList)->S_internal_stringslite_Index_J1 s [c] M b K:=by
  intro b hb
  refine⟨λe=>?_,λe=>⟨λ_=>⟨c,by omega,rfl,?_⟩,λh=>absurd rfl h⟩⟩
  ·rw[e]at hb
   have:[c]=s:=mkS_beq.1 hb.symm
   subst this
   refine h 0 (by simp) ?_
   rcases idxB_cases [c] c with⟨_,hn⟩|⟨i,h1,hi,_⟩
   ·exact absurd rfl (hn 0 c rfl)
   ·have:=(List.getElem?_eq_some_iff.1 hi).1
    simp at this
    subst this
    rw[h1];rfl
  ·exact s_internal_stringslite_IndexByte _ _ _ _ (slIndexByte_is s c _ _ ⟨_,rfl,h _ (idxB_mem s c) rfl⟩)
 exact⟨λh=>by simp at h,λ_=>j1 _ rfl⟩
theorem index1_is (s:List UInt8) (c:UInt8) (M:Mem) (K:Value->Prop) (h:∀z:Int,decide (z>=0)=decide (c∈s)->(z=idxB s c.toNat)->K (.int .i64 z)):S_strings_Index s [c] M K:=
 s_internal_stringslite_Index _ _ _ _ (slIndex1_is s c _ _ λz hz hz2=>⟨_,rfl,h z hz hz2⟩)
theorem contains1_is (s:List UInt8) (c:UInt8) (M:Mem) (K:Value->Prop) (h:K (.bool (decide (c∈s)))):S_strings_Contains s [c] M K:=
 s_strings_Index _ _ _ _ (index1_is s c _ _ λz hz _=>⟨_,rfl,by rw[hz];exact h⟩)
end Go.Proofs.YtjecddabdlapbaaDoor.core

namespace Go.Proofs.YtjecddabdlapbaaDoor.core
open Go.Gx Go.RowKit Go.ChangeShapes Go.WideShapes Go.ChangeAt
set_option linter.unusedVariables false
abbrev hexL:List UInt8:=[48,49,50,51,52,53,54,55,56,57,97,98,99,100,101,102]
def hexC (n:Nat):UInt8:=hexL.getD n 0
def shownP (signs:List UInt8) (low:Nat) (b:UInt8):List UInt8:=
 if b.toNat=10 then[92,110] else if b.toNat=9 then[92,116] else if b.toNat<low\/b.toNat>126 then[92,120,hexC (b.toNat / 16),hexC (b.toNat % 16)] else if b∈signs then[92,b] else[b]
theorem shownP_len (signs:List UInt8) (low:Nat) (b:UInt8):(shownP signs low b).length<=4:=by
 unfold shownP
 split
 ·simp
 ·split
  ·simp
  ·split
   ·simp
   ·split<;>simp
theorem hex_cut:∀n:Nat,n<16->(hexL.take (n+1)).drop n=[hexC n]:=by decide
theorem hi4:∀n:Nat,n<256->bShr .u8 (n:Int) 4=((n / 16:Nat):Int)/\bAnd .u8 (n:Int) 15=((n % 16:Nat):Int)/\IntKind.wrap .u8 (((n / 16:Nat):Int)+1)=((n / 16+1:Nat):Int)/\IntKind.wrap .u8 (((n % 16:Nat):Int)+1)=((n % 16+1:Nat):Int):=by decide+kernel
theorem qone_is (b:UInt8) (signs:List UInt8) (M:Mem) (K:Value->Prop) (low:Nat) (hlow:low=if signs=[39,92] then 32 else 33) (h:K (.string (mkS (shownP signs low b)))):S_quote_one (b.toNat:Int) signs M K:=by
 have hb:=b.toNat_lt
 obtain⟨e1,e2,e3,e4⟩:=hi4 b.toNat hb
 have q16:b.toNat / 16<16:=by omega
 have r16:b.toNat % 16<16:=by omega
 have j1:∀v:Bool,b.toNat≠10->b.toNat≠9->v=decide (b.toNat<low\/b.toNat>126)->S_quote_one_J1 (b.toNat:Int) signs M v K:=by
  intro v n10 n9 hv
  unfold S_quote_one_J1
  rw[e1,e2,e3,e4]
  refine⟨λe=>?_,λe=>?_⟩
  ·have hc:b.toNat<low\/b.toNat>126:=by rw[e]at hv;exact of_decide_eq_true hv.symm
   have t1:(((b.toNat / 16+1:Nat):Int)).toNat=b.toNat / 16+1:=by omega
   have t2:(((b.toNat / 16:Nat):Int)).toNat=b.toNat / 16:=by omega
   have t3:(((b.toNat % 16+1:Nat):Int)).toNat=b.toNat % 16+1:=by omega
   have t4:(((b.toNat % 16:Nat):Int)).toNat=b.toNat % 16:=by omega
   have c1:=hex_cut _ q16
   have c2:=hex_cut _ r16
   rw[t1,t2,t3,t4,c1,c2]
   refine⟨by omega,by omega,by simp;omega,by simp,by omega,by omega,by simp;omega,by simp,?_⟩
   have:shownP signs low b=[92,120,hexC (b.toNat / 16),hexC (b.toNat % 16)]:=by unfold shownP;rw[if_neg n10,if_neg n9,if_pos hc]
   rw[this]at h;exact h
  ·have hc:¬(b.toNat<low\/b.toNat>126):=λq=>e (by rw[hv];exact decide_eq_true q)
   have hs:shownP signs low b=if b∈signs then[92,b] else[b]:=by unfold shownP;rw[if_neg n10,if_neg n9,if_neg hc]
   refine s_strings_IndexByte _ _ _ _ (indexByte_is signs b _ _ ⟨_,rfl,λhi=>⟨[b],rfl,by simp,?_⟩,λhi=>⟨[b],rfl,?_⟩⟩)
   ·have hm:=idxB_mem signs b
    rw[decide_eq_true hi]at hm
    rw[hs,if_pos (of_decide_eq_true hm.symm)]at h;exact h
   ·have hm:=idxB_mem signs b
    rw[decide_eq_false hi]at hm
    rw[hs,if_neg (of_decide_eq_false hm.symm)]at h;exact h
 unfold S_quote_one
 refine⟨λq=>?_,λn10=>⟨λq=>?_,λn9=>?_⟩⟩
 ·have:shownP signs low b=[92,110]:=by unfold shownP;rw[if_pos (by omega)]
  rw[this]at h;exact h
 ·have:shownP signs low b=[92,116]:=by unfold shownP;rw[if_neg (by omega),if_pos (by omega)]
  rw[this]at h;exact h
 have n10':b.toNat≠10:=by omega
 have n9':b.toNat≠9:=by omega
 refine⟨λh32=>⟨λhne=>j1 _ n10' n9' ?_,λhe=>⟨λhs=>j1 _ n10' n9' ?_,λhs=>j1 _ n10' n9' ?_⟩⟩,λh32=>j1 _ n10' n9' ?_⟩
 ·rw[eq_comm,decide_eq_true_iff]
  left;rw[hlow];split<;>omega
 ·rw[eq_comm,decide_eq_true_iff]
  left;rw[hlow,if_neg hs];omega
 ·have hs:signs=[39,92]:=by simpa using hs
  rw[hlow,if_pos hs,Bool.eq_iff_iff];simp;omega
 ·rw[hlow,Bool.eq_iff_iff];split<;>simp<;>omega
theorem digit_is (n:Nat) (hn:n<16) (M:Mem) (K:Value->Prop) (h:K (.string (mkS [hexC n]))):S_chaffref_digit (n:Int) M K:=by
 unfold S_chaffref_digit
 have t1:((n:Int)+1).toNat=n+1:=by omega
 have t2:((n:Int)).toNat=n:=by omega
 rw[t1,t2,hex_cut n hn]
 exact⟨by unfold InI;omega,by omega,by omega,by simp;omega,h⟩
theorem wrapB (b:UInt8):IntKind.wrap .u8 (b.toNat:Int)=(b.toNat:Int):=by
 have:=b.toNat_lt
 simp only[IntKind.wrap,IntKind.bits,IntKind.signed,Bool.false_and,Bool.false_eq_true,if_false]
 omega
theorem wrapI (b:UInt8):IntKind.wrap .i64 (b.toNat:Int)=(b.toNat:Int):=wrap_in (by have:=b.toNat_lt;unfold InI;omega)
theorem shown_is (b:UInt8) (signs:List UInt8) (low:Nat) (M:Mem) (K:Value->Prop) (h:K (.string (mkS (shownP signs low b)))):S_chaffref_shown (b.toNat:Int) signs low M K:=by
 have hb:=b.toNat_lt
 have j1:∀v:Bool,b.toNat≠10->b.toNat≠9->v=decide (b.toNat<low\/b.toNat>126)->S_chaffref_shown_J1 (b.toNat:Int) signs M v K:=by
  intro v n10 n9 hv
  have e1:(b.toNat:Int).tdiv 16=((b.toNat / 16:Nat):Int):=by rw[Int.tdiv_eq_ediv_of_nonneg (by omega)];omega
  have e2:(b.toNat:Int).tmod 16=((b.toNat % 16:Nat):Int):=by rw[Int.tmod_eq_emod_of_nonneg (by omega)];omega
  unfold S_chaffref_shown_J1
  rw[e1,e2,wrapB]
  refine⟨λe=>?_,λe=>?_⟩
  ·have hc:b.toNat<low\/b.toNat>126:=by rw[e]at hv;exact of_decide_eq_true hv.symm
   refine⟨by unfold InI;omega,s_chaffref_digit _ _ _ (digit_is _ (by omega) _ _ ⟨_,rfl,by simp,s_chaffref_digit _ _ _ (digit_is _ (by omega) _ _ ⟨_,rfl,by simp,?_⟩)⟩)⟩
   have:shownP signs low b=[92,120,hexC (b.toNat / 16),hexC (b.toNat % 16)]:=by unfold shownP;rw[if_neg n10,if_neg n9,if_pos hc]
   rw[this]at h;exact h
  ·have hc:¬(b.toNat<low\/b.toNat>126):=λq=>e (by rw[hv];exact decide_eq_true q)
   have hs:shownP signs low b=if b∈signs then[92,b] else[b]:=by unfold shownP;rw[if_neg n10,if_neg n9,if_neg hc]
   refine⟨[b],rfl,s_strings_Contains _ _ _ _ (contains1_is signs b _ _ ⟨_,rfl,λhi=>⟨[b],rfl,by simp,?_⟩,λhi=>⟨[b],rfl,?_⟩⟩)⟩
   ·rw[hs,if_pos (of_decide_eq_true hi)]at h;exact h
   ·have hi:decide (b∈signs)=false:=by simpa using hi
    rw[hs,if_neg (of_decide_eq_false hi)]at h;exact h
 unfold S_chaffref_shown
 refine⟨λq=>?_,λn10=>⟨λq=>?_,λn9=>⟨λq=>j1 _ (by omega) (by omega) ?_,λq=>j1 _ (by omega) (by omega) ?_⟩⟩⟩
 ·have:shownP signs low b=[92,110]:=by unfold shownP;rw[if_pos (by omega)]
  rw[this]at h;exact h
 ·have:shownP signs low b=[92,116]:=by unfold shownP;rw[if_neg (by omega),if_pos (by omega)]
  rw[this]at h;exact h
 ·rw[eq_comm,decide_eq_true_iff];left;omega
 ·rw[Bool.eq_iff_iff];simp;omega
end Go.Proofs.YtjecddabdlapbaaDoor.core

namespace Go.Proofs.YtjecddabdlapbaaDoor.core
open Go.Gx Go.RowKit Go.ChangeShapes Go.WideShapes Go.ChangeAt
set_option linter.unusedVariables false
def litP (s:List UInt8):List UInt8:=[39]++s.flatMap (shownP [39,92] 32)++[39]
theorem flat4 (signs:List UInt8) (low:Nat):∀s:List UInt8,(s.flatMap (shownP signs low)).length<=4*s.length
 |[]=>by simp
 |c::r=>by
  have h1:=shownP_len signs low c
  have h2:=flat4 signs low r
  rw[List.flatMap_cons,List.length_append,List.length_cons]
  omega
theorem flat_take {s:List UInt8} {i:Nat} {c:UInt8} (f:UInt8->List UInt8) (h:s[i]?=some c):(s.take (i+1)).flatMap f=(s.take i).flatMap f++f c:=by
 rw[take_get h,List.flatMap_append];simp
theorem qlit_is (s:List UInt8) (hl:s.length<=140737488355328) (M:Mem) (K:Value->Prop) (h:K (.string (mkS (litP s)))):S_quote_Lit s M K:=by
 unfold S_quote_Lit
 refine⟨λout i=>0<=i/\i<=s.length/\out=[39]++(s.take i.toNat).flatMap (shownP [39,92] 32),λ_ i=>s.length-i.toNat,⟨by omega,by omega,by simp⟩,?_⟩
 rintro out i ⟨h0,h1,rfl⟩
 have hlen:=flat4 [39,92] 32 (s.take i.toNat)
 have htl:(s.take i.toNat).length<=s.length:=by rw[List.length_take];omega
 refine⟨λhlt=>?_,λhge=>⟨?_,?_⟩⟩
 ·obtain⟨c,hc⟩:=getI h0 hlt
  have:=shownP_len [39,92] 32 c
  refine⟨c,h0,hc,s_quote_one _ _ _ _ (qone_is c [39,92] _ _ 32 rfl ⟨_,rfl,?_,by unfold InI;omega,⟨by omega,by omega,?_⟩,by dsimp only;omega⟩)⟩
  ·simp only[List.length_append,List.length_cons,List.length_nil];omega
  ·rw[show(i+1).toNat=i.toNat+1 by omega,flat_take _ hc,List.append_assoc]
 ·simp only[List.length_append,List.length_cons,List.length_nil];omega
 ·have:i.toNat=s.length:=by omega
  rw[this,List.take_length];exact h
theorem rlit_is (s:List UInt8) (hl:s.length<=140737488355328) (M:Mem) (K:Value->Prop) (h:K (.string (mkS (litP s)))):S_chaffref_Lit s M K:=by
 unfold S_chaffref_Lit
 refine⟨λout i=>0<=i/\i<=s.length/\out=[39]++(s.take i.toNat).flatMap (shownP [39,92] 32),λ_ i=>s.length-i.toNat,⟨by omega,by omega,by simp⟩,?_⟩
 rintro out i ⟨h0,h1,rfl⟩
 have hlen:=flat4 [39,92] 32 (s.take i.toNat)
 have htl:(s.take i.toNat).length<=s.length:=by rw[List.length_take];omega
 refine⟨λhlt=>?_,λhge=>⟨?_,?_⟩⟩
 ·obtain⟨c,hc⟩:=getI h0 hlt
  have:=shownP_len [39,92] 32 c
  refine⟨c,h0,hc,?_⟩
  rw[wrapI]
  refine s_chaffref_shown _ _ _ _ _ (shown_is c [39,92] 32 _ _ ⟨_,rfl,?_,by unfold InI;omega,⟨by omega,by omega,?_⟩,by dsimp only;omega⟩)
  ·simp only[List.length_append,List.length_cons,List.length_nil];omega
  ·rw[show(i+1).toNat=i.toNat+1 by omega,flat_take _ hc,List.append_assoc]
 ·simp only[List.length_append,List.length_cons,List.length_nil];omega
 ·have:i.toNat=s.length:=by omega
  rw[this,List.take_length];exact h
end Go.Proofs.YtjecddabdlapbaaDoor.core

namespace Go.Proofs.YtjecddabdlapbaaDoor.core
open Go.Gx Go.RowKit Go.ChangeShapes Go.WideShapes Go.ChangeAt
set_option linter.unusedVariables false
theorem wrapU (n:Nat) (h:n<2 ^ 64):IntKind.wrap .u64 (n:Int)=n:=by
 simp only[IntKind.wrap,IntKind.bits,IntKind.signed,Bool.false_and,Bool.false_eq_true,if_false]
 omega
theorem bvU (n:Nat) (h:n<2 ^ 64):(BitVec.ofInt 64 (n:Int)).toNat=n:=by
 rw[BitVec.ofInt_natCast,BitVec.toNat_ofNat,Nat.mod_eq_of_lt h]
theorem bOrU (a b:Nat) (ha:a<2 ^ 64) (hb:b<2 ^ 64):bOr .u64 a b=((a|||b:Nat):Int):=by
 show IntKind.wrap .u64 ((BitVec.ofInt 64 (a:Int)|||BitVec.ofInt 64 (b:Int)).toNat:Int)=_
 rw[BitVec.toNat_or,bvU a ha,bvU b hb,wrapU _ (Nat.or_lt_two_pow ha hb)]
theorem bAndU (a b:Nat) (ha:a<2 ^ 64) (hb:b<2 ^ 64):bAnd .u64 a b=((a&&& b:Nat):Int):=by
 show IntKind.wrap .u64 ((BitVec.ofInt 64 (a:Int)&&& BitVec.ofInt 64 (b:Int)).toNat:Int)=_
 rw[BitVec.toNat_and,bvU a ha,bvU b hb,wrapU _ (Nat.and_lt_two_pow a hb)]
theorem bShlU (k:Nat) (hk:k<64):bShl .u64 1 k=((2 ^ k:Nat):Int):=by
 show IntKind.wrap .u64 (1*2 ^ (min (k:Int).toNat 64))=_
 have:min (k:Int).toNat 64=k:=by omega
 rw[this,Int.one_mul]
 have h2:(2 ^ k:Nat)<2 ^ 64:=Nat.pow_lt_pow_right (by decide) hk
 have:=wrapU (2 ^ k) h2
 rw[Int.natCast_pow]at this ⊢
 exact this
theorem bShrU (a k:Nat) (hk:k<64):bShr .u64 a k=((a / 2 ^ k:Nat):Int):=by
 show(a:Int).fdiv (2 ^ (min (k:Int).toNat 64))=_
 have:min (k:Int).toNat 64=k:=by omega
 rw[this,Int.ofNat_fdiv,Int.natCast_pow];rfl
def Uw (p:Nat->Bool) (w:Nat):Nat->Nat
 |0=>0
 |j+1=>Uw p w j+(if p (64*w+j)=true then 2 ^ j else 0)
theorem Uw_lt (p:Nat->Bool) (w:Nat):∀j,Uw p w j<2 ^ j
 |0=>by simp[Uw]
 |j+1=>by
  have:=Uw_lt p w j
  simp only[Uw,Nat.pow_succ]
  split<;>omega
theorem Uw_bit (p:Nat->Bool) (w:Nat) (k:Nat):∀j,(Uw p w j).testBit k=(decide (k<j)&&p (64*w+k))
 |0=>by simp[Uw]
 |j+1=>by
  have ih:=Uw_bit p w k j
  have hlt:=Uw_lt p w j
  simp only[Uw]
  split
  ·rename_i hp
   have e:Uw p w j+2 ^ j=2 ^ j*1|||Uw p w j:=by
    rw[<-Nat.two_pow_add_eq_or_of_lt hlt 1];omega
   rw[e,Nat.mul_one,Nat.testBit_or,Nat.testBit_two_pow,ih]
   by_cases hk:j=k
   ·subst hk;simp[hp]
   ·have:(decide (k<j+1))=decide (k<j):=by congr 1;simp;omega
    rw[this];simp[hk]
  ·rename_i hp
   rw[Nat.add_zero,ih]
   by_cases hk:j=k
   ·subst hk;simp[hp]
   ·have:(decide (k<j+1))=decide (k<j):=by congr 1;simp;omega
    rw[this]
def hasW (s:List Nat) (b:Nat):Bool:=(s.getD (b / 64) 0).testBit (b % 64)
theorem word_ext {x y:Nat} (hx:x<2 ^ 64) (hy:y<2 ^ 64) (h:∀k,k<64->x.testBit k=y.testBit k):x=y:=by
 refine Nat.eq_of_testBit_eq λk=>?_
 by_cases hk:k<64
 ·exact h k hk
 ·have:2 ^ 64<=2 ^ k:=Nat.pow_le_pow_right (by decide) (by omega)
  rw[Nat.testBit_lt_two_pow (by omega),Nat.testBit_lt_two_pow (by omega)]
theorem word_is {x:Nat} (p:Nat->Bool) (w:Nat) (hx:x<2 ^ 64) (h:∀k,k<64->x.testBit k=p (64*w+k)):x=Uw p w 64:=
 word_ext hx (Uw_lt p w 64) λk hk=>by rw[h k hk,Uw_bit];simp[hk]
theorem hasW_at (s:List Nat) (w k:Nat) (hk:k<64):hasW s (64*w+k)=(s.getD w 0).testBit k:=by
 unfold hasW
 rw[show(64*w+k) / 64=w by omega,show(64*w+k) % 64=k by omega]
theorem has_bit (x k:Nat) (hk:k<64):((bShr .u64 (x:Int) (k:Int)).tmod 2==(1:Int))=x.testBit k:=by
 rw[bShrU x k hk,Nat.testBit_eq_decide_div_mod_eq,Int.tmod_eq_emod_of_nonneg (Int.natCast_nonneg _)]
 generalize x / 2 ^ k=y
 rw[Bool.eq_iff_iff,beq_iff_eq,decide_eq_true_iff]
 omega
def Us (p:Nat->Bool):X_api_Set:=⟨(Uw p 0 64:Nat),(Uw p 1 64:Nat),(Uw p 2 64:Nat),(Uw p 3 64:Nat)⟩
def bitS (s:X_api_Set) (b:Nat):Bool:=hasW [s.w0.toNat,s.w1.toNat,s.w2.toNat,s.w3.toNat] b
theorem nat_of {z:Int} (h:(Lit.int .u64 z).wf=true):∃n:Nat,z=n/\n<2 ^ 64:=by
 simp only[Lit.wf,IntKind.min,IntKind.max,Bool.and_eq_true]at h
 refine⟨z.toNat,?_,?_⟩<;>simp[IntKind.bits,IntKind.signed]at h<;>omega
theorem Us_congr {p q:Nat->Bool} (h:∀b,b<256->p b=q b):Us p=Us q:=by
 have key:∀(w:Nat),w<4->∀j,j<=64->Uw p w j=Uw q w j:=by
  intro w hw j
  induction j with
  |zero=>intro _;rfl
  |succ j ih=>intro hj;rw[Uw,Uw,ih (by omega),h (64*w+j) (by omega)]
 unfold Us
 rw[key 0 (by omega) 64 (by omega),key 1 (by omega) 64 (by omega),key 2 (by omega) 64 (by omega),key 3 (by omega) 64 (by omega)]
theorem bit_get {s:X_api_Set} (h:wfS s) {x:Nat} (hx:x<256):∃w:Nat,[s.w0,s.w1,s.w2,s.w3][x / 64]?=some (w:Int)/\w<2 ^ 64/\w.testBit (x % 64)=bitS s x:=by
 obtain⟨a,b,c,d⟩:=s
 obtain⟨h0,h1,h2,h3⟩:=h
 obtain⟨a,rfl,ha⟩:=nat_of h0
 obtain⟨b,rfl,hb⟩:=nat_of h1
 obtain⟨c,rfl,hc⟩:=nat_of h2
 obtain⟨d,rfl,hd⟩:=nat_of h3
 have hq:x / 64<4:=by omega
 have hx':=hasW_at [a,b,c,d] (x / 64) (x % 64) (by omega)
 rw[show 64*(x / 64)+x % 64=x by omega]at hx'
 match h:x / 64,hq with
 |0,_=>exact⟨a,rfl,ha,by rw[h]at hx';exact hx'.symm⟩
 |1,_=>exact⟨b,rfl,hb,by rw[h]at hx';exact hx'.symm⟩
 |2,_=>exact⟨c,rfl,hc,by rw[h]at hx';exact hx'.symm⟩
 |3,_=>exact⟨d,rfl,hd,by rw[h]at hx';exact hx'.symm⟩
theorem rhas_is {s:X_api_Set} (hs:wfS s) {x:Nat} (hx:x<256) {M:Mem} (K:Value->Prop) (h:K (.bool (bitS s x))):S_chaffref_Has s (x:Int) M K:=by
 unfold S_chaffref_Has
 have e1:(x:Int).tdiv 64=((x / 64:Nat):Int):=by rw[Int.tdiv_eq_ediv_of_nonneg (by omega)];omega
 have e2:(x:Int).tmod 64=((x % 64:Nat):Int):=by rw[Int.tmod_eq_emod_of_nonneg (by omega)];omega
 obtain⟨w,hw,_,hb⟩:=bit_get hs hx
 rw[e1,e2]
 refine⟨by unfold InI;omega,by omega,by omega,(w:Int),?_,by omega,?_⟩
 ·rw[show 0+(((x / 64:Nat):Int)).toNat*1=x / 64 by omega];exact hw
 ·rw[has_bit _ _ (by omega),hb];exact h
theorem u8_shift:∀n:Nat,n<256->bShr .u8 (n:Int) 6=((n / 64:Nat):Int)/\bAnd .u8 (n:Int) 63=((n % 64:Nat):Int):=by decide+kernel
theorem bit_one (w k:Nat) (hw:w<2 ^ 64) (hk:k<64):((bAnd .u64 (bShr .u64 (w:Int) (k:Int)) 1:Int)==(1:Int))=w.testBit k:=by
 rw[bShrU w k hk,Nat.testBit_eq_decide_div_mod_eq]
 have h1:w / 2 ^ k<2 ^ 64:=Nat.lt_of_le_of_lt (Nat.div_le_self _ _) hw
 rw[show(1:Int)=((1:Nat):Int) from rfl,bAndU _ _ h1 (by decide),Nat.and_one_is_mod]
 generalize w / 2 ^ k=y
 rw[Bool.eq_iff_iff,beq_iff_eq,decide_eq_true_iff]
 omega
theorem has_is {s:X_api_Set} (hs:wfS s) (c:UInt8) {M:Mem} (K:Value->Prop) (h:K (.bool (bitS s c.toNat))):S_set_Has s (c.toNat:Int) M K:=by
 have hc:=c.toNat_lt
 obtain⟨e1,e2⟩:=u8_shift c.toNat hc
 obtain⟨w,hw,hlt,hb⟩:=bit_get hs hc
 unfold S_set_Has
 rw[e1,e2]
 refine⟨by omega,by omega,(w:Int),?_,by omega,?_⟩
 ·rw[show 0+(((c.toNat / 64:Nat):Int)).toNat*1=c.toNat / 64 by omega];exact hw
 ·rw[bit_one _ _ hlt (by omega),hb];exact h
theorem where_is (fv:Value) (M:Mem) (p:Nat->Bool) (hp:∀x:Nat,x<256->CallF Tryd.prog fv [.int .i64 x] M (λv _=>v= .bool (p x))) (K:Value->Prop)
  (h:K (Us p).val):S_chaffref_Where fv M K:=by
 unfold S_chaffref_Where
 let Z:Nat->List Int:=λb=>[(Uw p 0 (min b 64):Nat),(Uw p 1 (min (b-64) 64):Nat),(Uw p 2 (min (b-128) 64):Nat),(Uw p 3 (min (b-192) 64):Nat)]
 refine⟨λb zs=>∃n:Nat,b=n/\n<=256/\zs=Z n,λb _=>256-b.toNat,⟨0,rfl,by omega,rfl⟩,λb zs ⟨n,hb,hn,hz⟩=>?_⟩
 subst hb
 subst hz
 refine⟨λhlt=>?_,λhge=>?_⟩
 ·have hlt':n<256:=by omega
  refine(hp n hlt').mono λv _ _ hv=>⟨p n,hv,λhpn=>?_,λhpn=>?_⟩
  ·have e1:(n:Int).tdiv 64=((n / 64:Nat):Int):=by rw[Int.tdiv_eq_ediv_of_nonneg (by omega)];omega
   have e2:(n:Int).tmod 64=((n % 64:Nat):Int):=by rw[Int.tmod_eq_emod_of_nonneg (by omega)];omega
   rw[e1,e2]
   have hq:n / 64<4:=by omega
   have ei:(0+(((n / 64:Nat):Int)).toNat*1)=n / 64:=by omega
   rw[ei]
   have hr:n % 64<64:=by omega
   have hU:=Uw_lt p (n / 64) (n % 64)
   have hpow:2 ^ (n % 64)<2 ^ 64:=Nat.pow_lt_pow_right (by decide) hr
   have hpow2:2 ^ (n % 64)*2<=2 ^ 64:=by rw[<-Nat.pow_succ];exact Nat.pow_le_pow_right (by decide) (by omega)
   have hget:(Z n)[n / 64]?=some ((Uw p (n / 64) (n % 64):Nat):Int):=by
    show[((Uw p 0 (min n 64):Nat):Int),(Uw p 1 (min (n-64) 64):Nat),(Uw p 2 (min (n-128) 64):Nat),(Uw p 3 (min (n-192) 64):Nat)][n / 64]?=_
    match h:n / 64,hq with
    |0,_=>rw[show min n 64=n % 64 by omega];rfl
    |1,_=>rw[show min (n-64) 64=n % 64 by omega];rfl
    |2,_=>rw[show min (n-128) 64=n % 64 by omega];rfl
    |3,_=>rw[show min (n-192) 64=n % 64 by omega];rfl
   refine⟨by unfold InI;omega,by omega,by omega,_,hget,by omega,by omega,by omega,by show n / 64<4;exact hq,?_⟩
   rw[bShlU _ hr]
   have hw:IntKind.wrap .u64 (((Uw p (n / 64) (n % 64):Nat):Int)+((2 ^ (n % 64):Nat):Int))=((Uw p (n / 64) (n % 64+1):Nat):Int):=by
    rw[<-Int.natCast_add,wrapU _ (by omega)]
    have:p (64*(n / 64)+n % 64)=true:=by rw[show 64*(n / 64)+n % 64=n by omega];exact hpn
    simp only[Uw,this,if_true]
   rw[hw]
   have hset:(Z n).set (n / 64) ((Uw p (n / 64) (n % 64+1):Nat):Int)=Z (n+1):=by
    show[((Uw p 0 (min n 64):Nat):Int),(Uw p 1 (min (n-64) 64):Nat),(Uw p 2 (min (n-128) 64):Nat),(Uw p 3 (min (n-192) 64):Nat)].set (n / 64) _=[((Uw p 0 (min (n+1) 64):Nat):Int),(Uw p 1 (min (n+1-64) 64):Nat),(Uw p 2 (min (n+1-128) 64):Nat),(Uw p 3 (min (n+1-192) 64):Nat)]
    match h:n / 64,hq with
    |0,_=>rw[show min (n+1) 64=n % 64+1 by omega,show min (n+1-64) 64=min (n-64) 64 by omega,show min (n+1-128) 64=min (n-128) 64 by omega,show min (n+1-192) 64=min (n-192) 64 by omega];rfl
    |1,_=>rw[show min (n+1-64) 64=n % 64+1 by omega,show min (n+1) 64=min n 64 by omega,show min (n+1-128) 64=min (n-128) 64 by omega,show min (n+1-192) 64=min (n-192) 64 by omega];rfl
    |2,_=>rw[show min (n+1-128) 64=n % 64+1 by omega,show min (n+1) 64=min n 64 by omega,show min (n+1-64) 64=min (n-64) 64 by omega,show min (n+1-192) 64=min (n-192) 64 by omega];rfl
    |3,_=>rw[show min (n+1-192) 64=n % 64+1 by omega,show min (n+1) 64=min n 64 by omega,show min (n+1-64) 64=min (n-64) 64 by omega,show min (n+1-128) 64=min (n-128) 64 by omega];rfl
   rw[hset]
   exact⟨by unfold InI;omega,⟨n+1,by omega,by omega,rfl⟩,by dsimp only;omega⟩
  ·have hpn':p n=false:=by simpa using hpn
   have hsame:∀w:Nat,Uw p w (min (n+1-64*w) 64)=Uw p w (min (n-64*w) 64):=by
    intro w
    by_cases h1:64*w<=n/\n<64*w+64
    ·rw[show min (n+1-64*w) 64=min (n-64*w) 64+1 by omega]
     simp only[Uw]
     rw[show 64*w+min (n-64*w) 64=n by omega,hpn']
     simp
    ·rw[show min (n+1-64*w) 64=min (n-64*w) 64 by omega]
   have hZ:Z n=Z (n+1):=by
    have h0:=hsame 0
    have h1:=hsame 1
    have h2:=hsame 2
    have h3:=hsame 3
    simp only[Nat.mul_zero,Nat.sub_zero,Nat.mul_one]at h0 h1 h2 h3
    show[((Uw p 0 (min n 64):Nat):Int),(Uw p 1 (min (n-64) 64):Nat),(Uw p 2 (min (n-128) 64):Nat),(Uw p 3 (min (n-192) 64):Nat)]=[((Uw p 0 (min (n+1) 64):Nat):Int),(Uw p 1 (min (n+1-64) 64):Nat),(Uw p 2 (min (n+1-128) 64):Nat),(Uw p 3 (min (n+1-192) 64):Nat)]
    rw[h0,h1,show min (n+1-128) 64=min (n+1-64*2) 64 by omega,h2,show min (n+1-192) 64=min (n+1-64*3) 64 by omega,h3]
   unfold S_chaffref_Where_J1
   exact⟨by unfold InI;omega,⟨n+1,by omega,by omega,hZ⟩,by dsimp only;omega⟩
 ·have hn:n=256:=by omega
  subst hn
  exact⟨_,_,_,_,rfl,rfl,_,_,_,_,rfl,h⟩
theorem Uw_congr {p q:Nat->Bool} {w:Nat} (h:∀k,k<64->p (64*w+k)=q (64*w+k)):Uw p w 64=Uw q w 64:=by
 have key:∀j,j<=64->Uw p w j=Uw q w j:=by
  intro j
  induction j with
  |zero=>intro _;rfl
  |succ j ih=>intro hj;rw[Uw,Uw,ih (by omega),h j (by omega)]
 exact key 64 (by omega)
def U4 (p:Nat->Bool):List Int:=[(Uw p 0 64:Nat),(Uw p 1 64:Nat),(Uw p 2 64:Nat),(Uw p 3 64:Nat)]
theorem U4_get (p:Nat->Bool) {w:Nat} (hw:w<4):(U4 p)[w]?=some ((Uw p w 64:Nat):Int):=by
 match w,hw with
 |0,_=>rfl
 |1,_=>rfl
 |2,_=>rfl
 |3,_=>rfl
theorem U4_set {p q:Nat->Bool} {w:Nat} (hw:w<4) (h:∀x,x<256->x / 64≠w->p x=q x):(U4 p).set w ((Uw q w 64:Nat):Int)=U4 q:=by
 have key:∀v,v<4->v≠w->Uw p v 64=Uw q v 64:=λv hv hne=>Uw_congr λk hk=>h _ (by omega) (by omega)
 match w,hw with
 |0,_=>show[_,_,_,_]=[_,_,_,_];rw[key 1 (by omega) (by omega),key 2 (by omega) (by omega),key 3 (by omega) (by omega)]
 |1,_=>show[_,_,_,_]=[_,_,_,_];rw[key 0 (by omega) (by omega),key 2 (by omega) (by omega),key 3 (by omega) (by omega)]
 |2,_=>show[_,_,_,_]=[_,_,_,_];rw[key 0 (by omega) (by omega),key 1 (by omega) (by omega),key 3 (by omega) (by omega)]
 |3,_=>show[_,_,_,_]=[_,_,_,_];rw[key 0 (by omega) (by omega),key 1 (by omega) (by omega),key 2 (by omega) (by omega)]
theorem i64_shift:∀n:Nat,n<256->bShr .i64 (n:Int) 6=((n / 64:Nat):Int)/\bAnd .i64 (n:Int) 63=((n % 64:Nat):Int):=by decide+kernel
def inR (low high:Int) (x:Nat):Bool:=decide (low<=x/\(x:Int)<=high)
theorem range_is (low high:Int) {M:Mem} (K:Value->Prop) (hK:K (Us (inR low high)).val):S_set_Range low high M K:=by
 unfold S_set_Range
 have hz:∀p:Nat->Bool,(∀x,x<256->p x=false)->U4 p=[0,0,0,0]:=λp hp=>by
  have key:∀w,w<4->Uw p w 64=0:=λw hw=>by
   have h1:Uw p w 64=Uw (λ_=>false) w 64:=Uw_congr λk hk=>hp _ (by omega)
   have h2:∀j,Uw (λ_=>false) w j=0:=by
    intro j
    induction j with
    |zero=>rfl
    |succ j ih=>rw[Uw,ih];simp
   rw[h1,h2]
  unfold U4
  rw[key 0 (by omega),key 1 (by omega),key 2 (by omega),key 3 (by omega)];rfl
 let pb:Int->Nat->Bool:=λb x=>decide (low<=x/\(x:Int)<b)
 refine⟨λb zs=>(if low>0 then low else 0)<=b/\(b=(if low>0 then low else 0)\/b<=(if high<255 then high else 255)+1)/\zs=U4 (pb b),λb _=>(256-b).toNat,⟨Int.le_refl _,.inl rfl,(hz _ λx _=>?_).symm⟩,λb zs ⟨h0,h1,h2⟩=>⟨λhlt=>?_,λhge=>?_⟩⟩
 ·simp only[pb,decide_eq_false_iff_not];split<;>omega
 ·subst h2
  have hb0:0<=b:=by split at h0<;>omega
  have hb1:b<=255:=by split at hlt<;>omega
  have hb2:low<=b:=by split at h0<;>omega
  obtain⟨n,rfl⟩:=Int.eq_ofNat_of_zero_le hb0
  have hn:n<256:=by omega
  obtain⟨e1,e2⟩:=i64_shift n hn
  rw[e1,e2]
  have hidx:0+(((n / 64:Nat):Int)).toNat*1=n / 64:=by omega
  rw[hidx]
  have hw4:n / 64<4:=by omega
  refine⟨by omega,by omega,_,U4_get _ hw4,by omega,by omega,by omega,by show n / 64<4;exact hw4,by unfold InI;omega,⟨?_,?_,?_⟩,by dsimp only;omega⟩
  ·split at h0<;>(split<;>omega)
  ·right;split at hlt<;>(split<;>omega)
  ·rw[bShlU _ (by omega),bOrU _ _ (Uw_lt _ _ _) (Nat.pow_lt_pow_right (by decide) (by omega))]
   have hword:(Uw (pb (n:Int)) (n / 64) 64|||2 ^ (n % 64))=Uw (pb ((n:Int)+1)) (n / 64) 64:=by
    refine word_is _ _ (Nat.or_lt_two_pow (Uw_lt _ _ _) (Nat.pow_lt_pow_right (by decide) (by omega))) λk hk=>?_
    rw[Nat.testBit_or,Uw_bit,Nat.testBit_two_pow]
    simp only[pb,hk,decide_true,Bool.true_and]
    rw[Bool.eq_iff_iff]
    simp only[Bool.or_eq_true,decide_eq_true_eq]
    omega
   rw[hword]
   exact U4_set hw4 λx hx hne=>by simp only[pb];rw[decide_eq_decide];omega
 ·subst h2
  refine⟨_,_,_,_,rfl,rfl,_,_,_,_,rfl,?_⟩
  have:Us (pb b)=Us (inR low high):=Us_congr λx hx=>by
   simp only[pb,inR];rw[decide_eq_decide]
   split at h0<;>split at h1<;>omega
  rw[<-this]at hK;exact hK
end Go.Proofs.YtjecddabdlapbaaDoor.core

namespace Go.Proofs.YtjecddabdlapbaaDoor.core
open Go.Gx Go.RowKit Go.ChangeShapes Go.WideShapes Go.ChangeAt
set_option linter.unusedVariables false
def p8 (a:Nat):Nat:=a % 2+a / 2 % 2+a / 4 % 2+a / 8 % 2+a / 16 % 2+a / 32 % 2+a / 64 % 2+a / 128 % 2
def s1 (x m:Nat):Nat:=(x / 2&&& m)+(x&&& m)
def s2 (x m:Nat):Nat:=(x / 4&&& m)+(x&&& m)
def s3 (x m:Nat):Nat:=(x / 16+x)&&& m
theorem low1:∀(a:Fin 256) (k:Fin 2),(a.val / 2+128*k.val)&&& 85=a.val / 2&&& 85:=by decide+kernel
theorem low3:∀(a:Fin 256),s3 (s2 (s1 a.val 85) 51) 15=p8 a.val:=by decide+kernel
end Go.Proofs.YtjecddabdlapbaaDoor.core

namespace Go.Proofs.YtjecddabdlapbaaDoor.core
open Go.Gx Go.RowKit Go.ChangeShapes Go.WideShapes Go.ChangeAt
set_option linter.unusedVariables false
theorem two_odd:∀(x:Nat),0<x->∃k m,x=2 ^ k*(2*m+1):=by
 intro x
 induction x using Nat.strongRecOn with
 |_ x ih=>
  intro h
  by_cases he:x % 2=0
  ·obtain⟨k,m,e⟩:=ih (x / 2) (by omega) (by omega)
   refine⟨k+1,m,?_⟩
   rw[Nat.pow_succ,Nat.mul_right_comm,<-e];omega
  ·exact⟨0,x / 2,by omega⟩
theorem tz_plain {x:Nat} (h0:0<x) (hx:x<2 ^ 64):∃k,k<64/\x.testBit k=true/\(∀j,j<k->x.testBit j=false)/\x&&& (2 ^ 64-x)=2 ^ k:=by
 obtain⟨k,m,e⟩:=two_odd x h0
 have hp:0<2 ^ k:=Nat.two_pow_pos k
 have e1:x=2 ^ (k+1)*m+2 ^ k:=by rw[e,Nat.pow_succ,Nat.mul_add,Nat.mul_one,Nat.mul_assoc]
 have e2:x-1=2 ^ (k+1)*m+(2 ^ k-1):=by omega
 have hlt:2 ^ k<2 ^ (k+1):=Nat.pow_lt_pow_right (by decide) (by omega)
 have b1:∀j,x.testBit j=if j<k+1 then(2 ^ k).testBit j else m.testBit (j-(k+1)):=λj=>by
  rw[e1,Nat.testBit_two_pow_mul_add _ hlt]
 have b2:∀j,(x-1).testBit j=if j<k+1 then(2 ^ k-1).testBit j else m.testBit (j-(k+1)):=λj=>by
  rw[e2,Nat.testBit_two_pow_mul_add _ (by omega)]
 have hxk:x.testBit k=true:=by rw[b1,if_pos (by omega),Nat.testBit_two_pow];simp
 have hlow:∀j,j<k->x.testBit j=false:=λj hj=>by rw[b1,if_pos (by omega),Nat.testBit_two_pow];simp;omega
 have hk:k<64:=by
  rcases Nat.lt_or_ge k 64 with h|h
  ·exact h
  ·have:=Nat.testBit_lt_two_pow (Nat.lt_of_lt_of_le hx (Nat.pow_le_pow_right (by decide) h))
   rw[this]at hxk;cases hxk
 refine⟨k,hk,hxk,hlow,Nat.eq_of_testBit_eq λi=>?_⟩
 have hc:2 ^ 64-x=2 ^ 64-((x-1)+1):=by omega
 rw[Nat.testBit_and,hc,Nat.testBit_two_pow_sub_succ (by omega),b2,Nat.testBit_two_pow]
 rcases Nat.lt_trichotomy i k with h|h|h
 ·rw[hlow i h];simp;omega
 ·subst h
  rw[hxk,if_pos (by omega),Nat.testBit_two_pow_sub_one];simp;exact hk
 ·rw[b1,if_neg (by omega),if_neg (by omega)]
  have:¬k=i:=by omega
  simp[this]
  intro h1 _;exact h1
def dBru:Nat:=285870213051353865
def dTab:List Nat:=[0,1,56,2,57,49,28,3,61,58,42,50,38,29,17,4,62,47,59,36,45,43,51,22,53,39,33,30,24,18,12,5,63,55,48,27,60,41,37,16,46,35,44,21,52,32,23,11,54,26,40,15,34,20,31,10,25,14,19,9,13,8,7,6]
theorem dTab_at:∀k:Fin 64,2 ^ k.val*dBru % 2 ^ 64 / 2 ^ 58<64/\dTab[2 ^ k.val*dBru % 2 ^ 64 / 2 ^ 58]?=some k.val:=by decide+kernel
end Go.Proofs.YtjecddabdlapbaaDoor.core

namespace Go.Proofs.YtjecddabdlapbaaDoor.core
open Go.Gx Go.RowKit Go.ChangeShapes Go.WideShapes Go.ChangeAt
set_option linter.unusedVariables false
theorem shrW (x k:Nat) (hk:k<64):bShr .u64 (x:Int) (k:Int)=((x / 2 ^ k:Nat):Int):=bShrU x k hk
def TabM (M:Mem) (g:Nat) (zs:List Nat):Prop:=∀i z:Nat,zs[i]?=some z->M.cell g i=some (.int .u8 (z:Int))
theorem TabM.le {M M':Mem} {g:Nat} {zs:List Nat} (h:TabM M g zs) (hl:M.le M'):TabM M' g zs:=λi z hz=>hl.cell (h i z hz)
theorem neg_word {x:Nat} (h0:0<x) (hx:x<2 ^ 64):IntKind.wrap .u64 (0-(x:Int))=((2 ^ 64-x:Nat):Int):=by
 simp only[IntKind.wrap,IntKind.bits,IntKind.signed,Bool.false_and,Bool.false_eq_true,if_false]
 omega
theorem wrap_word (n:Nat):IntKind.wrap .u64 (n:Int)=((n % 2 ^ 64:Nat):Int):=by
 simp only[IntKind.wrap,IntKind.bits,IntKind.signed,Bool.false_and,Bool.false_eq_true,if_false]
 omega
theorem tz_is {x:Nat} (h0:0<x) (hx:x<2 ^ 64) {M:Mem} (hT:TabM M 0 dTab) (K:Value->Prop) (hK:∀k:Nat,k<64->x.testBit k=true->(∀j,j<k->x.testBit j=false)->K (.int .i64 (k:Int))):S_math_bits_TrailingZeros64 (x:Int) M K:=by
 unfold S_math_bits_TrailingZeros64
 obtain⟨k,hk,h1,h2,h3⟩:=tz_plain h0 hx
 refine⟨λh=>by omega,λ_=>?_⟩
 obtain⟨g1,g2⟩:=dTab_at ⟨k,hk⟩
 simp only at g1 g2
 have e:bShr .u64 (IntKind.wrap .u64 ((bAnd .u64 (x:Int) (IntKind.wrap .u64 (0-(x:Int))))*285870213051353865)) 58=((2 ^ k*dBru % 2 ^ 64 / 2 ^ 58:Nat):Int):=by
  rw[neg_word h0 hx,bAndU _ _ hx (by omega),h3,show(285870213051353865:Int)=((dBru:Nat):Int) from rfl,<-Int.natCast_mul,wrap_word,show(58:Int)=((58:Nat):Int) from rfl,shrW _ 58 (by decide)]
 rw[e]
 refine⟨by omega,by omega,(k:Int),λj v hj=>?_,?_⟩
 ·have hj0:j=0:=by
   have:=(List.getElem?_eq_some_iff.1 hj).1
   simp at this;omega
  subst hj0
  simp only[List.getElem?_cons_zero,Option.some.injEq]at hj
  subst hj
  have:=hT _ _ g2
  rw[show 0+((2 ^ k*dBru % 2 ^ 64 / 2 ^ 58:Nat):Int).toNat*1+0=2 ^ k*dBru % 2 ^ 64 / 2 ^ 58 by omega]
  exact this
 ·rw[wrap_in (by unfold InI;omega)]
  exact hK k hk h1 h2
def FirstAt (p:Nat->Bool) (m:Int) (z:Int):Prop:=
 (z= -1/\∀b:Nat,m<=b->b<256->p b=false)\/∃b:Nat,z=b/\b<256/\m<=b/\p b=true/\∀c:Nat,m<=c->c<b->p c=false
theorem FirstAt.eq {p:Nat->Bool} {m z w:Int} (h:FirstAt p m z) (k:FirstAt p m w):z=w:=by
 rcases h with⟨rfl,h⟩|⟨b,rfl,hb,hm,hp,h⟩<;>rcases k with⟨rfl,k⟩|⟨c,rfl,hc,hn,hq,k⟩
 ·rfl
 ·rw[h c hn hc]at hq;cases hq
 ·rw[k b hm hb]at hp;cases hp
 ·rcases Nat.lt_trichotomy b c with e|e|e
  ·rw[k b hm e]at hp;cases hp
  ·rw[e]
  ·rw[h c hn e]at hq;cases hq
theorem shr6 (x:Nat):bShr .i64 (x:Int) 6=((x / 64:Nat):Int):=by
 show(x:Int).fdiv (2 ^ (min (6:Int).toNat 64))=_
 rw[show(2:Int) ^ (min (6:Int).toNat 64)=((64:Nat):Int) from rfl,Int.ofNat_fdiv]
theorem and63 (x:Nat) (hx:x<2 ^ 63):bAnd .i64 (x:Int) 63=((x % 64:Nat):Int):=by
 show IntKind.wrap .i64 ((BitVec.ofInt 64 (x:Int)&&& BitVec.ofInt 64 (63:Int)).toNat:Int)=_
 have h2:(BitVec.ofInt 64 (63:Int)).toNat=2 ^ 6-1:=by decide
 rw[BitVec.toNat_and,bvU x (by omega),h2,Nat.and_two_pow_sub_one_eq_mod]
 exact wrap_in (by unfold InI;omega)
theorem shl6 (x:Nat) (hx:x<4):bShl .i64 (x:Int) 6=((64*x:Nat):Int):=by
 show IntKind.wrap .i64 ((x:Int)*2 ^ (min (6:Int).toNat 64))=_
 rw[show(2:Int) ^ (min (6:Int).toNat 64)=64 from rfl]
 have:=wrap_in (x:=(x:Int)*64) (by unfold InI;omega)
 rw[this];omega
theorem struck (w k:Nat) (hw:w<2 ^ 64) (hk:k<64):∃v:Nat,bShl .u64 (bShr .u64 (w:Int) (k:Int)) (k:Int)=(v:Int)/\v<2 ^ 64/\∀j,j<64->v.testBit j=(decide (k<=j)&&w.testBit j):=by
 refine⟨w / 2 ^ k*2 ^ k,?_,?_,λj hj=>?_⟩
 ·rw[shrW w k hk]
  show IntKind.wrap .u64 (((w / 2 ^ k:Nat):Int)*2 ^ (min (k:Int).toNat 64))=_
  have:min (k:Int).toNat 64=k:=by omega
  rw[this]
  have h2:=wrapU (w / 2 ^ k*2 ^ k) (Nat.lt_of_le_of_lt (Nat.div_mul_le_self _ _) hw)
  rw[<-h2,Int.natCast_mul,Int.natCast_pow];rfl
 ·exact Nat.lt_of_le_of_lt (Nat.div_mul_le_self _ _) hw
 ·rw[Nat.mul_comm,Nat.testBit_two_pow_mul,Nat.testBit_div_two_pow]
  by_cases h:k<=j
  ·simp[h,show j-k+k=j by omega]
  ·simp[h]
theorem first_is {s:X_api_Set} (hs:wfS s) {m:Int} (hm:m<=9223372036854775807) {M:Mem} (hT:TabM M 0 dTab) (K:Value->Prop) (hK:∀z,FirstAt (bitS s) m z->K (.int .i64 z)):S_set_First s m M K:=by
 unfold S_set_First
 obtain⟨f,hf⟩:∃f:Nat,(if m>0 then m else 0)=(f:Int):=⟨(if m>0 then m else 0).toNat,by split<;>omega⟩
 have hfm:∀b:Nat,m<=b↔f<=b:=λb=>by split at hf<;>omega
 have hf63:f<2 ^ 63:=by split at hf<;>omega
 simp only[hf,shr6,and63 f hf63]
 have hKn:(∀b:Nat,f<=b->b<256->bitS s b=false)->K (.int .i64 (-1)):=λh=>hK _ (.inl ⟨rfl,λb h1 h2=>h b ((hfm b).1 h1) h2⟩)
 have hKs:∀b:Nat,b<256->f<=b->bitS s b=true->(∀c:Nat,f<=c->c<b->bitS s c=false)->K (.int .i64 (b:Int)):=λb h1 h2 h3 h4=>
  hK _ (.inr ⟨b,rfl,h1,(hfm b).2 h2,h3,λc g1 g2=>h4 c ((hfm c).1 g1) g2⟩)
 clear hK hfm hf hm
 refine⟨λi=>∃q:Nat,i=q/\f / 64<=q/\∀b:Nat,f<=b->b<64*q->b<256->bitS s b=false,λi=>(4-i).toNat,⟨f / 64,rfl,Nat.le_refl _,λb h1 h2 _=>by omega⟩,λi ⟨q,hi,hq,hno⟩=>?_⟩
 subst hi
 refine⟨λh=>?_,λh=>hKn λb h1 h2=>hno b h1 (by omega) h2⟩
 obtain⟨w,hw,hw2,_⟩:=bit_get hs (x:=64*q) (by omega)
 rw[show 64*q / 64=q by omega]at hw
 have hb:∀k,k<64->w.testBit k=bitS s (64*q+k):=λk hk=>by
  obtain⟨w',hw',_,hb'⟩:=bit_get hs (x:=64*q+k) (by omega)
  rw[show(64*q+k) / 64=q by omega,hw]at hw'
  rw[show(64*q+k) % 64=k by omega]at hb'
  simp only[Option.some.injEq]at hw'
  have:w=w':=by omega
  rw[this];exact hb'
 have key:∀v:Nat,v<2 ^ 64->(∀j,j<64->v.testBit j=(decide (f<=64*q+j)&&bitS s (64*q+j)))->
   S_set_First_J1 M (q:Int) (λi=>∃q:Nat,i=q/\f / 64<=q/\∀b:Nat,f<=b->b<64*q->b<256->bitS s b=false) (λi=>(4-i).toNat) (v:Int) K:=λv hv hbit=>by
  unfold S_set_First_J1
  refine⟨λhne=>?_,λheq=>⟨by unfold InI;omega,⟨q+1,by omega,by omega,λb h1 h2 h3=>?_⟩,by dsimp only;omega⟩⟩
  ·refine s_math_bits_TrailingZeros64 _ _ _ (tz_is (by omega) hv hT _ λk hk h1 h2=>⟨_,rfl,?_⟩)
   have h3:=hbit k hk
   rw[h1]at h3
   simp only[Bool.true_eq,Bool.and_eq_true,decide_eq_true_eq]at h3
   rw[shl6 q (by omega),<-Int.natCast_add]
   refine⟨by unfold InI;omega,hKs _ (by omega) h3.1 h3.2 λc g1 g2=>?_⟩
   by_cases hc:c<64*q
   ·exact hno c g1 hc (by omega)
   ·have h4:=hbit (c-64*q) (by omega)
    rw[h2 _ (by omega),show 64*q+(c-64*q)=c by omega]at h4
    simpa[g1]using h4
  ·by_cases hc:b<64*q
   ·exact hno b h1 hc h3
   ·have h4:=hbit (b-64*q) (by omega)
    have hv0:v=0:=by
     have:=Classical.not_not.1 heq
     omega
    rw[hv0,Nat.zero_testBit,show 64*q+(b-64*q)=b by omega]at h4
    simpa[h1]using h4
 refine⟨by omega,by omega,(w:Int),by rw[show 0+(q:Int).toNat*1=q by omega];exact hw,λhe=>?_,λhne=>?_⟩
 ·obtain⟨v,e,hv,hbit⟩:=struck w (f % 64) hw2 (by omega)
  refine⟨by omega,by omega,?_⟩
  rw[e]
  refine key v hv λj hj=>?_
  rw[hbit j hj,hb j hj]
  congr 1
  rw[decide_eq_decide];omega
 ·refine key w hw2 λj hj=>?_
  rw[hb j hj,show decide (f<=64*q+j)=true by simp;omega];rfl
theorem wrap8 (b:Nat) (h:b<256):IntKind.wrap .u8 (b:Int)=((b.toUInt8.toNat:Nat):Int):=by
 have e:b.toUInt8.toNat=b:=by simp[Nat.toUInt8];omega
 rw[e]
 simp only[IntKind.wrap,IntKind.bits,IntKind.signed,Bool.false_and,Bool.false_eq_true,if_false]
 omega
end Go.Proofs.YtjecddabdlapbaaDoor.core

namespace Go.Proofs.YtjecddabdlapbaaDoor.core
open Go.Gx Go.RowKit Go.ChangeShapes Go.WideShapes Go.ChangeAt
set_option linter.unusedVariables false
abbrev clSg:List UInt8:=[91,93,45,94,92]
def shC (b:Nat):List UInt8:=shownP clSg 33 b.toUInt8
theorem shC_len (b:Nat):(shC b).length<=4:=shownP_len _ _ _
def runT (b e:Nat):List UInt8:=shC b++if e=b then[] else if e=b+1 then shC e else[45]++shC e
theorem runT_len (b e:Nat):(runT b e).length<=9:=by
 have h1:=shC_len b
 have h2:=shC_len e
 unfold runT
 rw[List.length_append]
 split
 ·simp;omega
 ·split
  ·omega
  ·simp;omega
def endOf (p:Nat->Bool):Nat->Nat->Nat
 |0,b=>b
 |f+1,b=>if b<255/\p (b+1)=true then endOf p f (b+1) else b
theorem endOf_is {p:Nat->Bool} {e:Nat} (he:e=255\/p (e+1)=false):∀(f b:Nat),b<=e->e<=255->(∀x,b<x->x<=e->p x=true)->e-b<=f->endOf p f b=e
 |0,b,h1,_,_,h3=>by unfold endOf;omega
 |f+1,b,h1,h2,h4,h3=>by
  unfold endOf
  by_cases hb:b=e
  ·subst hb
   rw[if_neg]
   intro h
   rcases he with he|he
   ·omega
   ·rw[he]at h;cases h.2
  ·rw[if_pos ⟨by omega,h4 _ (by omega) (by omega)⟩]
   exact endOf_is he f (b+1) (by omega) h2 (λx h5 h6=>h4 x (by omega) h6) (by omega)
def clsT (p:Nat->Bool):Nat->List UInt8
 |0=>[]
 |n+1=>clsT p n++if p n=true/\(n=0\/p (n-1)=false) then runT n (endOf p 255 n) else[]
theorem clsT_len (p:Nat->Bool):∀n,(clsT p n).length<=9*n
 |0=>by simp[clsT]
 |n+1=>by
  have h1:=clsT_len p n
  have h2:=runT_len n (endOf p 255 n)
  rw[clsT,List.length_append]
  split
  ·omega
  ·simp;omega
theorem clsT_skip {p:Nat->Bool} {n:Nat}:∀{m:Nat},n<=m->(∀b,n<=b->b<m->p b=false\/(0<b/\p (b-1)=true))->clsT p m=clsT p n
 |0,h,_=>by rw[Nat.le_zero.1 h]
 |m+1,h,hp=>by
  rcases Nat.lt_or_ge n (m+1)with h'|h'
  ·rw[clsT,clsT_skip (n:=n) (by omega) λb h1 h2=>hp b h1 (by omega),if_neg]
   ·simp
   ·intro ⟨h1,h2⟩
    rcases hp m (by omega) (by omega)with h3|⟨h3,h4⟩
    ·rw[h3]at h1;cases h1
    ·rcases h2 with h2|h2
     ·omega
     ·rw[h4]at h2;cases h2
  ·rw[show m+1=n by omega]
theorem toU8 (b:Nat) (h:b<256):(b.toUInt8.toNat:Int)=(b:Int):=by simp[Nat.toUInt8];omega
theorem qclass_is {s:X_api_Set} (hs:wfS s) {M:Mem} (hT:TabM M 0 dTab) (K:Value->Prop) (hK:K (.string (mkS ([91]++clsT (bitS s) 256++[93])))):S_quote_Class s M K:=by
 unfold S_quote_Class
 refine s_set_First _ _ _ _ (first_is hs (by decide) hT _ λz hz=>⟨z,rfl,λout b=>∃m:Nat,m<=256/\FirstAt (bitS s) m b/\(m=0\/m=256\/bitS s m=false)/\out=[91]++clsT (bitS s) m,λ_ b=>if 0<=b then(256-b).toNat else 0,⟨0,by decide,hz,.inl rfl,rfl⟩,λout b ⟨m,hm,hb,hm2,ho⟩=>?_⟩)
 subst ho
 refine⟨λh0=>?_,λh0=>?_⟩
 ·obtain⟨c,rfl⟩:=Int.eq_ofNat_of_zero_le h0
  have hc:m<=c/\c<256/\bitS s c=true/\∀d:Nat,m<=d->d<c->bitS s d=false:=by
   rcases hb with⟨h,_⟩|⟨c',hc',h1,h2,h3,h4⟩
   ·omega
   ·obtain rfl:c=c':=by omega
    exact⟨by omega,h1,h3,λd g1 g2=>h4 d (by omega) g2⟩
  obtain⟨h1,h2,h3,h4⟩:=hc
  have hst:clsT (bitS s) (c+1)=clsT (bitS s) m++runT c (endOf (bitS s) 255 c):=by
   rw[clsT,clsT_skip (n:=m) h1 λd g1 g2=>.inl (h4 d g1 g2),if_pos]
   refine⟨h3,?_⟩
   by_cases hc0:c=0
   ·exact .inl hc0
   ·refine .inr ?_
    by_cases hcm:m=c
    ·subst hcm
     rcases hm2 with h|h|h
     ·omega
     ·omega
     ·rw[h]at h3;cases h3
    ·exact h4 (c-1) (by omega) (by omega)
  have hlen:=clsT_len (bitS s) m
  refine⟨λe=>∃k:Nat,e=k/\c<=k/\k<=255/\∀x,c<x->x<=k->bitS s x=true,λe=>(256-e).toNat,⟨c,rfl,Nat.le_refl _,by omega,λx h5 h6=>by omega⟩,λe ⟨k,he,hk1,hk2,hk3⟩=>?_⟩
  subst he
  have stop:(k=255\/bitS s (k+1)=false)->S_quote_Class_J1 s M ([91]++clsT (bitS s) m) (c:Int) (λout b=>∃m:Nat,m<=256/\FirstAt (bitS s) m b/\(m=0\/m=256\/bitS s m=false)/\out=[91]++clsT (bitS s) m) (λ_ b=>if 0<=b then(256-b).toNat else 0) (k:Int) (λe=>∃k:Nat,e=k/\c<=k/\k<=255/\∀x,c<x->x<=k->bitS s x=true) (λe=>(256-e).toNat) false K:=λhstop=>by
   have hend:endOf (bitS s) 255 c=k:=endOf_is hstop 255 c hk1 hk2 hk3 (by omega)
   rw[hend]at hst
   have hnext:∀out2,out2=[91]++clsT (bitS s) m++runT c k->S_quote_Class_J2 s M ([91]++clsT (bitS s) m) (c:Int) (λout b=>∃m:Nat,m<=256/\FirstAt (bitS s) m b/\(m=0\/m=256\/bitS s m=false)/\out=[91]++clsT (bitS s) m) (λ_ b=>if 0<=b then(256-b).toNat else 0) out2 (k:Int) K:=λout2 ho=>by
    unfold S_quote_Class_J2
    refine⟨by unfold InI;omega,s_set_First _ _ _ _ (first_is hs (by omega) hT _ λz hz=>⟨z,rfl,⟨k+1,by omega,hz,?_,?_⟩,?_⟩)⟩
    ·rcases hstop with h|h
     ·exact .inr (.inl (by omega))
     ·exact .inr (.inr h)
    ·rw[ho,List.append_assoc,<-hst]
     congr 1
     symm
     refine clsT_skip (by omega) λx g1 g2=>.inr ⟨by omega,?_⟩
     by_cases hx:x-1=c
     ·rw[hx];exact h3
     ·exact hk3 _ (by omega) (by omega)
    ·dsimp only
     rcases hz with⟨rfl,_⟩|⟨d,rfl,hd,hd2,_⟩
     ·rw[if_neg (by omega),if_pos (by omega)];omega
     ·rw[if_pos (by omega),if_pos (by omega)];omega
   have l1:=shC_len c
   have l2:=shC_len k
   unfold S_quote_Class_J1
   refine⟨λh=>by simp at h,λ_=>?_⟩
   rw[wrap8 c h2,wrap8 k (by omega)]
   refine s_quote_one _ _ _ _ (qone_is c.toUInt8 clSg _ _ 33 rfl ⟨_,rfl,?_,by unfold InI;omega,λg=>?_,λg=>⟨λg2=>?_,λg2=>?_⟩⟩)
   ·show _+(shC c).length<=_
    simp;omega
   ·refine s_quote_one _ _ _ _ (qone_is k.toUInt8 clSg _ _ 33 rfl ⟨_,rfl,?_,hnext _ ?_⟩)
    ·show(_++shC c).length+(shC k).length<=_
     simp;omega
    ·unfold runT
     rw[if_neg (by omega),if_pos (by omega),<-List.append_assoc];rfl
   ·refine s_quote_one _ _ _ _ (qone_is k.toUInt8 clSg _ _ 33 rfl ⟨_,rfl,?_,?_,hnext _ ?_⟩)
    ·show _+(shC k).length<=_
     simp;omega
    ·show(_++shC c).length+(_++shC k).length<=_
     simp;omega
    ·unfold runT
     rw[if_neg (by omega),if_neg (by omega)]
     simp only[List.append_assoc];rfl
   ·refine hnext _ ?_
    unfold runT
    rw[if_pos (by omega),List.append_nil];rfl
  refine⟨λhlt=>⟨by unfold InI;omega,?_⟩,λhge=>stop (.inl (by omega))⟩
  rw[show(k:Int)+1=((k+1:Nat):Int) by omega,wrap8 (k+1) (by omega)]
  refine s_set_Has _ _ _ _ (has_is hs (k+1).toUInt8 _ ⟨_,rfl,?_⟩)
  have e:(k+1).toUInt8.toNat=k+1:=by have:=toU8 (k+1) (by omega);omega
  rw[e]
  cases hb:bitS s (k+1)with
  |false=>exact stop (.inr hb)
  |true=>
   unfold S_quote_Class_J1
   refine⟨λ_=>⟨by unfold InI;omega,⟨k+1,by omega,by omega,by omega,λx g1 g2=>?_⟩,by dsimp only;omega⟩,λh=>absurd rfl h⟩
   by_cases hx:x=k+1
   ·rw[hx];exact hb
   ·exact hk3 x g1 (by omega)
 ·have hb2:b= -1/\clsT (bitS s) 256=clsT (bitS s) m:=by
   rcases hb with⟨h,h1⟩|⟨c,hc,_⟩
   ·exact⟨h,clsT_skip hm λx g1 g2=>.inl (h1 x (by omega) g2)⟩
   ·omega
  have hlen:=clsT_len (bitS s) m
  rw[<-hb2.2]
  refine⟨by rw[hb2.2];simp;omega,hK⟩
theorem one_is {b:Nat} (hb:b<256) {M:Mem} (K:Value->Prop) (hK:K (.string (mkS (shC b)))):S_chaffref_Class_1 (b:Int) M K:=by
 unfold S_chaffref_Class_1
 rw[<-toU8 b hb]
 exact s_chaffref_shown _ _ _ _ _ (shown_is b.toUInt8 clSg 33 _ _ ⟨_,rfl,hK⟩)
theorem rclass_is {s:X_api_Set} (hs:wfS s) {M:Mem} (K:Value->Prop) (hK:K (.string (mkS ([91]++clsT (bitS s) 256++[93])))):S_chaffref_Class s M K:=by
 unfold S_chaffref_Class
 refine⟨λout x=>∃n:Nat,x=n/\n<=256/\out=clsT (bitS s) n,λ_ x=>(256-x).toNat,⟨0,rfl,by decide,rfl⟩,λout x ⟨n,hx,hn,ho⟩=>?_⟩
 subst hx;subst ho
 have hlen:=clsT_len (bitS s) n
 refine⟨λhlt=>?_,λhge=>?_⟩
 ·have hn':n<256:=by omega
  have next:∀out2,out2=clsT (bitS s) (n+1)->S_chaffref_Class_J4 (clsT (bitS s) n) (n:Int) (λout x=>∃n:Nat,x=n/\n<=256/\out=clsT (bitS s) n) (λ_ x=>(256-x).toNat) out2 K:=λout2 ho=>by
   unfold S_chaffref_Class_J4
   exact⟨by unfold InI;omega,⟨n+1,by omega,by omega,ho⟩,by dsimp only;omega⟩
  have none:(bitS s n=false\/(0<n/\bitS s (n-1)=true))->S_chaffref_Class_J1 s M (clsT (bitS s) n) (n:Int) (λout x=>∃n:Nat,x=n/\n<=256/\out=clsT (bitS s) n) (λ_ x=>(256-x).toNat) true K:=λh=>by
   unfold S_chaffref_Class_J1
   refine⟨λ_=>next _ ?_,λh=>absurd rfl h⟩
   exact(clsT_skip (Nat.le_succ n) λb g1 g2=>by rw[show b=n by omega];exact h).symm
  have some:bitS s n=true->(n=0\/bitS s (n-1)=false)->S_chaffref_Class_J1 s M (clsT (bitS s) n) (n:Int) (λout x=>∃n:Nat,x=n/\n<=256/\out=clsT (bitS s) n) (λ_ x=>(256-x).toNat) false K:=λh1 h2=>by
   have hst:clsT (bitS s) (n+1)=clsT (bitS s) n++runT n (endOf (bitS s) 255 n):=by rw[clsT,if_pos ⟨h1,h2⟩]
   unfold S_chaffref_Class_J1
   refine⟨λh=>by simp at h,λ_=>⟨λj=>∃k:Nat,j=k/\1<=k/\n+k<=256/\∀x,n<x->x<n+k->bitS s x=true,λj=>(257-j).toNat,⟨1,rfl,Nat.le_refl _,by omega,λx g1 g2=>by omega⟩,λj ⟨k,hj,hk1,hk2,hk3⟩=>?_⟩⟩
   subst hj
   have stop:(n+k=256\/bitS s (n+k)=false)->S_chaffref_Class_J2 M (clsT (bitS s) n) (n:Int) (λout x=>∃n:Nat,x=n/\n<=256/\out=clsT (bitS s) n) (λ_ x=>(256-x).toNat) (k:Int) (λj=>∃k:Nat,j=k/\1<=k/\n+k<=256/\∀x,n<x->x<n+k->bitS s x=true) (λj=>(257-j).toNat) false K:=λhstop=>by
    have hend:endOf (bitS s) 255 n=n+k-1:=endOf_is (by
     rcases hstop with h|h
     ·exact .inl (by omega)
     ·right;rw[show n+k-1+1=n+k by omega];exact h) 255 n (by omega) (by omega) (λx g1 g2=>hk3 x g1 (by omega)) (by omega)
    rw[hend]at hst
    have l1:=shC_len n
    have l2:=shC_len (n+k-1)
    unfold S_chaffref_Class_J2
    refine⟨λh=>by simp at h,λ_=>?_⟩
    refine s_chaffref_Class_1 _ _ _ (one_is hn' _ ⟨_,rfl,by omega,λg=>⟨by simp;omega,?_⟩,λg=>?_⟩)
    ·unfold S_chaffref_Class_J3
     refine⟨λ_=>⟨by unfold InI;omega,by unfold InI;omega,?_⟩,λh=>by omega⟩
     rw[show(n:Int)+(k:Int)-1=((n+k-1:Nat):Int) by omega]
     refine s_chaffref_Class_1 _ _ _ (one_is (by omega) _ ⟨_,rfl,by simp;omega,next _ ?_⟩)
     rw[hst]
     unfold runT
     rw[if_neg (by omega),if_neg (by omega)]
     simp only[List.append_assoc]
    ·unfold S_chaffref_Class_J3
     refine⟨λg2=>⟨by unfold InI;omega,by unfold InI;omega,?_⟩,λg2=>next _ ?_⟩
     ·rw[show(n:Int)+(k:Int)-1=((n+k-1:Nat):Int) by omega]
      refine s_chaffref_Class_1 _ _ _ (one_is (by omega) _ ⟨_,rfl,by simp;omega,next _ ?_⟩)
      rw[hst]
      unfold runT
      rw[if_neg (by omega),if_pos (by omega),List.append_assoc]
     ·rw[hst]
      unfold runT
      rw[if_pos (by omega),List.append_nil]
   refine⟨by unfold InI;omega,λg=>⟨by unfold InI;omega,?_⟩,λg=>stop (.inl (by omega))⟩
   rw[show(n:Int)+(k:Int)=((n+k:Nat):Int) by omega]
   refine s_chaffref_Has _ _ _ _ (rhas_is hs (by omega) _ ⟨_,rfl,?_⟩)
   cases hb:bitS s (n+k)with
   |false=>exact stop (.inr hb)
   |true=>
    unfold S_chaffref_Class_J2
    refine⟨λ_=>⟨by unfold InI;omega,⟨k+1,by omega,by omega,by omega,λx g1 g2=>?_⟩,by dsimp only;omega⟩,λh=>absurd rfl h⟩
    by_cases hx:x=n+k
    ·rw[hx];exact hb
    ·exact hk3 x g1 (by omega)
  refine s_chaffref_Has _ _ _ _ (rhas_is hs hn' _ ⟨_,rfl,λhb=>none (.inl (by simpa using hb)),λhb=>?_⟩)
  have hb':bitS s n=true:=Classical.not_not.1 hb
  refine⟨λh0=>⟨by unfold InI;omega,?_⟩,λh0=>some hb' (.inl (by omega))⟩
  rw[show(n:Int)-1=((n-1:Nat):Int) by omega]
  refine s_chaffref_Has _ _ _ _ (rhas_is hs (by omega) _ ⟨_,rfl,?_⟩)
  cases hb2:bitS s (n-1)with
  |true=>exact none (.inr ⟨by omega,hb2⟩)
  |false=>exact some hb' (.inr hb2)
 ·obtain rfl:n=256:=by omega
  exact⟨by simp;omega,by simp;omega,hK⟩
end Go.Proofs.YtjecddabdlapbaaDoor.core

namespace Go.Proofs.YtjecddabdlapbaaDoor.core
open Go.Gx Go.RowKit Go.ChangeShapes Go.WideShapes Go.ChangeAt
set_option linter.unusedVariables false
theorem mkS_list (l:List UInt8):(mkS l).data.toList=l:=rfl
theorem join_call {M:Mem} {A:Option Addr} {n c:Nat} {zs:List (List UInt8)} {sep:List UInt8} (h:SlV M A n c 1 (strV zs)) (hn:zs.length<=140737488355328) (hl:(Lib.join zs sep).length<=140737488355328):
  CallE Tryd.prog 73 #[.slice A n c,.string (mkS sep)] M (λv M'=>v= .string (mkS (Lib.join zs sep))):=by
 intro w hw
 obtain⟨h1,h2,h3,h4⟩:=h
 have hnz:zs.length=n:=by simpa[strV]using h1
 by_cases h0:n=0
 ·subst h0
  obtain rfl:=List.length_eq_zero_iff.1 hnz
  exact(sh_strings_Join_none A c (mkS sep) w).mono λx w' ⟨g1,g2⟩=>⟨_,g1,g2▸Below.refl _ _,rfl⟩
 ·obtain⟨b,o,rfl,ha⟩:=h4 (by omega)
  have hm:(zs.map mkS).map (λx=>x.data.toList)=zs:=by
   rw[List.map_map]
   exact(List.map_congr_left λa _=>mkS_list a).trans (List.map_id _)
  have hcell:∀(j:Nat) x,(zs.map mkS)[j]?=some x->M.cell b (o+j)=some (.string x):=λj x hj=>by
   refine ha j _ ?_
   rw[List.getElem?_map]at hj
   obtain⟨z,hz,rfl⟩:=Option.map_eq_some_iff.1 hj
   unfold strV
   rw[List.getElem?_map,hz];rfl
  have hlt:b<w.heap.size:=by
   obtain⟨z,hz⟩:∃z,zs[0]?=some z:=⟨zs[0]'(by omega),List.getElem?_eq_getElem _⟩
   have:=hcell 0 (mkS z) (by rw[List.getElem?_map,hz];rfl)
   unfold Mem.cell at this
   split at this
   ·rename_i hq;exact hw.lt hq
   ·cases this
  have hz:(zs.map mkS).length=n:=by rw[List.length_map];exact hnz
  have:=sh_strings_Join b o c (zs.map mkS) (mkS sep) w (λj x hj=>hw.cell (hcell j x hj)) hlt (by omega) (by omega) (by rw[hm,mkS_list];exact hl)
  rw[hm,mkS_list,hz]at this
  exact this.mono λx w' ⟨g1,g2⟩=>⟨_,g1,g2,rfl⟩
theorem join_len (sep:List UInt8) (m:Nat) (hs:sep.length<=m):∀zs:List (List UInt8),(Lib.join zs sep).length<=(zs.map λz=>z.length+m).sum
 |[]=>by simp[Lib.join_nil]
 |[z]=>by rw[Lib.join_one];simp
 |z::y::r=>by
  have ih:=join_len sep m hs (y::r)
  have:Lib.join (z::y::r) sep=z++sep++Lib.join (y::r) sep:=by simp[Lib.join,List.intercalate]
  rw[this,List.map_cons,List.sum_cons,List.length_append,List.length_append]
  omega
inductive FitE:Ex->Prop
 |mk (e:Ex) (hf:fitE e=true) (hk:∀k∈e.kids,FitE k):FitE e
theorem FitE.fit {e:Ex} (h:FitE e):fitE e=true:=by cases h;assumption
theorem FitE.kid {e:Ex} (h:FitE e):∀k∈e.kids,FitE k:=by cases h;assumption
theorem fitE_of (e:Ex) (h:∀x∈flatE e,fitE x=true):FitE e:=by
 induction hn:SizeOf.sizeOf e using Nat.strongRecOn generalizing e with
 |_ n ih=>
  subst hn
  exact .mk e (h e (flatE_self e)) λk hk=>ih _ (Ex.kid_lt hk) k (λx hx=>h x (flatE_kid hk x hx)) rfl
theorem FitE.of {e:Ex} (h:exErr e=0):FitE e:=fitE_of e (flat_fit e 1 0 h)
def lvlE (e:Ex):Int:=if e.kind=6 then 1 else if e.kind=5 then 2 else if e.kind=10\/e.kind=11 then 3 else if 7<=e.kind/\e.kind<=9 then 4 else 5
def brT (t:List UInt8):List UInt8:=[40]++t++[41]
def leastK (k:Int):Int:=if k=6 then 2 else if k=5\/k>=10 then 3 else 4
def fullS:X_api_Set:=Us λ_=>true
def setT (s:X_api_Set):List UInt8:=if cellsEq [s.w0,s.w1,s.w2,s.w3] [fullS.w0,fullS.w1,fullS.w2,fullS.w3]=true then[46] else[91]++clsT (bitS s) 256++[93]
def tailT (k:Int) (s:X_api_Set) (t:List UInt8) (l:List (List UInt8)):List UInt8:=
 if k=1 then[40,41] else if k=2 then setT s else if k=3 then litP t else if k=4 then t
 else if k=5 then Lib.join l [32] else if k=6 then Lib.join l [32,47,32]
 else if k=10 then[38]++(l[0]?).getD [] else if k=11 then[33]++(l[0]?).getD []
 else if k=7 then(l[0]?).getD []++[42] else if k=8 then(l[0]?).getD []++[43] else(l[0]?).getD []++[63]
mutual
def txE:Ex->List UInt8
 | .mk k s t ks=>tailT k s t (txs (leastK k) ks)
def txs (m:Int):List Ex->List (List UInt8)
 |[]=>[]
 |e::r=>(if lvlE e<m then brT (txE e) else txE e)::txs m r
end
def wiT (m:Int) (e:Ex):List UInt8:=if lvlE e<m then brT (txE e) else txE e
theorem txs_map (m:Int):∀ks,txs m ks=ks.map (wiT m)
 |[]=>by rw[txs];rfl
 |k::ks=>by rw[txs,txs_map m ks];rfl
theorem txE_eq (e:Ex):txE e=tailT e.kind e.set e.text (e.kids.map (wiT (leastK e.kind))):=by
 cases e
 rw[txE,txs_map];rfl
theorem flatEs_sum:∀ks:List Ex,(flatEs ks).length=(ks.map λk=>(flatE k).length).sum
 |[]=>by rw[flatEs];rfl
 |k::ks=>by rw[flatEs,List.length_append,flatEs_sum ks];rfl
theorem flatE_len (e:Ex):(flatE e).length=(flatEs e.kids).length+1:=by
 cases e;rw[flatE];simp[Ex.kids]
theorem sum_le {α:Type} {f g:α->Nat}:∀{l:List α},(∀x∈l,f x<=g x)->(l.map f).sum<=(l.map g).sum
 |[],_=>by simp
 |x::l,h=>by
  have h1:=h x (List.mem_cons_self ..)
  have h2:=sum_le (l:=l) λy hy=>h y (List.mem_cons_of_mem _ hy)
  simp only[List.map_cons,List.sum_cons];omega
theorem mem_sum {a:Nat}:∀{l:List Nat},a∈l->a<=l.sum
 |[],h=>by cases h
 |x::l,h=>by
  rw[List.sum_cons]
  rcases List.mem_cons.1 h with rfl|h
  ·omega
  ·have:=mem_sum h;omega
theorem sum_mul {α:Type} (f:α->Nat) (c:Nat):∀l:List α,(l.map λx=>c*f x).sum=c*(l.map f).sum
 |[]=>by simp
 |x::l=>by simp only[List.map_cons,List.sum_cons,sum_mul f c l,Nat.mul_add]
theorem setT_len (s:X_api_Set):(setT s).length<=2400:=by
 unfold setT
 split
 ·simp
 ·have:=clsT_len (bitS s) 256
  simp;omega
theorem txE_len (e:Ex) (h:FitE e):(txE e).length+5<=3000*(flatE e).length:=by
 induction hn:SizeOf.sizeOf e using Nat.strongRecOn generalizing e with
 |_ n ih=>
  subst hn
  have hk:∀m,∀k∈e.kids,(wiT m k).length+3<=3000*(flatE k).length:=λm k hk=>by
   have:=ih _ (Ex.kid_lt hk) k (h.kid k hk) rfl
   unfold wiT
   split
   ·simp[brT];omega
   ·omega
  have hs:∀m,((e.kids.map (wiT m)).map λz=>z.length+3).sum<=3000*(flatEs e.kids).length:=λm=>by
   rw[List.map_map,flatEs_sum,<-sum_mul]
   exact sum_le λk hkk=>hk m k hkk
  have h0:∀m,(((e.kids.map (wiT m))[0]?).getD []).length<=3000*(flatEs e.kids).length:=λm=>by
   cases hq:e.kids with
   |nil=>simp
   |cons k r=>
    have h1:=hk m k (by rw[hq];exact List.mem_cons_self ..)
    rw[flatEs,List.length_append]
    simp only[List.map_cons,List.getElem?_cons_zero,Option.getD_some]
    omega
  rw[txE_eq,flatE_len]
  have g0:=h0 (leastK e.kind)
  have gs:=hs (leastK e.kind)
  have hf:=fitE_kinds h.fit
  obtain⟨_,_,_,_,_,hlit,_⟩:=hf
  have hnm:e.kind=4->e.text.length<=8:=λh4=>by
   have:=h.fit
   unfold fitE fitX at this
   simp[h4,nameB]at this
   omega
  generalize e.kids.map (wiT (leastK e.kind))=l at*
  unfold tailT
  split
  ·simp;omega
  split
  ·have:=setT_len e.set;omega
  split
  ·rename_i h3
   have:=(hlit h3).2
   have:=flat4 [39,92] 32 e.text
   unfold litP;rw[List.length_append,List.length_append];simp only[List.length_singleton];omega
  split
  ·rename_i h4
   have:=hnm h4;omega
  split
  ·have:=join_len [32] 3 (by simp) l;omega
  split
  ·have:=join_len [32,47,32] 3 (by simp) l;omega
  repeat (split;(· rw[List.length_append];simp only[List.length_singleton];omega))
  rw[List.length_append];simp only[List.length_singleton];omega
theorem level_is (x:X_api_Expr) (e:Ex) (hk:x.Kind=e.kind) (M:Mem) (K:Value->Prop) (hK:K (.int .i64 (lvlE e))):S_show_level x M K:=by
 unfold S_show_level S_show_level_J1 S_show_level_J2
 rw[hk]
 have key:∀z,z=lvlE e->K (.int .i64 z):=λz hz=>hz▸hK
 refine⟨λh=>key _ ?_,λh6=>⟨λh=>key _ ?_,λh5=>⟨λh=>⟨λ_=>key _ ?_,λg=>?_⟩,λh10=>⟨λh=>key _ ?_,λh11=>⟨λh=>⟨λ_=>key _ ?_,λg=>?_⟩,λh7=>⟨λh=>⟨λ_=>key _ ?_,λg=>?_⟩,λh8=>⟨λh=>key _ ?_,λh=>key _ ?_⟩⟩⟩⟩⟩⟩⟩
 all_goals first
  |(simp at g;omega)
  |(simp at*;unfold lvlE;simp[*];try omega)
theorem full_range:Us (inR 0 255)=fullS:=Us_congr λb hb=>by unfold inR;simp;omega
theorem within_isP {x:X_api_Expr} {e:Ex} (hk:x.Kind=e.kind) (m:Int) (M:Mem) (K:Value->Prop) (hl:(txE e).length<=1000000) (ht:CallE Tryd.prog 75 #[x.val] M (λv _=>v= .string (mkS (txE e)))) (hK:K (.string (mkS (wiT m e)))):S_show_within x m M K:=by
 refine ht.mono λv M' _ hv=>⟨_,hv,s_show_level _ _ _ (level_is x e hk _ _ ⟨_,rfl,λh=>?_,λh=>?_⟩)⟩
 ·unfold wiT at hK;rw[if_pos h]at hK
  exact⟨by simp;omega,by simp;omega,hK⟩
 ·unfold wiT at hK;rw[if_neg h]at hK
  exact hK
theorem strs_first {l:List (List UInt8)} {z:List UInt8} (h:l[0]?=some z):Cs (strV l) (0+(0:Int).toNat*1) [.string (mkS z)]:=by
 cases l with
 |nil=>cases h
 |cons a r=>simp at h;subst h;rfl
theorem full_is {M:Mem} (K:Value->Prop) (hK:K fullS.val):S_chaffref_Full M K:=
 s_chaffref_Where _ _ _ (where_is _ _ (λ_=>true) (λx _=>f_chaffref_Full_1 _ _ _ rfl) _ ⟨_,rfl,hK⟩)
theorem text_is:∀(n:Nat) (e:Ex),SizeOf.sizeOf e<n->FitE e->(flatE e).length<=60->∀(x:X_api_Expr) (M:Mem),ExR M e x->TabM M 0 dTab->CallE Tryd.prog 75 #[x.val] M (λv _=>v= .string (mkS (txE e)))
 |0,_,h,_,_,_,_,_,_=>absurd h (Nat.not_lt_zero _)
 |n+1,e,hn,hf,hfl,x,M,hR,hT=>by
  obtain⟨xs,h⟩:=hR.open
  have hkl:∀k∈e.kids,(flatE k).length<=60:=λk hk=>by
   have h1:=flatE_len e
   have h2:=flatEs_sum e.kids
   have:(flatE k).length<=(e.kids.map λk=>(flatE k).length).sum:=mem_sum (List.mem_map_of_mem hk)
   omega
  have kid:∀{i:Nat} {k:Ex} (m:Int) (M':Mem),M.le M'->e.kids[i]?=some k->∃(b o:Nat) (y:X_api_Expr),x.Kids_a=some ⟨b,o,none⟩/\At M' b (o+i*7) y.cells/\CallE Tryd.prog 111 #[y.val,.int .i64 m] M' (λv _=>v= .string (mkS (wiT m k))):=λ{i k} m M' hle hk=>by
   obtain⟨b,o,y,h1,h2,h3,_⟩:=h.kid hk
   have hm:=List.mem_of_getElem? hk
   obtain⟨ys,hy⟩:=h3.open
   have hlen:=txE_len k (hf.kid k hm)
   have:=hkl k hm
   exact⟨b,o,y,h1,h2.le hle,s_show_within _ _ _ _ (within_isP hy.kind m M' _ (by omega) (text_is n k (by have:=Ex.kid_lt hm;omega) (hf.kid k hm) (hkl k hm) y M' (h3.le hle) (hT.le hle)) rfl)⟩
  have htl:=txE_len e hf
  have hll:(txE e).length<=180000:=by omega
  obtain⟨hk1,hk2,hk0,hk5,hk7,hlit,_⟩:=fitE_kinds hf.fit
  have one:7<=e.kind->∃k,e.kids=[k]:=λh7=>by
   have:=hk7 h7
   match e.kids,this with
   |[k],_=>exact⟨k,rfl⟩
  refine s_show_text _ _ _ ?_
  have key:∀z,z=txE e->(Value.string (mkS z))= .string (mkS (txE e)):=λz hz=>hz▸rfl
  have loop:∀(m:Int) (sep:List UInt8),(e.kind=5\/e.kind=6)->m=leastK e.kind->Lib.join (e.kids.map (wiT m)) sep=txE e->S_show_text_J1 x M m sep (λv=>v= .string (mkS (txE e))):=λm sep h56 hm hj=>by
   have h8:=(hk5 h56).2
   refine⟨λx51 rn rx=>∃i:Nat,x51=i/\i<=e.kids.length/\rn=i/\rx=strV ((e.kids.take i).map (wiT m)),λx51 _ _=>e.kids.length-x51.toNat,⟨0,rfl,by omega,rfl,rfl⟩,λx51 rn rx ⟨i,hx,hi,hrn,hrx⟩=>⟨λhlt=>?_,λhge=>?_⟩⟩
   ·subst hx hrn hrx
    rw[h.len]at hlt ⊢
    obtain⟨k,hk⟩:∃k,e.kids[rn]?=some k:=⟨e.kids[rn]'(by omega),List.getElem?_eq_getElem _⟩
    obtain⟨b,o,y,h1,h2,h3⟩:=kid m M (Mem.le.refl _) hk
    refine⟨b,o,h1,by omega,hlt,y,by simpa using h2,h3.mono λv M' _ hv=>⟨_,hv,by omega,by unfold InI;omega,⟨rn+1,by omega,by omega,rfl,?_⟩,by dsimp only;omega⟩⟩
    rw[strV_snoc,List.take_add_one,hk]
    simp
   ·rw[h.len]at hge
    subst hx
    have hie:i=e.kids.length:=by omega
    subst hie hrn
    intro M69 ad cap hle hsl
    rw[hrx,List.take_length]at hsl
    refine(join_call (sep:=sep) hsl (by rw[List.length_map];omega) (by rw[hj];omega)).mono λv M' _ hv=>⟨_,hv,?_⟩
    rw[hj]
  have hd:∀m (k:Ex),e.kids=[k]->((e.kids.map (wiT m))[0]?).getD []=wiT m k:=λm k hk=>by rw[hk];rfl
  have hwl:∀m,∀k∈e.kids,(wiT m k).length<=1000000:=λm k hk=>by
   have h1:=txE_len k (hf.kid k hk)
   have h2:=hkl k hk
   unfold wiT;split
   ·simp[brT];omega
   ·omega
  unfold S_show_text
  rw[h.kind,h.set,h.text,h.len]
  refine⟨λh1=>key _ (by rw[txE_eq];simp[tailT,h1]),λh1=>⟨λh2=>?_,λh2=>⟨λh3=>?_,λh3=>⟨λh4=>key _ (by rw[txE_eq];simp[tailT,h4]),λh4=>⟨λh10=>?_,λh10=>⟨λh11=>?_,λh11=>⟨λh7=>?_,λh7=>⟨λh8=>?_,λh8=>⟨λh9=>?_,λh9=>⟨λh6=>?_,λh6=>?_⟩⟩⟩⟩⟩⟩⟩⟩⟩⟩
  ·have hs:txE e=setT e.set:=by rw[txE_eq];simp[tailT,h2]
   refine s_set_Range _ _ _ _ (range_is _ _ _ ⟨_,rfl,?_⟩)
   rw[full_range]
   refine⟨λg=>key _ ?_,λg=>?_⟩
   ·rw[hs];unfold setT;rw[if_pos g]
   ·refine s_quote_Class _ _ _ (qclass_is h.hs hT _ ⟨_,rfl,key _ ?_⟩)
    rw[hs];unfold setT;rw[if_neg g]
  ·have ht:=h.ht
   refine s_quote_Lit _ _ _ (qlit_is _ (by have:=(hlit h3).2;omega) _ _ ⟨_,rfl,key _ ?_⟩)
   rw[txE_eq];simp[tailT,h3]
  ·obtain⟨k,hk⟩:=one (by omega)
   obtain⟨b,o,y,g1,g2,g3⟩:=kid (i:=0) (k:=k) 3 M (Mem.le.refl _) (by rw[hk];rfl)
   have:=hwl 3 k (by rw[hk];simp)
   refine⟨b,o,g1,by omega,by rw[hk];simp,y,by simpa using g2,g3.mono λv M' _ hv=>⟨_,hv,by simp;omega,key _ ?_⟩⟩
   rw[txE_eq];simp[tailT,h10,leastK,hk]
  ·obtain⟨k,hk⟩:=one (by omega)
   obtain⟨b,o,y,g1,g2,g3⟩:=kid (i:=0) (k:=k) 3 M (Mem.le.refl _) (by rw[hk];rfl)
   have:=hwl 3 k (by rw[hk];simp)
   refine⟨b,o,g1,by omega,by rw[hk];simp,y,by simpa using g2,g3.mono λv M' _ hv=>⟨_,hv,by simp;omega,key _ ?_⟩⟩
   rw[txE_eq];simp[tailT,h11,leastK,hk]
  ·obtain⟨k,hk⟩:=one (by omega)
   obtain⟨b,o,y,g1,g2,g3⟩:=kid (i:=0) (k:=k) 4 M (Mem.le.refl _) (by rw[hk];rfl)
   have:=hwl 4 k (by rw[hk];simp)
   refine⟨b,o,g1,by omega,by rw[hk];simp,y,by simpa using g2,g3.mono λv M' _ hv=>⟨_,hv,by simp;omega,key _ ?_⟩⟩
   rw[txE_eq];simp[tailT,h7,leastK,hk]
  ·obtain⟨k,hk⟩:=one (by omega)
   obtain⟨b,o,y,g1,g2,g3⟩:=kid (i:=0) (k:=k) 4 M (Mem.le.refl _) (by rw[hk];rfl)
   have:=hwl 4 k (by rw[hk];simp)
   refine⟨b,o,g1,by omega,by rw[hk];simp,y,by simpa using g2,g3.mono λv M' _ hv=>⟨_,hv,by simp;omega,key _ ?_⟩⟩
   rw[txE_eq];simp[tailT,h8,leastK,hk]
  ·obtain⟨k,hk⟩:=one (by omega)
   obtain⟨b,o,y,g1,g2,g3⟩:=kid (i:=0) (k:=k) 4 M (Mem.le.refl _) (by rw[hk];rfl)
   have:=hwl 4 k (by rw[hk];simp)
   refine⟨b,o,g1,by omega,by rw[hk];simp,y,by simpa using g2,g3.mono λv M' _ hv=>⟨_,hv,by simp;omega,key _ ?_⟩⟩
   rw[txE_eq];simp[tailT,h9,leastK,hk]
  ·exact loop 2 _ (.inr h6) (by rw[h6];rfl) (by rw[txE_eq];simp[tailT,h6,leastK])
  ·have h5:e.kind=5:=by omega
   exact loop 3 _ (.inl h5) (by rw[h5];rfl) (by rw[txE_eq];simp[tailT,h5,leastK])
theorem sprint_is {e:Ex} {x:X_api_Expr} {M:Mem} (hR:ExR M e x) (hT:TabM M 0 dTab) (K:Value->Prop) (h1:exErr e≠0->K (.tuple #[.string (mkS []),.int .i64 (exErr e)])) (h2:exErr e=0->K (.tuple #[.string (mkS (txE e)),.int .i64 0])):S_show_Print x M K:=by
 refine s_expr_Check _ _ _ (echeck_is e x M _ hR ⟨_,rfl,h1,λh0=>?_⟩)
 have h0:exErr e=0:=by simpa using h0
 exact(text_is _ e (Nat.lt_succ_self _) (FitE.of h0) (flat_max h0).1 x M hR hT).mono λv M' _ hv=>⟨_,hv,h2 h0⟩
end Go.Proofs.YtjecddabdlapbaaDoor.core

namespace Go.Proofs.YtjecddabdlapbaaDoor.core
open Go.Gx Go.RowKit Go.ChangeShapes Go.WideShapes Go.ChangeAt
set_option linter.unusedVariables false
theorem lv_iff (k:Ex) (z:Int):lvlE k<leastK z↔(k.kind=6\/(z≠6/\k.kind=5)\/(z≠6/\z≠5/\¬z>=10/\(k.kind=10\/k.kind=11))):=by
 unfold lvlE leastK
 constructor
 ·intro h
  repeat' (split at h)
  all_goals omega
 ·intro h
  repeat' split
  all_goals omega
theorem rstep {e:Ex} {k:Ex} {x y:X_api_Expr} (hx:x.Kind=e.kind) (hy:y.Kind=k.kind) {x34:Int} {rn:Nat} {rx:List Value} {I:Int->Nat->List Value->Prop} {mu:Int->Nat->List Value->Nat} {K:Value->Prop} (hl:(txE k).length<=1000000)
  (h:S_chaffref_Print_J4 x34 rn rx I mu (wiT (leastK e.kind) k) K):
  ((y.Kind:Int)=10->(S_chaffref_Print_J1 x x34 rn rx I mu y (txE k) true K))/\(¬((y.Kind:Int)=10)->(S_chaffref_Print_J1 x x34 rn rx I mu y (txE k) ((y.Kind:Int)==(11:Int)) K)):=by
 have j3:∀b:Bool,(b=true↔lvlE k<leastK e.kind)->S_chaffref_Print_J3 x34 rn rx I mu (txE k) b K:=λb hb=>by
  refine⟨λg=>⟨by simp;omega,by simp;omega,?_⟩,λg=>?_⟩
  ·have:wiT (leastK e.kind) k=[40]++txE k++[41]:=by unfold wiT;rw[if_pos (hb.1 g)];rfl
   rw[<-this];exact h
  ·have:wiT (leastK e.kind) k=txE k:=by unfold wiT;rw[if_neg (λq=>g (hb.2 q))]
   rw[<-this];exact h
 have j1:∀p:Bool,(p=true↔k.kind=10\/k.kind=11)->S_chaffref_Print_J1 x x34 rn rx I mu y (txE k) p K:=λp hp=>by
  unfold S_chaffref_Print_J1 S_chaffref_Print_J2
  rw[hx,hy]
  refine⟨λh6=>j3 _ (by rw[lv_iff];simp;omega),λh6=>⟨λh5=>⟨λ_=>⟨λg=>j3 _ (by rw[lv_iff];simp;omega),λg=>j3 _ (by rw[lv_iff];simp;omega)⟩,λg=>absurd rfl g⟩,λh5=>⟨λh10=>⟨λg=>j3 _ (by rw[lv_iff];simp;omega),λg=>j3 _ (by rw[lv_iff];simp at h10 ⊢;omega)⟩,λh10=>⟨λg=>j3 _ (by rw[lv_iff];simp;omega),λg=>⟨λq=>j3 _ (by rw[lv_iff];simp at h10 ⊢;omega),λq=>j3 _ (by rw[lv_iff,hp];simp at h10;omega)⟩⟩⟩⟩⟩
 rw[hy]
 exact⟨λg=>by rw[<-hy]at g;exact j1 _ (by rw[hy]at g;simp[g]),λg=>j1 _ (by simp;omega)⟩
theorem rprint_is:∀(n:Nat) (e:Ex),SizeOf.sizeOf e<n->FitE e->(flatE e).length<=60->∀(x:X_api_Expr) (M:Mem),ExR M e x->CallE Tryd.prog 36 #[x.val] M (λv _=>v= .string (mkS (txE e)))
 |0,_,h,_,_,_,_,_=>absurd h (Nat.not_lt_zero _)
 |n+1,e,hn,hf,hfl,x,M,hR=>by
  obtain⟨xs,h⟩:=hR.open
  have hkl:∀k∈e.kids,(flatE k).length<=60:=λk hk=>by
   have h1:=flatE_len e
   have h2:=flatEs_sum e.kids
   have:(flatE k).length<=(e.kids.map λk=>(flatE k).length).sum:=mem_sum (List.mem_map_of_mem hk)
   omega
  have htl:=txE_len e hf
  have hll:(txE e).length<=180000:=by omega
  obtain⟨hk1,hk2,hk0,hk5,hk7,hlit,_⟩:=fitE_kinds hf.fit
  have hk8:e.kids.length<=8:=by
   rcases Int.lt_or_le e.kind 5 with g|g
   ·rw[hk0 (by omega)];simp
   ·rcases Int.lt_or_le e.kind 7 with g'|g'
    ·exact(hk5 (by omega)).2
    ·rw[hk7 g'];omega
  have one:7<=e.kind->∃k,e.kids=[k]:=λh7=>by
   have:=hk7 h7
   match e.kids,this with
   |[k],_=>exact⟨k,rfl⟩
  have key:∀z,z=txE e->(Value.string (mkS z))= .string (mkS (txE e)):=λz hz=>hz▸rfl
  have hwl:∀m,∀k∈e.kids,(wiT m k).length<=1000000:=λm k hk=>by
   have h1:=txE_len k (hf.kid k hk)
   have h2:=hkl k hk
   unfold wiT;split
   ·simp[brT];omega
   ·omega
  refine s_chaffref_Print _ _ _ ⟨λx34 rn rx=>∃i:Nat,x34=i/\i<=e.kids.length/\rn=i/\rx=strV ((e.kids.take i).map (wiT (leastK e.kind))),λx34 _ _=>e.kids.length-x34.toNat,⟨0,rfl,by omega,rfl,rfl⟩,λx34 rn rx ⟨i,hx,hi,hrn,hrx⟩=>⟨λhlt=>?_,λhge=>?_⟩⟩
  ·subst hx hrn hrx
   rw[h.len]at hlt ⊢
   obtain⟨k,hk⟩:∃k,e.kids[rn]?=some k:=⟨e.kids[rn]'(by omega),List.getElem?_eq_getElem _⟩
   obtain⟨b,o,y,h1,h2,h3,_⟩:=h.kid hk
   have hm:=List.mem_of_getElem? hk
   obtain⟨ys,hy⟩:=h3.open
   have hlen:=txE_len k (hf.kid k hm)
   have:=hkl k hm
   refine⟨b,o,h1,by omega,hlt,y,by simpa using h2,(rprint_is n k (by have:=Ex.kid_lt hm;omega) (hf.kid k hm) (hkl k hm) y M h3).mono λv M' _ hv=>⟨_,hv,rstep h.kind hy.kind (by omega) ⟨by omega,by unfold InI;omega,⟨rn+1,by omega,by omega,rfl,?_⟩,by dsimp only;omega⟩⟩⟩
   rw[strV_snoc,List.take_add_one,hk]
   simp
  ·rw[h.len]at hge
   subst hx
   have hie:i=e.kids.length:=by omega
   subst hie
   rw[List.take_length]at hrx
   rw[h.kind,h.set,h.text]
   have jn:∀sep,Lib.join (e.kids.map (wiT (leastK e.kind))) sep=txE e->∀(M59:Mem) (ad57:Option Addr) (cap58:Nat),M.le M59->SlV M59 ad57 rn cap58 1 rx->(CallE Tryd.prog 73 #[(.slice ad57 rn cap58),(.string (mkS sep))] M59 (λv _=>∃(x56:List UInt8),v=(Value.string (mkS x56))/\(Value.string (mkS x56))= .string (mkS (txE e)))):=λsep hj M' ad cap hle hsl=>by
    rw[hrx]at hsl
    refine(join_call (sep:=sep) hsl (by rw[List.length_map];omega) (by rw[hj];omega)).mono λv M' _ hv=>⟨_,hv,?_⟩
    rw[hj]
   have fst:7<=e.kind->∃z,Cs rx (0+(0:Int).toNat*1) [.string (mkS z)]/\z.length<=1000000/\0<rn/\((e.kids.map (wiT (leastK e.kind)))[0]?).getD []=z:=λh7=>by
    obtain⟨k,hk⟩:=one h7
    have hw:=hwl (leastK e.kind) k (by rw[hk];simp)
    refine⟨wiT (leastK e.kind) k,?_,hw,by rw[hrn,hk];simp,by rw[hk];rfl⟩
    rw[hrx]
    exact strs_first (by rw[hk];rfl)
   refine⟨λh1=>key _ (by rw[txE_eq];simp[tailT,h1]),λh1=>⟨λh2=>?_,λh2=>⟨λh3=>?_,λh3=>⟨λh4=>key _ (by rw[txE_eq];simp[tailT,h4]),λh4=>⟨λh5=>jn _ (by rw[txE_eq];simp[tailT,h5]),λh5=>⟨λh6=>jn _ (by rw[txE_eq];simp[tailT,h6]),λh6=>⟨λh10=>?_,λh10=>⟨λh11=>?_,λh11=>?_⟩⟩⟩⟩⟩⟩⟩⟩
   ·have hs:txE e=setT e.set:=by rw[txE_eq];simp[tailT,h2]
    refine s_chaffref_Full _ _ (full_is _ ⟨_,rfl,λg=>key _ ?_,λg=>?_⟩)
    ·rw[hs];unfold setT;rw[if_pos g]
    ·refine s_chaffref_Class _ _ _ (rclass_is h.hs _ ⟨_,rfl,key _ ?_⟩)
     rw[hs];unfold setT;rw[if_neg g]
   ·refine s_chaffref_Lit _ _ _ (rlit_is _ (by have:=(hlit h3).2;omega) _ _ ⟨_,rfl,key _ ?_⟩)
    rw[txE_eq];simp[tailT,h3]
   ·obtain⟨z,z1,z2,z3,z4⟩:=fst (by omega)
    refine⟨by omega,by omega,z,z1,by simp;omega,key _ ?_⟩
    rw[txE_eq];unfold tailT;rw[z4];simp[h10]
   ·obtain⟨z,z1,z2,z3,z4⟩:=fst (by omega)
    refine⟨by omega,by omega,z,z1,by simp;omega,key _ ?_⟩
    rw[txE_eq];unfold tailT;rw[z4];simp[h11]
   ·obtain⟨z,z1,z2,z3,z4⟩:=fst (by omega)
    refine⟨by omega,by omega,z,z1,by unfold InI;omega,by omega,by omega,?_⟩
    rcases(show e.kind=7\/e.kind=8\/e.kind=9 by omega)with g|g|g
    ·refine⟨[42],by rw[g];rfl,by simp;omega,key _ ?_⟩
     rw[txE_eq];unfold tailT;rw[z4];simp[g]
    ·refine⟨[43],by rw[g];rfl,by simp;omega,key _ ?_⟩
     rw[txE_eq];unfold tailT;rw[z4];simp[g]
    ·refine⟨[63],by rw[g];rfl,by simp;omega,key _ ?_⟩
     rw[txE_eq];unfold tailT;rw[z4];simp[g]
end Go.Proofs.YtjecddabdlapbaaDoor.core

namespace Go.Proofs.YtjecddabdlapbaaDoor.core
open Go.Gx Go.RowKit Go.ChangeShapes Go.WideShapes Go.ChangeAt
set_option linter.unusedVariables false
theorem bru_data:(Rows.laid_math_bits_deBruijn64tab:DataW Unit)=Lib.tabData .u8 (dTab.map λ(n:Nat)=>(n:Int)):=by kernel_rfl
theorem tabM_of {W:World} (h:Lib.VarReads Tryd.prog W "math/bits.deBruijn64tab" Rows.laid_math_bits_deBruijn64tab):TabM (HM W) 0 dTab:=by
 obtain⟨g,t,cs,fuel,p,hg,hty,hvar,hd⟩:=h
 obtain rfl:=Option.some.inj ((show Tryd.prog.globalNamed "math/bits.deBruijn64tab"=some 0 by kernel_rfl).symm.trans hg)
 obtain rfl:=Option.some.inj ((show(Tryd.prog.globals[0]?).map (·.type)=some 136 by kernel_rfl).symm.trans hty)
 rw[bru_data]at hd
 have hcs:=Lib.cells_of_tab (n:=64) (e:=5) (by kernel_rfl) (by kernel_rfl) (by kernel_rfl) (by kernel_rfl) hd
 intro i z hz
 refine HM.cell ?_
 rw[World.var?_cell hg hvar i,<-Array.getElem?_toList,hcs,List.getElem?_map,List.getElem?_map,hz];rfl
end Go.Proofs.YtjecddabdlapbaaDoor.core

