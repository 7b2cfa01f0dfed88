/- Contracts and what they hang on, of several parts. No condition. -/
import Derived.Test.YtmnilbfhfjdelaaM2
import Derived.Test.YtmnilbfhfjdelaaCoreX
import Derived.Test.YtmnilbfhfjdelaaWellG
import Derived.RangeFuncNested
import Derived.RangeFuncBound
import Derived.RangeFuncCalls
import Derived.RangeFuncLeaves
import Derived.RangeFuncWrites
import Derived.RangeFuncBox
import Derived.Shelf.Abstract
import Derived.WalkKit
import Derived.OwnWalkIn
import Derived.TacticsInMore
import Derived.LoopNIn
import Derived.LoopIn
import Derived.Maps.OwnIn
import Derived.Maps.AppendAt
import Derived.StringKeys
import Derived.BigRegionIn
import Derived.Test.YtmnilbfhfjdelaaM3
namespace Go.Proofs.Ytmnilbfhfjdelaa.core
open Go.Gx Go.RowKit Go.ChangeShapes Go.WideShapes Go.ChangeAt
set_option linter.unusedVariables false
section
variable {M M':Mem} {g c:Nat} {l:List UInt8}
theorem slA_at {k:Nat} (hk:k<c):slA (some ⟨g,0,none⟩) k c 1=some ⟨g,k,none⟩:=by
 unfold slA
 rw[if_neg (by omega)]
 simp[Addr.add]
 exact λh=>h.symm
end
end Go.Proofs.Ytmnilbfhfjdelaa.core

namespace Go.Proofs.Ytmnilbfhfjdelaa.core
open Go.Gx Go.RowKit Go.ChangeShapes Go.WideShapes Go.ChangeAt
set_option linter.unusedVariables false
end Go.Proofs.Ytmnilbfhfjdelaa.core

namespace Go.Proofs.Ytmnilbfhfjdelaa.core
open Go.Gx Go.RowKit Go.ChangeShapes Go.WideShapes Go.ChangeAt
set_option linter.unusedVariables false
section
variable {a s:List UInt8} {M:Mem}
end
end Go.Proofs.Ytmnilbfhfjdelaa.core

namespace Go.Proofs.Ytmnilbfhfjdelaa.core
open Go.Gx Go.RowKit Go.ChangeShapes Go.WideShapes Go.ChangeAt
set_option linter.unusedVariables false
section
variable {a s:List UInt8} {M:Mem}
end
end Go.Proofs.Ytmnilbfhfjdelaa.core

namespace Go.Proofs.Ytmnilbfhfjdelaa.core
open Go.Gx Go.RowKit Go.ChangeShapes Go.WideShapes Go.ChangeAt
set_option linter.unusedVariables false
end Go.Proofs.Ytmnilbfhfjdelaa.core

namespace Go.Proofs.Ytmnilbfhfjdelaa.core
open Go.Gx Go.RowKit Go.ChangeShapes Go.WideShapes Go.ChangeAt
set_option linter.unusedVariables false
theorem fitE_kinds {e:Ex} (h:fitE e=true):1<=e.kind/\e.kind<=11/\(e.kind<=4->e.kids=[])/\(e.kind=5\/e.kind=6->2<=e.kids.length/\e.kids.length<=8)/\(7<=e.kind->e.kids.length=1)/\(e.kind=3->e.text≠[]/\e.text.length<=12)/\(e.kind≠2->zs e.set=true)/\(e.kind≠3->e.kind≠4->e.text=[]):=by
 unfold fitE fitX at h
 simp only at h
 have nil:∀l:List Ex,(l.length==0)=true->l=[]:=λl h=>List.eq_nil_of_length_eq_zero (by simpa using h)
 split at h
 ·simp only[Bool.and_eq_true,decide_eq_true_eq]at h
  exact⟨by omega,by omega,λ_=>nil _ h.1.1,λq=>by omega,λq=>by omega,λq=>by omega,λ_=>h.2,λ_ _=>h.1.2⟩
 ·split at h
  ·simp only[Bool.and_eq_true,decide_eq_true_eq]at h
   exact⟨by omega,by omega,λ_=>nil _ h.1,λq=>by omega,λq=>by omega,λq=>by omega,λq=>by omega,λ_ _=>h.2⟩
  ·split at h
   ·simp only[Bool.and_eq_true,decide_eq_true_eq,Bool.not_eq_true',decide_eq_false_iff_not]at h
    exact⟨by omega,by omega,λ_=>nil _ h.1.1.1,λq=>by omega,λq=>by omega,λ_=>⟨h.1.2,h.2⟩,λ_=>h.1.1.2,λq=>by omega⟩
   ·split at h
    ·simp only[Bool.and_eq_true]at h
     exact⟨by omega,by omega,λ_=>nil _ h.1.1,λq=>by omega,λq=>by omega,λq=>by omega,λ_=>h.1.2,λ_ q=>by omega⟩
    ·split at h
     ·simp only[Bool.and_eq_true,decide_eq_true_eq]at h
      exact⟨by omega,by omega,λq=>by omega,λ_=>⟨h.1.2,h.2⟩,λq=>by omega,λq=>by omega,λ_=>h.1.1.2,λ_ _=>h.1.1.1⟩
     ·split at h
      ·simp only[Bool.and_eq_true,decide_eq_true_eq,beq_iff_eq]at h
       exact⟨by omega,by omega,λq=>by omega,λq=>by omega,λ_=>h.2,λq=>by omega,λ_=>h.1.2,λ_ _=>h.1.1⟩
      ·cases h
inductive GoodE (rs:List Ru):Ex->Prop
 |mk (e:Ex) (hf:fitE e=true) (hr:e.kind=4->0<=findR e.text rs 0) (hk:∀k∈e.kids,GoodE rs k):GoodE rs e
theorem GoodE.fit {rs:List Ru} {e:Ex} (h:GoodE rs e):fitE e=true:=by cases h;assumption
theorem GoodE.ref {rs:List Ru} {e:Ex} (h:GoodE rs e):e.kind=4->0<=findR e.text rs 0:=by cases h;assumption
theorem GoodE.kid {rs:List Ru} {e:Ex} (h:GoodE rs e):∀k∈e.kids,GoodE rs k:=by cases h;assumption
mutual
theorem flat_fit:∀(e:Ex) (d n:Int),(lkE d n e).1=0->∀x∈flatE e,fitE x=true
 | .mk k s t ks,d,n,h,x,hx=>by
  unfold lkE at h
  split at h
  ·cases h
  ·split at h
   ·cases h
   ·split at h
    ·cases h
    ·rename_i h3
     rw[flatE]at hx
     rcases List.mem_cons.1 hx with rfl|hx
     ·simpa[fitE,Ex.kind,Ex.set,Ex.text,Ex.kids]using h3
     ·exact flats_fit ks _ _ h x hx
theorem flats_fit:∀(ks:List Ex) (d n:Int),(lkEs d n ks).1=0->∀x∈flatEs ks,fitE x=true
 |[],_,_,_,x,hx=>by simp[flatEs]at hx
 |k::ks,d,n,h,x,hx=>by
  rw[lkEs]at h
  rw[flatEs]at hx
  split at h
  ·rename_i hne;exact absurd h hne
  ·rename_i he
   have he:(lkE d n k).1=0:=by simpa using he
   rcases List.mem_append.1 hx with hx|hx
   ·exact flat_fit k _ _ he x hx
   ·exact flats_fit ks _ _ h x hx
end
theorem flatEs_mem {k:Ex}:∀{ks:List Ex},k∈ks->∀x∈flatE k,x∈flatEs ks
 |a::r,h,x,hx=>by
  rw[flatEs]
  rcases List.mem_cons.1 h with rfl|h
  ·exact List.mem_append_left _ hx
  ·exact List.mem_append_right _ (flatEs_mem h x hx)
theorem flatE_self (e:Ex):e∈flatE e:=by cases e;simp[flatE]
theorem flatE_kid {e k:Ex} (h:k∈e.kids):∀x∈flatE k,x∈flatE e:=by
 intro x hx
 cases e
 rw[flatE]
 exact List.mem_cons_of_mem _ (flatEs_mem h x hx)
theorem good_of (rs:List Ru) (e:Ex) (h:∀x∈flatE e,fitE x=true/\(x.kind=4->0<=findR x.text rs 0)):GoodE rs e:=by
 induction hn:SizeOf.sizeOf e using Nat.strongRecOn generalizing e with
 |_ n ih=>
  subst hn
  have h0:=h e (flatE_self e)
  exact .mk e h0.1 h0.2 λk hk=>ih _ (Ex.kid_lt hk) k (λx hx=>h x (flatE_kid hk x hx)) rfl
theorem ref_fold:∀(l:List Ex) (acc:List (List UInt8)),(∀s∈acc,s∈l.foldl refStep acc)/\∀x∈l,x.kind=4->x.text∈l.foldl refStep acc
 |[],acc=>⟨λs h=>h,λx h=>by cases h⟩
 |a::r,acc=>by
  obtain⟨h1,h2⟩:=ref_fold r (refStep acc a)
  have hs:∀s∈acc,s∈refStep acc a:=λs h=>by unfold refStep;split<;>simp[h]
  refine⟨λs h=>h1 s (hs s h),λx hx hk=>?_⟩
  rcases List.mem_cons.1 hx with rfl|hx
  ·refine h1 _ ?_
   unfold refStep
   split
   ·simp
   ·rename_i hno
    by_cases hm:x.text∈acc
    ·exact hm
    ·exact absurd ⟨hk,hm⟩ hno
  ·exact h2 x hx hk
theorem refs_mem {e x:Ex} (hx:x∈flatE e) (hk:x.kind=4):x.text∈refsE e:=(ref_fold (flatE e) []).2 x hx hk
structure GramOk (rs:List Ru):Prop where
 one:0<rs.length
 ten:rs.length<=10
 good:∀r∈rs,GoodE rs r.body
 err:∀r∈rs,exErr r.body=0
 name:∀r∈rs,nameB r.name=true
 at_:∀(i:Nat) r,rs[i]?=some r->findR r.name rs 0=i
 all:((rs.map λr=>(flatE r.body).length).sum)<=120
theorem refsR_zero (rs0:List Ru):∀l:List Ru,refsR rs0 l=0->∀r∈l,∀s∈refsE r.body,0<=findR s rs0 0
 |[],_,r,h,_,_=>by cases h
 |a::t,h,r,hr,s,hs=>by
  rw[refsR]at h
  split at h
  ·cases h
  ·rename_i hall
   rcases List.mem_cons.1 hr with rfl|hr
   ·have hall:(refsE r.body).all (λs=>decide (0<=findR s rs0 0))=true:=by simpa using hall
    simpa using List.all_eq_true.1 hall s hs
   ·exact refsR_zero rs0 t h r hr s hs
theorem chkR_zero (rs0:List Ru):∀(l:List Ru) (i n:Int),chkR rs0 l i n=0->refsR rs0 rs0=0/\(∀(j:Nat) r,l[j]?=some r->nameB r.name=true/\findR r.name rs0 0=i+j/\exErr r.body=0)/\n+((l.map λr=>(flatE r.body).length).sum:Nat)<=120
 |[],i,n,h=>by
  rw[chkR]at h
  split at h
  ·cases h
  ·exact⟨h,λj r hj=>by simp at hj,by simp;omega⟩
 |a::t,i,n,h=>by
  rw[chkR]at h
  split at h
  ·cases h
  ·rename_i h1
   split at h
   ·cases h
   ·rename_i h2
    split at h
    ·rename_i h3;exact absurd h h3
    ·rename_i h3
     obtain⟨g1,g2,g3⟩:=chkR_zero rs0 t (i+1) _ h
     refine⟨g1,λj r hj=>?_,by simp only[List.map_cons,List.sum_cons];omega⟩
     cases j with
     |zero=>
      simp only[List.getElem?_cons_zero,Option.some.injEq]at hj
      subst hj
      exact⟨by simpa using h1,by simpa using h2,by simpa using h3⟩
     |succ j=>
      obtain⟨k1,k2,k3⟩:=g2 j r (by simpa using hj)
      exact⟨k1,by rw[k2];omega,k3⟩
theorem gram_ok {rs:List Ru} (h:gramErr rs=0):GramOk rs:=by
 unfold gramErr at h
 split at h
 ·cases h
 ·split at h
  ·cases h
  ·obtain⟨h1,h2,h3⟩:=chkR_zero rs rs 0 0 h
   have hget:∀r∈rs,∃j,rs[j]?=some r:=λr hr=>List.mem_iff_getElem?.1 hr
   refine⟨by omega,by omega,λr hr=>good_of rs r.body λx hx=>?_,λr hr=>?_,λr hr=>?_,λi r hi=>by have:=(h2 i r hi).2.1;omega,by omega⟩
   ·obtain⟨j,hj⟩:=hget r hr
    exact⟨flat_fit _ _ _ (h2 j r hj).2.2 x hx,λhk=>refsR_zero rs rs h1 r hr _ (refs_mem hx hk)⟩
   ·obtain⟨j,hj⟩:=hget r hr;exact(h2 j r hj).2.2
   ·obtain⟨j,hj⟩:=hget r hr;exact(h2 j r hj).1
theorem findR_some (s:List UInt8):∀(rs:List Ru) (i:Int),0<=i->0<=findR s rs i->i<=findR s rs i/\∃r,rs[(findR s rs i-i).toNat]?=some r/\r.name=s
 |[],i,_,h=>by simp[findR]at h
 |a::t,i,hi,h=>by
  unfold findR at h ⊢
  split
  ·rename_i hn
   exact⟨by omega,a,by rw[show(i-i).toNat=0 by omega];rfl,hn⟩
  ·rename_i hn
   rw[if_neg hn]at h
   obtain⟨h1,r,h2,h3⟩:=findR_some s t (i+1) (by omega) h
   refine⟨by omega,r,?_,h3⟩
   rw[show(findR s t (i+1)-i).toNat=(findR s t (i+1)-(i+1)).toNat+1 by omega]
   simpa using h2
theorem findR_lt {s:List UInt8} {rs:List Ru} (h:0<=findR s rs 0):(findR s rs 0).toNat<rs.length/\findR s rs 0<rs.length:=by
 obtain⟨_,r,h2,_⟩:=findR_some s rs 0 (by omega) h
 have:=(List.getElem?_eq_some_iff.1 h2).1
 simp only[Int.sub_zero]at this
 omega
theorem GrR.len {M:Mem} {rs:List Ru} {A:Option Addr} {l c:Nat} (h:GrR M rs A l c):l=rs.length:=h.max.1
end Go.Proofs.Ytmnilbfhfjdelaa.core

namespace Go.Proofs.Ytmnilbfhfjdelaa.core
open Go.Gx Go.RowKit Go.ChangeShapes Go.WideShapes Go.ChangeAt
set_option linter.unusedVariables false
structure Lat {α:Type} (le:α->α->Prop) (ju:α->α->α) (wt:α->Nat) (m:Nat):Prop where
 refl:∀a,le a a
 trans:∀{a b c},le a b->le b c->le a c
 anti:∀{a b},le a b->le b a->a=b
 left:∀a b,le a (ju a b)
 right:∀a b,le b (ju a b)
 least:∀{a b c},le a c->le b c->le (ju a b) c
 mono:∀{a b},le a b->wt a<=wt b
 strict:∀{a b},le a b->a≠b->wt a<wt b
 bound:∀a,wt a<=m
section
variable {α:Type} {le:α->α->Prop} {ju:α->α->α} {wt:α->Nat} {m n:Nat} {F:List α->Nat->α}
def leL (le:α->α->Prop) (kn z:List α):Prop:=kn.length=z.length/\∀(i:Nat) a b,kn[i]?=some a->z[i]?=some b->le a b
theorem leL.refl (L:Lat le ju wt m) (kn:List α):leL le kn kn:=⟨rfl,λi a b ha hb=>by rw[ha]at hb;cases hb;exact L.refl a⟩
theorem leL.trans (L:Lat le ju wt m) {a b c:List α} (h:leL le a b) (k:leL le b c):leL le a c:=⟨h.1.trans k.1,λi x z hx hz=>by
 obtain⟨y,hy⟩:=getN (l:=b) (i:=i) (by have:=(List.getElem?_eq_some_iff.1 hx).1;have:=h.1;omega)
 exact L.trans (h.2 i x y hx hy) (k.2 i y z hy hz)⟩
theorem leL.anti (L:Lat le ju wt m) {a b:List α} (h:leL le a b) (k:leL le b a):a=b:=by
 apply List.ext_getElem?
 intro i
 by_cases hi:i<a.length
 ·obtain⟨x,hx⟩:=getN hi
  obtain⟨y,hy⟩:=getN (l:=b) (i:=i) (by have:=h.1;omega)
  rw[hx,hy,L.anti (h.2 i x y hx hy) (k.2 i y x hy hx)]
 ·rw[List.getElem?_eq_none (by omega),List.getElem?_eq_none (by have:=h.1;omega)]
theorem leL.set (L:Lat le ju wt m) {kn:List α} {i:Nat} {a b:α} (hi:kn[i]?=some a) (h:le a b):leL le kn (kn.set i b):=by
 refine⟨by simp,λj x y hx hy=>?_⟩
 rw[List.getElem?_set]at hy
 split at hy
 ·subst i
  split at hy
  ·simp only[Option.some.injEq]at hy;subst hy;rw[hi]at hx;cases hx;exact h
  ·cases hy
 ·rw[hx]at hy;cases hy;exact L.refl _
def wS (wt:α->Nat) (m:Nat) (kn:List α):Nat:=(kn.map λa=>m-wt a).sum
theorem wS_set (L:Lat le ju wt m):∀{kn:List α} {i:Nat} {a b:α},kn[i]?=some a->le a b->a≠b->wS wt m (kn.set i b)<wS wt m kn
 |[],i,a,b,h,_,_=>by simp at h
 |x::r,0,a,b,h,h1,h2=>by
  simp only[List.getElem?_cons_zero,Option.some.injEq]at h
  subst h
  have:=L.strict h1 h2
  have:=L.bound b
  simp only[wS,List.set_cons_zero,List.map_cons,List.sum_cons]
  omega
 |x::r,i+1,a,b,h,h1,h2=>by
  have:=wS_set L (kn:=r) (i:=i) (by simpa using h) h1 h2
  simp only[wS,List.set_cons_succ,List.map_cons,List.sum_cons]at this ⊢
  omega
theorem wS_le (L:Lat le ju wt m):∀{a b:List α},leL le a b->wS wt m b<=wS wt m a/\(a≠b->wS wt m b<wS wt m a)
 |[],[],_=>⟨Nat.le_refl _,λh=>absurd rfl h⟩
 |[],y::b,h=>by have:=h.1;simp at this
 |x::a,[],h=>by have:=h.1;simp at this
 |x::a,y::b,h=>by
  have h0:=h.2 0 x y rfl rfl
  obtain⟨i1,i2⟩:=wS_le L (a:=a) (b:=b) ⟨by simpa using h.1,λi p q hp hq=>h.2 (i+1) p q (by simpa using hp) (by simpa using hq)⟩
  have:=L.mono h0
  have hb:=L.bound y
  simp only[wS,List.map_cons,List.sum_cons]at i1 i2 ⊢
  refine⟨by omega,λhne=>?_⟩
  by_cases hxy:x=y
  ·subst hxy
   have:=i2 (λe=>hne (by rw[e]))
   omega
  ·have:=L.strict h0 hxy
   omega
structure Pre (le:α->α->Prop) (F:List α->Nat->α) (n:Nat) (kn:List α):Prop where
 len:kn.length=n
 up:∀(i:Nat) a,kn[i]?=some a->le a (F kn i)
 low:∀z:List α,z.length=n->(∀(i:Nat) b,z[i]?=some b->le (F z i) b)->leL le kn z
def MonoF (le:α->α->Prop) (F:List α->Nat->α) (n:Nat):Prop:=∀kn z:List α,∀i:Nat,i<n->kn.length=n->leL le kn z->le (F kn i) (F z i)
theorem Pre.step (L:Lat le ju wt m) (hF:MonoF le F n) {kn:List α} (h:Pre le F n kn) {i:Nat} {a:α} (hi:kn[i]?=some a):Pre le F n (kn.set i (F kn i))/\leL le kn (kn.set i (F kn i)):=by
 have hle:=leL.set L hi (h.up i a hi)
 have hil:i<n:=by have:=(List.getElem?_eq_some_iff.1 hi).1;have:=h.len;omega
 refine⟨⟨by simp[h.len],λj x hx=>?_,λz hz hc=>?_⟩,hle⟩
 ·have hj:j<n:=by have:=(List.getElem?_eq_some_iff.1 hx).1;simp at this;have:=h.len;omega
  have hm:=hF kn _ j hj h.len hle
  rw[List.getElem?_set]at hx
  split at hx
  ·subst i
   split at hx
   ·simp only[Option.some.injEq]at hx;subst hx;exact hm
   ·cases hx
  ·exact L.trans (h.up j x hx) hm
 ·have hl:=h.low z hz hc
  refine⟨by simpa using hl.1,λj x y hx hy=>?_⟩
  rw[List.getElem?_set]at hx
  split at hx
  ·subst i
   split at hx
   ·simp only[Option.some.injEq]at hx;subst hx
    exact L.trans (hF kn z j hil h.len hl) (hc j y hy)
   ·cases hx
  ·exact hl.2 j x y hx hy
structure Lfp (le:α->α->Prop) (F:List α->Nat->α) (n:Nat) (kn:List α):Prop where
 len:kn.length=n
 shut:∀(i:Nat) a,kn[i]?=some a->le (F kn i) a
 low:∀z:List α,z.length=n->(∀(i:Nat) b,z[i]?=some b->le (F z i) b)->leL le kn z
theorem Lfp.same (L:Lat le ju wt m) {a b:List α} (h:Lfp le F n a) (k:Lfp le F n b):a=b:=leL.anti L (h.low b k.len k.shut) (k.low a h.len h.shut)
theorem Pre.lfp (L:Lat le ju wt m) {kn:List α} (h:Pre le F n kn) (hfix:∀(i:Nat) a,kn[i]?=some a->F kn i=a):Lfp le F n kn:=⟨h.len,λi a ha=>by rw[hfix i a ha];exact L.refl a,h.low⟩
def jac (ju:α->α->α) (F:List α->Nat->α) (kn:List α):List α:=kn.zipIdx.map λp=>ju p.1 (F kn p.2)
theorem jac_len (kn:List α):(jac ju F kn).length=kn.length:=by simp[jac]
theorem jac_get {kn:List α} {i:Nat} {a:α} (h:kn[i]?=some a):(jac ju F kn)[i]?=some (ju a (F kn i)):=by simp[jac,h]
theorem jac_up (L:Lat le ju wt m) (kn:List α):leL le kn (jac ju F kn):=⟨(jac_len kn).symm,λi a b ha hb=>by rw[jac_get ha]at hb;cases hb;exact L.left _ _⟩
theorem jac_low (L:Lat le ju wt m) (hF:MonoF le F n) {kn z:List α} (hl:kn.length=n) (h:leL le kn z) (hz:∀(i:Nat) b,z[i]?=some b->le (F z i) b):leL le (jac ju F kn) z:=by
 refine⟨by rw[jac_len];exact h.1,λi a b ha hb=>?_⟩
 have hi:i<kn.length:=by have:=(List.getElem?_eq_some_iff.1 ha).1;rw[jac_len]at this;exact this
 obtain⟨x,hx⟩:=getN hi
 rw[jac_get hx]at ha
 cases ha
 exact L.least (h.2 i x b hx hb) (L.trans (hF kn z i (by omega) hl h) (hz i b hb))
def jacN (ju:α->α->α) (F:List α->Nat->α):Nat->List α->List α
 |0,kn=>kn
 |k+1,kn=>jac ju F (jacN ju F k kn)
theorem jacN_len (k:Nat) (kn:List α):(jacN ju F k kn).length=kn.length:=by
 induction k with
 |zero=>rfl
 |succ k ih=>rw[jacN,jac_len,ih]
theorem jacN_stab (L:Lat le ju wt m) (kn:List α):∀k,jac ju F (jacN ju F k kn)=jacN ju F k kn\/wS wt m (jacN ju F k kn)+k<=wS wt m kn
 |0=>.inr (Nat.le_refl _)
 |k+1=>by
  rcases jacN_stab L kn k with h|h
  ·left;rw[jacN,h,h]
  ·by_cases he:jac ju F (jacN ju F k kn)=jacN ju F k kn
   ·left;rw[jacN,he,he]
   ·right
    have:=(wS_le L (jac_up (F:=F) L (jacN ju F k kn))).2 (λe=>he e.symm)
    rw[jacN];omega
theorem wS_all (kn:List α):wS wt m kn<=m*kn.length:=by
 induction kn with
 |nil=>simp[wS]
 |cons a r ih=>
  simp only[wS,List.map_cons,List.sum_cons,List.length_cons]at ih ⊢
  rw[Nat.mul_succ];omega
theorem jac_lfp (L:Lat le ju wt m) (hF:MonoF le F n) (bot:α) (hbot:∀a,le bot a) (k:Nat) (hk:m*n<k):Lfp le F n (jacN ju F k (List.replicate n bot)):=by
 have hlen:∀k,(jacN ju F k (List.replicate n bot)).length=n:=λk=>by rw[jacN_len];simp
 refine⟨hlen k,λi a ha=>?_,λz hz hc=>?_⟩
 ·have hst:jac ju F (jacN ju F k (List.replicate n bot))=jacN ju F k (List.replicate n bot):=by
   rcases jacN_stab (F:=F) L (List.replicate n bot) k with h|h
   ·exact h
   ·have:=wS_all (wt:=wt) (m:=m) (List.replicate n bot)
    simp only[List.length_replicate]at this
    omega
  have h2:=jac_get (ju:=ju) (F:=F) ha
  rw[hst,ha]at h2
  simp only[Option.some.injEq]at h2
  have:=L.right a (F (jacN ju F k (List.replicate n bot)) i)
  rw[<-h2]at this
  exact this
 ·have hz0:∀k,leL le (jacN ju F k (List.replicate n bot)) z:=by
   intro k
   induction k with
   |zero=>exact⟨by simp[jacN,hz],λi a b ha hb=>by
     simp only[jacN]at ha
     have:=List.mem_of_getElem? ha
     rw[(List.mem_replicate.1 this).2];exact hbot b⟩
   |succ k ih=>exact jac_low L hF (hlen k) ih hc
  exact hz0 k
end
end Go.Proofs.Ytmnilbfhfjdelaa.core

namespace Go.Proofs.Ytmnilbfhfjdelaa.core
open Go.Gx Go.RowKit Go.ChangeShapes Go.WideShapes Go.ChangeAt
set_option linter.unusedVariables false
theorem upon_cut {P:Program} {o:Oper} {a:Act} {w:World} {K K' J:Act->World->Prop} {Q:Exit->Act->World->Prop} (h:∀a w,K a w->K' a w) (hh:o.wp P a w K (λe a w=>match e with| .normal=>J a w|e=>Q e a w)):o.wp P a w K' Q:=by
 unfold Oper.wp at*
 generalize (execOp a.eval o).run P w=r at*
 cases r with
 |ok n w'=>
  cases n<;>simp only[Oper.upon]at hh ⊢<;>
   first
    |exact h _ _ hh
    |exact Calls.mono hh (λe w'' he=>by cases e<;>first|exact h _ _ he|exact he)
    |exact Rows.mono hh (λ_ _ he=>h _ _ he)
 |halt x w'=>cases x<;>simp only[Oper.upon]at hh ⊢<;>exact hh
theorem wpList_cutJ {P:Program} {ops:Array Oper} {Q:Exit->Act->World->Prop} (J:Act->World->Prop):∀(k:Nat) {l:List Oper} {a:Act} {w:World},wpList P ops (λe a w=>match e with| .normal=>J a w|e=>Q e a w) (l.take k) a w->(∀a w,J a w->wpList P ops Q (l.drop k) a w)->wpList P ops Q l a w
 |0,l,a,w,h,h2=>by rw[List.take_zero]at h;exact h2 a w h
 |k+1,[],a,w,h,h2=>h2 a w h
 |k+1,o::l,a,w,h,h2=>by
  have ih:∀a w,wpList P ops (λe a w=>match e with| .normal=>J a w|e=>Q e a w) (l.take k) a w->wpList P ops Q l a w:=λa w h=>wpList_cutJ J k h h2
  rw[List.take_succ_cons]at h
  unfold wpList at h ⊢
  split at h
  ·rename_i hw
   rw[if_pos hw]
   exact h.imp (upon_cut ih) id
  ·rename_i hw
   rw[if_neg hw]
   exact ih _ _ h
theorem sPr {P:Program} {ops:Array Oper} {Q:Exit->Act->World->Prop} {n:Nat} {E:World} {bw:List Nat} {M:Mem} {w:World} {a:Act} {env:Env} {bs:List Bx} {rs:List Rw} {rest:List Oper} {o:Oper} (v:Value) {d:Nat} (hs:Sx n E bw M w a env bs rs) (h:∀a',Sx n E bw M w a' ((d,v)::env) bs rs->wpList P ops Q rest a' w)
  (hg:o.guard=none:=by rfl) (hd:o.dst=some d:=by rfl) (hdn:d<n:=by decide) (hk:okOp env o=true:=by rfl) (hr:∀w,(execOp (evT env) o).run P w= .ok (.value v) w:=by intro _;rfl):wpList P ops Q (o::rest) a w:=
 stepY v hs hg hd hdn (Yl.pure hk hr) h
def S_well_then (a b:X_api_Facts) (M:Mem) (K:Value->Prop):Prop:=K (X_api_Facts.mk (a.Empty&&b.Empty) ((a.Eats&&(b.Empty||b.Eats))||(a.Empty&&b.Eats)) (a.Fails||((a.Empty||a.Eats)&&b.Fails))).val
def S_well_or (a b:X_api_Facts) (M:Mem) (K:Value->Prop):Prop:=K (X_api_Facts.mk (a.Empty||(a.Fails&&b.Empty)) (a.Eats||(a.Fails&&b.Eats)) (a.Fails&&b.Fails)).val
theorem wpList_cut {P:Program} {ops:Array Oper} {Q:Exit->Act->World->Prop} (k:Nat) (J:Act->World->Prop) {l:List Oper} {a:Act} {w:World} (h1:wpList P ops (λe a w=>match e with| .normal=>J a w|e=>Q e a w) (l.take k) a w) (h2:∀a w,J a w->wpList P ops Q (l.drop k) a w):wpList P ops Q l a w:=wpList_cutJ J k h1 h2
set_option maxRecDepth 100000 in
theorem s_well_then (a1 b2:X_api_Facts) (M:Mem) (K:Value->Prop) (hK:S_well_then a1 b2 M K):CallE Try.prog 138 #[a1.val,b2.val] M (λv _=>K v):=by
 obtain⟨e1,t1,f1⟩:=a1
 obtain⟨e2,t2,f2⟩:=b2
 refine enterE Try.func138 rfl 44 rfl (Nat.le_of_ble_eq_true rfl) (λE a hs=>?_)
 have hMM:=MX.refl M E
 change Sx 44 E [] M E a [(0,(X_api_Facts.mk e1 t1 f1).val),(1,(X_api_Facts.mk e2 t2 f2).val)] [] []at hs
 refine Wp.seq (Wp.region (stepBox (X_api_Facts.mk e1 t1 f1).cells hs rfl rfl rfl (by decide) (λ_ _ b3 hEb3 hs=>?_)))
 refine stepBox (X_api_Facts.mk e2 t2 f2).cells hs rfl rfl rfl (by decide) (λ_ _ b4 hEb4 hs=>?_)
 refine stepAlloc [(.bool false),(.bool false),(.bool false)] hs (by kernel_rfl) (by decide) (λ_ _ b5 hEb5 hs=>?_)
 refine wpList_nil (Wp.seq (Wp.region ?_))
 change Sx 44 E [] M _ _ _ [⟨b5,194,[.bool false,.bool false,.bool false]⟩,⟨b4,194,[.bool e2,.bool t2,.bool f2]⟩,⟨b3,194,[.bool e1,.bool t1,.bool f1]⟩] []at hs
 refine wpList_cut 6 (λa w=>Sx 44 E [] M w a [(2,pt b3 0),(3,pt b4 0),(4,pt b5 0),(10,.bool (e1&&e2))] [⟨b5,194,[.bool false,.bool false,.bool false]⟩,⟨b4,194,[.bool e2,.bool t2,.bool f2]⟩,⟨b3,194,[.bool e1,.bool t1,.bool f1]⟩] []) ?_ λa w hs=>?_
 ·cases e1<;>cases e2<;>(
   refine sP (pt b3 0) hs λ_ hs=>?_
   first|refine sY (.bool true) hs (Yl.lB [.bool true] false 2) λ_ hs=>?_|refine sY (.bool false) hs (Yl.lB [.bool false] false 2) λ_ hs=>?_
   first|refine sPr (.bool true) hs λ_ hs=>?_|refine sPr (.bool false) hs λ_ hs=>?_
   first|refine sNo hs λ_ hs=>?_|refine sNu hs λ_ hs=>?_|refine sYe hs (sP (pt b4 0) hs λ_ hs=>?_)
   first|refine sNo hs λ_ hs=>?_|refine sNu hs λ_ hs=>?_|refine sYe hs (sY (.bool true) hs (Yl.lB [.bool true] false 1) λ_ hs=>?_)|refine sYe hs (sY (.bool false) hs (Yl.lB [.bool false] false 1) λ_ hs=>?_)
   first|refine sPr (.bool true) hs λ_ hs=>?_|refine sPr (.bool false) hs λ_ hs=>?_
   exact wpList_nil (hs.wk ⟨rfl,rfl,rfl,rfl,trivial⟩))
 refine wpList_cut 10 (λa w=>Sx 44 E [] M w a [(2,pt b3 0),(3,pt b4 0),(4,pt b5 0),(10,.bool (e1&&e2)),(20,.bool (t1&&(e2||t2)))] [⟨b5,194,[.bool false,.bool false,.bool false]⟩,⟨b4,194,[.bool e2,.bool t2,.bool f2]⟩,⟨b3,194,[.bool e1,.bool t1,.bool f1]⟩] []) ?_ λa w hs=>?_
 ·cases t1<;>cases e2<;>cases t2<;>(
   refine sP (pt b3 1) hs λ_ hs=>?_
   first|refine sY (.bool true) hs (Yl.lB [.bool true] false 2) λ_ hs=>?_|refine sY (.bool false) hs (Yl.lB [.bool false] false 2) λ_ hs=>?_
   first|refine sPr (.bool true) hs λ_ hs=>?_|refine sPr (.bool false) hs λ_ hs=>?_
   first|refine sNo hs λ_ hs=>?_|refine sNu hs λ_ hs=>?_|refine sYe hs (sP (pt b4 0) hs λ_ hs=>?_)
   first|refine sNo hs λ_ hs=>?_|refine sNu hs λ_ hs=>?_|refine sYe hs (sY (.bool true) hs (Yl.lB [.bool true] false 1) λ_ hs=>?_)|refine sYe hs (sY (.bool false) hs (Yl.lB [.bool false] false 1) λ_ hs=>?_)
   first|refine sNo hs λ_ hs=>?_|refine sNu hs λ_ hs=>?_|refine sYe hs (sPr (.bool true) hs λ_ hs=>?_)|refine sYe hs (sPr (.bool false) hs λ_ hs=>?_)
   first|refine sNo hs λ_ hs=>?_|refine sNu hs λ_ hs=>?_|refine sYe hs (sP (pt b4 1) hs λ_ hs=>?_)
   first|refine sNo hs λ_ hs=>?_|refine sNu hs λ_ hs=>?_|refine sYe hs (sY (.bool true) hs (Yl.lB [.bool true] false 1) λ_ hs=>?_)|refine sYe hs (sY (.bool false) hs (Yl.lB [.bool false] false 1) λ_ hs=>?_)
   first|refine sNo hs λ_ hs=>?_|refine sNu hs λ_ hs=>?_|refine sYe hs (sPr (.bool true) hs λ_ hs=>?_)|refine sYe hs (sPr (.bool false) hs λ_ hs=>?_)
   first|refine sPr (.bool true) hs λ_ hs=>?_|refine sPr (.bool false) hs λ_ hs=>?_
   exact wpList_nil (hs.wk ⟨rfl,rfl,rfl,rfl,rfl,trivial⟩))
 refine wpList_cut 8 (λa w=>Sx 44 E [] M w a [(2,pt b3 0),(3,pt b4 0),(4,pt b5 0),(10,.bool (e1&&e2)),(28,.bool ((t1&&(e2||t2))||(e1&&t2)))] [⟨b5,194,[.bool false,.bool false,.bool false]⟩,⟨b4,194,[.bool e2,.bool t2,.bool f2]⟩,⟨b3,194,[.bool e1,.bool t1,.bool f1]⟩] []) ?_ λa w hs=>?_
 ·cases t1<;>cases e2<;>cases t2<;>cases e1<;>(
   first|refine sPr (.bool true) hs λ_ hs=>?_|refine sPr (.bool false) hs λ_ hs=>?_
   first|refine sNo hs λ_ hs=>?_|refine sNu hs λ_ hs=>?_|refine sYe hs (sP (pt b3 0) hs λ_ hs=>?_)
   first|refine sNo hs λ_ hs=>?_|refine sNu hs λ_ hs=>?_|refine sYe hs (sY (.bool true) hs (Yl.lB [.bool true] false 2) λ_ hs=>?_)|refine sYe hs (sY (.bool false) hs (Yl.lB [.bool false] false 2) λ_ hs=>?_)
   first|refine sNo hs λ_ hs=>?_|refine sNu hs λ_ hs=>?_|refine sYe hs (sPr (.bool true) hs λ_ hs=>?_)|refine sYe hs (sPr (.bool false) hs λ_ hs=>?_)
   first|refine sNo hs λ_ hs=>?_|refine sNu hs λ_ hs=>?_|refine sYe hs (sP (pt b4 1) hs λ_ hs=>?_)
   first|refine sNo hs λ_ hs=>?_|refine sNu hs λ_ hs=>?_|refine sYe hs (sY (.bool true) hs (Yl.lB [.bool true] false 1) λ_ hs=>?_)|refine sYe hs (sY (.bool false) hs (Yl.lB [.bool false] false 1) λ_ hs=>?_)
   first|refine sNo hs λ_ hs=>?_|refine sNu hs λ_ hs=>?_|refine sYe hs (sPr (.bool true) hs λ_ hs=>?_)|refine sYe hs (sPr (.bool false) hs λ_ hs=>?_)
   first|refine sPr (.bool true) hs λ_ hs=>?_|refine sPr (.bool false) hs λ_ hs=>?_
   exact wpList_nil (hs.wk ⟨rfl,rfl,rfl,rfl,rfl,trivial⟩))
 refine wpList_cut 14 (λa w=>Sx 44 E [] M w a [(2,pt b3 0),(3,pt b4 0),(4,pt b5 0),(10,.bool (e1&&e2)),(28,.bool ((t1&&(e2||t2))||(e1&&t2))),(42,.bool (f1||((e1||t1)&&f2)))] [⟨b5,194,[.bool false,.bool false,.bool false]⟩,⟨b4,194,[.bool e2,.bool t2,.bool f2]⟩,⟨b3,194,[.bool e1,.bool t1,.bool f1]⟩] []) ?_ λa w hs=>?_
 ·cases f1<;>cases e1<;>cases t1<;>cases f2<;>(
   refine sP (pt b3 2) hs λ_ hs=>?_
   first|refine sY (.bool true) hs (Yl.lB [.bool true] false 2) λ_ hs=>?_|refine sY (.bool false) hs (Yl.lB [.bool false] false 2) λ_ hs=>?_
   first|refine sPr (.bool true) hs λ_ hs=>?_|refine sPr (.bool false) hs λ_ hs=>?_
   first|refine sNo hs λ_ hs=>?_|refine sNu hs λ_ hs=>?_|refine sYe hs (sP (pt b3 0) hs λ_ hs=>?_)
   first|refine sNo hs λ_ hs=>?_|refine sNu hs λ_ hs=>?_|refine sYe hs (sY (.bool true) hs (Yl.lB [.bool true] false 2) λ_ hs=>?_)|refine sYe hs (sY (.bool false) hs (Yl.lB [.bool false] false 2) λ_ hs=>?_)
   first|refine sNo hs λ_ hs=>?_|refine sNu hs λ_ hs=>?_|refine sYe hs (sPr (.bool true) hs λ_ hs=>?_)|refine sYe hs (sPr (.bool false) hs λ_ hs=>?_)
   first|refine sNo hs λ_ hs=>?_|refine sNu hs λ_ hs=>?_|refine sYe hs (sP (pt b3 1) hs λ_ hs=>?_)
   first|refine sNo hs λ_ hs=>?_|refine sNu hs λ_ hs=>?_|refine sYe hs (sY (.bool true) hs (Yl.lB [.bool true] false 2) λ_ hs=>?_)|refine sYe hs (sY (.bool false) hs (Yl.lB [.bool false] false 2) λ_ hs=>?_)
   first|refine sNo hs λ_ hs=>?_|refine sNu hs λ_ hs=>?_|refine sYe hs (sPr (.bool true) hs λ_ hs=>?_)|refine sYe hs (sPr (.bool false) hs λ_ hs=>?_)
   first|refine sNo hs λ_ hs=>?_|refine sNu hs λ_ hs=>?_|refine sYe hs (sPr (.bool true) hs λ_ hs=>?_)|refine sYe hs (sPr (.bool false) hs λ_ hs=>?_)
   first|refine sNo hs λ_ hs=>?_|refine sNu hs λ_ hs=>?_|refine sYe hs (sP (pt b4 2) hs λ_ hs=>?_)
   first|refine sNo hs λ_ hs=>?_|refine sNu hs λ_ hs=>?_|refine sYe hs (sY (.bool true) hs (Yl.lB [.bool true] false 1) λ_ hs=>?_)|refine sYe hs (sY (.bool false) hs (Yl.lB [.bool false] false 1) λ_ hs=>?_)
   first|refine sNo hs λ_ hs=>?_|refine sNu hs λ_ hs=>?_|refine sYe hs (sPr (.bool true) hs λ_ hs=>?_)|refine sYe hs (sPr (.bool false) hs λ_ hs=>?_)
   first|refine sPr (.bool true) hs λ_ hs=>?_|refine sPr (.bool false) hs λ_ hs=>?_
   exact wpList_nil (hs.wk ⟨rfl,rfl,rfl,rfl,rfl,rfl,trivial⟩))
 refine sP (X_api_Facts.mk (e1&&e2) ((t1&&(e2||t2))||(e1&&t2)) (f1||((e1||t1)&&f2))).val hs λ_ hs=>?_
 refine stB 0 [.bool (e1&&e2),.bool ((t1&&(e2||t2))||(e1&&t2)),.bool (f1||((e1||t1)&&f2))] [⟨b5,194,[.bool (e1&&e2),.bool ((t1&&(e2||t2))||(e1&&t2)),.bool (f1||((e1||t1)&&f2))]⟩,⟨b4,194,[.bool e2,.bool t2,.bool f2]⟩,⟨b3,194,[.bool e1,.bool t1,.bool f1]⟩] hs λ_ _ hs=>?_
 exact wpList_nil (Wp.ret (lvE K hs (resC (vs:=[.bool (e1&&e2),.bool ((t1&&(e2||t2))||(e1&&t2)),.bool (f1||((e1||t1)&&f2))]) true 0 hs rfl rfl rfl (by kernel_rfl) rfl) hMM.2 hK))
set_option maxRecDepth 100000 in
theorem s_well_or (a1 b2:X_api_Facts) (M:Mem) (K:Value->Prop) (hK:S_well_or a1 b2 M K):CallE Try.prog 139 #[a1.val,b2.val] M (λv _=>K v):=by
 obtain⟨e1,t1,f1⟩:=a1
 obtain⟨e2,t2,f2⟩:=b2
 refine enterE Try.func139 rfl 32 rfl (Nat.le_of_ble_eq_true rfl) (λE a hs=>?_)
 have hMM:=MX.refl M E
 change Sx 32 E [] M E a [(0,(X_api_Facts.mk e1 t1 f1).val),(1,(X_api_Facts.mk e2 t2 f2).val)] [] []at hs
 refine Wp.seq (Wp.region (stepBox (X_api_Facts.mk e1 t1 f1).cells hs rfl rfl rfl (by decide) (λ_ _ b3 hEb3 hs=>?_)))
 refine stepBox (X_api_Facts.mk e2 t2 f2).cells hs rfl rfl rfl (by decide) (λ_ _ b4 hEb4 hs=>?_)
 refine stepAlloc [(.bool false),(.bool false),(.bool false)] hs (by kernel_rfl) (by decide) (λ_ _ b5 hEb5 hs=>?_)
 refine wpList_nil (Wp.seq (Wp.region ?_))
 change Sx 32 E [] M _ _ _ [⟨b5,194,[.bool false,.bool false,.bool false]⟩,⟨b4,194,[.bool e2,.bool t2,.bool f2]⟩,⟨b3,194,[.bool e1,.bool t1,.bool f1]⟩] []at hs
 refine wpList_cut 10 (λa w=>Sx 32 E [] M w a [(2,pt b3 0),(3,pt b4 0),(4,pt b5 0),(14,.bool (e1||(f1&&e2)))] [⟨b5,194,[.bool false,.bool false,.bool false]⟩,⟨b4,194,[.bool e2,.bool t2,.bool f2]⟩,⟨b3,194,[.bool e1,.bool t1,.bool f1]⟩] []) ?_ λa w hs=>?_
 ·cases e1<;>cases f1<;>cases e2<;>(
   refine sP (pt b3 0) hs λ_ hs=>?_
   first|refine sY (.bool true) hs (Yl.lB [.bool true] false 2) λ_ hs=>?_|refine sY (.bool false) hs (Yl.lB [.bool false] false 2) λ_ hs=>?_
   first|refine sPr (.bool true) hs λ_ hs=>?_|refine sPr (.bool false) hs λ_ hs=>?_
   first|refine sNo hs λ_ hs=>?_|refine sNu hs λ_ hs=>?_|refine sYe hs (sP (pt b3 2) hs λ_ hs=>?_)
   first|refine sNo hs λ_ hs=>?_|refine sNu hs λ_ hs=>?_|refine sYe hs (sY (.bool true) hs (Yl.lB [.bool true] false 2) λ_ hs=>?_)|refine sYe hs (sY (.bool false) hs (Yl.lB [.bool false] false 2) λ_ hs=>?_)
   first|refine sNo hs λ_ hs=>?_|refine sNu hs λ_ hs=>?_|refine sYe hs (sPr (.bool true) hs λ_ hs=>?_)|refine sYe hs (sPr (.bool false) hs λ_ hs=>?_)
   first|refine sNo hs λ_ hs=>?_|refine sNu hs λ_ hs=>?_|refine sYe hs (sP (pt b4 0) hs λ_ hs=>?_)
   first|refine sNo hs λ_ hs=>?_|refine sNu hs λ_ hs=>?_|refine sYe hs (sY (.bool true) hs (Yl.lB [.bool true] false 1) λ_ hs=>?_)|refine sYe hs (sY (.bool false) hs (Yl.lB [.bool false] false 1) λ_ hs=>?_)
   first|refine sNo hs λ_ hs=>?_|refine sNu hs λ_ hs=>?_|refine sYe hs (sPr (.bool true) hs λ_ hs=>?_)|refine sYe hs (sPr (.bool false) hs λ_ hs=>?_)
   first|refine sPr (.bool true) hs λ_ hs=>?_|refine sPr (.bool false) hs λ_ hs=>?_
   exact wpList_nil (hs.wk ⟨rfl,rfl,rfl,rfl,trivial⟩))
 refine wpList_cut 10 (λa w=>Sx 32 E [] M w a [(2,pt b3 0),(3,pt b4 0),(4,pt b5 0),(14,.bool (e1||(f1&&e2))),(24,.bool (t1||(f1&&t2)))] [⟨b5,194,[.bool false,.bool false,.bool false]⟩,⟨b4,194,[.bool e2,.bool t2,.bool f2]⟩,⟨b3,194,[.bool e1,.bool t1,.bool f1]⟩] []) ?_ λa w hs=>?_
 ·cases t1<;>cases f1<;>cases t2<;>(
   refine sP (pt b3 1) hs λ_ hs=>?_
   first|refine sY (.bool true) hs (Yl.lB [.bool true] false 2) λ_ hs=>?_|refine sY (.bool false) hs (Yl.lB [.bool false] false 2) λ_ hs=>?_
   first|refine sPr (.bool true) hs λ_ hs=>?_|refine sPr (.bool false) hs λ_ hs=>?_
   first|refine sNo hs λ_ hs=>?_|refine sNu hs λ_ hs=>?_|refine sYe hs (sP (pt b3 2) hs λ_ hs=>?_)
   first|refine sNo hs λ_ hs=>?_|refine sNu hs λ_ hs=>?_|refine sYe hs (sY (.bool true) hs (Yl.lB [.bool true] false 2) λ_ hs=>?_)|refine sYe hs (sY (.bool false) hs (Yl.lB [.bool false] false 2) λ_ hs=>?_)
   first|refine sNo hs λ_ hs=>?_|refine sNu hs λ_ hs=>?_|refine sYe hs (sPr (.bool true) hs λ_ hs=>?_)|refine sYe hs (sPr (.bool false) hs λ_ hs=>?_)
   first|refine sNo hs λ_ hs=>?_|refine sNu hs λ_ hs=>?_|refine sYe hs (sP (pt b4 1) hs λ_ hs=>?_)
   first|refine sNo hs λ_ hs=>?_|refine sNu hs λ_ hs=>?_|refine sYe hs (sY (.bool true) hs (Yl.lB [.bool true] false 1) λ_ hs=>?_)|refine sYe hs (sY (.bool false) hs (Yl.lB [.bool false] false 1) λ_ hs=>?_)
   first|refine sNo hs λ_ hs=>?_|refine sNu hs λ_ hs=>?_|refine sYe hs (sPr (.bool true) hs λ_ hs=>?_)|refine sYe hs (sPr (.bool false) hs λ_ hs=>?_)
   first|refine sPr (.bool true) hs λ_ hs=>?_|refine sPr (.bool false) hs λ_ hs=>?_
   exact wpList_nil (hs.wk ⟨rfl,rfl,rfl,rfl,rfl,trivial⟩))
 refine wpList_cut 6 (λa w=>Sx 32 E [] M w a [(2,pt b3 0),(3,pt b4 0),(4,pt b5 0),(14,.bool (e1||(f1&&e2))),(24,.bool (t1||(f1&&t2))),(30,.bool (f1&&f2))] [⟨b5,194,[.bool false,.bool false,.bool false]⟩,⟨b4,194,[.bool e2,.bool t2,.bool f2]⟩,⟨b3,194,[.bool e1,.bool t1,.bool f1]⟩] []) ?_ λa w hs=>?_
 ·cases f1<;>cases f2<;>(
   refine sP (pt b3 2) hs λ_ hs=>?_
   first|refine sY (.bool true) hs (Yl.lB [.bool true] false 2) λ_ hs=>?_|refine sY (.bool false) hs (Yl.lB [.bool false] false 2) λ_ hs=>?_
   first|refine sPr (.bool true) hs λ_ hs=>?_|refine sPr (.bool false) hs λ_ hs=>?_
   first|refine sNo hs λ_ hs=>?_|refine sNu hs λ_ hs=>?_|refine sYe hs (sP (pt b4 2) hs λ_ hs=>?_)
   first|refine sNo hs λ_ hs=>?_|refine sNu hs λ_ hs=>?_|refine sYe hs (sY (.bool true) hs (Yl.lB [.bool true] false 1) λ_ hs=>?_)|refine sYe hs (sY (.bool false) hs (Yl.lB [.bool false] false 1) λ_ hs=>?_)
   first|refine sPr (.bool true) hs λ_ hs=>?_|refine sPr (.bool false) hs λ_ hs=>?_
   exact wpList_nil (hs.wk ⟨rfl,rfl,rfl,rfl,rfl,rfl,trivial⟩))
 refine sP (X_api_Facts.mk (e1||(f1&&e2)) (t1||(f1&&t2)) (f1&&f2)).val hs λ_ hs=>?_
 refine stB 0 [.bool (e1||(f1&&e2)),.bool (t1||(f1&&t2)),.bool (f1&&f2)] [⟨b5,194,[.bool (e1||(f1&&e2)),.bool (t1||(f1&&t2)),.bool (f1&&f2)]⟩,⟨b4,194,[.bool e2,.bool t2,.bool f2]⟩,⟨b3,194,[.bool e1,.bool t1,.bool f1]⟩] hs λ_ _ hs=>?_
 exact wpList_nil (Wp.ret (lvE K hs (resC (vs:=[.bool (e1||(f1&&e2)),.bool (t1||(f1&&t2)),.bool (f1&&f2)]) true 0 hs rfl rfl rfl (by kernel_rfl) rfl) hMM.2 hK))
end Go.Proofs.Ytmnilbfhfjdelaa.core

namespace Go.Proofs.Ytmnilbfhfjdelaa.core
open Go.Gx Go.RowKit Go.ChangeShapes Go.WideShapes Go.ChangeAt
set_option linter.unusedVariables false
abbrev Fa:=X_api_Facts
def fa0:Fa:=⟨false,false,false⟩
def faThen (a b:Fa):Fa:=⟨a.Empty&&b.Empty,(a.Eats&&(b.Empty||b.Eats))||(a.Empty&&b.Eats),a.Fails||((a.Empty||a.Eats)&&b.Fails)⟩
def faOr (a b:Fa):Fa:=⟨a.Empty||(a.Fails&&b.Empty),a.Eats||(a.Fails&&b.Eats),a.Fails&&b.Fails⟩
def faStar (f:Fa):Fa:=⟨f.Fails,f.Eats,false⟩
def faAnd (f:Fa):Fa:=⟨f.Empty||f.Eats,false,f.Fails⟩
def faNot (f:Fa):Fa:=⟨f.Fails,false,f.Empty||f.Eats⟩
def faUni (a b:Fa):Fa:=⟨a.Empty||b.Empty,a.Eats||b.Eats,a.Fails||b.Fails⟩
def thenL:List Fa->Fa
 |[]=>fa0
 |a::l=>l.foldl faThen a
def thenR:List Fa->Fa
 |[]=>fa0
 |[a]=>a
 |a::l=>faThen a (thenR l)
def orL:List Fa->Fa
 |[]=>fa0
 |[a]=>a
 |a::l=>faOr a (orL l)
def hdF (l:List Fa):Fa:=l.headD fa0
theorem then_assoc:∀a b c:Fa,faThen (faThen a b) c=faThen a (faThen b c):=by
 rintro⟨_|_,_|_,_|_⟩ ⟨_|_,_|_,_|_⟩ ⟨_|_,_|_,_|_⟩<;>rfl
theorem thenL_snoc {l:List Fa} (h:l≠[]) (a:Fa):thenL (l++[a])=faThen (thenL l) a:=by
 cases l with
 |nil=>exact absurd rfl h
 |cons b r=>simp[thenL]
theorem fold_then (a b:Fa):∀l:List Fa,l.foldl faThen (faThen a b)=faThen a (l.foldl faThen b)
 |[]=>rfl
 |c::l=>by rw[List.foldl_cons,List.foldl_cons,then_assoc,fold_then a (faThen b c) l]
theorem thenL_R:∀l:List Fa,thenL l=thenR l
 |[]=>rfl
 |[a]=>rfl
 |a::b::l=>by
  have:=thenL_R (b::l)
  rw[thenR,<-this,thenL,thenL,List.foldl_cons,fold_then]
  simp
def opF (k:Int) (s:X_api_Set) (r:Fa) (l:List Fa):Fa:=
 if k=1 then⟨true,false,false⟩ else if k=2 then⟨false,!zs s,true⟩ else if k=3 then⟨false,true,true⟩ else if k=4 then r
 else if k=5 then thenL l else if k=6 then orL l else if k=7 then faStar (hdF l) else if k=8 then faThen (hdF l) (faStar (hdF l))
 else if k=9 then faOr (hdF l) ⟨true,false,false⟩ else if k=10 then faAnd (hdF l) else faNot (hdF l)
def refF (rs:List Ru) (kn:List Fa) (s:List UInt8):Fa:=(kn[(findR s rs 0).toNat]?).getD fa0
mutual
def ofE (rs:List Ru) (kn:List Fa):Ex->Fa
 | .mk k s t ks=>opF k s (refF rs kn t) (ofEs rs kn ks)
def ofEs (rs:List Ru) (kn:List Fa):List Ex->List Fa
 |[]=>[]
 |k::ks=>ofE rs kn k::ofEs rs kn ks
end
theorem ofEs_map (rs:List Ru) (kn:List Fa):∀ks,ofEs rs kn ks=ks.map (ofE rs kn)
 |[]=>by rw[ofEs];rfl
 |k::ks=>by rw[ofEs,ofEs_map rs kn ks];rfl
theorem ofE_eq (rs:List Ru) (kn:List Fa) (e:Ex):ofE rs kn e=opF e.kind e.set (refF rs kn e.text) (e.kids.map (ofE rs kn)):=by
 cases e;rw[ofE,ofEs_map];rfl
def faLe (a b:Fa):Prop:=(a.Empty=true->b.Empty=true)/\(a.Eats=true->b.Eats=true)/\(a.Fails=true->b.Fails=true)
def bit (b:Bool):Nat:=if b then 1 else 0
def faWt (a:Fa):Nat:=bit a.Empty+bit a.Eats+bit a.Fails
theorem faLat:Lat faLe faUni faWt 3 where
 refl:=λa=>⟨id,id,id⟩
 trans:=λh k=>⟨k.1∘h.1,k.2.1∘h.2.1,k.2.2∘h.2.2⟩
 anti:=by rintro⟨_|_,_|_,_|_⟩ ⟨_|_,_|_,_|_⟩<;>simp[faLe]
 left:=by rintro⟨_|_,_|_,_|_⟩ ⟨_|_,_|_,_|_⟩<;>simp[faLe,faUni]
 right:=by rintro⟨_|_,_|_,_|_⟩ ⟨_|_,_|_,_|_⟩<;>simp[faLe,faUni]
 least:=by rintro⟨_|_,_|_,_|_⟩ ⟨_|_,_|_,_|_⟩ ⟨_|_,_|_,_|_⟩<;>simp[faLe,faUni]
 mono:=by rintro⟨_|_,_|_,_|_⟩ ⟨_|_,_|_,_|_⟩<;>simp[faLe,faWt,bit]
 strict:=by rintro⟨_|_,_|_,_|_⟩ ⟨_|_,_|_,_|_⟩<;>simp[faLe,faWt,bit]
 bound:=by rintro⟨_|_,_|_,_|_⟩<;>simp[faWt,bit]
theorem then_mono:∀{a b c d:Fa},faLe a c->faLe b d->faLe (faThen a b) (faThen c d):=by
 intro a b c d h k
 obtain⟨h1,h2,h3⟩:=h
 obtain⟨k1,k2,k3⟩:=k
 refine⟨?_,?_,?_⟩<;>simp only[faThen,Bool.and_eq_true,Bool.or_eq_true]
 ·exact λ⟨p,q⟩=>⟨h1 p,k1 q⟩
 ·rintro(⟨p,q⟩|⟨p,q⟩)
  ·exact .inl ⟨h2 p,q.imp k1 k2⟩
  ·exact .inr ⟨h1 p,k2 q⟩
 ·rintro(p|⟨p,q⟩)
  ·exact .inl (h3 p)
  ·exact .inr ⟨p.imp h1 h2,k3 q⟩
theorem or_mono:∀{a b c d:Fa},faLe a c->faLe b d->faLe (faOr a b) (faOr c d):=by
 intro a b c d h k
 obtain⟨h1,h2,h3⟩:=h
 obtain⟨k1,k2,k3⟩:=k
 refine⟨?_,?_,?_⟩<;>simp only[faOr,Bool.and_eq_true,Bool.or_eq_true]
 ·exact λp=>p.imp h1 λ⟨p,q⟩=>⟨h3 p,k1 q⟩
 ·exact λp=>p.imp h2 λ⟨p,q⟩=>⟨h3 p,k2 q⟩
 ·exact λ⟨p,q⟩=>⟨h3 p,k3 q⟩
theorem star_mono:∀{a c:Fa},faLe a c->faLe (faStar a) (faStar c):=λh=>⟨h.2.2,h.2.1,id⟩
theorem and_mono:∀{a c:Fa},faLe a c->faLe (faAnd a) (faAnd c):=λh=>⟨by simp only[faAnd,Bool.or_eq_true];exact λp=>p.imp h.1 h.2.1,id,h.2.2⟩
theorem not_mono:∀{a c:Fa},faLe a c->faLe (faNot a) (faNot c):=λh=>⟨h.2.2,id,by simp only[faNot,Bool.or_eq_true];exact λp=>p.imp h.1 h.2.1⟩
theorem thenR_mono:∀{l k:List Fa},leL faLe l k->faLe (thenR l) (thenR k)
 |[],k,h=>by have:=h.1;have:k=[]:=List.eq_nil_of_length_eq_zero (by simpa using this.symm);subst this;exact faLat.refl _
 |[a],k,h=>by
  obtain⟨b,rfl⟩:∃b,k=[b]:=List.length_eq_one_iff.1 (by simpa using h.1.symm)
  exact h.2 0 a b rfl rfl
 |a::x::l,k,h=>by
  obtain⟨b,k,rfl⟩:∃b k',k=b::k':=by cases k with|nil=>have:=h.1;simp at this|cons b k=>exact⟨b,k,rfl⟩
  have ht:leL faLe (x::l) k:=⟨by simpa using h.1,λi p q hp hq=>h.2 (i+1) p q (by simpa using hp) (by simpa using hq)⟩
  cases k with
  |nil=>have:=ht.1;simp at this
  |cons y k=>
   simp only[thenR]
   exact then_mono (h.2 0 a b rfl rfl) (thenR_mono ht)
theorem orL_mono:∀{l k:List Fa},leL faLe l k->faLe (orL l) (orL k)
 |[],k,h=>by have:=h.1;have:k=[]:=List.eq_nil_of_length_eq_zero (by simpa using this.symm);subst this;exact faLat.refl _
 |[a],k,h=>by
  obtain⟨b,rfl⟩:∃b,k=[b]:=List.length_eq_one_iff.1 (by simpa using h.1.symm)
  exact h.2 0 a b rfl rfl
 |a::x::l,k,h=>by
  obtain⟨b,k,rfl⟩:∃b k',k=b::k':=by cases k with|nil=>have:=h.1;simp at this|cons b k=>exact⟨b,k,rfl⟩
  have ht:leL faLe (x::l) k:=⟨by simpa using h.1,λi p q hp hq=>h.2 (i+1) p q (by simpa using hp) (by simpa using hq)⟩
  cases k with
  |nil=>have:=ht.1;simp at this
  |cons y k=>
   simp only[orL]
   exact or_mono (h.2 0 a b rfl rfl) (orL_mono ht)
theorem hdF_mono {l k:List Fa} (h:leL faLe l k):faLe (hdF l) (hdF k):=by
 cases l with
 |nil=>have:=h.1;have:k=[]:=List.eq_nil_of_length_eq_zero (by simpa using this.symm);subst this;exact faLat.refl _
 |cons a l=>cases k with
  |nil=>have:=h.1;simp at this
  |cons b k=>exact h.2 0 a b rfl rfl
theorem opF_mono {k:Int} {s:X_api_Set} {r r':Fa} {l l':List Fa} (hr:faLe r r') (hl:leL faLe l l'):faLe (opF k s r l) (opF k s r' l'):=by
 have h1:=hdF_mono hl
 unfold opF
 split;· exact faLat.refl _
 split;· exact faLat.refl _
 split;· exact faLat.refl _
 split;· exact hr
 split;· rw[thenL_R,thenL_R];exact thenR_mono hl
 split;· exact orL_mono hl
 split;· exact star_mono h1
 split;· exact then_mono h1 (star_mono h1)
 split;· exact or_mono h1 (faLat.refl _)
 split;· exact and_mono h1
 exact not_mono h1
theorem refF_mono {rs:List Ru} {kn z:List Fa} (h:leL faLe kn z) (s:List UInt8):faLe (refF rs kn s) (refF rs z s):=by
 unfold refF
 by_cases hi:(findR s rs 0).toNat<kn.length
 ·obtain⟨a,ha⟩:=getN hi
  obtain⟨b,hb⟩:=getN (l:=z) (i:=(findR s rs 0).toNat) (by have:=h.1;omega)
  rw[ha,hb];exact h.2 _ _ _ ha hb
 ·rw[List.getElem?_eq_none (by omega),List.getElem?_eq_none (by have:=h.1;omega)];exact faLat.refl _
theorem ofE_mono {rs:List Ru} {kn z:List Fa} (h:leL faLe kn z) (e:Ex):faLe (ofE rs kn e) (ofE rs z e):=by
 induction hn:SizeOf.sizeOf e using Nat.strongRecOn generalizing e with
 |_ n ih=>
  subst hn
  rw[ofE_eq,ofE_eq]
  refine opF_mono (refF_mono h _) ⟨by simp,λi a b ha hb=>?_⟩
  rw[List.getElem?_map]at ha hb
  cases hk:e.kids[i]? with
  |none=>rw[hk]at ha;cases ha
  |some k=>
   rw[hk]at ha hb
   simp only[Option.map_some,Option.some.injEq]at ha hb
   subst ha hb
   exact ih _ (Ex.kid_lt (List.mem_of_getElem? hk)) k rfl
def Fof (rs:List Ru) (kn:List Fa) (i:Nat):Fa:=match rs[i]? with
 |some r=>ofE rs kn r.body
 |none=>fa0
theorem Fof_mono (rs:List Ru) (n:Nat):MonoF faLe (Fof rs) n:=λkn z i _ _ h=>by
 unfold Fof
 split
 ·exact ofE_mono h _
 ·exact faLat.refl _
theorem Xf_len (x:Fa):x.cells.length=3:=rfl
theorem then_is (a b:Fa) (M:Mem) (K:Value->Prop) (h:K (faThen a b).val):S_well_then a b M K:=h
theorem or_is (a b:Fa) (M:Mem) (K:Value->Prop) (h:K (faOr a b).val):S_well_or a b M K:=h
end Go.Proofs.Ytmnilbfhfjdelaa.core

namespace Go.Proofs.Ytmnilbfhfjdelaa.core
open Go.Gx Go.RowKit Go.ChangeShapes Go.WideShapes Go.ChangeAt
set_option linter.unusedVariables false
theorem kid_is {rs:List Ru} {kn:List Fa} {e:Ex} {ga ra:Option Addr} {gl gc rc:Nat} {x:X_api_Expr} {M M':Mem} {b2 b3 b4:Nat}
  (hon:∀(k:Ex) (y:X_api_Expr) (K:Value->Prop),k∈e.kids->ExR M' k y->K (ofE rs kn k).val->S_well_of ga gl gc ra kn.length rc y M' K)
  (hR:ExR M e x) (hle:M.le M') (h2:At M' b2 0 [Value.slice ga gl gc]) (h3:At M' b3 0 [Value.slice ra kn.length rc]) (h4:At M' b4 0 x.cells)
  (i:Int) (h0:0<=i) (k:Ex) (hk:e.kids[i.toNat]?=some k) (K:Value->Prop) (hK:K (ofE rs kn k).val):S_well_of_1 i b2 b3 b4 M' K:=by
 obtain⟨xs,hx⟩:=(hR.le hle).open
 obtain⟨b,o,y,ha,hat,hy,_⟩:=hx.kid hk
 have hlt:=(List.getElem?_eq_some_iff.1 hk).1
 unfold S_well_of_1
 refine⟨_,_,_,h2,_,_,_,h3,_,_,_,(h4.part 6 [Value.slice x.Kids_a x.Kids_l x.Kids_c] rfl),b,o,ha,h0,by rw[hx.len];omega,y,hat,?_⟩
 exact s_well_of _ _ _ _ _ _ _ _ _ (hon k y _ (List.mem_of_getElem? hk) hy ⟨_,rfl,hK⟩)
theorem star_is (a:Fa) (M:Mem) (K:Value->Prop) (h:K (faStar a).val):S_well_star a M K:=h
theorem of_is {rs:List Ru} {kn:List Fa} {ga ra:Option Addr} {gl gc rc:Nat} (hlen:kn.length=rs.length):∀(n:Nat) (e:Ex),SizeOf.sizeOf e<n->∀{M:Mem} {x:X_api_Expr} {K:Value->Prop},ExR M e x->GrR M rs ga gl gc->
  SlV M ra kn.length rc 3 (cl X_api_Facts.cells kn)->GoodE rs e->K (ofE rs kn e).val->S_well_of ga gl gc ra kn.length rc x M K:=by
 intro n
 induction n with
 |zero=>intro e h;omega
 |succ n ih=>
  intro e hn M x K hR hg hkn hgood hK
  obtain⟨xs,hx⟩:=hR.open
  obtain⟨g1,g2,g3,g4,g5,g6,g7,g8⟩:=fitE_kinds hgood.fit
  have hon:∀M',M.le M'->∀(k:Ex) (y:X_api_Expr) (K:Value->Prop),k∈e.kids->ExR M' k y->K (ofE rs kn k).val->S_well_of ga gl gc ra kn.length rc y M' K:=λM' hle k y K hk hy hK=>
   ih k (by have:=Ex.kid_lt hk;omega) hy (hg.le hle) (hkn.le hle) (hgood.kid k hk) hK
  have kid:=λ{M' b2 b3 b4} (hle:M.le M')=>kid_is (e:=e) (M:=M) (M':=M') (b2:=b2) (b3:=b3) (b4:=b4) (hon M' hle) hR hle
  rw[ofE_eq]at hK
  have hL:∀(i:Nat) k,e.kids[i]?=some k->(e.kids.map (ofE rs kn))[i]?=some (ofE rs kn k):=λi k hk=>by rw[List.getElem?_map,hk];rfl
  generalize hLd:e.kids.map (ofE rs kn)=l at hK hL
  have hll:l.length=e.kids.length:=by rw[<-hLd];simp
  have hat3:∀{M:Mem} {b:Nat},At M b 0 [Value.int .i64 e.kind,Value.int .u64 x.Set.w0,Value.int .u64 x.Set.w1,Value.int .u64 x.Set.w2,Value.int .u64 x.Set.w3,Value.string (mkS x.Text),Value.slice x.Kids_a x.Kids_l x.Kids_c]->At M b 0 x.cells:=λh=>by rw[<-hx.kind]at h;exact h
  have one:7<=e.kind->∃k,e.kids[(0:Int).toNat]?=some k/\hdF l=ofE rs kn k:=λh7=>by
   obtain⟨k,hk⟩:=getN (l:=e.kids) (i:=0) (by have:=g5 h7;omega)
   refine⟨k,hk,?_⟩
   have:=hL 0 k hk
   cases l with
   |nil=>simp at this
   |cons a r=>simp at this;exact this
  unfold opF at hK
  unfold S_well_of
  rw[hx.kind]
  refine⟨λh=>?_,λn1=>⟨λh=>?_,λn2=>⟨λh=>?_,λn3=>⟨λh=>?_,λn4=>⟨λh=>?_,λn5=>⟨λh=>?_,λn6=>⟨λh=>?_,λn7=>⟨λh=>?_,λn8=>⟨λh=>?_,λn9=>?_⟩⟩⟩⟩⟩⟩⟩⟩⟩
  ·rw[if_pos h]at hK;exact hK
  ·rw[if_neg n1,if_pos h,<-hx.set]at hK;exact hK
  ·rw[if_neg n1,if_neg n2,if_pos h]at hK;exact hK
  ·rw[if_neg n1,if_neg n2,if_neg n3,if_pos h]at hK
   have hr:=hgood.ref h
   obtain⟨hlt,hlt'⟩:=findR_lt hr
   obtain⟨a,ha⟩:=getN (l:=kn) (i:=(findR e.text rs 0).toNat) (by omega)
   obtain⟨b,o,hb,hat⟩:=hkn.at Xf_len rfl ha
   rw[hx.text]
   refine s_gram_Find _ _ _ _ _ _ (find_is hg e.text _ ⟨_,rfl,b,o,hb,hr,by omega,a,hat,?_⟩)
   rw[refF,ha]at hK;exact hK
  ·rw[if_neg n1,if_neg n2,if_neg n3,if_neg n4,if_pos h]at hK
   obtain⟨q1,q2⟩:=g4 (.inl h)
   obtain⟨k0,hk0⟩:=getN (l:=e.kids) (i:=0) (by omega)
   intro M1 b8 hl1 hb8 M2 b9 hl2 hb9 M3 b10 hl3 hb10
   have hle:=(hl1.trans hl2).trans hl3
   refine s_well_of_1 _ _ _ _ _ _ (kid hle (hb8.le (hl2.trans hl3)) (hb9.le hl3) (hat3 hb10) 0 (by omega) k0 hk0 _ ⟨_,rfl,?_⟩)
   refine⟨λi a b c=>1<=i/\i<=l.length/\(⟨a,b,c⟩:Fa)=thenL (l.take i.toNat),λi _ _ _=>l.length-i.toNat,⟨by omega,by omega,?_⟩,λi a b c ⟨i1,i2,i3⟩=>?_⟩
   ·have:=hL 0 k0 hk0
    cases l with
    |nil=>simp at this
    |cons y r=>simp at this;subst this;rfl
   ·refine⟨_,_,_,(hat3 hb10).part 6 [Value.slice x.Kids_a x.Kids_l x.Kids_c] rfl,λhlt=>?_,λhge=>?_⟩
    ·rw[hx.len]at hlt
     obtain⟨k,hk⟩:=getI (l:=e.kids) (i:=i) (by omega) (by omega)
     refine s_well_of_1 _ _ _ _ _ _ (kid hle (hb8.le (hl2.trans hl3)) (hb9.le hl3) (hat3 hb10) i (by omega) k hk _ ⟨_,rfl,s_well_then _ _ _ _ (then_is _ _ _ _ ⟨_,rfl,by unfold InI;omega,⟨by omega,by omega,?_⟩,by dsimp only;omega⟩)⟩)
     rw[i3,show(i+1).toNat=i.toNat+1 by omega,take_get (hL _ k hk),thenL_snoc]
     intro h0
     have:=congrArg List.length h0
     rw[List.length_take,List.length_nil]at this;omega
    ·rw[hx.len]at hge
     rw[List.take_of_length_le (by omega)]at i3
     rw[<-i3]at hK;exact hK
  ·rw[if_neg n1,if_neg n2,if_neg n3,if_neg n4,if_neg n5,if_pos h]at hK
   obtain⟨q1,q2⟩:=g4 (.inr h)
   have hxl:=hx.len
   refine⟨by unfold InI;omega,λM1 b8 hl1 hb8 M2 b9 hl2 hb9 M3 b10 hl3 hb10=>?_⟩
   have hle:=(hl1.trans hl2).trans hl3
   obtain⟨k0,hk0⟩:=getI (l:=e.kids) (i:=(x.Kids_l:Int)-1) (by omega) (by omega)
   refine s_well_of_1 _ _ _ _ _ _ (kid hle (hb8.le (hl2.trans hl3)) (hb9.le hl3) (hat3 hb10) _ (by omega) k0 hk0 _ ⟨_,rfl,?_⟩)
   refine⟨_,_,_,(hat3 hb10).part 6 [Value.slice x.Kids_a x.Kids_l x.Kids_c] rfl,by unfold InI;omega,?_⟩
   refine⟨λi a b c=> -1<=i/\i<=(l.length:Int)-2/\(⟨a,b,c⟩:Fa)=orL (l.drop (i+1).toNat),λi _ _ _=>(i+1).toNat,⟨by omega,by omega,?_⟩,λi a b c ⟨i1,i2,i3⟩=>⟨λhge=>?_,λhlt=>?_⟩⟩
   ·have h1:=hL _ k0 hk0
    rw[show((x.Kids_l:Int)-2+1).toNat=((x.Kids_l:Int)-1).toNat by omega,drop_get h1,List.drop_of_length_le (by omega)];rfl
   ·obtain⟨k,hk⟩:=getI (l:=e.kids) (i:=i) (by omega) (by omega)
    refine s_well_of_1 _ _ _ _ _ _ (kid hle (hb8.le (hl2.trans hl3)) (hb9.le hl3) (hat3 hb10) i (by omega) k hk _ ⟨_,rfl,s_well_or _ _ _ _ (or_is _ _ _ _ ⟨_,rfl,by unfold InI;omega,⟨by omega,by omega,?_⟩,by dsimp only;omega⟩)⟩)
    rw[i3,show(i-1+1).toNat=i.toNat by omega,drop_get (hL _ k hk),show(i+1).toNat=i.toNat+1 by omega]
    cases hd:l.drop (i.toNat+1)with
    |nil=>have:=congrArg List.length hd;simp at this;omega
    |cons y r=>rfl
   ·rw[show(i+1).toNat=0 by omega,List.drop_zero]at i3
    rw[<-i3]at hK;exact hK
  ·rw[if_neg n1,if_neg n2,if_neg n3,if_neg n4,if_neg n5,if_neg n6,if_pos h]at hK
   obtain⟨k0,hk0,hhd⟩:=one (by omega)
   rw[hhd]at hK
   intro M1 b8 hl1 hb8 M2 b9 hl2 hb9 M3 b10 hl3 hb10
   have hle:=(hl1.trans hl2).trans hl3
   exact s_well_of_1 _ _ _ _ _ _ (kid hle (hb8.le (hl2.trans hl3)) (hb9.le hl3) (hat3 hb10) 0 (by omega) k0 hk0 _ ⟨_,rfl,s_well_star _ _ _ (star_is _ _ _ ⟨_,rfl,hK⟩)⟩)
  ·rw[if_neg n1,if_neg n2,if_neg n3,if_neg n4,if_neg n5,if_neg n6,if_neg n7,if_pos h]at hK
   obtain⟨k0,hk0,hhd⟩:=one (by omega)
   rw[hhd]at hK
   intro M1 b8 hl1 hb8 M2 b9 hl2 hb9 M3 b10 hl3 hb10
   have hle:=(hl1.trans hl2).trans hl3
   have kk:=λK hK=>s_well_of_1 _ _ _ _ _ _ (kid hle (hb8.le (hl2.trans hl3)) (hb9.le hl3) (hat3 hb10) 0 (by omega) k0 hk0 K hK)
   exact kk _ ⟨_,rfl,kk _ ⟨_,rfl,s_well_star _ _ _ (star_is _ _ _ ⟨_,rfl,s_well_then _ _ _ _ (then_is _ _ _ _ ⟨_,rfl,hK⟩)⟩)⟩⟩
  ·rw[if_neg n1,if_neg n2,if_neg n3,if_neg n4,if_neg n5,if_neg n6,if_neg n7,if_neg n8,if_pos h]at hK
   obtain⟨k0,hk0,hhd⟩:=one (by omega)
   rw[hhd]at hK
   intro M1 b8 hl1 hb8 M2 b9 hl2 hb9 M3 b10 hl3 hb10
   have hle:=(hl1.trans hl2).trans hl3
   exact s_well_of_1 _ _ _ _ _ _ (kid hle (hb8.le (hl2.trans hl3)) (hb9.le hl3) (hat3 hb10) 0 (by omega) k0 hk0 _ ⟨_,rfl,s_well_or _ _ _ _ (or_is _ _ _ _ ⟨_,rfl,hK⟩)⟩)
  ·rw[if_neg n1,if_neg n2,if_neg n3,if_neg n4,if_neg n5,if_neg n6,if_neg n7,if_neg n8,if_neg n9]at hK
   obtain⟨k0,hk0,hhd⟩:=one (by omega)
   rw[hhd]at hK
   intro M1 b8 hl1 hb8 M2 b9 hl2 hb9 M3 b10 hl3 hb10
   have hle:=(hl1.trans hl2).trans hl3
   have j1:∀b:Bool,b=((ofE rs kn k0).Empty||(ofE rs kn k0).Eats)->S_well_of_J1 b10 M3 (ofE rs kn k0) b K:=by
    rintro b rfl
    unfold S_well_of_J1
    refine⟨_,(hat3 hb10).part 0 [Value.int .i64 x.Kind] rfl,λh=>?_,λh=>?_⟩
    ·rw[hx.kind]at h;rw[if_pos h]at hK;exact hK
    ·rw[hx.kind]at h;rw[if_neg h]at hK;exact hK
   refine s_well_of_1 _ _ _ _ _ _ (kid hle (hb8.le (hl2.trans hl3)) (hb9.le hl3) (hat3 hb10) 0 (by omega) k0 hk0 _ ⟨_,rfl,λh=>j1 _ (by simp[h]),λh=>j1 _ (by simp[h])⟩)
theorem facts1_is {rs:List Ru} {kn:List Fa} {ga ra:Option Addr} {gl gc rc b5:Nat} {M:Mem} (hok:GramOk rs) (hlen:kn.length=rs.length) (hg:GrR M rs ga gl gc) (hkn:SlV M ra kn.length rc 3 (cl X_api_Facts.cells kn)) (h5:At M b5 0 [Value.slice ga gl gc])
  (i:Int) (h0:0<=i) (h1:i<rs.length) (K:Value->Prop) (hK:K (Fof rs kn i.toNat).val):S_well_facts_1 ra kn.length rc i b5 M K:=by
 obtain⟨r,x,b,o,hr,ha,hat,hrr⟩:=hg.at h0 (by rw[hg.len];exact h1)
 unfold S_well_facts_1
 refine⟨_,_,_,h5,_,_,_,h5,b,o,ha,h0,by rw[hg.len];exact h1,x.Body,hat.part 1 x.Body.cells rfl,s_well_of _ _ _ _ _ _ _ _ _ (of_is hlen _ r.body (Nat.lt_succ_self _) hrr.2.2 hg hkn (hok.good r (List.mem_of_getElem? hr)) ⟨_,rfl,?_⟩)⟩
 rw[Fof,hr]at hK
 exact hK
end Go.Proofs.Ytmnilbfhfjdelaa.core

namespace Go.Proofs.Ytmnilbfhfjdelaa.core
open Go.Gx Go.RowKit Go.ChangeShapes Go.WideShapes Go.ChangeAt
set_option linter.unusedVariables false
structure GrowI (M M':Mem) (e size:Nat) (ad:Option Addr) (n cap:Nat) (xs:List Value):Prop where
 le:M.le M'
 row:RowW M' e size ad n cap xs
 new:∀g o,ad=some ⟨g,o,none⟩->M g=none
theorem GrowI.make {M M':Mem} {e size n cap:Nat} {ad:Option Addr} {xs:List Value} (h:NewRow M M' e size ad n cap xs):GrowI M M' e size ad n cap xs:=by
 refine⟨h.le,h.roww,λg o hg=>?_⟩
 obtain⟨_,_,_,⟨h1,_⟩|⟨g',cur,h1,h2,_⟩⟩:=h
 ·rw[h1]at hg;cases hg
 ·rw[h1]at hg
  simp only[Option.some.injEq,Addr.mk.injEq,and_true]at hg
  rw[<-hg.1];exact h2
theorem GrowI.more {M M' M'':Mem} {e size n cap:Nat} {ad:Option Addr} {xs:List Value} (h:GrowI M M' e size ad n cap xs) (hl:M'.le M''):GrowI M M'' e size ad n cap xs:=
 ⟨h.le.trans hl,h.row.le hl,h.new⟩
theorem GrowI.put {α:Type} {f:α->List Value} {M M':Mem} {e size n cap:Nat} {ad:Option Addr} {xs:List α} (hf:∀x,(f x).length=size) (h:GrowI M M' e size ad n cap (cl f xs)) (hl:xs.length=n) {i b o:Nat} (hi:i<n) (had:ad=some ⟨b,o,none⟩) (x:α):
  Has M' b (o+i*size) size/\M b=none/\GrowI M (M'.put b (o+i*size) (f x)) e size ad n cap (cl f (xs.set i x)):=by
 obtain⟨_,h2,h3⟩:=h.row.put hf hl hi had x
 have hb:=h.new b o had
 refine⟨h2,hb,λy q hy=>?_,h3,h.new⟩
 rw[Mem.put_ne (by rintro rfl;rw[hb]at hy;cases hy)]
 exact h.le y q hy
theorem set_same {α:Type}:∀{l:List α} {i:Nat} {a:α},l[i]?=some a->l.set i a=l
 |[],_,_,h=>by simp at h
 |x::r,0,a,h=>by simp at h;subst h;rfl
 |x::r,i+1,a,h=>by rw[List.set_cons_succ,set_same (by simpa using h)]
theorem SlV.elems {α:Type} {f:α->List Value} {M:Mem} {A:Option Addr} {l c sz:Nat} {xs:List α} (h:SlV M A l c sz (cl f xs)) (hf:∀x,(f x).length=sz) (h0:0<sz):xs.length=l:=h.len hf h0
theorem At.inj {M:Mem} {b o:Nat} {vs us:List Value} (h:At M b o vs) (k:At M b o us) (hl:vs.length=us.length):vs=us:=by
 apply List.ext_getElem?
 intro j
 cases hv:vs[j]? with
 |none=>rw[List.getElem?_eq_none_iff]at hv;rw[List.getElem?_eq_none (by omega)]
 |some v=>
  cases hu:us[j]? with
  |none=>rw[List.getElem?_eq_none_iff]at hu;have:=(List.getElem?_eq_some_iff.1 hv).1;omega
  |some u=>
   have h1:=h j v hv
   have h2:=k j u hu
   rw[h1]at h2;exact h2
theorem pre_bot {α:Type} {le:α->α->Prop} {F:List α->Nat->α} (bot:α) (hbot:∀a,le bot a) (n:Nat):Pre le F n (List.replicate n bot):=
 ⟨by simp,λi a ha=>by rw[(List.mem_replicate.1 (List.mem_of_getElem? ha)).2];exact hbot _,λz hz _=>⟨by simp[hz],λi a b ha _=>by rw[(List.mem_replicate.1 (List.mem_of_getElem? ha)).2];exact hbot _⟩⟩
theorem cl_replicate {α:Type} (f:α->List Value) (n:Nat) (a:α):cl f (List.replicate n a)=repl n (f a):=by simp[cl,repl,List.map_replicate]
theorem grow_facts {F:List Fa->Nat->Fa} {n:Nat} (hF:MonoF faLe F n) (hn:n<=10) (next:Value) (M:Mem) (K:Value->Mem->Prop)
  (hnext:∀M' ad cap kn,M.le M'->SlV M' ad n cap 3 (cl X_api_Facts.cells kn)->kn.length=n->∀i:Int,0<=i->i<n->CallF Try.prog next [.slice ad n cap,.int .i64 i] M' (λv _=>v=(F kn i.toNat).val))
  (hK:∀M' ad cap kn,M.le M'->SlV M' ad n cap 3 (cl X_api_Facts.cells kn)->Lfp faLe F n kn->K (.slice ad n cap) M'):S_well_grow_Facts (n:Int) next M (λ_=>False) K:=by
 unfold S_well_grow_Facts
 simp only[Int.toNat_natCast]
 refine⟨by omega,by omega,by omega,λM6 ad cap hnr=>?_⟩
 have h6:=GrowI.make hnr
 rw[show repl n [Value.bool false,Value.bool false,Value.bool false]=cl X_api_Facts.cells (List.replicate n fa0) from(cl_replicate X_api_Facts.cells n fa0).symm]at h6
 have L:=faLat
 refine⟨List Fa,λkn more M'=>GrowI M M' _ 3 ad n cap (cl X_api_Facts.cells kn)/\Pre faLe F n kn/\(more=false->∀(i:Nat) a,kn[i]?=some a->F kn i=a),λkn more=>2*wS faWt 3 kn+(if more then 1 else 0),List.replicate n fa0,⟨h6,pre_bot fa0 (λa=>⟨λh=>(by cases h),λh=>(by cases h),λh=>(by cases h)⟩) n,λh=>(by cases h)⟩,λkn more M' ⟨hg,hp,hfix⟩=>⟨λhmore=>?_,λhmore=>?_⟩⟩
 ·refine⟨List Fa,λk2 more2 i M2=>0<=i/\i<=n/\GrowI M M2 _ 3 ad n cap (cl X_api_Facts.cells k2)/\Pre faLe F n k2/\leL faLe kn k2/\(more2=true->kn≠k2)/\(more2=false->k2=kn/\∀(j:Nat) a,(j:Int)<i->kn[j]?=some a->F kn j=a),λ_ _ i=>n-i.toNat,kn,⟨by omega,by omega,hg,hp,leL.refl L kn,λh=>(by cases h),λ_=>⟨rfl,λj a h=>by omega⟩⟩,λk2 more2 i M2 ⟨h0,h1,hg2,hp2,hl2,ht2,hf2⟩=>⟨λhlt=>?_,λhge=>?_⟩⟩
  ·have hkl:=hp2.len
   obtain⟨a,ha⟩:=getI (l:=k2) h0 (by omega)
   have hsl:=hg2.row.slv
   refine((hnext M2 ad cap k2 hg2.le hsl hkl i h0 hlt).mono (K':=λv M'=>M2.le M'/\v=(F k2 i.toNat).val) λv M' hle hv=>⟨hle,hv⟩).toW.mono (λ_ h=>h) λv M3 _ ⟨hle3,hv⟩=>⟨_,hv,?_⟩
   have hg3:=hg2.more hle3
   obtain⟨b,o,had,hat⟩:=hg3.row.slv.at Xf_len hkl ha
   refine⟨b,o,had,h0,hlt,a,hat,λhne=>?_,λhne=>?_⟩
   ·obtain⟨q1,q2,q3⟩:=hg3.put Xf_len hkl (i:=i.toNat) (by omega) had (F k2 i.toNat)
    have hne':a≠F k2 i.toNat:=λe=>hne (by rw[<-e];exact⟨rfl,rfl,rfl⟩)
    obtain⟨s1,s2⟩:=hp2.step L hF ha
    have hw:=wS_set L ha (hp2.up _ _ ha) hne'
    refine⟨b,o,had,h0,hlt,q1,.inr q2,λM4 hM4=>?_⟩
    subst hM4
    refine⟨by unfold InI;omega,k2.set i.toNat (F k2 i.toNat),⟨by omega,by omega,q3,s1,hl2.trans L s2,λ_ e=>?_,λh=>(by cases h)⟩,by dsimp only;omega⟩
    rw[<-e]at hw
    have:=(wS_le L hl2).1
    omega
   ·have hsame:F k2 i.toNat=a:=by
     have hne:=Classical.not_not.1 hne
     obtain⟨e1,e2,e3⟩:=hne
     generalize F k2 i.toNat=z at e1 e2 e3
     cases z;cases a;simp only at e1 e2 e3;subst e1 e2 e3;rfl
    refine⟨by unfold InI;omega,k2,⟨by omega,by omega,hg3,hp2,hl2,ht2,λhm=>?_⟩,by dsimp only;omega⟩
    obtain⟨f1,f2⟩:=hf2 hm
    subst f1
    refine⟨rfl,λj x hj hx=>?_⟩
    by_cases e:(j:Int)=i
    ·have:i.toNat=j:=by omega
     rw[this]at ha hsame
     rw[ha]at hx;cases hx;exact hsame
    ·exact f2 j x (by omega) hx
  ·have hkl:=hp.len
   cases more2 with
   |true=>
    refine⟨k2,⟨hg2,hp2,λh=>(by cases h)⟩,?_⟩
    have:=(wS_le L hl2).2 (ht2 rfl)
    rw[hmore];dsimp only;omega
   |false=>
    obtain⟨f1,f2⟩:=hf2 rfl
    subst f1
    refine⟨k2,⟨hg2,hp2,λ_ j x hx=>f2 j x (by have:=(List.getElem?_eq_some_iff.1 hx).1;omega) hx⟩,?_⟩
    rw[hmore];dsimp only;simp
 ·intro M7 hle7
  have hm:more=false:=by simpa using hmore
  exact hK M7 ad cap kn (hg.le.trans hle7) (hg.row.slv.le hle7) (hp.lfp L (hfix hm))
theorem facts_is {rs:List Ru} {ga:Option Addr} {gl gc:Nat} {M:Mem} (hok:GramOk rs) (hg:GrR M rs ga gl gc) (K:Value->Mem->Prop)
  (hK:∀M' ad cap kn,M.le M'->SlV M' ad rs.length cap 3 (cl X_api_Facts.cells kn)->Lfp faLe (Fof rs) rs.length kn->K (.slice ad rs.length cap) M'):S_well_facts ga gl gc M K:=by
 unfold S_well_facts
 intro M5 b4 hle5 h5
 rw[hg.len]
 refine e_well_grow_Facts _ _ _ _ (grow_facts (Fof_mono rs _) hok.ten _ _ _ (λM' ad cap kn hle' hsl hkl i h0 h1=>?_) λM' ad cap kn hle' hsl hlfp=>⟨_,_,_,rfl,λM'' hle''=>hK M'' ad cap kn ((hle5.trans hle').trans hle'') (hsl.le hle'') hlfp⟩)
 have hg':=hg.le (hle5.trans hle')
 rw[<-hkl]at hsl ⊢
 exact f_well_facts_1 _ _ _ _ _ _ (λv=>v=(Fof rs kn i.toNat).val) (facts1_is hok hkl hg' hsl (h5.le hle') i h0 h1 _ rfl)
end Go.Proofs.Ytmnilbfhfjdelaa.core

namespace Go.Proofs.Ytmnilbfhfjdelaa.core
open Go.Gx Go.RowKit Go.ChangeShapes Go.WideShapes Go.ChangeAt
set_option linter.unusedVariables false
def enc (f:Fa):Int:=(if f.Empty then 1 else 0)+(if f.Eats then 2 else 0)+(if f.Fails then 4 else 0)
abbrev encC (f:Fa):List Value:=[.int .i64 (enc f)]
theorem encC_len (f:Fa):(encC f).length=1:=rfl
theorem encC_one (f:Fa):∀u∈encC f,u.oneCell'=true:=by intro u hu;simp at hu;subst hu;rfl
theorem enc3:∀f:Fa,(bAnd .i64 (enc f) 3>0)↔(f.Empty||f.Eats)=true:=by rintro⟨_|_,_|_,_|_⟩<;>decide
theorem enc1:∀f:Fa,(bAnd .i64 (enc f) 1>0)↔f.Empty=true:=by rintro⟨_|_,_|_,_|_⟩<;>decide
theorem enc2:∀f:Fa,(bAnd .i64 (enc f) 2>0)↔f.Eats=true:=by rintro⟨_|_,_|_,_|_⟩<;>decide
theorem enc4:∀f:Fa,(bAnd .i64 (enc f) 4>0)↔f.Fails=true:=by rintro⟨_|_,_|_,_|_⟩<;>decide
theorem enc4z:∀f:Fa,((bAnd .i64 (enc f) 4:Int)==(0:Int))= !f.Fails:=by rintro⟨_|_,_|_,_|_⟩<;>decide
theorem enc_uni:∀a b:Fa,bOr .i64 (enc a) (enc b)=enc (faUni a b):=by rintro⟨_|_,_|_,_|_⟩ ⟨_|_,_|_,_|_⟩<;>decide
theorem enc_or:∀a b:Fa,a.Fails=true->bOr .i64 (bAnd .i64 (enc a) 3) (enc b)=enc (faOr a b):=by rintro⟨_|_,_|_,_|_⟩ ⟨_|_,_|_,_|_⟩ h<;>first|(exact absurd h (by decide))|decide
theorem enc_star:∀a:Fa,bOr .i64 (bAnd .i64 (enc a) 2) (bAnd .i64 (bShr .i64 (enc a) 2) 1)=enc (faStar a):=by rintro⟨_|_,_|_,_|_⟩<;>decide
theorem enc_and:∀a:Fa,bOr .i64 (if a.Empty||a.Eats then 1 else 0) (bAnd .i64 (enc a) 4)=enc (faAnd a):=by rintro⟨_|_,_|_,_|_⟩<;>decide
theorem enc_not:∀a:Fa,bOr .i64 (bAnd .i64 (bShr .i64 (enc a) 2) 1) (bShl .i64 (if a.Empty||a.Eats then 1 else 0) 2)=enc (faNot a):=by rintro⟨_|_,_|_,_|_⟩<;>decide
theorem or_stop:∀a b:Fa,a.Fails=false->faOr a b=a:=by rintro⟨_|_,_|_,_|_⟩ ⟨_|_,_|_,_|_⟩ h<;>first|(exact absurd h (by decide))|rfl
theorem d1 (f:Fa):decide (bAnd .i64 (enc f) 1>0)=f.Empty:=by rw[Bool.eq_iff_iff,decide_eq_true_iff];exact enc1 f
theorem d2 (f:Fa):decide (bAnd .i64 (enc f) 2>0)=f.Eats:=by rw[Bool.eq_iff_iff,decide_eq_true_iff];exact enc2 f
theorem all_j4 (out:Int) (c:Bool) (K:Value->Prop) (h:K (.int .i64 (if c then bOr .i64 out 2 else out))):S_chaffref_mayAll_J4 out c K:=by
 unfold S_chaffref_mayAll_J4
 cases c
 ·exact⟨λe=>(by cases e),λ_=>h⟩
 ·exact⟨λ_=>h,λe=>absurd rfl e⟩
def eatsB (a b:Fa):Bool:=(a.Eats&&(b.Empty||b.Eats))||((a.Empty||a.Eats)&&b.Eats)
theorem all_j3 (a b:Fa) (out:Int) (K:Value->Prop) (h:K (.int .i64 (if eatsB a b then bOr .i64 out 2 else out))):S_chaffref_mayAll_J3 (enc a) (enc b) out K:=by
 have q:∀c:Bool,c=eatsB a b->S_chaffref_mayAll_J4 out c K:=λc e=>all_j4 _ _ _ (e▸h)
 unfold S_chaffref_mayAll_J3
 rw[d2,enc2,enc3,enc3]
 clear h
 obtain⟨a1,a2,a3⟩:=a
 obtain⟨b1,b2,b3⟩:=b
 refine⟨λh1=>⟨λh2=>q _ ?_,λh2=>⟨λh3=>q _ ?_,λh3=>q _ ?_⟩⟩,λh1=>⟨λh3=>q _ ?_,λh3=>q _ ?_⟩⟩<;>clear q<;>cases a1<;>cases a2<;>cases b1<;>cases b2<;>simp_all [eatsB]
theorem all_j2 (a b:Fa) (out:Int) (c:Bool) (K:Value->Prop) (h:K (.int .i64 (if eatsB a b then bOr .i64 (if c then bOr .i64 out 1 else out) 2 else(if c then bOr .i64 out 1 else out)))):S_chaffref_mayAll_J2 (enc a) (enc b) out c K:=by
 unfold S_chaffref_mayAll_J2
 cases c
 ·exact⟨λe=>(by cases e),λ_=>all_j3 _ _ _ _ h⟩
 ·exact⟨λ_=>all_j3 _ _ _ _ h,λe=>absurd rfl e⟩
theorem all_j1 (a b:Fa) (out:Int) (K:Value->Prop) (h:K (.int .i64 (if eatsB a b then bOr .i64 (if a.Empty&&b.Empty then bOr .i64 out 1 else out) 2 else(if a.Empty&&b.Empty then bOr .i64 out 1 else out)))):S_chaffref_mayAll_J1 (enc a) (enc b) out K:=by
 unfold S_chaffref_mayAll_J1
 rw[d1,enc1]
 refine⟨λh1=>all_j2 _ _ _ _ _ ?_,λh1=>all_j2 _ _ _ _ _ ?_⟩
 ·rw[h1,Bool.true_and]at h;exact h
 ·have h1:a.Empty=false:=by simpa using h1
  rw[h1,Bool.false_and]at h;exact h
theorem enc_then:∀a b:Fa,(if eatsB a b then bOr .i64 (if a.Empty&&b.Empty then bOr .i64 (if a.Empty||a.Eats then bOr .i64 (bAnd .i64 (enc a) 4) (bAnd .i64 (enc b) 4) else bAnd .i64 (enc a) 4) 1 else(if a.Empty||a.Eats then bOr .i64 (bAnd .i64 (enc a) 4) (bAnd .i64 (enc b) 4) else bAnd .i64 (enc a) 4)) 2
  else(if a.Empty&&b.Empty then bOr .i64 (if a.Empty||a.Eats then bOr .i64 (bAnd .i64 (enc a) 4) (bAnd .i64 (enc b) 4) else bAnd .i64 (enc a) 4) 1 else(if a.Empty||a.Eats then bOr .i64 (bAnd .i64 (enc a) 4) (bAnd .i64 (enc b) 4) else bAnd .i64 (enc a) 4)))=enc (faThen a b):=by
 rintro⟨_|_,_|_,_|_⟩ ⟨_|_,_|_,_|_⟩<;>decide
theorem all_step (a b:Fa) (K:Value->Prop) (hK:K (.int .i64 (enc (faThen a b)))):
  (bAnd .i64 (enc a) 3>0->S_chaffref_mayAll_J1 (enc a) (enc b) (bOr .i64 (bAnd .i64 (enc a) 4) (bAnd .i64 (enc b) 4)) K)/\(¬(bAnd .i64 (enc a) 3>0)->S_chaffref_mayAll_J1 (enc a) (enc b) (bAnd .i64 (enc a) 4) K):=by
 rw[<-enc_then]at hK
 rw[enc3]
 refine⟨λh=>all_j1 _ _ _ _ ?_,λh=>all_j1 _ _ _ _ ?_⟩
 ·simp only[if_pos h]at hK;exact hK
 ·simp only[if_neg h]at hK;exact hK
theorem mayAll_is:∀(l:List Fa),l≠[]->l.length<=8->∀{A:Option Addr} {n c:Nat} {M:Mem} {K:Value->Prop},SlV M A n c 1 (cl encC l)->K (.int .i64 (enc (thenR l)))->S_chaffref_mayAll A n c M K
 |[],h,_,_,_,_,_,_,_,_=>absurd rfl h
 |[a],_,_,A,n,c,M,K,hsl,hK=>by
  have hn:=hsl.len encC_len (by omega)
  obtain⟨b,o,ha,hat⟩:=hsl.at encC_len hn (i:=0) (x:=a) rfl
  simp only[List.length_singleton]at hn
  unfold S_chaffref_mayAll
  refine⟨λ_=>⟨b,o,ha,by omega,by omega,_,hat,hK⟩,λh=>absurd (by omega) h⟩
 |a::x::l,_,hmx,A,n,c,M,K,hsl,hK=>by
  have hn:=hsl.len encC_len (by omega)
  obtain⟨b,o,ha,hat⟩:=hsl.at encC_len hn (i:=0) (x:=a) rfl
  simp only[List.length_cons]at hn hmx
  unfold S_chaffref_mayAll
  refine⟨λh=>by omega,λ_=>⟨b,o,ha,by omega,by omega,_,hat,by omega,by omega,?_⟩⟩
  have hrest:=hsl.rest 1 (by omega)
  rw[show(1*1:Nat)=1*1 from rfl,cl_drop encC_len 1]at hrest
  refine s_chaffref_mayAll _ _ _ _ _ (mayAll_is (x::l) (by simp) (by simp;omega) hrest ⟨_,rfl,?_⟩)
  simp only[thenR]at hK
  exact all_step _ _ _ hK
theorem mayOne_is:∀(l:List Fa),l≠[]->l.length<=8->∀{A:Option Addr} {n c:Nat} {M:Mem} {K:Value->Prop},SlV M A n c 1 (cl encC l)->K (.int .i64 (enc (orL l)))->S_chaffref_mayOne A n c M K
 |[],h,_,_,_,_,_,_,_,_=>absurd rfl h
 |[a],_,_,A,n,c,M,K,hsl,hK=>by
  have hn:=hsl.len encC_len (by omega)
  obtain⟨b,o,ha,hat⟩:=hsl.at encC_len hn (i:=0) (x:=a) rfl
  simp only[List.length_singleton]at hn
  unfold S_chaffref_mayOne
  refine⟨λ_=>?_,λh=>absurd (by omega) h⟩
  unfold S_chaffref_mayOne_J1
  exact⟨λ_=>⟨b,o,ha,by omega,by omega,_,hat,hK⟩,λh=>absurd rfl h⟩
 |a::x::l,_,hmx,A,n,c,M,K,hsl,hK=>by
  have hn:=hsl.len encC_len (by omega)
  obtain⟨b,o,ha,hat⟩:=hsl.at encC_len hn (i:=0) (x:=a) rfl
  simp only[List.length_cons]at hn hmx
  unfold S_chaffref_mayOne
  refine⟨λh=>by omega,λ_=>⟨b,o,ha,by omega,by omega,_,hat,?_⟩⟩
  unfold S_chaffref_mayOne_J1
  rw[enc4z]
  simp only[orL]at hK
  refine⟨λh=>⟨b,o,ha,by omega,by omega,_,hat,?_⟩,λh=>⟨b,o,ha,by omega,by omega,_,hat,by omega,by omega,?_⟩⟩
  ·rw[or_stop _ _ (by simpa using h)]at hK;exact hK
  ·have hrest:=hsl.rest 1 (by omega)
   rw[show(1*1:Nat)=1*1 from rfl,cl_drop encC_len 1]at hrest
   refine s_chaffref_mayOne _ _ _ _ _ (mayOne_is (x::l) (by simp) (by simp;omega) hrest ⟨_,rfl,?_⟩)
   rw[enc_or _ _ (by simpa using h)];exact hK
theorem may_is {rs:List Ru} {kn:List Fa} {ga ra:Option Addr} {gl gc rc:Nat} (hlen:kn.length=rs.length):∀(n:Nat) (e:Ex),SizeOf.sizeOf e<n->∀{M:Mem} {x:X_api_Expr} {K:Value->Prop},ExR M e x->GrR M rs ga gl gc->
  SlV M ra kn.length rc 1 (cl encC kn)->GoodE rs e->K (.int .i64 (enc (ofE rs kn e)))->S_chaffref_May ga gl gc ra kn.length rc x M K:=by
 intro n
 induction n with
 |zero=>intro e h;omega
 |succ n ih=>
  intro e hn M x K hR hg hkn hgood hK
  obtain⟨xs,hx⟩:=hR.open
  obtain⟨g1,g2,g3,g4,g5,g6,g7,g8⟩:=fitE_kinds hgood.fit
  have hl8:e.kids.length<=8:=by
   by_cases h4:e.kind<=4
   ·rw[g3 h4];simp
   ·by_cases h7:7<=e.kind
    ·have:=g5 h7;omega
    ·exact(g4 (by omega)).2
  rw[ofE_eq]at hK
  have hL:∀(i:Nat) k,e.kids[i]?=some k->(e.kids.map (ofE rs kn))[i]?=some (ofE rs kn k):=λi k hk=>by rw[List.getElem?_map,hk];rfl
  generalize hLd:e.kids.map (ofE rs kn)=l at hK hL
  have hll:l.length=e.kids.length:=by rw[<-hLd];simp
  have he':cellsEq [x.Set.w0,x.Set.w1,x.Set.w2,x.Set.w3] [0,0,0,0]=zs e.set:=by rw[<-hx.set];rfl
  unfold opF at hK
  have j1:∀b:Bool,e.kind≠1->(b=true->e.kind=2/\zs e.set=true)->(b=false->e.kind=2->zs e.set=false)->S_chaffref_May_J1 ga gl gc ra kn.length rc x M b K:=by
   intro b n1 hb1 hb2
   rw[if_neg n1]at hK
   unfold S_chaffref_May_J1
   rw[hx.kind]
   refine⟨λh=>?_,λh=>⟨λh3=>?_,λn3=>⟨λh4=>?_,λn4=>?_⟩⟩⟩
   ·obtain⟨q1,q2⟩:=hb1 h
    rw[if_pos q1,q2]at hK;exact hK
   ·by_cases h2:e.kind=2
    ·rw[if_pos h2,hb2 (by simpa using h) h2]at hK;exact hK
    ·rw[if_neg h2,if_pos (by omega)]at hK;exact hK
   ·rw[if_neg (by omega),if_neg (by omega),if_pos h4]at hK
    have hr:=hgood.ref h4
    obtain⟨hlt,hlt'⟩:=findR_lt hr
    obtain⟨a,ha⟩:=getN (l:=kn) (i:=(findR e.text rs 0).toNat) (by omega)
    obtain⟨b,o,hb,hat⟩:=hkn.at encC_len rfl ha
    rw[hx.text]
    refine s_chaffref_Find _ _ _ _ _ _ (rfind_is hg e.text _ ⟨_,rfl,b,o,hb,hr,by omega,_,hat,?_⟩)
    rw[refF,ha]at hK;exact hK
   ·rw[if_neg (by omega),if_neg (by omega),if_neg n4]at hK
    refine⟨λi rn rx=>0<=i/\i<=l.length/\rn=i.toNat/\rx=cl encC (l.take i.toNat),λi _ _=>l.length-i.toNat,⟨by omega,by omega,rfl,rfl⟩,λi rn rx ⟨i0,i1,hrn,hrx⟩=>⟨λhlt=>?_,λhge=>?_⟩⟩
    ·rw[hx.len]at hlt
     subst hrn hrx
     obtain⟨k,hk⟩:=getI (l:=e.kids) i0 hlt
     obtain⟨b,o,y,ha,hat,hy,_⟩:=hx.kid hk
     have hmem:=List.mem_of_getElem? hk
     refine⟨b,o,ha,i0,by rw[hx.len];exact hlt,y,hat,s_chaffref_May _ _ _ _ _ _ _ _ _ (ih k (by have:=Ex.kid_lt hmem;omega) hy hg hkn (hgood.kid k hmem) ⟨_,rfl,by omega,by unfold InI;omega,⟨by omega,by omega,by omega,?_⟩,by dsimp only;omega⟩)⟩
     rw[show(i+1).toNat=i.toNat+1 by omega,take_get (hL _ k hk)]
     exact cl_snoc (f:=encC) (l.take i.toNat) (ofE rs kn k)
    ·rw[hx.len]at hge
     have hil:i.toNat=l.length:=by omega
     rw[hil,List.take_length]at hrx
     rw[hil]at hrn
     subst hrn hrx
     refine⟨λh5=>λM2 ad cap hle hsl=>?_,λn5=>⟨λh6=>λM2 ad cap hle hsl=>?_,λn6=>?_⟩⟩
     ·rw[if_pos h5,thenL_R]at hK
      have:=g4 (.inl h5)
      exact s_chaffref_mayAll _ _ _ _ _ (mayAll_is l (by intro h0;rw[h0]at hll;simp at hll;omega) (by omega) hsl ⟨_,rfl,hK⟩)
     ·rw[if_neg n5,if_pos h6]at hK
      have:=g4 (.inr h6)
      exact s_chaffref_mayOne _ _ _ _ _ (mayOne_is l (by intro h0;rw[h0]at hll;simp at hll;omega) (by omega) hsl ⟨_,rfl,hK⟩)
     ·rw[if_neg n5,if_neg n6]at hK
      have h1:=g5 (by omega)
      obtain⟨a,rfl⟩:∃a,l=[a]:=List.length_eq_one_iff.1 (by omega)
      simp only[hdF,List.headD_cons]at hK
      refine⟨by omega,by simp,enc a,by unfold Cs;rfl,λh7=>?_,λn7=>⟨λh8 M2 ad cap hle hsl=>?_,λn8=>⟨λh9 M2 ad cap hle hsl=>?_,λn9=>?_⟩⟩⟩
      ·rw[if_pos h7]at hK;rw[enc_star];exact hK
      ·rw[if_neg n7,if_pos h8]at hK
       rw[enc_star]at hsl
       exact s_chaffref_mayAll _ _ _ _ _ (mayAll_is [a,faStar a] (by simp) (by simp) hsl ⟨_,rfl,hK⟩)
      ·rw[if_neg n7,if_neg n8,if_pos h9]at hK
       exact s_chaffref_mayOne _ _ _ _ _ (mayOne_is [a,⟨true,false,false⟩] (by simp) (by simp) hsl ⟨_,rfl,hK⟩)
      ·rw[if_neg n7,if_neg n8,if_neg n9]at hK
       have j2:∀s:Int,s=(if a.Empty||a.Eats then 1 else 0)->S_chaffref_May_J2 x (enc a) s K:=by
        rintro s rfl
        unfold S_chaffref_May_J2
        rw[hx.kind]
        refine⟨λh=>?_,λh=>?_⟩
        ·rw[if_pos h]at hK
         rw[show bOr .i64 (if a.Empty||a.Eats then 1 else 0) (bAnd .i64 (enc a) 4)=enc (faAnd a) from enc_and a];exact hK
        ·rw[if_neg h]at hK
         rw[show bOr .i64 (bAnd .i64 (bShr .i64 (enc a) 2) 1) (bShl .i64 (if a.Empty||a.Eats then 1 else 0) 2)=enc (faNot a) from enc_not a];exact hK
       exact⟨λh=>j2 _ (by rw[if_pos ((enc3 a).1 h)]),λh=>j2 _ (by rw[if_neg (λq=>h ((enc3 a).2 q))])⟩
  unfold S_chaffref_May
  rw[hx.kind,he']
  refine⟨λh=>?_,λn1=>⟨λh=>j1 _ n1 (λh'=>⟨h,h'⟩) (λh' _=>h'),λn2=>j1 _ n1 (λh=>by cases h) (λ_ h=>absurd h n2)⟩⟩
  rw[if_pos h]at hK;exact hK
theorem mix_set {α:Type} {j k:List α} {i:Nat} {b:α} (hl:j.length=k.length) (hb:j[i]?=some b):(j.take i++k.drop i).set i b=j.take (i+1)++k.drop (i+1):=by
 have hi:=(List.getElem?_eq_some_iff.1 hb).1
 obtain⟨x,hx⟩:=getN (l:=k) (i:=i) (by omega)
 rw[drop_get hx,take_get hb,List.set_append_right _ _ (by simp;omega),List.length_take,Nat.min_eq_left (by omega),Nat.sub_self,List.set_cons_zero,List.append_assoc]
 rfl
theorem mix_get {α:Type} {j k:List α} {i:Nat} {a:α} (hl:j.length=k.length) (ha:k[i]?=some a):(j.take i++k.drop i)[i]?=some a:=by
 have hi:=(List.getElem?_eq_some_iff.1 ha).1
 rw[drop_get ha,List.getElem?_append_right (by simp;omega),List.length_take,Nat.min_eq_left (by omega),Nat.sub_self];rfl
theorem mays_is {rs:List Ru} {ga:Option Addr} {gl gc:Nat} {M:Mem} (hok:GramOk rs) (hg:GrR M rs ga gl gc) (K:Value->Mem->Prop)
  (hK:∀M' ad cap kn,M.le M'->SlV M' ad rs.length cap 1 (cl encC kn)->Lfp faLe (Fof rs) rs.length kn->K (.slice ad rs.length cap) M'):S_chaffref_Mays ga gl gc M K:=by
 have h1:=hok.one
 have h10:=hok.ten
 have hF:=Fof_mono rs rs.length
 unfold S_chaffref_Mays
 rw[hg.len]
 simp only[Int.toNat_natCast]
 refine⟨by omega,by omega,by omega,by unfold InI;omega,by unfold InI;omega,?_⟩
 have hjl:∀k,(jacN faUni (Fof rs) k (List.replicate rs.length fa0)).length=rs.length:=λk=>by rw[jacN_len];simp
 refine⟨λx rn rx=>0<=x/\x<=3*rs.length+1/\rn=rs.length/\rx=cl encC (jacN faUni (Fof rs) x.toNat (List.replicate rs.length fa0)),λx _ _=>3*rs.length+1-x.toNat,⟨by omega,by omega,rfl,(cl_replicate encC rs.length fa0).symm⟩,λx rn rx ⟨x0,x1,hrn,hrx⟩=>⟨λhlt=>?_,λhge=>?_⟩⟩
 ·intro M2 ad cap hle hsl
  subst hrn hrx
  generalize hkn:jacN faUni (Fof rs) x.toNat (List.replicate rs.length fa0)=kn at hsl ⊢
  have hkl:kn.length=rs.length:=by rw[<-hkn];exact hjl _
  refine s_slices_Clone_int _ _ _ _ _ ⟨λhnil=>?_,λ_=>⟨_,hsl,cl_one' encC_one kn,by omega,?_⟩⟩
  ·obtain⟨b,o,ha,_⟩:=hsl.2.2.2 (by omega)
   rw[ha]at hnil;cases hnil
  ·rw[show 0+rs.length=rs.length from Nat.zero_add _,List.nil_append]
   have hjk:(jac faUni (Fof rs) kn).length=kn.length:=jac_len kn
   refine⟨λi rn rx=>0<=i/\i<=rs.length/\rn=rs.length/\rx=cl encC ((jac faUni (Fof rs) kn).take i.toNat++kn.drop i.toNat),λi _ _=>rs.length-i.toNat,⟨by omega,by omega,rfl,by simp⟩,λi rn rx ⟨i0,i1,hrn,hrx⟩=>⟨λhlt2=>?_,λhge2=>?_⟩⟩
   ·subst hrn hrx
    obtain⟨r,x2,b,o,hr,ha,hat,hrr⟩:=hg.at i0 (by rw[hg.len];exact hlt2)
    obtain⟨a,hka⟩:=getN (l:=kn) (i:=i.toNat) (by omega)
    refine⟨b,o,ha,i0,hlt2,x2,hat,i0,hlt2,enc a,?_,λM3 ad3 cap3 hle3 hsl3=>?_⟩
    ·exact cl_Cs encC_len (mix_get hjk hka)
    ·rw[<-hkl]at hsl3 ⊢
     refine s_chaffref_May _ _ _ _ _ _ _ _ _ (may_is hkl _ r.body (Nat.lt_succ_self _) (hrr.2.2.le hle3) (hg.le hle3 |> λh=>by rw[hg.len,<-hkl]at h;exact h) hsl3 (hok.good r (List.mem_of_getElem? hr)) ⟨_,rfl,i0,by omega,by unfold InI;omega,⟨by omega,by omega,rfl,?_⟩,by dsimp only;omega⟩)
     rw[enc_uni,show(i+1).toNat=i.toNat+1 by omega]
     have hj:=jac_get (ju:=faUni) (F:=Fof rs) hka
     have hFo:Fof rs kn i.toNat=ofE rs kn r.body:=by unfold Fof;rw[hr]
     rw[hFo]at hj
     rw[<-mix_set hjk hj]
     exact cl_put encC_len _ (by simp only[List.length_append,List.length_take,List.length_drop];omega)
   ·subst hrn hrx
    refine⟨by unfold InI;omega,⟨by omega,by omega,rfl,?_⟩,by dsimp only;omega⟩
    rw[show i.toNat=rs.length by omega,List.take_of_length_le (by omega),List.drop_of_length_le (by omega),List.append_nil,show(x+1).toNat=x.toNat+1 by omega,jacN,hkn]
 ·intro M2 ad cap hle hsl M3 hle3
  subst hrn hrx
  refine hK M3 ad cap _ (hle.trans hle3) (hsl.le hle3) (jac_lfp faLat hF fa0 (λa=>⟨λh=>(by cases h),λh=>(by cases h),λh=>(by cases h)⟩) _ ?_)
  omega
end Go.Proofs.Ytmnilbfhfjdelaa.core

namespace Go.Proofs.Ytmnilbfhfjdelaa.core
open Go.Gx Go.RowKit Go.ChangeShapes Go.WideShapes Go.ChangeAt
set_option linter.unusedVariables false
theorem d4 (f:Fa):decide (bAnd .i64 (enc f) 4>0)=f.Fails:=by rw[Bool.eq_iff_iff,decide_eq_true_iff];exact enc4 f
end Go.Proofs.Ytmnilbfhfjdelaa.core

namespace Go.Proofs.Ytmnilbfhfjdelaa.core
open Go.Gx Go.RowKit Go.ChangeShapes Go.WideShapes Go.ChangeAt
set_option linter.unusedVariables false
def knOf (rs:List Ru):List Fa:=jacN faUni (Fof rs) (3*rs.length+1) (List.replicate rs.length fa0)
theorem fa0_le (a:Fa):faLe fa0 a:=⟨λh=>(by cases h),λh=>(by cases h),λh=>(by cases h)⟩
theorem knOf_lfp (rs:List Ru):Lfp faLe (Fof rs) rs.length (knOf rs):=jac_lfp faLat (Fof_mono rs _) fa0 fa0_le _ (by omega)
theorem knOf_len (rs:List Ru):(knOf rs).length=rs.length:=(knOf_lfp rs).len
theorem knOf_eq {rs:List Ru} {kn:List Fa} (h:Lfp faLe (Fof rs) rs.length kn):kn=knOf rs:=h.same faLat (knOf_lfp rs)
theorem pfacts_is {rs:List Ru} {ga:Option Addr} {gl gc:Nat} {M:Mem} (hok:GramOk rs) (hg:GrR M rs ga gl gc) (K:Value->Mem->Prop)
  (hK:∀M' ad cap,M.le M'->SlV M' ad rs.length cap 3 (cl X_api_Facts.cells (knOf rs))->K (.slice ad rs.length cap) M'):S_well_facts ga gl gc M K:=
 facts_is hok hg K λM' ad cap kn hle hsl hlfp=>by rw[knOf_eq hlfp]at hsl;exact hK M' ad cap hle hsl
theorem pmays_is {rs:List Ru} {ga:Option Addr} {gl gc:Nat} {M:Mem} (hok:GramOk rs) (hg:GrR M rs ga gl gc) (K:Value->Mem->Prop)
  (hK:∀M' ad cap,M.le M'->SlV M' ad rs.length cap 1 (cl encC (knOf rs))->K (.slice ad rs.length cap) M'):S_chaffref_Mays ga gl gc M K:=
 mays_is hok hg K λM' ad cap kn hle hsl hlfp=>by rw[knOf_eq hlfp]at hsl;exact hK M' ad cap hle hsl
def ndB (rs:List Ru) (kn:List Fa) (x:Ex):Bool:=decide (x.kind=7\/x.kind=8)&&(hdF (x.kids.map (ofE rs kn))).Empty
def loopB (rs:List Ru) (kn:List Fa) (e:Ex):Bool:=(flatE e).any (ndB rs kn)
theorem flatEs_any (p:Ex->Bool):∀ks:List Ex,(flatEs ks).any p=ks.any λk=>(flatE k).any p
 |[]=>by rw[flatEs];rfl
 |k::ks=>by rw[flatEs,List.any_append,flatEs_any p ks];rfl
theorem flatE_eq (e:Ex):flatE e=e::flatEs e.kids:=by cases e;rw[flatE];rfl
theorem loopB_eq (rs:List Ru) (kn:List Fa) (e:Ex):loopB rs kn e=(ndB rs kn e||e.kids.any (loopB rs kn)):=by
 unfold loopB
 rw[flatE_eq,List.any_cons,flatEs_any]
theorem loops_is {rs:List Ru} {kn:List Fa} {ga ra:Option Addr} {gl gc rc:Nat} (hlen:kn.length=rs.length):∀(n:Nat) (e:Ex),SizeOf.sizeOf e<n->∀{M:Mem} {x:X_api_Expr} {K:Value->Prop},ExR M e x->GrR M rs ga gl gc->
  SlV M ra kn.length rc 3 (cl X_api_Facts.cells kn)->GoodE rs e->K (.bool (loopB rs kn e))->S_well_loops ga gl gc ra kn.length rc x M K:=by
 intro n
 induction n with
 |zero=>intro e h;omega
 |succ n ih=>
  intro e hn M x K hR hg hkn hgood hK
  obtain⟨xs,hx⟩:=hR.open
  obtain⟨g1,g2,g3,g4,g5,g6,g7,g8⟩:=fitE_kinds hgood.fit
  rw[loopB_eq]at hK
  have hl8:e.kids.length<=8:=by
   by_cases h4:e.kind<=4
   ·rw[g3 h4];simp
   ·by_cases h7:7<=e.kind
    ·have:=g5 h7;omega
    ·exact(g4 (by omega)).2
  have j1:∀b:Bool,b=ndB rs kn e->S_well_loops_J1 ga gl gc ra kn.length rc x M b K:=by
   intro b hb
   unfold S_well_loops_J1
   rw[<-hb]at hK
   refine⟨λh=>by rw[h,Bool.true_or]at hK;exact hK,λh=>?_⟩
   have h:b=false:=by simpa using h
   rw[h,Bool.false_or]at hK
   refine⟨λi=>0<=i/\i<=e.kids.length/\(e.kids.drop i.toNat).any (loopB rs kn)=e.kids.any (loopB rs kn),λi=>e.kids.length-i.toNat,⟨by omega,by omega,rfl⟩,λi ⟨i0,i1,heq⟩=>⟨λhlt=>?_,λhge=>?_⟩⟩
   ·rw[hx.len]at hlt
    obtain⟨k,hk⟩:=getI (l:=e.kids) i0 hlt
    obtain⟨b,o,y,ha,hat,hy,_⟩:=hx.kid hk
    have hmem:=List.mem_of_getElem? hk
    rw[drop_get hk,List.any_cons]at heq
    refine⟨b,o,ha,i0,by rw[hx.len];exact hlt,y,hat,s_well_loops _ _ _ _ _ _ _ _ _ (ih k (by have:=Ex.kid_lt hmem;omega) hy hg hkn (hgood.kid k hmem) ⟨_,rfl,λht=>?_,λhf=>⟨by unfold InI;omega,⟨by omega,by omega,?_⟩,by dsimp only;omega⟩⟩)⟩
    ·rw[ht,Bool.true_or]at heq;rw[<-heq]at hK;exact hK
    ·have hf:loopB rs kn k=false:=by simpa using hf
     rw[hf,Bool.false_or]at heq
     rw[show(i+1).toNat=i.toNat+1 by omega];exact heq
   ·rw[hx.len]at hge
    rw[List.drop_of_length_le (by omega),List.any_nil]at heq
    rw[<-heq]at hK;exact hK
  have kid0:7<=e.kind->∃k b o y,e.kids=[k]/\x.Kids_a=some ⟨b,o,none⟩/\At M b (o+(0:Int).toNat*7) y.cells/\ExR M k y/\k∈e.kids:=λh7=>by
   obtain⟨k,hk⟩:∃k,e.kids=[k]:=List.length_eq_one_iff.1 (g5 h7)
   obtain⟨b,o,y,ha,hat,hy,_⟩:=hx.kid (i:=0) (k:=k) (by rw[hk];rfl)
   exact⟨k,b,o,y,hk,ha,hat,hy,by rw[hk];simp⟩
  unfold S_well_loops
  rw[hx.kind]
  have hx1:7<=e.kind->(0:Int)<((x.Kids_l:Nat):Int):=λh7=>by rw[hx.len,g5 h7];omega
  refine⟨λh7=>?_,λn7=>⟨λh8=>?_,λn8=>j1 _ (by simp[ndB,n7,n8])⟩⟩
  ·obtain⟨k,b,o,y,hk,ha,hat,hy,hmem⟩:=kid0 (by omega)
   refine⟨b,o,ha,by omega,hx1 (by omega),y,hat,s_well_of _ _ _ _ _ _ _ _ _ (of_is hlen _ k (Nat.lt_succ_self _) hy hg hkn (hgood.kid k hmem) ⟨_,rfl,j1 _ ?_⟩)⟩
   simp[ndB,h7,hk,hdF]
  ·obtain⟨k,b,o,y,hk,ha,hat,hy,hmem⟩:=kid0 (by omega)
   refine⟨b,o,ha,by omega,hx1 (by omega),y,hat,s_well_of _ _ _ _ _ _ _ _ _ (of_is hlen _ k (Nat.lt_succ_self _) hy hg hkn (hgood.kid k hmem) ⟨_,rfl,j1 _ ?_⟩)⟩
   simp[ndB,h8,hk,hdF]
mutual
def needsE (rs:List Ru) (kn:List Fa):Ex->List Nat
 | .mk k s t ks=>if k=4 then[(findR t rs 0).toNat] else if k=5 then needsQ rs kn ks else needsA rs kn ks
def needsQ (rs:List Ru) (kn:List Fa):List Ex->List Nat
 |[]=>[]
 |k::ks=>needsE rs kn k++(if (ofE rs kn k).Empty then needsQ rs kn ks else[])
def needsA (rs:List Ru) (kn:List Fa):List Ex->List Nat
 |[]=>[]
 |k::ks=>needsE rs kn k++needsA rs kn ks
end
theorem needsE_eq (rs:List Ru) (kn:List Fa) (e:Ex):needsE rs kn e=if e.kind=4 then[(findR e.text rs 0).toNat] else if e.kind=5 then needsQ rs kn e.kids else needsA rs kn e.kids:=by
 cases e;rw[needsE];rfl
mutual
theorem needsE_len (rs:List Ru) (kn:List Fa):∀e:Ex,(needsE rs kn e).length<=(flatE e).length
 | .mk k s t ks=>by
  rw[needsE,flatE]
  split
  ·simp
  ·split
   ·have:=needsQ_len rs kn ks;simp;omega
   ·have:=needsA_len rs kn ks;simp;omega
theorem needsQ_len (rs:List Ru) (kn:List Fa):∀ks:List Ex,(needsQ rs kn ks).length<=(flatEs ks).length
 |[]=>by simp[needsQ]
 |k::ks=>by
  have h1:=needsE_len rs kn k
  have h2:=needsQ_len rs kn ks
  rw[needsQ,flatEs,List.length_append,List.length_append]
  split
  ·omega
  ·simp;omega
theorem needsA_len (rs:List Ru) (kn:List Fa):∀ks:List Ex,(needsA rs kn ks).length<=(flatEs ks).length
 |[]=>by simp[needsA]
 |k::ks=>by
  have h1:=needsE_len rs kn k
  have h2:=needsA_len rs kn ks
  rw[needsA,flatEs,List.length_append,List.length_append]
  omega
end
mutual
theorem needsE_lt {rs:List Ru} (kn:List Fa):∀e:Ex,GoodE rs e->∀i∈needsE rs kn e,i<rs.length
 | .mk k s t ks,h,i,hi=>by
  rw[needsE]at hi
  split at hi
  ·rename_i h4
   simp at hi;subst hi
   exact(findR_lt (h.ref h4)).1
  ·split at hi
   ·exact needsQ_lt kn ks (λk hk=>h.kid k hk) i hi
   ·exact needsA_lt kn ks (λk hk=>h.kid k hk) i hi
theorem needsQ_lt {rs:List Ru} (kn:List Fa):∀ks:List Ex,(∀k∈ks,GoodE rs k)->∀i∈needsQ rs kn ks,i<rs.length
 |[],_,i,hi=>by simp[needsQ]at hi
 |k::ks,h,i,hi=>by
  rw[needsQ]at hi
  rcases List.mem_append.1 hi with hi|hi
  ·exact needsE_lt kn k (h k (by simp)) i hi
  ·split at hi
   ·exact needsQ_lt kn ks (λk hk=>h k (by simp[hk])) i hi
   ·cases hi
theorem needsA_lt {rs:List Ru} (kn:List Fa):∀ks:List Ex,(∀k∈ks,GoodE rs k)->∀i∈needsA rs kn ks,i<rs.length
 |[],_,i,hi=>by simp[needsA]at hi
 |k::ks,h,i,hi=>by
  rw[needsA]at hi
  rcases List.mem_append.1 hi with hi|hi
  ·exact needsE_lt kn k (h k (by simp)) i hi
  ·exact needsA_lt kn ks (λk hk=>h k (by simp[hk])) i hi
end
def wkB (wk:List Bool) (i:Nat):Bool:=(wk[i]?).getD false
def soundB (rs:List Ru) (kn:List Fa) (wk:List Bool) (e:Ex):Bool:=(needsE rs kn e).all (wkB wk)
theorem sound_is {rs:List Ru} {kn:List Fa} {wk:List Bool} {ga ra wa:Option Addr} {gl gc rc wc:Nat} (hlen:kn.length=rs.length) (hwl:wk.length=rs.length):∀(n:Nat) (e:Ex),SizeOf.sizeOf e<n->∀{M:Mem} {x:X_api_Expr} {K:Value->Prop},ExR M e x->GrR M rs ga gl gc->
  SlV M ra kn.length rc 3 (cl X_api_Facts.cells kn)->SlV M wa wk.length wc 1 (cl bC wk)->GoodE rs e->K (.bool (soundB rs kn wk e))->S_well_sound ga gl gc ra kn.length rc wa wk.length wc x M K:=by
 intro n
 induction n with
 |zero=>intro e h;omega
 |succ n ih=>
  intro e hn M x K hR hg hkn hwk hgood hK
  obtain⟨xs,hx⟩:=hR.open
  obtain⟨g1,g2,g3,g4,g5,g6,g7,g8⟩:=fitE_kinds hgood.fit
  have hl8:e.kids.length<=8:=by
   by_cases h4:e.kind<=4
   ·rw[g3 h4];simp
   ·by_cases h7:7<=e.kind
    ·have:=g5 h7;omega
    ·exact(g4 (by omega)).2
  rw[soundB,needsE_eq]at hK
  unfold S_well_sound
  rw[hx.kind]
  refine⟨λh4=>?_,λn4=>⟨λh5=>?_,λn5=>?_⟩⟩
  ·rw[if_pos h4]at hK
   have hr:=hgood.ref h4
   obtain⟨hlt,hlt'⟩:=findR_lt hr
   obtain⟨a,ha⟩:=getN (l:=wk) (i:=(findR e.text rs 0).toNat) (by omega)
   obtain⟨b,o,hb,hat⟩:=hwk.at (f:=bC) (λ_=>rfl) rfl ha
   rw[hx.text]
   refine s_gram_Find _ _ _ _ _ _ (find_is hg e.text _ ⟨_,rfl,b,o,hb,hr,by omega,a,hat,?_⟩)
   simp only[List.all_cons,List.all_nil,Bool.and_true,wkB,ha,Option.getD_some]at hK
   exact hK
  ·rw[if_neg n4,if_pos h5]at hK
   refine⟨λi=>0<=i/\i<=e.kids.length/\(needsQ rs kn (e.kids.drop i.toNat)).all (wkB wk)=(needsQ rs kn e.kids).all (wkB wk),λi=>e.kids.length-i.toNat,⟨by omega,by omega,rfl⟩,λi ⟨i0,i1,heq⟩=>⟨λhlt=>?_,λhge=>?_⟩⟩
   ·rw[hx.len]at hlt
    obtain⟨k,hk⟩:=getI (l:=e.kids) i0 hlt
    obtain⟨b,o,y,ha,hat,hy,_⟩:=hx.kid hk
    have hmem:=List.mem_of_getElem? hk
    rw[drop_get hk,needsQ,List.all_append]at heq
    refine⟨b,o,ha,i0,by rw[hx.len];exact hlt,y,hat,s_well_sound _ _ _ _ _ _ _ _ _ _ _ _ (ih k (by have:=Ex.kid_lt hmem;omega) hy hg hkn hwk (hgood.kid k hmem) ⟨_,rfl,λhf=>?_,λht=>?_⟩)⟩
    ·have hf:(needsE rs kn k).all (wkB wk)=false:=by simpa[soundB]using hf
     rw[hf,Bool.false_and]at heq;rw[<-heq]at hK;exact hK
    ·have ht:(needsE rs kn k).all (wkB wk)=true:=by simpa[soundB]using ht
     rw[ht,Bool.true_and]at heq
     refine s_well_of _ _ _ _ _ _ _ _ _ (of_is hlen _ k (Nat.lt_succ_self _) hy hg hkn (hgood.kid k hmem) ⟨_,rfl,λhf=>?_,λht2=>⟨by unfold InI;omega,⟨by omega,by omega,?_⟩,by dsimp only;omega⟩⟩)
     ·have hf:(ofE rs kn k).Empty=false:=by simpa using hf
      rw[hf]at heq
      simp only[Bool.false_eq_true,if_false,List.all_nil]at heq
      rw[<-heq]at hK;exact hK
     ·have ht2:(ofE rs kn k).Empty=true:=by simpa using ht2
      rw[ht2,if_pos rfl]at heq
      rw[show(i+1).toNat=i.toNat+1 by omega];exact heq
   ·rw[hx.len]at hge
    rw[List.drop_of_length_le (by omega),needsQ,List.all_nil]at heq
    rw[<-heq]at hK;exact hK
  ·rw[if_neg n4,if_neg n5]at hK
   refine⟨λi=>0<=i/\i<=e.kids.length/\(needsA rs kn (e.kids.drop i.toNat)).all (wkB wk)=(needsA rs kn e.kids).all (wkB wk),λi=>e.kids.length-i.toNat,⟨by omega,by omega,rfl⟩,λi ⟨i0,i1,heq⟩=>⟨λhlt=>?_,λhge=>?_⟩⟩
   ·rw[hx.len]at hlt
    obtain⟨k,hk⟩:=getI (l:=e.kids) i0 hlt
    obtain⟨b,o,y,ha,hat,hy,_⟩:=hx.kid hk
    have hmem:=List.mem_of_getElem? hk
    rw[drop_get hk,needsA,List.all_append]at heq
    refine⟨b,o,ha,i0,by rw[hx.len];exact hlt,y,hat,s_well_sound _ _ _ _ _ _ _ _ _ _ _ _ (ih k (by have:=Ex.kid_lt hmem;omega) hy hg hkn hwk (hgood.kid k hmem) ⟨_,rfl,λhf=>?_,λht=>⟨by unfold InI;omega,⟨by omega,by omega,?_⟩,by dsimp only;omega⟩⟩)⟩
    ·have hf:(needsE rs kn k).all (wkB wk)=false:=by simpa[soundB]using hf
     rw[hf,Bool.false_and]at heq;rw[<-heq]at hK;exact hK
    ·have ht:(needsE rs kn k).all (wkB wk)=true:=by simpa[soundB]using ht
     rw[ht,Bool.true_and]at heq
     rw[show(i+1).toNat=i.toNat+1 by omega];exact heq
   ·rw[hx.len]at hge
    rw[List.drop_of_length_le (by omega),needsA,List.all_nil]at heq
    rw[<-heq]at hK;exact hK
def bLe (a b:Bool):Prop:=a=true->b=true
theorem bLat:Lat bLe (·||·) bit 1 where
 refl:=λa=>id
 trans:=λh k=>k∘h
 anti:=by rintro(_|_) (_|_)<;>simp[bLe]
 left:=by rintro(_|_) (_|_)<;>simp[bLe]
 right:=by rintro(_|_) (_|_)<;>simp[bLe]
 least:=by rintro(_|_) (_|_) (_|_)<;>simp[bLe]
 mono:=by rintro(_|_) (_|_)<;>simp[bLe,bit]
 strict:=by rintro(_|_) (_|_)<;>simp[bLe,bit]
 bound:=by rintro(_|_)<;>simp[bit]
def Gof (rs:List Ru) (kn:List Fa) (wk:List Bool) (i:Nat):Bool:=match rs[i]? with
 |some r=>soundB rs kn wk r.body
 |none=>false
theorem Gof_mono (rs:List Ru) (kn:List Fa) (n:Nat):MonoF bLe (Gof rs kn) n:=λa z i _ _ h=>by
 unfold Gof
 split
 ·intro hs
  rw[soundB,List.all_eq_true]at hs ⊢
  intro j hj
  have:=hs j hj
  unfold wkB at this ⊢
  cases ha:a[j]? with
  |none=>rw[ha]at this;cases this
  |some x=>
   rw[ha]at this
   obtain⟨y,hy⟩:=getN (l:=z) (i:=j) (by have:=(List.getElem?_eq_some_iff.1 ha).1;have:=h.1;omega)
   rw[hy];exact h.2 j x y ha hy this
 ·exact id
def wkOf (rs:List Ru):List Bool:=jacN (·||·) (Gof rs (knOf rs)) (rs.length+1) (List.replicate rs.length false)
theorem wkOf_lfp (rs:List Ru):Lfp bLe (Gof rs (knOf rs)) rs.length (wkOf rs):=jac_lfp bLat (Gof_mono rs _ _) false (λa h=>(by cases h)) _ (by omega)
theorem wkOf_eq {rs:List Ru} {wk:List Bool} (h:Lfp bLe (Gof rs (knOf rs)) rs.length wk):wk=wkOf rs:=h.same bLat (wkOf_lfp rs)
end Go.Proofs.Ytmnilbfhfjdelaa.core

namespace Go.Proofs.Ytmnilbfhfjdelaa.core
open Go.Gx Go.RowKit Go.ChangeShapes Go.WideShapes Go.ChangeAt
set_option linter.unusedVariables false
theorem bC_len (b:Bool):(bC b).length=1:=rfl
theorem grow_bool {F:List Bool->Nat->Bool} {n:Nat} (hF:MonoF bLe F n) (hn:n<=10) (next:Value) (M:Mem) (K:Value->Mem->Prop)
  (hnext:∀M' ad cap kn,M.le M'->SlV M' ad n cap 1 (cl bC kn)->kn.length=n->∀i:Int,0<=i->i<n->CallF Try.prog next [.slice ad n cap,.int .i64 i] M' (λv _=>v= .bool (F kn i.toNat)))
  (hK:∀M' ad cap kn,M.le M'->SlV M' ad n cap 1 (cl bC kn)->Lfp bLe F n kn->K (.slice ad n cap) M'):S_well_grow_bool (n:Int) next M (λ_=>False) K:=by
 unfold S_well_grow_bool
 simp only[Int.toNat_natCast]
 refine⟨by omega,by omega,by omega,λM6 ad cap hnr=>?_⟩
 have h6:=GrowI.make hnr
 rw[show repl n [Value.bool false]=cl bC (List.replicate n false) from(cl_replicate bC n false).symm]at h6
 have L:=bLat
 refine⟨List Bool,λkn more M'=>GrowI M M' _ 1 ad n cap (cl bC kn)/\Pre bLe F n kn/\(more=false->∀(i:Nat) a,kn[i]?=some a->F kn i=a),λkn more=>2*wS bit 1 kn+(if more then 1 else 0),List.replicate n false,⟨h6,pre_bot false (λa h=>(by cases h)) n,λh=>(by cases h)⟩,λkn more M' ⟨hg,hp,hfix⟩=>⟨λhmore=>?_,λhmore=>?_⟩⟩
 ·refine⟨List Bool,λk2 more2 i M2=>0<=i/\i<=n/\GrowI M M2 _ 1 ad n cap (cl bC k2)/\Pre bLe F n k2/\leL bLe kn k2/\(more2=true->kn≠k2)/\(more2=false->k2=kn/\∀(j:Nat) a,(j:Int)<i->kn[j]?=some a->F kn j=a),λ_ _ i=>n-i.toNat,kn,⟨by omega,by omega,hg,hp,leL.refl L kn,λh=>(by cases h),λ_=>⟨rfl,λj a h=>by omega⟩⟩,λk2 more2 i M2 ⟨h0,h1,hg2,hp2,hl2,ht2,hf2⟩=>⟨λhlt=>?_,λhge=>?_⟩⟩
  ·have hkl:=hp2.len
   obtain⟨a,ha⟩:=getI (l:=k2) h0 (by omega)
   have hsl:=hg2.row.slv
   refine((hnext M2 ad cap k2 hg2.le hsl hkl i h0 hlt).mono (K':=λv M'=>M2.le M'/\v= .bool (F k2 i.toNat)) λv M' hle hv=>⟨hle,hv⟩).toW.mono (λ_ h=>h) λv M3 _ ⟨hle3,hv⟩=>⟨_,hv,?_⟩
   have hg3:=hg2.more hle3
   obtain⟨b,o,had,hat⟩:=hg3.row.slv.at bC_len hkl ha
   refine⟨b,o,had,h0,hlt,a,hat,λhne=>?_,λhne=>?_⟩
   ·obtain⟨q1,q2,q3⟩:=hg3.put bC_len hkl (i:=i.toNat) (by omega) had (F k2 i.toNat)
    have hne':a≠F k2 i.toNat:=λe=>hne e.symm
    obtain⟨s1,s2⟩:=hp2.step L hF ha
    have hw:=wS_set L ha (hp2.up _ _ ha) hne'
    refine⟨b,o,had,h0,hlt,q1,.inr q2,λM4 hM4=>?_⟩
    subst hM4
    refine⟨by unfold InI;omega,k2.set i.toNat (F k2 i.toNat),⟨by omega,by omega,q3,s1,hl2.trans L s2,λ_ e=>?_,λh=>(by cases h)⟩,by dsimp only;omega⟩
    rw[<-e]at hw
    have:=(wS_le L hl2).1
    omega
   ·have hsame:F k2 i.toNat=a:=Classical.not_not.1 hne
    refine⟨by unfold InI;omega,k2,⟨by omega,by omega,hg3,hp2,hl2,ht2,λhm=>?_⟩,by dsimp only;omega⟩
    obtain⟨f1,f2⟩:=hf2 hm
    subst f1
    refine⟨rfl,λj x hj hx=>?_⟩
    by_cases e:(j:Int)=i
    ·have:i.toNat=j:=by omega
     rw[this]at ha hsame
     rw[ha]at hx;cases hx;exact hsame
    ·exact f2 j x (by omega) hx
  ·have hkl:=hp.len
   cases more2 with
   |true=>
    refine⟨k2,⟨hg2,hp2,λh=>(by cases h)⟩,?_⟩
    have:=(wS_le L hl2).2 (ht2 rfl)
    rw[hmore];dsimp only;omega
   |false=>
    obtain⟨f1,f2⟩:=hf2 rfl
    subst f1
    refine⟨k2,⟨hg2,hp2,λ_ j x hx=>f2 j x (by have:=(List.getElem?_eq_some_iff.1 hx).1;omega) hx⟩,?_⟩
    rw[hmore];dsimp only;simp
 ·intro M7 hle7
  have hm:more=false:=by simpa using hmore
  exact hK M7 ad cap kn (hg.le.trans hle7) (hg.row.slv.le hle7) (hp.lfp L (hfix hm))
def fstB:List Bool->Int->Int
 |[],_=> -1
 |b::t,i=>if b then i else fstB t (i+1)
def wellP (rs:List Ru):Int×Int:=
 if gramErr rs≠0 then(0,gramErr rs)
 else if fstB (rs.map λr=>loopB rs (knOf rs) r.body) 0≠-1 then(fstB (rs.map λr=>loopB rs (knOf rs) r.body) 0,9)
 else if fstB ((wkOf rs).map (!·)) 0≠-1 then(fstB ((wkOf rs).map (!·)) 0,8) else(0,0)
theorem fstB_hit {l:List Bool} {i:Int} (h0:0<=i) {t:List Bool} (hd:l.drop i.toNat=true::t) (heq:fstB (l.drop i.toNat) i=fstB l 0):fstB l 0=i/\fstB l 0≠-1:=by
 rw[hd,fstB,if_pos rfl]at heq
 exact⟨heq.symm,by omega⟩
theorem fstB_miss {l:List Bool} {i:Int} (h0:0<=i) {t:List Bool} (hd:l.drop i.toNat=false::t) (heq:fstB (l.drop i.toNat) i=fstB l 0):fstB (l.drop (i+1).toNat) (i+1)=fstB l 0:=by
 rw[show(i+1).toNat=i.toNat+1 by omega,<-List.drop_drop,hd,List.drop_succ_cons,List.drop_zero]
 rw[hd,fstB]at heq
 simpa using heq
theorem wwell_is {rs:List Ru} {ga:Option Addr} {gl gc:Nat} {M:Mem} (hg:GrR M rs ga gl gc) (K:Value->Prop) (hK:K (.tuple #[.int .i64 (wellP rs).1,.int .i64 (wellP rs).2])):S_well_Well ga gl gc M K:=by
 unfold S_well_Well
 unfold wellP at hK
 refine s_gram_Check _ _ _ _ _ (gcheck_is hg _ ⟨_,rfl,λh=>?_,λh=>?_⟩)
 ·rw[if_pos h]at hK;exact hK
 rw[if_neg h]at hK
 have h0:gramErr rs=0:=by simpa using h
 have hok:=gram_ok h0
 have h10:=hok.ten
 have hgl:=hg.len
 have hkl:=knOf_len rs
 have hwl:=(wkOf_lfp rs).len
 refine s_well_facts _ _ _ _ _ (pfacts_is hok hg _ λM1 ad cap hle hsl=>⟨_,_,_,rfl,?_⟩)
 generalize hll:(rs.map λr=>loopB rs (knOf rs) r.body)=ll at hK
 have hlll:ll.length=rs.length:=by rw[<-hll];simp
 have hlg:∀(i:Nat) r,rs[i]?=some r->ll[i]?=some (loopB rs (knOf rs) r.body):=λi r hr=>by rw[<-hll,List.getElem?_map,hr];rfl
 refine⟨λi=>0<=i/\i<=rs.length/\fstB (ll.drop i.toNat) i=fstB ll 0,λi=>rs.length-i.toNat,⟨by omega,by omega,rfl⟩,λi ⟨i0,i1,heq⟩=>⟨λhlt=>?_,λhge=>?_⟩⟩
 ·obtain⟨r,x,b,o,hr,ha,hat,hrr⟩:=(hg.le hle).at i0 hlt
  rw[<-hkl]at hsl ⊢
  refine⟨b,o,ha,i0,hlt,x,hat,s_well_loops _ _ _ _ _ _ _ _ _ (loops_is hkl _ r.body (Nat.lt_succ_self _) hrr.2.2 (hg.le hle) hsl (hok.good r (List.mem_of_getElem? hr)) ⟨_,rfl,λht=>?_,λhf=>⟨by unfold InI;omega,⟨by omega,by omega,?_⟩,by dsimp only;omega⟩⟩)⟩
  ·have hd:=drop_get (hlg _ r hr)
   rw[ht]at hd
   obtain⟨e1,e2⟩:=fstB_hit i0 hd heq
   rw[if_pos e2,e1]at hK;exact hK
  ·have hd:=drop_get (hlg _ r hr)
   rw[show loopB rs (knOf rs) r.body=false by simpa using hf]at hd
   exact fstB_miss i0 hd heq
 rw[List.drop_of_length_le (by omega),fstB]at heq
 rw[if_neg (by rw[<-heq];simp)]at hK
 intro M2 b4 hle2 h4 M3 b10 hle3 hb10
 rw[hgl]
 refine e_well_grow_bool _ _ _ _ (grow_bool (Gof_mono rs (knOf rs) _) h10 _ _ _ (λM' ad2 cap2 wk hle' hsl2 hwk2 i i0 i1=>?_) λM' ad2 cap2 wk hle' hsl2 hlfp=>⟨_,_,_,rfl,?_⟩)
 ·have hle4:=((hle.trans hle2).trans hle3).trans hle'
  rw[<-hwk2]at hsl2 ⊢
  obtain⟨r,x,b,o,hr,ha,hat,hrr⟩:=(hg.le hle4).at (i:=i) i0 (by omega)
  refine f_well_Well_1 _ _ _ _ _ _ _ (λv=>v= .bool (Gof rs (knOf rs) wk i.toNat)) ?_
  unfold S_well_Well_1
  have h4':=h4.le (hle3.trans hle')
  refine⟨_,_,_,h4',_,_,_,hb10.le hle',_,_,_,h4',b,o,ha,i0,by omega,x.Body,hat.part 1 x.Body.cells rfl,?_⟩
  have hsl3:=hsl.le ((hle2.trans hle3).trans hle')
  rw[<-hkl]at hsl3 ⊢
  refine s_well_sound _ _ _ _ _ _ _ _ _ _ _ _ (sound_is hkl hwk2 _ r.body (Nat.lt_succ_self _) hrr.2.2 (hg.le hle4) hsl3 hsl2 (hok.good r (List.mem_of_getElem? hr)) ⟨_,rfl,?_⟩)
  rw[Gof,hr]
 ·rw[wkOf_eq hlfp]at hsl2
  generalize hwd:(wkOf rs).map (!·)=wd at hK
  have hwdl:wd.length=rs.length:=by rw[<-hwd];simp[hwl]
  refine⟨λi=>0<=i/\i<=rs.length/\fstB (wd.drop i.toNat) i=fstB wd 0,λi=>rs.length-i.toNat,⟨by omega,by omega,rfl⟩,λi ⟨i0,i1,heq⟩=>⟨λhlt=>?_,λhge=>?_⟩⟩
  ·obtain⟨a,ha⟩:=getN (l:=wkOf rs) (i:=i.toNat) (by omega)
   obtain⟨b,o,hb,hat⟩:=hsl2.at bC_len hwl ha
   have hwg:wd[i.toNat]?=some (!a):=by rw[<-hwd,List.getElem?_map,ha];rfl
   have hd:=drop_get hwg
   refine⟨b,o,hb,i0,hlt,a,hat,λhf=>?_,λht=>⟨by unfold InI;omega,⟨by omega,by omega,?_⟩,by dsimp only;omega⟩⟩
   ·rw[show a=false by simpa using hf]at hd
    obtain⟨e1,e2⟩:=fstB_hit i0 hd heq
    rw[if_pos e2,e1]at hK;exact hK
   ·rw[show a=true by simpa using ht]at hd
    exact fstB_miss i0 hd heq
  ·rw[List.drop_of_length_le (by omega),fstB]at heq
   rw[if_neg (by rw[<-heq];simp)]at hK;exact hK
end Go.Proofs.Ytmnilbfhfjdelaa.core

namespace Go.Proofs.Ytmnilbfhfjdelaa.core
open Go.Gx Go.RowKit Go.ChangeShapes Go.WideShapes Go.ChangeAt
set_option linter.unusedVariables false
abbrev natC (i:Nat):List Value:=[.int .i64 (i:Int)]
theorem natC_len (i:Nat):(natC i).length=1:=rfl
theorem natC_one (i:Nat):∀u∈natC i,u.oneCell'=true:=by intro u hu;simp at hu;subst hu;rfl
theorem nats_index {A:Option Addr} {n c:Nat} {zs:List Nat} {M:Mem} (h:SlV M A n c 1 (cl natC zs)) (v:Nat) (K:Value->Prop) (hK:∀i:Int,(0<=i↔v∈zs)->K (.int .i64 i)):S_slices_Index_int A n c (v:Int) M K:=by
 have hn:=h.len natC_len (by omega)
 have hmx:=h.max
 unfold S_slices_Index_int
 refine⟨λi=>0<=i/\i<=n/\v∉zs.take i.toNat,λi=>n-i.toNat,⟨by omega,by omega,by simp⟩,λi ⟨h0,h1,h2⟩=>⟨λhlt=>?_,λhge=>?_⟩⟩
 ·obtain⟨x,hx⟩:=getI (l:=zs) h0 (by omega)
  obtain⟨b,o,ha,hat⟩:=h.at natC_len hn hx
  refine⟨b,o,ha,h0,hlt,_,hat,λe=>hK i ⟨λ_=>by rw[show v=x by omega];exact List.mem_of_getElem? hx,λ_=>h0⟩,λe=>⟨by unfold InI;omega,⟨by omega,by omega,?_⟩,by dsimp only;omega⟩⟩
  rw[show(i+1).toNat=i.toNat+1 by omega,take_get hx]
  intro hm
  rcases List.mem_append.1 hm with hm|hm
  ·exact h2 hm
  ·simp at hm;omega
 ·refine hK (-1) ⟨λh=>by omega,λhm=>?_⟩
  rw[List.take_of_length_le (by omega)]at h2
  exact absurd hm h2
theorem nats_contains {A:Option Addr} {n c:Nat} {zs:List Nat} {M:Mem} (h:SlV M A n c 1 (cl natC zs)) (v:Nat) (K:Value->Prop) (hK:K (.bool (decide (v∈zs)))):S_slices_Contains_int A n c (v:Int) M K:=by
 refine s_slices_Index_int _ _ _ _ _ _ (nats_index h v _ λi hi=>⟨_,rfl,?_⟩)
 rw[show decide (i>=0)=decide (v∈zs) from decide_eq_decide.2 hi]
 exact hK
theorem kids8 {rs:List Ru} {e:Ex} (h:GoodE rs e):e.kids.length<=8:=by
 obtain⟨g1,g2,g3,g4,g5,_⟩:=fitE_kinds h.fit
 by_cases h4:e.kind<=4
 ·rw[g3 h4];simp
 ·by_cases h7:7<=e.kind
  ·have:=g5 h7;omega
  ·exact(g4 (by omega)).2
theorem flatE_kidlen {e k:Ex} (h:k∈e.kids):(flatE k).length<(flatE e).length:=by
 rw[flatE_eq e,List.length_cons]
 have:∀ks:List Ex,k∈ks->(flatE k).length<=(flatEs ks).length:=by
  intro ks
  induction ks with
  |nil=>intro h;cases h
  |cons a r ih=>
   intro h
   rw[flatEs,List.length_append]
   rcases List.mem_cons.1 h with rfl|h
   ·omega
   ·have:=ih h;omega
 have:=this _ h
 omega
theorem needs_is {rs:List Ru} {kn:List Fa} {ga ra:Option Addr} {gl gc rc:Nat} (hlen:kn.length=rs.length):∀(n:Nat) (e:Ex),SizeOf.sizeOf e<n->(flatE e).length<=60->∀{M:Mem} {x:X_api_Expr} {K:Value->Mem->Prop},ExR M e x->GrR M rs ga gl gc->
  SlV M ra kn.length rc 1 (cl encC kn)->GoodE rs e->(∀M' ad cap,M.le M'->SlV M' ad (needsE rs kn e).length cap 1 (cl natC (needsE rs kn e))->K (.slice ad (needsE rs kn e).length cap) M')->S_chaffref_needs ga gl gc ra kn.length rc x M K:=by
 intro n
 induction n with
 |zero=>intro e h;omega
 |succ n ih=>
  intro e hn h60 M x K hR hg hkn hgood hK
  obtain⟨xs,hx⟩:=hR.open
  have hl8:=kids8 hgood
  have hnl:=needsE_len rs kn e
  unfold S_chaffref_needs
  rw[hx.kind]
  refine⟨λh4=>?_,λn4=>?_⟩
  ·have hr:=hgood.ref h4
   have hnat:((findR e.text rs 0).toNat:Int)=findR e.text rs 0:=by omega
   rw[hx.text]
   refine s_chaffref_Find _ _ _ _ _ _ (rfind_is hg e.text _ ⟨_,rfl,λM1 ad cap hle hsl M2 hle2=>?_⟩)
   have:=hK M2 ad cap (hle.trans hle2)
   rw[needsE_eq,if_pos h4]at this
   refine this ?_
   rw[<-hnat]at hsl
   exact hsl.le hle2
  · -- what is left, and what is there
   let rest:List Ex->List Nat:=λks=>if e.kind=5 then needsQ rs kn ks else needsA rs kn ks
   have hrest0:needsE rs kn e=rest e.kids:=by rw[needsE_eq,if_neg n4]
   have hrestk:∀k ks,rest (k::ks)=needsE rs kn k++(if e.kind=5/\(ofE rs kn k).Empty=false then[] else rest ks):=by
    intro k ks
    simp only[rest]
    by_cases h5:e.kind=5
    ·rw[if_pos h5,needsQ]
     cases(ofE rs kn k).Empty<;>simp[h5]
    ·rw[if_neg h5,needsA];simp[h5]
   have hfin:∀(M1 M2 M3:Mem) (ad:Option Addr) (cap rn:Nat) (rx:List Value),M.le M1->M1.le M2->M2.le M3->rn=(needsE rs kn e).length->rx=cl natC (needsE rs kn e)->SlV M2 ad rn cap 1 rx->K (.slice ad rn cap) M3:=by
    rintro M1 M2 M3 ad cap _ _ h1 h2 h3 rfl rfl hsl
    exact hK M3 ad cap ((h1.trans h2).trans h3) (hsl.le h3)
   refine⟨λi rn rx M1=>0<=i/\i<=e.kids.length/\M.le M1/\∃acc:List Nat,rn=acc.length/\rx=cl natC acc/\acc++rest (e.kids.drop i.toNat)=needsE rs kn e,λi _ _=>e.kids.length-i.toNat,⟨by omega,by omega,Mem.le.refl M,[],rfl,rfl,by rw[hrest0];rfl⟩,λi rn rx M1 ⟨i0,i1,hM1,acc,hrn,hrx,hacc⟩=>⟨λhlt=>?_,λhge=>?_⟩⟩
   ·rw[hx.len]at hlt
    obtain⟨k,hk⟩:=getI (l:=e.kids) i0 hlt
    obtain⟨xs1,hx1⟩:=(hR.le hM1).open
    obtain⟨b,o,y,ha,hat,hy,_⟩:=hx1.kid hk
    have hmem:=List.mem_of_getElem? hk
    have hgk:=hgood.kid k hmem
    have hkl:=flatE_kidlen hmem
    rw[drop_get hk,hrestk]at hacc
    have hal:=congrArg List.length hacc
    rw[List.length_append,List.length_append]at hal
    subst hrn hrx
    refine⟨b,o,ha,i0,by rw[hx.len];exact hlt,y,hat,s_chaffref_needs _ _ _ _ _ _ _ _ _ (ih k (by have:=Ex.kid_lt hmem;omega) (by omega) hy (hg.le hM1) (hkn.le hM1) hgk λM2 ad2 cap2 hle2 hsl2=>⟨_,_,_,rfl,_,hsl2,cl_one' natC_one _,by omega,?_⟩)⟩
    have hM2:=hM1.trans hle2
    have happ:cl natC acc++cl natC (needsE rs kn k)=cl natC (acc++needsE rs kn k):=(cl_append _ _).symm
    have hgo:∀b:Bool,(b=true->e.kind=5/\(ofE rs kn k).Empty=false)->(b=false->¬(e.kind=5/\(ofE rs kn k).Empty=false))->
      S_chaffref_needs_J1 i acc.length (cl natC acc) (λi rn rx M1=>0<=i/\i<=e.kids.length/\M.le M1/\∃acc:List Nat,rn=acc.length/\rx=cl natC acc/\acc++rest (e.kids.drop i.toNat)=needsE rs kn e) (λi _ _=>e.kids.length-i.toNat) (needsE rs kn k).length M2 (cl natC (needsE rs kn k)) b K:=by
     intro b hb1 hb2
     unfold S_chaffref_needs_J1
     rw[happ,<-List.length_append]
     refine⟨λht M3 ad3 cap3 hle3 hsl3 M4 hle4=>?_,λhf=>⟨by unfold InI;omega,⟨by omega,by omega,hM2,acc++needsE rs kn k,rfl,rfl,?_⟩,by dsimp only;omega⟩⟩
     ·have:=hb1 ht
      rw[if_pos this,List.append_nil]at hacc
      rw[hacc]at hsl3 ⊢
      exact hfin M2 M3 M4 ad3 cap3 _ _ hM2 hle3 hle4 rfl rfl hsl3
     ·have:=hb2 (by simpa using hf)
      rw[if_neg this]at hacc
      rw[show(i+1).toNat=i.toNat+1 by omega,List.append_assoc];exact hacc
    refine⟨λh5=>?_,λn5=>hgo _ (λh=>by cases h) (λ_ h=>n5 h.1)⟩
    refine s_chaffref_May _ _ _ _ _ _ _ _ _ (may_is hlen _ k (Nat.lt_succ_self _) (hy.le hle2) (hg.le hM2) (hkn.le hM2) hgk ⟨_,rfl,hgo _ ?_ ?_⟩)
    ·intro h
     refine⟨h5,?_⟩
     have:¬(bAnd .i64 (enc (ofE rs kn k)) 1>0):=by simp at h;omega
     rw[enc1]at this;simpa using this
    ·rintro h ⟨_,h'⟩
     have hnz:¬(bAnd .i64 (enc (ofE rs kn k)) 1=0):=by simpa using h
     have hz:∀f:Fa,f.Empty=false->bAnd .i64 (enc f) 1=0:=by rintro⟨_|_,_|_,_|_⟩ hh<;>first|(exact absurd hh (by decide))|decide
     exact hnz (hz _ h')
   ·rw[hx.len]at hge
    intro M2 ad2 cap2 hle2 hsl2 M3 hle3
    rw[List.drop_of_length_le (by omega)]at hacc
    have hnil:rest []=[]:=by simp only[rest];split<;>simp[needsQ,needsA]
    rw[hnil,List.append_nil]at hacc
    subst hacc
    exact hfin M1 M2 M3 ad2 cap2 rn rx hM1 hle2 hle3 hrn hrx hsl2
def chi (n:Nat) (w:List Nat):List Bool:=(List.range n).map λi=>decide (i∈w)
theorem chi_len (n:Nat) (w:List Nat):(chi n w).length=n:=by simp[chi]
theorem chi_get {n:Nat} {w:List Nat} {i:Nat} (h:i<n):(chi n w)[i]?=some (decide (i∈w)):=by
 unfold chi
 rw[List.getElem?_map,List.getElem?_range h];rfl
theorem chi_wkB {n:Nat} {w:List Nat} {i:Nat} (h:i<n):wkB (chi n w) i=decide (i∈w):=by rw[wkB,chi_get h];rfl
theorem chi_add {n:Nat} {w:List Nat} {i:Nat} (h:i<n):chi n (w++[i])=(chi n w).set i true:=by
 apply List.ext_getElem?
 intro j
 rw[List.getElem?_set]
 by_cases hj:j<n
 ·rw[chi_get hj,chi_get hj,chi_len]
  split
  ·subst i;simp
  ·rename_i hne;simp[List.mem_append];intro e;exact absurd e.symm hne
 ·rw[List.getElem?_eq_none (by rw[chi_len];omega),List.getElem?_eq_none (by rw[chi_len];omega)]
  split
  ·subst i;omega
  ·rfl
theorem pre_zero {n:Nat} {F:List Bool->Nat->Bool} {kn:List Bool} (hp:Pre bLe F n kn) (h:wS bit 1 kn=0):∀(i:Nat) a,kn[i]?=some a->F kn i=a:=by
 have all:∀(l:List Bool),wS bit 1 l=0->∀(i:Nat) a,l[i]?=some a->a=true:=by
  intro l
  induction l with
  |nil=>intro _ i a h;simp at h
  |cons b r ih=>
   intro h i a hi
   simp only[wS,List.map_cons,List.sum_cons]at h
   cases i with
   |zero=>simp at hi;subst hi;cases b<;>simp[bit]at h ⊢
   |succ i=>exact ih (by unfold wS;omega) i a (by simpa using hi)
 intro i a hi
 have ha:=all kn h i a hi
 subst ha
 exact hp.up i true hi rfl
theorem rwell_is {rs:List Ru} {ga:Option Addr} {gl gc:Nat} {M:Mem} (hg:GrR M rs ga gl gc) (K:Value->Prop) (hK:K (.tuple #[.int .i64 (wellP rs).1,.int .i64 (wellP rs).2])):S_chaffref_Well ga gl gc M K:=by
 unfold S_chaffref_Well
 unfold wellP at hK
 refine s_chaffref_Gram _ _ _ _ _ (rgram_is hg _ ⟨_,rfl,λh=>?_,λh=>?_⟩)
 ·rw[if_pos h]at hK;exact hK
 rw[if_neg h]at hK
 have h0:gramErr rs=0:=by simpa using h
 have hok:=gram_ok h0
 have h10:=hok.ten
 have hgl:=hg.len
 have hkl:=knOf_len rs
 have hwl:=(wkOf_lfp rs).len
 have L:=bLat
 refine s_chaffref_Mays _ _ _ _ _ (pmays_is hok hg _ λM1 ad cap hle hsl=>⟨_,_,_,rfl,?_⟩)
 rw[hgl]
 rw[<-hkl]at hsl
 generalize hll:(rs.map λr=>loopB rs (knOf rs) r.body)=ll at hK
 have hlll:ll.length=rs.length:=by rw[<-hll];simp
 have hlg:∀(i:Nat) r,rs[i]?=some r->ll[i]?=some (loopB rs (knOf rs) r.body):=λi r hr=>by rw[<-hll,List.getElem?_map,hr];rfl
 refine⟨λi M2=>0<=i/\i<=rs.length/\M1.le M2/\fstB (ll.drop i.toNat) i=fstB ll 0,λi=>rs.length-i.toNat,⟨by omega,by omega,Mem.le.refl _,rfl⟩,λi M2 ⟨i0,i1,hle2,heq⟩=>⟨λhlt=>?_,λhge=>?_⟩⟩
 ·have hg2:=hg.le (hle.trans hle2)
  obtain⟨r,x,b,o,hr,ha,hat,hrr⟩:=hg2.at i0 (by rw[hgl];exact hlt)
  have hmem:=List.mem_of_getElem? hr
  have herr:=hok.err r hmem
  obtain⟨hf60,_,htake,hflat⟩:=flat_max herr
  refine⟨b,o,ha,i0,hlt,x,hat,s_chaffref_Nodes _ _ _ (nodes_is r.body x.Body _ _ hrr.2.2 λM3 A3 c3 xs hle3 hsl3 hall=>⟨_,_,_,rfl,?_⟩)⟩
  rw[htake]at hall
  have hxl:=hall.length
  have hfl:(flatE r.body).length=xs.length:=by rw[hxl,<-hflat,List.length_map]
  have hd:=drop_get (hlg _ r hr)
  have hg3:=hg2.le hle3
  refine⟨λj=>0<=j/\j<=xs.length/\((flatE r.body).drop j.toNat).any (ndB rs (knOf rs))=loopB rs (knOf rs) r.body,λj=>xs.length-j.toNat,⟨by omega,by omega,rfl⟩,λj ⟨j0,j1,heqj⟩=>⟨λhltj=>?_,λhgej=>?_⟩⟩
  ·obtain⟨p,hp⟩:=getI (l:=preE 1 r.body) j0 (by omega)
   obtain⟨y,hy,hyr,hyd⟩:=hall.get hp
   obtain⟨b2,o2,ha2,hat2⟩:=hsl3.at Xn_len rfl hy
   have hpf:(flatE r.body)[j.toNat]?=some p.1:=by rw[<-hflat,List.getElem?_map,hp];rfl
   rw[drop_get hpf,List.any_cons]at heqj
   obtain⟨zs,hz⟩:=hyr.open
   have hgn:GoodE rs p.1:=by
    refine good_of rs p.1 λz hz'=>?_
    have hz2:z∈flatE r.body:=by
     have key:∀e:Ex,p.1∈flatE e->z∈flatE e:=by
      intro e
      induction hn:SizeOf.sizeOf e using Nat.strongRecOn generalizing e with
      |_ n ih=>
       subst hn
       intro he
       rw[flatE_eq]at he
       rcases List.mem_cons.1 he with he|he
       ·rw[he]at hz';exact hz'
       ·have hex:∀ks:List Ex,p.1∈flatEs ks->∃k∈ks,p.1∈flatE k:=by
         intro ks
         induction ks with
         |nil=>intro h;rw[flatEs]at h;cases h
         |cons a t iht=>
          intro h
          rw[flatEs]at h
          rcases List.mem_append.1 h with h|h
          ·exact⟨a,by simp,h⟩
          ·obtain⟨k,hk,hk2⟩:=iht h;exact⟨k,by simp[hk],hk2⟩
        obtain⟨k,hk,hk2⟩:=hex _ he
        exact flatE_kid hk z (ih _ (Ex.kid_lt hk) k rfl hk2)
     exact key r.body (List.mem_of_getElem? hpf)
    exact⟨flat_fit _ _ _ herr z hz2,λhk=>by
     have hgr:=hok.good r hmem
     have key:∀e:Ex,GoodE rs e->z∈flatE e->0<=findR z.text rs 0:=by
      intro e
      induction hn:SizeOf.sizeOf e using Nat.strongRecOn generalizing e with
      |_ n ih=>
       subst hn
       intro hge he
       rw[flatE_eq]at he
       rcases List.mem_cons.1 he with rfl|he
       ·exact hge.ref hk
       ·have hex:∀ks:List Ex,z∈flatEs ks->∃k∈ks,z∈flatE k:=by
         intro ks
         induction ks with
         |nil=>intro h;rw[flatEs]at h;cases h
         |cons a t iht=>
          intro h
          rw[flatEs]at h
          rcases List.mem_append.1 h with h|h
          ·exact⟨a,by simp,h⟩
          ·obtain⟨k,hk,hk2⟩:=iht h;exact⟨k,by simp[hk],hk2⟩
        obtain⟨k,hk',hk2⟩:=hex _ he
        exact ih _ (Ex.kid_lt hk') k rfl (hge.kid k hk') hk2
     exact key r.body hgr hz2⟩
   have j1':∀b:Bool,b=ndB rs (knOf rs) p.1->S_chaffref_Well_J1 i j (λj=>0<=j/\j<=xs.length/\((flatE r.body).drop j.toNat).any (ndB rs (knOf rs))=loopB rs (knOf rs) r.body) (λj=>xs.length-j.toNat) b K:=by
    intro b hb
    unfold S_chaffref_Well_J1
    rw[<-hb]at heqj
    refine⟨λht=>?_,λhf=>⟨by unfold InI;omega,⟨by omega,by omega,?_⟩,by dsimp only;omega⟩⟩
    ·rw[ht,Bool.true_or]at heqj
     rw[<-heqj]at hd
     obtain⟨e1,e2⟩:=fstB_hit i0 hd heq
     rw[if_pos e2,e1]at hK;exact hK
    ·rw[show b=false by simpa using hf,Bool.false_or]at heqj
     rw[show(j+1).toNat=j.toNat+1 by omega];exact heqj
   have kid0:7<=p.1.kind->∃k b o z,p.1.kids=[k]/\y.Expr.Kids_a=some ⟨b,o,none⟩/\At M3 b (o+(0:Int).toNat*7) z.cells/\ExR M3 k z/\k∈p.1.kids/\(0:Int)<((y.Expr.Kids_l:Nat):Int):=λh7=>by
    have h1:=(fitE_kinds hgn.fit).2.2.2.2.1 h7
    obtain⟨k,hk⟩:∃k,p.1.kids=[k]:=List.length_eq_one_iff.1 h1
    obtain⟨b,o,z,hza,hzat,hzr,_⟩:=hz.kid (i:=0) (k:=k) (by rw[hk];rfl)
    exact⟨k,b,o,z,hk,hza,hzat,hzr,by rw[hk];simp,by rw[hz.len,h1];omega⟩
   refine⟨b2,o2,ha2,j0,hltj,y,hat2,?_⟩
   rw[hz.kind]
   refine⟨λh7=>?_,λn7=>⟨λh8=>?_,λn8=>j1' _ (by simp[ndB,n7,n8])⟩⟩
   ·obtain⟨k,b3,o3,z,hk,hza,hzat,hzr,hkm,hpos⟩:=kid0 (by omega)
    refine⟨b3,o3,hza,by omega,hpos,z,hzat,?_⟩
    rw[<-hkl]
    refine s_chaffref_May _ _ _ _ _ _ _ _ _ (may_is hkl _ k (Nat.lt_succ_self _) hzr (by rw[<-hgl]at hkl;rw[hkl];exact hg3) (hsl.le (hle2.trans hle3)) (hgn.kid k hkm) ⟨_,rfl,j1' _ ?_⟩)
    rw[d1];simp[ndB,h7,hk,hdF]
   ·obtain⟨k,b3,o3,z,hk,hza,hzat,hzr,hkm,hpos⟩:=kid0 (by omega)
    refine⟨b3,o3,hza,by omega,hpos,z,hzat,?_⟩
    rw[<-hkl]
    refine s_chaffref_May _ _ _ _ _ _ _ _ _ (may_is hkl _ k (Nat.lt_succ_self _) hzr (by rw[<-hgl]at hkl;rw[hkl];exact hg3) (hsl.le (hle2.trans hle3)) (hgn.kid k hkm) ⟨_,rfl,j1' _ ?_⟩)
    rw[d1];simp[ndB,h8,hk,hdF]
  ·rw[List.drop_of_length_le (by omega),List.any_nil]at heqj
   rw[<-heqj]at hd
   exact⟨by unfold InI;omega,⟨by omega,by omega,hle2.trans hle3,fstB_miss i0 hd heq⟩,by dsimp only;omega⟩
 rw[List.drop_of_length_le (by omega),fstB]at heq
 rw[if_neg (by rw[<-heq];simp)]at hK
 let F:=Gof rs (knOf rs)
 let n:=rs.length
 have hF:MonoF bLe F n:=Gof_mono rs _ _
 have hchi0:chi n []=List.replicate n false:=by
  apply List.ext_getElem?
  intro j
  by_cases hj:j<n
  ·rw[chi_get hj,List.getElem?_replicate,if_pos hj];simp
  ·rw[List.getElem?_eq_none (by rw[chi_len];omega),List.getElem?_eq_none (by simp;omega)]
 refine⟨λk rn rx M3=>0<=k/\k<=rs.length/\M1.le M3/\∃w:List Nat,rn=w.length/\rx=cl natC w/\(w.length:Int)<=k*10/\Pre bLe F n (chi n w)/\((∀(j:Nat) a,(chi n w)[j]?=some a->F (chi n w) j=a)\/wS bit 1 (chi n w)+k<=n),λk _ _=>rs.length-k.toNat,⟨by omega,by omega,hle2,[],rfl,rfl,by simp,by rw[hchi0];exact pre_bot false (λa h=>(by cases h)) n,.inr ?_⟩,λk rn rx M3 ⟨k0,k1,hle3,w,hrn,hrx,hwk,hpre,hst⟩=>⟨λhlt=>?_,λhge=>?_⟩⟩
 ·have:=wS_all (wt:=bit) (m:=1) (chi n [])
  rw[chi_len]at this;omega
 ·subst hrn hrx
  refine⟨λi rn rx M4=>0<=i/\i<=rs.length/\M1.le M4/\∃w2:List Nat,rn=w2.length/\rx=cl natC w2/\(w2.length:Int)<=k*10+i/\Pre bLe F n (chi n w2)/\leL bLe (chi n w) (chi n w2)/\((chi n w2=chi n w/\∀(j:Nat) a,(j:Int)<i->(chi n w)[j]?=some a->F (chi n w) j=a)\/wS bit 1 (chi n w2)<wS bit 1 (chi n w)),λi _ _=>rs.length-i.toNat,⟨by omega,by omega,hle3,w,rfl,rfl,by omega,hpre,leL.refl L _,.inl ⟨rfl,λj a h=>by omega⟩⟩,λi rn rx M4 ⟨i0,i1,hle4,w2,hrn,hrx,hw2,hpre2,hl2,hst2⟩=>⟨λhlt2=>?_,λhge2=>?_⟩⟩
  ·subst hrn hrx
   obtain⟨m,rfl⟩:=Int.eq_ofNat_of_zero_le i0
   have hmn:m<n:=by simp only[n];omega
   have hg4:=hg.le (hle.trans hle4)
   obtain⟨r,x,b,o,hr,ha,hat,hrr⟩:=hg4.at (i:=(m:Int)) i0 (by rw[hgl];exact hlt2)
   rw[Int.toNat_natCast]at hr hat
   have hmem:=List.mem_of_getElem? hr
   have hgr:=hok.good r hmem
   obtain⟨hf60,_⟩:=flat_max (hok.err r hmem)
   refine⟨b,o,ha,i0,hlt2,x,by rw[Int.toNat_natCast];exact hat,?_⟩
   rw[<-hkl]
   refine s_chaffref_needs _ _ _ _ _ _ _ _ _ (needs_is hkl _ r.body (Nat.lt_succ_self _) hf60 hrr.2.2 (by rw[<-hgl]at hkl;rw[hkl];exact hg4) (hsl.le hle4) hgr λM5 ad5 cap5 hle5 hsl5=>⟨_,_,_,rfl,?_⟩)
   rw[hkl]
   generalize hnl:needsE rs (knOf rs) r.body=nl at hsl5 ⊢
   have hnlt:∀q∈nl,q<n:=by rw[<-hnl];exact needsE_lt _ _ hgr
   have hnll:nl.length<=60:=by rw[<-hnl];have:=needsE_len rs (knOf rs) r.body;omega
   have hFm:F (chi n w2) m=nl.all λq=>decide (q∈w2):=by
    have e:Gof rs (knOf rs) (chi n w2) m=(needsE rs (knOf rs) r.body).all (wkB (chi n w2)):=by unfold Gof;simp only[hr];rfl
    show Gof rs (knOf rs) (chi n w2) m=_
    rw[e,hnl,Bool.eq_iff_iff,List.all_eq_true,List.all_eq_true]
    exact⟨λh q hq=>by rw[<-chi_wkB (hnlt q hq)];exact h q hq,λh q hq=>by rw[chi_wkB (hnlt q hq)];exact h q hq⟩
   refine⟨λok j=>0<=j/\j<=nl.length/\ok=(nl.take j.toNat).all λq=>decide (q∈w2),λ_ j=>nl.length-j.toNat,⟨by omega,by omega,by simp⟩,λok j ⟨j0,j1,hokj⟩=>⟨λhltj=>?_,λhgej=>?_⟩⟩
   ·obtain⟨q,hq⟩:=getI (l:=nl) j0 hltj
    obtain⟨b2,o2,ha2,hat2⟩:=hsl5.at natC_len rfl hq
    have hj2:∀v:Bool,v=(ok&&decide (q∈w2))->S_chaffref_Well_J2 ok j (λok j=>0<=j/\j<=nl.length/\ok=(nl.take j.toNat).all λq=>decide (q∈w2)) (λ_ j=>nl.length-j.toNat) v K:=by
     rintro v rfl
     refine⟨by unfold InI;omega,⟨by omega,by omega,?_⟩,by dsimp only;omega⟩
     rw[show(j+1).toNat=j.toNat+1 by omega,take_get hq,List.all_append,hokj];simp
    refine⟨b2,o2,ha2,j0,hltj,_,hat2,λht M6 ad6 cap6 hle6 hsl6=>?_,λhf=>hj2 _ (by simp[show ok=false by simpa using hf])⟩
    exact s_slices_Contains_int _ _ _ _ _ _ (nats_contains hsl6 q _ ⟨_,rfl,hj2 _ (by rw[ht];simp)⟩)
   ·rw[List.take_of_length_le (by omega),<-hFm]at hokj
    have hj4:∀(w3:List Nat) (M6:Mem),M1.le M6->(w3.length:Int)<=k*10+(m+1)->chi n w3=(chi n w2).set m (F (chi n w2) m)->S_chaffref_Well_J4 (m:Int) w2.length (cl natC w2) (λi rn rx M4=>0<=i/\i<=rs.length/\M1.le M4/\∃w2:List Nat,rn=w2.length/\rx=cl natC w2/\(w2.length:Int)<=k*10+i/\Pre bLe F n (chi n w2)/\leL bLe (chi n w) (chi n w2)/\((chi n w2=chi n w/\∀(j:Nat) a,(j:Int)<i->(chi n w)[j]?=some a->F (chi n w) j=a)\/wS bit 1 (chi n w2)<wS bit 1 (chi n w))) (λi _ _=>rs.length-i.toNat) w3.length (cl natC w3) M6 K:=by
     intro w3 M6 hle6 hw3 hchi
     have hcm:=chi_get (w:=w2) hmn
     obtain⟨s1,s2⟩:=hpre2.step L hF hcm
     rw[<-hchi]at s1 s2
     refine⟨by unfold InI;omega,⟨by omega,by omega,hle6,w3,rfl,rfl,by omega,s1,hl2.trans L s2,?_⟩,by dsimp only;omega⟩
     by_cases hsame:F (chi n w2) m=decide (m∈w2)
     ·have hset:(chi n w2).set m (F (chi n w2) m)=chi n w2:=by rw[hsame];exact set_same hcm
      rw[hset]at hchi
      rw[hchi]
      refine hst2.imp (λ⟨e1,e2⟩=>⟨e1,λj a hj hja=>?_⟩) id
      by_cases hjm:j=m
      ·subst hjm
       rw[<-e1]at hja ⊢
       rw[hcm]at hja;cases hja;exact hsame
      ·exact e2 j a (by omega) hja
     ·right
      have hw:=wS_set L hcm (hpre2.up m _ hcm) (λe=>hsame e.symm)
      rw[<-hchi]at hw
      have:=(wS_le L hl2).1
      omega
    have hj3:∀v:Bool,v=(F (chi n w2) m&& !decide (m∈w2))->S_chaffref_Well_J3 (m:Int) w2.length (cl natC w2) (λi rn rx M4=>0<=i/\i<=rs.length/\M1.le M4/\∃w2:List Nat,rn=w2.length/\rx=cl natC w2/\(w2.length:Int)<=k*10+i/\Pre bLe F n (chi n w2)/\leL bLe (chi n w) (chi n w2)/\((chi n w2=chi n w/\∀(j:Nat) a,(j:Int)<i->(chi n w)[j]?=some a->F (chi n w) j=a)\/wS bit 1 (chi n w2)<wS bit 1 (chi n w))) (λi _ _=>rs.length-i.toNat) M5 v K:=by
     intro v hv
     have hcm:=chi_get (w:=w2) hmn
     refine⟨λht=>?_,λhf=>?_⟩
     ·rw[ht]at hv
      have hFt:F (chi n w2) m=true:=by cases hF':F (chi n w2) m<;>simp[hF']at hv ⊢
      have:=hj4 (w2++[m]) M5 (hle4.trans hle5) (by simp;omega) (by rw[hFt];exact chi_add hmn)
      rw[List.length_append,<-cl_snoc]at this
      exact⟨by omega,this⟩
     ·rw[show v=false by simpa using hf]at hv
      refine hj4 w2 M5 (hle4.trans hle5) (by omega) ?_
      have hup:=hpre2.up m _ hcm
      have:F (chi n w2) m=decide (m∈w2):=by
       unfold bLe at hup
       cases hF':F (chi n w2) m<;>cases hd:decide (m∈w2)<;>simp[hF',hd]at hv hup ⊢
      rw[this,set_same hcm]
    refine⟨λht M6 ad6 cap6 hle6 hsl6=>?_,λhf=>hj3 _ ?_⟩
    ·exact s_slices_Contains_int _ _ _ _ _ _ (nats_contains hsl6 m _ ⟨_,rfl,hj3 _ (by rw[<-hokj,ht];simp)⟩)
    ·rw[<-hokj,show ok=false by simpa using hf];rfl
  ·subst hrn hrx
   refine⟨by unfold InI;omega,⟨by omega,by omega,hle4,w2,rfl,rfl,by omega,hpre2,?_⟩,by dsimp only;omega⟩
   rcases hst2 with⟨e1,e2⟩|hlt3
   ·left
    rw[e1]
    exact λj a hja=>e2 j a (by have:=(List.getElem?_eq_some_iff.1 hja).1;rw[chi_len]at this;simp only[n]at this;omega) hja
   ·right
    rcases hst with hfix|hws
    ·exfalso
     have hlow:=hpre2.low (chi n w) (chi_len n w) (λj b hb=>by rw[hfix j b hb];exact L.refl b)
     have:=(wS_le L hlow).1
     omega
    ·omega
 ·subst hrn hrx
  have hkn:k=n:=by simp only[n];omega
  have hlfp:Lfp bLe F n (chi n w):=by
   rcases hst with hfix|hws
   ·exact hpre.lfp L hfix
   ·exact hpre.lfp L (pre_zero hpre (by omega))
  have hwk:=wkOf_eq hlfp
  generalize hwd:(wkOf rs).map (!·)=wd at hK
  have hwdl:wd.length=rs.length:=by rw[<-hwd];simp[hwl]
  refine⟨λi=>0<=i/\i<=rs.length/\fstB (wd.drop i.toNat) i=fstB wd 0,λi=>rs.length-i.toNat,⟨by omega,by omega,rfl⟩,λi ⟨i0,i1,heq⟩=>⟨λhlt=>?_,λhge=>?_⟩⟩
  ·intro M6 ad6 cap6 hle6 hsl6
   obtain⟨m,rfl⟩:=Int.eq_ofNat_of_zero_le i0
   have hmn:m<n:=by simp only[n];omega
   have hcm:=chi_get (w:=w) hmn
   rw[hwk]at hcm
   have hwg:wd[m]?=some (!decide (m∈w)):=by rw[<-hwd,List.getElem?_map,hcm];rfl
   have hd:=drop_get hwg
   refine s_slices_Contains_int _ _ _ _ _ _ (nats_contains hsl6 m _ ⟨_,rfl,λhf=>?_,λht=>⟨by unfold InI;omega,⟨by omega,by omega,?_⟩,by dsimp only;omega⟩⟩)
   ·rw[show decide (m∈w)=false by simpa using hf]at hd
    obtain⟨e1,e2⟩:=fstB_hit i0 (by rw[Int.toNat_natCast];exact hd) heq
    rw[if_pos e2,e1]at hK;exact hK
   ·rw[show decide (m∈w)=true by simpa using ht]at hd
    exact fstB_miss i0 (by rw[Int.toNat_natCast];exact hd) heq
  ·rw[List.drop_of_length_le (by omega),fstB]at heq
   rw[if_neg (by rw[<-heq];simp)]at hK;exact hK
end Go.Proofs.Ytmnilbfhfjdelaa.core

namespace Go.Proofs.Ytmnilbfhfjdelaa.core
open Go.Gx Go.RowKit Go.ChangeShapes Go.WideShapes Go.ChangeAt
set_option linter.unusedVariables false
theorem wrapU (n:Nat) (h:n<2 ^ 64):IntKind.wrap .u64 (n:Int)=n:=by
 simp only[IntKind.wrap,IntKind.bits,IntKind.signed,Bool.false_and,Bool.false_eq_true,if_false]
 omega
theorem bvU (n:Nat) (h:n<2 ^ 64):(BitVec.ofInt 64 (n:Int)).toNat=n:=by
 rw[BitVec.ofInt_natCast,BitVec.toNat_ofNat,Nat.mod_eq_of_lt h]
theorem bNotU (a:Nat) (ha:a<2 ^ 64):bNot .u64 a=(((2 ^ 64-1) ^^^ a:Nat):Int):=by
 show IntKind.wrap .u64 ((BitVec.ofInt 64 (18446744073709551615:Int) ^^^ BitVec.ofInt 64 (a:Int)).toNat:Int)=_
 have h1:(BitVec.ofInt 64 (18446744073709551615:Int)).toNat=2 ^ 64-1:=by decide
 rw[BitVec.toNat_xor,bvU a ha,h1,wrapU _ (Nat.xor_lt_two_pow (by decide) ha)]
theorem bShlU (k:Nat) (hk:k<64):bShl .u64 1 k=((2 ^ k:Nat):Int):=by
 show IntKind.wrap .u64 (1*2 ^ (min (k:Int).toNat 64))=_
 have:min (k:Int).toNat 64=k:=by omega
 rw[this,Int.one_mul]
 have h2:(2 ^ k:Nat)<2 ^ 64:=Nat.pow_lt_pow_right (by decide) hk
 have:=wrapU (2 ^ k) h2
 rw[Int.natCast_pow]at this ⊢
 exact this
theorem bShrU (a k:Nat) (hk:k<64):bShr .u64 a k=((a / 2 ^ k:Nat):Int):=by
 show(a:Int).fdiv (2 ^ (min (k:Int).toNat 64))=_
 have:min (k:Int).toNat 64=k:=by omega
 rw[this,Int.ofNat_fdiv,Int.natCast_pow];rfl
def Uw (p:Nat->Bool) (w:Nat):Nat->Nat
 |0=>0
 |j+1=>Uw p w j+(if p (64*w+j)=true then 2 ^ j else 0)
theorem Uw_lt (p:Nat->Bool) (w:Nat):∀j,Uw p w j<2 ^ j
 |0=>by simp[Uw]
 |j+1=>by
  have:=Uw_lt p w j
  simp only[Uw,Nat.pow_succ]
  split<;>omega
theorem Uw_bit (p:Nat->Bool) (w:Nat) (k:Nat):∀j,(Uw p w j).testBit k=(decide (k<j)&&p (64*w+k))
 |0=>by simp[Uw]
 |j+1=>by
  have ih:=Uw_bit p w k j
  have hlt:=Uw_lt p w j
  simp only[Uw]
  split
  ·rename_i hp
   have e:Uw p w j+2 ^ j=2 ^ j*1|||Uw p w j:=by
    rw[<-Nat.two_pow_add_eq_or_of_lt hlt 1];omega
   rw[e,Nat.mul_one,Nat.testBit_or,Nat.testBit_two_pow,ih]
   by_cases hk:j=k
   ·subst hk;simp[hp]
   ·have:(decide (k<j+1))=decide (k<j):=by congr 1;simp;omega
    rw[this];simp[hk]
  ·rename_i hp
   rw[Nat.add_zero,ih]
   by_cases hk:j=k
   ·subst hk;simp[hp]
   ·have:(decide (k<j+1))=decide (k<j):=by congr 1;simp;omega
    rw[this]
def hasW (s:List Nat) (b:Nat):Bool:=(s.getD (b / 64) 0).testBit (b % 64)
theorem word_ext {x y:Nat} (hx:x<2 ^ 64) (hy:y<2 ^ 64) (h:∀k,k<64->x.testBit k=y.testBit k):x=y:=by
 refine Nat.eq_of_testBit_eq λk=>?_
 by_cases hk:k<64
 ·exact h k hk
 ·have:2 ^ 64<=2 ^ k:=Nat.pow_le_pow_right (by decide) (by omega)
  rw[Nat.testBit_lt_two_pow (by omega),Nat.testBit_lt_two_pow (by omega)]
theorem word_is {x:Nat} (p:Nat->Bool) (w:Nat) (hx:x<2 ^ 64) (h:∀k,k<64->x.testBit k=p (64*w+k)):x=Uw p w 64:=
 word_ext hx (Uw_lt p w 64) λk hk=>by rw[h k hk,Uw_bit];simp[hk]
theorem hasW_at (s:List Nat) (w k:Nat) (hk:k<64):hasW s (64*w+k)=(s.getD w 0).testBit k:=by
 unfold hasW
 rw[show(64*w+k) / 64=w by omega,show(64*w+k) % 64=k by omega]
theorem has_bit (x k:Nat) (hk:k<64):((bShr .u64 (x:Int) (k:Int)).tmod 2==(1:Int))=x.testBit k:=by
 rw[bShrU x k hk,Nat.testBit_eq_decide_div_mod_eq,Int.tmod_eq_emod_of_nonneg (Int.natCast_nonneg _)]
 generalize x / 2 ^ k=y
 rw[Bool.eq_iff_iff,beq_iff_eq,decide_eq_true_iff]
 omega
def Us (p:Nat->Bool):X_api_Set:=⟨(Uw p 0 64:Nat),(Uw p 1 64:Nat),(Uw p 2 64:Nat),(Uw p 3 64:Nat)⟩
def bitS (s:X_api_Set) (b:Nat):Bool:=hasW [s.w0.toNat,s.w1.toNat,s.w2.toNat,s.w3.toNat] b
theorem nat_of {z:Int} (h:(Lit.int .u64 z).wf=true):∃n:Nat,z=n/\n<2 ^ 64:=by
 simp only[Lit.wf,IntKind.min,IntKind.max,Bool.and_eq_true]at h
 refine⟨z.toNat,?_,?_⟩<;>simp[IntKind.bits,IntKind.signed]at h<;>omega
theorem of_nat {n:Nat} (h:n<2 ^ 64):(Lit.int .u64 (n:Int)).wf=true:=by
 simp only[Lit.wf,IntKind.min,IntKind.max,Bool.and_eq_true]
 simp[IntKind.bits,IntKind.signed];omega
theorem Us_wf (p:Nat->Bool):wfS (Us p):=⟨of_nat (Uw_lt p 0 64),of_nat (Uw_lt p 1 64),of_nat (Uw_lt p 2 64),of_nat (Uw_lt p 3 64)⟩
theorem bit_get {s:X_api_Set} (h:wfS s) {x:Nat} (hx:x<256):∃w:Nat,[s.w0,s.w1,s.w2,s.w3][x / 64]?=some (w:Int)/\w<2 ^ 64/\w.testBit (x % 64)=bitS s x:=by
 obtain⟨a,b,c,d⟩:=s
 obtain⟨h0,h1,h2,h3⟩:=h
 obtain⟨a,rfl,ha⟩:=nat_of h0
 obtain⟨b,rfl,hb⟩:=nat_of h1
 obtain⟨c,rfl,hc⟩:=nat_of h2
 obtain⟨d,rfl,hd⟩:=nat_of h3
 have hq:x / 64<4:=by omega
 have hx':=hasW_at [a,b,c,d] (x / 64) (x % 64) (by omega)
 rw[show 64*(x / 64)+x % 64=x by omega]at hx'
 match h:x / 64,hq with
 |0,_=>exact⟨a,rfl,ha,by rw[h]at hx';exact hx'.symm⟩
 |1,_=>exact⟨b,rfl,hb,by rw[h]at hx';exact hx'.symm⟩
 |2,_=>exact⟨c,rfl,hc,by rw[h]at hx';exact hx'.symm⟩
 |3,_=>exact⟨d,rfl,hd,by rw[h]at hx';exact hx'.symm⟩
theorem rhas_is {s:X_api_Set} (hs:wfS s) {x:Nat} (hx:x<256) {M:Mem} (K:Value->Prop) (h:K (.bool (bitS s x))):S_chaffref_Has s (x:Int) M K:=by
 unfold S_chaffref_Has
 have e1:(x:Int).tdiv 64=((x / 64:Nat):Int):=by rw[Int.tdiv_eq_ediv_of_nonneg (by omega)];omega
 have e2:(x:Int).tmod 64=((x % 64:Nat):Int):=by rw[Int.tmod_eq_emod_of_nonneg (by omega)];omega
 obtain⟨w,hw,_,hb⟩:=bit_get hs hx
 rw[e1,e2]
 refine⟨by unfold InI;omega,by omega,by omega,(w:Int),?_,by omega,?_⟩
 ·rw[show 0+(((x / 64:Nat):Int)).toNat*1=x / 64 by omega];exact hw
 ·rw[has_bit _ _ (by omega),hb];exact h
theorem where_is (fv:Value) (M:Mem) (p:Nat->Bool) (hp:∀x:Nat,x<256->CallF Try.prog fv [.int .i64 x] M (λv _=>v= .bool (p x))) (K:Value->Prop)
  (h:K (Us p).val):S_chaffref_Where fv M K:=by
 unfold S_chaffref_Where
 let Z:Nat->List Int:=λb=>[(Uw p 0 (min b 64):Nat),(Uw p 1 (min (b-64) 64):Nat),(Uw p 2 (min (b-128) 64):Nat),(Uw p 3 (min (b-192) 64):Nat)]
 refine⟨λb zs=>∃n:Nat,b=n/\n<=256/\zs=Z n,λb _=>256-b.toNat,⟨0,rfl,by omega,rfl⟩,λb zs ⟨n,hb,hn,hz⟩=>?_⟩
 subst hb
 subst hz
 refine⟨λhlt=>?_,λhge=>?_⟩
 ·have hlt':n<256:=by omega
  refine(hp n hlt').mono λv _ _ hv=>⟨p n,hv,λhpn=>?_,λhpn=>?_⟩
  ·have e1:(n:Int).tdiv 64=((n / 64:Nat):Int):=by rw[Int.tdiv_eq_ediv_of_nonneg (by omega)];omega
   have e2:(n:Int).tmod 64=((n % 64:Nat):Int):=by rw[Int.tmod_eq_emod_of_nonneg (by omega)];omega
   rw[e1,e2]
   have hq:n / 64<4:=by omega
   have ei:(0+(((n / 64:Nat):Int)).toNat*1)=n / 64:=by omega
   rw[ei]
   have hr:n % 64<64:=by omega
   have hU:=Uw_lt p (n / 64) (n % 64)
   have hpow:2 ^ (n % 64)<2 ^ 64:=Nat.pow_lt_pow_right (by decide) hr
   have hpow2:2 ^ (n % 64)*2<=2 ^ 64:=by rw[<-Nat.pow_succ];exact Nat.pow_le_pow_right (by decide) (by omega)
   have hget:(Z n)[n / 64]?=some ((Uw p (n / 64) (n % 64):Nat):Int):=by
    show[((Uw p 0 (min n 64):Nat):Int),(Uw p 1 (min (n-64) 64):Nat),(Uw p 2 (min (n-128) 64):Nat),(Uw p 3 (min (n-192) 64):Nat)][n / 64]?=_
    match h:n / 64,hq with
    |0,_=>rw[show min n 64=n % 64 by omega];rfl
    |1,_=>rw[show min (n-64) 64=n % 64 by omega];rfl
    |2,_=>rw[show min (n-128) 64=n % 64 by omega];rfl
    |3,_=>rw[show min (n-192) 64=n % 64 by omega];rfl
   refine⟨by unfold InI;omega,by omega,by omega,_,hget,by omega,by omega,by omega,by show n / 64<4;exact hq,?_⟩
   rw[bShlU _ hr]
   have hw:IntKind.wrap .u64 (((Uw p (n / 64) (n % 64):Nat):Int)+((2 ^ (n % 64):Nat):Int))=((Uw p (n / 64) (n % 64+1):Nat):Int):=by
    rw[<-Int.natCast_add,wrapU _ (by omega)]
    have:p (64*(n / 64)+n % 64)=true:=by rw[show 64*(n / 64)+n % 64=n by omega];exact hpn
    simp only[Uw,this,if_true]
   rw[hw]
   have hset:(Z n).set (n / 64) ((Uw p (n / 64) (n % 64+1):Nat):Int)=Z (n+1):=by
    show[((Uw p 0 (min n 64):Nat):Int),(Uw p 1 (min (n-64) 64):Nat),(Uw p 2 (min (n-128) 64):Nat),(Uw p 3 (min (n-192) 64):Nat)].set (n / 64) _=[((Uw p 0 (min (n+1) 64):Nat):Int),(Uw p 1 (min (n+1-64) 64):Nat),(Uw p 2 (min (n+1-128) 64):Nat),(Uw p 3 (min (n+1-192) 64):Nat)]
    match h:n / 64,hq with
    |0,_=>rw[show min (n+1) 64=n % 64+1 by omega,show min (n+1-64) 64=min (n-64) 64 by omega,show min (n+1-128) 64=min (n-128) 64 by omega,show min (n+1-192) 64=min (n-192) 64 by omega];rfl
    |1,_=>rw[show min (n+1-64) 64=n % 64+1 by omega,show min (n+1) 64=min n 64 by omega,show min (n+1-128) 64=min (n-128) 64 by omega,show min (n+1-192) 64=min (n-192) 64 by omega];rfl
    |2,_=>rw[show min (n+1-128) 64=n % 64+1 by omega,show min (n+1) 64=min n 64 by omega,show min (n+1-64) 64=min (n-64) 64 by omega,show min (n+1-192) 64=min (n-192) 64 by omega];rfl
    |3,_=>rw[show min (n+1-192) 64=n % 64+1 by omega,show min (n+1) 64=min n 64 by omega,show min (n+1-64) 64=min (n-64) 64 by omega,show min (n+1-128) 64=min (n-128) 64 by omega];rfl
   rw[hset]
   exact⟨by unfold InI;omega,⟨n+1,by omega,by omega,rfl⟩,by dsimp only;omega⟩
  ·have hpn':p n=false:=by simpa using hpn
   have hsame:∀w:Nat,Uw p w (min (n+1-64*w) 64)=Uw p w (min (n-64*w) 64):=by
    intro w
    by_cases h1:64*w<=n/\n<64*w+64
    ·rw[show min (n+1-64*w) 64=min (n-64*w) 64+1 by omega]
     simp only[Uw]
     rw[show 64*w+min (n-64*w) 64=n by omega,hpn']
     simp
    ·rw[show min (n+1-64*w) 64=min (n-64*w) 64 by omega]
   have hZ:Z n=Z (n+1):=by
    have h0:=hsame 0
    have h1:=hsame 1
    have h2:=hsame 2
    have h3:=hsame 3
    simp only[Nat.mul_zero,Nat.sub_zero,Nat.mul_one]at h0 h1 h2 h3
    show[((Uw p 0 (min n 64):Nat):Int),(Uw p 1 (min (n-64) 64):Nat),(Uw p 2 (min (n-128) 64):Nat),(Uw p 3 (min (n-192) 64):Nat)]=[((Uw p 0 (min (n+1) 64):Nat):Int),(Uw p 1 (min (n+1-64) 64):Nat),(Uw p 2 (min (n+1-128) 64):Nat),(Uw p 3 (min (n+1-192) 64):Nat)]
    rw[h0,h1,show min (n+1-128) 64=min (n+1-64*2) 64 by omega,h2,show min (n+1-192) 64=min (n+1-64*3) 64 by omega,h3]
   unfold S_chaffref_Where_J1
   exact⟨by unfold InI;omega,⟨n+1,by omega,by omega,hZ⟩,by dsimp only;omega⟩
 ·have hn:n=256:=by omega
  subst hn
  exact⟨_,_,_,_,rfl,rfl,_,_,_,_,rfl,h⟩
end Go.Proofs.Ytmnilbfhfjdelaa.core

namespace Go.Proofs.Ytmnilbfhfjdelaa.core
open Go.Gx Go.RowKit Go.ChangeShapes Go.WideShapes Go.ChangeAt
set_option linter.unusedVariables false
def strE (f:Int->Int) (q:Bool):Nat->Int->Bool->Int
 |0,p,_=>p
 |m+1,p,fi=>if f p= -2\/(f p<0/\fi=true/\q=true) then f p else if f p<0 then p else strE f q m (f p) false
def oneE (k p r:Int):Int:=if r= -2 then -2 else if k=9/\0<=r then r else if (k=10/\r<0)\/(k=11/\0<=r) then -1 else p
def setE (t:X_api_Set) (s:List UInt8) (p:Int):Int:=match s[p.toNat]? with
 |some c=>if bitS t c.toNat then p+1 else -1
 |none=> -1
def litE (x s:List UInt8) (p:Int):Int:=if p+(x.length:Nat)<=(s.length:Nat)/\(s.take (p+(x.length:Nat)).toNat).drop p.toNat=x then p+(x.length:Nat) else -1
mutual
def endE (rs:List Ru) (s:List UInt8) (E:Nat->Nat->Int):Ex->Int->Int
 | .mk k t x ks,p=>if k=1 then p else if k=2 then setE t s p else if k=3 then litE x s p else if k=4 then E p.toNat (findR x rs 0).toNat
  else if k=5 then seqE rs s E ks p else if k=6 then altE rs s E ks p else if k=7\/k=8 then strE (hdE rs s E ks) (decide (k=8)) (s.length+2) p true
  else oneE k p (hdE rs s E ks p)
def seqE (rs:List Ru) (s:List UInt8) (E:Nat->Nat->Int):List Ex->Int->Int
 |[],p=>p
 |k::ks,p=>if endE rs s E k p<0 then endE rs s E k p else seqE rs s E ks (endE rs s E k p)
def altE (rs:List Ru) (s:List UInt8) (E:Nat->Nat->Int):List Ex->Int->Int
 |[],_=> -1
 |k::ks,p=>if endE rs s E k p≠-1 then endE rs s E k p else altE rs s E ks p
def hdE (rs:List Ru) (s:List UInt8) (E:Nat->Nat->Int):List Ex->Int->Int
 |[],_=> -1
 |k::_,p=>endE rs s E k p
end
end Go.Proofs.Ytmnilbfhfjdelaa.core

namespace Go.Proofs.Ytmnilbfhfjdelaa.core
open Go.Gx Go.RowKit Go.ChangeShapes Go.WideShapes Go.ChangeAt
set_option linter.unusedVariables false
end Go.Proofs.Ytmnilbfhfjdelaa.core

namespace Go.Proofs.Ytmnilbfhfjdelaa.core
open Go.Gx Go.RowKit Go.ChangeShapes Go.WideShapes Go.ChangeAt
set_option linter.unusedVariables false
theorem least {P:Nat->Prop}:∀k,P k->∃m,m<=k/\P m/\∀j,j<m->¬P j:=by
 intro k
 induction k using Nat.strongRecOn with
 |_ k ih=>
  intro h
  by_cases hj:∃j,j<k/\P j
  ·obtain⟨j,hjk,hp⟩:=hj
   obtain⟨m,h1,h2⟩:=ih j hjk hp
   exact⟨m,by omega,h2⟩
  ·exact⟨k,Nat.le_refl _,h,λj hjk hp=>hj ⟨j,hjk,hp⟩⟩
structure WellOk (rs:List Ru):Prop where
 ok:GramOk rs
 loop:∀r∈rs,loopB rs (knOf rs) r.body=false
 wk:∀i,i<rs.length->wkB (wkOf rs) i=true
theorem fstB_none:∀(l:List Bool) (i:Int),0<=i->fstB l i= -1->∀b∈l,b=false
 |[],_,_,_,b,hb=>by cases hb
 |a::l,i,hi,h,b,hb=>by
  rw[fstB]at h
  split at h
  ·omega
  ·rename_i ha
   rcases List.mem_cons.1 hb with rfl|hb
   ·simpa using ha
   ·exact fstB_none l (i+1) (by omega) h b hb
theorem well_ok {rs:List Ru} (h:(wellP rs).2=0):WellOk rs:=by
 unfold wellP at h
 split at h
 ·exact absurd h (by assumption)
 ·rename_i h0
  split at h
  ·cases h
  ·rename_i h1
   split at h
   ·cases h
   ·rename_i h2
    refine⟨gram_ok (Decidable.not_not.1 h0),λr hr=>?_,λi hi=>?_⟩
    ·exact fstB_none _ 0 (by omega) (Decidable.not_not.1 h1) _ (List.mem_map.2 ⟨r,hr,rfl⟩)
    ·obtain⟨b,hb⟩:=getN (l:=wkOf rs) (i:=i) (by rw[(wkOf_lfp rs).len];exact hi)
     have:=fstB_none _ 0 (by omega) (Decidable.not_not.1 h2) _ (List.mem_map.2 ⟨b,List.mem_of_getElem? hb,rfl⟩)
     unfold wkB;rw[hb];simpa using this
end Go.Proofs.Ytmnilbfhfjdelaa.core

namespace Go.Proofs.Ytmnilbfhfjdelaa.core
open Go.Gx Go.RowKit Go.ChangeShapes Go.WideShapes Go.ChangeAt
set_option linter.unusedVariables false
end Go.Proofs.Ytmnilbfhfjdelaa.core

namespace Go.Proofs.Ytmnilbfhfjdelaa.core
open Go.Gx Go.RowKit Go.ChangeShapes Go.WideShapes Go.ChangeAt
set_option linter.unusedVariables false
end Go.Proofs.Ytmnilbfhfjdelaa.core

namespace Go.Proofs.Ytmnilbfhfjdelaa.core
open Go.Gx Go.RowKit Go.ChangeShapes Go.WideShapes Go.ChangeAt
set_option linter.unusedVariables false
end Go.Proofs.Ytmnilbfhfjdelaa.core

namespace Go.Proofs.Ytmnilbfhfjdelaa.core
open Go.Gx Go.RowKit Go.ChangeShapes Go.WideShapes Go.ChangeAt
set_option linter.unusedVariables false
def but (M:Mem) (g:Nat):Mem:=λx=>if x=g then none else M x
theorem but_ne {M:Mem} {g x:Nat} (h:x≠g):but M g x=M x:=by simp[but,h]
end Go.Proofs.Ytmnilbfhfjdelaa.core

namespace Go.Proofs.Ytmnilbfhfjdelaa.core
open Go.Gx Go.RowKit Go.ChangeShapes Go.WideShapes Go.ChangeAt
set_option linter.unusedVariables false
end Go.Proofs.Ytmnilbfhfjdelaa.core

namespace Go.Proofs.Ytmnilbfhfjdelaa.core
open Go.Gx Go.RowKit Go.ChangeShapes Go.WideShapes Go.ChangeAt
set_option linter.unusedVariables false
end Go.Proofs.Ytmnilbfhfjdelaa.core

namespace Go.Proofs.Ytmnilbfhfjdelaa.core
open Go.Gx Go.RowKit Go.ChangeShapes Go.WideShapes Go.ChangeAt
set_option linter.unusedVariables false
section
variable {rs:List Ru} {s:List UInt8} {E:Nat->Nat->Int}
end
end Go.Proofs.Ytmnilbfhfjdelaa.core

namespace Go.Proofs.Ytmnilbfhfjdelaa.core
open Go.Gx Go.RowKit Go.ChangeShapes Go.WideShapes Go.ChangeAt
set_option linter.unusedVariables false
end Go.Proofs.Ytmnilbfhfjdelaa.core

namespace Go.Proofs.Ytmnilbfhfjdelaa.core
open Go.Gx Go.RowKit Go.ChangeShapes Go.WideShapes Go.ChangeAt
set_option linter.unusedVariables false
end Go.Proofs.Ytmnilbfhfjdelaa.core

namespace Go.Proofs.Ytmnilbfhfjdelaa.core
open Go.Gx Go.RowKit Go.ChangeShapes Go.WideShapes Go.ChangeAt
set_option linter.unusedVariables false
end Go.Proofs.Ytmnilbfhfjdelaa.core

namespace Go.Proofs.Ytmnilbfhfjdelaa.core
open Go.Gx Go.RowKit Go.ChangeShapes Go.WideShapes Go.ChangeAt
set_option linter.unusedVariables false
end Go.Proofs.Ytmnilbfhfjdelaa.core

namespace Go.Proofs.Ytmnilbfhfjdelaa.core
open Go.Gx Go.RowKit Go.ChangeShapes Go.WideShapes Go.ChangeAt
set_option linter.unusedVariables false
end Go.Proofs.Ytmnilbfhfjdelaa.core

namespace Go.Proofs.Ytmnilbfhfjdelaa.core
open Go.Gx Go.RowKit Go.ChangeShapes Go.WideShapes Go.ChangeAt
set_option linter.unusedVariables false
end Go.Proofs.Ytmnilbfhfjdelaa.core

namespace Go.Proofs.Ytmnilbfhfjdelaa.core
open Go.Gx Go.RowKit Go.ChangeShapes Go.WideShapes Go.ChangeAt
set_option linter.unusedVariables false
section
variable {rs:List Ru} {s:List UInt8} {E:Nat->Nat->Int} {m:Nat}
end
end Go.Proofs.Ytmnilbfhfjdelaa.core

namespace Go.Proofs.Ytmnilbfhfjdelaa.core
open Go.Gx Go.RowKit Go.ChangeShapes Go.WideShapes Go.ChangeAt
set_option linter.unusedVariables false
def cap (c:Nat):Int:=if (c:Int)<2097152 then c else 2097152
end Go.Proofs.Ytmnilbfhfjdelaa.core

namespace Go.Proofs.Ytmnilbfhfjdelaa.core
open Go.Gx Go.RowKit Go.ChangeShapes Go.WideShapes Go.ChangeAt
set_option linter.unusedVariables false
inductive Evt where
 |node (n p:Int) (e:Ex)
 |done (i p:Int)
end Go.Proofs.Ytmnilbfhfjdelaa.core

namespace Go.Proofs.Ytmnilbfhfjdelaa.core
open Go.Gx Go.RowKit Go.ChangeShapes Go.WideShapes Go.ChangeAt
set_option linter.unusedVariables false
end Go.Proofs.Ytmnilbfhfjdelaa.core

namespace Go.Proofs.Ytmnilbfhfjdelaa.core
open Go.Gx Go.RowKit Go.ChangeShapes Go.WideShapes Go.ChangeAt
set_option linter.unusedVariables false
theorem At.blk {M:Mem} {b:Nat} {cs:List Value} {t:TypeId} {f:Nat×Nat} (h:M b=some (.cells cs.toArray t f)):At M b 0 cs:=λj v hj=>by
 unfold Mem.cell
 rw[h,Nat.zero_add]
 simpa using hj
theorem Has.blk {M:Mem} {b o k:Nat} {cs:List Value} {t:TypeId} (h:M b=some (.cells cs.toArray t (0,0))) (hk:o+k<=cs.length):Has M b o k:=⟨_,_,h,by simpa using hk⟩
structure PkC where
 V:Mem
 rs:List Ru
 s:List UInt8
 E:Nat->Nat->Int
 pb:Nat
 r:Nat
 ga:Option Addr
 fa:Option Addr
 gl:Nat
 gc:Nat
 fc:Nat
 nodeV:Value
 JB:Nat->Prop
 J:List Evt->Mem->Prop
 tot:Nat
abbrev PkC.res (c:PkC) (e:Ex) (p:Int):Int:=endE c.rs c.s c.E e p
abbrev PkC.ptr (c:PkC):Option Addr:=some ⟨c.pb,0,none⟩
abbrev PkC.cells (c:PkC) (la:Option Addr) (ln lc:Nat) (far:Int) (want:X_api_Set):List Value:=(X_pack_Parser.mk c.ga c.gl c.gc c.s (some c.r) la ln lc far want c.nodeV c.fa c.rs.length c.fc).cells
theorem Mem.le.eq {M M':Mem} (h:M.le M') {b:Nat} (hb:(M b).isSome=true):M' b=M b:=by
 obtain⟨o,ho⟩:=Option.isSome_iff_exists.1 hb
 rw[ho];exact h b o ho
section
variable {c:PkC} {t:List Evt} {far:Int} {want:X_api_Set} {M:Mem}
end
end Go.Proofs.Ytmnilbfhfjdelaa.core

namespace Go.Proofs.Ytmnilbfhfjdelaa.core
open Go.Gx Go.RowKit Go.ChangeShapes Go.WideShapes Go.ChangeAt
set_option linter.unusedVariables false
section
variable {c:PkC} {e:Ex} {n p:Int} {t t1:List Evt}
end
end Go.Proofs.Ytmnilbfhfjdelaa.core

namespace Go.Proofs.Ytmnilbfhfjdelaa.core
open Go.Gx Go.RowKit Go.ChangeShapes Go.WideShapes Go.ChangeAt
set_option linter.unusedVariables false
section
variable {c:PkC} {e:Ex} {n p:Int} {t t1:List Evt}
end
end Go.Proofs.Ytmnilbfhfjdelaa.core

namespace Go.Proofs.Ytmnilbfhfjdelaa.core
open Go.Gx Go.RowKit Go.ChangeShapes Go.WideShapes Go.ChangeAt
set_option linter.unusedVariables false
end Go.Proofs.Ytmnilbfhfjdelaa.core

namespace Go.Proofs.Ytmnilbfhfjdelaa.core
open Go.Gx Go.RowKit Go.ChangeShapes Go.WideShapes Go.ChangeAt
set_option linter.unusedVariables false
section
variable {c:PkC} {t t1:List Evt} {i p:Int}
end
end Go.Proofs.Ytmnilbfhfjdelaa.core

namespace Go.Proofs.Ytmnilbfhfjdelaa.core
open Go.Gx Go.RowKit Go.ChangeShapes Go.WideShapes Go.ChangeAt
set_option linter.unusedVariables false
theorem At.off {M:Mem} {b o r:Nat} {vs:List Value} (h:At M b o vs) (hr:∀j,M.cell r j=none):At (but M r) b o vs:=λj v hj=>by
 have h1:=h j v hj
 by_cases hb:b=r
 ·subst hb;rw[hr]at h1;cases h1
 ·unfold Mem.cell at h1 ⊢
  rw[but_ne hb];exact h1
theorem SlV.off {M:Mem} {a:Option Addr} {l c size r:Nat} {xs:List Value} (h:SlV M a l c size xs) (hr:∀j,M.cell r j=none):SlV (but M r) a l c size xs:=
 ⟨h.1,h.2.1,h.2.2.1,λh0=>by obtain⟨b,o,e,ha⟩:=h.2.2.2 h0;exact⟨b,o,e,At.off ha hr⟩⟩
section
variable {rs:List Ru} {s:List UInt8} {E:Nat->Nat->Int} {b r:Nat} {ga ea:Option Addr} {gl gc ec eb:Nat}
end
end Go.Proofs.Ytmnilbfhfjdelaa.core

namespace Go.Proofs.Ytmnilbfhfjdelaa.core
open Go.Gx Go.RowKit Go.ChangeShapes Go.WideShapes Go.ChangeAt
set_option linter.unusedVariables false
end Go.Proofs.Ytmnilbfhfjdelaa.core

namespace Go.Proofs.Ytmnilbfhfjdelaa.core
open Go.Gx Go.RowKit Go.ChangeShapes Go.WideShapes Go.ChangeAt
set_option linter.unusedVariables false
section
variable {rs:List Ru} {s:List UInt8} {ga:Option Addr} {gl gc:Nat} {M:Mem} {K:Value->Mem->Prop}
end
end Go.Proofs.Ytmnilbfhfjdelaa.core

namespace Go.Proofs.Ytmnilbfhfjdelaa.core
open Go.Gx Go.RowKit Go.ChangeShapes Go.WideShapes Go.ChangeAt
set_option linter.unusedVariables false
end Go.Proofs.Ytmnilbfhfjdelaa.core

namespace Go.Proofs.Ytmnilbfhfjdelaa.core
open Go.Gx Go.RowKit Go.ChangeShapes Go.WideShapes Go.ChangeAt
set_option linter.unusedVariables false
section
variable {rs:List Ru} {ga:Option Addr} {gl gc:Nat} {M:Mem}
end
end Go.Proofs.Ytmnilbfhfjdelaa.core

namespace Go.Proofs.Ytmnilbfhfjdelaa.core
open Go.Gx Go.RowKit Go.ChangeShapes Go.WideShapes Go.ChangeAt
set_option linter.unusedVariables false
open Go.Shelf Go.Proofs
attribute [local go_sem] Oper.semAt_some
end Go.Proofs.Ytmnilbfhfjdelaa.core

namespace Go.Proofs.Ytmnilbfhfjdelaa.core
open Go.Gx Go.RowKit Go.ChangeShapes Go.WideShapes Go.ChangeAt
set_option linter.unusedVariables false
open Go.Shelf Go.Proofs
attribute [local go_sem] Oper.semAt_some
theorem Boxed.below {W W':World} {B:Nat} {t:TypeId} {v:Value} (h:Boxed W B t v) (hb:Below W.heap.size W W'):Boxed W' B t v:=(hb.block B h.lt).trans h
end Go.Proofs.Ytmnilbfhfjdelaa.core

namespace Go.Proofs.Ytmnilbfhfjdelaa.core
open Go.Gx Go.RowKit Go.ChangeShapes Go.WideShapes Go.ChangeAt
set_option linter.unusedVariables false
section
variable {rs:List Ru} {ga:Option Addr} {gl gc:Nat} {M:Mem}
end
end Go.Proofs.Ytmnilbfhfjdelaa.core

namespace Go.Proofs.Ytmnilbfhfjdelaa.core
open Go.Gx Go.RowKit Go.ChangeShapes Go.WideShapes Go.ChangeAt
set_option linter.unusedVariables false
section
variable {M:Mem}
variable {rs:List Ru} {ga:Option Addr} {gl gc:Nat}
end
end Go.Proofs.Ytmnilbfhfjdelaa.core

namespace Go.Proofs.Ytmnilbfhfjdelaa.core
open Go.Gx Go.RowKit Go.ChangeShapes Go.WideShapes Go.ChangeAt
set_option linter.unusedVariables false
def compS (s:X_api_Set):X_api_Set:=Us λb=> !bitS s b
def z4:X_api_Set:=⟨0,0,0,0⟩
def lessL (ks:List Ex) (i:Nat):List Ex:=ks.take i++ks.drop (i+1)
def lessE (k:Int) (l:List Ex):Ex:=match l with
 |[x]=>x
 |l=>.mk k z4 [] l
def swapL (ks:List Ex) (i:Nat):List Ex:=match ks[i]?,ks[i+1]? with
 |some x,some y=>(ks.set i y).set (i+1) x
 |_,_=>ks
def turnsE:Ex->List Ex
 | .mk k s _ ks=>
  if k=2 then[.mk 2 (compS s) [] []]
  else if k=5 then(List.range ks.length).map λi=>lessE k (lessL ks i)
  else if k=6 then((List.range ks.length).map λi=>lessE k (lessL ks i))++(List.range (ks.length-1)).map λi=>.mk 6 z4 [] (swapL ks i)
  else if k=7\/k=9 then ks.take 1
  else if k=8 then[.mk 7 z4 [] ks] else if k=10 then[.mk 11 z4 [] ks] else if k=11 then[.mk 10 z4 [] ks] else[]
mutual
def allE:Ex->List Ex
 | .mk k s t ks=>turnsE (.mk k s t ks)++allEs k [] ks
def allEs (k:Int) (pre:List Ex):List Ex->List Ex
 |[]=>[]
 |x::ks=>((allE x).map λy=>.mk k z4 [] (pre++y::ks))++allEs k (pre++[x]) ks
end
theorem not_is {s:X_api_Set} (hs:wfS s) {M:Mem} (K:Value->Prop) (hK:K (compS s).val):S_set_Not s M K:=by
 unfold S_set_Not
 refine s_set_both _ _ _ _ _ ?_
 unfold compS at hK
 obtain⟨a,b,c,d⟩:=s
 obtain⟨h0,h1,h2,h3⟩:=hs
 obtain⟨a,rfl,ha⟩:=nat_of h0
 obtain⟨b,rfl,hb⟩:=nat_of h1
 obtain⟨c,rfl,hc⟩:=nat_of h2
 obtain⟨d,rfl,hd⟩:=nat_of h3
 have hw:∀(w x:Nat),[a,b,c,d].getD w 0=x->x<2 ^ 64->((2 ^ 64-1) ^^^ x)=Uw (λq=> !bitS ⟨a,b,c,d⟩ q) w 64:=by
  intro w x hx hxl
  refine word_is _ w (Nat.xor_lt_two_pow (by decide) hxl) λk hk=>?_
  rw[Nat.testBit_xor,Nat.testBit_two_pow_sub_one,decide_eq_true hk,<-hx,Bool.true_xor]
  rw[<-hasW_at [a,b,c,d] w k hk];rfl
 have hfin:(⟨(((2 ^ 64-1) ^^^ a:Nat):Int),(((2 ^ 64-1) ^^^ b:Nat):Int),(((2 ^ 64-1) ^^^ c:Nat):Int),(((2 ^ 64-1) ^^^ d:Nat):Int)⟩:X_api_Set)=Us λq=> !bitS ⟨a,b,c,d⟩ q:=by
  unfold Us
  rw[hw 0 a rfl ha,hw 1 b rfl hb,hw 2 c rfl hc,hw 3 d rfl hd]
 rw[<-hfin]at hK
 have call:∀(x:Nat) (y:Int) (K:Value->Prop),x<2 ^ 64->K (.int .u64 (((2 ^ 64-1) ^^^ x:Nat):Int))->CallF Try.prog (Value.func (.func 142) #[] #[]) [.int .u64 (x:Int),.int .u64 y] M (λv _=>K v):=λx y K hx hK=>
  f_set_Not_1 _ _ _ _ (by unfold S_set_Not_1;rw[bNotU x hx];exact hK)
 unfold S_set_both
 refine⟨λi zs=>(i=0/\zs=[(a:Int),b,c,d])\/(i=1/\zs=[(((2 ^ 64-1) ^^^ a:Nat):Int),b,c,d])\/(i=2/\zs=[(((2 ^ 64-1) ^^^ a:Nat):Int),(((2 ^ 64-1) ^^^ b:Nat):Int),c,d])\/(i=3/\zs=[(((2 ^ 64-1) ^^^ a:Nat):Int),(((2 ^ 64-1) ^^^ b:Nat):Int),(((2 ^ 64-1) ^^^ c:Nat):Int),d])\/(i=4/\zs=[(((2 ^ 64-1) ^^^ a:Nat):Int),(((2 ^ 64-1) ^^^ b:Nat):Int),(((2 ^ 64-1) ^^^ c:Nat):Int),(((2 ^ 64-1) ^^^ d:Nat):Int)]),λi _=>4-i.toNat,.inl ⟨rfl,rfl⟩,λi zs hI=>?_⟩
 rcases hI with⟨rfl,rfl⟩|⟨rfl,rfl⟩|⟨rfl,rfl⟩|⟨rfl,rfl⟩|⟨rfl,rfl⟩
 ·exact⟨λ_=>⟨by omega,by omega,_,rfl,by omega,by omega,_,rfl,call _ _ _ ha ⟨_,rfl,by omega,by omega,by simp,by unfold InI;omega,.inr (.inl ⟨rfl,rfl⟩),by dsimp only;decide⟩⟩,λh=>absurd h (by decide)⟩
 ·exact⟨λ_=>⟨by omega,by omega,_,rfl,by omega,by omega,_,rfl,call _ _ _ hb ⟨_,rfl,by omega,by omega,by simp,by unfold InI;omega,.inr (.inr (.inl ⟨rfl,rfl⟩)),by dsimp only;decide⟩⟩,λh=>absurd h (by decide)⟩
 ·exact⟨λ_=>⟨by omega,by omega,_,rfl,by omega,by omega,_,rfl,call _ _ _ hc ⟨_,rfl,by omega,by omega,by simp,by unfold InI;omega,.inr (.inr (.inr (.inl ⟨rfl,rfl⟩))),by dsimp only;decide⟩⟩,λh=>absurd h (by decide)⟩
 ·exact⟨λ_=>⟨by omega,by omega,_,rfl,by omega,by omega,_,rfl,call _ _ _ hd ⟨_,rfl,by omega,by omega,by simp,by unfold InI;omega,.inr (.inr (.inr (.inr ⟨rfl,rfl⟩))),by dsimp only;decide⟩⟩,λh=>absurd h (by decide)⟩
 ·exact⟨λh=>absurd h (by decide),λ_=>⟨_,_,_,_,rfl,rfl,_,_,_,_,rfl,_,rfl,hK⟩⟩
theorem eclone_is {A:Option Addr} {l c:Nat} {M:Mem} {xs:List X_api_Expr} (h:SlV M A l c 7 (cl X_api_Expr.cells xs)) (hb:l<=1000000) (K:Nat->List Value->Mem->Prop) (hK:K l (cl X_api_Expr.cells xs) M):S_slices_Clone_Expr A l c M K:=by
 unfold S_slices_Clone_Expr
 refine⟨λhn=>?_,λ_=>⟨_,h,?_,by omega,by rw[Nat.zero_add,List.nil_append];exact hK⟩⟩
 ·have h0:l=0:=by
   rcases Nat.eq_zero_or_pos l with h0|h0
   ·exact h0
   ·obtain⟨b,o,e,_⟩:=h.2.2.2 h0
    rw[e]at hn;cases hn
  subst h0
  have hx:cl X_api_Expr.cells xs=[]:=List.eq_nil_of_length_eq_zero (by rw[h.1])
  rw[hx]at hK;exact hK
 ·intro u hu
  obtain⟨d,hd,hu⟩:=List.mem_flatten.1 hu
  obtain⟨x,_,rfl⟩:=List.mem_map.1 hd
  exact Xe_one x u hu
theorem edelete_is {i:Int} {rn:Nat} {rx:List Value} {M:Mem} (h0:0<=i) (hi:i<(rn:Int)) (h1:∀u∈rx,u.oneCell'=true) (K:Nat->List Value->Mem->Prop) (hK:K (rn-1) (rx.take (i.toNat*7)++rx.drop ((i.toNat+1)*7)) M):S_slices_Delete_Expr i (i+1) rn rx M K:=by
 unfold S_slices_Delete_Expr
 have e:(i+1).toNat=i.toNat+1:=by omega
 rw[e]
 refine⟨h0,by omega,by omega,by omega,λh=>by omega,λ_=>⟨h0,by omega,by omega,by omega,by omega,by omega,by omega,h1,by omega,by omega,by omega,by omega,?_⟩⟩
 rw[show i.toNat+(rn-(i.toNat+1))=rn-1 by omega]
 exact hK
theorem eput_is (ys:List X_api_Expr) (z x:X_api_Expr):putAt (cl X_api_Expr.cells ys++z.cells) (0+((ys.length:Nat):Int).toNat*7) x.cells=cl X_api_Expr.cells (ys++[x]):=by
 have e:cl X_api_Expr.cells ys++z.cells=cl X_api_Expr.cells (ys++[z]):=by unfold cl;simp
 rw[e,Int.toNat_natCast,cl_put Xe_len x (by simp)]
 congr 1
 simp
theorem with_is {k:Int} {A:Option Addr} {l c:Nat} {ys:List X_api_Expr} {M:Mem} (hb:ys.length<=1000000) (K:Value->Nat->List Value->Mem->Prop) (hK:K (.tuple #[]) (ys++[X_api_Expr.mk k z4 [] A l c]).length (cl X_api_Expr.cells (ys++[X_api_Expr.mk k z4 [] A l c])) M):C_mutate_turns_1 k A l c ys.length (cl X_api_Expr.cells ys) M K:=by
 refine s_mutate_turns_1 _ _ _ _ _ _ _ _ ?_
 unfold S_mutate_turns_1
 refine⟨by omega,by omega,by omega,?_⟩
 rw[eput_is]
 rw[List.length_append,List.length_singleton]at hK
 exact hK
end Go.Proofs.Ytmnilbfhfjdelaa.core

namespace Go.Proofs.Ytmnilbfhfjdelaa.core
open Go.Gx Go.RowKit Go.ChangeShapes Go.WideShapes Go.ChangeAt
set_option linter.unusedVariables false
mutual
def putE:Ex->Nat->Ex->Ex
 | .mk k s t ks,n,y=>if n=0 then y else .mk k s t (putEs ks (n-1) y)
def putEs:List Ex->Nat->Ex->List Ex
 |[],_,_=>[]
 |k::ks,n,y=>if n<(flatE k).length then putE k n y::ks else k::putEs ks (n-(flatE k).length) y
end
def bare (e:Ex):Prop:=e.kids≠[]->e.set=z4/\e.text=[]
theorem zip_flat {α β:Type} (f:α->Nat->List β):∀(l:List α) (n:Nat),(l.zipIdx n).flatMap (λp=>f p.1 p.2)=(l.zipIdx 0).flatMap (λp=>f p.1 (n+p.2)):=by
 intro l
 induction l generalizing f with
 |nil=>intro n;rfl
 |cons a r ih=>
  intro n
  rw[List.zipIdx_cons,List.zipIdx_cons,List.flatMap_cons,List.flatMap_cons,ih f (n+1),ih (λa m=>f a (n+m)) (0+1)]
  simp only[Nat.add_zero,Nat.zero_add,Nat.add_assoc]
theorem flat_congr {α β:Type} {f g:α->List β}:∀(l:List α),(∀a∈l,f a=g a)->l.flatMap f=l.flatMap g:=by
 intro l
 induction l with
 |nil=>intro _;rfl
 |cons a r ih=>intro h;rw[List.flatMap_cons,List.flatMap_cons,h a (by simp),ih λa ha=>h a (by simp[ha])]
theorem zip_lt {α:Type} {l:List α} {p:α×Nat} (h:p∈l.zipIdx 0):p.2<l.length:=by
 have:=List.snd_lt_add_of_mem_zipIdx h;omega
mutual
theorem turned_E:∀(e:Ex),(∀q∈flatE e,bare q)->((flatE e).zipIdx 0).flatMap (λp=>(turnsE p.1).map (putE e p.2))=allE e
 | .mk k s t ks,hb=>by
  have h0:=turned_Es ks k [] (λq hq=>hb q (by rw[flatE];simp[hq]))
  rw[flatE,allE,List.zipIdx_cons,List.flatMap_cons]
  congr 1
  ·have:putE (.mk k s t ks) 0=id:=by funext y;rw[putE];simp
   simp only[this,List.map_id]
  ·rw[zip_flat (λx n=>(turnsE x).map (putE (.mk k s t ks) n)) _ (0+1),<-h0]
   refine flat_congr _ λp hp=>?_
   have hne:ks≠[]:=by intro h;rw[h,flatEs]at hp;simp at hp
   obtain⟨hs,ht⟩:=hb (.mk k s t ks) (by rw[flatE];simp) hne
   simp only[Ex.set,Ex.text]at hs ht
   subst hs ht
   congr 1;funext y
   rw[putE,if_neg (by omega),show 0+1+p.2-1=p.2 by omega,List.nil_append]
theorem turned_Es:∀(ks:List Ex) (k:Int) (pre:List Ex),(∀q∈flatEs ks,bare q)->((flatEs ks).zipIdx 0).flatMap (λp=>(turnsE p.1).map λy=>Ex.mk k z4 [] (pre++putEs ks p.2 y))=allEs k pre ks
 |[],k,pre,_=>by rw[flatEs,allEs];rfl
 |x::ks,k,pre,hb=>by
  rw[flatEs,allEs,List.zipIdx_append,List.flatMap_append]
  congr 1
  ·rw[<-turned_E x (λq hq=>hb q (by rw[flatEs];simp[hq])),List.map_flatMap]
   refine flat_congr _ λp hp=>?_
   rw[List.map_map]
   congr 1;funext y
   have:=zip_lt hp
   simp only[Function.comp]
   rw[putEs,if_pos this]
  ·rw[zip_flat (λx' n=>(turnsE x').map λy=>Ex.mk k z4 [] (pre++putEs (x::ks) n y)) _ _,<-turned_Es ks k (pre++[x]) (λq hq=>hb q (by rw[flatEs];simp[hq]))]
   refine flat_congr _ λp hp=>?_
   congr 1;funext y
   rw[putEs,if_neg (by omega),show 0+(flatE x).length+p.2-(flatE x).length=p.2 by omega,List.append_assoc,List.singleton_append]
end
def few (e:Ex):Prop:=∀q∈flatE e,q.kids.length<=8
theorem few_mk {k:Int} {s:X_api_Set} {t:List UInt8} {ks:List Ex} (hl:ks.length<=8) (h:∀x∈ks,few x):few (.mk k s t ks):=by
 intro q hq
 rw[flatE]at hq
 rcases List.mem_cons.1 hq with rfl|hq
 ·exact hl
 ·clear hl
  revert hq
  induction ks with
  |nil=>intro hq;rw[flatEs]at hq;cases hq
  |cons a r ih=>
   intro hq
   rw[flatEs]at hq
   rcases List.mem_append.1 hq with hq|hq
   ·exact h a (by simp) q hq
   ·exact ih (λx hx=>h x (by simp[hx])) (List.mem_cons_of_mem _ hq) hq
theorem few_kids {k:Int} {s:X_api_Set} {t:List UInt8} {ks:List Ex} (h:few (.mk k s t ks)):ks.length<=8/\∀x∈ks,few x:=by
 refine⟨h (.mk k s t ks) (by rw[flatE];simp),λx hx q hq=>h q ?_⟩
 rw[flatE]
 refine List.mem_cons_of_mem _ ?_
 clear h
 induction ks with
 |nil=>cases hx
 |cons a r ih=>
  rw[flatEs]
  rcases List.mem_cons.1 hx with rfl|hx
  ·exact List.mem_append_left _ hq
  ·exact List.mem_append_right _ (ih hx)
theorem lessL_mem {ks:List Ex} {i:Nat} {x:Ex} (h:x∈lessL ks i):x∈ks:=by
 unfold lessL at h
 rcases List.mem_append.1 h with h|h
 ·exact List.mem_of_mem_take h
 ·exact List.mem_of_mem_drop h
theorem lessL_len (ks:List Ex) (i:Nat):(lessL ks i).length<=ks.length:=by
 unfold lessL;simp;omega
theorem swapL_len (ks:List Ex) (i:Nat):(swapL ks i).length=ks.length:=by
 unfold swapL;split<;>simp
theorem swapL_mem {ks:List Ex} {i:Nat} {x:Ex} (h:x∈swapL ks i):x∈ks:=by
 unfold swapL at h
 split at h
 ·rename_i a b ha hb
  have hma:=List.mem_of_getElem? ha
  have hmb:=List.mem_of_getElem? hb
  rcases List.mem_or_eq_of_mem_set h with h|rfl
  ·rcases List.mem_or_eq_of_mem_set h with h|rfl
   ·exact h
   ·exact hmb
  ·exact hma
 ·exact h
theorem few_less {k:Int} {l:List Ex} (hl:l.length<=8) (h:∀x∈l,few x):few (lessE k l):=by
 unfold lessE
 split
 ·exact h _ (by simp)
 ·exact few_mk hl h
theorem turns_few:∀{e y:Ex},few e->y∈turnsE e->few y:=by
 rintro⟨k,s,t,ks⟩ y h hy
 obtain⟨h8,hk⟩:=few_kids h
 rw[turnsE]at hy
 have hd:∀i,few (lessE k (lessL ks i)):=λi=>few_less (by have:=lessL_len ks i;omega) λx hx=>hk x (lessL_mem hx)
 split at hy
 ·rw[List.mem_singleton]at hy;subst hy
  exact few_mk (by simp) (by simp)
 split at hy
 ·obtain⟨i,_,rfl⟩:=List.mem_map.1 hy
  exact hd i
 split at hy
 ·rcases List.mem_append.1 hy with hy|hy
  ·obtain⟨i,_,rfl⟩:=List.mem_map.1 hy
   exact hd i
  ·obtain⟨i,_,rfl⟩:=List.mem_map.1 hy
   exact few_mk (by rw[swapL_len];exact h8) λx hx=>hk x (swapL_mem hx)
 split at hy
 ·exact hk y (List.mem_of_mem_take hy)
 split at hy
 ·rw[List.mem_singleton]at hy;subst hy;exact few_mk h8 hk
 split at hy
 ·rw[List.mem_singleton]at hy;subst hy;exact few_mk h8 hk
 split at hy
 ·rw[List.mem_singleton]at hy;subst hy;exact few_mk h8 hk
 ·cases hy
theorem turns_len:∀{e:Ex},e.kids.length<=8->(turnsE e).length<=16:=by
 rintro⟨k,s,t,ks⟩ h
 simp only[Ex.kids]at h
 rw[turnsE]
 split
 ·simp
 split
 ·simp;omega
 split
 ·simp;omega
 split
 ·simp;omega
 split
 ·simp
 split
 ·simp
 split
 ·simp
 ·simp
mutual
theorem all_few:∀(e y:Ex),few e->y∈allE e->few y
 | .mk k s t ks,y,h,hy=>by
  rw[allE]at hy
  rcases List.mem_append.1 hy with hy|hy
  ·exact turns_few h hy
  ·obtain⟨h8,hk⟩:=few_kids h
   exact all_fews ks k [] y (by simpa using h8) (by simp) hk hy
theorem all_fews:∀(ks:List Ex) (k:Int) (pre:List Ex) (y:Ex),pre.length+ks.length<=8->(∀x∈pre,few x)->(∀x∈ks,few x)->y∈allEs k pre ks->few y
 |[],k,pre,y,_,_,_,hy=>by rw[allEs]at hy;cases hy
 |x::ks,k,pre,y,hl,hp,hk,hy=>by
  rw[allEs]at hy
  simp only[List.length_cons]at hl
  rcases List.mem_append.1 hy with hy|hy
  ·obtain⟨z,hz,rfl⟩:=List.mem_map.1 hy
   have:=all_few x z (hk x (by simp)) hz
   refine few_mk (by simp;omega) λw hw=>?_
   rcases List.mem_append.1 hw with hw|hw
   ·exact hp w hw
   ·rcases List.mem_cons.1 hw with rfl|hw
    ·exact this
    ·exact hk w (by simp[hw])
  ·refine all_fews ks k (pre++[x]) y (by simp;omega) (λw hw=>?_) (λw hw=>hk w (by simp[hw])) hy
   rcases List.mem_append.1 hw with hw|hw
   ·exact hp w hw
   ·rw[List.mem_singleton]at hw;subst hw;exact hk w (by simp)
end
mutual
theorem all_len:∀(e:Ex),few e->(allE e).length<=16*(flatE e).length
 | .mk k s t ks,h=>by
  obtain⟨h8,hk⟩:=few_kids h
  have h1:=turns_len (e:=.mk k s t ks) h8
  have h2:=all_lens ks k [] hk
  rw[allE,flatE,List.length_append,List.length_cons];omega
theorem all_lens:∀(ks:List Ex) (k:Int) (pre:List Ex),(∀x∈ks,few x)->(allEs k pre ks).length<=16*(flatEs ks).length
 |[],k,pre,_=>by rw[allEs,flatEs];simp
 |x::ks,k,pre,hk=>by
  have h1:=all_len x (hk x (by simp))
  have h2:=all_lens ks k (pre++[x]) λw hw=>hk w (by simp[hw])
  rw[allEs,flatEs,List.length_append,List.length_append,List.length_map];omega
end
theorem ExR.make {M:Mem} {k:Int} {s:X_api_Set} {t:List UInt8} {A:Option Addr} {l c:Nat} {ks:List Ex} {xs:List X_api_Expr} (hk:(Lit.int .i64 k).wf=true) (hs:wfS s) (ht:t.length<=maxLen)
  (hv:SlV M A l c 7 (cl X_api_Expr.cells xs)) (hall:All2 (ExR M) ks xs):ExR M (.mk k s t ks) ⟨k,s,t,A,l,c⟩:=by
 have h1:=hv.len Xe_len (by omega)
 have h2:=hall.length
 have:l=ks.length:=by omega
 subst this
 exact .mk hk hs ht hv h2 λi e x he hx=>hall.get' he hx
theorem All2.le {M M':Mem} {ks:List Ex} {xs:List X_api_Expr} (h:All2 (ExR M) ks xs) (hl:M.le M'):All2 (ExR M') ks xs:=h.mono λ_ _ h=>h.le hl
theorem copy_is:∀(n:Nat) (e:Ex),SizeOf.sizeOf e<n->e.kids.length<=140737488355328 / 80->(∀k∈flatE e,k.kids.length<=140737488355328 / 80)->∀{M:Mem} {x:X_api_Expr} {K:Value->Mem->Prop},ExR M e x->(∀M' y,M.le M'->ExR M' e y->K y.val M')->S_expr_Copy x M K:=by
 intro n
 induction n with
 |zero=>intro e h;omega
 |succ n ih=>
  intro e hn hl8 hall M x K hR hK
  obtain⟨xs0,hx⟩:=hR.open
  unfold S_expr_Copy
  refine⟨λi rn rx M1=>0<=i/\i<=e.kids.length/\M.le M1/\rn=i.toNat/\∃xs,rx=cl X_api_Expr.cells xs/\All2 (ExR M1) (e.kids.take i.toNat) xs,λi _ _=>e.kids.length-i.toNat,⟨by omega,by omega,Mem.le.refl M,rfl,[],rfl,rfl⟩,λi rn rx M1 ⟨i0,i1,hM1,hrn,xs,hrx,hxs⟩=>⟨λhlt=>?_,λhge=>?_⟩⟩
  ·rw[hx.len]at hlt
   subst hrn hrx
   obtain⟨k,hk⟩:=getI (l:=e.kids) i0 hlt
   obtain⟨xs1,hx1⟩:=(hR.le hM1).open
   obtain⟨b,o,y,ha,hat,hy,_⟩:=hx1.kid hk
   have hmem:=List.mem_of_getElem? hk
   refine⟨b,o,ha,i0,by rw[hx.len];exact hlt,y,hat,s_expr_Copy _ _ _ (ih k (by have:=Ex.kid_lt hmem;omega) (hall k (flatE_kid hmem k (flatE_self k))) (λz hz=>hall z (flatE_kid hmem z hz)) hy λM2 y2 hle2 hy2=>⟨_,rfl,by omega,by unfold InI;omega,⟨by omega,by omega,hM1.trans hle2,by omega,xs++[y2],cl_snoc xs y2,?_⟩,by dsimp only;omega⟩)⟩
   rw[show(i+1).toNat=i.toNat+1 by omega,take_get hk]
   exact(All2.le hxs hle2).snoc hy2
  ·rw[hx.len]at hge
   subst hrn hrx
   intro M2 ad cap hle2 hsl2 M3 hle3
   rw[List.take_of_length_le (by omega)]at hxs
   have h:=ExR.make (M:=M3) (k:=e.kind) (s:=e.set) (t:=e.text) hx.hk hx.hs hx.ht (hsl2.le hle3) (All2.le hxs (hle2.trans hle3))
   rw[hx.kind,hx.set,hx.text]
   exact hK M3 _ ((hM1.trans hle2).trans hle3) (by cases e;exact h)
theorem sameE_is:∀(n:Nat) (e:Ex),SizeOf.sizeOf e<n->∀{M:Mem} {x y:X_api_Expr} {K:Value->Prop},ExR M e x->ExR M e y->K (.bool true)->S_chaffref_Same x y M K:=by
 intro n
 induction n with
 |zero=>intro e h;omega
 |succ n ih=>
  intro e hn M x y K hR hR' hK
  obtain⟨xs,hx⟩:=hR.open
  obtain⟨ys,hy⟩:=hR'.open
  unfold S_chaffref_Same
  rw[hx.kind,hy.kind,hx.set,hy.set,hx.text,hy.text]
  refine⟨λ_=>⟨λ_=>⟨λ_=>?_,λh=>absurd rfl h⟩,λh=>absurd (by simp[cellsEq]) h⟩,λh=>absurd rfl h⟩
  refine s_slices_EqualFunc_Expr _ _ _ _ _ _ _ _ _ ?_
  unfold S_slices_EqualFunc_Expr
  rw[hx.len,hy.len]
  have hmx:=hx.sl.max
  rw[hx.len]at hmx
  refine⟨λh=>absurd rfl h,λ_=>?_⟩
  refine⟨λi=>0<=i/\i<=e.kids.length,λi=>e.kids.length-i.toNat,⟨by omega,by omega⟩,λi ⟨i0,i1⟩=>⟨λhlt=>?_,λhge=>⟨_,rfl,hK⟩⟩⟩
  obtain⟨k,hk⟩:=getI (l:=e.kids) i0 hlt
  obtain⟨b,o,p,ha,hat,hp,_⟩:=hx.kid hk
  obtain⟨b2,o2,q,ha2,hat2,hq,_⟩:=hy.kid hk
  have hmem:=List.mem_of_getElem? hk
  exact⟨b,o,ha,i0,hlt,p,hat,b2,o2,ha2,i0,hlt,q,hat2,f_chaffref_Same _ _ _ _ (ih k (by have:=Ex.kid_lt hmem;omega) hp hq ⟨_,rfl,λh=>absurd rfl h,λ_=>⟨by unfold InI;omega,⟨by omega,by omega⟩,by dsimp only;omega⟩⟩)⟩
theorem samegr_is {rs:List Ru} {ga ha:Option Addr} {gl gc hl hc:Nat} {M:Mem} (hg:GrR M rs ga gl gc) (hh:GrR M rs ha hl hc) (K:Value->Prop) (hK:K (.bool true)):S_chaffref_SameGrammar ga gl gc ha hl hc M K:=by
 have h1:=hg.max
 have h2:=hh.max
 unfold S_chaffref_SameGrammar
 refine s_slices_EqualFunc_Rule _ _ _ _ _ _ _ _ _ ?_
 unfold S_slices_EqualFunc_Rule
 refine⟨λh=>absurd (by omega) h,λ_=>?_⟩
 refine⟨λi=>0<=i/\i<=gl,λi=>gl-i.toNat,⟨by omega,by omega⟩,λi ⟨i0,i1⟩=>⟨λhlt=>?_,λhge=>⟨_,rfl,hK⟩⟩⟩
 obtain⟨r,x,b,o,hr,hb,hat,hrr⟩:=hg.at i0 hlt
 obtain⟨r2,y,b2,o2,hr2,hb2,hat2,hrr2⟩:=hh.at (i:=i) i0 (by omega)
 rw[hr]at hr2;cases hr2
 refine⟨b,o,hb,i0,hlt,x,hat,b2,o2,hb2,i0,by omega,y,hat2,f_chaffref_SameGrammar_1 _ _ _ _ ?_⟩
 unfold S_chaffref_SameGrammar_1
 refine⟨λ_=>s_chaffref_Same _ _ _ _ (sameE_is _ r.body (Nat.lt_succ_self _) hrr.2.2 hrr2.2.2 ⟨_,rfl,_,rfl,λh=>absurd rfl h,λ_=>⟨by unfold InI;omega,⟨by omega,by omega⟩,by dsimp only;omega⟩⟩),λh=>absurd (by rw[hrr.1,hrr2.1]) h⟩
theorem slvE_nil (M:Mem) (sz:Nat):SlV M none 0 0 sz []:=⟨by simp,Nat.le_refl _,Nat.zero_le _,λh=>by omega⟩
theorem wf_z4:wfS z4:=by unfold wfS z4;decide
theorem all2_set {α β:Type} {R:α->β->Prop}:∀{l:List α} {bs:List β},All2 R l bs->∀{a:α} {b:β},R a b->∀i:Nat,All2 R (l.set i a) (bs.set i b)
 |[],bs,h,a,b,_,i=>by
  cases bs with
  |nil=>exact h
  |cons=>cases h
 |a::l,bs,h,a',b',hr,i=>by
  obtain⟨b,bs',rfl,h1,h2⟩:=h
  cases i with
  |zero=>exact⟨b',bs',rfl,hr,h2⟩
  |succ i=>exact⟨b,bs'.set i b',rfl,h1,all2_set h2 hr i⟩
def TnR (M:Mem) (es:List Ex) (n:Nat) (rx:List Value):Prop:=∃ys:List X_api_Expr,n=ys.length/\rx=cl X_api_Expr.cells ys/\All2 (ExR M) es ys
theorem TnR.le {M M':Mem} {es:List Ex} {n:Nat} {rx:List Value} (h:TnR M es n rx) (hl:M.le M'):TnR M' es n rx:=by
 obtain⟨ys,h1,h2,h3⟩:=h
 exact⟨ys,h1,h2,All2.le h3 hl⟩
theorem TnR.nil (M:Mem):TnR M [] 0 []:=⟨[],rfl,rfl,rfl⟩
theorem TnR.snoc {M:Mem} {es:List Ex} {n:Nat} {rx:List Value} (h:TnR M es n rx) {e:Ex} {z x:X_api_Expr} (hx:ExR M e x):TnR M (es++[e]) (n+1) (putAt (rx++z.cells) (0+((n:Nat):Int).toNat*7) x.cells):=by
 obtain⟨ys,rfl,rfl,h3⟩:=h
 exact⟨ys++[x],by simp,eput_is ys z x,h3.snoc hx⟩
theorem TnR.len {M:Mem} {es:List Ex} {n:Nat} {rx:List Value} (h:TnR M es n rx):n=es.length:=by
 obtain⟨ys,rfl,rfl,h3⟩:=h
 exact h3.length
theorem within_mk {M:Mem} {es ks:List Ex} {n:Nat} {rx:List Value} (h:TnR M es n rx) (hn:es.length<=1000000) {k:Int} {A:Option Addr} {l c:Nat} {xs:List X_api_Expr} (hk:(Lit.int .i64 k).wf=true) (hv:SlV M A l c 7 (cl X_api_Expr.cells xs)) (hall:All2 (ExR M) ks xs) (K:Value->Nat->List Value->Mem->Prop)
  (hK:∀n' rx',TnR M (es++[.mk k z4 [] ks]) n' rx'->K (.tuple #[]) n' rx' M):C_mutate_turns_1 k A l c n rx M K:=by
 have hlen:=h.len
 obtain⟨ys,rfl,rfl,h3⟩:=h
 exact with_is (by omega) K (hK _ _ ⟨_,rfl,rfl,h3.snoc (ExR.make hk wf_z4 (by simp) hv hall)⟩)
theorem less_cells {xs:List X_api_Expr} (i:Nat):(cl X_api_Expr.cells xs).take (i*7)++(cl X_api_Expr.cells xs).drop ((i+1)*7)=cl X_api_Expr.cells (xs.take i++xs.drop (i+1)):=by
 rw[cl_take Xe_len,cl_drop Xe_len,cl_append]
theorem turns_is {e:Ex} {x:X_api_Expr} {M:Mem} {K:Nat->List Value->Mem->Prop} (hR:ExR M e x) (h8:e.kids.length<=8) (h1:e.kind=7\/e.kind=9->e.kids≠[]) (hK:∀M' n rx,M.le M'->TnR M' (turnsE e) n rx->K n rx M'):C_mutate_turns x M K:=by
 refine s_mutate_turns _ _ _ ?_
 obtain⟨xs,hx⟩:=hR.open
 obtain⟨k,s,t,ks⟩:=e
 have hkind:=hx.kind
 have hlen:=hx.len
 have hk0:=hx.hk
 have hxl:=hx.xl
 simp only[Ex.kind,Ex.kids]at hkind hlen hk0 h8 h1 hxl
 rw[turnsE]at hK
 unfold S_mutate_turns
 rw[hkind]
 refine⟨λh2=>?_,λh2=>?_⟩
 ·rw[if_pos h2]at hK
  have hs:=hx.hs
  simp only[Ex.set]at hs
  have hset:x.Set=s:=hx.set
  rw[hset]
  exact s_set_Not _ _ _ (not_is hs _ ⟨compS s,rfl,by omega,by omega,by omega,hK M _ _ (Mem.le.refl M) ((TnR.nil M).snoc (ExR.make (xs:=[]) (by decide) (Us_wf _) (by simp) (slvE_nil M 7) (show All2 (ExR M) [] [] from rfl)))⟩)
 rw[if_neg h2]at hK
 have two:∀(i:Int),0<=i->i<(ks.length:Int)->∃k',ks[i.toNat]?=some k':=λi a b=>getI a b
 have loops:k=5\/k=6->S_mutate_turns_J1 x M true K:=by
  intro h56
  unfold S_mutate_turns_J1
  refine⟨λ_=>?_,λh=>absurd rfl h⟩
  refine⟨λi n rx M'=>0<=i/\i<=ks.length/\M.le M'/\TnR M' ((List.range i.toNat).map λi=>lessE k (lessL ks i)) n rx,λi _ _=>ks.length-i.toNat,⟨by omega,by omega,Mem.le.refl M,TnR.nil M⟩,λi n rx M1 ⟨i0,i1,hle,hT⟩=>⟨λhlt=>?_,λhge=>?_⟩⟩
  ·rw[hlen]at hlt
   have hn:=hT.len
   rw[List.length_map,List.length_range]at hn
   have j2:∀M2 n' rx',M1.le M2->TnR M2 ((List.range i.toNat).map (λi=>lessE k (lessL ks i))++[lessE k (lessL ks i.toNat)]) n' rx'->S_mutate_turns_J2 i n rx (λi n rx M'=>0<=i/\i<=ks.length/\M.le M'/\TnR M' ((List.range i.toNat).map λi=>lessE k (lessL ks i)) n rx) (λi _ _=>ks.length-i.toNat) n' rx' M2 K:=λM2 n' rx' hle2 h=>⟨by unfold InI;omega,⟨by omega,by omega,hle.trans hle2,by rw[show(i+1).toNat=i.toNat+1 by omega,List.range_succ,List.map_append];exact h⟩,by dsimp only;omega⟩
   have hx1:=(hR.le hle).open
   refine⟨λh2'=>?_,λh2'=>?_⟩
   ·rw[hlen]at h2'
    obtain⟨k',hk'⟩:=two (1-i) (by omega) (by omega)
    obtain⟨xs1,hx1⟩:=hx1
    obtain⟨b,o,y,ha,hat,hy,_⟩:=hx1.kid hk'
    refine⟨by unfold InI;omega,b,o,ha,by omega,by rw[hlen];omega,y,hat,by omega,by omega,by omega,j2 M1 _ _ (Mem.le.refl M1) ?_⟩
    have:lessE k (lessL ks i.toNat)=k':=by
     match ks,h2',hk' with
     |[a,b],_,hk'=>
      have:i=0\/i=1:=by simp at hlt;omega
      rcases this with rfl|rfl
      ·simp at hk';subst hk';rfl
      ·simp at hk';subst hk';rfl
    rw[this]
    exact hT.snoc hy
   ·rw[hlen]at h2'
    obtain⟨xs1,hx1⟩:=hx1
    have hxl1:=hx1.xl
    simp only[Ex.kids]at hxl1
    refine⟨by unfold InI;omega,s_slices_Clone_Expr _ _ _ _ _ (eclone_is hx1.sl (by omega) _ ?_)⟩
    refine s_slices_Delete_Expr _ _ _ _ _ _ (edelete_is i0 (by omega) (cl_one' Xe_one _) _ ?_)
    intro M2 ad cap hle2 hsl
    rw[less_cells]at hsl
    have hl:lessE k (lessL ks i.toNat)= .mk k z4 [] (lessL ks i.toNat):=by
     have:(lessL ks i.toNat).length≠1:=by unfold lessL;simp;omega
     unfold lessE
     split
     ·rename_i h;rw[h]at this;exact absurd rfl this
     ·rfl
    rw[hkind]
    refine within_mk (hT.le hle2) (by simp;omega) hk0 hsl (ks:=lessL ks i.toNat) (All2.le ?_ hle2) _ λn' rx' h=>⟨rfl,j2 M2 _ _ hle2 (by rw[hl];exact h)⟩
    exact(hx1.kids.take i.toNat).append (hx1.kids.drop (i.toNat+1))
  ·rw[hlen]at hge
   have hi:i.toNat=ks.length:=by omega
   rw[hi]at hT
   have hn0:=hT.len
   rw[List.length_map,List.length_range]at hn0
   refine⟨λi n rx M'=>1<=i/\(k=6->i<=ks.length\/i=1)/\M.le M'/\(k=5->i=1)/\TnR M' ((List.range ks.length).map (λi=>lessE k (lessL ks i))++(List.range (i.toNat-1)).map λi=>.mk k z4 [] (swapL ks i)) n rx,λi _ _=>ks.length-i.toNat,⟨by omega,by omega,hle,by omega,by simpa using hT⟩,λi n rx M1 ⟨i0,i1,hle,h5,hT⟩=>⟨λhlt=>?_,λhge=>?_⟩⟩
   ·rw[hlen]at hlt
    have hn:=hT.len
    rw[List.length_append,List.length_map,List.length_range,List.length_map,List.length_range]at hn
    unfold S_mutate_turns_J3
    refine⟨λh6=>?_,λh6=>?_⟩
    ·have h6:k=6:=by rw[hkind]at h6;simpa using h6
     obtain⟨xs1,hx1⟩:=(hR.le hle).open
     have hxl1:=hx1.xl
     simp only[Ex.kids]at hxl1
     refine s_slices_Clone_Expr _ _ _ _ _ (eclone_is hx1.sl (by omega) _ ?_)
     obtain⟨p,hp⟩:=two i (by omega) (by omega)
     obtain⟨q,hq⟩:=two (i-1) (by omega) (by omega)
     obtain⟨y,hy,hyr⟩:=hx1.kids.get hp
     obtain⟨z,hz,hzr⟩:=hx1.kids.get hq
     rw[hlen]
     refine⟨by unfold InI;omega,by omega,by omega,y,cl_Cs Xe_len hy,by unfold InI;omega,by omega,by omega,z,cl_Cs Xe_len hz,by omega,by omega,by omega,by omega,?_⟩
     intro M2 ad cap hle2 hsl
     have hi':i.toNat=(i-1).toNat+1:=by omega
     rw[cl_put Xe_len _ (by omega),cl_put Xe_len _ (by simp;omega)]at hsl
     rw[hkind]
     refine within_mk (hT.le hle2) (by simp;omega) hk0 hsl (ks:=swapL ks (i-1).toNat) (All2.le ?_ hle2) _ λn' rx' h=>⟨rfl,by unfold InI;omega,⟨by omega,by omega,hle.trans hle2,by omega,?_⟩,by dsimp only;omega⟩
     ·unfold swapL
      rw[hq,<-hi',hp]
      exact all2_set (all2_set hx1.kids hyr _) hzr _
     ·rw[show(i+1).toNat-1=(i.toNat-1)+1 by omega,List.range_succ,List.map_append,<-List.append_assoc,show i.toNat-1=(i-1).toNat by omega]
      rw[show i.toNat-1=(i-1).toNat by omega]at h
      exact h
    ·have h5':k=5:=by
      rcases h56 with h|h
      ·exact h
      ·exact absurd (by rw[hkind,h];rfl) h6
     rw[if_pos h5']at hK
     refine hK _ _ _ hle ?_
     rw[h5 h5']at hT
     simpa using hT
   ·rw[hlen]at hge
    unfold S_mutate_turns_J3
    refine⟨λh=>absurd h (by decide),λ_=>hK _ _ _ hle ?_⟩
    rcases h56 with h|h
    ·rw[if_pos h]
     rw[h5 h]at hT
     simpa using hT
    ·rw[if_neg (by omega),if_pos h]
     have:i.toNat-1=ks.length-1:=by omega
     rw[this,h]at hT
     rw[h];exact hT
 refine⟨λh5=>(by rw[h5];exact loops (.inl h5)),λh5=>?_⟩
 by_cases h6:k=6
 ·rw[h6];exact loops (.inr h6)
 rw[if_neg h5,if_neg h6]at hK
 have hb:((k:Int)==(6:Int))=false:=by simpa using h6
 rw[hb]
 have j4:(k=7\/k=9)->S_mutate_turns_J4 x M true K:=by
  intro h79
  rw[if_pos h79]at hK
  unfold S_mutate_turns_J4
  refine⟨λ_=>?_,λh=>absurd rfl h⟩
  have hne:0<ks.length:=List.length_pos_iff.2 (h1 h79)
  obtain⟨k',hk'⟩:=two 0 (by omega) (by omega)
  obtain⟨b,o,y,ha,hat,hy,_⟩:=hx.kid hk'
  refine⟨b,o,ha,by omega,by rw[hlen];omega,y,hat,by omega,by omega,by omega,hK M _ _ (Mem.le.refl M) ?_⟩
  have:ks.take 1=[k']:=by
   cases ks with
   |nil=>cases hne
   |cons a r=>simp at hk';subst hk';rfl
  rw[this]
  exact(TnR.nil M).snoc hy
 unfold S_mutate_turns_J1
 refine⟨λh=>absurd h (by decide),λ_=>?_⟩
 rw[hkind]
 refine⟨λh7=>(by rw[h7];exact j4 (.inl h7)),λh7=>?_⟩
 by_cases h9:k=9
 ·rw[h9];exact j4 (.inr h9)
 have hb:((k:Int)==(9:Int))=false:=by simpa using h9
 rw[hb]
 rw[if_neg (by omega)]at hK
 unfold S_mutate_turns_J4
 rw[hkind]
 have one:∀k':Int,(Lit.int .i64 k').wf=true->(∀M' n rx,M.le M'->TnR M' [.mk k' z4 [] ks] n rx->K n rx M')->C_mutate_turns_1 k' x.Kids_a x.Kids_l x.Kids_c 0 [] M (λv rn204 rx205 M203=>v=(Value.tuple #[])/\(S_mutate_turns_J5 rn204 rx205 M203 K)):=λk' hw hK=>
  within_mk (TnR.nil M) (by simp) hw hx.sl hx.kids _ λn' rx' h=>⟨rfl,hK M _ _ (Mem.le.refl M) h⟩
 refine⟨λh=>absurd h (by decide),λ_=>⟨λh=>?_,λh=>⟨λh'=>?_,λh'=>⟨λh''=>?_,λh''=>?_⟩⟩⟩⟩
 ·exact one 7 (by decide) (by rw[if_pos h]at hK;exact hK)
 ·exact one 11 (by decide) (by rw[if_neg h,if_pos h']at hK;exact hK)
 ·exact one 10 (by decide) (by rw[if_neg h,if_neg h',if_pos h'']at hK;exact hK)
 ·rw[if_neg h,if_neg h',if_neg h'']at hK
  exact hK M _ _ (Mem.le.refl M) (TnR.nil M)
end Go.Proofs.Ytmnilbfhfjdelaa.core

namespace Go.Proofs.Ytmnilbfhfjdelaa.core
open Go.Gx Go.RowKit Go.ChangeShapes Go.WideShapes Go.ChangeAt
set_option linter.unusedVariables false
def kidT (k:Int) (ks:List Ex) (p:Ex×Nat):List Ex:=(allE p.1).map λy=>.mk k z4 [] (ks.set p.2 y)
theorem put_mid {α:Type} (pre:List α) (x y:α) (r:List α):(pre++x::r).set pre.length y=pre++y::r:=by
 induction pre with
 |nil=>rfl
 |cons a t ih=>simp
theorem allEs_zip (k:Int):∀(ks pre:List Ex),allEs k pre ks=(ks.zipIdx pre.length).flatMap (kidT k (pre++ks)):=by
 intro ks
 induction ks with
 |nil=>intro pre;rw[allEs];rfl
 |cons x r ih=>
  intro pre
  rw[allEs,List.zipIdx_cons,List.flatMap_cons,ih (pre++[x])]
  congr 1
  ·unfold kidT
   simp only[put_mid]
  ·rw[List.length_append,List.length_singleton,List.append_assoc,List.singleton_append]
theorem allE_zip (k:Int) (s:X_api_Set) (t:List UInt8) (ks:List Ex):allE (.mk k s t ks)=turnsE (.mk k s t ks)++(ks.zipIdx 0).flatMap (kidT k ks):=by
 rw[allE,allEs_zip k ks []];rfl
theorem TnR.snoc' {M:Mem} {es:List Ex} {n:Nat} {rx:List Value} (h:TnR M es n rx) {e:Ex} {x:X_api_Expr} (hx:ExR M e x):TnR M (es++[e]) (n+1) (rx++x.cells):=by
 obtain⟨ys,rfl,rfl,h3⟩:=h
 exact⟨ys++[x],by simp,cl_snoc ys x,h3.snoc hx⟩
theorem TnR.at {M:Mem} {es:List Ex} {n:Nat} {rx:List Value} (h:TnR M es n rx) {i:Int} (h0:0<=i) (h1:i<((n:Nat):Int)):∃e x,es[i.toNat]?=some e/\Cs rx (0+i.toNat*7) x.cells/\ExR M e x:=by
 have hl:=h.len
 obtain⟨ys,rfl,rfl,h3⟩:=h
 obtain⟨e,he⟩:=getI (l:=es) h0 (by omega)
 obtain⟨x,hx,hr⟩:=h3.get he
 exact⟨e,x,he,cl_Cs Xe_len hx,hr⟩
def firsts (e:Ex):Prop:=∀q∈flatE e,(q.kind=7\/q.kind=9)->q.kids≠[]
theorem take_len_le {α β:Type} (f:α->List β):∀(l:List α) (n:Nat),((l.take n).flatMap f).length<=(l.flatMap f).length:=by
 intro l
 induction l with
 |nil=>intro n;simp
 |cons a r ih=>
  intro n
  cases n with
  |zero=>simp
  |succ n=>rw[List.take_succ_cons,List.flatMap_cons,List.flatMap_cons,List.length_append,List.length_append];have:=ih n;omega
theorem all_is:∀(n:Nat) (e:Ex),SizeOf.sizeOf e<n->few e->firsts e->(flatE e).length<=1000->∀{M:Mem} {x:X_api_Expr} {K:Nat->List Value->Mem->Prop},ExR M e x->(∀M' n rx,M.le M'->TnR M' (allE e) n rx->K n rx M')->C_mutate_all x M K:=by
 intro n
 induction n with
 |zero=>intro e h;omega
 |succ n ih=>
  intro e hn h8 h1 hf M x K hR hK
  have hal:=all_len e h8
  refine s_mutate_all _ _ _ ?_
  obtain⟨k,s,t,ks⟩:=e
  have hk8:=(few_kids h8).1
  unfold S_mutate_all
  refine turns_is hR hk8 (λh=>h1 _ (by rw[flatE];simp) h) λM1 n1 rx1 hle1 hT1=>?_
  rw[allE_zip]at hK hal
  obtain⟨xs,hx⟩:=hR.open
  have hlen:=hx.len
  have hkind:=hx.kind
  have hk0:=hx.hk
  simp only[Ex.kids,Ex.kind]at hlen hkind hk0
  refine⟨λi n rx M'=>0<=i/\i<=ks.length/\M.le M'/\TnR M' (turnsE (.mk k s t ks)++((ks.zipIdx 0).take i.toNat).flatMap (kidT k ks)) n rx,λi _ _=>ks.length-i.toNat,⟨by omega,by omega,hle1,by simpa using hT1⟩,λi n2 rx2 M2 ⟨i0,i1,hle,hT⟩=>⟨λhlt=>?_,λhge=>?_⟩⟩
  ·rw[hlen]at hlt
   obtain⟨k',hk'⟩:=getI (l:=ks) i0 hlt
   obtain⟨xs2,hx2⟩:=(hR.le hle).open
   obtain⟨b,o,y,ha,hat,hy,_⟩:=hx2.kid hk'
   have hmem:=List.mem_of_getElem? hk'
   have hp:(ks.zipIdx 0)[i.toNat]?=some (k',i.toNat):=by rw[List.getElem?_zipIdx,hk'];simp
   have hstep:(turnsE (.mk k s t ks)++((ks.zipIdx 0).take (i.toNat+1)).flatMap (kidT k ks))=(turnsE (.mk k s t ks)++((ks.zipIdx 0).take i.toNat).flatMap (kidT k ks))++kidT k ks (k',i.toNat):=by
    rw[take_get hp,List.flatMap_append,List.append_assoc];simp
   have hbound:(turnsE (.mk k s t ks)++((ks.zipIdx 0).take (i.toNat+1)).flatMap (kidT k ks)).length<=16*1000:=by
    have:=take_len_le (kidT k ks) (ks.zipIdx 0) (i.toNat+1)
    rw[List.length_append]at hal ⊢
    omega
   rw[hstep,List.length_append]at hbound
   have hsub:(flatE k').length<=1000:=by
    have:=flatE_kidlen (e:=.mk k s t ks) hmem
    omega
   refine⟨b,o,ha,i0,by rw[hlen];exact hlt,y,hat,ih k' (by have:=Ex.kid_lt (e:=.mk k s t ks) hmem;omega) (λq hq=>h8 q (flatE_kid (e:=.mk k s t ks) hmem q hq)) (λq hq=>h1 q (flatE_kid (e:=.mk k s t ks) hmem q hq)) hsub hy λM3 n3 rx3 hle3 hT3=>?_⟩
   have hn3:=hT3.len
   refine⟨λj n rx M'=>0<=j/\j<=n3/\M3.le M'/\TnR M' ((turnsE (.mk k s t ks)++((ks.zipIdx 0).take i.toNat).flatMap (kidT k ks))++((allE k').take j.toNat).map λy=>.mk k z4 [] (ks.set i.toNat y)) n rx,λj _ _=>n3-j.toNat,⟨by omega,by omega,Mem.le.refl M3,by simpa using hT.le hle3⟩,λj n4 rx4 M4 ⟨j0,j1,hle4,hT4⟩=>⟨λhjl=>?_,λhjg=>?_⟩⟩
   ·obtain⟨y',z,hy',hcs,hz⟩:=hT3.at j0 hjl
    obtain⟨xs4,hx4⟩:=((hR.le hle).le (hle3.trans hle4)).open
    have hxl4:=hx4.xl
    simp only[Ex.kids]at hxl4
    have hn4:=hT4.len
    refine⟨j0,hjl,z,hcs,s_slices_Clone_Expr _ _ _ _ _ (eclone_is hx4.sl (by omega) _ ⟨i0,by rw[hlen];exact hlt,λM5 ad cap hle5 hsl=>?_⟩)⟩
    rw[cl_put Xe_len _ (by omega)]at hsl
    have hkb:(kidT k ks (k',i.toNat)).length=(allE k').length:=by unfold kidT;simp
    have:n4<=16*1000:=by
     rw[hn4,List.length_append,List.length_map,List.length_take]
     omega
    refine⟨by omega,by unfold InI;omega,⟨by omega,by omega,hle4.trans hle5,?_⟩,by dsimp only;omega⟩
    rw[show(j+1).toNat=j.toNat+1 by omega,take_get hy',List.map_append,<-List.append_assoc]
    rw[hkind]
    exact(hT4.le hle5).snoc' (ExR.make (k:=k) hk0 wf_z4 (by simp) hsl (All2.le (all2_set hx4.kids (hz.le hle4) i.toNat) hle5))
   ·refine⟨by unfold InI;omega,⟨by omega,by omega,hle.trans (hle3.trans hle4),?_⟩,by dsimp only;omega⟩
    rw[show(i+1).toNat=i.toNat+1 by omega,hstep]
    rw[List.take_of_length_le (l:=allE k') (by omega)]at hT4
    exact hT4
  ·rw[hlen]at hge
   rw[List.take_of_length_le (by simp;omega)]at hT
   exact hK _ _ _ hle hT
end Go.Proofs.Ytmnilbfhfjdelaa.core

namespace Go.Proofs.Ytmnilbfhfjdelaa.core
open Go.Gx Go.RowKit Go.ChangeShapes Go.WideShapes Go.ChangeAt
set_option linter.unusedVariables false
theorem slC1 (x:Sl3):(slC x).length=1:=rfl
def mutR (rs:List Ru) (p:Ru×Nat):List (List Ru):=(allE p.1.body).map λy=>rs.set p.2 ⟨p.1.name,y⟩
noncomputable def okF (g:List Ru):Bool:=decide ((wellP g).2=0)
noncomputable def mutG (rs:List Ru):List (List Ru):=((rs.zipIdx 0).flatMap (mutR rs)).filter okF
def GgR (M:Mem) (gs:List (List Ru)) (n:Nat) (rx:List Value):Prop:=∃ys:List Sl3,n=ys.length/\rx=cl slC ys/\All2 (λg y=>GrR M g y.a y.l y.c) gs ys
theorem GgR.le {M M':Mem} {gs:List (List Ru)} {n:Nat} {rx:List Value} (h:GgR M gs n rx) (hl:M.le M'):GgR M' gs n rx:=by
 obtain⟨ys,h1,h2,h3⟩:=h
 exact⟨ys,h1,h2,h3.mono λ_ _ h=>h.le hl⟩
theorem GgR.nil (M:Mem):GgR M [] 0 []:=⟨[],rfl,rfl,rfl⟩
theorem GgR.snoc {M:Mem} {gs:List (List Ru)} {n:Nat} {rx:List Value} (h:GgR M gs n rx) {g:List Ru} {a:Option Addr} {l c:Nat} (hg:GrR M g a l c):GgR M (gs++[g]) (n+1) (rx++[.slice a l c]):=by
 obtain⟨ys,rfl,rfl,h3⟩:=h
 exact⟨ys++[⟨a,l,c⟩],by simp,cl_snoc ys (⟨a,l,c⟩:Sl3),h3.snoc hg⟩
theorem few_good {rs:List Ru} {e:Ex} (h:GoodE rs e):few e/\firsts e:=by
 have:∀(n:Nat) (e:Ex),SizeOf.sizeOf e<n->GoodE rs e->∀q∈flatE e,GoodE rs q:=by
  intro n
  induction n with
  |zero=>intro e h;omega
  |succ n ih=>
   intro e hn h q hq
   obtain⟨k,s,t,ks⟩:=e
   rw[flatE]at hq
   rcases List.mem_cons.1 hq with rfl|hq
   ·exact h
   have key:∀l:List Ex,(∀x∈l,x∈ks)->q∈flatEs l->GoodE rs q:=by
    intro l
    induction l with
    |nil=>intro _ h;rw[flatEs]at h;cases h
    |cons a r iht=>
     intro hs h'
     rw[flatEs]at h'
     rcases List.mem_append.1 h' with h'|h'
     ·have hm:a∈(Ex.mk k s t ks).kids:=hs a (by simp)
      exact ih a (by have:=Ex.kid_lt hm;omega) (h.kid a hm) q h'
     ·exact iht (λx hx=>hs x (by simp[hx])) h'
   exact key ks (λx hx=>hx) hq
 refine⟨λq hq=>?_,λq hq hk=>?_⟩
 ·have hf:=fitE_kinds (this _ e (Nat.lt_succ_self _) h q hq).fit
  obtain⟨f1,f2,f3,f4,f5,_⟩:=hf
  by_cases h4:q.kind<=4
  ·rw[f3 h4];simp
  by_cases h7:7<=q.kind
  ·have:=f5 h7;omega
  ·have:=f4 (by omega);omega
 ·have hf:=fitE_kinds (this _ e (Nat.lt_succ_self _) h q hq).fit
  obtain⟨f1,f2,f3,f4,f5,_⟩:=hf
  intro h0
  have:=f5 (by omega)
  rw[h0]at this;simp at this
theorem mutants_is {rs:List Ru} {ga:Option Addr} {gl gc:Nat} {M:Mem} {K:Value->Mem->Prop} (hg:GrR M rs ga gl gc) (h1:(wellP rs).2≠0->∀M',M.le M'->K (.tuple #[.slice none 0 0,.int .i64 (wellP rs).2]) M')
  (hW:(wellP rs).2=0->GramOk rs)
  (h2:(wellP rs).2=0->∀M' A n c rx,M.le M'->SlV M' A n c 1 rx->GgR M' (mutG rs) n rx->K (.tuple #[.slice A n c,.int .i64 0]) M'):S_mutate_Mutants ga gl gc M K:=by
 unfold S_mutate_Mutants
 refine s_well_Well _ _ _ _ _ (wwell_is hg _ ⟨_,_,rfl,h1,λh0=>?_⟩)
 have h0:(wellP rs).2=0:=Decidable.not_not.1 h0
 have ok:=hW h0
 have h2:=h2 h0
 have hgl:=hg.max.1
 have h10:=ok.ten
 refine⟨λi n rx M'=>0<=i/\i<=rs.length/\M.le M'/\n<=1000*i.toNat/\GgR M' (((rs.zipIdx 0).take i.toNat).flatMap (mutR rs) |>.filter okF) n rx,λi _ _=>rs.length-i.toNat,⟨by omega,by omega,Mem.le.refl M,by omega,GgR.nil M⟩,λi n rx M1 ⟨i0,i1,hle,hn,hT⟩=>⟨λhlt=>?_,λhge=>?_⟩⟩
 ·obtain⟨r,x,b,o,hr,hb,hat,hrr⟩:=(hg.le hle).at i0 hlt
  have hmem:=List.mem_of_getElem? hr
  obtain⟨f8,f1⟩:=few_good (ok.good r hmem)
  have f60:=(flat_max (ok.err r hmem)).1
  have hal:=all_len r.body f8
  have hp:(rs.zipIdx 0)[i.toNat]?=some (r,i.toNat):=by rw[List.getElem?_zipIdx,hr];simp
  refine⟨b,o,hb,i0,hlt,x,hat,all_is _ r.body (Nat.lt_succ_self _) f8 f1 (by omega) hrr.2.2 λM2 n2 rx2 hle2 hT2=>?_⟩
  have hn2:=hT2.len
  refine⟨λj n rx M'=>0<=j/\j<=n2/\M2.le M'/\n<=1000*i.toNat+j.toNat/\GgR M' ((((rs.zipIdx 0).take i.toNat).flatMap (mutR rs)++((allE r.body).take j.toNat).map λy=>rs.set i.toNat ⟨r.name,y⟩).filter okF) n rx,λj _ _=>n2-j.toNat,⟨by omega,by omega,Mem.le.refl M2,by omega,by simpa using hT.le hle2⟩,λj n3 rx3 M3 ⟨j0,j1,hle3,hn3,hT3⟩=>⟨λhjl=>?_,λhjg=>?_⟩⟩
  ·obtain⟨y,z,hy,hcs,hz⟩:=hT2.at j0 hjl
   have hyf:few y:=all_few _ _ f8 (List.mem_of_getElem? hy)
   refine⟨j0,hjl,z,hcs,?_⟩
   refine⟨λk n rx M'=>0<=k/\k<=rs.length/\M3.le M'/\∃xs,n=xs.length/\rx=cl X_api_Rule.cells xs/\All2 (RuR M') ((rs.set i.toNat ⟨r.name,y⟩).take k.toNat) xs,λk _ _=>rs.length-k.toNat,⟨by omega,by omega,Mem.le.refl M3,[],rfl,rfl,rfl⟩,λk n4 rx4 M4 ⟨k0,k1,hle4,xs,hn4,hrx4,hxs⟩=>⟨λhkl=>?_,λhkg=>?_⟩⟩
   ·obtain⟨r2,x2,b2,o2,hr2,hb2,hat2,hrr2⟩:=(hg.le (hle.trans (hle2.trans (hle3.trans hle4)))).at k0 hkl
    have hlx:=hxs.length
    rw[List.length_take,List.length_set]at hlx
    refine⟨b2,o2,hb2,k0,hkl,x2,hat2,?_⟩
    have cp:∀(e:Ex) (w:X_api_Expr),ExR M4 e w->few e->(rs.set i.toNat ⟨r.name,y⟩)[k.toNat]?=some ⟨r2.name,e⟩->S_mutate_Mutants_J1 k n4 rx4 M4 (λk n rx M'=>0<=k/\k<=rs.length/\M3.le M'/\∃xs,n=xs.length/\rx=cl X_api_Rule.cells xs/\All2 (RuR M') ((rs.set i.toNat ⟨r.name,y⟩).take k.toNat) xs) (λk _ _=>rs.length-k.toNat) x2 w.Kind w.Set.w0 w.Set.w1 w.Set.w2 w.Set.w3 w.Text w.Kids_a w.Kids_l w.Kids_c K:=by
     intro e w hw hf hat
     unfold S_mutate_Mutants_J1
     refine s_expr_Copy _ _ _ (copy_is _ e (Nat.lt_succ_self _) (by have:=hf e (flatE_self e);omega) (λq hq=>by have:=hf q hq;omega) hw λM5 w5 hle5 hw5=>⟨w5,rfl,by omega,by unfold InI;omega,⟨by omega,by omega,hle4.trans hle5,xs++[⟨x2.Name,w5⟩],by simp[hn4],by rw[hrx4];exact cl_snoc xs (⟨x2.Name,w5⟩:X_api_Rule),?_⟩,by dsimp only;omega⟩)
     rw[show(k+1).toNat=k.toNat+1 by omega,take_get hat]
     exact(hxs.mono λ_ _ h=>h.le hle5).snoc ⟨hrr2.1,hrr2.2.1,hw5⟩
    refine⟨λhe=>?_,λhne=>?_⟩
    ·subst he
     rw[hr]at hr2;cases hr2
     exact cp y z (hz.le (hle3.trans hle4)) hyf (by rw[List.getElem?_set_self (by omega)])
    ·have hm2:=List.mem_of_getElem? hr2
     exact cp r2.body x2.Body hrr2.2.2 (few_good (ok.good r2 hm2)).1 (by rw[List.getElem?_set_ne (by omega),hr2])
   ·intro M5 ad cap hle5 hsl
    rw[List.take_of_length_le (by simp;omega)]at hxs
    subst hrx4
    have hg5:GrR M5 (rs.set i.toNat ⟨r.name,y⟩) ad n4 cap:=⟨xs,hsl,hxs.mono λ_ _ h=>h.le hle5,by rw[hn4,hxs.length]⟩
    have hstep:((((rs.zipIdx 0).take i.toNat).flatMap (mutR rs)++((allE r.body).take (j.toNat+1)).map λy=>rs.set i.toNat ⟨r.name,y⟩).filter okF)=((((rs.zipIdx 0).take i.toNat).flatMap (mutR rs)++((allE r.body).take j.toNat).map λy=>rs.set i.toNat ⟨r.name,y⟩).filter okF)++([rs.set i.toNat ⟨r.name,y⟩].filter okF):=by
     rw[take_get hy,List.map_append,<-List.append_assoc,List.filter_append];rfl
    refine s_well_Well _ _ _ _ _ (wwell_is hg5 _ ⟨_,_,rfl,λhw=>⟨by omega,?_⟩,λhw=>?_⟩)
    ·refine⟨by unfold InI;omega,⟨by omega,by omega,hle3.trans (hle4.trans hle5),by omega,?_⟩,by dsimp only;omega⟩
     rw[show(j+1).toNat=j.toNat+1 by omega,hstep]
     have:[rs.set i.toNat ⟨r.name,y⟩].filter okF=[rs.set i.toNat ⟨r.name,y⟩]:=by
      rw[List.filter_cons,if_pos (by unfold okF;simpa using hw)];rfl
     rw[this]
     exact(hT3.le (hle4.trans hle5)).snoc hg5
    ·refine⟨by unfold InI;omega,⟨by omega,by omega,hle3.trans (hle4.trans hle5),by omega,?_⟩,by dsimp only;omega⟩
     rw[show(j+1).toNat=j.toNat+1 by omega,hstep]
     have:[rs.set i.toNat ⟨r.name,y⟩].filter okF=[]:=by
      rw[List.filter_cons,if_neg (by unfold okF;simpa using hw)];rfl
     rw[this,List.append_nil]
     exact hT3.le (hle4.trans hle5)
  ·refine⟨by unfold InI;omega,⟨by omega,by omega,hle.trans (hle2.trans hle3),by omega,?_⟩,by dsimp only;omega⟩
   rw[show(i+1).toNat=i.toNat+1 by omega,take_get hp,List.flatMap_append]
   rw[List.take_of_length_le (l:=allE r.body) (by omega)]at hT3
   simpa[mutR]using hT3
 ·rw[List.take_of_length_le (by simp;omega)]at hT
  intro M2 ad cap hle2 hsl M3 hle3
  exact h2 M3 ad n cap rx (hle.trans (hle2.trans hle3)) (hsl.le hle3) ((hT.le hle2).le hle3)
end Go.Proofs.Ytmnilbfhfjdelaa.core

namespace Go.Proofs.Ytmnilbfhfjdelaa.core
open Go.Gx Go.RowKit Go.ChangeShapes Go.WideShapes Go.ChangeAt
set_option linter.unusedVariables false
theorem mfw_f {P:Program} {fv:Value} {args:List Value} {M:Mem} {K:Value->Mem->Prop} (h:CallFW P fv args M (λ_=>False) K):CallF P fv args M K:=by
 obtain⟨f,fn,first,caps,h1,h2,h3,h4,h5⟩:=h
 exact⟨f,fn,first,caps,h1,h2,h3,h4,h5.toE⟩
theorem grow_is {n:Int} {M:Mem} (h0:0<=n) (h1:n<=100000000) (K:Nat->List Value->Mem->Prop) (hK:K 0 [] M):S_slices_Grow_Expr n M K:=by
 unfold S_slices_Grow_Expr
 exact⟨λh=>by omega,λ_=>⟨by unfold InI;omega,by unfold InI;omega,λhp=>⟨by omega,by omega,by omega,by omega,by simpa using hK⟩,λ_=>hK⟩⟩
theorem len_flat {M:Mem} {xss:List (List X_api_Expr)} {ys:List Sl3} (hx:All2 (λxs y=>SlV M y.a y.l y.c 7 (cl X_api_Expr.cells xs)/\y.l<=100) xss ys):∀i,(xss.take i).flatten.length<=100*i:=by
 induction xss generalizing ys with
 |nil=>intro i;simp
 |cons a r ih=>
  obtain⟨y,r',rfl,h1,h2⟩:=hx
  intro i
  cases i with
  |zero=>simp
  |succ i=>
   have:=ih h2 i
   have hl:=h1.1.len Xe_len (by omega)
   rw[List.take_succ_cons,List.flatten_cons,List.length_append]
   have:=h1.2
   omega
theorem concatE_is {A:Option Addr} {l c:Nat} {M:Mem} {ys:List Sl3} {xss:List (List X_api_Expr)} (h:SlV M A l c 1 (cl slC ys)) (hx:All2 (λxs y=>SlV M y.a y.l y.c 7 (cl X_api_Expr.cells xs)/\y.l<=100) xss ys) (hn:l<=10) (K:Nat->List Value->Mem->Prop) (hK:K xss.flatten.length (cl X_api_Expr.cells xss.flatten) M):S_slices_Concat_Expr A l c M K:=by
 have hyl:=h.len slC1 (by omega)
 have hxl:=hx.length
 have hfl:=len_flat hx
 subst hyl
 unfold S_slices_Concat_Expr
 refine⟨λsize i=>0<=i/\i<=ys.length/\0<=size/\size<=100*i,λ_ i=>ys.length-i.toNat,⟨by omega,by omega,by omega,by omega⟩,λsize i ⟨i0,i1,s0,s1⟩=>⟨λhlt=>?_,λhge=>?_⟩⟩
 ·obtain⟨y,hy⟩:=getI (l:=ys) i0 hlt
  obtain⟨b,o,ha,hat⟩:=h.at slC1 rfl hy
  obtain⟨xs,hxs⟩:=getI (l:=xss) i0 (by omega)
  have hr:=hx.get' hxs hy
  have h2:=hr.2
  exact⟨b,o,ha,i0,hlt,y.a,y.l,y.c,hat,by unfold InI;omega,λh=>by omega,λ_=>⟨by unfold InI;omega,⟨by omega,by omega,by omega,by omega⟩,by dsimp only;omega⟩⟩
 ·refine s_slices_Grow_Expr _ _ _ (grow_is s0 (by omega) _ ?_)
  refine⟨λi rn rx=>0<=i/\i<=ys.length/\rn=(xss.take i.toNat).flatten.length/\rx=cl X_api_Expr.cells (xss.take i.toNat).flatten,λi _ _=>ys.length-i.toNat,⟨by omega,by omega,rfl,rfl⟩,λi rn rx ⟨i0,i1,e1,e2⟩=>⟨λhlt=>?_,λhge=>?_⟩⟩
  ·obtain⟨y,hy⟩:=getI (l:=ys) i0 hlt
   obtain⟨b,o,ha,hat⟩:=h.at slC1 rfl hy
   obtain⟨xs,hxs⟩:=getI (l:=xss) i0 (by omega)
   have hr:=hx.get' hxs hy
   have h2:=hr.2
   have hl:=hr.1.len Xe_len (by omega)
   have hb:=hfl i.toNat
   refine⟨b,o,ha,i0,hlt,y.a,y.l,y.c,hat,_,hr.1,cl_one' Xe_one _,by omega,by unfold InI;omega,⟨by omega,by omega,?_,?_⟩,by dsimp only;omega⟩
   ·rw[show(i+1).toNat=i.toNat+1 by omega,take_get hxs,List.flatten_append,List.length_append,e1];simp;omega
   ·rw[show(i+1).toNat=i.toNat+1 by omega,take_get hxs,List.flatten_append,cl_append,e2];simp
  ·rw[List.take_of_length_le (by omega)]at e1 e2
   subst e1 e2
   exact hK
theorem without_is {la:Option Addr} {ll lc:Nat} {i:Int} {M:Mem} {xs:List X_api_Expr} {K:Value->Mem->Prop} (h:SlV M la ll lc 7 (cl X_api_Expr.cells xs)) (h8:ll<=8) (h0:0<=i) (hi:i<(ll:Int)) (hK:∀M' A n c,M.le M'->SlV M' A n c 7 (cl X_api_Expr.cells (xs.take i.toNat++xs.drop (i.toNat+1)))->K (.slice A n c) M'):S_chaffref_Without la ll lc i M K:=by
 have hc:=h.2.1
 have hl:=h.len Xe_len (by omega)
 unfold S_chaffref_Without
 refine⟨h0,by omega,by unfold InI;omega,by omega,by omega,λM1 ad cap hle hsl=>?_⟩
 have e:(i+1).toNat=i.toNat+1:=by omega
 rw[e]at hsl
 have f1:=(h.le hle).first i.toNat (by omega)
 have f2:=(h.le hle).rest (i.toNat+1) (by omega)
 rw[cl_take Xe_len]at f1
 rw[cl_drop Xe_len]at f2
 refine s_slices_Concat_Expr _ _ _ _ _ (concatE_is (ys:=[⟨la,i.toNat,lc⟩,⟨slA la (i.toNat+1) lc 7,ll-(i.toNat+1),lc-(i.toNat+1)⟩]) (xss:=[xs.take i.toNat,xs.drop (i.toNat+1)]) hsl ⟨_,_,rfl,⟨f1,by show i.toNat<=100;omega⟩,_,_,rfl,⟨f2,by show ll-(i.toNat+1)<=100;omega⟩,rfl⟩ (by omega) _ ?_)
 intro M2 A c hle2 hsl2 M3 hle3
 have e0:[xs.take i.toNat,xs.drop (i.toNat+1)].flatten=xs.take i.toNat++xs.drop (i.toNat+1):=by simp
 rw[e0]at hsl2 ⊢
 exact hK M3 A _ c (hle.trans (hle2.trans hle3)) (hsl2.le hle3)
theorem lm3 {k:Int} (h:k=8\/k=10\/k=11):lm ([(8,7),(10,11),(11,10)]:List (Int×Int)) 0 k=if k=8 then 7 else if k=10 then 11 else 10:=by
 rcases h with rfl|rfl|rfl<;>rfl
theorem rturns_is {e:Ex} {x:X_api_Expr} {M:Mem} {L:Nat->Prop} {K:Value->Mem->Prop} (hR:ExR M e x) (h8:e.kids.length<=8) (h1:e.kind=7\/e.kind=9->e.kids≠[]) (hK:∀M' A n c rx,M.le M'->SlV M' A n c 7 rx->TnR M' (turnsE e) n rx->K (.slice A n c) M'):S_chaffref_Turns x M L K:=by
 obtain⟨xs,hx⟩:=hR.open
 obtain⟨k,s,t,ks⟩:=e
 have hkind:=hx.kind
 have hlen:=hx.len
 have hk0:=hx.hk
 have hxl:=hx.xl
 simp only[Ex.kind,Ex.kids]at hkind hlen hk0 h8 h1 hxl
 rw[turnsE]at hK
 have one:∀{M1 M2:Mem} {e':Ex} {y:X_api_Expr} {ad cap},M.le M1->ExR M1 e' y->NewRow M1 M2 117 7 ad 1 cap y.cells->(∀M' A n c rx,M.le M'->SlV M' A n c 7 rx->TnR M' [e'] n rx->K (.slice A n c) M')->∀M',M2.le M'->K (.slice ad 1 cap) M':=λhle hy hN hK M' hle'=>
  hK M' _ _ _ _ (hle.trans (hN.le.trans hle')) (hN.slv.le hle') ⟨[_],rfl,(cl_one _).symm,_,_,rfl,hy.le (hN.le.trans hle'),rfl⟩
 have two:∀(i:Int),0<=i->i<(ks.length:Int)->∃k',ks[i.toNat]?=some k':=λi a b=>getI a b
 unfold S_chaffref_Turns
 rw[hkind]
 refine⟨λh2 b M1 hb hM1=>?_,λh2=>?_⟩
 ·rw[if_pos h2]at hK
  have hs:=hx.hs
  simp only[Ex.set]at hs
  have hset:x.Set=s:=hx.set
  have hle1:M.le M1:=by rw[hM1];exact Mem.add_le hb
  have e1:M1 b=some (.cells x.cells.toArray 117 (0,0)):=by rw[hM1,<-hkind];exact Mem.add_eq
  refine s_chaffref_Where _ _ _ (where_is _ _ (λb=> !bitS s b) (λy hy=>mfw_f (f_chaffref_Turns_1 _ _ _ _ _ ?_)) _ ⟨compS s,rfl,λM2 ad cap hN=>one hle1 (ExR.make (xs:=[]) (by decide) (Us_wf _) (by simp) (slvE_nil _ 7) (show All2 (ExR M1) [] [] from rfl)) hN hK⟩)
  unfold S_chaffref_Turns_1
  refine⟨x.Set,(At.blk e1).part 1 _ rfl,s_chaffref_Has _ _ _ _ (rhas_is (by rw[hset];exact hs) hy _ ⟨_,rfl,λM2 _=>by rw[hset]⟩)⟩
 rw[if_neg h2]at hK
 have j1:k=7\/k=9->S_chaffref_Turns_J1 x M true K:=by
  intro h79
  rw[if_neg (by omega),if_neg (by omega),if_pos h79]at hK
  have hne:0<ks.length:=List.length_pos_iff.2 (h1 h79)
  obtain⟨k',hk'⟩:=two 0 (by omega) (by omega)
  obtain⟨b,o,y,ha,hat,hy,_⟩:=hx.kid hk'
  unfold S_chaffref_Turns_J1
  refine⟨λ_=>⟨b,o,ha,by omega,by rw[hlen];omega,y,hat,λM1 ad cap hN=>one (Mem.le.refl M) hy hN ?_⟩,λh=>absurd rfl h⟩
  have:ks.take 1=[k']:=by
   cases ks with
   |nil=>cases hne
   |cons a r=>simp at hk';subst hk';rfl
  rw[this]at hK
  exact hK
 refine⟨λh7=>(by rw[h7];exact j1 (.inl h7)),λh7=>?_⟩
 by_cases h9:k=9
 ·rw[h9];exact j1 (.inr h9)
 have hb:((k:Int)==(9:Int))=false:=by simpa using h9
 rw[hb]
 have j2:k=8\/k=10\/k=11->S_chaffref_Turns_J2 x M true K:=by
  intro h
  rw[if_neg (by omega),if_neg (by omega),if_neg (by omega)]at hK
  unfold S_chaffref_Turns_J2
  refine⟨λ_ M1 r hr hM1 _ M2 hM2 M3 hM3 M4 hM4=>?_,λh=>absurd rfl h⟩
  have hle1:M.le M1:=by rw[hM1];exact Mem.add_le hr
  have hle4:M.le M4:=hM4.le hr (hM3.le hr (hM2.le hr hle1))
  rw[hkind,lm3 h]
  refine⟨by unfold InI;omega,λM5 ad cap hN=>one (e':=.mk (if k=8 then 7 else if k=10 then 11 else 10) z4 [] ks) hle4 (ExR.make (by split;decide;split<;>decide) wf_z4 (by simp) (hx.sl.le hle4) (All2.le hx.kids hle4)) hN ?_⟩
  rcases h with rfl|rfl|rfl<;>simpa using hK
 unfold S_chaffref_Turns_J1
 refine⟨λh=>absurd h (by decide),λ_=>?_⟩
 rw[hkind]
 refine⟨λh8'=>(by rw[h8'];exact j2 (.inl h8')),λh8'=>⟨λh10=>(by rw[h10];exact j2 (.inr (.inl h10))),λh10=>?_⟩⟩
 by_cases h11:k=11
 ·rw[h11];exact j2 (.inr (.inr h11))
 have hb:((k:Int)==(11:Int))=false:=by simpa using h11
 rw[hb]
 unfold S_chaffref_Turns_J2
 refine⟨λh=>absurd h (by decide),λ_=>?_⟩
 rw[hkind]
 have j5:k=6->∀n rx M1,M.le M1->TnR M1 ((List.range ks.length).map λi=>lessE k (lessL ks i)) n rx->S_chaffref_Turns_J5 x n rx M1 K:=by
  intro h6 n rx M1 hle hT
  rw[if_neg (by omega),if_pos h6]at hK
  unfold S_chaffref_Turns_J5
  rw[hkind]
  refine⟨λ_=>?_,λh=>absurd h6 h⟩
  refine⟨Unit,λ_ i n rx M'=>0<=i/\i<=ks.length/\M.le M'/\TnR M' ((List.range ks.length).map (λi=>lessE k (lessL ks i))++(List.range i.toNat).map λi=>.mk 6 z4 [] (swapL ks i)) n rx/\(i=0\/i<ks.length),λ_ i _ _=>ks.length-i.toNat,(),⟨by omega,by omega,hle,by simpa using hT,by omega⟩,λ_ i n rx M2 ⟨i0,i1,hle2,hT2,i2⟩=>⟨by unfold InI;omega,λhlt=>?_,λhge=>?_⟩⟩
  ·rw[hlen]at hlt
   have hn:=hT2.len
   rw[List.length_append,List.length_map,List.length_range,List.length_map,List.length_range]at hn
   obtain⟨xs2,hx2⟩:=(hR.le hle2).open
   have hxl2:=hx2.xl
   simp only[Ex.kids]at hxl2
   obtain⟨p,hp⟩:=two (i+1) (by omega) (by omega)
   obtain⟨q,hq⟩:=two i (by omega) (by omega)
   obtain⟨b1,o1,y,ha1,hat1,hyr,hy⟩:=hx2.kid hp
   obtain⟨b2,o2,z,ha2,hat2,hzr,hz⟩:=hx2.kid hq
   have hcap:=hx.sl.2.1
   have e1:(i+1).toNat=i.toNat+1:=by omega
   have e2:(i+2).toNat=i.toNat+2:=by omega
   refine⟨i0,by omega,by unfold InI;omega,b1,o1,ha1,by omega,by omega,y,hat1,b2,o2,ha2,i0,by omega,z,hat2,by unfold InI;omega,by omega,by omega,λM3 ad3 cap3 hN3 M4 ad4 cap4 hN4=>?_⟩
   have hle3:=hN3.le
   have hle4:=hN4.le
   have f1:=(((hx2.sl.le hle3).le hle4)).first i.toNat (by omega)
   have f2:=(((hx2.sl.le hle3).le hle4)).rest (i.toNat+2) (by omega)
   rw[cl_take Xe_len]at f1
   rw[cl_drop Xe_len]at f2
   have f0:SlV M4 ad3 2 cap3 7 (cl X_api_Expr.cells [y,z]):=hN3.slv.le hle4
   rw[e2]at hN4
   refine s_slices_Concat_Expr _ _ _ _ _ (concatE_is (ys:=[⟨x.Kids_a,i.toNat,x.Kids_c⟩,⟨ad3,2,cap3⟩,⟨slA x.Kids_a (i.toNat+2) x.Kids_c 7,x.Kids_l-(i.toNat+2),x.Kids_c-(i.toNat+2)⟩]) (xss:=[xs2.take i.toNat,[y,z],xs2.drop (i.toNat+2)]) hN4.slv
    ⟨_,_,rfl,⟨f1,by show i.toNat<=100;omega⟩,_,_,rfl,⟨f0,by show 2<=100;omega⟩,_,_,rfl,⟨f2,by show x.Kids_l-(i.toNat+2)<=100;omega⟩,rfl⟩ (by omega) _ ?_)
   intro M5 ad5 cap5 hN5
   have hsl:=hN5.slv
   have hle5:=hN5.le
   have hle25:=hle3.trans (hle4.trans hle5)
   refine⟨by omega,by unfold InI;omega,(),⟨by omega,by omega,hle2.trans hle25,?_,by omega⟩,by dsimp only;omega⟩
   rw[e1,List.range_succ,List.map_append,<-List.append_assoc]
   refine(hT2.le hle25).snoc' (ExR.make (k:=6) (ks:=swapL ks i.toNat) (by decide) wf_z4 (by simp) hsl (All2.le ?_ hle25))
   have hsw:∀{α:Type} (l:List α) (n:Nat) (a b:α),l[n+1]?=some a->l[n]?=some b->(l.set n a).set (n+1) b=l.take n++[a,b]++l.drop (n+2):=by
    intro α l
    induction l with
    |nil=>intro n a b h;simp at h
    |cons c r ih=>
     intro n a b ha hb
     cases n with
     |zero=>
      cases r with
      |nil=>simp at ha
      |cons d r=>simp at ha hb ⊢
     |succ n=>
      have:=ih n a b (by simpa using ha) (by simpa using hb)
      simp only[List.set_cons_succ,List.take_succ_cons,List.drop_succ_cons,List.cons_append]
      rw[this]
   have:swapL ks i.toNat=ks.take i.toNat++[p,q]++ks.drop (i.toNat+2):=by
    unfold swapL
    rw[hq,<-e1,hp]
    rw[e1]at hp
    simp only[e1]
    exact hsw ks _ _ _ hp hq
   rw[this]
   simp only[List.flatten_cons,List.flatten_nil,List.append_nil,<-List.append_assoc]
   exact((hx2.kids.take _).append (show All2 (ExR M2) [p,q] [y,z] from⟨_,_,rfl,hyr,_,_,rfl,hzr,rfl⟩)).append (hx2.kids.drop _)
  ·rw[hlen]at hge
   intro M3 ad cap hN M4 hle4
   have:i.toNat=ks.length-1:=by omega
   rw[this]at hT2
   exact hK M4 ad _ cap _ (hle2.trans (hN.le.trans hle4)) (hN.slv.le hle4) (hT2.le (hN.le.trans hle4))
 have j5':k≠6->(turnsE (.mk k s t ks))=turnsE (.mk k s t ks)->∀n rx M1,M.le M1->TnR M1 (turnsE (.mk k s t ks)) n rx->S_chaffref_Turns_J5 x n rx M1 K:=by
  intro h6 _ n rx M1 hle hT
  unfold S_chaffref_Turns_J5
  rw[hkind]
  refine⟨λh=>absurd h h6,λ_ M2 ad cap hN M3 hle3=>?_⟩
  have:=hT.le (hN.le.trans hle3)
  rw[turnsE,if_neg h2]at this
  exact hK M3 _ _ _ _ (hle.trans (hN.le.trans hle3)) (hN.slv.le hle3) this
 have j3:k=5\/k=6->S_chaffref_Turns_J3 x M true K:=by
  intro h56
  unfold S_chaffref_Turns_J3
  refine⟨λ_=>?_,λh=>absurd rfl h⟩
  refine⟨Unit,λ_ i n rx M'=>0<=i/\i<=ks.length/\M.le M'/\TnR M' ((List.range i.toNat).map λi=>lessE k (lessL ks i)) n rx,λ_ i _ _=>ks.length-i.toNat,(),⟨by omega,by omega,Mem.le.refl M,TnR.nil M⟩,λ_ i n rx M1 ⟨i0,i1,hle,hT⟩=>⟨λhlt=>?_,λhge=>?_⟩⟩
  ·rw[hlen]at hlt
   have hn:=hT.len
   rw[List.length_map,List.length_range]at hn
   obtain⟨xs1,hx1⟩:=(hR.le hle).open
   have hxl1:=hx1.xl
   simp only[Ex.kids]at hxl1
   refine s_chaffref_Without _ _ _ _ _ _ (without_is hx1.sl (by omega) i0 (by omega) λM2 A n2 c hle2 hsl=>⟨A,n2,c,rfl,?_⟩)
   have hall:All2 (ExR M2) (lessL ks i.toNat) (xs1.take i.toNat++xs1.drop (i.toNat+1)):=All2.le ((hx1.kids.take i.toNat).append (hx1.kids.drop (i.toNat+1))) hle2
   have hl2:=hsl.len Xe_len (by omega)
   have hll:=hall.length
   have j4:∀n' rx',TnR M2 ((List.range i.toNat).map (λi=>lessE k (lessL ks i))++[lessE k (lessL ks i.toNat)]) n' rx'->S_chaffref_Turns_J4 i n rx Unit () (λ_ i n rx M'=>0<=i/\i<=ks.length/\M.le M'/\TnR M' ((List.range i.toNat).map λi=>lessE k (lessL ks i)) n rx) (λ_ i _ _=>ks.length-i.toNat) n' rx' M2 K:=λn' rx' h=>⟨by unfold InI;omega,(),⟨by omega,by omega,hle.trans hle2,by rw[show(i+1).toNat=i.toNat+1 by omega,List.range_succ,List.map_append];exact h⟩,by dsimp only;omega⟩
   refine⟨λh1'=>?_,λh1'=>⟨by omega,j4 _ _ ?_⟩⟩
   ·match hL:lessL ks i.toNat,hY:(xs1.take i.toNat++xs1.drop (i.toNat+1)),hall with
    |[w],ys,hall=>
     obtain⟨v,ys',hv,hvr,hnil⟩:=hall
     rw[hL]at hll
     rw[hY]at hsl hl2 hll
     obtain⟨b,o,ha,hat⟩:=hsl.at Xe_len hl2 (i:=0) (x:=v) (by rw[hv];rfl)
     refine⟨b,o,ha,by omega,by omega,v,hat,by omega,j4 _ _ ?_⟩
     rw[hL]
     exact(hT.le hle2).snoc' hvr
    |[],_,_=>rw[hL]at hll;rw[<-hl2,hll]at h1';simp at h1'
    |_::_::_,_,_=>rw[hL]at hll;rw[<-hl2,hll]at h1';simp at h1';omega
   ·have hl:lessE k (lessL ks i.toNat)= .mk k z4 [] (lessL ks i.toNat):=by
     have:(lessL ks i.toNat).length≠1:=by omega
     unfold lessE
     split
     ·rename_i h;rw[h]at this;exact absurd rfl this
     ·rfl
    rw[hl,hkind]
    exact(hT.le hle2).snoc' (ExR.make (k:=k) hk0 wf_z4 (by simp) hsl hall)
  ·rw[hlen]at hge
   have hi:i.toNat=ks.length:=by omega
   rw[hi]at hT
   rcases h56 with h5|h6
   ·refine j5' (by omega) rfl _ _ _ hle ?_
    rw[turnsE,if_neg h2,if_pos h5];exact hT
   ·exact j5 h6 _ _ _ hle hT
 refine⟨λh5=>(by rw[h5];exact j3 (.inl h5)),λh5=>?_⟩
 by_cases h6:k=6
 ·rw[h6];exact j3 (.inr h6)
 have hb:((k:Int)==(6:Int))=false:=by simpa using h6
 rw[hb]
 unfold S_chaffref_Turns_J3
 refine⟨λh=>absurd h (by decide),λ_=>j5' h6 rfl _ _ _ (Mem.le.refl M) ?_⟩
 rw[turnsE,if_neg h2,if_neg h5,if_neg h6,if_neg (by omega),if_neg h8',if_neg h10,if_neg h11]
 exact TnR.nil M
end Go.Proofs.Ytmnilbfhfjdelaa.core

namespace Go.Proofs.Ytmnilbfhfjdelaa.core
open Go.Gx Go.RowKit Go.ChangeShapes Go.WideShapes Go.ChangeAt
set_option linter.unusedVariables false
mutual
def dpE:Ex->Nat
 | .mk _ _ _ ks=>1+dpEs ks
def dpEs:List Ex->Nat
 |[]=>0
 |k::ks=>max (dpE k) (dpEs ks)
end
mutual
theorem lk_dp:∀(e:Ex) (d n:Int),(lkE d n e).1=0->d+dpE e<=13
 | .mk k s t ks,d,n,h=>by
  unfold lkE at h
  split at h
  ·cases h
  ·split at h
   ·cases h
   ·split at h
    ·cases h
    ·have:=lks_dp ks (d+1) (n+1) h (by omega)
     rw[dpE];omega
theorem lks_dp:∀(ks:List Ex) (d n:Int),(lkEs d n ks).1=0->d<=13->d+dpEs ks<=13
 |[],d,n,_,hd=>by rw[dpEs];omega
 |k::ks,d,n,h,hd=>by
  rw[lkEs]at h
  split at h
  ·rename_i hne;exact absurd h hne
  ·rename_i he
   have he:(lkE d n k).1=0:=by simpa using he
   have h1:=lk_dp k d n he
   have h2:=lks_dp ks d _ h hd
   rw[dpEs];omega
end
mutual
theorem pre_full:∀(e:Ex) (d:Int),d+dpE e<=13->few e->(preE d e).map (·.1)=flatE e
 | .mk k s t ks,d,hd,hf=>by
  rw[dpE]at hd
  obtain⟨h8,hk⟩:=few_kids hf
  rw[preE,if_pos ⟨by omega,h8⟩,flatE,List.map_cons,pres_full ks (d+1) (by omega) hk]
theorem pres_full:∀(ks:List Ex) (d:Int),d+dpEs ks<=13->(∀x∈ks,few x)->(preEs d ks).map (·.1)=flatEs ks
 |[],d,_,_=>by rw[preEs,flatEs];rfl
 |k::ks,d,hd,hk=>by
  rw[dpEs]at hd
  rw[preEs,flatEs,List.map_append,pre_full k d (by omega) (hk k (by simp)),pres_full ks d (by omega) λx hx=>hk x (by simp[hx])]
end
theorem dp_kid {e k:Ex} (h:k∈e.kids):dpE k<dpE e:=by
 obtain⟨a,s,t,ks⟩:=e
 simp only[Ex.kids]at h
 rw[dpE]
 induction ks with
 |nil=>cases h
 |cons x r ih=>
  rw[dpEs]
  rcases List.mem_cons.1 h with rfl|h
  ·omega
  ·have:=ih h;omega
theorem nodes_full {e:Ex} {x:X_api_Expr} {M:Mem} {K:Value->Mem->Prop} (hR:ExR M e x) (h8:few e) (hd:dpE e<=12) (h60:(flatE e).length<=60)
  (hK:∀(M':Mem) (A:Option Addr) (c:Nat) (xs:List X_chaffref_Node),M.le M'->SlV M' A xs.length c 8 (cl X_chaffref_Node.cells xs)->xs.length=(flatE e).length->(∀(i:Nat) q y,(flatE e)[i]?=some q->xs[i]?=some y->ExR M' q y.Expr)->K (.slice A xs.length c) M'):S_chaffref_Nodes x M K:=by
 refine nodes_is e x M K hR λM' A c xs hle hsl hall=>?_
 have hm:=pre_full e 1 (by omega) h8
 have hl:(preE 1 e).length=(flatE e).length:=by rw[<-hm,List.length_map]
 rw[List.take_of_length_le (by omega)]at hall
 have hxl:=hall.length
 refine hK M' A c xs hle hsl (by omega) λi q y hq hy=>?_
 rw[<-hm,List.getElem?_map]at hq
 obtain⟨p,hp,rfl⟩:=Option.map_eq_some_iff.1 hq
 exact(hall.get' hp hy).1
theorem put_step (k:Ex) (rest:List Ex) (r:Int) (y:Ex):(if 0<=r then putEs (k::rest) r.toNat y else k::rest)=(if 0<=r/\r<((flatE k).length:Int) then putE k r.toNat y else k)::(if 0<=r-(flatE k).length then putEs rest (r-(flatE k).length).toNat y else rest):=by
 by_cases h0:0<=r
 ·rw[if_pos h0,putEs]
  by_cases hr:r<((flatE k).length:Int)
  ·rw[if_pos (by omega),if_pos ⟨h0,hr⟩,if_neg (by omega)]
  ·rw[if_neg (by omega),if_neg (by omega),if_pos (by omega)]
   congr 2;omega
 ·rw[if_neg h0,if_neg (by omega),if_neg (by omega)]
theorem rput_is:∀(m:Nat) (e:Ex),SizeOf.sizeOf e<m->few e->dpE e<=12->(flatE e).length<=60->∀{M:Mem} {x z:X_api_Expr} {y:Ex} {n:Nat} {K:Value->Mem->Prop},n<=1000->ExR M e x->ExR M y z->(∀M' w,M.le M'->ExR M' (putE e n y) w->K w.val M')->S_chaffref_Put x n z M K:=by
 intro m
 induction m with
 |zero=>intro e h;omega
 |succ m ih=>
  intro e hm h8 hd h60 M x z y n K hn hR hz hK
  obtain⟨k,s,t,ks⟩:=e
  have hk8:=(few_kids h8).1
  obtain⟨xs0,hx⟩:=hR.open
  have hlen:=hx.len
  simp only[Ex.kids]at hlen
  rw[putE]at hK
  unfold S_chaffref_Put
  refine⟨λh0 M' hle=>hK M' z hle (by rw[if_pos (by omega)];exact hz.le hle),λh0=>⟨by unfold InI;omega,?_⟩⟩
  rw[if_neg (by omega)]at hK
  refine⟨λr i rn rx M'=>0<=i/\i<=ks.length/\M.le M'/\r<=1000/\ -100*i<=r/\∃gs,TnR M' gs rn rx/\gs.length=i.toNat/\gs++(if 0<=r then putEs (ks.drop i.toNat) r.toNat y else ks.drop i.toNat)=putEs ks (n-1) y,λ_ i _ _=>ks.length-i.toNat,⟨by omega,by omega,Mem.le.refl M,by omega,by omega,[],TnR.nil M,rfl,?_⟩,λr i rn rx M1 ⟨i0,i1,hle,r1,r0,gs,hT,hgl,he⟩=>⟨λhlt=>?_,λhge=>?_⟩⟩
  ·rw[if_pos (by omega),List.nil_append]
   congr 1
   omega
  ·rw[hlen]at hlt
   obtain⟨k',hk'⟩:=getI (l:=ks) i0 hlt
   obtain⟨xs1,hx1⟩:=(hR.le hle).open
   obtain⟨b,o,w,ha,hat,hw,_⟩:=hx1.kid hk'
   have hmem:k'∈(Ex.mk k s t ks).kids:=List.mem_of_getElem? hk'
   have hf':few k':=λq hq=>h8 q (flatE_kid hmem q hq)
   have hd':=dp_kid hmem
   have hs':=flatE_kidlen hmem
   rw[drop_get hk',put_step]at he
   have hn:=hT.len
   refine⟨b,o,ha,i0,by rw[hlen];exact hlt,w,hat,s_chaffref_Nodes _ _ _ (nodes_full hw hf' (by omega) (by omega) λM2 A c ns hle2 hsl hnl _=>⟨A,ns.length,c,rfl,?_⟩)⟩
   have j2:∀(M3:Mem) (g:Ex) (v:X_api_Expr),M2.le M3->ExR M3 g v->g=(if 0<=r/\r<((flatE k').length:Int) then putE k' r.toNat y else k')->S_chaffref_Put_J2 r i rn rx (λr i rn rx M'=>0<=i/\i<=ks.length/\M.le M'/\r<=1000/\ -100*i<=r/\∃gs,TnR M' gs rn rx/\gs.length=i.toNat/\gs++(if 0<=r then putEs (ks.drop i.toNat) r.toNat y else ks.drop i.toNat)=putEs ks (n-1) y) (λ_ i _ _=>ks.length-i.toNat) ns.length v.Kind v.Set.w0 v.Set.w1 v.Set.w2 v.Set.w3 v.Text v.Kids_a v.Kids_l v.Kids_c M3 K:=by
    intro M3 g v hle3 hv hg
    unfold S_chaffref_Put_J2
    refine⟨by unfold InI;omega,by omega,by unfold InI;omega,⟨by omega,by omega,hle.trans (hle2.trans hle3),by omega,by omega,gs++[g],((hT.le (hle2.trans hle3)).snoc' hv),by simp;omega,?_⟩,by dsimp only;omega⟩
    rw[show(i+1).toNat=i.toNat+1 by omega,hnl,hg,List.append_assoc,List.singleton_append]
    exact he
   have j1:∀v:Bool,(v=true↔0<=r/\r<((flatE k').length:Int))->S_chaffref_Put_J1 z r i rn rx (λr i rn rx M'=>0<=i/\i<=ks.length/\M.le M'/\r<=1000/\ -100*i<=r/\∃gs,TnR M' gs rn rx/\gs.length=i.toNat/\gs++(if 0<=r then putEs (ks.drop i.toNat) r.toNat y else ks.drop i.toNat)=putEs ks (n-1) y) (λ_ i _ _=>ks.length-i.toNat) w ns.length M2 v K:=by
    intro v hv
    unfold S_chaffref_Put_J1
    refine⟨λh=>?_,λh=>j2 M2 k' w (Mem.le.refl M2) (hw.le hle2) (by rw[if_neg (λh'=>h (hv.2 h'))])⟩
    have hb:=hv.1 h
    have er:((r.toNat:Nat):Int)=r:=by omega
    rw[<-er]
    refine s_chaffref_Put _ _ _ _ _ (ih k' (by have:=Ex.kid_lt hmem;omega) hf' (by omega) (by omega) (by omega) (hw.le hle2) (hz.le (hle.trans hle2)) λM3 v3 hle3 hv3=>⟨v3,rfl,?_⟩)
    rw[er]
    exact j2 M3 _ v3 hle3 hv3 (by rw[if_pos hb])
   refine⟨λh=>j1 _ ?_,λh=>j1 _ ?_⟩
   ·rw[decide_eq_true_iff,hnl];omega
   ·constructor
    ·intro h';cases h'
    ·intro h';omega
  ·rw[hlen]at hge
   have hi:i.toNat=ks.length:=by omega
   intro M2 ad cap hle2 hsl M3 hle3
   obtain⟨ys,rfl,rfl,hall⟩:=hT
   have hd0:ks.drop i.toNat=[]:=List.drop_of_length_le (by omega)
   rw[hd0]at he
   have he:gs=putEs ks (n-1) y:=by
    rw[<-he];split
    ·rw[putEs];simp
    ·simp
   subst he
   have hkind:=hx.kind
   have hset:=hx.set
   have htext:=hx.text
   simp only[Ex.kind,Ex.set,Ex.text]at hkind hset htext
   rw[hkind,hset,htext]
   exact hK M3 _ (hle.trans (hle2.trans hle3)) (ExR.make hx.hk hx.hs hx.ht (hsl.le hle3) (All2.le hall (hle2.trans hle3)))
end Go.Proofs.Ytmnilbfhfjdelaa.core

namespace Go.Proofs.Ytmnilbfhfjdelaa.core
open Go.Gx Go.RowKit Go.ChangeShapes Go.WideShapes Go.ChangeAt
set_option linter.unusedVariables false
theorem putAt_cons {L:List Value} {k:Nat} {v:Value} (w:List Value) (h:L[k]?=some v):putAt L (k+1) w=putAt L k (v::w):=by
 unfold putAt
 rw[take_get h,List.length_cons,show k+1+w.length=k+(w.length+1) by omega]
 simp
theorem put_body {xs:List X_api_Rule} {i:Nat} {x:X_api_Rule} (w:X_api_Expr) (h:xs[i]?=some x):putAt (cl X_api_Rule.cells xs) (0+i*8+1) w.cells=cl X_api_Rule.cells (xs.set i ⟨x.Name,w⟩):=by
 rw[putAt_cons (v:=.string (mkS x.Name)) _ (by
  have h1:=cl_Cs (f:=X_api_Rule.cells) Xr_len h
  unfold Cs at h1
  have h2:=congrArg (λl=>l[0]?) h1
  simpa[X_api_Rule.cells,List.getElem?_take]using h2)]
 exact cl_put Xr_len (⟨x.Name,w⟩:X_api_Rule) (List.getElem?_eq_some_iff.1 h).1
theorem Xr_one (x:X_api_Rule):∀u∈x.cells,u.oneCell'=true:=by
 intro u hu
 simp only[X_api_Rule.cells,List.mem_cons,List.not_mem_nil,or_false]at hu
 rcases hu with rfl|rfl|rfl|rfl|rfl|rfl|rfl|rfl<;>rfl
theorem rclone_is {rs:List Ru} {ga:Option Addr} {gl gc:Nat} {M:Mem} (hg:GrR M rs ga gl gc) (h10:rs.length<=10) (h0:0<rs.length) (K:Nat->List Value->Mem->Prop) (hK:∀xs,All2 (RuR M) rs xs->K rs.length (cl X_api_Rule.cells xs) M):S_slices_Clone_Rule ga gl gc M K:=by
 obtain⟨xs,hsl,hall,rfl⟩:=hg
 unfold S_slices_Clone_Rule
 refine⟨λhn=>?_,λ_=>⟨_,hsl,cl_one' Xr_one _,by omega,by rw[Nat.zero_add,List.nil_append];exact hK xs hall⟩⟩
 obtain⟨b,o,e,_⟩:=hsl.2.2.2 h0
 rw[e]at hn;cases hn
def nodR (rs:List Ru) (r:Ru) (i:Nat) (p:Ex×Nat):List (List Ru):=(turnsE p.1).map λy=>rs.set i ⟨r.name,putE r.body p.2 y⟩
theorem zs_z4 {s:X_api_Set} (h:zs s=true):s=z4:=by
 obtain⟨a,b,c,d⟩:=s
 unfold zs cellsEq at h
 simp at h
 obtain⟨rfl,rfl,rfl,rfl⟩:=h
 rfl
theorem zip_mem {α:Type} {l:List α} {p:α×Nat} (h:p∈l.zipIdx 0):p.1∈l:=by
 obtain⟨i,hi⟩:=List.mem_iff_getElem?.1 h
 rw[List.getElem?_zipIdx]at hi
 obtain⟨a,ha,rfl⟩:=Option.map_eq_some_iff.1 hi
 exact List.mem_of_getElem? ha
theorem exwf_flat {M:Mem} {e:Ex} {x:X_api_Expr} (h:ExR M e x):∀q∈flatE e,wfS q.set:=by
 induction h with
 | @mk k s t A c ks xs hk hs ht hv hl hks ih=>
  intro q hq
  rw[flatE]at hq
  rcases List.mem_cons.1 hq with rfl|hq
  ·exact hs
  have key:∀l:List Ex,(∀x∈l,x∈ks)->q∈flatEs l->wfS q.set:=by
   intro l
   induction l with
   |nil=>intro _ h;rw[flatEs]at h;cases h
   |cons a r iht=>
    intro hsub h'
    rw[flatEs]at h'
    rcases List.mem_append.1 h' with h'|h'
    ·obtain⟨i,hi⟩:=List.mem_iff_getElem?.1 (hsub a (by simp))
     have hil:=(List.getElem?_eq_some_iff.1 hi).1
     exact ih i a (xs[i]'(by omega)) hi (List.getElem?_eq_getElem _) q h'
    ·exact iht (λx hx=>hsub x (by simp[hx])) h'
  exact key ks (λx hx=>hx) hq
theorem bare_good {rs:List Ru} {e:Ex} (hf:fitE e=true) (hs:wfS e.set):bare e:=by
 obtain⟨f1,f2,f3,f4,f5,f6,f7,f8⟩:=fitE_kinds hf
 intro hne
 have h4:¬e.kind<=4:=λh=>hne (f3 h)
 exact⟨zs_z4 (f7 (by omega)),f8 (by omega) (by omega)⟩
theorem nodR_mutR {rs:List Ru} {r:Ru} (i:Nat) (hb:∀q∈flatE r.body,bare q):((flatE r.body).zipIdx 0).flatMap (nodR rs r i)=mutR rs (r,i):=by
 unfold mutR
 rw[<-turned_E r.body hb,List.map_flatMap]
 refine flat_congr _ λp _=>?_
 unfold nodR
 rw[List.map_map];rfl
theorem good_all {rs:List Ru} {e:Ex} (h:GoodE rs e):∀q∈flatE e,GoodE rs q:=by
 have:∀(n:Nat) (e:Ex),SizeOf.sizeOf e<n->GoodE rs e->∀q∈flatE e,GoodE rs q:=by
  intro n
  induction n with
  |zero=>intro e h;omega
  |succ n ih=>
   intro e hn h q hq
   obtain⟨k,s,t,ks⟩:=e
   rw[flatE]at hq
   rcases List.mem_cons.1 hq with rfl|hq
   ·exact h
   have key:∀l:List Ex,(∀x∈l,x∈ks)->q∈flatEs l->GoodE rs q:=by
    intro l
    induction l with
    |nil=>intro _ h;rw[flatEs]at h;cases h
    |cons a r iht=>
     intro hs h'
     rw[flatEs]at h'
     rcases List.mem_append.1 h' with h'|h'
     ·have hm:a∈(Ex.mk k s t ks).kids:=hs a (by simp)
      exact ih a (by have:=Ex.kid_lt hm;omega) (h.kid a hm) q h'
     ·exact iht (λx hx=>hs x (by simp[hx])) h'
   exact key ks (λx hx=>hx) hq
 exact this _ e (Nat.lt_succ_self _) h
theorem rmutants_is {rs:List Ru} {ga:Option Addr} {gl gc:Nat} {M:Mem} {K:Value->Mem->Prop} (hg:GrR M rs ga gl gc) (ok:GramOk rs)
  (hK:∀M' A n c rx,M.le M'->SlV M' A n c 1 rx->GgR M' (mutG rs) n rx->K (.slice A n c) M'):S_chaffref_Mutants ga gl gc M K:=by
 unfold S_chaffref_Mutants
 have hgl:=hg.max.1
 have h10:=ok.ten
 refine⟨λi n rx M'=>0<=i/\i<=rs.length/\M.le M'/\n<=1000*i.toNat/\GgR M' (((rs.zipIdx 0).take i.toNat).flatMap (mutR rs) |>.filter okF) n rx,λi _ _=>rs.length-i.toNat,⟨by omega,by omega,Mem.le.refl M,by omega,GgR.nil M⟩,λi n rx M1 ⟨i0,i1,hle,hn,hT⟩=>⟨λhlt=>?_,λhge=>?_⟩⟩
 rotate_left
 ·rw[List.take_of_length_le (by simp;omega)]at hT
  intro M2 ad cap hle2 hsl M3 hle3
  exact hK M3 ad n cap rx (hle.trans (hle2.trans hle3)) (hsl.le hle3) ((hT.le hle2).le hle3)
 obtain⟨r,x,b,o,hr,hb,hat,hrr⟩:=(hg.le hle).at i0 hlt
 have hmem:=List.mem_of_getElem? hr
 have hgood:=ok.good r hmem
 obtain⟨f8,f1⟩:=few_good hgood
 have f60:=(flat_max (ok.err r hmem)).1
 have hdp:dpE r.body<=12:=by
  have h:=ok.err r hmem
  unfold exErr at h
  have:=lk_dp r.body 1 0 h
  omega
 have hp:(rs.zipIdx 0)[i.toNat]?=some (r,i.toNat):=by rw[List.getElem?_zipIdx,hr];simp
 have hbare:∀q∈flatE r.body,bare q:=λq hq=>bare_good (rs:=rs) (good_all hgood q hq).fit (exwf_flat hrr.2.2 q hq)
 refine⟨b,o,hb,i0,hlt,x,hat,s_chaffref_Nodes _ _ _ (nodes_full hrr.2.2 f8 hdp f60 λM2 A2 c2 ns hle2 hns hnl hnd=>⟨A2,ns.length,c2,rfl,?_⟩)⟩
 have hal:=all_len r.body f8
 have hrun:∀m,(((flatE r.body).zipIdx 0).take m |>.flatMap (nodR rs r i.toNat)).length<=16*m:=by
  intro m
  have:∀(l:List (Ex×Nat)) (m:Nat),(∀p∈l,(turnsE p.1).length<=16)->((l.take m).flatMap (nodR rs r i.toNat)).length<=16*m:=by
   intro l
   induction l with
   |nil=>intro m _;simp
   |cons a t ih=>
    intro m hl
    cases m with
    |zero=>simp
    |succ m=>
     have h1:=ih m λp hp=>hl p (by simp[hp])
     have h2:=hl a (by simp)
     rw[List.take_succ_cons,List.flatMap_cons,List.length_append]
     have:(nodR rs r i.toNat a).length=(turnsE a.1).length:=by unfold nodR;simp
     omega
  exact this _ m λp hp=>turns_len (f8 p.1 (zip_mem hp))
 refine⟨λj n rx M'=>0<=j/\j<=ns.length/\M2.le M'/\n<=1000*i.toNat+16*j.toNat/\GgR M' ((((rs.zipIdx 0).take i.toNat).flatMap (mutR rs)++(((flatE r.body).zipIdx 0).take j.toNat).flatMap (nodR rs r i.toNat)).filter okF) n rx,λj _ _=>ns.length-j.toNat,⟨by omega,by omega,Mem.le.refl M2,by omega,by simpa using hT.le hle2⟩,λj n3 rx3 M3 ⟨j0,j1,hle3,hn3,hT3⟩=>⟨λhjl=>?_,λhjg=>?_⟩⟩
 rotate_left
 ·refine⟨by unfold InI;omega,⟨by omega,by omega,hle.trans (hle2.trans hle3),by omega,?_⟩,by dsimp only;omega⟩
  rw[show(i+1).toNat=i.toNat+1 by omega,take_get hp,List.flatMap_append]
  rw[List.take_of_length_le (l:=(flatE r.body).zipIdx 0) (by simp;omega),nodR_mutR i.toNat hbare]at hT3
  simpa using hT3
 obtain⟨nd,hnx⟩:=getI (l:=ns) j0 hjl
 obtain⟨q,hq⟩:=getI (l:=flatE r.body) j0 (by omega)
 obtain⟨b3,o3,ha3,hat3⟩:=(hns.le hle3).at Xn_len rfl hnx
 have hqm:=List.mem_of_getElem? hq
 have hqp:((flatE r.body).zipIdx 0)[j.toNat]?=some (q,j.toNat):=by rw[List.getElem?_zipIdx,hq];simp
 have hq8:=f8 q hqm
 refine⟨b3,o3,ha3,j0,hjl,nd,hat3,e_chaffref_Turns _ _ _ (rturns_is ((hnd _ q nd hq hnx).le hle3) hq8 (f1 q hqm) λM4 A4 n4 c4 rx4 hle4 hsl4 hT4=>⟨A4,n4,c4,rfl,?_⟩)⟩
 have hn4:=hT4.len
 have ht16:=turns_len hq8
 refine⟨λl n rx M'=>0<=l/\l<=n4/\M4.le M'/\n<=1000*i.toNat+16*j.toNat+l.toNat/\GgR M' ((((rs.zipIdx 0).take i.toNat).flatMap (mutR rs)++(((flatE r.body).zipIdx 0).take j.toNat).flatMap (nodR rs r i.toNat)++((turnsE q).take l.toNat).map λy=>rs.set i.toNat ⟨r.name,putE r.body j.toNat y⟩).filter okF) n rx,λl _ _=>n4-l.toNat,⟨by omega,by omega,Mem.le.refl M4,by omega,by simpa using hT3.le hle4⟩,λl n5 rx5 M5 ⟨l0,l1,hle5,hn5,hT5⟩=>⟨λhll=>?_,λhlg=>?_⟩⟩
 rotate_left
 ·refine⟨by unfold InI;omega,⟨by omega,by omega,hle3.trans (hle4.trans hle5),by omega,?_⟩,by dsimp only;omega⟩
  rw[show(j+1).toNat=j.toNat+1 by omega,take_get hqp,List.flatMap_append]
  rw[List.take_of_length_le (l:=turnsE q) (by omega)]at hT5
  simpa[nodR]using hT5
 obtain⟨ys,hys,hrx4,hall4⟩:=hT4
 subst hrx4
 obtain⟨y,hy⟩:=getI (l:=turnsE q) l0 (by omega)
 obtain⟨z,hz,hzr⟩:=hall4.get hy
 obtain⟨b5,o5,ha5,hat5⟩:=(hsl4.le hle5).at Xe_len hys.symm hz
 have hle05:=hle.trans (hle2.trans (hle3.trans (hle4.trans hle5)))
 refine⟨b5,o5,ha5,l0,hll,z,hat5,s_slices_Clone_Rule _ _ _ _ _ (rclone_is (hg.le hle05) h10 ok.one _ λxs hxs=>?_)⟩
 have ej:((j.toNat:Nat):Int)=j:=by omega
 rw[<-ej]
 refine s_chaffref_Put _ _ _ _ _ (rput_is _ r.body (Nat.lt_succ_self _) f8 hdp f60 (by omega) (hrr.2.2.le (hle2.trans (hle3.trans (hle4.trans hle5)))) (hzr.le hle5) λM6 w hle6 hw=>⟨w,rfl,i0,by omega,λM7 ad cap hle7 hsl=>?_⟩)
 obtain⟨x',hx',hxr'⟩:=hxs.get hr
 rw[put_body w hx']at hsl
 have hg7:GrR M7 (rs.set i.toNat ⟨r.name,putE r.body j.toNat y⟩) ad rs.length cap:=
  ⟨_,hsl,all2_set (hxs.mono λ_ _ h=>h.le (hle6.trans hle7)) ⟨hxr'.1,hxr'.2.1,hw.le hle7⟩ _,by simp⟩
 have hstep:((((rs.zipIdx 0).take i.toNat).flatMap (mutR rs)++(((flatE r.body).zipIdx 0).take j.toNat).flatMap (nodR rs r i.toNat)++((turnsE q).take (l.toNat+1)).map λy=>rs.set i.toNat ⟨r.name,putE r.body j.toNat y⟩).filter okF)=((((rs.zipIdx 0).take i.toNat).flatMap (mutR rs)++(((flatE r.body).zipIdx 0).take j.toNat).flatMap (nodR rs r i.toNat)++((turnsE q).take l.toNat).map λy=>rs.set i.toNat ⟨r.name,putE r.body j.toNat y⟩).filter okF)++([rs.set i.toNat ⟨r.name,putE r.body j.toNat y⟩].filter okF):=by
  rw[take_get hy,List.map_append,<-List.append_assoc,List.filter_append];rfl
 rw[ej]
 have hle57:=hle6.trans hle7
 refine s_chaffref_Well _ _ _ _ _ (rwell_is hg7 _ ⟨_,_,rfl,λhw=>⟨by omega,?_⟩,λhw=>?_⟩)
 ·refine⟨by unfold InI;omega,⟨by omega,by omega,hle5.trans hle57,by omega,?_⟩,by dsimp only;omega⟩
  rw[show(l+1).toNat=l.toNat+1 by omega,hstep]
  have:[rs.set i.toNat ⟨r.name,putE r.body j.toNat y⟩].filter okF=[rs.set i.toNat ⟨r.name,putE r.body j.toNat y⟩]:=by
   rw[List.filter_cons,if_pos (by unfold okF;simpa using hw)];rfl
  rw[this]
  exact(hT5.le hle57).snoc hg7
 ·refine⟨by unfold InI;omega,⟨by omega,by omega,hle5.trans hle57,by omega,?_⟩,by dsimp only;omega⟩
  rw[show(l+1).toNat=l.toNat+1 by omega,hstep]
  have:[rs.set i.toNat ⟨r.name,putE r.body j.toNat y⟩].filter okF=[]:=by
   rw[List.filter_cons,if_neg (by unfold okF;simpa using hw)];rfl
  rw[this,List.append_nil]
  exact hT5.le hle57
end Go.Proofs.Ytmnilbfhfjdelaa.core

