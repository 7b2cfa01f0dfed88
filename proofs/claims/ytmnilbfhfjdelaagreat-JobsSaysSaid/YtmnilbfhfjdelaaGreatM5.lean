/- Contracts and what they hang on, of several parts. No condition. -/
import Derived.Test.YtmnilbfhfjdelaaGreatM4
import Derived.Test.YtmnilbfhfjdelaaGreatM2
import Derived.Test.YtmnilbfhfjdelaaGreatPackG
import Derived.Test.YtmnilbfhfjdelaaGreatM3
import Derived.RangeFuncNested
import Derived.RangeFuncBound
import Derived.RangeFuncCalls
import Derived.RangeFuncLeaves
import Derived.RangeFuncWrites
import Derived.RangeFuncBox
import Derived.Shelf.Abstract
import Derived.WalkKit
import Derived.OwnWalkIn
import Derived.TacticsInMore
import Derived.LoopNIn
import Derived.LoopIn
import Derived.Maps.OwnIn
import Derived.Maps.AppendAt
import Derived.StringKeys
import Derived.BigRegionIn
namespace Go.Proofs.YtmnilbfhfjdelaaGreat.core
open Go.Gx Go.RowKit Go.ChangeShapes Go.WideShapes Go.ChangeAt
set_option linter.unusedVariables false
section
variable {rs:List Ru} {s:List UInt8} {E:Nat->Nat->Int}
theorem seqV_res {f:Ex->Int->Rc}:∀(ks:List Ex) (p:Int) x,(∀k∈ks,∀(q:Int) y,0<=q->q<=s.length->f k q=some y->y.1=endE rs s E k q/\(y.1<0\/y.1<=s.length))->0<=p->p<=s.length->seqV f ks p=some x->x.1=seqE rs s E ks p
 |[],_,_,_,_,_,h=>by rw[seqV]at h;cases h;rw[seqE]
 |k::ks,p,x,hf,hp,hl,h=>by
  rw[seqV]at h
  obtain⟨y,hy,h⟩:=Option.bind_eq_some_iff.1 h
  obtain⟨h1,h2⟩:=hf k (by simp) p y hp hl hy
  rw[seqE,<-h1]
  split at h
  ·rename_i h0;cases h;rw[if_pos h0]
  ·rename_i h0
   rw[if_neg h0]
   obtain⟨z,hz,rfl⟩:=Option.map_eq_some_iff.1 h
   exact seqV_res ks y.1 z (λk' hk'=>hf k' (by simp[hk'])) (by omega) (by omega) hz
theorem altV_res {f:Ex->Int->Rc} {p:Int}:∀(ks:List Ex) x,(∀k∈ks,∀y,f k p=some y->y.1=endE rs s E k p)->altV f ks p=some x->x.1=altE rs s E ks p
 |[],_,_,h=>by rw[altV]at h;cases h;rw[altE]
 |k::ks,x,hf,h=>by
  rw[altV]at h
  obtain⟨y,hy,h⟩:=Option.bind_eq_some_iff.1 h
  have h1:=hf k (by simp) y hy
  rw[altE,<-h1]
  split at h
  ·rename_i h0;cases h;rw[if_pos h0]
  ·rename_i h0
   rw[if_neg h0]
   obtain⟨z,hz,rfl⟩:=Option.map_eq_some_iff.1 h
   exact altV_res ks z (λk' hk'=>hf k' (by simp[hk'])) hz
theorem staV_res {f:Int->Rc} {g:Int->Int} {q:Bool}:∀(m:Nat) (p:Int) fi x,(∀(r:Int) y,0<=r->r<=s.length->f r=some y->y.1=g r/\g r≠-2/\(y.1<0\/y.1<=s.length))->0<=p->p<=s.length->staV f q m p fi=some x->x.1=strE g q m p fi
 |0,_,_,_,_,_,_,h=>by rw[staV]at h;cases h
 |m+1,p,fi,x,hf,hp,hl,h=>by
  rw[staV]at h
  obtain⟨y,hy,h⟩:=Option.bind_eq_some_iff.1 h
  obtain⟨h1,h2,h3⟩:=hf p y hp hl hy
  rw[strE,<-h1]
  rw[<-h1]at h2
  split at h
  ·rename_i h0
   cases h
   by_cases hq:(fi&&q)=true
   ·rw[if_pos hq,if_pos (.inr ⟨h0,by simpa using hq⟩)]
   ·rw[if_neg hq,if_neg (λh=>h.elim h2 λh=>hq (by simp[h.2.1,h.2.2])),if_pos h0]
  ·rename_i h0
   rw[if_neg (λh=>h.elim h2 λh=>h0 h.1),if_neg h0]
   obtain⟨z,hz,rfl⟩:=Option.map_eq_some_iff.1 h
   exact staV_res m y.1 false z hf (by omega) (by omega) hz
theorem ev_res (hw:WellOk rs) (hT:Tab rs s E):∀(m:Nat) (e:Ex) (p:Int) x,PegOk rs e->0<=p->p<=s.length->ev rs s m e p=some x->x.1=endE rs s E e p
 |0,e,p,x,_,_,_,h=>by rw[ev]at h;cases h
 |m+1,e,p,x,hok,hp,hl,h=>by
  have ih:=ev_res hw hT m
  have hk:∀k∈e.kids,∀(q:Int) y,0<=q->q<=s.length->ev rs s m k q=some y->y.1=endE rs s E k q/\(y.1<0\/y.1<=s.length):=λk hk q y hq hql hy=>by
   have h1:=ih k q y (hok.kid hk) hq hql hy
   refine⟨h1,?_⟩
   rw[h1]
   rcases hT.res (hok.kid hk) hq hql with h'|h'<;>omega
  rw[ev]at h
  obtain⟨y,hy,rfl⟩:=Option.map_eq_some_iff.1 h
  rw[endE_eq]
  show y.1=_
  by_cases h1:e.kind=1
  ·rw[if_pos h1]at hy ⊢;cases hy;rfl
  rw[if_neg h1]at hy ⊢
  by_cases h2:e.kind=2
  ·rw[if_pos h2]at hy ⊢;cases hy;rfl
  rw[if_neg h2]at hy ⊢
  by_cases h3:e.kind=3
  ·rw[if_pos h3]at hy ⊢;cases hy;rfl
  rw[if_neg h3]at hy ⊢
  by_cases h4:e.kind=4
  ·rw[if_pos h4]at hy ⊢
   obtain⟨r,hr,hy⟩:=Option.bind_eq_some_iff.1 hy
   rw[ih r.body p y (hw.peg (List.mem_of_getElem? hr)) hp hl hy]
   have:=hT.fix p.toNat _ r (by omega) hr
   rw[this,show((p.toNat:Nat):Int)=p by omega]
  rw[if_neg h4]at hy ⊢
  by_cases h5:e.kind=5
  ·rw[if_pos h5]at hy ⊢;exact seqV_res _ _ _ hk hp hl hy
  rw[if_neg h5]at hy ⊢
  by_cases h6:e.kind=6
  ·rw[if_pos h6]at hy ⊢;exact altV_res _ _ (λk hkm y hy=>(hk k hkm p y hp hl hy).1) hy
  rw[if_neg h6]at hy ⊢
  obtain⟨g1,g2,g3,g4,g5,g6,g7,g8⟩:=fitE_kinds hok.good.fit
  obtain⟨k,hk1⟩:=List.length_eq_one_iff.1 (g5 (by omega))
  have hkm:k∈e.kids:=by rw[hk1];simp
  have hhd:hdE rs s E e.kids=endE rs s E k:=by rw[hk1];funext q;rw[hdE]
  have hhv:hdV (ev rs s m) e.kids=ev rs s m k:=by rw[hk1];funext q;rw[hdV]
  rw[hhd]
  rw[hhv]at hy
  by_cases h7:e.kind=7\/e.kind=8
  ·rw[if_pos h7]at hy ⊢
   exact staV_res _ _ _ _ (λr z hr hrl hz=>⟨(hk k hkm r z hr hrl hz).1,hT.knows (hok.kid hkm) hr hrl,(hk k hkm r z hr hrl hz).2⟩) hp hl hy
  rw[if_neg h7]at hy ⊢
  obtain⟨z,hz,rfl⟩:=Option.map_eq_some_iff.1 hy
  show oneE e.kind p z.1=_
  rw[(hk k hkm p z hp hl hz).1]
theorem ev_ex (hw:WellOk rs) (hT:Tab rs s E):∀(e:Ex) (p:Int),PegOk rs e->0<=p->p<=s.length->∃m x,ev rs s m e p=some x:=by
 refine peg_ind hw s.length (λe p=>∃m x,ev rs s m e p=some x) λe p hok hp hl hk hr=>?_
 have up:∀{m:Nat} {y:Int×Nat},(if e.kind=1 then some (p,0) else if e.kind=2 then some (setE e.set s p,0) else if e.kind=3 then some (litE e.text s p,0)
  else if e.kind=4 then(rs[(findR e.text rs 0).toNat]?).bind λr=>ev rs s m r.body p
  else if e.kind=5 then seqV (ev rs s m) e.kids p else if e.kind=6 then altV (ev rs s m) e.kids p
  else if e.kind=7\/e.kind=8 then staV (hdV (ev rs s m) e.kids) (decide (e.kind=8)) (s.length+2) p true
  else(hdV (ev rs s m) e.kids p).map λx=>(oneE e.kind p x.1,x.2))=some y->∃m x,ev rs s m e p=some x:=λ{m y} h=>⟨m+1,(y.1,y.2+1),by rw[ev,h];rfl⟩
 by_cases h1:e.kind=1
 ·exact up (m:=0) (if_pos h1)
 by_cases h2:e.kind=2
 ·exact up (m:=0) (by rw[if_neg h1,if_pos h2])
 by_cases h3:e.kind=3
 ·exact up (m:=0) (by rw[if_neg h1,if_neg h2,if_pos h3])
 by_cases h4:e.kind=4
 ·obtain⟨hlt,_⟩:=findR_lt (hok.good.ref h4)
  obtain⟨r,hrr⟩:=getN (l:=rs) hlt
  obtain⟨m,x,hx⟩:=hr h4 r hrr
  exact up (m:=m) (by rw[if_neg h1,if_neg h2,if_neg h3,if_pos h4,hrr];exact hx)
 by_cases h5:e.kind=5
 ·have key:∀(d i:Nat) (q:Int),e.kids.length-i<d->p<=q->q<=s.length->(q=p->∀j∈needsQ rs (knOf rs) (e.kids.drop i),j∈needsE rs (knOf rs) e)->∃m x,seqV (ev rs s m) (e.kids.drop i) q=some x:=by
   intro d
   induction d with
   |zero=>intro i q h;omega
   |succ d ih=>
    intro i q hd hq hql hn
    by_cases hi:i<e.kids.length
    ·obtain⟨k,hki⟩:=getN (l:=e.kids) hi
     obtain⟨t1,t2⟩:=seq_tries hT hok h5 hp hl i q k hq hql hn hki
     obtain⟨m1,x,hx⟩:=hk k q t1 hql
     have hxe:=ev_res hw hT m1 k q x (hok.kid t1.1) (by omega) hql hx
     rw[drop_get hki]
     by_cases h0:x.1<0
     ·exact⟨m1,x,by rw[seqV,hx,Option.bind_some,if_pos h0]⟩
     ·obtain⟨u1,u2,u3⟩:=t2 (by omega)
      rw[<-hxe]at u1 u2 u3
      obtain⟨m2,y,hy⟩:=ih (i+1) x.1 (by omega) u1 u2 u3
      refine⟨max m1 m2,(y.1,x.2+y.2),?_⟩
      rw[seqV,ev_more (Nat.le_max_left m1 m2) _ _ _ hx,Option.bind_some,if_neg h0,seqV_mono (ev_more (Nat.le_max_right m1 m2)) _ _ _ hy]
      rfl
    ·exact⟨0,(q,0),by rw[List.drop_of_length_le (by omega),seqV]⟩
  obtain⟨m,x,hx⟩:=key (e.kids.length+1) 0 p (by omega) (Int.le_refl _) hl λ_ j hj=>by rw[needsE_eq,if_neg h4,if_pos h5];exact hj
  exact up (m:=m) (by rw[if_neg h1,if_neg h2,if_neg h3,if_neg h4,if_pos h5];exact hx)
 by_cases h6:e.kind=6
 ·have key:∀ks:List Ex,(∀k∈ks,k∈e.kids)->∃m x,altV (ev rs s m) ks p=some x:=by
   intro ks
   induction ks with
   |nil=>intro _;exact⟨0,(-1,0),by rw[altV]⟩
   |cons k ks ih=>
    intro hm
    obtain⟨m1,x,hx⟩:=hk k p (kid_tries (hm k (by simp)) h4 h5 (Int.le_refl _)) hl
    by_cases h0:x.1≠-1
    ·exact⟨m1,x,by rw[altV,hx,Option.bind_some,if_pos h0]⟩
    ·obtain⟨m2,y,hy⟩:=ih λk' hk'=>hm k' (by simp[hk'])
     refine⟨max m1 m2,(y.1,x.2+y.2),?_⟩
     rw[altV,ev_more (Nat.le_max_left m1 m2) _ _ _ hx,Option.bind_some,if_neg h0,altV_mono (ev_more (Nat.le_max_right m1 m2)) _ _ _ hy]
     rfl
  obtain⟨m,x,hx⟩:=key e.kids λ_ h=>h
  exact up (m:=m) (by rw[if_neg h1,if_neg h2,if_neg h3,if_neg h4,if_neg h5,if_pos h6];exact hx)
 obtain⟨g1,g2,g3,g4,g5,g6,g7,g8⟩:=fitE_kinds hok.good.fit
 obtain⟨k,hk1⟩:=List.length_eq_one_iff.1 (g5 (by omega))
 have hkm:k∈e.kids:=by rw[hk1];simp
 have hhv:∀m,hdV (ev rs s m) e.kids=ev rs s m k:=λm=>by rw[hk1];funext q;rw[hdV]
 by_cases h7:e.kind=7\/e.kind=8
 ·have hem:=hok.star hk1 h7
  have key:∀(m:Nat) (q:Int) (fi:Bool),p<=q->q<=s.length->s.length+1<=q.toNat+m->∃n x,staV (ev rs s n k) (decide (e.kind=8)) m q fi=some x:=by
   intro m
   induction m with
   |zero=>intro q fi hq hql hm;omega
   |succ m ih=>
    intro q fi hq hql hm
    obtain⟨m1,x,hx⟩:=hk k q (kid_tries hkm h4 h5 hq) hql
    have hxe:=ev_res hw hT m1 k q x (hok.kid hkm) (by omega) hql hx
    by_cases h0:x.1<0
    ·exact⟨m1,(if (fi&&decide (e.kind=8))=true then x.1 else q,x.2),by rw[staV,hx,Option.bind_some,if_pos h0]⟩
    ·have hgt:q<x.1/\x.1<=s.length:=by
      rw[hxe]at h0 ⊢
      rcases hT.res (hok.kid hkm) (p:=q) (by omega) hql with h|⟨h,h'⟩
      ·omega
      ·by_cases he:endE rs s E k q=q
       ·rw[hT.empty (hok.kid hkm) (by omega) hql he]at hem;cases hem
       ·omega
     obtain⟨m2,y,hy⟩:=ih x.1 false (by omega) hgt.2 (by omega)
     refine⟨max m1 m2,(y.1,x.2+y.2),?_⟩
     rw[staV,ev_more (Nat.le_max_left m1 m2) _ _ _ hx,Option.bind_some,if_neg h0,staV_mono (λq z=>ev_more (Nat.le_max_right m1 m2) k q z) _ _ _ _ hy]
     rfl
  obtain⟨m,x,hx⟩:=key (s.length+2) p true (Int.le_refl _) hl (by omega)
  exact up (m:=m) (by rw[if_neg h1,if_neg h2,if_neg h3,if_neg h4,if_neg h5,if_neg h6,if_pos h7,hhv];exact hx)
 ·obtain⟨m,x,hx⟩:=hk k p (kid_tries hkm h4 h5 (Int.le_refl _)) hl
  exact up (m:=m) (by rw[if_neg h1,if_neg h2,if_neg h3,if_neg h4,if_neg h5,if_neg h6,if_neg h7,hhv,hx];rfl)
end
end Go.Proofs.YtmnilbfhfjdelaaGreat.core

namespace Go.Proofs.YtmnilbfhfjdelaaGreat.core
open Go.Gx Go.RowKit Go.ChangeShapes Go.WideShapes Go.ChangeAt
set_option linter.unusedVariables false
end Go.Proofs.YtmnilbfhfjdelaaGreat.core

namespace Go.Proofs.YtmnilbfhfjdelaaGreat.core
open Go.Gx Go.RowKit Go.ChangeShapes Go.WideShapes Go.ChangeAt
set_option linter.unusedVariables false
theorem prefix_is (a b:List UInt8) {M:Mem} (K:Value->Prop) (hK:K (.bool (decide (b.length<=a.length/\a.take b.length=b)))):S_strings_HasPrefix a b M K:=by
 unfold S_strings_HasPrefix
 refine s_internal_stringslite_HasPrefix _ _ _ _ ?_
 unfold S_internal_stringslite_HasPrefix
 refine⟨λh=>⟨by omega,by omega,by omega,_,rfl,?_⟩,λh=>⟨_,rfl,?_⟩⟩
 ·have:((mkS ((a.take ((b.length:Nat):Int).toNat).drop (0:Int).toNat)).toList==(mkS b).toList)=decide (b.length<=a.length/\a.take b.length=b):=by
   rw[Bool.eq_iff_iff,mkS_beq,decide_eq_true_iff]
   simp only[Int.toNat_natCast,Int.toNat_zero,List.drop_zero]
   exact⟨λh'=>⟨by omega,h'⟩,λh'=>h'.2⟩
  rw[this];exact hK
 ·rw[show decide (b.length<=a.length/\a.take b.length=b)=false from decide_eq_false (λh'=>h (by omega))]at hK
  exact hK
end Go.Proofs.YtmnilbfhfjdelaaGreat.core

namespace Go.Proofs.YtmnilbfhfjdelaaGreat.core
open Go.Gx Go.RowKit Go.ChangeShapes Go.WideShapes Go.ChangeAt
set_option linter.unusedVariables false
theorem row_ex {rs:List Ru} {s:List UInt8} {E:Nat->Nat->Int} {p:Nat} (hw:WellOk rs) (hE:EOk rs s E p) (hp:p<=s.length):∃row,RowOk rs s E p row/\∀(i:Nat) z,row[i]?=some z->z≠-2:=by
 obtain⟨st,hst,hord⟩:=hw.stage
 have key:∀k:Nat,∃row,RowOk rs s E p row/\∀(i:Nat) z,st i<=k->row[i]?=some z->z≠-2:=by
  intro k
  induction k with
  |zero=>
   refine⟨List.replicate rs.length (-2),RowOk.init hE (by simp) λi z hz=>?_,λi z hi hz=>?_⟩
   ·rw[List.getElem?_replicate]at hz
    split at hz
    ·simpa using hz.symm
    ·cases hz
   ·have:=(List.getElem?_eq_some_iff.1 hz).1
    have:=(hst i (by simpa using this)).1
    omega
  |succ k ih=>
   obtain⟨row0,hR0,hk0⟩:=ih
   have inner:∀i:Nat,i<=rs.length->∃row,RowOk rs s E p row/\(∀(j:Nat) z,st j<=k->row[j]?=some z->z≠-2)/\∀(j:Nat) z,j<i->st j<=k+1->row[j]?=some z->z≠-2:=by
    intro i
    induction i with
    |zero=>intro _;exact⟨row0,hR0,hk0,λj z h=>by omega⟩
    |succ i ihi=>
     intro hi
     obtain⟨row,hR,hk,hki⟩:=ihi (by omega)
     obtain⟨z,hz⟩:=getN (l:=row) (i:=i) (by rw[hR.len];omega)
     obtain⟨r,hr⟩:=getN (l:=rs) (i:=i) (by omega)
     by_cases h2:z= -2
     ·subst h2
      have hhit:st i<=k+1->endE rs s (upd E p row) r.body p≠-2:=λhsti=>hR.hit hw hE hp (List.mem_of_getElem? hr) λj hj z hz=>hk j z (by have:=hord _ r hr j hj;omega) hz
      have hset:∀(j:Nat) y,(row.set i (endE rs s (upd E p row) r.body p))[j]?=some y->(j=i/\y=endE rs s (upd E p row) r.body p)\/(j≠i/\row[j]?=some y):=λj y hy=>by
       rw[List.getElem?_set]at hy
       by_cases hij:i=j
       ·rw[if_pos hij,if_pos (by rw[hR.len];omega)]at hy;exact .inl ⟨hij.symm,by simpa using hy.symm⟩
       ·rw[if_neg hij]at hy;exact .inr ⟨λh=>hij h.symm,hy⟩
      refine⟨_,hR.step hw hp hz hr,λj y hj hy=>?_,λj y hj hj2 hy=>?_⟩
      ·rcases hset j y hy with⟨rfl,rfl⟩|⟨_,hy⟩
       ·exact hhit (by omega)
       ·exact hk j y hj hy
      ·rcases hset j y hy with⟨rfl,rfl⟩|⟨hne,hy⟩
       ·exact hhit hj2
       ·exact hki j y (by omega) hj2 hy
     ·refine⟨row,hR,hk,λj y hj hj2 hy=>?_⟩
      by_cases hji:j=i
      ·subst hji;rw[hz]at hy;cases hy;exact h2
      ·exact hki j y (by omega) hj2 hy
   obtain⟨row,hR,_,hki⟩:=inner rs.length (Nat.le_refl _)
   exact⟨row,hR,λj y hj hy=>hki j y (by have:=(List.getElem?_eq_some_iff.1 hy).1;rw[hR.len]at this;exact this) hj hy⟩
 obtain⟨row,hR,hk⟩:=key rs.length
 exact⟨row,hR,λi z hz=>hk i z (hst i (by have:=(List.getElem?_eq_some_iff.1 hz).1;rw[hR.len]at this;exact this)).2 hz⟩
theorem tab_ex {rs:List Ru} {s:List UInt8} (hw:WellOk rs):∃E,Tab rs s E:=by
 have key:∀d:Nat,d<=s.length+1->∃E,EOk rs s E ((s.length:Int)-d):=by
  intro d
  induction d with
  |zero=>intro _;exact⟨_,by simpa using EOk.init rs s⟩
  |succ d ih=>
   intro hd
   obtain⟨E,hE⟩:=ih (by omega)
   have e1:(s.length:Int)-d=((s.length-d:Nat):Int):=by omega
   rw[e1]at hE
   obtain⟨row,hR,hk⟩:=row_ex hw hE (by omega)
   refine⟨upd E (s.length-d) row,?_⟩
   have:=hR.done hE hk
   rw[show((s.length-d:Nat):Int)-1=(s.length:Int)-((d+1:Nat):Int) by omega]at this
   exact this
 obtain⟨E,hE⟩:=key (s.length+1) (Nat.le_refl _)
 exact⟨E,hE.tab (by omega)⟩
end Go.Proofs.YtmnilbfhfjdelaaGreat.core

namespace Go.Proofs.YtmnilbfhfjdelaaGreat.core
open Go.Gx Go.RowKit Go.ChangeShapes Go.WideShapes Go.ChangeAt
set_option linter.unusedVariables false
def lookP (rs:List Ru) (s:List UInt8):Int:=if (wellP rs).2≠0 then(wellP rs).2 else if (s.length:Int)>60 then 2 else 0
theorem mlook_is {rs:List Ru} {ga:Option Addr} {gl gc:Nat} {M:Mem} (hg:GrR M rs ga gl gc) (s:List UInt8) (K:Value->Prop) (hK:K (.int .i64 (lookP rs s))):S_mean_Look ga gl gc s M K:=by
 unfold S_mean_Look
 unfold lookP at hK
 refine s_well_Well _ _ _ _ _ (wwell_is hg _ ⟨_,_,rfl,λh=>?_,λh=>⟨λh2=>?_,λh2=>?_⟩⟩)
 ·rw[if_pos h]at hK;exact hK
 ·rw[if_neg h,if_pos h2]at hK;exact hK
 ·rw[if_neg h,if_neg h2]at hK;exact hK
end Go.Proofs.YtmnilbfhfjdelaaGreat.core

namespace Go.Proofs.YtmnilbfhfjdelaaGreat.core
open Go.Gx Go.RowKit Go.ChangeShapes Go.WideShapes Go.ChangeAt
set_option linter.unusedVariables false
theorem look_ok {rs:List Ru} {s:List UInt8} (h:lookP rs s=0):WellOk rs/\s.length<=60:=by
 unfold lookP at h
 split at h
 ·rename_i h1;exact absurd h h1
 ·rename_i h1
  split at h
  ·cases h
  ·exact⟨well_ok (Decidable.not_not.1 h1),by omega⟩
end Go.Proofs.YtmnilbfhfjdelaaGreat.core

namespace Go.Proofs.YtmnilbfhfjdelaaGreat.core
open Go.Gx Go.RowKit Go.ChangeShapes Go.WideShapes Go.ChangeAt
set_option linter.unusedVariables false
structure X_chaffref_Tried where
 Kid:Int
 At:Int
def X_chaffref_Tried.cells (x:X_chaffref_Tried):List Value:=[(Value.int .i64 x.Kid),(Value.int .i64 x.At)]
abbrev Tr:=X_chaffref_Tried
def seqK (f:Ex->Int->Int):List Ex->Int->Int->List Tr
 |[],_,_=>[]
 |k::ks,i,p=>⟨i,p⟩::(if f k p<0 then[] else seqK f ks (i+1) (f k p))
def altK (f:Ex->Int->Int):List Ex->Int->Int->List Tr
 |[],_,_=>[]
 |k::ks,i,p=>⟨i,p⟩::(if f k p<0 then altK f ks (i+1) p else[])
def staK (f:Int->Int):Nat->Int->List Tr
 |0,_=>[]
 |m+1,p=>if p<0 then[] else⟨0,p⟩::staK f m (f p)
def kidK (rs:List Ru) (s:List UInt8) (E:Nat->Nat->Int) (e:Ex) (p:Int):List Tr:=
 if e.kind=5 then seqK (endE rs s E) e.kids 0 p else if e.kind=6 then altK (endE rs s E) e.kids 0 p
 else if e.kind=7\/e.kind=8 then staK (hdE rs s E e.kids) (s.length+3) p else if 9<=e.kind then[⟨0,p⟩] else[]
end Go.Proofs.YtmnilbfhfjdelaaGreat.core

namespace Go.Proofs.YtmnilbfhfjdelaaGreat.core
open Go.Gx Go.RowKit Go.ChangeShapes Go.WideShapes Go.ChangeAt
set_option linter.unusedVariables false
section
variable {rs:List Ru} {s:List UInt8} {E:Nat->Nat->Int} {m:Nat}
end
end Go.Proofs.YtmnilbfhfjdelaaGreat.core

namespace Go.Proofs.YtmnilbfhfjdelaaGreat.core
open Go.Gx Go.RowKit Go.ChangeShapes Go.WideShapes Go.ChangeAt
set_option linter.unusedVariables false
def cap (c:Nat):Int:=if (c:Int)<2097152 then c else 2097152
theorem kid_all {rs:List Ru} {s:List UInt8} {E:Nat->Nat->Int} (hT:Tab rs s E) {e:Ex} (hok:PegOk rs e) {p:Int} (hp:0<=p) (hl:p<=s.length):∀t∈kidK rs s E e p,0<=t.Kid/\t.At<=s.length/\∃k,e.kids[t.Kid.toNat]?=some k/\Tries rs e k p t.At:=by
 obtain⟨g1,g2,g3,g4,g5,g6,g7,g8⟩:=fitE_kinds hok.good.fit
 intro t ht
 unfold kidK at ht
 by_cases h5:e.kind=5
 ·rw[if_pos h5]at ht
  have key:∀(ks:List Ex) (i:Nat) (q:Int),ks=e.kids.drop i->p<=q->q<=s.length->(q=p->∀j∈needsQ rs (knOf rs) (e.kids.drop i),j∈needsE rs (knOf rs) e)->∀t∈seqK (endE rs s E) ks i q,0<=t.Kid/\t.At<=s.length/\∃k,e.kids[t.Kid.toNat]?=some k/\Tries rs e k p t.At:=by
   intro ks
   induction ks with
   |nil=>intro i q _ _ _ _ t ht;rw[seqK]at ht;cases ht
   |cons k ks ih=>
    intro i q hks hq hql hn t ht
    have hi:e.kids[i]?=some k:=by have:=congrArg (λl=>l[0]?) hks;simpa using this.symm
    have hks':ks=e.kids.drop (i+1):=by rw[drop_get hi]at hks;exact(List.cons.inj hks).2
    obtain⟨t1,t2⟩:=seq_tries hT hok h5 hp hl i q k hq hql hn hi
    rw[seqK]at ht
    rcases List.mem_cons.1 ht with rfl|ht
    ·exact⟨by simp,hql,k,by simpa using hi,t1⟩
    ·split at ht
     ·cases ht
     ·obtain⟨u1,u2,u3⟩:=t2 (by omega)
      exact ih (i+1) _ hks' u1 u2 u3 t (by rw[show((i+1:Nat):Int)=(i:Int)+1 by omega];exact ht)
  exact key e.kids 0 p (by rw[List.drop_zero]) (Int.le_refl _) hl (λ_ j hj=>by rw[needsE_eq,if_neg (by omega),if_pos h5];exact hj) t ht
 rw[if_neg h5]at ht
 by_cases h6:e.kind=6
 ·rw[if_pos h6]at ht
  have key:∀(ks:List Ex) (i:Nat),ks=e.kids.drop i->∀t∈altK (endE rs s E) ks i p,0<=t.Kid/\t.At<=s.length/\∃k,e.kids[t.Kid.toNat]?=some k/\Tries rs e k p t.At:=by
   intro ks
   induction ks with
   |nil=>intro i _ t ht;rw[altK]at ht;cases ht
   |cons k ks ih=>
    intro i hks t ht
    have hi:e.kids[i]?=some k:=by have:=congrArg (λl=>l[0]?) hks;simpa using this.symm
    have hks':ks=e.kids.drop (i+1):=by rw[drop_get hi]at hks;exact(List.cons.inj hks).2
    rw[altK]at ht
    rcases List.mem_cons.1 ht with rfl|ht
    ·exact⟨by simp,hl,k,by simpa using hi,kid_tries (List.mem_of_getElem? hi) (by omega) h5 (Int.le_refl _)⟩
    ·split at ht
     ·exact ih (i+1) hks' t (by rw[show((i+1:Nat):Int)=(i:Int)+1 by omega];exact ht)
     ·cases ht
  exact key e.kids 0 (by rw[List.drop_zero]) t ht
 rw[if_neg h6]at ht
 by_cases h7:e.kind=7\/e.kind=8
 ·rw[if_pos h7]at ht
  obtain⟨k,hk1⟩:=List.length_eq_one_iff.1 (g5 (by omega))
  have hkm:k∈e.kids:=by rw[hk1];simp
  have hhd:hdE rs s E e.kids=endE rs s E k:=by rw[hk1];funext q;rw[hdE]
  rw[hhd]at ht
  have key:∀(m:Nat) (q:Int),q<0\/(p<=q/\q<=s.length)->∀t∈staK (endE rs s E k) m q,0<=t.Kid/\t.At<=s.length/\∃k,e.kids[t.Kid.toNat]?=some k/\Tries rs e k p t.At:=by
   intro m
   induction m with
   |zero=>intro q _ t ht;rw[staK]at ht;cases ht
   |succ m ih=>
    intro q hq t ht
    rw[staK]at ht
    split at ht
    ·cases ht
    ·rcases List.mem_cons.1 ht with rfl|ht
     ·exact⟨by simp,by dsimp only;omega,k,by rw[hk1];rfl,kid_tries hkm (by omega) h5 (by dsimp only;omega)⟩
     ·exact ih _ (by rcases hT.res (hok.kid hkm) (p:=q) (by omega) (by omega)with h|h<;>omega) t ht
  exact key _ p (.inr ⟨Int.le_refl _,hl⟩) t ht
 rw[if_neg h7]at ht
 split at ht
 ·simp only[List.mem_singleton]at ht
  subst ht
  obtain⟨k,hk1⟩:=List.length_eq_one_iff.1 (g5 (by omega))
  exact⟨by simp,hl,k,by rw[hk1];rfl,kid_tries (by rw[hk1];simp) (by omega) h5 (Int.le_refl _)⟩
 ·cases ht
end Go.Proofs.YtmnilbfhfjdelaaGreat.core

namespace Go.Proofs.YtmnilbfhfjdelaaGreat.core
open Go.Gx Go.RowKit Go.ChangeShapes Go.WideShapes Go.ChangeAt
set_option linter.unusedVariables false
inductive Evt where
 |node (n p:Int) (e:Ex)
 |done (i p:Int)
inductive Job where
 |node (e:Ex) (n p:Int)
 |rule (i p:Int)
 |kids (L:List Ex) (n:Int) (l:List Tr)
def cnt (e:Ex):Nat:=(flatE e).length
def preN (L:List Ex) (i:Nat):Nat:=((L.take i).map cnt).sum
def fstN (rs:List Ru) (i:Nat):Nat:=((rs.take i).map λr=>cnt r.body).sum
inductive Goes (rs:List Ru) (s:List UInt8) (E:Nat->Nat->Int):Job->List Evt->List Evt->Prop where
 |ref {e:Ex} {n p:Int} {t t':List Evt} (h4:e.kind=4) (h:Goes rs s E (.rule (findR e.text rs 0) p) t t'):Goes rs s E (.node e n p) t (t'++[.node n p e])
 |inner {e:Ex} {n p:Int} {t t':List Evt} (h4:e.kind≠4) (h:Goes rs s E (.kids e.kids (n+1) (kidK rs s E e p)) t t'):Goes rs s E (.node e n p) t (t'++[.node n p e])
 |seen {i p:Int} {t:List Evt} (h: .done i p∈t):Goes rs s E (.rule i p) t t
 |rule {i p:Int} {r:Ru} {t t':List Evt} (hn:Evt.done i p∉t) (hr:rs[i.toNat]?=some r) (h:Goes rs s E (.node r.body (fstN rs i.toNat) p) t t'):Goes rs s E (.rule i p) t (t'++[.done i p])
 |nil {L:List Ex} {n:Int} {t:List Evt}:Goes rs s E (.kids L n []) t t
 |cons {L:List Ex} {n:Int} {k:Tr} {l:List Tr} {e:Ex} {t t1 t2:List Evt} (he:L[k.Kid.toNat]?=some e) (h1:Goes rs s E (.node e (n+preN L k.Kid.toNat) k.At) t t1) (h2:Goes rs s E (.kids L n l) t1 t2):Goes rs s E (.kids L n (k::l)) t t2
theorem goes_ex {rs:List Ru} {s:List UInt8} {E:Nat->Nat->Int} (hw:WellOk rs) (hT:Tab rs s E):∀(e:Ex) (p:Int),PegOk rs e->0<=p->p<=s.length->∀(n:Int) t,∃t',Goes rs s E (.node e n p) t t':=by
 refine peg_ind hw s.length _ λe p hok hp hl ihk ihr n t=>?_
 by_cases h4:e.kind=4
 ·have h0:=hok.good.ref h4
  obtain⟨rr,hrr⟩:=getN (l:=rs) (findR_lt h0).1
  by_cases hd:Evt.done (findR e.text rs 0) p∈t
  ·exact⟨_,.ref h4 (.seen hd)⟩
  ·obtain⟨t',ht⟩:=ihr h4 rr hrr (fstN rs (findR e.text rs 0).toNat) t
   exact⟨_,.ref h4 (.rule hd hrr ht)⟩
 ·have key:∀(l:List Tr),(∀k∈l,k∈kidK rs s E e p)->∀t,∃t',Goes rs s E (.kids e.kids (n+1) l) t t':=by
   intro l
   induction l with
   |nil=>exact λ_ t=>⟨t,.nil⟩
   |cons k l ih=>
    intro hm t
    obtain⟨_,hk1,x,hx,htr⟩:=kid_all hT hok hp hl k (hm k (by simp))
    obtain⟨t1,h1⟩:=ihk x k.At htr hk1 (n+1+preN e.kids k.Kid.toNat) t
    obtain⟨t2,h2⟩:=ih (λy hy=>hm y (by simp[hy])) t1
    exact⟨t2,.cons hx h1 h2⟩
  obtain⟨t',ht⟩:=key _ (λ_ h=>h) t
  exact⟨_,.inner h4 ht⟩
theorem preN_succ {L:List Ex} {i:Nat} {e:Ex} (h:L[i]?=some e):preN L (i+1)=preN L i+cnt e:=by
 unfold preN
 rw[List.take_add_one,h]
 simp
theorem fstN_succ {rs:List Ru} {i:Nat} {r:Ru} (h:rs[i]?=some r):fstN rs (i+1)=fstN rs i+cnt r.body:=by
 unfold fstN
 rw[List.take_add_one,h]
 simp
theorem cnt_kids (L:List Ex):(flatEs L).length=(L.map cnt).sum:=by
 induction L with
 |nil=>simp[flatEs]
 |cons k ks ih=>rw[flatEs,List.length_append,ih];simp[cnt]
theorem cnt_eq (e:Ex):cnt e=1+(e.kids.map cnt).sum:=by
 cases e with
 |mk k t x ks=>rw[cnt,flatE,List.length_cons,cnt_kids];simp[Ex.kids];omega
theorem cnt_pos (e:Ex):1<=cnt e:=by rw[cnt_eq];omega
theorem preN_kid {L:List Ex} {i:Nat} {e:Ex} (h:L[i]?=some e):preN L i+cnt e<=(L.map cnt).sum:=by
 rw[<-preN_succ h]
 have:=List.take_append_drop (i+1) L
 have e2:(L.map cnt).sum=preN L (i+1)+((L.drop (i+1)).map cnt).sum:=by
  conv=>lhs;rw[<-this]
  rw[List.map_append,List.sum_append];rfl
 omega
theorem fstN_rule {rs:List Ru} {i:Nat} {r:Ru} (h:rs[i]?=some r):fstN rs i+cnt r.body<=(rs.map λr=>cnt r.body).sum:=by
 rw[<-fstN_succ h]
 have:=List.take_append_drop (i+1) rs
 have e2:(rs.map λr=>cnt r.body).sum=fstN rs (i+1)+((rs.drop (i+1)).map λr=>cnt r.body).sum:=by
  conv=>lhs;rw[<-this]
  rw[List.map_append,List.sum_append];rfl
 omega
end Go.Proofs.YtmnilbfhfjdelaaGreat.core

namespace Go.Proofs.YtmnilbfhfjdelaaGreat.core
open Go.Gx Go.RowKit Go.ChangeShapes Go.WideShapes Go.ChangeAt
set_option linter.unusedVariables false
theorem count_is:∀(m:Nat) (e:Ex),SizeOf.sizeOf e<m->cnt e<=100000->∀(M:Mem) (x:X_api_Expr) (K:Value->Mem->Prop),ExR M e x->(∀M',M.le M'->K (.int .i64 (cnt e)) M')->S_pack_count x M (λ_=>False) K
 |0,_,h,_=>by omega
 |m+1,e,hm,hc=>λM x K hR hK=>by
  obtain⟨xs,hx⟩:=hR.open
  have hce:=cnt_eq e
  have hlen:e.kids.length<=(e.kids.map cnt).sum:=by
   have:∀L:List Ex,L.length<=(L.map cnt).sum:=λL=>by
    induction L with
    |nil=>simp
    |cons k ks ih=>simp only[List.length_cons,List.map_cons,List.sum_cons];have:=cnt_pos k;omega
   exact this _
  unfold S_pack_count
  refine⟨Unit,λ_ n i M'=>0<=i/\i<=e.kids.length/\n=1+(preN e.kids i.toNat:Nat)/\M.le M',λ_ _ i=>e.kids.length-i.toNat,(),⟨by omega,by omega,rfl,Mem.le.refl M⟩,λ_ n i M' ⟨i0,i1,hn,hle⟩=>⟨λhlt=>?_,λhge=>?_⟩⟩
  ·rw[hx.len]at hlt
   obtain⟨k,hk⟩:=getI (l:=e.kids) i0 hlt
   obtain⟨b,o,y,ha,hat,hy,_⟩:=hx.kid hk
   have hpk:=preN_kid hk
   have hsz:=Ex.kid_lt (List.mem_of_getElem? hk)
   refine⟨b,o,ha,i0,by rw[hx.len];exact hlt,y,hat.le hle,(s_pack_count _ _ _ _ (count_is m k (by omega) (by omega) _ _ _ (hy.le hle) λM2 hle2=>⟨_,rfl,?_,?_,(),⟨by omega,by omega,?_,hle.trans hle2⟩,?_⟩)).mono (λ_ h=>h.elim) (λv M' _ h=>h)⟩
   ·exact inI_small (by omega) (by omega)
   ·exact inI_small (by omega) (by omega)
   ·rw[show(i+1).toNat=i.toNat+1 by omega,preN_succ hk,hn];omega
   ·show e.kids.length-(i+1).toNat<e.kids.length-i.toNat
    omega
  ·rw[hx.len]at hge
   intro M2 hle2
   have:preN e.kids i.toNat=(e.kids.map cnt).sum:=by unfold preN;rw[List.take_of_length_le (by omega)]
   rw[hn,this,show(1:Int)+((e.kids.map cnt).sum:Nat)=((cnt e:Nat):Int) by rw[hce];omega]
   exact hK M2 (hle.trans hle2)
def cpl:List UInt8->List UInt8->Nat
 |a::u,b::v=>if a=b then cpl u v+1 else 0
 |_,_=>0
def missOf (rs:List Ru) (s:List UInt8) (E:Nat->Nat->Int):Evt->Option (Int×(Nat->Bool))
 | .node _ p e=>if endE rs s E e p<0 then(if e.kind=2 then some (p,bitS e.set) else if e.kind=3 then some (p+(cpl (s.drop p.toNat) e.text:Nat),λb=>decide ((e.text[cpl (s.drop p.toNat) e.text]?).map UInt8.toNat=some b)) else none) else none
 | .done _ _=>none
structure FW (rs:List Ru) (s:List UInt8) (E:Nat->Nat->Int) (t:List Evt) (far:Int) (want:X_api_Set):Prop where
 wf:wfS want
 lo: -1<=far
 ge:∀x∈t,∀m,missOf rs s E x=some m->m.1<=far
 bits:∀b,b<256->(bitS want b=true↔∃x∈t,∃m,missOf rs s E x=some m/\m.1=far/\m.2 b=true)
 ex:far= -1\/∃x∈t,∃m,missOf rs s E x=some m/\m.1=far
theorem bit_zero (b:Nat) (hb:b<256):bitS (X_api_Set.mk 0 0 0 0) b=false:=by
 have h:X_api_Set.mk 0 0 0 0=Us λ_=>false:=by
  have h1:=Us_bit (s:=X_api_Set.mk 0 0 0 0) (by unfold wfS;decide)
  rw[<-h1]
  exact Us_congr λb hb=>by
   have h4:∀i:Nat,([0,0,0,0]:List Nat)[i]?.getD 0=0:=λi=>by
    match i with
    |0=>rfl
    |1=>rfl
    |2=>rfl
    |3=>rfl
    |n+4=>rfl
   unfold bitS hasW
   simp[h4]
 rw[h,bit_Us hb]
theorem FW.init (rs:List Ru) (s:List UInt8) (E:Nat->Nat->Int):FW rs s E [] (-1) (X_api_Set.mk 0 0 0 0):=
 ⟨by unfold wfS;decide,Int.le_refl _,λx hx=>(by cases hx),λb hb=>by rw[bit_zero b hb];simp,.inl rfl⟩
theorem FW.skip {rs:List Ru} {s:List UInt8} {E:Nat->Nat->Int} {t:List Evt} {far:Int} {want:X_api_Set} (h:FW rs s E t far want) {x:Evt} (hx:missOf rs s E x=none):FW rs s E (t++[x]) far want:=by
 refine⟨h.wf,h.lo,λy hy m hm=>?_,λb hb=>?_,h.ex.imp id λ⟨y,hy,hm⟩=>⟨y,by simp[hy],hm⟩⟩
 ·rcases List.mem_append.1 hy with hy|hy
  ·exact h.ge y hy m hm
  ·simp only[List.mem_singleton]at hy;rw[hy,hx]at hm;cases hm
 ·rw[h.bits b hb]
  refine⟨λ⟨y,hy,hm⟩=>⟨y,by simp[hy],hm⟩,λ⟨y,hy,m,hm,hr⟩=>?_⟩
  rcases List.mem_append.1 hy with hy|hy
  ·exact⟨y,hy,m,hm,hr⟩
  ·simp only[List.mem_singleton]at hy;rw[hy,hx]at hm;cases hm
def Missed (far:Int) (want:X_api_Set) (p:Int) (f:Nat->Bool) (far':Int) (want':X_api_Set):Prop:=
 wfS want'/\far'=(if far<p then p else far)/\∀b,b<256->bitS want' b=if far<p then f b else if p=far then(bitS want b||f b) else bitS want b
theorem FW.miss {rs:List Ru} {s:List UInt8} {E:Nat->Nat->Int} {t:List Evt} {far far' p:Int} {want want':X_api_Set} {f:Nat->Bool} (h:FW rs s E t far want) (hp:0<=p) {x:Evt} (hx:missOf rs s E x=some (p,f)) (hm:Missed far want p f far' want'):FW rs s E (t++[x]) far' want':=by
 obtain⟨h1,h2,h3⟩:=hm
 have hlo:=h.lo
 refine⟨h1,by split at h2<;>omega,λy hy m hm=>?_,λb hb=>?_,.inr ?_⟩
 ·rcases List.mem_append.1 hy with hy|hy
  ·have:=h.ge y hy m hm
   split at h2<;>omega
  ·simp only[List.mem_singleton]at hy
   rw[hy,hx]at hm
   cases hm
   show p<=far'
   split at h2<;>omega
 ·rw[h3 b hb]
  have hb':=h.bits b hb
  by_cases hlt:far<p
  ·rw[if_pos hlt]at h2 ⊢
   subst h2
   refine⟨λhf=>⟨x,by simp,_,hx,rfl,hf⟩,λ⟨y,hy,m,hm,hmp,hmb⟩=>?_⟩
   rcases List.mem_append.1 hy with hy|hy
   ·have:=h.ge y hy m hm;omega
   ·simp only[List.mem_singleton]at hy
    rw[hy,hx]at hm;cases hm;exact hmb
  ·rw[if_neg hlt]at h2 ⊢
   subst h2
   by_cases he:p=far'
   ·rw[if_pos he,Bool.or_eq_true,hb']
    refine⟨λhf=>?_,λ⟨y,hy,m,hm,hmp,hmb⟩=>?_⟩
    ·rcases hf with⟨y,hy,hr⟩|hf
     ·exact⟨y,by simp[hy],hr⟩
     ·exact⟨x,by simp,_,hx,he,hf⟩
    ·rcases List.mem_append.1 hy with hy|hy
     ·exact .inl ⟨y,hy,m,hm,hmp,hmb⟩
     ·simp only[List.mem_singleton]at hy
      rw[hy,hx]at hm;cases hm;exact .inr hmb
   ·rw[if_neg he,hb']
    refine⟨λ⟨y,hy,hr⟩=>⟨y,by simp[hy],hr⟩,λ⟨y,hy,m,hm,hmp,hmb⟩=>?_⟩
    rcases List.mem_append.1 hy with hy|hy
    ·exact⟨y,hy,m,hm,hmp,hmb⟩
    ·simp only[List.mem_singleton]at hy
     rw[hy,hx]at hm;cases hm;exact absurd hmp he
 ·by_cases hlt:far<p
  ·rw[if_pos hlt]at h2;exact⟨x,by simp,_,hx,h2.symm⟩
  ·rw[if_neg hlt]at h2
   subst h2
   rcases h.ex with h'|⟨y,hy,m,hm⟩
   ·by_cases he:p=far'
    ·exact⟨x,by simp,_,hx,he⟩
    ·omega
   ·exact⟨y,by simp[hy],m,hm⟩
end Go.Proofs.YtmnilbfhfjdelaaGreat.core

namespace Go.Proofs.YtmnilbfhfjdelaaGreat.core
open Go.Gx Go.RowKit Go.ChangeShapes Go.WideShapes Go.ChangeAt
set_option linter.unusedVariables false
theorem At.blk {M:Mem} {b:Nat} {cs:List Value} {t:TypeId} {f:Nat×Nat} (h:M b=some (.cells cs.toArray t f)):At M b 0 cs:=λj v hj=>by
 unfold Mem.cell
 rw[h,Nat.zero_add]
 simpa using hj
theorem Has.blk {M:Mem} {b o k:Nat} {cs:List Value} {t:TypeId} (h:M b=some (.cells cs.toArray t (0,0))) (hk:o+k<=cs.length):Has M b o k:=⟨_,_,h,by simpa using hk⟩
def logOf (E:Nat->Nat->Int) (t:List Evt):List X_api_Step:=t.filterMap λx=>match x with
 | .done i p=>some ⟨i,p,outE (E p.toNat i.toNat) p⟩
 | .node _ _ _=>none
theorem logOf_node (E:Nat->Nat->Int) (t:List Evt) (n p:Int) (e:Ex):logOf E (t++[.node n p e])=logOf E t:=by simp[logOf]
theorem logOf_done (E:Nat->Nat->Int) (t:List Evt) (i p:Int):logOf E (t++[.done i p])=logOf E t++[⟨i,p,outE (E p.toNat i.toNat) p⟩]:=by simp[logOf]
theorem St_one (x:X_api_Step):∀u∈x.cells,u.oneCell'=true:=by
 intro u hu
 simp only[X_api_Step.cells,List.mem_cons,List.not_mem_nil,or_false]at hu
 rcases hu with rfl|rfl|rfl|rfl<;>rfl
theorem nodup_bound:∀(n:Nat) (l:List Nat),l.Nodup->(∀x∈l,x<n)->l.length<=n
 |0,l,_,h=>by
  cases l with
  |nil=>simp
  |cons a l=>have:=h a (by simp);omega
 |n+1,l,hn,h=>by
  by_cases hm:n∈l
  ·have h1:=nodup_bound n (l.erase n) (hn.sublist List.erase_sublist) λx hx=>by
    have hx2:=List.mem_of_mem_erase hx
    have:=h x hx2
    have hne:x≠n:=λe=>by
     subst e
     exact(List.Nodup.not_mem_erase hn) hx
    omega
   have:=List.length_erase_of_mem hm
   omega
  ·have:=nodup_bound n l hn λx hx=>by
    have:=h x hx
    have hne:x≠n:=λe=>hm (e▸hx)
    omega
   omega
def keyS (x:X_api_Step):Nat:=x.Rule.toNat*61+x.At.toNat
theorem logOf_mem {E:Nat->Nat->Int} {t:List Evt} {x:X_api_Step}:x∈logOf E t↔.done x.Rule x.At∈t/\x.Out=outE (E x.At.toNat x.Rule.toNat) x.At:=by
 unfold logOf
 rw[List.mem_filterMap]
 constructor
 ·rintro⟨y,hy,h⟩
  cases y with
  |node n p e=>cases h
  |done i p=>simp only[Option.some.injEq]at h;subst h;exact⟨hy,rfl⟩
 ·rintro⟨h1,h2⟩
  refine⟨_,h1,?_⟩
  cases x
  simp only at h2 ⊢
  rw[h2]
structure PkC where
 V:Mem
 rs:List Ru
 s:List UInt8
 E:Nat->Nat->Int
 pb:Nat
 r:Nat
 ga:Option Addr
 fa:Option Addr
 gl:Nat
 gc:Nat
 fc:Nat
 nodeV:Value
 JB:Nat->Prop
 J:List Evt->Mem->Prop
 tot:Nat
abbrev PkC.res (c:PkC) (e:Ex) (p:Int):Int:=endE c.rs c.s c.E e p
abbrev PkC.LV (c:PkC):Nat->Prop:=λb=>c.V b=none
abbrev PkC.ptr (c:PkC):Option Addr:=some ⟨c.pb,0,none⟩
abbrev PkC.cells (c:PkC) (la:Option Addr) (ln lc:Nat) (far:Int) (want:X_api_Set):List Value:=(X_pack_Parser.mk c.ga c.gl c.gc c.s (some c.r) la ln lc far want c.nodeV c.fa c.rs.length c.fc).cells
structure PkC.Ok (c:PkC):Prop where
 hw:WellOk c.rs
 hT:Tab c.rs c.s c.E
 s60:c.s.length<=60
 gr:GrR c.V c.rs c.ga c.gl c.gc
 fst:∀i,i<c.rs.length->∃b o,c.fa=some ⟨b,o,none⟩/\At c.V b (o+i*1) [Value.int .i64 (fstN c.rs i:Nat)]
 pbV:c.V c.pb=none
 rV:c.V c.r=none
 pr:c.pb≠c.r
 jpb:¬c.JB c.pb
 jr:¬c.JB c.r
 jV:∀b,c.JB b->c.V b=none
 frame:∀t M M',c.J t M->(∀b,c.JB b->M' b=M b)->c.J t M'
 has:∀t M,c.J t M->∀b,c.JB b->(M b).isSome=true
 node:∃nil,FnNil c.nodeV nil/\(nil=true->∀t (n p:Int) e M,c.J t M->c.J (t++[.node n p e]) M)/\(nil=false->∀t (n p:Int) e M,0<=n->n<c.tot->c.J t M->CallFW Tryz.prog c.nodeV [.int .i64 n,.bool (decide (0<=c.res e p))] M c.JB (λv M'=>v= .tuple #[]/\c.J (t++[.node n p e]) M'))
 done:∀t i p M,c.J t M->c.J (t++[.done i p]) M
 tot:(c.rs.map λr=>cnt r.body).sum<=c.tot
 small:c.tot<=100000
structure PB (c:PkC) (t:List Evt) (far:Int) (want:X_api_Set) (M:Mem):Prop where
 le:c.V.le M
 bk:∃la lc,M c.pb=some (.cells (c.cells la (logOf c.E t).length lc far want).toArray 120 (0,0))/\RowW M 147 4 la (logOf c.E t).length lc (cl X_api_Step.cells (logOf c.E t))/\∀g,la=some ⟨g,0,none⟩->c.V g=none/\¬c.JB g/\g≠c.pb/\g≠c.r
 mp:∃f,MapF M c.r f/\∀i p v,f i p=some v↔(Evt.done i p∈t/\v=(outE (c.E p.toNat i.toNat) p).val)
 j:c.J t M
 ks:((logOf c.E t).map keyS).Nodup/\∀i p,Evt.done i p∈t->0<=i/\i<c.rs.length/\0<=p/\p<=c.s.length
def PI (c:PkC) (t:List Evt) (M:Mem):Prop:=∃far want,FW c.rs c.s c.E t far want/\PB c t far want M
theorem Mem.le.eq {M M':Mem} (h:M.le M') {b:Nat} (hb:(M b).isSome=true):M' b=M b:=by
 obtain⟨o,ho⟩:=Option.isSome_iff_exists.1 hb
 rw[ho];exact h b o ho
section
variable {c:PkC} {t:List Evt} {far:Int} {want:X_api_Set} {M:Mem}
theorem PB.keep (hc:c.Ok) (h:PB c t far want M) {M':Mem} {t':List Evt} (hlog:logOf c.E t'=logOf c.E t) (hd:∀i p,Evt.done i p∈t'↔Evt.done i p∈t) (hk:∀b o,M b=some o->¬c.JB b->M' b=some o) (hj:c.J t' M'):PB c t' far want M':=by
 obtain⟨la,lc,h1,h2,h3⟩:=h.bk
 refine⟨λb o hb=>hk b o (h.le b o hb) λhJ=>(by rw[hc.jV b hJ]at hb;cases hb),?_,?_,hj,by rw[hlog];exact h.ks.1,λi p hi=>h.ks.2 i p ((hd i p).1 hi)⟩
 ·rw[hlog];exact⟨la,lc,hk _ _ h1 hc.jpb,h2.same λg o hg ho=>hk g o ho (h3 g hg).2.1,h3⟩
 ·obtain⟨f,⟨es,clk,h4,h5⟩,h6⟩:=h.mp
  exact⟨f,⟨es,clk,hk _ _ h4 hc.jr,h5⟩,λi p v=>by rw[h6 i p v,hd i p]⟩
theorem PB.up (hc:c.Ok) (h:PB c t far want M) {M':Mem} (hl:M.le M'):PB c t far want M':=
 h.keep hc rfl (λ_ _=>Iff.rfl) (λb o hb _=>hl b o hb) (hc.frame _ _ _ h.j λb hb=>Mem.le.eq hl (hc.has _ _ h.j b hb))
theorem PI.up (hc:c.Ok) (h:PI c t M) {M':Mem} (hl:M.le M'):PI c t M':=by
 obtain⟨far,want,h1,h2⟩:=h
 exact⟨far,want,h1,h2.up hc hl⟩
theorem PB.at (h:PB c t far want M):∃la lc,At M c.pb 0 (c.cells la (logOf c.E t).length lc far want):=by
 obtain⟨la,lc,h1,_⟩:=h.bk
 exact⟨la,lc,At.blk h1⟩
theorem PB.put (hc:c.Ok) (h:PB c t far want M) (k:Nat) (vs:List Value) {far':Int} {want':X_api_Set} (hp:∀la ln lc,putAt (c.cells la ln lc far want) k vs=c.cells la ln lc far' want'):PB c t far' want' (M.put c.pb k vs):=by
 obtain⟨la,lc,h1,h2,h3⟩:=h.bk
 have hne:∀b,b≠c.pb->(M.put c.pb k vs) b=M b:=λb hb=>Mem.put_ne hb
 refine⟨λb o hb=>?_,⟨la,lc,?_,h2.same λg o hg ho=>by rw[hne g (h3 g hg).2.2.1];exact ho,h3⟩,?_,hc.frame _ _ _ h.j λb hb=>hne b λe=>hc.jpb (e▸hb),h.ks⟩
 ·rw[hne b (λe=>by rw[e,hc.pbV]at hb;cases hb)];exact h.le b o hb
 ·rw[Mem.put_eq h1]
  have:=hp la (logOf c.E t).length lc
  simp only at this ⊢
  rw[this]
 ·obtain⟨f,⟨es,clk,h4,h5⟩,h6⟩:=h.mp
  exact⟨f,⟨es,clk,by rw[hne _ hc.pr.symm];exact h4,h5⟩,h6⟩
theorem PB.node (hc:c.Ok) (h:PB c t far want M) {M':Mem} (hk:∀b o,M b=some o->¬c.JB b->M' b=some o) {n p:Int} {e:Ex} (hj:c.J (t++[.node n p e]) M'):PB c (t++[.node n p e]) far want M':=
 h.keep hc (logOf_node _ _ _ _ _) (λi q=>by simp) hk hj
theorem PB.room (hc:c.Ok) (h:PB c t far want M):(logOf c.E t).length<=610:=by
 have h10:=hc.hw.ok.ten
 have hs60:=hc.s60
 have:=nodup_bound 610 _ h.ks.1 λx hx=>by
  obtain⟨y,hy,rfl⟩:=List.mem_map.1 hx
  have:=h.ks.2 _ _ (logOf_mem.1 hy).1
  unfold keyS
  omega
 simpa using this
theorem miss_is (hc:c.Ok) (h:PB c t far want M) (hwf:wfS want) {p:Int} {w:X_api_Set} (hw:wfS w) {K:Value->Mem->Prop}
  (hK:∀M' far' want',PB c t far' want' M'->Missed far want p (bitS w) far' want'->K (.tuple #[]) M'):S_pack_Parser_miss c.ptr p w M c.LV K:=by
 have has:∀{far want M k n},PB c t far want M->k+n<=11->Has M c.pb (0+k) n:=λh hk=>by
  obtain⟨la,lc,h1,_⟩:=h.bk
  exact Has.blk h1 (by rw[Nat.zero_add];exact hk)
 have atFar:∀{far want M},PB c t far want M->At M c.pb (0+4) [.int .i64 far]:=λh=>by
  obtain⟨la,lc,h1⟩:=h.at
  exact h1.part 4 [.int .i64 _] rfl
 have atWant:∀{far want M},PB c t far want M->At M c.pb (0+5) want.cells:=λh=>by
  obtain⟨la,lc,h1⟩:=h.at
  exact h1.part 5 (X_api_Set.cells _) rfl
 unfold S_pack_Parser_miss
 have j1:∀(M':Mem) (far1:Int) (want1:X_api_Set),PB c t far1 want1 M'->wfS want1->(far1=if far<p then p else far)->(∀b,b<256->bitS want1 b=if far<p then false else bitS want b)->S_pack_Parser_miss_J1 c.ptr p w M c.LV M' K:=by
  intro M' far1 want1 hB hwf1 hf1 hb1
  unfold S_pack_Parser_miss_J1
  refine⟨c.pb,0,rfl,far1,atFar hB,λhe=>⟨c.pb,0,rfl,want1,atWant hB,s_set_Join _ _ _ _ (join_is hwf1 hw _ ⟨_,rfl,c.pb,0,rfl,has hB (by omega),.inl hc.pbV,λM2 hM2 M3 hle=>?_⟩)⟩,λhne M3 hle=>?_⟩
  ·refine hK M3 far1 (Us λb=>bitS want1 b||bitS w b) ?_ ⟨Us_wf _,hf1,λb hb=>?_⟩
   ·rw[hM2]at hle
    exact(hB.put hc (0+5) _ λla ln lc=>rfl).up hc hle
   ·rw[bit_Us hb,hb1 b hb]
    by_cases hlt:far<p
    ·rw[if_pos hlt,if_pos hlt];simp
    ·rw[if_neg hlt]at hf1
     rw[if_neg hlt,if_neg hlt,if_pos (by omega)]
  ·refine hK M3 far1 want1 (hB.up hc hle) ⟨hwf1,hf1,λb hb=>?_⟩
   by_cases hlt:far<p
   ·rw[if_pos hlt]at hf1;exact absurd hf1.symm hne
   ·rw[if_neg hlt]at hf1
    rw[hb1 b hb,if_neg hlt,if_neg hlt,if_neg (by omega)]
 refine⟨c.pb,0,rfl,far,atFar h,λhgt=>⟨c.pb,0,rfl,has h (by omega),.inl hc.pbV,λM10 hM10=>?_⟩,λhle=>j1 M far want h hwf (by rw[if_neg (by omega)]) λb _=>by rw[if_neg (by omega)]⟩
 have hB1:PB c t p want M10:=by rw[hM10];exact h.put hc (0+4) _ λla ln lc=>rfl
 refine⟨c.pb,0,rfl,has hB1 (by omega),.inl hc.pbV,λM13 hM13=>?_⟩
 have hB2:PB c t p (X_api_Set.mk 0 0 0 0) M13:=by rw[hM13];exact hB1.put hc (0+5) _ λla ln lc=>rfl
 exact j1 M13 p _ hB2 (by unfold wfS;decide) (by rw[if_pos (by omega)]) λb hb=>by rw[if_pos (by omega),bit_zero b hb]
def NodeOk (c:PkC) (e:Ex) (n p:Int) (t t1:List Evt):Prop:=∀(M:Mem) (x:X_api_Expr) (K:Value->Mem->Prop),ExR c.V e x->PI c t M->
 (∀M' to far want,PB c t1 far want M'->FW c.rs c.s c.E (t1++[.node n p e]) far want->(0<=c.res e p->to=c.res e p)->K (.tuple #[.int .i64 to,.bool (decide (0<=c.res e p))]) M')->S_pack_Parser_node c.ptr x n p M c.LV K
def TryOk (c:PkC) (e:Ex) (n p:Int) (t t':List Evt):Prop:=∀(M:Mem) (x:X_api_Expr) (K:Value->Mem->Prop),ExR c.V e x->PI c t M->
 (∀M' to,PI c t' M'->(0<=c.res e p->to=c.res e p)->K (.tuple #[.int .i64 to,.bool (decide (0<=c.res e p))]) M')->S_pack_Parser_try c.ptr x n p M c.LV K
theorem try_is (hc:c.Ok) {e:Ex} {n p:Int} {t1:List Evt} (hn0:0<=n) (hn1:n<c.tot) (h:NodeOk c e n p t t1):TryOk c e n p t (t1++[.node n p e]):=by
 intro M x K hR hP hK
 obtain⟨nil,hnil,hyes,hno⟩:=hc.node
 have atN:∀{far want M},PB c t1 far want M->At M c.pb (0+9) [c.nodeV]:=λh=>by
  obtain⟨la,lc,h1⟩:=h.at
  exact h1.part 9 [c.nodeV] rfl
 unfold S_pack_Parser_try
 refine(s_pack_Parser_node _ _ _ _ _ _ _ (h M x _ hR hP λM' to far want hB hF hto=>⟨to,_,rfl,c.pb,0,rfl,c.nodeV,atN hB,nil,hnil,λhn=>?_,λhn=>?_⟩)).mono (λg h=>.inl h) (λv M' _ h=>h)
 ·have hf:nil=false:=by simpa using hn
  refine⟨c.pb,0,rfl,c.nodeV,atN hB,(hno hf t1 n p e M' hn0 hn1 hB.j).mono (λb hb=>.inl (hc.jV b hb)) λv M2 hle2 ⟨hv,hJ⟩=>⟨hv,?_⟩⟩
  unfold S_pack_Parser_try_J1
  intro M3 hle
  exact hK M3 to ⟨far,want,hF,(hB.node hc (λb o hb hj=>hle2.keep b o hb hj) hJ).up hc hle⟩ hto
 ·have ht:nil=true:=by simpa using hn
  unfold S_pack_Parser_try_J1
  intro M2 hle
  have hB2:=hB.up hc hle
  exact hK M2 to ⟨far,want,hF,hB2.node hc (λb o hb _=>hb) (hyes ht t1 n p e M2 hB2.j)⟩ hto
end
end Go.Proofs.YtmnilbfhfjdelaaGreat.core

namespace Go.Proofs.YtmnilbfhfjdelaaGreat.core
open Go.Gx Go.RowKit Go.ChangeShapes Go.WideShapes Go.ChangeAt
set_option linter.unusedVariables false
def ChainOk (c:PkC) (L:List Ex) (n:Int):List Tr->List Evt->List Evt->Prop
 |[],t,t'=>t=t'
 |k::l,t,t'=>∃e t1,L[k.Kid.toNat]?=some e/\(PegOk c.rs e->0<=k.At->k.At<=c.s.length->0<=n+preN L k.Kid.toNat->n+preN L k.Kid.toNat+cnt e<=c.tot->TryOk c e (n+preN L k.Kid.toNat) k.At t t1)/\ChainOk c L n l t1 t'
theorem PI.le {c:PkC} {t:List Evt} {M:Mem} (h:PI c t M):c.V.le M:=by obtain⟨_,_,_,h⟩:=h;exact h.le
section
variable {c:PkC} {e:Ex} {n p:Int} {t t1:List Evt}
theorem kid_room (hn1:n+cnt e<=c.tot) {i:Nat} {k:Ex} (hk:e.kids[i]?=some k):n+1+preN e.kids i+cnt k<=c.tot:=by
 have:=preN_kid hk
 have:=cnt_eq e
 omega
theorem kid_cnt {i:Nat} {k:Ex} (hk:e.kids[i]?=some k):cnt k<=cnt e:=by
 have:=preN_kid hk
 have:=cnt_eq e
 omega
theorem seq_is (hc:c.Ok) (h5:e.kind=5) (hok:PegOk c.rs e) (hp:0<=p) (hl:p<=c.s.length) (hn0:0<=n) (hn1:n+cnt e<=c.tot) (hch:ChainOk c e.kids (n+1) (kidK c.rs c.s c.E e p) t t1) {M:Mem} {x:X_api_Expr} {K:Value->Mem->Prop} (hR:ExR c.V e x) (hP:PI c t M)
  (hK:∀M' to,PI c t1 M'->(0<=c.res e p->to=c.res e p)->K (.tuple #[.int .i64 to,.bool (decide (0<=c.res e p))]) M'):S_pack_Parser_seq c.ptr x n p M c.LV K:=by
 obtain⟨xs,hx⟩:=hR.open
 have hsm:=hc.small
 have hl8:=kids8 hok.good
 have hres:c.res e p=seqE c.rs c.s c.E e.kids p:=by
  unfold PkC.res;rw[endE_eq,if_neg (by omega),if_neg (by omega),if_neg (by omega),if_neg (by omega),if_pos h5]
 unfold kidK at hch
 rw[if_pos h5]at hch
 unfold S_pack_Parser_seq
 refine⟨inI_small (by omega) (by omega),List Evt,λt' q k i M'=>0<=i/\i<=e.kids.length/\0<=q/\q<=c.s.length/\k=n+1+preN e.kids i.toNat/\PI c t' M'/\ChainOk c e.kids (n+1) (seqK (endE c.rs c.s c.E) (e.kids.drop i.toNat) i q) t' t1/\seqE c.rs c.s c.E (e.kids.drop i.toNat) q=c.res e p,λ_ _ _ i=>e.kids.length-i.toNat,t,
  ⟨by omega,by omega,hp,hl,by simp[preN],hP,by simpa using hch,by rw[hres];rfl⟩,λt' q k i M' ⟨i0,i1,q0,q1,hkn,hP',hch',hrs⟩=>⟨λhlt=>?_,λhge=>?_⟩⟩
 ·rw[hx.len]at hlt
  obtain⟨ke,hk⟩:=getI (l:=e.kids) i0 hlt
  have hkm:=List.mem_of_getElem? hk
  obtain⟨b,o,y,ha,hat,hy,_⟩:=hx.kid hk
  rw[drop_get hk,seqK]at hch'
  rw[drop_get hk,seqE]at hrs
  obtain⟨e',t2,he',hT',hrest⟩:=hch'
  simp only at he' hT'
  rw[hk]at he';cases he'
  have hroom:=kid_room hn1 hk
  have hcnt:=kid_cnt hk
  have hkr:c.res ke q= -1\/(q<=c.res ke q/\c.res ke q<=c.s.length):=hc.hT.res (hok.kid hkm) q0 q1
  have hT':=hT' (hok.kid hkm) q0 q1 (by omega) hroom
  rw[<-hkn]at hT'
  refine⟨b,o,ha,i0,by rw[hx.len];exact hlt,y,hat.le hP'.le,(s_pack_Parser_try _ _ _ _ _ _ _ (hT' M' y _ hy hP' λM2 to hP2 hto=>⟨to,_,rfl,λhno=>?_,λhyes=>?_⟩)).mono (λg h=>.inl h) (λv M' _ h=>h)⟩
  ·have h0:c.res ke q<0:=by simpa using hno
   rw[if_pos h0]at hrest hrs
   have hrest:t2=t1:=hrest
   subst hrest
   intro M3 hle
   have:=hK M3 0 (hP2.up hc hle) (λh=>by rw[<-hrs]at h;exact absurd h0 (Int.not_lt.2 h))
   rw[decide_eq_false (by rw[<-hrs];exact Int.not_le.2 h0)]at this
   exact this
  ·have h0:0<=c.res ke q:=by simpa using hyes
   rw[if_neg (Int.not_lt.2 h0)]at hrest hrs
   have hto:=hto h0
   subst hto
   refine(s_pack_count _ _ _ _ (count_is _ ke (Nat.lt_succ_self _) (by omega) _ _ _ (hy.le hP2.le) λM3 hle3=>⟨_,rfl,?_,?_,t2,⟨by omega,by omega,h0,by omega,?_,hP2.up hc hle3,?_,?_⟩,?_⟩)).mono (λ_ h=>h.elim) (λv M' _ h=>h)
   ·exact inI_small (by omega) (by omega)
   ·exact inI_small (by omega) (by omega)
   ·rw[show(i+1).toNat=i.toNat+1 by omega,preN_succ hk,hkn];push_cast;omega
   ·rw[show(i+1).toNat=i.toNat+1 by omega];exact hrest
   ·rw[show(i+1).toNat=i.toNat+1 by omega];exact hrs
   ·show e.kids.length-(i+1).toNat<e.kids.length-i.toNat
    omega
 ·rw[hx.len]at hge
  rw[List.drop_of_length_le (by omega),seqK]at hch'
  rw[List.drop_of_length_le (by omega),seqE]at hrs
  have hch':t'=t1:=hch'
  subst hch'
  intro M2 hle
  have:=hK M2 q (hP'.up hc hle) (λ_=>hrs)
  rw[decide_eq_true (by rw[<-hrs];exact q0)]at this
  exact this
theorem not_two {z p l:Int} (h:z= -1\/(p<=z/\z<=l)) (hp:0<=p):z≠-2:=by omega
theorem single_is (hc:c.Ok) (h7:7<=e.kind) (hok:PegOk c.rs e) (hp:0<=p) (hl:p<=c.s.length) (hn0:0<=n) (hn1:n+cnt e<=c.tot) (hch:ChainOk c e.kids (n+1) (kidK c.rs c.s c.E e p) t t1) {M:Mem} {x:X_api_Expr} {K:Value->Mem->Prop} (hR:ExR c.V e x) (hP:PI c t M)
  (hK:∀M' to,PI c t1 M'->(0<=c.res e p->to=c.res e p)->K (.tuple #[.int .i64 to,.bool (decide (0<=c.res e p))]) M'):S_pack_Parser_single c.ptr x n p M c.LV K:=by
 obtain⟨xs,hx⟩:=hR.open
 have hsm:=hc.small
 obtain⟨g1,g2,g3,g4,g5,g6,_⟩:=fitE_kinds hok.good.fit
 obtain⟨k,hk1⟩:=List.length_eq_one_iff.1 (g5 h7)
 have hk:e.kids[(0:Int).toNat]?=some k:=by rw[hk1];rfl
 have hkm:k∈e.kids:=by rw[hk1];simp
 obtain⟨b,o,y,ha,hat,hy,_⟩:=hx.kid hk
 have hroom:=kid_room hn1 hk
 have hp0:preN e.kids (0:Int).toNat=0:=by simp[preN]
 have hkr:c.res k p= -1\/(p<=c.res k p/\c.res k p<=c.s.length):=hc.hT.res (hok.kid hkm) hp hl
 have hhd:hdE c.rs c.s c.E e.kids=endE c.rs c.s c.E k:=by rw[hk1];funext q;rw[hdE]
 have hres:c.res e p=if e.kind=7\/e.kind=8 then strE (endE c.rs c.s c.E k) (decide (e.kind=8)) (c.s.length+2) p true else oneE e.kind p (c.res k p):=by
  unfold PkC.res;rw[endE_eq,if_neg (by omega),if_neg (by omega),if_neg (by omega),if_neg (by omega),if_neg (by omega),if_neg (by omega),hhd]
 have hkk:kidK c.rs c.s c.E e p=⟨0,p⟩::(if e.kind=7\/e.kind=8 then staK (endE c.rs c.s c.E k) (c.s.length+2) (c.res k p) else[]):=by
  unfold kidK
  rw[if_neg (by omega),if_neg (by omega)]
  by_cases h78:e.kind=7\/e.kind=8
  ·rw[if_pos h78,if_pos h78,staK,if_neg (by omega),hhd]
  ·rw[if_neg h78,if_neg h78,if_pos (by omega)]
 rw[hkk]at hch
 obtain⟨e',t2,he',hT',hrest⟩:=hch
 simp only at he' hT'
 rw[hk]at he';cases he'
 have hT':=hT' (hok.kid hkm) hp hl (by omega) hroom
 have hone:∀q,(((n+1:Int)+(preN e.kids (0:Int).toNat:Nat)))=n+1+q->q=0:=λq h=>by rw[hp0]at h;omega
 rw[hp0,show(n+1:Int)+((0:Nat):Int)=n+1 by omega]at hT'
 unfold S_pack_Parser_single
 rw[hx.kind]
 have hkl:0<((x.Kids_l:Nat):Int):=by rw[hx.len,hk1];simp
 refine⟨b,o,ha,by omega,hkl,y,hat.le hP.le,inI_small (by omega) (by omega),(s_pack_Parser_try _ _ _ _ _ _ _ (hT' M y _ hy hP λM2 to hP2 hto=>⟨to,_,rfl,λk10=>?_,λn10=>⟨λk11=>?_,λn11=>⟨λhno=>?_,λhyes=>?_⟩⟩⟩)).mono (λg h=>.inl h) (λv M' _ h=>h)⟩
 ·rw[if_neg (by omega)]at hrest hres
  have hrest:t2=t1:=hrest
  subst hrest
  intro M3 hle
  unfold oneE at hres
  rw[if_neg (by omega),if_neg (by omega)]at hres
  have:=hK M3 p (hP2.up hc hle) (λh=>by split at hres<;>omega)
  rw[show decide (0<=c.res e p)=decide (0<=c.res k p) by rw[decide_eq_decide];split at hres<;>omega]at this
  exact this
 ·rw[if_neg (by omega)]at hrest hres
  have hrest:t2=t1:=hrest
  subst hrest
  intro M3 hle
  unfold oneE at hres
  rw[if_neg (by omega),if_neg (by omega)]at hres
  have:=hK M3 p (hP2.up hc hle) (λh=>by split at hres<;>omega)
  rw[show decide (0<=c.res e p)= !decide (0<=c.res k p) by rw[Bool.eq_iff_iff,Bool.not_eq_true',decide_eq_true_iff,decide_eq_false_iff_not];split at hres<;>omega]at this
  exact this
 ·have h0:c.res k p<0:=by simpa using hno
  intro M3 hle
  have hend:t2=t1:=by
   by_cases h78:e.kind=7\/e.kind=8
   ·rw[if_pos h78,staK,if_pos h0]at hrest;exact hrest
   ·rw[if_neg h78]at hrest;exact hrest
  subst hend
  have hval:c.res e p=if e.kind=8 then c.res k p else p:=by
   rw[hres]
   by_cases h78:e.kind=7\/e.kind=8
   ·rw[if_pos h78,strE]
    by_cases h8:e.kind=8
    ·rw[if_pos (.inr ⟨h0,rfl,by simpa using h8⟩),if_pos h8]
    ·rw[if_neg (λh=>h.elim (not_two hkr hp) λh=>h8 (by simpa using h.2.2)),if_pos h0,if_neg h8]
   ·rw[if_neg h78,if_neg (by omega)]
    unfold oneE
    rw[if_neg (by omega),if_neg (by omega),if_neg (by omega)]
  have:=hK M3 p (hP2.up hc hle) (λh=>by split at hval<;>omega)
  rw[show decide (0<=c.res e p)=(e.kind != (8:Int)) by rw[Bool.eq_iff_iff,decide_eq_true_iff,bne_iff_ne];split at hval<;>omega]at this
  exact this
 ·have h0:0<=c.res k p:=by simpa using hyes
  have hto:=hto h0
  subst hto
  refine⟨List Evt×Nat,λg q M'=>0<=q/\q<=c.s.length/\PI c g.1 M'/\(e.kind=7\/e.kind=8->ChainOk c e.kids (n+1) (staK (endE c.rs c.s c.E k) (g.2+1) q) g.1 t1/\strE (endE c.rs c.s c.E k) (decide (e.kind=8)) g.2 q false=c.res e p/\c.s.length+1<=q+g.2)/\(¬(e.kind=7\/e.kind=8)->g.1=t1/\q=c.res e p),λ_ q=>(c.s.length+1-q).toNat,(t2,c.s.length+1),
   ⟨h0,by omega,hP2,λh78=>⟨by rw[if_pos h78]at hrest;exact hrest,?_,?_⟩,λh78=>⟨by rw[if_neg h78]at hrest;exact hrest,?_⟩⟩,λg q M' ⟨q0,q1,hP',hl78,hl9⟩=>⟨λn9=>?_,λk9=>?_⟩⟩
  ·rw[if_pos h78,strE,if_neg (λh=>h.elim (not_two hkr hp) λh=>Int.not_lt.2 h0 h.1),if_neg (Int.not_lt.2 h0)]at hres
   exact hres.symm
  ·have:(e.kind=7\/e.kind=8):=h78
   have hem:=hok.star hk1 h78
   have hne:c.res k p≠p:=λh=>by
    have:=hc.hT.empty (hok.kid hkm) hp hl h
    rw[this]at hem;cases hem
   push_cast;omega
  ·rw[if_neg h78]at hres
   unfold oneE at hres
   rw[if_neg (by omega)]at hres
   by_cases h9:e.kind=9
   ·rw[if_pos ⟨h9,h0⟩]at hres;exact hres.symm
   ·omega
  ·have h78:e.kind=7\/e.kind=8:=by omega
   obtain⟨hch2,hst,hm⟩:=hl78 h78
   obtain⟨t3,m⟩:=g
   simp only at hch2 hst hm hP'
   have hem:=hok.star hk1 h78
   have hne:c.res k q≠q:=λh=>by
    have:=hc.hT.empty (hok.kid hkm) q0 q1 h
    rw[this]at hem;cases hem
   have hqr:c.res k q= -1\/(q<=c.res k q/\c.res k q<=c.s.length):=hc.hT.res (hok.kid hkm) q0 q1
   rw[staK,if_neg (by omega)]at hch2
   obtain⟨e',t4,he',hT2,hrest2⟩:=hch2
   simp only at he' hT2
   rw[hk]at he';cases he'
   have hT2:=hT2 (hok.kid hkm) q0 q1 (by omega) hroom
   rw[hp0,show(n+1:Int)+((0:Nat):Int)=n+1 by omega]at hT2
   cases m with
   |zero=>omega
   |succ m=>
    rw[strE]at hst
    refine⟨b,o,ha,by omega,hkl,y,hat.le hP'.le,inI_small (by omega) (by omega),(s_pack_Parser_try _ _ _ _ _ _ _ (hT2 M' y _ hy hP' λM3 to hP3 hto=>⟨to,_,rfl,λhno=>?_,λhyes=>?_⟩)).mono (λg h=>.inl h) (λv M' _ h=>h)⟩
    ·have hq0:c.res k q<0:=by simpa using hno
     rw[staK,if_pos hq0]at hrest2
     have hrest2:t4=t1:=hrest2
     subst hrest2
     rw[if_neg (λh=>h.elim (not_two hqr q0) λh=>by cases h.2.1),if_pos hq0]at hst
     unfold S_pack_Parser_single_J1
     intro M4 hle
     have:=hK M4 q (hP3.up hc hle) (λ_=>hst)
     rw[decide_eq_true (by rw[<-hst];exact q0)]at this
     exact this
    ·have hq0:0<=c.res k q:=by simpa using hyes
     have hto:=hto hq0
     subst hto
     rw[if_neg (λh=>h.elim (not_two hqr q0) λh=>Int.not_lt.2 hq0 h.1),if_neg (Int.not_lt.2 hq0)]at hst
     exact⟨(t4,m),⟨hq0,by omega,hP3,λ_=>⟨hrest2,hst,by push_cast at hm;omega⟩,λh=>absurd h78 h⟩,by show((c.s.length:Int)+1-c.res k q).toNat<((c.s.length:Int)+1-q).toNat;omega⟩
  ·have h9:e.kind=9:=by simpa using k9
   obtain⟨h1,h2⟩:=hl9 (by omega)
   unfold S_pack_Parser_single_J1
   intro M3 hle
   rw[h1]at hP'
   have:=hK M3 q (hP'.up hc hle) (λ_=>h2)
   rw[decide_eq_true (by rw[<-h2];exact q0)]at this
   exact this
end
end Go.Proofs.YtmnilbfhfjdelaaGreat.core

namespace Go.Proofs.YtmnilbfhfjdelaaGreat.core
open Go.Gx Go.RowKit Go.ChangeShapes Go.WideShapes Go.ChangeAt
set_option linter.unusedVariables false
theorem cpl_le:∀a b:List UInt8,cpl a b<=a.length/\cpl a b<=b.length
 |[],_=>by simp[cpl]
 |_::_,[]=>by simp[cpl]
 |x::a,y::b=>by
  have:=cpl_le a b
  rw[cpl]
  split<;>simp<;>omega
theorem cpl_same:∀(a b:List UInt8) (k:Nat),k<cpl a b->a[k]?=b[k]?
 |[],_,k,h=>by simp[cpl]at h
 |_::_,[],k,h=>by simp[cpl]at h
 |x::a,y::b,k,h=>by
  rw[cpl]at h
  split at h
  ·rename_i hxy
   cases k with
   |zero=>simp[hxy]
   |succ k=>simpa using cpl_same a b k (by omega)
  ·omega
theorem cpl_end:∀(a b:List UInt8) (x:UInt8),a[cpl a b]?=some x->b[cpl a b]?≠some x
 |[],_,x,h=>by simp at h
 |_::_,[],x,h=>by simp
 |u::a,v::b,x,h=>by
  rw[cpl]at h ⊢
  split at h
  ·rename_i huv
   rw[if_pos huv]
   simp only[List.getElem?_cons_succ]at h ⊢
   exact cpl_end a b x h
  ·rename_i huv
   rw[if_neg huv]
   simp only[List.getElem?_cons_zero,Option.some.injEq]at h ⊢
   subst h;exact λh'=>huv (Option.some.inj h').symm
theorem cpl_all:∀(a b:List UInt8),cpl a b=b.length->b.length<=a.length/\a.take b.length=b
 |_,[],_=>by simp
 |[],_::_,h=>by simp[cpl]at h
 |u::a,v::b,h=>by
  rw[cpl]at h
  split at h
  ·rename_i huv
   have:=cpl_all a b (by simpa using h)
   subst huv
   simp only[List.length_cons,List.take_succ_cons]
   exact⟨by omega,by rw[this.2]⟩
  ·simp at h
theorem Missed.as {far far' p:Int} {want want':X_api_Set} {f g:Nat->Bool} (h:Missed far want p f far' want') (hfg:∀b,b<256->f b=g b):Missed far want p g far' want':=
 ⟨h.1,h.2.1,λb hb=>by rw[h.2.2 b hb,hfg b hb]⟩
section
variable {c:PkC} {e:Ex} {n p:Int} {t t1:List Evt}
def RuleOk (c:PkC) (i p:Int) (t t':List Evt):Prop:=∀(M:Mem) (K:Value->Mem->Prop),PI c t M->(∀M',PI c t' M'->K (outE (c.E p.toNat i.toNat) p).val M')->S_pack_Parser_Rule c.ptr i p M c.LV K
theorem node_is (hc:c.Ok) (hok:PegOk c.rs e) (hp:0<=p) (hl:p<=c.s.length) (hn0:0<=n) (hn1:n+cnt e<=c.tot) (h4:e.kind=4->RuleOk c (findR e.text c.rs 0) p t t1) (hch:e.kind≠4->ChainOk c e.kids (n+1) (kidK c.rs c.s c.E e p) t t1):NodeOk c e n p t t1:=by
 intro M x K hR hP hK
 obtain⟨xs,hx⟩:=hR.open
 have hsm:=hc.small
 have hs60:=hc.s60
 have hl8:=kids8 hok.good
 obtain⟨g1,g2,g3,g4,g5,g6,_⟩:=fitE_kinds hok.good.fit
 have fin:∀(M':Mem) (to:Int) (b:Bool),PI c t1 M'->missOf c.rs c.s c.E (.node n p e)=none->b=decide (0<=c.res e p)->(0<=c.res e p->to=c.res e p)->K (.tuple #[.int .i64 to,.bool b]) M':=λM' to b ⟨far,want,hF,hB⟩ hm hb hto=>by
  rw[hb];exact hK M' to far want hB (hF.skip hm) hto
 have mnone:e.kind≠2->e.kind≠3->missOf c.rs c.s c.E (.node n p e)=none:=λh2 h3=>by
  rw[missOf,if_neg h2,if_neg h3];split<;>rfl
 have mpos:0<=c.res e p->missOf c.rs c.s c.E (.node n p e)=none:=λh=>by
  rw[missOf,if_neg (Int.not_lt.2 h)]
 have leaf:e.kind<=3->t=t1:=λh=>by
  have:=hch (by omega)
  unfold kidK at this
  rw[if_neg (by omega),if_neg (by omega),if_neg (show ¬(e.kind=7\/e.kind=8) by omega),if_neg (by omega)]at this
  exact this
 have atS:∀{t M},PI c t M->At M c.pb (0+1) [.string (mkS c.s)]:=λ⟨far,want,_,h⟩=>by
  obtain⟨la,lc,h1⟩:=h.at
  exact h1.part 1 [.string (mkS c.s)] rfl
 have atG:∀{t M},PI c t M->At M c.pb 0 [.slice c.ga c.gl c.gc]:=λ⟨far,want,_,h⟩=>by
  obtain⟨la,lc,h1⟩:=h.at
  exact h1.part 0 [.slice c.ga c.gl c.gc] rfl
 unfold S_pack_Parser_node
 rw[hx.kind]
 refine⟨λk1 M2 hle=>?_,λn1=>?_⟩
 ·have ht:=leaf (by omega)
  subst ht
  have hr:c.res e p=p:=by unfold PkC.res;rw[endE_eq,if_pos k1]
  exact fin M2 p true (hP.up hc hle) (mpos (by rw[hr];exact hp)) (by rw[hr];exact(decide_eq_true hp).symm) λ_=>hr.symm
 refine⟨λk2=>?_,λn2=>?_⟩
 ·have ht:=leaf (by omega)
  subst ht
  have hr:c.res e p=setE e.set c.s p:=by unfold PkC.res;rw[endE_eq,if_neg n1,if_pos k2]
  have j1:∀v:Bool,v=decide (0<=c.res e p)->(v=true->c.res e p=p+1)->S_pack_Parser_node_J1 c.ptr x p M c.LV v K:=by
   intro v hv hv1
   unfold S_pack_Parser_node_J1
   refine⟨λht=>⟨inI_small (by omega) (by omega),λM2 hle=>fin M2 _ true (hP.up hc hle) (mpos (by rw[hv1 ht];omega)) (by rw[<-hv,ht]) λ_=>(hv1 ht).symm⟩,λhf=>?_⟩
   have hneg:¬0<=c.res e p:=λh=>hf (by rw[hv,decide_eq_true h])
   obtain⟨far,want,hF,hB⟩:=hP
   rw[hx.set]
   refine(s_pack_Parser_miss _ _ _ _ _ _ (miss_is hc hB hF.wf hx.hs λM2 far' want' hB2 hm=>⟨rfl,λM3 hle=>?_⟩)).mono (λg h=>.inl h) (λv M' _ h=>h)
   have:=hK M3 0 far' want' (hB2.up hc hle) (hF.miss hp (x:=.node n p e) (by rw[missOf,if_pos (Int.not_le.1 hneg),if_pos k2]) hm) λh=>absurd h hneg
   rw[decide_eq_false hneg]at this
   exact this
  refine⟨c.pb,0,rfl,c.s,atS hP,λhlt=>?_,λhge=>?_⟩
  ·obtain⟨d,hd⟩:=getI (l:=c.s) hp hlt
   unfold setE at hr
   rw[hd]at hr
   simp only at hr
   rw[hx.set]
   refine⟨c.pb,0,rfl,c.s,atS hP,d,hp,hd,s_set_Has _ _ _ _ (has_is hx.hs d _ ⟨_,rfl,j1 _ ?_ λhb=>?_⟩)⟩
   ·rw[Bool.eq_iff_iff,decide_eq_true_iff]
    split at hr<;>rename_i hb<;>simp only[hb,hr]<;>simp<;>omega
   ·rw[if_pos hb]at hr;exact hr
  ·unfold setE at hr
   rw[List.getElem?_eq_none (by omega)]at hr
   simp only at hr
   exact j1 _ (by rw[hr];rfl) λh=>by cases h
 refine⟨λk3=>?_,λn3=>?_⟩
 ·have ht:=leaf (by omega)
  subst ht
  have h12:=g6 k3
  have hr:c.res e p=litE e.text c.s p:=by unfold PkC.res;rw[endE_eq,if_neg n1,if_neg n2,if_pos k3]
  rw[hx.text]
  refine⟨c.pb,0,rfl,c.s,atS hP,hp,hl,by omega,s_strings_HasPrefix _ _ _ _ (prefix_is _ _ _ ⟨_,rfl,λhyes=>⟨inI_small (by omega) (by omega),λM2 hle=>?_⟩,λhno=>?_⟩)⟩
  ·have hh:=of_decide_eq_true hyes
   rw[Int.toNat_natCast,List.take_length,List.length_drop]at hh
   have hr2:c.res e p=p+((e.text.length:Nat):Int):=by
    rw[hr];unfold litE
    rw[if_pos ⟨by omega,by rw[List.drop_take,show(p+((e.text.length:Nat):Int)).toNat-p.toNat=e.text.length by omega];exact hh.2⟩]
   exact fin M2 _ true (hP.up hc hle) (mpos (by rw[hr2];omega)) (by rw[hr2];exact(decide_eq_true (by omega)).symm) λ_=>hr2.symm
  ·have hh:¬(e.text.length<=(c.s.drop p.toNat).length/\(c.s.drop p.toNat).take e.text.length=e.text):=by
    intro h
    apply hno
    rw[Int.toNat_natCast,List.take_length,decide_eq_true h]
   have hneg:c.res e p= -1:=by
    rw[hr];unfold litE
    rw[if_neg]
    rintro⟨h1,h2⟩
    rw[List.drop_take,show(p+((e.text.length:Nat):Int)).toNat-p.toNat=e.text.length by omega]at h2
    exact hh ⟨by rw[List.length_drop];omega,h2⟩
   obtain⟨cl1,cl2⟩:=cpl_le (c.s.drop p.toNat) e.text
   have hlt:cpl (c.s.drop p.toNat) e.text<e.text.length:=by
    rcases Nat.lt_or_ge (cpl (c.s.drop p.toNat) e.text) e.text.length with h|h
    ·exact h
    ·exact absurd (cpl_all _ _ (by omega)) hh
   have hme:missOf c.rs c.s c.E (.node n p e)=some (p+(cpl (c.s.drop p.toNat) e.text:Nat),λb=>decide ((e.text[cpl (c.s.drop p.toNat) e.text]?).map UInt8.toNat=some b)):=by
    rw[missOf,if_pos (show c.res e p<0 by rw[hneg];omega),if_neg n2,if_pos k3]
   have hsame:=cpl_same (c.s.drop p.toNat) e.text
   have hend:=cpl_end (c.s.drop p.toNat) e.text
   rw[List.length_drop]at cl1
   generalize hC:cpl (c.s.drop p.toNat) e.text=C at hlt hme hsame hend cl1 cl2
   have j2:∀(k:Int) (v:Bool),0<=k->k<=C->(v=true->k+1<=C)->(v=false->k=C)->S_pack_Parser_node_J2 c.ptr x p M c.LV k (λk=>0<=k/\k<=C) (λk=>C-k.toNat) v K:=by
    intro k v k0 k1 hv1 hv2
    unfold S_pack_Parser_node_J2
    refine⟨λht=>⟨inI_small (by omega) (by omega),⟨by omega,by have:=hv1 ht;omega⟩,by have:=hv1 ht;show C-(k+1).toNat<C-k.toNat;omega⟩,λhf=>?_⟩
    have hkC:=hv2 (by simpa using hf)
    subst hkC
    obtain⟨d,hd⟩:=getN (l:=e.text) hlt
    have hd':e.text[((C:Nat):Int).toNat]?=some d:=by rw[Int.toNat_natCast];exact hd
    obtain⟨far,want,hF,hB⟩:=hP
    rw[hx.text]
    refine⟨inI_small (by omega) (by omega),d,k0,hd',d,k0,hd',?_⟩
    rw[u8wF]
    refine s_set_Range _ _ _ _ (range_is _ _ _ ⟨_,rfl,(s_pack_Parser_miss _ _ _ _ _ _ (miss_is hc hB hF.wf (Us_wf _) λM2 far' want' hB2 hm=>⟨rfl,λM3 hle=>?_⟩)).mono (λg h=>.inl h) (λv M' _ h=>h)⟩)
    have:=hK M3 0 far' want' (hB2.up hc hle) (hF.miss (by omega) hme (hm.as λb hb=>?_)) λh=>by rw[hneg]at h;omega
    ·rw[decide_eq_false (by rw[hneg];omega)]at this
     exact this
    ·rw[bit_Us hb,hd]
     unfold inR
     rw[Option.map_some,decide_eq_decide]
     simp only[Option.some.injEq]
     omega
   refine⟨λk=>0<=k/\k<=C,λk=>C-k.toNat,⟨by omega,by omega⟩,λk ⟨k0,k1⟩=>⟨inI_small (by omega) (by omega),c.pb,0,rfl,c.s,atS hP,λhlt2=>?_,λhge2=>?_⟩⟩
   ·obtain⟨a1,ha1⟩:=getI (l:=c.s) (i:=p+k) (by omega) hlt2
    obtain⟨a2,ha2⟩:=getI (l:=e.text) (i:=k) k0 (by omega)
    have hdr:(c.s.drop p.toNat)[k.toNat]?=some a1:=by rw[List.getElem?_drop,<-ha1];congr 1;omega
    refine⟨c.pb,0,rfl,c.s,atS hP,inI_small (by omega) (by omega),a1,by omega,ha1,a2,k0,ha2,j2 k _ k0 k1 (λhv=>?_) λhv=>?_⟩
    ·have hEq:a1=a2:=by
      have:=beq_iff_eq.1 hv
      exact UInt8.toNat_inj.1 (by omega)
     by_cases h:k<C
     ·omega
     ·exfalso
      have hkC:k.toNat=C:=by omega
      rw[hkC]at hdr ha2
      exact hend a1 hdr (by rw[ha2,hEq])
    ·by_cases h:k<C
     ·exfalso
      have:=hsame k.toNat (by omega)
      rw[hdr,ha2]at this
      have:a1=a2:=Option.some.inj this
      rw[this]at hv
      simp at hv
     ·omega
   ·exact j2 k false k0 k1 (λh=>by cases h) λ_=>by omega
 refine⟨λk4=>?_,λn4=>?_⟩
 ·have hf0:=hok.good.ref k4
  obtain⟨hf1,hf2⟩:=findR_lt hf0
  have hr:c.res e p=c.E p.toNat (findR e.text c.rs 0).toNat:=by unfold PkC.res;rw[endE_eq,if_neg n1,if_neg n2,if_neg n3,if_pos k4]
  have hrr:c.res e p= -1\/(p<=c.res e p/\c.res e p<=c.s.length):=hc.hT.res hok hp hl
  rw[hx.text]
  refine⟨c.pb,0,rfl,_,_,_,atG hP,s_gram_Find _ _ _ _ _ _ (find_is (hc.gr.le hP.le) e.text _ ⟨_,rfl,(s_pack_Parser_Rule _ _ _ _ _ _ (h4 k4 M _ hP λM2 hP2=>⟨_,rfl,?_⟩)).mono (λg h=>.inl h) (λv M' _ h=>h)⟩)⟩
  unfold S_pack_Parser_node_J3
  rw[<-hr]
  unfold outE
  by_cases h0:0<=c.res e p
  ·rw[if_pos h0]
   show InI (p+(c.res e p-p))/\∀M',M2.le M'->K (.tuple #[.int .i64 (p+(c.res e p-p)),.bool true]) M'
   exact⟨inI_small (by omega) (by omega),λM3 hle=>fin M3 _ true (hP2.up hc hle) (mpos h0) (decide_eq_true h0).symm λ_=>by omega⟩
  ·rw[if_neg h0]
   show InI (p+0)/\∀M',M2.le M'->K (.tuple #[.int .i64 (p+0),.bool false]) M'
   exact⟨inI_small (by omega) (by omega),λM3 hle=>fin M3 _ false (hP2.up hc hle) (mnone n2 n3) (decide_eq_false h0).symm λh=>absurd h h0⟩
 refine⟨λk5=>?_,λn5=>?_⟩
 ·refine(s_pack_Parser_seq _ _ _ _ _ _ _ (seq_is hc k5 hok hp hl hn0 hn1 (hch n4) hR hP λM2 to hP2 hto=>⟨to,_,rfl,λM3 hle=>fin M3 to _ (hP2.up hc hle) (mnone n2 n3) rfl hto⟩)).mono (λg h=>.inl h) (λv M' _ h=>h)
 refine⟨λk6=>?_,λn6=>?_⟩
 ·have hres:c.res e p=altE c.rs c.s c.E e.kids p:=by
   unfold PkC.res;rw[endE_eq,if_neg n1,if_neg n2,if_neg n3,if_neg n4,if_neg n5,if_pos k6]
  have hch:=hch n4
  unfold kidK at hch
  rw[if_neg n5,if_pos k6]at hch
  refine⟨inI_small (by omega) (by omega),List Evt,λt' k i M'=>0<=i/\i<=e.kids.length/\k=n+1+preN e.kids i.toNat/\PI c t' M'/\ChainOk c e.kids (n+1) (altK (endE c.rs c.s c.E) (e.kids.drop i.toNat) i p) t' t1/\altE c.rs c.s c.E (e.kids.drop i.toNat) p=c.res e p,λ_ _ i=>e.kids.length-i.toNat,t,
   ⟨by omega,by omega,by simp[preN],hP,by simpa using hch,by rw[hres];rfl⟩,λt' k i M' ⟨i0,i1,hkn,hP',hch',hrs⟩=>⟨λhlt=>?_,λhge=>?_⟩⟩
  ·rw[hx.len]at hlt
   obtain⟨ke,hk⟩:=getI (l:=e.kids) i0 hlt
   have hkm:=List.mem_of_getElem? hk
   obtain⟨b,o,y,ha,hat,hy,_⟩:=hx.kid hk
   rw[drop_get hk,altK]at hch'
   rw[drop_get hk,altE]at hrs
   obtain⟨e',t2,he',hT',hrest⟩:=hch'
   simp only at he' hT'
   rw[hk]at he';cases he'
   have hroom:=kid_room hn1 hk
   have hcnt:=kid_cnt hk
   have hkr:c.res ke p= -1\/(p<=c.res ke p/\c.res ke p<=c.s.length):=hc.hT.res (hok.kid hkm) hp hl
   have hT':=hT' (hok.kid hkm) hp hl (by omega) hroom
   rw[<-hkn]at hT'
   refine⟨b,o,ha,i0,by rw[hx.len];exact hlt,y,hat.le hP'.le,(s_pack_Parser_try _ _ _ _ _ _ _ (hT' M' y _ hy hP' λM2 to hP2 hto=>⟨to,_,rfl,λhyes=>?_,λhno=>?_⟩)).mono (λg h=>.inl h) (λv M' _ h=>h)⟩
   ·have h0:0<=c.res ke p:=by simpa using hyes
    rw[if_neg (Int.not_lt.2 h0)]at hrest
    have hne:c.res ke p≠-1:=by omega
    rw[if_pos hne]at hrs
    have hrest:t2=t1:=hrest
    subst hrest
    have hto:=hto h0
    subst hto
    have hrs:c.res ke p=c.res e p:=hrs
    intro M3 hle
    rw[hrs]
    exact fin M3 _ true (hP2.up hc hle) (mnone n2 n3) (by rw[<-hrs];exact(decide_eq_true h0).symm) λ_=>rfl
   ·have h0:c.res ke p<0:=by simpa using hno
    rw[if_pos h0]at hrest
    have hne:¬c.res ke p≠-1:=by omega
    rw[if_neg hne]at hrs
    refine(s_pack_count _ _ _ _ (count_is _ ke (Nat.lt_succ_self _) (by omega) _ _ _ (hy.le hP2.le) λM3 hle3=>⟨_,rfl,?_,?_,t2,⟨by omega,by omega,?_,hP2.up hc hle3,?_,?_⟩,?_⟩)).mono (λ_ h=>h.elim) (λv M' _ h=>h)
    ·exact inI_small (by omega) (by omega)
    ·exact inI_small (by omega) (by omega)
    ·rw[show(i+1).toNat=i.toNat+1 by omega,preN_succ hk,hkn];push_cast;omega
    ·rw[show(i+1).toNat=i.toNat+1 by omega];exact hrest
    ·rw[show(i+1).toNat=i.toNat+1 by omega];exact hrs
    ·show e.kids.length-(i+1).toNat<e.kids.length-i.toNat
     omega
  ·rw[hx.len]at hge
   rw[List.drop_of_length_le (by omega),altK]at hch'
   rw[List.drop_of_length_le (by omega),altE]at hrs
   have hch':t'=t1:=hch'
   subst hch'
   intro M2 hle
   exact fin M2 0 false (hP'.up hc hle) (mnone n2 n3) (by rw[<-hrs];rfl) λh=>by rw[<-hrs]at h;omega
 ·refine(s_pack_Parser_single _ _ _ _ _ _ _ (single_is hc (by omega) hok hp hl hn0 hn1 (hch n4) hR hP λM2 to hP2 hto=>⟨to,_,rfl,λM3 hle=>fin M3 to _ (hP2.up hc hle) (mnone n2 n3) rfl hto⟩)).mono (λg h=>.inl h) (λv M' _ h=>h)
end
end Go.Proofs.YtmnilbfhfjdelaaGreat.core

namespace Go.Proofs.YtmnilbfhfjdelaaGreat.core
open Go.Gx Go.RowKit Go.ChangeShapes Go.WideShapes Go.ChangeAt
set_option linter.unusedVariables false
def JobOk (rs:List Ru) (s:List UInt8) (E:Nat->Nat->Int):Job->Prop
 | .node e _ p=>PegOk rs e/\0<=p/\p<=s.length
 | .rule i p=>0<=i/\i<rs.length/\0<=p/\p<=s.length
 | .kids L _ l=>∃(e:Ex) (p:Int),L=e.kids/\PegOk rs e/\0<=p/\p<=s.length/\∀k∈l,k∈kidK rs s E e p
def LowE (rs:List Ru) (st:Nat->Nat) (e:Ex) (p i q:Int):Prop:=p<q\/(q=p/\∃j∈needsE rs (knOf rs) e,st i.toNat<=st j)
def LowJ (rs:List Ru) (st:Nat->Nat):Job->Int->Int->Prop
 | .node e _ p,i,q=>LowE rs st e p i q
 | .rule k p,i,q=>p<q\/(q=p/\st i.toNat<=st k.toNat)
 | .kids L _ l,i,q=>∃k∈l,∃e,L[k.Kid.toNat]?=some e/\LowE rs st e k.At i q
theorem goes_low {rs:List Ru} {s:List UInt8} {E:Nat->Nat->Int} (hw:WellOk rs) (hT:Tab rs s E) {st:Nat->Nat} (hst:∀(i:Nat) r,rs[i]?=some r->∀j∈needsE rs (knOf rs) r.body,st j<st i) {j:Job} {t t1:List Evt} (h:Goes rs s E j t t1):
  JobOk rs s E j->∀i q,Evt.done i q∈t1->Evt.done i q∈t\/LowJ rs st j i q:=by
 induction h with
 | @ref e n p t t' h4 _ ih=>
  intro ⟨hok,hp,hl⟩ i q hd
  have hf:=hok.good.ref h4
  obtain⟨f1,f2⟩:=findR_lt hf
  rcases ih ⟨hf,f2,hp,hl⟩ i q (by simpa using hd)with h|h|⟨h1,h2⟩
  ·exact .inl h
  ·exact .inr (.inl h)
  ·exact .inr (.inr ⟨h1,_,by rw[needsE_eq,if_pos h4];simp,h2⟩)
 | @inner e n p t t' h4 _ ih=>
  intro ⟨hok,hp,hl⟩ i q hd
  rcases ih ⟨e,p,rfl,hok,hp,hl,λk hk=>hk⟩ i q (by simpa using hd)with h|⟨k,hk,x,hx,h⟩
  ·exact .inl h
  ·obtain⟨_,_,x',hx',htr,hpk,hnd⟩:=kid_all hT hok hp hl k hk
   rw[hx]at hx';cases hx'
   rcases h with h|⟨h1,j0,h2,h3⟩
   ·exact .inr (.inl (by omega))
   ·by_cases he:k.At=p
    ·exact .inr (.inr ⟨by omega,j0,hnd he j0 h2,h3⟩)
    ·exact .inr (.inl (by omega))
 |seen _=>exact λ_ i q hd=>.inl hd
 | @rule k p r t t' hn hr _ ih=>
  intro ⟨hk,hk2,hp,hl⟩ i q hd
  rcases List.mem_append.1 hd with hd|hd
  ·rcases ih ⟨hw.peg (List.mem_of_getElem? hr),hp,hl⟩ i q hd with h|h|⟨h1,j0,h2,h3⟩
   ·exact .inl h
   ·exact .inr (.inl h)
   ·exact .inr (.inr ⟨h1,Nat.le_of_lt (Nat.lt_of_le_of_lt h3 (hst _ r hr j0 h2))⟩)
  ·simp only[List.mem_singleton,Evt.done.injEq]at hd
   obtain⟨rfl,rfl⟩:=hd
   exact .inr (.inr ⟨rfl,Nat.le_refl _⟩)
 |nil=>exact λ_ i q hd=>.inl hd
 | @cons L n k l x t ta tb he _ _ ih1 ih2=>
  intro ⟨e,p,hL,hok,hp,hl,hks⟩ i q hd
  obtain⟨_,hk1,x',hx',htr⟩:=kid_all hT hok hp hl k (hks k (by simp))
  rw[<-hL,he]at hx';cases hx'
  rcases ih2 ⟨e,p,hL,hok,hp,hl,λy hy=>hks y (by simp[hy])⟩ i q hd with h|⟨y,hy,r,hr,h⟩
  ·rcases ih1 ⟨hok.kid htr.1,by have:=htr.2.1;omega,hk1⟩ i q h with h|h
   ·exact .inl h
   ·exact .inr ⟨k,by simp,x,he,h⟩
  ·exact .inr ⟨y,by simp[hy],r,hr,h⟩
theorem goes_own {rs:List Ru} {s:List UInt8} {E:Nat->Nat->Int} (hw:WellOk rs) (hT:Tab rs s E) {i p n:Int} {r:Ru} (hr:rs[i.toNat]?=some r) (hp:0<=p) (hl:p<=s.length) {t t1:List Evt} (h:Goes rs s E (.node r.body n p) t t1) (hn:Evt.done i p∉t):Evt.done i p∉t1:=by
 obtain⟨st,_,hst⟩:=hw.stage
 intro hd
 rcases goes_low hw hT hst h ⟨hw.peg (List.mem_of_getElem? hr),hp,hl⟩ i p hd with h|h|⟨_,j,h1,h2⟩
 ·exact hn h
 ·omega
 ·have:=hst _ r hr j h1;omega
end Go.Proofs.YtmnilbfhfjdelaaGreat.core

namespace Go.Proofs.YtmnilbfhfjdelaaGreat.core
open Go.Gx Go.RowKit Go.ChangeShapes Go.WideShapes Go.ChangeAt
set_option linter.unusedVariables false
section
variable {c:PkC} {t t1:List Evt} {i p:Int}
theorem rule_is (hc:c.Ok) (hi:0<=i) {rr:Ru} (hr:c.rs[i.toNat]?=some rr) (hp:0<=p) (hl:p<=c.s.length) (hn:Evt.done i p∉t) (hn1:Evt.done i p∉t1) (hT:TryOk c rr.body (fstN c.rs i.toNat) p t t1):RuleOk c i p t (t1++[.done i p]):=by
 intro M K hP hK
 have hlt:=(List.getElem?_eq_some_iff.1 hr).1
 have hgl:=hc.gr.len
 have h10:=hc.hw.ok.ten
 have hs60:=hc.s60
 have hok:=hc.hw.peg (List.mem_of_getElem? hr)
 have hE:c.E p.toNat i.toNat=c.res rr.body p:=by
  have:=hc.hT.fix p.toNat i.toNat rr (by omega) hr
  rw[show((p.toNat:Nat):Int)=p by omega]at this
  exact this
 have hrr:c.res rr.body p= -1\/(p<=c.res rr.body p/\c.res rr.body p<=c.s.length):=hc.hT.res hok hp hl
 obtain⟨b2,o2,ha2,hat2⟩:=hc.fst i.toNat hlt
 obtain⟨r2,x2,b3,o3,hr2,ha3,hat3,hrr3⟩:=hc.gr.at hi (by omega)
 rw[hr]at hr2;cases hr2
 have atK:∀{t far want M},PB c t far want M->∃la lc,M c.pb=some (.cells (c.cells la (logOf c.E t).length lc far want).toArray 120 (0,0))/\At M c.pb (0+2) [.map (some c.r)]/\At M c.pb 0 [.slice c.ga c.gl c.gc]/\At M c.pb (0+10) [.slice c.fa c.rs.length c.fc]/\At M c.pb (0+3) [.slice la (logOf c.E t).length lc]/\RowW M 147 4 la (logOf c.E t).length lc (cl X_api_Step.cells (logOf c.E t))/\∀g,la=some ⟨g,0,none⟩->c.V g=none/\¬c.JB g/\g≠c.pb/\g≠c.r:=λh=>by
  obtain⟨la,lc,h1,h2,h3⟩:=h.bk
  have h0:=At.blk h1
  exact⟨la,lc,h1,h0.part 2 [.map (some c.r)] rfl,h0.part 0 [.slice c.ga c.gl c.gc] rfl,h0.part 10 [.slice c.fa c.rs.length c.fc] rfl,h0.part 3 [.slice la _ lc] rfl,h2,h3⟩
 obtain⟨far,want,hF,hB⟩:=id hP
 obtain⟨la,lc,hblk,a1,a2,a3,a4,hrow,hla⟩:=atK hB
 obtain⟨f,hf,hfd⟩:=hB.mp
 have hnone:f i p=none:=by
  cases hv:f i p with
  |none=>rfl
  |some v=>exact absurd ((hfd i p v).1 hv).1 hn
 unfold S_pack_Parser_Rule
 rw[show c.gl=c.rs.length from hgl]at*
 refine⟨c.pb,0,rfl,_,a1,c.r,f,rfl,hf,inI_small (by omega) (by omega),inI_small (by omega) (by omega),⟨false,0⟩,by rw[hnone];rfl,λh=>(by rw[hnone]at h;cases h),λ_=>?_⟩
 refine⟨c.pb,0,rfl,_,_,_,a2,b3,o3,ha3,hi,by omega,x2.Body,(hat3.part 1 x2.Body.cells rfl).le hB.le,c.pb,0,rfl,_,_,_,a3,b2,o2,ha2,hi,by omega,_,hat2.le hB.le,?_⟩
 refine(s_pack_Parser_try _ _ _ _ _ _ _ (hT M x2.Body _ hrr3.2.2 hP λM2 to hP2 hto=>⟨to,_,rfl,?_⟩)).mono (λg h=>.inl h) (λv M' _ h=>h)
 have j1:∀(ok:Bool) (N:Int),X_api_Outcome.mk ok N=outE (c.E p.toNat i.toNat) p->S_pack_Parser_Rule_J1 c.ptr i p M c.LV ok M2 N K:=by
  intro ok N hout
  obtain⟨far,want,hF,hB⟩:=hP2
  obtain⟨la,lc,hblk,a1,a2,a3,a4,hrow,hla⟩:=atK hB
  obtain⟨f,hf,hfd⟩:=hB.mp
  unfold S_pack_Parser_Rule_J1
  rw[hout]
  refine⟨c.pb,0,rfl,_,a1,c.r,f,rfl,hf,inI_small (by omega) (by omega),inI_small (by omega) (by omega),.inl hc.rV,λM39 hS=>?_⟩
  have hne39:∀b,b≠c.r->M39 b=M2 b:=λb hb=>hS.ne hb
  have hblk39:M39 c.pb=_:=(hne39 _ hc.pr).trans hblk
  have hrow39:=hrow.same (M':=M39) λg o hg ho=>by rw[hne39 g (hla g hg).2.2.2];exact ho
  have hbound:=hB.room hc
  refine⟨c.pb,0,rfl,la,(logOf c.E t1).length,lc,(At.blk hblk39).part 3 [.slice la _ lc] rfl,λu hu=>St_one ⟨i,p,outE (c.E p.toNat i.toNat) p⟩ u hu,_,hrow39,λg hg=>.inl (hla g hg).1,by omega,λM49 ad50 cap51 hA=>?_⟩
  have h49pb:M49 c.pb=_:=hA.keep _ _ hblk39 λg hg e=>(hla g hg).2.2.1 e.symm
  refine⟨c.pb,0,rfl,Has.blk h49pb (by show 0+3+1<=11;omega),.inl hc.pbV,λM54 hM54 M3 hle=>?_⟩
  refine hK M3 ⟨far,want,hF.skip rfl,PB.up hc ?_ hle⟩
  have hne54:∀b,b≠c.pb->M54 b=M49 b:=λb hb=>by rw[hM54];exact Mem.put_ne hb
  have hold:∀b o,M2 b=some o->b≠c.r->b≠c.pb->(∀g,la=some ⟨g,0,none⟩->b≠g)->M54 b=some o:=λb o ho h1 h2 h3=>by
   rw[hne54 b h2];exact hA.keep b o (by rw[hne39 b h1];exact ho) h3
  have hcells:cl X_api_Step.cells (logOf c.E t1)++(X_api_Step.mk i p (outE (c.E p.toNat i.toNat) p)).cells=cl X_api_Step.cells (logOf c.E (t1++[.done i p])):=by rw[logOf_done];exact cl_snoc _ _
  have hlen:(logOf c.E (t1++[.done i p])).length=(logOf c.E t1).length+1:=by rw[logOf_done,List.length_append];rfl
  have hblkg:∀g,ad50=some ⟨g,0,none⟩->c.V g=none/\¬c.JB g/\g≠c.pb/\g≠c.r:=λg hg=>by
   rcases hA.blk g hg with h|h
   ·exact hla g h
   ·refine⟨?_,λhj=>?_,λe=>?_,λe=>?_⟩
    ·cases hv:c.V g with
     |none=>rfl
     |some o=>
      have:=hB.le g o hv
      rw[<-hne39 g (λe=>by rw[e,hc.rV]at hv;cases hv),h]at this;cases this
    ·have:=hc.has _ _ hB.j g hj
     rw[<-hne39 g (λe=>hc.jr (e▸hj)),h]at this;cases this
    ·rw[e,hblk39]at h;cases h
    ·obtain⟨o,hM39,hsome,_⟩:=hS
     rw[e,hM39,Mem.add_eq]at h;cases h
  refine⟨λb o ho=>?_,⟨ad50,cap51,?_,?_,hblkg⟩,?_,hc.done _ _ _ _ (hc.frame _ _ _ hB.j λb hb=>?_),?_,λa b hab=>?_⟩
  ·exact hold b o (hB.le b o ho) (λe=>by rw[e,hc.rV]at ho;cases ho) (λe=>by rw[e,hc.pbV]at ho;cases ho) λg hg e=>by rw[e,(hla g hg).1]at ho;cases ho
  ·rw[hM54,Mem.put_eq h49pb,hlen];rfl
  ·rw[hlen,<-hcells]
   exact hA.row.same λg o hg ho=>by rw[hne54 g (hblkg g hg).2.2.1];exact ho
  ·obtain⟨o,hM39,hsome,hset⟩:=hS
   have hm39:M39 c.r=some o:=by rw[hM39];exact Mem.add_eq
   have hr54:M54 c.r=M39 c.r:=by
    rw[hne54 _ hc.pr.symm,hm39]
    exact hA.keep _ _ hm39 λg hg e=>(hla g hg).2.2.2 e.symm
   obtain⟨es,clk,h4,h5⟩:=hset f (λa b=>if a=i/\b=p then some (outE (c.E p.toNat i.toNat) p).val else f a b) hf (by simp) (λa b hab=>by rw[if_neg hab])
   refine⟨_,⟨es,clk,hr54.trans h4,h5⟩,λa b v=>?_⟩
   by_cases hab:a=i/\b=p
   ·rw[if_pos hab]
    obtain⟨rfl,rfl⟩:=hab
    exact⟨λh=>⟨by simp,(Option.some.inj h).symm⟩,λh=>by rw[h.2]⟩
   ·rw[if_neg hab,hfd a b v]
    refine and_congr_left λ_=>⟨λh=>by simp[h],λh=>?_⟩
    rcases List.mem_append.1 h with h|h
    ·exact h
    ·simp only[List.mem_singleton,Evt.done.injEq]at h;exact absurd h hab
  ·have:=hc.has _ _ hB.j b hb
   obtain⟨o,ho⟩:=Option.isSome_iff_exists.1 this
   rw[ho]
   exact hold b o ho (λe=>hc.jr (e▸hb)) (λe=>hc.jpb (e▸hb)) λg hg e=>(hla g hg).2.1 (e▸hb)
  ·rw[logOf_done,List.map_append,List.nodup_append]
   refine⟨hB.ks.1,by simp,λa ha b hb=>?_⟩
   obtain⟨y,hy,rfl⟩:=List.mem_map.1 ha
   obtain⟨hy1,_⟩:=logOf_mem.1 hy
   have hk:=hB.ks.2 _ _ hy1
   simp only[List.map_cons,List.map_nil,List.mem_singleton]at hb
   subst hb
   unfold keyS
   intro e
   have e1:y.Rule=i:=by simp only at e;omega
   have e2:y.At=p:=by simp only at e;omega
   rw[e1,e2]at hy1
   exact hn1 hy1
  ·rcases List.mem_append.1 hab with h|h
   ·exact hB.ks.2 a b h
   ·simp only[List.mem_singleton,Evt.done.injEq]at h
    obtain⟨rfl,rfl⟩:=h
    exact⟨hi,by omega,hp,hl⟩
 refine⟨λhyes=>⟨?_,j1 _ _ ?_⟩,λhno=>j1 _ _ ?_⟩
 ·have h0:0<=c.res rr.body p:=by simpa using hyes
  rw[hto h0]
  exact inI_small (by omega) (by omega)
 ·have h0:0<=c.res rr.body p:=by simpa using hyes
  rw[hto h0,hE,decide_eq_true h0]
  unfold outE
  rw[if_pos h0]
 ·have h0:¬0<=c.res rr.body p:=λh=>hno (decide_eq_true h)
  rw[hE,decide_eq_false h0]
  unfold outE
  rw[if_neg h0]
end
theorem rule_seen {c:PkC} {t:List Evt} {i p:Int} (hc:c.Ok) (hd:Evt.done i p∈t):RuleOk c i p t t:=by
 intro M K hP hK
 obtain⟨far,want,hF,hB⟩:=id hP
 obtain⟨la,lc,h1⟩:=hB.at
 obtain⟨f,hf,hfd⟩:=hB.mp
 obtain⟨k1,k2,k3,k4⟩:=hB.ks.2 i p hd
 have h10:=hc.hw.ok.ten
 have hs60:=hc.s60
 have hv:=(hfd i p _).2 ⟨hd,rfl⟩
 unfold S_pack_Parser_Rule
 refine⟨c.pb,0,rfl,_,h1.part 2 [.map (some c.r)] rfl,c.r,f,rfl,hf,inI_small (by omega) (by omega),inI_small (by omega) (by omega),outE (c.E p.toNat i.toNat) p,by rw[hv];rfl,λ_ M2 hle=>hK M2 (hP.up hc hle),λhn=>absurd (by rw[hv];rfl) hn⟩
def WalkOk (c:PkC):Job->List Evt->List Evt->Prop
 | .node e n p,t,t'=>PegOk c.rs e->0<=p->p<=c.s.length->0<=n->n+cnt e<=c.tot->TryOk c e n p t t'
 | .rule i p,t,t'=>0<=i->i<c.rs.length->0<=p->p<=c.s.length->RuleOk c i p t t'
 | .kids L n l,t,t'=>ChainOk c L n l t t'
theorem pack_walk {c:PkC} (hc:c.Ok) {j:Job} {t t':List Evt} (h:Goes c.rs c.s c.E j t t'):WalkOk c j t t':=by
 induction h with
 | @ref e n p t t' h4 _ ih=>
  intro hok hp hl hn0 hn1
  have hf:=hok.good.ref h4
  obtain⟨f1,f2⟩:=findR_lt hf
  exact try_is hc hn0 (by have:=cnt_pos e;omega) (node_is hc hok hp hl hn0 hn1 (λ_=>ih hf f2 hp hl) λn4=>absurd h4 n4)
 | @inner e n p t t' h4 _ ih=>
  intro hok hp hl hn0 hn1
  exact try_is hc hn0 (by have:=cnt_pos e;omega) (node_is hc hok hp hl hn0 hn1 (λk4=>absurd k4 h4) λ_=>ih)
 |seen h=>exact λ_ _ _ _=>rule_seen hc h
 | @rule i p r t t' hn hr hg ih=>
  intro hi hi2 hp hl
  have hsum:=fstN_rule hr
  have htot:=hc.tot
  exact rule_is hc hi hr hp hl hn (goes_own hc.hw hc.hT hr hp hl hg hn) (ih (hc.hw.peg (List.mem_of_getElem? hr)) hp hl (by omega) (by omega))
 |nil=>rfl
 |cons he _ _ ih1 ih2=>exact⟨_,_,he,ih1,ih2⟩
theorem prule_is {c:PkC} (hc:c.Ok) {i p:Int} (hi:0<=i) (hi2:i<c.rs.length) (hp:0<=p) (hl:p<=c.s.length) {t:List Evt} {M:Mem} {K:Value->Mem->Prop} (hP:PI c t M) (hK:∀M' t',Goes c.rs c.s c.E (.rule i p) t t'->PI c t' M'->K (outE (c.E p.toNat i.toNat) p).val M'):S_pack_Parser_Rule c.ptr i p M c.LV K:=by
 by_cases hd:Evt.done i p∈t
 ·exact pack_walk hc (.seen hd) hi hi2 hp hl M K hP λM'=>hK M' t (.seen hd)
 ·obtain⟨r,hr⟩:=getN (l:=c.rs) (i:=i.toNat) (by omega)
  obtain⟨t',ht⟩:=goes_ex hc.hw hc.hT r.body p (hc.hw.peg (List.mem_of_getElem? hr)) hp hl (fstN c.rs i.toNat) t
  exact pack_walk hc (.rule hd hr ht) hi hi2 hp hl M K hP λM'=>hK M' _ (.rule hd hr ht)
end Go.Proofs.YtmnilbfhfjdelaaGreat.core

namespace Go.Proofs.YtmnilbfhfjdelaaGreat.core
open Go.Gx Go.RowKit Go.ChangeShapes Go.WideShapes Go.ChangeAt
set_option linter.unusedVariables false
theorem At.off {M:Mem} {b o r:Nat} {vs:List Value} (h:At M b o vs) (hr:∀j,M.cell r j=none):At (but M r) b o vs:=λj v hj=>by
 have h1:=h j v hj
 by_cases hb:b=r
 ·subst hb;rw[hr]at h1;cases h1
 ·unfold Mem.cell at h1 ⊢
  rw[but_ne hb];exact h1
theorem SlV.off {M:Mem} {a:Option Addr} {l c size r:Nat} {xs:List Value} (h:SlV M a l c size xs) (hr:∀j,M.cell r j=none):SlV (but M r) a l c size xs:=
 ⟨h.1,h.2.1,h.2.2.1,λh0=>by obtain⟨b,o,e,ha⟩:=h.2.2.2 h0;exact⟨b,o,e,At.off ha hr⟩⟩
section
variable {rs:List Ru} {s:List UInt8} {E:Nat->Nat->Int} {b r:Nat} {ga ea:Option Addr} {gl gc ec eb:Nat}
end
end Go.Proofs.YtmnilbfhfjdelaaGreat.core

namespace Go.Proofs.YtmnilbfhfjdelaaGreat.core
open Go.Gx Go.RowKit Go.ChangeShapes Go.WideShapes Go.ChangeAt
set_option linter.unusedVariables false
theorem new_raw {rs:List Ru} {s:List UInt8} {ga:Option Addr} {gl gc:Nat} {M:Mem} {K:Value->Mem->Prop} (hg:GrR M rs ga gl gc) (h10:rs.length<=10) (h120:(rs.map λr=>cnt r.body).sum<=100000)
  (hK:∀(V M':Mem) (pb r:Nat) (fa:Option Addr) (fc:Nat),M.le V->V pb=none->V r=none->pb≠r->(∀i,i<rs.length->∃b o,fa=some ⟨b,o,none⟩/\At V b (o+i*1) [Value.int .i64 (fstN rs i:Nat)])->
   M' pb=some (.cells (X_pack_Parser.mk ga rs.length gc s (some r) none 0 0 (-1) (X_api_Set.mk 0 0 0 0) Value.nilFunc fa rs.length fc).cells.toArray 120 (0,0))->MapF M' r (λ_ _=>none)->V.le M'->K (.pointer (some ⟨pb,0,none⟩)) M'):
  S_pack_New ga gl gc s M (λ_=>False) K:=by
 have hgl:=hg.len
 subst hgl
 unfold S_pack_New
 intro M6 r hr hM6 _
 have hle6:M.le M6:=by rw[hM6];exact Mem.add_le hr
 refine⟨Unit,λ_ n i rn rx M'=>0<=i/\i<=rs.length/\n=(fstN rs i.toNat:Nat)/\rn=i.toNat/\rx=cl iC ((List.range i.toNat).map λj=>((fstN rs j:Nat):Int))/\M6.le M',λ_ _ i _ _=>rs.length-i.toNat,(),⟨by omega,by omega,by simp[fstN],rfl,rfl,Mem.le.refl _⟩,λ_ n i rn rx M' ⟨i0,i1,hn,hrn,hrx,hle⟩=>⟨λhlt=>?_,λhge=>?_⟩⟩
 ·obtain⟨rr,x,b,o,hrr,ha,hat,hrx2⟩:=hg.at i0 hlt
  have hsum:=fstN_rule hrr
  refine⟨b,o,ha,i0,hlt,x,hat.le (hle6.trans hle),by omega,(s_pack_count _ _ _ _ (count_is _ rr.body (Nat.lt_succ_self _) (by omega) _ _ _ (hrx2.2.2.le (hle6.trans hle)) λM2 hle2=>⟨_,rfl,?_,?_,(),⟨by omega,by omega,?_,by omega,?_,hle.trans hle2⟩,?_⟩)).mono (λ_ h=>h.elim) (λv M' _ h=>h)⟩
  ·exact inI_small (by omega) (by omega)
  ·exact inI_small (by omega) (by omega)
  ·rw[show(i+1).toNat=i.toNat+1 by omega,fstN_succ hrr,hn];push_cast;rfl
  ·rw[hrx,hn,show(i+1).toNat=i.toNat+1 by omega,List.range_succ,List.map_append]
   exact cl_snoc _ _
  ·show rs.length-(i+1).toNat<rs.length-i.toNat
   omega
 ·intro M64 hn64 M67 ad cap hn67 pb M68 hpb hM68 M3 hle3
  have hi:i.toNat=rs.length:=by omega
  rw[hrn,hi]at hn67
  rw[hrx,hi]at hn67
  have hle67:M6.le M67:=hle.trans (hn64.le.trans hn67.le)
  have hr67:M67 r=some (.map #[] 0):=hle67 _ _ (by rw[hM6];exact Mem.add_eq)
  have hcell:∀j,M67.cell r j=none:=λj=>by unfold Mem.cell;rw[hr67]
  have hsl:=SlV.off hn67.slv hcell
  have hne:pb≠r:=by rintro rfl;rw[hpb]at hr67;cases hr67
  have hleV:(but M67 r).le M68:=(but_le _ _).trans (by rw[hM68];exact Mem.add_le hpb)
  refine hK (but M67 r) M3 pb r ad cap (le_but (hle6.trans hle67) hr) ?_ (but_eq _ _) hne (λj hj=>?_) ?_ ?_ (hleV.trans hle3)
  ·rw[but_ne hne];exact hpb
  ·exact hsl.at iC_len (by simp) (x:=((fstN rs j:Nat):Int)) (by rw[List.getElem?_map,List.getElem?_range hj];rfl)
  ·refine hle3 _ _ ?_
   rw[hM68,Mem.add_eq,hrn,hi];rfl
  ·refine MapF.le ?_ hle3
   obtain⟨es,clk,h1,h2⟩:=MapF.new M r
   rw[Mem.add_eq]at h1
   cases h1
   refine⟨#[],0,?_,h2⟩
   rw[hM68,Mem.add_ne hne.symm];exact hr67
theorem new_is {rs:List Ru} {s:List UInt8} {E:Nat->Nat->Int} {ga:Option Addr} {gl gc:Nat} {M:Mem} {K:Value->Mem->Prop} (hw:WellOk rs) (hT:Tab rs s E) (hs:s.length<=60) (hg:GrR M rs ga gl gc)
  (hK:∀(c:PkC) (M':Mem),c.Ok->c.rs=rs->c.s=s->c.E=E->M.le c.V->PI c [] M'->K (.pointer c.ptr) M'):S_pack_New ga gl gc s M (λ_=>False) K:=by
 have h10:=hw.ok.ten
 have h120:(rs.map λr=>cnt r.body).sum<=120:=hw.ok.all
 have hgl:=hg.len
 refine new_raw hg h10 (by omega) λV M' pb r fa fc hle h1 h2 h3 h4 h5 h6 h7=>?_
 refine hK ⟨V,rs,s,E,pb,r,ga,fa,gl,gc,fc,.nilFunc,λ_=>False,λ_ _=>True,120⟩ M' ?_ rfl rfl rfl hle ?_
 ·exact⟨hw,hT,hs,hg.le hle,h4,h1,h2,h3,λh=>h,λh=>h,λ_ h=>h.elim,λ_ _ _ _ _=>trivial,λ_ _ _ _ h=>h.elim,⟨true,.inl ⟨rfl,rfl⟩,λ_ _ _ _ _ _ _=>trivial,λh=>(by cases h)⟩,λ_ _ _ _ _=>trivial,h120,by show 120<=100000;omega⟩
 ·refine⟨-1,X_api_Set.mk 0 0 0 0,FW.init _ _ _,h7,⟨none,0,?_,⟨rfl,Nat.le_refl _,by decide,.inl ⟨rfl,rfl,rfl⟩⟩,λg hg=>by cases hg⟩,⟨_,h6,λi p v=>⟨λh=>(by cases h),λh=>(by cases h.1)⟩⟩,trivial,by simp[logOf],λi p h=>by cases h⟩
  rw[h5,hgl];rfl
end Go.Proofs.YtmnilbfhfjdelaaGreat.core

namespace Go.Proofs.YtmnilbfhfjdelaaGreat.core
open Go.Gx Go.RowKit Go.ChangeShapes Go.WideShapes Go.ChangeAt
set_option linter.unusedVariables false
theorem tab_same {rs:List Ru} {s:List UInt8} {E E':Nat->Nat->Int} (hw:WellOk rs) (hT:Tab rs s E) (hT':Tab rs s E') {p i:Nat} (hp:p<=s.length) (hi:i<rs.length):E p i=E' p i:=by
 obtain⟨r,hr⟩:=getN (l:=rs) hi
 have hok:=hw.peg (List.mem_of_getElem? hr)
 obtain⟨m,x,hx⟩:=ev_ex hw hT r.body p hok (by omega) (by omega)
 rw[hT.fix p i r hp hr,hT'.fix p i r hp hr,<-ev_res hw hT m _ _ _ hok (by omega) (by omega) hx,<-ev_res hw hT' m _ _ _ hok (by omega) (by omega) hx]
theorem LV_new {c:PkC} {M:Mem} {L:Nat->Prop} (h:M.le c.V):∀b,c.LV b->Wr L M b:=λb hb=>.inr (by
 cases hv:M b with
 |none=>rfl
 |some o=>have:=h b o hv;rw[show c.V b=none from hb]at this;cases this)
section
variable {rs:List Ru} {s:List UInt8} {ga:Option Addr} {gl gc:Nat} {M:Mem} {K:Value->Mem->Prop}
theorem prun_is (hg:GrR M rs ga gl gc)
  (h1:lookP rs s≠0->∀M',M.le M'->K (.tuple #[(X_api_Outcome.mk false 0).val,.slice none 0 0,.int .i64 (lookP rs s)]) M')
  (h3:lookP rs s=0->∀E,Tab rs s E->∀t,Goes rs s E (.rule 0 0) [] t->∀M' la lc,M.le M'->SlV M' la (logOf E t).length lc 4 (cl X_api_Step.cells (logOf E t))->K (.tuple #[(outE (E 0 0) 0).val,.slice la (logOf E t).length lc,.int .i64 0]) M'):
  S_pack_Run ga gl gc s M (λ_=>False) K:=by
 unfold S_pack_Run
 refine s_mean_Look _ _ _ _ _ _ (mlook_is hg s _ ⟨_,rfl,λh=>h1 h,λh=>?_⟩)
 have h0:lookP rs s=0:=Decidable.not_not.1 h
 obtain⟨hw,hs⟩:=look_ok h0
 have h11:=hw.ok.one
 obtain⟨E,hT⟩:=tab_ex (s:=s) hw
 refine(s_pack_New _ _ _ _ _ _ _ (new_is hw hT hs hg λc M2 hc hcr hcs hcE hle hP=>⟨_,rfl,?_⟩)).mono (λ_ h=>h.elim) (λv M' _ h=>h)
 subst hcr hcs hcE
 refine(s_pack_Parser_Rule _ _ _ _ _ _ (prule_is hc (Int.le_refl 0) (by omega) (Int.le_refl 0) (by omega) hP λM3 t' hgo hP3=>⟨_,rfl,?_⟩)).mono (LV_new hle) (λv M' _ h=>h)
 obtain⟨far,want,hF,hB⟩:=id hP3
 obtain⟨la,lc,hb,hrow,_⟩:=hB.bk
 exact⟨c.pb,0,rfl,la,(logOf c.E t').length,lc,(At.blk hb).part 3 [.slice la _ lc] rfl,λM4 hle4=>h3 h0 c.E hT t' hgo M4 la lc (hle.trans (hP3.le.trans hle4)) (hrow.slv.le hle4)⟩
end
end Go.Proofs.YtmnilbfhfjdelaaGreat.core

namespace Go.Proofs.YtmnilbfhfjdelaaGreat.core
open Go.Gx Go.RowKit Go.ChangeShapes Go.WideShapes Go.ChangeAt
set_option linter.unusedVariables false
noncomputable def accP (rs:List Ru) (s:List UInt8):Bool:= @decide (∃E,Tab rs s E/\E 0 0=(s.length:Int)) (Classical.propDecidable _)
theorem acc_eq {rs:List Ru} {s:List UInt8} {E:Nat->Nat->Int} (hw:WellOk rs) (hT:Tab rs s E):accP rs s=decide (E 0 0=(s.length:Int)):=by
 have h11:=hw.ok.one
 unfold accP
 rw[decide_eq_decide]
 exact⟨λ⟨E',hT',h⟩=>by rw[tab_same hw hT hT' (p:=0) (i:=0) (by omega) h11];exact h,λh=>⟨E,hT,h⟩⟩
theorem laccepts_is {rs:List Ru} {s:List UInt8} {ga:Option Addr} {gl gc:Nat} {M:Mem} {K:Value->Prop} (hg:GrR M rs ga gl gc) (h1:lookP rs s≠0->K (.tuple #[.bool false,.int .i64 (lookP rs s)])) (h2:lookP rs s=0->K (.tuple #[.bool (accP rs s),.int .i64 0])):S_list_Accepts ga gl gc s M K:=by
 unfold S_list_Accepts
 refine e_pack_Run _ _ _ _ _ _ (prun_is hg (λh M' _=>⟨_,_,_,_,_,rfl,λh'=>absurd h' h,λ_=>h1 h⟩) λh E hT t _ M' la lc _ _=>⟨_,_,_,_,_,rfl,λ_=>?_,λhn=>absurd rfl hn⟩)
 obtain⟨hw,hs60⟩:=look_ok h
 have h2:=h2 h
 rw[acc_eq hw hT]at h2
 by_cases h0:0<=E 0 0
 ·refine⟨λ_=>?_,λhn=>absurd (by unfold outE;rw[if_pos h0]) hn⟩
  have e1:(outE (E 0 0) 0).N=E 0 0:=by unfold outE;rw[if_pos h0];simp
  rw[e1];exact h2
 ·refine⟨λhy=>?_,λ_=>?_⟩
  ·unfold outE at hy;rw[if_neg h0]at hy;cases hy
  ·rw[decide_eq_false (by omega)]at h2;exact h2
theorem raccepts_is {rs:List Ru} {s:List UInt8} {ga:Option Addr} {gl gc:Nat} {M:Mem} {K:Value->Prop} (hw:WellOk rs) (hs60:s.length<=60) (hg:GrR M rs ga gl gc) (hK:K (.bool (accP rs s))):S_chaffref_Accepts ga gl gc s M K:=by
 have h11:=hw.ok.one
 unfold S_chaffref_Accepts
 refine e_chaffref_Fill _ _ _ _ _ _ (fill_is hw hs60 hg _ λM7 b ea ec eb E hle hT hTab=>⟨_,rfl,b,0,rfl,_,_,_,hTab.en,eb,0,hTab.ea,by omega,by omega,?_⟩)
 obtain⟨ra,rc,hra,hrow⟩:=hTab.row 0 (by omega) (by omega)
 obtain⟨b3,o3,hb3,hat3⟩:=hrow.at iC_len (rowE_len E rs.length 0) (rowE_get (i:=0) h11)
 refine⟨ra,_,rc,hra,b3,o3,hb3,by omega,by omega,_,hat3,?_⟩
 rw[acc_eq hw hT]at hK
 exact hK
end Go.Proofs.YtmnilbfhfjdelaaGreat.core

namespace Go.Proofs.YtmnilbfhfjdelaaGreat.core
open Go.Gx Go.RowKit Go.ChangeShapes Go.WideShapes Go.ChangeAt
set_option linter.unusedVariables false
noncomputable def listP (rs:List Ru) (a:List UInt8) (n:Int):Int:=if (wellP rs).2≠0 then(wellP rs).2 else if alphaP a≠0 then alphaP a else if n<0\/6<n then 1 else if 5000<geo a.length (n.toNat+1) then 2 else 0
section
variable {rs:List Ru} {ga:Option Addr} {gl gc:Nat} {M:Mem}
theorem llook_is (hg:GrR M rs ga gl gc) (a:List UInt8) (n:Int) (K:Value->Prop) (hK:K (.int .i64 (listP rs a n))):S_list_Look ga gl gc a n M K:=by
 unfold S_list_Look
 unfold listP at hK
 refine s_well_Well _ _ _ _ _ (wwell_is hg _ ⟨_,_,rfl,λh=>?_,λh=>?_⟩)
 ·rw[if_pos h]at hK;exact hK
 rw[if_neg h]at hK
 refine s_walk_Many _ _ _ _ (wmany_is a n _ _ (λh1=>?_) (λh1 h2=>?_) λh1 h2 h3=>?_)
 ·rw[if_pos h1]at hK
  exact⟨_,_,rfl,λ_=>hK,λhn=>absurd h1 hn⟩
 ·rw[if_neg (λhn=>hn h1),if_pos h2]at hK
  exact⟨_,_,rfl,λ_=>hK,λhn=>absurd (by decide) hn⟩
 ·rw[if_neg (λhn=>hn h1),if_neg (by omega)]at hK
  refine⟨_,_,rfl,λhn=>absurd rfl hn,λ_=>⟨λhgt=>?_,λhle=>?_⟩⟩
  ·rw[if_pos (by omega)]at hK;exact hK
  ·rw[if_neg (by omega)]at hK;exact hK
theorem rlistable_is (hg:GrR M rs ga gl gc) (a:List UInt8) (n:Int) (K:Value->Prop) (hK:K (.int .i64 (listP rs a n))):S_chaffref_Listable ga gl gc a n M K:=by
 unfold S_chaffref_Listable
 unfold listP at hK
 refine s_chaffref_Well _ _ _ _ _ (rwell_is hg _ ⟨_,_,rfl,λh=>?_,λh=>?_⟩)
 ·rw[if_pos h]at hK;exact hK
 rw[if_neg h]at hK
 refine e_chaffref_Alpha _ _ _ (ralpha_is a _ _ _ λM' hle=>⟨_,rfl,λh1=>?_,λh1=>?_⟩)
 ·rw[if_pos h1]at hK;exact hK
 rw[if_neg h1]at hK
 obtain⟨_,h8,_⟩:=alpha_ok (Decidable.not_not.1 h1)
 have j1:∀v:Bool,v=decide (n<0\/6<n)->S_chaffref_Listable_J1 a n M v K:=by
  intro v hv
  unfold S_chaffref_Listable_J1
  refine⟨λht=>?_,λhf=>?_⟩
  ·rw[if_pos (of_decide_eq_true (hv▸ht))]at hK;exact hK
  ·have hn:¬(n<0\/6<n):=λh=>hf (by rw[hv,decide_eq_true h])
   rw[if_neg hn]at hK
   refine s_chaffref_Many _ _ _ _ (rmany_is h8 (by omega) (by omega) _ _ ⟨_,rfl,λhgt=>?_,λhle=>?_⟩)
   ·rw[if_pos (by omega)]at hK;exact hK
   ·rw[if_neg (by omega)]at hK;exact hK
 exact⟨λh=>j1 _ (by symm;exact decide_eq_true (.inl h)),λh=>j1 _ (by rw[decide_eq_decide];omega)⟩
end
end Go.Proofs.YtmnilbfhfjdelaaGreat.core

namespace Go.Proofs.YtmnilbfhfjdelaaGreat.core
open Go.Gx Go.RowKit Go.ChangeShapes Go.WideShapes Go.ChangeAt
set_option linter.unusedVariables false
open Go.Shelf Go.Proofs
attribute [local go_sem] Oper.semAt_some
structure KX (n₀:Nat) (ex:List Nat) (A B:World):Prop where
 os:B.os=A.os
 tape:B.tape=A.tape
 output:B.output=A.output
 size:A.heap.size<=B.heap.size
 block:∀k,k<n₀->k∉ex->B.heap[k]?=A.heap[k]?
theorem KX.refl (n₀:Nat) (ex:List Nat) (A:World):KX n₀ ex A A:=⟨rfl,rfl,rfl,Nat.le_refl _,λ_ _ _=>rfl⟩
theorem KX.trans {n₀:Nat} {ex:List Nat} {A B C:World} (h:KX n₀ ex A B) (k:KX n₀ ex B C):KX n₀ ex A C:=
 ⟨k.os.trans h.os,k.tape.trans h.tape,k.output.trans h.output,Nat.le_trans h.size k.size,λi hi hx=>(k.block i hi hx).trans (h.block i hi hx)⟩
theorem KX.grown {n₀:Nat} {ex:List Nat} {A B:World} {row:Option Nat} (hg:A.grownBy B row) (hn:n₀<=A.heap.size) (hr:∀k,row=some k->k<n₀->k∈ex):KX n₀ ex A B:=
 ⟨hg.os,hg.tape,hg.output,hg.size,λk hk hx=>hg.block k (by omega) (λe=>hx (hr k e.symm hk))⟩
theorem KX.below {n₀:Nat} {ex:List Nat} {A B:World} {m:Nat} (h:KX n₀ ex A B) (hm:m<=n₀) (hx:∀k∈ex,m<=k):Below m A B:=
 ⟨h.os,h.tape,h.output,h.size,λk hk=>h.block k (by omega) (λhk'=>by have:=hx k hk';omega)⟩
theorem KX.of {n₀:Nat} {ex:List Nat} {A B:World} (h:Below n₀ A B):KX n₀ ex A B:=⟨h.os,h.tape,h.output,h.size,λk hk _=>h.block k hk⟩
theorem grown_of {A B:World} (h:Below A.heap.size A B):A.grownBy B none:=⟨h.os,h.tape,h.output,h.size,λk hk _=>h.block k hk⟩
abbrev W6:={x:List UInt8 // x.length<=6}
set_option maxRecDepth 100000 in
set_option maxHeartbeats 2000000 in
theorem texts1_in (l n₀:Nat) (ex:List Nat) (a:List UInt8) (s0:W6) (k:Nat) (T:List W6) (h1:1<=a.length) (hal:alphaP a=0) (hk6:k<=6) (hs0:∀c∈s0.1,c∈a) (hs0k:s0.1.length<=k)
  (hTl:T.length=geo a.length (k+1)-rankN a s0.1) (hT:∀(i:Nat) (s:W6),(∀c∈s.1,c∈a)->s.1.length<=k->rankN a s.1=rankN a s0.1+i->T[i]?=some s)
  (Ba Bf Bn:Nat) (J Jx:List W6->World->Prop) (hJ:∀s W W',J s W->W.grownBy W' none->J s W')
  (hY:∀m pre x W,J pre W->pre.length<T.length->YieldAt Fence.wide m Tryz.prog l #[.string (mkS x.1)] W λe W'=>
   (e= .returned (.bool true)/\J (pre++[x]) W'/\KX n₀ ex W W')\/(e= .returned (.bool false)/\Jx (pre++[x]) W'))
  (n:Nat) (W:World) (hn:n₀<=W.heap.size) (hBa:Boxed W Ba 9 (.string (mkS a))) (hBf:Boxed W Bf 9 (.string (mkS s0.1))) (hBn:Boxed W Bn 3 (.int .i64 k)) (hba:Ba<n₀/\Ba∉ex) (hbn:Bn<n₀/\Bn∉ex) (h0:J [] W):
  CallsIn Fence.wide n Tryz.prog 31 #[.func (.yield l) #[] #[],.pointer (some ⟨Bf,0,none⟩),.pointer (some ⟨Bn,0,none⟩),.pointer (some ⟨Ba,0,none⟩)] W λe W'=>(∃v,e= .returned v)/\
   ((∃xs,xs=T/\J xs W')\/(∃q,(q=T.take q.length/\q.length<=T.length)/\Jx q W')):=by
 have hcf:=hBf.cell
 refine callsIn_of_wp Tryz.func31 rfl trivial ?_ rfl
 simp only[Tryz.ntmps31,List.size_toArray,List.length_cons,List.length_nil,Nat.reduceAdd,Nat.reduceSub,Array.replicate_succ,Array.replicate_zero,List.push_toArray,List.append_toArray,List.nil_append,List.cons_append]
 gi_wp2
 gi_loopw [5] (λt wr=>∃(pre:List W6) (s:W6),t= .string (mkS s.1)/\(∀c∈s.1,c∈a)/\pre=T.take pre.length/\pre.length<=T.length/\rankN a s.1=rankN a s0.1+pre.length/\J pre wr/\KX n₀ ex W wr)
  (λt _=>match t with| .string b=>geo a.length 8-rankN a b.toList|_=>0)
 case atStart=>exact⟨[],s0,rfl,hs0,rfl,by simp,by simp,h0,KX.refl _ _ _⟩
 case round=>
  obtain⟨pre,s,rfl,hin,hpre,hpl,hrk,hj,hkx⟩:=hrel
  have hbn':Boxed wr Bn 3 (.int .i64 k):=(hkx.block Bn hbn.1 hbn.2).trans hBn
  have hba':Boxed wr Ba 9 (.string (mkS a)):=(hkx.block Ba hba.1 hba.2).trans hBa
  have hcn:=hbn'.cell
  have hsz:((mkS s.1).size:Int)=s.1.length:=rfl
  by_cases hlt:s.1.length<=k
  ·have hT1:=hT pre.length s hin hlt hrk
   have hlt2:pre.length<T.length:=(List.getElem?_eq_some_iff.1 hT1).1
   obtain⟨fn,tmps,assign,body,hy,hRd⟩:=hY (n-1) pre s wr hj hlt2
   have hb:((mkS s.1).size:Int)<=(k:Int):=by rw[hsz];omega
   gi_wp2
   refine⟨λh=>(by cases h),hRd.mono ?_⟩
   have hov:=over_of hal s.2 hin
   have hnx:=e_walk_Next a s.1 (λ_=>none) (λv _=>(rankN a s.1+1=geo a.length 7/\v= .tuple #[.string (mkS []),.int .i64 12])\/∃t:W6,(∀c∈t.1,c∈a)/\rankN a t.1=rankN a s.1+1/\v= .tuple #[.string (mkS t.1),.int .i64 0])
    (wnext_is _ _ (λh=>absurd hov h) (λ_ h M' _=>.inl ⟨h,rfl⟩) λ_ t h6 ht hr M' _=>.inr ⟨⟨t,h6⟩,ht,hr,rfl⟩)
   have hpre1:pre++[s]=T.take (pre.length+1):=by rw[List.take_add_one,hT1,<-hpre];rfl
   have hlen1:(pre++[s]).length=pre.length+1:=by simp
   rintro e W1 (⟨rfl,hj1,hkx1⟩|⟨rfl,hx1⟩)
   ·have hba1:Boxed W1 Ba 9 (.string (mkS a)):=(hkx1.block Ba hba.1 hba.2).trans hba'
    have hca:=hba1.cell
    have hnx1:=hnx W1 (λb o h=>by cases h)
    clear hnx
    gi_wp2
    refine⟨trivial,λh=>(by cases h),(callsIn_wide.2 hnx1).mono ?_⟩
    rintro e W2 ⟨v,rfl,hbel,(⟨hr,rfl⟩|⟨t,ht,hr,rfl⟩)⟩
    ·have e:pre++[s]=T:=by
      have hlt3:=(rank_le (n:=k) h1 hin).1 hlt
      have hg:geo a.length (k+1)<=geo a.length 7:=by
       rcases Nat.lt_or_ge k 6 with h|h
       ·exact Nat.le_of_lt (geo_lt h1 (by omega))
       ·rw[show k=6 by omega];exact Nat.le_refl _
      rw[hpre1,List.take_of_length_le (by omega)]
     have hj2:=hJ _ _ _ hj1 (grown_of hbel)
     rw[e]at hj2
     gi_wp2
     refine bodyPost_ret (results_none rfl _ _ _) rfl ?_
     exact⟨⟨_,rfl⟩,.inl ⟨_,rfl,hj2⟩⟩
    ·have hms:geo a.length 8-rankN a (mkS t.1).toList<geo a.length 8-rankN a (mkS s.1).toList:=by
      have hr1:rankN a s.1<geo a.length 8:=(rank_le (n:=7) h1 hin).1 (Nat.le_trans s.2 (by omega))
      rw[mkS_toList,mkS_toList];omega
     have hj2:=hJ _ _ _ hj1 (grown_of hbel)
     have hkx2:=hkx.trans (hkx1.trans (KX.of (hbel.mono (Nat.le_trans hn (Nat.le_trans hkx.size hkx1.size)))))
     gi_wp2
     exact⟨⟨_,t,rfl,ht,by rw[hlen1];exact hpre1,by rw[hlen1];exact hlt2,by rw[hlen1];omega,hj2,hkx2⟩,hms⟩
   ·gi_wp2
    refine bodyPost_ret (results_none rfl _ _ _) rfl ?_
    exact⟨⟨_,rfl⟩,.inr ⟨_,⟨by rw[hlen1];exact hpre1,by rw[hlen1];exact hlt2⟩,hx1⟩⟩
  ·have hb:¬((mkS s.1).size:Int)<=(k:Int):=by rw[hsz];omega
   have e:pre=T:=by
    have hx:¬rankN a s.1<geo a.length (k+1):=λh=>hlt ((rank_le h1 hin).2 h)
    rw[hpre,List.take_of_length_le (by omega)]
   gi_wp2
   go_end0
   exact⟨⟨_,rfl⟩,.inl (e▸hj)⟩
set_option maxHeartbeats 1000000 in
theorem texts_mk (n:Nat) (a s:List UInt8) (k:Int) (w:World):
  CallsIn Fence.wide n Tryz.prog 18 #[.string (mkS a),.string (mkS s),.int .i64 k] w λe w'=>e= .returned (.func (.func 31) #[] #[.pointer (some ⟨w.heap.size+1,0,none⟩),.pointer (some ⟨w.heap.size+1+1,0,none⟩),.pointer (some ⟨w.heap.size,0,none⟩)])/\
   w'=((w.alloc (.cells #[.string (mkS a)] 9)).alloc (.cells #[.string (mkS s)] 9)).alloc (.cells #[.int .i64 k] 3):=by
 refine callsIn_of_wp Tryz.func18 rfl trivial ?_ rfl
 simp only[Tryz.ntmps18,List.size_toArray,List.length_cons,List.length_nil,Nat.reduceAdd,Nat.reduceSub,Array.replicate_succ,Array.replicate_zero,List.push_toArray,List.append_toArray,List.nil_append,List.cons_append]
 gi_wp2
 go_ret
 exact⟨rfl,rfl⟩
theorem texts_stops (n:Nat) (n₀:Nat) (ex:List Nat) (a:List UInt8) (s0:W6) (k:Nat) (T:List W6) (h1:1<=a.length) (hal:alphaP a=0) (hk6:k<=6) (hs0:∀c∈s0.1,c∈a) (hs0k:s0.1.length<=k)
  (hTl:T.length=geo a.length (k+1)-rankN a s0.1) (hT:∀(i:Nat) (s:W6),(∀c∈s.1,c∈a)->s.1.length<=k->rankN a s.1=rankN a s0.1+i->T[i]?=some s)
  (Ba Bf Bn:Nat) (w:World) (hn:n₀<=w.heap.size) (hBa:Boxed w Ba 9 (.string (mkS a))) (hBf:Boxed w Bf 9 (.string (mkS s0.1))) (hBn:Boxed w Bn 3 (.int .i64 k)) (hba:Ba<n₀/\Ba∉ex) (hbn:Bn<n₀/\Bn∉ex):
  SeqStopsK Fence.wide n Tryz.prog 31 #[.pointer (some ⟨Bf,0,none⟩),.pointer (some ⟨Bn,0,none⟩),.pointer (some ⟨Ba,0,none⟩)] (λx:W6=> #[.string (mkS x.1)]) (KX n₀ ex) (λxs=>xs=T) (λq=>q=T.take q.length/\q.length<=T.length) T.length w:=λl J Jx W hW hJ _ hY h0=>
 texts1_in l n₀ ex a s0 k T h1 hal hk6 hs0 hs0k hTl hT Ba Bf Bn J Jx (λs A B hs hg=>hJ s A B none hs hg (λr e=>by cases e)) (λm pre x W1 hj hl=>YieldAt.deep m (hY pre x W1 hj hl)) n W (Nat.le_trans hn hW.size)
  ((hW.block Ba hBa.lt).trans hBa) ((hW.block Bf hBf.lt).trans hBf) ((hW.block Bn hBn.lt).trans hBn) hba hbn h0
end Go.Proofs.YtmnilbfhfjdelaaGreat.core

namespace Go.Proofs.YtmnilbfhfjdelaaGreat.core
open Go.Gx Go.RowKit Go.ChangeShapes Go.WideShapes Go.ChangeAt
set_option linter.unusedVariables false
open Go.Shelf Go.Proofs
attribute [local go_sem] Oper.semAt_some
def sv6 (x:W6):Value:=.string (mkS x.1)
noncomputable def accL (rs:List Ru) (l:List W6):List W6:=l.filter λx=>accP rs x.1
noncomputable def listE (rs:List Ru) (a:List UInt8) (n:Int) (c:X_api_Cursor) (b:Int):Int:=
 if listP rs a n≠0 then listP rs a n else if b<0\/1048576<b\/overP a c.Text≠0\/n<c.Text.length\/(c.Over=true/\c.Text≠[]) then 1 else 0
def listT (a:List UInt8) (n:Int) (c:X_api_Cursor):List (List UInt8):=(wordsN a n.toNat).drop (rankN a c.Text)
noncomputable def listO (rs:List Ru) (a:List UInt8) (n:Int) (c:X_api_Cursor) (b:Int):List (List UInt8)×X_api_Cursor:=
 if c.Over=true then([],c) else if b<(listT a n c).length then(((listT a n c).take b.toNat).filter (accP rs),⟨((listT a n c)[b.toNat]?).getD [],false⟩) else((listT a n c).filter (accP rs),⟨[],true⟩)
theorem listE_ok {rs:List Ru} {a:List UInt8} {n:Int} {c:X_api_Cursor} {b:Int} (he:listP rs a n=0) (hb0:0<=b) (hb1:b<=1048576) (ho:overP a c.Text=0) (hn:(c.Text.length:Int)<=n) (hc:¬(c.Over=true/\c.Text≠[])):listE rs a n c b=0:=by
 unfold listE
 rw[if_neg (λh=>h he),if_neg]
 rintro(h|h|h|h|h)
 ·omega
 ·omega
 ·exact h ho
 ·omega
 ·exact hc h
theorem listP_ok {rs:List Ru} {a:List UInt8} {n:Int} (h:listP rs a n=0):WellOk rs/\alphaP a=0/\0<=n/\n<=6/\geo a.length (n.toNat+1)<=5000:=by
 unfold listP at h
 split at h
 ·rename_i h1;exact absurd h h1
 rename_i h1
 split at h
 ·rename_i h2;exact absurd h h2
 rename_i h2
 split at h
 ·omega
 split at h
 ·omega
 exact⟨(look_ok (s:=[]) (by unfold lookP;rw[if_neg h1];rfl)).1,Decidable.not_not.1 h2,by omega,by omega,by omega⟩
theorem look_ok' {rs:List Ru} {a:List UInt8} {n:Int} (h:listP rs a n=0):(wellP rs).2=0:=by
 unfold listP at h
 split at h
 ·rename_i h1;exact absurd h h1
 ·rename_i h1;exact Decidable.not_not.1 h1
theorem accL_snoc (rs:List Ru) (l:List W6) (x:W6):accL rs (l++[x])=if accP rs x.1=true then accL rs l++[x] else accL rs l:=by
 unfold accL
 rw[List.filter_append]
 split<;>rename_i h<;>simp[h]
theorem accL_len (rs:List Ru) (l:List W6):(accL rs l).length<=l.length:=List.length_filter_le ..
theorem six_ex (l:List (List UInt8)) (h:∀x∈l,x.length<=6):∃T:List W6,T.map (·.1)=l:=⟨l.pmap Subtype.mk h,by rw[List.map_pmap];simp⟩
theorem accL_map (rs:List Ru) (T:List W6):(T.map (·.1)).filter (accP rs)=(accL rs T).map (·.1):=by
 unfold accL
 rw[List.filter_map];rfl
theorem listO_done {rs:List Ru} {a:List UInt8} {n:Int} {c:X_api_Cursor} {b:Int} {T:List W6} (hTv:T.map (·.1)=listT a n c) (hc:c.Over=false) (hle:(T.length:Int)<=b):listO rs a n c b=((accL rs T).map (·.1),⟨[],true⟩):=by
 unfold listO
 have hl:(listT a n c).length=T.length:=by rw[<-hTv,List.length_map]
 rw[if_neg (by rw[hc];decide),if_neg (by rw[hl];omega),<-hTv,accL_map]
theorem listO_stop {rs:List Ru} {a:List UInt8} {n:Int} {c:X_api_Cursor} {b:Int} {T:List W6} (hTv:T.map (·.1)=listT a n c) (hc:c.Over=false) {pre:List W6} {x:W6} (h:pre++[x]=T.take (pre++[x]).length) (hl:(pre++[x]).length<=T.length) (hb:(pre.length:Int)=b):listO rs a n c b=((accL rs pre).map (·.1),⟨x.1,false⟩):=by
 unfold listO
 have hlen:(listT a n c).length=T.length:=by rw[<-hTv,List.length_map]
 rw[List.length_append,List.length_singleton]at h hl
 have h1:T.take pre.length=pre:=by
  have:=congrArg (List.take pre.length) h
  rw[List.take_left,List.take_take,Nat.min_eq_left (by omega)]at this
  exact this.symm
 have h2:T[pre.length]?=some x:=by
  have:=congrArg (·[pre.length]?) h
  simp only[List.getElem?_take]at this
  rw[if_pos (by omega),List.getElem?_append_right (Nat.le_refl _)]at this
  simpa using this.symm
 have hbn:b.toNat=pre.length:=by omega
 rw[if_neg (by rw[hc];decide),if_pos (by rw[hlen];omega),<-hTv,hbn,<-List.map_take,h1,accL_map,List.getElem?_map,h2]
 rfl
theorem strV_6 (l:List W6):strV (l.map (·.1))=l.map sv6:=by
 unfold strV sv6
 rw[List.map_map];rfl
theorem six (w:World) (o0 o1 o2 o3 o4 o5:Obj):∃W,((((((w.alloc o0).alloc o1).alloc o2).alloc o3).alloc o4).alloc o5)=W/\W.heap[w.heap.size]?=some o0/\W.heap[w.heap.size+1]?=some o1/\W.heap[w.heap.size+1+1]?=some o2/\
  W.heap[w.heap.size+1+1+1]?=some o3/\W.heap[w.heap.size+1+1+1+1]?=some o4/\W.heap[w.heap.size+1+1+1+1+1]?=some o5/\Below w.heap.size w W/\W.heap.size=w.heap.size+6:=by
 refine⟨_,rfl,?_,?_,?_,?_,?_,?_,?_,by simp⟩
 all_goals first
  |(refine((((((Below.refl _ w).alloc ?_ _).alloc ?_ _).alloc ?_ _).alloc ?_ _).alloc ?_ _).alloc ?_ _<;>simp<;>omega)
  |(simp only[World.alloc,Array.getElem?_push,Array.size_push];repeat (first|rw[if_pos trivial]|rw[if_pos (by omega)]|rw[if_neg (by omega)]))
theorem set1 {W:World} {b:Nat} {cs:Array Value} {t:TypeId} {f:Nat×Nat} (h:W.heap[b]?=some (.cells cs t f)) (i:Nat) (v:Value):(W.setCell ⟨b,i,none⟩ v).heap[b]?=some (.cells (cs.setIfInBounds i v) t f):=by
 simp only[World.setCell,Array.getElem?_modify,if_pos,h];rfl
theorem set2 {W:World} {b b':Nat} (hb:b≠b') (i:Nat) (v:Value):(W.setCell ⟨b',i,none⟩ v).heap[b]?=W.heap[b]?:=Below.heap_setCell _ _ _ _ hb
theorem tail3 {P:Program} {fn:Func} {p1 p2 p3:Tmp} {y1 y2 y3:TypeId} (hr:fn.results= #[.cell p1 y1,.cell p2 y2,.cell p3 y3]) {tmps:Array Value} {W:World} {b1 b2 b3:Nat} {vs1 vs2 vs3:List Value} {t1 t2 t3:TypeId} (g1 g2 g3:Bool)
  (e1:tmps.getD p1 undef= .pointer (some ⟨b1,0,none⟩)) (e2:tmps.getD p2 undef= .pointer (some ⟨b2,0,none⟩)) (e3:tmps.getD p3 undef= .pointer (some ⟨b3,0,none⟩))
  (h1:W.heap[b1]?=some (.cells vs1.toArray t1 (0,0))) (h2:W.heap[b2]?=some (.cells vs2.toArray t2 (0,0))) (h3:W.heap[b3]?=some (.cells vs3.toArray t3 (0,0)))
  (k1:tyOk P y1 g1 vs1.length=true) (k2:tyOk P y2 g2 vs2.length=true) (k3:tyOk P y3 g3 vs3.length=true):
  (results fn tmps).run P W= .ok (.tuple #[ofCells g1 vs1,ofCells g2 vs2,ofCells g3 vs3]) W:=by
 have ld:∀{y:TypeId} {b:Nat} {vs:List Value} {t:TypeId} {g:Bool},W.heap[b]?=some (.cells vs.toArray t (0,0))->tyOk P y g vs.length=true->(loadVar y ⟨b,0,none⟩).run P W= .ok (ofCells g vs) W:=λ{y b vs t g} h k=>by
  obtain⟨q1,q2,q3,q4⟩:=tyOk_spec k
  exact run_load_at (P:=P) q1 q2 q3 q4 λj v hj=>by simp[World.cell?,h,hj]
 have l1:=ld h1 k1
 have l2:=ld h2 k2
 have l3:=ld h3 k3
 simp only[results,hr]
 simp[-Array.getD_eq_getD_getElem?,e1,e2,e3,asAddr,l1,l2,l3]
theorem stored3 {W:World} {b1 b2 b3:Nat} {u1 u2 u2' u3:Value} {t1 t2 t3:TypeId} (r1:W.heap[b1]?=some (.cells #[u1] t1 (0,0))) (r2:W.heap[b2]?=some (.cells #[u2,u2'] t2 (0,0))) (r3:W.heap[b3]?=some (.cells #[u3] t3 (0,0)))
  (n12:b1≠b2) (n13:b1≠b3) (n23:b2≠b3) (v1 x0 x1 v3:Value):∃W',(((W.setCell ⟨b1,0,none⟩ v1).setCell ⟨b2,0,none⟩ x0).setCell ⟨b2,1,none⟩ x1).setCell ⟨b3,0,none⟩ v3=W'/\
  W'.heap[b1]?=some (.cells [v1].toArray t1 (0,0))/\W'.heap[b2]?=some (.cells [x0,x1].toArray t2 (0,0))/\W'.heap[b3]?=some (.cells [v3].toArray t3 (0,0))/\∀B,B<=b1->B<=b2->B<=b3->Below B W W':=by
 refine⟨_,rfl,?_,?_,?_,λB h1 h2 h3=>?_⟩
 ·rw[set2 n13,set2 n12,set2 n12];exact set1 r1 0 v1
 ·rw[set2 n23]
  have:=set1 (set1 ((set2 (Ne.symm n12) 0 v1).trans r2) 0 x0) 1 x1
  simpa using this
 ·refine(set1 (((set2 (Ne.symm n23) 1 x1).trans ((set2 (Ne.symm n23) 0 x0).trans ((set2 (Ne.symm n13) 0 v1).trans r3)))) 0 v3).trans ?_
  simp
 ·exact(((((Below.refl B W).setCell (p:=⟨b1,0,none⟩) h1 _).setCell (p:=⟨b2,0,none⟩) h2 _).setCell (p:=⟨b2,1,none⟩) h2 _).setCell (p:=⟨b3,0,none⟩) h3 _)
structure Six (h:Nat) (g c0 c1 b s0 s1 s2 e:Value) (W:World):Prop where
 r0:W.heap[h]?=some (.cells #[g] 24 (0,0))
 r1:W.heap[h+1]?=some (.cells #[c0,c1] 35 (0,0))
 r2:W.heap[h+1+1]?=some (.cells #[b] 3 (0,0))
 r3:W.heap[h+1+1+1]?=some (.cells #[s0] 29 (0,0))
 r4:W.heap[h+1+1+1+1]?=some (.cells #[s1,s2] 35 (0,0))
 r5:W.heap[h+1+1+1+1+1]?=some (.cells #[e] 25 (0,0))
theorem Six.on {h:Nat} {g c0 c1 b s0 s1 s2 e:Value} {W W':World} (q:Six h g c0 c1 b s0 s1 s2 e W) (hb:Below W.heap.size W W'):Six h g c0 c1 b s0 s1 s2 e W':=by
 have l:∀{k o},W.heap[k]?=some o->W'.heap[k]?=some o:=λ{k o} hk=>(hb.block k (Array.getElem?_eq_some_iff.1 hk).1).trans hk
 exact⟨l q.r0,l q.r1,l q.r2,l q.r3,l q.r4,l q.r5⟩
theorem Six.cells {h:Nat} {g c0 c1 b s0 s1 s2 e:Value} {W:World} (q:Six h g c0 c1 b s0 s1 s2 e W):
  W.cell? ⟨h,0,none⟩=some g/\W.cell? ⟨h+1,0,none⟩=some c0/\W.cell? ⟨h+1,1,none⟩=some c1/\W.cell? ⟨h+1+1,0,none⟩=some b/\W.cell? ⟨h+1+1+1,0,none⟩=some s0/\
  W.cell? ⟨h+1+1+1+1,0,none⟩=some s1/\W.cell? ⟨h+1+1+1+1,1,none⟩=some s2/\W.cell? ⟨h+1+1+1+1+1,0,none⟩=some e/\
  W.frozen? ⟨h+1+1+1,0,none⟩=false/\W.frozen? ⟨h+1+1+1+1,0,none⟩=false/\W.frozen? ⟨h+1+1+1+1,1,none⟩=false/\W.frozen? ⟨h+1+1+1+1+1,0,none⟩=false:=by
 obtain⟨r0,r1,r2,r3,r4,r5⟩:=q
 refine⟨?_,?_,?_,?_,?_,?_,?_,?_,?_,?_,?_,?_⟩<;>simp[World.cell?,World.frozen?,r0,r1,r2,r3,r4,r5]
theorem Six.fin {h:Nat} {g c0 c1 b s0 s1 s2 e:Value} {W:World} (q:Six h g c0 c1 b s0 s1 s2 e W) (v1 x0 x1 v3:Value) {R:Ending->World->Prop} {tmps:Array Value}
  (e1:tmps.getD 10 undef= .pointer (some ⟨h+1+1+1,0,none⟩)) (e2:tmps.getD 11 undef= .pointer (some ⟨h+1+1+1+1,0,none⟩)) (e3:tmps.getD 12 undef= .pointer (some ⟨h+1+1+1+1+1,0,none⟩))
  (hR:∀W2,Below h W W2->R (.returned (.tuple #[v1,.agg #[x0,x1],v3])) W2):
  bodyPostM Fence.wide 3 Tryz.prog Tryz.f10 R .ret {tmps:=tmps,defers:=[]} ((((W.setCell ⟨h+1+1+1,0,none⟩ v1).setCell ⟨h+1+1+1+1,0,none⟩ x0).setCell ⟨h+1+1+1+1,1,none⟩ x1).setCell ⟨h+1+1+1+1+1,0,none⟩ v3):=by
 obtain⟨W2,hW2,s1,s2,s3,hB2⟩:=stored3 q.r3 q.r4 q.r5 (by omega) (by omega) (by omega) v1 x0 x1 v3
 rw[hW2]
 exact⟨_,tail3 rfl false true false e1 e2 e3 s1 s2 s3 (by kernel_rfl) (by kernel_rfl) (by kernel_rfl),hR W2 (hB2 _ (by omega) (by omega) (by omega))⟩
theorem Six.finD {h:Nat} {g c0 c1 b s0 s1 s2 e:Value} {W:World} (q:Six h g c0 c1 b s0 s1 s2 e W) (v1 x0 x1 v3:Value) {R:Ending->World->Prop} {tmps:Array Value}
  (e1:tmps.getD 10 undef= .pointer (some ⟨h+1+1+1,0,none⟩)) (e2:tmps.getD 11 undef= .pointer (some ⟨h+1+1+1+1,0,none⟩)) (e3:tmps.getD 12 undef= .pointer (some ⟨h+1+1+1+1+1,0,none⟩))
  (hR:∀W2,Below h W W2->R (.returned (.tuple #[v1,.agg #[x0,x1],v3])) W2):
  bodyPostM Fence.wide 3 Tryz.prog Tryz.f10 R .ret {tmps:=tmps,defers:=[]} ((((W.setCell ⟨h+1+1+1,0,none⟩ v1).setCell ⟨h+1+1+1+1,0,none⟩ x0).setCell ⟨h+1+1+1+1,1,none⟩ x1).setCell ⟨h+1+1+1+1+1,0,none⟩ v3).drew:=by
 obtain⟨W2,hW2,s1,s2,s3,hB2⟩:=stored3 q.r3 q.r4 q.r5 (by omega) (by omega) (by omega) v1 x0 x1 v3
 rw[hW2]
 exact⟨_,tail3 (W:=W2.drew) rfl false true false e1 e2 e3 s1 s2 s3 (by kernel_rfl) (by kernel_rfl) (by kernel_rfl),hR W2.drew (hB2 _ (by omega) (by omega) (by omega)).drew⟩
theorem four (w:World) (o0 o1 o2 o3:Obj):∃W,((((w.alloc o0).alloc o1).alloc o2).alloc o3)=W/\W.heap[w.heap.size]?=some o0/\W.heap[w.heap.size+1]?=some o1/\W.heap[w.heap.size+1+1]?=some o2/\
  W.heap[w.heap.size+1+1+1]?=some o3/\Below w.heap.size w W/\W.heap.size=w.heap.size+4:=by
 refine⟨_,rfl,?_,?_,?_,?_,?_,by simp⟩
 all_goals first
  |(refine((((Below.refl _ w).alloc ?_ _).alloc ?_ _).alloc ?_ _).alloc ?_ _<;>simp<;>omega)
  |(simp only[World.alloc,Array.getElem?_push,Array.size_push];repeat (first|rw[if_pos trivial]|rw[if_pos (by omega)]|rw[if_neg (by omega)]))
theorem row_grown {W W':World} {row:Option Nat} {base e size k:Nat} {v:Value} {xs:List Value} (hr:W.ownsRow base e size v k xs) (hg:W.grownBy W' row) (hrow:∀r,row=some r->∃o:Obj,W.heap[r]?=some o/\o.isCells=false):W'.ownsRow base e size v k xs:=by
 refine hr.kept hg ?_
 rcases hr.2 with⟨rfl,_⟩|⟨g,cap,cur,rfl,_,hgb,_⟩
 ·exact .inl rfl
 ·refine .inr λe'=>?_
  obtain⟨o,ho,hc⟩:=hrow g (by simpa[Value.ownBlock]using e'.symm)
  rw[hgb]at ho;cases ho;cases hc
theorem row_slice {W:World} {base e size k:Nat} {v:Value} {xs:List Value} (hr:W.ownsRow base e size v k xs):∃A c,v= .slice A k c:=by
 rcases hr.2 with⟨rfl,h⟩|⟨g,cap,cur,rfl,_⟩
 ·subst h;exact⟨_,_,rfl⟩
 ·exact⟨_,_,rfl⟩
theorem row_below {W W':World} {base e size k:Nat} {v:Value} {xs:List Value} (hr:W.ownsRow base e size v k xs) (hb:Below W.heap.size W W'):W'.ownsRow base e size v k xs:=
 row_grown hr (grown_of hb) (λr e=>by cases e)
theorem Boxed.below {W W':World} {B:Nat} {t:TypeId} {v:Value} (h:Boxed W B t v) (hb:Below W.heap.size W W'):Boxed W' B t v:=(hb.block B h.lt).trans h
theorem Boxed.appX {W w1:World} {n₀ B:Nat} {ex:List Nat} {t e:TypeId} {size:Nat} {v v':Value} {k m:Nat} {xs ys:List Value} {tmp:Obj}
  (hv:Boxed W B t v) (hte:t≠e) (hrow:W.ownsRow n₀ e size v k xs) (hn₀:n₀<=W.heap.size) (hB:B∈ex)
  (hown':w1.ownsRow n₀ e size v' m ys) (hgrow:(W.alloc tmp).grownBy w1 v.ownBlock):
  Boxed w1 B t v/\Boxed (w1.setCell ⟨B,0,none⟩ v') B t v'/\(w1.setCell ⟨B,0,none⟩ v').ownsRow n₀ e size v' m ys/\KeepsOthers W (w1.setCell ⟨B,0,none⟩ v')/\KX n₀ ex W (w1.setCell ⟨B,0,none⟩ v'):=by
 have hv1:Boxed w1 B t v:=(hv.alloc tmp).kept hgrow (hv.not_row hte hrow)
 refine⟨hv1,hv1.set v',hown'.kept (grownBy_setCell' w1 B v') (.inr (hv1.not_row hte hown').symm),?_,?_⟩
 ·refine((KeepsOthers.alloc W tmp).trans (KeepsOthers.of_grownBy hgrow λj o ej hj=>?_)).trans (KeepsOthers.setCell _ _ _)
  rcases(hrow.alloc tmp).2 with⟨rfl,_⟩|⟨g,cap,cur,rfl,_,hgb,_⟩
  ·simp[Value.ownBlock]at ej
  ·obtain rfl:g=j:=by simpa[Value.ownBlock]using ej
   rw[hgb]at hj;cases hj;rfl
 ·refine((KX.grown (World.grownBy_alloc W tmp none) hn₀ (λk e=>by cases e)).trans (KX.grown hgrow (by simp;omega) λj ej hlt=>?_)).trans (KX.grown (grownBy_setCell' w1 B v') ?_ λj ej _=>by cases ej;exact hB)
  ·rcases hrow.2 with⟨rfl,_⟩|⟨g,cap,cur,rfl,hb,_,_⟩
   ·simp[Value.ownBlock]at ej
   ·obtain rfl:g=j:=by simpa[Value.ownBlock]using ej
    omega
  ·have:=hgrow.size
   simp at this;omega
theorem KX.set {n₀:Nat} {ex:List Nat} {W:World} {B i:Nat} (hn:n₀<=W.heap.size) (hB:B∈ex) (v:Value):KX n₀ ex W (W.setCell ⟨B,i,none⟩ v):=
 ⟨rfl,rfl,rfl,by simp[World.setCell],λk _ hk=>Below.heap_setCell _ _ _ _ (λe=>hk (by rw[e];exact hB))⟩
theorem Six.kx {h:Nat} {g c0 c1 b s0 s1 s2 e b':Value} {W W':World} {n₀:Nat} {ex:List Nat} (q:Six h g c0 c1 b s0 s1 s2 e W) (hk:KX n₀ ex W W') (hn:h+6<=n₀) (hx:∀k∈ex,k=h+1+1\/h+6<=k) (hb:W'.heap[h+1+1]?=some (.cells #[b'] 3 (0,0))):Six h g c0 c1 b' s0 s1 s2 e W':=by
 have l:∀{k o},k<h+6->k≠h+1+1->W.heap[k]?=some o->W'.heap[k]?=some o:=λ{k o} h1 h2 hk'=>(hk.block k (by omega) (λhm=>by have:=hx k hm;omega)).trans hk'
 exact⟨l (by omega) (by omega) q.r0,l (by omega) (by omega) q.r1,hb,l (by omega) (by omega) q.r3,l (by omega) (by omega) q.r4,l (by omega) (by omega) q.r5⟩
theorem leaveD {h D:Nat} {W:World} {v1 x0 x1 v3:Value} {R:Ending->World->Prop} {tmps:Array Value}
  (e1:tmps.getD 10 undef= .pointer (some ⟨h+1+1+1,0,none⟩)) (e2:tmps.getD 11 undef= .pointer (some ⟨h+1+1+1+1,0,none⟩)) (e3:tmps.getD 12 undef= .pointer (some ⟨h+1+1+1+1+1,0,none⟩))
  (s1:W.heap[h+1+1+1]?=some (.cells [v1].toArray 29 (0,0))) (s2:W.heap[h+1+1+1+1]?=some (.cells [x0,x1].toArray 35 (0,0))) (s3:W.heap[h+1+1+1+1+1]?=some (.cells [v3].toArray 25 (0,0)))
  (hD:h+6<=D) (hK:W.heap[D]?=some (.deferred (some []))) (hR:R (.returned (.tuple #[v1,.agg #[x0,x1],v3])) (W.putObj D (.deferred none))):
  bodyPostM Fence.wide 3 Tryz.prog Tryz.f10 R .ret {tmps:=tmps,defers:=[{target:=.collected D,args:= #[]}]} W:=
 ⟨by simp,.inl ⟨_,_,rfl,run_takeDeferred hK,⟨_,tail3 (W:=W.putObj D (.deferred none)) rfl false true false e1 e2 e3 ((World.putObj_heap_other (by omega)).trans s1) ((World.putObj_heap_other (by omega)).trans s2) ((World.putObj_heap_other (by omega)).trans s3) (by kernel_rfl) (by kernel_rfl) (by kernel_rfl),hR⟩⟩⟩
theorem row_set {W:World} {base e size k:Nat} {v:Value} {xs:List Value} (h:W.ownsRow base e size v k xs) {b1 b2 b3:Nat} (h1:b1<base) (h2:b2<base) (h3:b3<base) (v1 x0 x1 v3:Value):
  ((((W.setCell ⟨b1,0,none⟩ v1).setCell ⟨b2,0,none⟩ x0).setCell ⟨b2,1,none⟩ x1).setCell ⟨b3,0,none⟩ v3).ownsRow base e size v k xs:=
 ownsRow_setCell_below (ownsRow_setCell_below (ownsRow_setCell_below (ownsRow_setCell_below h (a:=⟨b1,0,none⟩) h1 _) (a:=⟨b2,0,none⟩) h2 _) (a:=⟨b2,1,none⟩) h2 _) (a:=⟨b3,0,none⟩) h3 _
theorem keeps_set (W:World) (B b1 b2 b3:Nat) (v1 x0 x1 v3:Value):KeepsFrom B W ((((W.setCell ⟨b1,0,none⟩ v1).setCell ⟨b2,0,none⟩ x0).setCell ⟨b2,1,none⟩ x1).setCell ⟨b3,0,none⟩ v3):=
 ((((KeepsOthers.setCell W ⟨b1,0,none⟩ v1).trans (KeepsOthers.setCell _ ⟨b2,0,none⟩ x0)).trans (KeepsOthers.setCell _ ⟨b2,1,none⟩ x1)).trans (KeepsOthers.setCell _ ⟨b3,0,none⟩ v3)).from B
theorem below_put {B D:Nat} {w W:World} (h:Below B w W) (hD:B<=D) {o o':Obj} (hl:W.heap[D]?=some o) (hB:B<=W.heap.size):Below B w (W.putObj D o'):=
 h.grown (grownBy_putObj' W D o') hB (λk e=>by cases e;exact hD)
theorem Hid.mk3 {p q:Prop} (h:p) (k:q):Hid (p/\q):=⟨h,k⟩
set_option maxRecDepth 100000 in
set_option maxHeartbeats 4000000 in
theorem list_in (V:Mem) (rs:List Ru) (ga:Option Addr) (gl gc:Nat) (a:List UInt8) (n:Int) (c:X_api_Cursor) (b:Int) (hg:GrR V rs ga gl gc) (w:World) (hon:On V w) (R:Ending->World->Prop)
  (hR1:listE rs a n c b≠0->∀W,Below w.heap.size w W->R (.returned (.tuple #[.slice none 0 0,(X_api_Cursor.mk [] false).val,.int .i64 (listE rs a n c b)])) W)
  (hR2:listE rs a n c b=0->∀W v,Below w.heap.size w W->W.ownsRow w.heap.size 9 1 v (listO rs a n c b).1.length (strV (listO rs a n c b).1)->R (.returned (.tuple #[v,(listO rs a n c b).2.val,.int .i64 0])) W):
  CallsIn Fence.wide 3 Tryz.prog 10 #[.agg #[.slice ga gl gc],.string (mkS a),.int .i64 n,c.val,.int .i64 b] w R:=by
 refine callsIn_of_wp_marks Tryz.func10 rfl trivial ?_ rfl
 obtain⟨ct,co⟩:=c
 obtain⟨W0,hW0,q0,q1,q2,q3,q4,q5,hB0,hz0⟩:=six w (.cells #[.slice ga gl gc] 24) (.cells #[.string (mkS ct),.bool co] 35) (.cells #[.int .i64 b] 3) (.cells #[.slice none 0 0] 29) (.cells #[.string (mkS []),.bool false] 35) (.cells #[.int .i64 0] 25)
 have hl:=s_list_Look ga gl gc a n V _ (llook_is hg a n (λv=>v= .int .i64 (listP rs a n)) rfl) W0 (On.keep (λb o h=>hon.lt h) hon hB0)
 simp only[Tryz.ntmps10,X_api_Cursor.val,X_api_Cursor.cells,List.size_toArray,List.length_cons,List.length_nil,Nat.reduceAdd,Nat.reduceSub,Array.replicate_succ,Array.replicate_zero,List.push_toArray,List.append_toArray,List.nil_append,List.cons_append]
 gi_wp2
 rw[show(((((((w.alloc (.cells #[.slice ga gl gc] 24)).alloc (.cells #[.string (mkS ct),.bool co] 35)).alloc (.cells #[.int .i64 b] 3)).alloc (.cells #[.slice none 0 0] 29)).alloc (.cells #[.string {data:= #[]},.bool false] 35)).alloc (.cells #[.int .i64 0] 25)))=W0 from hW0]
 refine⟨trivial,(callsIn_wide.2 hl).mono ?_⟩
 rintro e W ⟨v,rfl,hbW,rfl⟩
 have q:Six w.heap.size (.slice ga gl gc) (.string (mkS ct)) (.bool co) (.int .i64 b) (.slice none 0 0) (.string (mkS [])) (.bool false) (.int .i64 0) W:=Six.on ⟨q0,q1,q2,q3,q4,q5⟩ hbW
 have hBW:Below w.heap.size w W:=hB0.trans (hbW.mono (by omega))
 have hzW:w.heap.size+6<=W.heap.size:=by have:=hbW.size;omega
 clear q0 q1 q2 q3 q4 q5 hW0 hl
 have hR1':∀e,listE rs a n ⟨ct,co⟩ b=e->e≠0->∀W,Below w.heap.size w W->R (.returned (.tuple #[.slice none 0 0,.agg #[.string (mkS []),.bool false],.int .i64 e])) W:=λe h1 h2=>by subst h1;exact hR1 h2
 clear hR1
 obtain⟨c0,c1,c1',c2,c3,c4,c4',c5,f3,f4,f4',f5⟩:=q.cells
 by_cases he:listP rs a n=0
 ·by_cases hb0:b<0
  ·replace hR1':=hR1' 1 (by unfold listE;rw[if_neg (λh=>h he),if_pos (.inl hb0)]) (by decide)
   clear hR2
   gi_wp2
   refine⟨trivial,?_⟩
   gi_wp2
   refine q.fin (.slice none 0 0) (.string (mkS [])) (.bool false) _ ?_ ?_ ?_ (λW2 h=>hR1' W2 (hBW.trans h))<;>rfl
  by_cases hb1:b>1048576
  ·replace hR1':=hR1' 1 (by unfold listE;rw[if_neg (λh=>h he),if_pos (.inr (.inl hb1))]) (by decide)
   clear hR2
   gi_wp2
   refine⟨trivial,?_⟩
   gi_wp2
   refine q.fin (.slice none 0 0) (.string (mkS [])) (.bool false) _ ?_ ?_ ?_ (λW2 h=>hR1' W2 (hBW.trans h))<;>rfl
  have hov:=s_walk_Over a ct V _ (wover_is (λv=>v= .int .i64 (overP a ct)) rfl) W (On.keep (λb o h=>hon.lt h) hon hBW)
  have HD:=Hid.mk3 hR1' hR2
  clear hR1' hR2
  gi_wp2
  refine⟨trivial,(callsIn_wide.2 hov).mono ?_⟩
  rintro e Wo ⟨v,rfl,hbo,rfl⟩
  replace q:=q.on hbo
  replace hBW:=hBW.trans (hbo.mono (by omega))
  replace hzW:w.heap.size+6<=Wo.heap.size:=by have:=hbo.size;omega
  clear c0 c1 c1' c2 c3 c4 c4' c5 f3 f4 f4' f5 hov hbo hbW hB0 hz0
  clear W W0
  obtain⟨c0,c1,c1',c2,c3,c4,c4',c5,f3,f4,f4',f5⟩:=q.cells
  by_cases ho:overP a ct=0
  ·have hsz:((mkS ct).size:Int)=ct.length:=rfl
   by_cases hn:(ct.length:Int)>n
   ·gi_wp2
    exact q.fin _ _ _ _ (by rfl) (by rfl) (by rfl) λW2 h=>HD.out.1 1 (by unfold listE;rw[if_neg (λh=>h he),if_pos (.inr (.inr (.inr (.inl hn))))]) (by decide) W2 (hBW.trans h)
   ·cases co with
    |true=>
     by_cases ht:ct=[]
     ·subst ht
      have hne:(mkS []).toList.isEmpty=true:=by rw[mkS_toList];rfl
      gi_wp2
      gi_region
      gi_wp2
      exact q.finD _ _ _ _ (by rfl) (by rfl) (by rfl) λW2 h=>HD.out.2 (listE_ok he hb0 hb1 ho hn (λh=>h.2 rfl)) W2 _ (hBW.trans h) (World.ownsRow_nil _ _ _ _)
     ·have hne:(mkS ct).toList.isEmpty=false:=by rw[mkS_toList];cases ct<;>first|rfl|exact absurd rfl ht
      gi_wp2
      exact q.fin _ _ _ _ (by rfl) (by rfl) (by rfl) λW2 h=>HD.out.1 1 (by unfold listE;rw[if_neg (λh=>h he),if_pos (.inr (.inr (.inr (.inr ⟨rfl,ht⟩))))]) (by decide) W2 (hBW.trans h)
    |false=>
     have q':=q.on ((Below.refl _ Wo).alloc (Nat.le_refl _) (.cells #[.slice none 0 0] 29))
     obtain⟨d0,d1,d1',d2,d3,d4,d4',d5,g3,g4,g4',g5⟩:=q'.cells
     have htx:=texts_mk 2 a ct n (Wo.alloc (.cells #[.slice none 0 0] 29))
     gi_wp2
     refine⟨trivial,htx.mono ?_⟩
     rintro e w' ⟨rfl,rfl⟩
     clear htx d0 d1 d1' d2 d3 d4 d4' d5 g3 g4 g4' g5 c0 c1 c1' c2 c3 c4 c4' c5 f3 f4 f4' f5 q'
     obtain⟨Wt,hWt,p0,p1,p2,p3,hbt,hzt⟩:=four Wo (.cells #[.slice none 0 0] 29) (.cells #[.string (mkS a)] 9) (.cells #[.string (mkS ct)] 9) (.cells #[.int .i64 n] 3)
     gi_wp2
     replace q:=q.on hbt
     replace hBW:=hBW.trans (hbt.mono (by omega))
     clear hWt hbt
     obtain⟨hwell,hal,hn0,hn6,hg5⟩:=listP_ok he
     obtain⟨h1,h8,hasc,h6,hin⟩:=over_ok ho
     obtain⟨k,rfl⟩:∃k:Nat,n=k:=⟨n.toNat,by omega⟩
     have hck:ct.length<=k:=by omega
     obtain⟨T,hTv⟩:=six_ex (listT a k ⟨ct,false⟩) (λx hx=>by have:=(words_mem hasc (List.mem_of_mem_drop hx)).1;simp at this;omega)
     have hTl:T.length=geo a.length (k+1)-rankN a ct:=by
      have:=congrArg List.length hTv
      simpa[listT,words_len]using this
     have hT:∀(i:Nat) (s:W6),(∀c∈s.1,c∈a)->s.1.length<=k->rankN a s.1=rankN a ct+i->T[i]?=some s:=λi s hs1 hs2 hs3=>by
      have h1:=words_at k s.1 hs2 hs1
      rw[hs3,<-List.getElem?_drop]at h1
      have h2:=congrArg (·[i]?) hTv
      simp only[listT,Int.toNat_natCast,List.getElem?_map]at h2
      rw[h1]at h2
      cases h3:T[i]? with
      |none=>rw[h3]at h2;cases h2
      |some t=>rw[h3]at h2;simp only[Option.map_some,Option.some.injEq]at h2;exact congrArg some (Subtype.ext h2)
     refine wpIn_rangeFunc_ownG_of_H rfl (by omega) (gf:=31) (lb:= #[.pointer (some ⟨Wo.heap.size+1+1,0,none⟩),.pointer (some ⟨Wo.heap.size+1+1+1,0,none⟩),.pointer (some ⟨Wo.heap.size+1,0,none⟩)]) rfl trivial (enters_of Tryz.func31 (by kernel_rfl) rfl)
      (texts_stops 2 Wt.heap.size [w.heap.size+1+1,Wo.heap.size] a ⟨ct,h6⟩ k T h1 hal (by omega) hin hck hTl hT (Wo.heap.size+1) (Wo.heap.size+1+1) (Wo.heap.size+1+1+1) Wt (Nat.le_refl _) p1 p2 p3 ⟨by omega,by simp;omega⟩ ⟨by omega,by simp;omega⟩)
      (λh k=>h.trans k) (λW' l o o' h1 h2 h3 h4=>KX.grown (grownBy_putObj' W' l o') (by have:=(Array.getElem?_eq_some_iff.1 h2).1;omega) (λk e hk=>by cases e;omega)) (Below.refl _ _) (λ_=>rfl)
      (λpre W'=>(∃v,Boxed W' Wo.heap.size 29 v/\W'.ownsRow Wt.heap.size 9 1 v (accL rs pre).length ((accL rs pre).map sv6)/\True)/\(Boxed W' (w.heap.size+1+1) 3 (.int .i64 (b-pre.length))/\(pre.length:Int)<=b)/\KX Wt.heap.size [w.heap.size+1+1,Wo.heap.size] Wt W')
      (λc pre W'=>c= .ret/\∃pre0 x v,pre=pre0++[x]/\(pre0.length:Int)=b/\W'.ownsRow Wt.heap.size 9 1 v (accL rs pre0).length ((accL rs pre0).map sv6)/\
       W'.heap[w.heap.size+1+1+1]?=some (.cells [v].toArray 29 (0,0))/\W'.heap[w.heap.size+1+1+1+1]?=some (.cells [sv6 x,.bool false].toArray 35 (0,0))/\W'.heap[w.heap.size+1+1+1+1+1]?=some (.cells [.int .i64 0].toArray 25 (0,0))/\Below w.heap.size w W')
      ?ownI ?ownIx ?start ?act ?assign ?body ?done ?stop (λW=>KX.refl _ _ W)
     case assign=>
      intro l x W' K hK
      gi_wp2
      exact hK
     case ownI=>
      refine OwnFrom.and (Own.from (holdsRow_own Wt.heap.size Wo.heap.size 29 9 1 (λpre=>(accL rs pre).length) (λpre=>(accL rs pre).map sv6) (λ_ _=>True)) _) (OwnFrom.and (λs A B row hs hg hr=>⟨hs.1.kept hg (λe=>by have:=(hr _ e.symm).1;omega),hs.2⟩) (λs A B row hs hg hr=>hs.trans (KX.grown hg hs.size (λk e hk=>by have:=(hr _ e).1;omega))))
     case ownIx=>
      rintro c s A B row ⟨rfl,pre0,x,v,e1,e2,hr0,s1,s2,s3,hb⟩ hg hr
      have l:∀{k o},k<Wt.heap.size->A.heap[k]?=some o->B.heap[k]?=some o:=λ{k o} h1 hk'=>(hg.block k (Array.getElem?_eq_some_iff.1 hk').1 (λe=>by have:=(hr _ e.symm).1;omega)).trans hk'
      exact⟨rfl,pre0,x,v,e1,e2,row_grown hr0 hg (λr e=>(hr r e).2),l (by omega) s1,l (by omega) s2,l (by omega) s3,hb.grown hg hb.size (λk e=>by have:=(hr k e).1;omega)⟩
     case start=>exact⟨⟨_,p0,World.ownsRow_nil _ _ _ _,trivial⟩,⟨by have:=q.r2;simpa[Boxed]using this,by simpa using hb0⟩,KX.refl _ _ _⟩
     case body=>
      rintro l pre x W' ⟨⟨v,hv,hrow,_⟩,⟨hbud,hle⟩,hkx⟩ hlt
      obtain⟨oa,oc,rfl⟩:=row_slice hrow
      have q':=q.kx hkx (by omega) (by intro k hk;simp at hk;omega) hbud
      obtain⟨c0,c1,c1',c2,c3,c4,c4',c5,f3,f4,f4',f5⟩:=q'.cells
      have hcO:=hv.cell
      have hfB:=hbud.frozen
      by_cases hz:b-pre.length=0
      ·gi_wp2
       obtain⟨W2,hW2,s1,s2,s3,hB2⟩:=stored3 q'.r3 q'.r4 q'.r5 (by omega) (by omega) (by omega) (.slice oa (accL rs pre).length oc) (sv6 x) (.bool false) (.int .i64 0)
       have hk2:=keeps_set W' Wt.heap.size (w.heap.size+1+1+1) (w.heap.size+1+1+1+1) (w.heap.size+1+1+1+1+1) (.slice oa (accL rs pre).length oc) (sv6 x) (.bool false) (.int .i64 0)
       have hr2:=row_set hrow (b1:=w.heap.size+1+1+1) (b2:=w.heap.size+1+1+1+1) (b3:=w.heap.size+1+1+1+1+1) (by omega) (by omega) (by omega) (.slice oa (accL rs pre).length oc) (sv6 x) (.bool false) (.int .i64 0)
       rw[hW2]at hk2 hr2
       have hB3:Below w.heap.size w W2:=(hBW.trans (hkx.below (by omega) (by intro k hk;simp at hk;omega))).trans (hB2 _ (by omega) (by omega) (by omega))
       refine⟨?_,rfl,pre,x,.slice oa (accL rs pre).length oc,rfl,by omega,?_,?_,?_,?_,?_⟩
       ·exact hW2▸hk2
       ·exact hW2▸hr2
       ·exact hW2▸s1
       ·exact hW2▸s2
       ·exact hW2▸s3
       ·exact hW2▸hB3
      ·have hlk:lookP rs x.1=0:=by
        unfold lookP
        rw[if_neg (λh=>h (look_ok' he)),if_neg (by have:=x.2;omega)]
       have hw1:wrap64 (b-pre.length-1)=b-pre.length-1:=by unfold wrap64;omega
       have hcB:=hbud.cell
       have hbud1:=hbud.set (.int .i64 (b-pre.length-1))
       have hv1:=hv.other (B':=w.heap.size+1+1) (by omega) (.int .i64 (b-pre.length-1))
       have hrow1:=ownsRow_setCell_below hrow (a:=⟨w.heap.size+1+1,0,none⟩) (by show w.heap.size+1+1<_;omega) (.int .i64 (b-pre.length-1))
       have hkx1:KX Wt.heap.size [w.heap.size+1+1,Wo.heap.size] W' (W'.setCell ⟨w.heap.size+1+1,0,none⟩ (.int .i64 (b-pre.length-1))):=KX.set hkx.size (by simp) _
       have hko1:KeepsOthers W' (W'.setCell ⟨w.heap.size+1+1,0,none⟩ (.int .i64 (b-pre.length-1))):=KeepsOthers.setCell _ _ _
       obtain⟨W1,hW1⟩:∃W1,W'.setCell ⟨w.heap.size+1+1,0,none⟩ (.int .i64 (b-pre.length-1))=W1:=⟨_,rfl⟩
       rw[hW1]at hbud1 hv1 hrow1 hkx1 hko1
       have cG:W1.cell? ⟨w.heap.size,0,none⟩=some (.slice ga gl gc):=by
        have:=(q.kx (hkx.trans hkx1) (by omega) (by intro k hk;simp at hk;omega) hbud1).r0
        simp[World.cell?,this]
       have hB1:Below w.heap.size w W1:=hBW.trans ((hkx.trans hkx1).below (by omega) (by intro k hk;simp at hk;omega))
       have hac:=s_list_Accepts ga gl gc x.1 V _ (laccepts_is hg (λh=>absurd hlk h) (λ_=>rfl:lookP rs x.1=0->(λv=>v=Value.tuple #[.bool (accP rs x.1),.int .i64 0]) (.tuple #[.bool (accP rs x.1),.int .i64 0]))) W1 (On.keep (λb o h=>hon.lt h) hon hB1)
       clear hcO
       have hln:((pre++[x]).length:Int)=pre.length+1:=by simp
       have hT5:T.length<=5000:=by rw[Int.toNat_natCast]at hg5;omega
       gi_wp2
       refine⟨trivial,(show CallsIn (Fence.wide.inRound l) 0 _ _ _ _ _ from callsIn_wide.2 hac).mono ?_⟩
       rintro e W2 ⟨v,rfl,hbel,rfl⟩
       have hz2:Wt.heap.size<=W1.heap.size:=Nat.le_trans hkx.size hkx1.size
       have hz3:Wt.heap.size<=W2.heap.size:=Nat.le_trans hz2 hbel.size
       have hv2:=Boxed.below hv1 hbel
       have hrow2:=row_below hrow1 hbel
       have hbud2:=Boxed.below hbud1 hbel
       have hkx2:KX Wt.heap.size [w.heap.size+1+1,Wo.heap.size] W' W2:=hkx1.trans (KX.grown (grown_of hbel) hz2 (λk e=>by cases e))
       have hko2:KeepsOthers W' W2:=hko1.trans (KeepsOthers.of_grownBy (grown_of hbel) (λj o e _=>by cases e))
       have hcO:=hv2.cell
       clear hac hW1 hv1 hrow1 hbud1 hkx1 hko1 cG hB1 hcB hbel c0 c1 c1' c2 c3 c4 c4' c5 f3 f4 f4' f5 hfB
       have hbe:b-(pre.length:Int)-1=b-((pre++[x]).length:Int):=by omega
       have hlb:((pre++[x]).length:Int)<=b:=by omega
       by_cases hacc:accP rs x.1=true
       ·have he1:accL rs (pre++[x])=accL rs pre++[x]:=by rw[accL_snoc,if_pos hacc]
        have hll:=accL_len rs pre
        obtain⟨i0,hi,hz0,hz1,hz2'⟩:=info_parts (show(Tryz.prog.info? 9).map (λi=>(i.zero,i.size,i.bytes))=some (some (.string (mkS [])),1,16) by kernel_rfl)
        have HD3:=Hid.mk3 he1 hbe
        have hlb2:(accL rs pre).length+1<=5000:=by omega
        clear he1 hbe hll
        gi_wp2_with (gi_at_builtin;refine wpListIn_append_own _ rfl _ _ 29 rfl Wt.heap.size 9 i0 (.string (mkS [])) 1 16 (by kernel_rfl) hi hz0 hz1 hz2' rfl (by decide) _ _ _ rfl (hrow2.alloc _) ⟨W2.heap.size,0,none⟩ 1 1 [.string (mkS x.1)] rfl rfl (cell_one_new _ _ _) (by simp[Value.oneCell']) (by unfold maxLen;omega) (by omega) (by simp;omega) ?_;intro v' w2 hown' hgrow _;obtain⟨g',cap',rfl⟩:=ownsRow_succ hown';obtain⟨hv3,hv4,hr4,hk4,hx4⟩:=Boxed.appX (ex:=[w.heap.size+1+1,Wo.heap.size]) hv2 (by decide) hrow2 hz3 (by simp) hown' hgrow;have hc2:=hv3.cell;have hf2:=hv3.frozen)
        have hbud4:Boxed (w2.setCell ⟨Wo.heap.size,0,none⟩ (.slice (some ⟨g',0,none⟩) ((accL rs pre).length+1) cap')) (w.heap.size+1+1) 3 (.int .i64 (b-pre.length-1)):=
         Boxed.other ((hbud2.alloc (.cells #[.string (mkS x.1)] 9)).kept hgrow (Boxed.not_row (hbud2.alloc (.cells #[.string (mkS x.1)] 9)) (by decide) (hrow2.alloc (.cells #[.string (mkS x.1)] 9)))) (by omega) _
        refine⟨(hko2.trans hk4).from _,hkx2.trans hx4,⟨_,hv4,by rw[HD3.out.1];simpa[sv6]using hr4,trivial⟩,⟨by rw[<-HD3.out.2];exact hbud4,hlb⟩,hkx.trans (hkx2.trans hx4)⟩
       ·have he1:accL rs (pre++[x])=accL rs pre:=by rw[accL_snoc,if_neg hacc]
        have HD3:=Hid.mk3 he1 hbe
        clear he1 hbe
        gi_wp2
        refine⟨hko2.from _,hkx2,⟨_,hv2,by rw[HD3.out.1];exact hrow2,trivial⟩,⟨by rw[<-HD3.out.2];exact hbud2,hlb⟩,hkx.trans hkx2⟩
     case done=>
      rintro D xs W' hD rfl ⟨⟨v,hv,hrow,_⟩,⟨hbud,hle⟩,hkx⟩ hK
      obtain⟨oa,oc,rfl⟩:=row_slice hrow
      have q':=q.kx hkx (by omega) (by intro k hk;simp at hk;omega) hbud
      obtain⟨c0,c1,c1',c2,c3,c4,c4',c5,f3,f4,f4',f5⟩:=q'.cells
      have hcO:=hv.cell
      have hO:=listO_done (rs:=rs) (c:=⟨ct,false⟩) hTv rfl hle
      have hE:=listE_ok (c:=⟨ct,false⟩) he hb0 hb1 ho hn (λh=>by cases h.1)
      have HD2:=Hid.mk3 hO hE
      clear hO hE
      gi_wp2
      obtain⟨W2,hW2,s1,s2,s3,hB2⟩:=stored3 q'.r3 q'.r4 q'.r5 (by omega) (by omega) (by omega) (.slice oa (accL rs xs).length oc) (.string (mkS [])) (.bool true) (.int .i64 0)
      have hr2:=row_set hrow (b1:=w.heap.size+1+1+1) (b2:=w.heap.size+1+1+1+1) (b3:=w.heap.size+1+1+1+1+1) (by omega) (by omega) (by omega) (.slice oa (accL rs xs).length oc) (.string (mkS [])) (.bool true) (.int .i64 0)
      rw[hW2]at hr2
      have hB3:Below w.heap.size w W2:=(hBW.trans (hkx.below (by omega) (by intro k hk;simp at hk;omega))).trans (hB2 _ (by omega) (by omega) (by omega))
      have hK2:W2.heap[D]?=some (.deferred (some [])):=by rw[<-hW2,set2 (by omega),set2 (by omega),set2 (by omega),set2 (by omega)];exact hK
      rw[show((((W'.setCell ⟨w.heap.size+1+1+1,0,none⟩ (.slice oa (accL rs xs).length oc)).setCell ⟨w.heap.size+1+1+1+1,0,none⟩ (.string {data:= #[]})).setCell ⟨w.heap.size+1+1+1+1,1,none⟩ (.bool true)).setCell ⟨w.heap.size+1+1+1+1+1,0,none⟩ (.int .i64 0))=W2 from hW2]
      refine leaveD (h:=w.heap.size) ?_ ?_ ?_ s1 s2 s3 (by omega) hK2 ?_
      ·rfl
      ·rfl
      ·rfl
      have hfin:=HD.out.2 HD2.out.2 (W2.putObj D (.deferred none)) (.slice oa (accL rs xs).length oc) (below_put hB3 (by omega) hK2 hB3.size)
      rw[HD2.out.1]at hfin
      refine hfin ?_
      rw[strV_6,List.length_map]
      exact row_base (ownsRow_putObj hr2 _ hK2 rfl) (by omega)
     case stop=>
      rintro D c pre W' hD ⟨hp1,hp2⟩ ⟨rfl,pre0,x,v,rfl,e2,hr0,s1,s2,s3,hb⟩ hK
      have hO:=listO_stop (rs:=rs) (c:=⟨ct,false⟩) hTv rfl hp1 hp2 e2
      have hE:=listE_ok (c:=⟨ct,false⟩) he hb0 hb1 ho hn (λh=>by cases h.1)
      have HD2:=Hid.mk3 hO hE
      clear hO hE hp1 hp2 e2
      gi_wp2
      refine leaveD (h:=w.heap.size) ?_ ?_ ?_ s1 s2 s3 (by omega) hK ?_
      ·rfl
      ·rfl
      ·rfl
      have hfin:=HD.out.2 HD2.out.2 (W'.putObj D (.deferred none)) v (below_put hb (by omega) hK hb.size)
      rw[HD2.out.1]at hfin
      refine hfin ?_
      rw[strV_6,List.length_map]
      exact row_base (ownsRow_putObj hr0 _ hK rfl) (by omega)
  ·gi_wp2
   exact q.fin _ _ _ _ (by rfl) (by rfl) (by rfl) λW2 h=>HD.out.1 1 (by unfold listE;rw[if_neg (λh=>h he),if_pos (.inr (.inr (.inl ho)))]) (by decide) W2 (hBW.trans h)
 ·replace hR1':=hR1' (listP rs a n) (by unfold listE;rw[if_pos he]) he
  clear hR2
  gi_wp2
  refine q.fin (.slice none 0 0) (.string (mkS [])) (.bool false) _ ?_ ?_ ?_ (λW2 h=>hR1' W2 (hBW.trans h))<;>rfl
end Go.Proofs.YtmnilbfhfjdelaaGreat.core

namespace Go.Proofs.YtmnilbfhfjdelaaGreat.core
open Go.Gx Go.RowKit Go.ChangeShapes Go.WideShapes Go.ChangeAt
set_option linter.unusedVariables false
theorem strs_equal {A B:Option Addr} {n m c d:Nat} {zs ws:List (List UInt8)} {M:Mem} (h:SlV M A n c 1 (strV zs)) (k:SlV M B m d 1 (strV ws)) (K:Value->Prop) (hK:∀b:Bool,(b=true↔zs=ws)->K (.bool b)):S_slices_Equal_string A n c B m d M K:=by
 have hn:=SlV1.len h
 have hm:=SlV1.len k
 have hmx:n<=maxLen:=Nat.le_trans h.2.1 h.2.2.1
 unfold maxLen at hmx
 unfold S_slices_Equal_string
 refine⟨λhne=>hK false ⟨λe=>(by cases e),λe=>by rw[e]at hn;omega⟩,λheq=>⟨λi=>0<=i/\i<=n/\∀j:Nat,(j:Int)<i->zs[j]?=ws[j]?,λi=>n-i.toNat,⟨by omega,by omega,λj hj=>by omega⟩,λi ⟨h0,h1,h2⟩=>⟨λhlt=>?_,λhge=>?_⟩⟩⟩
 ·obtain⟨x,hx⟩:=getI (l:=zs) h0 (by omega)
  obtain⟨y,hy⟩:=getI (l:=ws) h0 (by omega)
  obtain⟨b,o,ha,hat⟩:=SlV1 h hn hx
  obtain⟨b',o',ha',hat'⟩:=SlV1 k hm hy
  refine⟨b,o,ha,h0,hlt,x,hat,b',o',ha',h0,by omega,y,hat',λhne=>hK false ⟨λe=>(by cases e),λe=>?_⟩,λhe=>⟨by unfold InI;omega,⟨by omega,by omega,λj hj=>?_⟩,by dsimp only;omega⟩⟩
  ·rw[e,hy]at hx;exact absurd (by injection hx with hx;exact hx.symm) hne
  ·by_cases e:(j:Int)=i
   ·have:i.toNat=j:=by omega
    rw[<-this,hx,hy]
    rw[Classical.not_not.1 he]
   ·exact h2 j (by omega)
 ·refine hK true ⟨λ_=>List.ext_getElem? λj=>?_,λ_=>rfl⟩
  by_cases hj:(j:Int)<i
  ·exact h2 j hj
  ·rw[List.getElem?_eq_none (by omega),List.getElem?_eq_none (by omega)]
def sC (s:List UInt8):List Value:=[.string (mkS s)]
theorem sC_len (s:List UInt8):(sC s).length=1:=rfl
theorem strV_cl (l:List (List UInt8)):strV l=cl sC l:=by
 unfold strV cl sC
 induction l with
 |nil=>rfl
 |cons x l ih=>simp only[List.map_cons,List.flatten_cons];rw[<-ih];rfl
theorem strV_len (l:List (List UInt8)):(strV l).length=l.length:=by unfold strV;rw[List.length_map]
theorem strV_app (x y:List (List UInt8)):strV (x++y)=strV x++strV y:=by unfold strV;rw[List.map_append]
theorem strV_one (l:List (List UInt8)):∀u∈strV l,u.oneCell'=true:=by
 intro u hu
 unfold strV at hu
 obtain⟨s,_,rfl⟩:=List.mem_map.1 hu
 rfl
theorem str_Cs {l:List (List UInt8)} {i:Nat} {s:List UInt8} (h:l[i]?=some s):Cs (strV l) (0+i*1) [.string (mkS s)]:=by
 rw[strV_cl];exact cl_Cs sC_len h
section
variable {rs:List Ru} {ga:Option Addr} {gl gc:Nat} {M:Mem}
theorem llist_is (hg:GrR M rs ga gl gc) (a:List UInt8) (n:Int) (c:X_api_Cursor) (b:Int) (K:Value->Mem->Prop)
  (h1:listE rs a n c b≠0->∀M',M.le M'->K (.tuple #[.slice none 0 0,(X_api_Cursor.mk [] false).val,.int .i64 (listE rs a n c b)]) M')
  (h2:listE rs a n c b=0->∀(M':Mem) (A:Option Addr) (cap:Nat),M.le M'->SlV M' A (listO rs a n c b).1.length cap 1 (strV (listO rs a n c b).1)->K (.tuple #[.slice A (listO rs a n c b).1.length cap,(listO rs a n c b).2.val,.int .i64 0]) M'):
  CallE Tryz.prog 10 #[.agg #[.slice ga gl gc],.string (mkS a),.int .i64 n,c.val,.int .i64 b] M K:=by
 intro w hon
 refine callsIn_wide.1 (list_in M rs ga gl gc a n c b hg w hon _ (λh W hb=>⟨_,rfl,hb,h1 h _ (grow_le hon)⟩) (λh W v hb hrow=>?_))
 generalize hO:listO rs a n c b=O at*
 obtain⟨hl,⟨rfl,h0⟩|⟨g,cap,cur,rfl,hg,hgb,hle,hmax,hsz,htk⟩⟩:=hrow
 ·refine⟨_,rfl,hb,?_⟩
  have:=h2 h (grow M w W) none 0 (grow_le hon) (by rw[h0];refine⟨by simp[strV_len,h0],Nat.le_refl _,by unfold maxLen;omega,λh=>by omega⟩)
  rw[h0]at this;exact this
 ·refine⟨_,rfl,hb,h2 h (grow M w W) (some ⟨g,0,none⟩) cap (grow_le hon) ⟨by simp[strV_len],hle,hmax,λ_=>⟨g,0,rfl,?_⟩⟩⟩
  intro j v hj
  have hc:(grow M w W) g=some (.cells cur 9 (0,0)):=by unfold grow;rw[if_pos hg];exact hgb
  have hj2:(cur.toList.take (O.1.length*1))[j]?=some v:=by rw[htk];exact hj
  rw[List.getElem?_take]at hj2
  split at hj2
  ·unfold Mem.cell;rw[hc];simp only[Nat.zero_add];simpa using hj2
  ·cases hj2
theorem slice1 {a:List UInt8} {i:Nat} (h:i<a.length):(a.take (i+1)).drop i=[by8 a i]:=by
 rw[List.take_add_one,at8_get h,List.drop_append_of_le_length (by rw[List.length_take];omega),List.drop_of_length_le (by rw[List.length_take];omega)];rfl
theorem grow1_take {a:List UInt8} {l:List (List UInt8)} {j:Nat} {s:List UInt8} (h:l[j]?=some s):grow1 a (l.take (j+1))=grow1 a (l.take j)++a.map λc=>s++[c]:=by
 unfold grow1
 rw[List.take_add_one,h,List.flatMap_append];simp
theorem grow1_le (a:List UInt8) (l:List (List UInt8)) (j:Nat):(grow1 a (l.take j)).length<=l.length*a.length:=by
 rw[grow1_len,List.length_take]
 exact Nat.mul_le_mul_right _ (Nat.min_le_right _ _)
theorem lev_size {a:List UInt8}:∀(k:Nat) (s:List UInt8),s∈lev a k->s.length=k
 |0,s,h=>by rw[lev,List.mem_singleton]at h;rw[h];rfl
 |k+1,s,h=>by
  rw[lev]at h
  unfold grow1 at h
  obtain⟨u,hu,hs⟩:=List.mem_flatMap.1 h
  obtain⟨c,_,rfl⟩:=List.mem_map.1 hs
  rw[List.length_append,lev_size k u hu];rfl
theorem rwords_is {a:List UInt8} (h8:a.length<=8) {k:Nat} (h6:k<=6) (K:Value->Mem->Prop) (hK:∀(M':Mem) (A:Option Addr) (cap:Nat),M.le M'->SlV M' A (wordsN a k).length cap 1 (strV (wordsN a k))->K (.slice A (wordsN a k).length cap) M'):S_chaffref_Words a k M K:=by
 unfold S_chaffref_Words
 refine⟨λx rl ll ro oo=>0<=x/\x<=k/\rl=(lev a x.toNat).length/\ll=strV (lev a x.toNat)/\ro=(wordsN a x.toNat).length/\oo=strV (wordsN a x.toNat),λx _ _ _ _=>k-x.toNat,⟨by omega,by omega,rfl,rfl,rfl,rfl⟩,λx rl ll ro oo ⟨x0,xk,hrl,hll,hro,hoo⟩=>⟨λhlt=>?_,λhge M2 A cap hle hsl M3 hle3=>?_⟩⟩
 ·have hpl:(lev a x.toNat).length<=2097152:=by rw[lev_len];exact pow8 h8 (by omega)
  have hpl1:(lev a x.toNat).length*a.length<=2097152:=by rw[lev_len,<-Nat.pow_succ];exact pow8 h8 (by omega)
  have hwl:(wordsN a x.toNat).length<=14680064:=by
   rw[words_len]
   have:=geo8 h8 (x.toNat+1) (by omega)
   have:(x.toNat+1)*2097152<=7*2097152:=Nat.mul_le_mul_right _ (by omega)
   omega
  subst hrl hll hro hoo
  have e1:(x+1).toNat=x.toNat+1:=by omega
  refine⟨λj rn rx=>0<=j/\j<=(lev a x.toNat).length/\rn=(grow1 a ((lev a x.toNat).take j.toNat)).length/\rx=strV (grow1 a ((lev a x.toNat).take j.toNat)),λj _ _=>(lev a x.toNat).length-j.toNat,⟨by omega,by omega,rfl,rfl⟩,λj rn rx ⟨j0,jl,hrn,hrx⟩=>⟨λhjl=>?_,λhjg=>?_⟩⟩
  ·obtain⟨s,hs⟩:=getI (l:=lev a x.toNat) j0 hjl
   refine⟨j0,hjl,s,str_Cs hs,λi rn rx=>0<=i/\i<=a.length/\rn=(grow1 a ((lev a x.toNat).take j.toNat)++(a.take i.toNat).map λc=>s++[c]).length/\rx=strV (grow1 a ((lev a x.toNat).take j.toNat)++(a.take i.toNat).map λc=>s++[c]),λi _ _=>a.length-i.toNat,⟨by omega,by omega,?_,?_⟩,λi rn2 rx2 ⟨i0,il,hrn2,hrx2⟩=>⟨λhil=>?_,λhig=>?_⟩⟩
   ·rw[hrn];simp
   ·rw[hrx];simp
   ·have hi:i.toNat<a.length:=by omega
    have e2:(i+1).toNat=i.toNat+1:=by omega
    have hsl:s.length<=6:=by rw[lev_size _ s (List.mem_of_getElem? hs)];omega
    have hgl:=grow1_le a (lev a x.toNat) j.toNat
    have hrl2:rn2<=2097152+8:=by
     rw[hrn2,List.length_append,List.length_map,List.length_take];omega
    rw[e2,slice1 hi]
    refine⟨inI_big (by omega) (by omega),i0,by omega,by omega,by simp;omega,by omega,inI_big (by omega) (by omega),⟨by omega,by omega,?_,?_⟩,by show a.length-(i+1).toNat<a.length-i.toNat;omega⟩
    ·rw[hrn2,e2,List.take_add_one,at8_get hi];simp;omega
    ·rw[hrx2,strV_snoc,e2,List.take_add_one,at8_get hi];simp
   ·have e3:i.toNat=a.length:=by omega
    have e2:(j+1).toNat=j.toNat+1:=by omega
    rw[e3,List.take_length,<-grow1_take hs,<-e2]at hrn2 hrx2
    exact⟨inI_big (by omega) (by omega),⟨by omega,by omega,hrn2,hrx2⟩,by show(lev a x.toNat).length-(j+1).toNat<(lev a x.toNat).length-j.toNat;omega⟩
  ·have e2:j.toNat=(lev a x.toNat).length:=by omega
   rw[e2,List.take_length]at hrn hrx
   subst hrn hrx
   have hgl:=grow1_len a (lev a x.toNat)
   refine⟨strV_one _,by omega,inI_big (by omega) (by omega),⟨by omega,by omega,?_,?_,?_,?_⟩,by show k-(x+1).toNat<k-x.toNat;omega⟩
   ·rw[e1];rfl
   ·rw[e1];rfl
   ·rw[e1,wordsN,List.length_append];rfl
   ·rw[e1,wordsN,strV_app];rfl
 ·have e:x.toNat=k:=by omega
  rw[e]at hro hoo
  subst hro hoo
  exact hK M3 A cap (hle.trans hle3) (hsl.le hle3)
theorem rlist_is (hg:GrR M rs ga gl gc) (a:List UInt8) (n:Int) (c:X_api_Cursor) (b:Int) (K:Value->Mem->Prop)
  (h1:listE rs a n c b≠0->∀M',M.le M'->K (.tuple #[.slice none 0 0,(X_api_Cursor.mk [] false).val,.int .i64 (listE rs a n c b)]) M')
  (h2:listE rs a n c b=0->∀(M':Mem) (A:Option Addr) (cap:Nat),M.le M'->SlV M' A (listO rs a n c b).1.length cap 1 (strV (listO rs a n c b).1)->K (.tuple #[.slice A (listO rs a n c b).1.length cap,(listO rs a n c b).2.val,.int .i64 0]) M'):
  S_chaffref_List ga gl gc a n c b M K:=by
 unfold S_chaffref_List
 refine s_chaffref_Listable _ _ _ _ _ _ _ (rlistable_is hg a n _ ⟨_,rfl,λhne M' hle=>?_,λhe=>?_⟩)
 ·have e:listE rs a n c b=listP rs a n:=by unfold listE;rw[if_pos hne]
  rw[<-e];exact h1 (by rw[e];exact hne) M' hle
 have h0:=Decidable.not_not.1 he
 obtain⟨hwell,hal,hn0,hn6,hg5⟩:=listP_ok h0
 have j1:∀v:Bool,v=decide (b<0\/1048576<b\/overP a c.Text≠0\/n<c.Text.length\/(c.Over=true/\c.Text≠[]))->S_chaffref_List_J1 ga gl gc a n c b M v K:=by
  intro v hv
  unfold S_chaffref_List_J1
  refine⟨λht M' hle=>?_,λhf=>?_⟩
  ·have hc:=of_decide_eq_true (hv▸ht)
   have e:listE rs a n c b=1:=by unfold listE;rw[if_neg he,if_pos hc]
   rw[e]at h1
   exact h1 (by decide) M' hle
  have hc:¬(b<0\/1048576<b\/overP a c.Text≠0\/n<c.Text.length\/(c.Over=true/\c.Text≠[])):=λh=>hf (by rw[hv,decide_eq_true h])
  have e:listE rs a n c b=0:=by unfold listE;rw[if_neg he,if_neg hc]
  have ho:overP a c.Text=0:=Decidable.not_not.1 λh=>hc (.inr (.inr (.inl h)))
  obtain⟨a1,a8,hasc,c6,hin⟩:=over_ok ho
  replace h2:=h2 e
  unfold listO at h2
  refine⟨λhov M' hle=>?_,λhov=>?_⟩
  ·rw[if_pos hov]at h2
   exact h2 M' none 0 hle ⟨rfl,Nat.le_refl _,by unfold maxLen;simp,λh=>by simp at h⟩
  rw[if_neg hov]at h2
  obtain⟨k,rfl⟩:∃k:Nat,n=k:=⟨n.toNat,by omega⟩
  have hck:c.Text.length<=k:=by omega
  refine s_chaffref_Words _ _ _ _ (rwords_is a8 (by omega) _ λM1 A cap hle hsl=>⟨_,_,_,rfl,s_chaffref_Rank _ _ _ _ (rrank_is a1 a8 hasc c6 hin _ ⟨_,rfl,?_⟩)⟩)
  have hr:=(rank_le (n:=k) a1 hin).1 hck
  have hrl:=hsl.rest (rankN a c.Text) (by rw[words_len];omega)
  have e1:(strV (wordsN a k)).drop (rankN a c.Text*1)=strV (listT a k c):=by
   unfold listT strV
   rw[Int.toNat_natCast,Nat.mul_one,List.map_drop]
  rw[e1]at hrl
  have e2:(wordsN a k).length-rankN a c.Text=(listT a k c).length:=by unfold listT;rw[Int.toNat_natCast,List.length_drop]
  rw[e2]at hrl
  have hgM1:=hg.le hle
  have h6:∀x∈listT a k c,x.length<=60:=λx hx=>by
   have:=(words_mem hasc (List.mem_of_mem_drop hx)).1
   simp at this;omega
  have j2:∀(l:List (List UInt8)) (cp:Nat) (cur:X_api_Cursor),SlV M1 (slA A (rankN a c.Text) cap 1) l.length cp 1 (strV l)->l.length<=(listT a k c).length->(∀x∈l,x.length<=60)->
    (∀(M':Mem) (A:Option Addr) (cap:Nat),M.le M'->SlV M' A (l.filter (accP rs)).length cap 1 (strV (l.filter (accP rs)))->K (.tuple #[.slice A (l.filter (accP rs)).length cap,cur.val,.int .i64 0]) M')->
    S_chaffref_List_J2 ga gl gc M1 (slA A (rankN a c.Text) cap 1) l.length cur.Text cur.Over K:=by
   intro l cp cur hl hll hl6 hK
   have hT5:(listT a k c).length<=5000:=by
    unfold listT
    rw[List.length_drop,Int.toNat_natCast,words_len]
    rw[Int.toNat_natCast]at hg5
    omega
   unfold S_chaffref_List_J2
   rw[strV_cl]at hl
   refine⟨λi rn rx=>0<=i/\i<=l.length/\rn=((l.take i.toNat).filter (accP rs)).length/\rx=strV ((l.take i.toNat).filter (accP rs)),λi _ _=>l.length-i.toNat,⟨by omega,by omega,rfl,rfl⟩,λi rn rx ⟨i0,il,hrn,hrx⟩=>⟨λhlt=>?_,λhge M2 A2 c2 hle2 hsl2 M3 hle3=>?_⟩⟩
   ·obtain⟨x,hx⟩:=getI (l:=l) i0 hlt
    obtain⟨b1,o1,hb,hat⟩:=hl.at sC_len rfl hx
    have hx60:=hl6 x (List.mem_of_getElem? hx)
    have e3:(i+1).toNat=i.toNat+1:=by omega
    have hfl:((l.take i.toNat).filter (accP rs)).length<=5000:=by
     have h1:=List.length_filter_le (accP rs) (l.take i.toNat)
     rw[List.length_take]at h1;omega
    refine⟨b1,o1,hb,i0,hlt,x,hat,s_chaffref_Accepts _ _ _ _ _ _ (raccepts_is hwell hx60 hgM1 ⟨_,rfl,λhy=>⟨by omega,?_⟩,λhn=>?_⟩)⟩
    ·unfold S_chaffref_List_J3
     refine⟨inI_big (by omega) (by omega),⟨by omega,by omega,?_,?_⟩,by show l.length-(i+1).toNat<l.length-i.toNat;omega⟩
     ·rw[e3,List.take_add_one,hx,List.filter_append,List.length_append,hrn];simp[hy]
     ·rw[e3,List.take_add_one,hx,List.filter_append,hrx,strV_snoc];simp[hy]
    ·unfold S_chaffref_List_J3
     refine⟨inI_big (by omega) (by omega),⟨by omega,by omega,?_,?_⟩,by show l.length-(i+1).toNat<l.length-i.toNat;omega⟩
     ·rw[e3,List.take_add_one,hx,List.filter_append,List.length_append,hrn];simp[hn]
     ·rw[e3,List.take_add_one,hx,List.filter_append,hrx];simp[hn]
   ·have e3:i.toNat=l.length:=by omega
    rw[e3,List.take_length]at hrn hrx
    subst hrn hrx
    exact hK M3 A2 c2 (hle.trans (hle2.trans hle3)) (hsl2.le hle3)
  have e4:(((wordsN a k).length-((rankN a c.Text:Nat):Int).toNat:Nat):Int)=((listT a k c).length:Nat):=by rw[Int.toNat_natCast,e2]
  rw[Int.toNat_natCast]
  refine⟨by omega,by rw[words_len];omega,λhlt=>?_,λhge=>?_⟩
  ·rw[e2]at hlt
   obtain⟨x,hx⟩:=getI (l:=listT a k c) (i:=b) (by omega) hlt
   have hrl2:=hrl
   rw[strV_cl]at hrl2
   obtain⟨b1,o1,hb,hat⟩:=hrl2.at sC_len rfl hx
   rw[if_pos hlt,hx]at h2
   have hf:=hrl.first b.toNat (by omega)
   have e5:(strV (listT a k c)).take (b.toNat*1)=strV ((listT a k c).take b.toNat):=by unfold strV;rw[Nat.mul_one,List.map_take]
   rw[e5]at hf
   have e6:((listT a k c).take b.toNat).length=b.toNat:=by rw[List.length_take];omega
   have hcap:=hrl.2.1
   refine⟨b1,o1,hb,by omega,by rw[e2];exact hlt,x,hat,by omega,by omega,?_⟩
   have:=j2 ((listT a k c).take b.toNat) _ ⟨x,false⟩ (by rw[e6];exact hf) (by omega) (λy hy=>h6 y (List.mem_of_mem_take hy)) λM' A' cap' hle' hsl'=>h2 M' A' cap' hle' hsl'
   rw[e6]at this;exact this
  ·rw[e2]at hge ⊢
   rw[if_neg hge]at h2
   exact j2 _ _ ⟨[],true⟩ hrl (Nat.le_refl _) h6 h2
 refine⟨λhb=>j1 _ (by symm;exact decide_eq_true (.inl hb)),λhb=>⟨λhb1=>j1 _ (by symm;exact decide_eq_true (.inr (.inl hb1))),λhb1=>s_chaffref_Over _ _ _ _ (rover_is _ ⟨_,rfl,λho=>j1 _ (by symm;exact decide_eq_true (.inr (.inr (.inl ho)))),λho=>⟨λhn=>j1 _ (by symm;exact decide_eq_true (.inr (.inr (.inr (.inl hn))))),λhn=>⟨λhov=>j1 _ ?_,λhov=>j1 _ ?_⟩⟩⟩)⟩⟩
 ·rw[mkS_toList,mkS_toList,Bool.eq_iff_iff,decide_eq_true_iff]
  simp only[Bool.not_eq_true',beq_eq_false_iff_ne]
  constructor
  ·intro h;exact .inr (.inr (.inr (.inr ⟨hov,h⟩)))
  ·rintro(h|h|h|h|h)
   ·exact absurd h hb
   ·exact absurd h hb1
   ·exact absurd h ho
   ·exact absurd h hn
   ·exact h.2
 ·symm
  rw[decide_eq_false_iff_not]
  rintro(h|h|h|h|h)
  ·exact hb h
  ·exact hb1 h
  ·exact ho h
  ·exact hn h
  ·exact hov h.1
end
end Go.Proofs.YtmnilbfhfjdelaaGreat.core

namespace Go.Proofs.YtmnilbfhfjdelaaGreat.core
open Go.Gx Go.RowKit Go.ChangeShapes Go.WideShapes Go.ChangeAt
set_option linter.unusedVariables false
structure Jb where
 rs:List Ru
 al:List UInt8
 n:Int
 b:Int
noncomputable def jobE (j:Jb):Int:=if listP j.rs j.al j.n≠0 then listP j.rs j.al j.n else if j.b<0\/1048576<j.b then 1 else 0
noncomputable def jobsE1:List Jb->Int
 |[]=>0
 |j::l=>if jobE j≠0 then jobE j else jobsE1 l
noncomputable def jobsE (l:List Jb) (s r:Int):Int:=if 8<l.length then 2 else if s<1\/1000<s\/r<0\/1000<r then 1 else jobsE1 l
def Jb.T (j:Jb):List (List UInt8):=wordsN j.al j.n.toNat
noncomputable def Jb.found (j:Jb) (p:Nat):List (List UInt8):=(j.T.take p).filter (accP j.rs)
def Jb.cur (j:Jb) (p:Nat):X_api_Cursor:=if p<j.T.length then⟨(j.T[p]?).getD [],false⟩ else⟨[],true⟩
def Jb.pw (j:Jb) (s:Nat):Nat->Nat
 |0=>0
 |t+1=>if j.T.length<=j.pw s t\/j.b.toNat=j.pw s t then j.pw s t else j.pw s t+min s (j.b.toNat-j.pw s t)
structure JOk (j:Jb):Prop where
 l:listP j.rs j.al j.n=0
 b0:0<=j.b
 b1:j.b<=1048576
theorem jobE_ok {j:Jb} (h:jobE j=0):JOk j:=by
 unfold jobE at h
 split at h
 ·rename_i h1;exact absurd h h1
 rename_i h1
 split at h
 ·omega
 exact⟨Decidable.not_not.1 h1,by omega,by omega⟩
theorem JOk.asc {j:Jb} (h:JOk j):1<=j.al.length/\j.al.length<=8/\Asc j.al/\0<=j.n/\j.n<=6/\j.T.length<=5000/\1<=j.T.length:=by
 obtain⟨_,h2,h3,h4,h5⟩:=listP_ok h.l
 obtain⟨a1,a8,ha⟩:=alpha_ok h2
 refine⟨a1,a8,ha,h3,h4,?_,?_⟩
 ·unfold Jb.T;rw[words_len];exact h5
 ·unfold Jb.T
  rw[words_len]
  have:=geo_lt a1 (show 0<j.n.toNat+1 by omega)
  omega
theorem Jb.pw_le {j:Jb} (s:Nat):∀t,j.pw s t<=j.b.toNat
 |0=>Nat.zero_le _
 |t+1=>by
  have:=j.pw_le s t
  rw[Jb.pw]
  split<;>omega
theorem Jb.found_add (j:Jb) (p m:Nat):j.found (p+m)=j.found p++((j.T.drop p).take m).filter (accP j.rs):=by
 unfold Jb.found
 rw[List.take_add,List.filter_append]
theorem Jb.cur_zero {j:Jb} (h:JOk j):j.cur 0=⟨[],false⟩:=by
 obtain⟨a1,a8,ha,h3,h4,h5,h6⟩:=h.asc
 unfold Jb.cur
 rw[if_pos (by omega)]
 have:=words_at (a:=j.al) j.n.toNat [] (Nat.zero_le _) (λc hc=>by cases hc)
 have hr0:rankN j.al []=0:=rfl
 rw[hr0]at this
 unfold Jb.T
 rw[this];rfl
theorem Jb.step {j:Jb} (h:JOk j) {p m:Nat} (hp:p<j.T.length) (hm:m<=1048576):listE j.rs j.al j.n (j.cur p) m=0/\listO j.rs j.al j.n (j.cur p) m=(((j.T.drop p).take m).filter (accP j.rs),j.cur (p+m)):=by
 obtain⟨a1,a8,ha,h3,h4,h5,h6⟩:=h.asc
 obtain⟨_,hal,_⟩:=listP_ok h.l
 obtain⟨t,ht⟩:=getN hp
 have hcur:j.cur p=⟨t,false⟩:=by unfold Jb.cur;rw[if_pos hp,ht];rfl
 obtain⟨t1,t2,t3⟩:=words_is ha _ _ _ ht
 have hT:listT j.al j.n (j.cur p)=j.T.drop p:=by unfold listT;rw[hcur];rw[t3];rfl
 refine⟨listE_ok h.l (by omega) (by omega) (by rw[hcur];exact over_of hal (show t.length<=6 by omega) t2) (by rw[hcur];show(t.length:Int)<=j.n;omega) (by rw[hcur];rintro⟨h,_⟩;cases h),?_⟩
 unfold listO
 rw[if_neg (by rw[hcur];simp),hT]
 rw[List.length_drop]
 by_cases hlt:p+m<j.T.length
 ·rw[if_pos (by omega),Int.toNat_natCast,List.getElem?_drop]
  unfold Jb.cur
  rw[if_pos hlt]
 ·rw[if_neg (by omega)]
  have:(j.T.drop p).take m=j.T.drop p:=List.take_of_length_le (by rw[List.length_drop];omega)
  rw[this]
  unfold Jb.cur
  rw[if_neg hlt]
structure JobR (M:Mem) (j:Jb) (x:X_api_Job):Prop where
 al:x.Alpha=j.al
 n:x.N=j.n
 b:x.Budget=j.b
 gr:GrR M j.rs x.Grammar_Rules_a x.Grammar_Rules_l x.Grammar_Rules_c
theorem JobR.le {M M':Mem} {j:Jb} {x:X_api_Job} (h:JobR M j x) (hl:M.le M'):JobR M' j x:=⟨h.al,h.n,h.b,h.gr.le hl⟩
theorem Jx_len (x:X_api_Job):x.cells.length=4:=rfl
theorem Sx_len (x:X_api_State):x.cells.length=4:=rfl
structure JobsR (M:Mem) (js:List Jb) (xs:List X_api_Job) (la:Option Addr) (ll lc:Nat):Prop where
 sl:SlV M la ll lc 4 (cl X_api_Job.cells xs)
 xl:xs.length=ll
 jl:js.length=ll
 row:∀(i:Nat) j x,js[i]?=some j->xs[i]?=some x->JobR M j x
section
variable {M M' V:Mem} {js:List Jb} {xs:List X_api_Job} {la:Option Addr} {ll lc:Nat}
theorem JobsR.le (h:JobsR M js xs la ll lc) (hl:M.le M'):JobsR M' js xs la ll lc:=⟨h.sl.le hl,h.xl,h.jl,λi j x a b=>(h.row i j x a b).le hl⟩
theorem JobsR.at (h:JobsR M js xs la ll lc) {i:Int} (h0:0<=i) (hi:i<((ll:Nat):Int)):∃(j:Jb) (x:X_api_Job) (b o:Nat),js[i.toNat]?=some j/\xs[i.toNat]?=some x/\la=some ⟨b,o,none⟩/\At M b (o+i.toNat*4) x.cells/\JobR M j x:=by
 obtain⟨j,hj⟩:=getI (l:=js) h0 (by rw[h.jl];exact hi)
 obtain⟨x,hx⟩:=getI (l:=xs) h0 (by rw[h.xl];exact hi)
 obtain⟨b,o,ha,hat⟩:=h.sl.at Jx_len h.xl hx
 exact⟨j,x,b,o,hj,hx,ha,hat,h.row _ _ _ hj hx⟩
end
noncomputable def tkC (j:Jb) (x:X_api_Job) (p:Nat) (fa:Option Addr) (fc:Nat):X_jobs_task:=⟨x,⟨fa,(j.found p).length,fc,j.cur p,j.b-p⟩⟩
structure Tk (V M:Mem) (j:Jb) (x:X_api_Job) (bk p:Nat) (go:Option Nat):Prop where
 nov:V bk=none
 blk:∃fa fc,M bk=some (.cells (tkC j x p fa fc).cells.toArray 71 (0,0))/\RowW M 9 1 fa (j.found p).length fc (strV (j.found p))/\(∀g,fa=some ⟨g,0,none⟩->go=some g/\V g=none/\g≠bk)/\∀g,go=some g->fa=some ⟨g,0,none⟩
section
variable {V M M':Mem} {j:Jb} {x:X_api_Job} {bk p:Nat} {go:Option Nat}
theorem Tk.keep (h:Tk V M j x bk p go) (hk:∀b o,M b=some o->(b=bk\/go=some b)->M' b=some o):Tk V M' j x bk p go:=by
 obtain⟨h1,fa,fc,h2,h3,h4⟩:=h
 exact⟨h1,fa,fc,hk _ _ h2 (.inl rfl),h3.same λg o hg hm=>hk g o hm (.inr (h4.1 g hg).1),h4⟩
theorem over_is (ht:Tk V M j x bk p go) (hpb:p<=j.b.toNat) (hok:JOk j) {L:Nat->Prop} {K:Value->Mem->Prop} (hK:∀M',M.le M'->K (.bool (decide (j.T.length<=p\/j.b.toNat=p))) M'):S_jobs_task_over (some ⟨bk,0,none⟩) M L K:=by
 obtain⟨h1,fa,fc,h2,h3,h4⟩:=ht
 have hb:=hok.b0
 unfold S_jobs_task_over
 refine⟨bk,0,rfl,(j.cur p).Over,(At.blk h2).part 6 [.bool (j.cur p).Over] rfl,λho M' hle=>?_,λho=>⟨bk,0,rfl,j.b-p,(At.blk h2).part 7 [.int .i64 (j.b-p)] rfl,λM' hle=>?_⟩⟩
 ·have:j.T.length<=p:=by
   unfold Jb.cur at ho
   split at ho
   ·cases ho
   ·omega
  have:=hK M' hle
  rw[decide_eq_true (.inl (by assumption))]at this;exact this
 ·have hlt:p<j.T.length:=by
   unfold Jb.cur at ho
   split at ho
   ·assumption
   ·exact absurd rfl ho
  have:=hK M' hle
  have e:decide (j.T.length<=p\/j.b.toNat=p)=(j.b-(p:Int)==0):=by
   rw[Bool.eq_iff_iff,decide_eq_true_iff,beq_iff_eq];omega
  rw[e]at this;exact this
theorem work_is (hVM:V.le M) (hok:JOk j) (hx:JobR V j x) (ht:Tk V M j x bk p go) (hp:p<j.T.length) (hpb:p<j.b.toNat) {s:Nat} (hs1:1<=s) (hs2:s<=1000) {L:Nat->Prop} (hL:∀b,V b=none->L b) {K:Value->Mem->Prop}
  (hK:∀M' go',V.le M'->(∀b o,M b=some o->b≠bk->go≠some b->M' b=some o)->(∀b,(M b).isSome=true->(M' b).isSome=true)->Tk V M' j x bk (p+min s (j.b.toNat-p)) go'->(∀g,go'=some g->go=some g\/M g=none)->K (.tuple #[]) M'):S_jobs_task_work (some ⟨bk,0,none⟩) s M L K:=by
 obtain⟨h1,fa,fc,h2,h3,h4,h5⟩:=ht
 have hb0:=hok.b0
 have hb1:=hok.b1
 obtain⟨a1,a8,hasc,hn0,hn6,hT5,hT1⟩:=hok.asc
 have hmin:(if j.b-(p:Int)<(s:Int) then j.b-(p:Int) else(s:Int))=((min s (j.b.toNat-p):Nat):Int):=by split<;>omega
 unfold S_jobs_task_work
 refine⟨bk,0,rfl,j.b-p,(At.blk h2).part 7 [.int .i64 (j.b-p)] rfl,bk,0,rfl,x.Grammar_Rules_a,x.Grammar_Rules_l,x.Grammar_Rules_c,(At.blk h2).part 0 [.slice x.Grammar_Rules_a x.Grammar_Rules_l x.Grammar_Rules_c] rfl,bk,0,rfl,x.Alpha,(At.blk h2).part 1 [.string (mkS x.Alpha)] rfl,
  bk,0,rfl,x.N,(At.blk h2).part 2 [.int .i64 x.N] rfl,bk,0,rfl,j.cur p,(At.blk h2).part 5 (j.cur p).cells rfl,?_⟩
 rw[hmin,hx.al,hx.n]
 obtain⟨hE,hO⟩:=Jb.step hok hp (m:=min s (j.b.toNat-p)) (by omega)
 refine llist_is (hx.gr.le hVM) j.al j.n (j.cur p) _ _ (λh=>absurd hE h) λ_ M25 A cap hle hsl=>?_
 rw[hO]at hsl ⊢
 dsimp only at hsl ⊢
 refine⟨_,_,_,_,_,rfl,?_⟩
 have h2':=hle _ _ h2
 have h3':=h3.le hle
 unfold S_jobs_task_work_J1
 have hfl:(j.found p).length<=5000:=by
  unfold Jb.found
  have:=List.length_filter_le (accP j.rs) (j.T.take p)
  rw[List.length_take]at this;omega
 have hnl:(((j.T.drop p).take (min s (j.b.toNat-p))).filter (accP j.rs)).length<=5000:=by
  have:=List.length_filter_le (accP j.rs) ((j.T.drop p).take (min s (j.b.toNat-p)))
  rw[List.length_take,List.length_drop]at this;omega
 have hVL:∀b,V b=none->Wr L M b:=λb hb=>.inl (hL b hb)
 refine⟨bk,0,rfl,fa,(j.found p).length,fc,(At.blk h2').part 4 [.slice fa (j.found p).length fc] rfl,_,hsl,strV_one _,_,h3',λg hg=>hVL g (h4 g hg).2.1,by omega,λM41 ad42 cap43 hap=>?_⟩
 have hbk41:M41 bk=some (.cells (tkC j x p fa fc).cells.toArray 71 (0,0)):=hap.keep _ _ h2' λg hg e=>(h4 g hg).2.2 e.symm
 have hl2:(j.found p).length+(((j.T.drop p).take (min s (j.b.toNat-p))).filter (accP j.rs)).length=(j.found (p+min s (j.b.toNat-p))).length:=by rw[Jb.found_add,List.length_append]
 have hrow:=hap.row
 rw[hl2,<-strV_app,<-Jb.found_add]at hrow
 rw[hl2]
 refine⟨bk,0,rfl,Has.blk hbk41 (by show 4+1<=8;omega),hVL bk h1,λM46 hM46=>?_⟩
 have hbk46:M46 bk=some (.cells (putAt (tkC j x p fa fc).cells 4 [Value.slice ad42 (j.found (p+min s (j.b.toNat-p))).length cap43]).toArray 71 (0,0)):=by rw[hM46];exact Mem.put_eq hbk41
 refine⟨bk,0,rfl,Has.blk hbk46 (by show 4+1+2<=8;omega),hVL bk h1,λM49 hM49=>?_⟩
 have hbk49:M49 bk=some (.cells (putAt (putAt (tkC j x p fa fc).cells 4 [Value.slice ad42 (j.found (p+min s (j.b.toNat-p))).length cap43]) 5 (j.cur (p+min s (j.b.toNat-p))).cells).toArray 71 (0,0)):=by rw[hM49];exact Mem.put_eq hbk46
 refine⟨bk,0,rfl,j.b-p,(At.blk hbk49).part 7 [.int .i64 (j.b-p)] rfl,by rw[hmin];exact inI_big (by omega) (by omega),bk,0,rfl,Has.blk hbk49 (by show 4+3+1<=8;omega),hVL bk h1,λM55 hM55 M' hle'=>?_⟩
 rw[hmin]at hM55
 have hbk55:M55 bk=some (.cells (tkC j x (p+min s (j.b.toNat-p)) ad42 cap43).cells.toArray 71 (0,0)):=by
  rw[hM55,Mem.put_eq hbk49]
  have e:j.b-(p:Int)-((min s (j.b.toNat-p):Nat):Int)=j.b-((p+min s (j.b.toNat-p):Nat):Int):=by push_cast;omega
  rw[e];rfl
 have hoth:∀b,b≠bk->M55 b=M41 b:=λb hb=>by rw[hM55,Mem.put_ne hb,hM49,Mem.put_ne hb,hM46,Mem.put_ne hb]
 have hkeep:∀b o,M b=some o->b≠bk->go≠some b->M' b=some o:=λb o hb hne hng=>hle' _ _ (by
  rw[hoth b hne]
  exact hap.keep _ _ (hle _ _ hb) λg hg e=>hng (by rw[e];exact(h4 g hg).1))
 have hble:∀b,M25 b=none->M b=none:=λb hb=>by
  cases hm:M b with
  |none=>rfl
  |some o=>rw[hle _ _ hm]at hb;cases hb
 have hVn:∀b,M b=none->V b=none:=λb hb=>by
  cases hm:V b with
  |none=>rfl
  |some o=>rw[hVM _ _ hm]at hb;cases hb
 have hnew:∀g,ad42=some ⟨g,0,none⟩->V g=none/\g≠bk/\(go=some g\/M g=none):=λg hg=>by
  rcases hap.blk g hg with h|h
  ·exact⟨(h4 g h).2.1,(h4 g h).2.2,.inl (h4 g h).1⟩
  ·exact⟨hVn _ (hble _ h),(by rintro rfl;rw[h2']at h;cases h),.inr (hble _ h)⟩
 have hform:ad42=none\/∃g,ad42=some ⟨g,0,none⟩:=by
  obtain⟨_,_,_,⟨h,_⟩|⟨g,cur,h,_⟩⟩:=id hrow
  ·exact .inl h
  ·exact .inr ⟨g,h⟩
 have hback:∀g,ad42.map (·.block)=some g->ad42=some ⟨g,0,none⟩:=λg hg=>by
  rcases hform with h|⟨g',h⟩
  ·rw[h]at hg;cases hg
  ·rw[h]at hg ⊢
   simp only[Option.map_some,Option.some.injEq]at hg
   rw[hg]
 refine hK M' (ad42.map (·.block)) (λb o hb=>?_) hkeep (λb hb=>?_) ⟨h1,ad42,cap43,hle' _ _ hbk55,hrow.same λg o hg hm=>hle' _ _ ?_,λg hg=>⟨by rw[hg];rfl,(hnew g hg).1,(hnew g hg).2.1⟩,hback⟩ λg hg=>(hnew g (hback g hg)).2.2
 ·exact hkeep b o (hVM b o hb) (by rintro rfl;rw[h1]at hb;cases hb) λhgo=>by rw[(h4 b (h5 b hgo)).2.1]at hb;cases hb
 ·obtain⟨o,ho⟩:=Option.isSome_iff_exists.1 hb
  by_cases e:b=bk
  ·subst e;rw[hle' _ _ hbk55];rfl
  ·have:=hap.dom b (by rw[hle _ _ ho];rfl)
   obtain⟨o',ho'⟩:=Option.isSome_iff_exists.1 this
   rw[hle' _ _ ((hoth b e).trans ho')];rfl
 ·rw[hoth g (hnew g hg).2.1];exact hm
end
theorem job_list (j:Jb):listE j.rs j.al j.n ⟨[],false⟩ (if j.b<0 then j.b else 0)=if listP j.rs j.al j.n≠0 then listP j.rs j.al j.n else if j.b<0 then 1 else 0:=by
 by_cases h:listP j.rs j.al j.n=0
 ·obtain⟨_,hal,hn0,_⟩:=listP_ok h
  have e:(if listP j.rs j.al j.n≠0 then listP j.rs j.al j.n else if j.b<0 then 1 else 0)=(if j.b<0 then 1 else 0):=if_neg (λh'=>h' h)
  rw[e]
  by_cases hb:j.b<0
  ·rw[if_pos hb,if_pos hb]
   unfold listE
   rw[if_neg (λh'=>h' h),if_pos (.inl hb)]
  ·rw[if_neg hb,if_neg hb]
   exact listE_ok h (by omega) (by omega) (over_of hal (by simp) (λc hc=>by cases hc)) (by simpa using hn0) (λh=>by cases h.1)
 ·unfold listE
  rw[if_pos h,if_pos h]
def pC (b:Nat):List Value:=[.pointer (some ⟨b,0,none⟩)]
theorem pC_len (b:Nat):(pC b).length=1:=rfl
def pwAt (js:List Jb) (s i t:Nat):Nat:=match js[i]? with
 |some j=>j.pw s t
 |none=>0
theorem pwAt_some {js:List Jb} {s i t:Nat} {j:Jb} (h:js[i]?=some j):pwAt js s i t=j.pw s t:=by unfold pwAt;rw[h]
structure Ts (V M:Mem) (js:List Jb) (xs:List X_api_Job) (bks:List Nat) (P:Nat->Nat) (gs:List (Option Nat)):Prop where
 gl:gs.length=bks.length
 tk:∀(i:Nat) j x bk go,js[i]?=some j->xs[i]?=some x->bks[i]?=some bk->gs[i]?=some go->Tk V M j x bk (P i) go
 nd:∀(i k:Nat) b,bks[i]?=some b->bks[k]?=some b->i=k
 ng:∀(i k:Nat) g,gs[i]?=some (some g)->gs[k]?=some (some g)->i=k
section
variable {V M M':Mem} {js:List Jb} {xs:List X_api_Job} {bks:List Nat} {P P':Nat->Nat} {gs:List (Option Nat)}
theorem Ts.le (h:Ts V M js xs bks P gs) (hl:M.le M'):Ts V M' js xs bks P gs:=⟨h.gl,λi j x bk go a b c d=>(h.tk i j x bk go a b c d).keep λb o hb _=>hl b o hb,h.nd,h.ng⟩
theorem Ts.same (h:Ts V M js xs bks P gs) (hP:∀i,i<bks.length->P' i=P i):Ts V M js xs bks P' gs:=
 ⟨h.gl,λi j x bk go a b c d=>by rw[hP i (List.getElem?_eq_some_iff.1 c).1];exact h.tk i j x bk go a b c d,h.nd,h.ng⟩
theorem Tk.seen {j:Jb} {x:X_api_Job} {bk p:Nat} {go:Option Nat} (h:Tk V M j x bk p go):(∃cs f,M bk=some (.cells cs 71 f))/\∀g,go=some g->∃cs f,M g=some (.cells cs 9 f):=by
 obtain⟨_,fa,fc,h2,h3,h4,h5⟩:=h
 refine⟨⟨_,_,h2⟩,λg hg=>?_⟩
 obtain⟨_,_,_,⟨h,_⟩|⟨g',cur,h,hb,_⟩⟩:=h3
 ·rw[h5 g hg]at h;cases h
 ·rw[h5 g hg]at h
  cases h
  exact⟨_,_,hb⟩
theorem tk_ne {cs cs':Array Value} {f f':Nat×Nat} {b g:Nat} (h:M b=some (.cells cs 71 f)) (k:M g=some (.cells cs' 9 f')):g≠b:=by
 rintro rfl
 rw[h]at k
 simp only[Option.some.injEq,Obj.cells.injEq]at k
 exact absurd k.2.1 (by decide)
theorem Ts.add (h:Ts V M js xs bks P gs) (hb:bks.length<=js.length) (hx:xs.length=js.length) {j:Jb} {x:X_api_Job} (hj:js[bks.length]?=some j) (hxj:xs[bks.length]?=some x) (hok:JOk j) (hxb:x.Budget=j.b) (hP:P bks.length=0) {b:Nat} (hV:V b=none) (hM:M b=none):
  Ts V (M.add b (.cells [(Value.slice x.Grammar_Rules_a x.Grammar_Rules_l x.Grammar_Rules_c),(Value.string (mkS x.Alpha)),(Value.int .i64 x.N),(Value.int .i64 x.Budget),(Value.slice none 0 0),(Value.string (mkS [])),(Value.bool false),(Value.int .i64 x.Budget)].toArray 71 (0,0))) js xs (bks++[b]) P (gs++[none]):=by
 have hle:M.le (M.add b (.cells [(Value.slice x.Grammar_Rules_a x.Grammar_Rules_l x.Grammar_Rules_c),(Value.string (mkS x.Alpha)),(Value.int .i64 x.N),(Value.int .i64 x.Budget),(Value.slice none 0 0),(Value.string (mkS [])),(Value.bool false),(Value.int .i64 x.Budget)].toArray 71 (0,0))):=Mem.add_le hM
 have old:=h.le hle
 have gl:=h.gl
 have hnew:∀(i:Nat) bi,bks[i]?=some bi->bi≠b:=λi bi hi=>by
  rintro rfl
  have hil:=(List.getElem?_eq_some_iff.1 hi).1
  obtain⟨j',hj'⟩:=getN (l:=js) (i:=i) (by omega)
  obtain⟨x',hx'⟩:=getN (l:=xs) (i:=i) (by omega)
  obtain⟨go,hgo⟩:=getN (l:=gs) (i:=i) (by omega)
  obtain⟨⟨cs,f,hs⟩,_⟩:=(h.tk i j' x' bi go hj' hx' hi hgo).seen
  rw[hM]at hs;cases hs
 have one:∀{α:Type} {l:List α} {a c:α} {i:Nat},(l++[a])[i]?=some c->l[i]?=some c\/(i=l.length/\c=a):=λ{α l a c i} hi=>by
  by_cases hlt:i<l.length
  ·rw[List.getElem?_append_left hlt]at hi;exact .inl hi
  ·rw[List.getElem?_append_right (by omega)]at hi
   have:i-l.length=0:=by
    have:=(List.getElem?_eq_some_iff.1 hi).1
    simpa using this
   rw[this]at hi
   simp only[List.getElem?_cons_zero,Option.some.injEq]at hi
   exact .inr ⟨by omega,hi.symm⟩
 refine⟨by simp[gl],λi j' x' bk go a1 a2 a3 a4=>?_,λi k bi h1 h2=>?_,λi k g h1 h2=>?_⟩
 ·rcases one a3 with h3|⟨rfl,rfl⟩
  ·have hil:=(List.getElem?_eq_some_iff.1 h3).1
   rcases one a4 with h4|⟨h4,_⟩
   ·exact old.tk i j' x' bk go a1 a2 h3 h4
   ·omega
  ·rcases one a4 with h4|⟨_,rfl⟩
   ·have:=(List.getElem?_eq_some_iff.1 h4).1
    omega
   ·rw[hj]at a1;rw[hxj]at a2
    cases a1;cases a2
    rw[hP]
    refine⟨hV,none,0,?_,⟨rfl,Nat.le_refl _,by unfold maxLen;omega,.inl ⟨rfl,rfl,rfl⟩⟩,⟨(λg hg=>by cases hg),λg hg=>by cases hg⟩⟩
    rw[Mem.add_eq]
    have e:(tkC j x 0 none 0).cells=[(Value.slice x.Grammar_Rules_a x.Grammar_Rules_l x.Grammar_Rules_c),(Value.string (mkS x.Alpha)),(Value.int .i64 x.N),(Value.int .i64 x.Budget),(Value.slice none 0 0),(Value.string (mkS [])),(Value.bool false),(Value.int .i64 x.Budget)]:=by
     unfold tkC
     rw[Jb.cur_zero hok,show j.b-((0:Nat):Int)=j.b by omega,<-hxb]
     rfl
    rw[e]
 ·rcases one h1 with g1|⟨e1,e2⟩
  ·rcases one h2 with g2|⟨e1,e2⟩
   ·exact h.nd i k bi g1 g2
   ·exact absurd e2 (hnew _ _ g1)
  ·rcases one h2 with g2|⟨e3,_⟩
   ·exact absurd e2 (hnew _ _ g2)
   ·rw[e1,e3]
 ·rcases one h1 with h1|⟨_,h1⟩
  ·rcases one h2 with h2|⟨_,h2⟩
   ·exact h.ng i k g h1 h2
   ·cases h2
  ·cases h1
theorem Ts.work (h:Ts V M js xs bks P gs) (hbl:bks.length=js.length) (hx:xs.length=js.length) {k:Nat} {j:Jb} {x:X_api_Job} {bk:Nat} {go go':Option Nat} (hj:js[k]?=some j) (hxj:xs[k]?=some x) (hbk:bks[k]?=some bk) (hgo:gs[k]?=some go)
  (hkeep:∀b o,M b=some o->b≠bk->go≠some b->M' b=some o) (ht:Tk V M' j x bk (P' k) go') (hg':∀g,go'=some g->go=some g\/M g=none) (hP:∀i,i≠k->P' i=P i):Ts V M' js xs bks P' (gs.set k go'):=by
 have hkl:=(List.getElem?_eq_some_iff.1 hbk).1
 have gl:=h.gl
 have all:∀(i:Nat) bi,bks[i]?=some bi->∃j x go,js[i]?=some j/\xs[i]?=some x/\gs[i]?=some go/\Tk V M j x bi (P i) go:=λi bi hi=>by
  have hil:=(List.getElem?_eq_some_iff.1 hi).1
  obtain⟨j',hj'⟩:=getN (l:=js) (i:=i) (by omega)
  obtain⟨x',hx'⟩:=getN (l:=xs) (i:=i) (by omega)
  obtain⟨go,hgo⟩:=getN (l:=gs) (i:=i) (by omega)
  exact⟨j',x',go,hj',hx',hgo,h.tk i j' x' bi go hj' hx' hi hgo⟩
 obtain⟨⟨cs0,f0,hs0⟩,hr0⟩:=(h.tk k j x bk go hj hxj hbk hgo).seen
 refine⟨by rw[List.length_set];exact gl,λi j' x' bi gi a1 a2 a3 a4=>?_,h.nd,λi i' g h1 h2=>?_⟩
 ·by_cases hik:i=k
  ·subst hik
   rw[hj]at a1;rw[hxj]at a2;rw[hbk]at a3
   cases a1;cases a2;cases a3
   rw[List.getElem?_set,if_pos rfl,if_pos (by omega)]at a4
   cases a4;exact ht
  ·rw[List.getElem?_set,if_neg (λe=>hik e.symm)]at a4
   rw[hP i hik]
   have hti:=h.tk i j' x' bi gi a1 a2 a3 a4
   obtain⟨⟨cs,f,hs⟩,hr⟩:=hti.seen
   refine hti.keep λb o hb hor=>hkeep b o hb ?_ ?_
   ·rcases hor with rfl|hor
    ·exact λe=>hik (h.nd i k _ a3 (by rw[hbk,e]))
    ·obtain⟨cs',f',hs'⟩:=hr b hor
     exact tk_ne hs0 hs'
   ·intro e
    rcases hor with rfl|hor
    ·obtain⟨cs',f',hs'⟩:=hr0 b e
     exact tk_ne hs hs' rfl
    ·exact hik (h.ng i k b (by rw[a4,hor]) (by rw[hgo,e]))
 ·have pick:∀m:Nat,(gs.set k go')[m]?=some (some g)->(m=k/\go'=some g)\/(m≠k/\gs[m]?=some (some g)):=λm hm=>by
   rw[List.getElem?_set]at hm
   by_cases e:k=m
   ·subst e
    rw[if_pos rfl,if_pos (by omega)]at hm
    simp only[Option.some.injEq]at hm
    exact .inl ⟨rfl,hm⟩
   ·rw[if_neg e]at hm;exact .inr ⟨λe'=>e e'.symm,hm⟩
  have other:∀m,m≠k->gs[m]?=some (some g)->go'≠some g:=λm hm h3 he=>by
   rcases hg' g he with h4|h4
   ·exact hm (h.ng m k g h3 (by rw[hgo,h4]))
   ·obtain⟨b,hb⟩:=getN (l:=bks) (i:=m) (by have:=(List.getElem?_eq_some_iff.1 h3).1;omega)
    obtain⟨j',x',gm,_,_,h7,h8⟩:=all m b hb
    rw[h3]at h7
    cases h7
    obtain⟨cs',f',hs'⟩:=h8.seen.2 g rfl
    rw[h4]at hs';cases hs'
  rcases pick i h1 with⟨rfl,e1⟩|⟨n1,e1⟩
  ·rcases pick i' h2 with⟨rfl,_⟩|⟨n2,e2⟩
   ·rfl
   ·exact absurd e1 (other i' n2 e2)
  ·rcases pick i' h2 with⟨rfl,e2⟩|⟨n2,e2⟩
   ·exact absurd e2 (other i n1 e1)
   ·exact h.ng i i' g e1 e2
end
structure StR (M:Mem) (j:Jb) (p:Nat) (y:X_api_State):Prop where
 fl:y.Found_l=(j.found p).length
 fo:SlV M y.Found_a y.Found_l y.Found_c 1 (strV (j.found p))
 cu:y.Cursor=j.cur p
 le:y.Left=j.b-p
theorem StR.mono {M M':Mem} {j:Jb} {p:Nat} {y:X_api_State} (h:StR M j p y) (hl:M.le M'):StR M' j p y:=⟨h.fl,h.fo.le hl,h.cu,h.le⟩
section
variable {M:Mem} {js:List Jb} {xs:List X_api_Job} {la:Option Addr} {ll lc:Nat}
theorem jrun_is (hJ:JobsR M js xs la ll lc) (s r:Int) (L:Nat->Prop) (K:Value->Mem->Prop)
  (h1:jobsE js s r≠0->∀M',M.le M'->K (.tuple #[.slice none 0 0,.int .i64 (jobsE js s r)]) M')
  (h2:jobsE js s r=0->∀M' A cap ys,M.le M'->SlV M' A ll cap 4 (cl X_api_State.cells ys)->ys.length=ll->(∀(i:Nat) j y,js[i]?=some j->ys[i]?=some y->StR M' j (j.pw s.toNat r.toNat) y)->K (.tuple #[.slice A ll cap,.int .i64 0]) M'):
  S_jobs_Run la ll lc s r M L K:=by
 have hjl:=hJ.jl
 have hxl:=hJ.xl
 unfold S_jobs_Run
 unfold jobsE at h1 h2
 refine⟨λh8 M' hle=>?_,λh8=>?_⟩
 ·rw[if_pos (by omega)]at h1;exact h1 (by decide) M' hle
 rw[if_neg (by omega)]at h1 h2
 have j1:∀v:Bool,v=decide (s<1\/1000<s\/r<0\/1000<r)->S_jobs_Run_J1 la ll s r M L v K:=by
  intro v hv
  unfold S_jobs_Run_J1
  refine⟨λht M' hle=>?_,λhf=>?_⟩
  ·rw[if_pos (of_decide_eq_true (hv▸ht))]at h1;exact h1 (by decide) M' hle
  have hin:¬(s<1\/1000<s\/r<0\/1000<r):=λh=>hf (by rw[hv,decide_eq_true h])
  rw[if_neg hin]at h1 h2
  refine⟨Unit,λ_ x rn rx M'=>0<=x/\x<=ll/\M.le M'/\jobsE1 (js.drop x.toNat)=jobsE1 js/\(∀(i:Nat) j,(i:Int)<x->js[i]?=some j->JOk j)/\∃bks gs,rn=bks.length/\(bks.length:Int)=x/\rx=cl pC bks/\Ts M M' js xs bks (λ_=>0) gs,λ_ x _ _=>ll-x.toNat,(),
   ⟨by omega,by omega,Mem.le.refl _,rfl,λi j h=>by omega,[],[],rfl,rfl,rfl,⟨rfl,λi j x bk go _ _ h=>by simp at h,λi k b h=>by simp at h,λi k g h=>by simp at h⟩⟩,λ_ x rn rx M1 ⟨x0,xl,hM1,hE1,hoks,bks,gs,hrn,hbx,hrx,hTs⟩=>⟨λhlt=>?_,λhge=>?_⟩⟩
  ·obtain⟨j,y,b,o,hj,hy,ha,hat,hjr⟩:=(hJ.le hM1).at x0 hlt
   rw[drop_get hj,jobsE1]at hE1
   have hjl':=job_list j
   have hbr:(if y.Budget<0 then y.Budget else 0)=(if j.b<0 then j.b else 0):=by rw[hjr.b]
   refine⟨b,o,ha,x0,hlt,y,hat,?_⟩
   rw[hbr]
   refine llist_is hjr.gr y.Alpha y.N ⟨[],false⟩ _ _ (λhne M2 hle2=>⟨_,_,_,_,_,rfl,λ_ M' hle'=>?_,λhn=>absurd hne hn⟩) λhe M2 A cap hle2 hsl=>⟨_,_,_,_,_,rfl,λhn=>absurd rfl hn,λ_=>?_⟩
   ·have e:jobE j=listE j.rs y.Alpha y.N ⟨[],false⟩ (if j.b<0 then j.b else 0):=by
     rw[hjr.al,hjr.n]at hne ⊢
     rw[hjl']at hne ⊢
     unfold jobE
     by_cases h0:listP j.rs j.al j.n=0
     ·by_cases hb:j.b<0
      ·simp[h0,hb]
      ·simp[h0,hb]at hne
     ·rw[if_pos h0,if_pos h0]
    rw[e,if_pos hne]at hE1
    rw[hE1]
    exact h1 (by rw[<-hE1];exact hne) M' (hM1.trans (hle2.trans hle'))
   ·rw[hjr.al,hjr.n]at he
    rw[he]at hjl'
    have hl0:listP j.rs j.al j.n=0:=by
     by_cases h:listP j.rs j.al j.n=0
     ·exact h
     ·rw[if_pos h]at hjl';exact absurd hjl'.symm h
    have hb0:¬j.b<0:=λhb=>by rw[if_neg (λh=>h hl0),if_pos hb]at hjl';omega
    refine⟨λhb M' hle'=>?_,λhb M71 hnr b70 M72 hb70 hM72=>?_⟩
    ·have e:jobE j=1:=by unfold jobE;rw[if_neg (λh=>h hl0),if_pos (.inr (by rw[<-hjr.b];exact hb))]
     rw[e,if_pos (by decide)]at hE1
     rw[<-hE1]at h1
     exact h1 (by decide) M' (hM1.trans (hle2.trans hle'))
    ·have hok:JOk j:=⟨hl0,by omega,by rw[<-hjr.b];omega⟩
     have hE0:jobE j=0:=by unfold jobE;rw[if_neg (λh=>h hl0),if_neg (λh=>h.elim hb0 (λh=>hb (by rw[hjr.b];exact h)))]
     rw[hE0,if_neg (λh=>h rfl)]at hE1
     have hlen71:=hnr.le
     have hbl:bks.length=x.toNat:=by omega
     have hV70:M b70=none:=by
      cases hm:M b70 with
      |none=>rfl
      |some o=>rw[hlen71 _ _ (hle2 _ _ (hM1 _ _ hm))]at hb70;cases hb70
     have hTs2:=((hTs.le hle2).le hlen71).add (j:=j) (x:=y) (b:=b70) (by omega) (by omega) (by rw[hbl];exact hj) (by rw[hbl];exact hy) hok hjr.b rfl hV70 hb70
     have hle72:M71.le M72:=by rw[hM72];exact Mem.add_le hb70
     have e1:(x+1).toNat=x.toNat+1:=by omega
     refine⟨by omega,inI_big (by omega) (by omega),(),⟨by omega,by omega,hM1.trans (hle2.trans (hlen71.trans hle72)),by rw[e1];exact hE1,λi j' hi hj'=>?_,bks++[b70],gs++[none],by rw[List.length_append,hrn];rfl,by rw[List.length_append];simp;omega,by rw[hrx,<-cl_snoc];rfl,by rw[hM72];exact hTs2⟩,by show ll-(x+1).toNat<ll-x.toNat;omega⟩
     by_cases hix:(i:Int)<x
     ·exact hoks i j' hix hj'
     ·rw[show i=x.toNat by omega,hj]at hj'
      cases hj';exact hok
  ·have hx:x.toNat=js.length:=by omega
   rw[hx,List.drop_length,jobsE1]at hE1
   replace h2:=h2 hE1.symm
   have hok:∀(i:Nat) j,js[i]?=some j->JOk j:=λi j hj=>hoks i j (by have:=(List.getElem?_eq_some_iff.1 hj).1;omega) hj
   have hbl:bks.length=js.length:=by omega
   subst hrn hrx
   obtain⟨sn,rfl⟩:∃sn:Nat,s=sn:=⟨s.toNat,by omega⟩
   obtain⟨rnn,rfl⟩:∃rn:Nat,r=rn:=⟨r.toNat,by omega⟩
   rw[Int.toNat_natCast,Int.toNat_natCast]at h2
   have hpw0:∀i,i<bks.length->pwAt js sn i 0=0:=λi _=>by unfold pwAt;split<;>rfl
   refine⟨Unit,λ_ t M'=>0<=t/\t<=rnn/\M.le M'/\∃gs,Ts M M' js xs bks (λi=>pwAt js sn i t.toNat) gs,λ_ t=>rnn-t.toNat,(),⟨by omega,by omega,hM1,gs,hTs.same hpw0⟩,λ_ t M2 ⟨t0,tr,hM2,gs2,hTs2⟩=>⟨λhlt=>?_,λhge=>?_⟩⟩
   ·have e1:(t+1).toNat=t.toNat+1:=by omega
    refine⟨Unit,λ_ k M'=>0<=k/\k<=bks.length/\M.le M'/\∃gs,Ts M M' js xs bks (λi=>if (i:Int)<k then pwAt js sn i (t.toNat+1) else pwAt js sn i t.toNat) gs,λ_ k=>bks.length-k.toNat,(),⟨by omega,by omega,hM2,gs2,hTs2.same λi _=>by rw[if_neg (by omega)]⟩,λ_ k M3 ⟨k0,kl,hM3,gs3,hTs3⟩=>⟨λhltk=>?_,λhgek=>?_⟩⟩
    ·obtain⟨bk,hbk⟩:=getI (l:=bks) k0 hltk
     have gl3:=hTs3.gl
     obtain⟨j,hj⟩:=getN (l:=js) (i:=k.toNat) (by omega)
     obtain⟨y,hy⟩:=getN (l:=xs) (i:=k.toNat) (by omega)
     obtain⟨go,hgo⟩:=getN (l:=gs3) (i:=k.toNat) (by omega)
     have htk:=hTs3.tk _ j y bk go hj hy hbk hgo
     have hpk:(if ((k.toNat:Nat):Int)<k then pwAt js sn k.toNat (t.toNat+1) else pwAt js sn k.toNat t.toNat)=j.pw sn t.toNat:=by rw[if_neg (by omega),pwAt_some hj]
     simp only[hpk]at htk
     have hok':=hok _ j hj
     have hple:=Jb.pw_le (j:=j) sn t.toNat
     refine⟨k0,hltk,some ⟨bk,0,none⟩,cl_Cs pC_len hbk,s_jobs_task_over _ _ _ _ (over_is htk hple hok' λM4 hle4=>⟨_,rfl,λhno=>?_,λhyes=>?_⟩)⟩
     ·have hno':¬(j.T.length<=j.pw sn t.toNat\/j.b.toNat=j.pw sn t.toNat):=λh=>hno (decide_eq_true h)
      have hTs4:=hTs3.le hle4
      refine s_jobs_task_work _ _ _ _ _ (work_is (hM3.trans hle4) hok' ((hJ.row _ _ _ hj hy)) (htk.keep λb o hb _=>hle4 b o hb) (by omega) (by omega) (s:=sn) (by omega) (by omega) (λb hb=>.inr hb) λM5 go' hV5 hk5 _ htk5 hg5=>⟨rfl,?_⟩)
      unfold S_jobs_Run_J2
      have hTs5:=hTs4.work (P':=λi=>if (i:Int)<k+1 then pwAt js sn i (t.toNat+1) else pwAt js sn i t.toNat) hbl (by omega) hj hy hbk hgo hk5 (by
       have e:(if ((k.toNat:Nat):Int)<k+1 then pwAt js sn k.toNat (t.toNat+1) else pwAt js sn k.toNat t.toNat)=j.pw sn t.toNat+min sn (j.b.toNat-j.pw sn t.toNat):=by
        rw[if_pos (by omega),pwAt_some hj,Jb.pw,if_neg hno']
       simp only[e];exact htk5) hg5 λi hi=>by
        by_cases h:(i:Int)<k
        ·rw[if_pos (by omega),if_pos h]
        ·rw[if_neg (by omega),if_neg h]
      exact⟨inI_big (by omega) (by omega),(),⟨by omega,by omega,hV5,_,hTs5⟩,by show bks.length-(k+1).toNat<bks.length-k.toNat;omega⟩
     ·have hy':j.T.length<=j.pw sn t.toNat\/j.b.toNat=j.pw sn t.toNat:=of_decide_eq_true (Decidable.not_not.1 hyes)
      unfold S_jobs_Run_J2
      refine⟨inI_big (by omega) (by omega),(),⟨by omega,by omega,hM3.trans hle4,gs3,(hTs3.le hle4).same λi hi=>?_⟩,by show bks.length-(k+1).toNat<bks.length-k.toNat;omega⟩
      by_cases h:(i:Int)<k
      ·rw[if_pos (by omega),if_pos h]
      ·by_cases h':(i:Int)<k+1
       ·rw[if_pos h',if_neg h]
        have:i=k.toNat:=by omega
        rw[this,pwAt_some hj,pwAt_some hj,Jb.pw,if_pos hy']
       ·rw[if_neg h',if_neg h]
    ·refine⟨inI_big (by omega) (by omega),(),⟨by omega,by omega,hM3,gs3,hTs3.same λi hi=>?_⟩,by show rnn-(t+1).toNat<rnn-t.toNat;omega⟩
     rw[if_pos (by omega),e1]
   ·have ht:t.toNat=rnn:=by omega
    rw[ht]at hTs2
    refine⟨λk rn rx=>0<=k/\k<=bks.length/\∃ys,rn=ys.length/\(ys.length:Int)=k/\rx=cl X_api_State.cells ys/\∀(i:Nat) j y,js[i]?=some j->ys[i]?=some y->StR M2 j (j.pw sn rnn) y,λk _ _=>bks.length-k.toNat,⟨by omega,by omega,[],rfl,rfl,rfl,λi j y _ h=>by simp at h⟩,λk rn rx ⟨k0,kl,ys,hrn,hyk,hrx,hst⟩=>⟨λhltk=>?_,λhgek M6 A6 c6 hnr M7 hle7=>?_⟩⟩
    ·obtain⟨bk,hbk⟩:=getI (l:=bks) k0 hltk
     have gl2:=hTs2.gl
     obtain⟨j,hj⟩:=getN (l:=js) (i:=k.toNat) (by omega)
     obtain⟨y,hy⟩:=getN (l:=xs) (i:=k.toNat) (by omega)
     obtain⟨go,hgo⟩:=getN (l:=gs2) (i:=k.toNat) (by omega)
     obtain⟨_,fa,fc,hb2,hrow,_⟩:=hTs2.tk _ j y bk go hj hy hbk hgo
     rw[pwAt_some hj]at hb2 hrow
     have hylen:ys.length=k.toNat:=by omega
     refine⟨k0,hltk,some ⟨bk,0,none⟩,cl_Cs pC_len hbk,bk,0,rfl,(tkC j y (j.pw sn rnn) fa fc).State,(At.blk hb2).part 4 _ rfl,by omega,inI_big (by omega) (by omega),⟨by omega,by omega,ys++[(tkC j y (j.pw sn rnn) fa fc).State],by rw[List.length_append,hrn];rfl,by rw[List.length_append];simp;omega,by rw[hrx,cl_snoc],λi j' y' hj' hy'=>?_⟩,by show bks.length-(k+1).toNat<bks.length-k.toNat;omega⟩
     by_cases hi:i<ys.length
     ·rw[List.getElem?_append_left hi]at hy'
      exact hst i j' y' hj' hy'
     ·rw[List.getElem?_append_right (by omega)]at hy'
      have hi0:i-ys.length=0:=by
       have:=(List.getElem?_eq_some_iff.1 hy').1
       simpa using this
      rw[hi0]at hy'
      simp only[List.getElem?_cons_zero,Option.some.injEq]at hy'
      rw[show i=k.toNat by omega,hj]at hj'
      cases hj'
      subst hy'
      exact⟨rfl,hrow.slv,rfl,rfl⟩
    ·have hyl:ys.length=ll:=by omega
     subst hrn hrx
     have:=h2 M7 A6 c6 ys (hM2.trans (hnr.le.trans hle7)) (by rw[<-hyl];exact hnr.slv.le hle7) hyl λi j y hj hy=>(hst i j y hj hy).mono (hnr.le.trans hle7)
     rw[hyl];exact this
 exact⟨λh=>j1 _ (by symm;exact decide_eq_true (.inl h)),λh=>⟨λh'=>j1 _ (by symm;exact decide_eq_true (.inr (.inl (by omega)))),λh'=>⟨λh''=>j1 _ (by symm;exact decide_eq_true (.inr (.inr (.inl h'')))),λh''=>j1 _ (by rw[decide_eq_decide];omega)⟩⟩⟩
end
section
variable {M:Mem} {js:List Jb} {xs:List X_api_Job} {la:Option Addr} {ll lc:Nat}
theorem Jb.pw_stop {j:Jb} {s:Nat}:∀{t u:Nat},t<=u->(j.T.length<=j.pw s t\/j.b.toNat=j.pw s t)->j.pw s u=j.pw s t
 |t,0,h,_=>by rw[Nat.le_zero.1 h]
 |t,u+1,h,hs=>by
  by_cases e:t=u+1
  ·rw[e]
  ·have ih:=Jb.pw_stop (s:=s) (t:=t) (u:=u) (by omega) hs
   rw[Jb.pw,ih,if_pos hs]
theorem jobs1_at:∀{js:List Jb} {i:Nat} {j:Jb},js[i]?=some j->jobsE1 (js.drop i)=if jobE j≠0 then jobE j else jobsE1 (js.drop (i+1)):=λ{js i j} h=>by
 rw[drop_get h,jobsE1]
theorem rjobs_is (hJ:JobsR M js xs la ll lc) (s r:Int) (K:Value->Mem->Prop)
  (h1:jobsE js s r≠0->∀M',M.le M'->K (.tuple #[.slice none 0 0,.int .i64 (jobsE js s r)]) M')
  (h2:jobsE js s r=0->∀M' A cap ys,M.le M'->SlV M' A ll cap 4 (cl X_api_State.cells ys)->ys.length=ll->(∀(i:Nat) j y,js[i]?=some j->ys[i]?=some y->StR M' j (j.pw s.toNat r.toNat) y)->K (.tuple #[.slice A ll cap,.int .i64 0]) M'):
  S_chaffref_Jobs la ll lc s r M K:=by
 have hjl:=hJ.jl
 have hxl:=hJ.xl
 unfold S_chaffref_Jobs
 unfold jobsE at h1 h2
 refine⟨λh8 M' hle=>?_,λh8=>?_⟩
 ·rw[if_pos (by omega)]at h1;exact h1 (by decide) M' hle
 rw[if_neg (by omega)]at h1 h2
 have j1:∀v:Bool,v=decide (s<1\/1000<s\/r<0\/1000<r)->S_chaffref_Jobs_J1 la ll s r M v K:=by
  intro v hv
  unfold S_chaffref_Jobs_J1
  refine⟨λht M' hle=>?_,λhf=>?_⟩
  ·rw[if_pos (of_decide_eq_true (hv▸ht))]at h1;exact h1 (by decide) M' hle
  have hin:¬(s<1\/1000<s\/r<0\/1000<r):=λh=>hf (by rw[hv,decide_eq_true h])
  rw[if_neg hin]at h1 h2
  refine⟨λx=>0<=x/\x<=ll/\jobsE1 (js.drop x.toNat)=jobsE1 js/\(∀(i:Nat) j,(i:Int)<x->js[i]?=some j->JOk j),λx=>ll-x.toNat,⟨by omega,by omega,rfl,λi j h=>by omega⟩,λx ⟨x0,xl,hE1,hoks⟩=>⟨λhlt=>?_,λhge=>?_⟩⟩
  ·obtain⟨j,y,b,o,hj,hy,ha,hat,hjr⟩:=hJ.at x0 hlt
   rw[jobs1_at hj]at hE1
   have e1:(x+1).toNat=x.toNat+1:=by omega
   refine⟨b,o,ha,x0,hlt,y,hat,s_chaffref_Listable _ _ _ _ _ _ _ (rlistable_is hjr.gr y.Alpha y.N _ ⟨_,rfl,λhne M' hle=>?_,λhe=>?_⟩)⟩
   ·rw[hjr.al,hjr.n]at hne ⊢
    have e:jobE j=listP j.rs j.al j.n:=by unfold jobE;rw[if_pos hne]
    rw[e,if_pos hne]at hE1
    rw[hE1]
    exact h1 (by rw[<-hE1];exact hne) M' hle
   ·have h0:=Decidable.not_not.1 he
    rw[hjr.al,hjr.n]at h0
    have j2:∀v:Bool,v=decide (j.b<0\/1048576<j.b)->S_chaffref_Jobs_J2 M x (λx=>0<=x/\x<=ll/\jobsE1 (js.drop x.toNat)=jobsE1 js/\(∀(i:Nat) j,(i:Int)<x->js[i]?=some j->JOk j)) (λx=>ll-x.toNat) v K:=by
     intro v hv
     unfold S_chaffref_Jobs_J2
     refine⟨λht M' hle=>?_,λhf=>?_⟩
     ·have e:jobE j=1:=by unfold jobE;rw[if_neg (λh=>h h0),if_pos (of_decide_eq_true (hv▸ht))]
      rw[e,if_pos (by decide)]at hE1
      rw[<-hE1]at h1
      exact h1 (by decide) M' hle
     ·have hnb:¬(j.b<0\/1048576<j.b):=λh=>hf (by rw[hv,decide_eq_true h])
      have e:jobE j=0:=by unfold jobE;rw[if_neg (λh=>h h0),if_neg hnb]
      rw[e,if_neg (λh=>h rfl)]at hE1
      refine⟨inI_big (by omega) (by omega),⟨by omega,by omega,by rw[e1];exact hE1,λi j' hi hj'=>?_⟩,by show ll-(x+1).toNat<ll-x.toNat;omega⟩
      by_cases hix:(i:Int)<x
      ·exact hoks i j' hix hj'
      ·rw[show i=x.toNat by omega,hj]at hj'
       cases hj';exact jobE_ok e
    rw[hjr.b]
    exact⟨λhb=>j2 _ (by symm;exact decide_eq_true (.inl hb)),λhb=>j2 _ (by rw[decide_eq_decide];omega)⟩
  ·have hx:x.toNat=js.length:=by omega
   rw[hx,List.drop_length,jobsE1]at hE1
   replace h2:=h2 hE1.symm
   have hok:∀(i:Nat) j,js[i]?=some j->JOk j:=λi j hj=>hoks i j (by have:=(List.getElem?_eq_some_iff.1 hj).1;omega) hj
   obtain⟨sn,rfl⟩:∃sn:Nat,s=sn:=⟨s.toNat,by omega⟩
   obtain⟨rnn,rfl⟩:∃rn:Nat,r=rn:=⟨r.toNat,by omega⟩
   rw[Int.toNat_natCast,Int.toNat_natCast]at h2
   refine⟨λk rn rx M'=>0<=k/\k<=ll/\M.le M'/\∃ys,rn=ys.length/\(ys.length:Int)=k/\rx=cl X_api_State.cells ys/\∀(i:Nat) j y,js[i]?=some j->ys[i]?=some y->StR M' j (j.pw sn rnn) y,λk _ _=>ll-k.toNat,⟨by omega,by omega,Mem.le.refl _,[],rfl,rfl,rfl,λi j y _ h=>by simp at h⟩,λk rn rx M1 ⟨k0,kl,hM1,ys,hrn,hyk,hrx,hst⟩=>⟨λhlt=>?_,λhge M6 A6 c6 hle6 hsl6 M7 hle7=>?_⟩⟩
   ·obtain⟨j,y,b,o,hj,hy,ha,hat,hjr⟩:=(hJ.le hM1).at k0 hlt
    have hok':=hok _ j hj
    obtain⟨a1,a8,hasc,hn0,hn6,hT5,hT1⟩:=hok'.asc
    have hb0:=hok'.b0
    have hb1:=hok'.b1
    have hTl:j.T.length=geo j.al.length (j.n.toNat+1):=by unfold Jb.T;exact words_len _ _
    refine⟨b,o,ha,k0,hlt,y,hat,s_chaffref_Many _ _ _ _ (rmany_is (by rw[hjr.al];exact a8) (by rw[hjr.n];exact hn0) (by rw[hjr.n];exact hn6) _ _ ⟨_,rfl,?_⟩)⟩
    rw[hjr.al,hjr.n,<-hTl]
    have hms:∀t:Nat,t<=1000->t*sn<=1000000:=λt ht=>by
     have h1:t*sn<=1000*sn:=Nat.mul_le_mul_right _ ht
     have h2:1000*sn<=1000*1000:=Nat.mul_le_mul_left _ (by omega)
     omega
    let I:Int->Int->Prop:=λt l=>0<=t/\t<=rnn/\j.pw sn t.toNat=min j.b.toNat (t.toNat*sn)/\l=j.b-(min j.b.toNat (t.toNat*sn):Nat)
    let mu:Int->Int->Nat:=λt _=>rnn-t.toNat
    have j3:∀(t l:Int) (v:Bool),I t l->(v=true↔t<rnn/\t.toNat*sn<j.T.length/\0<l)->S_chaffref_Jobs_J3 sn k rn rx M1 (λk rn rx M'=>0<=k/\k<=ll/\M.le M'/\∃ys,rn=ys.length/\(ys.length:Int)=k/\rx=cl X_api_State.cells ys/\∀(i:Nat) j y,js[i]?=some j->ys[i]?=some y->StR M' j (j.pw sn rnn) y) (λk _ _=>ll-k.toNat) y t l I mu v K:=by
     rintro t l v ⟨t0,tr,hpw,hl⟩ hv
     have e1:(t+1).toNat=t.toNat+1:=by omega
     have hm:=hms t.toNat (by omega)
     have hm1:(t.toNat+1)*sn=t.toNat*sn+sn:=by rw[Nat.add_mul,Nat.one_mul]
     have hts:t*(sn:Int)=((t.toNat*sn:Nat):Int):=by push_cast;rw[show((t.toNat:Nat):Int)=t by omega]
     generalize hq:t.toNat*sn=q at*
     unfold S_chaffref_Jobs_J3
     refine⟨λht=>?_,λhf=>?_⟩
     ·obtain⟨v1,v2,v3⟩:=hv.1 ht
      have hif:(if (sn:Int)<l then(sn:Int) else l)=((min sn (j.b.toNat-q):Nat):Int):=by rw[hl];split<;>omega
      rw[hif]
      refine⟨inI_big (by omega) (by omega),inI_big (by omega) (by omega),⟨by omega,by omega,?_,?_⟩,by show rnn-(t+1).toNat<rnn-t.toNat;omega⟩
      ·rw[e1,Jb.pw,hpw,if_neg (by omega),hm1];omega
      ·rw[e1,hm1,hl];omega
     ·have hnv:¬(t<rnn/\q<j.T.length/\0<l):=λh=>hf (hv.2 h)
      have hpr:j.pw sn rnn=min j.b.toNat q:=by
       rw[<-hpw]
       by_cases htr:t.toNat=rnn
       ·rw[htr]
       ·exact Jb.pw_stop (by omega) (by rw[hpw];omega)
      have hif:(if ((q:Nat):Int)<y.Budget then((q:Nat):Int) else y.Budget)=((min j.b.toNat q:Nat):Int):=by rw[hjr.b];split<;>omega
      rw[hts,hif]
      refine⟨inI_big (by omega) (by omega),?_⟩
      rw[<-Jb.cur_zero hok']
      obtain⟨hE,hO⟩:=Jb.step hok' (p:=0) (m:=min j.b.toNat q) (by omega) (by omega)
      rw[List.drop_zero,Nat.zero_add]at hO
      refine s_chaffref_List _ _ _ _ _ _ _ _ _ (rlist_is hjr.gr y.Alpha y.N _ _ _ (λh=>absurd (by rw[hjr.al,hjr.n];exact hE) h) λ_ M2 A cap hle2 hsl=>?_)
      rw[hjr.al,hjr.n,hO]at hsl ⊢
      dsimp only at hsl ⊢
      have hfd:(j.T.take (min j.b.toNat q)).filter (accP j.rs)=j.found (j.pw sn rnn):=by rw[hpr];rfl
      rw[hfd]at hsl
      rw[hfd,<-hpr]
      refine⟨_,_,_,_,_,rfl,by omega,inI_big (by omega) (by omega),⟨by omega,by omega,hM1.trans hle2,ys++[⟨A,(j.found (j.pw sn rnn)).length,cap,j.cur (j.pw sn rnn),l⟩],by rw[List.length_append,hrn];rfl,by rw[List.length_append];simp;omega,by rw[hrx,cl_snoc],λi j' y' hj' hy'=>?_⟩,by show ll-(k+1).toNat<ll-k.toNat;omega⟩
      by_cases hi:i<ys.length
      ·rw[List.getElem?_append_left hi]at hy'
       exact(hst i j' y' hj' hy').mono hle2
      ·rw[List.getElem?_append_right (by omega)]at hy'
       have hi0:i-ys.length=0:=by
        have:=(List.getElem?_eq_some_iff.1 hy').1
        simpa using this
       rw[hi0]at hy'
       simp only[List.getElem?_cons_zero,Option.some.injEq]at hy'
       rw[show i=k.toNat by omega,hj]at hj'
       cases hj'
       subst hy'
       exact⟨rfl,hsl,rfl,by show l=_;rw[hl,hpr]⟩
    refine⟨I,mu,⟨by omega,by omega,?_,?_⟩,λt l hI=>?_⟩
    ·rw[Int.toNat_zero,Nat.zero_mul,Nat.min_zero];rfl
    ·rw[hjr.b,Int.toNat_zero,Nat.zero_mul,Nat.min_zero];omega
    ·have hm:=hms t.toNat (by have:=hI.2.1;have:=hI.1;omega)
     have hts:t*(sn:Int)=((t.toNat*sn:Nat):Int):=by push_cast;rw[show((t.toNat:Nat):Int)=t by have:=hI.1;omega]
     rw[hts]
     refine⟨λhtr=>⟨inI_big (by omega) (by omega),λhT=>j3 t l _ hI (by rw[decide_eq_true_iff];exact⟨λh=>⟨htr,by omega,h⟩,λh=>h.2.2⟩),λhT=>j3 t l _ hI ⟨(λh=>by cases h),λh=>absurd h.2.1 (by omega)⟩⟩,λhtr=>j3 t l _ hI ⟨(λh=>by cases h),λh=>absurd h.1 htr⟩⟩
   ·have hyl:ys.length=ll:=by omega
    subst hrn hrx
    have:=h2 M7 A6 c6 ys (hM1.trans (hle6.trans hle7)) (by rw[<-hyl];exact hsl6.le hle7) hyl λi j y hj hy=>(hst i j y hj hy).mono (hle6.trans hle7)
    rw[hyl];exact this
 exact⟨λh=>j1 _ (by symm;exact decide_eq_true (.inl h)),λh=>⟨λh'=>j1 _ (by symm;exact decide_eq_true (.inr (.inl (by omega)))),λh'=>⟨λh''=>j1 _ (by symm;exact decide_eq_true (.inr (.inr (.inl h'')))),λh''=>j1 _ (by rw[decide_eq_decide];omega)⟩⟩⟩
end
end Go.Proofs.YtmnilbfhfjdelaaGreat.core

