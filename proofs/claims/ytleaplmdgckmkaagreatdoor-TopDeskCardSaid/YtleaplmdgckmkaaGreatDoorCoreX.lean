/- Contracts of functions: what each answers at every input that its caller may hand it. No condition. -/
import Derived.RangeFuncNested
import Derived.RangeFuncBound
import Derived.RangeFuncCalls
import Derived.RangeFuncLeaves
import Derived.RangeFuncWrites
import Derived.RangeFuncBox
import Derived.Shelf.Abstract
import Derived.WalkKit
import Derived.OwnWalkIn
import Derived.TacticsInMore
import Derived.LoopNIn
import Derived.LoopIn
import Derived.Maps.OwnIn
import Derived.Maps.AppendAt
import Derived.StringKeys
import Derived.Test.YtleaplmdgckmkaaGreatDoorM2
import Derived.Test.YtleaplmdgckmkaaGreatDoorWfSX
namespace Go.Proofs.YtleaplmdgckmkaaGreatDoor.core
open Go.Gx Go.RowKit Go.ChangeShapes Go.WideShapes Go.ChangeAt
set_option linter.unusedVariables false
inductive Ex where
 |mk (kind:Int) (set:qab) (text:List UInt8) (kids:List Ex)
def Ex.kind:Ex->Int| .mk k _ _ _=>k
def Ex.set:Ex->qab| .mk _ s _ _=>s
def Ex.text:Ex->List UInt8| .mk _ _ t _=>t
def Ex.kids:Ex->List Ex| .mk _ _ _ ks=>ks
theorem Ex.kid_lt {e k:Ex} (h:k∈e.kids):SizeOf.sizeOf k<SizeOf.sizeOf e:=by
 cases e with
 |mk a s t ks=>
  have:=List.sizeOf_lt_of_mem h
  simp only[Ex.kids]at*
  simp only[Ex.mk.sizeOf_spec]
  omega
inductive ExR (M:Mem):Ex->qaa->Prop where
 |mk {k:Int} {s:qab} {t:List UInt8} {A:Option Addr} {c:Nat} {ks:List Ex} {xs:List qaa} (hk:(Lit.int .i64 k).wf=true) (hs:wfS s) (ht:t.length<=maxLen)
   (hv:SlV M A ks.length c 7 (cl qaa.cells xs)) (hl:xs.length=ks.length) (hks:∀(i:Nat) e x,ks[i]?=some e->xs[i]?=some x->ExR M e x):ExR M (.mk k s t ks) ⟨k,s,t,A,ks.length,c⟩
theorem ExR.le {M M':Mem} {e:Ex} {x:qaa} (h:ExR M e x) (hl:M.le M'):ExR M' e x:=by
 induction h with
 |mk hk hs ht hv hl' _ ih=>exact .mk hk hs ht (hv.le hl) hl' ih
structure ExK (M:Mem) (e:Ex) (x:qaa) (xs:List qaa):Prop where
 kind:x.Kind=e.kind
 set:x.Set=e.set
 text:x.Text=e.text
 len:x.Kids_l=e.kids.length
 hk:(Lit.int .i64 e.kind).wf=true
 hs:wfS e.set
 ht:e.text.length<=maxLen
 sl:SlV M x.Kids_a x.Kids_l x.Kids_c 7 (cl qaa.cells xs)
 xl:xs.length=e.kids.length
 kids:qcX (ExR M) e.kids xs
theorem ExR.open {M:Mem} {e:Ex} {x:qaa} (h:ExR M e x):∃xs,ExK M e x xs:=by
 cases h with
 |mk hk hs ht hv hl hks=>exact⟨_,rfl,rfl,rfl,rfl,hk,hs,ht,hv,hl,qcX.of hl hks⟩
theorem ExR.shut {M:Mem} {e:Ex} {x:qaa} {xs:List qaa} (h:ExK M e x xs):ExR M e x:=by
 obtain⟨k,s,t,ks⟩:=e
 obtain⟨k',s',t',A,l,c⟩:=x
 obtain⟨h1,h2,h3,h4,h5,h6,h7,h8,h9,h10⟩:=h
 simp only[Ex.kind,Ex.set,Ex.text,Ex.kids]at h1 h2 h3 h4 h5 h6 h7 h8 h9 h10
 subst h1 h2 h3 h4
 exact .mk h5 h6 h7 h8 h9 λi e x he hx=>h10.get' he hx
theorem qqx (x:qaa):x.cells.length=7:=rfl
theorem ExK.kid {M:Mem} {e:Ex} {x:qaa} {xs:List qaa} (h:ExK M e x xs) {i:Nat} {k:Ex} (hk:e.kids[i]?=some k):∃b o y,x.Kids_a=some ⟨b,o,none⟩/\At M b (o+i*7) y.cells/\ExR M k y/\xs[i]?=some y:=by
 obtain⟨y,hy,hr⟩:=h.kids.get hk
 obtain⟨b,o,ha,hat⟩:=h.sl.at qqx (by rw[h.xl,h.len]) hy
 exact⟨b,o,y,ha,hat,hr,hy⟩
def ql2 (c:UInt8):Bool:=(97<=c.toNat&&c.toNat<=122)||(65<=c.toNat&&c.toNat<=90)
def qqf (c:UInt8):Bool:=48<=c.toNat&&c.toNat<=57
def okC (i:Nat) (c:UInt8):Bool:=ql2 c||(i != 0&&qqf c)
def qc2 (s:List UInt8):Bool:=1<=s.length&&s.length<=8&&decide (∀i,i<s.length->okC i (s[i]?.getD 0)=true)
theorem or32:∀n:Nat,n<256->((decide (bOr .u8 (n:Int) 32>=97)&&decide (bOr .u8 (n:Int) 32<=122))=((decide (97<=n)&&decide (n<=122))||(decide (65<=n)&&decide (n<=90)))):=by
 decide+kernel
theorem qsJ (c:UInt8):(decide (bOr .u8 (c.toNat:Int) 32>=97)&&decide (bOr .u8 (c.toNat:Int) 32<=122))=ql2 c:=or32 c.toNat c.toNat_lt
theorem qpL {s:List UInt8} {i:Nat} {c:UInt8} (hc:s[i]?=some c) (h:okC i c=false):qc2 s=false:=by
 have hi:=(List.getElem?_eq_some_iff.1 hc).1
 unfold qc2
 have:¬∀i,i<s.length->okC i (s[i]?.getD 0)=true:=λhall=>by
  have:=hall i hi
  simp[hc]at this
  rw[this]at h;cases h
 rw[decide_eq_false this,Bool.and_false]
theorem qrg {s:List UInt8} (h:∀(j:Nat) c,s[j]?=some c->okC j c=true):qc2 s=(decide (1<=s.length)&&decide (s.length<=8)):=by
 unfold qc2
 have:∀i,i<s.length->okC i (s[i]?.getD 0)=true:=λi hi=>by
  obtain⟨c,hc⟩:=qgo hi
  simp[hc,h i c hc]
 rw[decide_eq_true this,Bool.and_true]
theorem qny (s:List UInt8) (hm:s.length<=maxLen) (M:Mem) (K:Value->Prop) (h:K (.bool (qc2 s))):qgI s M K:=by
 have key:∀b,b=qc2 s->K (.bool b):=λb e=>e▸h
 unfold maxLen at hm
 have j1:∀b:Bool,(b=true->¬(1<=s.length/\s.length<=8))->(b=false->1<=s.length/\s.length<=8)->qcH s b K:=by
  intro b h1 h2
  refine⟨λhb=>key _ ?_,λhb=>?_⟩
  ·have:=h1 hb
   unfold qc2
   by_cases a:1<=s.length
   ·have:¬s.length<=8:=λq=>this ⟨a,q⟩
    simp[this]
   ·simp[a]
  obtain⟨hl1,hl8⟩:=h2 (by simpa using hb)
  refine⟨λi=>0<=i/\i<=s.length/\∀(j:Nat) c,(j:Int)<i->s[j]?=some c->okC j c=true,λi=>s.length-i.toNat,⟨by omega,by omega,λj c hj=>by omega⟩,λi ⟨h0,h1,h2⟩=>⟨λhlt=>?_,λhge=>key _ ?_⟩⟩
  ·obtain⟨c,hc⟩:=getI (l:=s) h0 hlt
   have j3:∀b:Bool,b= !(okC i.toNat c)->qbM i (λi=>0<=i/\i<=s.length/\∀(j:Nat) c,(j:Int)<i->s[j]?=some c->okC j c=true) (λi=>s.length-i.toNat) b K:=by
    intro b hb
    refine⟨λe=>key _ ?_,λe=>⟨by unfold InI;omega,⟨by omega,by omega,λj d hj hd=>?_⟩,by dsimp only;omega⟩⟩
    ·rw[qpL hc (by rw[e]at hb;simpa using hb.symm)]
    ·by_cases q:(j:Int)=i
     ·have:i.toNat=j:=by omega
      rw[this]at hc hb
      rw[hd]at hc;cases hc
      cases b
      ·simpa using hb.symm
      ·exact absurd rfl e
     ·exact h2 j d (by omega) hd
   have j2:∀b:Bool,b=ql2 c->qcG s i (λi=>0<=i/\i<=s.length/\∀(j:Nat) c,(j:Int)<i->s[j]?=some c->okC j c=true) (λi=>s.length-i.toNat) b K:=by
    intro b hb
    refine⟨λe=>⟨λhz=>j3 _ ?_,λhz=>⟨c,h0,hc,λhlt=>j3 _ ?_,λhge=>⟨c,h0,hc,j3 _ ?_⟩⟩⟩,λe=>j3 _ ?_⟩
    ·have:ql2 c=false:=by rw[<-hb];simpa using e
     simp[okC,this,show i.toNat=0 by omega]
    ·have:ql2 c=false:=by rw[<-hb];simpa using e
     have:qqf c=false:=by unfold qqf;simp;omega
     simp[okC, *]
    ·have:ql2 c=false:=by rw[<-hb];simpa using e
     have hz':(i.toNat != 0)=true:=by simp;omega
     simp only[okC,this,hz',qqf,Bool.false_or,Bool.true_and]
     rw[Bool.eq_iff_iff]
     simp;omega
    ·have:ql2 c=true:=by rw[<-hb];simpa using e
     simp[okC,this]
   refine⟨c,h0,hc,λhge=>⟨c,h0,hc,j2 _ ?_⟩,λhlt2=>j2 _ ?_⟩
   ·rw[<-qsJ c];simp[hge]
   ·rw[<-qsJ c];simp;omega
  ·rw[qrg (λj c hc=>h2 j c (by have:=(List.getElem?_eq_some_iff.1 hc).1;omega) hc)];simp[hl1,hl8]
 refine⟨λe=>j1 _ (λ_=>by subst e;simp) (λe=>by cases e),λhne=>j1 _ (λhb=>?_) (λhb=>?_)⟩
 ·simp at hb;omega
 ·have:0<s.length:=List.length_pos_iff.2 hne
  simp at hb;omega
def zs (s:qab):Bool:=qaF [s.w0,s.w1,s.w2,s.w3] [0,0,0,0]
def qhr (x:qaa):Bool:=
 if x.Kind=1 then x.Kids_l==0&&decide (x.Text=[])&&zs x.Set
 else if x.Kind=2 then x.Kids_l==0&&decide (x.Text=[])
 else if x.Kind=3 then x.Kids_l==0&&zs x.Set&& !decide (x.Text=[])&&decide (x.Text.length<=12)
 else if x.Kind=4 then x.Kids_l==0&&zs x.Set&&qc2 x.Text
 else if x.Kind=5\/x.Kind=6 then decide (x.Text=[])&&zs x.Set&&decide (2<=x.Kids_l)&&decide (x.Kids_l<=8)
 else if 7<=x.Kind/\x.Kind<=11 then decide (x.Text=[])&&zs x.Set&&x.Kids_l==1
 else false
theorem qtM (x:qaa) (hm:x.Text.length<=maxLen) (M:Mem) (K:Value->Prop) (h:K (.bool (qhr x))):qhT x M K:=by
 have key:∀b,b=qhr x->K (.bool b):=λb e=>e▸h
 have j6:∀(low high:Int) (b:Bool),((!b)&&(decide (low<=x.Kids_l)&&decide ((x.Kids_l:Int)<=high)))=qhr x->qa9 x low high b K:=by
  intro low high b e
  refine⟨λhb=>key _ ?_,λhb=>⟨λh1=>key _ ?_,λh1=>key _ ?_⟩⟩<;>rw[<-e]<;>simp_all
  intros;omega
 have j5:∀(low high:Int),((decide (x.Kind=3)||decide (x.Kind=4)||decide (x.Text=[]))&&(decide (x.Kind=2)||zs x.Set)&&(decide (low<=x.Kids_l)&&decide ((x.Kids_l:Int)<=high)))=qhr x->qbr x low high K:=by
  intro low high e
  have e':qaF [x.Set.w0,x.Set.w1,x.Set.w2,x.Set.w3] [0,0,0,0]=zs x.Set:=rfl
  unfold qbr
  rw[e']
  refine⟨λh1=>⟨λh2=>⟨λh3=>j6 _ _ _ ?_,λh3=>⟨λh4=>j6 _ _ _ ?_,λh4=>j6 _ _ _ ?_⟩⟩,λh2=>⟨λh4=>j6 _ _ _ ?_,λh4=>j6 _ _ _ ?_⟩⟩,λh2=>⟨λh4=>j6 _ _ _ ?_,λh4=>j6 _ _ _ ?_⟩⟩<;>rw[<-e]<;>simp_all
 have fx:∀v,(match v with|true=>qhr x=true|false=>qhr x=false)->qhr x=v:=λv h=>by cases v<;>exact h
 have c0:(decide ((0:Int)<=x.Kids_l)&&decide ((x.Kids_l:Int)<=0))=(x.Kids_l==0):=by rw[Bool.eq_iff_iff];simp<;>omega
 have c1:(decide ((1:Int)<=x.Kids_l)&&decide ((x.Kids_l:Int)<=1))=(x.Kids_l==1):=by rw[Bool.eq_iff_iff];simp<;>omega
 have c2:(decide ((2:Int)<=x.Kids_l)&&decide ((x.Kids_l:Int)<=8))=(decide (2<=x.Kids_l)&&decide (x.Kids_l<=8)):=by rw[Bool.eq_iff_iff];simp;omega
 have j3:∀b:Bool,x.Kind≠1->x.Kind≠2->x.Kind≠3->x.Kind≠4->(b=decide (x.Kind=5\/x.Kind=6))->qdd x b K:=by
  intro b n1 n2 n3 n4 hb
  have j4:∀b:Bool,¬(x.Kind=5\/x.Kind=6)->(b=decide (7<=x.Kind/\x.Kind<=11))->qbJ x b K:=by
   intro b n56 hb
   refine⟨λe=>j5 _ _ ?_,λe=>key _ ?_⟩
   ·rw[c1];have:7<=x.Kind/\x.Kind<=11:=by rw[e]at hb;exact of_decide_eq_true hb.symm
    unfold qhr;rw[if_neg n1,if_neg n2,if_neg n3,if_neg n4,if_neg n56,if_pos this];simp[n2,n3,n4]
   ·have:¬(7<=x.Kind/\x.Kind<=11):=λq=>e (by rw[hb];exact decide_eq_true q)
    unfold qhr;rw[if_neg n1,if_neg n2,if_neg n3,if_neg n4,if_neg n56,if_neg this]
  refine⟨λe=>j5 _ _ ?_,λe=>?_⟩
  ·rw[c2];have:x.Kind=5\/x.Kind=6:=by rw[e]at hb;exact of_decide_eq_true hb.symm
   unfold qhr;rw[if_neg n1,if_neg n2,if_neg n3,if_neg n4,if_pos this];simp[n2,n3,n4,Bool.and_assoc]
  ·have n56:¬(x.Kind=5\/x.Kind=6):=λq=>e (by rw[hb];exact decide_eq_true q)
   refine⟨λe=>j4 _ n56 ?_,λe=>⟨λe=>j4 _ n56 ?_,λe=>⟨λe=>j4 _ n56 ?_,λe=>⟨λe=>j4 _ n56 ?_,λe=>j4 _ n56 ?_⟩⟩⟩⟩<;>rw[Bool.eq_iff_iff]<;>simp<;>omega
 have j1:∀b:Bool,(b=decide (x.Kind=1\/x.Kind=2))->qdf x M b K:=by
  intro b hb
  refine⟨λe=>j5 _ _ ?_,λe=>?_⟩
  ·rw[c0];have:x.Kind=1\/x.Kind=2:=by rw[e]at hb;exact of_decide_eq_true hb.symm
   unfold qhr
   rcases this with q|q
   ·rw[if_pos q];simp[q];rw[Bool.eq_iff_iff];simp;exact⟨λ⟨⟨a,b⟩,c⟩=>⟨⟨c,a⟩,b⟩,λ⟨⟨c,a⟩,b⟩=>⟨⟨a,b⟩,c⟩⟩
   ·rw[if_neg (by omega),if_pos q];simp[q];rw[Bool.and_comm]
  ·have n12:¬(x.Kind=1\/x.Kind=2):=λq=>e (by rw[hb];exact decide_eq_true q)
   have n1:x.Kind≠1:=λq=>n12 (.inl q)
   have n2:x.Kind≠2:=λq=>n12 (.inr q)
   refine⟨λq=>?_,λn3=>⟨λq=>?_,λn4=>⟨λq=>j3 _ n1 n2 n3 n4 (by simp[q]),λq=>j3 _ n1 n2 n3 n4 (by rw[Bool.eq_iff_iff];simp;omega)⟩⟩⟩
   ·have hf:qhr x=(x.Kids_l==0&&zs x.Set&& !decide (x.Text=[])&&decide (x.Text.length<=12)):=by unfold qhr;rw[if_neg n1,if_neg n2,if_pos q]
    have j2:∀b:Bool,(b= !(!decide (x.Text=[])&&decide (x.Text.length<=12)))->qde x b K:=by
     intro b hb
     refine⟨λe=>key _ ?_,λe=>j5 _ _ ?_⟩
     ·rw[hf];cases h1:decide (x.Text=[])<;>cases h2:decide (x.Text.length<=12)<;>simp_all
     ·rw[hf,c0];cases h1:decide (x.Text=[])<;>cases h2:decide (x.Text.length<=12)<;>simp_all
      rw[Bool.and_comm]
    refine⟨λe=>j2 _ (by simp[e]),λe=>j2 _ ?_⟩
    rw[Bool.eq_iff_iff];simp[e];omega
   ·have hf:qhr x=(x.Kids_l==0&&zs x.Set&&qc2 x.Text):=by unfold qhr;rw[if_neg n1,if_neg n2,if_neg n3,if_pos q]
    refine qiN _ _ _ (qny _ hm _ _ ⟨_,rfl,λe=>key _ ?_,λe=>j5 _ _ ?_⟩)
    ·rw[hf];have:qc2 x.Text=false:=by simpa using e
     simp[this]
    ·rw[hf,c0];have:qc2 x.Text=true:=by simpa using e
     simp[this,q];rw[Bool.and_comm]
 exact⟨λe=>j1 _ (by simp[e]),λe=>j1 _ (by rw[Bool.eq_iff_iff];simp;omega)⟩
mutual
def lkE (d n:Int):Ex->Int×Int
 | .mk k s t ks=>if n+1>60 then(2,n+1) else if d>12 then(5,n+1) else if qhr ⟨k,s,t,none,ks.length,0⟩=false then(3,n+1) else qkp (d+1) (n+1) ks
def qkp (d n:Int):List Ex->Int×Int
 |[]=>(0,n)
 |k::ks=>if (lkE d n k).1≠0 then lkE d n k else qkp d (lkE d n k).2 ks
end
mutual
theorem qsF:∀(e:Ex) (d n:Int),0<=n->n<=60->n<=(lkE d n e).2/\(lkE d n e).2<=61/\((lkE d n e).1=0->(lkE d n e).2<=60)
 | .mk k s t ks,d,n,h0,h1=>by
  unfold lkE
  split
  ·exact⟨by simp only;omega,by simp only;omega,λh=>by cases h⟩
  ·split
   ·exact⟨by simp only;omega,by simp only;omega,λh=>by cases h⟩
   ·split
    ·exact⟨by simp only;omega,by simp only;omega,λh=>by cases h⟩
    ·have:=qpR ks (d+1) (n+1) (by omega) (by omega)
     exact⟨by omega,this.2⟩
theorem qpR:∀(es:List Ex) (d n:Int),0<=n->n<=60->n<=(qkp d n es).2/\(qkp d n es).2<=61/\((qkp d n es).1=0->(qkp d n es).2<=60)
 |[],d,n,h0,h1=>by unfold qkp;exact⟨by simp only;omega,by simp only;omega,λ_=>by simp only;omega⟩
 |k::ks,d,n,h0,h1=>by
  have h:=qsF k d n h0 h1
  unfold qkp
  split
  ·exact h
  ·rename_i hz
   have hz:(lkE d n k).1=0:=by simpa using hz
   have:=qpR ks d (lkE d n k).2 (by omega) (h.2.2 hz)
   exact⟨by omega,this.2⟩
end
theorem qoI {x:qaa} {e:Ex} {xs:List qaa} {M:Mem} (h:ExK M e x xs):qhr x=qhr ⟨e.kind,e.set,e.text,none,e.kids.length,0⟩:=by
 unfold qhr zs
 rw[h.kind,h.set,h.text,h.len]
theorem qp8 {x:qaa} (h:qhr x=true):x.Kids_l<=8:=by
 unfold qhr at h
 split at h
 ·simp at h;omega
 ·split at h
  ·simp at h;omega
  ·split at h
   ·simp at h;omega
   ·split at h
    ·simp at h;omega
    ·split at h
     ·simp at h;omega
     ·split at h
      ·simp at h;omega
      ·cases h
theorem qpQ:∀(m:Nat) (e:Ex),SizeOf.sizeOf e<m->∀(x:qaa) (M:Mem) (d n:Int) (K:Value->Int->Mem->Prop),ExR M e x->0<=d->d<=13->0<=n->n<=60->
  (∀M',M.le M'->K (.int .i64 (lkE d n e).1) (lkE d n e).2 M')->qbL x d n M K:=by
 intro m
 induction m with
 |zero=>intro e h;omega
 |succ m ih=>
  intro e hm x M d n K hR hd hd2 hn hn2 hK
  obtain⟨xs,hx⟩:=hR.open
  refine qg1 _ _ _ _ _ ?_
  unfold qdc
  have hE:lkE d n e=if n+1>60 then(2,n+1) else if d>12 then(5,n+1) else if qhr x=false then(3,n+1) else qkp (d+1) (n+1) e.kids:=by
   obtain⟨k,s,t,ks⟩:=e
   rw[qoI hx]
   rfl
  refine⟨by unfold InI;omega,λh1=>?_,λh1=>⟨λh2=>?_,λh2=>?_⟩⟩
  ·rw[if_pos h1]at hE;rw[hE]at hK;exact hK M (Mem.le.refl M)
  ·rw[if_neg h1,if_pos h2]at hE;rw[hE]at hK;exact hK M (Mem.le.refl M)
  rw[if_neg h1,if_neg h2]at hE
  refine qos _ _ _ (qtM x (by rw[hx.text];exact hx.ht) _ _ ⟨_,rfl,λhf=>?_,λhf=>?_⟩)
  ·have hf:qhr x=false:=by simpa using hf
   rw[if_pos hf]at hE;rw[hE]at hK;exact hK M (Mem.le.refl M)
  have hf:qhr x=true:=by simpa using hf
  rw[if_neg (by simp[hf])]at hE
  have hn3:n+1<=60:=by omega
  have hall:=qpR e.kids (d+1) (n+1) (by omega) hn3
  have hlen:x.Kids_l=e.kids.length:=hx.len
  refine⟨λi c M'=>M.le M'/\0<=i/\i<=x.Kids_l/\0<=c/\c<=60/\qkp (d+1) c (e.kids.drop i.toNat)=qkp (d+1) (n+1) e.kids,λi _=>x.Kids_l-i.toNat,⟨Mem.le.refl M,by omega,by omega,by omega,by omega,rfl⟩,λi c M' ⟨hle,h0,hi,hc0,hc,heq⟩=>⟨λhlt=>?_,λhge=>?_⟩⟩
  ·obtain⟨k,hk⟩:=getI (l:=e.kids) h0 (by omega)
   obtain⟨b,o,y,ha,hat,hy,_⟩:=hx.kid hk
   refine⟨b,o,ha,h0,hlt,y,hat.le hle,by unfold InI;omega,?_⟩
   have hsz:=Ex.kid_lt (List.mem_of_getElem? hk)
   have hk2:=qsF k (d+1) c hc0 hc
   rw[qaW hk,qkp]at heq
   refine ih k (by omega) y M' (d+1) c _ (hy.le hle) (by omega) (by omega) hc0 hc λM2 hle2=>⟨_,rfl,λhne=>?_,λhe=>?_⟩
   ·rw[if_pos hne]at heq
    rw[hE,<-heq]at hK;exact hK M2 (hle.trans hle2)
   ·have he:(lkE (d+1) c k).1=0:=by simpa using he
    rw[if_neg (by omega)]at heq
    refine⟨by unfold InI;have:=hx.sl.max;omega,⟨hle.trans hle2,by omega,by omega,by omega,hk2.2.2 he,?_⟩,by dsimp only;omega⟩
    rw[<-heq];congr 2;omega
  ·have:i.toNat=e.kids.length:=by omega
   rw[this,List.drop_length,qkp]at heq
   rw[<-heq]at hE
   rw[hE]at hK;exact hK M' hle
mutual
def qsx (d:Int):Ex->List (Ex×Int)
 | .mk k s t ks=>(.mk k s t ks,d)::(if d<=12/\ks.length<=8 then qpA (d+1) ks else[])
def qpA (d:Int):List Ex->List (Ex×Int)
 |[]=>[]
 |k::ks=>qsx d k++qpA d ks
end
def qnu (e:Ex):Bool:=qhr ⟨e.kind,e.set,e.text,none,e.kids.length,0⟩
def qdv (e:Ex):Int:=(lkE 1 0 e).1
theorem qlM (e:Ex) (x:qaa) (M:Mem) (K:Value->Prop) (hR:ExR M e x) (hK:K (.int .i64 (qdv e))):qex x M K:=by
 unfold qex
 exact qpQ _ e (Nat.lt_succ_self _) x M 1 0 _ hR (by omega) (by omega) (by omega) (by omega) λM' _=>⟨_,rfl,hK⟩
open Go.Shelf Go.Proofs
attribute [local go_sem] Oper.semAt_some
structure KpE (n₀:Nat) (A B:World):Prop where
 bel:Below n₀ A B
 ex:∀(k:Nat) (cs:Array Value) (m:_),A.heap[k]?=some (.cells cs 50 m)->B.heap[k]?=some (.cells cs 50 m)
theorem KpE.refl (n₀:Nat) (A:World):KpE n₀ A A:=⟨Below.refl _ _,λ_ _ _ h=>h⟩
theorem KpE.trans {n₀:Nat} {A B C:World} (h:KpE n₀ A B) (k:KpE n₀ B C):KpE n₀ A C:=⟨h.bel.trans k.bel,λi cs m q=>k.ex i cs m (h.ex i cs m q)⟩
theorem KpE.alloc {n₀:Nat} {A B:World} (h:KpE n₀ A B) (hn:n₀<=A.heap.size) (o:Obj):KpE n₀ A (B.alloc o):=
 ⟨h.bel.alloc (Nat.le_trans hn h.bel.size) o,λi cs m q=>by have:=h.ex i cs m q;rwa [Below.heap_alloc _ _ _ (Array.getElem?_eq_some_iff.1 this).1]⟩
theorem qpd {j:Nat} (h:j<9223372036854775807):wrap64 ((j:Int)+1)=((j+1:Nat):Int):=by
 unfold wrap64;omega
theorem qum {j m:Nat} (h:j<m):m-(j+1)<m-j:=by omega
mutual
def qa5:Ex->List Ex
 | .mk k s t ks=>.mk k s t ks::qaO ks
def qaO:List Ex->List Ex
 |[]=>[]
 |k::ks=>qa5 k++qaO ks
end
theorem qmC (ks:List Ex) (i:Nat) (k:Ex) (h:ks[i]?=some k):qaO (ks.take (i+1))=qaO (ks.take i)++qa5 k:=by
 induction ks generalizing i with
 |nil=>simp at h
 |cons a r ih=>
  cases i with
  |zero=>simp at h;subst h;simp[qaO]
  |succ i=>rw[List.take_succ_cons,List.take_succ_cons,qaO,qaO,ih i (by simpa using h),List.append_assoc]
theorem qoH (a b:List Ex):qaO (a++b)=qaO a++qaO b:=by
 induction a with
 |nil=>simp[qaO]
 |cons x r ih=>simp[qaO,ih]
theorem On.keep {V:Mem} {n₀:Nat} (hV:∀b o,V b=some o->b<n₀) {A B:World} (h:On V A) (hk:Below n₀ A B):On V B:=λb o q=>(hk.block b (hV b o q)).trans (h b o q)
abbrev XT:={x:qaa // x.Text.length<=maxLen}
def ExT (V:Mem) (e:Ex) (x:XT):Prop:=ExR V e x.1
set_option maxRecDepth 100000 in
set_option maxHeartbeats 2000000 in
theorem qt0 (l n₀ N:Nat) (V:Mem) (hV:∀b o,V b=some o->b<n₀) (J Jx:List XT->World->Prop) (hJ:∀s W W',J s W->W.grownBy W' none->J s W')
  (hY:∀m pre x W,J pre W->pre.length<N->YieldAt Fence.wide m Tryz.prog l #[x.1.val] W λe W'=>
   (e= .returned (.bool true)/\J (pre++[x]) W'/\KpE n₀ W W')\/(e= .returned (.bool false)/\Jx (pre++[x]) W'))
  (t:Ex):∀(n:Nat) (x:qaa) (pre:List XT) (W:World) (hR:ExR V t x) (hon:On V W) (hn:n₀<=W.heap.size) (h0:J pre W) (hl:pre.length+(qa5 t).length<=N),
  CallsIn Fence.wide n Tryz.prog 111 #[x.val,.func (.yield l) #[] #[]] W λe W'=>
   (e= .returned (.bool true)/\(∃xs,qcX (ExT V) (qa5 t) xs/\J (pre++xs) W')/\KpE n₀ W W')\/(e= .returned (.bool false)/\∃q,Jx q W'):=by
 induction h:SizeOf.sizeOf t using Nat.strongRecOn generalizing t with
 |_ sz ih=>
 subst h
 intro n x pre W hR hon hn h0 hl
 have hR0:=hR
 obtain⟨ys,hE⟩:=hR.open
 have hfl:(qa5 t).length=1+(qaO t.kids).length:=by obtain⟨a,b,c,d⟩:=t;simp[qa5,Ex.kids];omega
 have hxT:x.Text.length<=maxLen:=by rw[hE.text];exact hE.ht
 have hy0:=hY (n-1) pre ⟨x,hxT⟩ (W.alloc (.cells x.cells.toArray 50)) (hJ _ _ _ h0 (World.grownBy_alloc W _ none)) (by omega)
 obtain⟨fn,tmps,assign,body,hy,hRd⟩:=hy0
 have hRd:=hRd.mono (R':=λe W'=>(e= .returned (.bool true)/\J (pre++[⟨x,hxT⟩]) W'/\KpE n₀ W W'/\W'.cell? ⟨W.heap.size,6,none⟩=some (.slice x.Kids_a x.Kids_l x.Kids_c))\/(e= .returned (.bool false)/\Jx (pre++[⟨x,hxT⟩]) W')) (by
  rintro e W' (⟨h1,h2,h3⟩|h)
  ·refine .inl ⟨h1,h2,((KpE.refl n₀ W).alloc hn _).trans h3,?_⟩
   have:=h3.ex W.heap.size x.cells.toArray (0,0) (World.alloc_heap_new W _)
   simp[World.cell?,this,qaa.cells]
  ·exact .inr h)
 refine callsIn_of_wp Tryz.func111 rfl trivial ?_ rfl
 obtain⟨k,⟨s0,s1,s2,s3⟩,tx,ka,kl,kc⟩:=x
 obtain rfl:kl=t.kids.length:=hE.len
 simp only[Tryz.ntmps111,qaa.val,qaa.cells,List.size_toArray,List.length_cons,List.length_nil,Nat.reduceAdd,Nat.reduceSub,Array.replicate_succ,Array.replicate_zero,List.push_toArray,List.append_toArray,List.nil_append,List.cons_append]at hy hRd ⊢
 gi_wp2
 refine⟨λh=>(by cases h),hRd.mono ?_⟩
 rintro e W1 (⟨rfl,hJ1,hk1,c6⟩|⟨rfl,hJx1⟩)
 ·gi_wp2
  gi_loopw [14] (λi wr=>∃j:Nat,i= .int .i64 j/\j<=t.kids.length/\(∃xs,qcX (ExT V) (t::qaO (t.kids.take j)) xs/\J (pre++xs) wr)/\KpE n₀ W wr)
   (λi _=>t.kids.length-(intOf i).toNat)
  case atStart=>exact⟨0,rfl,Nat.zero_le _,⟨[⟨_,hxT⟩],⟨_,_,rfl,(show ExT V t ⟨_,hxT⟩ from hR0),by simp[qaO,qcX]⟩,hJ1⟩,hk1⟩
  case round=>
   obtain⟨j,rfl,hj,⟨xs,hxs,hJs⟩,hks⟩:=hrel
   by_cases hlt:j<t.kids.length
   ·have hkid:t.kids[j]?=some (t.kids[j]'(by omega)):=List.getElem?_eq_getElem (by omega)
    obtain⟨b,o,y,hA,hat,hRy,_⟩:=hE.kid hkid
    simp only at hA
    subst hA
    have hon2:=On.keep hV hon hks.bel
    obtain⟨k',⟨s0',s1',s2',s3'⟩,tx',ka',kl',kc'⟩:=y
    have l0:wr.cell? ⟨b,o+j*7,none⟩=some (.int .i64 k'):=hon2.cell (hat 0 _ rfl)
    have l1:wr.cell? ⟨b,o+j*7+1,none⟩=some (.int .u64 s0'):=hon2.cell (hat 1 _ rfl)
    have l2:wr.cell? ⟨b,o+j*7+2,none⟩=some (.int .u64 s1'):=hon2.cell (hat 2 _ rfl)
    have l3:wr.cell? ⟨b,o+j*7+3,none⟩=some (.int .u64 s2'):=hon2.cell (hat 3 _ rfl)
    have l4:wr.cell? ⟨b,o+j*7+4,none⟩=some (.int .u64 s3'):=hon2.cell (hat 4 _ rfl)
    have l5:wr.cell? ⟨b,o+j*7+5,none⟩=some (.string (mkS tx')):=hon2.cell (hat 5 _ rfl)
    have l6:wr.cell? ⟨b,o+j*7+6,none⟩=some (.slice ka' kl' kc'):=hon2.cell (hat 6 _ rfl)
    have hlen:(qaO (t.kids.take (j+1))).length<=(qaO t.kids).length:=by
     have:=qoH (t.kids.take (j+1)) (t.kids.drop (j+1))
     rw[List.take_append_drop]at this
     rw[this,List.length_append];omega
    have hsn:=qmC t.kids j _ hkid
    have hxl:=hxs.length
    simp only[List.length_cons]at hxl
    have hsz:n₀<=wr.heap.size:=Nat.le_trans hn hks.bel.size
    gi_wp2
    refine⟨trivial,λh=>(by cases h),?_⟩
    refine(ih _ (Ex.kid_lt (List.mem_of_getElem? hkid)) (t.kids[j]'(by omega)) rfl (n-1) _ (pre++xs) _ hRy (On.keep hV hon2 ((KpE.refl n₀ wr).alloc hsz _).bel) (by simp;omega) (hJ _ _ _ hJs (World.grownBy_alloc wr _ none))
     (by rw[List.length_append,hxl];rw[hsn,List.length_append]at hlen;omega)).mono ?_
    have hw:wrap64 ((j:Int)+1)=((j+1:Nat):Int):=qpd (Nat.lt_of_lt_of_le hlt hE.sl.max)
    rintro e W2 (⟨rfl,⟨zs,hzs,hJ2⟩,hk2⟩|⟨rfl,q,hJx2⟩)
    ·gi_wp2
     rw[hw]
     go_roundw
     case rel=>
      refine⟨j+1,rfl,hlt,⟨xs++zs,?_,?_⟩,(hks.alloc hn _).trans hk2⟩
      ·rw[hsn];exact hxs.append hzs
      ·rw[<-List.append_assoc];exact hJ2
     case measure=>
      simp[intOf]
      exact qum hlt
    ·gi_wp2
     refine bodyPost_ret (results_tmp rfl _ _ _) rfl ?_
     exact .inr ⟨rfl,q,hJx2⟩
   ·obtain rfl:j=t.kids.length:=by omega
    gi_wp2
    refine bodyPost_ret (results_tmp rfl _ _ _) rfl ?_
    refine .inl ⟨rfl,⟨xs,?_,hJs⟩,hks⟩
    rw[List.take_length]at hxs
    have:qa5 t=t::qaO t.kids:=by obtain⟨a,b,c,d⟩:=t;rw[qa5];rfl
    rw[this];exact hxs
 ·gi_wp2
  refine bodyPost_ret (results_tmp rfl _ _ _) rfl ?_
  exact .inr ⟨rfl,_,hJx1⟩
theorem YieldAt.deep {m:Nat} (m':Nat) {P:Program} {l:Nat} {args:Array Value} {W:World} {R:Ending->World->Prop} (h:YieldAt Fence.wide m P l args W R):YieldAt Fence.wide m' P l args W R:=by
 obtain⟨fn,tmps,assign,body,hy,hR⟩:=h
 exact⟨fn,tmps,assign,body,hy,hR.1,λc cs _=>hR.2 c cs (room_wide _)⟩
set_option maxHeartbeats 1000000 in
theorem qs7 (l n₀ N:Nat) (V:Mem) (hV:∀b o,V b=some o->b<n₀) (J Jx:List XT->World->Prop) (hJ:∀s W W',J s W->W.grownBy W' none->J s W')
  (hY:∀m pre x W,J pre W->pre.length<N->YieldAt Fence.wide m Tryz.prog l #[x.1.val] W λe W'=>
   (e= .returned (.bool true)/\J (pre++[x]) W'/\KpE n₀ W W')\/(e= .returned (.bool false)/\Jx (pre++[x]) W'))
  (t:Ex) (n:Nat) (x:qaa) (B:Nat) (W:World) (hB:W.heap[B]?=some (.cells x.cells.toArray 50 (0,0))) (hR:ExR V t x) (hon:On V W) (hn:n₀<=W.heap.size) (h0:J [] W) (hl:(qa5 t).length<=N):
  CallsIn Fence.wide n Tryz.prog 110 #[.func (.yield l) #[] #[],.pointer (some ⟨B,0,none⟩)] W λe W'=>(∃v,e= .returned v)/\
   ((∃xs,qcX (ExT V) (qa5 t) xs/\J xs W')\/(∃q,True/\Jx q W')):=by
 have hc:=qt0 l n₀ N V hV J Jx hJ hY t (n-1) x [] W hR hon hn h0 (by simpa using hl)
 have c0:∀i,W.cell? ⟨B,i,none⟩=x.cells[i]?:=λi=>by simp[World.cell?,hB]
 obtain⟨k,⟨s0,s1,s2,s3⟩,tx,ka,kl,kc⟩:=x
 have l0:W.cell? ⟨B,0,none⟩=some (.int .i64 k):=c0 0
 have l1:W.cell? ⟨B,1,none⟩=some (.int .u64 s0):=c0 1
 have l2:W.cell? ⟨B,2,none⟩=some (.int .u64 s1):=c0 2
 have l3:W.cell? ⟨B,3,none⟩=some (.int .u64 s2):=c0 3
 have l4:W.cell? ⟨B,4,none⟩=some (.int .u64 s3):=c0 4
 have l5:W.cell? ⟨B,5,none⟩=some (.string (mkS tx)):=c0 5
 have l6:W.cell? ⟨B,6,none⟩=some (.slice ka kl kc):=c0 6
 clear c0
 refine callsIn_of_wp Tryz.func110 rfl trivial ?_ rfl
 simp only[Tryz.ntmps110,qaa.val,qaa.cells,List.size_toArray,List.length_cons,List.length_nil,Nat.reduceAdd,Nat.reduceSub,Array.replicate_succ,Array.replicate_zero,List.push_toArray,List.append_toArray,List.nil_append,List.cons_append]at hc ⊢
 gi_wp2
 refine⟨trivial,λh=>(by cases h),hc.mono ?_⟩
 rintro e W1 (⟨rfl,⟨xs,hxs,hJ1⟩,_⟩|⟨rfl,q,hx⟩)
 ·gi_wp2
  go_end0
  exact⟨⟨_,rfl⟩,.inl ⟨xs,hxs,hJ1⟩⟩
 ·gi_wp2
  go_end0
  exact⟨⟨_,rfl⟩,.inr ⟨q,trivial,hx⟩⟩
set_option maxHeartbeats 1000000 in
theorem qtZ (n:Nat) (x:qaa) (w:World):
  CallsIn Fence.wide n Tryz.prog 69 #[x.val] w λe w'=>e= .returned (.func (.func 110) #[] #[.pointer (some ⟨w.heap.size,0,none⟩)])/\w'=w.alloc (.cells x.cells.toArray 50):=by
 refine callsIn_of_wp Tryz.func69 rfl trivial ?_ rfl
 obtain⟨k,⟨s0,s1,s2,s3⟩,tx,ka,kl,kc⟩:=x
 simp only[Tryz.ntmps69,qaa.val,qaa.cells,List.size_toArray,List.length_cons,List.length_nil,Nat.reduceAdd,Nat.reduceSub,Array.replicate_succ,Array.replicate_zero,List.push_toArray,List.append_toArray,List.nil_append,List.cons_append]
 gi_wp2
 go_ret
 exact⟨rfl,rfl⟩
theorem qqv (n:Nat) (V:Mem) (n₀:Nat) (hV:∀b o,V b=some o->b<n₀) (t:Ex) (x:qaa) (B:Nat) (w:World) (hB:w.heap[B]?=some (.cells x.cells.toArray 50 (0,0))) (hR:ExR V t x) (hon:On V w) (hn:n₀<=w.heap.size):
  SeqStopsK Fence.wide n Tryz.prog 110 #[.pointer (some ⟨B,0,none⟩)] (λx:XT=> #[x.1.val]) (KpE n₀) (λxs=>qcX (ExT V) (qa5 t) xs) (λ_=>True) (qa5 t).length w:=λl J Jx W hW hJ _ hY h0=>
 qs7 l n₀ _ V hV J Jx (λs A B' hs hg=>hJ s A B' none hs hg (λr e=>by cases e)) (λm pre x W1 hj hl=>YieldAt.deep m (hY pre x W1 hj hl)) t n x B W ((hW.block B (Array.getElem?_eq_some_iff.1 hB).1).trans hB) hR (On.keep hV hon (hW.mono hn)) (Nat.le_trans hn hW.size) h0 (Nat.le_refl _)
theorem KpE.put {n₀:Nat} {A:World} {l:Nat} {o o':Obj} (hn:n₀<=l) (hl:A.heap[l]?=some o) (ho:o.isCells=false) (hw:o.isWalk=false):KpE n₀ A (A.putObj l o'):=by
 have hlt:=(Array.getElem?_eq_some_iff.1 hl).1
 refine⟨(Below.refl n₀ A).grown (grownBy_putObj' A l o') (by omega) (λk e=>by cases e;exact hn),λk cs m h=>?_⟩
 have hne:k≠l:=by rintro rfl;rw[h]at hl;cases hl;simp[Obj.isCells]at ho
 exact((grownBy_putObj' A l o').block k (Array.getElem?_eq_some_iff.1 h).1 (by simpa using hne)).trans h
def sv (s:List UInt8):Value:=.string (mkS s)
def qd7 (acc:List (List UInt8)) (x:XT):List (List UInt8):=if x.1.Kind=4/\x.1.Text∉acc then acc++[x.1.Text] else acc
def qd6 (xs:List XT):List (List UInt8):=xs.foldl qd7 []
theorem qjO (pre:List XT) (x:XT):qd6 (pre++[x])=qd7 (qd6 pre) x:=by simp[qd6]
def qoo (l:List (List UInt8)):DataW Unit:=l.foldl (λD s=>D.put (.string s) (.lit (.int .i64 1))) (.map [])
theorem qon (l:List (List UInt8)) (s:List UInt8):qoo (l++[s])=(qoo l).put (.string s) (.lit (.int .i64 1)):=by simp[qoo]
theorem qpE (pre:List XT):(qd6 pre).length<=pre.length:=by
 have:∀(l:List XT) (acc:List (List UInt8)),(l.foldl qd7 acc).length<=acc.length+l.length:=by
  intro l
  induction l with
  |nil=>intro acc;simp
  |cons x r ih=>
   intro acc
   have:=ih (qd7 acc x)
   have h2:(qd7 acc x).length<=acc.length+1:=by unfold qd7;split<;>simp
   simp only[List.foldl_cons,List.length_cons];omega
 simpa[qd6]using this pre []
theorem KpE.grown {n₀:Nat} {A B:World} {row:Option Nat} (hg:A.grownBy B row) (hn:n₀<=A.heap.size) (hrow:∀j,row=some j->n₀<=j/\∀cs m,A.heap[j]?≠some (.cells cs 50 m)):KpE n₀ A B:=
 ⟨(Below.refl n₀ A).grown hg hn (λk e=>(hrow k e).1),λk cs m h=>(hg.block k (Array.getElem?_eq_some_iff.1 h).1 (λe=>(hrow k e.symm).2 cs m h)).trans h⟩
theorem qm5 (s:List UInt8) (z:DataW Unit):∀(l:List (List UInt8)) (D:DataW Unit),Maps.IsMap D->(l.foldl (λD s=>D.put (.string s) (.lit (.int .i64 1))) D).atKey (.string s) z=if s∈l then .lit (.int .i64 1) else D.atKey (.string s) z
 |[],D,_=>by simp
 |a::r,D,hD=>by
  rw[List.foldl_cons,qm5 s z r _ (hD.put _ _)]
  by_cases hr:s∈r
  ·simp[hr]
  ·rw[if_neg hr]
   by_cases ha:s=a
   ·subst ha;rw[if_pos (by simp),Maps.atKey_put_same hD (by simp[WideAt.IsKeyLit])]
   ·rw[if_neg (by simp[ha,hr]),Maps.atKey_put_other (by simpa using ha)]
theorem qsq (l:List (List UInt8)) (s:List UInt8):(qoo l).atKey (.string s) (.lit (.int .i64 0))= .lit (.int .i64 (if s∈l then 1 else 0)):=by
 rw[qoo,qm5 s _ l _ ⟨[],rfl⟩]
 split<;>rfl
theorem qtn {W:World} {base e size k t:Nat} {v:Value} {xs:List Value} (h:W.ownsRow base e size v k xs) (ht:e≠t):∀j,v.ownBlock=some j->base<=j/\∀cs m,W.heap[j]?≠some (.cells cs t m):=λj e'=>by
 rcases h.2 with⟨rfl,_⟩|⟨g,cap,cur,rfl,hb,hgb,_⟩
 ·simp[Value.ownBlock]at e'
 ·obtain rfl:g=j:=by simpa[Value.ownBlock]using e'
  refine⟨hb,λcs m h=>?_⟩
  rw[h]at hgb;cases hgb;exact ht rfl
theorem qqY {W:World} {base base' e size k:Nat} {v:Value} {xs:List Value} (h:W.ownsRow base e size v k xs) (hb:base'<=base):W.ownsRow base' e size v k xs:=by
 refine⟨h.1,?_⟩
 rcases h.2 with q|⟨g,cap,cur,rfl,hg,rest⟩
 ·exact .inl q
 ·exact .inr ⟨g,cap,cur,rfl,Nat.le_trans hb hg,rest⟩
def qeC (acc:List (List UInt8)) (e:Ex):List (List UInt8):=if e.kind=4/\e.text∉acc then acc++[e.text] else acc
def qeB (t:Ex):List (List UInt8):=(qa5 t).foldl qeC []
theorem qna {V:Mem}:∀(es:List Ex) (xs:List XT) (acc:List (List UInt8)),qcX (ExT V) es xs->xs.foldl qd7 acc=es.foldl qeC acc
 |[],xs,acc,h=>by have:=h.length;simp at this;subst this;rfl
 |e::es,xs,acc,h=>by
  obtain⟨x,r,rfl,hx,hr⟩:=h
  obtain⟨ys,hE⟩:=ExR.open hx
  have:qd7 acc x=qeC acc e:=by unfold qd7 qeC;rw[hE.kind,hE.text]
  rw[List.foldl_cons,List.foldl_cons,this,qna es r _ hr]
theorem qpD {V:Mem} {t:Ex} {xs:List XT} (h:qcX (ExT V) (qa5 t) xs):qd6 xs=qeB t:=qna _ _ _ h
theorem qiQ {W:World} {base e size k b n:Nat} {v:Value} {xs:List Value} {P:Program} {kt:TypeId} {Rr:Value->Option (DataW Unit×List MemPlace)} {D:DataW Unit} (h:W.ownsRow base e size v k xs) (hm:W.ownsMap P kt Rr b n D):some b≠v.ownBlock:=by
 obtain⟨es,ck,hb,_⟩:=hm
 rcases h.2 with⟨rfl,_⟩|⟨g,cap,cur,rfl,_,hgb,_⟩
 ·simp[Value.ownBlock]
 ·intro e'
  obtain rfl:b=g:=by simpa[Value.ownBlock]using e'
  rw[hgb]at hb;cases hb
set_option maxRecDepth 100000 in
set_option maxHeartbeats 2000000 in
theorem qsu (V:Mem) (t:Ex) (x:qaa) (er:Int) (hC:qaf Tryz.prog 45 #[x.val] V (λv _=>v= .int .i64 er)) (hlen:er=0->(qa5 t).length<=60) (w:World) (hon:On V w) (hR:ExR V t x) (R:Ending->World->Prop)
  (hR1:er≠0->∀W,Below w.heap.size w W->R (.returned (.tuple #[.slice none 0 0,.int .i64 er])) W)
  (hR2:er=0->∀W v,Below w.heap.size w W->W.ownsRow w.heap.size 9 1 v (qeB t).length ((qeB t).map sv)->(v= .slice none 0 0↔qeB t=[])->R (.returned (.tuple #[v,.int .i64 0])) W):
  CallsIn Fence.wide 3 Tryz.prog 44 #[x.val] w R:=by
 have hmm:= @run_makeMap Tryz.prog
 have hC':=hC (w.alloc (.cells x.cells.toArray 50)) (On.keep (λb o h=>hon.lt h) hon ((Below.refl _ w).alloc (Nat.le_refl _) _))
 refine callsIn_of_wp_marks Tryz.func44 rfl trivial ?_ rfl
 obtain⟨k,⟨s0,s1,s2,s3⟩,tx,ka,kl,kc⟩:=x
 simp only[Tryz.ntmps44,qaa.val,qaa.cells,List.size_toArray,List.length_cons,List.length_nil,Nat.reduceAdd,Nat.reduceSub,Array.replicate_succ,Array.replicate_zero,List.push_toArray,List.append_toArray,List.nil_append,List.cons_append]at hC' ⊢
 gi_wp2
 refine⟨trivial,(callsIn_wide.2 hC').mono ?_⟩
 rintro e W ⟨v,rfl,hbW,rfl⟩
 have bX:W.heap[w.heap.size]?=some (.cells #[.int .i64 k,.int .u64 s0,.int .u64 s1,.int .u64 s2,.int .u64 s3,.string (mkS tx),.slice ka kl kc] 50 (0,0)):=
  (hbW.block w.heap.size (by simp)).trans (World.alloc_heap_new w _)
 have c0:∀i,W.cell? ⟨w.heap.size,i,none⟩=(#[Value.int .i64 k,.int .u64 s0,.int .u64 s1,.int .u64 s2,.int .u64 s3,.string (mkS tx),.slice ka kl kc]:Array Value)[i]?:=λi=>by simp[World.cell?,bX]
 have l0:W.cell? ⟨w.heap.size,0,none⟩=some (.int .i64 k):=c0 0
 have l1:W.cell? ⟨w.heap.size,1,none⟩=some (.int .u64 s0):=c0 1
 have l2:W.cell? ⟨w.heap.size,2,none⟩=some (.int .u64 s1):=c0 2
 have l3:W.cell? ⟨w.heap.size,3,none⟩=some (.int .u64 s2):=c0 3
 have l4:W.cell? ⟨w.heap.size,4,none⟩=some (.int .u64 s3):=c0 4
 have l5:W.cell? ⟨w.heap.size,5,none⟩=some (.string (mkS tx)):=c0 5
 have l6:W.cell? ⟨w.heap.size,6,none⟩=some (.slice ka kl kc):=c0 6
 clear c0
 have hb1:Below w.heap.size w W:=((Below.refl _ w).alloc (Nat.le_refl _) _).trans (hbW.mono (by simp))
 have hsz:w.heap.size<W.heap.size:=by have:=hbW.size;simp at this;omega
 by_cases her:er=0
 ·subst her
  have hB3:Below W.heap.size W (((W.alloc (.cells #[.slice none 0 0] 33)).alloc (.map #[] 0)).alloc (.cells #[.map (some (W.heap.size+1))] 135)):=(((Below.refl _ W).alloc (Nat.le_refl _) _).alloc (by simp) _).alloc (by simp;omega) _
  have m0:=(hB3.cell (p:=⟨w.heap.size,0,none⟩) hsz).trans l0
  have m1:=(hB3.cell (p:=⟨w.heap.size,1,none⟩) hsz).trans l1
  have m2:=(hB3.cell (p:=⟨w.heap.size,2,none⟩) hsz).trans l2
  have m3:=(hB3.cell (p:=⟨w.heap.size,3,none⟩) hsz).trans l3
  have m4:=(hB3.cell (p:=⟨w.heap.size,4,none⟩) hsz).trans l4
  have m5:=(hB3.cell (p:=⟨w.heap.size,5,none⟩) hsz).trans l5
  have m6:=(hB3.cell (p:=⟨w.heap.size,6,none⟩) hsz).trans l6
  have hmk:=qtZ 2 ⟨k,⟨s0,s1,s2,s3⟩,tx,ka,kl,kc⟩ (((W.alloc (.cells #[.slice none 0 0] 33)).alloc (.map #[] 0)).alloc (.cells #[.map (some (W.heap.size+1))] 135))
  simp only[qaa.val,qaa.cells]at hmk
  gi_wp2
  refine⟨trivial,hmk.mono ?_⟩
  rintro e w' ⟨rfl,rfl⟩
  gi_wp2
  have hw4:((((W.alloc (.cells #[.slice none 0 0] 33)).alloc (.map #[] 0)).alloc (.cells #[.map (some (W.heap.size+1))] 135)).alloc (.cells #[.int .i64 k,.int .u64 s0,.int .u64 s1,.int .u64 s2,.int .u64 s3,.string (mkS tx),.slice ka kl kc] 50)).heap.size=W.heap.size+4:=by simp
  have hB4:=hB3.alloc hB3.size (.cells #[.int .i64 k,.int .u64 s0,.int .u64 s1,.int .u64 s2,.int .u64 s3,.string (mkS tx),.slice ka kl kc] 50)
  refine wpIn_rangeFunc_ownH rfl (by omega) (gf:=110) (lb:= #[.pointer (some ⟨W.heap.size+1+1+1,0,none⟩)]) rfl trivial (enters_of Tryz.func110 (by kernel_rfl) rfl)
   (qqv 2 V W.heap.size (λb o h=>Nat.lt_trans (hon.lt h) hsz) t ⟨k,⟨s0,s1,s2,s3⟩,tx,ka,kl,kc⟩ (W.heap.size+1+1+1) _ (by have:=World.alloc_heap_new (((W.alloc (.cells #[.slice none 0 0] 33)).alloc (.map #[] 0)).alloc (.cells #[.map (some (W.heap.size+1))] 135)) (.cells #[.int .i64 k,.int .u64 s0,.int .u64 s1,.int .u64 s2,.int .u64 s3,.string (mkS tx),.slice ka kl kc] 50);rwa [World.size_alloc,World.size_alloc,World.size_alloc]at this) hR
    (On.keep (λb o h=>hon.lt h) hon (hb1.trans (hB4.mono (Nat.le_of_lt hsz)))) (by rw[hw4];omega))
   (λh k=>h.trans k) (λW' l o o' h1 h2 h3 h4=>KpE.put (by rw[hw4]at h1;omega) h2 h3 h4) (Below.refl _ _) (λ_=>rfl)
   (λpre W'=>(∃v,Boxed W' W.heap.size 33 v/\W'.ownsRow W.heap.size 9 1 v (qd6 pre).length ((qd6 pre).map sv)/\(v= .slice none 0 0↔qd6 pre=[]))/\
    (Boxed W' (W.heap.size+1+1) 135 (.map (some (W.heap.size+1)))/\W'.ownsMap Tryz.prog 9 (plainElem (H:=Unit) Tryz.prog 3) (W.heap.size+1) pre.length (qoo (qd6 pre)))/\Below W.heap.size W W'/\W.heap.size+4<=W'.heap.size)
   (λ_ _ _=>False)
   (OwnFrom.and (Own.from (holdsRow_own W.heap.size W.heap.size 33 9 1 (λpre=>(qd6 pre).length) (λpre=>(qd6 pre).map sv) (λpre v=>v= .slice none 0 0↔qd6 pre=[])) _)
    (OwnFrom.and (λs A B row hs hg hr=>⟨hs.1.kept hg (λe=>by have:=(hr _ e.symm).1;rw[hw4]at this;omega),hs.2.kept hg (λe=>by have:=(hr _ e.symm).1;rw[hw4]at this;omega)⟩) (OwnFrom.and (ownFrom_below (Nat.le_refl _) (by rw[hw4];omega)) (λs A B row hs hg hr=>Nat.le_trans hs hg.size))))
   (λ_ _ _ _ _ hs _ _=>hs)
   ?start
   (λx a' W'=>∃Bx,W.heap.size+3<Bx/\W'.heap[Bx]?=some (.cells x.1.cells.toArray 50 (0,0))/\
    a'={tmps:= #[(⟨k,⟨s0,s1,s2,s3⟩,tx,ka,kl,kc⟩:qaa).val,.pointer (some ⟨w.heap.size,0,none⟩),.slice none 0 0,.int .i64 0,.int .i64 0,.pointer (some ⟨W.heap.size,0,none⟩),.pointer (some ⟨W.heap.size+1+1,0,none⟩),.pointer (some ⟨Bx,0,none⟩),
     (⟨k,⟨s0,s1,s2,s3⟩,tx,ka,kl,kc⟩:qaa).val,.int .i64 0,.int .i64 0,.bool false,undef,.map (some (W.heap.size+1)),(⟨k,⟨s0,s1,s2,s3⟩,tx,ka,kl,kc⟩:qaa).val,.func (.func 110) #[] #[.pointer (some ⟨W.heap.size+1+1+1,0,none⟩)],x.1.val,
     undef,undef,undef,undef,undef,undef,undef,undef,undef,undef,undef,undef,undef,undef,undef,undef,undef,undef,undef],defers:=[]})
   ?ax ?assign ?body ?done ?stop
  case start=>
   have bO:=((((Boxed.new W 33 (.slice none 0 0)).alloc (.map #[] 0)).alloc (.cells #[.map (some (W.heap.size+1))] 135))).alloc (.cells #[.int .i64 k,.int .u64 s0,.int .u64 s1,.int .u64 s2,.int .u64 s3,.string (mkS tx),.slice ka kl kc] 50)
   have bS:=(Boxed.new ((W.alloc (.cells #[.slice none 0 0] 33)).alloc (.map #[] 0)) 135 (.map (some (W.heap.size+1)))).alloc (.cells #[.int .i64 k,.int .u64 s0,.int .u64 s1,.int .u64 s2,.int .u64 s3,.string (mkS tx),.slice ka kl kc] 50)
   have hm0:=((World.ownsMap_made (W.alloc (.cells #[.slice none 0 0] 33)) Tryz.prog 9 (plainElem (H:=Unit) Tryz.prog 3)).alloc (.cells #[.map (some (W.heap.size+1))] 135)).alloc (.cells #[.int .i64 k,.int .u64 s0,.int .u64 s1,.int .u64 s2,.int .u64 s3,.string (mkS tx),.slice ka kl kc] 50)
   rw[World.size_alloc]at hm0
   rw[World.size_alloc,World.size_alloc]at bS
   exact⟨⟨_,bO,World.ownsRow_nil _ _ _ _,by simp[qd6]⟩,⟨bS,hm0⟩,hB4,by rw[hw4];omega⟩
  case ax=>
   intro x' a' u A B row hs hg hr
   obtain⟨Bx,h1,h2,h3⟩:=hs
   refine⟨Bx,h1,(hg.block Bx (Array.getElem?_eq_some_iff.1 h2).1 (λe=>?_)).trans h2,h3⟩
   obtain⟨_,o,ho,hc⟩:=hr Bx e.symm
   rw[h2]at ho;cases ho;simp[Obj.isCells]at hc
  case assign=>
   rintro l pre ⟨⟨k',⟨s0',s1',s2',s3'⟩,tx',ka',kl',kc'⟩,hx'⟩ W' K ⟨⟨v,hv,hrow,hnil⟩,⟨hsb,hown⟩,hB,hzz⟩ hK
   simp only[qaa.val,qaa.cells]
   gi_wp2
   refine hK _ _ ((KeepsOthers.alloc _ _).from _) ((KpE.refl _ W').alloc hB.size _) ⟨⟨v,hv.alloc _,hrow.alloc _,hnil⟩,⟨hsb.alloc _,hown.alloc _⟩,hB.alloc hB.size _,by simp;omega⟩ ⟨W'.heap.size,by omega,World.alloc_heap_new W' _,rfl⟩
  case body=>
   rintro l pre ⟨⟨k',⟨s0',s1',s2',s3'⟩,tx',ka',kl',kc'⟩,hx'⟩ a' W' _ _ ⟨⟨v,hv,hrow,hnil⟩,⟨hsb,hown⟩,hB,hzz⟩ ⟨Bx,hBx,hX,rfl⟩ hlt
   have cX:∀i,W'.cell? ⟨Bx,i,none⟩=(#[Value.int .i64 k',.int .u64 s0',.int .u64 s1',.int .u64 s2',.int .u64 s3',.string (mkS tx'),.slice ka' kl' kc']:Array Value)[i]?:=λi=>by simp[World.cell?,hX,qaa.cells]
   have x0:W'.cell? ⟨Bx,0,none⟩=some (.int .i64 k'):=cX 0
   have x5:W'.cell? ⟨Bx,5,none⟩=some (.string (mkS tx')):=cX 5
   have hcO:=hv.cell
   have hcS:=hsb.cell
   have hkey:keyOf Tryz.prog 9 (.string (mkS tx'))=some (.string tx'):=by
    have:=WideMaps.keyOf_string_mk (P:=Tryz.prog) (k:=9) (by kernel_rfl) (s:=mkS tx') (show(mkS tx').size<=maxLen from hx')
    exact this
   have hpre:pre.length<60:=Nat.lt_of_lt_of_le hlt (hlen trivial)
   have miss:¬(k'=4/\tx'∉qd6 pre)->qd6 (pre++[⟨⟨k',⟨s0',s1',s2',s3'⟩,tx',ka',kl',kc'⟩,hx'⟩])=qd6 pre:=λh=>by rw[qjO,qd7,if_neg h]
   have hit:k'=4/\tx'∉qd6 pre->qd6 (pre++[⟨⟨k',⟨s0',s1',s2',s3'⟩,tx',ka',kl',kc'⟩,hx'⟩])=qd6 pre++[tx']:=λh=>by rw[qjO,qd7,if_pos h]
   have hol:=qpE pre
   obtain⟨c,hrun,hat,hwc⟩:=hown.lookup_int (Maps.string_keyed (by kernel_rfl)) (show Tryz.prog.underlying 135=some (.map 9 3) by kernel_rfl) (show Tryz.prog.underlying 3=some (.int .i64) by kernel_rfl) rfl hkey
   rw[qsq]at hat
   have hc:c=if tx'∈qd6 pre then 1 else 0:=by injection hat with hat;injection hat with _ hat;exact hat.symm
   by_cases hk:k'=4
   ·subst hk
    by_cases hin:tx'∈qd6 pre
    ·obtain rfl:c=1:=by rw[hc,if_pos hin]
     clear hc hwc hat hol hit
     gi_wp2
     exact⟨KeepsFrom.refl _ _,KpE.refl _ _,⟨v,hv,by rw[miss (λh=>h.2 hin)];exact hrow,by rw[miss (λh=>h.2 hin)];exact hnil⟩,⟨hsb,by rw[miss (λh=>h.2 hin)];exact hown.mono (by simp)⟩,hB,hzz⟩
    ·obtain rfl:c=0:=by rw[hc,if_neg hin]
     obtain⟨w1,hup,hown1,hg1⟩:=hown.update (Maps.string_keyed (by kernel_rfl)) (show Tryz.prog.underlying 135=some (.map 9 3) by kernel_rfl) (show pre.length<maxLen by unfold maxLen;omega) (val:=.int .i64 1) hkey (plainElem_int (show Tryz.prog.underlying 3=some (.int .i64) by kernel_rfl) (by decide))
     have hX1:w1.heap[Bx]?=_:=(hg1.block Bx (Array.getElem?_eq_some_iff.1 hX).1 (λe=>by have:=Option.some.inj e;omega)).trans hX
     have y5:w1.cell? ⟨Bx,5,none⟩=some (.string (mkS tx')):=by simp[World.cell?,hX1,qaa.cells]
     have hv1:=hv.kept hg1 (λe=>by have:=Option.some.inj e;omega)
     have hsb1:=hsb.kept hg1 (λe=>by have:=Option.some.inj e;omega)
     have hrow1:=hrow.kept hg1 (.inr (qiQ hrow hown).symm)
     have hcO1:=hv1.cell
     obtain⟨i0,hi,hz0,hz1,hz2⟩:=info_parts (show(Tryz.prog.info? 9).map (λi=>(i.zero,i.size,i.bytes))=some (some (.string (mkS [])),1,16) by kernel_rfl)
     have hB1:W.heap.size<=w1.heap.size:=Nat.le_trans hB.size hg1.size
     clear hc hwc hat miss
     gi_wp2_with (gi_at_builtin;refine wpListIn_append_own _ rfl _ _ 33 rfl W.heap.size 9 i0 (.string (mkS [])) 1 16 (by kernel_rfl) hi hz0 hz1 hz2 rfl (by decide) _ _ _ rfl (hrow1.alloc _) ⟨w1.heap.size,0,none⟩ 1 1 [.string (mkS tx')] rfl rfl (cell_one_new _ _ _) (by simp[Value.oneCell']) (by unfold maxLen;omega) (by omega) (by simp;omega) ?_;intro v' w2 hown' hgrow _;obtain⟨g',cap',rfl⟩:=ownsRow_succ hown';obtain⟨hv2,hv3,hr3,hk3,hb3⟩:=hv1.appended (by decide) hrow1 hB1 (Nat.le_refl _) hown' hgrow;have hc2:=hv2.cell;have hf2:=hv2.frozen)
     have n1:∀j,some (W.heap.size+1)=some j->W.heap.size<=j/\∀cs m,W'.heap[j]?≠some (.cells cs 50 m):=λj e=>by
      obtain rfl:=Option.some.inj e
      refine⟨by omega,λcs m h=>?_⟩
      obtain⟨es,ck,hh,_⟩:=hown
      rw[h]at hh;cases hh
     have n2:=qtn (hrow1.alloc (.cells #[.string (mkS tx')] 9)) (by decide:(9:Nat)≠50)
     have n3:∀j,some W.heap.size=some j->W.heap.size<=j/\∀cs m,w2.heap[j]?≠some (.cells cs 50 m):=λj e=>by
      obtain rfl:=Option.some.inj e
      refine⟨Nat.le_refl _,λcs m h=>?_⟩
      have hv2':w2.heap[W.heap.size]?=_:=hv2
      rw[h]at hv2';cases hv2'
     have hB2:W.heap.size<=w2.heap.size:=Nat.le_trans hB1 (Nat.le_trans (by simp) hgrow.size)
     have hkp:=(((KpE.grown hg1 hB.size n1).trans ((KpE.refl _ w1).alloc hB1 (.cells #[.string (mkS tx')] 9))).trans (KpE.grown hgrow (by simp;omega) n2)).trans (KpE.grown (grownBy_setCell' w2 W.heap.size (.slice (some ⟨g',0,none⟩) ((qd6 pre).length+1) cap')) hB2 n3)
     refine⟨(KeepsFrom.of_grownBy hg1 (λj e=>by have:=Option.some.inj e;omega)).trans (hk3.from _),hkp,⟨_,hv3,by rw[hit ⟨trivial,hin⟩];simpa[sv]using hr3,by rw[hit ⟨trivial,hin⟩];simp⟩,⟨?_,?_⟩,hB.trans hkp.bel,Nat.le_trans hzz hkp.bel.size⟩
     ·exact(((hsb1.alloc (.cells #[.string (mkS tx')] 9)).kept hgrow (Boxed.not_row (hsb1.alloc (.cells #[.string (mkS tx')] 9)) (by decide) (hrow1.alloc (.cells #[.string (mkS tx')] 9)))).kept (grownBy_setCell' w2 W.heap.size _) (λe=>by have:=Option.some.inj e;omega))
     ·rw[hit ⟨trivial,hin⟩,qon,List.length_append]
      exact((hown1.alloc (.cells #[.string (mkS tx')] 9)).kept hgrow (qiQ (hrow1.alloc (.cells #[.string (mkS tx')] 9)) (hown1.alloc (.cells #[.string (mkS tx')] 9)))).kept (grownBy_setCell' w2 W.heap.size _) (λe=>by have:=Option.some.inj e;omega)
   ·gi_wp2
    exact⟨KeepsFrom.refl _ _,KpE.refl _ _,⟨v,hv,by rw[miss (λh=>hk h.1)];exact hrow,by rw[miss (λh=>hk h.1)];exact hnil⟩,⟨hsb,by rw[miss (λh=>hk h.1)];exact hown.mono (by simp)⟩,hB,hzz⟩
  case done=>
   rintro D xs W' hD hS ⟨⟨v,hv,hrow,hnil⟩,⟨hsb,hown⟩,hB,hzz⟩ hK
   have hc:=hv.cell
   have he:=qpD hS
   rw[hw4]at hD
   have hout:=hR2 trivial (W'.putObj D (.deferred none)) v (hb1.trans ((hB.trans (KpE.put (o':=.deferred none) (by omega) hK rfl rfl).bel).mono (Nat.le_of_lt hsz))) (by rw[<-he];exact qqY (ownsRow_putObj hrow _ hK rfl) (Nat.le_of_lt hsz)) (by rw[<-he];exact hnil)
   clear hR2 he hS
   gi_wp2
   refine⟨by simp,.inl ⟨_,_,rfl,run_takeDeferred hK,?_⟩⟩
   exact⟨_,results_tmp2 rfl _ _ _,by simpa using hout⟩
  case stop=>
   rintro D c pre W' _ _ h _
   exact h.elim
 ·gi_wp2
  refine⟨_,results_tmp2 rfl _ _ _,?_⟩
  simpa using hR1 her _ hb1
theorem qnt {α:Type} (f:α->Value):∀(zs:List α),(zs.map λz=>[f z]).flatten=zs.map f
 |[]=>rfl
 |z::r=>by simp only[List.map_cons,List.flatten_cons,qnt f r];rfl
theorem SlV1 {α:Type} {f:α->Value} {M:Mem} {A:Option Addr} {l c:Nat} {zs:List α} (h:SlV M A l c 1 (zs.map f)) (hl:zs.length=l) {i:Nat} {z:α} (hz:zs[i]?=some z):
  ∃b o,A=some ⟨b,o,none⟩/\At M b (o+i*1) [f z]:=by
 rw[<-qnt]at h
 exact h.elem hl (λ_ _=>rfl) hz
theorem SlV1.len {α:Type} {f:α->Value} {M:Mem} {A:Option Addr} {l c:Nat} {zs:List α} (h:SlV M A l c 1 (zs.map f)):zs.length=l:=by
 have:=h.1
 simpa using this
theorem getI {α:Type} {l:List α} {i:Int} (h0:0<=i) (h1:i<(l.length:Int)):∃x,l[i.toNat]?=some x:=⟨l[i.toNat]'(by omega),List.getElem?_eq_getElem _⟩
abbrev qec (zs:List (List UInt8)):List Value:=zs.map (λs=>Value.string (mkS s))
theorem qpe (zs:List (List UInt8)) (z:List UInt8):qec zs++[Value.string (mkS z)]=qec (zs++[z]):=by simp[qec]
mutual
theorem qnk:∀(e:Ex) (d n:Int),(lkE d n e).1=0->(lkE d n e).2=n+(qa5 e).length/\(qsx d e).map (·.1)=qa5 e
 | .mk k s t ks,d,n,h=>by
  unfold lkE at h ⊢
  split at h
  ·cases h
  ·split at h
   ·cases h
   ·split at h
    ·cases h
    ·rename_i h1 h2 h3
     rw[if_neg h1,if_neg h2,if_neg h3]
     have hk:=qp8 (x:=⟨k,s,t,none,ks.length,0⟩) (by simpa using h3)
     simp only at hk
     obtain⟨i1,i2⟩:=qlr ks (d+1) (n+1) h
     rw[qsx,if_pos ⟨by omega,hk⟩,qa5,List.map_cons,i2]
     exact⟨by rw[i1,List.length_cons];omega,rfl⟩
theorem qlr:∀(ks:List Ex) (d n:Int),(qkp d n ks).1=0->(qkp d n ks).2=n+(qaO ks).length/\(qpA d ks).map (·.1)=qaO ks
 |[],d,n,_=>by rw[qkp,qpA,qaO];simp
 |k::ks,d,n,h=>by
  rw[qkp]at h ⊢
  split at h
  ·rename_i hne;exact absurd h hne
  ·rename_i he
   have he:(lkE d n k).1=0:=by simpa using he
   rw[if_neg (by simpa using he)]
   obtain⟨i1,i2⟩:=qnk k d n he
   obtain⟨j1,j2⟩:=qlr ks d _ h
   rw[qpA,qaO,List.map_append,i2,j2,List.length_append]
   exact⟨by rw[j1,i1];omega,rfl⟩
end
theorem qf6 {e:Ex} (h:qdv e=0):(qa5 e).length<=60/\(lkE 1 0 e).2=(qa5 e).length/\(qsx 1 e).take 61=qsx 1 e/\(qsx 1 e).map (·.1)=qa5 e:=by
 obtain⟨h1,h2⟩:=qnk e 1 0 h
 have h3:=(qsF e 1 0 (by omega) (by omega)).2.2 h
 have h4:(qsx 1 e).length=(qa5 e).length:=by rw[<-h2,List.length_map]
 exact⟨by omega,by omega,List.take_of_length_le (by omega),h2⟩
theorem qmc (e:Ex) (x:qaa) (M:Mem) (K:Value->Prop) (hR:ExR M e x) (h1:qdv e≠0->K (.tuple #[.int .i64 0,.int .i64 (qdv e)])) (h2:qdv e=0->K (.tuple #[.int .i64 (qa5 e).length,.int .i64 0])):qfk x M K:=by
 unfold qfk
 refine qpQ _ e (Nat.lt_succ_self _) x M 1 0 _ hR (by omega) (by omega) (by omega) (by omega) λM' _=>⟨_,rfl,λh=>h1 h,λh=>?_⟩
 have h:qdv e=0:=by simpa[qdv]using h
 have:=h2 h
 rw[<-(qf6 h).2.1]at this
 exact this
theorem qq1 (e:Ex) (x:qaa) (M:Mem) (K:Value->Mem->Prop) (hR:ExR M e x) (h1:qdv e≠0->∀M',M.le M'->K (.tuple #[.slice none 0 0,.int .i64 (qdv e)]) M')
  (h2:qdv e=0->∀(M':Mem) (A:Option Addr) (c:Nat),M.le M'->SlV M' A (qeB e).length c 1 (qec (qeB e))->(∀g o,A=some ⟨g,o,none⟩->M g=none)->K (.tuple #[.slice A (qeB e).length c,.int .i64 0]) M'):qaf Tryz.prog 44 #[x.val] M K:=by
 intro w hon
 refine callsIn_wide.1 (qsu M e x (qdv e) (qh0 _ _ _ (qlM e x M _ hR rfl)) (λh=>(qf6 h).1) w hon hR _ (λh W hb=>⟨_,rfl,hb,h1 h _ (qhL hon)⟩) (λh W v hb hrow hnil=>?_))
 have hrow0:=hrow
 obtain⟨hl,⟨rfl,h0⟩|⟨g,cap,cur,rfl,hg,hgb,hle,hmax,hsz,htk⟩⟩:=hrow
 ·refine⟨_,rfl,hb,?_⟩
  have:=h2 h (grow M w W) none 0 (qhL hon) (by rw[h0];refine⟨by simp[qec,h0],Nat.le_refl _,by unfold maxLen;omega,λh=>by omega⟩) (λg o hgo=>(by cases hgo))
  rw[h0]at this;exact this
 ·refine⟨_,rfl,hb,h2 h (grow M w W) (some ⟨g,0,none⟩) cap (qhL hon) ⟨by simp[qec],hle,hmax,λ_=>⟨g,0,rfl,?_⟩⟩ λg' o' hg'=>?_⟩
  rotate_left
  ·simp only[Option.some.injEq,Addr.mk.injEq,and_true]at hg'
   rw[<-hg'.1];exact hon.noneAt hg
  intro j v hj
  have hc:(grow M w W) g=some (.cells cur 9 (0,0)):=by unfold grow;rw[if_pos hg];exact hgb
  have hj2:(cur.toList.take ((qeB e).length*1))[j]?=some v:=by rw[htk];exact hj
  rw[List.getElem?_take]at hj2
  split at hj2
  ·unfold Mem.cell;rw[hc];simp only[Nat.zero_add];simpa using hj2
  ·cases hj2
theorem qst (e:Ex) (x:qaa) (M:Mem) (K:Value->Mem->Prop) (hR:ExR M e x) (h1:qdv e≠0->∀M',M.le M'->K (.tuple #[.slice none 0 0,.int .i64 (qdv e)]) M')
  (h2:qdv e=0->∀(M':Mem) (A:Option Addr) (c:Nat),M.le M'->SlV M' A (qeB e).length c 1 (qec (qeB e))->K (.tuple #[.slice A (qeB e).length c,.int .i64 0]) M'):qaf Tryz.prog 44 #[x.val] M K:=
 qq1 e x M K hR h1 λh M' A c hle hsl _=>h2 h M' A c hle hsl
structure Ru where
 name:List UInt8
 body:Ex
theorem qt2 (x:qai):x.cells.length=8:=rfl
def RuR (M:Mem) (r:Ru) (x:qai):Prop:=x.Name=r.name/\r.name.length<=maxLen/\ExR M r.body x.Body
theorem RuR.le {M M':Mem} {r:Ru} {x:qai} (h:RuR M r x) (hl:M.le M'):RuR M' r x:=⟨h.1,h.2.1,h.2.2.le hl⟩
def GrR (M:Mem) (rs:List Ru) (A:Option Addr) (l c:Nat):Prop:=∃xs,SlV M A l c 8 (cl qai.cells xs)/\qcX (RuR M) rs xs/\l=rs.length
theorem GrR.le {M M':Mem} {rs:List Ru} {A:Option Addr} {l c:Nat} (h:GrR M rs A l c) (hl:M.le M'):GrR M' rs A l c:=by
 obtain⟨xs,h1,h2,h3⟩:=h
 exact⟨xs,h1.le hl,h2.mono λ_ _ h=>h.le hl,h3⟩
theorem GrR.at {M:Mem} {rs:List Ru} {A:Option Addr} {l c:Nat} (h:GrR M rs A l c) {i:Int} (h0:0<=i) (h1:i<(l:Int)):
  ∃r x b o,rs[i.toNat]?=some r/\A=some ⟨b,o,none⟩/\At M b (o+i.toNat*8) x.cells/\RuR M r x:=by
 obtain⟨xs,hsl,hall,rfl⟩:=h
 obtain⟨r,hr⟩:=getI (l:=rs) h0 h1
 obtain⟨x,hx,hrr⟩:=hall.get hr
 obtain⟨b,o,ha,hat⟩:=hsl.at qt2 hall.length hx
 exact⟨r,x,b,o,hr,ha,hat,hrr⟩
theorem GrR.max {M:Mem} {rs:List Ru} {A:Option Addr} {l c:Nat} (h:GrR M rs A l c):l=rs.length/\l<=9223372036854775807:=by
 obtain⟨xs,hsl,_,h3⟩:=h
 exact⟨h3,hsl.max⟩
def qbt (s:List UInt8):List Ru->Int->Int
 |[],_=> -1
 |r::t,i=>if r.name=s then i else qbt s t (i+1)
theorem qi3 {rs:List Ru} {A:Option Addr} {l c:Nat} {M:Mem} (h:GrR M rs A l c) (s:List UInt8) (K:Value->Prop) (hK:K (.int .i64 (qbt s rs 0))):qfj A l c s M K:=by
 obtain⟨hl,hmx⟩:=h.max
 unfold qfj
 refine⟨λi=>0<=i/\i<=l/\qbt s (rs.drop i.toNat) i=qbt s rs 0,λi=>l-i.toNat,⟨by omega,by omega,rfl⟩,λi ⟨h0,h1,heq⟩=>⟨λhlt=>?_,λhge=>?_⟩⟩
 ·obtain⟨r,x,b,o,hr,ha,hat,hn,_⟩:=h.at h0 hlt
  rw[qaW hr,qbt]at heq
  refine⟨b,o,ha,h0,hlt,x,hat,λe=>?_,λe=>⟨by unfold InI;omega,⟨by omega,by omega,?_⟩,by dsimp only;omega⟩⟩
  ·rw[if_pos (by rw[<-hn];exact e)]at heq;rw[<-heq]at hK;exact hK
  ·rw[if_neg (by rw[<-hn];exact e)]at heq
   rw[show(i+1).toNat=i.toNat+1 by omega];exact heq
 ·rw[List.drop_of_length_le (by omega)]at heq
  rw[<-heq]at hK;exact hK
def qkg (rs0:List Ru):List Ru->Int
 |[]=>0
 |r::t=>if (qeB r.body).all (λs=>decide (0<=qbt s rs0 0))=false then 6 else qkg rs0 t
def qrz (rs0:List Ru):List Ru->Int->Int->Int
 |[],_,n=>if n>120 then 2 else qkg rs0 rs0
 |r::t,i,n=>if qc2 r.name=false then 6 else if qbt r.name rs0 0≠i then 7 else if qdv r.body≠0 then qdv r.body else qrz rs0 t (i+1) (n+(qa5 r.body).length)
def qaZ (rs:List Ru):Int:=if rs.length=0 then 1 else if rs.length>10 then 2 else qrz rs rs 0 0
theorem qha {rs:List Ru} {A:Option Addr} {l c:Nat} {M:Mem} (hg:GrR M rs A l c) (K:Value->Prop) (hK:K (.int .i64 (qaZ rs))):qew A l c M K:=by
 obtain⟨hl,hmx⟩:=hg.max
 unfold qew
 refine⟨λh=>?_,λhn0=>⟨λh=>?_,λhn10=>?_⟩⟩
 ·rw[qaZ,if_pos (by omega)]at hK;exact hK
 ·rw[qaZ,if_neg (by omega),if_pos (by omega)]at hK;exact hK
 rw[qaZ,if_neg (by omega),if_neg (by omega)]at hK
 refine⟨λn i=>0<=i/\i<=l/\0<=n/\n<=60*i/\(∀(j:Nat) r,(j:Int)<i->rs[j]?=some r->qdv r.body=0)/\qrz rs (rs.drop i.toNat) i n=qrz rs rs 0 0,λ_ i=>l-i.toNat,⟨by omega,by omega,by omega,by omega,λj r h=>by omega,rfl⟩,λn i ⟨h0,h1,hn0',hn1,hz,heq⟩=>⟨λhlt=>?_,λhge=>?_⟩⟩
 ·obtain⟨r,x,b,o,hr,ha,hat,hrr⟩:=hg.at h0 hlt
  rw[qaW hr,qrz]at heq
  refine⟨b,o,ha,h0,hlt,x,hat,qiN _ _ _ (qny x.Name (by rw[hrr.1];exact hrr.2.1) _ _ ⟨_,rfl,λhb=>?_,λhb=>?_⟩)⟩
  ·rw[hrr.1]at hb
   rw[if_pos (by simpa using hb)]at heq;rw[<-heq]at hK;exact hK
  rw[hrr.1]at hb
  rw[if_neg (by simpa using hb)]at heq
  refine qd5 _ _ _ _ _ _ (qi3 hg x.Name _ ⟨_,rfl,λhb2=>?_,λhb2=>?_⟩)
  ·rw[hrr.1]at hb2
   rw[if_pos hb2]at heq;rw[<-heq]at hK;exact hK
  rw[hrr.1]at hb2
  rw[if_neg hb2]at heq
  by_cases he:qdv r.body=0
  ·obtain⟨hf60,_⟩:=qf6 he
   rw[if_neg (by simpa using he)]at heq
   refine qgv _ _ _ (qmc r.body x.Body _ _ hrr.2.2 (λh=>absurd he h) λ_=>⟨_,_,rfl,λh=>absurd rfl h,λ_=>⟨by unfold InI;omega,by unfold InI;omega,⟨by omega,by omega,by omega,by omega,λj r' hj hr'=>?_,?_⟩,by dsimp only;omega⟩⟩)
   ·by_cases e:(j:Int)=i
    ·have:i.toNat=j:=by omega
     rw[<-this,hr]at hr';cases hr';exact he
    ·exact hz j r' (by omega) hr'
   ·rw[show(i+1).toNat=i.toNat+1 by omega];exact heq
  ·rw[if_pos he]at heq
   refine qgv _ _ _ (qmc r.body x.Body _ _ hrr.2.2 (λ_=>⟨_,_,rfl,λ_=>?_,λh=>absurd he h⟩) λh=>absurd h he)
   rw[heq];exact hK
 rw[List.drop_of_length_le (by omega),qrz]at heq
 refine⟨λh=>?_,λh=>?_⟩
 ·rw[if_pos h]at heq;rw[<-heq]at hK;exact hK
 rw[if_neg h]at heq
 rw[<-heq]at hK
 have hM0:=Mem.le.refl M
 have hz:∀(j:Nat) r,j<l->rs[j]?=some r->qdv r.body=0:=λj r hj hr=>hz j r (by omega) hr
 refine⟨λi M'=>0<=i/\i<=l/\M.le M'/\qkg rs (rs.drop i.toNat)=qkg rs rs,λi=>l-i.toNat,⟨by omega,by omega,hM0,rfl⟩,λi M2 ⟨h0,h1,hle,heq⟩=>⟨λhlt=>?_,λhge=>?_⟩⟩
 ·have hg2:=hg.le hle
  obtain⟨r,x,b,o,hr,ha,hat,hrr⟩:=hg2.at h0 hlt
  have hlt':i.toNat<l:=by omega
  rw[qaW hr,qkg]at heq
  refine⟨b,o,ha,h0,hlt,x,hat,?_⟩
  refine qst r.body x.Body _ _ hrr.2.2 (λh=>absurd (hz i.toNat r hlt' hr) h) λ_ M3 A3 c3 hle3 hsl3=>⟨_,_,_,_,rfl,?_⟩
  refine⟨λj=>0<=j/\j<=(qeB r.body).length/\∀s∈(qeB r.body).take j.toNat,0<=qbt s rs 0,λj=>(qeB r.body).length-j.toNat,⟨by omega,by omega,λs hs=>by simp at hs⟩,λj ⟨k0,k1,k2⟩=>⟨λklt=>?_,λkge=>?_⟩⟩
  ·obtain⟨s,hs⟩:=getI (l:=qeB r.body) k0 klt
   obtain⟨b2,o2,ha2,hat2⟩:=SlV1 hsl3 rfl hs
   refine⟨b2,o2,ha2,k0,klt,s,hat2,qd5 _ _ _ _ _ _ (qi3 (hg2.le hle3) s _ ⟨_,rfl,λhneg=>?_,λhpos=>?_⟩)⟩
   ·have:(qeB r.body).all (λs=>decide (0<=qbt s rs 0))=false:=by
     rw[List.all_eq_false]
     exact⟨s,List.mem_of_getElem? hs,by simp;omega⟩
    rw[if_pos this]at heq
    rw[<-heq]at hK;exact hK
   ·have hm:=(hsl3.max)
    refine⟨by unfold InI;omega,⟨by omega,by omega,λz hz'=>?_⟩,by dsimp only;omega⟩
    rw[show(j+1).toNat=j.toNat+1 by omega,qij hs]at hz'
    rcases List.mem_append.1 hz' with hz'|hz'
    ·exact k2 z hz'
    ·simp at hz';rw[hz'];omega
  ·have hall:¬(qeB r.body).all (λs=>decide (0<=qbt s rs 0))=false:=by
    rw[Bool.not_eq_false,List.all_eq_true]
    intro s hs
    rw[List.take_of_length_le (by omega)]at k2
    simpa using k2 s hs
   rw[if_neg hall]at heq
   refine⟨by unfold InI;omega,⟨by omega,by omega,hle.trans hle3,?_⟩,by dsimp only;omega⟩
   rw[show(i+1).toNat=i.toNat+1 by omega];exact heq
 ·rw[List.drop_of_length_le (by omega),qkg]at heq
  rw[<-heq]at hK;exact hK
end Go.Proofs.YtleaplmdgckmkaaGreatDoor.core
