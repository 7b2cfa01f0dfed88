/- Contracts of functions: what each answers at every input that its caller may hand it. No condition. -/
import Derived.RangeFuncNested
import Derived.RangeFuncBound
import Derived.RangeFuncCalls
import Derived.RangeFuncLeaves
import Derived.RangeFuncWrites
import Derived.RangeFuncBox
import Derived.Shelf.Abstract
import Derived.WalkKit
import Derived.OwnWalkIn
import Derived.TacticsInMore
import Derived.LoopNIn
import Derived.LoopIn
import Derived.Maps.OwnIn
import Derived.Maps.AppendAt
import Derived.StringKeys
import Derived.Test.YtfpmiahbncnecaaCoreG
import Derived.Test.YtfpmiahbncnecaaM4
namespace Go.Proofs.Ytfpmiahbncnecaa.core
open Go.Gx Go.RowKit Go.ChangeShapes Go.WideShapes Go.ChangeAt
set_option linter.unusedVariables false
inductive Ex where
 |mk (kind:Int) (set:X_api_Set) (text:List UInt8) (kids:List Ex)
def Ex.kind:Ex->Int| .mk k _ _ _=>k
def Ex.set:Ex->X_api_Set| .mk _ s _ _=>s
def Ex.text:Ex->List UInt8| .mk _ _ t _=>t
def Ex.kids:Ex->List Ex| .mk _ _ _ ks=>ks
theorem Ex.kid_lt {e k:Ex} (h:k∈e.kids):SizeOf.sizeOf k<SizeOf.sizeOf e:=by
 cases e with
 |mk a s t ks=>
  have:=List.sizeOf_lt_of_mem h
  simp only[Ex.kids]at*
  simp only[Ex.mk.sizeOf_spec]
  omega
inductive ExR (M:Mem):Ex->X_api_Expr->Prop where
 |mk {k:Int} {s:X_api_Set} {t:List UInt8} {A:Option Addr} {c:Nat} {ks:List Ex} {xs:List X_api_Expr} (hk:(Lit.int .i64 k).wf=true) (hs:wfS s) (ht:t.length<=maxLen)
   (hv:SlV M A ks.length c 7 (cl X_api_Expr.cells xs)) (hl:xs.length=ks.length) (hks:∀(i:Nat) e x,ks[i]?=some e->xs[i]?=some x->ExR M e x):ExR M (.mk k s t ks) ⟨k,s,t,A,ks.length,c⟩
theorem ExR.le {M M':Mem} {e:Ex} {x:X_api_Expr} (h:ExR M e x) (hl:M.le M'):ExR M' e x:=by
 induction h with
 |mk hk hs ht hv hl' _ ih=>exact .mk hk hs ht (hv.le hl) hl' ih
structure ExK (M:Mem) (e:Ex) (x:X_api_Expr) (xs:List X_api_Expr):Prop where
 kind:x.Kind=e.kind
 set:x.Set=e.set
 text:x.Text=e.text
 len:x.Kids_l=e.kids.length
 hk:(Lit.int .i64 e.kind).wf=true
 hs:wfS e.set
 ht:e.text.length<=maxLen
 sl:SlV M x.Kids_a x.Kids_l x.Kids_c 7 (cl X_api_Expr.cells xs)
 xl:xs.length=e.kids.length
 kids:All2 (ExR M) e.kids xs
theorem ExR.open {M:Mem} {e:Ex} {x:X_api_Expr} (h:ExR M e x):∃xs,ExK M e x xs:=by
 cases h with
 |mk hk hs ht hv hl hks=>exact⟨_,rfl,rfl,rfl,rfl,hk,hs,ht,hv,hl,All2.of hl hks⟩
theorem Xe_len (x:X_api_Expr):x.cells.length=7:=rfl
theorem ExK.kid {M:Mem} {e:Ex} {x:X_api_Expr} {xs:List X_api_Expr} (h:ExK M e x xs) {i:Nat} {k:Ex} (hk:e.kids[i]?=some k):∃b o y,x.Kids_a=some ⟨b,o,none⟩/\At M b (o+i*7) y.cells/\ExR M k y/\xs[i]?=some y:=by
 obtain⟨y,hy,hr⟩:=h.kids.get hk
 obtain⟨b,o,ha,hat⟩:=h.sl.at Xe_len (by rw[h.xl,h.len]) hy
 exact⟨b,o,y,ha,hat,hr,hy⟩
def letB (c:UInt8):Bool:=(97<=c.toNat&&c.toNat<=122)||(65<=c.toNat&&c.toNat<=90)
def digB (c:UInt8):Bool:=48<=c.toNat&&c.toNat<=57
def okC (i:Nat) (c:UInt8):Bool:=letB c||(i != 0&&digB c)
def nameB (s:List UInt8):Bool:=1<=s.length&&s.length<=8&&decide (∀i,i<s.length->okC i (s[i]?.getD 0)=true)
theorem or32:∀n:Nat,n<256->((decide (bOr .u8 (n:Int) 32>=97)&&decide (bOr .u8 (n:Int) 32<=122))=((decide (97<=n)&&decide (n<=122))||(decide (65<=n)&&decide (n<=90)))):=by
 decide+kernel
theorem let32 (c:UInt8):(decide (bOr .u8 (c.toNat:Int) 32>=97)&&decide (bOr .u8 (c.toNat:Int) 32<=122))=letB c:=or32 c.toNat c.toNat_lt
theorem nameB_bad {s:List UInt8} {i:Nat} {c:UInt8} (hc:s[i]?=some c) (h:okC i c=false):nameB s=false:=by
 have hi:=(List.getElem?_eq_some_iff.1 hc).1
 unfold nameB
 have:¬∀i,i<s.length->okC i (s[i]?.getD 0)=true:=λhall=>by
  have:=hall i hi
  simp[hc]at this
  rw[this]at h;cases h
 rw[decide_eq_false this,Bool.and_false]
theorem nameB_ok {s:List UInt8} (h:∀(j:Nat) c,s[j]?=some c->okC j c=true):nameB s=(decide (1<=s.length)&&decide (s.length<=8)):=by
 unfold nameB
 have:∀i,i<s.length->okC i (s[i]?.getD 0)=true:=λi hi=>by
  obtain⟨c,hc⟩:=getN hi
  simp[hc,h i c hc]
 rw[decide_eq_true this,Bool.and_true]
theorem letter_is (c:UInt8) (M:Mem) (K:Value->Prop) (h:K (.bool (letB c))):S_chaffref_letter (c.toNat:Int) M K:=by
 have key:∀b,b=letB c->K (.bool b):=λb e=>e▸h
 unfold S_chaffref_letter
 refine⟨λh1=>⟨λh2=>key _ ?_,λh2=>⟨λh3=>key _ ?_,λh3=>key _ ?_⟩⟩,λh1=>⟨λh3=>key _ ?_,λh3=>key _ ?_⟩⟩<;>(rw[Bool.eq_iff_iff];simp[letB];omega)
theorem digits_is (c:UInt8) (M:Mem) (K:Value->Prop) (h:K (.bool (digB c))):S_chaffref_digits (c.toNat:Int) M K:=by
 have key:∀b,b=digB c->K (.bool b):=λb e=>e▸h
 unfold S_chaffref_digits
 refine⟨λh1=>key _ ?_,λh1=>key _ ?_⟩<;>(rw[Bool.eq_iff_iff];simp[digB];omega)
theorem ename_is (s:List UInt8) (hm:s.length<=maxLen) (M:Mem) (K:Value->Prop) (h:K (.bool (nameB s))):S_expr_Name s M K:=by
 have key:∀b,b=nameB s->K (.bool b):=λb e=>e▸h
 unfold maxLen at hm
 have j1:∀b:Bool,(b=true->¬(1<=s.length/\s.length<=8))->(b=false->1<=s.length/\s.length<=8)->S_expr_Name_J1 s b K:=by
  intro b h1 h2
  refine⟨λhb=>key _ ?_,λhb=>?_⟩
  ·have:=h1 hb
   unfold nameB
   by_cases a:1<=s.length
   ·have:¬s.length<=8:=λq=>this ⟨a,q⟩
    simp[this]
   ·simp[a]
  obtain⟨hl1,hl8⟩:=h2 (by simpa using hb)
  refine⟨λi=>0<=i/\i<=s.length/\∀(j:Nat) c,(j:Int)<i->s[j]?=some c->okC j c=true,λi=>s.length-i.toNat,⟨by omega,by omega,λj c hj=>by omega⟩,λi ⟨h0,h1,h2⟩=>⟨λhlt=>?_,λhge=>key _ ?_⟩⟩
  ·obtain⟨c,hc⟩:=getI (l:=s) h0 hlt
   have j3:∀b:Bool,b= !(okC i.toNat c)->S_expr_Name_J3 i (λi=>0<=i/\i<=s.length/\∀(j:Nat) c,(j:Int)<i->s[j]?=some c->okC j c=true) (λi=>s.length-i.toNat) b K:=by
    intro b hb
    refine⟨λe=>key _ ?_,λe=>⟨by unfold InI;omega,⟨by omega,by omega,λj d hj hd=>?_⟩,by dsimp only;omega⟩⟩
    ·rw[nameB_bad hc (by rw[e]at hb;simpa using hb.symm)]
    ·by_cases q:(j:Int)=i
     ·have:i.toNat=j:=by omega
      rw[this]at hc hb
      rw[hd]at hc;cases hc
      cases b
      ·simpa using hb.symm
      ·exact absurd rfl e
     ·exact h2 j d (by omega) hd
   have j2:∀b:Bool,b=letB c->S_expr_Name_J2 s i (λi=>0<=i/\i<=s.length/\∀(j:Nat) c,(j:Int)<i->s[j]?=some c->okC j c=true) (λi=>s.length-i.toNat) b K:=by
    intro b hb
    refine⟨λe=>⟨λhz=>j3 _ ?_,λhz=>⟨c,h0,hc,λhlt=>j3 _ ?_,λhge=>⟨c,h0,hc,j3 _ ?_⟩⟩⟩,λe=>j3 _ ?_⟩
    ·have:letB c=false:=by rw[<-hb];simpa using e
     simp[okC,this,show i.toNat=0 by omega]
    ·have:letB c=false:=by rw[<-hb];simpa using e
     have:digB c=false:=by unfold digB;simp;omega
     simp[okC, *]
    ·have:letB c=false:=by rw[<-hb];simpa using e
     have hz':(i.toNat != 0)=true:=by simp;omega
     simp only[okC,this,hz',digB,Bool.false_or,Bool.true_and]
     rw[Bool.eq_iff_iff]
     simp;omega
    ·have:letB c=true:=by rw[<-hb];simpa using e
     simp[okC,this]
   refine⟨c,h0,hc,λhge=>⟨c,h0,hc,j2 _ ?_⟩,λhlt2=>j2 _ ?_⟩
   ·rw[<-let32 c];simp[hge]
   ·rw[<-let32 c];simp;omega
  ·rw[nameB_ok (λj c hc=>h2 j c (by have:=(List.getElem?_eq_some_iff.1 hc).1;omega) hc)];simp[hl1,hl8]
 refine⟨λe=>j1 _ (λ_=>by subst e;simp) (λe=>by cases e),λhne=>j1 _ (λhb=>?_) (λhb=>?_)⟩
 ·simp at hb;omega
 ·have:0<s.length:=List.length_pos_iff.2 hne
  simp at hb;omega
theorem rname_is (s:List UInt8) (hm:s.length<=maxLen) (M:Mem) (K:Value->Prop) (h:K (.bool (nameB s))):S_chaffref_Name s M K:=by
 have key:∀b,b=nameB s->K (.bool b):=λb e=>e▸h
 unfold maxLen at hm
 refine⟨λi=>0<=i/\i<=s.length/\∀(j:Nat) c,(j:Int)<i->s[j]?=some c->okC j c=true,λi=>s.length-i.toNat,⟨by omega,by omega,λj c hj=>by omega⟩,λi ⟨h0,h1,h2⟩=>⟨λhlt=>?_,λhge=>?_⟩⟩
 ·obtain⟨c,hc⟩:=getI (l:=s) h0 hlt
  have j1:∀b:Bool,b= !(okC i.toNat c)->S_chaffref_Name_J1 i (λi=>0<=i/\i<=s.length/\∀(j:Nat) c,(j:Int)<i->s[j]?=some c->okC j c=true) (λi=>s.length-i.toNat) b K:=by
   intro b hb
   refine⟨λe=>key _ ?_,λe=>⟨by unfold InI;omega,⟨by omega,by omega,λj d hj hd=>?_⟩,by dsimp only;omega⟩⟩
   ·rw[nameB_bad hc (by rw[e]at hb;simpa using hb.symm)]
   ·by_cases q:(j:Int)=i
    ·have:i.toNat=j:=by omega
     rw[this]at hc hb
     rw[hd]at hc;cases hc
     cases b
     ·simpa using hb.symm
     ·exact absurd rfl e
    ·exact h2 j d (by omega) hd
  refine⟨c,h0,hc,s_chaffref_letter _ _ _ (letter_is c _ _ ⟨_,rfl,λe=>⟨λhz=>j1 _ ?_,λhz=>⟨c,h0,hc,s_chaffref_digits _ _ _ (digits_is c _ _ ⟨_,rfl,j1 _ ?_⟩)⟩⟩,λe=>j1 _ ?_⟩)⟩
  ·have:letB c=false:=by simpa using e
   simp[okC,this,show i.toNat=0 by omega]
  ·have:letB c=false:=by simpa using e
   have hz':(i.toNat != 0)=true:=by simp;omega
   simp only[okC,this,hz',Bool.false_or,Bool.true_and]
  ·have:letB c=true:=by simpa using e
   simp[okC,this]
 ·have hok:=nameB_ok (s:=s) λj c hc=>h2 j c (by have:=(List.getElem?_eq_some_iff.1 hc).1;omega) hc
  refine⟨λh1=>key _ ?_,λh1=>key _ ?_⟩
  ·rw[hok,Bool.eq_iff_iff];simp;omega
  ·rw[hok,eq_comm,Bool.eq_false_iff];simp;omega
def zs (s:X_api_Set):Bool:=cellsEq [s.w0,s.w1,s.w2,s.w3] [0,0,0,0]
def fitX (x:X_api_Expr):Bool:=
 if x.Kind=1 then x.Kids_l==0&&decide (x.Text=[])&&zs x.Set
 else if x.Kind=2 then x.Kids_l==0&&decide (x.Text=[])
 else if x.Kind=3 then x.Kids_l==0&&zs x.Set&& !decide (x.Text=[])&&decide (x.Text.length<=12)
 else if x.Kind=4 then x.Kids_l==0&&zs x.Set&&nameB x.Text
 else if x.Kind=5\/x.Kind=6 then decide (x.Text=[])&&zs x.Set&&decide (2<=x.Kids_l)&&decide (x.Kids_l<=8)
 else if 7<=x.Kind/\x.Kind<=11 then decide (x.Text=[])&&zs x.Set&&x.Kids_l==1
 else false
theorem fit_is (x:X_api_Expr) (hm:x.Text.length<=maxLen) (M:Mem) (K:Value->Prop) (h:K (.bool (fitX x))):S_expr_fit x M K:=by
 have key:∀b,b=fitX x->K (.bool b):=λb e=>e▸h
 have j6:∀(low high:Int) (b:Bool),((!b)&&(decide (low<=x.Kids_l)&&decide ((x.Kids_l:Int)<=high)))=fitX x->S_expr_fit_J6 x low high b K:=by
  intro low high b e
  refine⟨λhb=>key _ ?_,λhb=>⟨λh1=>key _ ?_,λh1=>key _ ?_⟩⟩<;>rw[<-e]<;>simp_all
  intros;omega
 have j5:∀(low high:Int),((decide (x.Kind=3)||decide (x.Kind=4)||decide (x.Text=[]))&&(decide (x.Kind=2)||zs x.Set)&&(decide (low<=x.Kids_l)&&decide ((x.Kids_l:Int)<=high)))=fitX x->S_expr_fit_J5 x low high K:=by
  intro low high e
  have e':cellsEq [x.Set.w0,x.Set.w1,x.Set.w2,x.Set.w3] [0,0,0,0]=zs x.Set:=rfl
  unfold S_expr_fit_J5
  rw[e']
  refine⟨λh1=>⟨λh2=>⟨λh3=>j6 _ _ _ ?_,λh3=>⟨λh4=>j6 _ _ _ ?_,λh4=>j6 _ _ _ ?_⟩⟩,λh2=>⟨λh4=>j6 _ _ _ ?_,λh4=>j6 _ _ _ ?_⟩⟩,λh2=>⟨λh4=>j6 _ _ _ ?_,λh4=>j6 _ _ _ ?_⟩⟩<;>rw[<-e]<;>simp_all
 have fx:∀v,(match v with|true=>fitX x=true|false=>fitX x=false)->fitX x=v:=λv h=>by cases v<;>exact h
 have c0:(decide ((0:Int)<=x.Kids_l)&&decide ((x.Kids_l:Int)<=0))=(x.Kids_l==0):=by rw[Bool.eq_iff_iff];simp<;>omega
 have c1:(decide ((1:Int)<=x.Kids_l)&&decide ((x.Kids_l:Int)<=1))=(x.Kids_l==1):=by rw[Bool.eq_iff_iff];simp<;>omega
 have c2:(decide ((2:Int)<=x.Kids_l)&&decide ((x.Kids_l:Int)<=8))=(decide (2<=x.Kids_l)&&decide (x.Kids_l<=8)):=by rw[Bool.eq_iff_iff];simp;omega
 have j3:∀b:Bool,x.Kind≠1->x.Kind≠2->x.Kind≠3->x.Kind≠4->(b=decide (x.Kind=5\/x.Kind=6))->S_expr_fit_J3 x b K:=by
  intro b n1 n2 n3 n4 hb
  have j4:∀b:Bool,¬(x.Kind=5\/x.Kind=6)->(b=decide (7<=x.Kind/\x.Kind<=11))->S_expr_fit_J4 x b K:=by
   intro b n56 hb
   refine⟨λe=>j5 _ _ ?_,λe=>key _ ?_⟩
   ·rw[c1];have:7<=x.Kind/\x.Kind<=11:=by rw[e]at hb;exact of_decide_eq_true hb.symm
    unfold fitX;rw[if_neg n1,if_neg n2,if_neg n3,if_neg n4,if_neg n56,if_pos this];simp[n2,n3,n4]
   ·have:¬(7<=x.Kind/\x.Kind<=11):=λq=>e (by rw[hb];exact decide_eq_true q)
    unfold fitX;rw[if_neg n1,if_neg n2,if_neg n3,if_neg n4,if_neg n56,if_neg this]
  refine⟨λe=>j5 _ _ ?_,λe=>?_⟩
  ·rw[c2];have:x.Kind=5\/x.Kind=6:=by rw[e]at hb;exact of_decide_eq_true hb.symm
   unfold fitX;rw[if_neg n1,if_neg n2,if_neg n3,if_neg n4,if_pos this];simp[n2,n3,n4,Bool.and_assoc]
  ·have n56:¬(x.Kind=5\/x.Kind=6):=λq=>e (by rw[hb];exact decide_eq_true q)
   refine⟨λe=>j4 _ n56 ?_,λe=>⟨λe=>j4 _ n56 ?_,λe=>⟨λe=>j4 _ n56 ?_,λe=>⟨λe=>j4 _ n56 ?_,λe=>j4 _ n56 ?_⟩⟩⟩⟩<;>rw[Bool.eq_iff_iff]<;>simp<;>omega
 have j1:∀b:Bool,(b=decide (x.Kind=1\/x.Kind=2))->S_expr_fit_J1 x M b K:=by
  intro b hb
  refine⟨λe=>j5 _ _ ?_,λe=>?_⟩
  ·rw[c0];have:x.Kind=1\/x.Kind=2:=by rw[e]at hb;exact of_decide_eq_true hb.symm
   unfold fitX
   rcases this with q|q
   ·rw[if_pos q];simp[q];rw[Bool.eq_iff_iff];simp;exact⟨λ⟨⟨a,b⟩,c⟩=>⟨⟨c,a⟩,b⟩,λ⟨⟨c,a⟩,b⟩=>⟨⟨a,b⟩,c⟩⟩
   ·rw[if_neg (by omega),if_pos q];simp[q];rw[Bool.and_comm]
  ·have n12:¬(x.Kind=1\/x.Kind=2):=λq=>e (by rw[hb];exact decide_eq_true q)
   have n1:x.Kind≠1:=λq=>n12 (.inl q)
   have n2:x.Kind≠2:=λq=>n12 (.inr q)
   refine⟨λq=>?_,λn3=>⟨λq=>?_,λn4=>⟨λq=>j3 _ n1 n2 n3 n4 (by simp[q]),λq=>j3 _ n1 n2 n3 n4 (by rw[Bool.eq_iff_iff];simp;omega)⟩⟩⟩
   ·have hf:fitX x=(x.Kids_l==0&&zs x.Set&& !decide (x.Text=[])&&decide (x.Text.length<=12)):=by unfold fitX;rw[if_neg n1,if_neg n2,if_pos q]
    have j2:∀b:Bool,(b= !(!decide (x.Text=[])&&decide (x.Text.length<=12)))->S_expr_fit_J2 x b K:=by
     intro b hb
     refine⟨λe=>key _ ?_,λe=>j5 _ _ ?_⟩
     ·rw[hf];cases h1:decide (x.Text=[])<;>cases h2:decide (x.Text.length<=12)<;>simp_all
     ·rw[hf,c0];cases h1:decide (x.Text=[])<;>cases h2:decide (x.Text.length<=12)<;>simp_all
      rw[Bool.and_comm]
    refine⟨λe=>j2 _ (by simp[e]),λe=>j2 _ ?_⟩
    rw[Bool.eq_iff_iff];simp[e];omega
   ·have hf:fitX x=(x.Kids_l==0&&zs x.Set&&nameB x.Text):=by unfold fitX;rw[if_neg n1,if_neg n2,if_neg n3,if_pos q]
    refine s_expr_Name _ _ _ (ename_is _ hm _ _ ⟨_,rfl,λe=>key _ ?_,λe=>j5 _ _ ?_⟩)
    ·rw[hf];have:nameB x.Text=false:=by simpa using e
     simp[this]
    ·rw[hf,c0];have:nameB x.Text=true:=by simpa using e
     simp[this,q];rw[Bool.and_comm]
 exact⟨λe=>j1 _ (by simp[e]),λe=>j1 _ (by rw[Bool.eq_iff_iff];simp;omega)⟩
theorem right_is (x:X_api_Expr) (hm:x.Text.length<=maxLen) (M:Mem) (K:Value->Prop) (h:K (.bool (fitX x))):S_chaffref_right x M K:=by
 have key:∀b,b=fitX x->K (.bool b):=λb e=>e▸h
 have e':cellsEq [x.Set.w0,x.Set.w1,x.Set.w2,x.Set.w3] [0,0,0,0]=zs x.Set:=rfl
 have ht:∀t:List UInt8,((mkS t).toList==(mkS ([]:List UInt8)).toList)=decide (t=[]):=λt=>by rw[Bool.eq_iff_iff,mkS_beq];simp
 have j2:∀b:Bool,¬(x.Kind=1)->¬(x.Kind=2)->¬(x.Kind=3)->¬(x.Kind=4)->¬(x.Kind=5\/x.Kind=6)->b=decide (7<=x.Kind/\x.Kind<=11)->S_chaffref_right_J2 x b K:=by
  intro b n1 n2 n3 n4 n56 hb
  unfold S_chaffref_right_J2
  rw[e']
  have hf:fitX x=(decide (7<=x.Kind/\x.Kind<=11)&&(decide (x.Text=[])&&zs x.Set&&x.Kids_l==1)):=by
   unfold fitX;rw[if_neg n1,if_neg n2,if_neg n3,if_neg n4,if_neg n56];split<;>simp[*]
  rw[<-hb]at hf
  clear hb
  refine⟨λe=>⟨λh1=>⟨λh2=>key _ ?_,λh2=>key _ ?_⟩,λh1=>key _ ?_⟩,λe=>key _ ?_⟩<;>rw[hf]<;>simp[*]
  rw[Bool.eq_iff_iff];simp;omega
 have j1:∀b:Bool,¬(x.Kind=1)->¬(x.Kind=2)->¬(x.Kind=3)->¬(x.Kind=4)->b=decide (x.Kind=5\/x.Kind=6)->S_chaffref_right_J1 x b K:=by
  intro b n1 n2 n3 n4 hb
  unfold S_chaffref_right_J1
  rw[e']
  refine⟨λe=>?_,λe=>?_⟩
  ·have:x.Kind=5\/x.Kind=6:=by rw[e]at hb;exact of_decide_eq_true hb.symm
   have hf:fitX x=(decide (x.Text=[])&&zs x.Set&&decide (2<=x.Kids_l)&&decide (x.Kids_l<=8)):=by unfold fitX;rw[if_neg n1,if_neg n2,if_neg n3,if_neg n4,if_pos this]
   refine⟨λh1=>⟨λh2=>⟨λh3=>key _ ?_,λh3=>key _ ?_⟩,λh2=>key _ ?_⟩,λh1=>key _ ?_⟩<;>rw[hf]<;>simp[*]
   ·rw[Bool.eq_iff_iff];simp;omega
   ·intro;omega
  ·have n56:¬(x.Kind=5\/x.Kind=6):=λq=>e (by rw[hb];exact decide_eq_true q)
   refine⟨λh1=>j2 _ n1 n2 n3 n4 n56 ?_,λh1=>j2 _ n1 n2 n3 n4 n56 ?_⟩
   ·rw[Bool.eq_iff_iff];simp;omega
   ·rw[eq_comm,decide_eq_false];omega
 unfold S_chaffref_right
 rw[e',ht]
 refine⟨λq=>?_,λn1=>⟨λq=>?_,λn2=>⟨λq=>?_,λn3=>⟨λq=>?_,λn4=>⟨λq=>j1 _ n1 n2 n3 n4 (by simp[q]),λq=>j1 _ n1 n2 n3 n4 (by rw[Bool.eq_iff_iff];simp;omega)⟩⟩⟩⟩⟩
 ·have hf:fitX x=(x.Kids_l==0&&decide (x.Text=[])&&zs x.Set):=by unfold fitX;rw[if_pos q]
  refine⟨λh1=>⟨λh2=>key _ ?_,λh2=>key _ ?_⟩,λh1=>key _ ?_⟩<;>rw[hf]
  ·have:x.Kids_l=0:=by omega
   simp[*]
  ·simp[*]
  ·have:¬x.Kids_l=0:=by omega
   simp[*]
 ·have hf:fitX x=(x.Kids_l==0&&decide (x.Text=[])):=by unfold fitX;rw[if_neg n1,if_pos q]
  refine⟨λh1=>key _ ?_,λh1=>key _ ?_⟩<;>rw[hf]
  ·have:x.Kids_l=0:=by omega
   simp[*]
  ·have:¬x.Kids_l=0:=by omega
   simp[*]
 ·have hf:fitX x=(x.Kids_l==0&&zs x.Set&& !decide (x.Text=[])&&decide (x.Text.length<=12)):=by unfold fitX;rw[if_neg n1,if_neg n2,if_pos q]
  refine⟨λh1=>⟨λh2=>⟨λh3=>key _ ?_,λh3=>key _ ?_⟩,λh2=>key _ ?_⟩,λh1=>key _ ?_⟩<;>rw[hf]
  ·have:x.Kids_l=0:=by omega
   simp[*]
   omega
  ·simp at h3;simp[*]
  ·simp[*]
  ·have:¬x.Kids_l=0:=by omega
   simp[*]
 ·have hf:fitX x=(x.Kids_l==0&&zs x.Set&&nameB x.Text):=by unfold fitX;rw[if_neg n1,if_neg n2,if_neg n3,if_pos q]
  refine⟨λh1=>⟨λh2=>s_chaffref_Name _ _ _ (rname_is _ hm _ _ ⟨_,rfl,key _ ?_⟩),λh2=>key _ ?_⟩,λh1=>key _ ?_⟩<;>rw[hf]
  ·have:x.Kids_l=0:=by omega
   simp[*]
  ·simp[*]
  ·have:¬x.Kids_l=0:=by omega
   simp[*]
mutual
def lkE (d n:Int):Ex->Int×Int
 | .mk k s t ks=>if n+1>60 then(2,n+1) else if d>12 then(5,n+1) else if fitX ⟨k,s,t,none,ks.length,0⟩=false then(3,n+1) else lkEs (d+1) (n+1) ks
def lkEs (d n:Int):List Ex->Int×Int
 |[]=>(0,n)
 |k::ks=>if (lkE d n k).1≠0 then lkE d n k else lkEs d (lkE d n k).2 ks
end
mutual
theorem lkE_n:∀(e:Ex) (d n:Int),0<=n->n<=60->n<=(lkE d n e).2/\(lkE d n e).2<=61/\((lkE d n e).1=0->(lkE d n e).2<=60)
 | .mk k s t ks,d,n,h0,h1=>by
  unfold lkE
  split
  ·exact⟨by simp only;omega,by simp only;omega,λh=>by cases h⟩
  ·split
   ·exact⟨by simp only;omega,by simp only;omega,λh=>by cases h⟩
   ·split
    ·exact⟨by simp only;omega,by simp only;omega,λh=>by cases h⟩
    ·have:=lkEs_n ks (d+1) (n+1) (by omega) (by omega)
     exact⟨by omega,this.2⟩
theorem lkEs_n:∀(es:List Ex) (d n:Int),0<=n->n<=60->n<=(lkEs d n es).2/\(lkEs d n es).2<=61/\((lkEs d n es).1=0->(lkEs d n es).2<=60)
 |[],d,n,h0,h1=>by unfold lkEs;exact⟨by simp only;omega,by simp only;omega,λ_=>by simp only;omega⟩
 |k::ks,d,n,h0,h1=>by
  have h:=lkE_n k d n h0 h1
  unfold lkEs
  split
  ·exact h
  ·rename_i hz
   have hz:(lkE d n k).1=0:=by simpa using hz
   have:=lkEs_n ks d (lkE d n k).2 (by omega) (h.2.2 hz)
   exact⟨by omega,this.2⟩
end
theorem fitX_cells {x:X_api_Expr} {e:Ex} {xs:List X_api_Expr} {M:Mem} (h:ExK M e x xs):fitX x=fitX ⟨e.kind,e.set,e.text,none,e.kids.length,0⟩:=by
 unfold fitX zs
 rw[h.kind,h.set,h.text,h.len]
theorem fitX_kids {x:X_api_Expr} (h:fitX x=true):x.Kids_l<=8:=by
 unfold fitX at h
 split at h
 ·simp at h;omega
 ·split at h
  ·simp at h;omega
  ·split at h
   ·simp at h;omega
   ·split at h
    ·simp at h;omega
    ·split at h
     ·simp at h;omega
     ·split at h
      ·simp at h;omega
      ·cases h
theorem look_is:∀(m:Nat) (e:Ex),SizeOf.sizeOf e<m->∀(x:X_api_Expr) (M:Mem) (d n:Int) (K:Value->Int->Mem->Prop),ExR M e x->0<=d->d<=13->0<=n->n<=60->
  (∀M',M.le M'->K (.int .i64 (lkE d n e).1) (lkE d n e).2 M')->C_expr_looker_look x d n M K:=by
 intro m
 induction m with
 |zero=>intro e h;omega
 |succ m ih=>
  intro e hm x M d n K hR hd hd2 hn hn2 hK
  obtain⟨xs,hx⟩:=hR.open
  refine s_expr_looker_look _ _ _ _ _ ?_
  unfold S_expr_looker_look
  have hE:lkE d n e=if n+1>60 then(2,n+1) else if d>12 then(5,n+1) else if fitX x=false then(3,n+1) else lkEs (d+1) (n+1) e.kids:=by
   obtain⟨k,s,t,ks⟩:=e
   rw[fitX_cells hx]
   rfl
  refine⟨by unfold InI;omega,λh1=>?_,λh1=>⟨λh2=>?_,λh2=>?_⟩⟩
  ·rw[if_pos h1]at hE;rw[hE]at hK;exact hK M (Mem.le.refl M)
  ·rw[if_neg h1,if_pos h2]at hE;rw[hE]at hK;exact hK M (Mem.le.refl M)
  rw[if_neg h1,if_neg h2]at hE
  refine s_expr_fit _ _ _ (fit_is x (by rw[hx.text];exact hx.ht) _ _ ⟨_,rfl,λhf=>?_,λhf=>?_⟩)
  ·have hf:fitX x=false:=by simpa using hf
   rw[if_pos hf]at hE;rw[hE]at hK;exact hK M (Mem.le.refl M)
  have hf:fitX x=true:=by simpa using hf
  rw[if_neg (by simp[hf])]at hE
  have hn3:n+1<=60:=by omega
  have hall:=lkEs_n e.kids (d+1) (n+1) (by omega) hn3
  have hlen:x.Kids_l=e.kids.length:=hx.len
  refine⟨λi c M'=>M.le M'/\0<=i/\i<=x.Kids_l/\0<=c/\c<=60/\lkEs (d+1) c (e.kids.drop i.toNat)=lkEs (d+1) (n+1) e.kids,λi _=>x.Kids_l-i.toNat,⟨Mem.le.refl M,by omega,by omega,by omega,by omega,rfl⟩,λi c M' ⟨hle,h0,hi,hc0,hc,heq⟩=>⟨λhlt=>?_,λhge=>?_⟩⟩
  ·obtain⟨k,hk⟩:=getI (l:=e.kids) h0 (by omega)
   obtain⟨b,o,y,ha,hat,hy,_⟩:=hx.kid hk
   refine⟨b,o,ha,h0,hlt,y,hat.le hle,by unfold InI;omega,?_⟩
   have hsz:=Ex.kid_lt (List.mem_of_getElem? hk)
   have hk2:=lkE_n k (d+1) c hc0 hc
   rw[drop_get hk,lkEs]at heq
   refine ih k (by omega) y M' (d+1) c _ (hy.le hle) (by omega) (by omega) hc0 hc λM2 hle2=>⟨_,rfl,λhne=>?_,λhe=>?_⟩
   ·rw[if_pos hne]at heq
    rw[hE,<-heq]at hK;exact hK M2 (hle.trans hle2)
   ·have he:(lkE (d+1) c k).1=0:=by simpa using he
    rw[if_neg (by omega)]at heq
    refine⟨by unfold InI;have:=hx.sl.max;omega,⟨hle.trans hle2,by omega,by omega,by omega,hk2.2.2 he,?_⟩,by dsimp only;omega⟩
    rw[<-heq];congr 2;omega
  ·have:i.toNat=e.kids.length:=by omega
   rw[this,List.drop_length,lkEs]at heq
   rw[<-heq]at hE
   rw[hE]at hK;exact hK M' hle
mutual
def preE (d:Int):Ex->List (Ex×Int)
 | .mk k s t ks=>(.mk k s t ks,d)::(if d<=12/\ks.length<=8 then preEs (d+1) ks else[])
def preEs (d:Int):List Ex->List (Ex×Int)
 |[]=>[]
 |k::ks=>preE d k++preEs d ks
end
def fitE (e:Ex):Bool:=fitX ⟨e.kind,e.set,e.text,none,e.kids.length,0⟩
def scan (n:Int):List (Ex×Int)->Int×Int
 |[]=>(0,n)
 |(e,d)::r=>if n+1>60 then(2,n+1) else if d>12 then(5,n+1) else if fitE e=false then(3,n+1) else scan (n+1) r
mutual
theorem scan_E:∀(e:Ex) (d n:Int) (r:List (Ex×Int)),scan n (preE d e++r)=if (lkE d n e).1≠0 then lkE d n e else scan (lkE d n e).2 r
 | .mk k s t ks,d,n,r=>by
  rw[preE,lkE,List.cons_append,scan]
  split
  ·rw[if_pos (by simp)]
  split
  ·rw[if_pos (by simp)]
  have hfe:fitE (.mk k s t ks)=fitX ⟨k,s,t,none,ks.length,0⟩:=rfl
  rw[hfe]
  split
  ·rw[if_pos (by simp)]
  rename_i hf
  have:=fitX_kids (x:=⟨k,s,t,none,ks.length,0⟩) (by simpa using hf)
  rw[if_pos ⟨by omega,this⟩]
  exact scan_Es ks (d+1) (n+1) r
theorem scan_Es:∀(es:List Ex) (d n:Int) (r:List (Ex×Int)),scan n (preEs d es++r)=if (lkEs d n es).1≠0 then lkEs d n es else scan (lkEs d n es).2 r
 |[],d,n,r=>by rw[preEs,lkEs];simp
 |k::ks,d,n,r=>by
  rw[preEs,lkEs,List.append_assoc,scan_E k d n]
  split
  ·rename_i h;first|rfl|(rw[if_pos h];done)|(rw[if_pos h];rfl)
  ·rename_i h
   exact scan_Es ks d _ r
end
def NdR (M:Mem) (p:Ex×Int) (x:X_chaffref_Node):Prop:=ExR M p.1 x.Expr/\x.Deep=p.2
theorem NdR.le {M M':Mem} {p:Ex×Int} {x:X_chaffref_Node} (h:NdR M p x) (hl:M.le M'):NdR M' p x:=⟨h.1.le hl,h.2⟩
theorem Xn_len (x:X_chaffref_Node):x.cells.length=8:=rfl
theorem Xn_one (x:X_chaffref_Node):∀u∈x.cells,u.oneCell'=true:=by
 intro u hu
 simp only[X_chaffref_Node.cells,List.mem_cons,List.not_mem_nil,or_false]at hu
 rcases hu with rfl|rfl|rfl|rfl|rfl|rfl|rfl|rfl<;>rfl
theorem nodes_is (e:Ex) (x:X_api_Expr) (M:Mem) (K:Value->Mem->Prop) (hR:ExR M e x)
  (hK:∀(M':Mem) (A:Option Addr) (c:Nat) (xs:List X_chaffref_Node),M.le M'->SlV M' A xs.length c 8 (cl X_chaffref_Node.cells xs)->All2 (NdR M') ((preE 1 e).take 61) xs->K (.slice A xs.length c) M'):S_chaffref_Nodes x M K:=by
 unfold S_chaffref_Nodes
 let all:=preE 1 e
 refine⟨λrn rx on ox M'=>∃(ps qs:List (Ex×Int)) (xs ys:List X_chaffref_Node),M.le M'/\rn=xs.length/\rx=cl X_chaffref_Node.cells xs/\on=ys.length/\ox=cl X_chaffref_Node.cells ys/\All2 (NdR M') ps xs/\All2 (NdR M') qs ys/\
   qs++ps.flatMap (λp=>preE p.2 p.1)=preE 1 e/\qs.length<=61/\ps.length<=1+8*qs.length/\(∀p∈ps,0<=p.2/\p.2<=13),λ_ _ on _=>61-on,
  ⟨[(e,1)],[],[⟨x,1⟩],[],Mem.le.refl M,rfl,(cl_one _).symm,rfl,rfl,⟨_,_,rfl,⟨hR,rfl⟩,rfl⟩,rfl,by simp,by simp,by simp,by simp⟩,?_⟩
 rintro rn rx on ox M' ⟨ps,qs,xs,ys,hle,rfl,rfl,rfl,rfl,hps,hqs,hall,hq,hp,hdeep⟩
 have hl1:=hps.length
 have hl2:=hqs.length
 have fin:(ps=[]\/qs.length=61)->∀b,b=false->S_chaffref_Nodes_J1 xs.length (cl X_chaffref_Node.cells xs) ys.length (cl X_chaffref_Node.cells ys) M' (λrn rx on ox M'=>∃(ps qs:List (Ex×Int)) (xs ys:List X_chaffref_Node),M.le M'/\rn=xs.length/\rx=cl X_chaffref_Node.cells xs/\on=ys.length/\ox=cl X_chaffref_Node.cells ys/\All2 (NdR M') ps xs/\All2 (NdR M') qs ys/\
   qs++ps.flatMap (λp=>preE p.2 p.1)=preE 1 e/\qs.length<=61/\ps.length<=1+8*qs.length/\(∀p∈ps,0<=p.2/\p.2<=13)) (λ_ _ on _=>61-on) b K:=by
  rintro hend b rfl
  refine⟨λh=>(by cases h),λ_ M2 A c hle2 hsl M3 hle3=>hK M3 A c ys ((hle.trans hle2).trans hle3) (hsl.le hle3) ?_⟩
  have:(preE 1 e).take 61=qs:=by
   rw[<-hall]
   rcases hend with rfl|h61
   ·simp only[List.flatMap_nil,List.append_nil];exact List.take_of_length_le hq
   ·rw[List.take_append,List.take_of_length_le hq,h61];simp
  rw[this]
  exact hqs.mono λp y h=>(h.le hle2).le hle3
 refine⟨λhpos=>?_,λhz=>fin (.inl ?_) _ rfl⟩
 rotate_left
 ·cases ps with
  |nil=>rfl
  |cons p r=>simp only[List.length_cons]at hl1;omega
 by_cases h61:qs.length<61
 rotate_left
 ·exact fin (.inr (by omega)) _ (decide_eq_false (by omega))
 rw[decide_eq_true (by omega)]
 refine⟨λ_=>?_,λh=>absurd rfl h⟩
 obtain⟨p,ps',rfl⟩:∃p r,ps=p::r:=by
  cases ps with
  |nil=>simp only[List.length_nil]at hl1;omega
  |cons p r=>exact⟨p,r,rfl⟩
 obtain⟨z,xs',rfl,hz,hxs'⟩:=hps
 refine⟨by omega,by simp only[List.length_cons];omega,z,cl_Cs Xn_len (i:=0) rfl,by omega,?_⟩
 obtain⟨k,d⟩:=p
 obtain⟨hzr,hzd⟩:=hz
 simp only at hzr hzd
 have hdd:=hdeep (k,d) (by simp)
 simp only at hdd
 obtain⟨zs,hzk⟩:=hzr.open
 have step:∀(ts:List Ex) (ws:List X_chaffref_Node),All2 (NdR M') (ts.map λt=>(t,d+1)) ws->preE d k=(k,d)::preEs (d+1) ts->ts.length<=8->(ts≠[]->d<=12)->
   S_chaffref_Nodes_J3 (xs'.length+1) (cl X_chaffref_Node.cells (z::xs')) ys.length (cl X_chaffref_Node.cells ys) M' (λrn rx on ox M'=>∃(ps qs:List (Ex×Int)) (xs ys:List X_chaffref_Node),M.le M'/\rn=xs.length/\rx=cl X_chaffref_Node.cells xs/\on=ys.length/\ox=cl X_chaffref_Node.cells ys/\All2 (NdR M') ps xs/\All2 (NdR M') qs ys/\
   qs++ps.flatMap (λp=>preE p.2 p.1)=preE 1 e/\qs.length<=61/\ps.length<=1+8*qs.length/\(∀p∈ps,0<=p.2/\p.2<=13)) (λ_ _ on _=>61-on) z ws.length (cl X_chaffref_Node.cells ws) K:=by
  intro ts ws hws hpre ht8 htd M2 A c hle2 hsl
  have hrest:=hsl.rest 1 (by omega)
  have e1:(1:Int).toNat=1:=rfl
  have hl3:=hws.length
  simp only[List.length_map]at hl3
  simp only[List.length_cons]at hp hl1
  rw[e1,cl_drop Xn_len 1]at*
  refine⟨by omega,by omega,_,hrest,cl_one' Xn_one _,by omega,⟨(ts.map λt=>(t,d+1))++ps',qs++[(k,d)],ws++xs',ys++[z],hle.trans hle2,by simp,?_,by simp,cl_snoc _ _,?_,?_,?_,?_,?_,?_⟩,by dsimp only;omega⟩
  ·rw[cl_append];rfl
  ·exact(hws.mono λ_ _ h=>h.le hle2).append (hxs'.mono λ_ _ h=>h.le hle2)
  ·exact(hqs.mono λ_ _ h=>h.le hle2).snoc ⟨hzr.le hle2,hzd⟩
  ·rw[<-hall,List.flatMap_append,List.append_assoc,List.flatMap_cons]
   simp only[hpre,List.cons_append,List.nil_append]
   congr 2
   congr 1
   clear hws hpre ht8 htd hl3
   induction ts with
   |nil=>rfl
   |cons t r ih=>rw[List.map_cons,List.flatMap_cons,preEs,ih]
  ·simp;omega
  ·simp;omega
  ·intro q hq'
   rcases List.mem_append.1 hq' with h|h
   ·obtain⟨t,htm,rfl⟩:=List.mem_map.1 h
    have:=htd (List.ne_nil_of_mem htm)
    simp only
    omega
   ·exact hdeep q (List.mem_cons_of_mem _ h)
 have hpre:preE d k=(k,d)::(if d<=12/\k.kids.length<=8 then preEs (d+1) k.kids else[]):=by
  obtain⟨a,b,c,ks⟩:=k
  rw[preE];rfl
 have no:¬(d<=12/\k.kids.length<=8)->∀b,b=false->S_chaffref_Nodes_J2 (xs'.length+1) (cl X_chaffref_Node.cells (z::xs')) ys.length (cl X_chaffref_Node.cells ys) M' (λrn rx on ox M'=>∃(ps qs:List (Ex×Int)) (xs ys:List X_chaffref_Node),M.le M'/\rn=xs.length/\rx=cl X_chaffref_Node.cells xs/\on=ys.length/\ox=cl X_chaffref_Node.cells ys/\All2 (NdR M') ps xs/\All2 (NdR M') qs ys/\
   qs++ps.flatMap (λp=>preE p.2 p.1)=preE 1 e/\qs.length<=61/\ps.length<=1+8*qs.length/\(∀p∈ps,0<=p.2/\p.2<=13)) (λ_ _ on _=>61-on) z b K:=by
  rintro hno b rfl
  rw[if_neg hno]at hpre
  exact⟨λh=>(by cases h),λ_=>step [] [] rfl (by rw[hpre,preEs]) (by simp) (λh=>absurd rfl h)⟩
 have hkl:z.Expr.Kids_l=k.kids.length:=hzk.len
 refine⟨λh12=>?_,λh12=>no (λh=>h12 (by omega)) _ rfl⟩
 by_cases h8:k.kids.length<=8
 rotate_left
 ·exact no (λh=>h8 h.2) _ (decide_eq_false (by omega))
 rw[decide_eq_true (by omega)]
 refine⟨λ_=>?_,λh=>absurd rfl h⟩
 rw[if_pos ⟨by omega,h8⟩]at hpre
 refine⟨λi rn rx=>∃ws:List X_chaffref_Node,0<=i/\i<=z.Expr.Kids_l/\rn=ws.length/\rx=cl X_chaffref_Node.cells ws/\All2 (NdR M') ((k.kids.take i.toNat).map λt=>(t,d+1)) ws,λi _ _=>z.Expr.Kids_l-i.toNat,⟨[],by omega,by omega,rfl,rfl,rfl⟩,?_⟩
 rintro i rn rx ⟨ws,h0,hi,rfl,rfl,hws⟩
 have hwl:=hws.length
 simp only[List.length_map,List.length_take]at hwl
 refine⟨λhlt=>?_,λhge=>?_⟩
 ·obtain⟨t,ht⟩:=getI (l:=k.kids) h0 (by omega)
  obtain⟨b,o,y,ha,hat,hy,_⟩:=hzk.kid ht
  refine⟨b,o,ha,h0,hlt,y,hat,by unfold InI;omega,by omega,by unfold InI;omega,⟨ws++[⟨y,z.Deep+1⟩],by omega,by omega,by simp,cl_snoc _ _,?_⟩,by dsimp only;omega⟩
  have:(i+1).toNat=i.toNat+1:=by omega
  rw[this,take_get ht,List.map_append]
  exact hws.snoc ⟨hy,by simp only;omega⟩
 ·have:i.toNat=k.kids.length:=by omega
  rw[this,List.take_length]at hws
  exact step k.kids ws hws hpre h8 λ_=>by omega
theorem scan_take:∀(l:List (Ex×Int)) (n:Int),0<=n->n<=60->scan n (l.take (61-n.toNat))=scan n l
 |[],n,_,_=>by simp
 |(e,d)::r,n,h0,h1=>by
  rw[show 61-n.toNat=(60-n.toNat)+1 by omega,List.take_succ_cons,scan,scan]
  split
  ·rfl
  ·split
   ·rfl
   ·split
    ·rfl
    ·rename_i h _ _
     rw[<-scan_take r (n+1) (by omega) (by omega),show 61-(n+1).toNat=60-n.toNat by omega]
def exErr (e:Ex):Int:=(lkE 1 0 e).1
theorem exErr_scan (e:Ex):(scan 0 ((preE 1 e).take 61)).1=exErr e:=by
 have h1:=scan_take (preE 1 e) 0 (by omega) (by omega)
 have h2:=scan_E e 1 0 []
 rw[List.append_nil]at h2
 rw[show(0:Int).toNat=0 from rfl,Nat.sub_zero]at h1
 rw[h1,h2,exErr]
 split
 ·rfl
 ·rename_i h;simp only[scan];simpa using(Eq.symm (by simpa using h):(0:Int)=(lkE 1 0 e).1)
theorem rexpr_is (e:Ex) (x:X_api_Expr) (M:Mem) (K:Value->Prop) (hR:ExR M e x) (hK:K (.int .i64 (exErr e))):S_chaffref_Expr x M K:=by
 unfold S_chaffref_Expr
 refine s_chaffref_Nodes _ _ _ (nodes_is e x M _ hR λM' A c xs hle hsl hall=>⟨_,_,_,rfl,?_⟩)
 have hl:=hall.length
 have hl61:xs.length<=61:=by rw[hl,List.length_take];omega
 rw[<-exErr_scan]at hK
 refine⟨λi=>0<=i/\i<=xs.length/\i<=60/\scan i (((preE 1 e).take 61).drop i.toNat)=scan 0 ((preE 1 e).take 61),λi=>xs.length-i.toNat,⟨by omega,by omega,by omega,rfl⟩,λi ⟨h0,h1,h60,heq⟩=>⟨λhlt=>?_,λhge=>?_⟩⟩
 ·obtain⟨p,hp⟩:=getI (l:=(preE 1 e).take 61) h0 (by omega)
  obtain⟨y,hy,hr,hd⟩:=hall.get hp
  obtain⟨b,o,ha,hat⟩:=hsl.at Xn_len rfl hy
  rw[drop_get hp]at heq
  obtain⟨k,d⟩:=p
  simp only[scan]at heq
  obtain⟨zs,hzk⟩:=hr.open
  have hfe:fitX y.Expr=fitE k:=fitX_cells hzk
  refine⟨b,o,ha,h0,hlt,y,hat,λh=>?_,λh=>⟨λh2=>?_,λh2=>?_⟩⟩
  ·rw[if_pos (by omega)]at heq;rw[<-heq]at hK;exact hK
  ·simp only at hd
   rw[if_neg (by omega),if_pos (by omega)]at heq;rw[<-heq]at hK;exact hK
  simp only at hd
  rw[if_neg (by omega),if_neg (by omega)]at heq
  refine s_chaffref_right _ _ _ (right_is y.Expr (by rw[hzk.text];exact hzk.ht) _ _ ⟨_,rfl,λhf=>?_,λhf=>?_⟩)
  ·have hf:fitX y.Expr=false:=by simpa using hf
   rw[if_pos (by rw[<-hfe];exact hf)]at heq;rw[<-heq]at hK;exact hK
  ·have hf:fitX y.Expr=true:=by simpa using hf
   rw[if_neg (by rw[<-hfe,hf];simp)]at heq
   refine⟨by unfold InI;omega,⟨by omega,by omega,by omega,?_⟩,by dsimp only;omega⟩
   rw[<-heq];congr 2;omega
 ·have:i.toNat=((preE 1 e).take 61).length:=by omega
  rw[this,List.drop_length]at heq
  rw[<-heq]at hK;exact hK
theorem echeck_is (e:Ex) (x:X_api_Expr) (M:Mem) (K:Value->Prop) (hR:ExR M e x) (hK:K (.int .i64 (exErr e))):S_expr_Check x M K:=by
 unfold S_expr_Check
 exact look_is _ e (Nat.lt_succ_self _) x M 1 0 _ hR (by omega) (by omega) (by omega) (by omega) λM' _=>⟨_,rfl,hK⟩
open Go.Shelf Go.Proofs
attribute [local go_sem] Oper.semAt_some
structure KpE (n₀:Nat) (A B:World):Prop where
 bel:Below n₀ A B
 ex:∀(k:Nat) (cs:Array Value) (m:_),A.heap[k]?=some (.cells cs 27 m)->B.heap[k]?=some (.cells cs 27 m)
theorem KpE.refl (n₀:Nat) (A:World):KpE n₀ A A:=⟨Below.refl _ _,λ_ _ _ h=>h⟩
theorem KpE.trans {n₀:Nat} {A B C:World} (h:KpE n₀ A B) (k:KpE n₀ B C):KpE n₀ A C:=⟨h.bel.trans k.bel,λi cs m q=>k.ex i cs m (h.ex i cs m q)⟩
theorem KpE.alloc {n₀:Nat} {A B:World} (h:KpE n₀ A B) (hn:n₀<=A.heap.size) (o:Obj):KpE n₀ A (B.alloc o):=
 ⟨h.bel.alloc (Nat.le_trans hn h.bel.size) o,λi cs m q=>by have:=h.ex i cs m q;rwa [Below.heap_alloc _ _ _ (Array.getElem?_eq_some_iff.1 this).1]⟩
theorem succ_wrap {j:Nat} (h:j<9223372036854775807):wrap64 ((j:Int)+1)=((j+1:Nat):Int):=by
 unfold wrap64;omega
theorem dec_m {j m:Nat} (h:j<m):m-(j+1)<m-j:=by omega
mutual
def flatE:Ex->List Ex
 | .mk k s t ks=>.mk k s t ks::flatEs ks
def flatEs:List Ex->List Ex
 |[]=>[]
 |k::ks=>flatE k++flatEs ks
end
theorem flatEs_take (ks:List Ex) (i:Nat) (k:Ex) (h:ks[i]?=some k):flatEs (ks.take (i+1))=flatEs (ks.take i)++flatE k:=by
 induction ks generalizing i with
 |nil=>simp at h
 |cons a r ih=>
  cases i with
  |zero=>simp at h;subst h;simp[flatEs]
  |succ i=>rw[List.take_succ_cons,List.take_succ_cons,flatEs,flatEs,ih i (by simpa using h),List.append_assoc]
theorem flatEs_app (a b:List Ex):flatEs (a++b)=flatEs a++flatEs b:=by
 induction a with
 |nil=>simp[flatEs]
 |cons x r ih=>simp[flatEs,ih]
theorem On.keep {V:Mem} {n₀:Nat} (hV:∀b o,V b=some o->b<n₀) {A B:World} (h:On V A) (hk:Below n₀ A B):On V B:=λb o q=>(hk.block b (hV b o q)).trans (h b o q)
abbrev XT:={x:X_api_Expr // x.Text.length<=maxLen}
def ExT (V:Mem) (e:Ex) (x:XT):Prop:=ExR V e x.1
set_option maxRecDepth 100000 in
set_option maxHeartbeats 2000000 in
theorem all_in (l n₀ N:Nat) (V:Mem) (hV:∀b o,V b=some o->b<n₀) (J Jx:List XT->World->Prop) (hJ:∀s W W',J s W->W.grownBy W' none->J s W')
  (hY:∀m pre x W,J pre W->pre.length<N->YieldAt Fence.wide m Try.prog l #[x.1.val] W λe W'=>
   (e= .returned (.bool true)/\J (pre++[x]) W'/\KpE n₀ W W')\/(e= .returned (.bool false)/\Jx (pre++[x]) W'))
  (t:Ex):∀(n:Nat) (x:X_api_Expr) (pre:List XT) (W:World) (hR:ExR V t x) (hon:On V W) (hn:n₀<=W.heap.size) (h0:J pre W) (hl:pre.length+(flatE t).length<=N),
  CallsIn Fence.wide n Try.prog 82 #[x.val,.func (.yield l) #[] #[]] W λe W'=>
   (e= .returned (.bool true)/\(∃xs,All2 (ExT V) (flatE t) xs/\J (pre++xs) W')/\KpE n₀ W W')\/(e= .returned (.bool false)/\∃q,Jx q W'):=by
 induction h:SizeOf.sizeOf t using Nat.strongRecOn generalizing t with
 |_ sz ih=>
 subst h
 intro n x pre W hR hon hn h0 hl
 have hR0:=hR
 obtain⟨ys,hE⟩:=hR.open
 have hfl:(flatE t).length=1+(flatEs t.kids).length:=by obtain⟨a,b,c,d⟩:=t;simp[flatE,Ex.kids];omega
 have hxT:x.Text.length<=maxLen:=by rw[hE.text];exact hE.ht
 have hy0:=hY (n-1) pre ⟨x,hxT⟩ (W.alloc (.cells x.cells.toArray 27)) (hJ _ _ _ h0 (World.grownBy_alloc W _ none)) (by omega)
 obtain⟨fn,tmps,assign,body,hy,hRd⟩:=hy0
 have hRd:=hRd.mono (R':=λe W'=>(e= .returned (.bool true)/\J (pre++[⟨x,hxT⟩]) W'/\KpE n₀ W W'/\W'.cell? ⟨W.heap.size,6,none⟩=some (.slice x.Kids_a x.Kids_l x.Kids_c))\/(e= .returned (.bool false)/\Jx (pre++[⟨x,hxT⟩]) W')) (by
  rintro e W' (⟨h1,h2,h3⟩|h)
  ·refine .inl ⟨h1,h2,((KpE.refl n₀ W).alloc hn _).trans h3,?_⟩
   have:=h3.ex W.heap.size x.cells.toArray (0,0) (World.alloc_heap_new W _)
   simp[World.cell?,this,X_api_Expr.cells]
  ·exact .inr h)
 refine callsIn_of_wp Try.func82 rfl trivial ?_ rfl
 obtain⟨k,⟨s0,s1,s2,s3⟩,tx,ka,kl,kc⟩:=x
 obtain rfl:kl=t.kids.length:=hE.len
 simp only[Try.ntmps82,X_api_Expr.val,X_api_Expr.cells,List.size_toArray,List.length_cons,List.length_nil,Nat.reduceAdd,Nat.reduceSub,Array.replicate_succ,Array.replicate_zero,List.push_toArray,List.append_toArray,List.nil_append,List.cons_append]at hy hRd ⊢
 gi_wp2
 refine⟨λh=>(by cases h),hRd.mono ?_⟩
 rintro e W1 (⟨rfl,hJ1,hk1,c6⟩|⟨rfl,hJx1⟩)
 ·gi_wp2
  gi_loopw [14] (λi wr=>∃j:Nat,i= .int .i64 j/\j<=t.kids.length/\(∃xs,All2 (ExT V) (t::flatEs (t.kids.take j)) xs/\J (pre++xs) wr)/\KpE n₀ W wr)
   (λi _=>t.kids.length-(intOf i).toNat)
  case atStart=>exact⟨0,rfl,Nat.zero_le _,⟨[⟨_,hxT⟩],⟨_,_,rfl,(show ExT V t ⟨_,hxT⟩ from hR0),by simp[flatEs,All2]⟩,hJ1⟩,hk1⟩
  case round=>
   obtain⟨j,rfl,hj,⟨xs,hxs,hJs⟩,hks⟩:=hrel
   by_cases hlt:j<t.kids.length
   ·have hkid:t.kids[j]?=some (t.kids[j]'(by omega)):=List.getElem?_eq_getElem (by omega)
    obtain⟨b,o,y,hA,hat,hRy,_⟩:=hE.kid hkid
    simp only at hA
    subst hA
    have hon2:=On.keep hV hon hks.bel
    obtain⟨k',⟨s0',s1',s2',s3'⟩,tx',ka',kl',kc'⟩:=y
    have l0:wr.cell? ⟨b,o+j*7,none⟩=some (.int .i64 k'):=hon2.cell (hat 0 _ rfl)
    have l1:wr.cell? ⟨b,o+j*7+1,none⟩=some (.int .u64 s0'):=hon2.cell (hat 1 _ rfl)
    have l2:wr.cell? ⟨b,o+j*7+2,none⟩=some (.int .u64 s1'):=hon2.cell (hat 2 _ rfl)
    have l3:wr.cell? ⟨b,o+j*7+3,none⟩=some (.int .u64 s2'):=hon2.cell (hat 3 _ rfl)
    have l4:wr.cell? ⟨b,o+j*7+4,none⟩=some (.int .u64 s3'):=hon2.cell (hat 4 _ rfl)
    have l5:wr.cell? ⟨b,o+j*7+5,none⟩=some (.string (mkS tx')):=hon2.cell (hat 5 _ rfl)
    have l6:wr.cell? ⟨b,o+j*7+6,none⟩=some (.slice ka' kl' kc'):=hon2.cell (hat 6 _ rfl)
    have hlen:(flatEs (t.kids.take (j+1))).length<=(flatEs t.kids).length:=by
     have:=flatEs_app (t.kids.take (j+1)) (t.kids.drop (j+1))
     rw[List.take_append_drop]at this
     rw[this,List.length_append];omega
    have hsn:=flatEs_take t.kids j _ hkid
    have hxl:=hxs.length
    simp only[List.length_cons]at hxl
    have hsz:n₀<=wr.heap.size:=Nat.le_trans hn hks.bel.size
    gi_wp2
    refine⟨trivial,λh=>(by cases h),?_⟩
    refine(ih _ (Ex.kid_lt (List.mem_of_getElem? hkid)) (t.kids[j]'(by omega)) rfl (n-1) _ (pre++xs) _ hRy (On.keep hV hon2 ((KpE.refl n₀ wr).alloc hsz _).bel) (by simp;omega) (hJ _ _ _ hJs (World.grownBy_alloc wr _ none))
     (by rw[List.length_append,hxl];rw[hsn,List.length_append]at hlen;omega)).mono ?_
    have hw:wrap64 ((j:Int)+1)=((j+1:Nat):Int):=succ_wrap (Nat.lt_of_lt_of_le hlt hE.sl.max)
    rintro e W2 (⟨rfl,⟨zs,hzs,hJ2⟩,hk2⟩|⟨rfl,q,hJx2⟩)
    ·gi_wp2
     rw[hw]
     go_roundw
     case rel=>
      refine⟨j+1,rfl,hlt,⟨xs++zs,?_,?_⟩,(hks.alloc hn _).trans hk2⟩
      ·rw[hsn];exact hxs.append hzs
      ·rw[<-List.append_assoc];exact hJ2
     case measure=>
      simp[intOf]
      exact dec_m hlt
    ·gi_wp2
     refine bodyPost_ret (results_tmp rfl _ _ _) rfl ?_
     exact .inr ⟨rfl,q,hJx2⟩
   ·obtain rfl:j=t.kids.length:=by omega
    gi_wp2
    refine bodyPost_ret (results_tmp rfl _ _ _) rfl ?_
    refine .inl ⟨rfl,⟨xs,?_,hJs⟩,hks⟩
    rw[List.take_length]at hxs
    have:flatE t=t::flatEs t.kids:=by obtain⟨a,b,c,d⟩:=t;rw[flatE];rfl
    rw[this];exact hxs
 ·gi_wp2
  refine bodyPost_ret (results_tmp rfl _ _ _) rfl ?_
  exact .inr ⟨rfl,_,hJx1⟩
theorem YieldAt.deep {m:Nat} (m':Nat) {P:Program} {l:Nat} {args:Array Value} {W:World} {R:Ending->World->Prop} (h:YieldAt Fence.wide m P l args W R):YieldAt Fence.wide m' P l args W R:=by
 obtain⟨fn,tmps,assign,body,hy,hR⟩:=h
 exact⟨fn,tmps,assign,body,hy,hR.1,λc cs _=>hR.2 c cs (room_wide _)⟩
set_option maxHeartbeats 1000000 in
theorem all1_in (l n₀ N:Nat) (V:Mem) (hV:∀b o,V b=some o->b<n₀) (J Jx:List XT->World->Prop) (hJ:∀s W W',J s W->W.grownBy W' none->J s W')
  (hY:∀m pre x W,J pre W->pre.length<N->YieldAt Fence.wide m Try.prog l #[x.1.val] W λe W'=>
   (e= .returned (.bool true)/\J (pre++[x]) W'/\KpE n₀ W W')\/(e= .returned (.bool false)/\Jx (pre++[x]) W'))
  (t:Ex) (n:Nat) (x:X_api_Expr) (B:Nat) (W:World) (hB:W.heap[B]?=some (.cells x.cells.toArray 27 (0,0))) (hR:ExR V t x) (hon:On V W) (hn:n₀<=W.heap.size) (h0:J [] W) (hl:(flatE t).length<=N):
  CallsIn Fence.wide n Try.prog 81 #[.func (.yield l) #[] #[],.pointer (some ⟨B,0,none⟩)] W λe W'=>(∃v,e= .returned v)/\
   ((∃xs,All2 (ExT V) (flatE t) xs/\J xs W')\/(∃q,True/\Jx q W')):=by
 have hc:=all_in l n₀ N V hV J Jx hJ hY t (n-1) x [] W hR hon hn h0 (by simpa using hl)
 have c0:∀i,W.cell? ⟨B,i,none⟩=x.cells[i]?:=λi=>by simp[World.cell?,hB]
 obtain⟨k,⟨s0,s1,s2,s3⟩,tx,ka,kl,kc⟩:=x
 have l0:W.cell? ⟨B,0,none⟩=some (.int .i64 k):=c0 0
 have l1:W.cell? ⟨B,1,none⟩=some (.int .u64 s0):=c0 1
 have l2:W.cell? ⟨B,2,none⟩=some (.int .u64 s1):=c0 2
 have l3:W.cell? ⟨B,3,none⟩=some (.int .u64 s2):=c0 3
 have l4:W.cell? ⟨B,4,none⟩=some (.int .u64 s3):=c0 4
 have l5:W.cell? ⟨B,5,none⟩=some (.string (mkS tx)):=c0 5
 have l6:W.cell? ⟨B,6,none⟩=some (.slice ka kl kc):=c0 6
 clear c0
 refine callsIn_of_wp Try.func81 rfl trivial ?_ rfl
 simp only[Try.ntmps81,X_api_Expr.val,X_api_Expr.cells,List.size_toArray,List.length_cons,List.length_nil,Nat.reduceAdd,Nat.reduceSub,Array.replicate_succ,Array.replicate_zero,List.push_toArray,List.append_toArray,List.nil_append,List.cons_append]at hc ⊢
 gi_wp2
 refine⟨trivial,λh=>(by cases h),hc.mono ?_⟩
 rintro e W1 (⟨rfl,⟨xs,hxs,hJ1⟩,_⟩|⟨rfl,q,hx⟩)
 ·gi_wp2
  go_end0
  exact⟨⟨_,rfl⟩,.inl ⟨xs,hxs,hJ1⟩⟩
 ·gi_wp2
  go_end0
  exact⟨⟨_,rfl⟩,.inr ⟨q,trivial,hx⟩⟩
set_option maxHeartbeats 1000000 in
theorem all_mk (n:Nat) (x:X_api_Expr) (w:World):
  CallsIn Fence.wide n Try.prog 67 #[x.val] w λe w'=>e= .returned (.func (.func 81) #[] #[.pointer (some ⟨w.heap.size,0,none⟩)])/\w'=w.alloc (.cells x.cells.toArray 27):=by
 refine callsIn_of_wp Try.func67 rfl trivial ?_ rfl
 obtain⟨k,⟨s0,s1,s2,s3⟩,tx,ka,kl,kc⟩:=x
 simp only[Try.ntmps67,X_api_Expr.val,X_api_Expr.cells,List.size_toArray,List.length_cons,List.length_nil,Nat.reduceAdd,Nat.reduceSub,Array.replicate_succ,Array.replicate_zero,List.push_toArray,List.append_toArray,List.nil_append,List.cons_append]
 gi_wp2
 go_ret
 exact⟨rfl,rfl⟩
theorem all_stops (n:Nat) (V:Mem) (n₀:Nat) (hV:∀b o,V b=some o->b<n₀) (t:Ex) (x:X_api_Expr) (B:Nat) (w:World) (hB:w.heap[B]?=some (.cells x.cells.toArray 27 (0,0))) (hR:ExR V t x) (hon:On V w) (hn:n₀<=w.heap.size):
  SeqStopsK Fence.wide n Try.prog 81 #[.pointer (some ⟨B,0,none⟩)] (λx:XT=> #[x.1.val]) (KpE n₀) (λxs=>All2 (ExT V) (flatE t) xs) (λ_=>True) (flatE t).length w:=λl J Jx W hW hJ _ hY h0=>
 all1_in l n₀ _ V hV J Jx (λs A B' hs hg=>hJ s A B' none hs hg (λr e=>by cases e)) (λm pre x W1 hj hl=>YieldAt.deep m (hY pre x W1 hj hl)) t n x B W ((hW.block B (Array.getElem?_eq_some_iff.1 hB).1).trans hB) hR (On.keep hV hon (hW.mono hn)) (Nat.le_trans hn hW.size) h0 (Nat.le_refl _)
theorem KpE.put {n₀:Nat} {A:World} {l:Nat} {o o':Obj} (hn:n₀<=l) (hl:A.heap[l]?=some o) (ho:o.isCells=false) (hw:o.isWalk=false):KpE n₀ A (A.putObj l o'):=by
 have hlt:=(Array.getElem?_eq_some_iff.1 hl).1
 refine⟨(Below.refl n₀ A).grown (grownBy_putObj' A l o') (by omega) (λk e=>by cases e;exact hn),λk cs m h=>?_⟩
 have hne:k≠l:=by rintro rfl;rw[h]at hl;cases hl;simp[Obj.isCells]at ho
 exact((grownBy_putObj' A l o').block k (Array.getElem?_eq_some_iff.1 h).1 (by simpa using hne)).trans h
def sv (s:List UInt8):Value:=.string (mkS s)
def outStep (acc:List (List UInt8)) (x:XT):List (List UInt8):=if x.1.Kind=4/\x.1.Text∉acc then acc++[x.1.Text] else acc
def outsF (xs:List XT):List (List UInt8):=xs.foldl outStep []
theorem outsF_snoc (pre:List XT) (x:XT):outsF (pre++[x])=outStep (outsF pre) x:=by simp[outsF]
def seenD (l:List (List UInt8)):DataW Unit:=l.foldl (λD s=>D.put (.string s) (.lit (.int .i64 1))) (.map [])
theorem seenD_snoc (l:List (List UInt8)) (s:List UInt8):seenD (l++[s])=(seenD l).put (.string s) (.lit (.int .i64 1)):=by simp[seenD]
theorem outsF_len (pre:List XT):(outsF pre).length<=pre.length:=by
 have:∀(l:List XT) (acc:List (List UInt8)),(l.foldl outStep acc).length<=acc.length+l.length:=by
  intro l
  induction l with
  |nil=>intro acc;simp
  |cons x r ih=>
   intro acc
   have:=ih (outStep acc x)
   have h2:(outStep acc x).length<=acc.length+1:=by unfold outStep;split<;>simp
   simp only[List.foldl_cons,List.length_cons];omega
 simpa[outsF]using this pre []
theorem KpE.grown {n₀:Nat} {A B:World} {row:Option Nat} (hg:A.grownBy B row) (hn:n₀<=A.heap.size) (hrow:∀j,row=some j->n₀<=j/\∀cs m,A.heap[j]?≠some (.cells cs 27 m)):KpE n₀ A B:=
 ⟨(Below.refl n₀ A).grown hg hn (λk e=>(hrow k e).1),λk cs m h=>(hg.block k (Array.getElem?_eq_some_iff.1 h).1 (λe=>(hrow k e.symm).2 cs m h)).trans h⟩
theorem seen_gen (s:List UInt8) (z:DataW Unit):∀(l:List (List UInt8)) (D:DataW Unit),Maps.IsMap D->(l.foldl (λD s=>D.put (.string s) (.lit (.int .i64 1))) D).atKey (.string s) z=if s∈l then .lit (.int .i64 1) else D.atKey (.string s) z
 |[],D,_=>by simp
 |a::r,D,hD=>by
  rw[List.foldl_cons,seen_gen s z r _ (hD.put _ _)]
  by_cases hr:s∈r
  ·simp[hr]
  ·rw[if_neg hr]
   by_cases ha:s=a
   ·subst ha;rw[if_pos (by simp),Maps.atKey_put_same hD (by simp[WideAt.IsKeyLit])]
   ·rw[if_neg (by simp[ha,hr]),Maps.atKey_put_other (by simpa using ha)]
theorem seen_at (l:List (List UInt8)) (s:List UInt8):(seenD l).atKey (.string s) (.lit (.int .i64 0))= .lit (.int .i64 (if s∈l then 1 else 0)):=by
 rw[seenD,seen_gen s _ l _ ⟨[],rfl⟩]
 split<;>rfl
theorem row_kp {W:World} {base e size k t:Nat} {v:Value} {xs:List Value} (h:W.ownsRow base e size v k xs) (ht:e≠t):∀j,v.ownBlock=some j->base<=j/\∀cs m,W.heap[j]?≠some (.cells cs t m):=λj e'=>by
 rcases h.2 with⟨rfl,_⟩|⟨g,cap,cur,rfl,hb,hgb,_⟩
 ·simp[Value.ownBlock]at e'
 ·obtain rfl:g=j:=by simpa[Value.ownBlock]using e'
  refine⟨hb,λcs m h=>?_⟩
  rw[h]at hgb;cases hgb;exact ht rfl
theorem row_base {W:World} {base base' e size k:Nat} {v:Value} {xs:List Value} (h:W.ownsRow base e size v k xs) (hb:base'<=base):W.ownsRow base' e size v k xs:=by
 refine⟨h.1,?_⟩
 rcases h.2 with q|⟨g,cap,cur,rfl,hg,rest⟩
 ·exact .inl q
 ·exact .inr ⟨g,cap,cur,rfl,Nat.le_trans hb hg,rest⟩
def refStep (acc:List (List UInt8)) (e:Ex):List (List UInt8):=if e.kind=4/\e.text∉acc then acc++[e.text] else acc
def refsE (t:Ex):List (List UInt8):=(flatE t).foldl refStep []
theorem outs_gen {V:Mem}:∀(es:List Ex) (xs:List XT) (acc:List (List UInt8)),All2 (ExT V) es xs->xs.foldl outStep acc=es.foldl refStep acc
 |[],xs,acc,h=>by have:=h.length;simp at this;subst this;rfl
 |e::es,xs,acc,h=>by
  obtain⟨x,r,rfl,hx,hr⟩:=h
  obtain⟨ys,hE⟩:=ExR.open hx
  have:outStep acc x=refStep acc e:=by unfold outStep refStep;rw[hE.kind,hE.text]
  rw[List.foldl_cons,List.foldl_cons,this,outs_gen es r _ hr]
theorem outs_refs {V:Mem} {t:Ex} {xs:List XT} (h:All2 (ExT V) (flatE t) xs):outsF xs=refsE t:=outs_gen _ _ _ h
theorem row_not_map {W:World} {base e size k b n:Nat} {v:Value} {xs:List Value} {P:Program} {kt:TypeId} {Rr:Value->Option (DataW Unit×List MemPlace)} {D:DataW Unit} (h:W.ownsRow base e size v k xs) (hm:W.ownsMap P kt Rr b n D):some b≠v.ownBlock:=by
 obtain⟨es,ck,hb,_⟩:=hm
 rcases h.2 with⟨rfl,_⟩|⟨g,cap,cur,rfl,_,hgb,_⟩
 ·simp[Value.ownBlock]
 ·intro e'
  obtain rfl:b=g:=by simpa[Value.ownBlock]using e'
  rw[hgb]at hb;cases hb
set_option maxRecDepth 100000 in
set_option maxHeartbeats 2000000 in
theorem refs_in (V:Mem) (t:Ex) (x:X_api_Expr) (er:Int) (hC:CallE Try.prog 12 #[x.val] V (λv _=>v= .int .i64 er)) (hlen:er=0->(flatE t).length<=60) (w:World) (hon:On V w) (hR:ExR V t x) (R:Ending->World->Prop)
  (hR1:er≠0->∀W,Below w.heap.size w W->R (.returned (.tuple #[.slice none 0 0,.int .i64 er])) W)
  (hR2:er=0->∀W v,Below w.heap.size w W->W.ownsRow w.heap.size 9 1 v (refsE t).length ((refsE t).map sv)->(v= .slice none 0 0↔refsE t=[])->R (.returned (.tuple #[v,.int .i64 0])) W):
  CallsIn Fence.wide 3 Try.prog 48 #[x.val] w R:=by
 have hmm:= @run_makeMap Try.prog
 have hC':=hC (w.alloc (.cells x.cells.toArray 27)) (On.keep (λb o h=>hon.lt h) hon ((Below.refl _ w).alloc (Nat.le_refl _) _))
 refine callsIn_of_wp_marks Try.func48 rfl trivial ?_ rfl
 obtain⟨k,⟨s0,s1,s2,s3⟩,tx,ka,kl,kc⟩:=x
 simp only[Try.ntmps48,X_api_Expr.val,X_api_Expr.cells,List.size_toArray,List.length_cons,List.length_nil,Nat.reduceAdd,Nat.reduceSub,Array.replicate_succ,Array.replicate_zero,List.push_toArray,List.append_toArray,List.nil_append,List.cons_append]at hC' ⊢
 gi_wp2
 refine⟨trivial,(callsIn_wide.2 hC').mono ?_⟩
 rintro e W ⟨v,rfl,hbW,rfl⟩
 have bX:W.heap[w.heap.size]?=some (.cells #[.int .i64 k,.int .u64 s0,.int .u64 s1,.int .u64 s2,.int .u64 s3,.string (mkS tx),.slice ka kl kc] 27 (0,0)):=
  (hbW.block w.heap.size (by simp)).trans (World.alloc_heap_new w _)
 have c0:∀i,W.cell? ⟨w.heap.size,i,none⟩=(#[Value.int .i64 k,.int .u64 s0,.int .u64 s1,.int .u64 s2,.int .u64 s3,.string (mkS tx),.slice ka kl kc]:Array Value)[i]?:=λi=>by simp[World.cell?,bX]
 have l0:W.cell? ⟨w.heap.size,0,none⟩=some (.int .i64 k):=c0 0
 have l1:W.cell? ⟨w.heap.size,1,none⟩=some (.int .u64 s0):=c0 1
 have l2:W.cell? ⟨w.heap.size,2,none⟩=some (.int .u64 s1):=c0 2
 have l3:W.cell? ⟨w.heap.size,3,none⟩=some (.int .u64 s2):=c0 3
 have l4:W.cell? ⟨w.heap.size,4,none⟩=some (.int .u64 s3):=c0 4
 have l5:W.cell? ⟨w.heap.size,5,none⟩=some (.string (mkS tx)):=c0 5
 have l6:W.cell? ⟨w.heap.size,6,none⟩=some (.slice ka kl kc):=c0 6
 clear c0
 have hb1:Below w.heap.size w W:=((Below.refl _ w).alloc (Nat.le_refl _) _).trans (hbW.mono (by simp))
 have hsz:w.heap.size<W.heap.size:=by have:=hbW.size;simp at this;omega
 by_cases her:er=0
 ·subst her
  have hB3:Below W.heap.size W (((W.alloc (.cells #[.slice none 0 0] 84)).alloc (.map #[] 0)).alloc (.cells #[.map (some (W.heap.size+1))] 104)):=(((Below.refl _ W).alloc (Nat.le_refl _) _).alloc (by simp) _).alloc (by simp;omega) _
  have m0:=(hB3.cell (p:=⟨w.heap.size,0,none⟩) hsz).trans l0
  have m1:=(hB3.cell (p:=⟨w.heap.size,1,none⟩) hsz).trans l1
  have m2:=(hB3.cell (p:=⟨w.heap.size,2,none⟩) hsz).trans l2
  have m3:=(hB3.cell (p:=⟨w.heap.size,3,none⟩) hsz).trans l3
  have m4:=(hB3.cell (p:=⟨w.heap.size,4,none⟩) hsz).trans l4
  have m5:=(hB3.cell (p:=⟨w.heap.size,5,none⟩) hsz).trans l5
  have m6:=(hB3.cell (p:=⟨w.heap.size,6,none⟩) hsz).trans l6
  have hmk:=all_mk 2 ⟨k,⟨s0,s1,s2,s3⟩,tx,ka,kl,kc⟩ (((W.alloc (.cells #[.slice none 0 0] 84)).alloc (.map #[] 0)).alloc (.cells #[.map (some (W.heap.size+1))] 104))
  simp only[X_api_Expr.val,X_api_Expr.cells]at hmk
  gi_wp2
  refine⟨trivial,hmk.mono ?_⟩
  rintro e w' ⟨rfl,rfl⟩
  gi_wp2
  have hw4:((((W.alloc (.cells #[.slice none 0 0] 84)).alloc (.map #[] 0)).alloc (.cells #[.map (some (W.heap.size+1))] 104)).alloc (.cells #[.int .i64 k,.int .u64 s0,.int .u64 s1,.int .u64 s2,.int .u64 s3,.string (mkS tx),.slice ka kl kc] 27)).heap.size=W.heap.size+4:=by simp
  have hB4:=hB3.alloc hB3.size (.cells #[.int .i64 k,.int .u64 s0,.int .u64 s1,.int .u64 s2,.int .u64 s3,.string (mkS tx),.slice ka kl kc] 27)
  refine wpIn_rangeFunc_ownH rfl (by omega) (gf:=81) (lb:= #[.pointer (some ⟨W.heap.size+1+1+1,0,none⟩)]) rfl trivial (enters_of Try.func81 (by kernel_rfl) rfl)
   (all_stops 2 V W.heap.size (λb o h=>Nat.lt_trans (hon.lt h) hsz) t ⟨k,⟨s0,s1,s2,s3⟩,tx,ka,kl,kc⟩ (W.heap.size+1+1+1) _ (by have:=World.alloc_heap_new (((W.alloc (.cells #[.slice none 0 0] 84)).alloc (.map #[] 0)).alloc (.cells #[.map (some (W.heap.size+1))] 104)) (.cells #[.int .i64 k,.int .u64 s0,.int .u64 s1,.int .u64 s2,.int .u64 s3,.string (mkS tx),.slice ka kl kc] 27);rwa [World.size_alloc,World.size_alloc,World.size_alloc]at this) hR
    (On.keep (λb o h=>hon.lt h) hon (hb1.trans (hB4.mono (Nat.le_of_lt hsz)))) (by rw[hw4];omega))
   (λh k=>h.trans k) (λW' l o o' h1 h2 h3 h4=>KpE.put (by rw[hw4]at h1;omega) h2 h3 h4) (Below.refl _ _) (λ_=>rfl)
   (λpre W'=>(∃v,Boxed W' W.heap.size 84 v/\W'.ownsRow W.heap.size 9 1 v (outsF pre).length ((outsF pre).map sv)/\(v= .slice none 0 0↔outsF pre=[]))/\
    (Boxed W' (W.heap.size+1+1) 104 (.map (some (W.heap.size+1)))/\W'.ownsMap Try.prog 9 (plainElem (H:=Unit) Try.prog 3) (W.heap.size+1) pre.length (seenD (outsF pre)))/\Below W.heap.size W W'/\W.heap.size+4<=W'.heap.size)
   (λ_ _ _=>False)
   (OwnFrom.and (Own.from (holdsRow_own W.heap.size W.heap.size 84 9 1 (λpre=>(outsF pre).length) (λpre=>(outsF pre).map sv) (λpre v=>v= .slice none 0 0↔outsF pre=[])) _)
    (OwnFrom.and (λs A B row hs hg hr=>⟨hs.1.kept hg (λe=>by have:=(hr _ e.symm).1;rw[hw4]at this;omega),hs.2.kept hg (λe=>by have:=(hr _ e.symm).1;rw[hw4]at this;omega)⟩) (OwnFrom.and (ownFrom_below (Nat.le_refl _) (by rw[hw4];omega)) (λs A B row hs hg hr=>Nat.le_trans hs hg.size))))
   (λ_ _ _ _ _ hs _ _=>hs)
   ?start
   (λx a' W'=>∃Bx,W.heap.size+3<Bx/\W'.heap[Bx]?=some (.cells x.1.cells.toArray 27 (0,0))/\
    a'={tmps:= #[(⟨k,⟨s0,s1,s2,s3⟩,tx,ka,kl,kc⟩:X_api_Expr).val,.pointer (some ⟨w.heap.size,0,none⟩),.slice none 0 0,.int .i64 0,.int .i64 0,.pointer (some ⟨W.heap.size,0,none⟩),.pointer (some ⟨W.heap.size+1+1,0,none⟩),.pointer (some ⟨Bx,0,none⟩),
     (⟨k,⟨s0,s1,s2,s3⟩,tx,ka,kl,kc⟩:X_api_Expr).val,.int .i64 0,.int .i64 0,.bool false,undef,.map (some (W.heap.size+1)),(⟨k,⟨s0,s1,s2,s3⟩,tx,ka,kl,kc⟩:X_api_Expr).val,.func (.func 81) #[] #[.pointer (some ⟨W.heap.size+1+1+1,0,none⟩)],x.1.val,
     undef,undef,undef,undef,undef,undef,undef,undef,undef,undef,undef,undef,undef,undef,undef,undef,undef,undef,undef],defers:=[]})
   ?ax ?assign ?body ?done ?stop
  case start=>
   have bO:=((((Boxed.new W 84 (.slice none 0 0)).alloc (.map #[] 0)).alloc (.cells #[.map (some (W.heap.size+1))] 104))).alloc (.cells #[.int .i64 k,.int .u64 s0,.int .u64 s1,.int .u64 s2,.int .u64 s3,.string (mkS tx),.slice ka kl kc] 27)
   have bS:=(Boxed.new ((W.alloc (.cells #[.slice none 0 0] 84)).alloc (.map #[] 0)) 104 (.map (some (W.heap.size+1)))).alloc (.cells #[.int .i64 k,.int .u64 s0,.int .u64 s1,.int .u64 s2,.int .u64 s3,.string (mkS tx),.slice ka kl kc] 27)
   have hm0:=((World.ownsMap_made (W.alloc (.cells #[.slice none 0 0] 84)) Try.prog 9 (plainElem (H:=Unit) Try.prog 3)).alloc (.cells #[.map (some (W.heap.size+1))] 104)).alloc (.cells #[.int .i64 k,.int .u64 s0,.int .u64 s1,.int .u64 s2,.int .u64 s3,.string (mkS tx),.slice ka kl kc] 27)
   rw[World.size_alloc]at hm0
   rw[World.size_alloc,World.size_alloc]at bS
   exact⟨⟨_,bO,World.ownsRow_nil _ _ _ _,by simp[outsF]⟩,⟨bS,hm0⟩,hB4,by rw[hw4];omega⟩
  case ax=>
   intro x' a' u A B row hs hg hr
   obtain⟨Bx,h1,h2,h3⟩:=hs
   refine⟨Bx,h1,(hg.block Bx (Array.getElem?_eq_some_iff.1 h2).1 (λe=>?_)).trans h2,h3⟩
   obtain⟨_,o,ho,hc⟩:=hr Bx e.symm
   rw[h2]at ho;cases ho;simp[Obj.isCells]at hc
  case assign=>
   rintro l pre ⟨⟨k',⟨s0',s1',s2',s3'⟩,tx',ka',kl',kc'⟩,hx'⟩ W' K ⟨⟨v,hv,hrow,hnil⟩,⟨hsb,hown⟩,hB,hzz⟩ hK
   simp only[X_api_Expr.val,X_api_Expr.cells]
   gi_wp2
   refine hK _ _ ((KeepsOthers.alloc _ _).from _) ((KpE.refl _ W').alloc hB.size _) ⟨⟨v,hv.alloc _,hrow.alloc _,hnil⟩,⟨hsb.alloc _,hown.alloc _⟩,hB.alloc hB.size _,by simp;omega⟩ ⟨W'.heap.size,by omega,World.alloc_heap_new W' _,rfl⟩
  case body=>
   rintro l pre ⟨⟨k',⟨s0',s1',s2',s3'⟩,tx',ka',kl',kc'⟩,hx'⟩ a' W' _ _ ⟨⟨v,hv,hrow,hnil⟩,⟨hsb,hown⟩,hB,hzz⟩ ⟨Bx,hBx,hX,rfl⟩ hlt
   have cX:∀i,W'.cell? ⟨Bx,i,none⟩=(#[Value.int .i64 k',.int .u64 s0',.int .u64 s1',.int .u64 s2',.int .u64 s3',.string (mkS tx'),.slice ka' kl' kc']:Array Value)[i]?:=λi=>by simp[World.cell?,hX,X_api_Expr.cells]
   have x0:W'.cell? ⟨Bx,0,none⟩=some (.int .i64 k'):=cX 0
   have x5:W'.cell? ⟨Bx,5,none⟩=some (.string (mkS tx')):=cX 5
   have hcO:=hv.cell
   have hcS:=hsb.cell
   have hkey:keyOf Try.prog 9 (.string (mkS tx'))=some (.string tx'):=by
    have:=WideMaps.keyOf_string_mk (P:=Try.prog) (k:=9) (by kernel_rfl) (s:=mkS tx') (show(mkS tx').size<=maxLen from hx')
    exact this
   have hpre:pre.length<60:=Nat.lt_of_lt_of_le hlt (hlen trivial)
   have miss:¬(k'=4/\tx'∉outsF pre)->outsF (pre++[⟨⟨k',⟨s0',s1',s2',s3'⟩,tx',ka',kl',kc'⟩,hx'⟩])=outsF pre:=λh=>by rw[outsF_snoc,outStep,if_neg h]
   have hit:k'=4/\tx'∉outsF pre->outsF (pre++[⟨⟨k',⟨s0',s1',s2',s3'⟩,tx',ka',kl',kc'⟩,hx'⟩])=outsF pre++[tx']:=λh=>by rw[outsF_snoc,outStep,if_pos h]
   have hol:=outsF_len pre
   obtain⟨c,hrun,hat,hwc⟩:=hown.lookup_int (Maps.string_keyed (by kernel_rfl)) (show Try.prog.underlying 104=some (.map 9 3) by kernel_rfl) (show Try.prog.underlying 3=some (.int .i64) by kernel_rfl) rfl hkey
   rw[seen_at]at hat
   have hc:c=if tx'∈outsF pre then 1 else 0:=by injection hat with hat;injection hat with _ hat;exact hat.symm
   by_cases hk:k'=4
   ·subst hk
    by_cases hin:tx'∈outsF pre
    ·obtain rfl:c=1:=by rw[hc,if_pos hin]
     clear hc hwc hat hol hit
     gi_wp2
     exact⟨KeepsFrom.refl _ _,KpE.refl _ _,⟨v,hv,by rw[miss (λh=>h.2 hin)];exact hrow,by rw[miss (λh=>h.2 hin)];exact hnil⟩,⟨hsb,by rw[miss (λh=>h.2 hin)];exact hown.mono (by simp)⟩,hB,hzz⟩
    ·obtain rfl:c=0:=by rw[hc,if_neg hin]
     obtain⟨w1,hup,hown1,hg1⟩:=hown.update (Maps.string_keyed (by kernel_rfl)) (show Try.prog.underlying 104=some (.map 9 3) by kernel_rfl) (show pre.length<maxLen by unfold maxLen;omega) (val:=.int .i64 1) hkey (plainElem_int (show Try.prog.underlying 3=some (.int .i64) by kernel_rfl) (by decide))
     have hX1:w1.heap[Bx]?=_:=(hg1.block Bx (Array.getElem?_eq_some_iff.1 hX).1 (λe=>by have:=Option.some.inj e;omega)).trans hX
     have y5:w1.cell? ⟨Bx,5,none⟩=some (.string (mkS tx')):=by simp[World.cell?,hX1,X_api_Expr.cells]
     have hv1:=hv.kept hg1 (λe=>by have:=Option.some.inj e;omega)
     have hsb1:=hsb.kept hg1 (λe=>by have:=Option.some.inj e;omega)
     have hrow1:=hrow.kept hg1 (.inr (row_not_map hrow hown).symm)
     have hcO1:=hv1.cell
     obtain⟨i0,hi,hz0,hz1,hz2⟩:=info_parts (show(Try.prog.info? 9).map (λi=>(i.zero,i.size,i.bytes))=some (some (.string (mkS [])),1,16) by kernel_rfl)
     have hB1:W.heap.size<=w1.heap.size:=Nat.le_trans hB.size hg1.size
     clear hc hwc hat miss
     gi_wp2_with (gi_at_builtin;refine wpListIn_append_own _ rfl _ _ 84 rfl W.heap.size 9 i0 (.string (mkS [])) 1 16 (by kernel_rfl) hi hz0 hz1 hz2 rfl (by decide) _ _ _ rfl (hrow1.alloc _) ⟨w1.heap.size,0,none⟩ 1 1 [.string (mkS tx')] rfl rfl (cell_one_new _ _ _) (by simp[Value.oneCell']) (by unfold maxLen;omega) (by omega) (by simp;omega) ?_;intro v' w2 hown' hgrow _;obtain⟨g',cap',rfl⟩:=ownsRow_succ hown';obtain⟨hv2,hv3,hr3,hk3,hb3⟩:=hv1.appended (by decide) hrow1 hB1 (Nat.le_refl _) hown' hgrow;have hc2:=hv2.cell;have hf2:=hv2.frozen)
     have n1:∀j,some (W.heap.size+1)=some j->W.heap.size<=j/\∀cs m,W'.heap[j]?≠some (.cells cs 27 m):=λj e=>by
      obtain rfl:=Option.some.inj e
      refine⟨by omega,λcs m h=>?_⟩
      obtain⟨es,ck,hh,_⟩:=hown
      rw[h]at hh;cases hh
     have n2:=row_kp (hrow1.alloc (.cells #[.string (mkS tx')] 9)) (by decide:(9:Nat)≠27)
     have n3:∀j,some W.heap.size=some j->W.heap.size<=j/\∀cs m,w2.heap[j]?≠some (.cells cs 27 m):=λj e=>by
      obtain rfl:=Option.some.inj e
      refine⟨Nat.le_refl _,λcs m h=>?_⟩
      have hv2':w2.heap[W.heap.size]?=_:=hv2
      rw[h]at hv2';cases hv2'
     have hB2:W.heap.size<=w2.heap.size:=Nat.le_trans hB1 (Nat.le_trans (by simp) hgrow.size)
     have hkp:=(((KpE.grown hg1 hB.size n1).trans ((KpE.refl _ w1).alloc hB1 (.cells #[.string (mkS tx')] 9))).trans (KpE.grown hgrow (by simp;omega) n2)).trans (KpE.grown (grownBy_setCell' w2 W.heap.size (.slice (some ⟨g',0,none⟩) ((outsF pre).length+1) cap')) hB2 n3)
     refine⟨(KeepsFrom.of_grownBy hg1 (λj e=>by have:=Option.some.inj e;omega)).trans (hk3.from _),hkp,⟨_,hv3,by rw[hit ⟨trivial,hin⟩];simpa[sv]using hr3,by rw[hit ⟨trivial,hin⟩];simp⟩,⟨?_,?_⟩,hB.trans hkp.bel,Nat.le_trans hzz hkp.bel.size⟩
     ·exact(((hsb1.alloc (.cells #[.string (mkS tx')] 9)).kept hgrow (Boxed.not_row (hsb1.alloc (.cells #[.string (mkS tx')] 9)) (by decide) (hrow1.alloc (.cells #[.string (mkS tx')] 9)))).kept (grownBy_setCell' w2 W.heap.size _) (λe=>by have:=Option.some.inj e;omega))
     ·rw[hit ⟨trivial,hin⟩,seenD_snoc,List.length_append]
      exact((hown1.alloc (.cells #[.string (mkS tx')] 9)).kept hgrow (row_not_map (hrow1.alloc (.cells #[.string (mkS tx')] 9)) (hown1.alloc (.cells #[.string (mkS tx')] 9)))).kept (grownBy_setCell' w2 W.heap.size _) (λe=>by have:=Option.some.inj e;omega)
   ·gi_wp2
    exact⟨KeepsFrom.refl _ _,KpE.refl _ _,⟨v,hv,by rw[miss (λh=>hk h.1)];exact hrow,by rw[miss (λh=>hk h.1)];exact hnil⟩,⟨hsb,by rw[miss (λh=>hk h.1)];exact hown.mono (by simp)⟩,hB,hzz⟩
  case done=>
   rintro D xs W' hD hS ⟨⟨v,hv,hrow,hnil⟩,⟨hsb,hown⟩,hB,hzz⟩ hK
   have hc:=hv.cell
   have he:=outs_refs hS
   rw[hw4]at hD
   have hout:=hR2 trivial (W'.putObj D (.deferred none)) v (hb1.trans ((hB.trans (KpE.put (o':=.deferred none) (by omega) hK rfl rfl).bel).mono (Nat.le_of_lt hsz))) (by rw[<-he];exact row_base (ownsRow_putObj hrow _ hK rfl) (Nat.le_of_lt hsz)) (by rw[<-he];exact hnil)
   clear hR2 he hS
   gi_wp2
   refine⟨by simp,.inl ⟨_,_,rfl,run_takeDeferred hK,?_⟩⟩
   exact⟨_,results_tmp2 rfl _ _ _,by simpa using hout⟩
  case stop=>
   rintro D c pre W' _ _ h _
   exact h.elim
 ·gi_wp2
  refine⟨_,results_tmp2 rfl _ _ _,?_⟩
  simpa using hR1 her _ hb1
theorem flat_one {α:Type} (f:α->Value):∀(zs:List α),(zs.map λz=>[f z]).flatten=zs.map f
 |[]=>rfl
 |z::r=>by simp only[List.map_cons,List.flatten_cons,flat_one f r];rfl
theorem SlV1 {α:Type} {f:α->Value} {M:Mem} {A:Option Addr} {l c:Nat} {zs:List α} (h:SlV M A l c 1 (zs.map f)) (hl:zs.length=l) {i:Nat} {z:α} (hz:zs[i]?=some z):
  ∃b o,A=some ⟨b,o,none⟩/\At M b (o+i*1) [f z]:=by
 rw[<-flat_one]at h
 exact h.elem hl (λ_ _=>rfl) hz
theorem SlV1.len {α:Type} {f:α->Value} {M:Mem} {A:Option Addr} {l c:Nat} {zs:List α} (h:SlV M A l c 1 (zs.map f)):zs.length=l:=by
 have:=h.1
 simpa using this
theorem getI {α:Type} {l:List α} {i:Int} (h0:0<=i) (h1:i<(l.length:Int)):∃x,l[i.toNat]?=some x:=⟨l[i.toNat]'(by omega),List.getElem?_eq_getElem _⟩
abbrev strV (zs:List (List UInt8)):List Value:=zs.map (λs=>Value.string (mkS s))
theorem strV_snoc (zs:List (List UInt8)) (z:List UInt8):strV zs++[Value.string (mkS z)]=strV (zs++[z]):=by simp[strV]
theorem strs_index {A:Option Addr} {n c:Nat} {zs:List (List UInt8)} {M:Mem} (h:SlV M A n c 1 (strV zs)) (v:List UInt8) (K:Value->Prop) (hK:∀i:Int,(0<=i↔v∈zs)->K (.int .i64 i)):S_slices_Index_string A n c v M K:=by
 have hn:=SlV1.len h
 have hmx:n<=maxLen:=Nat.le_trans h.2.1 h.2.2.1
 unfold maxLen at hmx
 unfold S_slices_Index_string
 refine⟨λi=>0<=i/\i<=n/\v∉zs.take i.toNat,λi=>n-i.toNat,⟨by omega,by omega,by simp⟩,λi ⟨h0,h1,h2⟩=>⟨λhlt=>?_,λhge=>?_⟩⟩
 ·obtain⟨x,hx⟩:=getI (l:=zs) h0 (by omega)
  obtain⟨b,o,ha,hat⟩:=SlV1 h hn hx
  refine⟨b,o,ha,h0,hlt,x,hat,λe=>hK i ⟨λ_=>by rw[e];exact List.mem_of_getElem? hx,λ_=>h0⟩,λe=>⟨by unfold InI;omega,⟨by omega,by omega,?_⟩,by dsimp only;omega⟩⟩
  rw[show(i+1).toNat=i.toNat+1 by omega,List.take_add_one,hx]
  intro hm
  rcases List.mem_append.1 hm with hm|hm
  ·exact h2 hm
  ·simp at hm;exact e hm
 ·refine hK (-1) ⟨λh=>by omega,λhm=>?_⟩
  rw[List.take_of_length_le (by omega)]at h2
  exact absurd hm h2
theorem strs_contains {A:Option Addr} {n c:Nat} {zs:List (List UInt8)} {M:Mem} (h:SlV M A n c 1 (strV zs)) (v:List UInt8) (K:Value->Prop) (hK:K (.bool (decide (v∈zs)))):S_slices_Contains_string A n c v M K:=by
 refine s_slices_Index_string _ _ _ _ _ _ (strs_index h v _ λi hi=>⟨_,rfl,?_⟩)
 rw[show decide (i>=0)=decide (v∈zs) from decide_eq_decide.2 hi]
 exact hK
mutual
theorem lkE_flat:∀(e:Ex) (d n:Int),(lkE d n e).1=0->(lkE d n e).2=n+(flatE e).length/\(preE d e).map (·.1)=flatE e
 | .mk k s t ks,d,n,h=>by
  unfold lkE at h ⊢
  split at h
  ·cases h
  ·split at h
   ·cases h
   ·split at h
    ·cases h
    ·rename_i h1 h2 h3
     rw[if_neg h1,if_neg h2,if_neg h3]
     have hk:=fitX_kids (x:=⟨k,s,t,none,ks.length,0⟩) (by simpa using h3)
     simp only at hk
     obtain⟨i1,i2⟩:=lkEs_flat ks (d+1) (n+1) h
     rw[preE,if_pos ⟨by omega,hk⟩,flatE,List.map_cons,i2]
     exact⟨by rw[i1,List.length_cons];omega,rfl⟩
theorem lkEs_flat:∀(ks:List Ex) (d n:Int),(lkEs d n ks).1=0->(lkEs d n ks).2=n+(flatEs ks).length/\(preEs d ks).map (·.1)=flatEs ks
 |[],d,n,_=>by rw[lkEs,preEs,flatEs];simp
 |k::ks,d,n,h=>by
  rw[lkEs]at h ⊢
  split at h
  ·rename_i hne;exact absurd h hne
  ·rename_i he
   have he:(lkE d n k).1=0:=by simpa using he
   rw[if_neg (by simpa using he)]
   obtain⟨i1,i2⟩:=lkE_flat k d n he
   obtain⟨j1,j2⟩:=lkEs_flat ks d _ h
   rw[preEs,flatEs,List.map_append,i2,j2,List.length_append]
   exact⟨by rw[j1,i1];omega,rfl⟩
end
theorem flat_max {e:Ex} (h:exErr e=0):(flatE e).length<=60/\(lkE 1 0 e).2=(flatE e).length/\(preE 1 e).take 61=preE 1 e/\(preE 1 e).map (·.1)=flatE e:=by
 obtain⟨h1,h2⟩:=lkE_flat e 1 0 h
 have h3:=(lkE_n e 1 0 (by omega) (by omega)).2.2 h
 have h4:(preE 1 e).length=(flatE e).length:=by rw[<-h2,List.length_map]
 exact⟨by omega,by omega,List.take_of_length_le (by omega),h2⟩
theorem size_is (e:Ex) (x:X_api_Expr) (M:Mem) (K:Value->Prop) (hR:ExR M e x) (h1:exErr e≠0->K (.tuple #[.int .i64 0,.int .i64 (exErr e)])) (h2:exErr e=0->K (.tuple #[.int .i64 (flatE e).length,.int .i64 0])):S_expr_Size x M K:=by
 unfold S_expr_Size
 refine look_is _ e (Nat.lt_succ_self _) x M 1 0 _ hR (by omega) (by omega) (by omega) (by omega) λM' _=>⟨_,rfl,λh=>h1 h,λh=>?_⟩
 have h:exErr e=0:=by simpa[exErr]using h
 have:=h2 h
 rw[<-(flat_max h).2.1]at this
 exact this
theorem refs_isF (e:Ex) (x:X_api_Expr) (M:Mem) (K:Value->Mem->Prop) (hR:ExR M e x) (h1:exErr e≠0->∀M',M.le M'->K (.tuple #[.slice none 0 0,.int .i64 (exErr e)]) M')
  (h2:exErr e=0->∀(M':Mem) (A:Option Addr) (c:Nat),M.le M'->SlV M' A (refsE e).length c 1 (strV (refsE e))->(∀g o,A=some ⟨g,o,none⟩->M g=none)->K (.tuple #[.slice A (refsE e).length c,.int .i64 0]) M'):CallE Try.prog 48 #[x.val] M K:=by
 intro w hon
 refine callsIn_wide.1 (refs_in M e x (exErr e) (s_expr_Check _ _ _ (echeck_is e x M _ hR rfl)) (λh=>(flat_max h).1) w hon hR _ (λh W hb=>⟨_,rfl,hb,h1 h _ (grow_le hon)⟩) (λh W v hb hrow hnil=>?_))
 have hrow0:=hrow
 obtain⟨hl,⟨rfl,h0⟩|⟨g,cap,cur,rfl,hg,hgb,hle,hmax,hsz,htk⟩⟩:=hrow
 ·refine⟨_,rfl,hb,?_⟩
  have:=h2 h (grow M w W) none 0 (grow_le hon) (by rw[h0];refine⟨by simp[strV,h0],Nat.le_refl _,by unfold maxLen;omega,λh=>by omega⟩) (λg o hgo=>(by cases hgo))
  rw[h0]at this;exact this
 ·refine⟨_,rfl,hb,h2 h (grow M w W) (some ⟨g,0,none⟩) cap (grow_le hon) ⟨by simp[strV],hle,hmax,λ_=>⟨g,0,rfl,?_⟩⟩ λg' o' hg'=>?_⟩
  rotate_left
  ·simp only[Option.some.injEq,Addr.mk.injEq,and_true]at hg'
   rw[<-hg'.1];exact hon.noneAt hg
  intro j v hj
  have hc:(grow M w W) g=some (.cells cur 9 (0,0)):=by unfold grow;rw[if_pos hg];exact hgb
  have hj2:(cur.toList.take ((refsE e).length*1))[j]?=some v:=by rw[htk];exact hj
  rw[List.getElem?_take]at hj2
  split at hj2
  ·unfold Mem.cell;rw[hc];simp only[Nat.zero_add];simpa using hj2
  ·cases hj2
theorem refs_is (e:Ex) (x:X_api_Expr) (M:Mem) (K:Value->Mem->Prop) (hR:ExR M e x) (h1:exErr e≠0->∀M',M.le M'->K (.tuple #[.slice none 0 0,.int .i64 (exErr e)]) M')
  (h2:exErr e=0->∀(M':Mem) (A:Option Addr) (c:Nat),M.le M'->SlV M' A (refsE e).length c 1 (strV (refsE e))->K (.tuple #[.slice A (refsE e).length c,.int .i64 0]) M'):CallE Try.prog 48 #[x.val] M K:=
 refs_isF e x M K hR h1 λh M' A c hle hsl _=>h2 h M' A c hle hsl
theorem rrefs_is (e:Ex) (x:X_api_Expr) (M:Mem) (K:Value->Mem->Prop) (hR:ExR M e x) (h0:exErr e=0)
  (hK:∀(M':Mem) (A:Option Addr) (c:Nat),M.le M'->SlV M' A (refsE e).length c 1 (strV (refsE e))->K (.slice A (refsE e).length c) M'):S_chaffref_Refs x M K:=by
 obtain⟨hmx,_,htake,hflat⟩:=flat_max h0
 unfold S_chaffref_Refs
 refine s_chaffref_Nodes _ _ _ (nodes_is e x M _ hR λM' A c xs hle hsl hall=>⟨_,_,_,rfl,?_⟩)
 rw[htake]at hall
 have hl:=hall.length
 have hfl:(flatE e).length=xs.length:=by rw[hl,<-hflat,List.length_map]
 have hol:∀(l:List Ex) (acc:List (List UInt8)),(l.foldl refStep acc).length<=acc.length+l.length:=by
  intro l
  induction l with
  |nil=>intro acc;simp
  |cons y r ih=>
   intro acc
   have h1:=ih (refStep acc y)
   have h2:(refStep acc y).length<=acc.length+1:=by unfold refStep;split<;>simp
   simp only[List.foldl_cons,List.length_cons];omega
 refine⟨λi rn rx=>0<=i/\i<=xs.length/\rn=(((flatE e).take i.toNat).foldl refStep []).length/\rx=strV (((flatE e).take i.toNat).foldl refStep []),λi _ _=>xs.length-i.toNat,⟨by omega,by omega,rfl,rfl⟩,λi rn rx ⟨hi0,hi1,hrn,hrx⟩=>⟨λhlt=>?_,λhge=>?_⟩⟩
 ·subst hrn hrx
  obtain⟨p,hp⟩:=getI (l:=preE 1 e) hi0 (by omega)
  obtain⟨y,hy,hr,hd⟩:=hall.get hp
  obtain⟨b,o,ha,hat⟩:=hsl.at Xn_len rfl hy
  obtain⟨zs,hzk⟩:=hr.open
  have hpf:(flatE e)[i.toNat]?=some p.1:=by rw[<-hflat,List.getElem?_map,hp];rfl
  have hstep:((flatE e).take (i+1).toNat).foldl refStep []=refStep (((flatE e).take i.toNat).foldl refStep []) p.1:=by
   rw[show(i+1).toNat=i.toNat+1 by omega,List.take_add_one,hpf,Option.toList_some,List.foldl_append];rfl
  have hlen:=hol ((flatE e).take i.toNat) []
  simp only[List.length_nil,Nat.zero_add,List.length_take]at hlen
  have j2:∀(outs:List (List UInt8)),outs=((flatE e).take (i+1).toNat).foldl refStep []->S_chaffref_Refs_J2 i (((flatE e).take i.toNat).foldl refStep []).length (strV (((flatE e).take i.toNat).foldl refStep [])) (λi rn rx=>0<=i/\i<=xs.length/\rn=(((flatE e).take i.toNat).foldl refStep []).length/\rx=strV (((flatE e).take i.toNat).foldl refStep [])) (λi _ _=>xs.length-i.toNat) outs.length (strV outs) K:=λouts ho=>
   ⟨by unfold InI;omega,⟨by omega,by omega,by rw[ho],by rw[ho]⟩,by dsimp only;omega⟩
  have j1:∀v:Bool,(v=true↔p.1.kind=4/\p.1.text∉((flatE e).take i.toNat).foldl refStep [])->S_chaffref_Refs_J1 i (((flatE e).take i.toNat).foldl refStep []).length (strV (((flatE e).take i.toNat).foldl refStep [])) (λi rn rx=>0<=i/\i<=xs.length/\rn=(((flatE e).take i.toNat).foldl refStep []).length/\rx=strV (((flatE e).take i.toNat).foldl refStep [])) (λi _ _=>xs.length-i.toNat) y v K:=λv hv=>by
   refine⟨λht=>⟨by omega,?_⟩,λhf=>j2 _ ?_⟩
   ·have:=j2 (((flatE e).take i.toNat).foldl refStep []++[p.1.text]) (by rw[hstep,refStep,if_pos (hv.1 ht)])
    rw[List.length_append,<-strV_snoc,<-hzk.text]at this
    exact this
   ·rw[hstep,refStep,if_neg (λh=>hf (hv.2 h))]
  refine⟨b,o,ha,hi0,hlt,y,hat,λhk4 M2 ad cap hle2 hsv=>s_slices_Contains_string _ _ _ _ _ _ (strs_contains hsv _ _ ⟨_,rfl,j1 _ ?_⟩),λhk4=>j1 _ ?_⟩
  ·rw[<-hzk.kind,<-hzk.text];simp[hk4]
  ·rw[<-hzk.kind];simp[hk4]
 ·intro M2 ad cap hle2 hsv M3 hle3
  subst hrn hrx
  have:i.toNat=(flatE e).length:=by omega
  rw[this,List.take_length]at hsv ⊢
  exact hK M3 ad cap ((hle.trans hle2).trans hle3) (hsv.le hle3)
structure Ru where
 name:List UInt8
 body:Ex
theorem Xr_len (x:X_api_Rule):x.cells.length=8:=rfl
def RuR (M:Mem) (r:Ru) (x:X_api_Rule):Prop:=x.Name=r.name/\r.name.length<=maxLen/\ExR M r.body x.Body
theorem RuR.le {M M':Mem} {r:Ru} {x:X_api_Rule} (h:RuR M r x) (hl:M.le M'):RuR M' r x:=⟨h.1,h.2.1,h.2.2.le hl⟩
def GrR (M:Mem) (rs:List Ru) (A:Option Addr) (l c:Nat):Prop:=∃xs,SlV M A l c 8 (cl X_api_Rule.cells xs)/\All2 (RuR M) rs xs/\l=rs.length
theorem GrR.le {M M':Mem} {rs:List Ru} {A:Option Addr} {l c:Nat} (h:GrR M rs A l c) (hl:M.le M'):GrR M' rs A l c:=by
 obtain⟨xs,h1,h2,h3⟩:=h
 exact⟨xs,h1.le hl,h2.mono λ_ _ h=>h.le hl,h3⟩
theorem GrR.at {M:Mem} {rs:List Ru} {A:Option Addr} {l c:Nat} (h:GrR M rs A l c) {i:Int} (h0:0<=i) (h1:i<(l:Int)):
  ∃r x b o,rs[i.toNat]?=some r/\A=some ⟨b,o,none⟩/\At M b (o+i.toNat*8) x.cells/\RuR M r x:=by
 obtain⟨xs,hsl,hall,rfl⟩:=h
 obtain⟨r,hr⟩:=getI (l:=rs) h0 h1
 obtain⟨x,hx,hrr⟩:=hall.get hr
 obtain⟨b,o,ha,hat⟩:=hsl.at Xr_len hall.length hx
 exact⟨r,x,b,o,hr,ha,hat,hrr⟩
theorem GrR.max {M:Mem} {rs:List Ru} {A:Option Addr} {l c:Nat} (h:GrR M rs A l c):l=rs.length/\l<=9223372036854775807:=by
 obtain⟨xs,hsl,_,h3⟩:=h
 exact⟨h3,hsl.max⟩
def findR (s:List UInt8):List Ru->Int->Int
 |[],_=> -1
 |r::t,i=>if r.name=s then i else findR s t (i+1)
theorem findR_hit (s:List UInt8):∀(rs:List Ru) (i:Int) (j:Nat) (r:Ru),0<=i->rs[j]?=some r->r.name=s->0<=findR s rs i/\findR s rs i<=i+j
 |[],_,_,_,_,h,_=>by simp at h
 |a::t,i,0,r,hi,h,hn=>by
  simp only[List.getElem?_cons_zero,Option.some.injEq]at h
  subst h
  unfold findR
  rw[if_pos hn]
  omega
 |a::t,i,j+1,r,hi,h,hn=>by
  unfold findR
  split
  ·omega
  ·have:=findR_hit s t (i+1) j r (by omega) (by simpa using h) hn
   omega
theorem cells_name (x:X_api_Rule):x.cells=Value.string (mkS x.Name)::x.Body.cells:=rfl
theorem find_is {rs:List Ru} {A:Option Addr} {l c:Nat} {M:Mem} (h:GrR M rs A l c) (s:List UInt8) (K:Value->Prop) (hK:K (.int .i64 (findR s rs 0))):S_gram_Find A l c s M K:=by
 obtain⟨hl,hmx⟩:=h.max
 unfold S_gram_Find
 refine⟨λi=>0<=i/\i<=l/\findR s (rs.drop i.toNat) i=findR s rs 0,λi=>l-i.toNat,⟨by omega,by omega,rfl⟩,λi ⟨h0,h1,heq⟩=>⟨λhlt=>?_,λhge=>?_⟩⟩
 ·obtain⟨r,x,b,o,hr,ha,hat,hn,_⟩:=h.at h0 hlt
  rw[drop_get hr,findR]at heq
  refine⟨b,o,ha,h0,hlt,x,hat,λe=>?_,λe=>⟨by unfold InI;omega,⟨by omega,by omega,?_⟩,by dsimp only;omega⟩⟩
  ·rw[if_pos (by rw[<-hn];exact e)]at heq;rw[<-heq]at hK;exact hK
  ·rw[if_neg (by rw[<-hn];exact e)]at heq
   rw[show(i+1).toNat=i.toNat+1 by omega];exact heq
 ·rw[List.drop_of_length_le (by omega)]at heq
  rw[<-heq]at hK;exact hK
theorem rfind_is {rs:List Ru} {A:Option Addr} {l c:Nat} {M:Mem} (h:GrR M rs A l c) (s:List UInt8) (K:Value->Prop) (hK:K (.int .i64 (findR s rs 0))):S_chaffref_Find A l c s M K:=by
 obtain⟨hl,hmx⟩:=h.max
 unfold S_chaffref_Find
 refine⟨λi=>0<=i/\i<=l/\findR s (rs.drop i.toNat) i=findR s rs 0,λi=>l-i.toNat,⟨by omega,by omega,rfl⟩,λi ⟨h0,h1,heq⟩=>⟨λhlt=>?_,λhge=>?_⟩⟩
 ·obtain⟨r,x,b,o,hr,ha,hat,hn,_⟩:=h.at h0 hlt
  rw[drop_get hr,findR]at heq
  have hat1:At M b (o+i.toNat*8) [Value.string (mkS x.Name)]:=λj v hj=>by
   cases j with
   |zero=>exact hat 0 v (by rw[cells_name];simpa using hj)
   |succ j=>simp at hj
  refine⟨b,o,ha,h0,hlt,x.Name,hat1,λe=>?_,λe=>⟨by unfold InI;omega,⟨by omega,by omega,?_⟩,by dsimp only;omega⟩⟩
  ·rw[if_pos (by rw[<-hn];exact e)]at heq;rw[<-heq]at hK;exact hK
  ·rw[if_neg (by rw[<-hn];exact e)]at heq
   rw[show(i+1).toNat=i.toNat+1 by omega];exact heq
 ·rw[List.drop_of_length_le (by omega)]at heq
  rw[<-heq]at hK;exact hK
def refsR (rs0:List Ru):List Ru->Int
 |[]=>0
 |r::t=>if (refsE r.body).all (λs=>decide (0<=findR s rs0 0))=false then 6 else refsR rs0 t
def chkR (rs0:List Ru):List Ru->Int->Int->Int
 |[],_,n=>if n>120 then 2 else refsR rs0 rs0
 |r::t,i,n=>if nameB r.name=false then 6 else if findR r.name rs0 0≠i then 7 else if exErr r.body≠0 then exErr r.body else chkR rs0 t (i+1) (n+(flatE r.body).length)
def gramErr (rs:List Ru):Int:=if rs.length=0 then 1 else if rs.length>10 then 2 else chkR rs rs 0 0
theorem gcheck_is {rs:List Ru} {A:Option Addr} {l c:Nat} {M:Mem} (hg:GrR M rs A l c) (K:Value->Prop) (hK:K (.int .i64 (gramErr rs))):S_gram_Check A l c M K:=by
 obtain⟨hl,hmx⟩:=hg.max
 unfold S_gram_Check
 refine⟨λh=>?_,λhn0=>⟨λh=>?_,λhn10=>?_⟩⟩
 ·rw[gramErr,if_pos (by omega)]at hK;exact hK
 ·rw[gramErr,if_neg (by omega),if_pos (by omega)]at hK;exact hK
 rw[gramErr,if_neg (by omega),if_neg (by omega)]at hK
 refine⟨λn i=>0<=i/\i<=l/\0<=n/\n<=60*i/\(∀(j:Nat) r,(j:Int)<i->rs[j]?=some r->exErr r.body=0)/\chkR rs (rs.drop i.toNat) i n=chkR rs rs 0 0,λ_ i=>l-i.toNat,⟨by omega,by omega,by omega,by omega,λj r h=>by omega,rfl⟩,λn i ⟨h0,h1,hn0',hn1,hz,heq⟩=>⟨λhlt=>?_,λhge=>?_⟩⟩
 ·obtain⟨r,x,b,o,hr,ha,hat,hrr⟩:=hg.at h0 hlt
  rw[drop_get hr,chkR]at heq
  refine⟨b,o,ha,h0,hlt,x,hat,s_expr_Name _ _ _ (ename_is x.Name (by rw[hrr.1];exact hrr.2.1) _ _ ⟨_,rfl,λhb=>?_,λhb=>?_⟩)⟩
  ·rw[hrr.1]at hb
   rw[if_pos (by simpa using hb)]at heq;rw[<-heq]at hK;exact hK
  rw[hrr.1]at hb
  rw[if_neg (by simpa using hb)]at heq
  refine s_gram_Find _ _ _ _ _ _ (find_is hg x.Name _ ⟨_,rfl,λhb2=>?_,λhb2=>?_⟩)
  ·rw[hrr.1]at hb2
   rw[if_pos hb2]at heq;rw[<-heq]at hK;exact hK
  rw[hrr.1]at hb2
  rw[if_neg hb2]at heq
  by_cases he:exErr r.body=0
  ·obtain⟨hf60,_⟩:=flat_max he
   rw[if_neg (by simpa using he)]at heq
   refine s_expr_Size _ _ _ (size_is r.body x.Body _ _ hrr.2.2 (λh=>absurd he h) λ_=>⟨_,_,rfl,λh=>absurd rfl h,λ_=>⟨by unfold InI;omega,by unfold InI;omega,⟨by omega,by omega,by omega,by omega,λj r' hj hr'=>?_,?_⟩,by dsimp only;omega⟩⟩)
   ·by_cases e:(j:Int)=i
    ·have:i.toNat=j:=by omega
     rw[<-this,hr]at hr';cases hr';exact he
    ·exact hz j r' (by omega) hr'
   ·rw[show(i+1).toNat=i.toNat+1 by omega];exact heq
  ·rw[if_pos he]at heq
   refine s_expr_Size _ _ _ (size_is r.body x.Body _ _ hrr.2.2 (λ_=>⟨_,_,rfl,λ_=>?_,λh=>absurd he h⟩) λh=>absurd h he)
   rw[heq];exact hK
 rw[List.drop_of_length_le (by omega),chkR]at heq
 refine⟨λh=>?_,λh=>?_⟩
 ·rw[if_pos h]at heq;rw[<-heq]at hK;exact hK
 rw[if_neg h]at heq
 rw[<-heq]at hK
 have hM0:=Mem.le.refl M
 have hz:∀(j:Nat) r,j<l->rs[j]?=some r->exErr r.body=0:=λj r hj hr=>hz j r (by omega) hr
 refine⟨λi M'=>0<=i/\i<=l/\M.le M'/\refsR rs (rs.drop i.toNat)=refsR rs rs,λi=>l-i.toNat,⟨by omega,by omega,hM0,rfl⟩,λi M2 ⟨h0,h1,hle,heq⟩=>⟨λhlt=>?_,λhge=>?_⟩⟩
 ·have hg2:=hg.le hle
  obtain⟨r,x,b,o,hr,ha,hat,hrr⟩:=hg2.at h0 hlt
  have hlt':i.toNat<l:=by omega
  rw[drop_get hr,refsR]at heq
  refine⟨b,o,ha,h0,hlt,x,hat,?_⟩
  refine refs_is r.body x.Body _ _ hrr.2.2 (λh=>absurd (hz i.toNat r hlt' hr) h) λ_ M3 A3 c3 hle3 hsl3=>⟨_,_,_,_,rfl,?_⟩
  refine⟨λj=>0<=j/\j<=(refsE r.body).length/\∀s∈(refsE r.body).take j.toNat,0<=findR s rs 0,λj=>(refsE r.body).length-j.toNat,⟨by omega,by omega,λs hs=>by simp at hs⟩,λj ⟨k0,k1,k2⟩=>⟨λklt=>?_,λkge=>?_⟩⟩
  ·obtain⟨s,hs⟩:=getI (l:=refsE r.body) k0 klt
   obtain⟨b2,o2,ha2,hat2⟩:=SlV1 hsl3 rfl hs
   refine⟨b2,o2,ha2,k0,klt,s,hat2,s_gram_Find _ _ _ _ _ _ (find_is (hg2.le hle3) s _ ⟨_,rfl,λhneg=>?_,λhpos=>?_⟩)⟩
   ·have:(refsE r.body).all (λs=>decide (0<=findR s rs 0))=false:=by
     rw[List.all_eq_false]
     exact⟨s,List.mem_of_getElem? hs,by simp;omega⟩
    rw[if_pos this]at heq
    rw[<-heq]at hK;exact hK
   ·have hm:=(hsl3.max)
    refine⟨by unfold InI;omega,⟨by omega,by omega,λz hz'=>?_⟩,by dsimp only;omega⟩
    rw[show(j+1).toNat=j.toNat+1 by omega,take_get hs]at hz'
    rcases List.mem_append.1 hz' with hz'|hz'
    ·exact k2 z hz'
    ·simp at hz';rw[hz'];omega
  ·have hall:¬(refsE r.body).all (λs=>decide (0<=findR s rs 0))=false:=by
    rw[Bool.not_eq_false,List.all_eq_true]
    intro s hs
    rw[List.take_of_length_le (by omega)]at k2
    simpa using k2 s hs
   rw[if_neg hall]at heq
   refine⟨by unfold InI;omega,⟨by omega,by omega,hle.trans hle3,?_⟩,by dsimp only;omega⟩
   rw[show(i+1).toNat=i.toNat+1 by omega];exact heq
 ·rw[List.drop_of_length_le (by omega),refsR]at heq
  rw[<-heq]at hK;exact hK
theorem rgram_is {rs:List Ru} {A:Option Addr} {l c:Nat} {M:Mem} (hg:GrR M rs A l c) (K:Value->Prop) (hK:K (.int .i64 (gramErr rs))):S_chaffref_Gram A l c M K:=by
 obtain⟨hl,hmx⟩:=hg.max
 unfold S_chaffref_Gram
 refine⟨λh=>?_,λhn0=>⟨λh=>?_,λhn10=>?_⟩⟩
 ·rw[gramErr,if_pos (by omega)]at hK;exact hK
 ·rw[gramErr,if_neg (by omega),if_pos (by omega)]at hK;exact hK
 rw[gramErr,if_neg (by omega),if_neg (by omega)]at hK
 refine⟨λn i M'=>0<=i/\i<=l/\0<=n/\n<=60*i/\M.le M'/\(∀(j:Nat) r,(j:Int)<i->rs[j]?=some r->exErr r.body=0)/\chkR rs (rs.drop i.toNat) i n=chkR rs rs 0 0,λ_ i=>l-i.toNat,⟨by omega,by omega,by omega,by omega,Mem.le.refl M,λj r h=>by omega,rfl⟩,λn i M1 ⟨h0,h1,hn0',hn1,hM0,hz,heq⟩=>⟨λhlt=>?_,λhge=>?_⟩⟩
 ·have hg1:=hg.le hM0
  obtain⟨r,x,b,o,hr,ha,hat,hrr⟩:=hg1.at h0 hlt
  rw[drop_get hr,chkR]at heq
  refine⟨b,o,ha,h0,hlt,x,hat,s_chaffref_Name _ _ _ (rname_is x.Name (by rw[hrr.1];exact hrr.2.1) _ _ ⟨_,rfl,λhb=>?_,λhb=>?_⟩)⟩
  ·rw[hrr.1]at hb
   rw[if_pos (by simpa using hb)]at heq;rw[<-heq]at hK;exact hK
  rw[hrr.1]at hb
  rw[if_neg (by simpa using hb)]at heq
  have hfi:=findR_hit r.name rs 0 i.toNat r (by omega) hr rfl
  refine s_chaffref_Find _ _ _ _ _ _ (rfind_is hg1 x.Name _ ⟨_,rfl,λhb2=>?_,λhb2=>?_⟩)
  ·rw[hrr.1]at hb2
   rw[if_pos (by omega)]at heq;rw[<-heq]at hK;exact hK
  rw[hrr.1]at hb2
  rw[if_neg (by omega)]at heq
  refine s_chaffref_Expr _ _ _ (rexpr_is r.body x.Body _ _ hrr.2.2 ⟨_,rfl,λhe=>?_,λhe=>?_⟩)
  ·rw[if_pos he]at heq
   refine s_chaffref_Expr _ _ _ (rexpr_is r.body x.Body _ _ hrr.2.2 ⟨_,rfl,?_⟩)
   rw[heq];exact hK
  have he:exErr r.body=0:=by simpa using he
  obtain⟨hf60,_,htake,hflat⟩:=flat_max he
  rw[if_neg (by simpa using he)]at heq
  refine s_chaffref_Nodes _ _ _ (nodes_is r.body x.Body _ _ hrr.2.2 λM2 A2 c2 xs hle2 hsl2 hall=>?_)
  have hxl:xs.length=(flatE r.body).length:=by rw[htake]at hall;rw[hall.length,<-hflat,List.length_map]
  refine⟨_,_,_,rfl,by unfold InI;omega,by unfold InI;omega,⟨by omega,by omega,by omega,by omega,hM0.trans hle2,λj r' hj hr'=>?_,?_⟩,by dsimp only;omega⟩
  ·by_cases e:(j:Int)=i
   ·have:i.toNat=j:=by omega
    rw[<-this,hr]at hr';cases hr';exact he
   ·exact hz j r' (by omega) hr'
  ·rw[show(i+1).toNat=i.toNat+1 by omega,hxl];exact heq
 rw[List.drop_of_length_le (by omega),chkR]at heq
 refine⟨λh=>?_,λh=>?_⟩
 ·rw[if_pos h]at heq;rw[<-heq]at hK;exact hK
 rw[if_neg h]at heq
 rw[<-heq]at hK
 have hz:∀(j:Nat) r,j<l->rs[j]?=some r->exErr r.body=0:=λj r hj hr=>hz j r (by omega) hr
 refine⟨λi M'=>0<=i/\i<=l/\M.le M'/\refsR rs (rs.drop i.toNat)=refsR rs rs,λi=>l-i.toNat,⟨by omega,by omega,hM0,rfl⟩,λi M2 ⟨h0,h1,hle,heq⟩=>⟨λhlt=>?_,λhge=>?_⟩⟩
 ·have hg2:=hg.le hle
  obtain⟨r,x,b,o,hr,ha,hat,hrr⟩:=hg2.at h0 hlt
  have hlt':i.toNat<l:=by omega
  rw[drop_get hr,refsR]at heq
  refine⟨b,o,ha,h0,hlt,x,hat,?_⟩
  refine s_chaffref_Refs _ _ _ (rrefs_is r.body x.Body _ _ hrr.2.2 (hz i.toNat r hlt' hr) λM3 A3 c3 hle3 hsl3=>⟨_,_,_,rfl,?_⟩)
  refine⟨λj=>0<=j/\j<=(refsE r.body).length/\∀s∈(refsE r.body).take j.toNat,0<=findR s rs 0,λj=>(refsE r.body).length-j.toNat,⟨by omega,by omega,λs hs=>by simp at hs⟩,λj ⟨k0,k1,k2⟩=>⟨λklt=>?_,λkge=>?_⟩⟩
  ·obtain⟨s,hs⟩:=getI (l:=refsE r.body) k0 klt
   obtain⟨b2,o2,ha2,hat2⟩:=SlV1 hsl3 rfl hs
   refine⟨b2,o2,ha2,k0,klt,s,hat2,s_chaffref_Find _ _ _ _ _ _ (rfind_is (hg2.le hle3) s _ ⟨_,rfl,λhneg=>?_,λhpos=>?_⟩)⟩
   ·have:(refsE r.body).all (λs=>decide (0<=findR s rs 0))=false:=by
     rw[List.all_eq_false]
     exact⟨s,List.mem_of_getElem? hs,by simp;omega⟩
    rw[if_pos this]at heq
    rw[<-heq]at hK;exact hK
   ·have hm:=(hsl3.max)
    refine⟨by unfold InI;omega,⟨by omega,by omega,λz hz'=>?_⟩,by dsimp only;omega⟩
    rw[show(j+1).toNat=j.toNat+1 by omega,take_get hs]at hz'
    rcases List.mem_append.1 hz' with hz'|hz'
    ·exact k2 z hz'
    ·simp at hz';rw[hz'];omega
  ·have hall:¬(refsE r.body).all (λs=>decide (0<=findR s rs 0))=false:=by
    rw[Bool.not_eq_false,List.all_eq_true]
    intro s hs
    rw[List.take_of_length_le (by omega)]at k2
    simpa using k2 s hs
   rw[if_neg hall]at heq
   refine⟨by unfold InI;omega,⟨by omega,by omega,hle.trans hle3,?_⟩,by dsimp only;omega⟩
   rw[show(i+1).toNat=i.toNat+1 by omega];exact heq
 ·rw[List.drop_of_length_le (by omega),refsR]at heq
  rw[<-heq]at hK;exact hK
end Go.Proofs.Ytfpmiahbncnecaa.core
