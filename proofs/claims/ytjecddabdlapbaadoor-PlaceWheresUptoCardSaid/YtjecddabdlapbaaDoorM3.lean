/- Contracts and what they hang on, of several parts. No condition. -/
import Derived.Lib.RuneCountTail
import Derived.Test.YtjecddabdlapbaaDoorPlaceG
namespace Go.Proofs.YtjecddabdlapbaaDoor.core
open Go.Gx Go.RowKit Go.ChangeShapes Go.WideShapes Go.ChangeAt
set_option linter.unusedVariables false
def contGo:Nat->List UInt8->Nat->Option Nat
 |0,_,v=>some v
 |_+1,[],_=>none
 |k+1,c::r,v=>if c.toNat<128\/191<c.toNat then none else contGo k r (v*64+c.toNat % 64)
def headOf (b:Nat):Nat×Nat×Nat:=
 if 194<=b/\b<224 then(2,128,b % 32) else if 224<=b/\b<240 then(3,2048,b % 16) else if 240<=b/\b<245 then(4,65536,b % 8) else(0,0,0)
def firstL:List UInt8->Nat
 |[]=>0
 |b::r=>if b.toNat<128 then 1 else
  if (headOf b.toNat).1=0\/r.length+1<(headOf b.toNat).1 then 0 else
  match contGo ((headOf b.toNat).1-1) r (headOf b.toNat).2.2 with
  |none=>0
  |some v=>if v<(headOf b.toNat).2.1\/1114111<v\/(55296<=v/\v<57344) then 0 else(headOf b.toNat).1
theorem valid_nat (c:Nat):Utf8.valid (c:Int)=decide (¬(1114111<c\/(55296<=c/\c<57344))):=by
 unfold Utf8.valid
 rw[Bool.eq_iff_iff]
 simp only[Bool.or_eq_true,Bool.and_eq_true,decide_eq_true_eq]
 omega
theorem drop_cons {α:Type} (l:List α) (p:Nat) (h:p<l.length):l.drop p=l[p]::l.drop (p+1):=by
 rw[List.drop_eq_getElem_cons h]
theorem byte_at (s:ByteArray) (i:Nat) (h:i<s.data.toList.length):s.get! i=s.data.toList[i]:=by
 rw[<-Lib.getD_get!',List.getD,List.getElem?_eq_getElem h];rfl
theorem mid_iff (c:Nat):(c / 64==2)=decide (¬(c<128\/191<c)):=by
 rw[Bool.eq_iff_iff];simp only[beq_iff_eq,decide_eq_true_eq];omega
def Mid:List UInt8->Bool
 |[]=>false
 |c::_=>decide (¬(c.toNat<128\/191<c.toNat))
theorem two_ways (b:Nat) (r:List UInt8) (a1 a2 a3:Nat) (hb8:b<256) (h1:¬b<128) (hv1:∀c t,r=c::t->a1=c.toNat) (hv2:∀c t,r.drop 1=c::t->a2=c.toNat) (hv3:∀c t,r.drop 2=c::t->a3=c.toNat):
  (if (decide (192<=b/\b<224)&&Mid r)=true then
    if b % 32*64+a1 % 64>=128 then(b % 32*64+a1 % 64,2) else(Utf8.runeError,1)
   else if (decide (224<=b/\b<240)&&Mid r&&Mid (r.drop 1))=true then
    if (decide (b % 16*4096+a1 % 64*64+a2 % 64>=2048)&&decide (¬(1114111<b % 16*4096+a1 % 64*64+a2 % 64\/(55296<=b % 16*4096+a1 % 64*64+a2 % 64/\b % 16*4096+a1 % 64*64+a2 % 64<57344))))=true then(b % 16*4096+a1 % 64*64+a2 % 64,3) else(Utf8.runeError,1)
   else if (decide (240<=b/\b<248)&&Mid r&&Mid (r.drop 1)&&Mid (r.drop 2))=true then
    if (decide (b % 8*262144+a1 % 64*4096+a2 % 64*64+a3 % 64>=65536)&&decide (¬(1114111<b % 8*262144+a1 % 64*4096+a2 % 64*64+a3 % 64\/(55296<=b % 8*262144+a1 % 64*4096+a2 % 64*64+a3 % 64/\b % 8*262144+a1 % 64*4096+a2 % 64*64+a3 % 64<57344))))=true then(b % 8*262144+a1 % 64*4096+a2 % 64*64+a3 % 64,4) else(Utf8.runeError,1)
   else(Utf8.runeError,1)).2=
  max 1 (if (headOf b).1=0\/r.length+1<(headOf b).1 then 0 else
   match contGo ((headOf b).1-1) r (headOf b).2.2 with
   |none=>0
   |some v=>if v<(headOf b).2.1\/1114111<v\/(55296<=v/\v<57344) then 0 else(headOf b).1):=by
 by_cases h2:192<=b/\b<224
 ·have h3:¬(224<=b/\b<240):=by omega
  have h4:¬(240<=b/\b<248):=by omega
  have h5:¬(240<=b/\b<245):=by omega
  rw[show headOf b=if 194<=b then(2,128,b % 32) else(0,0,0) by unfold headOf;simp only[h2.2,h3,h5,if_false,and_true]]
  simp only[h2,h3,h4,decide_true,decide_false,Bool.true_and,Bool.false_and,if_false,Bool.false_eq_true,and_self]
  rcases r with _|⟨c1,r⟩
  ·by_cases h6:194<=b<;>simp[h6,Mid]
  ·rw[hv1 c1 r rfl]
   by_cases h7:c1.toNat<128\/191<c1.toNat
   ·simp only[Mid,h7,not_true,decide_false,Bool.false_eq_true,if_false]
    by_cases h6:194<=b<;>simp only[h6,if_true,if_false,contGo,h7]
    ·split<;>rfl
    ·simp
   ·simp only[Mid,h7,not_false_iff,decide_true,if_true]
    by_cases h6:194<=b
    ·have g1:b % 32*64+c1.toNat % 64>=128:=by omega
     have g2:¬(b % 32*64+c1.toNat % 64<128\/1114111<b % 32*64+c1.toNat % 64\/(55296<=b % 32*64+c1.toNat % 64/\b % 32*64+c1.toNat % 64<57344)):=by omega
     have g3:¬((2:Nat)=0\/(c1::r).length+1<2):=by simp
     simp only[h6,if_true,g1,g3,if_false,contGo,h7,g2];rfl
    ·have g1:¬b % 32*64+c1.toNat % 64>=128:=by omega
     simp only[h6,if_false,g1];simp
 ·have h2':¬(194<=b/\b<224):=by omega
  simp only[h2,decide_false,Bool.false_and,if_false,Bool.false_eq_true]
  by_cases h3:224<=b/\b<240
  ·have h4:¬(240<=b/\b<248):=by omega
   rw[show headOf b=(3,2048,b % 16) by unfold headOf;simp only[h2',h3,if_false,if_true,and_self]]
   simp only[h3,h4,decide_true,decide_false,Bool.true_and,Bool.false_and,if_false,Bool.false_eq_true,and_self]
   rcases r with _|⟨c1,_|⟨c2,r⟩⟩
   ·simp[Mid]
   ·simp[Mid]
   ·rw[hv1 c1 _ rfl,hv2 c2 _ rfl]
    have g3:¬((3:Nat)=0\/(c1::c2::r).length+1<3):=by simp
    simp only[g3,if_false,List.drop_succ_cons,List.drop_zero]
    by_cases h7:c1.toNat<128\/191<c1.toNat
    ·simp[Mid,h7,contGo]
    ·by_cases h8:c2.toNat<128\/191<c2.toNat
     ·simp[Mid,h8,contGo,h7]
     ·simp only[Mid,h7,h8,not_false_iff,decide_true,Bool.and_self,if_true,contGo,if_false]
      rw[show(b % 16*64+c1.toNat % 64)*64+c2.toNat % 64=b % 16*4096+c1.toNat % 64*64+c2.toNat % 64 by omega]
      generalize b % 16*4096+c1.toNat % 64*64+c2.toNat % 64=v
      by_cases g:v<2048\/1114111<v\/(55296<=v/\v<57344)
      ·rw[if_pos g,if_neg (by simp;omega)];rfl
      ·rw[if_neg g,if_pos (by simp;omega)];rfl
  ·simp only[h3,decide_false,Bool.false_and,if_false,Bool.false_eq_true]
   by_cases h4:240<=b/\b<248
   ·rw[show headOf b=if b<245 then(4,65536,b % 8) else(0,0,0) by unfold headOf;simp only[h2',h3,if_false,h4.1,true_and]]
    simp only[h4,decide_true,Bool.true_and,and_self]
    rcases r with _|⟨c1,_|⟨c2,_|⟨c3,r⟩⟩⟩
    ·by_cases h6:b<245<;>simp[Mid,h6]
    ·by_cases h6:b<245<;>simp[Mid,h6]
    ·by_cases h6:b<245<;>simp[Mid,h6]
    ·rw[hv1 c1 _ rfl,hv2 c2 _ rfl,hv3 c3 _ rfl]
     simp only[List.drop_succ_cons,List.drop_zero]
     by_cases h7:c1.toNat<128\/191<c1.toNat
     ·by_cases h6:b<245<;>simp[Mid,h6,h7,contGo]<;>omega
     ·by_cases h8:c2.toNat<128\/191<c2.toNat
      ·by_cases h6:b<245<;>simp[Mid,h6,h7,h8,contGo]<;>omega
      ·by_cases h9:c3.toNat<128\/191<c3.toNat
       ·by_cases h6:b<245<;>simp[Mid,h6,h7,h8,h9,contGo]<;>omega
       ·simp only[Mid,h7,h8,h9,not_false_iff,decide_true,Bool.and_self,if_true]
        by_cases h6:b<245
        ·have g3:¬((4:Nat)=0\/(c1::c2::c3::r).length+1<4):=by simp
         simp only[h6,if_true,g3,if_false,contGo,h7,h8,h9]
         rw[show((b % 8*64+c1.toNat % 64)*64+c2.toNat % 64)*64+c3.toNat % 64=b % 8*262144+c1.toNat % 64*4096+c2.toNat % 64*64+c3.toNat % 64 by omega]
         generalize b % 8*262144+c1.toNat % 64*4096+c2.toNat % 64*64+c3.toNat % 64=v
         by_cases g:v<65536\/1114111<v\/(55296<=v/\v<57344)
         ·rw[if_pos g,if_neg (by simp;omega)];rfl
         ·rw[if_neg g,if_pos (by simp;omega)];rfl
        ·have g:1114111<b % 8*262144+c1.toNat % 64*4096+c2.toNat % 64*64+c3.toNat % 64:=by omega
         rw[if_neg (by simp only[g,true_or,not_true,decide_false,Bool.and_false];simp)]
         simp[h6]
   ·have h5:¬(240<=b/\b<245):=by omega
    rw[show headOf b=(0,0,0) by unfold headOf;simp only[h2',h3,h5,if_false]]
    simp[h4]
theorem width_is (s:ByteArray) (p:Nat) (h:p<s.size):(Utf8.decode s p).2=max 1 (firstL (s.data.toList.drop p)):=by
 have hl:s.data.toList.length=s.size:=by rw[Lib.size_eq]
 generalize hL:s.data.toList=L at*
 have hg:∀i (h:i<L.length),s.get! i=L[i]:=λi hi=>by subst hL;exact byte_at s i hi
 rw[drop_cons L p (by omega)]
 unfold firstL Utf8.decode
 simp only[Nat.add_zero,hg p (by omega),<-hl]
 generalize hb:L[p].toNat=b
 have hb8:b<256:=by rw[<-hb];exact L[p].toNat_lt
 split
 ·rfl
 ·rename_i h1
  have e1:(b / 32==6)=decide (192<=b/\b<224):=by rw[Bool.eq_iff_iff];simp only[beq_iff_eq,decide_eq_true_eq];omega
  have e2:(b / 16==14)=decide (224<=b/\b<240):=by rw[Bool.eq_iff_iff];simp only[beq_iff_eq,decide_eq_true_eq];omega
  have e3:(b / 8==30)=decide (240<=b/\b<248):=by rw[Bool.eq_iff_iff];simp only[beq_iff_eq,decide_eq_true_eq];omega
  rw[e1,e2,e3]
  have hc:∀k,(decide (p+k<L.length)&&(s.get! (p+k)).toNat / 64==2)=Mid (L.drop (p+k)):=λk=>by
   by_cases hk:p+k<L.length
   ·rw[drop_cons L (p+k) hk,hg _ hk];simp only[hk,decide_true,Bool.true_and,Mid];exact mid_iff _
   ·rw[List.drop_eq_nil_of_le (by omega)];simp[hk,Mid]
  simp only[hc 1,hc 2,hc 3]
  have hv:∀k c r,L.drop (p+k)=c::r->(s.get! (p+k)).toNat=c.toNat:=λk c r hk=>by
   have hlt:p+k<L.length:=by
    rcases Nat.lt_or_ge (p+k) L.length with h'|h'
    ·exact h'
    ·rw[List.drop_eq_nil_of_le h']at hk;cases hk
   rw[drop_cons L (p+k) hlt]at hk
   cases hk
   rw[hg _ hlt]
  have hd2:L.drop (p+2)=(L.drop (p+1)).drop 1:=by rw[List.drop_drop]
  have hd3:L.drop (p+3)=(L.drop (p+1)).drop 2:=by rw[List.drop_drop]
  have hv1:=hv 1
  have hv2:=hv 2
  have hv3:=hv 3
  rw[hd2]at hv2
  rw[hd3]at hv3
  rw[hd2,hd3]
  clear hv hc hd2 hd3 hg
  generalize L.drop (p+1)=r at*
  simp only[valid_nat]
  exact two_ways b r _ _ _ hb8 h1 hv1 hv2 hv3
end Go.Proofs.YtjecddabdlapbaaDoor.core

namespace Go.Proofs.YtjecddabdlapbaaDoor.core
open Go.Gx Go.RowKit Go.ChangeShapes Go.WideShapes Go.ChangeAt
set_option linter.unusedVariables false
theorem firstL_cons (b:UInt8) (r:List UInt8):firstL (b::r)=if b.toNat<128 then 1 else
  if (headOf b.toNat).1=0\/r.length+1<(headOf b.toNat).1 then 0 else
  match contGo ((headOf b.toNat).1-1) r (headOf b.toNat).2.2 with
  |none=>0
  |some v=>if v<(headOf b.toNat).2.1\/1114111<v\/(55296<=v/\v<57344) then 0 else(headOf b.toNat).1:=rfl
theorem firstL_le (l:List UInt8):firstL l<=l.length:=by
 cases l with
 |nil=>exact Nat.le_refl _
 |cons b r=>
  rw[firstL_cons]
  split
  ·simp
  ·split
   ·exact Nat.zero_le _
   ·rename_i h
    split
    ·exact Nat.zero_le _
    ·split
     ·exact Nat.zero_le _
     ·simp;omega
def signsFrom (l:List UInt8) (i:Nat):List Nat:=if h:i<l.length then i::signsFrom l (i+max 1 (firstL (l.drop i))) else[]
termination_by l.length-i
decreasing_by omega
theorem signs_in {l:List UInt8} {i:Nat} (h:i<l.length):signsFrom l i=i::signsFrom l (i+max 1 (firstL (l.drop i))):=by
 rw[signsFrom,dif_pos h]
theorem signs_out {l:List UInt8} {i:Nat} (h:¬i<l.length):signsFrom l i=[]:=by
 rw[signsFrom,dif_neg h]
theorem sign_step {l:List UInt8} {i:Nat} (h:i<l.length):i+max 1 (firstL (l.drop i))<=l.length:=by
 have:=firstL_le (l.drop i)
 rw[List.length_drop]at this
 omega
theorem signs_len (l:List UInt8) (i:Nat):(signsFrom l i).length<=l.length-i:=by
 induction h:l.length-i using Nat.strongRecOn generalizing i with
 |_ n ih=>
  by_cases hi:i<l.length
  ·rw[signs_in hi,List.length_cons]
   have:=ih (l.length-(i+max 1 (firstL (l.drop i)))) (by omega) _ rfl
   omega
  ·rw[signs_out hi];simp
theorem wrapB (c:UInt8):IntKind.wrap .i64 (c.toNat:Int)=(c.toNat:Int):=wrap_in (by have:=c.toNat_lt;unfold InI;omega)
theorem tmodN (x k:Nat):(x:Int).tmod (k:Int)=((x % k:Nat):Int):=by rw[Int.tmod_eq_emod_of_nonneg (by omega),Int.natCast_emod]
theorem tmod64 (x:Nat):(x:Int).tmod 64=((x % 64:Nat):Int):=tmodN x 64
theorem contGo_in {k:Nat} {s:List UInt8} {i v:Nat} {c:UInt8} (h:s[i]?=some c):contGo (k+1) (s.drop i) v=if c.toNat<128\/191<c.toNat then none else contGo k (s.drop (i+1)) (v*64+c.toNat % 64):=by
 obtain⟨hi,rfl⟩:=List.getElem?_eq_some_iff.1 h
 rw[List.drop_eq_getElem_cons hi];rfl
theorem rfirst_end {s:List UInt8} {b:UInt8} {t:List UInt8} (hs:s=b::t) (hb:¬b.toNat<128) (n low v:Nat) (hn:n<=4) (hv:v<64) (hh:headOf b.toNat=(n,low,v)) {K:Value->Prop} (hK:K (.int .i64 (firstL s:Nat))):S_chaffref_first_J4 s n low v K:=by
 have hf:firstL s=if n=0\/t.length+1<n then 0 else match contGo (n-1) t v with
   |none=>0
   |some v=>if v<low\/1114111<v\/(55296<=v/\v<57344) then 0 else n:=by
  rw[hs,firstL_cons,if_neg hb,hh]
 have hlen:s.length=t.length+1:=by rw[hs];rfl
 have bad:∀h:n=0\/t.length+1<n,S_chaffref_first_J5 s n low v true K:=λh=>by
  unfold S_chaffref_first_J5
  refine⟨λ_=>?_,λh=>absurd rfl h⟩
  rw[hf,if_pos h]at hK;exact hK
 unfold S_chaffref_first_J4
 refine⟨λh=>bad (.inl (by omega)),λh0=>?_⟩
 by_cases hl:t.length+1<n
 ·rw[show decide (((s.length:Nat):Int)<(n:Int))=true by simp;omega]
  exact bad (.inr hl)
 rw[show decide (((s.length:Nat):Int)<(n:Int))=false by simp;omega]
 rw[if_neg (by omega)]at hf
 have ht:t=s.drop 1:=by rw[hs];rfl
 unfold S_chaffref_first_J5
 refine⟨λh=>by simp at h,λ_=>⟨λw i=>∃(x j:Nat),w=x/\i=j/\1<=j/\j<=n/\x<64 ^ j/\contGo (n-1) t v=contGo (n-j) (s.drop j) x,λ_ i=>(4-i).toNat,⟨v,1,rfl,rfl,Nat.le_refl _,by omega,by omega,by rw[ht]⟩,λw i ⟨x,j,hx,hj,hj1,hjn,hxl,hc⟩=>?_⟩⟩
 subst hx;subst hj
 have hpow:x<64 ^ 4:=Nat.lt_of_lt_of_le hxl (Nat.pow_le_pow_right (by decide) (by omega))
 refine⟨λhlt=>?_,λhge=>?_⟩
 ·obtain⟨c,hc1⟩:∃c,s[j]?=some c:=⟨s[j]'(by omega),List.getElem?_eq_getElem _⟩
  have hcl:=c.toNat_lt
  have hstep:=contGo_in (k:=n-j-1) (v:=x) hc1
  rw[show n-j-1+1=n-j by omega]at hstep
  have miss:c.toNat<128\/191<c.toNat->S_chaffref_first_J6 s x j (λw i=>∃(x j:Nat),w=x/\i=j/\1<=j/\j<=n/\x<64 ^ j/\contGo (n-1) t v=contGo (n-j) (s.drop j) x) (λ_ i=>(4-i).toNat) true K:=λh=>by
   unfold S_chaffref_first_J6
   refine⟨λ_=>?_,λh=>absurd rfl h⟩
   rw[hf,hc,hstep,if_pos h]at hK;exact hK
  refine⟨c,by omega,by simpa using hc1,λh=>miss (.inl (by omega)),λh1=>⟨c,by omega,by simpa using hc1,?_⟩⟩
  by_cases h2:191<c.toNat
  ·rw[show decide ((c.toNat:Int)>191)=true by simp;omega];exact miss (.inr h2)
  rw[show decide ((c.toNat:Int)>191)=false by simp;omega]
  unfold S_chaffref_first_J6
  simp only[wrapB,tmod64]
  have hx2:x*64+c.toNat % 64<64 ^ (j+1):=by rw[Nat.pow_succ];omega
  have hx3:64 ^ (j+1)<=64 ^ 5:=Nat.pow_le_pow_right (by decide) (by omega)
  refine⟨λh=>by simp at h,λ_=>⟨by unfold InI;omega,c,by omega,by simpa using hc1,by unfold InI;omega,by unfold InI;omega,⟨x*64+c.toNat % 64,j+1,by omega,by omega,by omega,by omega,hx2,?_⟩,by omega⟩⟩
  rw[hc,hstep,if_neg (by omega),show n-j-1=n-(j+1) by omega]
 ·obtain rfl:j=n:=by omega
  rw[Nat.sub_self]at hc
  rw[hf,hc]at hK
  unfold contGo at hK
  simp only at hK
  have bad:∀h:x<low\/1114111<x\/(55296<=x/\x<57344),S_chaffref_first_J7 (j:Int) true K:=λh=>by
   unfold S_chaffref_first_J7
   refine⟨λ_=>?_,λh=>absurd rfl h⟩
   rw[if_pos h]at hK;exact hK
  have good:∀h:¬(x<low\/1114111<x\/(55296<=x/\x<57344)),S_chaffref_first_J7 (j:Int) false K:=λh=>by
   unfold S_chaffref_first_J7
   refine⟨λh=>by simp at h,λ_=>?_⟩
   rw[if_neg h]at hK;exact hK
  refine⟨λh=>bad (.inl (by omega)),λh1=>⟨λh=>bad (.inr (.inl (by omega))),λh2=>⟨λh3=>?_,λh3=>good (by omega)⟩⟩⟩
  by_cases h4:x<57344
  ·rw[show decide ((x:Int)<57344)=true by simp;omega];exact bad (.inr (.inr ⟨by omega,h4⟩))
  ·rw[show decide ((x:Int)<57344)=false by simp;omega];exact good (by omega)
theorem rfirst_is {s:List UInt8} (hs:s≠[]) {M:Mem} (K:Value->Prop) (hK:K (.int .i64 (firstL s:Nat))):S_chaffref_first s M K:=by
 obtain⟨b,t,rfl⟩:∃b t,s=b::t:=by cases s with
  |nil=>exact absurd rfl hs
  |cons b t=>exact⟨b,t,rfl⟩
 have hb:=b.toNat_lt
 unfold S_chaffref_first
 refine⟨b,by omega,rfl,?_⟩
 rw[wrapB]
 refine⟨λh=>?_,λh=>?_⟩
 ·rw[firstL_cons,if_pos (by omega)]at hK;exact hK
 have hb':¬b.toNat<128:=by omega
 have z:(∀h:¬((194<=b.toNat/\b.toNat<224)\/(224<=b.toNat/\b.toNat<240)\/(240<=b.toNat/\b.toNat<245)),S_chaffref_first_J4 (b::t) 0 0 0 K):=λh=>
  rfirst_end rfl hb' 0 0 0 (by decide) (by decide) (by unfold headOf;rw[if_neg (by omega),if_neg (by omega),if_neg (by omega)]) hK
 have w3:∀(h1:¬(194<=b.toNat/\b.toNat<224)) (h2:¬(224<=b.toNat/\b.toNat<240)) (x:Bool),x=decide (240<=b.toNat/\b.toNat<245)->S_chaffref_first_J3 (b::t) b x K:=λh1 h2 x hx=>by
  subst hx
  unfold S_chaffref_first_J3
  rw[wrapB,show(8:Int)=((8:Nat):Int) from rfl,tmodN]
  refine⟨λh=>rfirst_end rfl hb' 4 65536 _ (by decide) (by omega) (by unfold headOf;rw[if_neg h1,if_neg h2,if_pos (by simpa using h)]) hK,λh=>z (by simp at h;omega)⟩
 have w2:∀(h1:¬(194<=b.toNat/\b.toNat<224)) (x:Bool),x=decide (224<=b.toNat/\b.toNat<240)->S_chaffref_first_J2 (b::t) b x K:=λh1 x hx=>by
  subst hx
  unfold S_chaffref_first_J2
  rw[wrapB,show(16:Int)=((16:Nat):Int) from rfl,tmodN]
  refine⟨λh=>rfirst_end rfl hb' 3 2048 _ (by decide) (by omega) (by unfold headOf;rw[if_neg h1,if_pos (by simpa using h)]) hK,λh=>?_⟩
  have h2:¬(224<=b.toNat/\b.toNat<240):=by simpa using h
  refine⟨λh3=>w3 h1 h2 _ ?_,λh3=>w3 h1 h2 _ ?_⟩
  ·rw[decide_eq_decide];omega
  ·rw[Bool.false_eq,decide_eq_false_iff_not];omega
 have w1:∀(x:Bool),x=decide (194<=b.toNat/\b.toNat<224)->S_chaffref_first_J1 (b::t) b x K:=λx hx=>by
  subst hx
  unfold S_chaffref_first_J1
  rw[wrapB,show(32:Int)=((32:Nat):Int) from rfl,tmodN]
  refine⟨λh=>rfirst_end rfl hb' 2 128 _ (by decide) (by omega) (by unfold headOf;rw[if_pos (by simpa using h)]) hK,λh=>?_⟩
  have h1:¬(194<=b.toNat/\b.toNat<224):=by simpa using h
  refine⟨λh3=>w2 h1 _ ?_,λh3=>w2 h1 _ ?_⟩
  ·rw[decide_eq_decide];omega
  ·rw[Bool.false_eq,decide_eq_false_iff_not];omega
 refine⟨λh3=>w1 _ ?_,λh3=>w1 _ ?_⟩
 ·rw[decide_eq_decide];omega
 ·rw[Bool.false_eq,decide_eq_false_iff_not];omega
end Go.Proofs.YtjecddabdlapbaaDoor.core

namespace Go.Proofs.YtjecddabdlapbaaDoor.core
open Go.Gx Go.RowKit Go.ChangeShapes Go.WideShapes Go.ChangeAt
set_option linter.unusedVariables false
abbrev natI (l:List Nat):List Int:=l.map λ(n:Nat)=>(n:Int)
theorem take_all {α:Type} (l:List α):l.take ((l.length:Nat):Int).toNat=l:=by simp
theorem max_is (n:Nat):(if ((n:Nat):Int)>1 then((n:Nat):Int) else 1)=((max 1 n:Nat):Int):=by split<;>omega
theorem rsigns_is {s:List UInt8} (hs:s.length<=1048576) {M:Mem} (K:Nat->List Value->Prop) (hK:K (signsFrom s 0).length (cl iC (natI (signsFrom s 0)))):C_chaffref_Signs s M K:=by
 refine s_chaffref_Signs _ _ _ ?_
 unfold S_chaffref_Signs
 refine⟨λi n xs=>∃(j:Nat) (pre:List Nat),i=j/\signsFrom s 0=pre++signsFrom s j/\n=pre.length/\xs=cl iC (natI pre)/\j<=s.length,λi _ _=>(s.length-i).toNat,⟨0,[],rfl,rfl,rfl,rfl,Nat.zero_le _⟩,λi n xs ⟨j,pre,hi,hpre,hn,hxs,hj⟩=>?_⟩
 subst hi;subst hn;subst hxs
 have hlen:=signs_len s 0
 rw[hpre,List.length_append]at hlen
 refine⟨λhlt=>?_,λhge=>?_⟩
 ·have hlt':j<s.length:=by omega
  rw[signs_in hlt']at hpre hlen
  simp only[List.length_cons]at hlen
  refine⟨by omega,by omega,by omega,by omega,?_⟩
  rw[take_all,show(j:Int).toNat=j from rfl]
  have hne:s.drop j≠[]:=λe=>by
   have:=congrArg List.length e
   simp at this;omega
  refine s_chaffref_first _ _ _ (rfirst_is hne _ ⟨_,rfl,?_⟩)
  have hstep:=sign_step hlt'
  rw[max_is]
  refine⟨by unfold InI;omega,⟨j+max 1 (firstL (s.drop j)),pre++[j],by omega,by rw[hpre,List.append_assoc];rfl,by simp,?_,hstep⟩,by dsimp only;omega⟩
  simp[cl,natI]
 ·rw[signs_out (l:=s) (i:=j) (by omega),List.append_nil]at hpre
  rw[<-hpre];exact hK
def LastAt (s:List UInt8) (c:UInt8) (z:Int):Prop:=(z= -1/\∀x∈s,x≠c)\/∃i:Nat,z=i/\s[i]?=some c/\∀x∈s.drop (i+1),x≠c
theorem u8_eq {a b:UInt8}:(a.toNat:Int)=(b.toNat:Int)↔a=b:=by
 rw[Int.natCast_inj];exact⟨λh=>UInt8.toNat_inj.1 h,λh=>by rw[h]⟩
theorem split_at {s:List UInt8} {i:Nat} {c:UInt8} (h:s[i]?=some c):s=s.take i++c::s.drop (i+1):=by
 obtain⟨hi,rfl⟩:=List.getElem?_eq_some_iff.1 h
 rw[<-List.drop_eq_getElem_cons hi,List.take_append_drop]
theorem last_is {s:List UInt8} (hs:s.length<=9223372036854775807) (c:UInt8) {M:Mem} (K:Value->Prop) (hK:∀z,LastAt s c z->K (.int .i64 z)):S_strings_LastIndexByte s (c.toNat:Int) M K:=by
 unfold S_strings_LastIndexByte
 refine s_internal_bytealg_LastIndexByteString _ _ _ _ ?_
 unfold S_internal_bytealg_LastIndexByteString
 refine⟨by unfold InI;omega,λi=> -1<=i/\i<s.length/\∀(j:Nat) x,i<j->s[j]?=some x->x≠c,λi=>(i+1).toNat,⟨by omega,by omega,λj x h1 h2=>?_⟩,λi ⟨h0,h1,h2⟩=>⟨λhge=>?_,λhlt=>?_⟩⟩
 ·have:=(List.getElem?_eq_some_iff.1 h2).1;omega
 ·obtain⟨j,rfl⟩:=Int.eq_ofNat_of_zero_le hge
  obtain⟨d,hd⟩:∃d,s[j]?=some d:=⟨s[j]'(by omega),List.getElem?_eq_getElem _⟩
  refine⟨d,by omega,by simpa using hd,λhe=>⟨_,rfl,hK _ (.inr ⟨j,rfl,?_,λx hx=>?_⟩)⟩,λhne=>⟨by unfold InI;omega,⟨by omega,by omega,λk x h3 h4=>?_⟩,by dsimp only;omega⟩⟩
  ·rw[<-u8_eq.1 he];exact hd
  ·obtain⟨k,hk⟩:=List.mem_iff_getElem?.1 hx
   rw[List.getElem?_drop]at hk
   exact h2 _ x (by omega) hk
  ·by_cases e:k=j
   ·subst e
    rw[hd]at h4
    cases h4
    exact λe=>hne (u8_eq.2 e)
   ·exact h2 k x (by omega) h4
 ·refine⟨_,rfl,hK _ (.inl ⟨rfl,λx hx=>?_⟩)⟩
  obtain⟨k,hk⟩:=List.mem_iff_getElem?.1 hx
  exact h2 k x (by omega) hk
theorem count_is {s:List UInt8} {M:Mem} (K:Value->Prop) (hK:K (.int .i64 (s.count 10:Nat))):S_strings_Count s [10] M K:=by
 unfold S_strings_Count
 refine⟨λh=>by simp at h,λ_=>⟨λ_=>⟨10,by omega,rfl,hK⟩,λh=>by simp at h⟩⟩
theorem index_is {s:List UInt8} {M:Mem} (K:Value->Prop) (hK:K (.int .i64 (idxB s 10))):S_strings_Index s [10] M K:=by
 unfold S_strings_Index
 refine s_internal_stringslite_Index _ _ _ _ ?_
 unfold S_internal_stringslite_Index
 refine⟨λh=>by simp at h,λ_=>?_⟩
 unfold S_internal_stringslite_Index_J1
 refine⟨λh=>⟨_,rfl,?_⟩,λh=>⟨λ_=>⟨10,by omega,rfl,s_internal_stringslite_IndexByte _ _ _ _ ⟨_,rfl,⟨_,rfl,hK⟩⟩⟩,λh=>by simp at h⟩⟩
 have e:[10]=s:=mkS_beq.1 h
 subst e
 exact hK
def splitB (c:UInt8):List UInt8->List (List UInt8)
 |[]=>[[]]
 |b::r=>if b=c then[]::splitB c r else match splitB c r with
  |[]=>[[b]]
  |h::t=>(b::h)::t
theorem splitB_none {c:UInt8}:∀{l:List UInt8},(∀x∈l,x≠c)->splitB c l=[l]
 |[],_=>rfl
 |b::r,h=>by rw[splitB,if_neg (h b (by simp)),splitB_none λx hx=>h x (by simp[hx])]
theorem splitB_app {c:UInt8} {r:List UInt8}:∀{l:List UInt8},(∀x∈l,x≠c)->splitB c (l++c::r)=l::splitB c r
 |[],_=>by rw[List.nil_append,splitB,if_pos rfl]
 |b::l,h=>by rw[List.cons_append,splitB,if_neg (h b (by simp)),splitB_app λx hx=>h x (by simp[hx])]
theorem splitB_len (c:UInt8):∀l:List UInt8,(splitB c l).length=l.count c+1
 |[]=>rfl
 |b::r=>by
  have ih:=splitB_len c r
  rw[splitB]
  split
  ·rename_i h;subst h;simp[ih]
  ·rename_i h
   have e:(b::r).count c=r.count c:=by simp[List.count_cons,h]
   rw[e,<-ih]
   cases hs:splitB c r with
   |nil=>rw[hs]at ih;simp at ih
   |cons x t=>simp
theorem splitB_last {c:UInt8} {r:List UInt8} (hr:∀x∈r,x≠c):∀l:List UInt8,splitB c (l++c::r)=splitB c l++[r]
 |[]=>by simp only[List.nil_append,splitB,if_true,splitB_none hr];rfl
 |b::l=>by
  have ih:=splitB_last hr l
  rw[List.cons_append,splitB,splitB,ih]
  split
  ·rfl
  ·cases hs:splitB c l with
   |nil=>have:=splitB_len c l;rw[hs]at this;simp at this
   |cons x t=>rfl
theorem splitB_lens (c:UInt8):∀(l:List UInt8),∀x∈splitB c l,x.length<=l.length
 |[],x,hx=>by simp[splitB]at hx;simp[hx]
 |b::r,x,hx=>by
  have ih:=splitB_lens c r
  rw[splitB]at hx
  split at hx
  ·rcases List.mem_cons.1 hx with rfl|hx
   ·simp
   ·have:=ih x hx;simp;omega
  ·cases hs:splitB c r with
   |nil=>rw[hs]at hx;simp at hx;simp[hx]
   |cons h t=>
    rw[hs]at hx ih
    rcases List.mem_cons.1 hx with rfl|hx
    ·have:=ih h (by simp);simp;omega
    ·have:=ih x (by simp[hx]);simp;omega
theorem sC1:∀x:List UInt8,(sC x).length=1:=λ_=>rfl
theorem repl_sC (n:Nat):repl n [Value.string (mkS [])]=cl sC (List.replicate n []):=by
 unfold repl cl
 rw[List.map_replicate]
theorem split_is {s:List UInt8} (hs:s.length<=1048576) {M:Mem} (K:Value->Mem->Prop) (hK:∀M' A c,M.le M'->SlV M' A (splitB 10 s).length c 1 (cl sC (splitB 10 s))->K (.slice A (splitB 10 s).length c) M'):S_strings_Split s [10] M K:=by
 unfold S_strings_Split
 have hlen:=splitB_len 10 s
 have hcnt:s.count 10<=s.length:=List.count_le_length
 refine s_strings_genSplit _ _ _ _ _ _ ?_
 unfold S_strings_genSplit
 refine⟨λh=>by simp at h,λ_=>⟨λh=>by simp at h,λ_=>⟨λ_=>?_,λh=>absurd (by decide) h⟩⟩⟩
 refine s_strings_Count _ _ _ _ (count_is _ ⟨_,rfl,by unfold InI;omega,?_⟩)
 unfold S_strings_genSplit_J1
 obtain⟨N,hN⟩:∃N:Nat,N=(splitB 10 s).length:=⟨_,rfl⟩
 have hif:(if ((s.length:Nat):Int)+1<((s.count 10:Nat):Int)+1 then((s.length:Nat):Int)+1 else((s.count 10:Nat):Int)+1)=(N:Int):=by split<;>omega
 rw[hif]
 rw[<-hN]at hlen hK
 have hN0:0<N:=by omega
 refine⟨by unfold InI;omega,by omega,by omega,by omega,by unfold InI;omega,?_⟩
 rw[show(N:Int).toNat=N from rfl,repl_sC]
 refine⟨λrest i rn rx=>∃dn:List (List UInt8),splitB 10 s=dn++splitB 10 rest/\i=dn.length/\N=rn/\rx=cl sC (dn++List.replicate (N-dn.length) [])/\rest.length<=s.length,λ_ i _ _=>(N-i).toNat,⟨[],rfl,rfl,rfl,by simp,Nat.le_refl _⟩,λrest i rn rx ⟨dn,hsp,hi,hrn,hrx,hrl⟩=>?_⟩
 subst hi;subst hrn;subst hrx
 have hl2:=congrArg List.length hsp
 rw[List.length_append,splitB_len 10 rest,<-hN]at hl2
 refine⟨λhlt=>?_,λhge=>?_⟩
 ·refine s_strings_Index _ _ _ _ (index_is _ ⟨_,rfl,?_⟩)
  rcases idxB_cases rest 10 with⟨hz,hno⟩|⟨m,hz,hm,hno⟩
  ·have h0:splitB 10 rest=[rest]:=splitB_none λx hx=>by
    obtain⟨k,hk⟩:=List.mem_iff_getElem?.1 hx
    exact hno k x hk
   have:=splitB_len 10 rest
   rw[h0]at this
   simp at this
   omega
  ·replace hz:idxB rest 10=(m:Int):=hz
   rw[hz]
   have hml:=(List.getElem?_eq_some_iff.1 hm).1
   have hsa:=split_at hm
   have hno':∀x∈rest.take m,x≠10:=λx hx=>by
    obtain⟨k,hk⟩:=List.mem_iff_getElem?.1 hx
    rw[List.getElem?_take]at hk
    split at hk
    ·exact hno k x (by omega) hk
    ·cases hk
   have hsp2:splitB 10 rest=rest.take m::splitB 10 (rest.drop (m+1)):=by
    rw[<-splitB_app hno',<-hsa]
   refine⟨λh=>by omega,λ_=>⟨by unfold InI;omega,by omega,by omega,by omega,by omega,by omega,by unfold InI;simp;omega,?_⟩⟩
   have e1:(rest.take ((rest.length:Nat):Int).toNat).drop ((m:Int)+(([10]:List UInt8).length:Nat)).toNat=rest.drop (m+1):=by rw[take_all];rfl
   have e2:(rest.take ((m:Int)+0).toNat).drop (0:Int).toNat=rest.take m:=by simp
   have e3:putAt (cl sC (dn++List.replicate (N-dn.length) [])) (0+(dn.length:Int).toNat*1) [Value.string (mkS (rest.take m))]=cl sC ((dn++[rest.take m])++List.replicate (N-(dn++[rest.take m]).length) []):=by
    rw[show(dn.length:Int).toNat=dn.length from rfl,show[Value.string (mkS (rest.take m))]=sC (rest.take m) from rfl,cl_put sC1 _ (by simp;omega)]
    congr 1
    rw[List.set_append_right _ _ (Nat.le_refl _),Nat.sub_self,List.append_assoc]
    congr 1
    obtain⟨q,hq⟩:∃q,N-dn.length=q+1:=⟨N-dn.length-1,by omega⟩
    rw[hq,List.replicate_succ,List.set_cons_zero,List.length_append,List.length_singleton,show N-(dn.length+1)=q by omega];rfl
   rw[e1,e2,e3]
   refine⟨by simp;omega,by simp;omega,by simp,by unfold InI;omega,⟨dn++[rest.take m],by rw[hsp,hsp2,List.append_assoc];rfl,by simp,rfl,rfl,by simp;omega⟩,by dsimp only;omega⟩
 ·have hd:dn.length+1=N:=by omega
  have h0:rest.count 10=0:=by omega
  have hr:splitB 10 rest=[rest]:=splitB_none λx hx e=>by
   subst e
   have:=List.count_pos_iff.2 hx
   omega
  unfold S_strings_genSplit_J2
  refine⟨by omega,by omega,by unfold InI;omega,by omega,by omega,λM3 A c hle hsl=>?_⟩
  have e3:(putAt (cl sC (dn++List.replicate (N-dn.length) [])) (0+(dn.length:Int).toNat*1) [Value.string (mkS rest)])=cl sC (splitB 10 s):=by
   rw[show(dn.length:Int).toNat=dn.length from rfl,show[Value.string (mkS rest)]=sC rest from rfl,cl_put sC1 _ (by simp;omega),hsp,hr]
   congr 1
   rw[List.set_append_right _ _ (Nat.le_refl _),Nat.sub_self,show N-dn.length=1 by omega];rfl
  rw[show((dn.length:Int)+1).toNat=N by omega,e3,List.take_of_length_le (by rw[cl_length sC1];omega)]at hsl
  rw[show((dn.length:Int)+1).toNat=N by omega]
  exact λM4 hle2=>⟨_,_,_,rfl,λM5 hle3=>hK M5 A c (hle.trans (hle2.trans hle3)) ((hsl.le hle2).le hle3)⟩
end Go.Proofs.YtjecddabdlapbaaDoor.core

namespace Go.Proofs.YtjecddabdlapbaaDoor.core
open Go.Gx Go.RowKit Go.ChangeShapes Go.WideShapes Go.ChangeAt
set_option linter.unusedVariables false
theorem from_split {t:List UInt8} {z:Int} (h:LastAt t 10 z):∃f:Nat,z+1=f/\f<=t.length/\∃P,splitB 10 t=P++[t.drop f]/\P.length=(t.take f).count 10:=by
 rcases h with⟨rfl,h⟩|⟨i,rfl,hi,h⟩
 ·exact⟨0,rfl,Nat.zero_le _,[],splitB_none h,rfl⟩
 ·refine⟨i+1,rfl,(List.getElem?_eq_some_iff.1 hi).1,splitB 10 (t.take i),?_,?_⟩
  ·rw[<-splitB_last h,<-split_at hi]
  ·rw[splitB_len,List.take_add_one,hi,List.count_append];rfl
def posOf (s:List UInt8) (at_:Int):X_api_Pos×Int:=
 if at_<0\/at_>s.length then(⟨0,0⟩,1) else
 (⟨((splitB 10 (s.take at_.toNat)).length:Nat),1+((signsFrom ((splitB 10 (s.take at_.toNat)).getLast?.getD []) 0).length:Nat)⟩,0)
theorem where_is {s:List UInt8} (hs:s.length<=1048576) (at_:Int) {M:Mem} (K:Value->Prop) (hK:K (.tuple #[(posOf s at_).1.val,.int .i64 (posOf s at_).2])):S_place_Where s at_ M (λ_=>False) (λv _=>K v):=by
 have bad:∀h:at_<0\/at_>s.length,S_place_Where_J1 s at_ M (λ_=>False) true (λv _=>K v):=λh=>by
  unfold S_place_Where_J1
  refine⟨λ_ M' _=>?_,λh=>absurd rfl h⟩
  unfold posOf at hK
  rw[if_pos h]at hK;exact hK
 unfold S_place_Where
 refine⟨λh=>bad (.inl h),λh=>?_⟩
 by_cases h2:at_>s.length
 ·rw[show decide (at_>((s.length:Nat):Int))=true by simp;omega];exact bad (.inr h2)
 rw[show decide (at_>((s.length:Nat):Int))=false by simp;omega]
 obtain⟨k,rfl⟩:=Int.eq_ofNat_of_zero_le (show 0<=at_ by omega)
 unfold posOf at hK
 rw[if_neg (by omega),show(k:Int).toNat=k from rfl]at hK
 unfold S_place_Where_J1
 rw[show(k:Int).toNat=k from rfl,show(0:Int).toNat=0 from rfl,List.drop_zero]
 refine⟨λh=>by simp at h,λ_=>⟨by omega,by omega,by omega,?_⟩⟩
 refine s_strings_LastIndexByte _ _ _ _ (last_is (c:=10) (by simp;omega) _ λz hz=>⟨z,rfl,?_⟩)
 obtain⟨f,hf,hfl,P,hP,hPl⟩:=from_split hz
 rw[hf]
 have hfk:f<=k:=by rw[List.length_take]at hfl;omega
 have htl:(s.take k).length=k:=by rw[List.length_take];omega
 refine⟨by unfold InI;omega,by omega,by omega,by omega,λM6 r hr hM6 _=>?_⟩
 rw[show(f:Int).toNat=f from rfl]at*
 rw[hP,List.length_append,hPl]at hK
 simp only[List.length_singleton,List.getLast?_append,List.getLast?_singleton,Option.some_or,Option.getD_some]at hK
 generalize hl:(s.take k).drop f=l at*
 have hll:l.length<=1048576:=by rw[<-hl];simp;omega
 have hsl:=signs_len l 0
 refine⟨Unit,λ_ n M2=>∃(p q:Nat),M2 r=some (.stringIter (mkS l) p)/\n=q/\(signsFrom l 0).length=q+(signsFrom l p).length,λ_ n=>((signsFrom l 0).length-n).toNat,(),⟨0,0,by rw[hM6,Mem.add_eq],rfl,by omega⟩,λ_ n M2 ⟨p,q,hit,hn,hsg⟩=>?_⟩
 subst hn
 refine⟨l,p,hit,.inr hr,λhlt M3 hM3=>?_,λhge=>?_⟩
 ·unfold S_place_Where_J2
  rw[signs_in hlt,List.length_cons]at hsg
  have hw:=width_is (mkS l) p (by rw[mkS_size];exact hlt)
  rw[show(mkS l).data.toList=l from rfl]at hw
  refine⟨λ_=>⟨by unfold InI;omega,(),⟨p+max 1 (firstL (l.drop p)),q+1,by rw[hM3,Mem.add_eq,hw],by omega,by omega⟩,by dsimp only;omega⟩,λh=>absurd rfl h⟩
 ·unfold S_place_Where_J2
  rw[signs_out hge]at hsg
  rw[List.length_nil,Nat.add_zero]at hsg
  rw[hf,show(f:Int).toNat=f from rfl,show(0:Int).toNat=0 from rfl,List.drop_zero]
  refine⟨λh=>by simp at h,λ_=>⟨by omega,by omega,by omega,?_⟩⟩
  have hc:(s.take f).count 10=((s.take k).take f).count 10:=by rw[List.take_take,Nat.min_eq_left hfk]
  have hcl:(s.take f).count 10<=(s.take f).length:=List.count_le_length
  rw[List.length_take]at hcl
  refine s_strings_Count _ _ _ _ (count_is _ ⟨_,rfl,by unfold InI;omega,by unfold InI;omega,λM' _=>?_⟩)
  rw[hc]
  rw[hsg,show(((s.take k).take f).count 10+1:Nat)=1+((s.take k).take f).count 10 from Nat.add_comm _ _,Int.natCast_add]at hK
  exact hK
theorem pos_is {s:List UInt8} (hs:s.length<=1048576) (at_:Int) {M:Mem} (K:Value->Prop) (hK:K (.tuple #[(posOf s at_).1.val,.int .i64 (posOf s at_).2])):S_chaffref_Pos s at_ M K:=by
 have bad:∀h:at_<0\/at_>s.length,S_chaffref_Pos_J1 s at_ M true K:=λh=>by
  unfold S_chaffref_Pos_J1
  refine⟨λ_=>?_,λh=>absurd rfl h⟩
  unfold posOf at hK
  rw[if_pos h]at hK;exact hK
 unfold S_chaffref_Pos
 refine⟨λh=>bad (.inl h),λh=>?_⟩
 by_cases h2:at_>s.length
 ·rw[show decide (at_>((s.length:Nat):Int))=true by simp;omega];exact bad (.inr h2)
 rw[show decide (at_>((s.length:Nat):Int))=false by simp;omega]
 obtain⟨k,rfl⟩:=Int.eq_ofNat_of_zero_le (show 0<=at_ by omega)
 unfold posOf at hK
 rw[if_neg (by omega),show(k:Int).toNat=k from rfl]at hK
 unfold S_chaffref_Pos_J1
 rw[show(k:Int).toNat=k from rfl,show(0:Int).toNat=0 from rfl,List.drop_zero]
 have htl:(s.take k).length=k:=by rw[List.length_take];omega
 have hsp:=splitB_len 10 (s.take k)
 have hcl:(s.take k).count 10<=(s.take k).length:=List.count_le_length
 refine⟨λh=>by simp at h,λ_=>⟨by omega,by omega,by omega,?_⟩⟩
 refine s_strings_Split _ _ _ _ (split_is (by omega) _ λM' A c hle hsl=>⟨_,_,_,rfl,by unfold InI;omega,?_⟩)
 have hlens:=splitB_lens 10 (s.take k)
 generalize hS:splitB 10 (s.take k)=S at*
 obtain⟨x,hx⟩:∃x,S[S.length-1]?=some x:=⟨S[S.length-1]'(by omega),List.getElem?_eq_getElem _⟩
 have hxl:=hlens x (List.mem_of_getElem? hx)
 obtain⟨b,o,ha,hat⟩:=hsl.at sC1 rfl hx
 rw[List.getLast?_eq_getElem?,hx,Option.getD_some]at hK
 refine⟨b,o,ha,by omega,by omega,x,?_,rsigns_is ?_ _ ?_⟩
 ·rw[show(((S.length:Nat):Int)-1).toNat=S.length-1 by omega];exact hat
 ·omega
 ·have:=signs_len x 0
  exact⟨by unfold InI;omega,hK⟩
end Go.Proofs.YtjecddabdlapbaaDoor.core

