/- Contracts and what they hang on, of several parts. No condition. -/
import Derived.Test.YtmnilbfhfjdelaaM4
import Derived.Test.YtmnilbfhfjdelaaCoreX
import Derived.Test.YtmnilbfhfjdelaaWellG
import Derived.Test.YtmnilbfhfjdelaaM3
import Derived.Test.YtmnilbfhfjdelaaPackG
namespace Go.Proofs.Ytmnilbfhfjdelaa.core
open Go.Gx Go.RowKit Go.ChangeShapes Go.WideShapes Go.ChangeAt
set_option linter.unusedVariables false
theorem inI_big {z:Int} (h1: -100000000<=z) (h2:z<=100000000):InI z:=by unfold InI;omega
def by8 (l:List UInt8) (i:Nat):UInt8:=(l[i]?).getD 0
def at8 (l:List UInt8) (i:Nat):Nat:=(by8 l i).toNat
def Asc (l:List UInt8):Prop:=∀i,i+1<l.length->at8 l i<at8 l (i+1)
theorem at8_get {l:List UInt8} {i:Nat} (h:i<l.length):l[i]?=some (by8 l i):=by
 unfold by8;rw[List.getElem?_eq_getElem h];rfl
structure RowB (M:Mem) (g c:Nat) (l:List UInt8):Prop where
 len:l.length<=c
 max:c<=maxLen
 blk:∃cur t f,M g=some (.cells cur t f)/\cur.size=c/\(f=(0,0)\/cur.size<=f.1)/\cur.toList.take l.length=bytesV l
def Kp (g:Nat) (M M':Mem):Prop:=∀b o,b≠g->M b=some o->M' b=some o
section
variable {M M':Mem} {g c:Nat} {l:List UInt8}
theorem bytes_at {i:Nat} (h:i<l.length):(bytesV l)[i]?=some (.int .u8 ((at8 l i:Nat):Int)):=by
 unfold bytesV at8
 rw[List.getElem?_map,at8_get h];rfl
theorem RowB.at (h:RowB M g c l) {i:Nat} (hi:i<l.length):At M g (0+i*1) [.int .u8 ((at8 l i:Nat):Int)]:=by
 obtain⟨cur,t,f,h1,h2,_,h4⟩:=h.blk
 intro j v hj
 cases j with
 |succ j=>simp at hj
 |zero=>
  simp only[List.getElem?_cons_zero,Option.some.injEq]at hj
  subst hj
  unfold Mem.cell
  rw[h1]
  have h5:=bytes_at hi
  rw[<-h4,List.getElem?_take,if_pos hi]at h5
  simpa using h5
theorem RowB.has (h:RowB M g c l) {i k:Nat} (hi:i+k<=l.length):HasM M g i k:=by
 obtain⟨cur,t,f,h1,h2,h3,_⟩:=h.blk
 have:=h.len
 exact⟨cur,t,f,h1,by omega,h3⟩
theorem RowB.put (h:RowB M g c l) {i:Nat} (hi:i<l.length) (x:UInt8):RowB (M.put g (0+i*1) [.int .u8 (x.toNat:Int)]) g c (l.set i x):=by
 obtain⟨cur,t,f,h1,h2,h3,h4⟩:=h.blk
 have hl:=h.len
 have hsz:(putAt cur.toList (0+i*1) [Value.int .u8 (x.toNat:Int)]).toArray.size=cur.size:=by
  simp only[List.size_toArray,putAt,List.length_append,List.length_take,List.length_drop,Array.length_toList,List.length_cons,List.length_nil]
  omega
 refine⟨by rw[List.length_set];exact hl,h.max,_,t,f,Mem.put_eq h1,by rw[hsz];exact h2,by rw[hsz];exact h3,?_⟩
 rw[List.length_set]
 show(putAt cur.toList (0+i*1) [Value.int .u8 (x.toNat:Int)]).take l.length=_
 rw[take_putAt _ _ _ _ (by simp;omega) (by simp;omega),h4]
 have:=putAt_map (λc:UInt8=>Value.int .u8 (c.toNat:Int)) l (0+i*1) x (by omega)
 unfold bytesV
 rw[this]
 simp
theorem RowB.le (h:RowB M g c l) (hl:M.le M'):RowB M' g c l:=by
 obtain⟨cur,t,f,h1,h2⟩:=h.blk
 exact⟨h.len,h.max,cur,t,f,hl _ _ h1,h2⟩
theorem RowB.slv (h:RowB M g c l):SlV M (some ⟨g,0,none⟩) l.length c 1 (bytesV l):=by
 refine⟨by simp[bytesV],h.len,h.max,λ_=>⟨g,0,rfl,λj v hj=>?_⟩⟩
 have hjl:j<l.length:=by have:=(List.getElem?_eq_some_iff.1 hj).1;simpa[bytesV]using this
 have:=h.at hjl 0 v (by rw[bytes_at hjl]at hj;simpa using hj)
 simpa using this
theorem Kp.put {k:Nat} {vs:List Value} (h:Kp g M M'):Kp g M (M'.put g k vs):=λb o hb hm=>by rw[Mem.put_ne hb];exact h b o hb hm
theorem Kp.le {M2:Mem} (h:Kp g M M') (hl:M'.le M2):Kp g M M2:=λb o hb hm=>hl b o (h b o hb hm)
theorem slA_at {k:Nat} (hk:k<c):slA (some ⟨g,0,none⟩) k c 1=some ⟨g,k,none⟩:=by
 unfold slA
 rw[if_neg (by omega)]
 simp[Addr.add]
 exact λh=>h.symm
end
noncomputable def alphaP (a:List UInt8):Int:=if a.length=0 then 1 else if 8<a.length then 2 else @ite _ (Asc a) (Classical.propDecidable _) 0 3
theorem walpha_is (a:List UInt8) (M:Mem) (K:Value->Prop) (hK:K (.int .i64 (alphaP a))):S_walk_Alpha a M K:=by
 unfold S_walk_Alpha
 unfold alphaP at hK
 refine⟨λh0=>?_,λh0=>⟨λh8=>?_,λh8=>?_⟩⟩
 ·rw[if_pos (by rw[h0];rfl)]at hK;exact hK
 ·rw[if_neg (by omega),if_pos (by omega)]at hK;exact hK
 ·have hl:a.length≠0:=λh=>h0 (List.eq_nil_of_length_eq_zero h)
  rw[if_neg hl,if_neg (by omega)]at hK
  refine⟨λi=>1<=i/\i<=a.length/\∀k:Nat,(k:Int)+1<i->at8 a k<at8 a (k+1),λi=>a.length-i.toNat,⟨by omega,by omega,λk h=>by omega⟩,λi ⟨i1,i2,ha⟩=>⟨λhlt=>?_,λhge=>?_⟩⟩
  ·refine⟨_,by omega,at8_get (by omega),inI_big (by omega) (by omega),_,by omega,at8_get (by omega),λhle=>?_,λhgt=>⟨inI_big (by omega) (by omega),⟨by omega,by omega,λk hk=>?_⟩,?_⟩⟩
   ·have hna:¬Asc a:=λh=>by
     have:=h (i-1).toNat (by omega)
     rw[show(i-1).toNat+1=i.toNat by omega]at this
     unfold at8 at this
     omega
    rw[if_neg hna]at hK;exact hK
   ·by_cases hki:(k:Int)+1=i
    ·rw[show k=(i-1).toNat by omega,show(i-1).toNat+1=i.toNat by omega]
     unfold at8
     omega
    ·exact ha k (by omega)
   ·show a.length-(i+1).toNat<a.length-i.toNat;omega
  ·have hasc:Asc a:=λk hk=>ha k (by omega)
   rw[if_pos hasc]at hK;exact hK
theorem alpha_ok {a:List UInt8} (h:alphaP a=0):1<=a.length/\a.length<=8/\Asc a:=by
 unfold alphaP at h
 split at h
 ·omega
 split at h
 ·omega
 split at h
 ·rename_i h1;exact⟨by omega,by omega,h1⟩
 ·omega
def geo (b:Nat):Nat->Nat
 |0=>0
 |n+1=>geo b n+b ^ n
theorem pow8 {b n:Nat} (hb:b<=8) (hn:n<=7):b ^ n<=2097152:=by
 have h1:b ^ n<=8 ^ n:=Nat.pow_le_pow_left hb n
 have h2:8 ^ n<=8 ^ 7:=Nat.pow_le_pow_right (by omega) hn
 have h3:8 ^ 7=2097152:=by decide
 omega
theorem geo8 {b:Nat} (hb:b<=8):∀n:Nat,n<=7->geo b n<=n*2097152
 |0,_=>by simp[geo]
 |n+1,h=>by
  have:=geo8 hb n (by omega)
  have:=pow8 hb (n:=n) (by omega)
  rw[geo,Nat.succ_mul];omega
theorem shorter_is {a:List UInt8} {n:Int} (h8:a.length<=8) (h0:0<=n) (h7:n<=7) (M:Mem) (K:Value->Prop) (hK:K (.int .i64 ((geo a.length n.toNat:Nat):Int))):S_walk_shorter a n M K:=by
 unfold S_walk_shorter
 refine⟨λo m i=>0<=i/\i<=n/\o=((geo a.length i.toNat:Nat):Int)/\m=((a.length ^ i.toNat:Nat):Int),λ_ _ i=>n.toNat-i.toNat,⟨by omega,h0,rfl,rfl⟩,λo m i ⟨i0,i1,ho,hm⟩=>⟨λhlt=>?_,λhge=>?_⟩⟩
 ·have e1:geo a.length (i+1).toNat=geo a.length i.toNat+a.length ^ i.toNat:=by rw[show(i+1).toNat=i.toNat+1 by omega,geo]
  have e2:a.length ^ (i+1).toNat=a.length ^ i.toNat*a.length:=by rw[show(i+1).toNat=i.toNat+1 by omega,Nat.pow_succ]
  have b1:=geo8 h8 (i+1).toNat (by omega)
  have b2:=pow8 h8 (n:=(i+1).toNat) (by omega)
  have hmm:m*((a.length:Nat):Int)=((a.length ^ (i+1).toNat:Nat):Int):=by rw[hm,e2];push_cast;rfl
  have hoo:o+m=((geo a.length (i+1).toNat:Nat):Int):=by rw[ho,hm,e1];push_cast;rfl
  have b3:(i+1).toNat*2097152<=7*2097152:=Nat.mul_le_mul_right _ (by omega)
  refine⟨inI_big (by omega) (by omega),inI_big (by omega) (by omega),inI_big (by omega) (by omega),⟨by omega,by omega,hoo,hmm⟩,?_⟩
  show n.toNat-(i+1).toNat<n.toNat-i.toNat;omega
 ·rw[ho,show i=n by omega];exact hK
theorem wmany_is (a:List UInt8) (n:Int) (M:Mem) (K:Value->Prop) (h1:alphaP a≠0->K (.tuple #[.int .i64 0,.int .i64 (alphaP a)])) (h2:alphaP a=0->(n<0\/6<n)->K (.tuple #[.int .i64 0,.int .i64 1])) (h3:alphaP a=0->0<=n->n<=6->K (.tuple #[.int .i64 ((geo a.length (n.toNat+1):Nat):Int),.int .i64 0])):S_walk_Many a n M K:=by
 unfold S_walk_Many
 refine s_walk_Alpha _ _ _ (walpha_is a _ _ ⟨_,rfl,h1,λh=>?_⟩)
 have h0:alphaP a=0:=Decidable.not_not.1 h
 obtain⟨_,h8,_⟩:=alpha_ok h0
 have j1:∀v:Bool,v=decide (n<0\/6<n)->S_walk_Many_J1 a n M v K:=by
  intro v hv
  unfold S_walk_Many_J1
  refine⟨λht=>h2 h0 (of_decide_eq_true (hv▸ht)),λhf=>?_⟩
  have hn:¬(n<0\/6<n):=λh=>hf (by rw[hv,decide_eq_true h])
  refine⟨inI_big (by omega) (by omega),s_walk_shorter _ _ _ _ (shorter_is h8 (by omega) (by omega) _ _ ⟨_,rfl,?_⟩)⟩
  rw[show(n+1).toNat=n.toNat+1 by omega]
  exact h3 h0 (by omega) (by omega)
 exact⟨λh=>j1 _ (by symm;exact decide_eq_true (.inl h)),λh=>j1 _ (by rw[decide_eq_decide];omega)⟩
end Go.Proofs.Ytmnilbfhfjdelaa.core

namespace Go.Proofs.Ytmnilbfhfjdelaa.core
open Go.Gx Go.RowKit Go.ChangeShapes Go.WideShapes Go.ChangeAt
set_option linter.unusedVariables false
def ixN (a:List UInt8) (c:UInt8):Nat:=(idxB a (c.toNat:Int)).toNat
theorem ix_mem {a:List UInt8} {c:UInt8} (h:c∈a):idxB a (c.toNat:Int)=((ixN a c:Nat):Int)/\ixN a c<a.length/\a[ixN a c]?=some c:=by
 rcases idxB_cases a c with⟨_,h2⟩|⟨i,h1,h2,_⟩
 ·obtain⟨i,hi⟩:=List.mem_iff_getElem?.1 h
  exact absurd rfl (h2 i c hi)
 ·have:ixN a c=i:=by unfold ixN;rw[h1];omega
  rw[this]
  exact⟨h1,(List.getElem?_eq_some_iff.1 h2).1,h2⟩
theorem ix_not {a:List UInt8} {c:UInt8}:idxB a (c.toNat:Int)<0↔c∉a:=by
 rcases idxB_cases a c with⟨h1,h2⟩|⟨i,h1,h2,_⟩
 ·refine⟨λ_ h=>?_,λ_=>by rw[h1];omega⟩
  obtain⟨i,hi⟩:=List.mem_iff_getElem?.1 h
  exact absurd rfl (h2 i c hi)
 ·exact⟨λh=>by rw[h1]at h;omega,λh=>absurd (List.mem_of_getElem? h2) h⟩
theorem asc_lt {a:List UInt8} (h:Asc a):∀(i k:Nat),i+k+1<a.length->at8 a i<at8 a (i+k+1)
 |i,0,hk=>h i hk
 |i,k+1,hk=>by
  have h1:=asc_lt h i k (by omega)
  have h2:=h (i+k+1) (by omega)
  rw[show i+(k+1)+1=i+k+1+1 by omega]
  omega
theorem ix_at {a:List UInt8} (h:Asc a) {i:Nat} (hi:i<a.length):ixN a (by8 a i)=i:=by
 obtain⟨_,h2,h3⟩:=ix_mem (List.mem_of_getElem? (at8_get hi))
 have e:by8 a (ixN a (by8 a i))=by8 a i:=by
  have:=at8_get h2
  rw[h3]at this
  exact(Option.some.inj this).symm
 have e2:at8 a (ixN a (by8 a i))=at8 a i:=by unfold at8;rw[e]
 rcases Nat.lt_trichotomy (ixN a (by8 a i)) i with hl|hl|hl
 ·have:=asc_lt h (ixN a (by8 a i)) (i-ixN a (by8 a i)-1) (by omega)
  rw[show ixN a (by8 a i)+(i-ixN a (by8 a i)-1)+1=i by omega]at this
  omega
 ·exact hl
 ·have:=asc_lt h i (ixN a (by8 a i)-i-1) (by omega)
  rw[show i+(ixN a (by8 a i)-i-1)+1=ixN a (by8 a i) by omega]at this
  omega
def sumD (a:List UInt8):List UInt8->Nat
 |[]=>0
 |c::r=>ixN a c*a.length ^ r.length+sumD a r
def rankN (a s:List UInt8):Nat:=geo a.length s.length+sumD a s
theorem sumD_app (a:List UInt8):∀x y:List UInt8,sumD a (x++y)=sumD a x*a.length ^ y.length+sumD a y
 |[],y=>by simp[sumD]
 |c::r,y=>by
  rw[List.cons_append,sumD,sumD,sumD_app a r y,List.length_append,Nat.pow_add,Nat.add_mul,Nat.mul_assoc]
  omega
theorem sumD_lt {a:List UInt8} (h1:1<=a.length):∀{s:List UInt8},(∀c∈s,c∈a)->sumD a s<a.length ^ s.length
 |[],_=>by simp[sumD]
 |c::r,h=>by
  have ih:=sumD_lt h1 (s:=r) λx hx=>h x (by simp[hx])
  obtain⟨_,h3,_⟩:=ix_mem (h c (by simp))
  rw[sumD,List.length_cons,Nat.pow_succ]
  have:(ixN a c+1)*a.length ^ r.length<=a.length*a.length ^ r.length:=Nat.mul_le_mul_right _ h3
  rw[Nat.add_mul,Nat.one_mul]at this
  rw[Nat.mul_comm (a.length ^ r.length)]
  omega
theorem sumD_zero {a:List UInt8} (h:Asc a) (h1:1<=a.length):∀n,sumD a (List.replicate n (by8 a 0))=0
 |0=>rfl
 |n+1=>by rw[List.replicate_succ,sumD,ix_at h (by omega),sumD_zero h h1 n];simp
theorem sumD_max {a:List UInt8} (h1:1<=a.length):∀s:List UInt8,(∀c∈s,ixN a c=a.length-1)->sumD a s+1=a.length ^ s.length
 |[],_=>by simp[sumD]
 |c::r,h=>by
  have ih:=sumD_max h1 r λx hx=>h x (by simp[hx])
  rw[sumD,h c (by simp),List.length_cons,Nat.pow_succ,Nat.add_assoc,ih]
  have:(a.length-1)*a.length ^ r.length+a.length ^ r.length=(a.length-1+1)*a.length ^ r.length:=by rw[Nat.add_mul,Nat.one_mul]
  rw[this,show a.length-1+1=a.length by omega,Nat.mul_comm]
theorem geo_lt {b:Nat} (h1:1<=b):∀{m n:Nat},m<n->geo b m<geo b n
 |m,n+1,h=>by
  have hp:1<=b ^ n:=Nat.one_le_pow _ _ h1
  rw[geo]
  by_cases e:m=n
  ·subst e;omega
  ·have:=geo_lt h1 (show m<n by omega)
   omega
theorem rank_lt {a:List UInt8} (h1:1<=a.length) {s:List UInt8} (h:∀c∈s,c∈a):geo a.length s.length<=rankN a s/\rankN a s<geo a.length (s.length+1):=by
 have:=sumD_lt h1 h
 unfold rankN
 rw[geo];omega
end Go.Proofs.Ytmnilbfhfjdelaa.core

namespace Go.Proofs.Ytmnilbfhfjdelaa.core
open Go.Gx Go.RowKit Go.ChangeShapes Go.WideShapes Go.ChangeAt
set_option linter.unusedVariables false
noncomputable def overP (a s:List UInt8):Int:=if alphaP a≠0 then alphaP a else if 6<s.length then 2 else @ite _ (∀c∈s,c∈a) (Classical.propDecidable _) 0 12
theorem over_ok {a s:List UInt8} (h:overP a s=0):1<=a.length/\a.length<=8/\Asc a/\s.length<=6/\∀c∈s,c∈a:=by
 unfold overP at h
 split at h
 ·rename_i h1;exact absurd h h1
 rename_i h1
 obtain⟨a1,a2,a3⟩:=alpha_ok (Decidable.not_not.1 h1)
 split at h
 ·omega
 rename_i h2
 split at h
 ·rename_i h3;exact⟨a1,a2,a3,by omega,h3⟩
 ·omega
theorem over_of {a s:List UInt8} (h0:alphaP a=0) (h6:s.length<=6) (h:∀c∈s,c∈a):overP a s=0:=by
 unfold overP
 rw[if_neg (λhn=>hn h0),if_neg (by omega),if_pos h]
section
variable {a s:List UInt8} {M:Mem}
theorem sidx_is (c:Int) (K:Value->Prop) (hK:K (.int .i64 (idxB a c))):S_strings_IndexByte a c M K:=by
 unfold S_strings_IndexByte
 refine s_internal_stringslite_IndexByte _ _ _ _ ?_
 unfold S_internal_stringslite_IndexByte
 exact⟨_,rfl,hK⟩
theorem wover_is (K:Value->Prop) (hK:K (.int .i64 (overP a s))):S_walk_Over a s M K:=by
 unfold S_walk_Over
 unfold overP at hK
 refine s_walk_Alpha _ _ _ (walpha_is a _ _ ⟨_,rfl,λh=>?_,λh=>?_⟩)
 ·rw[if_pos h]at hK;exact hK
 rw[if_neg h]at hK
 refine⟨λh6=>?_,λh6=>?_⟩
 ·rw[if_pos (by omega)]at hK;exact hK
 rw[if_neg (by omega)]at hK
 refine⟨λi=>0<=i/\i<=s.length/\∀(j:Nat) x,(j:Int)<i->s[j]?=some x->x∈a,λi=>s.length-i.toNat,⟨by omega,by omega,λj x h=>by omega⟩,λi ⟨i0,i1,hall⟩=>⟨λhlt=>?_,λhge=>?_⟩⟩
 ·have hg:=at8_get (l:=s) (i:=i.toNat) (by omega)
  refine⟨_,i0,hg,s_strings_IndexByte _ _ _ _ (sidx_is _ _ ⟨_,rfl,λhneg=>?_,λhpos=>⟨inI_big (by omega) (by omega),⟨by omega,by omega,λj x hj hx=>?_⟩,?_⟩⟩)⟩
  ·have hn:=ix_not.1 hneg
   rw[if_neg (λhall=>hn (hall _ (List.mem_of_getElem? hg)))]at hK;exact hK
  ·by_cases hji:(j:Int)<i
   ·exact hall j x hji hx
   ·rw[show j=i.toNat by omega,hg]at hx
    cases hx
    exact Decidable.not_not.1 λhn=>hpos (ix_not.2 hn)
  ·show s.length-(i+1).toNat<s.length-i.toNat;omega
 ·rw[if_pos (λc hc=>by
   obtain⟨j,hj⟩:=List.mem_iff_getElem?.1 hc
   have:=(List.getElem?_eq_some_iff.1 hj).1
   exact hall j c (by omega) hj)]at hK
  exact hK
theorem drop_at {i:Nat} (hi:i<s.length):s.drop i=by8 s i::s.drop (i+1):=by
 rw[List.drop_eq_getElem_cons hi]
 have:=at8_get hi
 rw[List.getElem?_eq_getElem hi]at this
 rw[Option.some.inj this]
end
end Go.Proofs.Ytmnilbfhfjdelaa.core

namespace Go.Proofs.Ytmnilbfhfjdelaa.core
open Go.Gx Go.RowKit Go.ChangeShapes Go.WideShapes Go.ChangeAt
set_option linter.unusedVariables false
section
variable {a s:List UInt8} {M:Mem}
theorem set_mid:∀(u R:List UInt8) (c x:UInt8),(u++c::R).set u.length x=u++x::R
 |[],_,_,_=>rfl
 |d::u,R,c,x=>by simp[set_mid u R c x]
theorem wnext_is (L:Nat->Prop) (K:Value->Mem->Prop) (h1:overP a s≠0->∀M',M.le M'->K (.tuple #[.string (mkS []),.int .i64 (overP a s)]) M') (h2:overP a s=0->rankN a s+1=geo a.length 7->∀M',M.le M'->K (.tuple #[.string (mkS []),.int .i64 12]) M')
  (h3:overP a s=0->∀t:List UInt8,t.length<=6->(∀c∈t,c∈a)->rankN a t=rankN a s+1->∀M',M.le M'->K (.tuple #[.string (mkS t),.int .i64 0]) M'):S_walk_Next a s M L K:=by
 unfold S_walk_Next
 refine s_walk_Over _ _ _ _ (wover_is _ ⟨_,rfl,h1,λh=>?_⟩)
 have h0:=Decidable.not_not.1 h
 obtain⟨a1,a8,hasc,h6,hin⟩:=over_ok h0
 refine⟨by unfold maxLen;omega,λM4 A c hnb=>?_⟩
 obtain⟨hle4,hlc,hcm,g,cur,t,f,rfl,hg,hb,hsz,hf,htk⟩:=hnb
 have hR:RowB M4 g c s:=⟨hlc,hcm,cur,t,f,hb,hsz,hf,htk⟩
 have hMle:∀{M'},Kp g M4 M'->M.le M':=λhk b o hbo=>hk b o (λe=>by rw[e,hg]at hbo;cases hbo) (hle4 b o hbo)
 have hL:Wr L M g:=.inr hg
 have hz:by8 a 0∈a:=List.mem_of_getElem? (at8_get (l:=a) (i:=0) (by omega))
 have rep:∀n,∀c∈List.replicate n (by8 a 0),c∈a:=λn c hc=>by rw[List.eq_of_mem_replicate hc];exact hz
 refine⟨inI_big (by omega) (by omega),Unit,λ_ i M'=> -1<=i/\i<s.length/\RowB M' g c (s.take (i+1).toNat++List.replicate (s.length-(i+1).toNat) (by8 a 0))/\(∀x∈s.drop (i+1).toNat,ixN a x=a.length-1)/\Kp g M4 M',λ_ i=>(i+1).toNat,(),⟨by omega,by omega,?_,λx hx=>?_,λ_ _ _ h=>h⟩,λ_ i M' ⟨i0,i1,hR',hmax,hk'⟩=>⟨λhge=>?_,λhlt=>?_⟩⟩
 ·rw[show(((s.length:Nat):Int)-1+1).toNat=s.length by omega,List.take_length,Nat.sub_self,List.replicate_zero,List.append_nil];exact hR
 ·rw[List.drop_of_length_le (by omega)]at hx;cases hx
 ·have hi:i.toNat<s.length:=by omega
  have hgi:=at8_get hi
  obtain⟨hk0,hk1,hk2⟩:=ix_mem (hin _ (List.mem_of_getElem? hgi))
  have e1:(i+1).toNat=i.toNat+1:=by omega
  have htk1:s.take (i.toNat+1)=s.take i.toNat++[by8 s i.toNat]:=by rw[List.take_add_one,hgi];rfl
  have htl:(s.take i.toNat).length=i.toNat:=by rw[List.length_take];omega
  rw[e1]at hR' hmax
  rw[htk1,List.append_assoc,List.singleton_append]at hR'
  have hset:∀x,(s.take i.toNat++by8 s i.toNat::List.replicate (s.length-(i.toNat+1)) (by8 a 0)).set i.toNat x=s.take i.toNat++x::List.replicate (s.length-(i.toNat+1)) (by8 a 0):=λx=>by
   have:=set_mid (s.take i.toNat) (List.replicate (s.length-(i.toNat+1)) (by8 a 0)) (by8 s i.toNat) x
   rw[htl]at this;exact this
  have hyl:(s.take i.toNat++by8 s i.toNat::List.replicate (s.length-(i.toNat+1)) (by8 a 0)).length=s.length:=by
   rw[List.length_append,htl,List.length_cons,List.length_replicate];omega
  refine⟨_,by omega,hgi,s_strings_IndexByte _ _ _ _ (sidx_is _ _ ⟨_,rfl,inI_big (by omega) (by omega),λhlt=>?_,λhnl=>?_⟩)⟩
  ·rw[hk0]at hlt ⊢
   have hk3:ixN a (by8 s i.toNat)+1<a.length:=by omega
   refine⟨inI_big (by omega) (by omega),by8 a (ixN a (by8 s i.toNat)+1),by omega,by rw[show(((ixN a (by8 s i.toNat):Nat):Int)+1).toNat=ixN a (by8 s i.toNat)+1 by omega];exact at8_get hk3,g,0,rfl,by omega,by omega,?_,hL,λM44 hM44=>?_⟩
   ·have:=hR'.has (i:=i.toNat) (k:=1) (by omega)
    rw[show 0+i.toNat*1=i.toNat by omega];exact this
   ·have hput:=hR'.put (i:=i.toNat) (by omega) (by8 a (ixN a (by8 s i.toNat)+1))
    rw[hset]at hput
    rw[<-hM44]at hput
    have hl2:(s.take i.toNat++by8 a (ixN a (by8 s i.toNat)+1)::List.replicate (s.length-(i.toNat+1)) (by8 a 0)).length=s.length:=by
     rw[List.length_append,htl,List.length_cons,List.length_replicate];omega
    have hslv:=hput.slv
    rw[hl2]at hslv
    refine⟨_,hslv,hl2,λM5 hle5=>h3 h0 _ (by omega) (λx hx=>?_) ?_ M5 (hMle ((by rw[hM44];exact hk'.put:Kp g M4 M44).le hle5))⟩
    ·rcases List.mem_append.1 hx with hx|hx
     ·exact hin x (List.mem_of_mem_take hx)
     ·rcases List.mem_cons.1 hx with rfl|hx
      ·exact List.mem_of_getElem? (at8_get hk3)
      ·exact rep _ x hx
    ·have hs:s=s.take i.toNat++by8 s i.toNat::s.drop (i.toNat+1):=by
      have:=List.take_append_drop i.toNat s
      rw[drop_at hi]at this;exact this.symm
     have hmx:=sumD_max a1 (s.drop (i.toNat+1)) hmax
     have e2:sumD a s=sumD a (s.take i.toNat)*a.length ^ (s.length-i.toNat)+(ixN a (by8 s i.toNat)*a.length ^ (s.length-(i.toNat+1))+sumD a (s.drop (i.toNat+1))):=by
      conv=>lhs;rw[hs]
      rw[sumD_app,sumD,List.length_cons,List.length_drop]
      rw[show s.length-(i.toNat+1)+1=s.length-i.toNat by omega]
     rw[List.length_drop]at hmx
     unfold rankN
     rw[hl2,e2,sumD_app,sumD,ix_at hasc hk3,sumD_zero hasc a1,List.length_cons,List.length_replicate,show s.length-(i.toNat+1)+1=s.length-i.toNat by omega,Nat.add_mul]
     omega
  ·rw[hk0]at hnl
   refine⟨by8 a 0,by omega,at8_get (by omega),g,0,rfl,by omega,by omega,?_,hL,λM49 hM49=>⟨inI_big (by omega) (by omega),(),⟨by omega,by omega,?_,λx hx=>?_,by rw[hM49];exact hk'.put⟩,?_⟩⟩
   ·have:=hR'.has (i:=i.toNat) (k:=1) (by omega)
    rw[show 0+i.toNat*1=i.toNat by omega];exact this
   ·have hput:=hR'.put (i:=i.toNat) (by omega) (by8 a 0)
    rw[hset,<-hM49]at hput
    rw[show(i-1+1).toNat=i.toNat by omega,show s.length-i.toNat=(s.length-(i.toNat+1))+1 by omega,List.replicate_succ]
    exact hput
   ·rw[show(i-1+1).toNat=i.toNat by omega,drop_at hi]at hx
    rcases List.mem_cons.1 hx with rfl|hx
    ·omega
    ·exact hmax x hx
   ·show(i-1+1).toNat<(i+1).toNat;omega
 ·have hi:i= -1:=by omega
  subst hi
  rw[show(-1+1:Int).toNat=0 by rfl,List.take_zero,List.nil_append,Nat.sub_zero]at hR'
  rw[show(-1+1:Int).toNat=0 by rfl,List.drop_zero]at hmax
  have hmx:=sumD_max a1 s hmax
  refine⟨λh6' M5 hle5=>h2 h0 ?_ M5 (hMle (hk'.le hle5)),λhn6=>⟨by8 a 0,by omega,at8_get (by omega),λu hu=>?_,bytesV (List.replicate s.length (by8 a 0)),?_,λg' hg'=>?_,by omega,λM55 ad cap hap=>?_⟩⟩
  ·unfold rankN
   rw[show s.length=6 by omega]at hmx ⊢
   have:geo a.length 7=geo a.length 6+a.length ^ 6:=rfl
   omega
  ·simp only[List.mem_singleton]at hu;subst hu;rfl
  ·obtain⟨cur,t,f,b1,b2,b3,b4⟩:=hR'.blk
   refine⟨by simp[bytesV],hlc,hcm,g,cur,t,f,rfl,b1,by omega,b3,?_⟩
   rw[List.length_replicate]at b4
   rw[Nat.mul_one];exact b4
  ·cases hg';exact hL
  ·have e:bytesV (List.replicate s.length (by8 a 0))++[Value.int .u8 ((by8 a 0).toNat:Int)]=bytesV (List.replicate (s.length+1) (by8 a 0)):=by
    unfold bytesV
    rw[List.replicate_succ',List.map_append];rfl
   have hslv:=hap.slv
   rw[e]at hslv
   refine⟨_,hslv,by simp,λM5 hle5=>h3 h0 _ (by simp;omega) (rep _) ?_ M5 λb o hbo=>hle5 b o (hap.keep b o (hMle hk' b o hbo) λg' hg' e=>?_)⟩
   ·unfold rankN
    rw[List.length_replicate,sumD_zero hasc a1,geo];omega
   ·cases hg'
    rw[e,hg]at hbo;cases hbo
end
end Go.Proofs.Ytmnilbfhfjdelaa.core

namespace Go.Proofs.Ytmnilbfhfjdelaa.core
open Go.Gx Go.RowKit Go.ChangeShapes Go.WideShapes Go.ChangeAt
set_option linter.unusedVariables false
def grow1 (a:List UInt8) (l:List (List UInt8)):List (List UInt8):=l.flatMap λs=>a.map λc=>s++[c]
def lev (a:List UInt8):Nat->List (List UInt8)
 |0=>[[]]
 |k+1=>grow1 a (lev a k)
def wordsN (a:List UInt8):Nat->List (List UInt8)
 |0=>[[]]
 |k+1=>wordsN a k++lev a (k+1)
theorem flat_at {α β:Type} {f:α->List β} {m:Nat} (hf:∀x,(f x).length=m):∀(l:List α) (q r:Nat),r<m->(l.flatMap f)[q*m+r]?=(l[q]?).bind λx=>(f x)[r]?
 |[],q,r,h=>by simp
 |x::l,0,r,h=>by
  rw[List.flatMap_cons,Nat.zero_mul,Nat.zero_add,List.getElem?_append_left (by rw[hf];exact h)];rfl
 |x::l,q+1,r,h=>by
  rw[List.flatMap_cons,Nat.add_mul,Nat.one_mul,List.getElem?_append_right (by rw[hf];omega),hf,show q*m+m+r-m=q*m+r by omega,flat_at hf l q r h,List.getElem?_cons_succ]
theorem grow1_len (a:List UInt8) (l:List (List UInt8)):(grow1 a l).length=l.length*a.length:=by
 unfold grow1
 induction l with
 |nil=>simp
 |cons x l ih=>rw[List.flatMap_cons,List.length_append,ih,List.length_map,List.length_cons,Nat.add_mul,Nat.one_mul,Nat.add_comm]
theorem lev_len (a:List UInt8):∀k,(lev a k).length=a.length ^ k
 |0=>rfl
 |k+1=>by rw[lev,grow1_len,lev_len a k,Nat.pow_succ]
theorem words_len (a:List UInt8):∀n,(wordsN a n).length=geo a.length (n+1)
 |0=>by simp[wordsN,geo]
 |n+1=>by rw[wordsN,List.length_append,words_len a n,lev_len];rfl
theorem sumD_snoc (a u:List UInt8) (c:UInt8):sumD a (u++[c])=sumD a u*a.length+ixN a c:=by
 rw[sumD_app];simp[sumD]
theorem lev_at {a:List UInt8}:∀(k:Nat) (s:List UInt8),s.length=k->(∀c∈s,c∈a)->(lev a k)[sumD a s]?=some s
 |0,s,h,_=>by
  have:=List.eq_nil_of_length_eq_zero h
  subst this;rfl
 |k+1,s,h,hin=>by
  have hne:s≠[]:=λe=>by rw[e]at h;cases h
  obtain⟨u,c,rfl⟩:∃u c,s=u++[c]:=⟨s.dropLast,s.getLast hne,(List.dropLast_concat_getLast hne).symm⟩
  have hu:u.length=k:=by rw[List.length_append,List.length_singleton]at h;omega
  obtain⟨_,hk1,hk2⟩:=ix_mem (hin c (by simp))
  rw[lev,sumD_snoc]
  unfold grow1
  rw[flat_at (λx=>List.length_map ..) _ _ _ hk1,lev_at k u hu λd hd=>hin d (by simp[hd])]
  show(a.map λc=>u++[c])[ixN a c]?=_
  rw[List.getElem?_map,hk2];rfl
theorem lev_is {a:List UInt8} (hasc:Asc a):∀(k i:Nat) (s:List UInt8),(lev a k)[i]?=some s->s.length=k/\(∀c∈s,c∈a)/\sumD a s=i
 |0,i,s,h=>by
  cases i with
  |zero=>cases h;exact⟨rfl,(λc hc=>by cases hc),rfl⟩
  |succ i=>simp[lev]at h
 |k+1,i,s,h=>by
  have hlt:=(List.getElem?_eq_some_iff.1 h).1
  rw[lev,grow1_len]at hlt
  have hm:0<a.length:=by
   rcases Nat.eq_zero_or_pos a.length with e|e
   ·rw[e]at hlt;omega
   ·exact e
  rw[lev]at h
  unfold grow1 at h
  have hr:=Nat.mod_lt i hm
  have hi:i=i / a.length*a.length+i % a.length:=by
   have:=Nat.div_add_mod i a.length
   rw[Nat.mul_comm]at this;exact this.symm
  rw[hi,flat_at (λx=>List.length_map ..) _ _ _ hr]at h
  cases hu:(lev a k)[i / a.length]? with
  |none=>rw[hu]at h;cases h
  |some u=>
   rw[hu]at h
   change (a.map λc=>u++[c])[i % a.length]?=some s at h
   rw[List.getElem?_map,at8_get hr]at h
   cases h
   obtain⟨h1,h2,h3⟩:=lev_is hasc k _ u hu
   refine⟨by simp[h1],λc hc=>?_,?_⟩
   ·rcases List.mem_append.1 hc with hc|hc
    ·exact h2 c hc
    ·rw[List.mem_singleton.1 hc];exact List.mem_of_getElem? (at8_get hr)
   ·rw[sumD_snoc,h3,ix_at hasc hr];exact hi.symm
theorem words_at {a:List UInt8}:∀(n:Nat) (s:List UInt8),s.length<=n->(∀c∈s,c∈a)->(wordsN a n)[rankN a s]?=some s
 |0,s,h,_=>by
  have:=List.eq_nil_of_length_eq_zero (Nat.le_zero.1 h)
  subst this;simp[wordsN,rankN,geo,sumD]
 |n+1,s,h,hin=>by
  rw[wordsN]
  by_cases hn:s.length<=n
  ·have:=words_at n s hn hin
   rw[List.getElem?_append_left (List.getElem?_eq_some_iff.1 this).1];exact this
  ·have hs:s.length=n+1:=by omega
   unfold rankN
   rw[hs,List.getElem?_append_right (by rw[words_len];omega),words_len,Nat.add_sub_cancel_left]
   exact lev_at _ _ hs hin
theorem words_is {a:List UInt8} (hasc:Asc a):∀(n i:Nat) (s:List UInt8),(wordsN a n)[i]?=some s->s.length<=n/\(∀c∈s,c∈a)/\rankN a s=i
 |0,i,s,h=>by
  cases i with
  |zero=>cases h;exact⟨Nat.le_refl _,(λc hc=>by cases hc),rfl⟩
  |succ i=>simp[wordsN]at h
 |n+1,i,s,h=>by
  rw[wordsN]at h
  by_cases hi:i<(wordsN a n).length
  ·rw[List.getElem?_append_left hi]at h
   obtain⟨h1,h2,h3⟩:=words_is hasc n i s h
   exact⟨by omega,h2,h3⟩
  ·rw[List.getElem?_append_right (by omega)]at h
   obtain⟨h1,h2,h3⟩:=lev_is hasc _ _ s h
   refine⟨by omega,h2,?_⟩
   unfold rankN
   rw[h1,h3]
   rw[words_len]at hi ⊢
   omega
theorem words_mem {a:List UInt8} (hasc:Asc a) {n:Nat} {s:List UInt8} (h:s∈wordsN a n):s.length<=n/\∀c∈s,c∈a:=by
 obtain⟨i,hi⟩:=List.mem_iff_getElem?.1 h
 exact⟨(words_is hasc n i s hi).1,(words_is hasc n i s hi).2.1⟩
theorem rank_le {a s:List UInt8} {n:Nat} (h1:1<=a.length) (hin:∀c∈s,c∈a):s.length<=n↔rankN a s<geo a.length (n+1):=by
 obtain⟨r1,r2⟩:=rank_lt h1 hin
 constructor
 ·intro h
  by_cases e:s.length=n
  ·rw[<-e];exact r2
  ·have:=geo_lt h1 (show s.length+1<n+1 by omega)
   omega
 ·intro h
  rcases Nat.lt_or_ge n s.length with h'|h'
  ·by_cases e:n+1=s.length
   ·rw[e]at h;omega
   ·have:=geo_lt h1 (show n+1<s.length by omega)
    omega
  ·exact h'
end Go.Proofs.Ytmnilbfhfjdelaa.core

namespace Go.Proofs.Ytmnilbfhfjdelaa.core
open Go.Gx Go.RowKit Go.ChangeShapes Go.WideShapes Go.ChangeAt
set_option linter.unusedVariables false
theorem fitE_kinds {e:Ex} (h:fitE e=true):1<=e.kind/\e.kind<=11/\(e.kind<=4->e.kids=[])/\(e.kind=5\/e.kind=6->2<=e.kids.length/\e.kids.length<=8)/\(7<=e.kind->e.kids.length=1)/\(e.kind=3->e.text≠[]/\e.text.length<=12)/\(e.kind≠2->zs e.set=true)/\(e.kind≠3->e.kind≠4->e.text=[]):=by
 unfold fitE fitX at h
 simp only at h
 have nil:∀l:List Ex,(l.length==0)=true->l=[]:=λl h=>List.eq_nil_of_length_eq_zero (by simpa using h)
 split at h
 ·simp only[Bool.and_eq_true,decide_eq_true_eq]at h
  exact⟨by omega,by omega,λ_=>nil _ h.1.1,λq=>by omega,λq=>by omega,λq=>by omega,λ_=>h.2,λ_ _=>h.1.2⟩
 ·split at h
  ·simp only[Bool.and_eq_true,decide_eq_true_eq]at h
   exact⟨by omega,by omega,λ_=>nil _ h.1,λq=>by omega,λq=>by omega,λq=>by omega,λq=>by omega,λ_ _=>h.2⟩
  ·split at h
   ·simp only[Bool.and_eq_true,decide_eq_true_eq,Bool.not_eq_true',decide_eq_false_iff_not]at h
    exact⟨by omega,by omega,λ_=>nil _ h.1.1.1,λq=>by omega,λq=>by omega,λ_=>⟨h.1.2,h.2⟩,λ_=>h.1.1.2,λq=>by omega⟩
   ·split at h
    ·simp only[Bool.and_eq_true]at h
     exact⟨by omega,by omega,λ_=>nil _ h.1.1,λq=>by omega,λq=>by omega,λq=>by omega,λ_=>h.1.2,λ_ q=>by omega⟩
    ·split at h
     ·simp only[Bool.and_eq_true,decide_eq_true_eq]at h
      exact⟨by omega,by omega,λq=>by omega,λ_=>⟨h.1.2,h.2⟩,λq=>by omega,λq=>by omega,λ_=>h.1.1.2,λ_ _=>h.1.1.1⟩
     ·split at h
      ·simp only[Bool.and_eq_true,decide_eq_true_eq,beq_iff_eq]at h
       exact⟨by omega,by omega,λq=>by omega,λq=>by omega,λ_=>h.2,λq=>by omega,λ_=>h.1.2,λ_ _=>h.1.1⟩
      ·cases h
inductive GoodE (rs:List Ru):Ex->Prop
 |mk (e:Ex) (hf:fitE e=true) (hr:e.kind=4->0<=findR e.text rs 0) (hk:∀k∈e.kids,GoodE rs k):GoodE rs e
theorem GoodE.fit {rs:List Ru} {e:Ex} (h:GoodE rs e):fitE e=true:=by cases h;assumption
theorem GoodE.ref {rs:List Ru} {e:Ex} (h:GoodE rs e):e.kind=4->0<=findR e.text rs 0:=by cases h;assumption
theorem GoodE.kid {rs:List Ru} {e:Ex} (h:GoodE rs e):∀k∈e.kids,GoodE rs k:=by cases h;assumption
mutual
theorem flat_fit:∀(e:Ex) (d n:Int),(lkE d n e).1=0->∀x∈flatE e,fitE x=true
 | .mk k s t ks,d,n,h,x,hx=>by
  unfold lkE at h
  split at h
  ·cases h
  ·split at h
   ·cases h
   ·split at h
    ·cases h
    ·rename_i h3
     rw[flatE]at hx
     rcases List.mem_cons.1 hx with rfl|hx
     ·simpa[fitE,Ex.kind,Ex.set,Ex.text,Ex.kids]using h3
     ·exact flats_fit ks _ _ h x hx
theorem flats_fit:∀(ks:List Ex) (d n:Int),(lkEs d n ks).1=0->∀x∈flatEs ks,fitE x=true
 |[],_,_,_,x,hx=>by simp[flatEs]at hx
 |k::ks,d,n,h,x,hx=>by
  rw[lkEs]at h
  rw[flatEs]at hx
  split at h
  ·rename_i hne;exact absurd h hne
  ·rename_i he
   have he:(lkE d n k).1=0:=by simpa using he
   rcases List.mem_append.1 hx with hx|hx
   ·exact flat_fit k _ _ he x hx
   ·exact flats_fit ks _ _ h x hx
end
theorem flatEs_mem {k:Ex}:∀{ks:List Ex},k∈ks->∀x∈flatE k,x∈flatEs ks
 |a::r,h,x,hx=>by
  rw[flatEs]
  rcases List.mem_cons.1 h with rfl|h
  ·exact List.mem_append_left _ hx
  ·exact List.mem_append_right _ (flatEs_mem h x hx)
theorem flatE_self (e:Ex):e∈flatE e:=by cases e;simp[flatE]
theorem flatE_kid {e k:Ex} (h:k∈e.kids):∀x∈flatE k,x∈flatE e:=by
 intro x hx
 cases e
 rw[flatE]
 exact List.mem_cons_of_mem _ (flatEs_mem h x hx)
theorem good_of (rs:List Ru) (e:Ex) (h:∀x∈flatE e,fitE x=true/\(x.kind=4->0<=findR x.text rs 0)):GoodE rs e:=by
 induction hn:SizeOf.sizeOf e using Nat.strongRecOn generalizing e with
 |_ n ih=>
  subst hn
  have h0:=h e (flatE_self e)
  exact .mk e h0.1 h0.2 λk hk=>ih _ (Ex.kid_lt hk) k (λx hx=>h x (flatE_kid hk x hx)) rfl
theorem ref_fold:∀(l:List Ex) (acc:List (List UInt8)),(∀s∈acc,s∈l.foldl refStep acc)/\∀x∈l,x.kind=4->x.text∈l.foldl refStep acc
 |[],acc=>⟨λs h=>h,λx h=>by cases h⟩
 |a::r,acc=>by
  obtain⟨h1,h2⟩:=ref_fold r (refStep acc a)
  have hs:∀s∈acc,s∈refStep acc a:=λs h=>by unfold refStep;split<;>simp[h]
  refine⟨λs h=>h1 s (hs s h),λx hx hk=>?_⟩
  rcases List.mem_cons.1 hx with rfl|hx
  ·refine h1 _ ?_
   unfold refStep
   split
   ·simp
   ·rename_i hno
    by_cases hm:x.text∈acc
    ·exact hm
    ·exact absurd ⟨hk,hm⟩ hno
  ·exact h2 x hx hk
theorem refs_mem {e x:Ex} (hx:x∈flatE e) (hk:x.kind=4):x.text∈refsE e:=(ref_fold (flatE e) []).2 x hx hk
structure GramOk (rs:List Ru):Prop where
 one:0<rs.length
 ten:rs.length<=10
 good:∀r∈rs,GoodE rs r.body
 err:∀r∈rs,exErr r.body=0
 name:∀r∈rs,nameB r.name=true
 at_:∀(i:Nat) r,rs[i]?=some r->findR r.name rs 0=i
 all:((rs.map λr=>(flatE r.body).length).sum)<=120
theorem refsR_zero (rs0:List Ru):∀l:List Ru,refsR rs0 l=0->∀r∈l,∀s∈refsE r.body,0<=findR s rs0 0
 |[],_,r,h,_,_=>by cases h
 |a::t,h,r,hr,s,hs=>by
  rw[refsR]at h
  split at h
  ·cases h
  ·rename_i hall
   rcases List.mem_cons.1 hr with rfl|hr
   ·have hall:(refsE r.body).all (λs=>decide (0<=findR s rs0 0))=true:=by simpa using hall
    simpa using List.all_eq_true.1 hall s hs
   ·exact refsR_zero rs0 t h r hr s hs
theorem chkR_zero (rs0:List Ru):∀(l:List Ru) (i n:Int),chkR rs0 l i n=0->refsR rs0 rs0=0/\(∀(j:Nat) r,l[j]?=some r->nameB r.name=true/\findR r.name rs0 0=i+j/\exErr r.body=0)/\n+((l.map λr=>(flatE r.body).length).sum:Nat)<=120
 |[],i,n,h=>by
  rw[chkR]at h
  split at h
  ·cases h
  ·exact⟨h,λj r hj=>by simp at hj,by simp;omega⟩
 |a::t,i,n,h=>by
  rw[chkR]at h
  split at h
  ·cases h
  ·rename_i h1
   split at h
   ·cases h
   ·rename_i h2
    split at h
    ·rename_i h3;exact absurd h h3
    ·rename_i h3
     obtain⟨g1,g2,g3⟩:=chkR_zero rs0 t (i+1) _ h
     refine⟨g1,λj r hj=>?_,by simp only[List.map_cons,List.sum_cons];omega⟩
     cases j with
     |zero=>
      simp only[List.getElem?_cons_zero,Option.some.injEq]at hj
      subst hj
      exact⟨by simpa using h1,by simpa using h2,by simpa using h3⟩
     |succ j=>
      obtain⟨k1,k2,k3⟩:=g2 j r (by simpa using hj)
      exact⟨k1,by rw[k2];omega,k3⟩
theorem gram_ok {rs:List Ru} (h:gramErr rs=0):GramOk rs:=by
 unfold gramErr at h
 split at h
 ·cases h
 ·split at h
  ·cases h
  ·obtain⟨h1,h2,h3⟩:=chkR_zero rs rs 0 0 h
   have hget:∀r∈rs,∃j,rs[j]?=some r:=λr hr=>List.mem_iff_getElem?.1 hr
   refine⟨by omega,by omega,λr hr=>good_of rs r.body λx hx=>?_,λr hr=>?_,λr hr=>?_,λi r hi=>by have:=(h2 i r hi).2.1;omega,by omega⟩
   ·obtain⟨j,hj⟩:=hget r hr
    exact⟨flat_fit _ _ _ (h2 j r hj).2.2 x hx,λhk=>refsR_zero rs rs h1 r hr _ (refs_mem hx hk)⟩
   ·obtain⟨j,hj⟩:=hget r hr;exact(h2 j r hj).2.2
   ·obtain⟨j,hj⟩:=hget r hr;exact(h2 j r hj).1
theorem findR_some (s:List UInt8):∀(rs:List Ru) (i:Int),0<=i->0<=findR s rs i->i<=findR s rs i/\∃r,rs[(findR s rs i-i).toNat]?=some r/\r.name=s
 |[],i,_,h=>by simp[findR]at h
 |a::t,i,hi,h=>by
  unfold findR at h ⊢
  split
  ·rename_i hn
   exact⟨by omega,a,by rw[show(i-i).toNat=0 by omega];rfl,hn⟩
  ·rename_i hn
   rw[if_neg hn]at h
   obtain⟨h1,r,h2,h3⟩:=findR_some s t (i+1) (by omega) h
   refine⟨by omega,r,?_,h3⟩
   rw[show(findR s t (i+1)-i).toNat=(findR s t (i+1)-(i+1)).toNat+1 by omega]
   simpa using h2
theorem findR_lt {s:List UInt8} {rs:List Ru} (h:0<=findR s rs 0):(findR s rs 0).toNat<rs.length/\findR s rs 0<rs.length:=by
 obtain⟨_,r,h2,_⟩:=findR_some s rs 0 (by omega) h
 have:=(List.getElem?_eq_some_iff.1 h2).1
 simp only[Int.sub_zero]at this
 omega
theorem GrR.len {M:Mem} {rs:List Ru} {A:Option Addr} {l c:Nat} (h:GrR M rs A l c):l=rs.length:=h.max.1
end Go.Proofs.Ytmnilbfhfjdelaa.core

namespace Go.Proofs.Ytmnilbfhfjdelaa.core
open Go.Gx Go.RowKit Go.ChangeShapes Go.WideShapes Go.ChangeAt
set_option linter.unusedVariables false
structure Lat {α:Type} (le:α->α->Prop) (ju:α->α->α) (wt:α->Nat) (m:Nat):Prop where
 refl:∀a,le a a
 trans:∀{a b c},le a b->le b c->le a c
 anti:∀{a b},le a b->le b a->a=b
 left:∀a b,le a (ju a b)
 right:∀a b,le b (ju a b)
 least:∀{a b c},le a c->le b c->le (ju a b) c
 mono:∀{a b},le a b->wt a<=wt b
 strict:∀{a b},le a b->a≠b->wt a<wt b
 bound:∀a,wt a<=m
section
variable {α:Type} {le:α->α->Prop} {ju:α->α->α} {wt:α->Nat} {m n:Nat} {F:List α->Nat->α}
def leL (le:α->α->Prop) (kn z:List α):Prop:=kn.length=z.length/\∀(i:Nat) a b,kn[i]?=some a->z[i]?=some b->le a b
theorem leL.refl (L:Lat le ju wt m) (kn:List α):leL le kn kn:=⟨rfl,λi a b ha hb=>by rw[ha]at hb;cases hb;exact L.refl a⟩
theorem leL.trans (L:Lat le ju wt m) {a b c:List α} (h:leL le a b) (k:leL le b c):leL le a c:=⟨h.1.trans k.1,λi x z hx hz=>by
 obtain⟨y,hy⟩:=getN (l:=b) (i:=i) (by have:=(List.getElem?_eq_some_iff.1 hx).1;have:=h.1;omega)
 exact L.trans (h.2 i x y hx hy) (k.2 i y z hy hz)⟩
theorem leL.anti (L:Lat le ju wt m) {a b:List α} (h:leL le a b) (k:leL le b a):a=b:=by
 apply List.ext_getElem?
 intro i
 by_cases hi:i<a.length
 ·obtain⟨x,hx⟩:=getN hi
  obtain⟨y,hy⟩:=getN (l:=b) (i:=i) (by have:=h.1;omega)
  rw[hx,hy,L.anti (h.2 i x y hx hy) (k.2 i y x hy hx)]
 ·rw[List.getElem?_eq_none (by omega),List.getElem?_eq_none (by have:=h.1;omega)]
theorem leL.set (L:Lat le ju wt m) {kn:List α} {i:Nat} {a b:α} (hi:kn[i]?=some a) (h:le a b):leL le kn (kn.set i b):=by
 refine⟨by simp,λj x y hx hy=>?_⟩
 rw[List.getElem?_set]at hy
 split at hy
 ·subst i
  split at hy
  ·simp only[Option.some.injEq]at hy;subst hy;rw[hi]at hx;cases hx;exact h
  ·cases hy
 ·rw[hx]at hy;cases hy;exact L.refl _
def wS (wt:α->Nat) (m:Nat) (kn:List α):Nat:=(kn.map λa=>m-wt a).sum
theorem wS_set (L:Lat le ju wt m):∀{kn:List α} {i:Nat} {a b:α},kn[i]?=some a->le a b->a≠b->wS wt m (kn.set i b)<wS wt m kn
 |[],i,a,b,h,_,_=>by simp at h
 |x::r,0,a,b,h,h1,h2=>by
  simp only[List.getElem?_cons_zero,Option.some.injEq]at h
  subst h
  have:=L.strict h1 h2
  have:=L.bound b
  simp only[wS,List.set_cons_zero,List.map_cons,List.sum_cons]
  omega
 |x::r,i+1,a,b,h,h1,h2=>by
  have:=wS_set L (kn:=r) (i:=i) (by simpa using h) h1 h2
  simp only[wS,List.set_cons_succ,List.map_cons,List.sum_cons]at this ⊢
  omega
theorem wS_le (L:Lat le ju wt m):∀{a b:List α},leL le a b->wS wt m b<=wS wt m a/\(a≠b->wS wt m b<wS wt m a)
 |[],[],_=>⟨Nat.le_refl _,λh=>absurd rfl h⟩
 |[],y::b,h=>by have:=h.1;simp at this
 |x::a,[],h=>by have:=h.1;simp at this
 |x::a,y::b,h=>by
  have h0:=h.2 0 x y rfl rfl
  obtain⟨i1,i2⟩:=wS_le L (a:=a) (b:=b) ⟨by simpa using h.1,λi p q hp hq=>h.2 (i+1) p q (by simpa using hp) (by simpa using hq)⟩
  have:=L.mono h0
  have hb:=L.bound y
  simp only[wS,List.map_cons,List.sum_cons]at i1 i2 ⊢
  refine⟨by omega,λhne=>?_⟩
  by_cases hxy:x=y
  ·subst hxy
   have:=i2 (λe=>hne (by rw[e]))
   omega
  ·have:=L.strict h0 hxy
   omega
structure Pre (le:α->α->Prop) (F:List α->Nat->α) (n:Nat) (kn:List α):Prop where
 len:kn.length=n
 up:∀(i:Nat) a,kn[i]?=some a->le a (F kn i)
 low:∀z:List α,z.length=n->(∀(i:Nat) b,z[i]?=some b->le (F z i) b)->leL le kn z
def MonoF (le:α->α->Prop) (F:List α->Nat->α) (n:Nat):Prop:=∀kn z:List α,∀i:Nat,i<n->kn.length=n->leL le kn z->le (F kn i) (F z i)
theorem Pre.step (L:Lat le ju wt m) (hF:MonoF le F n) {kn:List α} (h:Pre le F n kn) {i:Nat} {a:α} (hi:kn[i]?=some a):Pre le F n (kn.set i (F kn i))/\leL le kn (kn.set i (F kn i)):=by
 have hle:=leL.set L hi (h.up i a hi)
 have hil:i<n:=by have:=(List.getElem?_eq_some_iff.1 hi).1;have:=h.len;omega
 refine⟨⟨by simp[h.len],λj x hx=>?_,λz hz hc=>?_⟩,hle⟩
 ·have hj:j<n:=by have:=(List.getElem?_eq_some_iff.1 hx).1;simp at this;have:=h.len;omega
  have hm:=hF kn _ j hj h.len hle
  rw[List.getElem?_set]at hx
  split at hx
  ·subst i
   split at hx
   ·simp only[Option.some.injEq]at hx;subst hx;exact hm
   ·cases hx
  ·exact L.trans (h.up j x hx) hm
 ·have hl:=h.low z hz hc
  refine⟨by simpa using hl.1,λj x y hx hy=>?_⟩
  rw[List.getElem?_set]at hx
  split at hx
  ·subst i
   split at hx
   ·simp only[Option.some.injEq]at hx;subst hx
    exact L.trans (hF kn z j hil h.len hl) (hc j y hy)
   ·cases hx
  ·exact hl.2 j x y hx hy
structure Lfp (le:α->α->Prop) (F:List α->Nat->α) (n:Nat) (kn:List α):Prop where
 len:kn.length=n
 shut:∀(i:Nat) a,kn[i]?=some a->le (F kn i) a
 low:∀z:List α,z.length=n->(∀(i:Nat) b,z[i]?=some b->le (F z i) b)->leL le kn z
theorem Lfp.same (L:Lat le ju wt m) {a b:List α} (h:Lfp le F n a) (k:Lfp le F n b):a=b:=leL.anti L (h.low b k.len k.shut) (k.low a h.len h.shut)
theorem Pre.lfp (L:Lat le ju wt m) {kn:List α} (h:Pre le F n kn) (hfix:∀(i:Nat) a,kn[i]?=some a->F kn i=a):Lfp le F n kn:=⟨h.len,λi a ha=>by rw[hfix i a ha];exact L.refl a,h.low⟩
def jac (ju:α->α->α) (F:List α->Nat->α) (kn:List α):List α:=kn.zipIdx.map λp=>ju p.1 (F kn p.2)
theorem jac_len (kn:List α):(jac ju F kn).length=kn.length:=by simp[jac]
theorem jac_get {kn:List α} {i:Nat} {a:α} (h:kn[i]?=some a):(jac ju F kn)[i]?=some (ju a (F kn i)):=by simp[jac,h]
theorem jac_up (L:Lat le ju wt m) (kn:List α):leL le kn (jac ju F kn):=⟨(jac_len kn).symm,λi a b ha hb=>by rw[jac_get ha]at hb;cases hb;exact L.left _ _⟩
theorem jac_low (L:Lat le ju wt m) (hF:MonoF le F n) {kn z:List α} (hl:kn.length=n) (h:leL le kn z) (hz:∀(i:Nat) b,z[i]?=some b->le (F z i) b):leL le (jac ju F kn) z:=by
 refine⟨by rw[jac_len];exact h.1,λi a b ha hb=>?_⟩
 have hi:i<kn.length:=by have:=(List.getElem?_eq_some_iff.1 ha).1;rw[jac_len]at this;exact this
 obtain⟨x,hx⟩:=getN hi
 rw[jac_get hx]at ha
 cases ha
 exact L.least (h.2 i x b hx hb) (L.trans (hF kn z i (by omega) hl h) (hz i b hb))
def jacN (ju:α->α->α) (F:List α->Nat->α):Nat->List α->List α
 |0,kn=>kn
 |k+1,kn=>jac ju F (jacN ju F k kn)
theorem jacN_len (k:Nat) (kn:List α):(jacN ju F k kn).length=kn.length:=by
 induction k with
 |zero=>rfl
 |succ k ih=>rw[jacN,jac_len,ih]
theorem jacN_stab (L:Lat le ju wt m) (kn:List α):∀k,jac ju F (jacN ju F k kn)=jacN ju F k kn\/wS wt m (jacN ju F k kn)+k<=wS wt m kn
 |0=>.inr (Nat.le_refl _)
 |k+1=>by
  rcases jacN_stab L kn k with h|h
  ·left;rw[jacN,h,h]
  ·by_cases he:jac ju F (jacN ju F k kn)=jacN ju F k kn
   ·left;rw[jacN,he,he]
   ·right
    have:=(wS_le L (jac_up (F:=F) L (jacN ju F k kn))).2 (λe=>he e.symm)
    rw[jacN];omega
theorem wS_all (kn:List α):wS wt m kn<=m*kn.length:=by
 induction kn with
 |nil=>simp[wS]
 |cons a r ih=>
  simp only[wS,List.map_cons,List.sum_cons,List.length_cons]at ih ⊢
  rw[Nat.mul_succ];omega
theorem jac_lfp (L:Lat le ju wt m) (hF:MonoF le F n) (bot:α) (hbot:∀a,le bot a) (k:Nat) (hk:m*n<k):Lfp le F n (jacN ju F k (List.replicate n bot)):=by
 have hlen:∀k,(jacN ju F k (List.replicate n bot)).length=n:=λk=>by rw[jacN_len];simp
 refine⟨hlen k,λi a ha=>?_,λz hz hc=>?_⟩
 ·have hst:jac ju F (jacN ju F k (List.replicate n bot))=jacN ju F k (List.replicate n bot):=by
   rcases jacN_stab (F:=F) L (List.replicate n bot) k with h|h
   ·exact h
   ·have:=wS_all (wt:=wt) (m:=m) (List.replicate n bot)
    simp only[List.length_replicate]at this
    omega
  have h2:=jac_get (ju:=ju) (F:=F) ha
  rw[hst,ha]at h2
  simp only[Option.some.injEq]at h2
  have:=L.right a (F (jacN ju F k (List.replicate n bot)) i)
  rw[<-h2]at this
  exact this
 ·have hz0:∀k,leL le (jacN ju F k (List.replicate n bot)) z:=by
   intro k
   induction k with
   |zero=>exact⟨by simp[jacN,hz],λi a b ha hb=>by
     simp only[jacN]at ha
     have:=List.mem_of_getElem? ha
     rw[(List.mem_replicate.1 this).2];exact hbot b⟩
   |succ k ih=>exact jac_low L hF (hlen k) ih hc
  exact hz0 k
end
end Go.Proofs.Ytmnilbfhfjdelaa.core

namespace Go.Proofs.Ytmnilbfhfjdelaa.core
open Go.Gx Go.RowKit Go.ChangeShapes Go.WideShapes Go.ChangeAt
set_option linter.unusedVariables false
theorem upon_cut {P:Program} {o:Oper} {a:Act} {w:World} {K K' J:Act->World->Prop} {Q:Exit->Act->World->Prop} (h:∀a w,K a w->K' a w) (hh:o.wp P a w K (λe a w=>match e with| .normal=>J a w|e=>Q e a w)):o.wp P a w K' Q:=by
 unfold Oper.wp at*
 generalize (execOp a.eval o).run P w=r at*
 cases r with
 |ok n w'=>
  cases n<;>simp only[Oper.upon]at hh ⊢<;>
   first
    |exact h _ _ hh
    |exact Calls.mono hh (λe w'' he=>by cases e<;>first|exact h _ _ he|exact he)
    |exact Rows.mono hh (λ_ _ he=>h _ _ he)
 |halt x w'=>cases x<;>simp only[Oper.upon]at hh ⊢<;>exact hh
theorem wpList_cutJ {P:Program} {ops:Array Oper} {Q:Exit->Act->World->Prop} (J:Act->World->Prop):∀(k:Nat) {l:List Oper} {a:Act} {w:World},wpList P ops (λe a w=>match e with| .normal=>J a w|e=>Q e a w) (l.take k) a w->(∀a w,J a w->wpList P ops Q (l.drop k) a w)->wpList P ops Q l a w
 |0,l,a,w,h,h2=>by rw[List.take_zero]at h;exact h2 a w h
 |k+1,[],a,w,h,h2=>h2 a w h
 |k+1,o::l,a,w,h,h2=>by
  have ih:∀a w,wpList P ops (λe a w=>match e with| .normal=>J a w|e=>Q e a w) (l.take k) a w->wpList P ops Q l a w:=λa w h=>wpList_cutJ J k h h2
  rw[List.take_succ_cons]at h
  unfold wpList at h ⊢
  split at h
  ·rename_i hw
   rw[if_pos hw]
   exact h.imp (upon_cut ih) id
  ·rename_i hw
   rw[if_neg hw]
   exact ih _ _ h
theorem sPr {P:Program} {ops:Array Oper} {Q:Exit->Act->World->Prop} {n:Nat} {E:World} {bw:List Nat} {M:Mem} {w:World} {a:Act} {env:Env} {bs:List Bx} {rs:List Rw} {rest:List Oper} {o:Oper} (v:Value) {d:Nat} (hs:Sx n E bw M w a env bs rs) (h:∀a',Sx n E bw M w a' ((d,v)::env) bs rs->wpList P ops Q rest a' w)
  (hg:o.guard=none:=by rfl) (hd:o.dst=some d:=by rfl) (hdn:d<n:=by decide) (hk:okOp env o=true:=by rfl) (hr:∀w,(execOp (evT env) o).run P w= .ok (.value v) w:=by intro _;rfl):wpList P ops Q (o::rest) a w:=
 stepY v hs hg hd hdn (Yl.pure hk hr) h
def S_well_then (a b:X_api_Facts) (M:Mem) (K:Value->Prop):Prop:=K (X_api_Facts.mk (a.Empty&&b.Empty) ((a.Eats&&(b.Empty||b.Eats))||(a.Empty&&b.Eats)) (a.Fails||((a.Empty||a.Eats)&&b.Fails))).val
def S_well_or (a b:X_api_Facts) (M:Mem) (K:Value->Prop):Prop:=K (X_api_Facts.mk (a.Empty||(a.Fails&&b.Empty)) (a.Eats||(a.Fails&&b.Eats)) (a.Fails&&b.Fails)).val
theorem wpList_cut {P:Program} {ops:Array Oper} {Q:Exit->Act->World->Prop} (k:Nat) (J:Act->World->Prop) {l:List Oper} {a:Act} {w:World} (h1:wpList P ops (λe a w=>match e with| .normal=>J a w|e=>Q e a w) (l.take k) a w) (h2:∀a w,J a w->wpList P ops Q (l.drop k) a w):wpList P ops Q l a w:=wpList_cutJ J k h1 h2
set_option maxRecDepth 100000 in
theorem s_well_then (a1 b2:X_api_Facts) (M:Mem) (K:Value->Prop) (hK:S_well_then a1 b2 M K):CallE Try.prog 138 #[a1.val,b2.val] M (λv _=>K v):=by
 obtain⟨e1,t1,f1⟩:=a1
 obtain⟨e2,t2,f2⟩:=b2
 refine enterE Try.func138 rfl 44 rfl (Nat.le_of_ble_eq_true rfl) (λE a hs=>?_)
 have hMM:=MX.refl M E
 change Sx 44 E [] M E a [(0,(X_api_Facts.mk e1 t1 f1).val),(1,(X_api_Facts.mk e2 t2 f2).val)] [] []at hs
 refine Wp.seq (Wp.region (stepBox (X_api_Facts.mk e1 t1 f1).cells hs rfl rfl rfl (by decide) (λ_ _ b3 hEb3 hs=>?_)))
 refine stepBox (X_api_Facts.mk e2 t2 f2).cells hs rfl rfl rfl (by decide) (λ_ _ b4 hEb4 hs=>?_)
 refine stepAlloc [(.bool false),(.bool false),(.bool false)] hs (by kernel_rfl) (by decide) (λ_ _ b5 hEb5 hs=>?_)
 refine wpList_nil (Wp.seq (Wp.region ?_))
 change Sx 44 E [] M _ _ _ [⟨b5,194,[.bool false,.bool false,.bool false]⟩,⟨b4,194,[.bool e2,.bool t2,.bool f2]⟩,⟨b3,194,[.bool e1,.bool t1,.bool f1]⟩] []at hs
 refine wpList_cut 6 (λa w=>Sx 44 E [] M w a [(2,pt b3 0),(3,pt b4 0),(4,pt b5 0),(10,.bool (e1&&e2))] [⟨b5,194,[.bool false,.bool false,.bool false]⟩,⟨b4,194,[.bool e2,.bool t2,.bool f2]⟩,⟨b3,194,[.bool e1,.bool t1,.bool f1]⟩] []) ?_ λa w hs=>?_
 ·cases e1<;>cases e2<;>(
   refine sP (pt b3 0) hs λ_ hs=>?_
   first|refine sY (.bool true) hs (Yl.lB [.bool true] false 2) λ_ hs=>?_|refine sY (.bool false) hs (Yl.lB [.bool false] false 2) λ_ hs=>?_
   first|refine sPr (.bool true) hs λ_ hs=>?_|refine sPr (.bool false) hs λ_ hs=>?_
   first|refine sNo hs λ_ hs=>?_|refine sNu hs λ_ hs=>?_|refine sYe hs (sP (pt b4 0) hs λ_ hs=>?_)
   first|refine sNo hs λ_ hs=>?_|refine sNu hs λ_ hs=>?_|refine sYe hs (sY (.bool true) hs (Yl.lB [.bool true] false 1) λ_ hs=>?_)|refine sYe hs (sY (.bool false) hs (Yl.lB [.bool false] false 1) λ_ hs=>?_)
   first|refine sPr (.bool true) hs λ_ hs=>?_|refine sPr (.bool false) hs λ_ hs=>?_
   exact wpList_nil (hs.wk ⟨rfl,rfl,rfl,rfl,trivial⟩))
 refine wpList_cut 10 (λa w=>Sx 44 E [] M w a [(2,pt b3 0),(3,pt b4 0),(4,pt b5 0),(10,.bool (e1&&e2)),(20,.bool (t1&&(e2||t2)))] [⟨b5,194,[.bool false,.bool false,.bool false]⟩,⟨b4,194,[.bool e2,.bool t2,.bool f2]⟩,⟨b3,194,[.bool e1,.bool t1,.bool f1]⟩] []) ?_ λa w hs=>?_
 ·cases t1<;>cases e2<;>cases t2<;>(
   refine sP (pt b3 1) hs λ_ hs=>?_
   first|refine sY (.bool true) hs (Yl.lB [.bool true] false 2) λ_ hs=>?_|refine sY (.bool false) hs (Yl.lB [.bool false] false 2) λ_ hs=>?_
   first|refine sPr (.bool true) hs λ_ hs=>?_|refine sPr (.bool false) hs λ_ hs=>?_
   first|refine sNo hs λ_ hs=>?_|refine sNu hs λ_ hs=>?_|refine sYe hs (sP (pt b4 0) hs λ_ hs=>?_)
   first|refine sNo hs λ_ hs=>?_|refine sNu hs λ_ hs=>?_|refine sYe hs (sY (.bool true) hs (Yl.lB [.bool true] false 1) λ_ hs=>?_)|refine sYe hs (sY (.bool false) hs (Yl.lB [.bool false] false 1) λ_ hs=>?_)
   first|refine sNo hs λ_ hs=>?_|refine sNu hs λ_ hs=>?_|refine sYe hs (sPr (.bool true) hs λ_ hs=>?_)|refine sYe hs (sPr (.bool false) hs λ_ hs=>?_)
   first|refine sNo hs λ_ hs=>?_|refine sNu hs λ_ hs=>?_|refine sYe hs (sP (pt b4 1) hs λ_ hs=>?_)
   first|refine sNo hs λ_ hs=>?_|refine sNu hs λ_ hs=>?_|refine sYe hs (sY (.bool true) hs (Yl.lB [.bool true] false 1) λ_ hs=>?_)|refine sYe hs (sY (.bool false) hs (Yl.lB [.bool false] false 1) λ_ hs=>?_)
   first|refine sNo hs λ_ hs=>?_|refine sNu hs λ_ hs=>?_|refine sYe hs (sPr (.bool true) hs λ_ hs=>?_)|refine sYe hs (sPr (.bool false) hs λ_ hs=>?_)
   first|refine sPr (.bool true) hs λ_ hs=>?_|refine sPr (.bool false) hs λ_ hs=>?_
   exact wpList_nil (hs.wk ⟨rfl,rfl,rfl,rfl,rfl,trivial⟩))
 refine wpList_cut 8 (λa w=>Sx 44 E [] M w a [(2,pt b3 0),(3,pt b4 0),(4,pt b5 0),(10,.bool (e1&&e2)),(28,.bool ((t1&&(e2||t2))||(e1&&t2)))] [⟨b5,194,[.bool false,.bool false,.bool false]⟩,⟨b4,194,[.bool e2,.bool t2,.bool f2]⟩,⟨b3,194,[.bool e1,.bool t1,.bool f1]⟩] []) ?_ λa w hs=>?_
 ·cases t1<;>cases e2<;>cases t2<;>cases e1<;>(
   first|refine sPr (.bool true) hs λ_ hs=>?_|refine sPr (.bool false) hs λ_ hs=>?_
   first|refine sNo hs λ_ hs=>?_|refine sNu hs λ_ hs=>?_|refine sYe hs (sP (pt b3 0) hs λ_ hs=>?_)
   first|refine sNo hs λ_ hs=>?_|refine sNu hs λ_ hs=>?_|refine sYe hs (sY (.bool true) hs (Yl.lB [.bool true] false 2) λ_ hs=>?_)|refine sYe hs (sY (.bool false) hs (Yl.lB [.bool false] false 2) λ_ hs=>?_)
   first|refine sNo hs λ_ hs=>?_|refine sNu hs λ_ hs=>?_|refine sYe hs (sPr (.bool true) hs λ_ hs=>?_)|refine sYe hs (sPr (.bool false) hs λ_ hs=>?_)
   first|refine sNo hs λ_ hs=>?_|refine sNu hs λ_ hs=>?_|refine sYe hs (sP (pt b4 1) hs λ_ hs=>?_)
   first|refine sNo hs λ_ hs=>?_|refine sNu hs λ_ hs=>?_|refine sYe hs (sY (.bool true) hs (Yl.lB [.bool true] false 1) λ_ hs=>?_)|refine sYe hs (sY (.bool false) hs (Yl.lB [.bool false] false 1) λ_ hs=>?_)
   first|refine sNo hs λ_ hs=>?_|refine sNu hs λ_ hs=>?_|refine sYe hs (sPr (.bool true) hs λ_ hs=>?_)|refine sYe hs (sPr (.bool false) hs λ_ hs=>?_)
   first|refine sPr (.bool true) hs λ_ hs=>?_|refine sPr (.bool false) hs λ_ hs=>?_
   exact wpList_nil (hs.wk ⟨rfl,rfl,rfl,rfl,rfl,trivial⟩))
 refine wpList_cut 14 (λa w=>Sx 44 E [] M w a [(2,pt b3 0),(3,pt b4 0),(4,pt b5 0),(10,.bool (e1&&e2)),(28,.bool ((t1&&(e2||t2))||(e1&&t2))),(42,.bool (f1||((e1||t1)&&f2)))] [⟨b5,194,[.bool false,.bool false,.bool false]⟩,⟨b4,194,[.bool e2,.bool t2,.bool f2]⟩,⟨b3,194,[.bool e1,.bool t1,.bool f1]⟩] []) ?_ λa w hs=>?_
 ·cases f1<;>cases e1<;>cases t1<;>cases f2<;>(
   refine sP (pt b3 2) hs λ_ hs=>?_
   first|refine sY (.bool true) hs (Yl.lB [.bool true] false 2) λ_ hs=>?_|refine sY (.bool false) hs (Yl.lB [.bool false] false 2) λ_ hs=>?_
   first|refine sPr (.bool true) hs λ_ hs=>?_|refine sPr (.bool false) hs λ_ hs=>?_
   first|refine sNo hs λ_ hs=>?_|refine sNu hs λ_ hs=>?_|refine sYe hs (sP (pt b3 0) hs λ_ hs=>?_)
   first|refine sNo hs λ_ hs=>?_|refine sNu hs λ_ hs=>?_|refine sYe hs (sY (.bool true) hs (Yl.lB [.bool true] false 2) λ_ hs=>?_)|refine sYe hs (sY (.bool false) hs (Yl.lB [.bool false] false 2) λ_ hs=>?_)
   first|refine sNo hs λ_ hs=>?_|refine sNu hs λ_ hs=>?_|refine sYe hs (sPr (.bool true) hs λ_ hs=>?_)|refine sYe hs (sPr (.bool false) hs λ_ hs=>?_)
   first|refine sNo hs λ_ hs=>?_|refine sNu hs λ_ hs=>?_|refine sYe hs (sP (pt b3 1) hs λ_ hs=>?_)
   first|refine sNo hs λ_ hs=>?_|refine sNu hs λ_ hs=>?_|refine sYe hs (sY (.bool true) hs (Yl.lB [.bool true] false 2) λ_ hs=>?_)|refine sYe hs (sY (.bool false) hs (Yl.lB [.bool false] false 2) λ_ hs=>?_)
   first|refine sNo hs λ_ hs=>?_|refine sNu hs λ_ hs=>?_|refine sYe hs (sPr (.bool true) hs λ_ hs=>?_)|refine sYe hs (sPr (.bool false) hs λ_ hs=>?_)
   first|refine sNo hs λ_ hs=>?_|refine sNu hs λ_ hs=>?_|refine sYe hs (sPr (.bool true) hs λ_ hs=>?_)|refine sYe hs (sPr (.bool false) hs λ_ hs=>?_)
   first|refine sNo hs λ_ hs=>?_|refine sNu hs λ_ hs=>?_|refine sYe hs (sP (pt b4 2) hs λ_ hs=>?_)
   first|refine sNo hs λ_ hs=>?_|refine sNu hs λ_ hs=>?_|refine sYe hs (sY (.bool true) hs (Yl.lB [.bool true] false 1) λ_ hs=>?_)|refine sYe hs (sY (.bool false) hs (Yl.lB [.bool false] false 1) λ_ hs=>?_)
   first|refine sNo hs λ_ hs=>?_|refine sNu hs λ_ hs=>?_|refine sYe hs (sPr (.bool true) hs λ_ hs=>?_)|refine sYe hs (sPr (.bool false) hs λ_ hs=>?_)
   first|refine sPr (.bool true) hs λ_ hs=>?_|refine sPr (.bool false) hs λ_ hs=>?_
   exact wpList_nil (hs.wk ⟨rfl,rfl,rfl,rfl,rfl,rfl,trivial⟩))
 refine sP (X_api_Facts.mk (e1&&e2) ((t1&&(e2||t2))||(e1&&t2)) (f1||((e1||t1)&&f2))).val hs λ_ hs=>?_
 refine stB 0 [.bool (e1&&e2),.bool ((t1&&(e2||t2))||(e1&&t2)),.bool (f1||((e1||t1)&&f2))] [⟨b5,194,[.bool (e1&&e2),.bool ((t1&&(e2||t2))||(e1&&t2)),.bool (f1||((e1||t1)&&f2))]⟩,⟨b4,194,[.bool e2,.bool t2,.bool f2]⟩,⟨b3,194,[.bool e1,.bool t1,.bool f1]⟩] hs λ_ _ hs=>?_
 exact wpList_nil (Wp.ret (lvE K hs (resC (vs:=[.bool (e1&&e2),.bool ((t1&&(e2||t2))||(e1&&t2)),.bool (f1||((e1||t1)&&f2))]) true 0 hs rfl rfl rfl (by kernel_rfl) rfl) hMM.2 hK))
set_option maxRecDepth 100000 in
theorem s_well_or (a1 b2:X_api_Facts) (M:Mem) (K:Value->Prop) (hK:S_well_or a1 b2 M K):CallE Try.prog 139 #[a1.val,b2.val] M (λv _=>K v):=by
 obtain⟨e1,t1,f1⟩:=a1
 obtain⟨e2,t2,f2⟩:=b2
 refine enterE Try.func139 rfl 32 rfl (Nat.le_of_ble_eq_true rfl) (λE a hs=>?_)
 have hMM:=MX.refl M E
 change Sx 32 E [] M E a [(0,(X_api_Facts.mk e1 t1 f1).val),(1,(X_api_Facts.mk e2 t2 f2).val)] [] []at hs
 refine Wp.seq (Wp.region (stepBox (X_api_Facts.mk e1 t1 f1).cells hs rfl rfl rfl (by decide) (λ_ _ b3 hEb3 hs=>?_)))
 refine stepBox (X_api_Facts.mk e2 t2 f2).cells hs rfl rfl rfl (by decide) (λ_ _ b4 hEb4 hs=>?_)
 refine stepAlloc [(.bool false),(.bool false),(.bool false)] hs (by kernel_rfl) (by decide) (λ_ _ b5 hEb5 hs=>?_)
 refine wpList_nil (Wp.seq (Wp.region ?_))
 change Sx 32 E [] M _ _ _ [⟨b5,194,[.bool false,.bool false,.bool false]⟩,⟨b4,194,[.bool e2,.bool t2,.bool f2]⟩,⟨b3,194,[.bool e1,.bool t1,.bool f1]⟩] []at hs
 refine wpList_cut 10 (λa w=>Sx 32 E [] M w a [(2,pt b3 0),(3,pt b4 0),(4,pt b5 0),(14,.bool (e1||(f1&&e2)))] [⟨b5,194,[.bool false,.bool false,.bool false]⟩,⟨b4,194,[.bool e2,.bool t2,.bool f2]⟩,⟨b3,194,[.bool e1,.bool t1,.bool f1]⟩] []) ?_ λa w hs=>?_
 ·cases e1<;>cases f1<;>cases e2<;>(
   refine sP (pt b3 0) hs λ_ hs=>?_
   first|refine sY (.bool true) hs (Yl.lB [.bool true] false 2) λ_ hs=>?_|refine sY (.bool false) hs (Yl.lB [.bool false] false 2) λ_ hs=>?_
   first|refine sPr (.bool true) hs λ_ hs=>?_|refine sPr (.bool false) hs λ_ hs=>?_
   first|refine sNo hs λ_ hs=>?_|refine sNu hs λ_ hs=>?_|refine sYe hs (sP (pt b3 2) hs λ_ hs=>?_)
   first|refine sNo hs λ_ hs=>?_|refine sNu hs λ_ hs=>?_|refine sYe hs (sY (.bool true) hs (Yl.lB [.bool true] false 2) λ_ hs=>?_)|refine sYe hs (sY (.bool false) hs (Yl.lB [.bool false] false 2) λ_ hs=>?_)
   first|refine sNo hs λ_ hs=>?_|refine sNu hs λ_ hs=>?_|refine sYe hs (sPr (.bool true) hs λ_ hs=>?_)|refine sYe hs (sPr (.bool false) hs λ_ hs=>?_)
   first|refine sNo hs λ_ hs=>?_|refine sNu hs λ_ hs=>?_|refine sYe hs (sP (pt b4 0) hs λ_ hs=>?_)
   first|refine sNo hs λ_ hs=>?_|refine sNu hs λ_ hs=>?_|refine sYe hs (sY (.bool true) hs (Yl.lB [.bool true] false 1) λ_ hs=>?_)|refine sYe hs (sY (.bool false) hs (Yl.lB [.bool false] false 1) λ_ hs=>?_)
   first|refine sNo hs λ_ hs=>?_|refine sNu hs λ_ hs=>?_|refine sYe hs (sPr (.bool true) hs λ_ hs=>?_)|refine sYe hs (sPr (.bool false) hs λ_ hs=>?_)
   first|refine sPr (.bool true) hs λ_ hs=>?_|refine sPr (.bool false) hs λ_ hs=>?_
   exact wpList_nil (hs.wk ⟨rfl,rfl,rfl,rfl,trivial⟩))
 refine wpList_cut 10 (λa w=>Sx 32 E [] M w a [(2,pt b3 0),(3,pt b4 0),(4,pt b5 0),(14,.bool (e1||(f1&&e2))),(24,.bool (t1||(f1&&t2)))] [⟨b5,194,[.bool false,.bool false,.bool false]⟩,⟨b4,194,[.bool e2,.bool t2,.bool f2]⟩,⟨b3,194,[.bool e1,.bool t1,.bool f1]⟩] []) ?_ λa w hs=>?_
 ·cases t1<;>cases f1<;>cases t2<;>(
   refine sP (pt b3 1) hs λ_ hs=>?_
   first|refine sY (.bool true) hs (Yl.lB [.bool true] false 2) λ_ hs=>?_|refine sY (.bool false) hs (Yl.lB [.bool false] false 2) λ_ hs=>?_
   first|refine sPr (.bool true) hs λ_ hs=>?_|refine sPr (.bool false) hs λ_ hs=>?_
   first|refine sNo hs λ_ hs=>?_|refine sNu hs λ_ hs=>?_|refine sYe hs (sP (pt b3 2) hs λ_ hs=>?_)
   first|refine sNo hs λ_ hs=>?_|refine sNu hs λ_ hs=>?_|refine sYe hs (sY (.bool true) hs (Yl.lB [.bool true] false 2) λ_ hs=>?_)|refine sYe hs (sY (.bool false) hs (Yl.lB [.bool false] false 2) λ_ hs=>?_)
   first|refine sNo hs λ_ hs=>?_|refine sNu hs λ_ hs=>?_|refine sYe hs (sPr (.bool true) hs λ_ hs=>?_)|refine sYe hs (sPr (.bool false) hs λ_ hs=>?_)
   first|refine sNo hs λ_ hs=>?_|refine sNu hs λ_ hs=>?_|refine sYe hs (sP (pt b4 1) hs λ_ hs=>?_)
   first|refine sNo hs λ_ hs=>?_|refine sNu hs λ_ hs=>?_|refine sYe hs (sY (.bool true) hs (Yl.lB [.bool true] false 1) λ_ hs=>?_)|refine sYe hs (sY (.bool false) hs (Yl.lB [.bool false] false 1) λ_ hs=>?_)
   first|refine sNo hs λ_ hs=>?_|refine sNu hs λ_ hs=>?_|refine sYe hs (sPr (.bool true) hs λ_ hs=>?_)|refine sYe hs (sPr (.bool false) hs λ_ hs=>?_)
   first|refine sPr (.bool true) hs λ_ hs=>?_|refine sPr (.bool false) hs λ_ hs=>?_
   exact wpList_nil (hs.wk ⟨rfl,rfl,rfl,rfl,rfl,trivial⟩))
 refine wpList_cut 6 (λa w=>Sx 32 E [] M w a [(2,pt b3 0),(3,pt b4 0),(4,pt b5 0),(14,.bool (e1||(f1&&e2))),(24,.bool (t1||(f1&&t2))),(30,.bool (f1&&f2))] [⟨b5,194,[.bool false,.bool false,.bool false]⟩,⟨b4,194,[.bool e2,.bool t2,.bool f2]⟩,⟨b3,194,[.bool e1,.bool t1,.bool f1]⟩] []) ?_ λa w hs=>?_
 ·cases f1<;>cases f2<;>(
   refine sP (pt b3 2) hs λ_ hs=>?_
   first|refine sY (.bool true) hs (Yl.lB [.bool true] false 2) λ_ hs=>?_|refine sY (.bool false) hs (Yl.lB [.bool false] false 2) λ_ hs=>?_
   first|refine sPr (.bool true) hs λ_ hs=>?_|refine sPr (.bool false) hs λ_ hs=>?_
   first|refine sNo hs λ_ hs=>?_|refine sNu hs λ_ hs=>?_|refine sYe hs (sP (pt b4 2) hs λ_ hs=>?_)
   first|refine sNo hs λ_ hs=>?_|refine sNu hs λ_ hs=>?_|refine sYe hs (sY (.bool true) hs (Yl.lB [.bool true] false 1) λ_ hs=>?_)|refine sYe hs (sY (.bool false) hs (Yl.lB [.bool false] false 1) λ_ hs=>?_)
   first|refine sPr (.bool true) hs λ_ hs=>?_|refine sPr (.bool false) hs λ_ hs=>?_
   exact wpList_nil (hs.wk ⟨rfl,rfl,rfl,rfl,rfl,rfl,trivial⟩))
 refine sP (X_api_Facts.mk (e1||(f1&&e2)) (t1||(f1&&t2)) (f1&&f2)).val hs λ_ hs=>?_
 refine stB 0 [.bool (e1||(f1&&e2)),.bool (t1||(f1&&t2)),.bool (f1&&f2)] [⟨b5,194,[.bool (e1||(f1&&e2)),.bool (t1||(f1&&t2)),.bool (f1&&f2)]⟩,⟨b4,194,[.bool e2,.bool t2,.bool f2]⟩,⟨b3,194,[.bool e1,.bool t1,.bool f1]⟩] hs λ_ _ hs=>?_
 exact wpList_nil (Wp.ret (lvE K hs (resC (vs:=[.bool (e1||(f1&&e2)),.bool (t1||(f1&&t2)),.bool (f1&&f2)]) true 0 hs rfl rfl rfl (by kernel_rfl) rfl) hMM.2 hK))
end Go.Proofs.Ytmnilbfhfjdelaa.core

namespace Go.Proofs.Ytmnilbfhfjdelaa.core
open Go.Gx Go.RowKit Go.ChangeShapes Go.WideShapes Go.ChangeAt
set_option linter.unusedVariables false
abbrev Fa:=X_api_Facts
def fa0:Fa:=⟨false,false,false⟩
def faThen (a b:Fa):Fa:=⟨a.Empty&&b.Empty,(a.Eats&&(b.Empty||b.Eats))||(a.Empty&&b.Eats),a.Fails||((a.Empty||a.Eats)&&b.Fails)⟩
def faOr (a b:Fa):Fa:=⟨a.Empty||(a.Fails&&b.Empty),a.Eats||(a.Fails&&b.Eats),a.Fails&&b.Fails⟩
def faStar (f:Fa):Fa:=⟨f.Fails,f.Eats,false⟩
def faAnd (f:Fa):Fa:=⟨f.Empty||f.Eats,false,f.Fails⟩
def faNot (f:Fa):Fa:=⟨f.Fails,false,f.Empty||f.Eats⟩
def faUni (a b:Fa):Fa:=⟨a.Empty||b.Empty,a.Eats||b.Eats,a.Fails||b.Fails⟩
def thenL:List Fa->Fa
 |[]=>fa0
 |a::l=>l.foldl faThen a
def thenR:List Fa->Fa
 |[]=>fa0
 |[a]=>a
 |a::l=>faThen a (thenR l)
def orL:List Fa->Fa
 |[]=>fa0
 |[a]=>a
 |a::l=>faOr a (orL l)
def hdF (l:List Fa):Fa:=l.headD fa0
theorem then_assoc:∀a b c:Fa,faThen (faThen a b) c=faThen a (faThen b c):=by
 rintro⟨_|_,_|_,_|_⟩ ⟨_|_,_|_,_|_⟩ ⟨_|_,_|_,_|_⟩<;>rfl
theorem thenL_snoc {l:List Fa} (h:l≠[]) (a:Fa):thenL (l++[a])=faThen (thenL l) a:=by
 cases l with
 |nil=>exact absurd rfl h
 |cons b r=>simp[thenL]
theorem fold_then (a b:Fa):∀l:List Fa,l.foldl faThen (faThen a b)=faThen a (l.foldl faThen b)
 |[]=>rfl
 |c::l=>by rw[List.foldl_cons,List.foldl_cons,then_assoc,fold_then a (faThen b c) l]
theorem thenL_R:∀l:List Fa,thenL l=thenR l
 |[]=>rfl
 |[a]=>rfl
 |a::b::l=>by
  have:=thenL_R (b::l)
  rw[thenR,<-this,thenL,thenL,List.foldl_cons,fold_then]
  simp
def opF (k:Int) (s:X_api_Set) (r:Fa) (l:List Fa):Fa:=
 if k=1 then⟨true,false,false⟩ else if k=2 then⟨false,!zs s,true⟩ else if k=3 then⟨false,true,true⟩ else if k=4 then r
 else if k=5 then thenL l else if k=6 then orL l else if k=7 then faStar (hdF l) else if k=8 then faThen (hdF l) (faStar (hdF l))
 else if k=9 then faOr (hdF l) ⟨true,false,false⟩ else if k=10 then faAnd (hdF l) else faNot (hdF l)
def refF (rs:List Ru) (kn:List Fa) (s:List UInt8):Fa:=(kn[(findR s rs 0).toNat]?).getD fa0
mutual
def ofE (rs:List Ru) (kn:List Fa):Ex->Fa
 | .mk k s t ks=>opF k s (refF rs kn t) (ofEs rs kn ks)
def ofEs (rs:List Ru) (kn:List Fa):List Ex->List Fa
 |[]=>[]
 |k::ks=>ofE rs kn k::ofEs rs kn ks
end
theorem ofEs_map (rs:List Ru) (kn:List Fa):∀ks,ofEs rs kn ks=ks.map (ofE rs kn)
 |[]=>by rw[ofEs];rfl
 |k::ks=>by rw[ofEs,ofEs_map rs kn ks];rfl
theorem ofE_eq (rs:List Ru) (kn:List Fa) (e:Ex):ofE rs kn e=opF e.kind e.set (refF rs kn e.text) (e.kids.map (ofE rs kn)):=by
 cases e;rw[ofE,ofEs_map];rfl
def faLe (a b:Fa):Prop:=(a.Empty=true->b.Empty=true)/\(a.Eats=true->b.Eats=true)/\(a.Fails=true->b.Fails=true)
def bit (b:Bool):Nat:=if b then 1 else 0
def faWt (a:Fa):Nat:=bit a.Empty+bit a.Eats+bit a.Fails
theorem faLat:Lat faLe faUni faWt 3 where
 refl:=λa=>⟨id,id,id⟩
 trans:=λh k=>⟨k.1∘h.1,k.2.1∘h.2.1,k.2.2∘h.2.2⟩
 anti:=by rintro⟨_|_,_|_,_|_⟩ ⟨_|_,_|_,_|_⟩<;>simp[faLe]
 left:=by rintro⟨_|_,_|_,_|_⟩ ⟨_|_,_|_,_|_⟩<;>simp[faLe,faUni]
 right:=by rintro⟨_|_,_|_,_|_⟩ ⟨_|_,_|_,_|_⟩<;>simp[faLe,faUni]
 least:=by rintro⟨_|_,_|_,_|_⟩ ⟨_|_,_|_,_|_⟩ ⟨_|_,_|_,_|_⟩<;>simp[faLe,faUni]
 mono:=by rintro⟨_|_,_|_,_|_⟩ ⟨_|_,_|_,_|_⟩<;>simp[faLe,faWt,bit]
 strict:=by rintro⟨_|_,_|_,_|_⟩ ⟨_|_,_|_,_|_⟩<;>simp[faLe,faWt,bit]
 bound:=by rintro⟨_|_,_|_,_|_⟩<;>simp[faWt,bit]
theorem then_mono:∀{a b c d:Fa},faLe a c->faLe b d->faLe (faThen a b) (faThen c d):=by
 intro a b c d h k
 obtain⟨h1,h2,h3⟩:=h
 obtain⟨k1,k2,k3⟩:=k
 refine⟨?_,?_,?_⟩<;>simp only[faThen,Bool.and_eq_true,Bool.or_eq_true]
 ·exact λ⟨p,q⟩=>⟨h1 p,k1 q⟩
 ·rintro(⟨p,q⟩|⟨p,q⟩)
  ·exact .inl ⟨h2 p,q.imp k1 k2⟩
  ·exact .inr ⟨h1 p,k2 q⟩
 ·rintro(p|⟨p,q⟩)
  ·exact .inl (h3 p)
  ·exact .inr ⟨p.imp h1 h2,k3 q⟩
theorem or_mono:∀{a b c d:Fa},faLe a c->faLe b d->faLe (faOr a b) (faOr c d):=by
 intro a b c d h k
 obtain⟨h1,h2,h3⟩:=h
 obtain⟨k1,k2,k3⟩:=k
 refine⟨?_,?_,?_⟩<;>simp only[faOr,Bool.and_eq_true,Bool.or_eq_true]
 ·exact λp=>p.imp h1 λ⟨p,q⟩=>⟨h3 p,k1 q⟩
 ·exact λp=>p.imp h2 λ⟨p,q⟩=>⟨h3 p,k2 q⟩
 ·exact λ⟨p,q⟩=>⟨h3 p,k3 q⟩
theorem star_mono:∀{a c:Fa},faLe a c->faLe (faStar a) (faStar c):=λh=>⟨h.2.2,h.2.1,id⟩
theorem and_mono:∀{a c:Fa},faLe a c->faLe (faAnd a) (faAnd c):=λh=>⟨by simp only[faAnd,Bool.or_eq_true];exact λp=>p.imp h.1 h.2.1,id,h.2.2⟩
theorem not_mono:∀{a c:Fa},faLe a c->faLe (faNot a) (faNot c):=λh=>⟨h.2.2,id,by simp only[faNot,Bool.or_eq_true];exact λp=>p.imp h.1 h.2.1⟩
theorem thenR_mono:∀{l k:List Fa},leL faLe l k->faLe (thenR l) (thenR k)
 |[],k,h=>by have:=h.1;have:k=[]:=List.eq_nil_of_length_eq_zero (by simpa using this.symm);subst this;exact faLat.refl _
 |[a],k,h=>by
  obtain⟨b,rfl⟩:∃b,k=[b]:=List.length_eq_one_iff.1 (by simpa using h.1.symm)
  exact h.2 0 a b rfl rfl
 |a::x::l,k,h=>by
  obtain⟨b,k,rfl⟩:∃b k',k=b::k':=by cases k with|nil=>have:=h.1;simp at this|cons b k=>exact⟨b,k,rfl⟩
  have ht:leL faLe (x::l) k:=⟨by simpa using h.1,λi p q hp hq=>h.2 (i+1) p q (by simpa using hp) (by simpa using hq)⟩
  cases k with
  |nil=>have:=ht.1;simp at this
  |cons y k=>
   simp only[thenR]
   exact then_mono (h.2 0 a b rfl rfl) (thenR_mono ht)
theorem orL_mono:∀{l k:List Fa},leL faLe l k->faLe (orL l) (orL k)
 |[],k,h=>by have:=h.1;have:k=[]:=List.eq_nil_of_length_eq_zero (by simpa using this.symm);subst this;exact faLat.refl _
 |[a],k,h=>by
  obtain⟨b,rfl⟩:∃b,k=[b]:=List.length_eq_one_iff.1 (by simpa using h.1.symm)
  exact h.2 0 a b rfl rfl
 |a::x::l,k,h=>by
  obtain⟨b,k,rfl⟩:∃b k',k=b::k':=by cases k with|nil=>have:=h.1;simp at this|cons b k=>exact⟨b,k,rfl⟩
  have ht:leL faLe (x::l) k:=⟨by simpa using h.1,λi p q hp hq=>h.2 (i+1) p q (by simpa using hp) (by simpa using hq)⟩
  cases k with
  |nil=>have:=ht.1;simp at this
  |cons y k=>
   simp only[orL]
   exact or_mono (h.2 0 a b rfl rfl) (orL_mono ht)
theorem hdF_mono {l k:List Fa} (h:leL faLe l k):faLe (hdF l) (hdF k):=by
 cases l with
 |nil=>have:=h.1;have:k=[]:=List.eq_nil_of_length_eq_zero (by simpa using this.symm);subst this;exact faLat.refl _
 |cons a l=>cases k with
  |nil=>have:=h.1;simp at this
  |cons b k=>exact h.2 0 a b rfl rfl
theorem opF_mono {k:Int} {s:X_api_Set} {r r':Fa} {l l':List Fa} (hr:faLe r r') (hl:leL faLe l l'):faLe (opF k s r l) (opF k s r' l'):=by
 have h1:=hdF_mono hl
 unfold opF
 split;· exact faLat.refl _
 split;· exact faLat.refl _
 split;· exact faLat.refl _
 split;· exact hr
 split;· rw[thenL_R,thenL_R];exact thenR_mono hl
 split;· exact orL_mono hl
 split;· exact star_mono h1
 split;· exact then_mono h1 (star_mono h1)
 split;· exact or_mono h1 (faLat.refl _)
 split;· exact and_mono h1
 exact not_mono h1
theorem refF_mono {rs:List Ru} {kn z:List Fa} (h:leL faLe kn z) (s:List UInt8):faLe (refF rs kn s) (refF rs z s):=by
 unfold refF
 by_cases hi:(findR s rs 0).toNat<kn.length
 ·obtain⟨a,ha⟩:=getN hi
  obtain⟨b,hb⟩:=getN (l:=z) (i:=(findR s rs 0).toNat) (by have:=h.1;omega)
  rw[ha,hb];exact h.2 _ _ _ ha hb
 ·rw[List.getElem?_eq_none (by omega),List.getElem?_eq_none (by have:=h.1;omega)];exact faLat.refl _
theorem ofE_mono {rs:List Ru} {kn z:List Fa} (h:leL faLe kn z) (e:Ex):faLe (ofE rs kn e) (ofE rs z e):=by
 induction hn:SizeOf.sizeOf e using Nat.strongRecOn generalizing e with
 |_ n ih=>
  subst hn
  rw[ofE_eq,ofE_eq]
  refine opF_mono (refF_mono h _) ⟨by simp,λi a b ha hb=>?_⟩
  rw[List.getElem?_map]at ha hb
  cases hk:e.kids[i]? with
  |none=>rw[hk]at ha;cases ha
  |some k=>
   rw[hk]at ha hb
   simp only[Option.map_some,Option.some.injEq]at ha hb
   subst ha hb
   exact ih _ (Ex.kid_lt (List.mem_of_getElem? hk)) k rfl
def Fof (rs:List Ru) (kn:List Fa) (i:Nat):Fa:=match rs[i]? with
 |some r=>ofE rs kn r.body
 |none=>fa0
theorem Fof_mono (rs:List Ru) (n:Nat):MonoF faLe (Fof rs) n:=λkn z i _ _ h=>by
 unfold Fof
 split
 ·exact ofE_mono h _
 ·exact faLat.refl _
theorem Xf_len (x:Fa):x.cells.length=3:=rfl
theorem then_is (a b:Fa) (M:Mem) (K:Value->Prop) (h:K (faThen a b).val):S_well_then a b M K:=h
theorem or_is (a b:Fa) (M:Mem) (K:Value->Prop) (h:K (faOr a b).val):S_well_or a b M K:=h
end Go.Proofs.Ytmnilbfhfjdelaa.core

namespace Go.Proofs.Ytmnilbfhfjdelaa.core
open Go.Gx Go.RowKit Go.ChangeShapes Go.WideShapes Go.ChangeAt
set_option linter.unusedVariables false
theorem kid_is {rs:List Ru} {kn:List Fa} {e:Ex} {ga ra:Option Addr} {gl gc rc:Nat} {x:X_api_Expr} {M M':Mem} {b2 b3 b4:Nat}
  (hon:∀(k:Ex) (y:X_api_Expr) (K:Value->Prop),k∈e.kids->ExR M' k y->K (ofE rs kn k).val->S_well_of ga gl gc ra kn.length rc y M' K)
  (hR:ExR M e x) (hle:M.le M') (h2:At M' b2 0 [Value.slice ga gl gc]) (h3:At M' b3 0 [Value.slice ra kn.length rc]) (h4:At M' b4 0 x.cells)
  (i:Int) (h0:0<=i) (k:Ex) (hk:e.kids[i.toNat]?=some k) (K:Value->Prop) (hK:K (ofE rs kn k).val):S_well_of_1 i b2 b3 b4 M' K:=by
 obtain⟨xs,hx⟩:=(hR.le hle).open
 obtain⟨b,o,y,ha,hat,hy,_⟩:=hx.kid hk
 have hlt:=(List.getElem?_eq_some_iff.1 hk).1
 unfold S_well_of_1
 refine⟨_,_,_,h2,_,_,_,h3,_,_,_,(h4.part 6 [Value.slice x.Kids_a x.Kids_l x.Kids_c] rfl),b,o,ha,h0,by rw[hx.len];omega,y,hat,?_⟩
 exact s_well_of _ _ _ _ _ _ _ _ _ (hon k y _ (List.mem_of_getElem? hk) hy ⟨_,rfl,hK⟩)
theorem star_is (a:Fa) (M:Mem) (K:Value->Prop) (h:K (faStar a).val):S_well_star a M K:=h
theorem of_is {rs:List Ru} {kn:List Fa} {ga ra:Option Addr} {gl gc rc:Nat} (hlen:kn.length=rs.length):∀(n:Nat) (e:Ex),SizeOf.sizeOf e<n->∀{M:Mem} {x:X_api_Expr} {K:Value->Prop},ExR M e x->GrR M rs ga gl gc->
  SlV M ra kn.length rc 3 (cl X_api_Facts.cells kn)->GoodE rs e->K (ofE rs kn e).val->S_well_of ga gl gc ra kn.length rc x M K:=by
 intro n
 induction n with
 |zero=>intro e h;omega
 |succ n ih=>
  intro e hn M x K hR hg hkn hgood hK
  obtain⟨xs,hx⟩:=hR.open
  obtain⟨g1,g2,g3,g4,g5,g6,g7,g8⟩:=fitE_kinds hgood.fit
  have hon:∀M',M.le M'->∀(k:Ex) (y:X_api_Expr) (K:Value->Prop),k∈e.kids->ExR M' k y->K (ofE rs kn k).val->S_well_of ga gl gc ra kn.length rc y M' K:=λM' hle k y K hk hy hK=>
   ih k (by have:=Ex.kid_lt hk;omega) hy (hg.le hle) (hkn.le hle) (hgood.kid k hk) hK
  have kid:=λ{M' b2 b3 b4} (hle:M.le M')=>kid_is (e:=e) (M:=M) (M':=M') (b2:=b2) (b3:=b3) (b4:=b4) (hon M' hle) hR hle
  rw[ofE_eq]at hK
  have hL:∀(i:Nat) k,e.kids[i]?=some k->(e.kids.map (ofE rs kn))[i]?=some (ofE rs kn k):=λi k hk=>by rw[List.getElem?_map,hk];rfl
  generalize hLd:e.kids.map (ofE rs kn)=l at hK hL
  have hll:l.length=e.kids.length:=by rw[<-hLd];simp
  have hat3:∀{M:Mem} {b:Nat},At M b 0 [Value.int .i64 e.kind,Value.int .u64 x.Set.w0,Value.int .u64 x.Set.w1,Value.int .u64 x.Set.w2,Value.int .u64 x.Set.w3,Value.string (mkS x.Text),Value.slice x.Kids_a x.Kids_l x.Kids_c]->At M b 0 x.cells:=λh=>by rw[<-hx.kind]at h;exact h
  have one:7<=e.kind->∃k,e.kids[(0:Int).toNat]?=some k/\hdF l=ofE rs kn k:=λh7=>by
   obtain⟨k,hk⟩:=getN (l:=e.kids) (i:=0) (by have:=g5 h7;omega)
   refine⟨k,hk,?_⟩
   have:=hL 0 k hk
   cases l with
   |nil=>simp at this
   |cons a r=>simp at this;exact this
  unfold opF at hK
  unfold S_well_of
  rw[hx.kind]
  refine⟨λh=>?_,λn1=>⟨λh=>?_,λn2=>⟨λh=>?_,λn3=>⟨λh=>?_,λn4=>⟨λh=>?_,λn5=>⟨λh=>?_,λn6=>⟨λh=>?_,λn7=>⟨λh=>?_,λn8=>⟨λh=>?_,λn9=>?_⟩⟩⟩⟩⟩⟩⟩⟩⟩
  ·rw[if_pos h]at hK;exact hK
  ·rw[if_neg n1,if_pos h,<-hx.set]at hK;exact hK
  ·rw[if_neg n1,if_neg n2,if_pos h]at hK;exact hK
  ·rw[if_neg n1,if_neg n2,if_neg n3,if_pos h]at hK
   have hr:=hgood.ref h
   obtain⟨hlt,hlt'⟩:=findR_lt hr
   obtain⟨a,ha⟩:=getN (l:=kn) (i:=(findR e.text rs 0).toNat) (by omega)
   obtain⟨b,o,hb,hat⟩:=hkn.at Xf_len rfl ha
   rw[hx.text]
   refine s_gram_Find _ _ _ _ _ _ (find_is hg e.text _ ⟨_,rfl,b,o,hb,hr,by omega,a,hat,?_⟩)
   rw[refF,ha]at hK;exact hK
  ·rw[if_neg n1,if_neg n2,if_neg n3,if_neg n4,if_pos h]at hK
   obtain⟨q1,q2⟩:=g4 (.inl h)
   obtain⟨k0,hk0⟩:=getN (l:=e.kids) (i:=0) (by omega)
   intro M1 b8 hl1 hb8 M2 b9 hl2 hb9 M3 b10 hl3 hb10
   have hle:=(hl1.trans hl2).trans hl3
   refine s_well_of_1 _ _ _ _ _ _ (kid hle (hb8.le (hl2.trans hl3)) (hb9.le hl3) (hat3 hb10) 0 (by omega) k0 hk0 _ ⟨_,rfl,?_⟩)
   refine⟨λi a b c=>1<=i/\i<=l.length/\(⟨a,b,c⟩:Fa)=thenL (l.take i.toNat),λi _ _ _=>l.length-i.toNat,⟨by omega,by omega,?_⟩,λi a b c ⟨i1,i2,i3⟩=>?_⟩
   ·have:=hL 0 k0 hk0
    cases l with
    |nil=>simp at this
    |cons y r=>simp at this;subst this;rfl
   ·refine⟨_,_,_,(hat3 hb10).part 6 [Value.slice x.Kids_a x.Kids_l x.Kids_c] rfl,λhlt=>?_,λhge=>?_⟩
    ·rw[hx.len]at hlt
     obtain⟨k,hk⟩:=getI (l:=e.kids) (i:=i) (by omega) (by omega)
     refine s_well_of_1 _ _ _ _ _ _ (kid hle (hb8.le (hl2.trans hl3)) (hb9.le hl3) (hat3 hb10) i (by omega) k hk _ ⟨_,rfl,s_well_then _ _ _ _ (then_is _ _ _ _ ⟨_,rfl,by unfold InI;omega,⟨by omega,by omega,?_⟩,by dsimp only;omega⟩)⟩)
     rw[i3,show(i+1).toNat=i.toNat+1 by omega,take_get (hL _ k hk),thenL_snoc]
     intro h0
     have:=congrArg List.length h0
     rw[List.length_take,List.length_nil]at this;omega
    ·rw[hx.len]at hge
     rw[List.take_of_length_le (by omega)]at i3
     rw[<-i3]at hK;exact hK
  ·rw[if_neg n1,if_neg n2,if_neg n3,if_neg n4,if_neg n5,if_pos h]at hK
   obtain⟨q1,q2⟩:=g4 (.inr h)
   have hxl:=hx.len
   refine⟨by unfold InI;omega,λM1 b8 hl1 hb8 M2 b9 hl2 hb9 M3 b10 hl3 hb10=>?_⟩
   have hle:=(hl1.trans hl2).trans hl3
   obtain⟨k0,hk0⟩:=getI (l:=e.kids) (i:=(x.Kids_l:Int)-1) (by omega) (by omega)
   refine s_well_of_1 _ _ _ _ _ _ (kid hle (hb8.le (hl2.trans hl3)) (hb9.le hl3) (hat3 hb10) _ (by omega) k0 hk0 _ ⟨_,rfl,?_⟩)
   refine⟨_,_,_,(hat3 hb10).part 6 [Value.slice x.Kids_a x.Kids_l x.Kids_c] rfl,by unfold InI;omega,?_⟩
   refine⟨λi a b c=> -1<=i/\i<=(l.length:Int)-2/\(⟨a,b,c⟩:Fa)=orL (l.drop (i+1).toNat),λi _ _ _=>(i+1).toNat,⟨by omega,by omega,?_⟩,λi a b c ⟨i1,i2,i3⟩=>⟨λhge=>?_,λhlt=>?_⟩⟩
   ·have h1:=hL _ k0 hk0
    rw[show((x.Kids_l:Int)-2+1).toNat=((x.Kids_l:Int)-1).toNat by omega,drop_get h1,List.drop_of_length_le (by omega)];rfl
   ·obtain⟨k,hk⟩:=getI (l:=e.kids) (i:=i) (by omega) (by omega)
    refine s_well_of_1 _ _ _ _ _ _ (kid hle (hb8.le (hl2.trans hl3)) (hb9.le hl3) (hat3 hb10) i (by omega) k hk _ ⟨_,rfl,s_well_or _ _ _ _ (or_is _ _ _ _ ⟨_,rfl,by unfold InI;omega,⟨by omega,by omega,?_⟩,by dsimp only;omega⟩)⟩)
    rw[i3,show(i-1+1).toNat=i.toNat by omega,drop_get (hL _ k hk),show(i+1).toNat=i.toNat+1 by omega]
    cases hd:l.drop (i.toNat+1)with
    |nil=>have:=congrArg List.length hd;simp at this;omega
    |cons y r=>rfl
   ·rw[show(i+1).toNat=0 by omega,List.drop_zero]at i3
    rw[<-i3]at hK;exact hK
  ·rw[if_neg n1,if_neg n2,if_neg n3,if_neg n4,if_neg n5,if_neg n6,if_pos h]at hK
   obtain⟨k0,hk0,hhd⟩:=one (by omega)
   rw[hhd]at hK
   intro M1 b8 hl1 hb8 M2 b9 hl2 hb9 M3 b10 hl3 hb10
   have hle:=(hl1.trans hl2).trans hl3
   exact s_well_of_1 _ _ _ _ _ _ (kid hle (hb8.le (hl2.trans hl3)) (hb9.le hl3) (hat3 hb10) 0 (by omega) k0 hk0 _ ⟨_,rfl,s_well_star _ _ _ (star_is _ _ _ ⟨_,rfl,hK⟩)⟩)
  ·rw[if_neg n1,if_neg n2,if_neg n3,if_neg n4,if_neg n5,if_neg n6,if_neg n7,if_pos h]at hK
   obtain⟨k0,hk0,hhd⟩:=one (by omega)
   rw[hhd]at hK
   intro M1 b8 hl1 hb8 M2 b9 hl2 hb9 M3 b10 hl3 hb10
   have hle:=(hl1.trans hl2).trans hl3
   have kk:=λK hK=>s_well_of_1 _ _ _ _ _ _ (kid hle (hb8.le (hl2.trans hl3)) (hb9.le hl3) (hat3 hb10) 0 (by omega) k0 hk0 K hK)
   exact kk _ ⟨_,rfl,kk _ ⟨_,rfl,s_well_star _ _ _ (star_is _ _ _ ⟨_,rfl,s_well_then _ _ _ _ (then_is _ _ _ _ ⟨_,rfl,hK⟩)⟩)⟩⟩
  ·rw[if_neg n1,if_neg n2,if_neg n3,if_neg n4,if_neg n5,if_neg n6,if_neg n7,if_neg n8,if_pos h]at hK
   obtain⟨k0,hk0,hhd⟩:=one (by omega)
   rw[hhd]at hK
   intro M1 b8 hl1 hb8 M2 b9 hl2 hb9 M3 b10 hl3 hb10
   have hle:=(hl1.trans hl2).trans hl3
   exact s_well_of_1 _ _ _ _ _ _ (kid hle (hb8.le (hl2.trans hl3)) (hb9.le hl3) (hat3 hb10) 0 (by omega) k0 hk0 _ ⟨_,rfl,s_well_or _ _ _ _ (or_is _ _ _ _ ⟨_,rfl,hK⟩)⟩)
  ·rw[if_neg n1,if_neg n2,if_neg n3,if_neg n4,if_neg n5,if_neg n6,if_neg n7,if_neg n8,if_neg n9]at hK
   obtain⟨k0,hk0,hhd⟩:=one (by omega)
   rw[hhd]at hK
   intro M1 b8 hl1 hb8 M2 b9 hl2 hb9 M3 b10 hl3 hb10
   have hle:=(hl1.trans hl2).trans hl3
   have j1:∀b:Bool,b=((ofE rs kn k0).Empty||(ofE rs kn k0).Eats)->S_well_of_J1 b10 M3 (ofE rs kn k0) b K:=by
    rintro b rfl
    unfold S_well_of_J1
    refine⟨_,(hat3 hb10).part 0 [Value.int .i64 x.Kind] rfl,λh=>?_,λh=>?_⟩
    ·rw[hx.kind]at h;rw[if_pos h]at hK;exact hK
    ·rw[hx.kind]at h;rw[if_neg h]at hK;exact hK
   refine s_well_of_1 _ _ _ _ _ _ (kid hle (hb8.le (hl2.trans hl3)) (hb9.le hl3) (hat3 hb10) 0 (by omega) k0 hk0 _ ⟨_,rfl,λh=>j1 _ (by simp[h]),λh=>j1 _ (by simp[h])⟩)
theorem facts1_is {rs:List Ru} {kn:List Fa} {ga ra:Option Addr} {gl gc rc b5:Nat} {M:Mem} (hok:GramOk rs) (hlen:kn.length=rs.length) (hg:GrR M rs ga gl gc) (hkn:SlV M ra kn.length rc 3 (cl X_api_Facts.cells kn)) (h5:At M b5 0 [Value.slice ga gl gc])
  (i:Int) (h0:0<=i) (h1:i<rs.length) (K:Value->Prop) (hK:K (Fof rs kn i.toNat).val):S_well_facts_1 ra kn.length rc i b5 M K:=by
 obtain⟨r,x,b,o,hr,ha,hat,hrr⟩:=hg.at h0 (by rw[hg.len];exact h1)
 unfold S_well_facts_1
 refine⟨_,_,_,h5,_,_,_,h5,b,o,ha,h0,by rw[hg.len];exact h1,x.Body,hat.part 1 x.Body.cells rfl,s_well_of _ _ _ _ _ _ _ _ _ (of_is hlen _ r.body (Nat.lt_succ_self _) hrr.2.2 hg hkn (hok.good r (List.mem_of_getElem? hr)) ⟨_,rfl,?_⟩)⟩
 rw[Fof,hr]at hK
 exact hK
end Go.Proofs.Ytmnilbfhfjdelaa.core

namespace Go.Proofs.Ytmnilbfhfjdelaa.core
open Go.Gx Go.RowKit Go.ChangeShapes Go.WideShapes Go.ChangeAt
set_option linter.unusedVariables false
structure GrowI (M M':Mem) (e size:Nat) (ad:Option Addr) (n cap:Nat) (xs:List Value):Prop where
 le:M.le M'
 row:RowW M' e size ad n cap xs
 new:∀g o,ad=some ⟨g,o,none⟩->M g=none
theorem GrowI.make {M M':Mem} {e size n cap:Nat} {ad:Option Addr} {xs:List Value} (h:NewRow M M' e size ad n cap xs):GrowI M M' e size ad n cap xs:=by
 refine⟨h.le,h.roww,λg o hg=>?_⟩
 obtain⟨_,_,_,⟨h1,_⟩|⟨g',cur,h1,h2,_⟩⟩:=h
 ·rw[h1]at hg;cases hg
 ·rw[h1]at hg
  simp only[Option.some.injEq,Addr.mk.injEq,and_true]at hg
  rw[<-hg.1];exact h2
theorem GrowI.more {M M' M'':Mem} {e size n cap:Nat} {ad:Option Addr} {xs:List Value} (h:GrowI M M' e size ad n cap xs) (hl:M'.le M''):GrowI M M'' e size ad n cap xs:=
 ⟨h.le.trans hl,h.row.le hl,h.new⟩
theorem GrowI.put {α:Type} {f:α->List Value} {M M':Mem} {e size n cap:Nat} {ad:Option Addr} {xs:List α} (hf:∀x,(f x).length=size) (h:GrowI M M' e size ad n cap (cl f xs)) (hl:xs.length=n) {i b o:Nat} (hi:i<n) (had:ad=some ⟨b,o,none⟩) (x:α):
  Has M' b (o+i*size) size/\M b=none/\GrowI M (M'.put b (o+i*size) (f x)) e size ad n cap (cl f (xs.set i x)):=by
 obtain⟨_,h2,h3⟩:=h.row.put hf hl hi had x
 have hb:=h.new b o had
 refine⟨h2,hb,λy q hy=>?_,h3,h.new⟩
 rw[Mem.put_ne (by rintro rfl;rw[hb]at hy;cases hy)]
 exact h.le y q hy
theorem set_same {α:Type}:∀{l:List α} {i:Nat} {a:α},l[i]?=some a->l.set i a=l
 |[],_,_,h=>by simp at h
 |x::r,0,a,h=>by simp at h;subst h;rfl
 |x::r,i+1,a,h=>by rw[List.set_cons_succ,set_same (by simpa using h)]
theorem SlV.elems {α:Type} {f:α->List Value} {M:Mem} {A:Option Addr} {l c sz:Nat} {xs:List α} (h:SlV M A l c sz (cl f xs)) (hf:∀x,(f x).length=sz) (h0:0<sz):xs.length=l:=h.len hf h0
theorem At.inj {M:Mem} {b o:Nat} {vs us:List Value} (h:At M b o vs) (k:At M b o us) (hl:vs.length=us.length):vs=us:=by
 apply List.ext_getElem?
 intro j
 cases hv:vs[j]? with
 |none=>rw[List.getElem?_eq_none_iff]at hv;rw[List.getElem?_eq_none (by omega)]
 |some v=>
  cases hu:us[j]? with
  |none=>rw[List.getElem?_eq_none_iff]at hu;have:=(List.getElem?_eq_some_iff.1 hv).1;omega
  |some u=>
   have h1:=h j v hv
   have h2:=k j u hu
   rw[h1]at h2;exact h2
theorem pre_bot {α:Type} {le:α->α->Prop} {F:List α->Nat->α} (bot:α) (hbot:∀a,le bot a) (n:Nat):Pre le F n (List.replicate n bot):=
 ⟨by simp,λi a ha=>by rw[(List.mem_replicate.1 (List.mem_of_getElem? ha)).2];exact hbot _,λz hz _=>⟨by simp[hz],λi a b ha _=>by rw[(List.mem_replicate.1 (List.mem_of_getElem? ha)).2];exact hbot _⟩⟩
theorem cl_replicate {α:Type} (f:α->List Value) (n:Nat) (a:α):cl f (List.replicate n a)=repl n (f a):=by simp[cl,repl,List.map_replicate]
theorem grow_facts {F:List Fa->Nat->Fa} {n:Nat} (hF:MonoF faLe F n) (hn:n<=10) (next:Value) (M:Mem) (K:Value->Mem->Prop)
  (hnext:∀M' ad cap kn,M.le M'->SlV M' ad n cap 3 (cl X_api_Facts.cells kn)->kn.length=n->∀i:Int,0<=i->i<n->CallF Try.prog next [.slice ad n cap,.int .i64 i] M' (λv _=>v=(F kn i.toNat).val))
  (hK:∀M' ad cap kn,M.le M'->SlV M' ad n cap 3 (cl X_api_Facts.cells kn)->Lfp faLe F n kn->K (.slice ad n cap) M'):S_well_grow_Facts (n:Int) next M (λ_=>False) K:=by
 unfold S_well_grow_Facts
 simp only[Int.toNat_natCast]
 refine⟨by omega,by omega,by omega,λM6 ad cap hnr=>?_⟩
 have h6:=GrowI.make hnr
 rw[show repl n [Value.bool false,Value.bool false,Value.bool false]=cl X_api_Facts.cells (List.replicate n fa0) from(cl_replicate X_api_Facts.cells n fa0).symm]at h6
 have L:=faLat
 refine⟨List Fa,λkn more M'=>GrowI M M' _ 3 ad n cap (cl X_api_Facts.cells kn)/\Pre faLe F n kn/\(more=false->∀(i:Nat) a,kn[i]?=some a->F kn i=a),λkn more=>2*wS faWt 3 kn+(if more then 1 else 0),List.replicate n fa0,⟨h6,pre_bot fa0 (λa=>⟨λh=>(by cases h),λh=>(by cases h),λh=>(by cases h)⟩) n,λh=>(by cases h)⟩,λkn more M' ⟨hg,hp,hfix⟩=>⟨λhmore=>?_,λhmore=>?_⟩⟩
 ·refine⟨List Fa,λk2 more2 i M2=>0<=i/\i<=n/\GrowI M M2 _ 3 ad n cap (cl X_api_Facts.cells k2)/\Pre faLe F n k2/\leL faLe kn k2/\(more2=true->kn≠k2)/\(more2=false->k2=kn/\∀(j:Nat) a,(j:Int)<i->kn[j]?=some a->F kn j=a),λ_ _ i=>n-i.toNat,kn,⟨by omega,by omega,hg,hp,leL.refl L kn,λh=>(by cases h),λ_=>⟨rfl,λj a h=>by omega⟩⟩,λk2 more2 i M2 ⟨h0,h1,hg2,hp2,hl2,ht2,hf2⟩=>⟨λhlt=>?_,λhge=>?_⟩⟩
  ·have hkl:=hp2.len
   obtain⟨a,ha⟩:=getI (l:=k2) h0 (by omega)
   have hsl:=hg2.row.slv
   refine((hnext M2 ad cap k2 hg2.le hsl hkl i h0 hlt).mono (K':=λv M'=>M2.le M'/\v=(F k2 i.toNat).val) λv M' hle hv=>⟨hle,hv⟩).toW.mono (λ_ h=>h) λv M3 _ ⟨hle3,hv⟩=>⟨_,hv,?_⟩
   have hg3:=hg2.more hle3
   obtain⟨b,o,had,hat⟩:=hg3.row.slv.at Xf_len hkl ha
   refine⟨b,o,had,h0,hlt,a,hat,λhne=>?_,λhne=>?_⟩
   ·obtain⟨q1,q2,q3⟩:=hg3.put Xf_len hkl (i:=i.toNat) (by omega) had (F k2 i.toNat)
    have hne':a≠F k2 i.toNat:=λe=>hne (by rw[<-e];exact⟨rfl,rfl,rfl⟩)
    obtain⟨s1,s2⟩:=hp2.step L hF ha
    have hw:=wS_set L ha (hp2.up _ _ ha) hne'
    refine⟨b,o,had,h0,hlt,q1,.inr q2,λM4 hM4=>?_⟩
    subst hM4
    refine⟨by unfold InI;omega,k2.set i.toNat (F k2 i.toNat),⟨by omega,by omega,q3,s1,hl2.trans L s2,λ_ e=>?_,λh=>(by cases h)⟩,by dsimp only;omega⟩
    rw[<-e]at hw
    have:=(wS_le L hl2).1
    omega
   ·have hsame:F k2 i.toNat=a:=by
     have hne:=Classical.not_not.1 hne
     obtain⟨e1,e2,e3⟩:=hne
     generalize F k2 i.toNat=z at e1 e2 e3
     cases z;cases a;simp only at e1 e2 e3;subst e1 e2 e3;rfl
    refine⟨by unfold InI;omega,k2,⟨by omega,by omega,hg3,hp2,hl2,ht2,λhm=>?_⟩,by dsimp only;omega⟩
    obtain⟨f1,f2⟩:=hf2 hm
    subst f1
    refine⟨rfl,λj x hj hx=>?_⟩
    by_cases e:(j:Int)=i
    ·have:i.toNat=j:=by omega
     rw[this]at ha hsame
     rw[ha]at hx;cases hx;exact hsame
    ·exact f2 j x (by omega) hx
  ·have hkl:=hp.len
   cases more2 with
   |true=>
    refine⟨k2,⟨hg2,hp2,λh=>(by cases h)⟩,?_⟩
    have:=(wS_le L hl2).2 (ht2 rfl)
    rw[hmore];dsimp only;omega
   |false=>
    obtain⟨f1,f2⟩:=hf2 rfl
    subst f1
    refine⟨k2,⟨hg2,hp2,λ_ j x hx=>f2 j x (by have:=(List.getElem?_eq_some_iff.1 hx).1;omega) hx⟩,?_⟩
    rw[hmore];dsimp only;simp
 ·intro M7 hle7
  have hm:more=false:=by simpa using hmore
  exact hK M7 ad cap kn (hg.le.trans hle7) (hg.row.slv.le hle7) (hp.lfp L (hfix hm))
theorem facts_is {rs:List Ru} {ga:Option Addr} {gl gc:Nat} {M:Mem} (hok:GramOk rs) (hg:GrR M rs ga gl gc) (K:Value->Mem->Prop)
  (hK:∀M' ad cap kn,M.le M'->SlV M' ad rs.length cap 3 (cl X_api_Facts.cells kn)->Lfp faLe (Fof rs) rs.length kn->K (.slice ad rs.length cap) M'):S_well_facts ga gl gc M K:=by
 unfold S_well_facts
 intro M5 b4 hle5 h5
 rw[hg.len]
 refine e_well_grow_Facts _ _ _ _ (grow_facts (Fof_mono rs _) hok.ten _ _ _ (λM' ad cap kn hle' hsl hkl i h0 h1=>?_) λM' ad cap kn hle' hsl hlfp=>⟨_,_,_,rfl,λM'' hle''=>hK M'' ad cap kn ((hle5.trans hle').trans hle'') (hsl.le hle'') hlfp⟩)
 have hg':=hg.le (hle5.trans hle')
 rw[<-hkl]at hsl ⊢
 exact f_well_facts_1 _ _ _ _ _ _ (λv=>v=(Fof rs kn i.toNat).val) (facts1_is hok hkl hg' hsl (h5.le hle') i h0 h1 _ rfl)
end Go.Proofs.Ytmnilbfhfjdelaa.core

namespace Go.Proofs.Ytmnilbfhfjdelaa.core
open Go.Gx Go.RowKit Go.ChangeShapes Go.WideShapes Go.ChangeAt
set_option linter.unusedVariables false
def enc (f:Fa):Int:=(if f.Empty then 1 else 0)+(if f.Eats then 2 else 0)+(if f.Fails then 4 else 0)
theorem enc1:∀f:Fa,(bAnd .i64 (enc f) 1>0)↔f.Empty=true:=by rintro⟨_|_,_|_,_|_⟩<;>decide
theorem enc2:∀f:Fa,(bAnd .i64 (enc f) 2>0)↔f.Eats=true:=by rintro⟨_|_,_|_,_|_⟩<;>decide
theorem enc4:∀f:Fa,(bAnd .i64 (enc f) 4>0)↔f.Fails=true:=by rintro⟨_|_,_|_,_|_⟩<;>decide
theorem d1 (f:Fa):decide (bAnd .i64 (enc f) 1>0)=f.Empty:=by rw[Bool.eq_iff_iff,decide_eq_true_iff];exact enc1 f
theorem d2 (f:Fa):decide (bAnd .i64 (enc f) 2>0)=f.Eats:=by rw[Bool.eq_iff_iff,decide_eq_true_iff];exact enc2 f
end Go.Proofs.Ytmnilbfhfjdelaa.core

namespace Go.Proofs.Ytmnilbfhfjdelaa.core
open Go.Gx Go.RowKit Go.ChangeShapes Go.WideShapes Go.ChangeAt
set_option linter.unusedVariables false
theorem d4 (f:Fa):decide (bAnd .i64 (enc f) 4>0)=f.Fails:=by rw[Bool.eq_iff_iff,decide_eq_true_iff];exact enc4 f
end Go.Proofs.Ytmnilbfhfjdelaa.core

namespace Go.Proofs.Ytmnilbfhfjdelaa.core
open Go.Gx Go.RowKit Go.ChangeShapes Go.WideShapes Go.ChangeAt
set_option linter.unusedVariables false
def knOf (rs:List Ru):List Fa:=jacN faUni (Fof rs) (3*rs.length+1) (List.replicate rs.length fa0)
theorem fa0_le (a:Fa):faLe fa0 a:=⟨λh=>(by cases h),λh=>(by cases h),λh=>(by cases h)⟩
theorem knOf_lfp (rs:List Ru):Lfp faLe (Fof rs) rs.length (knOf rs):=jac_lfp faLat (Fof_mono rs _) fa0 fa0_le _ (by omega)
theorem knOf_len (rs:List Ru):(knOf rs).length=rs.length:=(knOf_lfp rs).len
theorem knOf_eq {rs:List Ru} {kn:List Fa} (h:Lfp faLe (Fof rs) rs.length kn):kn=knOf rs:=h.same faLat (knOf_lfp rs)
theorem pfacts_is {rs:List Ru} {ga:Option Addr} {gl gc:Nat} {M:Mem} (hok:GramOk rs) (hg:GrR M rs ga gl gc) (K:Value->Mem->Prop)
  (hK:∀M' ad cap,M.le M'->SlV M' ad rs.length cap 3 (cl X_api_Facts.cells (knOf rs))->K (.slice ad rs.length cap) M'):S_well_facts ga gl gc M K:=
 facts_is hok hg K λM' ad cap kn hle hsl hlfp=>by rw[knOf_eq hlfp]at hsl;exact hK M' ad cap hle hsl
def ndB (rs:List Ru) (kn:List Fa) (x:Ex):Bool:=decide (x.kind=7\/x.kind=8)&&(hdF (x.kids.map (ofE rs kn))).Empty
def loopB (rs:List Ru) (kn:List Fa) (e:Ex):Bool:=(flatE e).any (ndB rs kn)
theorem flatEs_any (p:Ex->Bool):∀ks:List Ex,(flatEs ks).any p=ks.any λk=>(flatE k).any p
 |[]=>by rw[flatEs];rfl
 |k::ks=>by rw[flatEs,List.any_append,flatEs_any p ks];rfl
theorem flatE_eq (e:Ex):flatE e=e::flatEs e.kids:=by cases e;rw[flatE];rfl
theorem loopB_eq (rs:List Ru) (kn:List Fa) (e:Ex):loopB rs kn e=(ndB rs kn e||e.kids.any (loopB rs kn)):=by
 unfold loopB
 rw[flatE_eq,List.any_cons,flatEs_any]
theorem loops_is {rs:List Ru} {kn:List Fa} {ga ra:Option Addr} {gl gc rc:Nat} (hlen:kn.length=rs.length):∀(n:Nat) (e:Ex),SizeOf.sizeOf e<n->∀{M:Mem} {x:X_api_Expr} {K:Value->Prop},ExR M e x->GrR M rs ga gl gc->
  SlV M ra kn.length rc 3 (cl X_api_Facts.cells kn)->GoodE rs e->K (.bool (loopB rs kn e))->S_well_loops ga gl gc ra kn.length rc x M K:=by
 intro n
 induction n with
 |zero=>intro e h;omega
 |succ n ih=>
  intro e hn M x K hR hg hkn hgood hK
  obtain⟨xs,hx⟩:=hR.open
  obtain⟨g1,g2,g3,g4,g5,g6,g7,g8⟩:=fitE_kinds hgood.fit
  rw[loopB_eq]at hK
  have hl8:e.kids.length<=8:=by
   by_cases h4:e.kind<=4
   ·rw[g3 h4];simp
   ·by_cases h7:7<=e.kind
    ·have:=g5 h7;omega
    ·exact(g4 (by omega)).2
  have j1:∀b:Bool,b=ndB rs kn e->S_well_loops_J1 ga gl gc ra kn.length rc x M b K:=by
   intro b hb
   unfold S_well_loops_J1
   rw[<-hb]at hK
   refine⟨λh=>by rw[h,Bool.true_or]at hK;exact hK,λh=>?_⟩
   have h:b=false:=by simpa using h
   rw[h,Bool.false_or]at hK
   refine⟨λi=>0<=i/\i<=e.kids.length/\(e.kids.drop i.toNat).any (loopB rs kn)=e.kids.any (loopB rs kn),λi=>e.kids.length-i.toNat,⟨by omega,by omega,rfl⟩,λi ⟨i0,i1,heq⟩=>⟨λhlt=>?_,λhge=>?_⟩⟩
   ·rw[hx.len]at hlt
    obtain⟨k,hk⟩:=getI (l:=e.kids) i0 hlt
    obtain⟨b,o,y,ha,hat,hy,_⟩:=hx.kid hk
    have hmem:=List.mem_of_getElem? hk
    rw[drop_get hk,List.any_cons]at heq
    refine⟨b,o,ha,i0,by rw[hx.len];exact hlt,y,hat,s_well_loops _ _ _ _ _ _ _ _ _ (ih k (by have:=Ex.kid_lt hmem;omega) hy hg hkn (hgood.kid k hmem) ⟨_,rfl,λht=>?_,λhf=>⟨by unfold InI;omega,⟨by omega,by omega,?_⟩,by dsimp only;omega⟩⟩)⟩
    ·rw[ht,Bool.true_or]at heq;rw[<-heq]at hK;exact hK
    ·have hf:loopB rs kn k=false:=by simpa using hf
     rw[hf,Bool.false_or]at heq
     rw[show(i+1).toNat=i.toNat+1 by omega];exact heq
   ·rw[hx.len]at hge
    rw[List.drop_of_length_le (by omega),List.any_nil]at heq
    rw[<-heq]at hK;exact hK
  have kid0:7<=e.kind->∃k b o y,e.kids=[k]/\x.Kids_a=some ⟨b,o,none⟩/\At M b (o+(0:Int).toNat*7) y.cells/\ExR M k y/\k∈e.kids:=λh7=>by
   obtain⟨k,hk⟩:∃k,e.kids=[k]:=List.length_eq_one_iff.1 (g5 h7)
   obtain⟨b,o,y,ha,hat,hy,_⟩:=hx.kid (i:=0) (k:=k) (by rw[hk];rfl)
   exact⟨k,b,o,y,hk,ha,hat,hy,by rw[hk];simp⟩
  unfold S_well_loops
  rw[hx.kind]
  have hx1:7<=e.kind->(0:Int)<((x.Kids_l:Nat):Int):=λh7=>by rw[hx.len,g5 h7];omega
  refine⟨λh7=>?_,λn7=>⟨λh8=>?_,λn8=>j1 _ (by simp[ndB,n7,n8])⟩⟩
  ·obtain⟨k,b,o,y,hk,ha,hat,hy,hmem⟩:=kid0 (by omega)
   refine⟨b,o,ha,by omega,hx1 (by omega),y,hat,s_well_of _ _ _ _ _ _ _ _ _ (of_is hlen _ k (Nat.lt_succ_self _) hy hg hkn (hgood.kid k hmem) ⟨_,rfl,j1 _ ?_⟩)⟩
   simp[ndB,h7,hk,hdF]
  ·obtain⟨k,b,o,y,hk,ha,hat,hy,hmem⟩:=kid0 (by omega)
   refine⟨b,o,ha,by omega,hx1 (by omega),y,hat,s_well_of _ _ _ _ _ _ _ _ _ (of_is hlen _ k (Nat.lt_succ_self _) hy hg hkn (hgood.kid k hmem) ⟨_,rfl,j1 _ ?_⟩)⟩
   simp[ndB,h8,hk,hdF]
mutual
def needsE (rs:List Ru) (kn:List Fa):Ex->List Nat
 | .mk k s t ks=>if k=4 then[(findR t rs 0).toNat] else if k=5 then needsQ rs kn ks else needsA rs kn ks
def needsQ (rs:List Ru) (kn:List Fa):List Ex->List Nat
 |[]=>[]
 |k::ks=>needsE rs kn k++(if (ofE rs kn k).Empty then needsQ rs kn ks else[])
def needsA (rs:List Ru) (kn:List Fa):List Ex->List Nat
 |[]=>[]
 |k::ks=>needsE rs kn k++needsA rs kn ks
end
theorem needsE_eq (rs:List Ru) (kn:List Fa) (e:Ex):needsE rs kn e=if e.kind=4 then[(findR e.text rs 0).toNat] else if e.kind=5 then needsQ rs kn e.kids else needsA rs kn e.kids:=by
 cases e;rw[needsE];rfl
mutual
theorem needsE_lt {rs:List Ru} (kn:List Fa):∀e:Ex,GoodE rs e->∀i∈needsE rs kn e,i<rs.length
 | .mk k s t ks,h,i,hi=>by
  rw[needsE]at hi
  split at hi
  ·rename_i h4
   simp at hi;subst hi
   exact(findR_lt (h.ref h4)).1
  ·split at hi
   ·exact needsQ_lt kn ks (λk hk=>h.kid k hk) i hi
   ·exact needsA_lt kn ks (λk hk=>h.kid k hk) i hi
theorem needsQ_lt {rs:List Ru} (kn:List Fa):∀ks:List Ex,(∀k∈ks,GoodE rs k)->∀i∈needsQ rs kn ks,i<rs.length
 |[],_,i,hi=>by simp[needsQ]at hi
 |k::ks,h,i,hi=>by
  rw[needsQ]at hi
  rcases List.mem_append.1 hi with hi|hi
  ·exact needsE_lt kn k (h k (by simp)) i hi
  ·split at hi
   ·exact needsQ_lt kn ks (λk hk=>h k (by simp[hk])) i hi
   ·cases hi
theorem needsA_lt {rs:List Ru} (kn:List Fa):∀ks:List Ex,(∀k∈ks,GoodE rs k)->∀i∈needsA rs kn ks,i<rs.length
 |[],_,i,hi=>by simp[needsA]at hi
 |k::ks,h,i,hi=>by
  rw[needsA]at hi
  rcases List.mem_append.1 hi with hi|hi
  ·exact needsE_lt kn k (h k (by simp)) i hi
  ·exact needsA_lt kn ks (λk hk=>h k (by simp[hk])) i hi
end
def wkB (wk:List Bool) (i:Nat):Bool:=(wk[i]?).getD false
def soundB (rs:List Ru) (kn:List Fa) (wk:List Bool) (e:Ex):Bool:=(needsE rs kn e).all (wkB wk)
theorem sound_is {rs:List Ru} {kn:List Fa} {wk:List Bool} {ga ra wa:Option Addr} {gl gc rc wc:Nat} (hlen:kn.length=rs.length) (hwl:wk.length=rs.length):∀(n:Nat) (e:Ex),SizeOf.sizeOf e<n->∀{M:Mem} {x:X_api_Expr} {K:Value->Prop},ExR M e x->GrR M rs ga gl gc->
  SlV M ra kn.length rc 3 (cl X_api_Facts.cells kn)->SlV M wa wk.length wc 1 (cl bC wk)->GoodE rs e->K (.bool (soundB rs kn wk e))->S_well_sound ga gl gc ra kn.length rc wa wk.length wc x M K:=by
 intro n
 induction n with
 |zero=>intro e h;omega
 |succ n ih=>
  intro e hn M x K hR hg hkn hwk hgood hK
  obtain⟨xs,hx⟩:=hR.open
  obtain⟨g1,g2,g3,g4,g5,g6,g7,g8⟩:=fitE_kinds hgood.fit
  have hl8:e.kids.length<=8:=by
   by_cases h4:e.kind<=4
   ·rw[g3 h4];simp
   ·by_cases h7:7<=e.kind
    ·have:=g5 h7;omega
    ·exact(g4 (by omega)).2
  rw[soundB,needsE_eq]at hK
  unfold S_well_sound
  rw[hx.kind]
  refine⟨λh4=>?_,λn4=>⟨λh5=>?_,λn5=>?_⟩⟩
  ·rw[if_pos h4]at hK
   have hr:=hgood.ref h4
   obtain⟨hlt,hlt'⟩:=findR_lt hr
   obtain⟨a,ha⟩:=getN (l:=wk) (i:=(findR e.text rs 0).toNat) (by omega)
   obtain⟨b,o,hb,hat⟩:=hwk.at (f:=bC) (λ_=>rfl) rfl ha
   rw[hx.text]
   refine s_gram_Find _ _ _ _ _ _ (find_is hg e.text _ ⟨_,rfl,b,o,hb,hr,by omega,a,hat,?_⟩)
   simp only[List.all_cons,List.all_nil,Bool.and_true,wkB,ha,Option.getD_some]at hK
   exact hK
  ·rw[if_neg n4,if_pos h5]at hK
   refine⟨λi=>0<=i/\i<=e.kids.length/\(needsQ rs kn (e.kids.drop i.toNat)).all (wkB wk)=(needsQ rs kn e.kids).all (wkB wk),λi=>e.kids.length-i.toNat,⟨by omega,by omega,rfl⟩,λi ⟨i0,i1,heq⟩=>⟨λhlt=>?_,λhge=>?_⟩⟩
   ·rw[hx.len]at hlt
    obtain⟨k,hk⟩:=getI (l:=e.kids) i0 hlt
    obtain⟨b,o,y,ha,hat,hy,_⟩:=hx.kid hk
    have hmem:=List.mem_of_getElem? hk
    rw[drop_get hk,needsQ,List.all_append]at heq
    refine⟨b,o,ha,i0,by rw[hx.len];exact hlt,y,hat,s_well_sound _ _ _ _ _ _ _ _ _ _ _ _ (ih k (by have:=Ex.kid_lt hmem;omega) hy hg hkn hwk (hgood.kid k hmem) ⟨_,rfl,λhf=>?_,λht=>?_⟩)⟩
    ·have hf:(needsE rs kn k).all (wkB wk)=false:=by simpa[soundB]using hf
     rw[hf,Bool.false_and]at heq;rw[<-heq]at hK;exact hK
    ·have ht:(needsE rs kn k).all (wkB wk)=true:=by simpa[soundB]using ht
     rw[ht,Bool.true_and]at heq
     refine s_well_of _ _ _ _ _ _ _ _ _ (of_is hlen _ k (Nat.lt_succ_self _) hy hg hkn (hgood.kid k hmem) ⟨_,rfl,λhf=>?_,λht2=>⟨by unfold InI;omega,⟨by omega,by omega,?_⟩,by dsimp only;omega⟩⟩)
     ·have hf:(ofE rs kn k).Empty=false:=by simpa using hf
      rw[hf]at heq
      simp only[Bool.false_eq_true,if_false,List.all_nil]at heq
      rw[<-heq]at hK;exact hK
     ·have ht2:(ofE rs kn k).Empty=true:=by simpa using ht2
      rw[ht2,if_pos rfl]at heq
      rw[show(i+1).toNat=i.toNat+1 by omega];exact heq
   ·rw[hx.len]at hge
    rw[List.drop_of_length_le (by omega),needsQ,List.all_nil]at heq
    rw[<-heq]at hK;exact hK
  ·rw[if_neg n4,if_neg n5]at hK
   refine⟨λi=>0<=i/\i<=e.kids.length/\(needsA rs kn (e.kids.drop i.toNat)).all (wkB wk)=(needsA rs kn e.kids).all (wkB wk),λi=>e.kids.length-i.toNat,⟨by omega,by omega,rfl⟩,λi ⟨i0,i1,heq⟩=>⟨λhlt=>?_,λhge=>?_⟩⟩
   ·rw[hx.len]at hlt
    obtain⟨k,hk⟩:=getI (l:=e.kids) i0 hlt
    obtain⟨b,o,y,ha,hat,hy,_⟩:=hx.kid hk
    have hmem:=List.mem_of_getElem? hk
    rw[drop_get hk,needsA,List.all_append]at heq
    refine⟨b,o,ha,i0,by rw[hx.len];exact hlt,y,hat,s_well_sound _ _ _ _ _ _ _ _ _ _ _ _ (ih k (by have:=Ex.kid_lt hmem;omega) hy hg hkn hwk (hgood.kid k hmem) ⟨_,rfl,λhf=>?_,λht=>⟨by unfold InI;omega,⟨by omega,by omega,?_⟩,by dsimp only;omega⟩⟩)⟩
    ·have hf:(needsE rs kn k).all (wkB wk)=false:=by simpa[soundB]using hf
     rw[hf,Bool.false_and]at heq;rw[<-heq]at hK;exact hK
    ·have ht:(needsE rs kn k).all (wkB wk)=true:=by simpa[soundB]using ht
     rw[ht,Bool.true_and]at heq
     rw[show(i+1).toNat=i.toNat+1 by omega];exact heq
   ·rw[hx.len]at hge
    rw[List.drop_of_length_le (by omega),needsA,List.all_nil]at heq
    rw[<-heq]at hK;exact hK
def bLe (a b:Bool):Prop:=a=true->b=true
theorem bLat:Lat bLe (·||·) bit 1 where
 refl:=λa=>id
 trans:=λh k=>k∘h
 anti:=by rintro(_|_) (_|_)<;>simp[bLe]
 left:=by rintro(_|_) (_|_)<;>simp[bLe]
 right:=by rintro(_|_) (_|_)<;>simp[bLe]
 least:=by rintro(_|_) (_|_) (_|_)<;>simp[bLe]
 mono:=by rintro(_|_) (_|_)<;>simp[bLe,bit]
 strict:=by rintro(_|_) (_|_)<;>simp[bLe,bit]
 bound:=by rintro(_|_)<;>simp[bit]
def Gof (rs:List Ru) (kn:List Fa) (wk:List Bool) (i:Nat):Bool:=match rs[i]? with
 |some r=>soundB rs kn wk r.body
 |none=>false
theorem Gof_mono (rs:List Ru) (kn:List Fa) (n:Nat):MonoF bLe (Gof rs kn) n:=λa z i _ _ h=>by
 unfold Gof
 split
 ·intro hs
  rw[soundB,List.all_eq_true]at hs ⊢
  intro j hj
  have:=hs j hj
  unfold wkB at this ⊢
  cases ha:a[j]? with
  |none=>rw[ha]at this;cases this
  |some x=>
   rw[ha]at this
   obtain⟨y,hy⟩:=getN (l:=z) (i:=j) (by have:=(List.getElem?_eq_some_iff.1 ha).1;have:=h.1;omega)
   rw[hy];exact h.2 j x y ha hy this
 ·exact id
def wkOf (rs:List Ru):List Bool:=jacN (·||·) (Gof rs (knOf rs)) (rs.length+1) (List.replicate rs.length false)
theorem wkOf_lfp (rs:List Ru):Lfp bLe (Gof rs (knOf rs)) rs.length (wkOf rs):=jac_lfp bLat (Gof_mono rs _ _) false (λa h=>(by cases h)) _ (by omega)
theorem wkOf_eq {rs:List Ru} {wk:List Bool} (h:Lfp bLe (Gof rs (knOf rs)) rs.length wk):wk=wkOf rs:=h.same bLat (wkOf_lfp rs)
end Go.Proofs.Ytmnilbfhfjdelaa.core

namespace Go.Proofs.Ytmnilbfhfjdelaa.core
open Go.Gx Go.RowKit Go.ChangeShapes Go.WideShapes Go.ChangeAt
set_option linter.unusedVariables false
theorem bC_len (b:Bool):(bC b).length=1:=rfl
theorem grow_bool {F:List Bool->Nat->Bool} {n:Nat} (hF:MonoF bLe F n) (hn:n<=10) (next:Value) (M:Mem) (K:Value->Mem->Prop)
  (hnext:∀M' ad cap kn,M.le M'->SlV M' ad n cap 1 (cl bC kn)->kn.length=n->∀i:Int,0<=i->i<n->CallF Try.prog next [.slice ad n cap,.int .i64 i] M' (λv _=>v= .bool (F kn i.toNat)))
  (hK:∀M' ad cap kn,M.le M'->SlV M' ad n cap 1 (cl bC kn)->Lfp bLe F n kn->K (.slice ad n cap) M'):S_well_grow_bool (n:Int) next M (λ_=>False) K:=by
 unfold S_well_grow_bool
 simp only[Int.toNat_natCast]
 refine⟨by omega,by omega,by omega,λM6 ad cap hnr=>?_⟩
 have h6:=GrowI.make hnr
 rw[show repl n [Value.bool false]=cl bC (List.replicate n false) from(cl_replicate bC n false).symm]at h6
 have L:=bLat
 refine⟨List Bool,λkn more M'=>GrowI M M' _ 1 ad n cap (cl bC kn)/\Pre bLe F n kn/\(more=false->∀(i:Nat) a,kn[i]?=some a->F kn i=a),λkn more=>2*wS bit 1 kn+(if more then 1 else 0),List.replicate n false,⟨h6,pre_bot false (λa h=>(by cases h)) n,λh=>(by cases h)⟩,λkn more M' ⟨hg,hp,hfix⟩=>⟨λhmore=>?_,λhmore=>?_⟩⟩
 ·refine⟨List Bool,λk2 more2 i M2=>0<=i/\i<=n/\GrowI M M2 _ 1 ad n cap (cl bC k2)/\Pre bLe F n k2/\leL bLe kn k2/\(more2=true->kn≠k2)/\(more2=false->k2=kn/\∀(j:Nat) a,(j:Int)<i->kn[j]?=some a->F kn j=a),λ_ _ i=>n-i.toNat,kn,⟨by omega,by omega,hg,hp,leL.refl L kn,λh=>(by cases h),λ_=>⟨rfl,λj a h=>by omega⟩⟩,λk2 more2 i M2 ⟨h0,h1,hg2,hp2,hl2,ht2,hf2⟩=>⟨λhlt=>?_,λhge=>?_⟩⟩
  ·have hkl:=hp2.len
   obtain⟨a,ha⟩:=getI (l:=k2) h0 (by omega)
   have hsl:=hg2.row.slv
   refine((hnext M2 ad cap k2 hg2.le hsl hkl i h0 hlt).mono (K':=λv M'=>M2.le M'/\v= .bool (F k2 i.toNat)) λv M' hle hv=>⟨hle,hv⟩).toW.mono (λ_ h=>h) λv M3 _ ⟨hle3,hv⟩=>⟨_,hv,?_⟩
   have hg3:=hg2.more hle3
   obtain⟨b,o,had,hat⟩:=hg3.row.slv.at bC_len hkl ha
   refine⟨b,o,had,h0,hlt,a,hat,λhne=>?_,λhne=>?_⟩
   ·obtain⟨q1,q2,q3⟩:=hg3.put bC_len hkl (i:=i.toNat) (by omega) had (F k2 i.toNat)
    have hne':a≠F k2 i.toNat:=λe=>hne e.symm
    obtain⟨s1,s2⟩:=hp2.step L hF ha
    have hw:=wS_set L ha (hp2.up _ _ ha) hne'
    refine⟨b,o,had,h0,hlt,q1,.inr q2,λM4 hM4=>?_⟩
    subst hM4
    refine⟨by unfold InI;omega,k2.set i.toNat (F k2 i.toNat),⟨by omega,by omega,q3,s1,hl2.trans L s2,λ_ e=>?_,λh=>(by cases h)⟩,by dsimp only;omega⟩
    rw[<-e]at hw
    have:=(wS_le L hl2).1
    omega
   ·have hsame:F k2 i.toNat=a:=Classical.not_not.1 hne
    refine⟨by unfold InI;omega,k2,⟨by omega,by omega,hg3,hp2,hl2,ht2,λhm=>?_⟩,by dsimp only;omega⟩
    obtain⟨f1,f2⟩:=hf2 hm
    subst f1
    refine⟨rfl,λj x hj hx=>?_⟩
    by_cases e:(j:Int)=i
    ·have:i.toNat=j:=by omega
     rw[this]at ha hsame
     rw[ha]at hx;cases hx;exact hsame
    ·exact f2 j x (by omega) hx
  ·have hkl:=hp.len
   cases more2 with
   |true=>
    refine⟨k2,⟨hg2,hp2,λh=>(by cases h)⟩,?_⟩
    have:=(wS_le L hl2).2 (ht2 rfl)
    rw[hmore];dsimp only;omega
   |false=>
    obtain⟨f1,f2⟩:=hf2 rfl
    subst f1
    refine⟨k2,⟨hg2,hp2,λ_ j x hx=>f2 j x (by have:=(List.getElem?_eq_some_iff.1 hx).1;omega) hx⟩,?_⟩
    rw[hmore];dsimp only;simp
 ·intro M7 hle7
  have hm:more=false:=by simpa using hmore
  exact hK M7 ad cap kn (hg.le.trans hle7) (hg.row.slv.le hle7) (hp.lfp L (hfix hm))
def fstB:List Bool->Int->Int
 |[],_=> -1
 |b::t,i=>if b then i else fstB t (i+1)
def wellP (rs:List Ru):Int×Int:=
 if gramErr rs≠0 then(0,gramErr rs)
 else if fstB (rs.map λr=>loopB rs (knOf rs) r.body) 0≠-1 then(fstB (rs.map λr=>loopB rs (knOf rs) r.body) 0,9)
 else if fstB ((wkOf rs).map (!·)) 0≠-1 then(fstB ((wkOf rs).map (!·)) 0,8) else(0,0)
theorem fstB_hit {l:List Bool} {i:Int} (h0:0<=i) {t:List Bool} (hd:l.drop i.toNat=true::t) (heq:fstB (l.drop i.toNat) i=fstB l 0):fstB l 0=i/\fstB l 0≠-1:=by
 rw[hd,fstB,if_pos rfl]at heq
 exact⟨heq.symm,by omega⟩
theorem fstB_miss {l:List Bool} {i:Int} (h0:0<=i) {t:List Bool} (hd:l.drop i.toNat=false::t) (heq:fstB (l.drop i.toNat) i=fstB l 0):fstB (l.drop (i+1).toNat) (i+1)=fstB l 0:=by
 rw[show(i+1).toNat=i.toNat+1 by omega,<-List.drop_drop,hd,List.drop_succ_cons,List.drop_zero]
 rw[hd,fstB]at heq
 simpa using heq
theorem wwell_is {rs:List Ru} {ga:Option Addr} {gl gc:Nat} {M:Mem} (hg:GrR M rs ga gl gc) (K:Value->Prop) (hK:K (.tuple #[.int .i64 (wellP rs).1,.int .i64 (wellP rs).2])):S_well_Well ga gl gc M K:=by
 unfold S_well_Well
 unfold wellP at hK
 refine s_gram_Check _ _ _ _ _ (gcheck_is hg _ ⟨_,rfl,λh=>?_,λh=>?_⟩)
 ·rw[if_pos h]at hK;exact hK
 rw[if_neg h]at hK
 have h0:gramErr rs=0:=by simpa using h
 have hok:=gram_ok h0
 have h10:=hok.ten
 have hgl:=hg.len
 have hkl:=knOf_len rs
 have hwl:=(wkOf_lfp rs).len
 refine s_well_facts _ _ _ _ _ (pfacts_is hok hg _ λM1 ad cap hle hsl=>⟨_,_,_,rfl,?_⟩)
 generalize hll:(rs.map λr=>loopB rs (knOf rs) r.body)=ll at hK
 have hlll:ll.length=rs.length:=by rw[<-hll];simp
 have hlg:∀(i:Nat) r,rs[i]?=some r->ll[i]?=some (loopB rs (knOf rs) r.body):=λi r hr=>by rw[<-hll,List.getElem?_map,hr];rfl
 refine⟨λi=>0<=i/\i<=rs.length/\fstB (ll.drop i.toNat) i=fstB ll 0,λi=>rs.length-i.toNat,⟨by omega,by omega,rfl⟩,λi ⟨i0,i1,heq⟩=>⟨λhlt=>?_,λhge=>?_⟩⟩
 ·obtain⟨r,x,b,o,hr,ha,hat,hrr⟩:=(hg.le hle).at i0 hlt
  rw[<-hkl]at hsl ⊢
  refine⟨b,o,ha,i0,hlt,x,hat,s_well_loops _ _ _ _ _ _ _ _ _ (loops_is hkl _ r.body (Nat.lt_succ_self _) hrr.2.2 (hg.le hle) hsl (hok.good r (List.mem_of_getElem? hr)) ⟨_,rfl,λht=>?_,λhf=>⟨by unfold InI;omega,⟨by omega,by omega,?_⟩,by dsimp only;omega⟩⟩)⟩
  ·have hd:=drop_get (hlg _ r hr)
   rw[ht]at hd
   obtain⟨e1,e2⟩:=fstB_hit i0 hd heq
   rw[if_pos e2,e1]at hK;exact hK
  ·have hd:=drop_get (hlg _ r hr)
   rw[show loopB rs (knOf rs) r.body=false by simpa using hf]at hd
   exact fstB_miss i0 hd heq
 rw[List.drop_of_length_le (by omega),fstB]at heq
 rw[if_neg (by rw[<-heq];simp)]at hK
 intro M2 b4 hle2 h4 M3 b10 hle3 hb10
 rw[hgl]
 refine e_well_grow_bool _ _ _ _ (grow_bool (Gof_mono rs (knOf rs) _) h10 _ _ _ (λM' ad2 cap2 wk hle' hsl2 hwk2 i i0 i1=>?_) λM' ad2 cap2 wk hle' hsl2 hlfp=>⟨_,_,_,rfl,?_⟩)
 ·have hle4:=((hle.trans hle2).trans hle3).trans hle'
  rw[<-hwk2]at hsl2 ⊢
  obtain⟨r,x,b,o,hr,ha,hat,hrr⟩:=(hg.le hle4).at (i:=i) i0 (by omega)
  refine f_well_Well_1 _ _ _ _ _ _ _ (λv=>v= .bool (Gof rs (knOf rs) wk i.toNat)) ?_
  unfold S_well_Well_1
  have h4':=h4.le (hle3.trans hle')
  refine⟨_,_,_,h4',_,_,_,hb10.le hle',_,_,_,h4',b,o,ha,i0,by omega,x.Body,hat.part 1 x.Body.cells rfl,?_⟩
  have hsl3:=hsl.le ((hle2.trans hle3).trans hle')
  rw[<-hkl]at hsl3 ⊢
  refine s_well_sound _ _ _ _ _ _ _ _ _ _ _ _ (sound_is hkl hwk2 _ r.body (Nat.lt_succ_self _) hrr.2.2 (hg.le hle4) hsl3 hsl2 (hok.good r (List.mem_of_getElem? hr)) ⟨_,rfl,?_⟩)
  rw[Gof,hr]
 ·rw[wkOf_eq hlfp]at hsl2
  generalize hwd:(wkOf rs).map (!·)=wd at hK
  have hwdl:wd.length=rs.length:=by rw[<-hwd];simp[hwl]
  refine⟨λi=>0<=i/\i<=rs.length/\fstB (wd.drop i.toNat) i=fstB wd 0,λi=>rs.length-i.toNat,⟨by omega,by omega,rfl⟩,λi ⟨i0,i1,heq⟩=>⟨λhlt=>?_,λhge=>?_⟩⟩
  ·obtain⟨a,ha⟩:=getN (l:=wkOf rs) (i:=i.toNat) (by omega)
   obtain⟨b,o,hb,hat⟩:=hsl2.at bC_len hwl ha
   have hwg:wd[i.toNat]?=some (!a):=by rw[<-hwd,List.getElem?_map,ha];rfl
   have hd:=drop_get hwg
   refine⟨b,o,hb,i0,hlt,a,hat,λhf=>?_,λht=>⟨by unfold InI;omega,⟨by omega,by omega,?_⟩,by dsimp only;omega⟩⟩
   ·rw[show a=false by simpa using hf]at hd
    obtain⟨e1,e2⟩:=fstB_hit i0 hd heq
    rw[if_pos e2,e1]at hK;exact hK
   ·rw[show a=true by simpa using ht]at hd
    exact fstB_miss i0 hd heq
  ·rw[List.drop_of_length_le (by omega),fstB]at heq
   rw[if_neg (by rw[<-heq];simp)]at hK;exact hK
end Go.Proofs.Ytmnilbfhfjdelaa.core

namespace Go.Proofs.Ytmnilbfhfjdelaa.core
open Go.Gx Go.RowKit Go.ChangeShapes Go.WideShapes Go.ChangeAt
set_option linter.unusedVariables false
theorem kids8 {rs:List Ru} {e:Ex} (h:GoodE rs e):e.kids.length<=8:=by
 obtain⟨g1,g2,g3,g4,g5,_⟩:=fitE_kinds h.fit
 by_cases h4:e.kind<=4
 ·rw[g3 h4];simp
 ·by_cases h7:7<=e.kind
  ·have:=g5 h7;omega
  ·exact(g4 (by omega)).2
theorem flatE_kidlen {e k:Ex} (h:k∈e.kids):(flatE k).length<(flatE e).length:=by
 rw[flatE_eq e,List.length_cons]
 have:∀ks:List Ex,k∈ks->(flatE k).length<=(flatEs ks).length:=by
  intro ks
  induction ks with
  |nil=>intro h;cases h
  |cons a r ih=>
   intro h
   rw[flatEs,List.length_append]
   rcases List.mem_cons.1 h with rfl|h
   ·omega
   ·have:=ih h;omega
 have:=this _ h
 omega
end Go.Proofs.Ytmnilbfhfjdelaa.core

namespace Go.Proofs.Ytmnilbfhfjdelaa.core
open Go.Gx Go.RowKit Go.ChangeShapes Go.WideShapes Go.ChangeAt
set_option linter.unusedVariables false
theorem wrapU (n:Nat) (h:n<2 ^ 64):IntKind.wrap .u64 (n:Int)=n:=by
 simp only[IntKind.wrap,IntKind.bits,IntKind.signed,Bool.false_and,Bool.false_eq_true,if_false]
 omega
theorem bvU (n:Nat) (h:n<2 ^ 64):(BitVec.ofInt 64 (n:Int)).toNat=n:=by
 rw[BitVec.ofInt_natCast,BitVec.toNat_ofNat,Nat.mod_eq_of_lt h]
theorem bOrU (a b:Nat) (ha:a<2 ^ 64) (hb:b<2 ^ 64):bOr .u64 a b=((a|||b:Nat):Int):=by
 show IntKind.wrap .u64 ((BitVec.ofInt 64 (a:Int)|||BitVec.ofInt 64 (b:Int)).toNat:Int)=_
 rw[BitVec.toNat_or,bvU a ha,bvU b hb,wrapU _ (Nat.or_lt_two_pow ha hb)]
theorem bAndU (a b:Nat) (ha:a<2 ^ 64) (hb:b<2 ^ 64):bAnd .u64 a b=((a&&& b:Nat):Int):=by
 show IntKind.wrap .u64 ((BitVec.ofInt 64 (a:Int)&&& BitVec.ofInt 64 (b:Int)).toNat:Int)=_
 rw[BitVec.toNat_and,bvU a ha,bvU b hb,wrapU _ (Nat.and_lt_two_pow a hb)]
theorem bNotU (a:Nat) (ha:a<2 ^ 64):bNot .u64 a=(((2 ^ 64-1) ^^^ a:Nat):Int):=by
 show IntKind.wrap .u64 ((BitVec.ofInt 64 (18446744073709551615:Int) ^^^ BitVec.ofInt 64 (a:Int)).toNat:Int)=_
 have h1:(BitVec.ofInt 64 (18446744073709551615:Int)).toNat=2 ^ 64-1:=by decide
 rw[BitVec.toNat_xor,bvU a ha,h1,wrapU _ (Nat.xor_lt_two_pow (by decide) ha)]
theorem bShlU (k:Nat) (hk:k<64):bShl .u64 1 k=((2 ^ k:Nat):Int):=by
 show IntKind.wrap .u64 (1*2 ^ (min (k:Int).toNat 64))=_
 have:min (k:Int).toNat 64=k:=by omega
 rw[this,Int.one_mul]
 have h2:(2 ^ k:Nat)<2 ^ 64:=Nat.pow_lt_pow_right (by decide) hk
 have:=wrapU (2 ^ k) h2
 rw[Int.natCast_pow]at this ⊢
 exact this
theorem bShrU (a k:Nat) (hk:k<64):bShr .u64 a k=((a / 2 ^ k:Nat):Int):=by
 show(a:Int).fdiv (2 ^ (min (k:Int).toNat 64))=_
 have:min (k:Int).toNat 64=k:=by omega
 rw[this,Int.ofNat_fdiv,Int.natCast_pow];rfl
def Uw (p:Nat->Bool) (w:Nat):Nat->Nat
 |0=>0
 |j+1=>Uw p w j+(if p (64*w+j)=true then 2 ^ j else 0)
theorem Uw_lt (p:Nat->Bool) (w:Nat):∀j,Uw p w j<2 ^ j
 |0=>by simp[Uw]
 |j+1=>by
  have:=Uw_lt p w j
  simp only[Uw,Nat.pow_succ]
  split<;>omega
theorem Uw_bit (p:Nat->Bool) (w:Nat) (k:Nat):∀j,(Uw p w j).testBit k=(decide (k<j)&&p (64*w+k))
 |0=>by simp[Uw]
 |j+1=>by
  have ih:=Uw_bit p w k j
  have hlt:=Uw_lt p w j
  simp only[Uw]
  split
  ·rename_i hp
   have e:Uw p w j+2 ^ j=2 ^ j*1|||Uw p w j:=by
    rw[<-Nat.two_pow_add_eq_or_of_lt hlt 1];omega
   rw[e,Nat.mul_one,Nat.testBit_or,Nat.testBit_two_pow,ih]
   by_cases hk:j=k
   ·subst hk;simp[hp]
   ·have:(decide (k<j+1))=decide (k<j):=by congr 1;simp;omega
    rw[this];simp[hk]
  ·rename_i hp
   rw[Nat.add_zero,ih]
   by_cases hk:j=k
   ·subst hk;simp[hp]
   ·have:(decide (k<j+1))=decide (k<j):=by congr 1;simp;omega
    rw[this]
def hasW (s:List Nat) (b:Nat):Bool:=(s.getD (b / 64) 0).testBit (b % 64)
theorem word_ext {x y:Nat} (hx:x<2 ^ 64) (hy:y<2 ^ 64) (h:∀k,k<64->x.testBit k=y.testBit k):x=y:=by
 refine Nat.eq_of_testBit_eq λk=>?_
 by_cases hk:k<64
 ·exact h k hk
 ·have:2 ^ 64<=2 ^ k:=Nat.pow_le_pow_right (by decide) (by omega)
  rw[Nat.testBit_lt_two_pow (by omega),Nat.testBit_lt_two_pow (by omega)]
theorem word_is {x:Nat} (p:Nat->Bool) (w:Nat) (hx:x<2 ^ 64) (h:∀k,k<64->x.testBit k=p (64*w+k)):x=Uw p w 64:=
 word_ext hx (Uw_lt p w 64) λk hk=>by rw[h k hk,Uw_bit];simp[hk]
theorem hasW_at (s:List Nat) (w k:Nat) (hk:k<64):hasW s (64*w+k)=(s.getD w 0).testBit k:=by
 unfold hasW
 rw[show(64*w+k) / 64=w by omega,show(64*w+k) % 64=k by omega]
def Us (p:Nat->Bool):X_api_Set:=⟨(Uw p 0 64:Nat),(Uw p 1 64:Nat),(Uw p 2 64:Nat),(Uw p 3 64:Nat)⟩
def bitS (s:X_api_Set) (b:Nat):Bool:=hasW [s.w0.toNat,s.w1.toNat,s.w2.toNat,s.w3.toNat] b
theorem nat_of {z:Int} (h:(Lit.int .u64 z).wf=true):∃n:Nat,z=n/\n<2 ^ 64:=by
 simp only[Lit.wf,IntKind.min,IntKind.max,Bool.and_eq_true]at h
 refine⟨z.toNat,?_,?_⟩<;>simp[IntKind.bits,IntKind.signed]at h<;>omega
theorem of_nat {n:Nat} (h:n<2 ^ 64):(Lit.int .u64 (n:Int)).wf=true:=by
 simp only[Lit.wf,IntKind.min,IntKind.max,Bool.and_eq_true]
 simp[IntKind.bits,IntKind.signed];omega
theorem Us_wf (p:Nat->Bool):wfS (Us p):=⟨of_nat (Uw_lt p 0 64),of_nat (Uw_lt p 1 64),of_nat (Uw_lt p 2 64),of_nat (Uw_lt p 3 64)⟩
theorem bit_Us {p:Nat->Bool} {b:Nat} (hb:b<256):bitS (Us p) b=p b:=by
 have key:∀w k:Nat,w<4->k<64->hasW [Uw p 0 64,Uw p 1 64,Uw p 2 64,Uw p 3 64] (64*w+k)=p (64*w+k):=by
  intro w k hw hk
  rw[hasW_at _ w k hk]
  have:[Uw p 0 64,Uw p 1 64,Uw p 2 64,Uw p 3 64].getD w 0=Uw p w 64:=by
   match w,hw with
   |0,_=>rfl
   |1,_=>rfl
   |2,_=>rfl
   |3,_=>rfl
  rw[this,Uw_bit];simp[hk]
 have:=key (b / 64) (b % 64) (by omega) (by omega)
 rw[show 64*(b / 64)+b % 64=b by omega]at this
 exact this
theorem Us_bit {s:X_api_Set} (h:wfS s):Us (bitS s)=s:=by
 obtain⟨a,b,c,d⟩:=s
 obtain⟨h0,h1,h2,h3⟩:=h
 obtain⟨a,rfl,ha⟩:=nat_of h0
 obtain⟨b,rfl,hb⟩:=nat_of h1
 obtain⟨c,rfl,hc⟩:=nat_of h2
 obtain⟨d,rfl,hd⟩:=nat_of h3
 have key:∀(w x:Nat),[a,b,c,d].getD w 0=x->x<2 ^ 64->Uw (bitS ⟨a,b,c,d⟩) w 64=x:=λw x hx hlt=>by
  refine(word_is _ w hlt λk hk=>?_).symm
  rw[<-hx]
  exact(hasW_at [a,b,c,d] w k hk).symm
 unfold Us
 rw[key 0 a rfl ha,key 1 b rfl hb,key 2 c rfl hc,key 3 d rfl hd]
theorem Us_congr {p q:Nat->Bool} (h:∀b,b<256->p b=q b):Us p=Us q:=by
 have key:∀(w:Nat),w<4->∀j,j<=64->Uw p w j=Uw q w j:=by
  intro w hw j
  induction j with
  |zero=>intro _;rfl
  |succ j ih=>intro hj;rw[Uw,Uw,ih (by omega),h (64*w+j) (by omega)]
 unfold Us
 rw[key 0 (by omega) 64 (by omega),key 1 (by omega) 64 (by omega),key 2 (by omega) 64 (by omega),key 3 (by omega) 64 (by omega)]
theorem bit_get {s:X_api_Set} (h:wfS s) {x:Nat} (hx:x<256):∃w:Nat,[s.w0,s.w1,s.w2,s.w3][x / 64]?=some (w:Int)/\w<2 ^ 64/\w.testBit (x % 64)=bitS s x:=by
 obtain⟨a,b,c,d⟩:=s
 obtain⟨h0,h1,h2,h3⟩:=h
 obtain⟨a,rfl,ha⟩:=nat_of h0
 obtain⟨b,rfl,hb⟩:=nat_of h1
 obtain⟨c,rfl,hc⟩:=nat_of h2
 obtain⟨d,rfl,hd⟩:=nat_of h3
 have hq:x / 64<4:=by omega
 have hx':=hasW_at [a,b,c,d] (x / 64) (x % 64) (by omega)
 rw[show 64*(x / 64)+x % 64=x by omega]at hx'
 match h:x / 64,hq with
 |0,_=>exact⟨a,rfl,ha,by rw[h]at hx';exact hx'.symm⟩
 |1,_=>exact⟨b,rfl,hb,by rw[h]at hx';exact hx'.symm⟩
 |2,_=>exact⟨c,rfl,hc,by rw[h]at hx';exact hx'.symm⟩
 |3,_=>exact⟨d,rfl,hd,by rw[h]at hx';exact hx'.symm⟩
theorem u8_shift:∀n:Nat,n<256->bShr .u8 (n:Int) 6=((n / 64:Nat):Int)/\bAnd .u8 (n:Int) 63=((n % 64:Nat):Int):=by decide+kernel
theorem bit_one (w k:Nat) (hw:w<2 ^ 64) (hk:k<64):((bAnd .u64 (bShr .u64 (w:Int) (k:Int)) 1:Int)==(1:Int))=w.testBit k:=by
 rw[bShrU w k hk,Nat.testBit_eq_decide_div_mod_eq]
 have h1:w / 2 ^ k<2 ^ 64:=Nat.lt_of_le_of_lt (Nat.div_le_self _ _) hw
 rw[show(1:Int)=((1:Nat):Int) from rfl,bAndU _ _ h1 (by decide),Nat.and_one_is_mod]
 generalize w / 2 ^ k=y
 rw[Bool.eq_iff_iff,beq_iff_eq,decide_eq_true_iff]
 omega
theorem has_is {s:X_api_Set} (hs:wfS s) (c:UInt8) {M:Mem} (K:Value->Prop) (h:K (.bool (bitS s c.toNat))):S_set_Has s (c.toNat:Int) M K:=by
 have hc:=c.toNat_lt
 obtain⟨e1,e2⟩:=u8_shift c.toNat hc
 obtain⟨w,hw,hlt,hb⟩:=bit_get hs hc
 unfold S_set_Has
 rw[e1,e2]
 refine⟨by omega,by omega,(w:Int),?_,by omega,?_⟩
 ·rw[show 0+(((c.toNat / 64:Nat):Int)).toNat*1=c.toNat / 64 by omega];exact hw
 ·rw[bit_one _ _ hlt (by omega),hb];exact h
theorem join_is {s t:X_api_Set} (hs:wfS s) (ht:wfS t) {M:Mem} (K:Value->Prop) (hK:K (Us λb=>bitS s b||bitS t b).val):S_set_Join s t M K:=by
 unfold S_set_Join
 refine s_set_both _ _ _ _ _ ?_
 obtain⟨a,b,c,d⟩:=s
 obtain⟨a',b',c',d'⟩:=t
 obtain⟨h0,h1,h2,h3⟩:=hs
 obtain⟨k0,k1,k2,k3⟩:=ht
 obtain⟨a,rfl,ha⟩:=nat_of h0
 obtain⟨b,rfl,hb⟩:=nat_of h1
 obtain⟨c,rfl,hc⟩:=nat_of h2
 obtain⟨d,rfl,hd⟩:=nat_of h3
 obtain⟨a',rfl,ha'⟩:=nat_of k0
 obtain⟨b',rfl,hb'⟩:=nat_of k1
 obtain⟨c',rfl,hc'⟩:=nat_of k2
 obtain⟨d',rfl,hd'⟩:=nat_of k3
 have hw:∀(w x y:Nat),[a,b,c,d].getD w 0=x->[a',b',c',d'].getD w 0=y->x<2 ^ 64->y<2 ^ 64->(x|||y)=Uw (λq=>bitS ⟨a,b,c,d⟩ q||bitS ⟨a',b',c',d'⟩ q) w 64:=by
  intro w x y hx hy hxl hyl
  refine word_is _ w (Nat.or_lt_two_pow hxl hyl) λk hk=>?_
  rw[Nat.testBit_or,<-hx,<-hy]
  rw[<-hasW_at [a,b,c,d] w k hk,<-hasW_at [a',b',c',d'] w k hk];rfl
 have hfin:(⟨((a|||a':Nat):Int),((b|||b':Nat):Int),((c|||c':Nat):Int),((d|||d':Nat):Int)⟩:X_api_Set)=Us λq=>bitS ⟨a,b,c,d⟩ q||bitS ⟨a',b',c',d'⟩ q:=by
  unfold Us
  rw[hw 0 a a' rfl rfl ha ha',hw 1 b b' rfl rfl hb hb',hw 2 c c' rfl rfl hc hc',hw 3 d d' rfl rfl hd hd']
 rw[<-hfin]at hK
 have call:∀(x y:Nat) (K:Value->Prop),x<2 ^ 64->y<2 ^ 64->K (.int .u64 ((x|||y:Nat):Int))->CallF Try.prog (Value.func (.func 172) #[] #[]) [.int .u64 (x:Int),.int .u64 (y:Int)] M (λv _=>K v):=λx y K hx hy hK=>
  f_set_Join_1 _ _ _ _ (by unfold S_set_Join_1;rw[bOrU x y hx hy];exact hK)
 unfold S_set_both
 refine⟨λi zs=>(i=0/\zs=[(a:Int),b,c,d])\/(i=1/\zs=[((a|||a':Nat):Int),b,c,d])\/(i=2/\zs=[((a|||a':Nat):Int),((b|||b':Nat):Int),c,d])\/(i=3/\zs=[((a|||a':Nat):Int),((b|||b':Nat):Int),((c|||c':Nat):Int),d])\/(i=4/\zs=[((a|||a':Nat):Int),((b|||b':Nat):Int),((c|||c':Nat):Int),((d|||d':Nat):Int)]),λi _=>4-i.toNat,.inl ⟨rfl,rfl⟩,λi zs hI=>?_⟩
 rcases hI with⟨rfl,rfl⟩|⟨rfl,rfl⟩|⟨rfl,rfl⟩|⟨rfl,rfl⟩|⟨rfl,rfl⟩
 ·exact⟨λ_=>⟨by omega,by omega,_,rfl,by omega,by omega,_,rfl,call _ _ _ ha ha' ⟨_,rfl,by omega,by omega,by simp,by unfold InI;omega,.inr (.inl ⟨rfl,rfl⟩),by dsimp only;decide⟩⟩,λh=>absurd h (by decide)⟩
 ·exact⟨λ_=>⟨by omega,by omega,_,rfl,by omega,by omega,_,rfl,call _ _ _ hb hb' ⟨_,rfl,by omega,by omega,by simp,by unfold InI;omega,.inr (.inr (.inl ⟨rfl,rfl⟩)),by dsimp only;decide⟩⟩,λh=>absurd h (by decide)⟩
 ·exact⟨λ_=>⟨by omega,by omega,_,rfl,by omega,by omega,_,rfl,call _ _ _ hc hc' ⟨_,rfl,by omega,by omega,by simp,by unfold InI;omega,.inr (.inr (.inr (.inl ⟨rfl,rfl⟩))),by dsimp only;decide⟩⟩,λh=>absurd h (by decide)⟩
 ·exact⟨λ_=>⟨by omega,by omega,_,rfl,by omega,by omega,_,rfl,call _ _ _ hd hd' ⟨_,rfl,by omega,by omega,by simp,by unfold InI;omega,.inr (.inr (.inr (.inr ⟨rfl,rfl⟩))),by dsimp only;decide⟩⟩,λh=>absurd h (by decide)⟩
 ·exact⟨λh=>absurd h (by decide),λ_=>⟨_,_,_,_,rfl,rfl,_,_,_,_,rfl,_,rfl,hK⟩⟩
theorem Uw_congr {p q:Nat->Bool} {w:Nat} (h:∀k,k<64->p (64*w+k)=q (64*w+k)):Uw p w 64=Uw q w 64:=by
 have key:∀j,j<=64->Uw p w j=Uw q w j:=by
  intro j
  induction j with
  |zero=>intro _;rfl
  |succ j ih=>intro hj;rw[Uw,Uw,ih (by omega),h j (by omega)]
 exact key 64 (by omega)
def U4 (p:Nat->Bool):List Int:=[(Uw p 0 64:Nat),(Uw p 1 64:Nat),(Uw p 2 64:Nat),(Uw p 3 64:Nat)]
theorem U4_get (p:Nat->Bool) {w:Nat} (hw:w<4):(U4 p)[w]?=some ((Uw p w 64:Nat):Int):=by
 match w,hw with
 |0,_=>rfl
 |1,_=>rfl
 |2,_=>rfl
 |3,_=>rfl
theorem U4_set {p q:Nat->Bool} {w:Nat} (hw:w<4) (h:∀x,x<256->x / 64≠w->p x=q x):(U4 p).set w ((Uw q w 64:Nat):Int)=U4 q:=by
 have key:∀v,v<4->v≠w->Uw p v 64=Uw q v 64:=λv hv hne=>Uw_congr λk hk=>h _ (by omega) (by omega)
 match w,hw with
 |0,_=>show[_,_,_,_]=[_,_,_,_];rw[key 1 (by omega) (by omega),key 2 (by omega) (by omega),key 3 (by omega) (by omega)]
 |1,_=>show[_,_,_,_]=[_,_,_,_];rw[key 0 (by omega) (by omega),key 2 (by omega) (by omega),key 3 (by omega) (by omega)]
 |2,_=>show[_,_,_,_]=[_,_,_,_];rw[key 0 (by omega) (by omega),key 1 (by omega) (by omega),key 3 (by omega) (by omega)]
 |3,_=>show[_,_,_,_]=[_,_,_,_];rw[key 0 (by omega) (by omega),key 1 (by omega) (by omega),key 2 (by omega) (by omega)]
theorem i64_shift:∀n:Nat,n<256->bShr .i64 (n:Int) 6=((n / 64:Nat):Int)/\bAnd .i64 (n:Int) 63=((n % 64:Nat):Int):=by decide+kernel
def inR (low high:Int) (x:Nat):Bool:=decide (low<=x/\(x:Int)<=high)
theorem range_is (low high:Int) {M:Mem} (K:Value->Prop) (hK:K (Us (inR low high)).val):S_set_Range low high M K:=by
 unfold S_set_Range
 have hz:∀p:Nat->Bool,(∀x,x<256->p x=false)->U4 p=[0,0,0,0]:=λp hp=>by
  have key:∀w,w<4->Uw p w 64=0:=λw hw=>by
   have h1:Uw p w 64=Uw (λ_=>false) w 64:=Uw_congr λk hk=>hp _ (by omega)
   have h2:∀j,Uw (λ_=>false) w j=0:=by
    intro j
    induction j with
    |zero=>rfl
    |succ j ih=>rw[Uw,ih];simp
   rw[h1,h2]
  unfold U4
  rw[key 0 (by omega),key 1 (by omega),key 2 (by omega),key 3 (by omega)];rfl
 let pb:Int->Nat->Bool:=λb x=>decide (low<=x/\(x:Int)<b)
 refine⟨λb zs=>(if low>0 then low else 0)<=b/\(b=(if low>0 then low else 0)\/b<=(if high<255 then high else 255)+1)/\zs=U4 (pb b),λb _=>(256-b).toNat,⟨Int.le_refl _,.inl rfl,(hz _ λx _=>?_).symm⟩,λb zs ⟨h0,h1,h2⟩=>⟨λhlt=>?_,λhge=>?_⟩⟩
 ·simp only[pb,decide_eq_false_iff_not];split<;>omega
 ·subst h2
  have hb0:0<=b:=by split at h0<;>omega
  have hb1:b<=255:=by split at hlt<;>omega
  have hb2:low<=b:=by split at h0<;>omega
  obtain⟨n,rfl⟩:=Int.eq_ofNat_of_zero_le hb0
  have hn:n<256:=by omega
  obtain⟨e1,e2⟩:=i64_shift n hn
  rw[e1,e2]
  have hidx:0+(((n / 64:Nat):Int)).toNat*1=n / 64:=by omega
  rw[hidx]
  have hw4:n / 64<4:=by omega
  refine⟨by omega,by omega,_,U4_get _ hw4,by omega,by omega,by omega,by show n / 64<4;exact hw4,by unfold InI;omega,⟨?_,?_,?_⟩,by dsimp only;omega⟩
  ·split at h0<;>(split<;>omega)
  ·right;split at hlt<;>(split<;>omega)
  ·rw[bShlU _ (by omega),bOrU _ _ (Uw_lt _ _ _) (Nat.pow_lt_pow_right (by decide) (by omega))]
   have hword:(Uw (pb (n:Int)) (n / 64) 64|||2 ^ (n % 64))=Uw (pb ((n:Int)+1)) (n / 64) 64:=by
    refine word_is _ _ (Nat.or_lt_two_pow (Uw_lt _ _ _) (Nat.pow_lt_pow_right (by decide) (by omega))) λk hk=>?_
    rw[Nat.testBit_or,Uw_bit,Nat.testBit_two_pow]
    simp only[pb,hk,decide_true,Bool.true_and]
    rw[Bool.eq_iff_iff]
    simp only[Bool.or_eq_true,decide_eq_true_eq]
    omega
   rw[hword]
   exact U4_set hw4 λx hx hne=>by simp only[pb];rw[decide_eq_decide];omega
 ·subst h2
  refine⟨_,_,_,_,rfl,rfl,_,_,_,_,rfl,?_⟩
  have:Us (pb b)=Us (inR low high):=Us_congr λx hx=>by
   simp only[pb,inR];rw[decide_eq_decide]
   split at h0<;>split at h1<;>omega
  rw[<-this]at hK;exact hK
end Go.Proofs.Ytmnilbfhfjdelaa.core

namespace Go.Proofs.Ytmnilbfhfjdelaa.core
open Go.Gx Go.RowKit Go.ChangeShapes Go.WideShapes Go.ChangeAt
set_option linter.unusedVariables false
def strE (f:Int->Int) (q:Bool):Nat->Int->Bool->Int
 |0,p,_=>p
 |m+1,p,fi=>if f p= -2\/(f p<0/\fi=true/\q=true) then f p else if f p<0 then p else strE f q m (f p) false
def oneE (k p r:Int):Int:=if r= -2 then -2 else if k=9/\0<=r then r else if (k=10/\r<0)\/(k=11/\0<=r) then -1 else p
def setE (t:X_api_Set) (s:List UInt8) (p:Int):Int:=match s[p.toNat]? with
 |some c=>if bitS t c.toNat then p+1 else -1
 |none=> -1
def litE (x s:List UInt8) (p:Int):Int:=if p+(x.length:Nat)<=(s.length:Nat)/\(s.take (p+(x.length:Nat)).toNat).drop p.toNat=x then p+(x.length:Nat) else -1
mutual
def endE (rs:List Ru) (s:List UInt8) (E:Nat->Nat->Int):Ex->Int->Int
 | .mk k t x ks,p=>if k=1 then p else if k=2 then setE t s p else if k=3 then litE x s p else if k=4 then E p.toNat (findR x rs 0).toNat
  else if k=5 then seqE rs s E ks p else if k=6 then altE rs s E ks p else if k=7\/k=8 then strE (hdE rs s E ks) (decide (k=8)) (s.length+2) p true
  else oneE k p (hdE rs s E ks p)
def seqE (rs:List Ru) (s:List UInt8) (E:Nat->Nat->Int):List Ex->Int->Int
 |[],p=>p
 |k::ks,p=>if endE rs s E k p<0 then endE rs s E k p else seqE rs s E ks (endE rs s E k p)
def altE (rs:List Ru) (s:List UInt8) (E:Nat->Nat->Int):List Ex->Int->Int
 |[],_=> -1
 |k::ks,p=>if endE rs s E k p≠-1 then endE rs s E k p else altE rs s E ks p
def hdE (rs:List Ru) (s:List UInt8) (E:Nat->Nat->Int):List Ex->Int->Int
 |[],_=> -1
 |k::_,p=>endE rs s E k p
end
theorem endE_eq (rs:List Ru) (s:List UInt8) (E:Nat->Nat->Int) (e:Ex) (p:Int):endE rs s E e p=if e.kind=1 then p else if e.kind=2 then setE e.set s p else if e.kind=3 then litE e.text s p else if e.kind=4 then E p.toNat (findR e.text rs 0).toNat
  else if e.kind=5 then seqE rs s E e.kids p else if e.kind=6 then altE rs s E e.kids p else if e.kind=7\/e.kind=8 then strE (hdE rs s E e.kids) (decide (e.kind=8)) (s.length+2) p true
  else oneE e.kind p (hdE rs s E e.kids p):=by
 cases e;rw[endE];rfl
def Val (n:Nat) (f:Fa) (p r:Int):Prop:=r= -2\/(r= -1/\f.Fails=true)\/(r=p/\f.Empty=true)\/(p<r/\r<=n/\f.Eats=true)
theorem Val.pos {n:Nat} {f:Fa} {p r:Int} (h:Val n f p r) (hp:0<=p) (hn:p<=n):r= -2\/r= -1\/(p<=r/\r<=n):=by
 rcases h with h|h|h|h<;>omega
structure TabOk (rs:List Ru) (n:Nat) (E:Nat->Nat->Int):Prop where
 val:∀(p i:Nat) f,p<=n->(knOf rs)[i]?=some f->Val n f p (E p i)
theorem then_val {n:Nat} {a b:Fa} {p q r:Int} (hp:0<=p) (h1:Val n a p q) (hq:0<=q) (h2:Val n b q r):Val n (faThen a b) p r:=by
 unfold Val at*
 simp only[faThen,Bool.or_eq_true,Bool.and_eq_true]
 rcases h1 with h1|⟨h1,_⟩|⟨h1,e1⟩|⟨h1,h1',e1⟩
 ·omega
 ·omega
 ·rcases h2 with h2|⟨h2,e2⟩|⟨h2,e2⟩|⟨h2,h2',e2⟩
  ·exact .inl h2
  ·exact .inr (.inl ⟨h2,.inr ⟨.inl e1,e2⟩⟩)
  ·exact .inr (.inr (.inl ⟨by omega,e1,e2⟩))
  ·exact .inr (.inr (.inr ⟨by omega,h2',.inr ⟨e1,e2⟩⟩))
 ·rcases h2 with h2|⟨h2,e2⟩|⟨h2,e2⟩|⟨h2,h2',e2⟩
  ·exact .inl h2
  ·exact .inr (.inl ⟨h2,.inr ⟨.inr e1,e2⟩⟩)
  ·exact .inr (.inr (.inr ⟨by omega,by omega,.inl ⟨e1,.inl e2⟩⟩))
  ·exact .inr (.inr (.inr ⟨by omega,h2',.inl ⟨e1,.inr e2⟩⟩))
theorem then_neg {n:Nat} {a b:Fa} {p q:Int} (hp:0<=p) (h1:Val n a p q) (hq:q<0):Val n (faThen a b) p q:=by
 unfold Val at*
 simp only[faThen,Bool.or_eq_true,Bool.and_eq_true]
 rcases h1 with h1|⟨h1,e1⟩|⟨h1,_⟩|⟨h1,_,_⟩
 ·exact .inl h1
 ·exact .inr (.inl ⟨h1,.inl e1⟩)
 ·omega
 ·omega
theorem or_left {n:Nat} {a b:Fa} {p q:Int} (h1:Val n a p q) (hq:q≠-1):Val n (faOr a b) p q:=by
 unfold Val at*
 simp only[faOr,Bool.or_eq_true,Bool.and_eq_true]
 rcases h1 with h1|⟨h1,_⟩|⟨h1,e1⟩|⟨h1,h2,e1⟩
 ·exact .inl h1
 ·exact absurd h1 hq
 ·exact .inr (.inr (.inl ⟨h1,.inl e1⟩))
 ·exact .inr (.inr (.inr ⟨h1,h2,.inl e1⟩))
theorem or_right {n:Nat} {a b:Fa} {p r:Int} (hp:0<=p) (h1:Val n a p (-1)) (h2:Val n b p r):Val n (faOr a b) p r:=by
 unfold Val at*
 simp only[faOr,Bool.or_eq_true,Bool.and_eq_true]
 have e1:a.Fails=true:=by
  rcases h1 with h1|⟨_,e1⟩|⟨h1,_⟩|⟨h1,_,_⟩
  ·omega
  ·exact e1
  ·omega
  ·omega
 rcases h2 with h2|⟨h2,e2⟩|⟨h2,e2⟩|⟨h2,h2',e2⟩
 ·exact .inl h2
 ·exact .inr (.inl ⟨h2,e1,e2⟩)
 ·exact .inr (.inr (.inl ⟨h2,.inr ⟨e1,e2⟩⟩))
 ·exact .inr (.inr (.inr ⟨h2,h2',.inr ⟨e1,e2⟩⟩))
theorem star_val {n:Nat} {a:Fa} {f:Int->Int} {b:Bool} (he:a.Empty=false) (hf:∀p:Int,0<=p->p<=n->Val n a p (f p)):∀(m:Nat) (p q:Int),0<=p->p<=q->q<=n->n+1<=q+m->(p<q->a.Eats=true)->Val n (faStar a) p (strE f b m q false)
 |0,p,q,hp,hpq,hq,hm,_=>by omega
 |m+1,p,q,hp,hpq,hq,hm,hE=>by
  have hv:=hf q (by omega) hq
  rw[strE]
  have key:f q= -1->Val n (faStar a) p q:=λh1=>by
   have e1:a.Fails=true:=by
    rcases hv with h|⟨_,e⟩|⟨h,_⟩|⟨h,_,_⟩
    ·omega
    ·exact e
    ·omega
    ·omega
   by_cases hlt:p<q
   ·exact .inr (.inr (.inr ⟨hlt,hq,hE hlt⟩))
   ·exact .inr (.inr (.inl ⟨by omega,e1⟩))
  split
  ·rename_i h
   rcases h with h|⟨_,h,_⟩
   ·exact .inl h
   ·cases h
  ·rename_i h
   split
   ·exact key (by rcases hv with h'|⟨h',_⟩|⟨h',_⟩|⟨h',_,_⟩<;>omega)
   ·have hgt:q<f q/\f q<=n/\a.Eats=true:=by
     rcases hv with h'|⟨h',_⟩|⟨h',e'⟩|h'
     ·omega
     ·omega
     ·rw[he]at e';cases e'
     ·exact h'
    exact star_val he hf m p (f q) hp (by omega) hgt.2.1 (by omega) (λ_=>hgt.2.2)
theorem star_first {n:Nat} {a:Fa} {f:Int->Int} (he:a.Empty=false) (hf:∀p:Int,0<=p->p<=n->Val n a p (f p)) {m:Nat} {p:Int} (hp:0<=p) (hn:p<=n) (hm:n+2<=m):Val n (faStar a) p (strE f false m p true):=by
 have:=star_val (b:=false) he hf m p p hp (Int.le_refl _) hn (by omega) (λh=>absurd h (by omega))
 cases m with
 |zero=>omega
 |succ m=>rw[strE]at this ⊢;simpa using this
theorem plus_first {n:Nat} {a:Fa} {f:Int->Int} (he:a.Empty=false) (hf:∀p:Int,0<=p->p<=n->Val n a p (f p)) {m:Nat} {p:Int} (hp:0<=p) (hn:p<=n) (hm:n+2<=m):Val n (faThen a (faStar a)) p (strE f true m p true):=by
 cases m with
 |zero=>omega
 |succ m=>
  have hv:=hf p hp hn
  rw[strE]
  by_cases h0:f p<0
  ·rw[if_pos (.inr ⟨h0,rfl,rfl⟩)]
   exact then_neg hp hv h0
  ·rw[if_neg (by rintro(h|⟨h,_⟩)<;>omega),if_neg h0]
   have hge:p<=f p/\f p<=n:=by rcases hv.pos hp hn with h|h|h<;>omega
   exact then_val hp hv (by omega) (star_val he hf m (f p) (f p) (by omega) (Int.le_refl _) hge.2 (by omega) (λh=>absurd h (by omega)))
theorem one_val {n:Nat} {a:Fa} {k p r:Int} (hk:k=9\/k=10\/k=11) (hp:0<=p) (hv:Val n a p r):Val n (if k=9 then faOr a ⟨true,false,false⟩ else if k=10 then faAnd a else faNot a) p (oneE k p r):=by
 unfold oneE
 unfold Val at*
 by_cases h2:r= -2
 ·rw[if_pos h2];exact .inl rfl
 rw[if_neg h2]
 rcases hv with h|⟨h,e⟩|⟨h,e⟩|⟨h,h',e⟩
 ·exact absurd h h2
 all_goals
  rcases hk with rfl|rfl|rfl
  all_goals simp only[faOr,faAnd,faNot,e]
 all_goals first|(split<;>simp_all<;>omega)|skip
theorem zs_false {t:X_api_Set} {c:Nat} (hc:c<256) (h:bitS t c=true):zs t=false:=by
 by_cases hz:zs t=true
 ·exfalso
  unfold zs at hz
  have:t=⟨0,0,0,0⟩:=by
   obtain⟨a,b,d,e⟩:=t
   simp only[cellsEq,beq_iff_eq]at hz
   obtain⟨rfl,rfl,rfl,rfl⟩:=hz
   rfl
  subst this
  have h0:(⟨0,0,0,0⟩:X_api_Set)=Us λ_=>false:=rfl
  rw[h0,bit_Us hc]at h;cases h
 ·simpa using hz
theorem set_val {t:X_api_Set} {s:List UInt8} {p:Int} (hp:0<=p):Val s.length ⟨false,!zs t,true⟩ p (setE t s p):=by
 unfold setE
 split
 ·rename_i c hc
  have hlt:=(List.getElem?_eq_some_iff.1 hc).1
  split
  ·rename_i hb
   exact .inr (.inr (.inr ⟨by omega,by omega,by rw[zs_false c.toNat_lt hb];rfl⟩))
  ·exact .inr (.inl ⟨rfl,rfl⟩)
 ·exact .inr (.inl ⟨rfl,rfl⟩)
theorem lit_val {x s:List UInt8} {p:Int} (hx:x≠[]) (hp:0<=p):Val s.length ⟨false,true,true⟩ p (litE x s p):=by
 unfold litE
 have:0<x.length:=List.length_pos_iff.2 hx
 split
 ·exact .inr (.inr (.inr ⟨by omega,by omega,rfl⟩))
 ·exact .inr (.inl ⟨rfl,rfl⟩)
structure PegOk (rs:List Ru) (e:Ex):Prop where
 good:GoodE rs e
 loop:loopB rs (knOf rs) e=false
theorem PegOk.kid {rs:List Ru} {e k:Ex} (h:PegOk rs e) (hk:k∈e.kids):PegOk rs k:=by
 refine⟨h.good.kid k hk,?_⟩
 have:=h.loop
 rw[loopB_eq,Bool.or_eq_false_iff,List.any_eq_false]at this
 simpa using this.2 k hk
theorem PegOk.star {rs:List Ru} {e k:Ex} (h:PegOk rs e) (hk:e.kids=[k]) (h7:e.kind=7\/e.kind=8):(ofE rs (knOf rs) k).Empty=false:=by
 have:=h.loop
 rw[loopB_eq,Bool.or_eq_false_iff]at this
 have:=this.1
 unfold ndB at this
 rw[decide_eq_true h7,hk]at this
 simpa[hdF]using this
theorem seq_val {rs:List Ru} {s:List UInt8} {E:Nat->Nat->Int}:∀(ks:List Ex),ks≠[]->(∀k∈ks,∀p:Int,0<=p->p<=s.length->Val s.length (ofE rs (knOf rs) k) p (endE rs s E k p))->∀p:Int,0<=p->p<=s.length->Val s.length (thenR (ks.map (ofE rs (knOf rs)))) p (seqE rs s E ks p)
 |[],h,_,_,_,_=>absurd rfl h
 |[k],_,hk,p,hp,hn=>by
  have:=hk k (by simp) p hp hn
  rw[seqE]
  split
  ·exact this
  ·rw[seqE];exact this
 |k::k2::r,_,hk,p,hp,hn=>by
  have hv:=hk k (by simp) p hp hn
  rw[seqE]
  show Val _ (faThen (ofE rs (knOf rs) k) (thenR ((k2::r).map (ofE rs (knOf rs))))) _ _
  split
  ·rename_i h0;exact then_neg hp hv h0
  ·rename_i h0
   have hge:p<=endE rs s E k p/\endE rs s E k p<=s.length:=by rcases hv.pos hp hn with h|h|h<;>omega
   exact then_val hp hv (by omega) (seq_val (k2::r) (by simp) (λk' hk'=>hk k' (by simp[hk'])) _ (by omega) hge.2)
theorem alt_val {rs:List Ru} {s:List UInt8} {E:Nat->Nat->Int} {p:Int} (hp:0<=p):∀(ks:List Ex),ks≠[]->(∀k∈ks,Val s.length (ofE rs (knOf rs) k) p (endE rs s E k p))->Val s.length (orL (ks.map (ofE rs (knOf rs)))) p (altE rs s E ks p)
 |[],h,_=>absurd rfl h
 |[k],_,hk=>by
  have:=hk k (by simp)
  rw[altE]
  split
  ·exact this
  ·rename_i h;rw[altE];rw[Decidable.not_not.1 h]at this;exact this
 |k::k2::r,_,hk=>by
  have hv:=hk k (by simp)
  rw[altE]
  show Val _ (faOr (ofE rs (knOf rs) k) (orL ((k2::r).map (ofE rs (knOf rs))))) _ _
  split
  ·rename_i h0;exact or_left hv h0
  ·rename_i h0
   rw[Decidable.not_not.1 h0]at hv
   exact or_right hp hv (alt_val hp (k2::r) (by simp) λk' hk'=>hk k' (by simp[hk']))
theorem end_val {rs:List Ru} {s:List UInt8} {E:Nat->Nat->Int} (hT:TabOk rs s.length E):∀(n:Nat) (e:Ex),SizeOf.sizeOf e<n->PegOk rs e->∀p:Int,0<=p->p<=s.length->Val s.length (ofE rs (knOf rs) e) p (endE rs s E e p):=by
 intro n
 induction n with
 |zero=>intro e h;omega
 |succ n ih=>
  intro e hn hok p hp hl
  obtain⟨g1,g2,g3,g4,g5,g6,g7,g8⟩:=fitE_kinds hok.good.fit
  have hkid:∀k∈e.kids,∀p:Int,0<=p->p<=s.length->Val s.length (ofE rs (knOf rs) k) p (endE rs s E k p):=λk hk=>ih k (by have:=Ex.kid_lt hk;omega) (hok.kid hk)
  rw[endE_eq,ofE_eq,opF]
  by_cases h1:e.kind=1
  ·rw[if_pos h1,if_pos h1];exact .inr (.inr (.inl ⟨rfl,rfl⟩))
  rw[if_neg h1,if_neg h1]
  by_cases h2:e.kind=2
  ·rw[if_pos h2,if_pos h2];exact set_val hp
  rw[if_neg h2,if_neg h2]
  by_cases h3:e.kind=3
  ·rw[if_pos h3,if_pos h3];exact lit_val (g6 h3).1 hp
  rw[if_neg h3,if_neg h3]
  by_cases h4:e.kind=4
  ·rw[if_pos h4,if_pos h4]
   obtain⟨hlt,hlt'⟩:=findR_lt (hok.good.ref h4)
   obtain⟨f,hf⟩:=getN (l:=knOf rs) (i:=(findR e.text rs 0).toNat) (by rw[knOf_len];omega)
   have:=hT.val p.toNat _ f (by omega) hf
   unfold refF
   rw[hf,Option.getD_some]
   rw[show((p.toNat:Nat):Int)=p by omega]at this
   exact this
  rw[if_neg h4,if_neg h4]
  by_cases h5:e.kind=5
  ·rw[if_pos h5,if_pos h5,thenL_R]
   exact seq_val e.kids (by intro h;have:=(g4 (.inl h5)).1;rw[h]at this;simp at this) hkid p hp hl
  rw[if_neg h5,if_neg h5]
  by_cases h6:e.kind=6
  ·rw[if_pos h6,if_pos h6]
   exact alt_val hp e.kids (by intro h;have:=(g4 (.inr h6)).1;rw[h]at this;simp at this) λk hk=>hkid k hk p hp hl
  rw[if_neg h6,if_neg h6]
  obtain⟨k,hk⟩:=List.length_eq_one_iff.1 (g5 (by omega))
  have hkv:=hkid k (by rw[hk];simp)
  have hhd:hdE rs s E e.kids=endE rs s E k:=by rw[hk];funext q;rw[hdE]
  have hdf:hdF (e.kids.map (ofE rs (knOf rs)))=ofE rs (knOf rs) k:=by rw[hk];rfl
  rw[hhd,hdf]
  by_cases h7:e.kind=7
  ·rw[if_pos h7,if_pos (.inl h7),show decide (e.kind=8)=false by rw[h7];rfl]
   exact star_first (hok.star hk (.inl h7)) hkv hp hl (Nat.le_refl _)
  rw[if_neg h7]
  by_cases h8:e.kind=8
  ·rw[if_pos h8,if_pos (.inr h8),show decide (e.kind=8)=true by rw[h8];rfl]
   exact plus_first (hok.star hk (.inr h8)) hkv hp hl (Nat.le_refl _)
  rw[if_neg h8,if_neg (show ¬(e.kind=7\/e.kind=8) by omega)]
  exact one_val (k:=e.kind) (by omega) hp (hkv p hp hl)
end Go.Proofs.Ytmnilbfhfjdelaa.core

namespace Go.Proofs.Ytmnilbfhfjdelaa.core
open Go.Gx Go.RowKit Go.ChangeShapes Go.WideShapes Go.ChangeAt
set_option linter.unusedVariables false
def TabLe (E E':Nat->Nat->Int):Prop:=∀p i,E p i= -2\/E' p i=E p i
theorem strE_mono {f g:Int->Int} (h:∀p,f p≠-2->g p=f p) {q:Bool}:∀(m:Nat) (p:Int) (fi:Bool),strE f q m p fi≠-2->strE g q m p fi=strE f q m p fi
 |0,_,_,_=>rfl
 |m+1,p,fi,hne=>by
  rw[strE]at hne
  by_cases h2:f p= -2
  ·rw[if_pos (.inl h2)]at hne;exact absurd h2 hne
  ·rw[strE,strE,h p h2]
   split
   ·rfl
   ·rename_i h1
    rw[if_neg h1]at hne
    split
    ·rfl
    ·rename_i h3
     rw[if_neg h3]at hne
     exact strE_mono h m _ _ hne
mutual
theorem end_mono {rs:List Ru} {s:List UInt8} {E E':Nat->Nat->Int} (h:TabLe E E'):∀(e:Ex) (p:Int),endE rs s E e p≠-2->endE rs s E' e p=endE rs s E e p
 | .mk k t x ks,p=>by
  rw[endE,endE]
  intro hne
  by_cases h1:k=1
  ·rw[if_pos h1,if_pos h1]
  rw[if_neg h1]at hne
  rw[if_neg h1,if_neg h1]
  by_cases h2:k=2
  ·rw[if_pos h2,if_pos h2]
  rw[if_neg h2]at hne
  rw[if_neg h2,if_neg h2]
  by_cases h3:k=3
  ·rw[if_pos h3,if_pos h3]
  rw[if_neg h3]at hne
  rw[if_neg h3,if_neg h3]
  by_cases h4:k=4
  ·rw[if_pos h4]at hne
   rw[if_pos h4,if_pos h4]
   rcases h p.toNat (findR x rs 0).toNat with h'|h'
   ·exact absurd h' hne
   ·exact h'
  rw[if_neg h4]at hne
  rw[if_neg h4,if_neg h4]
  by_cases h5:k=5
  ·rw[if_pos h5]at hne
   rw[if_pos h5,if_pos h5];exact seq_mono h ks p hne
  rw[if_neg h5]at hne
  rw[if_neg h5,if_neg h5]
  by_cases h6:k=6
  ·rw[if_pos h6]at hne
   rw[if_pos h6,if_pos h6];exact alt_mono h ks p hne
  rw[if_neg h6]at hne
  rw[if_neg h6,if_neg h6]
  by_cases h7:k=7\/k=8
  ·rw[if_pos h7]at hne
   rw[if_pos h7,if_pos h7];exact strE_mono (λq hq=>hd_mono h ks q hq) _ _ _ hne
  rw[if_neg h7]at hne
  rw[if_neg h7,if_neg h7]
  by_cases h8:hdE rs s E ks p= -2
  ·rw[h8]at hne;exact absurd (by simp[oneE]) hne
  ·rw[hd_mono h ks p h8]
theorem seq_mono {rs:List Ru} {s:List UInt8} {E E':Nat->Nat->Int} (h:TabLe E E'):∀(ks:List Ex) (p:Int),seqE rs s E ks p≠-2->seqE rs s E' ks p=seqE rs s E ks p
 |[],_,_=>rfl
 |k::ks,p,hne=>by
  rw[seqE]at hne
  have hk:endE rs s E k p≠-2:=λe=>by rw[e]at hne;exact hne (by simp)
  rw[seqE,seqE,end_mono h k p hk]
  split
  ·rfl
  ·rename_i h1
   rw[if_neg h1]at hne
   exact seq_mono h ks _ hne
theorem alt_mono {rs:List Ru} {s:List UInt8} {E E':Nat->Nat->Int} (h:TabLe E E'):∀(ks:List Ex) (p:Int),altE rs s E ks p≠-2->altE rs s E' ks p=altE rs s E ks p
 |[],_,_=>rfl
 |k::ks,p,hne=>by
  rw[altE]at hne
  have hk:endE rs s E k p≠-2:=λe=>by rw[e]at hne;exact hne (by simp)
  rw[altE,altE,end_mono h k p hk]
  split
  ·rfl
  ·rename_i h1
   rw[if_neg h1]at hne
   exact alt_mono h ks _ hne
theorem hd_mono {rs:List Ru} {s:List UInt8} {E E':Nat->Nat->Int} (h:TabLe E E'):∀(ks:List Ex) (p:Int),hdE rs s E ks p≠-2->hdE rs s E' ks p=hdE rs s E ks p
 |[],_,_=>by rw[hdE,hdE]
 |k::ks,p,hne=>by
  rw[hdE]at hne
  rw[hdE,hdE];exact end_mono h k p hne
end
def Behind (rs:List Ru) (n:Nat) (E:Nat->Nat->Int) (p:Int):Prop:=∀q:Nat,p<q->q<=n->∀i,i<rs.length->E q i≠-2
theorem Behind.more {rs:List Ru} {n:Nat} {E:Nat->Nat->Int} {p q:Int} (h:Behind rs n E p) (hq:p<=q):Behind rs n E q:=λx hx=>h x (by omega)
theorem str_known {n:Nat} {a:Fa} {f:Int->Int} {b:Bool} (he:a.Empty=false):∀(m:Nat) (p:Int) (fi:Bool),0<=p->p<=n->n+1<=p+m->(∀q:Int,p<=q->q<=n->Val n a q (f q)/\f q≠-2)->strE f b m p fi≠-2
 |0,p,fi,hp,hn,hm,_=>by omega
 |m+1,p,fi,hp,hn,hm,h=>by
  obtain⟨hv,h2⟩:=h p (Int.le_refl _) hn
  rw[strE]
  split
  ·exact h2
  ·split
   ·omega
   ·have hgt:p<f p/\f p<=n:=by
     rcases hv with h'|⟨h',_⟩|⟨_,e'⟩|h'
     ·omega
     ·omega
     ·rw[he]at e';cases e'
     ·exact⟨h'.1,h'.2.1⟩
    exact str_known he m (f p) false (by omega) hgt.2 (by omega) λq hq hqn=>h q (by omega) hqn
theorem end_known {rs:List Ru} {s:List UInt8} {E:Nat->Nat->Int} (hT:TabOk rs s.length E):∀(n:Nat) (e:Ex),SizeOf.sizeOf e<n->PegOk rs e->∀p:Int,0<=p->p<=s.length->Behind rs s.length E p->(∀j∈needsE rs (knOf rs) e,E p.toNat j≠-2)->endE rs s E e p≠-2:=by
 intro n
 induction n with
 |zero=>intro e h;omega
 |succ n ih=>
  intro e hn hok p hp hl hB hN
  obtain⟨g1,g2,g3,g4,g5,g6,g7,g8⟩:=fitE_kinds hok.good.fit
  have hval:∀k∈e.kids,∀p:Int,0<=p->p<=s.length->Val s.length (ofE rs (knOf rs) k) p (endE rs s E k p):=λk hk=>end_val hT _ k (Nat.lt_succ_self _) (hok.kid hk)
  have hlater:∀k∈e.kids,∀q:Int,p<q->q<=s.length->endE rs s E k q≠-2:=λk hk q hq hql=>ih k (by have:=Ex.kid_lt hk;omega) (hok.kid hk) q (by omega) hql (hB.more (by omega)) λj hj=>hB q.toNat (by omega) (by omega) j (needsE_lt _ _ (hok.kid hk).good j hj)
  have hnow:∀k∈e.kids,(∀j∈needsE rs (knOf rs) k,E p.toNat j≠-2)->endE rs s E k p≠-2:=λk hk hj=>ih k (by have:=Ex.kid_lt hk;omega) (hok.kid hk) p hp hl hB hj
  rw[needsE_eq]at hN
  rw[endE_eq]
  by_cases h1:e.kind=1
  ·rw[if_pos h1];omega
  rw[if_neg h1]
  by_cases h2:e.kind=2
  ·rw[if_pos h2]
   have:=set_val (t:=e.set) (s:=s) hp
   rcases this.pos hp hl with h|h|h
   ·unfold setE at h;split at h<;>(try split at h)<;>omega
   ·omega
   ·omega
  rw[if_neg h2]
  by_cases h3:e.kind=3
  ·rw[if_pos h3];unfold litE;split<;>omega
  rw[if_neg h3]
  by_cases h4:e.kind=4
  ·rw[if_pos h4]
   rw[if_pos h4]at hN
   exact hN _ (by simp)
  rw[if_neg h4]
  rw[if_neg h4]at hN
  by_cases h5:e.kind=5
  ·rw[if_pos h5]
   rw[if_pos h5]at hN
   have key:∀ks:List Ex,(∀k∈ks,k∈e.kids)->∀q:Int,p<=q->q<=s.length->(q=p->∀j∈needsQ rs (knOf rs) ks,E p.toNat j≠-2)->seqE rs s E ks q≠-2:=by
    intro ks
    induction ks with
    |nil=>intro _ q hq _ _;rw[seqE];omega
    |cons k ks ihk=>
     intro hm q hq hql hj
     rw[seqE]
     have hkm:=hm k (by simp)
     have hne:endE rs s E k q≠-2:=by
      by_cases hqp:q=p
      ·subst hqp
       exact hnow k hkm λj hjk=>hj rfl j (by rw[needsQ];exact List.mem_append_left _ hjk)
      ·exact hlater k hkm q (by omega) hql
     have hv:=hval k hkm q (by omega) hql
     split
     ·exact hne
     ·rename_i h0
      have hge:q<=endE rs s E k q/\endE rs s E k q<=s.length:=by rcases hv.pos (by omega) hql with h|h|h<;>omega
      refine ihk (λk' hk'=>hm k' (by simp[hk'])) _ (by omega) hge.2 λhep j hjk=>?_
      have hqp:q=p:=by omega
      subst hqp
      have hem:(ofE rs (knOf rs) k).Empty=true:=by
       rcases hv with h|⟨h,_⟩|⟨_,h⟩|⟨h,_,_⟩
       ·omega
       ·omega
       ·exact h
       ·omega
      exact hj rfl j (by rw[needsQ,if_pos hem];exact List.mem_append_right _ hjk)
   exact key e.kids (λ_ h=>h) p (Int.le_refl _) hl λ_=>hN
  rw[if_neg h5]
  rw[if_neg h5]at hN
  by_cases h6:e.kind=6
  ·rw[if_pos h6]
   have key:∀ks:List Ex,(∀k∈ks,k∈e.kids)->(∀j∈needsA rs (knOf rs) ks,E p.toNat j≠-2)->altE rs s E ks p≠-2:=by
    intro ks
    induction ks with
    |nil=>intro _ _;rw[altE];omega
    |cons k ks ihk=>
     intro hm hj
     rw[altE]
     split
     ·exact hnow k (hm k (by simp)) λj hjk=>hj j (by rw[needsA];exact List.mem_append_left _ hjk)
     ·exact ihk (λk' hk'=>hm k' (by simp[hk'])) λj hjk=>hj j (by rw[needsA];exact List.mem_append_right _ hjk)
   exact key e.kids (λ_ h=>h) hN
  rw[if_neg h6]
  obtain⟨k,hk⟩:=List.length_eq_one_iff.1 (g5 (by omega))
  have hkm:k∈e.kids:=by rw[hk];simp
  have hhd:hdE rs s E e.kids=endE rs s E k:=by rw[hk];funext q;rw[hdE]
  have hk1:endE rs s E k p≠-2:=hnow k hkm λj hjk=>hN j (by rw[hk,needsA];exact List.mem_append_left _ hjk)
  rw[hhd]
  by_cases h7:e.kind=7\/e.kind=8
  ·rw[if_pos h7]
   refine str_known (hok.star hk h7) _ p true hp hl (by omega) λq hq hql=>⟨hval k hkm q (by omega) hql,?_⟩
   by_cases hqp:q=p
   ·subst hqp;exact hk1
   ·exact hlater k hkm q (by omega) hql
  ·rw[if_neg h7]
   unfold oneE
   rw[if_neg hk1]
   split
   ·exact hk1
   ·split<;>omega
end Go.Proofs.Ytmnilbfhfjdelaa.core

namespace Go.Proofs.Ytmnilbfhfjdelaa.core
open Go.Gx Go.RowKit Go.ChangeShapes Go.WideShapes Go.ChangeAt
set_option linter.unusedVariables false
theorem least {P:Nat->Prop}:∀k,P k->∃m,m<=k/\P m/\∀j,j<m->¬P j:=by
 intro k
 induction k using Nat.strongRecOn with
 |_ k ih=>
  intro h
  by_cases hj:∃j,j<k/\P j
  ·obtain⟨j,hjk,hp⟩:=hj
   obtain⟨m,h1,h2⟩:=ih j hjk hp
   exact⟨m,by omega,h2⟩
  ·exact⟨k,Nat.le_refl _,h,λj hjk hp=>hj ⟨j,hjk,hp⟩⟩
structure WellOk (rs:List Ru):Prop where
 ok:GramOk rs
 loop:∀r∈rs,loopB rs (knOf rs) r.body=false
 wk:∀i,i<rs.length->wkB (wkOf rs) i=true
theorem fstB_none:∀(l:List Bool) (i:Int),0<=i->fstB l i= -1->∀b∈l,b=false
 |[],_,_,_,b,hb=>by cases hb
 |a::l,i,hi,h,b,hb=>by
  rw[fstB]at h
  split at h
  ·omega
  ·rename_i ha
   rcases List.mem_cons.1 hb with rfl|hb
   ·simpa using ha
   ·exact fstB_none l (i+1) (by omega) h b hb
theorem well_ok {rs:List Ru} (h:(wellP rs).2=0):WellOk rs:=by
 unfold wellP at h
 split at h
 ·exact absurd h (by assumption)
 ·rename_i h0
  split at h
  ·cases h
  ·rename_i h1
   split at h
   ·cases h
   ·rename_i h2
    refine⟨gram_ok (Decidable.not_not.1 h0),λr hr=>?_,λi hi=>?_⟩
    ·exact fstB_none _ 0 (by omega) (Decidable.not_not.1 h1) _ (List.mem_map.2 ⟨r,hr,rfl⟩)
    ·obtain⟨b,hb⟩:=getN (l:=wkOf rs) (i:=i) (by rw[(wkOf_lfp rs).len];exact hi)
     have:=fstB_none _ 0 (by omega) (Decidable.not_not.1 h2) _ (List.mem_map.2 ⟨b,List.mem_of_getElem? hb,rfl⟩)
     unfold wkB;rw[hb];simpa using this
theorem WellOk.peg {rs:List Ru} (h:WellOk rs) {r:Ru} (hr:r∈rs):PegOk rs r.body:=⟨h.ok.good r hr,h.loop r hr⟩
theorem WellOk.stage {rs:List Ru} (h:WellOk rs):∃st:Nat->Nat,(∀i,i<rs.length->1<=st i/\st i<=rs.length)/\∀(i:Nat) r,rs[i]?=some r->∀j∈needsE rs (knOf rs) r.body,st j<st i:=by
 let n:=rs.length
 let F:=Gof rs (knOf rs)
 let W:Nat->List Bool:=λk=>jacN (·||·) F k (List.replicate n false)
 have hWl:∀k,(W k).length=n:=λk=>by show(jacN _ _ _ _).length=n;rw[jacN_len];simp
 have hall:∀i,i<n->wkB (W n) i=true:=λi hi=>by
  have hN:W (n+1)=wkOf rs:=rfl
  rcases jacN_stab (F:=F) bLat (List.replicate n false) n with hs|hs
  ·have:W (n+1)=W n:=hs
   rw[<-this,hN];exact h.wk i hi
  ·have h0:=wS_all (wt:=bit) (m:=1) (List.replicate n false)
   rw[List.length_replicate]at h0
   have hz:wS bit 1 (W n)=0:=by show wS bit 1 (jacN _ F n _)=0;omega
   obtain⟨b,hb⟩:=getN (l:=W n) (i:=i) (by rw[hWl];exact hi)
   unfold wkB;rw[hb]
   cases b with
   |true=>rfl
   |false=>
    have:=wS_set bLat (le:=bLe) (b:=true) hb (λh=>(by cases h)) (by simp)
    omega
 have hex:∀i,∃m,i<n->(m<=n/\wkB (W m) i=true/\∀j,j<m->¬wkB (W j) i=true):=λi=>by
  by_cases hi:i<n
  ·obtain⟨m,hm⟩:=least (P:=λk=>wkB (W k) i=true) n (hall i hi)
   exact⟨m,λ_=>hm⟩
  ·exact⟨0,λh=>absurd h hi⟩
 refine⟨λi=>Classical.choose (hex i),λi hi=>?_,λi r hr j hj=>?_⟩
 ·obtain⟨h1,h2,h3⟩:=Classical.choose_spec (hex i) hi
  refine⟨?_,h1⟩
  rcases Nat.eq_zero_or_pos (Classical.choose (hex i))with h0|h0
  ·rw[h0]at h2
   have:wkB (List.replicate n false) i=true:=h2
   unfold wkB at this
   rw[List.getElem?_replicate,if_pos hi]at this
   cases this
  ·exact h0
 ·have hi:i<n:=(List.getElem?_eq_some_iff.1 hr).1
  have hjn:j<n:=needsE_lt _ _ (h.ok.good r (List.mem_of_getElem? hr)) j hj
  obtain⟨h1,h2,h3⟩:=Classical.choose_spec (hex i) hi
  obtain⟨k1,k2,k3⟩:=Classical.choose_spec (hex j) hjn
  show Classical.choose (hex j)<Classical.choose (hex i)
  generalize Classical.choose (hex i)=a at h1 h2 h3
  generalize Classical.choose (hex j)=b at k1 k2 k3
  cases a with
  |zero=>
   have:wkB (List.replicate n false) i=true:=h2
   unfold wkB at this
   rw[List.getElem?_replicate,if_pos hi]at this
   cases this
  |succ a=>
   have hno:=h3 a (by omega)
   obtain⟨c,hc⟩:=getN (l:=W a) (i:=i) (by rw[hWl];exact hi)
   have hcf:c=false:=by
    cases c with
    |false=>rfl
    |true=>exact absurd (by unfold wkB;rw[hc];rfl) hno
   subst hcf
   have:(W (a+1))[i]?=some (false||F (W a) i):=jac_get hc
   unfold wkB at h2
   rw[this]at h2
   have hF:F (W a) i=true:=by simpa using h2
   have hF':Gof rs (knOf rs) (W a) i=true:=hF
   unfold Gof at hF'
   simp only[hr]at hF'
   unfold soundB at hF'
   rw[List.all_eq_true]at hF'
   have hja:=hF' j hj
   rcases Nat.lt_or_ge b (a+1)with h'|h'
   ·exact h'
   ·exact absurd hja (k3 a (by omega))
end Go.Proofs.Ytmnilbfhfjdelaa.core

namespace Go.Proofs.Ytmnilbfhfjdelaa.core
open Go.Gx Go.RowKit Go.ChangeShapes Go.WideShapes Go.ChangeAt
set_option linter.unusedVariables false
structure Tab (rs:List Ru) (s:List UInt8) (E:Nat->Nat->Int):Prop where
 ok:TabOk rs s.length E
 known:∀p i:Nat,p<=s.length->i<rs.length->E p i≠-2
 fix:∀(p i:Nat) r,p<=s.length->rs[i]?=some r->E p i=endE rs s E r.body p
theorem Tab.knows {rs:List Ru} {s:List UInt8} {E:Nat->Nat->Int} (h:Tab rs s E) {e:Ex} (he:PegOk rs e) {p:Int} (hp:0<=p) (hl:p<=s.length):endE rs s E e p≠-2:=
 end_known h.ok _ e (Nat.lt_succ_self _) he p hp hl (λq _ hq i hi=>h.known q i hq hi) λj hj=>h.known _ j (by omega) (needsE_lt _ _ he.good j hj)
theorem Tab.res {rs:List Ru} {s:List UInt8} {E:Nat->Nat->Int} (h:Tab rs s E) {e:Ex} (he:PegOk rs e) {p:Int} (hp:0<=p) (hl:p<=s.length):endE rs s E e p= -1\/(p<=endE rs s E e p/\endE rs s E e p<=s.length):=by
 rcases(end_val h.ok _ e (Nat.lt_succ_self _) he p hp hl).pos hp hl with h'|h'
 ·exact absurd h' (h.knows he hp hl)
 ·exact h'
theorem Tab.empty {rs:List Ru} {s:List UInt8} {E:Nat->Nat->Int} (h:Tab rs s E) {e:Ex} (he:PegOk rs e) {p:Int} (hp:0<=p) (hl:p<=s.length) (hq:endE rs s E e p=p):(ofE rs (knOf rs) e).Empty=true:=by
 rcases end_val h.ok _ e (Nat.lt_succ_self _) he p hp hl with h'|⟨h',_⟩|⟨_,h'⟩|⟨h',_⟩
 ·omega
 ·omega
 ·exact h'
 ·omega
def Tries (rs:List Ru) (e k:Ex) (p q:Int):Prop:=k∈e.kids/\p<=q/\(q=p->∀j∈needsE rs (knOf rs) k,j∈needsE rs (knOf rs) e)
theorem peg_ind {rs:List Ru} (hw:WellOk rs) (n:Nat) (P:Ex->Int->Prop)
  (h:∀(e:Ex) (p:Int),PegOk rs e->0<=p->p<=n->(∀(k:Ex) (q:Int),Tries rs e k p q->q<=n->P k q)->(e.kind=4->∀r,rs[(findR e.text rs 0).toNat]?=some r->P r.body p)->P e p):
  ∀(e:Ex) (p:Int),PegOk rs e->0<=p->p<=n->P e p:=by
 obtain⟨st,hst,hord⟩:=hw.stage
 have h10:=hw.ok.ten
 have key:∀(a b c:Nat) (e:Ex) (p:Int),PegOk rs e->0<=p->p<=n->n-p.toNat<a->(∀j∈needsE rs (knOf rs) e,st j<b)->SizeOf.sizeOf e<c->P e p:=by
  intro a
  induction a with
  |zero=>intro b c e p _ _ _ h;omega
  |succ a iha=>
   intro b
   induction b with
   |zero=>
    intro c
    induction c with
    |zero=>intro e p _ _ _ _ _ h;omega
    |succ c ihc=>
     intro e p he hp hl ha hb hc
     refine h e p he hp hl (λk q ⟨hk,hq,hn⟩ hql=>?_) λh4 r hr=>?_
     ·by_cases hqp:q=p
      ·exact ihc k q (he.kid hk) (by omega) hql (by omega) (λj hj=>hb j (hn hqp j hj)) (by have:=Ex.kid_lt hk;omega)
      ·exact iha (rs.length+1) _ k q (he.kid hk) (by omega) hql (by omega) (λj hj=>by have:=(hst j (needsE_lt _ _ (he.kid hk).good j hj)).2;omega) (Nat.lt_succ_self _)
     ·have:=hb (findR e.text rs 0).toNat (by rw[needsE_eq,if_pos h4];simp)
      omega
   |succ b ihb=>
    intro c
    induction c with
    |zero=>intro e p _ _ _ _ _ h;omega
    |succ c ihc=>
     intro e p he hp hl ha hb hc
     refine h e p he hp hl (λk q ⟨hk,hq,hn⟩ hql=>?_) λh4 r hr=>?_
     ·by_cases hqp:q=p
      ·exact ihc k q (he.kid hk) (by omega) hql (by omega) (λj hj=>hb j (hn hqp j hj)) (by have:=Ex.kid_lt hk;omega)
      ·exact iha (rs.length+1) _ k q (he.kid hk) (by omega) hql (by omega) (λj hj=>by have:=(hst j (needsE_lt _ _ (he.kid hk).good j hj)).2;omega) (Nat.lt_succ_self _)
     ·have:=hb (findR e.text rs 0).toNat (by rw[needsE_eq,if_pos h4];simp)
      exact ihb _ r.body p (hw.peg (List.mem_of_getElem? hr)) hp hl ha (λj hj=>by have:=hord _ r hr j hj;omega) (Nat.lt_succ_self _)
 exact λe p he hp hl=>key (n+1) (rs.length+1) _ e p he hp hl (by omega) (λj hj=>by have:=(hst j (needsE_lt _ _ he.good j hj)).2;omega) (Nat.lt_succ_self _)
theorem seq_tries {rs:List Ru} {s:List UInt8} {E:Nat->Nat->Int} (hT:Tab rs s E) {e:Ex} (he:PegOk rs e) (h5:e.kind=5) {p:Int} (hp:0<=p) (hl:p<=s.length):∀(i:Nat) (q:Int) k,p<=q->q<=s.length->(q=p->∀j∈needsQ rs (knOf rs) (e.kids.drop i),j∈needsE rs (knOf rs) e)->e.kids[i]?=some k->
  Tries rs e k p q/\(0<=endE rs s E k q->p<=endE rs s E k q/\endE rs s E k q<=s.length/\(endE rs s E k q=p->∀j∈needsQ rs (knOf rs) (e.kids.drop (i+1)),j∈needsE rs (knOf rs) e)):=by
 intro i q k hq hql hn hk
 have hkm:=List.mem_of_getElem? hk
 rw[drop_get hk]at hn
 refine⟨⟨hkm,hq,λhqp j hj=>hn hqp j (by rw[needsQ];exact List.mem_append_left _ hj)⟩,λh0=>?_⟩
 rcases hT.res (he.kid hkm) (by omega) hql with h|⟨h1,h2⟩
 ·omega
 ·refine⟨by omega,h2,λhep j hj=>?_⟩
  have hqp:q=p:=by omega
  have hem:=hT.empty (he.kid hkm) (by omega) hql (by omega)
  exact hn hqp j (by rw[needsQ,if_pos hem];exact List.mem_append_right _ hj)
theorem needsA_kid {rs:List Ru} {kn:List Fa}:∀{ks:List Ex} {k:Ex},k∈ks->∀j∈needsE rs kn k,j∈needsA rs kn ks
 |a::ks,k,h,j,hj=>by
  rw[needsA]
  rcases List.mem_cons.1 h with rfl|h
  ·exact List.mem_append_left _ hj
  ·exact List.mem_append_right _ (needsA_kid h j hj)
theorem kid_tries {rs:List Ru} {e k:Ex} (hk:k∈e.kids) (h4:e.kind≠4) (h5:e.kind≠5) {p q:Int} (hq:p<=q):Tries rs e k p q:=
 ⟨hk,hq,λ_ j hj=>by rw[needsE_eq,if_neg h4,if_neg h5];exact needsA_kid hk j hj⟩
end Go.Proofs.Ytmnilbfhfjdelaa.core

namespace Go.Proofs.Ytmnilbfhfjdelaa.core
open Go.Gx Go.RowKit Go.ChangeShapes Go.WideShapes Go.ChangeAt
set_option linter.unusedVariables false
theorem u8wF (c:UInt8):IntKind.wrap .i64 (c.toNat:Int)=(c.toNat:Int):=by
 have:=c.toNat_lt
 exact wrap_in (by unfold InI;omega)
abbrev iC (z:Int):List Value:=[.int .i64 z]
theorem iC_len (z:Int):(iC z).length=1:=rfl
theorem inI_small {z:Int} (h1: -1000000<=z) (h2:z<=1000000):InI z:=by unfold InI;omega
end Go.Proofs.Ytmnilbfhfjdelaa.core

namespace Go.Proofs.Ytmnilbfhfjdelaa.core
open Go.Gx Go.RowKit Go.ChangeShapes Go.WideShapes Go.ChangeAt
set_option linter.unusedVariables false
def upd (E:Nat->Nat->Int) (p:Nat) (row:List Int):Nat->Nat->Int:=λq i=>if q=p then(row[i]?).getD (-2) else E q i
theorem upd_ne {E:Nat->Nat->Int} {p q:Nat} {row:List Int} {i:Nat} (h:q≠p):upd E p row q i=E q i:=by unfold upd;rw[if_neg h]
theorem upd_eq {E:Nat->Nat->Int} {p:Nat} {row:List Int} {i:Nat} {z:Int} (h:row[i]?=some z):upd E p row p i=z:=by unfold upd;rw[if_pos rfl,h];rfl
theorem Val.up {n:Nat} {f g:Fa} {p r:Int} (h:Val n f p r) (k:faLe f g):Val n g p r:=by
 obtain⟨k1,k2,k3⟩:=k
 rcases h with h|⟨h,e⟩|⟨h,e⟩|⟨h,h',e⟩
 ·exact .inl h
 ·exact .inr (.inl ⟨h,k3 e⟩)
 ·exact .inr (.inr (.inl ⟨h,k1 e⟩))
 ·exact .inr (.inr (.inr ⟨h,h',k2 e⟩))
structure EOk (rs:List Ru) (s:List UInt8) (E:Nat->Nat->Int) (p:Int):Prop where
 ok:TabOk rs s.length E
 un:∀q i:Nat,(q:Int)<=p->E q i= -2
 known:∀q i:Nat,p<q->q<=s.length->i<rs.length->E q i≠-2
 fix:∀(q i:Nat) r,p<q->q<=s.length->rs[i]?=some r->E q i=endE rs s E r.body q
theorem EOk.init (rs:List Ru) (s:List UInt8):EOk rs s (λ_ _=> -2) s.length:=
 ⟨⟨λ_ _ _ _ _=>.inl rfl⟩,λ_ _ _=>rfl,λq i h1 h2=>by omega,λq i r h1 h2=>by omega⟩
theorem EOk.tab {rs:List Ru} {s:List UInt8} {E:Nat->Nat->Int} {p:Int} (h:EOk rs s E p) (hp:p<0):Tab rs s E:=
 ⟨h.ok,λq i h1 h2=>h.known q i (by omega) h1 h2,λq i r h1 h2=>h.fix q i r (by omega) h1 h2⟩
structure RowOk (rs:List Ru) (s:List UInt8) (E:Nat->Nat->Int) (p:Nat) (row:List Int):Prop where
 len:row.length=rs.length
 ok:TabOk rs s.length (upd E p row)
 sound:∀(i:Nat) z r,row[i]?=some z->rs[i]?=some r->z= -2\/z=endE rs s (upd E p row) r.body p
theorem RowOk.init {rs:List Ru} {s:List UInt8} {E:Nat->Nat->Int} {p:Nat} (h:EOk rs s E p) {row:List Int} (hl:row.length=rs.length) (hr:∀(i:Nat) z,row[i]?=some z->z= -2):RowOk rs s E p row:=by
 refine⟨hl,⟨λq i f hq hf=>?_⟩,λi z r hz _=>.inl (hr i z hz)⟩
 by_cases hqp:q=p
 ·subst hqp
  unfold upd;rw[if_pos rfl]
  cases hz:row[i]? with
  |none=>exact .inl rfl
  |some z=>rw[hr i z hz];exact .inl rfl
 ·rw[upd_ne hqp];exact h.ok.val q i f hq hf
theorem RowOk.step {rs:List Ru} {s:List UInt8} {E:Nat->Nat->Int} {p:Nat} (hw:WellOk rs) (hp:p<=s.length) {row:List Int} (h:RowOk rs s E p row) {i:Nat} {r:Ru} (hi:row[i]?=some (-2)) (hr:rs[i]?=some r):
  RowOk rs s E p (row.set i (endE rs s (upd E p row) r.body p)):=by
 have hil:i<row.length:=(List.getElem?_eq_some_iff.1 hi).1
 generalize hz:endE rs s (upd E p row) r.body p=z
 have hle:TabLe (upd E p row) (upd E p (row.set i z)):=λq j=>by
  by_cases hqp:q=p
  ·subst hqp
   unfold upd
   rw[if_pos rfl,if_pos rfl,List.getElem?_set]
   by_cases hij:i=j
   ·subst hij;rw[hi];exact .inl rfl
   ·rw[if_neg hij];exact .inr rfl
  ·rw[upd_ne hqp,upd_ne hqp];exact .inr rfl
 have hpeg:=hw.peg (List.mem_of_getElem? hr)
 refine⟨by rw[List.length_set];exact h.len,⟨λq j f hq hf=>?_⟩,λj y r' hy hr'=>?_⟩
 ·by_cases hqp:q=p
  ·subst hqp
   unfold upd
   rw[if_pos rfl,List.getElem?_set]
   by_cases hij:i=j
   ·subst hij
    rw[if_pos rfl,if_pos hil,Option.getD_some]
    have hv:=end_val h.ok _ r.body (Nat.lt_succ_self _) hpeg q (by omega) (by omega)
    rw[hz]at hv
    refine hv.up ?_
    have:=(knOf_lfp rs).shut i f hf
    have hF:Fof rs (knOf rs) i=ofE rs (knOf rs) r.body:=by unfold Fof;simp only[hr]
    rw[hF]at this;exact this
   ·rw[if_neg hij]
    have:=h.ok.val q j f hq hf
    unfold upd at this
    rw[if_pos rfl]at this;exact this
  ·rw[upd_ne hqp]
   have:=h.ok.val q j f hq hf
   rw[upd_ne hqp]at this;exact this
 ·rw[List.getElem?_set]at hy
  by_cases hij:i=j
  ·subst hij
   rw[if_pos rfl,if_pos hil]at hy
   simp only[Option.some.injEq]at hy
   subst hy
   rw[hr]at hr';cases hr'
   by_cases h2:z= -2
   ·exact .inl h2
   ·right
    rw[end_mono hle r.body p (by rw[hz];exact h2),hz]
  ·rw[if_neg hij]at hy
   rcases h.sound j y r' hy hr' with h'|h'
   ·exact .inl h'
   ·by_cases h2:y= -2
    ·exact .inl h2
    ·right
     rw[end_mono hle r'.body p (by rw[<-h'];exact h2),<-h']
theorem RowOk.hit {rs:List Ru} {s:List UInt8} {E:Nat->Nat->Int} {p:Nat} (hw:WellOk rs) (hE:EOk rs s E p) (hp:p<=s.length) {row:List Int} (h:RowOk rs s E p row) {r:Ru} (hr:r∈rs) (hn:∀j∈needsE rs (knOf rs) r.body,∀z,row[j]?=some z->z≠-2):
  endE rs s (upd E p row) r.body p≠-2:=by
 have hpeg:=hw.peg hr
 refine end_known h.ok _ r.body (Nat.lt_succ_self _) hpeg p (by omega) (by omega) (λq hq hql i hi=>?_) λj hj=>?_
 ·rw[upd_ne (by omega)];exact hE.known q i hq hql hi
 ·obtain⟨z,hz⟩:=getN (l:=row) (i:=j) (by rw[h.len];exact needsE_lt _ _ hpeg.good j hj)
  rw[Int.toNat_natCast,upd_eq hz];exact hn j hj z hz
theorem RowOk.done {rs:List Ru} {s:List UInt8} {E:Nat->Nat->Int} {p:Nat} (hE:EOk rs s E p) {row:List Int} (h:RowOk rs s E p row) (hk:∀(i:Nat) z,row[i]?=some z->z≠-2):EOk rs s (upd E p row) ((p:Int)-1):=by
 have hle:TabLe E (upd E p row):=λq i=>by
  by_cases hqp:q=p
  ·exact .inl (hE.un q i (by omega))
  ·rw[upd_ne hqp];exact .inr rfl
 refine⟨h.ok,λq i hq=>?_,λq i h1 h2 h3=>?_,λq i r h1 h2 h3=>?_⟩
 ·rw[upd_ne (by omega)];exact hE.un q i (by omega)
 ·by_cases hqp:q=p
  ·subst hqp
   obtain⟨z,hz⟩:=getN (l:=row) (i:=i) (by rw[h.len];exact h3)
   rw[upd_eq hz];exact hk i z hz
  ·rw[upd_ne hqp];exact hE.known q i (by omega) h2 h3
 ·have hi:=(List.getElem?_eq_some_iff.1 h3).1
  by_cases hqp:q=p
  ·subst hqp
   obtain⟨z,hz⟩:=getN (l:=row) (i:=i) (by rw[h.len];exact hi)
   rw[upd_eq hz]
   exact(h.sound i z r hz h3).resolve_left (hk i z hz)
  ·rw[upd_ne hqp]
   have hf:=hE.fix q i r (by omega) h2 h3
   rw[end_mono hle r.body q (by rw[<-hf];exact hE.known q i (by omega) h2 hi)]
   exact hf
end Go.Proofs.Ytmnilbfhfjdelaa.core

namespace Go.Proofs.Ytmnilbfhfjdelaa.core
open Go.Gx Go.RowKit Go.ChangeShapes Go.WideShapes Go.ChangeAt
set_option linter.unusedVariables false
def but (M:Mem) (g:Nat):Mem:=λx=>if x=g then none else M x
theorem but_eq (M:Mem) (g:Nat):but M g g=none:=by simp[but]
theorem but_ne {M:Mem} {g x:Nat} (h:x≠g):but M g x=M x:=by simp[but,h]
theorem but_le (M:Mem) (g:Nat):(but M g).le M:=λx o hx=>by
 unfold but at hx
 split at hx
 ·cases hx
 ·exact hx
theorem le_but {V M:Mem} {g:Nat} (h:V.le M) (hg:V g=none):V.le (but M g):=λx o hx=>by
 rw[but_ne (by rintro rfl;rw[hg]at hx;cases hx)]
 exact h x o hx
end Go.Proofs.Ytmnilbfhfjdelaa.core

namespace Go.Proofs.Ytmnilbfhfjdelaa.core
open Go.Gx Go.RowKit Go.ChangeShapes Go.WideShapes Go.ChangeAt
set_option linter.unusedVariables false
def outE (r p:Int):X_api_Outcome:=if 0<=r then⟨true,r-p⟩ else⟨false,0⟩
end Go.Proofs.Ytmnilbfhfjdelaa.core

namespace Go.Proofs.Ytmnilbfhfjdelaa.core
open Go.Gx Go.RowKit Go.ChangeShapes Go.WideShapes Go.ChangeAt
set_option linter.unusedVariables false
abbrev Rc:=Option (Int×Nat)
def seqV (f:Ex->Int->Rc):List Ex->Int->Rc
 |[],p=>some (p,0)
 |k::ks,p=>(f k p).bind λx=>if x.1<0 then some x else(seqV f ks x.1).map λy=>(y.1,x.2+y.2)
def altV (f:Ex->Int->Rc):List Ex->Int->Rc
 |[],_=>some (-1,0)
 |k::ks,p=>(f k p).bind λx=>if x.1≠-1 then some x else(altV f ks p).map λy=>(y.1,x.2+y.2)
def staV (f:Int->Rc) (q:Bool):Nat->Int->Bool->Rc
 |0,_,_=>none
 |m+1,p,fi=>(f p).bind λx=>if x.1<0 then some (if (fi&&q)=true then x.1 else p,x.2) else(staV f q m x.1 false).map λy=>(y.1,x.2+y.2)
def hdV (f:Ex->Int->Rc):List Ex->Int->Rc
 |[],_=>none
 |k::_,p=>f k p
def ev (rs:List Ru) (s:List UInt8):Nat->Ex->Int->Rc
 |0,_,_=>none
 |m+1,e,p=>(if e.kind=1 then some (p,0) else if e.kind=2 then some (setE e.set s p,0) else if e.kind=3 then some (litE e.text s p,0)
  else if e.kind=4 then(rs[(findR e.text rs 0).toNat]?).bind λr=>ev rs s m r.body p
  else if e.kind=5 then seqV (ev rs s m) e.kids p else if e.kind=6 then altV (ev rs s m) e.kids p
  else if e.kind=7\/e.kind=8 then staV (hdV (ev rs s m) e.kids) (decide (e.kind=8)) (s.length+2) p true
  else(hdV (ev rs s m) e.kids p).map λx=>(oneE e.kind p x.1,x.2)).map λx=>(x.1,x.2+1)
def Below2 (f g:Ex->Int->Rc):Prop:=∀e p x,f e p=some x->g e p=some x
theorem seqV_mono {f g:Ex->Int->Rc} (h:Below2 f g):∀(ks:List Ex) p x,seqV f ks p=some x->seqV g ks p=some x
 |[],_,_,h'=>h'
 |k::ks,p,x,h'=>by
  rw[seqV]at h' ⊢
  cases hf:f k p with
  |none=>rw[hf]at h';cases h'
  |some y=>
   rw[hf]at h'
   rw[h k p y hf]
   simp only[Option.bind_some]at h' ⊢
   split at h'
   ·rename_i h0;rw[if_pos h0];exact h'
   ·rename_i h0
    rw[if_neg h0]
    cases hz:seqV f ks y.1 with
    |none=>rw[hz]at h';cases h'
    |some z=>rw[hz]at h';rw[seqV_mono h ks _ z hz];exact h'
theorem altV_mono {f g:Ex->Int->Rc} (h:Below2 f g):∀(ks:List Ex) p x,altV f ks p=some x->altV g ks p=some x
 |[],_,_,h'=>h'
 |k::ks,p,x,h'=>by
  rw[altV]at h' ⊢
  cases hf:f k p with
  |none=>rw[hf]at h';cases h'
  |some y=>
   rw[hf]at h'
   rw[h k p y hf]
   simp only[Option.bind_some]at h' ⊢
   split at h'
   ·rename_i h0;rw[if_pos h0];exact h'
   ·rename_i h0
    rw[if_neg h0]
    cases hz:altV f ks p with
    |none=>rw[hz]at h';cases h'
    |some z=>rw[hz]at h';rw[altV_mono h ks _ z hz];exact h'
theorem hdV_mono {f g:Ex->Int->Rc} (h:Below2 f g):∀(ks:List Ex) p x,hdV f ks p=some x->hdV g ks p=some x
 |[],_,_,h'=>h'
 |k::_,p,x,h'=>by rw[hdV]at h' ⊢;exact h k p x h'
theorem staV_mono {f g:Int->Rc} (h:∀p x,f p=some x->g p=some x) {q:Bool}:∀(m:Nat) p fi x,staV f q m p fi=some x->staV g q m p fi=some x
 |0,_,_,_,h'=>h'
 |m+1,p,fi,x,h'=>by
  rw[staV]at h' ⊢
  cases hf:f p with
  |none=>rw[hf]at h';cases h'
  |some y=>
   rw[hf]at h'
   rw[h p y hf]
   simp only[Option.bind_some]at h' ⊢
   split at h'
   ·rename_i h0;rw[if_pos h0];exact h'
   ·rename_i h0
    rw[if_neg h0]
    cases hz:staV f q m y.1 false with
    |none=>rw[hz]at h';cases h'
    |some z=>rw[hz]at h';rw[staV_mono h m _ _ z hz];exact h'
theorem ev_step {rs:List Ru} {s:List UInt8}:∀m,Below2 (ev rs s m) (ev rs s (m+1))
 |0,e,p,x,h=>by rw[ev]at h;cases h
 |m+1,e,p,x,h=>by
  have ih:=ev_step (rs:=rs) (s:=s) m
  rw[ev]at h ⊢
  obtain⟨y,hy,rfl⟩:=Option.map_eq_some_iff.1 h
  refine Option.map_eq_some_iff.2 ⟨y,?_,rfl⟩
  by_cases h1:e.kind=1
  ·rw[if_pos h1]at hy ⊢;exact hy
  rw[if_neg h1]at hy ⊢
  by_cases h2:e.kind=2
  ·rw[if_pos h2]at hy ⊢;exact hy
  rw[if_neg h2]at hy ⊢
  by_cases h3:e.kind=3
  ·rw[if_pos h3]at hy ⊢;exact hy
  rw[if_neg h3]at hy ⊢
  by_cases h4:e.kind=4
  ·rw[if_pos h4]at hy ⊢
   obtain⟨r,hr,hy⟩:=Option.bind_eq_some_iff.1 hy
   exact Option.bind_eq_some_iff.2 ⟨r,hr,ih _ _ _ hy⟩
  rw[if_neg h4]at hy ⊢
  by_cases h5:e.kind=5
  ·rw[if_pos h5]at hy ⊢;exact seqV_mono ih _ _ _ hy
  rw[if_neg h5]at hy ⊢
  by_cases h6:e.kind=6
  ·rw[if_pos h6]at hy ⊢;exact altV_mono ih _ _ _ hy
  rw[if_neg h6]at hy ⊢
  by_cases h7:e.kind=7\/e.kind=8
  ·rw[if_pos h7]at hy ⊢;exact staV_mono (hdV_mono ih _) _ _ _ _ hy
  rw[if_neg h7]at hy ⊢
  obtain⟨z,hz,he⟩:=Option.map_eq_some_iff.1 hy
  exact Option.map_eq_some_iff.2 ⟨z,hdV_mono ih _ _ _ hz,he⟩
theorem ev_more {rs:List Ru} {s:List UInt8} {m n:Nat} (h:m<=n):Below2 (ev rs s m) (ev rs s n):=by
 induction h with
 |refl=>exact λ_ _ _ h=>h
 |step _ ih=>exact λe p x hx=>ev_step _ e p x (ih e p x hx)
end Go.Proofs.Ytmnilbfhfjdelaa.core

namespace Go.Proofs.Ytmnilbfhfjdelaa.core
open Go.Gx Go.RowKit Go.ChangeShapes Go.WideShapes Go.ChangeAt
set_option linter.unusedVariables false
section
variable {rs:List Ru} {s:List UInt8} {E:Nat->Nat->Int}
theorem seqV_res {f:Ex->Int->Rc}:∀(ks:List Ex) (p:Int) x,(∀k∈ks,∀(q:Int) y,0<=q->q<=s.length->f k q=some y->y.1=endE rs s E k q/\(y.1<0\/y.1<=s.length))->0<=p->p<=s.length->seqV f ks p=some x->x.1=seqE rs s E ks p
 |[],_,_,_,_,_,h=>by rw[seqV]at h;cases h;rw[seqE]
 |k::ks,p,x,hf,hp,hl,h=>by
  rw[seqV]at h
  obtain⟨y,hy,h⟩:=Option.bind_eq_some_iff.1 h
  obtain⟨h1,h2⟩:=hf k (by simp) p y hp hl hy
  rw[seqE,<-h1]
  split at h
  ·rename_i h0;cases h;rw[if_pos h0]
  ·rename_i h0
   rw[if_neg h0]
   obtain⟨z,hz,rfl⟩:=Option.map_eq_some_iff.1 h
   exact seqV_res ks y.1 z (λk' hk'=>hf k' (by simp[hk'])) (by omega) (by omega) hz
theorem altV_res {f:Ex->Int->Rc} {p:Int}:∀(ks:List Ex) x,(∀k∈ks,∀y,f k p=some y->y.1=endE rs s E k p)->altV f ks p=some x->x.1=altE rs s E ks p
 |[],_,_,h=>by rw[altV]at h;cases h;rw[altE]
 |k::ks,x,hf,h=>by
  rw[altV]at h
  obtain⟨y,hy,h⟩:=Option.bind_eq_some_iff.1 h
  have h1:=hf k (by simp) y hy
  rw[altE,<-h1]
  split at h
  ·rename_i h0;cases h;rw[if_pos h0]
  ·rename_i h0
   rw[if_neg h0]
   obtain⟨z,hz,rfl⟩:=Option.map_eq_some_iff.1 h
   exact altV_res ks z (λk' hk'=>hf k' (by simp[hk'])) hz
theorem staV_res {f:Int->Rc} {g:Int->Int} {q:Bool}:∀(m:Nat) (p:Int) fi x,(∀(r:Int) y,0<=r->r<=s.length->f r=some y->y.1=g r/\g r≠-2/\(y.1<0\/y.1<=s.length))->0<=p->p<=s.length->staV f q m p fi=some x->x.1=strE g q m p fi
 |0,_,_,_,_,_,_,h=>by rw[staV]at h;cases h
 |m+1,p,fi,x,hf,hp,hl,h=>by
  rw[staV]at h
  obtain⟨y,hy,h⟩:=Option.bind_eq_some_iff.1 h
  obtain⟨h1,h2,h3⟩:=hf p y hp hl hy
  rw[strE,<-h1]
  rw[<-h1]at h2
  split at h
  ·rename_i h0
   cases h
   by_cases hq:(fi&&q)=true
   ·rw[if_pos hq,if_pos (.inr ⟨h0,by simpa using hq⟩)]
   ·rw[if_neg hq,if_neg (λh=>h.elim h2 λh=>hq (by simp[h.2.1,h.2.2])),if_pos h0]
  ·rename_i h0
   rw[if_neg (λh=>h.elim h2 λh=>h0 h.1),if_neg h0]
   obtain⟨z,hz,rfl⟩:=Option.map_eq_some_iff.1 h
   exact staV_res m y.1 false z hf (by omega) (by omega) hz
theorem ev_res (hw:WellOk rs) (hT:Tab rs s E):∀(m:Nat) (e:Ex) (p:Int) x,PegOk rs e->0<=p->p<=s.length->ev rs s m e p=some x->x.1=endE rs s E e p
 |0,e,p,x,_,_,_,h=>by rw[ev]at h;cases h
 |m+1,e,p,x,hok,hp,hl,h=>by
  have ih:=ev_res hw hT m
  have hk:∀k∈e.kids,∀(q:Int) y,0<=q->q<=s.length->ev rs s m k q=some y->y.1=endE rs s E k q/\(y.1<0\/y.1<=s.length):=λk hk q y hq hql hy=>by
   have h1:=ih k q y (hok.kid hk) hq hql hy
   refine⟨h1,?_⟩
   rw[h1]
   rcases hT.res (hok.kid hk) hq hql with h'|h'<;>omega
  rw[ev]at h
  obtain⟨y,hy,rfl⟩:=Option.map_eq_some_iff.1 h
  rw[endE_eq]
  show y.1=_
  by_cases h1:e.kind=1
  ·rw[if_pos h1]at hy ⊢;cases hy;rfl
  rw[if_neg h1]at hy ⊢
  by_cases h2:e.kind=2
  ·rw[if_pos h2]at hy ⊢;cases hy;rfl
  rw[if_neg h2]at hy ⊢
  by_cases h3:e.kind=3
  ·rw[if_pos h3]at hy ⊢;cases hy;rfl
  rw[if_neg h3]at hy ⊢
  by_cases h4:e.kind=4
  ·rw[if_pos h4]at hy ⊢
   obtain⟨r,hr,hy⟩:=Option.bind_eq_some_iff.1 hy
   rw[ih r.body p y (hw.peg (List.mem_of_getElem? hr)) hp hl hy]
   have:=hT.fix p.toNat _ r (by omega) hr
   rw[this,show((p.toNat:Nat):Int)=p by omega]
  rw[if_neg h4]at hy ⊢
  by_cases h5:e.kind=5
  ·rw[if_pos h5]at hy ⊢;exact seqV_res _ _ _ hk hp hl hy
  rw[if_neg h5]at hy ⊢
  by_cases h6:e.kind=6
  ·rw[if_pos h6]at hy ⊢;exact altV_res _ _ (λk hkm y hy=>(hk k hkm p y hp hl hy).1) hy
  rw[if_neg h6]at hy ⊢
  obtain⟨g1,g2,g3,g4,g5,g6,g7,g8⟩:=fitE_kinds hok.good.fit
  obtain⟨k,hk1⟩:=List.length_eq_one_iff.1 (g5 (by omega))
  have hkm:k∈e.kids:=by rw[hk1];simp
  have hhd:hdE rs s E e.kids=endE rs s E k:=by rw[hk1];funext q;rw[hdE]
  have hhv:hdV (ev rs s m) e.kids=ev rs s m k:=by rw[hk1];funext q;rw[hdV]
  rw[hhd]
  rw[hhv]at hy
  by_cases h7:e.kind=7\/e.kind=8
  ·rw[if_pos h7]at hy ⊢
   exact staV_res _ _ _ _ (λr z hr hrl hz=>⟨(hk k hkm r z hr hrl hz).1,hT.knows (hok.kid hkm) hr hrl,(hk k hkm r z hr hrl hz).2⟩) hp hl hy
  rw[if_neg h7]at hy ⊢
  obtain⟨z,hz,rfl⟩:=Option.map_eq_some_iff.1 hy
  show oneE e.kind p z.1=_
  rw[(hk k hkm p z hp hl hz).1]
theorem ev_ex (hw:WellOk rs) (hT:Tab rs s E):∀(e:Ex) (p:Int),PegOk rs e->0<=p->p<=s.length->∃m x,ev rs s m e p=some x:=by
 refine peg_ind hw s.length (λe p=>∃m x,ev rs s m e p=some x) λe p hok hp hl hk hr=>?_
 have up:∀{m:Nat} {y:Int×Nat},(if e.kind=1 then some (p,0) else if e.kind=2 then some (setE e.set s p,0) else if e.kind=3 then some (litE e.text s p,0)
  else if e.kind=4 then(rs[(findR e.text rs 0).toNat]?).bind λr=>ev rs s m r.body p
  else if e.kind=5 then seqV (ev rs s m) e.kids p else if e.kind=6 then altV (ev rs s m) e.kids p
  else if e.kind=7\/e.kind=8 then staV (hdV (ev rs s m) e.kids) (decide (e.kind=8)) (s.length+2) p true
  else(hdV (ev rs s m) e.kids p).map λx=>(oneE e.kind p x.1,x.2))=some y->∃m x,ev rs s m e p=some x:=λ{m y} h=>⟨m+1,(y.1,y.2+1),by rw[ev,h];rfl⟩
 by_cases h1:e.kind=1
 ·exact up (m:=0) (if_pos h1)
 by_cases h2:e.kind=2
 ·exact up (m:=0) (by rw[if_neg h1,if_pos h2])
 by_cases h3:e.kind=3
 ·exact up (m:=0) (by rw[if_neg h1,if_neg h2,if_pos h3])
 by_cases h4:e.kind=4
 ·obtain⟨hlt,_⟩:=findR_lt (hok.good.ref h4)
  obtain⟨r,hrr⟩:=getN (l:=rs) hlt
  obtain⟨m,x,hx⟩:=hr h4 r hrr
  exact up (m:=m) (by rw[if_neg h1,if_neg h2,if_neg h3,if_pos h4,hrr];exact hx)
 by_cases h5:e.kind=5
 ·have key:∀(d i:Nat) (q:Int),e.kids.length-i<d->p<=q->q<=s.length->(q=p->∀j∈needsQ rs (knOf rs) (e.kids.drop i),j∈needsE rs (knOf rs) e)->∃m x,seqV (ev rs s m) (e.kids.drop i) q=some x:=by
   intro d
   induction d with
   |zero=>intro i q h;omega
   |succ d ih=>
    intro i q hd hq hql hn
    by_cases hi:i<e.kids.length
    ·obtain⟨k,hki⟩:=getN (l:=e.kids) hi
     obtain⟨t1,t2⟩:=seq_tries hT hok h5 hp hl i q k hq hql hn hki
     obtain⟨m1,x,hx⟩:=hk k q t1 hql
     have hxe:=ev_res hw hT m1 k q x (hok.kid t1.1) (by omega) hql hx
     rw[drop_get hki]
     by_cases h0:x.1<0
     ·exact⟨m1,x,by rw[seqV,hx,Option.bind_some,if_pos h0]⟩
     ·obtain⟨u1,u2,u3⟩:=t2 (by omega)
      rw[<-hxe]at u1 u2 u3
      obtain⟨m2,y,hy⟩:=ih (i+1) x.1 (by omega) u1 u2 u3
      refine⟨max m1 m2,(y.1,x.2+y.2),?_⟩
      rw[seqV,ev_more (Nat.le_max_left m1 m2) _ _ _ hx,Option.bind_some,if_neg h0,seqV_mono (ev_more (Nat.le_max_right m1 m2)) _ _ _ hy]
      rfl
    ·exact⟨0,(q,0),by rw[List.drop_of_length_le (by omega),seqV]⟩
  obtain⟨m,x,hx⟩:=key (e.kids.length+1) 0 p (by omega) (Int.le_refl _) hl λ_ j hj=>by rw[needsE_eq,if_neg h4,if_pos h5];exact hj
  exact up (m:=m) (by rw[if_neg h1,if_neg h2,if_neg h3,if_neg h4,if_pos h5];exact hx)
 by_cases h6:e.kind=6
 ·have key:∀ks:List Ex,(∀k∈ks,k∈e.kids)->∃m x,altV (ev rs s m) ks p=some x:=by
   intro ks
   induction ks with
   |nil=>intro _;exact⟨0,(-1,0),by rw[altV]⟩
   |cons k ks ih=>
    intro hm
    obtain⟨m1,x,hx⟩:=hk k p (kid_tries (hm k (by simp)) h4 h5 (Int.le_refl _)) hl
    by_cases h0:x.1≠-1
    ·exact⟨m1,x,by rw[altV,hx,Option.bind_some,if_pos h0]⟩
    ·obtain⟨m2,y,hy⟩:=ih λk' hk'=>hm k' (by simp[hk'])
     refine⟨max m1 m2,(y.1,x.2+y.2),?_⟩
     rw[altV,ev_more (Nat.le_max_left m1 m2) _ _ _ hx,Option.bind_some,if_neg h0,altV_mono (ev_more (Nat.le_max_right m1 m2)) _ _ _ hy]
     rfl
  obtain⟨m,x,hx⟩:=key e.kids λ_ h=>h
  exact up (m:=m) (by rw[if_neg h1,if_neg h2,if_neg h3,if_neg h4,if_neg h5,if_pos h6];exact hx)
 obtain⟨g1,g2,g3,g4,g5,g6,g7,g8⟩:=fitE_kinds hok.good.fit
 obtain⟨k,hk1⟩:=List.length_eq_one_iff.1 (g5 (by omega))
 have hkm:k∈e.kids:=by rw[hk1];simp
 have hhv:∀m,hdV (ev rs s m) e.kids=ev rs s m k:=λm=>by rw[hk1];funext q;rw[hdV]
 by_cases h7:e.kind=7\/e.kind=8
 ·have hem:=hok.star hk1 h7
  have key:∀(m:Nat) (q:Int) (fi:Bool),p<=q->q<=s.length->s.length+1<=q.toNat+m->∃n x,staV (ev rs s n k) (decide (e.kind=8)) m q fi=some x:=by
   intro m
   induction m with
   |zero=>intro q fi hq hql hm;omega
   |succ m ih=>
    intro q fi hq hql hm
    obtain⟨m1,x,hx⟩:=hk k q (kid_tries hkm h4 h5 hq) hql
    have hxe:=ev_res hw hT m1 k q x (hok.kid hkm) (by omega) hql hx
    by_cases h0:x.1<0
    ·exact⟨m1,(if (fi&&decide (e.kind=8))=true then x.1 else q,x.2),by rw[staV,hx,Option.bind_some,if_pos h0]⟩
    ·have hgt:q<x.1/\x.1<=s.length:=by
      rw[hxe]at h0 ⊢
      rcases hT.res (hok.kid hkm) (p:=q) (by omega) hql with h|⟨h,h'⟩
      ·omega
      ·by_cases he:endE rs s E k q=q
       ·rw[hT.empty (hok.kid hkm) (by omega) hql he]at hem;cases hem
       ·omega
     obtain⟨m2,y,hy⟩:=ih x.1 false (by omega) hgt.2 (by omega)
     refine⟨max m1 m2,(y.1,x.2+y.2),?_⟩
     rw[staV,ev_more (Nat.le_max_left m1 m2) _ _ _ hx,Option.bind_some,if_neg h0,staV_mono (λq z=>ev_more (Nat.le_max_right m1 m2) k q z) _ _ _ _ hy]
     rfl
  obtain⟨m,x,hx⟩:=key (s.length+2) p true (Int.le_refl _) hl (by omega)
  exact up (m:=m) (by rw[if_neg h1,if_neg h2,if_neg h3,if_neg h4,if_neg h5,if_neg h6,if_pos h7,hhv];exact hx)
 ·obtain⟨m,x,hx⟩:=hk k p (kid_tries hkm h4 h5 (Int.le_refl _)) hl
  exact up (m:=m) (by rw[if_neg h1,if_neg h2,if_neg h3,if_neg h4,if_neg h5,if_neg h6,if_neg h7,hhv,hx];rfl)
end
end Go.Proofs.Ytmnilbfhfjdelaa.core

namespace Go.Proofs.Ytmnilbfhfjdelaa.core
open Go.Gx Go.RowKit Go.ChangeShapes Go.WideShapes Go.ChangeAt
set_option linter.unusedVariables false
end Go.Proofs.Ytmnilbfhfjdelaa.core

namespace Go.Proofs.Ytmnilbfhfjdelaa.core
open Go.Gx Go.RowKit Go.ChangeShapes Go.WideShapes Go.ChangeAt
set_option linter.unusedVariables false
theorem prefix_is (a b:List UInt8) {M:Mem} (K:Value->Prop) (hK:K (.bool (decide (b.length<=a.length/\a.take b.length=b)))):S_strings_HasPrefix a b M K:=by
 unfold S_strings_HasPrefix
 refine s_internal_stringslite_HasPrefix _ _ _ _ ?_
 unfold S_internal_stringslite_HasPrefix
 refine⟨λh=>⟨by omega,by omega,by omega,_,rfl,?_⟩,λh=>⟨_,rfl,?_⟩⟩
 ·have:((mkS ((a.take ((b.length:Nat):Int).toNat).drop (0:Int).toNat)).toList==(mkS b).toList)=decide (b.length<=a.length/\a.take b.length=b):=by
   rw[Bool.eq_iff_iff,mkS_beq,decide_eq_true_iff]
   simp only[Int.toNat_natCast,Int.toNat_zero,List.drop_zero]
   exact⟨λh'=>⟨by omega,h'⟩,λh'=>h'.2⟩
  rw[this];exact hK
 ·rw[show decide (b.length<=a.length/\a.take b.length=b)=false from decide_eq_false (λh'=>h (by omega))]at hK
  exact hK
end Go.Proofs.Ytmnilbfhfjdelaa.core

namespace Go.Proofs.Ytmnilbfhfjdelaa.core
open Go.Gx Go.RowKit Go.ChangeShapes Go.WideShapes Go.ChangeAt
set_option linter.unusedVariables false
theorem row_ex {rs:List Ru} {s:List UInt8} {E:Nat->Nat->Int} {p:Nat} (hw:WellOk rs) (hE:EOk rs s E p) (hp:p<=s.length):∃row,RowOk rs s E p row/\∀(i:Nat) z,row[i]?=some z->z≠-2:=by
 obtain⟨st,hst,hord⟩:=hw.stage
 have key:∀k:Nat,∃row,RowOk rs s E p row/\∀(i:Nat) z,st i<=k->row[i]?=some z->z≠-2:=by
  intro k
  induction k with
  |zero=>
   refine⟨List.replicate rs.length (-2),RowOk.init hE (by simp) λi z hz=>?_,λi z hi hz=>?_⟩
   ·rw[List.getElem?_replicate]at hz
    split at hz
    ·simpa using hz.symm
    ·cases hz
   ·have:=(List.getElem?_eq_some_iff.1 hz).1
    have:=(hst i (by simpa using this)).1
    omega
  |succ k ih=>
   obtain⟨row0,hR0,hk0⟩:=ih
   have inner:∀i:Nat,i<=rs.length->∃row,RowOk rs s E p row/\(∀(j:Nat) z,st j<=k->row[j]?=some z->z≠-2)/\∀(j:Nat) z,j<i->st j<=k+1->row[j]?=some z->z≠-2:=by
    intro i
    induction i with
    |zero=>intro _;exact⟨row0,hR0,hk0,λj z h=>by omega⟩
    |succ i ihi=>
     intro hi
     obtain⟨row,hR,hk,hki⟩:=ihi (by omega)
     obtain⟨z,hz⟩:=getN (l:=row) (i:=i) (by rw[hR.len];omega)
     obtain⟨r,hr⟩:=getN (l:=rs) (i:=i) (by omega)
     by_cases h2:z= -2
     ·subst h2
      have hhit:st i<=k+1->endE rs s (upd E p row) r.body p≠-2:=λhsti=>hR.hit hw hE hp (List.mem_of_getElem? hr) λj hj z hz=>hk j z (by have:=hord _ r hr j hj;omega) hz
      have hset:∀(j:Nat) y,(row.set i (endE rs s (upd E p row) r.body p))[j]?=some y->(j=i/\y=endE rs s (upd E p row) r.body p)\/(j≠i/\row[j]?=some y):=λj y hy=>by
       rw[List.getElem?_set]at hy
       by_cases hij:i=j
       ·rw[if_pos hij,if_pos (by rw[hR.len];omega)]at hy;exact .inl ⟨hij.symm,by simpa using hy.symm⟩
       ·rw[if_neg hij]at hy;exact .inr ⟨λh=>hij h.symm,hy⟩
      refine⟨_,hR.step hw hp hz hr,λj y hj hy=>?_,λj y hj hj2 hy=>?_⟩
      ·rcases hset j y hy with⟨rfl,rfl⟩|⟨_,hy⟩
       ·exact hhit (by omega)
       ·exact hk j y hj hy
      ·rcases hset j y hy with⟨rfl,rfl⟩|⟨hne,hy⟩
       ·exact hhit hj2
       ·exact hki j y (by omega) hj2 hy
     ·refine⟨row,hR,hk,λj y hj hj2 hy=>?_⟩
      by_cases hji:j=i
      ·subst hji;rw[hz]at hy;cases hy;exact h2
      ·exact hki j y (by omega) hj2 hy
   obtain⟨row,hR,_,hki⟩:=inner rs.length (Nat.le_refl _)
   exact⟨row,hR,λj y hj hy=>hki j y (by have:=(List.getElem?_eq_some_iff.1 hy).1;rw[hR.len]at this;exact this) hj hy⟩
 obtain⟨row,hR,hk⟩:=key rs.length
 exact⟨row,hR,λi z hz=>hk i z (hst i (by have:=(List.getElem?_eq_some_iff.1 hz).1;rw[hR.len]at this;exact this)).2 hz⟩
theorem tab_ex {rs:List Ru} {s:List UInt8} (hw:WellOk rs):∃E,Tab rs s E:=by
 have key:∀d:Nat,d<=s.length+1->∃E,EOk rs s E ((s.length:Int)-d):=by
  intro d
  induction d with
  |zero=>intro _;exact⟨_,by simpa using EOk.init rs s⟩
  |succ d ih=>
   intro hd
   obtain⟨E,hE⟩:=ih (by omega)
   have e1:(s.length:Int)-d=((s.length-d:Nat):Int):=by omega
   rw[e1]at hE
   obtain⟨row,hR,hk⟩:=row_ex hw hE (by omega)
   refine⟨upd E (s.length-d) row,?_⟩
   have:=hR.done hE hk
   rw[show((s.length-d:Nat):Int)-1=(s.length:Int)-((d+1:Nat):Int) by omega]at this
   exact this
 obtain⟨E,hE⟩:=key (s.length+1) (Nat.le_refl _)
 exact⟨E,hE.tab (by omega)⟩
end Go.Proofs.Ytmnilbfhfjdelaa.core

namespace Go.Proofs.Ytmnilbfhfjdelaa.core
open Go.Gx Go.RowKit Go.ChangeShapes Go.WideShapes Go.ChangeAt
set_option linter.unusedVariables false
def lookP (rs:List Ru) (s:List UInt8):Int:=if (wellP rs).2≠0 then(wellP rs).2 else if (s.length:Int)>60 then 2 else 0
theorem mlook_is {rs:List Ru} {ga:Option Addr} {gl gc:Nat} {M:Mem} (hg:GrR M rs ga gl gc) (s:List UInt8) (K:Value->Prop) (hK:K (.int .i64 (lookP rs s))):S_mean_Look ga gl gc s M K:=by
 unfold S_mean_Look
 unfold lookP at hK
 refine s_well_Well _ _ _ _ _ (wwell_is hg _ ⟨_,_,rfl,λh=>?_,λh=>⟨λh2=>?_,λh2=>?_⟩⟩)
 ·rw[if_pos h]at hK;exact hK
 ·rw[if_neg h,if_pos h2]at hK;exact hK
 ·rw[if_neg h,if_neg h2]at hK;exact hK
end Go.Proofs.Ytmnilbfhfjdelaa.core

namespace Go.Proofs.Ytmnilbfhfjdelaa.core
open Go.Gx Go.RowKit Go.ChangeShapes Go.WideShapes Go.ChangeAt
set_option linter.unusedVariables false
theorem look_ok {rs:List Ru} {s:List UInt8} (h:lookP rs s=0):WellOk rs/\s.length<=60:=by
 unfold lookP at h
 split at h
 ·rename_i h1;exact absurd h h1
 ·rename_i h1
  split at h
  ·cases h
  ·exact⟨well_ok (Decidable.not_not.1 h1),by omega⟩
end Go.Proofs.Ytmnilbfhfjdelaa.core

namespace Go.Proofs.Ytmnilbfhfjdelaa.core
open Go.Gx Go.RowKit Go.ChangeShapes Go.WideShapes Go.ChangeAt
set_option linter.unusedVariables false
structure X_chaffref_Tried where
 Kid:Int
 At:Int
def X_chaffref_Tried.cells (x:X_chaffref_Tried):List Value:=[(Value.int .i64 x.Kid),(Value.int .i64 x.At)]
abbrev Tr:=X_chaffref_Tried
def seqK (f:Ex->Int->Int):List Ex->Int->Int->List Tr
 |[],_,_=>[]
 |k::ks,i,p=>⟨i,p⟩::(if f k p<0 then[] else seqK f ks (i+1) (f k p))
def altK (f:Ex->Int->Int):List Ex->Int->Int->List Tr
 |[],_,_=>[]
 |k::ks,i,p=>⟨i,p⟩::(if f k p<0 then altK f ks (i+1) p else[])
def staK (f:Int->Int):Nat->Int->List Tr
 |0,_=>[]
 |m+1,p=>if p<0 then[] else⟨0,p⟩::staK f m (f p)
def kidK (rs:List Ru) (s:List UInt8) (E:Nat->Nat->Int) (e:Ex) (p:Int):List Tr:=
 if e.kind=5 then seqK (endE rs s E) e.kids 0 p else if e.kind=6 then altK (endE rs s E) e.kids 0 p
 else if e.kind=7\/e.kind=8 then staK (hdE rs s E e.kids) (s.length+3) p else if 9<=e.kind then[⟨0,p⟩] else[]
end Go.Proofs.Ytmnilbfhfjdelaa.core

namespace Go.Proofs.Ytmnilbfhfjdelaa.core
open Go.Gx Go.RowKit Go.ChangeShapes Go.WideShapes Go.ChangeAt
set_option linter.unusedVariables false
section
variable {rs:List Ru} {s:List UInt8} {E:Nat->Nat->Int} {m:Nat}
end
end Go.Proofs.Ytmnilbfhfjdelaa.core

namespace Go.Proofs.Ytmnilbfhfjdelaa.core
open Go.Gx Go.RowKit Go.ChangeShapes Go.WideShapes Go.ChangeAt
set_option linter.unusedVariables false
def cap (c:Nat):Int:=if (c:Int)<2097152 then c else 2097152
theorem kid_all {rs:List Ru} {s:List UInt8} {E:Nat->Nat->Int} (hT:Tab rs s E) {e:Ex} (hok:PegOk rs e) {p:Int} (hp:0<=p) (hl:p<=s.length):∀t∈kidK rs s E e p,0<=t.Kid/\t.At<=s.length/\∃k,e.kids[t.Kid.toNat]?=some k/\Tries rs e k p t.At:=by
 obtain⟨g1,g2,g3,g4,g5,g6,g7,g8⟩:=fitE_kinds hok.good.fit
 intro t ht
 unfold kidK at ht
 by_cases h5:e.kind=5
 ·rw[if_pos h5]at ht
  have key:∀(ks:List Ex) (i:Nat) (q:Int),ks=e.kids.drop i->p<=q->q<=s.length->(q=p->∀j∈needsQ rs (knOf rs) (e.kids.drop i),j∈needsE rs (knOf rs) e)->∀t∈seqK (endE rs s E) ks i q,0<=t.Kid/\t.At<=s.length/\∃k,e.kids[t.Kid.toNat]?=some k/\Tries rs e k p t.At:=by
   intro ks
   induction ks with
   |nil=>intro i q _ _ _ _ t ht;rw[seqK]at ht;cases ht
   |cons k ks ih=>
    intro i q hks hq hql hn t ht
    have hi:e.kids[i]?=some k:=by have:=congrArg (λl=>l[0]?) hks;simpa using this.symm
    have hks':ks=e.kids.drop (i+1):=by rw[drop_get hi]at hks;exact(List.cons.inj hks).2
    obtain⟨t1,t2⟩:=seq_tries hT hok h5 hp hl i q k hq hql hn hi
    rw[seqK]at ht
    rcases List.mem_cons.1 ht with rfl|ht
    ·exact⟨by simp,hql,k,by simpa using hi,t1⟩
    ·split at ht
     ·cases ht
     ·obtain⟨u1,u2,u3⟩:=t2 (by omega)
      exact ih (i+1) _ hks' u1 u2 u3 t (by rw[show((i+1:Nat):Int)=(i:Int)+1 by omega];exact ht)
  exact key e.kids 0 p (by rw[List.drop_zero]) (Int.le_refl _) hl (λ_ j hj=>by rw[needsE_eq,if_neg (by omega),if_pos h5];exact hj) t ht
 rw[if_neg h5]at ht
 by_cases h6:e.kind=6
 ·rw[if_pos h6]at ht
  have key:∀(ks:List Ex) (i:Nat),ks=e.kids.drop i->∀t∈altK (endE rs s E) ks i p,0<=t.Kid/\t.At<=s.length/\∃k,e.kids[t.Kid.toNat]?=some k/\Tries rs e k p t.At:=by
   intro ks
   induction ks with
   |nil=>intro i _ t ht;rw[altK]at ht;cases ht
   |cons k ks ih=>
    intro i hks t ht
    have hi:e.kids[i]?=some k:=by have:=congrArg (λl=>l[0]?) hks;simpa using this.symm
    have hks':ks=e.kids.drop (i+1):=by rw[drop_get hi]at hks;exact(List.cons.inj hks).2
    rw[altK]at ht
    rcases List.mem_cons.1 ht with rfl|ht
    ·exact⟨by simp,hl,k,by simpa using hi,kid_tries (List.mem_of_getElem? hi) (by omega) h5 (Int.le_refl _)⟩
    ·split at ht
     ·exact ih (i+1) hks' t (by rw[show((i+1:Nat):Int)=(i:Int)+1 by omega];exact ht)
     ·cases ht
  exact key e.kids 0 (by rw[List.drop_zero]) t ht
 rw[if_neg h6]at ht
 by_cases h7:e.kind=7\/e.kind=8
 ·rw[if_pos h7]at ht
  obtain⟨k,hk1⟩:=List.length_eq_one_iff.1 (g5 (by omega))
  have hkm:k∈e.kids:=by rw[hk1];simp
  have hhd:hdE rs s E e.kids=endE rs s E k:=by rw[hk1];funext q;rw[hdE]
  rw[hhd]at ht
  have key:∀(m:Nat) (q:Int),q<0\/(p<=q/\q<=s.length)->∀t∈staK (endE rs s E k) m q,0<=t.Kid/\t.At<=s.length/\∃k,e.kids[t.Kid.toNat]?=some k/\Tries rs e k p t.At:=by
   intro m
   induction m with
   |zero=>intro q _ t ht;rw[staK]at ht;cases ht
   |succ m ih=>
    intro q hq t ht
    rw[staK]at ht
    split at ht
    ·cases ht
    ·rcases List.mem_cons.1 ht with rfl|ht
     ·exact⟨by simp,by dsimp only;omega,k,by rw[hk1];rfl,kid_tries hkm (by omega) h5 (by dsimp only;omega)⟩
     ·exact ih _ (by rcases hT.res (hok.kid hkm) (p:=q) (by omega) (by omega)with h|h<;>omega) t ht
  exact key _ p (.inr ⟨Int.le_refl _,hl⟩) t ht
 rw[if_neg h7]at ht
 split at ht
 ·simp only[List.mem_singleton]at ht
  subst ht
  obtain⟨k,hk1⟩:=List.length_eq_one_iff.1 (g5 (by omega))
  exact⟨by simp,hl,k,by rw[hk1];rfl,kid_tries (by rw[hk1];simp) (by omega) h5 (Int.le_refl _)⟩
 ·cases ht
end Go.Proofs.Ytmnilbfhfjdelaa.core

namespace Go.Proofs.Ytmnilbfhfjdelaa.core
open Go.Gx Go.RowKit Go.ChangeShapes Go.WideShapes Go.ChangeAt
set_option linter.unusedVariables false
inductive Evt where
 |node (n p:Int) (e:Ex)
 |done (i p:Int)
inductive Job where
 |node (e:Ex) (n p:Int)
 |rule (i p:Int)
 |kids (L:List Ex) (n:Int) (l:List Tr)
def cnt (e:Ex):Nat:=(flatE e).length
def preN (L:List Ex) (i:Nat):Nat:=((L.take i).map cnt).sum
def fstN (rs:List Ru) (i:Nat):Nat:=((rs.take i).map λr=>cnt r.body).sum
inductive Goes (rs:List Ru) (s:List UInt8) (E:Nat->Nat->Int):Job->List Evt->List Evt->Prop where
 |ref {e:Ex} {n p:Int} {t t':List Evt} (h4:e.kind=4) (h:Goes rs s E (.rule (findR e.text rs 0) p) t t'):Goes rs s E (.node e n p) t (t'++[.node n p e])
 |inner {e:Ex} {n p:Int} {t t':List Evt} (h4:e.kind≠4) (h:Goes rs s E (.kids e.kids (n+1) (kidK rs s E e p)) t t'):Goes rs s E (.node e n p) t (t'++[.node n p e])
 |seen {i p:Int} {t:List Evt} (h: .done i p∈t):Goes rs s E (.rule i p) t t
 |rule {i p:Int} {r:Ru} {t t':List Evt} (hn:Evt.done i p∉t) (hr:rs[i.toNat]?=some r) (h:Goes rs s E (.node r.body (fstN rs i.toNat) p) t t'):Goes rs s E (.rule i p) t (t'++[.done i p])
 |nil {L:List Ex} {n:Int} {t:List Evt}:Goes rs s E (.kids L n []) t t
 |cons {L:List Ex} {n:Int} {k:Tr} {l:List Tr} {e:Ex} {t t1 t2:List Evt} (he:L[k.Kid.toNat]?=some e) (h1:Goes rs s E (.node e (n+preN L k.Kid.toNat) k.At) t t1) (h2:Goes rs s E (.kids L n l) t1 t2):Goes rs s E (.kids L n (k::l)) t t2
theorem goes_ex {rs:List Ru} {s:List UInt8} {E:Nat->Nat->Int} (hw:WellOk rs) (hT:Tab rs s E):∀(e:Ex) (p:Int),PegOk rs e->0<=p->p<=s.length->∀(n:Int) t,∃t',Goes rs s E (.node e n p) t t':=by
 refine peg_ind hw s.length _ λe p hok hp hl ihk ihr n t=>?_
 by_cases h4:e.kind=4
 ·have h0:=hok.good.ref h4
  obtain⟨rr,hrr⟩:=getN (l:=rs) (findR_lt h0).1
  by_cases hd:Evt.done (findR e.text rs 0) p∈t
  ·exact⟨_,.ref h4 (.seen hd)⟩
  ·obtain⟨t',ht⟩:=ihr h4 rr hrr (fstN rs (findR e.text rs 0).toNat) t
   exact⟨_,.ref h4 (.rule hd hrr ht)⟩
 ·have key:∀(l:List Tr),(∀k∈l,k∈kidK rs s E e p)->∀t,∃t',Goes rs s E (.kids e.kids (n+1) l) t t':=by
   intro l
   induction l with
   |nil=>exact λ_ t=>⟨t,.nil⟩
   |cons k l ih=>
    intro hm t
    obtain⟨_,hk1,x,hx,htr⟩:=kid_all hT hok hp hl k (hm k (by simp))
    obtain⟨t1,h1⟩:=ihk x k.At htr hk1 (n+1+preN e.kids k.Kid.toNat) t
    obtain⟨t2,h2⟩:=ih (λy hy=>hm y (by simp[hy])) t1
    exact⟨t2,.cons hx h1 h2⟩
  obtain⟨t',ht⟩:=key _ (λ_ h=>h) t
  exact⟨_,.inner h4 ht⟩
theorem preN_succ {L:List Ex} {i:Nat} {e:Ex} (h:L[i]?=some e):preN L (i+1)=preN L i+cnt e:=by
 unfold preN
 rw[List.take_add_one,h]
 simp
theorem fstN_succ {rs:List Ru} {i:Nat} {r:Ru} (h:rs[i]?=some r):fstN rs (i+1)=fstN rs i+cnt r.body:=by
 unfold fstN
 rw[List.take_add_one,h]
 simp
theorem cnt_kids (L:List Ex):(flatEs L).length=(L.map cnt).sum:=by
 induction L with
 |nil=>simp[flatEs]
 |cons k ks ih=>rw[flatEs,List.length_append,ih];simp[cnt]
theorem cnt_eq (e:Ex):cnt e=1+(e.kids.map cnt).sum:=by
 cases e with
 |mk k t x ks=>rw[cnt,flatE,List.length_cons,cnt_kids];simp[Ex.kids];omega
theorem cnt_pos (e:Ex):1<=cnt e:=by rw[cnt_eq];omega
theorem preN_kid {L:List Ex} {i:Nat} {e:Ex} (h:L[i]?=some e):preN L i+cnt e<=(L.map cnt).sum:=by
 rw[<-preN_succ h]
 have:=List.take_append_drop (i+1) L
 have e2:(L.map cnt).sum=preN L (i+1)+((L.drop (i+1)).map cnt).sum:=by
  conv=>lhs;rw[<-this]
  rw[List.map_append,List.sum_append];rfl
 omega
theorem fstN_rule {rs:List Ru} {i:Nat} {r:Ru} (h:rs[i]?=some r):fstN rs i+cnt r.body<=(rs.map λr=>cnt r.body).sum:=by
 rw[<-fstN_succ h]
 have:=List.take_append_drop (i+1) rs
 have e2:(rs.map λr=>cnt r.body).sum=fstN rs (i+1)+((rs.drop (i+1)).map λr=>cnt r.body).sum:=by
  conv=>lhs;rw[<-this]
  rw[List.map_append,List.sum_append];rfl
 omega
end Go.Proofs.Ytmnilbfhfjdelaa.core

namespace Go.Proofs.Ytmnilbfhfjdelaa.core
open Go.Gx Go.RowKit Go.ChangeShapes Go.WideShapes Go.ChangeAt
set_option linter.unusedVariables false
theorem count_is:∀(m:Nat) (e:Ex),SizeOf.sizeOf e<m->cnt e<=100000->∀(M:Mem) (x:X_api_Expr) (K:Value->Mem->Prop),ExR M e x->(∀M',M.le M'->K (.int .i64 (cnt e)) M')->S_pack_count x M (λ_=>False) K
 |0,_,h,_=>by omega
 |m+1,e,hm,hc=>λM x K hR hK=>by
  obtain⟨xs,hx⟩:=hR.open
  have hce:=cnt_eq e
  have hlen:e.kids.length<=(e.kids.map cnt).sum:=by
   have:∀L:List Ex,L.length<=(L.map cnt).sum:=λL=>by
    induction L with
    |nil=>simp
    |cons k ks ih=>simp only[List.length_cons,List.map_cons,List.sum_cons];have:=cnt_pos k;omega
   exact this _
  unfold S_pack_count
  refine⟨Unit,λ_ n i M'=>0<=i/\i<=e.kids.length/\n=1+(preN e.kids i.toNat:Nat)/\M.le M',λ_ _ i=>e.kids.length-i.toNat,(),⟨by omega,by omega,rfl,Mem.le.refl M⟩,λ_ n i M' ⟨i0,i1,hn,hle⟩=>⟨λhlt=>?_,λhge=>?_⟩⟩
  ·rw[hx.len]at hlt
   obtain⟨k,hk⟩:=getI (l:=e.kids) i0 hlt
   obtain⟨b,o,y,ha,hat,hy,_⟩:=hx.kid hk
   have hpk:=preN_kid hk
   have hsz:=Ex.kid_lt (List.mem_of_getElem? hk)
   refine⟨b,o,ha,i0,by rw[hx.len];exact hlt,y,hat.le hle,(s_pack_count _ _ _ _ (count_is m k (by omega) (by omega) _ _ _ (hy.le hle) λM2 hle2=>⟨_,rfl,?_,?_,(),⟨by omega,by omega,?_,hle.trans hle2⟩,?_⟩)).mono (λ_ h=>h.elim) (λv M' _ h=>h)⟩
   ·exact inI_small (by omega) (by omega)
   ·exact inI_small (by omega) (by omega)
   ·rw[show(i+1).toNat=i.toNat+1 by omega,preN_succ hk,hn];omega
   ·show e.kids.length-(i+1).toNat<e.kids.length-i.toNat
    omega
  ·rw[hx.len]at hge
   intro M2 hle2
   have:preN e.kids i.toNat=(e.kids.map cnt).sum:=by unfold preN;rw[List.take_of_length_le (by omega)]
   rw[hn,this,show(1:Int)+((e.kids.map cnt).sum:Nat)=((cnt e:Nat):Int) by rw[hce];omega]
   exact hK M2 (hle.trans hle2)
def cpl:List UInt8->List UInt8->Nat
 |a::u,b::v=>if a=b then cpl u v+1 else 0
 |_,_=>0
def missOf (rs:List Ru) (s:List UInt8) (E:Nat->Nat->Int):Evt->Option (Int×(Nat->Bool))
 | .node _ p e=>if endE rs s E e p<0 then(if e.kind=2 then some (p,bitS e.set) else if e.kind=3 then some (p+(cpl (s.drop p.toNat) e.text:Nat),λb=>decide ((e.text[cpl (s.drop p.toNat) e.text]?).map UInt8.toNat=some b)) else none) else none
 | .done _ _=>none
structure FW (rs:List Ru) (s:List UInt8) (E:Nat->Nat->Int) (t:List Evt) (far:Int) (want:X_api_Set):Prop where
 wf:wfS want
 lo: -1<=far
 ge:∀x∈t,∀m,missOf rs s E x=some m->m.1<=far
 bits:∀b,b<256->(bitS want b=true↔∃x∈t,∃m,missOf rs s E x=some m/\m.1=far/\m.2 b=true)
 ex:far= -1\/∃x∈t,∃m,missOf rs s E x=some m/\m.1=far
theorem bit_zero (b:Nat) (hb:b<256):bitS (X_api_Set.mk 0 0 0 0) b=false:=by
 have h:X_api_Set.mk 0 0 0 0=Us λ_=>false:=by
  have h1:=Us_bit (s:=X_api_Set.mk 0 0 0 0) (by unfold wfS;decide)
  rw[<-h1]
  exact Us_congr λb hb=>by
   have h4:∀i:Nat,([0,0,0,0]:List Nat)[i]?.getD 0=0:=λi=>by
    match i with
    |0=>rfl
    |1=>rfl
    |2=>rfl
    |3=>rfl
    |n+4=>rfl
   unfold bitS hasW
   simp[h4]
 rw[h,bit_Us hb]
theorem FW.init (rs:List Ru) (s:List UInt8) (E:Nat->Nat->Int):FW rs s E [] (-1) (X_api_Set.mk 0 0 0 0):=
 ⟨by unfold wfS;decide,Int.le_refl _,λx hx=>(by cases hx),λb hb=>by rw[bit_zero b hb];simp,.inl rfl⟩
theorem FW.skip {rs:List Ru} {s:List UInt8} {E:Nat->Nat->Int} {t:List Evt} {far:Int} {want:X_api_Set} (h:FW rs s E t far want) {x:Evt} (hx:missOf rs s E x=none):FW rs s E (t++[x]) far want:=by
 refine⟨h.wf,h.lo,λy hy m hm=>?_,λb hb=>?_,h.ex.imp id λ⟨y,hy,hm⟩=>⟨y,by simp[hy],hm⟩⟩
 ·rcases List.mem_append.1 hy with hy|hy
  ·exact h.ge y hy m hm
  ·simp only[List.mem_singleton]at hy;rw[hy,hx]at hm;cases hm
 ·rw[h.bits b hb]
  refine⟨λ⟨y,hy,hm⟩=>⟨y,by simp[hy],hm⟩,λ⟨y,hy,m,hm,hr⟩=>?_⟩
  rcases List.mem_append.1 hy with hy|hy
  ·exact⟨y,hy,m,hm,hr⟩
  ·simp only[List.mem_singleton]at hy;rw[hy,hx]at hm;cases hm
def Missed (far:Int) (want:X_api_Set) (p:Int) (f:Nat->Bool) (far':Int) (want':X_api_Set):Prop:=
 wfS want'/\far'=(if far<p then p else far)/\∀b,b<256->bitS want' b=if far<p then f b else if p=far then(bitS want b||f b) else bitS want b
theorem FW.miss {rs:List Ru} {s:List UInt8} {E:Nat->Nat->Int} {t:List Evt} {far far' p:Int} {want want':X_api_Set} {f:Nat->Bool} (h:FW rs s E t far want) (hp:0<=p) {x:Evt} (hx:missOf rs s E x=some (p,f)) (hm:Missed far want p f far' want'):FW rs s E (t++[x]) far' want':=by
 obtain⟨h1,h2,h3⟩:=hm
 have hlo:=h.lo
 refine⟨h1,by split at h2<;>omega,λy hy m hm=>?_,λb hb=>?_,.inr ?_⟩
 ·rcases List.mem_append.1 hy with hy|hy
  ·have:=h.ge y hy m hm
   split at h2<;>omega
  ·simp only[List.mem_singleton]at hy
   rw[hy,hx]at hm
   cases hm
   show p<=far'
   split at h2<;>omega
 ·rw[h3 b hb]
  have hb':=h.bits b hb
  by_cases hlt:far<p
  ·rw[if_pos hlt]at h2 ⊢
   subst h2
   refine⟨λhf=>⟨x,by simp,_,hx,rfl,hf⟩,λ⟨y,hy,m,hm,hmp,hmb⟩=>?_⟩
   rcases List.mem_append.1 hy with hy|hy
   ·have:=h.ge y hy m hm;omega
   ·simp only[List.mem_singleton]at hy
    rw[hy,hx]at hm;cases hm;exact hmb
  ·rw[if_neg hlt]at h2 ⊢
   subst h2
   by_cases he:p=far'
   ·rw[if_pos he,Bool.or_eq_true,hb']
    refine⟨λhf=>?_,λ⟨y,hy,m,hm,hmp,hmb⟩=>?_⟩
    ·rcases hf with⟨y,hy,hr⟩|hf
     ·exact⟨y,by simp[hy],hr⟩
     ·exact⟨x,by simp,_,hx,he,hf⟩
    ·rcases List.mem_append.1 hy with hy|hy
     ·exact .inl ⟨y,hy,m,hm,hmp,hmb⟩
     ·simp only[List.mem_singleton]at hy
      rw[hy,hx]at hm;cases hm;exact .inr hmb
   ·rw[if_neg he,hb']
    refine⟨λ⟨y,hy,hr⟩=>⟨y,by simp[hy],hr⟩,λ⟨y,hy,m,hm,hmp,hmb⟩=>?_⟩
    rcases List.mem_append.1 hy with hy|hy
    ·exact⟨y,hy,m,hm,hmp,hmb⟩
    ·simp only[List.mem_singleton]at hy
     rw[hy,hx]at hm;cases hm;exact absurd hmp he
 ·by_cases hlt:far<p
  ·rw[if_pos hlt]at h2;exact⟨x,by simp,_,hx,h2.symm⟩
  ·rw[if_neg hlt]at h2
   subst h2
   rcases h.ex with h'|⟨y,hy,m,hm⟩
   ·by_cases he:p=far'
    ·exact⟨x,by simp,_,hx,he⟩
    ·omega
   ·exact⟨y,by simp[hy],m,hm⟩
end Go.Proofs.Ytmnilbfhfjdelaa.core

namespace Go.Proofs.Ytmnilbfhfjdelaa.core
open Go.Gx Go.RowKit Go.ChangeShapes Go.WideShapes Go.ChangeAt
set_option linter.unusedVariables false
theorem At.blk {M:Mem} {b:Nat} {cs:List Value} {t:TypeId} {f:Nat×Nat} (h:M b=some (.cells cs.toArray t f)):At M b 0 cs:=λj v hj=>by
 unfold Mem.cell
 rw[h,Nat.zero_add]
 simpa using hj
theorem Has.blk {M:Mem} {b o k:Nat} {cs:List Value} {t:TypeId} (h:M b=some (.cells cs.toArray t (0,0))) (hk:o+k<=cs.length):Has M b o k:=⟨_,_,h,by simpa using hk⟩
def logOf (E:Nat->Nat->Int) (t:List Evt):List X_api_Step:=t.filterMap λx=>match x with
 | .done i p=>some ⟨i,p,outE (E p.toNat i.toNat) p⟩
 | .node _ _ _=>none
theorem logOf_node (E:Nat->Nat->Int) (t:List Evt) (n p:Int) (e:Ex):logOf E (t++[.node n p e])=logOf E t:=by simp[logOf]
theorem logOf_done (E:Nat->Nat->Int) (t:List Evt) (i p:Int):logOf E (t++[.done i p])=logOf E t++[⟨i,p,outE (E p.toNat i.toNat) p⟩]:=by simp[logOf]
theorem St_one (x:X_api_Step):∀u∈x.cells,u.oneCell'=true:=by
 intro u hu
 simp only[X_api_Step.cells,List.mem_cons,List.not_mem_nil,or_false]at hu
 rcases hu with rfl|rfl|rfl|rfl<;>rfl
theorem nodup_bound:∀(n:Nat) (l:List Nat),l.Nodup->(∀x∈l,x<n)->l.length<=n
 |0,l,_,h=>by
  cases l with
  |nil=>simp
  |cons a l=>have:=h a (by simp);omega
 |n+1,l,hn,h=>by
  by_cases hm:n∈l
  ·have h1:=nodup_bound n (l.erase n) (hn.sublist List.erase_sublist) λx hx=>by
    have hx2:=List.mem_of_mem_erase hx
    have:=h x hx2
    have hne:x≠n:=λe=>by
     subst e
     exact(List.Nodup.not_mem_erase hn) hx
    omega
   have:=List.length_erase_of_mem hm
   omega
  ·have:=nodup_bound n l hn λx hx=>by
    have:=h x hx
    have hne:x≠n:=λe=>hm (e▸hx)
    omega
   omega
def keyS (x:X_api_Step):Nat:=x.Rule.toNat*61+x.At.toNat
theorem logOf_mem {E:Nat->Nat->Int} {t:List Evt} {x:X_api_Step}:x∈logOf E t↔.done x.Rule x.At∈t/\x.Out=outE (E x.At.toNat x.Rule.toNat) x.At:=by
 unfold logOf
 rw[List.mem_filterMap]
 constructor
 ·rintro⟨y,hy,h⟩
  cases y with
  |node n p e=>cases h
  |done i p=>simp only[Option.some.injEq]at h;subst h;exact⟨hy,rfl⟩
 ·rintro⟨h1,h2⟩
  refine⟨_,h1,?_⟩
  cases x
  simp only at h2 ⊢
  rw[h2]
structure PkC where
 V:Mem
 rs:List Ru
 s:List UInt8
 E:Nat->Nat->Int
 pb:Nat
 r:Nat
 ga:Option Addr
 fa:Option Addr
 gl:Nat
 gc:Nat
 fc:Nat
 nodeV:Value
 JB:Nat->Prop
 J:List Evt->Mem->Prop
 tot:Nat
abbrev PkC.res (c:PkC) (e:Ex) (p:Int):Int:=endE c.rs c.s c.E e p
abbrev PkC.LV (c:PkC):Nat->Prop:=λb=>c.V b=none
abbrev PkC.ptr (c:PkC):Option Addr:=some ⟨c.pb,0,none⟩
abbrev PkC.cells (c:PkC) (la:Option Addr) (ln lc:Nat) (far:Int) (want:X_api_Set):List Value:=(X_pack_Parser.mk c.ga c.gl c.gc c.s (some c.r) la ln lc far want c.nodeV c.fa c.rs.length c.fc).cells
structure PkC.Ok (c:PkC):Prop where
 hw:WellOk c.rs
 hT:Tab c.rs c.s c.E
 s60:c.s.length<=60
 gr:GrR c.V c.rs c.ga c.gl c.gc
 fst:∀i,i<c.rs.length->∃b o,c.fa=some ⟨b,o,none⟩/\At c.V b (o+i*1) [Value.int .i64 (fstN c.rs i:Nat)]
 pbV:c.V c.pb=none
 rV:c.V c.r=none
 pr:c.pb≠c.r
 jpb:¬c.JB c.pb
 jr:¬c.JB c.r
 jV:∀b,c.JB b->c.V b=none
 frame:∀t M M',c.J t M->(∀b,c.JB b->M' b=M b)->c.J t M'
 has:∀t M,c.J t M->∀b,c.JB b->(M b).isSome=true
 node:∃nil,FnNil c.nodeV nil/\(nil=true->∀t (n p:Int) e M,c.J t M->c.J (t++[.node n p e]) M)/\(nil=false->∀t (n p:Int) e M,0<=n->n<c.tot->c.J t M->CallFW Try.prog c.nodeV [.int .i64 n,.bool (decide (0<=c.res e p))] M c.JB (λv M'=>v= .tuple #[]/\c.J (t++[.node n p e]) M'))
 done:∀t i p M,c.J t M->c.J (t++[.done i p]) M
 tot:(c.rs.map λr=>cnt r.body).sum<=c.tot
 small:c.tot<=100000
structure PB (c:PkC) (t:List Evt) (far:Int) (want:X_api_Set) (M:Mem):Prop where
 le:c.V.le M
 bk:∃la lc,M c.pb=some (.cells (c.cells la (logOf c.E t).length lc far want).toArray 155 (0,0))/\RowW M 188 4 la (logOf c.E t).length lc (cl X_api_Step.cells (logOf c.E t))/\∀g,la=some ⟨g,0,none⟩->c.V g=none/\¬c.JB g/\g≠c.pb/\g≠c.r
 mp:∃f,MapF M c.r f/\∀i p v,f i p=some v↔(Evt.done i p∈t/\v=(outE (c.E p.toNat i.toNat) p).val)
 j:c.J t M
 ks:((logOf c.E t).map keyS).Nodup/\∀i p,Evt.done i p∈t->0<=i/\i<c.rs.length/\0<=p/\p<=c.s.length
def PI (c:PkC) (t:List Evt) (M:Mem):Prop:=∃far want,FW c.rs c.s c.E t far want/\PB c t far want M
theorem Mem.le.eq {M M':Mem} (h:M.le M') {b:Nat} (hb:(M b).isSome=true):M' b=M b:=by
 obtain⟨o,ho⟩:=Option.isSome_iff_exists.1 hb
 rw[ho];exact h b o ho
section
variable {c:PkC} {t:List Evt} {far:Int} {want:X_api_Set} {M:Mem}
theorem PB.keep (hc:c.Ok) (h:PB c t far want M) {M':Mem} {t':List Evt} (hlog:logOf c.E t'=logOf c.E t) (hd:∀i p,Evt.done i p∈t'↔Evt.done i p∈t) (hk:∀b o,M b=some o->¬c.JB b->M' b=some o) (hj:c.J t' M'):PB c t' far want M':=by
 obtain⟨la,lc,h1,h2,h3⟩:=h.bk
 refine⟨λb o hb=>hk b o (h.le b o hb) λhJ=>(by rw[hc.jV b hJ]at hb;cases hb),?_,?_,hj,by rw[hlog];exact h.ks.1,λi p hi=>h.ks.2 i p ((hd i p).1 hi)⟩
 ·rw[hlog];exact⟨la,lc,hk _ _ h1 hc.jpb,h2.same λg o hg ho=>hk g o ho (h3 g hg).2.1,h3⟩
 ·obtain⟨f,⟨es,clk,h4,h5⟩,h6⟩:=h.mp
  exact⟨f,⟨es,clk,hk _ _ h4 hc.jr,h5⟩,λi p v=>by rw[h6 i p v,hd i p]⟩
theorem PB.up (hc:c.Ok) (h:PB c t far want M) {M':Mem} (hl:M.le M'):PB c t far want M':=
 h.keep hc rfl (λ_ _=>Iff.rfl) (λb o hb _=>hl b o hb) (hc.frame _ _ _ h.j λb hb=>Mem.le.eq hl (hc.has _ _ h.j b hb))
theorem PI.up (hc:c.Ok) (h:PI c t M) {M':Mem} (hl:M.le M'):PI c t M':=by
 obtain⟨far,want,h1,h2⟩:=h
 exact⟨far,want,h1,h2.up hc hl⟩
theorem PB.at (h:PB c t far want M):∃la lc,At M c.pb 0 (c.cells la (logOf c.E t).length lc far want):=by
 obtain⟨la,lc,h1,_⟩:=h.bk
 exact⟨la,lc,At.blk h1⟩
theorem PB.put (hc:c.Ok) (h:PB c t far want M) (k:Nat) (vs:List Value) {far':Int} {want':X_api_Set} (hp:∀la ln lc,putAt (c.cells la ln lc far want) k vs=c.cells la ln lc far' want'):PB c t far' want' (M.put c.pb k vs):=by
 obtain⟨la,lc,h1,h2,h3⟩:=h.bk
 have hne:∀b,b≠c.pb->(M.put c.pb k vs) b=M b:=λb hb=>Mem.put_ne hb
 refine⟨λb o hb=>?_,⟨la,lc,?_,h2.same λg o hg ho=>by rw[hne g (h3 g hg).2.2.1];exact ho,h3⟩,?_,hc.frame _ _ _ h.j λb hb=>hne b λe=>hc.jpb (e▸hb),h.ks⟩
 ·rw[hne b (λe=>by rw[e,hc.pbV]at hb;cases hb)];exact h.le b o hb
 ·rw[Mem.put_eq h1]
  have:=hp la (logOf c.E t).length lc
  simp only at this ⊢
  rw[this]
 ·obtain⟨f,⟨es,clk,h4,h5⟩,h6⟩:=h.mp
  exact⟨f,⟨es,clk,by rw[hne _ hc.pr.symm];exact h4,h5⟩,h6⟩
theorem PB.node (hc:c.Ok) (h:PB c t far want M) {M':Mem} (hk:∀b o,M b=some o->¬c.JB b->M' b=some o) {n p:Int} {e:Ex} (hj:c.J (t++[.node n p e]) M'):PB c (t++[.node n p e]) far want M':=
 h.keep hc (logOf_node _ _ _ _ _) (λi q=>by simp) hk hj
theorem PB.room (hc:c.Ok) (h:PB c t far want M):(logOf c.E t).length<=610:=by
 have h10:=hc.hw.ok.ten
 have hs60:=hc.s60
 have:=nodup_bound 610 _ h.ks.1 λx hx=>by
  obtain⟨y,hy,rfl⟩:=List.mem_map.1 hx
  have:=h.ks.2 _ _ (logOf_mem.1 hy).1
  unfold keyS
  omega
 simpa using this
theorem miss_is (hc:c.Ok) (h:PB c t far want M) (hwf:wfS want) {p:Int} {w:X_api_Set} (hw:wfS w) {K:Value->Mem->Prop}
  (hK:∀M' far' want',PB c t far' want' M'->Missed far want p (bitS w) far' want'->K (.tuple #[]) M'):S_pack_Parser_miss c.ptr p w M c.LV K:=by
 have has:∀{far want M k n},PB c t far want M->k+n<=11->Has M c.pb (0+k) n:=λh hk=>by
  obtain⟨la,lc,h1,_⟩:=h.bk
  exact Has.blk h1 (by rw[Nat.zero_add];exact hk)
 have atFar:∀{far want M},PB c t far want M->At M c.pb (0+4) [.int .i64 far]:=λh=>by
  obtain⟨la,lc,h1⟩:=h.at
  exact h1.part 4 [.int .i64 _] rfl
 have atWant:∀{far want M},PB c t far want M->At M c.pb (0+5) want.cells:=λh=>by
  obtain⟨la,lc,h1⟩:=h.at
  exact h1.part 5 (X_api_Set.cells _) rfl
 unfold S_pack_Parser_miss
 have j1:∀(M':Mem) (far1:Int) (want1:X_api_Set),PB c t far1 want1 M'->wfS want1->(far1=if far<p then p else far)->(∀b,b<256->bitS want1 b=if far<p then false else bitS want b)->S_pack_Parser_miss_J1 c.ptr p w M c.LV M' K:=by
  intro M' far1 want1 hB hwf1 hf1 hb1
  unfold S_pack_Parser_miss_J1
  refine⟨c.pb,0,rfl,far1,atFar hB,λhe=>⟨c.pb,0,rfl,want1,atWant hB,s_set_Join _ _ _ _ (join_is hwf1 hw _ ⟨_,rfl,c.pb,0,rfl,has hB (by omega),.inl hc.pbV,λM2 hM2 M3 hle=>?_⟩)⟩,λhne M3 hle=>?_⟩
  ·refine hK M3 far1 (Us λb=>bitS want1 b||bitS w b) ?_ ⟨Us_wf _,hf1,λb hb=>?_⟩
   ·rw[hM2]at hle
    exact(hB.put hc (0+5) _ λla ln lc=>rfl).up hc hle
   ·rw[bit_Us hb,hb1 b hb]
    by_cases hlt:far<p
    ·rw[if_pos hlt,if_pos hlt];simp
    ·rw[if_neg hlt]at hf1
     rw[if_neg hlt,if_neg hlt,if_pos (by omega)]
  ·refine hK M3 far1 want1 (hB.up hc hle) ⟨hwf1,hf1,λb hb=>?_⟩
   by_cases hlt:far<p
   ·rw[if_pos hlt]at hf1;exact absurd hf1.symm hne
   ·rw[if_neg hlt]at hf1
    rw[hb1 b hb,if_neg hlt,if_neg hlt,if_neg (by omega)]
 refine⟨c.pb,0,rfl,far,atFar h,λhgt=>⟨c.pb,0,rfl,has h (by omega),.inl hc.pbV,λM10 hM10=>?_⟩,λhle=>j1 M far want h hwf (by rw[if_neg (by omega)]) λb _=>by rw[if_neg (by omega)]⟩
 have hB1:PB c t p want M10:=by rw[hM10];exact h.put hc (0+4) _ λla ln lc=>rfl
 refine⟨c.pb,0,rfl,has hB1 (by omega),.inl hc.pbV,λM13 hM13=>?_⟩
 have hB2:PB c t p (X_api_Set.mk 0 0 0 0) M13:=by rw[hM13];exact hB1.put hc (0+5) _ λla ln lc=>rfl
 exact j1 M13 p _ hB2 (by unfold wfS;decide) (by rw[if_pos (by omega)]) λb hb=>by rw[if_pos (by omega),bit_zero b hb]
def NodeOk (c:PkC) (e:Ex) (n p:Int) (t t1:List Evt):Prop:=∀(M:Mem) (x:X_api_Expr) (K:Value->Mem->Prop),ExR c.V e x->PI c t M->
 (∀M' to far want,PB c t1 far want M'->FW c.rs c.s c.E (t1++[.node n p e]) far want->(0<=c.res e p->to=c.res e p)->K (.tuple #[.int .i64 to,.bool (decide (0<=c.res e p))]) M')->S_pack_Parser_node c.ptr x n p M c.LV K
def TryOk (c:PkC) (e:Ex) (n p:Int) (t t':List Evt):Prop:=∀(M:Mem) (x:X_api_Expr) (K:Value->Mem->Prop),ExR c.V e x->PI c t M->
 (∀M' to,PI c t' M'->(0<=c.res e p->to=c.res e p)->K (.tuple #[.int .i64 to,.bool (decide (0<=c.res e p))]) M')->S_pack_Parser_try c.ptr x n p M c.LV K
theorem try_is (hc:c.Ok) {e:Ex} {n p:Int} {t1:List Evt} (hn0:0<=n) (hn1:n<c.tot) (h:NodeOk c e n p t t1):TryOk c e n p t (t1++[.node n p e]):=by
 intro M x K hR hP hK
 obtain⟨nil,hnil,hyes,hno⟩:=hc.node
 have atN:∀{far want M},PB c t1 far want M->At M c.pb (0+9) [c.nodeV]:=λh=>by
  obtain⟨la,lc,h1⟩:=h.at
  exact h1.part 9 [c.nodeV] rfl
 unfold S_pack_Parser_try
 refine(s_pack_Parser_node _ _ _ _ _ _ _ (h M x _ hR hP λM' to far want hB hF hto=>⟨to,_,rfl,c.pb,0,rfl,c.nodeV,atN hB,nil,hnil,λhn=>?_,λhn=>?_⟩)).mono (λg h=>.inl h) (λv M' _ h=>h)
 ·have hf:nil=false:=by simpa using hn
  refine⟨c.pb,0,rfl,c.nodeV,atN hB,(hno hf t1 n p e M' hn0 hn1 hB.j).mono (λb hb=>.inl (hc.jV b hb)) λv M2 hle2 ⟨hv,hJ⟩=>⟨hv,?_⟩⟩
  unfold S_pack_Parser_try_J1
  intro M3 hle
  exact hK M3 to ⟨far,want,hF,(hB.node hc (λb o hb hj=>hle2.keep b o hb hj) hJ).up hc hle⟩ hto
 ·have ht:nil=true:=by simpa using hn
  unfold S_pack_Parser_try_J1
  intro M2 hle
  have hB2:=hB.up hc hle
  exact hK M2 to ⟨far,want,hF,hB2.node hc (λb o hb _=>hb) (hyes ht t1 n p e M2 hB2.j)⟩ hto
end
end Go.Proofs.Ytmnilbfhfjdelaa.core

namespace Go.Proofs.Ytmnilbfhfjdelaa.core
open Go.Gx Go.RowKit Go.ChangeShapes Go.WideShapes Go.ChangeAt
set_option linter.unusedVariables false
def ChainOk (c:PkC) (L:List Ex) (n:Int):List Tr->List Evt->List Evt->Prop
 |[],t,t'=>t=t'
 |k::l,t,t'=>∃e t1,L[k.Kid.toNat]?=some e/\(PegOk c.rs e->0<=k.At->k.At<=c.s.length->0<=n+preN L k.Kid.toNat->n+preN L k.Kid.toNat+cnt e<=c.tot->TryOk c e (n+preN L k.Kid.toNat) k.At t t1)/\ChainOk c L n l t1 t'
theorem PI.le {c:PkC} {t:List Evt} {M:Mem} (h:PI c t M):c.V.le M:=by obtain⟨_,_,_,h⟩:=h;exact h.le
section
variable {c:PkC} {e:Ex} {n p:Int} {t t1:List Evt}
theorem kid_room (hn1:n+cnt e<=c.tot) {i:Nat} {k:Ex} (hk:e.kids[i]?=some k):n+1+preN e.kids i+cnt k<=c.tot:=by
 have:=preN_kid hk
 have:=cnt_eq e
 omega
theorem kid_cnt {i:Nat} {k:Ex} (hk:e.kids[i]?=some k):cnt k<=cnt e:=by
 have:=preN_kid hk
 have:=cnt_eq e
 omega
theorem seq_is (hc:c.Ok) (h5:e.kind=5) (hok:PegOk c.rs e) (hp:0<=p) (hl:p<=c.s.length) (hn0:0<=n) (hn1:n+cnt e<=c.tot) (hch:ChainOk c e.kids (n+1) (kidK c.rs c.s c.E e p) t t1) {M:Mem} {x:X_api_Expr} {K:Value->Mem->Prop} (hR:ExR c.V e x) (hP:PI c t M)
  (hK:∀M' to,PI c t1 M'->(0<=c.res e p->to=c.res e p)->K (.tuple #[.int .i64 to,.bool (decide (0<=c.res e p))]) M'):S_pack_Parser_seq c.ptr x n p M c.LV K:=by
 obtain⟨xs,hx⟩:=hR.open
 have hsm:=hc.small
 have hl8:=kids8 hok.good
 have hres:c.res e p=seqE c.rs c.s c.E e.kids p:=by
  unfold PkC.res;rw[endE_eq,if_neg (by omega),if_neg (by omega),if_neg (by omega),if_neg (by omega),if_pos h5]
 unfold kidK at hch
 rw[if_pos h5]at hch
 unfold S_pack_Parser_seq
 refine⟨inI_small (by omega) (by omega),List Evt,λt' q k i M'=>0<=i/\i<=e.kids.length/\0<=q/\q<=c.s.length/\k=n+1+preN e.kids i.toNat/\PI c t' M'/\ChainOk c e.kids (n+1) (seqK (endE c.rs c.s c.E) (e.kids.drop i.toNat) i q) t' t1/\seqE c.rs c.s c.E (e.kids.drop i.toNat) q=c.res e p,λ_ _ _ i=>e.kids.length-i.toNat,t,
  ⟨by omega,by omega,hp,hl,by simp[preN],hP,by simpa using hch,by rw[hres];rfl⟩,λt' q k i M' ⟨i0,i1,q0,q1,hkn,hP',hch',hrs⟩=>⟨λhlt=>?_,λhge=>?_⟩⟩
 ·rw[hx.len]at hlt
  obtain⟨ke,hk⟩:=getI (l:=e.kids) i0 hlt
  have hkm:=List.mem_of_getElem? hk
  obtain⟨b,o,y,ha,hat,hy,_⟩:=hx.kid hk
  rw[drop_get hk,seqK]at hch'
  rw[drop_get hk,seqE]at hrs
  obtain⟨e',t2,he',hT',hrest⟩:=hch'
  simp only at he' hT'
  rw[hk]at he';cases he'
  have hroom:=kid_room hn1 hk
  have hcnt:=kid_cnt hk
  have hkr:c.res ke q= -1\/(q<=c.res ke q/\c.res ke q<=c.s.length):=hc.hT.res (hok.kid hkm) q0 q1
  have hT':=hT' (hok.kid hkm) q0 q1 (by omega) hroom
  rw[<-hkn]at hT'
  refine⟨b,o,ha,i0,by rw[hx.len];exact hlt,y,hat.le hP'.le,(s_pack_Parser_try _ _ _ _ _ _ _ (hT' M' y _ hy hP' λM2 to hP2 hto=>⟨to,_,rfl,λhno=>?_,λhyes=>?_⟩)).mono (λg h=>.inl h) (λv M' _ h=>h)⟩
  ·have h0:c.res ke q<0:=by simpa using hno
   rw[if_pos h0]at hrest hrs
   have hrest:t2=t1:=hrest
   subst hrest
   intro M3 hle
   have:=hK M3 0 (hP2.up hc hle) (λh=>by rw[<-hrs]at h;exact absurd h0 (Int.not_lt.2 h))
   rw[decide_eq_false (by rw[<-hrs];exact Int.not_le.2 h0)]at this
   exact this
  ·have h0:0<=c.res ke q:=by simpa using hyes
   rw[if_neg (Int.not_lt.2 h0)]at hrest hrs
   have hto:=hto h0
   subst hto
   refine(s_pack_count _ _ _ _ (count_is _ ke (Nat.lt_succ_self _) (by omega) _ _ _ (hy.le hP2.le) λM3 hle3=>⟨_,rfl,?_,?_,t2,⟨by omega,by omega,h0,by omega,?_,hP2.up hc hle3,?_,?_⟩,?_⟩)).mono (λ_ h=>h.elim) (λv M' _ h=>h)
   ·exact inI_small (by omega) (by omega)
   ·exact inI_small (by omega) (by omega)
   ·rw[show(i+1).toNat=i.toNat+1 by omega,preN_succ hk,hkn];push_cast;omega
   ·rw[show(i+1).toNat=i.toNat+1 by omega];exact hrest
   ·rw[show(i+1).toNat=i.toNat+1 by omega];exact hrs
   ·show e.kids.length-(i+1).toNat<e.kids.length-i.toNat
    omega
 ·rw[hx.len]at hge
  rw[List.drop_of_length_le (by omega),seqK]at hch'
  rw[List.drop_of_length_le (by omega),seqE]at hrs
  have hch':t'=t1:=hch'
  subst hch'
  intro M2 hle
  have:=hK M2 q (hP'.up hc hle) (λ_=>hrs)
  rw[decide_eq_true (by rw[<-hrs];exact q0)]at this
  exact this
theorem not_two {z p l:Int} (h:z= -1\/(p<=z/\z<=l)) (hp:0<=p):z≠-2:=by omega
theorem single_is (hc:c.Ok) (h7:7<=e.kind) (hok:PegOk c.rs e) (hp:0<=p) (hl:p<=c.s.length) (hn0:0<=n) (hn1:n+cnt e<=c.tot) (hch:ChainOk c e.kids (n+1) (kidK c.rs c.s c.E e p) t t1) {M:Mem} {x:X_api_Expr} {K:Value->Mem->Prop} (hR:ExR c.V e x) (hP:PI c t M)
  (hK:∀M' to,PI c t1 M'->(0<=c.res e p->to=c.res e p)->K (.tuple #[.int .i64 to,.bool (decide (0<=c.res e p))]) M'):S_pack_Parser_single c.ptr x n p M c.LV K:=by
 obtain⟨xs,hx⟩:=hR.open
 have hsm:=hc.small
 obtain⟨g1,g2,g3,g4,g5,g6,_⟩:=fitE_kinds hok.good.fit
 obtain⟨k,hk1⟩:=List.length_eq_one_iff.1 (g5 h7)
 have hk:e.kids[(0:Int).toNat]?=some k:=by rw[hk1];rfl
 have hkm:k∈e.kids:=by rw[hk1];simp
 obtain⟨b,o,y,ha,hat,hy,_⟩:=hx.kid hk
 have hroom:=kid_room hn1 hk
 have hp0:preN e.kids (0:Int).toNat=0:=by simp[preN]
 have hkr:c.res k p= -1\/(p<=c.res k p/\c.res k p<=c.s.length):=hc.hT.res (hok.kid hkm) hp hl
 have hhd:hdE c.rs c.s c.E e.kids=endE c.rs c.s c.E k:=by rw[hk1];funext q;rw[hdE]
 have hres:c.res e p=if e.kind=7\/e.kind=8 then strE (endE c.rs c.s c.E k) (decide (e.kind=8)) (c.s.length+2) p true else oneE e.kind p (c.res k p):=by
  unfold PkC.res;rw[endE_eq,if_neg (by omega),if_neg (by omega),if_neg (by omega),if_neg (by omega),if_neg (by omega),if_neg (by omega),hhd]
 have hkk:kidK c.rs c.s c.E e p=⟨0,p⟩::(if e.kind=7\/e.kind=8 then staK (endE c.rs c.s c.E k) (c.s.length+2) (c.res k p) else[]):=by
  unfold kidK
  rw[if_neg (by omega),if_neg (by omega)]
  by_cases h78:e.kind=7\/e.kind=8
  ·rw[if_pos h78,if_pos h78,staK,if_neg (by omega),hhd]
  ·rw[if_neg h78,if_neg h78,if_pos (by omega)]
 rw[hkk]at hch
 obtain⟨e',t2,he',hT',hrest⟩:=hch
 simp only at he' hT'
 rw[hk]at he';cases he'
 have hT':=hT' (hok.kid hkm) hp hl (by omega) hroom
 have hone:∀q,(((n+1:Int)+(preN e.kids (0:Int).toNat:Nat)))=n+1+q->q=0:=λq h=>by rw[hp0]at h;omega
 rw[hp0,show(n+1:Int)+((0:Nat):Int)=n+1 by omega]at hT'
 unfold S_pack_Parser_single
 rw[hx.kind]
 have hkl:0<((x.Kids_l:Nat):Int):=by rw[hx.len,hk1];simp
 refine⟨b,o,ha,by omega,hkl,y,hat.le hP.le,inI_small (by omega) (by omega),(s_pack_Parser_try _ _ _ _ _ _ _ (hT' M y _ hy hP λM2 to hP2 hto=>⟨to,_,rfl,λk10=>?_,λn10=>⟨λk11=>?_,λn11=>⟨λhno=>?_,λhyes=>?_⟩⟩⟩)).mono (λg h=>.inl h) (λv M' _ h=>h)⟩
 ·rw[if_neg (by omega)]at hrest hres
  have hrest:t2=t1:=hrest
  subst hrest
  intro M3 hle
  unfold oneE at hres
  rw[if_neg (by omega),if_neg (by omega)]at hres
  have:=hK M3 p (hP2.up hc hle) (λh=>by split at hres<;>omega)
  rw[show decide (0<=c.res e p)=decide (0<=c.res k p) by rw[decide_eq_decide];split at hres<;>omega]at this
  exact this
 ·rw[if_neg (by omega)]at hrest hres
  have hrest:t2=t1:=hrest
  subst hrest
  intro M3 hle
  unfold oneE at hres
  rw[if_neg (by omega),if_neg (by omega)]at hres
  have:=hK M3 p (hP2.up hc hle) (λh=>by split at hres<;>omega)
  rw[show decide (0<=c.res e p)= !decide (0<=c.res k p) by rw[Bool.eq_iff_iff,Bool.not_eq_true',decide_eq_true_iff,decide_eq_false_iff_not];split at hres<;>omega]at this
  exact this
 ·have h0:c.res k p<0:=by simpa using hno
  intro M3 hle
  have hend:t2=t1:=by
   by_cases h78:e.kind=7\/e.kind=8
   ·rw[if_pos h78,staK,if_pos h0]at hrest;exact hrest
   ·rw[if_neg h78]at hrest;exact hrest
  subst hend
  have hval:c.res e p=if e.kind=8 then c.res k p else p:=by
   rw[hres]
   by_cases h78:e.kind=7\/e.kind=8
   ·rw[if_pos h78,strE]
    by_cases h8:e.kind=8
    ·rw[if_pos (.inr ⟨h0,rfl,by simpa using h8⟩),if_pos h8]
    ·rw[if_neg (λh=>h.elim (not_two hkr hp) λh=>h8 (by simpa using h.2.2)),if_pos h0,if_neg h8]
   ·rw[if_neg h78,if_neg (by omega)]
    unfold oneE
    rw[if_neg (by omega),if_neg (by omega),if_neg (by omega)]
  have:=hK M3 p (hP2.up hc hle) (λh=>by split at hval<;>omega)
  rw[show decide (0<=c.res e p)=(e.kind != (8:Int)) by rw[Bool.eq_iff_iff,decide_eq_true_iff,bne_iff_ne];split at hval<;>omega]at this
  exact this
 ·have h0:0<=c.res k p:=by simpa using hyes
  have hto:=hto h0
  subst hto
  refine⟨List Evt×Nat,λg q M'=>0<=q/\q<=c.s.length/\PI c g.1 M'/\(e.kind=7\/e.kind=8->ChainOk c e.kids (n+1) (staK (endE c.rs c.s c.E k) (g.2+1) q) g.1 t1/\strE (endE c.rs c.s c.E k) (decide (e.kind=8)) g.2 q false=c.res e p/\c.s.length+1<=q+g.2)/\(¬(e.kind=7\/e.kind=8)->g.1=t1/\q=c.res e p),λ_ q=>(c.s.length+1-q).toNat,(t2,c.s.length+1),
   ⟨h0,by omega,hP2,λh78=>⟨by rw[if_pos h78]at hrest;exact hrest,?_,?_⟩,λh78=>⟨by rw[if_neg h78]at hrest;exact hrest,?_⟩⟩,λg q M' ⟨q0,q1,hP',hl78,hl9⟩=>⟨λn9=>?_,λk9=>?_⟩⟩
  ·rw[if_pos h78,strE,if_neg (λh=>h.elim (not_two hkr hp) λh=>Int.not_lt.2 h0 h.1),if_neg (Int.not_lt.2 h0)]at hres
   exact hres.symm
  ·have:(e.kind=7\/e.kind=8):=h78
   have hem:=hok.star hk1 h78
   have hne:c.res k p≠p:=λh=>by
    have:=hc.hT.empty (hok.kid hkm) hp hl h
    rw[this]at hem;cases hem
   push_cast;omega
  ·rw[if_neg h78]at hres
   unfold oneE at hres
   rw[if_neg (by omega)]at hres
   by_cases h9:e.kind=9
   ·rw[if_pos ⟨h9,h0⟩]at hres;exact hres.symm
   ·omega
  ·have h78:e.kind=7\/e.kind=8:=by omega
   obtain⟨hch2,hst,hm⟩:=hl78 h78
   obtain⟨t3,m⟩:=g
   simp only at hch2 hst hm hP'
   have hem:=hok.star hk1 h78
   have hne:c.res k q≠q:=λh=>by
    have:=hc.hT.empty (hok.kid hkm) q0 q1 h
    rw[this]at hem;cases hem
   have hqr:c.res k q= -1\/(q<=c.res k q/\c.res k q<=c.s.length):=hc.hT.res (hok.kid hkm) q0 q1
   rw[staK,if_neg (by omega)]at hch2
   obtain⟨e',t4,he',hT2,hrest2⟩:=hch2
   simp only at he' hT2
   rw[hk]at he';cases he'
   have hT2:=hT2 (hok.kid hkm) q0 q1 (by omega) hroom
   rw[hp0,show(n+1:Int)+((0:Nat):Int)=n+1 by omega]at hT2
   cases m with
   |zero=>omega
   |succ m=>
    rw[strE]at hst
    refine⟨b,o,ha,by omega,hkl,y,hat.le hP'.le,inI_small (by omega) (by omega),(s_pack_Parser_try _ _ _ _ _ _ _ (hT2 M' y _ hy hP' λM3 to hP3 hto=>⟨to,_,rfl,λhno=>?_,λhyes=>?_⟩)).mono (λg h=>.inl h) (λv M' _ h=>h)⟩
    ·have hq0:c.res k q<0:=by simpa using hno
     rw[staK,if_pos hq0]at hrest2
     have hrest2:t4=t1:=hrest2
     subst hrest2
     rw[if_neg (λh=>h.elim (not_two hqr q0) λh=>by cases h.2.1),if_pos hq0]at hst
     unfold S_pack_Parser_single_J1
     intro M4 hle
     have:=hK M4 q (hP3.up hc hle) (λ_=>hst)
     rw[decide_eq_true (by rw[<-hst];exact q0)]at this
     exact this
    ·have hq0:0<=c.res k q:=by simpa using hyes
     have hto:=hto hq0
     subst hto
     rw[if_neg (λh=>h.elim (not_two hqr q0) λh=>Int.not_lt.2 hq0 h.1),if_neg (Int.not_lt.2 hq0)]at hst
     exact⟨(t4,m),⟨hq0,by omega,hP3,λ_=>⟨hrest2,hst,by push_cast at hm;omega⟩,λh=>absurd h78 h⟩,by show((c.s.length:Int)+1-c.res k q).toNat<((c.s.length:Int)+1-q).toNat;omega⟩
  ·have h9:e.kind=9:=by simpa using k9
   obtain⟨h1,h2⟩:=hl9 (by omega)
   unfold S_pack_Parser_single_J1
   intro M3 hle
   rw[h1]at hP'
   have:=hK M3 q (hP'.up hc hle) (λ_=>h2)
   rw[decide_eq_true (by rw[<-h2];exact q0)]at this
   exact this
end
end Go.Proofs.Ytmnilbfhfjdelaa.core

namespace Go.Proofs.Ytmnilbfhfjdelaa.core
open Go.Gx Go.RowKit Go.ChangeShapes Go.WideShapes Go.ChangeAt
set_option linter.unusedVariables false
theorem cpl_le:∀a b:List UInt8,cpl a b<=a.length/\cpl a b<=b.length
 |[],_=>by simp[cpl]
 |_::_,[]=>by simp[cpl]
 |x::a,y::b=>by
  have:=cpl_le a b
  rw[cpl]
  split<;>simp<;>omega
theorem cpl_same:∀(a b:List UInt8) (k:Nat),k<cpl a b->a[k]?=b[k]?
 |[],_,k,h=>by simp[cpl]at h
 |_::_,[],k,h=>by simp[cpl]at h
 |x::a,y::b,k,h=>by
  rw[cpl]at h
  split at h
  ·rename_i hxy
   cases k with
   |zero=>simp[hxy]
   |succ k=>simpa using cpl_same a b k (by omega)
  ·omega
theorem cpl_end:∀(a b:List UInt8) (x:UInt8),a[cpl a b]?=some x->b[cpl a b]?≠some x
 |[],_,x,h=>by simp at h
 |_::_,[],x,h=>by simp
 |u::a,v::b,x,h=>by
  rw[cpl]at h ⊢
  split at h
  ·rename_i huv
   rw[if_pos huv]
   simp only[List.getElem?_cons_succ]at h ⊢
   exact cpl_end a b x h
  ·rename_i huv
   rw[if_neg huv]
   simp only[List.getElem?_cons_zero,Option.some.injEq]at h ⊢
   subst h;exact λh'=>huv (Option.some.inj h').symm
theorem cpl_all:∀(a b:List UInt8),cpl a b=b.length->b.length<=a.length/\a.take b.length=b
 |_,[],_=>by simp
 |[],_::_,h=>by simp[cpl]at h
 |u::a,v::b,h=>by
  rw[cpl]at h
  split at h
  ·rename_i huv
   have:=cpl_all a b (by simpa using h)
   subst huv
   simp only[List.length_cons,List.take_succ_cons]
   exact⟨by omega,by rw[this.2]⟩
  ·simp at h
theorem Missed.as {far far' p:Int} {want want':X_api_Set} {f g:Nat->Bool} (h:Missed far want p f far' want') (hfg:∀b,b<256->f b=g b):Missed far want p g far' want':=
 ⟨h.1,h.2.1,λb hb=>by rw[h.2.2 b hb,hfg b hb]⟩
section
variable {c:PkC} {e:Ex} {n p:Int} {t t1:List Evt}
def RuleOk (c:PkC) (i p:Int) (t t':List Evt):Prop:=∀(M:Mem) (K:Value->Mem->Prop),PI c t M->(∀M',PI c t' M'->K (outE (c.E p.toNat i.toNat) p).val M')->S_pack_Parser_Rule c.ptr i p M c.LV K
theorem node_is (hc:c.Ok) (hok:PegOk c.rs e) (hp:0<=p) (hl:p<=c.s.length) (hn0:0<=n) (hn1:n+cnt e<=c.tot) (h4:e.kind=4->RuleOk c (findR e.text c.rs 0) p t t1) (hch:e.kind≠4->ChainOk c e.kids (n+1) (kidK c.rs c.s c.E e p) t t1):NodeOk c e n p t t1:=by
 intro M x K hR hP hK
 obtain⟨xs,hx⟩:=hR.open
 have hsm:=hc.small
 have hs60:=hc.s60
 have hl8:=kids8 hok.good
 obtain⟨g1,g2,g3,g4,g5,g6,_⟩:=fitE_kinds hok.good.fit
 have fin:∀(M':Mem) (to:Int) (b:Bool),PI c t1 M'->missOf c.rs c.s c.E (.node n p e)=none->b=decide (0<=c.res e p)->(0<=c.res e p->to=c.res e p)->K (.tuple #[.int .i64 to,.bool b]) M':=λM' to b ⟨far,want,hF,hB⟩ hm hb hto=>by
  rw[hb];exact hK M' to far want hB (hF.skip hm) hto
 have mnone:e.kind≠2->e.kind≠3->missOf c.rs c.s c.E (.node n p e)=none:=λh2 h3=>by
  rw[missOf,if_neg h2,if_neg h3];split<;>rfl
 have mpos:0<=c.res e p->missOf c.rs c.s c.E (.node n p e)=none:=λh=>by
  rw[missOf,if_neg (Int.not_lt.2 h)]
 have leaf:e.kind<=3->t=t1:=λh=>by
  have:=hch (by omega)
  unfold kidK at this
  rw[if_neg (by omega),if_neg (by omega),if_neg (show ¬(e.kind=7\/e.kind=8) by omega),if_neg (by omega)]at this
  exact this
 have atS:∀{t M},PI c t M->At M c.pb (0+1) [.string (mkS c.s)]:=λ⟨far,want,_,h⟩=>by
  obtain⟨la,lc,h1⟩:=h.at
  exact h1.part 1 [.string (mkS c.s)] rfl
 have atG:∀{t M},PI c t M->At M c.pb 0 [.slice c.ga c.gl c.gc]:=λ⟨far,want,_,h⟩=>by
  obtain⟨la,lc,h1⟩:=h.at
  exact h1.part 0 [.slice c.ga c.gl c.gc] rfl
 unfold S_pack_Parser_node
 rw[hx.kind]
 refine⟨λk1 M2 hle=>?_,λn1=>?_⟩
 ·have ht:=leaf (by omega)
  subst ht
  have hr:c.res e p=p:=by unfold PkC.res;rw[endE_eq,if_pos k1]
  exact fin M2 p true (hP.up hc hle) (mpos (by rw[hr];exact hp)) (by rw[hr];exact(decide_eq_true hp).symm) λ_=>hr.symm
 refine⟨λk2=>?_,λn2=>?_⟩
 ·have ht:=leaf (by omega)
  subst ht
  have hr:c.res e p=setE e.set c.s p:=by unfold PkC.res;rw[endE_eq,if_neg n1,if_pos k2]
  have j1:∀v:Bool,v=decide (0<=c.res e p)->(v=true->c.res e p=p+1)->S_pack_Parser_node_J1 c.ptr x p M c.LV v K:=by
   intro v hv hv1
   unfold S_pack_Parser_node_J1
   refine⟨λht=>⟨inI_small (by omega) (by omega),λM2 hle=>fin M2 _ true (hP.up hc hle) (mpos (by rw[hv1 ht];omega)) (by rw[<-hv,ht]) λ_=>(hv1 ht).symm⟩,λhf=>?_⟩
   have hneg:¬0<=c.res e p:=λh=>hf (by rw[hv,decide_eq_true h])
   obtain⟨far,want,hF,hB⟩:=hP
   rw[hx.set]
   refine(s_pack_Parser_miss _ _ _ _ _ _ (miss_is hc hB hF.wf hx.hs λM2 far' want' hB2 hm=>⟨rfl,λM3 hle=>?_⟩)).mono (λg h=>.inl h) (λv M' _ h=>h)
   have:=hK M3 0 far' want' (hB2.up hc hle) (hF.miss hp (x:=.node n p e) (by rw[missOf,if_pos (Int.not_le.1 hneg),if_pos k2]) hm) λh=>absurd h hneg
   rw[decide_eq_false hneg]at this
   exact this
  refine⟨c.pb,0,rfl,c.s,atS hP,λhlt=>?_,λhge=>?_⟩
  ·obtain⟨d,hd⟩:=getI (l:=c.s) hp hlt
   unfold setE at hr
   rw[hd]at hr
   simp only at hr
   rw[hx.set]
   refine⟨c.pb,0,rfl,c.s,atS hP,d,hp,hd,s_set_Has _ _ _ _ (has_is hx.hs d _ ⟨_,rfl,j1 _ ?_ λhb=>?_⟩)⟩
   ·rw[Bool.eq_iff_iff,decide_eq_true_iff]
    split at hr<;>rename_i hb<;>simp only[hb,hr]<;>simp<;>omega
   ·rw[if_pos hb]at hr;exact hr
  ·unfold setE at hr
   rw[List.getElem?_eq_none (by omega)]at hr
   simp only at hr
   exact j1 _ (by rw[hr];rfl) λh=>by cases h
 refine⟨λk3=>?_,λn3=>?_⟩
 ·have ht:=leaf (by omega)
  subst ht
  have h12:=g6 k3
  have hr:c.res e p=litE e.text c.s p:=by unfold PkC.res;rw[endE_eq,if_neg n1,if_neg n2,if_pos k3]
  rw[hx.text]
  refine⟨c.pb,0,rfl,c.s,atS hP,hp,hl,by omega,s_strings_HasPrefix _ _ _ _ (prefix_is _ _ _ ⟨_,rfl,λhyes=>⟨inI_small (by omega) (by omega),λM2 hle=>?_⟩,λhno=>?_⟩)⟩
  ·have hh:=of_decide_eq_true hyes
   rw[Int.toNat_natCast,List.take_length,List.length_drop]at hh
   have hr2:c.res e p=p+((e.text.length:Nat):Int):=by
    rw[hr];unfold litE
    rw[if_pos ⟨by omega,by rw[List.drop_take,show(p+((e.text.length:Nat):Int)).toNat-p.toNat=e.text.length by omega];exact hh.2⟩]
   exact fin M2 _ true (hP.up hc hle) (mpos (by rw[hr2];omega)) (by rw[hr2];exact(decide_eq_true (by omega)).symm) λ_=>hr2.symm
  ·have hh:¬(e.text.length<=(c.s.drop p.toNat).length/\(c.s.drop p.toNat).take e.text.length=e.text):=by
    intro h
    apply hno
    rw[Int.toNat_natCast,List.take_length,decide_eq_true h]
   have hneg:c.res e p= -1:=by
    rw[hr];unfold litE
    rw[if_neg]
    rintro⟨h1,h2⟩
    rw[List.drop_take,show(p+((e.text.length:Nat):Int)).toNat-p.toNat=e.text.length by omega]at h2
    exact hh ⟨by rw[List.length_drop];omega,h2⟩
   obtain⟨cl1,cl2⟩:=cpl_le (c.s.drop p.toNat) e.text
   have hlt:cpl (c.s.drop p.toNat) e.text<e.text.length:=by
    rcases Nat.lt_or_ge (cpl (c.s.drop p.toNat) e.text) e.text.length with h|h
    ·exact h
    ·exact absurd (cpl_all _ _ (by omega)) hh
   have hme:missOf c.rs c.s c.E (.node n p e)=some (p+(cpl (c.s.drop p.toNat) e.text:Nat),λb=>decide ((e.text[cpl (c.s.drop p.toNat) e.text]?).map UInt8.toNat=some b)):=by
    rw[missOf,if_pos (show c.res e p<0 by rw[hneg];omega),if_neg n2,if_pos k3]
   have hsame:=cpl_same (c.s.drop p.toNat) e.text
   have hend:=cpl_end (c.s.drop p.toNat) e.text
   rw[List.length_drop]at cl1
   generalize hC:cpl (c.s.drop p.toNat) e.text=C at hlt hme hsame hend cl1 cl2
   have j2:∀(k:Int) (v:Bool),0<=k->k<=C->(v=true->k+1<=C)->(v=false->k=C)->S_pack_Parser_node_J2 c.ptr x p M c.LV k (λk=>0<=k/\k<=C) (λk=>C-k.toNat) v K:=by
    intro k v k0 k1 hv1 hv2
    unfold S_pack_Parser_node_J2
    refine⟨λht=>⟨inI_small (by omega) (by omega),⟨by omega,by have:=hv1 ht;omega⟩,by have:=hv1 ht;show C-(k+1).toNat<C-k.toNat;omega⟩,λhf=>?_⟩
    have hkC:=hv2 (by simpa using hf)
    subst hkC
    obtain⟨d,hd⟩:=getN (l:=e.text) hlt
    have hd':e.text[((C:Nat):Int).toNat]?=some d:=by rw[Int.toNat_natCast];exact hd
    obtain⟨far,want,hF,hB⟩:=hP
    rw[hx.text]
    refine⟨inI_small (by omega) (by omega),d,k0,hd',d,k0,hd',?_⟩
    rw[u8wF]
    refine s_set_Range _ _ _ _ (range_is _ _ _ ⟨_,rfl,(s_pack_Parser_miss _ _ _ _ _ _ (miss_is hc hB hF.wf (Us_wf _) λM2 far' want' hB2 hm=>⟨rfl,λM3 hle=>?_⟩)).mono (λg h=>.inl h) (λv M' _ h=>h)⟩)
    have:=hK M3 0 far' want' (hB2.up hc hle) (hF.miss (by omega) hme (hm.as λb hb=>?_)) λh=>by rw[hneg]at h;omega
    ·rw[decide_eq_false (by rw[hneg];omega)]at this
     exact this
    ·rw[bit_Us hb,hd]
     unfold inR
     rw[Option.map_some,decide_eq_decide]
     simp only[Option.some.injEq]
     omega
   refine⟨λk=>0<=k/\k<=C,λk=>C-k.toNat,⟨by omega,by omega⟩,λk ⟨k0,k1⟩=>⟨inI_small (by omega) (by omega),c.pb,0,rfl,c.s,atS hP,λhlt2=>?_,λhge2=>?_⟩⟩
   ·obtain⟨a1,ha1⟩:=getI (l:=c.s) (i:=p+k) (by omega) hlt2
    obtain⟨a2,ha2⟩:=getI (l:=e.text) (i:=k) k0 (by omega)
    have hdr:(c.s.drop p.toNat)[k.toNat]?=some a1:=by rw[List.getElem?_drop,<-ha1];congr 1;omega
    refine⟨c.pb,0,rfl,c.s,atS hP,inI_small (by omega) (by omega),a1,by omega,ha1,a2,k0,ha2,j2 k _ k0 k1 (λhv=>?_) λhv=>?_⟩
    ·have hEq:a1=a2:=by
      have:=beq_iff_eq.1 hv
      exact UInt8.toNat_inj.1 (by omega)
     by_cases h:k<C
     ·omega
     ·exfalso
      have hkC:k.toNat=C:=by omega
      rw[hkC]at hdr ha2
      exact hend a1 hdr (by rw[ha2,hEq])
    ·by_cases h:k<C
     ·exfalso
      have:=hsame k.toNat (by omega)
      rw[hdr,ha2]at this
      have:a1=a2:=Option.some.inj this
      rw[this]at hv
      simp at hv
     ·omega
   ·exact j2 k false k0 k1 (λh=>by cases h) λ_=>by omega
 refine⟨λk4=>?_,λn4=>?_⟩
 ·have hf0:=hok.good.ref k4
  obtain⟨hf1,hf2⟩:=findR_lt hf0
  have hr:c.res e p=c.E p.toNat (findR e.text c.rs 0).toNat:=by unfold PkC.res;rw[endE_eq,if_neg n1,if_neg n2,if_neg n3,if_pos k4]
  have hrr:c.res e p= -1\/(p<=c.res e p/\c.res e p<=c.s.length):=hc.hT.res hok hp hl
  rw[hx.text]
  refine⟨c.pb,0,rfl,_,_,_,atG hP,s_gram_Find _ _ _ _ _ _ (find_is (hc.gr.le hP.le) e.text _ ⟨_,rfl,(s_pack_Parser_Rule _ _ _ _ _ _ (h4 k4 M _ hP λM2 hP2=>⟨_,rfl,?_⟩)).mono (λg h=>.inl h) (λv M' _ h=>h)⟩)⟩
  unfold S_pack_Parser_node_J3
  rw[<-hr]
  unfold outE
  by_cases h0:0<=c.res e p
  ·rw[if_pos h0]
   show InI (p+(c.res e p-p))/\∀M',M2.le M'->K (.tuple #[.int .i64 (p+(c.res e p-p)),.bool true]) M'
   exact⟨inI_small (by omega) (by omega),λM3 hle=>fin M3 _ true (hP2.up hc hle) (mpos h0) (decide_eq_true h0).symm λ_=>by omega⟩
  ·rw[if_neg h0]
   show InI (p+0)/\∀M',M2.le M'->K (.tuple #[.int .i64 (p+0),.bool false]) M'
   exact⟨inI_small (by omega) (by omega),λM3 hle=>fin M3 _ false (hP2.up hc hle) (mnone n2 n3) (decide_eq_false h0).symm λh=>absurd h h0⟩
 refine⟨λk5=>?_,λn5=>?_⟩
 ·refine(s_pack_Parser_seq _ _ _ _ _ _ _ (seq_is hc k5 hok hp hl hn0 hn1 (hch n4) hR hP λM2 to hP2 hto=>⟨to,_,rfl,λM3 hle=>fin M3 to _ (hP2.up hc hle) (mnone n2 n3) rfl hto⟩)).mono (λg h=>.inl h) (λv M' _ h=>h)
 refine⟨λk6=>?_,λn6=>?_⟩
 ·have hres:c.res e p=altE c.rs c.s c.E e.kids p:=by
   unfold PkC.res;rw[endE_eq,if_neg n1,if_neg n2,if_neg n3,if_neg n4,if_neg n5,if_pos k6]
  have hch:=hch n4
  unfold kidK at hch
  rw[if_neg n5,if_pos k6]at hch
  refine⟨inI_small (by omega) (by omega),List Evt,λt' k i M'=>0<=i/\i<=e.kids.length/\k=n+1+preN e.kids i.toNat/\PI c t' M'/\ChainOk c e.kids (n+1) (altK (endE c.rs c.s c.E) (e.kids.drop i.toNat) i p) t' t1/\altE c.rs c.s c.E (e.kids.drop i.toNat) p=c.res e p,λ_ _ i=>e.kids.length-i.toNat,t,
   ⟨by omega,by omega,by simp[preN],hP,by simpa using hch,by rw[hres];rfl⟩,λt' k i M' ⟨i0,i1,hkn,hP',hch',hrs⟩=>⟨λhlt=>?_,λhge=>?_⟩⟩
  ·rw[hx.len]at hlt
   obtain⟨ke,hk⟩:=getI (l:=e.kids) i0 hlt
   have hkm:=List.mem_of_getElem? hk
   obtain⟨b,o,y,ha,hat,hy,_⟩:=hx.kid hk
   rw[drop_get hk,altK]at hch'
   rw[drop_get hk,altE]at hrs
   obtain⟨e',t2,he',hT',hrest⟩:=hch'
   simp only at he' hT'
   rw[hk]at he';cases he'
   have hroom:=kid_room hn1 hk
   have hcnt:=kid_cnt hk
   have hkr:c.res ke p= -1\/(p<=c.res ke p/\c.res ke p<=c.s.length):=hc.hT.res (hok.kid hkm) hp hl
   have hT':=hT' (hok.kid hkm) hp hl (by omega) hroom
   rw[<-hkn]at hT'
   refine⟨b,o,ha,i0,by rw[hx.len];exact hlt,y,hat.le hP'.le,(s_pack_Parser_try _ _ _ _ _ _ _ (hT' M' y _ hy hP' λM2 to hP2 hto=>⟨to,_,rfl,λhyes=>?_,λhno=>?_⟩)).mono (λg h=>.inl h) (λv M' _ h=>h)⟩
   ·have h0:0<=c.res ke p:=by simpa using hyes
    rw[if_neg (Int.not_lt.2 h0)]at hrest
    have hne:c.res ke p≠-1:=by omega
    rw[if_pos hne]at hrs
    have hrest:t2=t1:=hrest
    subst hrest
    have hto:=hto h0
    subst hto
    have hrs:c.res ke p=c.res e p:=hrs
    intro M3 hle
    rw[hrs]
    exact fin M3 _ true (hP2.up hc hle) (mnone n2 n3) (by rw[<-hrs];exact(decide_eq_true h0).symm) λ_=>rfl
   ·have h0:c.res ke p<0:=by simpa using hno
    rw[if_pos h0]at hrest
    have hne:¬c.res ke p≠-1:=by omega
    rw[if_neg hne]at hrs
    refine(s_pack_count _ _ _ _ (count_is _ ke (Nat.lt_succ_self _) (by omega) _ _ _ (hy.le hP2.le) λM3 hle3=>⟨_,rfl,?_,?_,t2,⟨by omega,by omega,?_,hP2.up hc hle3,?_,?_⟩,?_⟩)).mono (λ_ h=>h.elim) (λv M' _ h=>h)
    ·exact inI_small (by omega) (by omega)
    ·exact inI_small (by omega) (by omega)
    ·rw[show(i+1).toNat=i.toNat+1 by omega,preN_succ hk,hkn];push_cast;omega
    ·rw[show(i+1).toNat=i.toNat+1 by omega];exact hrest
    ·rw[show(i+1).toNat=i.toNat+1 by omega];exact hrs
    ·show e.kids.length-(i+1).toNat<e.kids.length-i.toNat
     omega
  ·rw[hx.len]at hge
   rw[List.drop_of_length_le (by omega),altK]at hch'
   rw[List.drop_of_length_le (by omega),altE]at hrs
   have hch':t'=t1:=hch'
   subst hch'
   intro M2 hle
   exact fin M2 0 false (hP'.up hc hle) (mnone n2 n3) (by rw[<-hrs];rfl) λh=>by rw[<-hrs]at h;omega
 ·refine(s_pack_Parser_single _ _ _ _ _ _ _ (single_is hc (by omega) hok hp hl hn0 hn1 (hch n4) hR hP λM2 to hP2 hto=>⟨to,_,rfl,λM3 hle=>fin M3 to _ (hP2.up hc hle) (mnone n2 n3) rfl hto⟩)).mono (λg h=>.inl h) (λv M' _ h=>h)
end
end Go.Proofs.Ytmnilbfhfjdelaa.core

namespace Go.Proofs.Ytmnilbfhfjdelaa.core
open Go.Gx Go.RowKit Go.ChangeShapes Go.WideShapes Go.ChangeAt
set_option linter.unusedVariables false
def JobOk (rs:List Ru) (s:List UInt8) (E:Nat->Nat->Int):Job->Prop
 | .node e _ p=>PegOk rs e/\0<=p/\p<=s.length
 | .rule i p=>0<=i/\i<rs.length/\0<=p/\p<=s.length
 | .kids L _ l=>∃(e:Ex) (p:Int),L=e.kids/\PegOk rs e/\0<=p/\p<=s.length/\∀k∈l,k∈kidK rs s E e p
def LowE (rs:List Ru) (st:Nat->Nat) (e:Ex) (p i q:Int):Prop:=p<q\/(q=p/\∃j∈needsE rs (knOf rs) e,st i.toNat<=st j)
def LowJ (rs:List Ru) (st:Nat->Nat):Job->Int->Int->Prop
 | .node e _ p,i,q=>LowE rs st e p i q
 | .rule k p,i,q=>p<q\/(q=p/\st i.toNat<=st k.toNat)
 | .kids L _ l,i,q=>∃k∈l,∃e,L[k.Kid.toNat]?=some e/\LowE rs st e k.At i q
theorem goes_low {rs:List Ru} {s:List UInt8} {E:Nat->Nat->Int} (hw:WellOk rs) (hT:Tab rs s E) {st:Nat->Nat} (hst:∀(i:Nat) r,rs[i]?=some r->∀j∈needsE rs (knOf rs) r.body,st j<st i) {j:Job} {t t1:List Evt} (h:Goes rs s E j t t1):
  JobOk rs s E j->∀i q,Evt.done i q∈t1->Evt.done i q∈t\/LowJ rs st j i q:=by
 induction h with
 | @ref e n p t t' h4 _ ih=>
  intro ⟨hok,hp,hl⟩ i q hd
  have hf:=hok.good.ref h4
  obtain⟨f1,f2⟩:=findR_lt hf
  rcases ih ⟨hf,f2,hp,hl⟩ i q (by simpa using hd)with h|h|⟨h1,h2⟩
  ·exact .inl h
  ·exact .inr (.inl h)
  ·exact .inr (.inr ⟨h1,_,by rw[needsE_eq,if_pos h4];simp,h2⟩)
 | @inner e n p t t' h4 _ ih=>
  intro ⟨hok,hp,hl⟩ i q hd
  rcases ih ⟨e,p,rfl,hok,hp,hl,λk hk=>hk⟩ i q (by simpa using hd)with h|⟨k,hk,x,hx,h⟩
  ·exact .inl h
  ·obtain⟨_,_,x',hx',htr,hpk,hnd⟩:=kid_all hT hok hp hl k hk
   rw[hx]at hx';cases hx'
   rcases h with h|⟨h1,j0,h2,h3⟩
   ·exact .inr (.inl (by omega))
   ·by_cases he:k.At=p
    ·exact .inr (.inr ⟨by omega,j0,hnd he j0 h2,h3⟩)
    ·exact .inr (.inl (by omega))
 |seen _=>exact λ_ i q hd=>.inl hd
 | @rule k p r t t' hn hr _ ih=>
  intro ⟨hk,hk2,hp,hl⟩ i q hd
  rcases List.mem_append.1 hd with hd|hd
  ·rcases ih ⟨hw.peg (List.mem_of_getElem? hr),hp,hl⟩ i q hd with h|h|⟨h1,j0,h2,h3⟩
   ·exact .inl h
   ·exact .inr (.inl h)
   ·exact .inr (.inr ⟨h1,Nat.le_of_lt (Nat.lt_of_le_of_lt h3 (hst _ r hr j0 h2))⟩)
  ·simp only[List.mem_singleton,Evt.done.injEq]at hd
   obtain⟨rfl,rfl⟩:=hd
   exact .inr (.inr ⟨rfl,Nat.le_refl _⟩)
 |nil=>exact λ_ i q hd=>.inl hd
 | @cons L n k l x t ta tb he _ _ ih1 ih2=>
  intro ⟨e,p,hL,hok,hp,hl,hks⟩ i q hd
  obtain⟨_,hk1,x',hx',htr⟩:=kid_all hT hok hp hl k (hks k (by simp))
  rw[<-hL,he]at hx';cases hx'
  rcases ih2 ⟨e,p,hL,hok,hp,hl,λy hy=>hks y (by simp[hy])⟩ i q hd with h|⟨y,hy,r,hr,h⟩
  ·rcases ih1 ⟨hok.kid htr.1,by have:=htr.2.1;omega,hk1⟩ i q h with h|h
   ·exact .inl h
   ·exact .inr ⟨k,by simp,x,he,h⟩
  ·exact .inr ⟨y,by simp[hy],r,hr,h⟩
theorem goes_own {rs:List Ru} {s:List UInt8} {E:Nat->Nat->Int} (hw:WellOk rs) (hT:Tab rs s E) {i p n:Int} {r:Ru} (hr:rs[i.toNat]?=some r) (hp:0<=p) (hl:p<=s.length) {t t1:List Evt} (h:Goes rs s E (.node r.body n p) t t1) (hn:Evt.done i p∉t):Evt.done i p∉t1:=by
 obtain⟨st,_,hst⟩:=hw.stage
 intro hd
 rcases goes_low hw hT hst h ⟨hw.peg (List.mem_of_getElem? hr),hp,hl⟩ i p hd with h|h|⟨_,j,h1,h2⟩
 ·exact hn h
 ·omega
 ·have:=hst _ r hr j h1;omega
end Go.Proofs.Ytmnilbfhfjdelaa.core

namespace Go.Proofs.Ytmnilbfhfjdelaa.core
open Go.Gx Go.RowKit Go.ChangeShapes Go.WideShapes Go.ChangeAt
set_option linter.unusedVariables false
section
variable {c:PkC} {t t1:List Evt} {i p:Int}
theorem rule_is (hc:c.Ok) (hi:0<=i) {rr:Ru} (hr:c.rs[i.toNat]?=some rr) (hp:0<=p) (hl:p<=c.s.length) (hn:Evt.done i p∉t) (hn1:Evt.done i p∉t1) (hT:TryOk c rr.body (fstN c.rs i.toNat) p t t1):RuleOk c i p t (t1++[.done i p]):=by
 intro M K hP hK
 have hlt:=(List.getElem?_eq_some_iff.1 hr).1
 have hgl:=hc.gr.len
 have h10:=hc.hw.ok.ten
 have hs60:=hc.s60
 have hok:=hc.hw.peg (List.mem_of_getElem? hr)
 have hE:c.E p.toNat i.toNat=c.res rr.body p:=by
  have:=hc.hT.fix p.toNat i.toNat rr (by omega) hr
  rw[show((p.toNat:Nat):Int)=p by omega]at this
  exact this
 have hrr:c.res rr.body p= -1\/(p<=c.res rr.body p/\c.res rr.body p<=c.s.length):=hc.hT.res hok hp hl
 obtain⟨b2,o2,ha2,hat2⟩:=hc.fst i.toNat hlt
 obtain⟨r2,x2,b3,o3,hr2,ha3,hat3,hrr3⟩:=hc.gr.at hi (by omega)
 rw[hr]at hr2;cases hr2
 have atK:∀{t far want M},PB c t far want M->∃la lc,M c.pb=some (.cells (c.cells la (logOf c.E t).length lc far want).toArray 155 (0,0))/\At M c.pb (0+2) [.map (some c.r)]/\At M c.pb 0 [.slice c.ga c.gl c.gc]/\At M c.pb (0+10) [.slice c.fa c.rs.length c.fc]/\At M c.pb (0+3) [.slice la (logOf c.E t).length lc]/\RowW M 188 4 la (logOf c.E t).length lc (cl X_api_Step.cells (logOf c.E t))/\∀g,la=some ⟨g,0,none⟩->c.V g=none/\¬c.JB g/\g≠c.pb/\g≠c.r:=λh=>by
  obtain⟨la,lc,h1,h2,h3⟩:=h.bk
  have h0:=At.blk h1
  exact⟨la,lc,h1,h0.part 2 [.map (some c.r)] rfl,h0.part 0 [.slice c.ga c.gl c.gc] rfl,h0.part 10 [.slice c.fa c.rs.length c.fc] rfl,h0.part 3 [.slice la _ lc] rfl,h2,h3⟩
 obtain⟨far,want,hF,hB⟩:=id hP
 obtain⟨la,lc,hblk,a1,a2,a3,a4,hrow,hla⟩:=atK hB
 obtain⟨f,hf,hfd⟩:=hB.mp
 have hnone:f i p=none:=by
  cases hv:f i p with
  |none=>rfl
  |some v=>exact absurd ((hfd i p v).1 hv).1 hn
 unfold S_pack_Parser_Rule
 rw[show c.gl=c.rs.length from hgl]at*
 refine⟨c.pb,0,rfl,_,a1,c.r,f,rfl,hf,inI_small (by omega) (by omega),inI_small (by omega) (by omega),⟨false,0⟩,by rw[hnone];rfl,λh=>(by rw[hnone]at h;cases h),λ_=>?_⟩
 refine⟨c.pb,0,rfl,_,_,_,a2,b3,o3,ha3,hi,by omega,x2.Body,(hat3.part 1 x2.Body.cells rfl).le hB.le,c.pb,0,rfl,_,_,_,a3,b2,o2,ha2,hi,by omega,_,hat2.le hB.le,?_⟩
 refine(s_pack_Parser_try _ _ _ _ _ _ _ (hT M x2.Body _ hrr3.2.2 hP λM2 to hP2 hto=>⟨to,_,rfl,?_⟩)).mono (λg h=>.inl h) (λv M' _ h=>h)
 have j1:∀(ok:Bool) (N:Int),X_api_Outcome.mk ok N=outE (c.E p.toNat i.toNat) p->S_pack_Parser_Rule_J1 c.ptr i p M c.LV ok M2 N K:=by
  intro ok N hout
  obtain⟨far,want,hF,hB⟩:=hP2
  obtain⟨la,lc,hblk,a1,a2,a3,a4,hrow,hla⟩:=atK hB
  obtain⟨f,hf,hfd⟩:=hB.mp
  unfold S_pack_Parser_Rule_J1
  rw[hout]
  refine⟨c.pb,0,rfl,_,a1,c.r,f,rfl,hf,inI_small (by omega) (by omega),inI_small (by omega) (by omega),.inl hc.rV,λM39 hS=>?_⟩
  have hne39:∀b,b≠c.r->M39 b=M2 b:=λb hb=>hS.ne hb
  have hblk39:M39 c.pb=_:=(hne39 _ hc.pr).trans hblk
  have hrow39:=hrow.same (M':=M39) λg o hg ho=>by rw[hne39 g (hla g hg).2.2.2];exact ho
  have hbound:=hB.room hc
  refine⟨c.pb,0,rfl,la,(logOf c.E t1).length,lc,(At.blk hblk39).part 3 [.slice la _ lc] rfl,λu hu=>St_one ⟨i,p,outE (c.E p.toNat i.toNat) p⟩ u hu,_,hrow39,λg hg=>.inl (hla g hg).1,by omega,λM49 ad50 cap51 hA=>?_⟩
  have h49pb:M49 c.pb=_:=hA.keep _ _ hblk39 λg hg e=>(hla g hg).2.2.1 e.symm
  refine⟨c.pb,0,rfl,Has.blk h49pb (by show 0+3+1<=11;omega),.inl hc.pbV,λM54 hM54 M3 hle=>?_⟩
  refine hK M3 ⟨far,want,hF.skip rfl,PB.up hc ?_ hle⟩
  have hne54:∀b,b≠c.pb->M54 b=M49 b:=λb hb=>by rw[hM54];exact Mem.put_ne hb
  have hold:∀b o,M2 b=some o->b≠c.r->b≠c.pb->(∀g,la=some ⟨g,0,none⟩->b≠g)->M54 b=some o:=λb o ho h1 h2 h3=>by
   rw[hne54 b h2];exact hA.keep b o (by rw[hne39 b h1];exact ho) h3
  have hcells:cl X_api_Step.cells (logOf c.E t1)++(X_api_Step.mk i p (outE (c.E p.toNat i.toNat) p)).cells=cl X_api_Step.cells (logOf c.E (t1++[.done i p])):=by rw[logOf_done];exact cl_snoc _ _
  have hlen:(logOf c.E (t1++[.done i p])).length=(logOf c.E t1).length+1:=by rw[logOf_done,List.length_append];rfl
  have hblkg:∀g,ad50=some ⟨g,0,none⟩->c.V g=none/\¬c.JB g/\g≠c.pb/\g≠c.r:=λg hg=>by
   rcases hA.blk g hg with h|h
   ·exact hla g h
   ·refine⟨?_,λhj=>?_,λe=>?_,λe=>?_⟩
    ·cases hv:c.V g with
     |none=>rfl
     |some o=>
      have:=hB.le g o hv
      rw[<-hne39 g (λe=>by rw[e,hc.rV]at hv;cases hv),h]at this;cases this
    ·have:=hc.has _ _ hB.j g hj
     rw[<-hne39 g (λe=>hc.jr (e▸hj)),h]at this;cases this
    ·rw[e,hblk39]at h;cases h
    ·obtain⟨o,hM39,hsome,_⟩:=hS
     rw[e,hM39,Mem.add_eq]at h;cases h
  refine⟨λb o ho=>?_,⟨ad50,cap51,?_,?_,hblkg⟩,?_,hc.done _ _ _ _ (hc.frame _ _ _ hB.j λb hb=>?_),?_,λa b hab=>?_⟩
  ·exact hold b o (hB.le b o ho) (λe=>by rw[e,hc.rV]at ho;cases ho) (λe=>by rw[e,hc.pbV]at ho;cases ho) λg hg e=>by rw[e,(hla g hg).1]at ho;cases ho
  ·rw[hM54,Mem.put_eq h49pb,hlen];rfl
  ·rw[hlen,<-hcells]
   exact hA.row.same λg o hg ho=>by rw[hne54 g (hblkg g hg).2.2.1];exact ho
  ·obtain⟨o,hM39,hsome,hset⟩:=hS
   have hm39:M39 c.r=some o:=by rw[hM39];exact Mem.add_eq
   have hr54:M54 c.r=M39 c.r:=by
    rw[hne54 _ hc.pr.symm,hm39]
    exact hA.keep _ _ hm39 λg hg e=>(hla g hg).2.2.2 e.symm
   obtain⟨es,clk,h4,h5⟩:=hset f (λa b=>if a=i/\b=p then some (outE (c.E p.toNat i.toNat) p).val else f a b) hf (by simp) (λa b hab=>by rw[if_neg hab])
   refine⟨_,⟨es,clk,hr54.trans h4,h5⟩,λa b v=>?_⟩
   by_cases hab:a=i/\b=p
   ·rw[if_pos hab]
    obtain⟨rfl,rfl⟩:=hab
    exact⟨λh=>⟨by simp,(Option.some.inj h).symm⟩,λh=>by rw[h.2]⟩
   ·rw[if_neg hab,hfd a b v]
    refine and_congr_left λ_=>⟨λh=>by simp[h],λh=>?_⟩
    rcases List.mem_append.1 h with h|h
    ·exact h
    ·simp only[List.mem_singleton,Evt.done.injEq]at h;exact absurd h hab
  ·have:=hc.has _ _ hB.j b hb
   obtain⟨o,ho⟩:=Option.isSome_iff_exists.1 this
   rw[ho]
   exact hold b o ho (λe=>hc.jr (e▸hb)) (λe=>hc.jpb (e▸hb)) λg hg e=>(hla g hg).2.1 (e▸hb)
  ·rw[logOf_done,List.map_append,List.nodup_append]
   refine⟨hB.ks.1,by simp,λa ha b hb=>?_⟩
   obtain⟨y,hy,rfl⟩:=List.mem_map.1 ha
   obtain⟨hy1,_⟩:=logOf_mem.1 hy
   have hk:=hB.ks.2 _ _ hy1
   simp only[List.map_cons,List.map_nil,List.mem_singleton]at hb
   subst hb
   unfold keyS
   intro e
   have e1:y.Rule=i:=by simp only at e;omega
   have e2:y.At=p:=by simp only at e;omega
   rw[e1,e2]at hy1
   exact hn1 hy1
  ·rcases List.mem_append.1 hab with h|h
   ·exact hB.ks.2 a b h
   ·simp only[List.mem_singleton,Evt.done.injEq]at h
    obtain⟨rfl,rfl⟩:=h
    exact⟨hi,by omega,hp,hl⟩
 refine⟨λhyes=>⟨?_,j1 _ _ ?_⟩,λhno=>j1 _ _ ?_⟩
 ·have h0:0<=c.res rr.body p:=by simpa using hyes
  rw[hto h0]
  exact inI_small (by omega) (by omega)
 ·have h0:0<=c.res rr.body p:=by simpa using hyes
  rw[hto h0,hE,decide_eq_true h0]
  unfold outE
  rw[if_pos h0]
 ·have h0:¬0<=c.res rr.body p:=λh=>hno (decide_eq_true h)
  rw[hE,decide_eq_false h0]
  unfold outE
  rw[if_neg h0]
end
theorem rule_seen {c:PkC} {t:List Evt} {i p:Int} (hc:c.Ok) (hd:Evt.done i p∈t):RuleOk c i p t t:=by
 intro M K hP hK
 obtain⟨far,want,hF,hB⟩:=id hP
 obtain⟨la,lc,h1⟩:=hB.at
 obtain⟨f,hf,hfd⟩:=hB.mp
 obtain⟨k1,k2,k3,k4⟩:=hB.ks.2 i p hd
 have h10:=hc.hw.ok.ten
 have hs60:=hc.s60
 have hv:=(hfd i p _).2 ⟨hd,rfl⟩
 unfold S_pack_Parser_Rule
 refine⟨c.pb,0,rfl,_,h1.part 2 [.map (some c.r)] rfl,c.r,f,rfl,hf,inI_small (by omega) (by omega),inI_small (by omega) (by omega),outE (c.E p.toNat i.toNat) p,by rw[hv];rfl,λ_ M2 hle=>hK M2 (hP.up hc hle),λhn=>absurd (by rw[hv];rfl) hn⟩
def WalkOk (c:PkC):Job->List Evt->List Evt->Prop
 | .node e n p,t,t'=>PegOk c.rs e->0<=p->p<=c.s.length->0<=n->n+cnt e<=c.tot->TryOk c e n p t t'
 | .rule i p,t,t'=>0<=i->i<c.rs.length->0<=p->p<=c.s.length->RuleOk c i p t t'
 | .kids L n l,t,t'=>ChainOk c L n l t t'
theorem pack_walk {c:PkC} (hc:c.Ok) {j:Job} {t t':List Evt} (h:Goes c.rs c.s c.E j t t'):WalkOk c j t t':=by
 induction h with
 | @ref e n p t t' h4 _ ih=>
  intro hok hp hl hn0 hn1
  have hf:=hok.good.ref h4
  obtain⟨f1,f2⟩:=findR_lt hf
  exact try_is hc hn0 (by have:=cnt_pos e;omega) (node_is hc hok hp hl hn0 hn1 (λ_=>ih hf f2 hp hl) λn4=>absurd h4 n4)
 | @inner e n p t t' h4 _ ih=>
  intro hok hp hl hn0 hn1
  exact try_is hc hn0 (by have:=cnt_pos e;omega) (node_is hc hok hp hl hn0 hn1 (λk4=>absurd k4 h4) λ_=>ih)
 |seen h=>exact λ_ _ _ _=>rule_seen hc h
 | @rule i p r t t' hn hr hg ih=>
  intro hi hi2 hp hl
  have hsum:=fstN_rule hr
  have htot:=hc.tot
  exact rule_is hc hi hr hp hl hn (goes_own hc.hw hc.hT hr hp hl hg hn) (ih (hc.hw.peg (List.mem_of_getElem? hr)) hp hl (by omega) (by omega))
 |nil=>rfl
 |cons he _ _ ih1 ih2=>exact⟨_,_,he,ih1,ih2⟩
theorem prule_is {c:PkC} (hc:c.Ok) {i p:Int} (hi:0<=i) (hi2:i<c.rs.length) (hp:0<=p) (hl:p<=c.s.length) {t:List Evt} {M:Mem} {K:Value->Mem->Prop} (hP:PI c t M) (hK:∀M' t',Goes c.rs c.s c.E (.rule i p) t t'->PI c t' M'->K (outE (c.E p.toNat i.toNat) p).val M'):S_pack_Parser_Rule c.ptr i p M c.LV K:=by
 by_cases hd:Evt.done i p∈t
 ·exact pack_walk hc (.seen hd) hi hi2 hp hl M K hP λM'=>hK M' t (.seen hd)
 ·obtain⟨r,hr⟩:=getN (l:=c.rs) (i:=i.toNat) (by omega)
  obtain⟨t',ht⟩:=goes_ex hc.hw hc.hT r.body p (hc.hw.peg (List.mem_of_getElem? hr)) hp hl (fstN c.rs i.toNat) t
  exact pack_walk hc (.rule hd hr ht) hi hi2 hp hl M K hP λM'=>hK M' _ (.rule hd hr ht)
end Go.Proofs.Ytmnilbfhfjdelaa.core

namespace Go.Proofs.Ytmnilbfhfjdelaa.core
open Go.Gx Go.RowKit Go.ChangeShapes Go.WideShapes Go.ChangeAt
set_option linter.unusedVariables false
theorem At.off {M:Mem} {b o r:Nat} {vs:List Value} (h:At M b o vs) (hr:∀j,M.cell r j=none):At (but M r) b o vs:=λj v hj=>by
 have h1:=h j v hj
 by_cases hb:b=r
 ·subst hb;rw[hr]at h1;cases h1
 ·unfold Mem.cell at h1 ⊢
  rw[but_ne hb];exact h1
theorem SlV.off {M:Mem} {a:Option Addr} {l c size r:Nat} {xs:List Value} (h:SlV M a l c size xs) (hr:∀j,M.cell r j=none):SlV (but M r) a l c size xs:=
 ⟨h.1,h.2.1,h.2.2.1,λh0=>by obtain⟨b,o,e,ha⟩:=h.2.2.2 h0;exact⟨b,o,e,At.off ha hr⟩⟩
section
variable {rs:List Ru} {s:List UInt8} {E:Nat->Nat->Int} {b r:Nat} {ga ea:Option Addr} {gl gc ec eb:Nat}
end
end Go.Proofs.Ytmnilbfhfjdelaa.core

namespace Go.Proofs.Ytmnilbfhfjdelaa.core
open Go.Gx Go.RowKit Go.ChangeShapes Go.WideShapes Go.ChangeAt
set_option linter.unusedVariables false
theorem new_raw {rs:List Ru} {s:List UInt8} {ga:Option Addr} {gl gc:Nat} {M:Mem} {K:Value->Mem->Prop} (hg:GrR M rs ga gl gc) (h10:rs.length<=10) (h120:(rs.map λr=>cnt r.body).sum<=100000)
  (hK:∀(V M':Mem) (pb r:Nat) (fa:Option Addr) (fc:Nat),M.le V->V pb=none->V r=none->pb≠r->(∀i,i<rs.length->∃b o,fa=some ⟨b,o,none⟩/\At V b (o+i*1) [Value.int .i64 (fstN rs i:Nat)])->
   M' pb=some (.cells (X_pack_Parser.mk ga rs.length gc s (some r) none 0 0 (-1) (X_api_Set.mk 0 0 0 0) Value.nilFunc fa rs.length fc).cells.toArray 155 (0,0))->MapF M' r (λ_ _=>none)->V.le M'->K (.pointer (some ⟨pb,0,none⟩)) M'):
  S_pack_New ga gl gc s M (λ_=>False) K:=by
 have hgl:=hg.len
 subst hgl
 unfold S_pack_New
 intro M6 r hr hM6 _
 have hle6:M.le M6:=by rw[hM6];exact Mem.add_le hr
 refine⟨Unit,λ_ n i rn rx M'=>0<=i/\i<=rs.length/\n=(fstN rs i.toNat:Nat)/\rn=i.toNat/\rx=cl iC ((List.range i.toNat).map λj=>((fstN rs j:Nat):Int))/\M6.le M',λ_ _ i _ _=>rs.length-i.toNat,(),⟨by omega,by omega,by simp[fstN],rfl,rfl,Mem.le.refl _⟩,λ_ n i rn rx M' ⟨i0,i1,hn,hrn,hrx,hle⟩=>⟨λhlt=>?_,λhge=>?_⟩⟩
 ·obtain⟨rr,x,b,o,hrr,ha,hat,hrx2⟩:=hg.at i0 hlt
  have hsum:=fstN_rule hrr
  refine⟨b,o,ha,i0,hlt,x,hat.le (hle6.trans hle),by omega,(s_pack_count _ _ _ _ (count_is _ rr.body (Nat.lt_succ_self _) (by omega) _ _ _ (hrx2.2.2.le (hle6.trans hle)) λM2 hle2=>⟨_,rfl,?_,?_,(),⟨by omega,by omega,?_,by omega,?_,hle.trans hle2⟩,?_⟩)).mono (λ_ h=>h.elim) (λv M' _ h=>h)⟩
  ·exact inI_small (by omega) (by omega)
  ·exact inI_small (by omega) (by omega)
  ·rw[show(i+1).toNat=i.toNat+1 by omega,fstN_succ hrr,hn];push_cast;rfl
  ·rw[hrx,hn,show(i+1).toNat=i.toNat+1 by omega,List.range_succ,List.map_append]
   exact cl_snoc _ _
  ·show rs.length-(i+1).toNat<rs.length-i.toNat
   omega
 ·intro M64 hn64 M67 ad cap hn67 pb M68 hpb hM68 M3 hle3
  have hi:i.toNat=rs.length:=by omega
  rw[hrn,hi]at hn67
  rw[hrx,hi]at hn67
  have hle67:M6.le M67:=hle.trans (hn64.le.trans hn67.le)
  have hr67:M67 r=some (.map #[] 0):=hle67 _ _ (by rw[hM6];exact Mem.add_eq)
  have hcell:∀j,M67.cell r j=none:=λj=>by unfold Mem.cell;rw[hr67]
  have hsl:=SlV.off hn67.slv hcell
  have hne:pb≠r:=by rintro rfl;rw[hpb]at hr67;cases hr67
  have hleV:(but M67 r).le M68:=(but_le _ _).trans (by rw[hM68];exact Mem.add_le hpb)
  refine hK (but M67 r) M3 pb r ad cap (le_but (hle6.trans hle67) hr) ?_ (but_eq _ _) hne (λj hj=>?_) ?_ ?_ (hleV.trans hle3)
  ·rw[but_ne hne];exact hpb
  ·exact hsl.at iC_len (by simp) (x:=((fstN rs j:Nat):Int)) (by rw[List.getElem?_map,List.getElem?_range hj];rfl)
  ·refine hle3 _ _ ?_
   rw[hM68,Mem.add_eq,hrn,hi];rfl
  ·refine MapF.le ?_ hle3
   obtain⟨es,clk,h1,h2⟩:=MapF.new M r
   rw[Mem.add_eq]at h1
   cases h1
   refine⟨#[],0,?_,h2⟩
   rw[hM68,Mem.add_ne hne.symm];exact hr67
theorem new_is {rs:List Ru} {s:List UInt8} {E:Nat->Nat->Int} {ga:Option Addr} {gl gc:Nat} {M:Mem} {K:Value->Mem->Prop} (hw:WellOk rs) (hT:Tab rs s E) (hs:s.length<=60) (hg:GrR M rs ga gl gc)
  (hK:∀(c:PkC) (M':Mem),c.Ok->c.rs=rs->c.s=s->c.E=E->M.le c.V->PI c [] M'->K (.pointer c.ptr) M'):S_pack_New ga gl gc s M (λ_=>False) K:=by
 have h10:=hw.ok.ten
 have h120:(rs.map λr=>cnt r.body).sum<=120:=hw.ok.all
 have hgl:=hg.len
 refine new_raw hg h10 (by omega) λV M' pb r fa fc hle h1 h2 h3 h4 h5 h6 h7=>?_
 refine hK ⟨V,rs,s,E,pb,r,ga,fa,gl,gc,fc,.nilFunc,λ_=>False,λ_ _=>True,120⟩ M' ?_ rfl rfl rfl hle ?_
 ·exact⟨hw,hT,hs,hg.le hle,h4,h1,h2,h3,λh=>h,λh=>h,λ_ h=>h.elim,λ_ _ _ _ _=>trivial,λ_ _ _ _ h=>h.elim,⟨true,.inl ⟨rfl,rfl⟩,λ_ _ _ _ _ _ _=>trivial,λh=>(by cases h)⟩,λ_ _ _ _ _=>trivial,h120,by show 120<=100000;omega⟩
 ·refine⟨-1,X_api_Set.mk 0 0 0 0,FW.init _ _ _,h7,⟨none,0,?_,⟨rfl,Nat.le_refl _,by decide,.inl ⟨rfl,rfl,rfl⟩⟩,λg hg=>by cases hg⟩,⟨_,h6,λi p v=>⟨λh=>(by cases h),λh=>(by cases h.1)⟩⟩,trivial,by simp[logOf],λi p h=>by cases h⟩
  rw[h5,hgl];rfl
end Go.Proofs.Ytmnilbfhfjdelaa.core

namespace Go.Proofs.Ytmnilbfhfjdelaa.core
open Go.Gx Go.RowKit Go.ChangeShapes Go.WideShapes Go.ChangeAt
set_option linter.unusedVariables false
theorem tab_same {rs:List Ru} {s:List UInt8} {E E':Nat->Nat->Int} (hw:WellOk rs) (hT:Tab rs s E) (hT':Tab rs s E') {p i:Nat} (hp:p<=s.length) (hi:i<rs.length):E p i=E' p i:=by
 obtain⟨r,hr⟩:=getN (l:=rs) hi
 have hok:=hw.peg (List.mem_of_getElem? hr)
 obtain⟨m,x,hx⟩:=ev_ex hw hT r.body p hok (by omega) (by omega)
 rw[hT.fix p i r hp hr,hT'.fix p i r hp hr,<-ev_res hw hT m _ _ _ hok (by omega) (by omega) hx,<-ev_res hw hT' m _ _ _ hok (by omega) (by omega) hx]
theorem LV_new {c:PkC} {M:Mem} {L:Nat->Prop} (h:M.le c.V):∀b,c.LV b->Wr L M b:=λb hb=>.inr (by
 cases hv:M b with
 |none=>rfl
 |some o=>have:=h b o hv;rw[show c.V b=none from hb]at this;cases this)
section
variable {rs:List Ru} {s:List UInt8} {ga:Option Addr} {gl gc:Nat} {M:Mem} {K:Value->Mem->Prop}
theorem prun_is (hg:GrR M rs ga gl gc)
  (h1:lookP rs s≠0->∀M',M.le M'->K (.tuple #[(X_api_Outcome.mk false 0).val,.slice none 0 0,.int .i64 (lookP rs s)]) M')
  (h3:lookP rs s=0->∀E,Tab rs s E->∀t,Goes rs s E (.rule 0 0) [] t->∀M' la lc,M.le M'->SlV M' la (logOf E t).length lc 4 (cl X_api_Step.cells (logOf E t))->K (.tuple #[(outE (E 0 0) 0).val,.slice la (logOf E t).length lc,.int .i64 0]) M'):
  S_pack_Run ga gl gc s M (λ_=>False) K:=by
 unfold S_pack_Run
 refine s_mean_Look _ _ _ _ _ _ (mlook_is hg s _ ⟨_,rfl,λh=>h1 h,λh=>?_⟩)
 have h0:lookP rs s=0:=Decidable.not_not.1 h
 obtain⟨hw,hs⟩:=look_ok h0
 have h11:=hw.ok.one
 obtain⟨E,hT⟩:=tab_ex (s:=s) hw
 refine(s_pack_New _ _ _ _ _ _ _ (new_is hw hT hs hg λc M2 hc hcr hcs hcE hle hP=>⟨_,rfl,?_⟩)).mono (λ_ h=>h.elim) (λv M' _ h=>h)
 subst hcr hcs hcE
 refine(s_pack_Parser_Rule _ _ _ _ _ _ (prule_is hc (Int.le_refl 0) (by omega) (Int.le_refl 0) (by omega) hP λM3 t' hgo hP3=>⟨_,rfl,?_⟩)).mono (LV_new hle) (λv M' _ h=>h)
 obtain⟨far,want,hF,hB⟩:=id hP3
 obtain⟨la,lc,hb,hrow,_⟩:=hB.bk
 exact⟨c.pb,0,rfl,la,(logOf c.E t').length,lc,(At.blk hb).part 3 [.slice la _ lc] rfl,λM4 hle4=>h3 h0 c.E hT t' hgo M4 la lc (hle.trans (hP3.le.trans hle4)) (hrow.slv.le hle4)⟩
end
end Go.Proofs.Ytmnilbfhfjdelaa.core

