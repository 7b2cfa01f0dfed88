/- Contracts and what they hang on, of several parts. No condition. -/
import Derived.Lib.RuneCountTail
import Derived.Test.YtjecddabdlapbaaDoorPlaceG
import Derived.Lib.LaidU8
import GoSem.PinnedTables
namespace Go.Proofs.YtjecddabdlapbaaDoor.core
open Go.Gx Go.RowKit Go.ChangeShapes Go.WideShapes Go.ChangeAt
set_option linter.unusedVariables false
def contGo:Nat->List UInt8->Nat->Option Nat
 |0,_,v=>some v
 |_+1,[],_=>none
 |k+1,c::r,v=>if c.toNat<128\/191<c.toNat then none else contGo k r (v*64+c.toNat % 64)
def headOf (b:Nat):Nat×Nat×Nat:=
 if 194<=b/\b<224 then(2,128,b % 32) else if 224<=b/\b<240 then(3,2048,b % 16) else if 240<=b/\b<245 then(4,65536,b % 8) else(0,0,0)
def firstL:List UInt8->Nat
 |[]=>0
 |b::r=>if b.toNat<128 then 1 else
  if (headOf b.toNat).1=0\/r.length+1<(headOf b.toNat).1 then 0 else
  match contGo ((headOf b.toNat).1-1) r (headOf b.toNat).2.2 with
  |none=>0
  |some v=>if v<(headOf b.toNat).2.1\/1114111<v\/(55296<=v/\v<57344) then 0 else(headOf b.toNat).1
end Go.Proofs.YtjecddabdlapbaaDoor.core

namespace Go.Proofs.YtjecddabdlapbaaDoor.core
open Go.Gx Go.RowKit Go.ChangeShapes Go.WideShapes Go.ChangeAt
set_option linter.unusedVariables false
theorem firstL_cons (b:UInt8) (r:List UInt8):firstL (b::r)=if b.toNat<128 then 1 else
  if (headOf b.toNat).1=0\/r.length+1<(headOf b.toNat).1 then 0 else
  match contGo ((headOf b.toNat).1-1) r (headOf b.toNat).2.2 with
  |none=>0
  |some v=>if v<(headOf b.toNat).2.1\/1114111<v\/(55296<=v/\v<57344) then 0 else(headOf b.toNat).1:=rfl
theorem firstL_le (l:List UInt8):firstL l<=l.length:=by
 cases l with
 |nil=>exact Nat.le_refl _
 |cons b r=>
  rw[firstL_cons]
  split
  ·simp
  ·split
   ·exact Nat.zero_le _
   ·rename_i h
    split
    ·exact Nat.zero_le _
    ·split
     ·exact Nat.zero_le _
     ·simp;omega
def signsFrom (l:List UInt8) (i:Nat):List Nat:=if h:i<l.length then i::signsFrom l (i+max 1 (firstL (l.drop i))) else[]
termination_by l.length-i
decreasing_by omega
theorem signs_in {l:List UInt8} {i:Nat} (h:i<l.length):signsFrom l i=i::signsFrom l (i+max 1 (firstL (l.drop i))):=by
 rw[signsFrom,dif_pos h]
theorem signs_out {l:List UInt8} {i:Nat} (h:¬i<l.length):signsFrom l i=[]:=by
 rw[signsFrom,dif_neg h]
theorem sign_step {l:List UInt8} {i:Nat} (h:i<l.length):i+max 1 (firstL (l.drop i))<=l.length:=by
 have:=firstL_le (l.drop i)
 rw[List.length_drop]at this
 omega
theorem signs_len (l:List UInt8) (i:Nat):(signsFrom l i).length<=l.length-i:=by
 induction h:l.length-i using Nat.strongRecOn generalizing i with
 |_ n ih=>
  by_cases hi:i<l.length
  ·rw[signs_in hi,List.length_cons]
   have:=ih (l.length-(i+max 1 (firstL (l.drop i)))) (by omega) _ rfl
   omega
  ·rw[signs_out hi];simp
theorem wrapB (c:UInt8):IntKind.wrap .i64 (c.toNat:Int)=(c.toNat:Int):=wrap_in (by have:=c.toNat_lt;unfold InI;omega)
theorem tmodN (x k:Nat):(x:Int).tmod (k:Int)=((x % k:Nat):Int):=by rw[Int.tmod_eq_emod_of_nonneg (by omega),Int.natCast_emod]
theorem tmod64 (x:Nat):(x:Int).tmod 64=((x % 64:Nat):Int):=tmodN x 64
theorem contGo_in {k:Nat} {s:List UInt8} {i v:Nat} {c:UInt8} (h:s[i]?=some c):contGo (k+1) (s.drop i) v=if c.toNat<128\/191<c.toNat then none else contGo k (s.drop (i+1)) (v*64+c.toNat % 64):=by
 obtain⟨hi,rfl⟩:=List.getElem?_eq_some_iff.1 h
 rw[List.drop_eq_getElem_cons hi];rfl
theorem rfirst_end {s:List UInt8} {b:UInt8} {t:List UInt8} (hs:s=b::t) (hb:¬b.toNat<128) (n low v:Nat) (hn:n<=4) (hv:v<64) (hh:headOf b.toNat=(n,low,v)) {K:Value->Prop} (hK:K (.int .i64 (firstL s:Nat))):S_chaffref_first_J4 s n low v K:=by
 have hf:firstL s=if n=0\/t.length+1<n then 0 else match contGo (n-1) t v with
   |none=>0
   |some v=>if v<low\/1114111<v\/(55296<=v/\v<57344) then 0 else n:=by
  rw[hs,firstL_cons,if_neg hb,hh]
 have hlen:s.length=t.length+1:=by rw[hs];rfl
 have bad:∀h:n=0\/t.length+1<n,S_chaffref_first_J5 s n low v true K:=λh=>by
  unfold S_chaffref_first_J5
  refine⟨λ_=>?_,λh=>absurd rfl h⟩
  rw[hf,if_pos h]at hK;exact hK
 unfold S_chaffref_first_J4
 refine⟨λh=>bad (.inl (by omega)),λh0=>?_⟩
 by_cases hl:t.length+1<n
 ·rw[show decide (((s.length:Nat):Int)<(n:Int))=true by simp;omega]
  exact bad (.inr hl)
 rw[show decide (((s.length:Nat):Int)<(n:Int))=false by simp;omega]
 rw[if_neg (by omega)]at hf
 have ht:t=s.drop 1:=by rw[hs];rfl
 unfold S_chaffref_first_J5
 refine⟨λh=>by simp at h,λ_=>⟨λw i=>∃(x j:Nat),w=x/\i=j/\1<=j/\j<=n/\x<64 ^ j/\contGo (n-1) t v=contGo (n-j) (s.drop j) x,λ_ i=>(4-i).toNat,⟨v,1,rfl,rfl,Nat.le_refl _,by omega,by omega,by rw[ht]⟩,λw i ⟨x,j,hx,hj,hj1,hjn,hxl,hc⟩=>?_⟩⟩
 subst hx;subst hj
 have hpow:x<64 ^ 4:=Nat.lt_of_lt_of_le hxl (Nat.pow_le_pow_right (by decide) (by omega))
 refine⟨λhlt=>?_,λhge=>?_⟩
 ·obtain⟨c,hc1⟩:∃c,s[j]?=some c:=⟨s[j]'(by omega),List.getElem?_eq_getElem _⟩
  have hcl:=c.toNat_lt
  have hstep:=contGo_in (k:=n-j-1) (v:=x) hc1
  rw[show n-j-1+1=n-j by omega]at hstep
  have miss:c.toNat<128\/191<c.toNat->S_chaffref_first_J6 s x j (λw i=>∃(x j:Nat),w=x/\i=j/\1<=j/\j<=n/\x<64 ^ j/\contGo (n-1) t v=contGo (n-j) (s.drop j) x) (λ_ i=>(4-i).toNat) true K:=λh=>by
   unfold S_chaffref_first_J6
   refine⟨λ_=>?_,λh=>absurd rfl h⟩
   rw[hf,hc,hstep,if_pos h]at hK;exact hK
  refine⟨c,by omega,by simpa using hc1,λh=>miss (.inl (by omega)),λh1=>⟨c,by omega,by simpa using hc1,?_⟩⟩
  by_cases h2:191<c.toNat
  ·rw[show decide ((c.toNat:Int)>191)=true by simp;omega];exact miss (.inr h2)
  rw[show decide ((c.toNat:Int)>191)=false by simp;omega]
  unfold S_chaffref_first_J6
  simp only[wrapB,tmod64]
  have hx2:x*64+c.toNat % 64<64 ^ (j+1):=by rw[Nat.pow_succ];omega
  have hx3:64 ^ (j+1)<=64 ^ 5:=Nat.pow_le_pow_right (by decide) (by omega)
  refine⟨λh=>by simp at h,λ_=>⟨by unfold InI;omega,c,by omega,by simpa using hc1,by unfold InI;omega,by unfold InI;omega,⟨x*64+c.toNat % 64,j+1,by omega,by omega,by omega,by omega,hx2,?_⟩,by omega⟩⟩
  rw[hc,hstep,if_neg (by omega),show n-j-1=n-(j+1) by omega]
 ·obtain rfl:j=n:=by omega
  rw[Nat.sub_self]at hc
  rw[hf,hc]at hK
  unfold contGo at hK
  simp only at hK
  have bad:∀h:x<low\/1114111<x\/(55296<=x/\x<57344),S_chaffref_first_J7 (j:Int) true K:=λh=>by
   unfold S_chaffref_first_J7
   refine⟨λ_=>?_,λh=>absurd rfl h⟩
   rw[if_pos h]at hK;exact hK
  have good:∀h:¬(x<low\/1114111<x\/(55296<=x/\x<57344)),S_chaffref_first_J7 (j:Int) false K:=λh=>by
   unfold S_chaffref_first_J7
   refine⟨λh=>by simp at h,λ_=>?_⟩
   rw[if_neg h]at hK;exact hK
  refine⟨λh=>bad (.inl (by omega)),λh1=>⟨λh=>bad (.inr (.inl (by omega))),λh2=>⟨λh3=>?_,λh3=>good (by omega)⟩⟩⟩
  by_cases h4:x<57344
  ·rw[show decide ((x:Int)<57344)=true by simp;omega];exact bad (.inr (.inr ⟨by omega,h4⟩))
  ·rw[show decide ((x:Int)<57344)=false by simp;omega];exact good (by omega)
theorem rfirst_is {s:List UInt8} (hs:s≠[]) {M:Mem} (K:Value->Prop) (hK:K (.int .i64 (firstL s:Nat))):S_chaffref_first s M K:=by
 obtain⟨b,t,rfl⟩:∃b t,s=b::t:=by cases s with
  |nil=>exact absurd rfl hs
  |cons b t=>exact⟨b,t,rfl⟩
 have hb:=b.toNat_lt
 unfold S_chaffref_first
 refine⟨b,by omega,rfl,?_⟩
 rw[wrapB]
 refine⟨λh=>?_,λh=>?_⟩
 ·rw[firstL_cons,if_pos (by omega)]at hK;exact hK
 have hb':¬b.toNat<128:=by omega
 have z:(∀h:¬((194<=b.toNat/\b.toNat<224)\/(224<=b.toNat/\b.toNat<240)\/(240<=b.toNat/\b.toNat<245)),S_chaffref_first_J4 (b::t) 0 0 0 K):=λh=>
  rfirst_end rfl hb' 0 0 0 (by decide) (by decide) (by unfold headOf;rw[if_neg (by omega),if_neg (by omega),if_neg (by omega)]) hK
 have w3:∀(h1:¬(194<=b.toNat/\b.toNat<224)) (h2:¬(224<=b.toNat/\b.toNat<240)) (x:Bool),x=decide (240<=b.toNat/\b.toNat<245)->S_chaffref_first_J3 (b::t) b x K:=λh1 h2 x hx=>by
  subst hx
  unfold S_chaffref_first_J3
  rw[wrapB,show(8:Int)=((8:Nat):Int) from rfl,tmodN]
  refine⟨λh=>rfirst_end rfl hb' 4 65536 _ (by decide) (by omega) (by unfold headOf;rw[if_neg h1,if_neg h2,if_pos (by simpa using h)]) hK,λh=>z (by simp at h;omega)⟩
 have w2:∀(h1:¬(194<=b.toNat/\b.toNat<224)) (x:Bool),x=decide (224<=b.toNat/\b.toNat<240)->S_chaffref_first_J2 (b::t) b x K:=λh1 x hx=>by
  subst hx
  unfold S_chaffref_first_J2
  rw[wrapB,show(16:Int)=((16:Nat):Int) from rfl,tmodN]
  refine⟨λh=>rfirst_end rfl hb' 3 2048 _ (by decide) (by omega) (by unfold headOf;rw[if_neg h1,if_pos (by simpa using h)]) hK,λh=>?_⟩
  have h2:¬(224<=b.toNat/\b.toNat<240):=by simpa using h
  refine⟨λh3=>w3 h1 h2 _ ?_,λh3=>w3 h1 h2 _ ?_⟩
  ·rw[decide_eq_decide];omega
  ·rw[Bool.false_eq,decide_eq_false_iff_not];omega
 have w1:∀(x:Bool),x=decide (194<=b.toNat/\b.toNat<224)->S_chaffref_first_J1 (b::t) b x K:=λx hx=>by
  subst hx
  unfold S_chaffref_first_J1
  rw[wrapB,show(32:Int)=((32:Nat):Int) from rfl,tmodN]
  refine⟨λh=>rfirst_end rfl hb' 2 128 _ (by decide) (by omega) (by unfold headOf;rw[if_pos (by simpa using h)]) hK,λh=>?_⟩
  have h1:¬(194<=b.toNat/\b.toNat<224):=by simpa using h
  refine⟨λh3=>w2 h1 _ ?_,λh3=>w2 h1 _ ?_⟩
  ·rw[decide_eq_decide];omega
  ·rw[Bool.false_eq,decide_eq_false_iff_not];omega
 refine⟨λh3=>w1 _ ?_,λh3=>w1 _ ?_⟩
 ·rw[decide_eq_decide];omega
 ·rw[Bool.false_eq,decide_eq_false_iff_not];omega
end Go.Proofs.YtjecddabdlapbaaDoor.core

namespace Go.Proofs.YtjecddabdlapbaaDoor.core
open Go.Gx Go.RowKit Go.ChangeShapes Go.WideShapes Go.ChangeAt
set_option linter.unusedVariables false
abbrev natI (l:List Nat):List Int:=l.map λ(n:Nat)=>(n:Int)
theorem take_all {α:Type} (l:List α):l.take ((l.length:Nat):Int).toNat=l:=by simp
theorem max_is (n:Nat):(if ((n:Nat):Int)>1 then((n:Nat):Int) else 1)=((max 1 n:Nat):Int):=by split<;>omega
theorem rsigns_is {s:List UInt8} (hs:s.length<=1048576) {M:Mem} (K:Nat->List Value->Prop) (hK:K (signsFrom s 0).length (cl iC (natI (signsFrom s 0)))):C_chaffref_Signs s M K:=by
 refine s_chaffref_Signs _ _ _ ?_
 unfold S_chaffref_Signs
 refine⟨λi n xs=>∃(j:Nat) (pre:List Nat),i=j/\signsFrom s 0=pre++signsFrom s j/\n=pre.length/\xs=cl iC (natI pre)/\j<=s.length,λi _ _=>(s.length-i).toNat,⟨0,[],rfl,rfl,rfl,rfl,Nat.zero_le _⟩,λi n xs ⟨j,pre,hi,hpre,hn,hxs,hj⟩=>?_⟩
 subst hi;subst hn;subst hxs
 have hlen:=signs_len s 0
 rw[hpre,List.length_append]at hlen
 refine⟨λhlt=>?_,λhge=>?_⟩
 ·have hlt':j<s.length:=by omega
  rw[signs_in hlt']at hpre hlen
  simp only[List.length_cons]at hlen
  refine⟨by omega,by omega,by omega,by omega,?_⟩
  rw[take_all,show(j:Int).toNat=j from rfl]
  have hne:s.drop j≠[]:=λe=>by
   have:=congrArg List.length e
   simp at this;omega
  refine s_chaffref_first _ _ _ (rfirst_is hne _ ⟨_,rfl,?_⟩)
  have hstep:=sign_step hlt'
  rw[max_is]
  refine⟨by unfold InI;omega,⟨j+max 1 (firstL (s.drop j)),pre++[j],by omega,by rw[hpre,List.append_assoc];rfl,by simp,?_,hstep⟩,by dsimp only;omega⟩
  simp[cl,natI]
 ·rw[signs_out (l:=s) (i:=j) (by omega),List.append_nil]at hpre
  rw[<-hpre];exact hK
theorem split_at {s:List UInt8} {i:Nat} {c:UInt8} (h:s[i]?=some c):s=s.take i++c::s.drop (i+1):=by
 obtain⟨hi,rfl⟩:=List.getElem?_eq_some_iff.1 h
 rw[<-List.drop_eq_getElem_cons hi,List.take_append_drop]
theorem count_is {s:List UInt8} {M:Mem} (K:Value->Prop) (hK:K (.int .i64 (s.count 10:Nat))):S_strings_Count s [10] M K:=by
 unfold S_strings_Count
 refine⟨λh=>by simp at h,λ_=>⟨λ_=>⟨10,by omega,rfl,hK⟩,λh=>by simp at h⟩⟩
theorem index_is {s:List UInt8} {M:Mem} (K:Value->Prop) (hK:K (.int .i64 (idxB s 10))):S_strings_Index s [10] M K:=by
 unfold S_strings_Index
 refine s_internal_stringslite_Index _ _ _ _ ?_
 unfold S_internal_stringslite_Index
 refine⟨λh=>by simp at h,λ_=>?_⟩
 unfold S_internal_stringslite_Index_J1
 refine⟨λh=>⟨_,rfl,?_⟩,λh=>⟨λ_=>⟨10,by omega,rfl,s_internal_stringslite_IndexByte _ _ _ _ ⟨_,rfl,⟨_,rfl,hK⟩⟩⟩,λh=>by simp at h⟩⟩
 have e:[10]=s:=mkS_beq.1 h
 subst e
 exact hK
def splitB (c:UInt8):List UInt8->List (List UInt8)
 |[]=>[[]]
 |b::r=>if b=c then[]::splitB c r else match splitB c r with
  |[]=>[[b]]
  |h::t=>(b::h)::t
theorem splitB_none {c:UInt8}:∀{l:List UInt8},(∀x∈l,x≠c)->splitB c l=[l]
 |[],_=>rfl
 |b::r,h=>by rw[splitB,if_neg (h b (by simp)),splitB_none λx hx=>h x (by simp[hx])]
theorem splitB_app {c:UInt8} {r:List UInt8}:∀{l:List UInt8},(∀x∈l,x≠c)->splitB c (l++c::r)=l::splitB c r
 |[],_=>by rw[List.nil_append,splitB,if_pos rfl]
 |b::l,h=>by rw[List.cons_append,splitB,if_neg (h b (by simp)),splitB_app λx hx=>h x (by simp[hx])]
theorem splitB_len (c:UInt8):∀l:List UInt8,(splitB c l).length=l.count c+1
 |[]=>rfl
 |b::r=>by
  have ih:=splitB_len c r
  rw[splitB]
  split
  ·rename_i h;subst h;simp[ih]
  ·rename_i h
   have e:(b::r).count c=r.count c:=by simp[List.count_cons,h]
   rw[e,<-ih]
   cases hs:splitB c r with
   |nil=>rw[hs]at ih;simp at ih
   |cons x t=>simp
theorem splitB_lens (c:UInt8):∀(l:List UInt8),∀x∈splitB c l,x.length<=l.length
 |[],x,hx=>by simp[splitB]at hx;simp[hx]
 |b::r,x,hx=>by
  have ih:=splitB_lens c r
  rw[splitB]at hx
  split at hx
  ·rcases List.mem_cons.1 hx with rfl|hx
   ·simp
   ·have:=ih x hx;simp;omega
  ·cases hs:splitB c r with
   |nil=>rw[hs]at hx;simp at hx;simp[hx]
   |cons h t=>
    rw[hs]at hx ih
    rcases List.mem_cons.1 hx with rfl|hx
    ·have:=ih h (by simp);simp;omega
    ·have:=ih x (by simp[hx]);simp;omega
theorem sC1:∀x:List UInt8,(sC x).length=1:=λ_=>rfl
theorem repl_sC (n:Nat):repl n [Value.string (mkS [])]=cl sC (List.replicate n []):=by
 unfold repl cl
 rw[List.map_replicate]
theorem split_is {s:List UInt8} (hs:s.length<=1048576) {M:Mem} (K:Value->Mem->Prop) (hK:∀M' A c,M.le M'->SlV M' A (splitB 10 s).length c 1 (cl sC (splitB 10 s))->K (.slice A (splitB 10 s).length c) M'):S_strings_Split s [10] M K:=by
 unfold S_strings_Split
 have hlen:=splitB_len 10 s
 have hcnt:s.count 10<=s.length:=List.count_le_length
 refine s_strings_genSplit _ _ _ _ _ _ ?_
 unfold S_strings_genSplit
 refine⟨λh=>by simp at h,λ_=>⟨λh=>by simp at h,λ_=>⟨λ_=>?_,λh=>absurd (by decide) h⟩⟩⟩
 refine s_strings_Count _ _ _ _ (count_is _ ⟨_,rfl,by unfold InI;omega,?_⟩)
 unfold S_strings_genSplit_J1
 obtain⟨N,hN⟩:∃N:Nat,N=(splitB 10 s).length:=⟨_,rfl⟩
 have hif:(if ((s.length:Nat):Int)+1<((s.count 10:Nat):Int)+1 then((s.length:Nat):Int)+1 else((s.count 10:Nat):Int)+1)=(N:Int):=by split<;>omega
 rw[hif]
 rw[<-hN]at hlen hK
 have hN0:0<N:=by omega
 refine⟨by unfold InI;omega,by omega,by omega,by omega,by unfold InI;omega,?_⟩
 rw[show(N:Int).toNat=N from rfl,repl_sC]
 refine⟨λrest i rn rx=>∃dn:List (List UInt8),splitB 10 s=dn++splitB 10 rest/\i=dn.length/\N=rn/\rx=cl sC (dn++List.replicate (N-dn.length) [])/\rest.length<=s.length,λ_ i _ _=>(N-i).toNat,⟨[],rfl,rfl,rfl,by simp,Nat.le_refl _⟩,λrest i rn rx ⟨dn,hsp,hi,hrn,hrx,hrl⟩=>?_⟩
 subst hi;subst hrn;subst hrx
 have hl2:=congrArg List.length hsp
 rw[List.length_append,splitB_len 10 rest,<-hN]at hl2
 refine⟨λhlt=>?_,λhge=>?_⟩
 ·refine s_strings_Index _ _ _ _ (index_is _ ⟨_,rfl,?_⟩)
  rcases idxB_cases rest 10 with⟨hz,hno⟩|⟨m,hz,hm,hno⟩
  ·have h0:splitB 10 rest=[rest]:=splitB_none λx hx=>by
    obtain⟨k,hk⟩:=List.mem_iff_getElem?.1 hx
    exact hno k x hk
   have:=splitB_len 10 rest
   rw[h0]at this
   simp at this
   omega
  ·replace hz:idxB rest 10=(m:Int):=hz
   rw[hz]
   have hml:=(List.getElem?_eq_some_iff.1 hm).1
   have hsa:=split_at hm
   have hno':∀x∈rest.take m,x≠10:=λx hx=>by
    obtain⟨k,hk⟩:=List.mem_iff_getElem?.1 hx
    rw[List.getElem?_take]at hk
    split at hk
    ·exact hno k x (by omega) hk
    ·cases hk
   have hsp2:splitB 10 rest=rest.take m::splitB 10 (rest.drop (m+1)):=by
    rw[<-splitB_app hno',<-hsa]
   refine⟨λh=>by omega,λ_=>⟨by unfold InI;omega,by omega,by omega,by omega,by omega,by omega,by unfold InI;simp;omega,?_⟩⟩
   have e1:(rest.take ((rest.length:Nat):Int).toNat).drop ((m:Int)+(([10]:List UInt8).length:Nat)).toNat=rest.drop (m+1):=by rw[take_all];rfl
   have e2:(rest.take ((m:Int)+0).toNat).drop (0:Int).toNat=rest.take m:=by simp
   have e3:putAt (cl sC (dn++List.replicate (N-dn.length) [])) (0+(dn.length:Int).toNat*1) [Value.string (mkS (rest.take m))]=cl sC ((dn++[rest.take m])++List.replicate (N-(dn++[rest.take m]).length) []):=by
    rw[show(dn.length:Int).toNat=dn.length from rfl,show[Value.string (mkS (rest.take m))]=sC (rest.take m) from rfl,cl_put sC1 _ (by simp;omega)]
    congr 1
    rw[List.set_append_right _ _ (Nat.le_refl _),Nat.sub_self,List.append_assoc]
    congr 1
    obtain⟨q,hq⟩:∃q,N-dn.length=q+1:=⟨N-dn.length-1,by omega⟩
    rw[hq,List.replicate_succ,List.set_cons_zero,List.length_append,List.length_singleton,show N-(dn.length+1)=q by omega];rfl
   rw[e1,e2,e3]
   refine⟨by simp;omega,by simp;omega,by simp,by unfold InI;omega,⟨dn++[rest.take m],by rw[hsp,hsp2,List.append_assoc];rfl,by simp,rfl,rfl,by simp;omega⟩,by dsimp only;omega⟩
 ·have hd:dn.length+1=N:=by omega
  have h0:rest.count 10=0:=by omega
  have hr:splitB 10 rest=[rest]:=splitB_none λx hx e=>by
   subst e
   have:=List.count_pos_iff.2 hx
   omega
  unfold S_strings_genSplit_J2
  refine⟨by omega,by omega,by unfold InI;omega,by omega,by omega,λM3 A c hle hsl=>?_⟩
  have e3:(putAt (cl sC (dn++List.replicate (N-dn.length) [])) (0+(dn.length:Int).toNat*1) [Value.string (mkS rest)])=cl sC (splitB 10 s):=by
   rw[show(dn.length:Int).toNat=dn.length from rfl,show[Value.string (mkS rest)]=sC rest from rfl,cl_put sC1 _ (by simp;omega),hsp,hr]
   congr 1
   rw[List.set_append_right _ _ (Nat.le_refl _),Nat.sub_self,show N-dn.length=1 by omega];rfl
  rw[show((dn.length:Int)+1).toNat=N by omega,e3,List.take_of_length_le (by rw[cl_length sC1];omega)]at hsl
  rw[show((dn.length:Int)+1).toNat=N by omega]
  exact λM4 hle2=>⟨_,_,_,rfl,λM5 hle3=>hK M5 A c (hle.trans (hle2.trans hle3)) ((hsl.le hle2).le hle3)⟩
end Go.Proofs.YtjecddabdlapbaaDoor.core

namespace Go.Proofs.YtjecddabdlapbaaDoor.core
open Go.Gx Go.RowKit Go.ChangeShapes Go.WideShapes Go.ChangeAt
set_option linter.unusedVariables false
end Go.Proofs.YtjecddabdlapbaaDoor.core

namespace Go.Proofs.YtjecddabdlapbaaDoor.core
open Go.Gx Go.RowKit Go.ChangeShapes Go.WideShapes Go.ChangeAt
set_option linter.unusedVariables false
def lo2 (b:Nat):Nat:=if b=224 then 160 else if b=240 then 144 else 128
def hi2 (b:Nat):Nat:=if b=237 then 159 else if b=244 then 143 else 191
def accTab:List (Nat×Nat):=[(128,191),(160,191),(128,159),(144,191),(128,143)]
def AccM (M:Mem) (g:Nat):Prop:=∀(i lo hi:Nat),accTab[i]?=some (lo,hi)->At M g (i*2) [.int .u8 (lo:Int),.int .u8 (hi:Int)]
def TabU (M:Mem) (g:Nat) (zs:List Nat):Prop:=∀i z:Nat,zs[i]?=some z->M.cell g i=some (.int .u8 (z:Int))
theorem AccM.le {M M':Mem} {g:Nat} (h:AccM M g) (hl:M.le M'):AccM M' g:=λi lo hi hz=>(h i lo hi hz).le hl
theorem TabU.le {M M':Mem} {g:Nat} {zs:List Nat} (h:TabU M g zs) (hl:M.le M'):TabU M' g zs:=λi z hz=>hl.cell (h i z hz)
def headOk (b:Nat):Bool:=match Pinned.utf8FirstZ[b]? with
 |some z=>decide (z<256)&&(if 240<=z then decide ((headOf b).1=0) else decide (z % 8=(headOf b).1)&&decide (2<=(headOf b).1)&&decide ((headOf b).1<=4)&&decide (accTab[z / 16]?=some (lo2 b,hi2 b)))
 |none=>false
theorem head_ok:∀b:Fin 256,128<=b.val->headOk b.val=true:=by decide+kernel
theorem u8_bits:∀n:Fin 256,IntKind.wrap .i64 (bAnd .u8 (n.val:Int) 7)=((n.val % 8:Nat):Int)/\bShr .u8 (n.val:Int) 4=((n.val / 16:Nat):Int):=by decide+kernel
theorem two_len {b c:UInt8} {t:List UInt8} (hb:194<=b.toNat/\b.toNat<224):max 1 (firstL (b::c::t))=if c.toNat<128\/191<c.toNat then 1 else 2:=by
 have hh:headOf b.toNat=(2,128,b.toNat % 32):=by unfold headOf;rw[if_pos hb]
 rw[firstL_cons,if_neg (by omega),hh,if_neg (by simp)]
 show max 1 (match contGo 1 (c::t) (b.toNat % 32)with|none=>0|some v=>if v<128\/1114111<v\/(55296<=v/\v<57344) then 0 else 2)=_
 unfold contGo
 have hc:=c.toNat_lt
 by_cases h:c.toNat<128\/191<c.toNat
 ·rw[if_pos h,if_pos h];rfl
 ·rw[if_neg h,if_neg h]
  unfold contGo
  simp only
  rw[if_neg (by omega)];rfl
theorem three_len {b c d:UInt8} {t:List UInt8} (hb:224<=b.toNat/\b.toNat<240):max 1 (firstL (b::c::d::t))=if c.toNat<lo2 b.toNat\/hi2 b.toNat<c.toNat then 1 else if d.toNat<128\/191<d.toNat then 1 else 3:=by
 have hh:headOf b.toNat=(3,2048,b.toNat % 16):=by unfold headOf;rw[if_neg (by omega),if_pos hb]
 rw[firstL_cons,if_neg (by omega),hh,if_neg (by simp)]
 show max 1 (match contGo 2 (c::d::t) (b.toNat % 16)with|none=>0|some v=>if v<2048\/1114111<v\/(55296<=v/\v<57344) then 0 else 3)=_
 have hc:=c.toNat_lt
 have hd:=d.toNat_lt
 have hlo:128<=lo2 b.toNat/\lo2 b.toNat<=160/\(b.toNat=224->lo2 b.toNat=160)/\(b.toNat≠224->lo2 b.toNat=128):=by unfold lo2;split<;>(try split)<;>omega
 have hhi:hi2 b.toNat<=191/\(b.toNat=237->hi2 b.toNat=159)/\(b.toNat≠237->hi2 b.toNat=191):=by unfold hi2;split<;>(try split)<;>omega
 unfold contGo
 by_cases h:c.toNat<128\/191<c.toNat
 ·rw[if_pos h,if_pos (by omega)];rfl
 rw[if_neg h]
 unfold contGo
 by_cases h2:d.toNat<128\/191<d.toNat
 ·rw[if_pos h2,if_pos h2];simp
 rw[if_neg h2,if_neg h2]
 unfold contGo
 simp only
 by_cases h3:c.toNat<lo2 b.toNat\/hi2 b.toNat<c.toNat
 ·rw[if_pos h3,if_pos (by omega)];rfl
 ·rw[if_neg h3,if_neg (by omega)];rfl
theorem four_len {b c d e:UInt8} {t:List UInt8} (hb:240<=b.toNat/\b.toNat<245):max 1 (firstL (b::c::d::e::t))=if c.toNat<lo2 b.toNat\/hi2 b.toNat<c.toNat then 1 else if d.toNat<128\/191<d.toNat then 1 else if e.toNat<128\/191<e.toNat then 1 else 4:=by
 have hh:headOf b.toNat=(4,65536,b.toNat % 8):=by unfold headOf;rw[if_neg (by omega),if_neg (by omega),if_pos hb]
 rw[firstL_cons,if_neg (by omega),hh,if_neg (by simp)]
 show max 1 (match contGo 3 (c::d::e::t) (b.toNat % 8)with|none=>0|some v=>if v<65536\/1114111<v\/(55296<=v/\v<57344) then 0 else 4)=_
 have hc:=c.toNat_lt
 have hd:=d.toNat_lt
 have he:=e.toNat_lt
 have hlo:128<=lo2 b.toNat/\lo2 b.toNat<=160/\(b.toNat=240->lo2 b.toNat=144)/\(b.toNat≠240->lo2 b.toNat=128):=by unfold lo2;split<;>(try split)<;>omega
 have hhi:hi2 b.toNat<=191/\(b.toNat=244->hi2 b.toNat=143)/\(b.toNat≠244->hi2 b.toNat=191):=by unfold hi2;split<;>(try split)<;>omega
 unfold contGo
 by_cases h:c.toNat<128\/191<c.toNat
 ·rw[if_pos h,if_pos (by omega)];rfl
 rw[if_neg h]
 unfold contGo
 by_cases h2:d.toNat<128\/191<d.toNat
 ·rw[if_pos h2,if_pos h2];simp
 rw[if_neg h2,if_neg h2]
 unfold contGo
 by_cases h4:e.toNat<128\/191<e.toNat
 ·rw[if_pos h4,if_pos h4];simp
 rw[if_neg h4,if_neg h4]
 unfold contGo
 simp only
 by_cases h3:c.toNat<lo2 b.toNat\/hi2 b.toNat<c.toNat
 ·rw[if_pos h3,if_pos (by omega)];rfl
 ·rw[if_neg h3,if_neg (by omega)];rfl
theorem short_len {b:UInt8} {t:List UInt8} (h:(headOf b.toNat).1=0\/t.length+1<(headOf b.toNat).1) (hb:128<=b.toNat):max 1 (firstL (b::t))=1:=by
 rw[firstL_cons,if_neg (by omega),if_pos h];rfl
theorem slow_is {b:UInt8} {t:List UInt8} (hb:128<=b.toNat) {M:Mem} (hT:TabU M 2 Pinned.utf8FirstZ) (hA:AccM M 3) (K:Value->Prop) (hK:∀r:Int,K (.tuple #[.int .i32 r,.int .i64 (max 1 (firstL (b::t)):Nat)])):S_unicode_utf8_decodeRuneInStringSlow (b::t) M K:=by
 have hb8:=b.toNat_lt
 have hok:=head_ok ⟨b.toNat,hb8⟩ hb
 unfold headOk at hok
 simp only at hok
 cases hz:Pinned.utf8FirstZ[b.toNat]? with
 |none=>rw[hz]at hok;cases hok
 |some z=>
  rw[hz]at hok
  simp only[Bool.and_eq_true,decide_eq_true_eq]at hok
  obtain⟨hz8,hok⟩:=hok
  unfold S_unicode_utf8_decodeRuneInStringSlow
  refine⟨λh=>by simp at h;omega,λ_=>⟨b,by omega,rfl,by omega,by omega,(z:Int),?_,?_,?_⟩⟩
  ·intro j v hj
   have hj0:j=0:=by
    have:=(List.getElem?_eq_some_iff.1 hj).1
    simp at this;omega
   subst hj0
   simp only[List.getElem?_cons_zero,Option.some.injEq]at hj
   subst hj
   rw[show 0+(b.toNat:Int).toNat*1+0=b.toNat by omega]
   exact hT _ _ hz
  ·intro h
   refine⟨b,by omega,rfl,?_⟩
   rw[if_pos (by omega)]at hok
   have:=hK
   rw[short_len (.inl (by simpa using hok)) hb]at this
   exact this _
  ·intro h
   rw[if_neg (by omega)]at hok
   simp only[Bool.and_eq_true,decide_eq_true_eq]at hok
   obtain⟨⟨⟨h1,h2⟩,h3⟩,h4⟩:=hok
   obtain⟨e1,e2⟩:=u8_bits ⟨z,hz8⟩
   simp only at e1 e2
   rw[e2]
   have hat:=hA _ _ _ h4
   refine⟨by omega,by omega,⟨(lo2 b.toNat:Int),(hi2 b.toNat:Int)⟩,by rw[show 0+((z / 16:Nat):Int).toNat*2=z / 16*2 by omega];exact hat,?_⟩
   rw[e1,h1]
   generalize hn:(headOf b.toNat).1=n at*
   refine⟨λh=>?_,λh=>?_⟩
   ·have:=hK
    rw[short_len (.inr (by rw[hn];simp at h;omega)) hb]at this
    exact this _
   have hlen:n<=t.length+1:=by simp at h;omega
   obtain⟨c,t,rfl⟩:∃c t',t=c::t':=by cases t with
    |nil=>simp at hlen;omega
    |cons c t=>exact⟨c,t,rfl⟩
   have hcls:(n=2/\194<=b.toNat/\b.toNat<224)\/(n=3/\224<=b.toNat/\b.toNat<240)\/(n=4/\240<=b.toNat/\b.toNat<245):=by
    unfold headOf at hn
    split at hn
    ·simp at hn;omega
    ·split at hn
     ·simp at hn;omega
     ·split at hn
      ·simp at hn;omega
      ·simp at hn;omega
   have hlo:194<=b.toNat->b.toNat<224->lo2 b.toNat=128/\hi2 b.toNat=191:=λg1 g2=>by
    unfold lo2 hi2;rw[if_neg (by omega),if_neg (by omega),if_neg (by omega),if_neg (by omega)];exact⟨rfl,rfl⟩
   have bad1:c.toNat<lo2 b.toNat\/hi2 b.toNat<c.toNat->S_unicode_utf8_decodeRuneInStringSlow_J1 (b::c::t) b z c true K:=λg=>by
    unfold S_unicode_utf8_decodeRuneInStringSlow_J1
    refine⟨λ_=>?_,λh=>absurd rfl h⟩
    have hK:=hK 65533
    rcases hcls with⟨_,g1,g2⟩|⟨rfl,g1,g2⟩|⟨rfl,g1,g2⟩
    ·have:=hlo g1 g2
     rw[two_len ⟨g1,g2⟩,if_pos (by omega)]at hK;exact hK
    ·obtain⟨d,t,rfl⟩:∃d t',t=d::t':=by cases t with
      |nil=>simp at hlen
      |cons d t=>exact⟨d,t,rfl⟩
     rw[three_len ⟨g1,g2⟩,if_pos g]at hK;exact hK
    ·obtain⟨d,e,t,rfl⟩:∃d e t',t=d::e::t':=by
      rcases t with _|⟨d,_|⟨e,t⟩⟩
      ·simp at hlen
      ·simp at hlen
      ·exact⟨d,e,t,rfl⟩
     rw[four_len ⟨g1,g2⟩,if_pos g]at hK;exact hK
   dsimp only
   refine⟨c,by omega,rfl,λg=>bad1 (.inl (by omega)),λg=>?_⟩
   by_cases g3:hi2 b.toNat<c.toNat
   ·rw[show decide ((hi2 b.toNat:Int)<(c.toNat:Int))=true by simp;omega];exact bad1 (.inr g3)
   rw[show decide ((hi2 b.toNat:Int)<(c.toNat:Int))=false by simp;omega]
   have good:¬(c.toNat<lo2 b.toNat\/hi2 b.toNat<c.toNat):=by omega
   unfold S_unicode_utf8_decodeRuneInStringSlow_J1
   rw[e1,h1]
   refine⟨λh=>by simp at h,λ_=>?_⟩
   rcases hcls with⟨rfl,g1,g2⟩|⟨rfl,g1,g2⟩|⟨rfl,g1,g2⟩
   ·have:=hlo g1 g2
    rw[two_len ⟨g1,g2⟩,if_neg (by omega)]at hK
    exact⟨λ_=>hK _,λh=>by omega⟩
   ·obtain⟨d,t,rfl⟩:∃d t',t=d::t':=by cases t with
     |nil=>simp at hlen
     |cons d t=>exact⟨d,t,rfl⟩
    rw[three_len ⟨g1,g2⟩,if_neg good]at hK
    refine⟨λh=>by omega,λ_=>⟨d,by omega,rfl,λg=>?_,λg=>?_⟩⟩
    ·rw[if_pos (by omega)]at hK
     unfold S_unicode_utf8_decodeRuneInStringSlow_J2
     exact⟨λ_=>hK _,λh=>absurd rfl h⟩
    ·unfold S_unicode_utf8_decodeRuneInStringSlow_J2
     rw[e1,h1]
     refine⟨λh=>?_,λh=>⟨λ_=>?_,λh=>by omega⟩⟩
     ·rw[if_pos (by simp at h;omega)]at hK;exact hK _
     ·rw[if_neg (by simp at h;omega)]at hK;exact hK _
   ·obtain⟨d,e,t,rfl⟩:∃d e t',t=d::e::t':=by
     rcases t with _|⟨d,_|⟨e,t⟩⟩
     ·simp at hlen
     ·simp at hlen
     ·exact⟨d,e,t,rfl⟩
    rw[four_len ⟨g1,g2⟩,if_neg good]at hK
    refine⟨λh=>by omega,λ_=>⟨d,by omega,rfl,λg=>?_,λg=>?_⟩⟩
    ·rw[if_pos (by omega)]at hK
     unfold S_unicode_utf8_decodeRuneInStringSlow_J2
     exact⟨λ_=>hK _,λh=>absurd rfl h⟩
    ·unfold S_unicode_utf8_decodeRuneInStringSlow_J2
     rw[e1,h1]
     refine⟨λh=>?_,λh=>⟨λh=>by omega,λ_=>⟨e,by omega,rfl,λg5=>?_,λg5=>?_⟩⟩⟩
     ·rw[if_pos (by simp at h;omega)]at hK;exact hK _
     ·rw[if_neg (by simp at h;omega),if_pos (by omega)]at hK
      unfold S_unicode_utf8_decodeRuneInStringSlow_J3
      exact⟨λ_=>hK _,λh=>absurd rfl h⟩
     ·rw[if_neg (by simp at h;omega)]at hK
      unfold S_unicode_utf8_decodeRuneInStringSlow_J3
      refine⟨λh=>?_,λh=>?_⟩
      ·rw[if_pos (by simp at h;omega)]at hK;exact hK _
      ·rw[if_neg (by simp at h;omega)]at hK;exact hK _
theorem decode_is {s:List UInt8} (hs:s≠[]) {M:Mem} (hT:TabU M 2 Pinned.utf8FirstZ) (hA:AccM M 3) (K:Value->Prop) (hK:∀r:Int,K (.tuple #[.int .i32 r,.int .i64 (max 1 (firstL s):Nat)])):S_unicode_utf8_DecodeRuneInString s M K:=by
 obtain⟨b,t,rfl⟩:∃b t,s=b::t:=by cases s with
  |nil=>exact absurd rfl hs
  |cons b t=>exact⟨b,t,rfl⟩
 unfold S_unicode_utf8_DecodeRuneInString
 refine⟨λ_=>⟨b,by omega,rfl,?_⟩,λh=>absurd hs h⟩
 unfold S_unicode_utf8_DecodeRuneInString_J1
 refine⟨λh=>⟨b,by omega,rfl,?_⟩,λh=>s_unicode_utf8_decodeRuneInStringSlow _ _ _ (slow_is (by simp at h;omega) hT hA _ λr=>⟨_,_,rfl,hK r⟩)⟩
 have:=hK
 rw[firstL_cons,if_pos (by simp at h;omega)]at this
 exact this _
end Go.Proofs.YtjecddabdlapbaaDoor.core

namespace Go.Proofs.YtjecddabdlapbaaDoor.core
open Go.Gx Go.RowKit Go.ChangeShapes Go.WideShapes Go.ChangeAt
set_option linter.unusedVariables false
def offs:List (List UInt8)->Nat
 |[]=>0
 |l::r=>l.length+1+offs r
theorem offs_app (a b:List (List UInt8)):offs (a++b)=offs a+offs b:=by
 induction a with
 |nil=>simp[offs]
 |cons x r ih=>simp only[List.cons_append,offs,ih];omega
theorem signs_lt {l:List UInt8}:∀(i:Nat),∀x∈signsFrom l i,x<l.length:=by
 intro i
 induction h:l.length-i using Nat.strongRecOn generalizing i with
 |_ n ih=>
  intro x hx
  by_cases hi:i<l.length
  ·rw[signs_in hi]at hx
   rcases List.mem_cons.1 hx with rfl|hx
   ·exact hi
   ·exact ih _ (by omega) _ rfl x hx
  ·rw[signs_out hi]at hx;cases hx
def backOf (s:List UInt8) (p:X_api_Pos):Int×Int:=
 if p.Line<1 then(0,12) else match (splitB 10 s)[(p.Line-1).toNat]? with
  |none=>(0,12)
  |some line=>if p.Col<1 then(0,12) else match (signsFrom line 0++[line.length])[(p.Col-1).toNat]? with
   |none=>(0,12)
   |some q=>((offs ((splitB 10 s).take (p.Line-1).toNat)+q:Nat),0)
theorem drop_cut {s:List UInt8} {a m:Nat} (h:(s.drop a)[m]?=some 10) (hno:∀(j:Nat) x,j<m->(s.drop a)[j]?=some x->x≠10):splitB 10 (s.drop a)=(s.drop a).take m::splitB 10 (s.drop (a+(m+1))):=by
 have hno':∀x∈(s.drop a).take m,x≠10:=λx hx=>by
  obtain⟨k,hk⟩:=List.mem_iff_getElem?.1 hx
  rw[List.getElem?_take]at hk
  split at hk
  ·exact hno k x (by omega) hk
  ·cases hk
 have:=splitB_app (r:=(s.drop a).drop (m+1)) hno'
 rw[<-split_at h,List.drop_drop]at this
 exact this
theorem none_cut {t:List UInt8} (hno:∀(i:Nat) x,t[i]?=some x->x≠10):splitB 10 t=[t]:=splitB_none λx hx=>by
 obtain⟨k,hk⟩:=List.mem_iff_getElem?.1 hx
 exact hno k x hk
theorem back_cols {s line:List UInt8} {p:X_api_Pos} {a:Nat} {dn rst:List (List UInt8)} (hs:s.length<=1048576) (hS:splitB 10 s=dn++line::rst) (ha:a=offs dn) (hal:a<=s.length) (hL:p.Line=dn.length+1) (hC:¬p.Col<1) (hll:line.length<=1048576) {M:Mem} (hT:TabU M 2 Pinned.utf8FirstZ) (hA:AccM M 3) (K:Value->Prop)
  (hK:K (.tuple #[.int .i64 (backOf s p).1,.int .i64 (backOf s p).2])):S_place_Back_J2 p M a line K:=by
 have hB:backOf s p=match (signsFrom line 0++[line.length])[(p.Col-1).toNat]? with
   |none=>(0,12)
   |some q=>((a+q:Nat),0):=by
  unfold backOf
  rw[if_neg (by omega),show(p.Line-1).toNat=dn.length by omega,hS,List.getElem?_append_right (Nat.le_refl _),Nat.sub_self]
  simp only[List.getElem?_cons_zero,if_neg hC]
  rw[List.take_left,<-ha]
 unfold S_place_Back_J2
 refine⟨λat_ l n=>∃(pre:List Nat) (q:Nat),signsFrom line 0=pre++signsFrom line q/\n=pre.length+1/\l=line.drop q/\at_=((a+q:Nat):Int)/\q<=line.length/\(pre.length:Int)+1<=p.Col,λ_ l _=>l.length,⟨[],0,rfl,rfl,by rw[List.drop_zero],by rw[Nat.add_zero],Nat.zero_le _,by simp;omega⟩,λat_ l n ⟨pre,q,hp,hn,hl,hat,hq,hc⟩=>?_⟩
 subst hn;subst hl;subst hat
 have hsl:=signs_len line 0
 rw[hp,List.length_append]at hsl
 refine⟨λhlt=>⟨λh0=>?_,λhne=>?_⟩,λhge=>?_⟩
 ·have hql:q=line.length:=by
   have:=congrArg List.length h0
   simp at this;omega
  rw[signs_out (l:=line) (i:=q) (by omega),List.append_nil]at hp
  rw[hB,hp,List.getElem?_eq_none (by simp;omega)]at hK
  exact hK
 ·have hql:q<line.length:=by
   rcases Nat.lt_or_ge q line.length with h|h
   ·exact h
   ·exact absurd (List.drop_eq_nil_of_le h) hne
  have hst:=sign_step hql
  refine s_unicode_utf8_DecodeRuneInString _ _ _ (decode_is hne hT hA _ λr=>⟨_,_,rfl,by omega,by simp;omega,by omega,by unfold InI;omega,by unfold InI;omega,?_⟩)
  rw[take_all,show((max 1 (firstL (line.drop q)):Nat):Int).toNat=max 1 (firstL (line.drop q)) from rfl,List.drop_drop]
  refine⟨⟨pre++[q],q+max 1 (firstL (line.drop q)),by rw[hp,signs_in hql,List.append_assoc];rfl,by simp,rfl,by omega,hst,by simp;omega⟩,?_⟩
  simp only[List.length_drop];omega
 ·have e:(p.Col-1).toNat=pre.length:=by omega
  rw[hB,e,hp,List.append_assoc,List.getElem?_append_right (Nat.le_refl _),Nat.sub_self]at hK
  rcases Nat.lt_or_ge q line.length with h|h
  ·rw[signs_in h]at hK
   simpa using hK
  ·rw[signs_out (l:=line) (i:=q) (by omega)]at hK
   have:q=line.length:=by omega
   subst this
   simpa using hK
theorem back_is {s:List UInt8} (hs:s.length<=1048576) (p:X_api_Pos) {M:Mem} (hT:TabU M 2 Pinned.utf8FirstZ) (hA:AccM M 3) (K:Value->Prop) (hK:K (.tuple #[.int .i64 (backOf s p).1,.int .i64 (backOf s p).2])):S_place_Back s p M K:=by
 unfold S_place_Back
 refine⟨λat_ n=>∃(dn:List (List UInt8)) (a:Nat),at_=a/\n=dn.length+1/\a=offs dn/\a<=s.length/\splitB 10 s=dn++splitB 10 (s.drop a)/\(dn=[]\/(dn.length:Int)+1<=p.Line),λat_ _=>(s.length+1-at_).toNat,⟨[],0,rfl,rfl,rfl,Nat.zero_le _,by rw[List.drop_zero];rfl,.inl rfl⟩,λat_ n ⟨dn,a,hat,hn,ha,hal,hS,hk⟩=>?_⟩
 subst hat;subst hn
 have hSl:=congrArg List.length hS
 rw[splitB_len,List.length_append,splitB_len]at hSl
 have hcl:s.count 10<=s.length:=List.count_le_length
 have hsub:(s.take ((s.length:Nat):Int).toNat).drop (a:Int).toNat=s.drop a:=by rw[take_all];rfl
 rw[hsub]
 refine⟨λhlt=>⟨by omega,by omega,by omega,?_⟩,λhge=>?_⟩
 ·refine s_strings_IndexByte _ _ _ _ (s_internal_stringslite_IndexByte _ _ _ _ ⟨_,rfl,⟨_,rfl,?_⟩⟩)
  rcases idxB_cases (s.drop a) 10 with⟨hz,hno⟩|⟨m,hz,hm,hno⟩
  ·replace hz:idxB (s.drop a) 10= -1:=hz
   rw[hz]
   refine⟨λ_=>?_,λh=>by omega⟩
   rw[none_cut hno]at hS
   unfold backOf at hK
   rw[if_neg (by omega),hS,List.getElem?_eq_none (by simp;omega)]at hK
   exact hK
  ·replace hz:idxB (s.drop a) 10=(m:Int):=hz
   rw[hz]
   have hml:=(List.getElem?_eq_some_iff.1 hm).1
   rw[List.length_drop]at hml
   refine⟨λh=>by omega,λ_=>⟨by unfold InI;omega,by unfold InI;omega,by unfold InI;omega,⟨dn++[(s.drop a).take m],a+(m+1),by omega,by simp,?_,by omega,by rw[hS,drop_cut hm hno,List.append_assoc];rfl,.inr (by simp;omega)⟩,by dsimp only;omega⟩⟩
   rw[offs_app,<-ha];simp[offs];omega
 ·have bad:∀h:p.Line<1\/p.Col<1,S_place_Back_J1 s p M (a:Int) true K:=λh=>by
   unfold S_place_Back_J1
   refine⟨λ_=>?_,λh=>absurd rfl h⟩
   have hB:backOf s p=(0,12):=by
    unfold backOf
    by_cases h1:p.Line<1
    ·rw[if_pos h1]
    ·rw[if_neg h1]
     split
     ·rfl
     ·rw[if_pos (by omega)]
   rw[hB]at hK;exact hK
  refine⟨λh=>bad (.inl h),λh1=>?_⟩
  by_cases h2:p.Col<1
  ·rw[show decide (p.Col<1)=true by simp[h2]];exact bad (.inr h2)
  rw[show decide (p.Col<1)=false by simp;omega]
  have hL:p.Line=dn.length+1:=by
   rcases hk with rfl|hk
   ·simp at hge ⊢;omega
   ·omega
  unfold S_place_Back_J1
  rw[hsub]
  refine⟨λh=>by simp at h,λ_=>⟨by omega,by omega,by omega,?_⟩⟩
  refine s_strings_IndexByte _ _ _ _ (s_internal_stringslite_IndexByte _ _ _ _ ⟨_,rfl,⟨_,rfl,?_⟩⟩)
  rcases idxB_cases (s.drop a) 10 with⟨hz,hno⟩|⟨m,hz,hm,hno⟩
  ·replace hz:idxB (s.drop a) 10= -1:=hz
   rw[hz]
   refine⟨λh=>by omega,λ_=>?_⟩
   exact back_cols hs (by rw[hS,none_cut hno]) ha hal hL h2 (by simp;omega) hT hA K hK
  ·replace hz:idxB (s.drop a) 10=(m:Int):=hz
   rw[hz]
   have hml:=(List.getElem?_eq_some_iff.1 hm).1
   rw[List.length_drop]at hml
   refine⟨λ_=>⟨by omega,by omega,by rw[List.length_drop];omega,?_⟩,λh=>by omega⟩
   rw[show(m:Int).toNat=m from rfl,show(0:Int).toNat=0 from rfl,List.drop_zero]
   exact back_cols hs (by rw[hS,drop_cut hm hno]) ha hal hL h2 (by simp;omega) hT hA K hK
theorem rplace_is {s:List UInt8} (hs:s.length<=1048576) (p:X_api_Pos) {M:Mem} (K:Value->Prop) (hK:K (.tuple #[.int .i64 (backOf s p).1,.int .i64 (backOf s p).2])):S_chaffref_Place s p M K:=by
 unfold S_chaffref_Place
 have hSl:=splitB_len 10 s
 have hcl:s.count 10<=s.length:=List.count_le_length
 have hlens:=splitB_lens 10 s
 have hoff:offs (splitB 10 s)=s.length+1:=by
  clear hK hSl hcl hlens hs
  induction s with
  |nil=>rfl
  |cons b r ih=>
   rw[splitB]
   split
   ·simp[offs,ih];omega
   ·cases hr:splitB 10 r with
    |nil=>have:=splitB_len 10 r;rw[hr]at this;simp at this
    |cons x t=>rw[hr]at ih;simp[offs]at ih ⊢;omega
 refine s_strings_Split _ _ _ _ (split_is hs _ λM' A c hle hsl=>⟨_,_,_,rfl,?_⟩)
 unfold backOf at hK
 generalize hS:splitB 10 s=S at*
 refine⟨λat_ x=>∃k:Nat,x=k/\at_=(offs (S.take k):Nat)/\k<=S.length/\∀j:Nat,j<k->(j:Int)+1≠p.Line,λ_ x=>(S.length-x).toNat,⟨0,rfl,rfl,Nat.zero_le _,λj h=>by omega⟩,λat_ x ⟨k,hx,hat,hk,hno⟩=>?_⟩
 subst hx;subst hat
 have hoffk:offs (S.take k)<=s.length+1:=by
  have:=offs_app (S.take k) (S.drop k)
  rw[List.take_append_drop,hoff]at this;omega
 refine⟨λhlt=>?_,λhge=>?_⟩
 ·obtain⟨l,hl⟩:∃l,S[k]?=some l:=⟨S[k]'(by omega),List.getElem?_eq_getElem _⟩
  have hll:=hlens l (List.mem_of_getElem? hl)
  obtain⟨b,o,ha,hat⟩:=hsl.at sC1 rfl hl
  refine⟨b,o,ha,by omega,by omega,l,hat,by unfold InI;omega,λhe=>?_,λhne=>?_⟩
  ·rw[if_neg (by omega),show(p.Line-1).toNat=k by omega,hl]at hK
   simp only at hK
   have hsgl:=signs_len l 0
   refine rsigns_is (by omega) _ ⟨by omega,?_⟩
   have bad:∀h:p.Col<1\/p.Col>(signsFrom l 0).length+1,S_chaffref_Place_J1 p (offs (S.take k):Nat) l (signsFrom l 0).length (cl iC (natI (signsFrom l 0))) true K:=λh=>by
    unfold S_chaffref_Place_J1
    refine⟨λ_=>?_,λh=>absurd rfl h⟩
    by_cases h1:p.Col<1
    ·rw[if_pos h1]at hK;exact hK
    ·rw[if_neg h1,List.getElem?_eq_none (by simp;omega)]at hK;exact hK
   refine⟨λh=>bad (.inl h),λh1=>?_⟩
   by_cases h2:p.Col>(signsFrom l 0).length+1
   ·rw[show decide (p.Col>(((signsFrom l 0).length+1:Nat):Int))=true by simp;omega];exact bad (.inr h2)
   rw[show decide (p.Col>(((signsFrom l 0).length+1:Nat):Int))=false by simp;omega]
   rw[if_neg h1]at hK
   obtain⟨q,hq⟩:∃q,(signsFrom l 0++[l.length])[(p.Col-1).toNat]?=some q:=⟨_,List.getElem?_eq_getElem (by simp;omega)⟩
   rw[hq]at hK
   have hql:q<=l.length:=by
    rcases List.mem_append.1 (List.mem_of_getElem? hq)with h|h
    ·exact Nat.le_of_lt (signs_lt 0 q h)
    ·rw[List.mem_singleton.1 h];exact Nat.le_refl _
   unfold S_chaffref_Place_J1
   refine⟨λh=>by simp at h,λ_=>⟨by unfold InI;omega,by omega,by omega,(q:Int),?_,by unfold InI;omega,by simpa using hK⟩⟩
   have:cl iC (natI (signsFrom l 0))++[Value.int .i64 ((l.length:Nat):Int)]=cl iC (natI (signsFrom l 0++[l.length])):=by simp[cl,natI]
   rw[this]
   exact cl_Cs (f:=iC) (λ_=>rfl) (by rw[List.getElem?_map,hq];rfl)
  ·refine⟨by unfold InI;omega,by unfold InI;omega,by unfold InI;omega,⟨k+1,by omega,?_,by omega,λj hj=>?_⟩,by dsimp only;omega⟩
   ·rw[List.take_add_one,hl,offs_app];simp[offs]
   ·by_cases e:j=k
    ·subst e;exact hne
    ·exact hno j (by omega)
 ·obtain rfl:k=S.length:=by omega
  have hB:(if p.Line<1 then((0:Int),(12:Int)) else match S[(p.Line-1).toNat]? with
    |none=>(0,12)
    |some line=>if p.Col<1 then(0,12) else match (signsFrom line 0++[line.length])[(p.Col-1).toNat]? with
     |none=>(0,12)
     |some q=>((offs (S.take (p.Line-1).toNat)+q:Nat),0))=(0,12):=by
   by_cases h1:p.Line<1
   ·rw[if_pos h1]
   ·rw[if_neg h1,List.getElem?_eq_none]
    rcases Nat.lt_or_ge (p.Line-1).toNat S.length with h|h
    ·exact absurd (by omega) (hno _ h)
    ·exact h
  rw[hB]at hK
  exact hK
end Go.Proofs.YtjecddabdlapbaaDoor.core

namespace Go.Proofs.YtjecddabdlapbaaDoor.core
open Go.Gx Go.RowKit Go.ChangeShapes Go.WideShapes Go.ChangeAt
set_option linter.unusedVariables false
theorem first_data:Pinned.utf8First=Lib.tabData .u8 (Pinned.utf8FirstZ.map λ(n:Nat)=>(n:Int)):=by kernel_rfl
theorem tabU_of {W:World} (h:Lib.VarReads Tryd.prog W "unicode/utf8.first" Pinned.utf8First):TabU (HM W) 2 Pinned.utf8FirstZ:=by
 obtain⟨g,t,cs,fuel,p,hg,hty,hvar,hd⟩:=h
 obtain rfl:=Option.some.inj ((show Tryd.prog.globalNamed "unicode/utf8.first"=some 2 by kernel_rfl).symm.trans hg)
 obtain rfl:=Option.some.inj ((show(Tryd.prog.globals[2]?).map (·.type)=some 161 by kernel_rfl).symm.trans hty)
 rw[first_data]at hd
 have hcs:=Lib.cells_of_tab (n:=256) (e:=5) (by kernel_rfl) (by kernel_rfl) (by kernel_rfl) (by kernel_rfl) hd
 intro i z hz
 refine HM.cell ?_
 rw[World.var?_cell hg hvar i,<-Array.getElem?_toList,hcs,List.getElem?_map,List.getElem?_map,hz];rfl
theorem accM_of {W:World} (h:Lib.VarReads Tryd.prog W "unicode/utf8.acceptRanges" Rows.laid_unicode_utf8_acceptRanges):AccM (HM W) 3:=by
 obtain⟨g,t,cs,fuel,p,hg,hty,hvar,hd⟩:=h
 obtain rfl:=Option.some.inj ((show Tryd.prog.globalNamed "unicode/utf8.acceptRanges"=some 3 by kernel_rfl).symm.trans hg)
 obtain rfl:=Option.some.inj ((show(Tryd.prog.globals[3]?).map (·.type)=some 164 by kernel_rfl).symm.trans hty)
 have hce:Tryd.prog.cellsOf 163=2:=by kernel_rfl
 have key:∀(i lo hi:Nat),i<16->(∀ds:List (DataW Unit),Rows.laid_unicode_utf8_acceptRanges= .agg ds->ds[i]?=some (.agg ([(lo:Int),(hi:Int)].map λz=>.lit (.int .u8 z))))->At (HM W) 3 (i*2) [.int .u8 (lo:Int),.int .u8 (hi:Int)]:=λi lo hi hi16 hds=>by
  obtain⟨f2,d,q,h1,h2⟩:=Lib.array_elem (n:=16) (e:=163) (by kernel_rfl) hd i hi16
  rw[hds _ rfl]at h1
  simp only[Option.some.injEq]at h1
  subst h1
  rw[hce]at h2
  have hcs:=Lib.ints_of_struct (k:=.u8) Tryd.underlying163 (λj f hj=>?_) (by kernel_rfl) h2
  ·intro j v hj
   refine HM.cell ?_
   rw[World.var?_cell hg hvar,<-Array.getElem?_toList]
   have e:=congrArg (·[j]?) hcs
   simp only[List.getElem?_take,List.getElem?_drop]at e
   have hj2:j<2:=by
    have:=(List.getElem?_eq_some_iff.1 hj).1
    simpa using this
   rw[if_pos hj2]at e
   rw[e];exact hj
  ·match j,hj with
   |0,hj=>simp at hj;subst hj;exact⟨by kernel_rfl,rfl,by kernel_rfl⟩
   |1,hj=>simp at hj;subst hj;exact⟨by kernel_rfl,rfl,by kernel_rfl⟩
   |j+2,hj=>simp at hj
 intro i lo hi hz
 match i,hz with
 |0,hz=>cases hz;exact key 0 _ _ (by decide) λds h=>by cases h;rfl
 |1,hz=>cases hz;exact key 1 _ _ (by decide) λds h=>by cases h;rfl
 |2,hz=>cases hz;exact key 2 _ _ (by decide) λds h=>by cases h;rfl
 |3,hz=>cases hz;exact key 3 _ _ (by decide) λds h=>by cases h;rfl
 |4,hz=>cases hz;exact key 4 _ _ (by decide) λds h=>by cases h;rfl
 |i+5,hz=>cases hz
end Go.Proofs.YtjecddabdlapbaaDoor.core

