/- Contracts and what they hang on, of several parts. No condition. -/
import Derived.Test.YtjecddabdlapbaaDoorM1
import Derived.Test.YtjecddabdlapbaaDoorClassG
import Derived.Lib.LaidU8
namespace Go.Proofs.YtjecddabdlapbaaDoor.core
open Go.Gx Go.RowKit Go.ChangeShapes Go.WideShapes Go.ChangeAt
set_option linter.unusedVariables false
theorem slIndexByte_is (s:List UInt8) (c:UInt8) (M:Mem) (K:Value->Prop) (h:K (.int .i64 (idxB s c.toNat))):S_internal_stringslite_IndexByte s (c.toNat:Int) M K:=h
theorem indexByte_is (s:List UInt8) (c:UInt8) (M:Mem) (K:Value->Prop) (h:K (.int .i64 (idxB s c.toNat))):S_strings_IndexByte s (c.toNat:Int) M K:=
 s_internal_stringslite_IndexByte _ _ _ _ (slIndexByte_is s c _ _ ⟨_,rfl,h⟩)
theorem idxB_mem (s:List UInt8) (c:UInt8):decide (idxB s c.toNat>=0)=decide (c∈s):=by
 rcases idxB_cases s c with⟨h,hn⟩|⟨i,h,hi,_⟩
 ·rw[h]
  have:¬c∈s:=λhm=>by
   obtain⟨j,hj⟩:=List.mem_iff_getElem?.1 hm
   exact hn j c hj rfl
  simp[this]
 ·rw[h]
  have:=List.mem_of_getElem? hi
  simp[this]
theorem slIndex1_is (s:List UInt8) (c:UInt8) (M:Mem) (K:Value->Prop) (h:∀z:Int,decide (z>=0)=decide (c∈s)->(z=idxB s c.toNat)->K (.int .i64 z)):S_internal_stringslite_Index s [c] M K:=by
 have j1:∀b:Bool,b=((mkS [c]).toList==(mkS s).toList)->S_internal_stringslite_Index_J1 s [c] M b K:=by
  intro b hb
  refine⟨λe=>?_,λe=>⟨λ_=>⟨c,by omega,rfl,?_⟩,λh=>absurd rfl h⟩⟩
  ·rw[e]at hb
   have:[c]=s:=mkS_beq.1 hb.symm
   subst this
   refine h 0 (by simp) ?_
   rcases idxB_cases [c] c with⟨_,hn⟩|⟨i,h1,hi,_⟩
   ·exact absurd rfl (hn 0 c rfl)
   ·have:=(List.getElem?_eq_some_iff.1 hi).1
    simp at this
    subst this
    rw[h1];rfl
  ·exact s_internal_stringslite_IndexByte _ _ _ _ (slIndexByte_is s c _ _ ⟨_,rfl,h _ (idxB_mem s c) rfl⟩)
 exact⟨λh=>by simp at h,λ_=>j1 _ rfl⟩
theorem index1_is (s:List UInt8) (c:UInt8) (M:Mem) (K:Value->Prop) (h:∀z:Int,decide (z>=0)=decide (c∈s)->(z=idxB s c.toNat)->K (.int .i64 z)):S_strings_Index s [c] M K:=
 s_internal_stringslite_Index _ _ _ _ (slIndex1_is s c _ _ λz hz hz2=>⟨_,rfl,h z hz hz2⟩)
theorem contains1_is (s:List UInt8) (c:UInt8) (M:Mem) (K:Value->Prop) (h:K (.bool (decide (c∈s)))):S_strings_Contains s [c] M K:=
 s_strings_Index _ _ _ _ (index1_is s c _ _ λz hz _=>⟨_,rfl,by rw[hz];exact h⟩)
end Go.Proofs.YtjecddabdlapbaaDoor.core

namespace Go.Proofs.YtjecddabdlapbaaDoor.core
open Go.Gx Go.RowKit Go.ChangeShapes Go.WideShapes Go.ChangeAt
set_option linter.unusedVariables false
abbrev hexL:List UInt8:=[48,49,50,51,52,53,54,55,56,57,97,98,99,100,101,102]
def hexC (n:Nat):UInt8:=hexL.getD n 0
def shownP (signs:List UInt8) (low:Nat) (b:UInt8):List UInt8:=
 if b.toNat=10 then[92,110] else if b.toNat=9 then[92,116] else if b.toNat<low\/b.toNat>126 then[92,120,hexC (b.toNat / 16),hexC (b.toNat % 16)] else if b∈signs then[92,b] else[b]
theorem shownP_len (signs:List UInt8) (low:Nat) (b:UInt8):(shownP signs low b).length<=4:=by
 unfold shownP
 split
 ·simp
 ·split
  ·simp
  ·split
   ·simp
   ·split<;>simp
theorem hex_cut:∀n:Nat,n<16->(hexL.take (n+1)).drop n=[hexC n]:=by decide
theorem hi4:∀n:Nat,n<256->bShr .u8 (n:Int) 4=((n / 16:Nat):Int)/\bAnd .u8 (n:Int) 15=((n % 16:Nat):Int)/\IntKind.wrap .u8 (((n / 16:Nat):Int)+1)=((n / 16+1:Nat):Int)/\IntKind.wrap .u8 (((n % 16:Nat):Int)+1)=((n % 16+1:Nat):Int):=by decide+kernel
theorem qone_is (b:UInt8) (signs:List UInt8) (M:Mem) (K:Value->Prop) (low:Nat) (hlow:low=if signs=[39,92] then 32 else 33) (h:K (.string (mkS (shownP signs low b)))):S_quote_one (b.toNat:Int) signs M K:=by
 have hb:=b.toNat_lt
 obtain⟨e1,e2,e3,e4⟩:=hi4 b.toNat hb
 have q16:b.toNat / 16<16:=by omega
 have r16:b.toNat % 16<16:=by omega
 have j1:∀v:Bool,b.toNat≠10->b.toNat≠9->v=decide (b.toNat<low\/b.toNat>126)->S_quote_one_J1 (b.toNat:Int) signs M v K:=by
  intro v n10 n9 hv
  unfold S_quote_one_J1
  rw[e1,e2,e3,e4]
  refine⟨λe=>?_,λe=>?_⟩
  ·have hc:b.toNat<low\/b.toNat>126:=by rw[e]at hv;exact of_decide_eq_true hv.symm
   have t1:(((b.toNat / 16+1:Nat):Int)).toNat=b.toNat / 16+1:=by omega
   have t2:(((b.toNat / 16:Nat):Int)).toNat=b.toNat / 16:=by omega
   have t3:(((b.toNat % 16+1:Nat):Int)).toNat=b.toNat % 16+1:=by omega
   have t4:(((b.toNat % 16:Nat):Int)).toNat=b.toNat % 16:=by omega
   have c1:=hex_cut _ q16
   have c2:=hex_cut _ r16
   rw[t1,t2,t3,t4,c1,c2]
   refine⟨by omega,by omega,by simp;omega,by simp,by omega,by omega,by simp;omega,by simp,?_⟩
   have:shownP signs low b=[92,120,hexC (b.toNat / 16),hexC (b.toNat % 16)]:=by unfold shownP;rw[if_neg n10,if_neg n9,if_pos hc]
   rw[this]at h;exact h
  ·have hc:¬(b.toNat<low\/b.toNat>126):=λq=>e (by rw[hv];exact decide_eq_true q)
   have hs:shownP signs low b=if b∈signs then[92,b] else[b]:=by unfold shownP;rw[if_neg n10,if_neg n9,if_neg hc]
   refine s_strings_IndexByte _ _ _ _ (indexByte_is signs b _ _ ⟨_,rfl,λhi=>⟨[b],rfl,by simp,?_⟩,λhi=>⟨[b],rfl,?_⟩⟩)
   ·have hm:=idxB_mem signs b
    rw[decide_eq_true hi]at hm
    rw[hs,if_pos (of_decide_eq_true hm.symm)]at h;exact h
   ·have hm:=idxB_mem signs b
    rw[decide_eq_false hi]at hm
    rw[hs,if_neg (of_decide_eq_false hm.symm)]at h;exact h
 unfold S_quote_one
 refine⟨λq=>?_,λn10=>⟨λq=>?_,λn9=>?_⟩⟩
 ·have:shownP signs low b=[92,110]:=by unfold shownP;rw[if_pos (by omega)]
  rw[this]at h;exact h
 ·have:shownP signs low b=[92,116]:=by unfold shownP;rw[if_neg (by omega),if_pos (by omega)]
  rw[this]at h;exact h
 have n10':b.toNat≠10:=by omega
 have n9':b.toNat≠9:=by omega
 refine⟨λh32=>⟨λhne=>j1 _ n10' n9' ?_,λhe=>⟨λhs=>j1 _ n10' n9' ?_,λhs=>j1 _ n10' n9' ?_⟩⟩,λh32=>j1 _ n10' n9' ?_⟩
 ·rw[eq_comm,decide_eq_true_iff]
  left;rw[hlow];split<;>omega
 ·rw[eq_comm,decide_eq_true_iff]
  left;rw[hlow,if_neg hs];omega
 ·have hs:signs=[39,92]:=by simpa using hs
  rw[hlow,if_pos hs,Bool.eq_iff_iff];simp;omega
 ·rw[hlow,Bool.eq_iff_iff];split<;>simp<;>omega
def hexV (c:UInt8):Int:=idxB hexL c.toNat
theorem hexV_lt (c:UInt8):hexV c<=15:=by
 unfold hexV
 rcases idxB_cases hexL c with⟨h,_⟩|⟨i,h,hi,_⟩
 ·rw[h];omega
 ·have:=(List.getElem?_eq_some_iff.1 hi).1
  simp at this
  rw[h];omega
theorem hexV_ge (c:UInt8): -1<=hexV c:=by
 unfold hexV
 rcases idxB_cases hexL c with⟨h,_⟩|⟨i,h,hi,_⟩<;>rw[h]<;>omega
theorem hex_add:∀a:Nat,a<16->∀b:Nat,b<16->IntKind.wrap .u8 (bOr .i64 (bShl .i64 (a:Int) 4) (b:Int))=((16*a+b:Nat):Int):=by decide+kernel
def saidP (signs:List UInt8) (s:List UInt8):Int×Int:=
 match s with
 |[]=>(0,0)
 |c::r=>if c.toNat=10 then(0,0) else if c.toNat≠92 then(c.toNat,1) else match r with
  |[]=>(0,0)
  |d::t=>if d.toNat=110 then(10,2) else if d.toNat=116 then(9,2) else if d∈signs then(d.toNat,2) else if d.toNat=120 then(match t with
   |a::b::_=>if hexV a>=0/\hexV b>=0 then(16*hexV a+hexV b,4) else(0,0)
   |_=>(0,0)) else(0,0)
theorem saidP_cons (signs:List UInt8) (c:UInt8) (r:List UInt8):saidP signs (c::r)=if c.toNat=10 then((0,0):Int×Int) else if c.toNat≠92 then((c.toNat:Int),1) else match r with
  |[]=>(0,0)
  |d::t=>if d.toNat=110 then(10,2) else if d.toNat=116 then(9,2) else if d∈signs then(d.toNat,2) else if d.toNat=120 then(match t with
   |a::b::_=>if hexV a>=0/\hexV b>=0 then(16*hexV a+hexV b,4) else(0,0)
   |_=>(0,0)) else(0,0):=rfl
theorem saidP_two (signs:List UInt8) (c d:UInt8) (t:List UInt8) (h:c.toNat=92):saidP signs (c::d::t)=if d.toNat=110 then((10,2):Int×Int) else if d.toNat=116 then(9,2) else if d∈signs then((d.toNat:Int),2) else if d.toNat=120 then(match t with
   |a::b::_=>if hexV a>=0/\hexV b>=0 then(16*hexV a+hexV b,4) else(0,0)
   |_=>(0,0)) else(0,0):=by
 have:=saidP_cons signs c (d::t)
 rw[if_neg (show ¬c.toNat=10 by omega),if_neg (show ¬c.toNat≠92 by omega)]at this
 exact this
theorem saidP_ok (signs s:List UInt8):0<=(saidP signs s).1/\(saidP signs s).1<256/\0<=(saidP signs s).2/\(saidP signs s).2<=s.length/\(saidP signs s).2<=4:=by
 unfold saidP
 split
 ·simp
 ·rename_i c r
  have hc:=c.toNat_lt
  split
  ·simp;omega
  split
  ·simp only[List.length_cons];omega
  split
  ·simp only[List.length_cons,List.length_nil];omega
  ·rename_i d t
   have hd:=d.toNat_lt
   split
   ·simp only[List.length_cons];omega
   split
   ·simp only[List.length_cons];omega
   split
   ·simp only[List.length_cons];omega
   split
   ·split
    ·rename_i a b _
     have:=hexV_lt a
     have:=hexV_lt b
     split
     ·simp only[List.length_cons];omega
     ·simp only[List.length_cons];omega
    ·simp only[List.length_cons];omega
   ·simp only[List.length_cons];omega
theorem qnext_is (s signs:List UInt8) (hne:s≠[]) (hs:(120:UInt8)∉signs) (M:Mem) (K:Value->Prop) (h:K (.tuple #[.int .u8 (saidP signs s).1,.int .i64 (saidP signs s).2])):S_quote_next s signs M K:=by
 have key:∀p:Int×Int,p=saidP signs s->K (.tuple #[.int .u8 p.1,.int .i64 p.2]):=λp e=>e▸h
 obtain⟨c,r,rfl⟩:=List.exists_cons_of_ne_nil hne
 unfold S_quote_next
 refine⟨c,by omega,rfl,λn92=>⟨c,by omega,rfl,λh10=>key (0,0) ?_,λn10=>⟨c,by omega,rfl,key (c.toNat,1) ?_⟩⟩,λh92=>⟨λhl=>key (0,0) ?_,λhl=>?_⟩⟩
 ·rw[saidP_cons,if_pos (by omega)]
 ·rw[saidP_cons,if_neg (by omega),if_pos (by omega)]
 ·have:r=[]:=by cases r with
   |nil=>rfl
   |cons _ _=>simp only[List.length_cons]at hl;omega
  subst this
  rw[saidP_cons]
  simp only[if_neg (show ¬c.toNat=10 by omega),if_neg (show ¬c.toNat≠92 by omega)]
 obtain⟨d,t,rfl⟩:∃d t,r=d::t:=by
  cases r with
  |nil=>simp only[List.length_cons,List.length_nil]at hl;omega
  |cons d t=>exact⟨d,t,rfl⟩
 have hP:=saidP_two signs c d t (by omega)
 refine⟨d,by omega,rfl,λq=>key (10,2) ?_,λn110=>⟨λq=>key (9,2) ?_,λn116=>?_⟩⟩
 ·rw[hP,if_pos (by omega)]
 ·rw[hP,if_neg (by omega),if_pos (by omega)]
 rw[if_neg (by omega),if_neg (by omega)]at hP
 have hm:=idxB_mem signs d
 refine s_strings_IndexByte _ _ _ _ (indexByte_is signs d _ _ ⟨_,rfl,λhi=>key (d.toNat,2) ?_,λhi=>?_⟩)
 ·rw[decide_eq_true hi]at hm
  rw[hP,if_pos (of_decide_eq_true hm.symm)]
 rw[decide_eq_false hi]at hm
 rw[if_neg (of_decide_eq_false hm.symm)]at hP
 have j1:∀b:Bool,b=decide (d.toNat=120/\2<=t.length)->S_quote_next_J1 (c::d::t) M b K:=by
  intro b hb
  refine⟨λe=>?_,λe=>key (0,0) ?_⟩
  ·obtain⟨h120,h2⟩:d.toNat=120/\2<=t.length:=by rw[e]at hb;exact of_decide_eq_true hb.symm
   obtain⟨x,y,u,rfl⟩:∃x y u,t=x::y::u:=by
    match t,h2 with
    |x::y::u,_=>exact⟨x,y,u,rfl⟩
   rw[if_pos h120]at hP
   simp only at hP
   refine⟨x,by omega,rfl,y,by omega,rfl,s_strings_IndexByte _ _ _ _ (indexByte_is hexL x _ _ ⟨_,rfl,s_strings_IndexByte _ _ _ _ (indexByte_is hexL y _ _ ⟨_,rfl,?_⟩)⟩)⟩
   have hx1:=hexV_lt x
   have hy1:=hexV_lt y
   have j2:∀b:Bool,b=decide (hexV x>=0/\hexV y>=0)->S_quote_next_J2 (hexV x) (hexV y) b K:=by
    intro b hb
    refine⟨λe=>?_,λe=>key (0,0) ?_⟩
    ·have hq:hexV x>=0/\hexV y>=0:=by rw[e]at hb;exact of_decide_eq_true hb.symm
     rw[if_pos hq]at hP
     have:=hex_add (hexV x).toNat (by omega) (hexV y).toNat (by omega)
     rw[show(((hexV x).toNat:Nat):Int)=hexV x by omega,show(((hexV y).toNat:Nat):Int)=hexV y by omega]at this
     rw[this]
     have e2:((16*(hexV x).toNat+(hexV y).toNat:Nat):Int)=16*hexV x+hexV y:=by omega
     rw[e2]
     exact key (16*hexV x+hexV y,4) hP.symm
    ·have hq:¬(hexV x>=0/\hexV y>=0):=λq=>e (by rw[hb];exact decide_eq_true q)
     rw[if_neg hq]at hP;exact hP.symm
   refine⟨λh1=>j2 _ ?_,λh1=>j2 _ ?_⟩
   ·have h1:hexV x>=0:=h1
    have e3:idxB hexL y.toNat=hexV y:=rfl
    rw[e3,Bool.eq_iff_iff];simp;omega
   ·rw[eq_comm,decide_eq_false_iff_not];exact λq=>h1 q.1
  ·have hq:¬(d.toNat=120/\2<=t.length):=λq=>e (by rw[hb];exact decide_eq_true q)
   by_cases h120:d.toNat=120
   ·rw[if_pos h120]at hP
    rcases t with _|⟨x,_|⟨y,u⟩⟩
    ·exact hP.symm
    ·exact hP.symm
    ·exact absurd ⟨h120,by simp⟩ hq
   ·rw[if_neg h120]at hP;exact hP.symm
 refine⟨λq=>j1 _ (by rw[Bool.eq_iff_iff];simp;omega),λq=>j1 _ (by rw[eq_comm,decide_eq_false_iff_not];omega)⟩
theorem digit_is (n:Nat) (hn:n<16) (M:Mem) (K:Value->Prop) (h:K (.string (mkS [hexC n]))):S_chaffref_digit (n:Int) M K:=by
 unfold S_chaffref_digit
 have t1:((n:Int)+1).toNat=n+1:=by omega
 have t2:((n:Int)).toNat=n:=by omega
 rw[t1,t2,hex_cut n hn]
 exact⟨by unfold InI;omega,by omega,by omega,by simp;omega,h⟩
theorem value_is (c:UInt8) (M:Mem) (K:Value->Prop) (h:K (.int .i64 (hexV c))):S_chaffref_value (c.toNat:Int) M K:=
 ⟨[c],rfl,s_strings_Index _ _ _ _ (index1_is hexL c _ _ λz _ hz=>⟨_,rfl,by rw[hz];exact h⟩)⟩
theorem wrapB (b:UInt8):IntKind.wrap .u8 (b.toNat:Int)=(b.toNat:Int):=by
 have:=b.toNat_lt
 simp only[IntKind.wrap,IntKind.bits,IntKind.signed,Bool.false_and,Bool.false_eq_true,if_false]
 omega
theorem wrapI (b:UInt8):IntKind.wrap .i64 (b.toNat:Int)=(b.toNat:Int):=wrap_in (by have:=b.toNat_lt;unfold InI;omega)
theorem shown_is (b:UInt8) (signs:List UInt8) (low:Nat) (M:Mem) (K:Value->Prop) (h:K (.string (mkS (shownP signs low b)))):S_chaffref_shown (b.toNat:Int) signs low M K:=by
 have hb:=b.toNat_lt
 have j1:∀v:Bool,b.toNat≠10->b.toNat≠9->v=decide (b.toNat<low\/b.toNat>126)->S_chaffref_shown_J1 (b.toNat:Int) signs M v K:=by
  intro v n10 n9 hv
  have e1:(b.toNat:Int).tdiv 16=((b.toNat / 16:Nat):Int):=by rw[Int.tdiv_eq_ediv_of_nonneg (by omega)];omega
  have e2:(b.toNat:Int).tmod 16=((b.toNat % 16:Nat):Int):=by rw[Int.tmod_eq_emod_of_nonneg (by omega)];omega
  unfold S_chaffref_shown_J1
  rw[e1,e2,wrapB]
  refine⟨λe=>?_,λe=>?_⟩
  ·have hc:b.toNat<low\/b.toNat>126:=by rw[e]at hv;exact of_decide_eq_true hv.symm
   refine⟨by unfold InI;omega,s_chaffref_digit _ _ _ (digit_is _ (by omega) _ _ ⟨_,rfl,by simp,s_chaffref_digit _ _ _ (digit_is _ (by omega) _ _ ⟨_,rfl,by simp,?_⟩)⟩)⟩
   have:shownP signs low b=[92,120,hexC (b.toNat / 16),hexC (b.toNat % 16)]:=by unfold shownP;rw[if_neg n10,if_neg n9,if_pos hc]
   rw[this]at h;exact h
  ·have hc:¬(b.toNat<low\/b.toNat>126):=λq=>e (by rw[hv];exact decide_eq_true q)
   have hs:shownP signs low b=if b∈signs then[92,b] else[b]:=by unfold shownP;rw[if_neg n10,if_neg n9,if_neg hc]
   refine⟨[b],rfl,s_strings_Contains _ _ _ _ (contains1_is signs b _ _ ⟨_,rfl,λhi=>⟨[b],rfl,by simp,?_⟩,λhi=>⟨[b],rfl,?_⟩⟩)⟩
   ·rw[hs,if_pos (of_decide_eq_true hi)]at h;exact h
   ·have hi:decide (b∈signs)=false:=by simpa using hi
    rw[hs,if_neg (of_decide_eq_false hi)]at h;exact h
 unfold S_chaffref_shown
 refine⟨λq=>?_,λn10=>⟨λq=>?_,λn9=>⟨λq=>j1 _ (by omega) (by omega) ?_,λq=>j1 _ (by omega) (by omega) ?_⟩⟩⟩
 ·have:shownP signs low b=[92,110]:=by unfold shownP;rw[if_pos (by omega)]
  rw[this]at h;exact h
 ·have:shownP signs low b=[92,116]:=by unfold shownP;rw[if_neg (by omega),if_pos (by omega)]
  rw[this]at h;exact h
 ·rw[eq_comm,decide_eq_true_iff];left;omega
 ·rw[Bool.eq_iff_iff];simp;omega
theorem said_is (s signs:List UInt8) (hs:(120:UInt8)∉signs/\(110:UInt8)∉signs/\(116:UInt8)∉signs) (ha:∀c∈signs,c.toNat<128) (M:Mem) (K:Value->Prop) (h:K (.tuple #[.int .i64 (saidP signs s).1,.int .i64 (saidP signs s).2])):S_chaffref_said s signs M K:=by
 have key:∀p:Int×Int,p=saidP signs s->K (.tuple #[.int .i64 p.1,.int .i64 p.2]):=λp e=>e▸h
 have j1:∀b:Bool,(b=true->saidP signs s=(0,0))->(b=false->∃c r,s=c::r/\c.toNat≠10)->S_chaffref_said_J1 s signs M b K:=by
  intro b h1 h2
  refine⟨λe=>key (0,0) (h1 e).symm,λe=>?_⟩
  obtain⟨c,r,rfl,n10⟩:=h2 (by simpa using e)
  refine⟨c,by omega,rfl,λn92=>⟨c,by omega,rfl,?_⟩,λh92=>⟨λhl=>key (0,0) ?_,λhl=>?_⟩⟩
  ·rw[wrapI]
   refine key (c.toNat,1) ?_
   rw[saidP_cons,if_neg n10,if_pos (by omega)]
  ·have:r=[]:=by cases r with
    |nil=>rfl
    |cons _ _=>simp only[List.length_cons]at hl;omega
   subst this
   rw[saidP_cons]
   simp only[if_neg n10,if_neg (show ¬c.toNat≠92 by omega)]
  obtain⟨d,t,rfl⟩:∃d t,r=d::t:=by
   cases r with
   |nil=>simp only[List.length_cons,List.length_nil]at hl;omega
   |cons d t=>exact⟨d,t,rfl⟩
  have hP:=saidP_two signs c d t (by omega)
  refine⟨d,by omega,rfl,λq=>key (10,2) ?_,λn110=>⟨d,by omega,rfl,λq=>key (9,2) ?_,λn116=>⟨d,by omega,rfl,λq=>?_,λn120=>?_⟩⟩⟩
  ·rw[hP,if_pos (by omega)]
  ·rw[hP,if_neg (by omega),if_pos (by omega)]
  ·have hd:d=120:=UInt8.toNat_inj.1 (by show d.toNat=120;omega)
   have hnm:d∉signs:=by rw[hd];exact hs.1
   rw[if_neg (by omega),if_neg (by omega),if_neg hnm,if_pos (by omega)]at hP
   have j2t:saidP signs (c::d::t)=(0,0)->S_chaffref_said_J2 (c::d::t) M true K:=λe=>⟨λ_=>key (0,0) e.symm,λh=>absurd rfl h⟩
   refine⟨λhl2=>j2t ?_,λhl2=>?_⟩
   ·rcases t with _|⟨x,_|⟨y,u⟩⟩
    ·exact hP
    ·exact hP
    ·simp only[List.length_cons]at hl2;omega
   obtain⟨x,y,u,rfl⟩:∃x y u,t=x::y::u:=by
    rcases t with _|⟨x,_|⟨y,u⟩⟩
    ·simp only[List.length_cons,List.length_nil]at hl2;omega
    ·simp only[List.length_cons,List.length_nil]at hl2;omega
    ·exact⟨x,y,u,rfl⟩
   simp only at hP
   have hx1:=hexV_lt x
   have hy1:=hexV_lt y
   have hx2:=hexV_ge x
   have hy2:=hexV_ge y
   refine⟨x,by omega,rfl,s_chaffref_value _ _ _ (value_is x _ _ ⟨_,rfl,λhx=>j2t ?_,λhx=>⟨y,by omega,rfl,s_chaffref_value _ _ _ (value_is y _ _ ⟨_,rfl,?_⟩)⟩⟩)⟩
   ·rw[hP,if_neg (by omega)]
   ·refine⟨λe=>?_,λe=>⟨x,by omega,rfl,y,by omega,rfl,s_chaffref_value _ _ _ (value_is x _ _ ⟨_,rfl,by unfold InI;omega,s_chaffref_value _ _ _ (value_is y _ _ ⟨_,rfl,by unfold InI;omega,key (16*hexV x+hexV y,4) ?_⟩)⟩)⟩⟩
    ·have:hexV y<0:=of_decide_eq_true e
     refine key (0,0) ?_
     rw[hP,if_neg (by omega)]
    ·have:¬hexV y<0:=λq=>e (decide_eq_true q)
     rw[hP,if_pos (by omega)]
  ·rw[if_neg (by omega),if_neg (by omega),if_neg (show ¬d.toNat=120 by omega)]at hP
   have ecut:(((c::d::t).take (2:Int).toNat).drop (1:Int).toNat)=[d]:=rfl
   rw[ecut]
   refine⟨by omega,by omega,by simp only[List.length_cons];omega,s_strings_Contains _ _ _ _ (contains1_is signs d _ _ ⟨_,rfl,λhi=>⟨d,by omega,rfl,?_⟩,λhi=>?_⟩)⟩
   ·have hm:d∈signs:=of_decide_eq_true hi
    have:=ha d hm
    refine⟨λ_=>⟨d,by omega,rfl,?_⟩,λh=>absurd (decide_eq_true (by omega)) h⟩
    rw[wrapI]
    exact key (d.toNat,2) (by rw[hP,if_pos hm])
   ·have hi:decide (d∈signs)=false:=by simpa using hi
    refine⟨λh=>(by cases h),λ_=>key (0,0) ?_⟩
    rw[hP,if_neg (of_decide_eq_false hi)]
 refine⟨λe=>j1 _ (λ_=>by subst e;rfl) (λh=>by cases h),λhne=>?_⟩
 obtain⟨c,r,rfl⟩:=List.exists_cons_of_ne_nil hne
 refine⟨c,by omega,rfl,j1 _ (λhb=>?_) (λhb=>⟨c,r,rfl,?_⟩)⟩
 ·have:(c.toNat:Int)=10:=by simpa using hb
  rw[saidP_cons,if_pos (by omega)]
 ·have:¬(c.toNat:Int)=10:=by simpa using hb
  omega
end Go.Proofs.YtjecddabdlapbaaDoor.core

namespace Go.Proofs.YtjecddabdlapbaaDoor.core
open Go.Gx Go.RowKit Go.ChangeShapes Go.WideShapes Go.ChangeAt
set_option linter.unusedVariables false
def wfS (s:X_api_Set):Prop:=(Lit.int .u64 s.w0).wf=true/\(Lit.int .u64 s.w1).wf=true/\(Lit.int .u64 s.w2).wf=true/\(Lit.int .u64 s.w3).wf=true
end Go.Proofs.YtjecddabdlapbaaDoor.core

namespace Go.Proofs.YtjecddabdlapbaaDoor.core
open Go.Gx Go.RowKit Go.ChangeShapes Go.WideShapes Go.ChangeAt
set_option linter.unusedVariables false
theorem wrapU (n:Nat) (h:n<2 ^ 64):IntKind.wrap .u64 (n:Int)=n:=by
 simp only[IntKind.wrap,IntKind.bits,IntKind.signed,Bool.false_and,Bool.false_eq_true,if_false]
 omega
theorem bvU (n:Nat) (h:n<2 ^ 64):(BitVec.ofInt 64 (n:Int)).toNat=n:=by
 rw[BitVec.ofInt_natCast,BitVec.toNat_ofNat,Nat.mod_eq_of_lt h]
theorem bOrU (a b:Nat) (ha:a<2 ^ 64) (hb:b<2 ^ 64):bOr .u64 a b=((a|||b:Nat):Int):=by
 show IntKind.wrap .u64 ((BitVec.ofInt 64 (a:Int)|||BitVec.ofInt 64 (b:Int)).toNat:Int)=_
 rw[BitVec.toNat_or,bvU a ha,bvU b hb,wrapU _ (Nat.or_lt_two_pow ha hb)]
theorem bAndU (a b:Nat) (ha:a<2 ^ 64) (hb:b<2 ^ 64):bAnd .u64 a b=((a&&& b:Nat):Int):=by
 show IntKind.wrap .u64 ((BitVec.ofInt 64 (a:Int)&&& BitVec.ofInt 64 (b:Int)).toNat:Int)=_
 rw[BitVec.toNat_and,bvU a ha,bvU b hb,wrapU _ (Nat.and_lt_two_pow a hb)]
theorem bNotU (a:Nat) (ha:a<2 ^ 64):bNot .u64 a=(((2 ^ 64-1) ^^^ a:Nat):Int):=by
 show IntKind.wrap .u64 ((BitVec.ofInt 64 (18446744073709551615:Int) ^^^ BitVec.ofInt 64 (a:Int)).toNat:Int)=_
 have h1:(BitVec.ofInt 64 (18446744073709551615:Int)).toNat=2 ^ 64-1:=by decide
 rw[BitVec.toNat_xor,bvU a ha,h1,wrapU _ (Nat.xor_lt_two_pow (by decide) ha)]
theorem bShlU (k:Nat) (hk:k<64):bShl .u64 1 k=((2 ^ k:Nat):Int):=by
 show IntKind.wrap .u64 (1*2 ^ (min (k:Int).toNat 64))=_
 have:min (k:Int).toNat 64=k:=by omega
 rw[this,Int.one_mul]
 have h2:(2 ^ k:Nat)<2 ^ 64:=Nat.pow_lt_pow_right (by decide) hk
 have:=wrapU (2 ^ k) h2
 rw[Int.natCast_pow]at this ⊢
 exact this
theorem bShrU (a k:Nat) (hk:k<64):bShr .u64 a k=((a / 2 ^ k:Nat):Int):=by
 show(a:Int).fdiv (2 ^ (min (k:Int).toNat 64))=_
 have:min (k:Int).toNat 64=k:=by omega
 rw[this,Int.ofNat_fdiv,Int.natCast_pow];rfl
def Uw (p:Nat->Bool) (w:Nat):Nat->Nat
 |0=>0
 |j+1=>Uw p w j+(if p (64*w+j)=true then 2 ^ j else 0)
theorem Uw_lt (p:Nat->Bool) (w:Nat):∀j,Uw p w j<2 ^ j
 |0=>by simp[Uw]
 |j+1=>by
  have:=Uw_lt p w j
  simp only[Uw,Nat.pow_succ]
  split<;>omega
theorem Uw_bit (p:Nat->Bool) (w:Nat) (k:Nat):∀j,(Uw p w j).testBit k=(decide (k<j)&&p (64*w+k))
 |0=>by simp[Uw]
 |j+1=>by
  have ih:=Uw_bit p w k j
  have hlt:=Uw_lt p w j
  simp only[Uw]
  split
  ·rename_i hp
   have e:Uw p w j+2 ^ j=2 ^ j*1|||Uw p w j:=by
    rw[<-Nat.two_pow_add_eq_or_of_lt hlt 1];omega
   rw[e,Nat.mul_one,Nat.testBit_or,Nat.testBit_two_pow,ih]
   by_cases hk:j=k
   ·subst hk;simp[hp]
   ·have:(decide (k<j+1))=decide (k<j):=by congr 1;simp;omega
    rw[this];simp[hk]
  ·rename_i hp
   rw[Nat.add_zero,ih]
   by_cases hk:j=k
   ·subst hk;simp[hp]
   ·have:(decide (k<j+1))=decide (k<j):=by congr 1;simp;omega
    rw[this]
def hasW (s:List Nat) (b:Nat):Bool:=(s.getD (b / 64) 0).testBit (b % 64)
theorem word_ext {x y:Nat} (hx:x<2 ^ 64) (hy:y<2 ^ 64) (h:∀k,k<64->x.testBit k=y.testBit k):x=y:=by
 refine Nat.eq_of_testBit_eq λk=>?_
 by_cases hk:k<64
 ·exact h k hk
 ·have:2 ^ 64<=2 ^ k:=Nat.pow_le_pow_right (by decide) (by omega)
  rw[Nat.testBit_lt_two_pow (by omega),Nat.testBit_lt_two_pow (by omega)]
theorem word_is {x:Nat} (p:Nat->Bool) (w:Nat) (hx:x<2 ^ 64) (h:∀k,k<64->x.testBit k=p (64*w+k)):x=Uw p w 64:=
 word_ext hx (Uw_lt p w 64) λk hk=>by rw[h k hk,Uw_bit];simp[hk]
theorem hasW_at (s:List Nat) (w k:Nat) (hk:k<64):hasW s (64*w+k)=(s.getD w 0).testBit k:=by
 unfold hasW
 rw[show(64*w+k) / 64=w by omega,show(64*w+k) % 64=k by omega]
theorem has_bit (x k:Nat) (hk:k<64):((bShr .u64 (x:Int) (k:Int)).tmod 2==(1:Int))=x.testBit k:=by
 rw[bShrU x k hk,Nat.testBit_eq_decide_div_mod_eq,Int.tmod_eq_emod_of_nonneg (Int.natCast_nonneg _)]
 generalize x / 2 ^ k=y
 rw[Bool.eq_iff_iff,beq_iff_eq,decide_eq_true_iff]
 omega
def Us (p:Nat->Bool):X_api_Set:=⟨(Uw p 0 64:Nat),(Uw p 1 64:Nat),(Uw p 2 64:Nat),(Uw p 3 64:Nat)⟩
def bitS (s:X_api_Set) (b:Nat):Bool:=hasW [s.w0.toNat,s.w1.toNat,s.w2.toNat,s.w3.toNat] b
theorem nat_of {z:Int} (h:(Lit.int .u64 z).wf=true):∃n:Nat,z=n/\n<2 ^ 64:=by
 simp only[Lit.wf,IntKind.min,IntKind.max,Bool.and_eq_true]at h
 refine⟨z.toNat,?_,?_⟩<;>simp[IntKind.bits,IntKind.signed]at h<;>omega
theorem of_nat {n:Nat} (h:n<2 ^ 64):(Lit.int .u64 (n:Int)).wf=true:=by
 simp only[Lit.wf,IntKind.min,IntKind.max,Bool.and_eq_true]
 simp[IntKind.bits,IntKind.signed];omega
theorem Us_wf (p:Nat->Bool):wfS (Us p):=⟨of_nat (Uw_lt p 0 64),of_nat (Uw_lt p 1 64),of_nat (Uw_lt p 2 64),of_nat (Uw_lt p 3 64)⟩
theorem bit_Us {p:Nat->Bool} {b:Nat} (hb:b<256):bitS (Us p) b=p b:=by
 have key:∀w k:Nat,w<4->k<64->hasW [Uw p 0 64,Uw p 1 64,Uw p 2 64,Uw p 3 64] (64*w+k)=p (64*w+k):=by
  intro w k hw hk
  rw[hasW_at _ w k hk]
  have:[Uw p 0 64,Uw p 1 64,Uw p 2 64,Uw p 3 64].getD w 0=Uw p w 64:=by
   match w,hw with
   |0,_=>rfl
   |1,_=>rfl
   |2,_=>rfl
   |3,_=>rfl
  rw[this,Uw_bit];simp[hk]
 have:=key (b / 64) (b % 64) (by omega) (by omega)
 rw[show 64*(b / 64)+b % 64=b by omega]at this
 exact this
theorem Us_congr {p q:Nat->Bool} (h:∀b,b<256->p b=q b):Us p=Us q:=by
 have key:∀(w:Nat),w<4->∀j,j<=64->Uw p w j=Uw q w j:=by
  intro w hw j
  induction j with
  |zero=>intro _;rfl
  |succ j ih=>intro hj;rw[Uw,Uw,ih (by omega),h (64*w+j) (by omega)]
 unfold Us
 rw[key 0 (by omega) 64 (by omega),key 1 (by omega) 64 (by omega),key 2 (by omega) 64 (by omega),key 3 (by omega) 64 (by omega)]
theorem bit_get {s:X_api_Set} (h:wfS s) {x:Nat} (hx:x<256):∃w:Nat,[s.w0,s.w1,s.w2,s.w3][x / 64]?=some (w:Int)/\w<2 ^ 64/\w.testBit (x % 64)=bitS s x:=by
 obtain⟨a,b,c,d⟩:=s
 obtain⟨h0,h1,h2,h3⟩:=h
 obtain⟨a,rfl,ha⟩:=nat_of h0
 obtain⟨b,rfl,hb⟩:=nat_of h1
 obtain⟨c,rfl,hc⟩:=nat_of h2
 obtain⟨d,rfl,hd⟩:=nat_of h3
 have hq:x / 64<4:=by omega
 have hx':=hasW_at [a,b,c,d] (x / 64) (x % 64) (by omega)
 rw[show 64*(x / 64)+x % 64=x by omega]at hx'
 match h:x / 64,hq with
 |0,_=>exact⟨a,rfl,ha,by rw[h]at hx';exact hx'.symm⟩
 |1,_=>exact⟨b,rfl,hb,by rw[h]at hx';exact hx'.symm⟩
 |2,_=>exact⟨c,rfl,hc,by rw[h]at hx';exact hx'.symm⟩
 |3,_=>exact⟨d,rfl,hd,by rw[h]at hx';exact hx'.symm⟩
theorem rhas_is {s:X_api_Set} (hs:wfS s) {x:Nat} (hx:x<256) {M:Mem} (K:Value->Prop) (h:K (.bool (bitS s x))):S_chaffref_Has s (x:Int) M K:=by
 unfold S_chaffref_Has
 have e1:(x:Int).tdiv 64=((x / 64:Nat):Int):=by rw[Int.tdiv_eq_ediv_of_nonneg (by omega)];omega
 have e2:(x:Int).tmod 64=((x % 64:Nat):Int):=by rw[Int.tmod_eq_emod_of_nonneg (by omega)];omega
 obtain⟨w,hw,_,hb⟩:=bit_get hs hx
 rw[e1,e2]
 refine⟨by unfold InI;omega,by omega,by omega,(w:Int),?_,by omega,?_⟩
 ·rw[show 0+(((x / 64:Nat):Int)).toNat*1=x / 64 by omega];exact hw
 ·rw[has_bit _ _ (by omega),hb];exact h
theorem u8_shift:∀n:Nat,n<256->bShr .u8 (n:Int) 6=((n / 64:Nat):Int)/\bAnd .u8 (n:Int) 63=((n % 64:Nat):Int):=by decide+kernel
theorem bit_one (w k:Nat) (hw:w<2 ^ 64) (hk:k<64):((bAnd .u64 (bShr .u64 (w:Int) (k:Int)) 1:Int)==(1:Int))=w.testBit k:=by
 rw[bShrU w k hk,Nat.testBit_eq_decide_div_mod_eq]
 have h1:w / 2 ^ k<2 ^ 64:=Nat.lt_of_le_of_lt (Nat.div_le_self _ _) hw
 rw[show(1:Int)=((1:Nat):Int) from rfl,bAndU _ _ h1 (by decide),Nat.and_one_is_mod]
 generalize w / 2 ^ k=y
 rw[Bool.eq_iff_iff,beq_iff_eq,decide_eq_true_iff]
 omega
theorem has_is {s:X_api_Set} (hs:wfS s) (c:UInt8) {M:Mem} (K:Value->Prop) (h:K (.bool (bitS s c.toNat))):S_set_Has s (c.toNat:Int) M K:=by
 have hc:=c.toNat_lt
 obtain⟨e1,e2⟩:=u8_shift c.toNat hc
 obtain⟨w,hw,hlt,hb⟩:=bit_get hs hc
 unfold S_set_Has
 rw[e1,e2]
 refine⟨by omega,by omega,(w:Int),?_,by omega,?_⟩
 ·rw[show 0+(((c.toNat / 64:Nat):Int)).toNat*1=c.toNat / 64 by omega];exact hw
 ·rw[bit_one _ _ hlt (by omega),hb];exact h
theorem where_is (fv:Value) (M:Mem) (p:Nat->Bool) (hp:∀x:Nat,x<256->CallF Tryd.prog fv [.int .i64 x] M (λv _=>v= .bool (p x))) (K:Value->Prop)
  (h:K (Us p).val):S_chaffref_Where fv M K:=by
 unfold S_chaffref_Where
 let Z:Nat->List Int:=λb=>[(Uw p 0 (min b 64):Nat),(Uw p 1 (min (b-64) 64):Nat),(Uw p 2 (min (b-128) 64):Nat),(Uw p 3 (min (b-192) 64):Nat)]
 refine⟨λb zs=>∃n:Nat,b=n/\n<=256/\zs=Z n,λb _=>256-b.toNat,⟨0,rfl,by omega,rfl⟩,λb zs ⟨n,hb,hn,hz⟩=>?_⟩
 subst hb
 subst hz
 refine⟨λhlt=>?_,λhge=>?_⟩
 ·have hlt':n<256:=by omega
  refine(hp n hlt').mono λv _ _ hv=>⟨p n,hv,λhpn=>?_,λhpn=>?_⟩
  ·have e1:(n:Int).tdiv 64=((n / 64:Nat):Int):=by rw[Int.tdiv_eq_ediv_of_nonneg (by omega)];omega
   have e2:(n:Int).tmod 64=((n % 64:Nat):Int):=by rw[Int.tmod_eq_emod_of_nonneg (by omega)];omega
   rw[e1,e2]
   have hq:n / 64<4:=by omega
   have ei:(0+(((n / 64:Nat):Int)).toNat*1)=n / 64:=by omega
   rw[ei]
   have hr:n % 64<64:=by omega
   have hU:=Uw_lt p (n / 64) (n % 64)
   have hpow:2 ^ (n % 64)<2 ^ 64:=Nat.pow_lt_pow_right (by decide) hr
   have hpow2:2 ^ (n % 64)*2<=2 ^ 64:=by rw[<-Nat.pow_succ];exact Nat.pow_le_pow_right (by decide) (by omega)
   have hget:(Z n)[n / 64]?=some ((Uw p (n / 64) (n % 64):Nat):Int):=by
    show[((Uw p 0 (min n 64):Nat):Int),(Uw p 1 (min (n-64) 64):Nat),(Uw p 2 (min (n-128) 64):Nat),(Uw p 3 (min (n-192) 64):Nat)][n / 64]?=_
    match h:n / 64,hq with
    |0,_=>rw[show min n 64=n % 64 by omega];rfl
    |1,_=>rw[show min (n-64) 64=n % 64 by omega];rfl
    |2,_=>rw[show min (n-128) 64=n % 64 by omega];rfl
    |3,_=>rw[show min (n-192) 64=n % 64 by omega];rfl
   refine⟨by unfold InI;omega,by omega,by omega,_,hget,by omega,by omega,by omega,by show n / 64<4;exact hq,?_⟩
   rw[bShlU _ hr]
   have hw:IntKind.wrap .u64 (((Uw p (n / 64) (n % 64):Nat):Int)+((2 ^ (n % 64):Nat):Int))=((Uw p (n / 64) (n % 64+1):Nat):Int):=by
    rw[<-Int.natCast_add,wrapU _ (by omega)]
    have:p (64*(n / 64)+n % 64)=true:=by rw[show 64*(n / 64)+n % 64=n by omega];exact hpn
    simp only[Uw,this,if_true]
   rw[hw]
   have hset:(Z n).set (n / 64) ((Uw p (n / 64) (n % 64+1):Nat):Int)=Z (n+1):=by
    show[((Uw p 0 (min n 64):Nat):Int),(Uw p 1 (min (n-64) 64):Nat),(Uw p 2 (min (n-128) 64):Nat),(Uw p 3 (min (n-192) 64):Nat)].set (n / 64) _=[((Uw p 0 (min (n+1) 64):Nat):Int),(Uw p 1 (min (n+1-64) 64):Nat),(Uw p 2 (min (n+1-128) 64):Nat),(Uw p 3 (min (n+1-192) 64):Nat)]
    match h:n / 64,hq with
    |0,_=>rw[show min (n+1) 64=n % 64+1 by omega,show min (n+1-64) 64=min (n-64) 64 by omega,show min (n+1-128) 64=min (n-128) 64 by omega,show min (n+1-192) 64=min (n-192) 64 by omega];rfl
    |1,_=>rw[show min (n+1-64) 64=n % 64+1 by omega,show min (n+1) 64=min n 64 by omega,show min (n+1-128) 64=min (n-128) 64 by omega,show min (n+1-192) 64=min (n-192) 64 by omega];rfl
    |2,_=>rw[show min (n+1-128) 64=n % 64+1 by omega,show min (n+1) 64=min n 64 by omega,show min (n+1-64) 64=min (n-64) 64 by omega,show min (n+1-192) 64=min (n-192) 64 by omega];rfl
    |3,_=>rw[show min (n+1-192) 64=n % 64+1 by omega,show min (n+1) 64=min n 64 by omega,show min (n+1-64) 64=min (n-64) 64 by omega,show min (n+1-128) 64=min (n-128) 64 by omega];rfl
   rw[hset]
   exact⟨by unfold InI;omega,⟨n+1,by omega,by omega,rfl⟩,by dsimp only;omega⟩
  ·have hpn':p n=false:=by simpa using hpn
   have hsame:∀w:Nat,Uw p w (min (n+1-64*w) 64)=Uw p w (min (n-64*w) 64):=by
    intro w
    by_cases h1:64*w<=n/\n<64*w+64
    ·rw[show min (n+1-64*w) 64=min (n-64*w) 64+1 by omega]
     simp only[Uw]
     rw[show 64*w+min (n-64*w) 64=n by omega,hpn']
     simp
    ·rw[show min (n+1-64*w) 64=min (n-64*w) 64 by omega]
   have hZ:Z n=Z (n+1):=by
    have h0:=hsame 0
    have h1:=hsame 1
    have h2:=hsame 2
    have h3:=hsame 3
    simp only[Nat.mul_zero,Nat.sub_zero,Nat.mul_one]at h0 h1 h2 h3
    show[((Uw p 0 (min n 64):Nat):Int),(Uw p 1 (min (n-64) 64):Nat),(Uw p 2 (min (n-128) 64):Nat),(Uw p 3 (min (n-192) 64):Nat)]=[((Uw p 0 (min (n+1) 64):Nat):Int),(Uw p 1 (min (n+1-64) 64):Nat),(Uw p 2 (min (n+1-128) 64):Nat),(Uw p 3 (min (n+1-192) 64):Nat)]
    rw[h0,h1,show min (n+1-128) 64=min (n+1-64*2) 64 by omega,h2,show min (n+1-192) 64=min (n+1-64*3) 64 by omega,h3]
   unfold S_chaffref_Where_J1
   exact⟨by unfold InI;omega,⟨n+1,by omega,by omega,hZ⟩,by dsimp only;omega⟩
 ·have hn:n=256:=by omega
  subst hn
  exact⟨_,_,_,_,rfl,rfl,_,_,_,_,rfl,h⟩
theorem join_is {s t:X_api_Set} (hs:wfS s) (ht:wfS t) {M:Mem} (K:Value->Prop) (hK:K (Us λb=>bitS s b||bitS t b).val):S_set_Join s t M K:=by
 unfold S_set_Join
 refine s_set_both _ _ _ _ _ ?_
 obtain⟨a,b,c,d⟩:=s
 obtain⟨a',b',c',d'⟩:=t
 obtain⟨h0,h1,h2,h3⟩:=hs
 obtain⟨k0,k1,k2,k3⟩:=ht
 obtain⟨a,rfl,ha⟩:=nat_of h0
 obtain⟨b,rfl,hb⟩:=nat_of h1
 obtain⟨c,rfl,hc⟩:=nat_of h2
 obtain⟨d,rfl,hd⟩:=nat_of h3
 obtain⟨a',rfl,ha'⟩:=nat_of k0
 obtain⟨b',rfl,hb'⟩:=nat_of k1
 obtain⟨c',rfl,hc'⟩:=nat_of k2
 obtain⟨d',rfl,hd'⟩:=nat_of k3
 have hw:∀(w x y:Nat),[a,b,c,d].getD w 0=x->[a',b',c',d'].getD w 0=y->x<2 ^ 64->y<2 ^ 64->(x|||y)=Uw (λq=>bitS ⟨a,b,c,d⟩ q||bitS ⟨a',b',c',d'⟩ q) w 64:=by
  intro w x y hx hy hxl hyl
  refine word_is _ w (Nat.or_lt_two_pow hxl hyl) λk hk=>?_
  rw[Nat.testBit_or,<-hx,<-hy]
  rw[<-hasW_at [a,b,c,d] w k hk,<-hasW_at [a',b',c',d'] w k hk];rfl
 have hfin:(⟨((a|||a':Nat):Int),((b|||b':Nat):Int),((c|||c':Nat):Int),((d|||d':Nat):Int)⟩:X_api_Set)=Us λq=>bitS ⟨a,b,c,d⟩ q||bitS ⟨a',b',c',d'⟩ q:=by
  unfold Us
  rw[hw 0 a a' rfl rfl ha ha',hw 1 b b' rfl rfl hb hb',hw 2 c c' rfl rfl hc hc',hw 3 d d' rfl rfl hd hd']
 rw[<-hfin]at hK
 have call:∀(x y:Nat) (K:Value->Prop),x<2 ^ 64->y<2 ^ 64->K (.int .u64 ((x|||y:Nat):Int))->CallF Tryd.prog (Value.func (.func 103) #[] #[]) [.int .u64 (x:Int),.int .u64 (y:Int)] M (λv _=>K v):=λx y K hx hy hK=>
  f_set_Join_1 _ _ _ _ (by unfold S_set_Join_1;rw[bOrU x y hx hy];exact hK)
 unfold S_set_both
 refine⟨λi zs=>(i=0/\zs=[(a:Int),b,c,d])\/(i=1/\zs=[((a|||a':Nat):Int),b,c,d])\/(i=2/\zs=[((a|||a':Nat):Int),((b|||b':Nat):Int),c,d])\/(i=3/\zs=[((a|||a':Nat):Int),((b|||b':Nat):Int),((c|||c':Nat):Int),d])\/(i=4/\zs=[((a|||a':Nat):Int),((b|||b':Nat):Int),((c|||c':Nat):Int),((d|||d':Nat):Int)]),λi _=>4-i.toNat,.inl ⟨rfl,rfl⟩,λi zs hI=>?_⟩
 rcases hI with⟨rfl,rfl⟩|⟨rfl,rfl⟩|⟨rfl,rfl⟩|⟨rfl,rfl⟩|⟨rfl,rfl⟩
 ·exact⟨λ_=>⟨by omega,by omega,_,rfl,by omega,by omega,_,rfl,call _ _ _ ha ha' ⟨_,rfl,by omega,by omega,by simp,by unfold InI;omega,.inr (.inl ⟨rfl,rfl⟩),by dsimp only;decide⟩⟩,λh=>absurd h (by decide)⟩
 ·exact⟨λ_=>⟨by omega,by omega,_,rfl,by omega,by omega,_,rfl,call _ _ _ hb hb' ⟨_,rfl,by omega,by omega,by simp,by unfold InI;omega,.inr (.inr (.inl ⟨rfl,rfl⟩)),by dsimp only;decide⟩⟩,λh=>absurd h (by decide)⟩
 ·exact⟨λ_=>⟨by omega,by omega,_,rfl,by omega,by omega,_,rfl,call _ _ _ hc hc' ⟨_,rfl,by omega,by omega,by simp,by unfold InI;omega,.inr (.inr (.inr (.inl ⟨rfl,rfl⟩))),by dsimp only;decide⟩⟩,λh=>absurd h (by decide)⟩
 ·exact⟨λ_=>⟨by omega,by omega,_,rfl,by omega,by omega,_,rfl,call _ _ _ hd hd' ⟨_,rfl,by omega,by omega,by simp,by unfold InI;omega,.inr (.inr (.inr (.inr ⟨rfl,rfl⟩))),by dsimp only;decide⟩⟩,λh=>absurd h (by decide)⟩
 ·exact⟨λh=>absurd h (by decide),λ_=>⟨_,_,_,_,rfl,rfl,_,_,_,_,rfl,_,rfl,hK⟩⟩
theorem Uw_congr {p q:Nat->Bool} {w:Nat} (h:∀k,k<64->p (64*w+k)=q (64*w+k)):Uw p w 64=Uw q w 64:=by
 have key:∀j,j<=64->Uw p w j=Uw q w j:=by
  intro j
  induction j with
  |zero=>intro _;rfl
  |succ j ih=>intro hj;rw[Uw,Uw,ih (by omega),h j (by omega)]
 exact key 64 (by omega)
def U4 (p:Nat->Bool):List Int:=[(Uw p 0 64:Nat),(Uw p 1 64:Nat),(Uw p 2 64:Nat),(Uw p 3 64:Nat)]
theorem U4_get (p:Nat->Bool) {w:Nat} (hw:w<4):(U4 p)[w]?=some ((Uw p w 64:Nat):Int):=by
 match w,hw with
 |0,_=>rfl
 |1,_=>rfl
 |2,_=>rfl
 |3,_=>rfl
theorem U4_set {p q:Nat->Bool} {w:Nat} (hw:w<4) (h:∀x,x<256->x / 64≠w->p x=q x):(U4 p).set w ((Uw q w 64:Nat):Int)=U4 q:=by
 have key:∀v,v<4->v≠w->Uw p v 64=Uw q v 64:=λv hv hne=>Uw_congr λk hk=>h _ (by omega) (by omega)
 match w,hw with
 |0,_=>show[_,_,_,_]=[_,_,_,_];rw[key 1 (by omega) (by omega),key 2 (by omega) (by omega),key 3 (by omega) (by omega)]
 |1,_=>show[_,_,_,_]=[_,_,_,_];rw[key 0 (by omega) (by omega),key 2 (by omega) (by omega),key 3 (by omega) (by omega)]
 |2,_=>show[_,_,_,_]=[_,_,_,_];rw[key 0 (by omega) (by omega),key 1 (by omega) (by omega),key 3 (by omega) (by omega)]
 |3,_=>show[_,_,_,_]=[_,_,_,_];rw[key 0 (by omega) (by omega),key 1 (by omega) (by omega),key 2 (by omega) (by omega)]
theorem i64_shift:∀n:Nat,n<256->bShr .i64 (n:Int) 6=((n / 64:Nat):Int)/\bAnd .i64 (n:Int) 63=((n % 64:Nat):Int):=by decide+kernel
def inR (low high:Int) (x:Nat):Bool:=decide (low<=x/\(x:Int)<=high)
theorem range_is (low high:Int) {M:Mem} (K:Value->Prop) (hK:K (Us (inR low high)).val):S_set_Range low high M K:=by
 unfold S_set_Range
 have hz:∀p:Nat->Bool,(∀x,x<256->p x=false)->U4 p=[0,0,0,0]:=λp hp=>by
  have key:∀w,w<4->Uw p w 64=0:=λw hw=>by
   have h1:Uw p w 64=Uw (λ_=>false) w 64:=Uw_congr λk hk=>hp _ (by omega)
   have h2:∀j,Uw (λ_=>false) w j=0:=by
    intro j
    induction j with
    |zero=>rfl
    |succ j ih=>rw[Uw,ih];simp
   rw[h1,h2]
  unfold U4
  rw[key 0 (by omega),key 1 (by omega),key 2 (by omega),key 3 (by omega)];rfl
 let pb:Int->Nat->Bool:=λb x=>decide (low<=x/\(x:Int)<b)
 refine⟨λb zs=>(if low>0 then low else 0)<=b/\(b=(if low>0 then low else 0)\/b<=(if high<255 then high else 255)+1)/\zs=U4 (pb b),λb _=>(256-b).toNat,⟨Int.le_refl _,.inl rfl,(hz _ λx _=>?_).symm⟩,λb zs ⟨h0,h1,h2⟩=>⟨λhlt=>?_,λhge=>?_⟩⟩
 ·simp only[pb,decide_eq_false_iff_not];split<;>omega
 ·subst h2
  have hb0:0<=b:=by split at h0<;>omega
  have hb1:b<=255:=by split at hlt<;>omega
  have hb2:low<=b:=by split at h0<;>omega
  obtain⟨n,rfl⟩:=Int.eq_ofNat_of_zero_le hb0
  have hn:n<256:=by omega
  obtain⟨e1,e2⟩:=i64_shift n hn
  rw[e1,e2]
  have hidx:0+(((n / 64:Nat):Int)).toNat*1=n / 64:=by omega
  rw[hidx]
  have hw4:n / 64<4:=by omega
  refine⟨by omega,by omega,_,U4_get _ hw4,by omega,by omega,by omega,by show n / 64<4;exact hw4,by unfold InI;omega,⟨?_,?_,?_⟩,by dsimp only;omega⟩
  ·split at h0<;>(split<;>omega)
  ·right;split at hlt<;>(split<;>omega)
  ·rw[bShlU _ (by omega),bOrU _ _ (Uw_lt _ _ _) (Nat.pow_lt_pow_right (by decide) (by omega))]
   have hword:(Uw (pb (n:Int)) (n / 64) 64|||2 ^ (n % 64))=Uw (pb ((n:Int)+1)) (n / 64) 64:=by
    refine word_is _ _ (Nat.or_lt_two_pow (Uw_lt _ _ _) (Nat.pow_lt_pow_right (by decide) (by omega))) λk hk=>?_
    rw[Nat.testBit_or,Uw_bit,Nat.testBit_two_pow]
    simp only[pb,hk,decide_true,Bool.true_and]
    rw[Bool.eq_iff_iff]
    simp only[Bool.or_eq_true,decide_eq_true_eq]
    omega
   rw[hword]
   exact U4_set hw4 λx hx hne=>by simp only[pb];rw[decide_eq_decide];omega
 ·subst h2
  refine⟨_,_,_,_,rfl,rfl,_,_,_,_,rfl,?_⟩
  have:Us (pb b)=Us (inR low high):=Us_congr λx hx=>by
   simp only[pb,inR];rw[decide_eq_decide]
   split at h0<;>split at h1<;>omega
  rw[<-this]at hK;exact hK
end Go.Proofs.YtjecddabdlapbaaDoor.core

namespace Go.Proofs.YtjecddabdlapbaaDoor.core
open Go.Gx Go.RowKit Go.ChangeShapes Go.WideShapes Go.ChangeAt
set_option linter.unusedVariables false
def p8 (a:Nat):Nat:=a % 2+a / 2 % 2+a / 4 % 2+a / 8 % 2+a / 16 % 2+a / 32 % 2+a / 64 % 2+a / 128 % 2
def s1 (x m:Nat):Nat:=(x / 2&&& m)+(x&&& m)
def s2 (x m:Nat):Nat:=(x / 4&&& m)+(x&&& m)
def s3 (x m:Nat):Nat:=(x / 16+x)&&& m
theorem low1:∀(a:Fin 256) (k:Fin 2),(a.val / 2+128*k.val)&&& 85=a.val / 2&&& 85:=by decide+kernel
theorem low3:∀(a:Fin 256),s3 (s2 (s1 a.val 85) 51) 15=p8 a.val:=by decide+kernel
end Go.Proofs.YtjecddabdlapbaaDoor.core

namespace Go.Proofs.YtjecddabdlapbaaDoor.core
open Go.Gx Go.RowKit Go.ChangeShapes Go.WideShapes Go.ChangeAt
set_option linter.unusedVariables false
theorem two_odd:∀(x:Nat),0<x->∃k m,x=2 ^ k*(2*m+1):=by
 intro x
 induction x using Nat.strongRecOn with
 |_ x ih=>
  intro h
  by_cases he:x % 2=0
  ·obtain⟨k,m,e⟩:=ih (x / 2) (by omega) (by omega)
   refine⟨k+1,m,?_⟩
   rw[Nat.pow_succ,Nat.mul_right_comm,<-e];omega
  ·exact⟨0,x / 2,by omega⟩
theorem tz_plain {x:Nat} (h0:0<x) (hx:x<2 ^ 64):∃k,k<64/\x.testBit k=true/\(∀j,j<k->x.testBit j=false)/\x&&& (2 ^ 64-x)=2 ^ k:=by
 obtain⟨k,m,e⟩:=two_odd x h0
 have hp:0<2 ^ k:=Nat.two_pow_pos k
 have e1:x=2 ^ (k+1)*m+2 ^ k:=by rw[e,Nat.pow_succ,Nat.mul_add,Nat.mul_one,Nat.mul_assoc]
 have e2:x-1=2 ^ (k+1)*m+(2 ^ k-1):=by omega
 have hlt:2 ^ k<2 ^ (k+1):=Nat.pow_lt_pow_right (by decide) (by omega)
 have b1:∀j,x.testBit j=if j<k+1 then(2 ^ k).testBit j else m.testBit (j-(k+1)):=λj=>by
  rw[e1,Nat.testBit_two_pow_mul_add _ hlt]
 have b2:∀j,(x-1).testBit j=if j<k+1 then(2 ^ k-1).testBit j else m.testBit (j-(k+1)):=λj=>by
  rw[e2,Nat.testBit_two_pow_mul_add _ (by omega)]
 have hxk:x.testBit k=true:=by rw[b1,if_pos (by omega),Nat.testBit_two_pow];simp
 have hlow:∀j,j<k->x.testBit j=false:=λj hj=>by rw[b1,if_pos (by omega),Nat.testBit_two_pow];simp;omega
 have hk:k<64:=by
  rcases Nat.lt_or_ge k 64 with h|h
  ·exact h
  ·have:=Nat.testBit_lt_two_pow (Nat.lt_of_lt_of_le hx (Nat.pow_le_pow_right (by decide) h))
   rw[this]at hxk;cases hxk
 refine⟨k,hk,hxk,hlow,Nat.eq_of_testBit_eq λi=>?_⟩
 have hc:2 ^ 64-x=2 ^ 64-((x-1)+1):=by omega
 rw[Nat.testBit_and,hc,Nat.testBit_two_pow_sub_succ (by omega),b2,Nat.testBit_two_pow]
 rcases Nat.lt_trichotomy i k with h|h|h
 ·rw[hlow i h];simp;omega
 ·subst h
  rw[hxk,if_pos (by omega),Nat.testBit_two_pow_sub_one];simp;exact hk
 ·rw[b1,if_neg (by omega),if_neg (by omega)]
  have:¬k=i:=by omega
  simp[this]
  intro h1 _;exact h1
def dBru:Nat:=285870213051353865
def dTab:List Nat:=[0,1,56,2,57,49,28,3,61,58,42,50,38,29,17,4,62,47,59,36,45,43,51,22,53,39,33,30,24,18,12,5,63,55,48,27,60,41,37,16,46,35,44,21,52,32,23,11,54,26,40,15,34,20,31,10,25,14,19,9,13,8,7,6]
theorem dTab_at:∀k:Fin 64,2 ^ k.val*dBru % 2 ^ 64 / 2 ^ 58<64/\dTab[2 ^ k.val*dBru % 2 ^ 64 / 2 ^ 58]?=some k.val:=by decide+kernel
end Go.Proofs.YtjecddabdlapbaaDoor.core

namespace Go.Proofs.YtjecddabdlapbaaDoor.core
open Go.Gx Go.RowKit Go.ChangeShapes Go.WideShapes Go.ChangeAt
set_option linter.unusedVariables false
theorem shrW (x k:Nat) (hk:k<64):bShr .u64 (x:Int) (k:Int)=((x / 2 ^ k:Nat):Int):=bShrU x k hk
def TabM (M:Mem) (g:Nat) (zs:List Nat):Prop:=∀i z:Nat,zs[i]?=some z->M.cell g i=some (.int .u8 (z:Int))
theorem TabM.le {M M':Mem} {g:Nat} {zs:List Nat} (h:TabM M g zs) (hl:M.le M'):TabM M' g zs:=λi z hz=>hl.cell (h i z hz)
theorem neg_word {x:Nat} (h0:0<x) (hx:x<2 ^ 64):IntKind.wrap .u64 (0-(x:Int))=((2 ^ 64-x:Nat):Int):=by
 simp only[IntKind.wrap,IntKind.bits,IntKind.signed,Bool.false_and,Bool.false_eq_true,if_false]
 omega
theorem wrap_word (n:Nat):IntKind.wrap .u64 (n:Int)=((n % 2 ^ 64:Nat):Int):=by
 simp only[IntKind.wrap,IntKind.bits,IntKind.signed,Bool.false_and,Bool.false_eq_true,if_false]
 omega
theorem tz_is {x:Nat} (h0:0<x) (hx:x<2 ^ 64) {M:Mem} (hT:TabM M 0 dTab) (K:Value->Prop) (hK:∀k:Nat,k<64->x.testBit k=true->(∀j,j<k->x.testBit j=false)->K (.int .i64 (k:Int))):S_math_bits_TrailingZeros64 (x:Int) M K:=by
 unfold S_math_bits_TrailingZeros64
 obtain⟨k,hk,h1,h2,h3⟩:=tz_plain h0 hx
 refine⟨λh=>by omega,λ_=>?_⟩
 obtain⟨g1,g2⟩:=dTab_at ⟨k,hk⟩
 simp only at g1 g2
 have e:bShr .u64 (IntKind.wrap .u64 ((bAnd .u64 (x:Int) (IntKind.wrap .u64 (0-(x:Int))))*285870213051353865)) 58=((2 ^ k*dBru % 2 ^ 64 / 2 ^ 58:Nat):Int):=by
  rw[neg_word h0 hx,bAndU _ _ hx (by omega),h3,show(285870213051353865:Int)=((dBru:Nat):Int) from rfl,<-Int.natCast_mul,wrap_word,show(58:Int)=((58:Nat):Int) from rfl,shrW _ 58 (by decide)]
 rw[e]
 refine⟨by omega,by omega,(k:Int),λj v hj=>?_,?_⟩
 ·have hj0:j=0:=by
   have:=(List.getElem?_eq_some_iff.1 hj).1
   simp at this;omega
  subst hj0
  simp only[List.getElem?_cons_zero,Option.some.injEq]at hj
  subst hj
  have:=hT _ _ g2
  rw[show 0+((2 ^ k*dBru % 2 ^ 64 / 2 ^ 58:Nat):Int).toNat*1+0=2 ^ k*dBru % 2 ^ 64 / 2 ^ 58 by omega]
  exact this
 ·rw[wrap_in (by unfold InI;omega)]
  exact hK k hk h1 h2
def FirstAt (p:Nat->Bool) (m:Int) (z:Int):Prop:=
 (z= -1/\∀b:Nat,m<=b->b<256->p b=false)\/∃b:Nat,z=b/\b<256/\m<=b/\p b=true/\∀c:Nat,m<=c->c<b->p c=false
theorem FirstAt.eq {p:Nat->Bool} {m z w:Int} (h:FirstAt p m z) (k:FirstAt p m w):z=w:=by
 rcases h with⟨rfl,h⟩|⟨b,rfl,hb,hm,hp,h⟩<;>rcases k with⟨rfl,k⟩|⟨c,rfl,hc,hn,hq,k⟩
 ·rfl
 ·rw[h c hn hc]at hq;cases hq
 ·rw[k b hm hb]at hp;cases hp
 ·rcases Nat.lt_trichotomy b c with e|e|e
  ·rw[k b hm e]at hp;cases hp
  ·rw[e]
  ·rw[h c hn e]at hq;cases hq
theorem shr6 (x:Nat):bShr .i64 (x:Int) 6=((x / 64:Nat):Int):=by
 show(x:Int).fdiv (2 ^ (min (6:Int).toNat 64))=_
 rw[show(2:Int) ^ (min (6:Int).toNat 64)=((64:Nat):Int) from rfl,Int.ofNat_fdiv]
theorem and63 (x:Nat) (hx:x<2 ^ 63):bAnd .i64 (x:Int) 63=((x % 64:Nat):Int):=by
 show IntKind.wrap .i64 ((BitVec.ofInt 64 (x:Int)&&& BitVec.ofInt 64 (63:Int)).toNat:Int)=_
 have h2:(BitVec.ofInt 64 (63:Int)).toNat=2 ^ 6-1:=by decide
 rw[BitVec.toNat_and,bvU x (by omega),h2,Nat.and_two_pow_sub_one_eq_mod]
 exact wrap_in (by unfold InI;omega)
theorem shl6 (x:Nat) (hx:x<4):bShl .i64 (x:Int) 6=((64*x:Nat):Int):=by
 show IntKind.wrap .i64 ((x:Int)*2 ^ (min (6:Int).toNat 64))=_
 rw[show(2:Int) ^ (min (6:Int).toNat 64)=64 from rfl]
 have:=wrap_in (x:=(x:Int)*64) (by unfold InI;omega)
 rw[this];omega
theorem struck (w k:Nat) (hw:w<2 ^ 64) (hk:k<64):∃v:Nat,bShl .u64 (bShr .u64 (w:Int) (k:Int)) (k:Int)=(v:Int)/\v<2 ^ 64/\∀j,j<64->v.testBit j=(decide (k<=j)&&w.testBit j):=by
 refine⟨w / 2 ^ k*2 ^ k,?_,?_,λj hj=>?_⟩
 ·rw[shrW w k hk]
  show IntKind.wrap .u64 (((w / 2 ^ k:Nat):Int)*2 ^ (min (k:Int).toNat 64))=_
  have:min (k:Int).toNat 64=k:=by omega
  rw[this]
  have h2:=wrapU (w / 2 ^ k*2 ^ k) (Nat.lt_of_le_of_lt (Nat.div_mul_le_self _ _) hw)
  rw[<-h2,Int.natCast_mul,Int.natCast_pow];rfl
 ·exact Nat.lt_of_le_of_lt (Nat.div_mul_le_self _ _) hw
 ·rw[Nat.mul_comm,Nat.testBit_two_pow_mul,Nat.testBit_div_two_pow]
  by_cases h:k<=j
  ·simp[h,show j-k+k=j by omega]
  ·simp[h]
theorem first_is {s:X_api_Set} (hs:wfS s) {m:Int} (hm:m<=9223372036854775807) {M:Mem} (hT:TabM M 0 dTab) (K:Value->Prop) (hK:∀z,FirstAt (bitS s) m z->K (.int .i64 z)):S_set_First s m M K:=by
 unfold S_set_First
 obtain⟨f,hf⟩:∃f:Nat,(if m>0 then m else 0)=(f:Int):=⟨(if m>0 then m else 0).toNat,by split<;>omega⟩
 have hfm:∀b:Nat,m<=b↔f<=b:=λb=>by split at hf<;>omega
 have hf63:f<2 ^ 63:=by split at hf<;>omega
 simp only[hf,shr6,and63 f hf63]
 have hKn:(∀b:Nat,f<=b->b<256->bitS s b=false)->K (.int .i64 (-1)):=λh=>hK _ (.inl ⟨rfl,λb h1 h2=>h b ((hfm b).1 h1) h2⟩)
 have hKs:∀b:Nat,b<256->f<=b->bitS s b=true->(∀c:Nat,f<=c->c<b->bitS s c=false)->K (.int .i64 (b:Int)):=λb h1 h2 h3 h4=>
  hK _ (.inr ⟨b,rfl,h1,(hfm b).2 h2,h3,λc g1 g2=>h4 c ((hfm c).1 g1) g2⟩)
 clear hK hfm hf hm
 refine⟨λi=>∃q:Nat,i=q/\f / 64<=q/\∀b:Nat,f<=b->b<64*q->b<256->bitS s b=false,λi=>(4-i).toNat,⟨f / 64,rfl,Nat.le_refl _,λb h1 h2 _=>by omega⟩,λi ⟨q,hi,hq,hno⟩=>?_⟩
 subst hi
 refine⟨λh=>?_,λh=>hKn λb h1 h2=>hno b h1 (by omega) h2⟩
 obtain⟨w,hw,hw2,_⟩:=bit_get hs (x:=64*q) (by omega)
 rw[show 64*q / 64=q by omega]at hw
 have hb:∀k,k<64->w.testBit k=bitS s (64*q+k):=λk hk=>by
  obtain⟨w',hw',_,hb'⟩:=bit_get hs (x:=64*q+k) (by omega)
  rw[show(64*q+k) / 64=q by omega,hw]at hw'
  rw[show(64*q+k) % 64=k by omega]at hb'
  simp only[Option.some.injEq]at hw'
  have:w=w':=by omega
  rw[this];exact hb'
 have key:∀v:Nat,v<2 ^ 64->(∀j,j<64->v.testBit j=(decide (f<=64*q+j)&&bitS s (64*q+j)))->
   S_set_First_J1 M (q:Int) (λi=>∃q:Nat,i=q/\f / 64<=q/\∀b:Nat,f<=b->b<64*q->b<256->bitS s b=false) (λi=>(4-i).toNat) (v:Int) K:=λv hv hbit=>by
  unfold S_set_First_J1
  refine⟨λhne=>?_,λheq=>⟨by unfold InI;omega,⟨q+1,by omega,by omega,λb h1 h2 h3=>?_⟩,by dsimp only;omega⟩⟩
  ·refine s_math_bits_TrailingZeros64 _ _ _ (tz_is (by omega) hv hT _ λk hk h1 h2=>⟨_,rfl,?_⟩)
   have h3:=hbit k hk
   rw[h1]at h3
   simp only[Bool.true_eq,Bool.and_eq_true,decide_eq_true_eq]at h3
   rw[shl6 q (by omega),<-Int.natCast_add]
   refine⟨by unfold InI;omega,hKs _ (by omega) h3.1 h3.2 λc g1 g2=>?_⟩
   by_cases hc:c<64*q
   ·exact hno c g1 hc (by omega)
   ·have h4:=hbit (c-64*q) (by omega)
    rw[h2 _ (by omega),show 64*q+(c-64*q)=c by omega]at h4
    simpa[g1]using h4
  ·by_cases hc:b<64*q
   ·exact hno b h1 hc h3
   ·have h4:=hbit (b-64*q) (by omega)
    have hv0:v=0:=by
     have:=Classical.not_not.1 heq
     omega
    rw[hv0,Nat.zero_testBit,show 64*q+(b-64*q)=b by omega]at h4
    simpa[h1]using h4
 refine⟨by omega,by omega,(w:Int),by rw[show 0+(q:Int).toNat*1=q by omega];exact hw,λhe=>?_,λhne=>?_⟩
 ·obtain⟨v,e,hv,hbit⟩:=struck w (f % 64) hw2 (by omega)
  refine⟨by omega,by omega,?_⟩
  rw[e]
  refine key v hv λj hj=>?_
  rw[hbit j hj,hb j hj]
  congr 1
  rw[decide_eq_decide];omega
 ·refine key w hw2 λj hj=>?_
  rw[hb j hj,show decide (f<=64*q+j)=true by simp;omega];rfl
theorem wrap8 (b:Nat) (h:b<256):IntKind.wrap .u8 (b:Int)=((b.toUInt8.toNat:Nat):Int):=by
 have e:b.toUInt8.toNat=b:=by simp[Nat.toUInt8];omega
 rw[e]
 simp only[IntKind.wrap,IntKind.bits,IntKind.signed,Bool.false_and,Bool.false_eq_true,if_false]
 omega
end Go.Proofs.YtjecddabdlapbaaDoor.core

namespace Go.Proofs.YtjecddabdlapbaaDoor.core
open Go.Gx Go.RowKit Go.ChangeShapes Go.WideShapes Go.ChangeAt
set_option linter.unusedVariables false
abbrev clSg:List UInt8:=[91,93,45,94,92]
def shC (b:Nat):List UInt8:=shownP clSg 33 b.toUInt8
theorem shC_len (b:Nat):(shC b).length<=4:=shownP_len _ _ _
def runT (b e:Nat):List UInt8:=shC b++if e=b then[] else if e=b+1 then shC e else[45]++shC e
theorem runT_len (b e:Nat):(runT b e).length<=9:=by
 have h1:=shC_len b
 have h2:=shC_len e
 unfold runT
 rw[List.length_append]
 split
 ·simp;omega
 ·split
  ·omega
  ·simp;omega
def endOf (p:Nat->Bool):Nat->Nat->Nat
 |0,b=>b
 |f+1,b=>if b<255/\p (b+1)=true then endOf p f (b+1) else b
theorem endOf_is {p:Nat->Bool} {e:Nat} (he:e=255\/p (e+1)=false):∀(f b:Nat),b<=e->e<=255->(∀x,b<x->x<=e->p x=true)->e-b<=f->endOf p f b=e
 |0,b,h1,_,_,h3=>by unfold endOf;omega
 |f+1,b,h1,h2,h4,h3=>by
  unfold endOf
  by_cases hb:b=e
  ·subst hb
   rw[if_neg]
   intro h
   rcases he with he|he
   ·omega
   ·rw[he]at h;cases h.2
  ·rw[if_pos ⟨by omega,h4 _ (by omega) (by omega)⟩]
   exact endOf_is he f (b+1) (by omega) h2 (λx h5 h6=>h4 x (by omega) h6) (by omega)
def clsT (p:Nat->Bool):Nat->List UInt8
 |0=>[]
 |n+1=>clsT p n++if p n=true/\(n=0\/p (n-1)=false) then runT n (endOf p 255 n) else[]
theorem clsT_len (p:Nat->Bool):∀n,(clsT p n).length<=9*n
 |0=>by simp[clsT]
 |n+1=>by
  have h1:=clsT_len p n
  have h2:=runT_len n (endOf p 255 n)
  rw[clsT,List.length_append]
  split
  ·omega
  ·simp;omega
theorem clsT_skip {p:Nat->Bool} {n:Nat}:∀{m:Nat},n<=m->(∀b,n<=b->b<m->p b=false\/(0<b/\p (b-1)=true))->clsT p m=clsT p n
 |0,h,_=>by rw[Nat.le_zero.1 h]
 |m+1,h,hp=>by
  rcases Nat.lt_or_ge n (m+1)with h'|h'
  ·rw[clsT,clsT_skip (n:=n) (by omega) λb h1 h2=>hp b h1 (by omega),if_neg]
   ·simp
   ·intro ⟨h1,h2⟩
    rcases hp m (by omega) (by omega)with h3|⟨h3,h4⟩
    ·rw[h3]at h1;cases h1
    ·rcases h2 with h2|h2
     ·omega
     ·rw[h4]at h2;cases h2
  ·rw[show m+1=n by omega]
theorem toU8 (b:Nat) (h:b<256):(b.toUInt8.toNat:Int)=(b:Int):=by simp[Nat.toUInt8];omega
theorem qclass_is {s:X_api_Set} (hs:wfS s) {M:Mem} (hT:TabM M 0 dTab) (K:Value->Prop) (hK:K (.string (mkS ([91]++clsT (bitS s) 256++[93])))):S_quote_Class s M K:=by
 unfold S_quote_Class
 refine s_set_First _ _ _ _ (first_is hs (by decide) hT _ λz hz=>⟨z,rfl,λout b=>∃m:Nat,m<=256/\FirstAt (bitS s) m b/\(m=0\/m=256\/bitS s m=false)/\out=[91]++clsT (bitS s) m,λ_ b=>if 0<=b then(256-b).toNat else 0,⟨0,by decide,hz,.inl rfl,rfl⟩,λout b ⟨m,hm,hb,hm2,ho⟩=>?_⟩)
 subst ho
 refine⟨λh0=>?_,λh0=>?_⟩
 ·obtain⟨c,rfl⟩:=Int.eq_ofNat_of_zero_le h0
  have hc:m<=c/\c<256/\bitS s c=true/\∀d:Nat,m<=d->d<c->bitS s d=false:=by
   rcases hb with⟨h,_⟩|⟨c',hc',h1,h2,h3,h4⟩
   ·omega
   ·obtain rfl:c=c':=by omega
    exact⟨by omega,h1,h3,λd g1 g2=>h4 d (by omega) g2⟩
  obtain⟨h1,h2,h3,h4⟩:=hc
  have hst:clsT (bitS s) (c+1)=clsT (bitS s) m++runT c (endOf (bitS s) 255 c):=by
   rw[clsT,clsT_skip (n:=m) h1 λd g1 g2=>.inl (h4 d g1 g2),if_pos]
   refine⟨h3,?_⟩
   by_cases hc0:c=0
   ·exact .inl hc0
   ·refine .inr ?_
    by_cases hcm:m=c
    ·subst hcm
     rcases hm2 with h|h|h
     ·omega
     ·omega
     ·rw[h]at h3;cases h3
    ·exact h4 (c-1) (by omega) (by omega)
  have hlen:=clsT_len (bitS s) m
  refine⟨λe=>∃k:Nat,e=k/\c<=k/\k<=255/\∀x,c<x->x<=k->bitS s x=true,λe=>(256-e).toNat,⟨c,rfl,Nat.le_refl _,by omega,λx h5 h6=>by omega⟩,λe ⟨k,he,hk1,hk2,hk3⟩=>?_⟩
  subst he
  have stop:(k=255\/bitS s (k+1)=false)->S_quote_Class_J1 s M ([91]++clsT (bitS s) m) (c:Int) (λout b=>∃m:Nat,m<=256/\FirstAt (bitS s) m b/\(m=0\/m=256\/bitS s m=false)/\out=[91]++clsT (bitS s) m) (λ_ b=>if 0<=b then(256-b).toNat else 0) (k:Int) (λe=>∃k:Nat,e=k/\c<=k/\k<=255/\∀x,c<x->x<=k->bitS s x=true) (λe=>(256-e).toNat) false K:=λhstop=>by
   have hend:endOf (bitS s) 255 c=k:=endOf_is hstop 255 c hk1 hk2 hk3 (by omega)
   rw[hend]at hst
   have hnext:∀out2,out2=[91]++clsT (bitS s) m++runT c k->S_quote_Class_J2 s M ([91]++clsT (bitS s) m) (c:Int) (λout b=>∃m:Nat,m<=256/\FirstAt (bitS s) m b/\(m=0\/m=256\/bitS s m=false)/\out=[91]++clsT (bitS s) m) (λ_ b=>if 0<=b then(256-b).toNat else 0) out2 (k:Int) K:=λout2 ho=>by
    unfold S_quote_Class_J2
    refine⟨by unfold InI;omega,s_set_First _ _ _ _ (first_is hs (by omega) hT _ λz hz=>⟨z,rfl,⟨k+1,by omega,hz,?_,?_⟩,?_⟩)⟩
    ·rcases hstop with h|h
     ·exact .inr (.inl (by omega))
     ·exact .inr (.inr h)
    ·rw[ho,List.append_assoc,<-hst]
     congr 1
     symm
     refine clsT_skip (by omega) λx g1 g2=>.inr ⟨by omega,?_⟩
     by_cases hx:x-1=c
     ·rw[hx];exact h3
     ·exact hk3 _ (by omega) (by omega)
    ·dsimp only
     rcases hz with⟨rfl,_⟩|⟨d,rfl,hd,hd2,_⟩
     ·rw[if_neg (by omega),if_pos (by omega)];omega
     ·rw[if_pos (by omega),if_pos (by omega)];omega
   have l1:=shC_len c
   have l2:=shC_len k
   unfold S_quote_Class_J1
   refine⟨λh=>by simp at h,λ_=>?_⟩
   rw[wrap8 c h2,wrap8 k (by omega)]
   refine s_quote_one _ _ _ _ (qone_is c.toUInt8 clSg _ _ 33 rfl ⟨_,rfl,?_,by unfold InI;omega,λg=>?_,λg=>⟨λg2=>?_,λg2=>?_⟩⟩)
   ·show _+(shC c).length<=_
    simp;omega
   ·refine s_quote_one _ _ _ _ (qone_is k.toUInt8 clSg _ _ 33 rfl ⟨_,rfl,?_,hnext _ ?_⟩)
    ·show(_++shC c).length+(shC k).length<=_
     simp;omega
    ·unfold runT
     rw[if_neg (by omega),if_pos (by omega),<-List.append_assoc];rfl
   ·refine s_quote_one _ _ _ _ (qone_is k.toUInt8 clSg _ _ 33 rfl ⟨_,rfl,?_,?_,hnext _ ?_⟩)
    ·show _+(shC k).length<=_
     simp;omega
    ·show(_++shC c).length+(_++shC k).length<=_
     simp;omega
    ·unfold runT
     rw[if_neg (by omega),if_neg (by omega)]
     simp only[List.append_assoc];rfl
   ·refine hnext _ ?_
    unfold runT
    rw[if_pos (by omega),List.append_nil];rfl
  refine⟨λhlt=>⟨by unfold InI;omega,?_⟩,λhge=>stop (.inl (by omega))⟩
  rw[show(k:Int)+1=((k+1:Nat):Int) by omega,wrap8 (k+1) (by omega)]
  refine s_set_Has _ _ _ _ (has_is hs (k+1).toUInt8 _ ⟨_,rfl,?_⟩)
  have e:(k+1).toUInt8.toNat=k+1:=by have:=toU8 (k+1) (by omega);omega
  rw[e]
  cases hb:bitS s (k+1)with
  |false=>exact stop (.inr hb)
  |true=>
   unfold S_quote_Class_J1
   refine⟨λ_=>⟨by unfold InI;omega,⟨k+1,by omega,by omega,by omega,λx g1 g2=>?_⟩,by dsimp only;omega⟩,λh=>absurd rfl h⟩
   by_cases hx:x=k+1
   ·rw[hx];exact hb
   ·exact hk3 x g1 (by omega)
 ·have hb2:b= -1/\clsT (bitS s) 256=clsT (bitS s) m:=by
   rcases hb with⟨h,h1⟩|⟨c,hc,_⟩
   ·exact⟨h,clsT_skip hm λx g1 g2=>.inl (h1 x (by omega) g2)⟩
   ·omega
  have hlen:=clsT_len (bitS s) m
  rw[<-hb2.2]
  refine⟨by rw[hb2.2];simp;omega,hK⟩
theorem one_is {b:Nat} (hb:b<256) {M:Mem} (K:Value->Prop) (hK:K (.string (mkS (shC b)))):S_chaffref_Class_1 (b:Int) M K:=by
 unfold S_chaffref_Class_1
 rw[<-toU8 b hb]
 exact s_chaffref_shown _ _ _ _ _ (shown_is b.toUInt8 clSg 33 _ _ ⟨_,rfl,hK⟩)
theorem rclass_is {s:X_api_Set} (hs:wfS s) {M:Mem} (K:Value->Prop) (hK:K (.string (mkS ([91]++clsT (bitS s) 256++[93])))):S_chaffref_Class s M K:=by
 unfold S_chaffref_Class
 refine⟨λout x=>∃n:Nat,x=n/\n<=256/\out=clsT (bitS s) n,λ_ x=>(256-x).toNat,⟨0,rfl,by decide,rfl⟩,λout x ⟨n,hx,hn,ho⟩=>?_⟩
 subst hx;subst ho
 have hlen:=clsT_len (bitS s) n
 refine⟨λhlt=>?_,λhge=>?_⟩
 ·have hn':n<256:=by omega
  have next:∀out2,out2=clsT (bitS s) (n+1)->S_chaffref_Class_J4 (clsT (bitS s) n) (n:Int) (λout x=>∃n:Nat,x=n/\n<=256/\out=clsT (bitS s) n) (λ_ x=>(256-x).toNat) out2 K:=λout2 ho=>by
   unfold S_chaffref_Class_J4
   exact⟨by unfold InI;omega,⟨n+1,by omega,by omega,ho⟩,by dsimp only;omega⟩
  have none:(bitS s n=false\/(0<n/\bitS s (n-1)=true))->S_chaffref_Class_J1 s M (clsT (bitS s) n) (n:Int) (λout x=>∃n:Nat,x=n/\n<=256/\out=clsT (bitS s) n) (λ_ x=>(256-x).toNat) true K:=λh=>by
   unfold S_chaffref_Class_J1
   refine⟨λ_=>next _ ?_,λh=>absurd rfl h⟩
   exact(clsT_skip (Nat.le_succ n) λb g1 g2=>by rw[show b=n by omega];exact h).symm
  have some:bitS s n=true->(n=0\/bitS s (n-1)=false)->S_chaffref_Class_J1 s M (clsT (bitS s) n) (n:Int) (λout x=>∃n:Nat,x=n/\n<=256/\out=clsT (bitS s) n) (λ_ x=>(256-x).toNat) false K:=λh1 h2=>by
   have hst:clsT (bitS s) (n+1)=clsT (bitS s) n++runT n (endOf (bitS s) 255 n):=by rw[clsT,if_pos ⟨h1,h2⟩]
   unfold S_chaffref_Class_J1
   refine⟨λh=>by simp at h,λ_=>⟨λj=>∃k:Nat,j=k/\1<=k/\n+k<=256/\∀x,n<x->x<n+k->bitS s x=true,λj=>(257-j).toNat,⟨1,rfl,Nat.le_refl _,by omega,λx g1 g2=>by omega⟩,λj ⟨k,hj,hk1,hk2,hk3⟩=>?_⟩⟩
   subst hj
   have stop:(n+k=256\/bitS s (n+k)=false)->S_chaffref_Class_J2 M (clsT (bitS s) n) (n:Int) (λout x=>∃n:Nat,x=n/\n<=256/\out=clsT (bitS s) n) (λ_ x=>(256-x).toNat) (k:Int) (λj=>∃k:Nat,j=k/\1<=k/\n+k<=256/\∀x,n<x->x<n+k->bitS s x=true) (λj=>(257-j).toNat) false K:=λhstop=>by
    have hend:endOf (bitS s) 255 n=n+k-1:=endOf_is (by
     rcases hstop with h|h
     ·exact .inl (by omega)
     ·right;rw[show n+k-1+1=n+k by omega];exact h) 255 n (by omega) (by omega) (λx g1 g2=>hk3 x g1 (by omega)) (by omega)
    rw[hend]at hst
    have l1:=shC_len n
    have l2:=shC_len (n+k-1)
    unfold S_chaffref_Class_J2
    refine⟨λh=>by simp at h,λ_=>?_⟩
    refine s_chaffref_Class_1 _ _ _ (one_is hn' _ ⟨_,rfl,by omega,λg=>⟨by simp;omega,?_⟩,λg=>?_⟩)
    ·unfold S_chaffref_Class_J3
     refine⟨λ_=>⟨by unfold InI;omega,by unfold InI;omega,?_⟩,λh=>by omega⟩
     rw[show(n:Int)+(k:Int)-1=((n+k-1:Nat):Int) by omega]
     refine s_chaffref_Class_1 _ _ _ (one_is (by omega) _ ⟨_,rfl,by simp;omega,next _ ?_⟩)
     rw[hst]
     unfold runT
     rw[if_neg (by omega),if_neg (by omega)]
     simp only[List.append_assoc]
    ·unfold S_chaffref_Class_J3
     refine⟨λg2=>⟨by unfold InI;omega,by unfold InI;omega,?_⟩,λg2=>next _ ?_⟩
     ·rw[show(n:Int)+(k:Int)-1=((n+k-1:Nat):Int) by omega]
      refine s_chaffref_Class_1 _ _ _ (one_is (by omega) _ ⟨_,rfl,by simp;omega,next _ ?_⟩)
      rw[hst]
      unfold runT
      rw[if_neg (by omega),if_pos (by omega),List.append_assoc]
     ·rw[hst]
      unfold runT
      rw[if_pos (by omega),List.append_nil]
   refine⟨by unfold InI;omega,λg=>⟨by unfold InI;omega,?_⟩,λg=>stop (.inl (by omega))⟩
   rw[show(n:Int)+(k:Int)=((n+k:Nat):Int) by omega]
   refine s_chaffref_Has _ _ _ _ (rhas_is hs (by omega) _ ⟨_,rfl,?_⟩)
   cases hb:bitS s (n+k)with
   |false=>exact stop (.inr hb)
   |true=>
    unfold S_chaffref_Class_J2
    refine⟨λ_=>⟨by unfold InI;omega,⟨k+1,by omega,by omega,by omega,λx g1 g2=>?_⟩,by dsimp only;omega⟩,λh=>absurd rfl h⟩
    by_cases hx:x=n+k
    ·rw[hx];exact hb
    ·exact hk3 x g1 (by omega)
  refine s_chaffref_Has _ _ _ _ (rhas_is hs hn' _ ⟨_,rfl,λhb=>none (.inl (by simpa using hb)),λhb=>?_⟩)
  have hb':bitS s n=true:=Classical.not_not.1 hb
  refine⟨λh0=>⟨by unfold InI;omega,?_⟩,λh0=>some hb' (.inl (by omega))⟩
  rw[show(n:Int)-1=((n-1:Nat):Int) by omega]
  refine s_chaffref_Has _ _ _ _ (rhas_is hs (by omega) _ ⟨_,rfl,?_⟩)
  cases hb2:bitS s (n-1)with
  |true=>exact none (.inr ⟨by omega,hb2⟩)
  |false=>exact some hb' (.inr hb2)
 ·obtain rfl:n=256:=by omega
  exact⟨by simp;omega,by simp;omega,hK⟩
theorem not_is {s:X_api_Set} (hs:wfS s) {M:Mem} (K:Value->Prop) (hK:K (Us λb=> !bitS s b).val):S_set_Not s M K:=by
 unfold S_set_Not
 refine s_set_both _ _ _ _ _ ?_
 obtain⟨a,b,c,d⟩:=s
 obtain⟨h0,h1,h2,h3⟩:=hs
 obtain⟨a,rfl,ha⟩:=nat_of h0
 obtain⟨b,rfl,hb⟩:=nat_of h1
 obtain⟨c,rfl,hc⟩:=nat_of h2
 obtain⟨d,rfl,hd⟩:=nat_of h3
 have hx64:∀x,x<2 ^ 64->(2 ^ 64-1) ^^^ x<2 ^ 64:=λx hx=>Nat.xor_lt_two_pow (by decide) hx
 have hw:∀(w x:Nat),[a,b,c,d].getD w 0=x->x<2 ^ 64->((2 ^ 64-1) ^^^ x)=Uw (λq=> !bitS ⟨a,b,c,d⟩ q) w 64:=by
  intro w x hx hxl
  refine word_is _ w (hx64 x hxl) λk hk=>?_
  rw[Nat.testBit_xor,Nat.testBit_two_pow_sub_one,<-hx,<-hasW_at [a,b,c,d] w k hk]
  simp only[hk,decide_true,Bool.true_xor];rfl
 have hfin:(⟨(((2 ^ 64-1) ^^^ a:Nat):Int),(((2 ^ 64-1) ^^^ b:Nat):Int),(((2 ^ 64-1) ^^^ c:Nat):Int),(((2 ^ 64-1) ^^^ d:Nat):Int)⟩:X_api_Set)=Us λq=> !bitS ⟨a,b,c,d⟩ q:=by
  unfold Us
  rw[hw 0 a rfl ha,hw 1 b rfl hb,hw 2 c rfl hc,hw 3 d rfl hd]
 rw[<-hfin]at hK
 have call:∀(x y:Nat) (K:Value->Prop),x<2 ^ 64->K (.int .u64 (((2 ^ 64-1) ^^^ x:Nat):Int))->CallF Tryd.prog (Value.func (.func 102) #[] #[]) [.int .u64 (x:Int),.int .u64 (y:Int)] M (λv _=>K v):=λx y K hx hK=>
  f_set_Not_1 _ _ _ _ (by unfold S_set_Not_1;rw[bNotU x hx];exact hK)
 unfold S_set_both
 generalize e0:(2 ^ 64-1) ^^^ a=a' at*
 generalize e1:(2 ^ 64-1) ^^^ b=b' at*
 generalize e2:(2 ^ 64-1) ^^^ c=c' at*
 generalize e3:(2 ^ 64-1) ^^^ d=d' at*
 refine⟨λi zs=>(i=0/\zs=[(a:Int),b,c,d])\/(i=1/\zs=[(a':Int),b,c,d])\/(i=2/\zs=[(a':Int),(b':Int),c,d])\/(i=3/\zs=[(a':Int),(b':Int),(c':Int),d])\/(i=4/\zs=[(a':Int),(b':Int),(c':Int),(d':Int)]),λi _=>4-i.toNat,.inl ⟨rfl,rfl⟩,λi zs hI=>?_⟩
 rcases hI with⟨rfl,rfl⟩|⟨rfl,rfl⟩|⟨rfl,rfl⟩|⟨rfl,rfl⟩|⟨rfl,rfl⟩
 ·exact⟨λ_=>⟨by omega,by omega,_,rfl,by omega,by omega,_,rfl,call _ _ _ ha (by rw[e0];exact⟨_,rfl,by omega,by omega,by simp,by unfold InI;omega,.inr (.inl ⟨rfl,rfl⟩),by dsimp only;decide⟩)⟩,λh=>absurd h (by decide)⟩
 ·exact⟨λ_=>⟨by omega,by omega,_,rfl,by omega,by omega,_,rfl,call _ _ _ hb (by rw[e1];exact⟨_,rfl,by omega,by omega,by simp,by unfold InI;omega,.inr (.inr (.inl ⟨rfl,rfl⟩)),by dsimp only;decide⟩)⟩,λh=>absurd h (by decide)⟩
 ·exact⟨λ_=>⟨by omega,by omega,_,rfl,by omega,by omega,_,rfl,call _ _ _ hc (by rw[e2];exact⟨_,rfl,by omega,by omega,by simp,by unfold InI;omega,.inr (.inr (.inr (.inl ⟨rfl,rfl⟩))),by dsimp only;decide⟩)⟩,λh=>absurd h (by decide)⟩
 ·exact⟨λ_=>⟨by omega,by omega,_,rfl,by omega,by omega,_,rfl,call _ _ _ hd (by rw[e3];exact⟨_,rfl,by omega,by omega,by simp,by unfold InI;omega,.inr (.inr (.inr (.inr ⟨rfl,rfl⟩))),by dsimp only;decide⟩)⟩,λh=>absurd h (by decide)⟩
 ·exact⟨λh=>absurd h (by decide),λ_=>⟨_,_,_,_,rfl,rfl,_,_,_,_,rfl,_,rfl,hK⟩⟩
end Go.Proofs.YtjecddabdlapbaaDoor.core

namespace Go.Proofs.YtjecddabdlapbaaDoor.core
open Go.Gx Go.RowKit Go.ChangeShapes Go.WideShapes Go.ChangeAt
set_option linter.unusedVariables false
def dash (r:List UInt8) (k:Nat):Bool:=decide (r[k]?=some 45)&&match r[k+1]? with
 |some c=>decide (c≠93)
 |none=>false
theorem dash_is {s:List UInt8} {j n:Nat} {d e:UInt8} (hd:s[j+n]?=some d) (he:s[j+n+1]?=some e):dash (s.drop j) n=(decide (d.toNat=45)&&decide (e.toNat≠93)):=by
 unfold dash
 rw[List.getElem?_drop,List.getElem?_drop,<-Nat.add_assoc,hd,he]
 have h1:(some d=some (45:UInt8))↔d.toNat=45:=⟨λh=>by cases h;rfl,λh=>by rw[UInt8.toNat_inj.1 (show d.toNat=(45:UInt8).toNat from h)]⟩
 have h2:(e≠(93:UInt8))↔e.toNat≠93:=⟨λh g=>h (UInt8.toNat_inj.1 (show e.toNat=(93:UInt8).toNat from g)),λh g=>h (by rw[g];rfl)⟩
 rw[decide_eq_decide.2 h1]
 show(_&&decide (e≠93))=_
 rw[decide_eq_decide.2 h2]
theorem dash_no {s:List UInt8} {j n:Nat} (h:s.length<=j+n+1):dash (s.drop j) n=false:=by
 unfold dash
 rw[List.getElem?_drop,List.getElem?_drop,List.getElem?_eq_none (i:=j+(n+1)) (by omega)];simp
def spanP (r:List UInt8):Option (Int×Int×Int):=
 if (saidP clSg r).2=0 then none else if dash r (saidP clSg r).2.toNat=true then
  (if (saidP clSg (r.drop ((saidP clSg r).2.toNat+1))).2=0\/(saidP clSg (r.drop ((saidP clSg r).2.toNat+1))).1<(saidP clSg r).1 then none
   else some ((saidP clSg r).1,(saidP clSg (r.drop ((saidP clSg r).2.toNat+1))).1,(saidP clSg r).2+(1+(saidP clSg (r.drop ((saidP clSg r).2.toNat+1))).2)))
 else some ((saidP clSg r).1,(saidP clSg r).1,(saidP clSg r).2)
def spansG (s:List UInt8) (i:Nat) (acc:List (Int×Int)):Option (List (Int×Int)×Nat):=
 if h:i<s.length then if s[i]=93 then some (acc,i+1) else match spanP (s.drop i)with
  |none=>none
  |some (l,h,n)=>spansG s (i+(n.toNat-1)+1) (acc++[(l,h)])
 else none
termination_by s.length-i
decreasing_by omega
theorem spansG_out {s:List UInt8} {i:Nat} {acc:List (Int×Int)} (h:¬i<s.length):spansG s i acc=none:=by rw[spansG,dif_neg h]
theorem spansG_end {s:List UInt8} {i:Nat} {acc:List (Int×Int)} {c:UInt8} (h:s[i]?=some c) (hc:c.toNat=93):spansG s i acc=some (acc,i+1):=by
 obtain⟨hi,rfl⟩:=List.getElem?_eq_some_iff.1 h
 rw[spansG,dif_pos hi,if_pos (UInt8.toNat_inj.1 hc)]
theorem spansG_in {s:List UInt8} {i:Nat} {acc:List (Int×Int)} {c:UInt8} (h:s[i]?=some c) (hc:c.toNat≠93):spansG s i acc=match spanP (s.drop i)with
  |none=>none
  |some (l,h,n)=>spansG s (i+(n.toNat-1)+1) (acc++[(l,h)]):=by
 obtain⟨hi,rfl⟩:=List.getElem?_eq_some_iff.1 h
 rw[spansG,dif_pos hi,if_neg (λe=>hc (by rw[e];rfl))]
def inS (acc:List (Int×Int)) (b:Nat):Bool:=acc.any λp=>decide (p.1<=b/\(b:Int)<=p.2)
def unclR (not:Bool):Option (List (Int×Int)×Nat)->X_api_Set×Int×Int
 |none=>(⟨0,0,0,0⟩,0,4)
 |some (acc,e)=>(Us λb=>inS acc b != not,(e:Int),0)
def unclP (s:List UInt8):X_api_Set×Int×Int:=
 if s[0]?=some 91 then if s[1]?=some 94 then unclR true (spansG s 2 []) else unclR false (spansG s 1 []) else(⟨0,0,0,0⟩,0,4)
def outS (r:X_api_Set×Int×Int):Value:=.tuple #[r.1.val,.int .i64 r.2.1,.int .i64 r.2.2]
theorem Us_none {p:Nat->Bool} (hp:∀x,x<256->p x=false):Us p=⟨0,0,0,0⟩:=by
 have key:∀w,w<4->Uw p w 64=0:=λw hw=>by
  have h1:Uw p w 64=Uw (λ_=>false) w 64:=Uw_congr λk hk=>hp _ (by omega)
  have h2:∀j,Uw (λ_=>false) w j=0:=by
   intro j
   induction j with
   |zero=>rfl
   |succ j ih=>rw[Uw,ih];simp
  rw[h1,h2]
 unfold Us
 rw[key 0 (by omega),key 1 (by omega),key 2 (by omega),key 3 (by omega)];rfl
theorem take_all (s:List UInt8):s.take ((s.length:Nat):Int).toNat=s:=by rw[Int.toNat_natCast,List.take_length]
theorem byte_val {s:List UInt8} {i:Nat} {c d:UInt8} (h:s[i]?=some c) (hd:c.toNat=d.toNat):s[i]?=some d:=by rw[h,UInt8.toNat_inj.1 hd]
theorem quncl_loop {s:List UInt8} (hs:s.length<=1048576) {i0:Nat} (hi0:i0<=s.length) (not:Bool) {M:Mem} (K:Value->Prop) (hK:K (outS (unclR not (spansG s i0 [])))):S_quote_Unclass_J3 s M (i0:Int) not K:=by
 unfold S_quote_Unclass_J3
 refine⟨λi c0 c1 c2 c3=>∃(j:Nat) (acc:List (Int×Int)),i=j/\j<=s.length/\(⟨c0,c1,c2,c3⟩:X_api_Set)=Us (inS acc)/\spansG s j acc=spansG s i0 [],λi _ _ _ _=>(s.length-i).toNat,⟨i0,[],rfl,hi0,(Us_none λx _=>rfl).symm,rfl⟩,λi c0 c1 c2 c3 ⟨j,acc,hi,hj,hU,hrun⟩=>?_⟩
 subst hi
 have bad:spansG s i0 []=none->S_quote_Unclass_J8 K:=λh=>by
  unfold S_quote_Unclass_J8
  rw[h]at hK;exact hK
 refine⟨λhlt=>?_,λhge=>bad (by rw[<-hrun,spansG_out (by omega)])⟩
 obtain⟨c,hc⟩:=getN (l:=s) (i:=j) (by omega)
 refine⟨c,by omega,by simpa using hc,λh93=>?_,λh93=>?_⟩
 ·rw[spansG_end hc (by omega)]at hrun
  rw[<-hrun]at hK
  have fin:∀x:X_api_Set,x=(Us λb=>inS acc b != not)->S_quote_Unclass_J4 (j:Int) x.w0 x.w1 x.w2 x.w3 K:=λx hx=>by
   unfold S_quote_Unclass_J4
   refine⟨by unfold InI;omega,?_⟩
   subst hx
   exact hK
  refine⟨λhn=>?_,λhn=>?_⟩
  ·refine s_set_Not _ _ _ ?_
   rw[hU]
   refine not_is (Us_wf _) _ ⟨_,rfl,fin _ (Us_congr λb hb=>?_)⟩
   rw[bit_Us hb,hn];simp
  ·have:=fin ⟨c0,c1,c2,c3⟩ (by rw[hU];exact Us_congr λb hb=>by simp[hn])
   exact this
 ·rw[spansG_in hc (by omega)]at hrun
  rw[take_all,show(j:Int).toNat=j from rfl]
  have hdr:=drop_get hc
  have hne:s.drop j≠[]:=by rw[hdr];simp
  have hok:=saidP_ok clSg (s.drop j)
  rw[List.length_drop]at hok
  refine⟨by omega,by omega,by omega,s_quote_next _ _ _ _ (qnext_is _ clSg hne (by decide) _ _ ⟨_,_,rfl,λhz=>bad ?_,λhz=>⟨by unfold InI;omega,by unfold InI;omega,?_⟩⟩)⟩
  ·rw[<-hrun,spanP,if_pos hz]
  obtain⟨n,hn⟩:∃n:Nat,(saidP clSg (s.drop j)).2=n:=⟨(saidP clSg (s.drop j)).2.toNat,by omega⟩
  unfold spanP at hrun
  rw[hn]at hok hrun hz ⊢
  rw[if_neg hz]at hrun
  generalize hlow:(saidP clSg (s.drop j)).1=low at*
  have step:∀(k:Nat) (high:Int),high<256->0<=high->j<k->k<=s.length->spansG s k (acc++[(low,high)])=spansG s i0 []->S_quote_Unclass_J7 M (j:Int) c0 c1 c2 c3 (λi c0 c1 c2 c3=>∃(j:Nat) (acc:List (Int×Int)),i=j/\j<=s.length/\(⟨c0,c1,c2,c3⟩:X_api_Set)=Us (inS acc)/\spansG s j acc=spansG s i0 []) (λi _ _ _ _=>(s.length-i).toNat) low (k:Int) high K:=λk high h1 h2 h3 h4 h5=>by
   unfold S_quote_Unclass_J7
   rw[wrap_in (show InI low by unfold InI;omega),wrap_in (show InI high by unfold InI;omega),hU]
   refine s_set_Range _ _ _ _ (range_is _ _ _ ⟨_,rfl,s_set_Join _ _ _ _ (join_is (Us_wf _) (Us_wf _) _ ⟨_,rfl,⟨k,acc++[(low,high)],rfl,h4,Us_congr λb hb=>?_,h5⟩,by dsimp only;omega⟩)⟩)
   rw[bit_Us hb,bit_Us hb]
   simp[inS,inR]
  have plain:dash (s.drop j) n=false->S_quote_Unclass_J5 s M (j:Int) c0 c1 c2 c3 (λi c0 c1 c2 c3=>∃(j:Nat) (acc:List (Int×Int)),i=j/\j<=s.length/\(⟨c0,c1,c2,c3⟩:X_api_Set)=Us (inS acc)/\spansG s j acc=spansG s i0 []) (λi _ _ _ _=>(s.length-i).toNat) low (n:Int) false K:=λh=>by
   unfold S_quote_Unclass_J5
   refine⟨λh=>by simp at h,λ_=>?_⟩
   rw[show(n:Int).toNat=n from rfl,h]at hrun
   simp only[Bool.false_eq_true,if_false]at hrun
   rw[show(j:Int)+(n:Int)=((j+n:Nat):Int) by omega]
   refine step _ _ (by omega) (by omega) (by omega) (by omega) ?_
   rw[<-hrun]
   congr 1
   show j+n=j+((n:Int).toNat-1)+1
   omega
  refine⟨λhl=>?_,λhl=>plain (dash_no (by omega))⟩
  obtain⟨d,hd⟩:=getN (l:=s) (i:=j+n) (by omega)
  obtain⟨e,he⟩:=getN (l:=s) (i:=j+n+1) (by omega)
  have hda:=dash_is hd he
  have t1:((j:Int)+(n:Int)).toNat=j+n:=by omega
  have t2:((j:Int)+(n:Int)+1).toNat=j+n+1:=by omega
  rw[t1,t2]
  refine⟨d,by omega,hd,λh45=>⟨by unfold InI;omega,e,by omega,he,?_⟩,λh45=>plain (by rw[hda];simp;omega)⟩
  by_cases h93:e.toNat=93
  ·rw[show((e.toNat:Int) != (93:Int))=false by simp;omega]
   exact plain (by rw[hda];simp[h93])
  ·rw[show((e.toNat:Int) != (93:Int))=true by simp;omega]
   have hdt:dash (s.drop j) n=true:=by rw[hda];simp[h93];omega
   rw[show(n:Int).toNat=n from rfl,hdt,if_pos rfl,List.drop_drop]at hrun
   have hdr2:=drop_get he
   have hne2:s.drop (j+n+1)≠[]:=by rw[hdr2];simp
   have hok2:=saidP_ok clSg (s.drop (j+n+1))
   rw[List.length_drop]at hok2
   rw[show j+(n+1)=j+n+1 by omega]at hrun
   unfold S_quote_Unclass_J5
   rw[take_all,t2]
   refine⟨λ_=>⟨by unfold InI;omega,by omega,by omega,by omega,s_quote_next _ _ _ _ (qnext_is _ clSg hne2 (by decide) _ _ ⟨_,_,rfl,?_⟩)⟩,λh=>absurd rfl h⟩
   have bad2:(saidP clSg (s.drop (j+n+1))).2=0\/(saidP clSg (s.drop (j+n+1))).1<low->∀x y,S_quote_Unclass_J6 M (j:Int) c0 c1 c2 c3 (λi c0 c1 c2 c3=>∃(j:Nat) (acc:List (Int×Int)),i=j/\j<=s.length/\(⟨c0,c1,c2,c3⟩:X_api_Set)=Us (inS acc)/\spansG s j acc=spansG s i0 []) (λi _ _ _ _=>(s.length-i).toNat) low (n:Int) x y true K:=λh x y=>by
    unfold S_quote_Unclass_J6
    refine⟨λ_=>bad ?_,λh=>absurd rfl h⟩
    rw[<-hrun,if_pos h]
   refine⟨λh0=>bad2 (.inl h0) _ _,λh0=>?_⟩
   by_cases hlt2:(saidP clSg (s.drop (j+n+1))).1<low
   ·rw[show decide ((saidP clSg (s.drop (j+n+1))).1<low)=true by simp[hlt2]];exact bad2 (.inr hlt2) _ _
   rw[show decide ((saidP clSg (s.drop (j+n+1))).1<low)=false by simp;omega]
   rw[if_neg (by omega)]at hrun
   obtain⟨m,hm⟩:∃m:Nat,(saidP clSg (s.drop (j+n+1))).2=m:=⟨(saidP clSg (s.drop (j+n+1))).2.toNat,by omega⟩
   rw[hm]at hrun hok2 h0 ⊢
   unfold S_quote_Unclass_J6
   refine⟨λh=>by simp at h,λ_=>⟨by unfold InI;omega,by unfold InI;omega,?_⟩⟩
   rw[show(j:Int)+(n:Int)+(1+(m:Int))=((j+n+(1+m):Nat):Int) by omega]
   refine step _ _ (by omega) (by omega) (by omega) (by omega) ?_
   rw[<-hrun]
   show _=spansG s (j+(((n:Int)+(1+(m:Int))).toNat-1)+1) _
   congr 1
   omega
theorem beq94 {d:UInt8} (h:((d.toNat:Int)==(94:Int))=true):d.toNat=(94:UInt8).toNat:=by
 have:=beq_iff_eq.1 h
 show d.toNat=94
 omega
theorem quncl_is {s:List UInt8} (hs:s.length<=1048576) {M:Mem} (K:Value->Prop) (hK:K (outS (unclP s))):S_quote_Unclass s M K:=by
 have bad:s[0]?≠some 91->S_quote_Unclass_J1 s M true K:=λh=>by
  unfold S_quote_Unclass_J1
  refine⟨λ_=>?_,λh=>absurd rfl h⟩
  unfold unclP at hK
  rw[if_neg h]at hK;exact hK
 unfold S_quote_Unclass
 refine⟨λh=>bad (by rw[h];simp),λhne=>?_⟩
 obtain⟨c,r,rfl⟩:=List.exists_cons_of_ne_nil hne
 refine⟨c,by omega,rfl,?_⟩
 by_cases h91:c.toNat=91
 ·rw[show((c.toNat:Int) != (91:Int))=false by simp;omega]
  have h0:(c::r)[0]?=some 91:=byte_val rfl h91
  unfold unclP at hK
  rw[if_pos h0]at hK
  unfold S_quote_Unclass_J1
  have two:∀b:Bool,(b=true->(c::r)[1]?=some 94/\2<=(c::r).length)->(b=false->(c::r)[1]?≠some 94)->S_quote_Unclass_J2 (c::r) M b K:=λb h1 h2=>by
   unfold S_quote_Unclass_J2
   refine⟨λh=>?_,λh=>?_⟩
   ·obtain⟨g1,g2⟩:=h1 h
    rw[if_pos g1]at hK
    exact quncl_loop hs g2 true K hK
   ·rw[if_neg (h2 (by simpa using h))]at hK
    exact quncl_loop hs (by simp) false K hK
  refine⟨λh=>by simp at h,λ_=>⟨λhl=>?_,λhl=>two false (λh=>by cases h) λ_ h=>?_⟩⟩
  ·obtain⟨d,hd⟩:=getN (l:=c::r) (i:=1) (by omega)
   refine⟨d,by omega,hd,two _ (λh=>⟨byte_val hd (beq94 h),by omega⟩) λh h2=>?_⟩
   rw[hd]at h2
   cases h2
   simp at h
  ·have:=(List.getElem?_eq_some_iff.1 h).1
   omega
 ·rw[show((c.toNat:Int) != (91:Int))=true by simp;omega]
  refine bad λh=>h91 ?_
  cases h;rfl
end Go.Proofs.YtjecddabdlapbaaDoor.core

namespace Go.Proofs.YtjecddabdlapbaaDoor.core
open Go.Gx Go.RowKit Go.ChangeShapes Go.WideShapes Go.ChangeAt
set_option linter.unusedVariables false
def pC (p:Int×Int):List Value:=[.int .i64 p.1,.int .i64 p.2]
theorem pC2:∀p,(pC p).length=2:=λ_=>rfl
theorem has_span {acc:List (Int×Int)} {M:Mem} {A:Option Addr} {c:Nat} (hsl:SlV M A acc.length c 2 (cl pC acc)) (b:Nat) {b4:Nat} (hb:At M b4 0 [.int .i64 (b:Int)]) {K:Value->Prop} (hK:K (.bool (inS acc b))):S_slices_ContainsFunc_2_int A acc.length c (.func (.func 66) #[] #[.pointer (some ⟨b4,0,none⟩)]) M K:=by
 unfold S_slices_ContainsFunc_2_int
 have hm:=hsl.max
 refine s_slices_IndexFunc_2_int _ _ _ _ _ _ ?_
 unfold S_slices_IndexFunc_2_int
 refine⟨λx=>∃k:Nat,x=k/\k<=acc.length/\∀(i:Nat) p,i<k->acc[i]?=some p->¬(p.1<=b/\(b:Int)<=p.2),λx=>(acc.length-x).toNat,⟨0,rfl,Nat.zero_le _,λi p h=>by omega⟩,λx ⟨k,hx,hk,hno⟩=>?_⟩
 subst hx
 refine⟨λhlt=>?_,λhge=>⟨_,rfl,?_⟩⟩
 ·obtain⟨p,hp⟩:=getN (l:=acc) (i:=k) (by omega)
  obtain⟨b0,o,ha,hat⟩:=hsl.at pC2 rfl hp
  have fin:∀v:Bool,v=decide (p.1<=b/\(b:Int)<=p.2)->(v=true->K (.bool (decide ((k:Int)>=0))))/\(¬v=true->(InI ((k:Int)+1)/\(∃k2:Nat,(k:Int)+1=k2/\k2<=acc.length/\∀(i:Nat) p,i<k2->acc[i]?=some p->¬(p.1<=b/\(b:Int)<=p.2))/\(acc.length-((k:Int)+1)).toNat<(acc.length-(k:Int)).toNat)):=λv hv=>by
   refine⟨λh=>?_,λh=>⟨by unfold InI;omega,⟨k+1,by omega,by omega,λi q g1 g2=>?_⟩,by omega⟩⟩
   ·have:inS acc b=true:=by
     unfold inS
     rw[List.any_eq_true]
     exact⟨p,List.mem_of_getElem? hp,by rw[<-hv];exact h⟩
    rw[this]at hK
    simpa using hK
   ·by_cases hi:i=k
    ·subst hi
     rw[hp]at g2
     cases g2
     intro g
     exact h (by rw[hv];simpa using g)
    ·exact hno i q (by omega) g2
  refine⟨b0,o,ha,by omega,by omega,⟨p.1,p.2⟩,hat,f_chaffref_Unclass_2_1 _ _ _ _ ⟨_,hb,λh1=>⟨_,hb,_,rfl,?_⟩,λh1=>⟨_,rfl,?_⟩⟩⟩
  ·obtain⟨f1,f2⟩:=fin (decide ((b:Int)<=p.2)) (by rw[decide_eq_decide];exact⟨λh=>⟨h1,h⟩,λh=>h.2⟩)
   exact⟨λh=>⟨_,rfl,f1 h⟩,λh=>f2 h⟩
  ·obtain⟨f1,f2⟩:=fin false (by rw[Bool.false_eq,decide_eq_false_iff_not];exact λh=>h1 h.1)
   exact⟨λh=>⟨_,rfl,f1 h⟩,λh=>f2 h⟩
 ·have:inS acc b=false:=by
   unfold inS
   rw[List.any_eq_false]
   intro p hp
   obtain⟨i,hi⟩:=List.mem_iff_getElem?.1 hp
   have:=hno i p (by have:=(List.getElem?_eq_some_iff.1 hi).1;omega) hi
   simpa using this
  rw[this]at hK
  exact hK
theorem runcl_loop {s:List UInt8} (hs:s.length<=1048576) {i0:Nat} (hi0:i0<=s.length) (not:Bool) {M:Mem} (K:Value->Prop) (hK:K (outS (unclR not (spansG s i0 [])))):S_chaffref_Unclass_J3 s M not (i0:Int) K:=by
 unfold S_chaffref_Unclass_J3
 refine⟨λi n rx=>∃(j:Nat) (acc:List (Int×Int)),i=j/\j<=s.length/\n=acc.length/\rx=cl pC acc/\acc.length<=j/\spansG s j acc=spansG s i0 [],λi _ _=>(s.length-i).toNat,⟨i0,[],rfl,hi0,rfl,rfl,Nat.zero_le _,rfl⟩,λi n rx ⟨j,acc,hi,hj,hn,hrx,hal,hrun⟩=>?_⟩
 subst hi;subst hn;subst hrx
 have bad:spansG s i0 []=none->CallE Tryd.prog 62 #[] M (λv _=>∃(x97:X_api_Set) (x98:Int) (x99:Int),v=(Value.tuple #[x97.val,(Value.int .i64 x98),(Value.int .i64 x99)])/\K (Value.tuple #[x97.val,(Value.int .i64 x98),(Value.int .i64 x99)])):=λh=>by
  refine s_chaffref_Unclass_1 _ _ ⟨_,_,_,rfl,?_⟩
  rw[h]at hK;exact hK
 have stop:s.length<=j\/(∃c,s[j]?=some c/\c.toNat=93)->S_chaffref_Unclass_J4 s M not (j:Int) acc.length (cl pC acc) (λi n rx=>∃(j:Nat) (acc:List (Int×Int)),i=j/\j<=s.length/\n=acc.length/\rx=cl pC acc/\acc.length<=j/\spansG s j acc=spansG s i0 []) (λi _ _=>(s.length-i).toNat) false K:=λh=>by
  unfold S_chaffref_Unclass_J4
  refine⟨λh=>by simp at h,λ_=>⟨λhge=>bad (by rw[<-hrun,spansG_out (by omega)]),λhlt=>?_⟩⟩
  obtain⟨c,hc,h93⟩:∃c,s[j]?=some c/\c.toNat=93:=by
   rcases h with h|h
   ·omega
   ·exact h
  rw[spansG_end hc h93]at hrun
  rw[<-hrun]at hK
  intro M2 ad cap _ hsl M3 b13 hle3 hat3 M4 b10 hle4 hat4
  refine s_chaffref_Where _ _ _ (where_is _ _ (λb=>inS acc b != not) (λb hb=>?_) _ ⟨_,rfl,by unfold InI;omega,hK⟩)
  refine f_chaffref_Unclass_2 _ _ _ _ _ ⟨_,_,_,hat3.le hle4,_,hat4,λM5 b4 hle5 hat5=>?_⟩
  refine s_slices_ContainsFunc_2_int _ _ _ _ _ _ (has_span (((hsl.le hle3).le hle4).le hle5) b hat5 ⟨_,rfl,?_⟩)
  rfl
 refine⟨λhlt=>?_,λhge=>stop (.inl (by omega))⟩
 obtain⟨c,hc⟩:=getN (l:=s) (i:=j) (by omega)
 refine⟨c,by omega,by simpa using hc,?_⟩
 by_cases h93:c.toNat=93
 ·rw[show((c.toNat:Int) != (93:Int))=false by simp;omega];exact stop (.inr ⟨c,hc,h93⟩)
 rw[show((c.toNat:Int) != (93:Int))=true by simp;omega]
 rw[spansG_in hc (by omega)]at hrun
 unfold S_chaffref_Unclass_J4
 rw[take_all,show(j:Int).toNat=j from rfl]
 have hok:=saidP_ok clSg (s.drop j)
 rw[List.length_drop]at hok
 refine⟨λ_=>⟨by omega,by omega,by omega,s_chaffref_said _ _ _ _ (said_is _ clSg (by decide) (by decide) _ _ ⟨_,_,rfl,λhz=>bad ?_,λhz=>⟨by unfold InI;omega,by unfold InI;omega,?_⟩⟩)⟩,λh=>absurd rfl h⟩
 ·rw[<-hrun,spanP,if_pos hz]
 obtain⟨n,hn⟩:∃n:Nat,(saidP clSg (s.drop j)).2=n:=⟨(saidP clSg (s.drop j)).2.toNat,by omega⟩
 unfold spanP at hrun
 rw[hn]at hok hrun hz ⊢
 rw[if_neg hz]at hrun
 generalize hlow:(saidP clSg (s.drop j)).1=low at*
 have step:∀(k:Nat) (high:Int),j<k->k<=s.length->spansG s k (acc++[(low,high)])=spansG s i0 []->S_chaffref_Unclass_J7 (j:Int) acc.length (cl pC acc) (λi n rx=>∃(j:Nat) (acc:List (Int×Int)),i=j/\j<=s.length/\n=acc.length/\rx=cl pC acc/\acc.length<=j/\spansG s j acc=spansG s i0 []) (λi _ _=>(s.length-i).toNat) low (k:Int) high K:=λk high h3 h4 h5=>by
  unfold S_chaffref_Unclass_J7
  exact⟨by omega,⟨k,acc++[(low,high)],rfl,h4,by simp,by rw[<-cl_snoc];rfl,by simp;omega,h5⟩,by dsimp only;omega⟩
 have plain:dash (s.drop j) n=false->S_chaffref_Unclass_J5 s M (j:Int) acc.length (cl pC acc) (λi n rx=>∃(j:Nat) (acc:List (Int×Int)),i=j/\j<=s.length/\n=acc.length/\rx=cl pC acc/\acc.length<=j/\spansG s j acc=spansG s i0 []) (λi _ _=>(s.length-i).toNat) low (n:Int) false K:=λh=>by
  unfold S_chaffref_Unclass_J5
  refine⟨λh=>by simp at h,λ_=>?_⟩
  rw[show(n:Int).toNat=n from rfl,h]at hrun
  simp only[Bool.false_eq_true,if_false]at hrun
  rw[show(j:Int)+(n:Int)=((j+n:Nat):Int) by omega]
  refine step _ _ (by omega) (by omega) ?_
  rw[<-hrun]
  congr 1
  show j+n=j+((n:Int).toNat-1)+1
  omega
 refine⟨λhl=>?_,λhl=>plain (dash_no (by omega))⟩
 obtain⟨d,hd⟩:=getN (l:=s) (i:=j+n) (by omega)
 obtain⟨e,he⟩:=getN (l:=s) (i:=j+n+1) (by omega)
 have hda:=dash_is hd he
 have t1:((j:Int)+(n:Int)).toNat=j+n:=by omega
 have t2:((j:Int)+(n:Int)+1).toNat=j+n+1:=by omega
 rw[t1,t2]
 refine⟨d,by omega,hd,λh45=>⟨by unfold InI;omega,e,by omega,he,?_⟩,λh45=>plain (by rw[hda];simp;omega)⟩
 by_cases h93:e.toNat=93
 ·rw[show((e.toNat:Int) != (93:Int))=false by simp;omega]
  exact plain (by rw[hda];simp[h93])
 ·rw[show((e.toNat:Int) != (93:Int))=true by simp;omega]
  have hdt:dash (s.drop j) n=true:=by rw[hda];simp[h93];omega
  rw[show(n:Int).toNat=n from rfl,hdt,if_pos rfl,List.drop_drop]at hrun
  have hok2:=saidP_ok clSg (s.drop (j+n+1))
  rw[List.length_drop]at hok2
  rw[show j+(n+1)=j+n+1 by omega]at hrun
  unfold S_chaffref_Unclass_J5
  rw[take_all,t2]
  refine⟨λ_=>⟨by unfold InI;omega,by omega,by omega,by omega,s_chaffref_said _ _ _ _ (said_is _ clSg (by decide) (by decide) _ _ ⟨_,_,rfl,?_⟩)⟩,λh=>absurd rfl h⟩
  have bad2:(saidP clSg (s.drop (j+n+1))).2=0\/(saidP clSg (s.drop (j+n+1))).1<low->∀x y,S_chaffref_Unclass_J6 M (j:Int) acc.length (cl pC acc) (λi n rx=>∃(j:Nat) (acc:List (Int×Int)),i=j/\j<=s.length/\n=acc.length/\rx=cl pC acc/\acc.length<=j/\spansG s j acc=spansG s i0 []) (λi _ _=>(s.length-i).toNat) low (n:Int) x y true K:=λh x y=>by
   unfold S_chaffref_Unclass_J6
   refine⟨λ_=>bad ?_,λh=>absurd rfl h⟩
   rw[<-hrun,if_pos h]
  refine⟨λh0=>bad2 (.inl h0) _ _,λh0=>?_⟩
  by_cases hlt2:(saidP clSg (s.drop (j+n+1))).1<low
  ·rw[show decide ((saidP clSg (s.drop (j+n+1))).1<low)=true by simp[hlt2]];exact bad2 (.inr hlt2) _ _
  rw[show decide ((saidP clSg (s.drop (j+n+1))).1<low)=false by simp;omega]
  rw[if_neg (by omega)]at hrun
  obtain⟨m,hm⟩:∃m:Nat,(saidP clSg (s.drop (j+n+1))).2=m:=⟨(saidP clSg (s.drop (j+n+1))).2.toNat,by omega⟩
  rw[hm]at hrun hok2 h0 ⊢
  unfold S_chaffref_Unclass_J6
  refine⟨λh=>by simp at h,λ_=>⟨by unfold InI;omega,by unfold InI;omega,?_⟩⟩
  rw[show(j:Int)+(n:Int)+((m:Int)+1)=((j+n+(1+m):Nat):Int) by omega]
  refine step _ _ (by omega) (by omega) ?_
  rw[<-hrun]
  show _=spansG s (j+(((n:Int)+(1+(m:Int))).toNat-1)+1) _
  congr 1
  omega
theorem runcl_is {s:List UInt8} (hs:s.length<=1048576) {M:Mem} (K:Value->Prop) (hK:K (outS (unclP s))):S_chaffref_Unclass s M K:=by
 have bad:s[0]?≠some 91->S_chaffref_Unclass_J1 s M true K:=λh=>by
  unfold S_chaffref_Unclass_J1
  refine⟨λ_=>s_chaffref_Unclass_1 _ _ ⟨_,_,_,rfl,?_⟩,λh=>absurd rfl h⟩
  unfold unclP at hK
  rw[if_neg h]at hK;exact hK
 unfold S_chaffref_Unclass
 refine⟨λh=>bad (by rw[h];simp),λhne=>?_⟩
 obtain⟨c,r,rfl⟩:=List.exists_cons_of_ne_nil hne
 refine⟨c,by omega,rfl,?_⟩
 by_cases h91:c.toNat=91
 ·rw[show((c.toNat:Int) != (91:Int))=false by simp;omega]
  have h0:(c::r)[0]?=some 91:=byte_val rfl h91
  unfold unclP at hK
  rw[if_pos h0]at hK
  unfold S_chaffref_Unclass_J1
  have two:∀b:Bool,(b=true->(c::r)[1]?=some 94/\2<=(c::r).length)->(b=false->(c::r)[1]?≠some 94)->S_chaffref_Unclass_J2 (c::r) M b K:=λb h1 h2=>by
   unfold S_chaffref_Unclass_J2
   refine⟨λh=>?_,λh=>?_⟩
   ·obtain⟨g1,g2⟩:=h1 h
    rw[if_pos g1]at hK
    rw[h]
    exact runcl_loop hs g2 true K hK
   ·have h:b=false:=by simpa using h
    rw[if_neg (h2 h)]at hK
    rw[h]
    exact runcl_loop hs (by simp) false K hK
  refine⟨λh=>by simp at h,λ_=>⟨λhl=>?_,λhl=>two false (λh=>by cases h) λ_ h=>?_⟩⟩
  ·obtain⟨d,hd⟩:=getN (l:=c::r) (i:=1) (by omega)
   refine⟨d,by omega,hd,two _ (λh=>⟨byte_val hd (beq94 h),by omega⟩) λh h2=>?_⟩
   rw[hd]at h2
   cases h2
   simp at h
  ·have:=(List.getElem?_eq_some_iff.1 h).1
   omega
 ·rw[show((c.toNat:Int) != (91:Int))=true by simp;omega]
  refine bad λh=>h91 ?_
  cases h;rfl
end Go.Proofs.YtjecddabdlapbaaDoor.core

namespace Go.Proofs.YtjecddabdlapbaaDoor.core
open Go.Gx Go.RowKit Go.ChangeShapes Go.WideShapes Go.ChangeAt
set_option linter.unusedVariables false
theorem bru_data:(Rows.laid_math_bits_deBruijn64tab:DataW Unit)=Lib.tabData .u8 (dTab.map λ(n:Nat)=>(n:Int)):=by kernel_rfl
theorem tabM_of {W:World} (h:Lib.VarReads Tryd.prog W "math/bits.deBruijn64tab" Rows.laid_math_bits_deBruijn64tab):TabM (HM W) 0 dTab:=by
 obtain⟨g,t,cs,fuel,p,hg,hty,hvar,hd⟩:=h
 obtain rfl:=Option.some.inj ((show Tryd.prog.globalNamed "math/bits.deBruijn64tab"=some 0 by kernel_rfl).symm.trans hg)
 obtain rfl:=Option.some.inj ((show(Tryd.prog.globals[0]?).map (·.type)=some 136 by kernel_rfl).symm.trans hty)
 rw[bru_data]at hd
 have hcs:=Lib.cells_of_tab (n:=64) (e:=5) (by kernel_rfl) (by kernel_rfl) (by kernel_rfl) (by kernel_rfl) hd
 intro i z hz
 refine HM.cell ?_
 rw[World.var?_cell hg hvar i,<-Array.getElem?_toList,hcs,List.getElem?_map,List.getElem?_map,hz];rfl
end Go.Proofs.YtjecddabdlapbaaDoor.core

