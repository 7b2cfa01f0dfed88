/- Contracts and what they hang on, of several parts. No condition. -/
import Derived.Test.YtfpmiahbncnecaaReadG
import Derived.Test.YtfpmiahbncnecaaM2
import Derived.Test.YtfpmiahbncnecaaRReadG
import Derived.Test.YtfpmiahbncnecaaM1
namespace Go.Proofs.Ytfpmiahbncnecaa.core
open Go.Gx Go.RowKit Go.ChangeShapes Go.WideShapes Go.ChangeAt
set_option linter.unusedVariables false
def faultP (i:Int):List PanicEntry:=[{v:=.iface 89 (.agg #[.int .i64 i]),recovered:=false}]
theorem bad_is (i:Int) (M:Mem) (L:Nat->Prop) (K:Value->Mem->Prop) (Kp:List PanicEntry->Prop) (h:Kp (faultP i)):CallP Try.prog 66 #[.int .i64 i] M L K Kp:=by
 refine enterP Try.func66 rfl 5 rfl (Nat.le_of_ble_eq_true rfl) (λE a hs=>?_) (l:=[.int .i64 i])
 change Sx 5 E (bwW E M L) M E a [(0,.int .i64 i)] [] []at hs
 refine Wp.region (sP (.int .i64 i) hs λ_ hs=>?_)
 refine sP (.agg #[.int .i64 i]) hs λ_ hs=>?_
 refine sP (.iface 89 (.agg #[.int .i64 i])) hs λ_ hs=>?_
 exact stepPanic (bs:=[]) (rs:=[]) hs rfl rfl h
end Go.Proofs.Ytfpmiahbncnecaa.core

namespace Go.Proofs.Ytfpmiahbncnecaa.core
open Go.Gx Go.RowKit Go.ChangeShapes Go.WideShapes Go.ChangeAt
set_option linter.unusedVariables false
def wsB (c:UInt8):Bool:=c.toNat==32||c.toNat==9||c.toNat==10||c.toNat==13
def skipM:Bool->List UInt8->Nat
 |_,[]=>0
 |true,c::r=>if c.toNat=10 then 1+skipM false r else 1+skipM true r
 |false,c::r=>if wsB c=true then 1+skipM false r else if c.toNat=35 then 1+skipM true r else 0
theorem skipM_len:∀(b:Bool) (l:List UInt8),skipM b l<=l.length
 |true,[]=>by simp[skipM]
 |false,[]=>by simp[skipM]
 |true,c::r=>by
  have h1:=skipM_len true r
  have h2:=skipM_len false r
  rw[skipM,List.length_cons]
  split<;>omega
 |false,c::r=>by
  have h1:=skipM_len true r
  have h2:=skipM_len false r
  rw[skipM,List.length_cons]
  split
  ·omega
  ·split<;>omega
def goOn (s:List UInt8) (i:Nat):Nat:=i+skipM false (s.drop i)
theorem goOn_le {s:List UInt8} {i:Nat} (h:i<=s.length):i<=goOn s i/\goOn s i<=s.length:=by
 have:=skipM_len false (s.drop i)
 rw[List.length_drop]at this
 unfold goOn;omega
theorem drop_at {s:List UInt8} {i:Nat} {c:UInt8} (h:s[i]?=some c):s.drop i=c::s.drop (i+1):=by
 obtain⟨hi,rfl⟩:=List.getElem?_eq_some_iff.1 h
 exact List.drop_eq_getElem_cons hi
theorem skip_is {s:List UInt8} (hs:s.length<=2000) {M:Mem} {L:Nat->Prop} {b:Nat} (hat:At M b 0 [.string (mkS s)]) {i:Nat} (hi:i<=s.length) (K:Value->Mem->Prop) (hK:∀M',M.le M'->K (.int .i64 (goOn s i:Nat)) M'):S_read_Reader_skip (some ⟨b,0,none⟩) i M L K:=by
 let I33:Int->Prop:=λx=>∃j:Nat,x=j/\j<=s.length/\goOn s i=j+skipM false (s.drop j)
 have nx:∀{j:Nat} {c:UInt8},s[j]?=some c->wsB c=true->goOn s i=j+skipM false (s.drop j)->goOn s i=(j+1)+skipM false (s.drop (j+1)):=λ{j c} hc hw h=>by
  rw[h,drop_at hc,skipM,if_pos hw];omega
 refine⟨I33,λx=>s.length-x.toNat,⟨i,rfl,hi,rfl⟩,λx ⟨j,hx,hj,hg⟩=>⟨b,0,rfl,s,hat,λhlt=>?_,λhge=>?_⟩⟩
 ·subst hx
  obtain⟨c,hc⟩:∃c,s[j]?=some c:=⟨s[j]'(by omega),List.getElem?_eq_getElem _⟩
  have j1:∀v:Bool,(v=true->wsB c=true)->(v=false->wsB c=false)->S_read_Reader_skip_J1 (some ⟨b,0,none⟩) M j I33 (λx=>s.length-x.toNat) c v K:=λv h1 h2=>by
   refine⟨λhv=>⟨by unfold InI;omega,⟨j+1,by omega,by omega,nx hc (h1 hv) hg⟩,by dsimp only;omega⟩,λhv=>?_⟩
   have hw:=h2 (by simpa using hv)
   refine⟨λh35=>?_,λh35=>?_⟩
   ·have hg0:goOn s i=j+skipM true (s.drop j):=by
     rw[hg,drop_at hc,skipM,skipM,if_neg (by rw[hw];simp),if_pos (by omega),if_neg (by omega)]
    refine⟨λy=>∃k:Nat,y=k/\k<=s.length/\j<=k/\goOn s i=k+skipM true (s.drop k),λy=>s.length-y.toNat,⟨j,rfl,hj,Nat.le_refl _,hg0⟩,λy ⟨k,hy,hk,hjk,hgk⟩=>⟨b,0,rfl,s,hat,λhl2=>?_,λhl2=>?_⟩⟩
    ·subst hy
     obtain⟨d,hd⟩:∃d,s[k]?=some d:=⟨s[k]'(by omega),List.getElem?_eq_getElem _⟩
     refine⟨b,0,rfl,s,hat,d,by omega,by simpa using hd,λhn=>?_,λhn=>?_⟩
     ·have hn:d.toNat≠10:=λe=>by simp[e]at hn
      refine⟨by unfold InI;omega,⟨k+1,by omega,by omega,by omega,?_⟩,by dsimp only;omega⟩
      rw[hgk,drop_at hd,skipM,if_neg hn];omega
     ·have hn:d.toNat=10:=by
       have:=hn
       simp at this;omega
      have hne:j≠k:=λe=>by
       subst e
       rw[hc]at hd;cases hd;omega
      refine⟨⟨k,rfl,hk,?_⟩,by dsimp only;omega⟩
      rw[hgk,drop_at hd,skipM,skipM,if_pos hn,if_pos (by unfold wsB;simp[hn])]
    ·subst hy
     have hne:j≠k:=λe=>by omega
     refine⟨λe=>by simp at e,λ_=>⟨⟨k,rfl,hk,?_⟩,by dsimp only;omega⟩⟩
     rw[hgk,List.drop_of_length_le (by omega),skipM,skipM]
   ·intro M' hle
    have hgo:goOn s i=j:=by
     rw[hg,drop_at hc,skipM,if_neg (by rw[hw];simp),if_neg (by omega)]
     rfl
    rw[<-hgo];exact hK M' hle
  refine⟨b,0,rfl,s,hat,c,by omega,by simpa using hc,λh=>j1 _ (λ_=>by unfold wsB;simp;omega) (λe=>by simp at e;omega),λh=>⟨λh'=>j1 _ (λ_=>by unfold wsB;simp;omega) (λe=>by simp at e;omega),λh'=>⟨λh''=>j1 _ (λ_=>by unfold wsB;simp;omega) (λe=>by simp at e;omega),λh''=>j1 _ (λe=>by simp at e;unfold wsB;simp;omega) (λe=>by simp at e;unfold wsB;simp;omega)⟩⟩⟩
 ·subst hx
  intro M' hle
  have:j=s.length:=by omega
  subst this
  rw[List.drop_length,skipM]at hg
  rw[show((s.length:Nat):Int)=((goOn s i:Nat):Int) by omega];exact hK M' hle
end Go.Proofs.Ytfpmiahbncnecaa.core

namespace Go.Proofs.Ytfpmiahbncnecaa.core
open Go.Gx Go.RowKit Go.ChangeShapes Go.WideShapes Go.ChangeAt
set_option linter.unusedVariables false
theorem slIndexByte_is (s:List UInt8) (c:UInt8) (M:Mem) (K:Value->Prop) (h:K (.int .i64 (idxB s c.toNat))):S_internal_stringslite_IndexByte s (c.toNat:Int) M K:=h
theorem indexByte_is (s:List UInt8) (c:UInt8) (M:Mem) (K:Value->Prop) (h:K (.int .i64 (idxB s c.toNat))):S_strings_IndexByte s (c.toNat:Int) M K:=
 s_internal_stringslite_IndexByte _ _ _ _ (slIndexByte_is s c _ _ ⟨_,rfl,h⟩)
theorem idxB_mem (s:List UInt8) (c:UInt8):decide (idxB s c.toNat>=0)=decide (c∈s):=by
 rcases idxB_cases s c with⟨h,hn⟩|⟨i,h,hi,_⟩
 ·rw[h]
  have:¬c∈s:=λhm=>by
   obtain⟨j,hj⟩:=List.mem_iff_getElem?.1 hm
   exact hn j c hj rfl
  simp[this]
 ·rw[h]
  have:=List.mem_of_getElem? hi
  simp[this]
theorem slIndex1_is (s:List UInt8) (c:UInt8) (M:Mem) (K:Value->Prop) (h:∀z:Int,decide (z>=0)=decide (c∈s)->(z=idxB s c.toNat)->K (.int .i64 z)):S_internal_stringslite_Index s [c] M K:=by
 have j1:∀b:Bool,b=((mkS [c]).toList==(mkS s).toList)->S_internal_stringslite_Index_J1 s [c] M b K:=by
  intro b hb
  refine⟨λe=>?_,λe=>⟨λ_=>⟨c,by omega,rfl,?_⟩,λh=>absurd rfl h⟩⟩
  ·rw[e]at hb
   have:[c]=s:=mkS_beq.1 hb.symm
   subst this
   refine h 0 (by simp) ?_
   rcases idxB_cases [c] c with⟨_,hn⟩|⟨i,h1,hi,_⟩
   ·exact absurd rfl (hn 0 c rfl)
   ·have:=(List.getElem?_eq_some_iff.1 hi).1
    simp at this
    subst this
    rw[h1];rfl
  ·exact s_internal_stringslite_IndexByte _ _ _ _ (slIndexByte_is s c _ _ ⟨_,rfl,h _ (idxB_mem s c) rfl⟩)
 exact⟨λh=>by simp at h,λ_=>j1 _ rfl⟩
theorem index1_is (s:List UInt8) (c:UInt8) (M:Mem) (K:Value->Prop) (h:∀z:Int,decide (z>=0)=decide (c∈s)->(z=idxB s c.toNat)->K (.int .i64 z)):S_strings_Index s [c] M K:=
 s_internal_stringslite_Index _ _ _ _ (slIndex1_is s c _ _ λz hz hz2=>⟨_,rfl,h z hz hz2⟩)
theorem contains1_is (s:List UInt8) (c:UInt8) (M:Mem) (K:Value->Prop) (h:K (.bool (decide (c∈s)))):S_strings_Contains s [c] M K:=
 s_strings_Index _ _ _ _ (index1_is s c _ _ λz hz _=>⟨_,rfl,by rw[hz];exact h⟩)
end Go.Proofs.Ytfpmiahbncnecaa.core

namespace Go.Proofs.Ytfpmiahbncnecaa.core
open Go.Gx Go.RowKit Go.ChangeShapes Go.WideShapes Go.ChangeAt
set_option linter.unusedVariables false
theorem ws_mem (c:UInt8):decide (c∈([32,9,10,13,35]:List UInt8))=(wsB c||c.toNat==35):=by
 have k:∀n:Nat,n<256->decide (UInt8.ofNat n∈([32,9,10,13,35]:List UInt8))=((n==32||n==9||n==10||n==13)||n==35):=by decide+kernel
 have:=k c.toNat c.toNat_lt
 rw[UInt8.ofNat_toNat]at this
 exact this
theorem blank_is {s:List UInt8} (hs:s.length<=2000) {M:Mem} {i:Nat} (hi:i<=s.length) (K:Value->Prop) (hK:K (.int .i64 (goOn s i:Nat))):S_chaffref_blank s i M K:=by
 let I17:Int->Prop:=λx=>∃j:Nat,x=j/\j<=s.length/\goOn s i=j+skipM false (s.drop j)
 have out:∀j:Nat,goOn s i=j->S_chaffref_blank_J1 s j I17 (λx=>s.length-x.toNat) false K:=λj hg=>⟨λe=>by simp at e,λ_=>by rw[<-hg];exact hK⟩
 refine⟨I17,λx=>s.length-x.toNat,⟨i,rfl,hi,rfl⟩,λx ⟨j,hx,hj,hg⟩=>⟨λhlt=>?_,λhge=>?_⟩⟩
 ·subst hx
  obtain⟨c,hc⟩:∃c,s[j]?=some c:=⟨s[j]'(by omega),List.getElem?_eq_getElem _⟩
  refine⟨c,by omega,by simpa using hc,s_strings_IndexByte _ _ _ _ (indexByte_is _ c _ _ ⟨_,rfl,?_⟩)⟩
  rw[idxB_mem,ws_mem]
  cases hw:wsB c with
  |true=>
   rw[Bool.true_or]
   have hn35:c.toNat≠35:=λe=>by unfold wsB at hw;simp[e]at hw
   refine⟨λ_=>⟨c,by omega,by simpa using hc,λh=>absurd (by omega) hn35,λ_=>⟨by unfold InI;omega,⟨j+1,by omega,by omega,?_⟩,by dsimp only;omega⟩⟩,λh=>absurd rfl h⟩
   rw[hg,drop_at hc,skipM,if_pos hw];omega
  |false=>
   rw[Bool.false_or]
   by_cases h35:c.toNat=35
   ·rw[show(c.toNat==35)=true by simp[h35]]
    refine⟨λ_=>⟨c,by omega,by simpa using hc,λ_=>?_,λh=>absurd (by omega) h⟩,λh=>absurd rfl h⟩
    have hg0:goOn s i=j+skipM true (s.drop j):=by
     rw[hg,drop_at hc,skipM,skipM,if_neg (by rw[hw];simp),if_pos h35,if_neg (by omega)]
    refine⟨λy=>∃k:Nat,y=k/\k<=s.length/\j<=k/\goOn s i=k+skipM true (s.drop k),λy=>s.length-y.toNat,⟨j,rfl,hj,Nat.le_refl _,hg0⟩,λy ⟨k,hy,hk,hjk,hgk⟩=>⟨λhl2=>?_,λhl2=>?_⟩⟩
    ·subst hy
     obtain⟨d,hd⟩:∃d,s[k]?=some d:=⟨s[k]'(by omega),List.getElem?_eq_getElem _⟩
     refine⟨d,by omega,by simpa using hd,λhn=>?_,λhn=>?_⟩
     ·have hn:d.toNat≠10:=λe=>by simp[e]at hn
      refine⟨by unfold InI;omega,⟨k+1,by omega,by omega,by omega,?_⟩,by dsimp only;omega⟩
      rw[hgk,drop_at hd,skipM,if_neg hn];omega
     ·have hn:d.toNat=10:=by
       have:=hn
       simp at this;omega
      have hne:j≠k:=λe=>by
       subst e
       rw[hc]at hd;cases hd;omega
      refine⟨⟨k,rfl,hk,?_⟩,by dsimp only;omega⟩
      rw[hgk,drop_at hd,skipM,skipM,if_pos hn,if_pos (by unfold wsB;simp[hn])]
    ·subst hy
     have hne:j≠k:=λe=>by omega
     refine⟨λe=>by simp at e,λ_=>⟨⟨k,rfl,hk,?_⟩,by dsimp only;omega⟩⟩
     rw[hgk,List.drop_of_length_le (by omega),skipM,skipM]
   ·rw[show(c.toNat==35)=false by simp[h35]]
    refine out j ?_
    rw[hg,drop_at hc,skipM,if_neg (by rw[hw];simp),if_neg h35];rfl
 ·subst hx
  have:j=s.length:=by omega
  subst this
  refine out _ ?_
  rw[hg,List.drop_length,skipM];rfl
end Go.Proofs.Ytfpmiahbncnecaa.core

namespace Go.Proofs.Ytfpmiahbncnecaa.core
open Go.Gx Go.RowKit Go.ChangeShapes Go.WideShapes Go.ChangeAt
set_option linter.unusedVariables false
def wfS (s:X_api_Set):Prop:=(Lit.int .u64 s.w0).wf=true/\(Lit.int .u64 s.w1).wf=true/\(Lit.int .u64 s.w2).wf=true/\(Lit.int .u64 s.w3).wf=true
end Go.Proofs.Ytfpmiahbncnecaa.core

