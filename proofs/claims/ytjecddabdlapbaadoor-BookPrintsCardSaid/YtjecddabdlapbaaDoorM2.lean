/- Contracts and what they hang on, of several parts. No condition. -/
import Derived.Shelf.LaysM
import Derived.Shelf.Strconv.Itoa3
import Derived.Shelf.LaysC
import Derived.Shelf.Strconv.AtoiAll
import Derived.Shelf.Strconv.ErrVarAll
import Derived.Test.YtjecddabdlapbaaDoorM1
import Derived.Lib.AtoiErrMem
import Derived.Lib.AppendIntMem
import Derived.Lib.RuneCountTail
namespace Go.Proofs.YtjecddabdlapbaaDoor.core
open Go.Gx Go.RowKit Go.ChangeShapes Go.WideShapes Go.ChangeAt
set_option linter.unusedVariables false
open Go.Shelf
def sh_laysM171_ren:Go.Shelf.Ren:=⟨λ|171=>88|243=>122|246=>141|283=>153|284=>154|285=>155|286=>156|129=>161|317=>160|318=>162|319=>163|320=>164|337=>165|338=>52|n=>n,λ|3=>3|9=>9|2=>2|4=>4|171=>188|0=>0|53=>22|37=>85|5=>5|173=>190|212=>200|51=>192|20=>20|213=>201|46=>83|232=>204|233=>136|n=>n,λ|17=>6|18=>7|19=>0|n=>n⟩
theorem sh_laysM171:Go.Proofs.LaysM.n171 Tryd.prog sh_laysM171_ren:={
 mixed:=by kernel_rfl
 f129:=Tryd.func161.trans (congrArg some (by kernel_rfl))
 f171:=Tryd.func88.trans (congrArg some (by kernel_rfl))
 f243:=Tryd.func122.trans (congrArg some (by kernel_rfl))
 f246:=Tryd.func141.trans (congrArg some (by kernel_rfl))
 f283:=Tryd.func153.trans (congrArg some (by kernel_rfl))
 f284:=Tryd.func154.trans (congrArg some (by kernel_rfl))
 f285:=Tryd.func155.trans (congrArg some (by kernel_rfl))
 f286:=Tryd.func156.trans (congrArg some (by kernel_rfl))
 f317:=Tryd.func160.trans (congrArg some (by kernel_rfl))
 f318:=Tryd.func162.trans (congrArg some (by kernel_rfl))
 f319:=Tryd.func163.trans (congrArg some (by kernel_rfl))
 f320:=Tryd.func164.trans (congrArg some (by kernel_rfl))
 f337:=Tryd.func165.trans (congrArg some (by kernel_rfl))
 f338:=Tryd.func52.trans (congrArg some (by kernel_rfl))
 t0:=Tryd.underlying0
 a0:=Tryd.isAgg0
 z0:=Tryd.sizeOf0
 v0:=Tryd.zeroValue0
 t2:=Tryd.underlying2
 a2:=Tryd.isAgg2
 z2:=Tryd.sizeOf2
 v2:=Tryd.zeroValue2
 t3:=Tryd.underlying3
 a3:=Tryd.isAgg3
 z3:=Tryd.sizeOf3
 v3:=Tryd.zeroValue3
 t4:=Tryd.underlying4
 a4:=Tryd.isAgg4
 z4:=Tryd.sizeOf4
 v4:=Tryd.zeroValue4
 t5:=Tryd.underlying5
 a5:=Tryd.isAgg5
 z5:=Tryd.sizeOf5
 v5:=Tryd.zeroValue5
 t9:=Tryd.underlying9
 a9:=Tryd.isAgg9
 z9:=Tryd.sizeOf9
 v9:=Tryd.zeroValue9
 t20:=Tryd.underlying20
 a20:=Tryd.isAgg20
 z20:=Tryd.sizeOf20
 v20:=Tryd.zeroValue20
 t37:=Tryd.underlying85
 a37:=Tryd.isAgg85
 z37:=Tryd.sizeOf85
 v37:=Tryd.zeroValue85
 t46:=Tryd.underlying83
 a46:=Tryd.isAgg83
 z46:=Tryd.sizeOf83
 v46:=Tryd.zeroValue83
 t51:=Tryd.underlying192
 a51:=Tryd.isAgg192
 z51:=Tryd.sizeOf192
 v51:=Tryd.zeroValue192
 t53:=Tryd.underlying22
 a53:=Tryd.isAgg22
 z53:=Tryd.sizeOf22
 v53:=Tryd.zeroValue22
 t171:=Tryd.underlying188
 a171:=Tryd.isAgg188
 z171:=Tryd.sizeOf188
 v171:=Tryd.zeroValue188
 t173:=Tryd.underlying190
 a173:=Tryd.isAgg190
 z173:=Tryd.sizeOf190
 v173:=Tryd.zeroValue190
 t212:=Tryd.underlying200
 a212:=Tryd.isAgg200
 z212:=Tryd.sizeOf200
 v212:=Tryd.zeroValue200
 t213:=Tryd.underlying201
 a213:=Tryd.isAgg201
 z213:=Tryd.sizeOf201
 t232:=Tryd.underlying204
 a232:=Tryd.isAgg204
 z232:=Tryd.sizeOf204
 v232:=Tryd.zeroValue204
 t233:=Tryd.underlying136
 a233:=Tryd.isAgg136
 z233:=Tryd.sizeOf136
 v233:=Tryd.zeroValue136
 g17:=by kernel_rfl
 g18:=by kernel_rfl
 g19:=by kernel_rfl
 i0:=by kernel_rfl
 i2:=by kernel_rfl
 i3:=by kernel_rfl
 i4:=by kernel_rfl
 i5:=by kernel_rfl
 i9:=by kernel_rfl
 i20:=by kernel_rfl
 i37:=by kernel_rfl
 i46:=by kernel_rfl
 i51:=by kernel_rfl
 i53:=by kernel_rfl
 i171:=by kernel_rfl
 i173:=by kernel_rfl
 i212:=by kernel_rfl
 i232:=by kernel_rfl
 i233:=by kernel_rfl
 m17:=by kernel_rfl
 m18:=by kernel_rfl
 m19:=by kernel_rfl}
open Go.RowKit Go.Sort Go.Lib in
theorem sh_strconv_Itoa (n:Int) (h0: -9223372036854775808<=n) (h1:n<=9223372036854775807) (w:World) (htab:Lib.TabIs Tryd.prog w "internal/strconv.uint64pow10" .u64 Lib.pow10Tab):
  Calls Tryd.prog 88 #[.int .i64 n] w λe w'=>e= .returned (.string ⟨(Lib.itoa n).toArray⟩)/\∃k os,w'=grow (w.drewN k) os:=Any.strconv_Itoa sh_laysM171 n h0 h1 w htab
end Go.Proofs.YtjecddabdlapbaaDoor.core

namespace Go.Proofs.YtjecddabdlapbaaDoor.core
open Go.Gx Go.RowKit Go.ChangeShapes Go.WideShapes Go.ChangeAt
set_option linter.unusedVariables false
theorem var_on {M:Mem} {w:World} (h:On M w) {name:String} {g:Nat} {cs:Array Value} {e f} (hg:Tryd.prog.globalNamed name=some g) (hm:M g=some (.cells cs e f)):w.var? Tryd.prog name=some cs:=by
 unfold World.var?
 rw[hg]
 simp only[Option.bind_some]
 rw[h _ _ hm]
theorem mkS_toList (l:List UInt8):(mkS l).data.toList=l:=rfl
def dv (c:UInt8):Nat:=c.toNat-48
attribute [irreducible] dv
theorem decDigits_ne (u:Nat):Lib.decDigits u≠[]:=by
 rw[Lib.decDigits];split<;>simp
theorem ddigit_is {M:Mem} {d:Nat} (h:d<10) (K:Value->Prop) (hK:K (.string (mkS [UInt8.ofNat (48+d)]))):S_chaffref_digit d M K:=by
 refine⟨by unfold InI;omega,by omega,by omega,by simp;omega,?_⟩
 have:(((([48,49,50,51,52,53,54,55,56,57,97,98,99,100,101,102]:List UInt8)).take ((d:Int)+1).toNat).drop (d:Int).toNat)=[UInt8.ofNat (48+d)]:=by
  match d,h with
  |0,_=>rfl
  |1,_=>rfl
  |2,_=>rfl
  |3,_=>rfl
  |4,_=>rfl
  |5,_=>rfl
  |6,_=>rfl
  |7,_=>rfl
  |8,_=>rfl
  |9,_=>rfl
  |d+10,h=>omega
 rw[this];exact hK
theorem decDigits_put {u:Nat} (h:u≠0) (out:List UInt8):(if u / 10=0 then[] else Lib.decDigits (u / 10))++([UInt8.ofNat (48+u % 10)]++out)=Lib.decDigits u++out:=by
 conv=>rhs;rw[Lib.decDigits]
 by_cases h10:u<10
 ·rw[dif_pos h10,if_pos (by omega),Nat.mod_eq_of_lt h10];rfl
 ·rw[dif_neg h10,if_neg (by omega),List.append_assoc]
theorem rdec_is {M:Mem} {n:Int} (h:InI n) (K:Value->Prop) (hK:K (.string (mkS (Lib.itoa n)))):S_chaffref_Dec n M K:=by
 refine⟨λh0=>?_,λh0=>?_⟩
 ·subst h0
  rw[show Lib.itoa 0=[48] by unfold Lib.itoa;rw[if_neg (by omega),Lib.decDigits];simp]at hK
  exact hK
 have hlenD:(Lib.decDigits n.natAbs).length<=9223372036854775807-1:=by
  have key:∀(k u:Nat),u<10 ^ (k+1)->(Lib.decDigits u).length<=k+1:=λk=>by
   induction k with
   |zero=>intro u hu;rw[Lib.decDigits,dif_pos (by omega)];simp
   |succ k ih=>
    intro u hu
    rw[Lib.decDigits]
    split
    ·simp
    ·have:=ih (u / 10) (by rw[Nat.pow_succ]at hu;omega)
     simp;omega
  have:=key 19 n.natAbs (by unfold InI at h;have:(10:Nat) ^ 20=100000000000000000000:=(by decide);omega)
  omega
 have hn1:InI n:=h
 refine⟨λx out=>InI x/\(n<0->x<=0)/\(¬n<0->0<=x)/\(if x.natAbs=0 then[] else Lib.decDigits x.natAbs)++out=Lib.decDigits n.natAbs,λx _=>x.natAbs,⟨h,λh=>by omega,λh=>by omega,by rw[if_neg (by omega),List.append_nil]⟩,λx out ⟨hx,hs1,hs2,ho⟩=>⟨λhne=>?_,λhz=>?_⟩⟩
 ·have hx0:x.natAbs≠0:=by omega
  rw[if_neg hx0]at ho
  have hol:(Lib.decDigits x.natAbs).length+out.length<=9223372036854775807-1:=by rw[<-List.length_append,ho];exact hlenD
  have hpos:=List.length_pos_iff.2 (decDigits_ne x.natAbs)
  have hq:(x.tdiv 10).natAbs=x.natAbs / 10:=by rw[Int.natAbs_tdiv];rfl
  have hr:(x.tmod 10).natAbs=x.natAbs % 10:=by rw[Int.natAbs_tmod];rfl
  have hqs:(n<0->x.tdiv 10<=0)/\(¬n<0->0<=x.tdiv 10):=⟨λhn=>by
   obtain⟨y,rfl⟩:∃y:Nat,x= -(y:Int):=⟨x.natAbs,by have:=hs1 hn;omega⟩
   rw[Int.neg_tdiv]
   have:((y:Int).tdiv 10)=((y / 10:Nat):Int):=rfl
   omega,λhn=>by
   obtain⟨y,rfl⟩:∃y:Nat,x=(y:Int):=⟨x.natAbs,by have:=hs2 hn;omega⟩
   have:((y:Int).tdiv 10)=((y / 10:Nat):Int):=rfl
   omega⟩
  have go:∀d:Nat,d=x.natAbs % 10->S_chaffref_Dec_J1 M x out (λx out=>InI x/\(n<0->x<=0)/\(¬n<0->0<=x)/\(if x.natAbs=0 then[] else Lib.decDigits x.natAbs)++out=Lib.decDigits n.natAbs) (λx _=>x.natAbs) d K:=λd hd=>by
   refine s_chaffref_digit _ _ _ (ddigit_is (by omega) _ ⟨_,rfl,by simp;omega,by unfold InI at hx ⊢;omega,⟨by unfold InI at hx ⊢;omega,hqs.1,hqs.2,?_⟩,by dsimp only;omega⟩)
   rw[hq,hd,decDigits_put hx0];exact ho
  refine⟨λhneg=>⟨by unfold InI;omega,?_⟩,λhneg=>?_⟩
  ·rw[show 0-x.tmod 10=(((x.natAbs % 10:Nat)):Int) by omega];exact go _ rfl
  ·rw[show x.tmod 10=(((x.natAbs % 10:Nat)):Int) by omega];exact go _ rfl
 ·have hx0:x=0:=by omega
  subst hx0
  simp at ho
  subst ho
  refine⟨λhn=>⟨by simp;omega,?_⟩,λhn=>?_⟩
  ·unfold Lib.itoa at hK;rw[if_pos hn]at hK;exact hK
  ·unfold Lib.itoa at hK;rw[if_neg hn,show n.toNat=n.natAbs by omega]at hK;exact hK
end Go.Proofs.YtjecddabdlapbaaDoor.core

namespace Go.Proofs.YtjecddabdlapbaaDoor.core
open Go.Gx Go.RowKit Go.ChangeShapes Go.WideShapes Go.ChangeAt
set_option linter.unusedVariables false
theorem slIndexByte_is (s:List UInt8) (c:UInt8) (M:Mem) (K:Value->Prop) (h:K (.int .i64 (idxB s c.toNat))):S_internal_stringslite_IndexByte s (c.toNat:Int) M K:=h
theorem indexByte_is (s:List UInt8) (c:UInt8) (M:Mem) (K:Value->Prop) (h:K (.int .i64 (idxB s c.toNat))):S_strings_IndexByte s (c.toNat:Int) M K:=
 s_internal_stringslite_IndexByte _ _ _ _ (slIndexByte_is s c _ _ ⟨_,rfl,h⟩)
theorem idxB_mem (s:List UInt8) (c:UInt8):decide (idxB s c.toNat>=0)=decide (c∈s):=by
 rcases idxB_cases s c with⟨h,hn⟩|⟨i,h,hi,_⟩
 ·rw[h]
  have:¬c∈s:=λhm=>by
   obtain⟨j,hj⟩:=List.mem_iff_getElem?.1 hm
   exact hn j c hj rfl
  simp[this]
 ·rw[h]
  have:=List.mem_of_getElem? hi
  simp[this]
theorem slIndex1_is (s:List UInt8) (c:UInt8) (M:Mem) (K:Value->Prop) (h:∀z:Int,decide (z>=0)=decide (c∈s)->(z=idxB s c.toNat)->K (.int .i64 z)):S_internal_stringslite_Index s [c] M K:=by
 have j1:∀b:Bool,b=((mkS [c]).toList==(mkS s).toList)->S_internal_stringslite_Index_J1 s [c] M b K:=by
  intro b hb
  refine⟨λe=>?_,λe=>⟨λ_=>⟨c,by omega,rfl,?_⟩,λh=>absurd rfl h⟩⟩
  ·rw[e]at hb
   have:[c]=s:=mkS_beq.1 hb.symm
   subst this
   refine h 0 (by simp) ?_
   rcases idxB_cases [c] c with⟨_,hn⟩|⟨i,h1,hi,_⟩
   ·exact absurd rfl (hn 0 c rfl)
   ·have:=(List.getElem?_eq_some_iff.1 hi).1
    simp at this
    subst this
    rw[h1];rfl
  ·exact s_internal_stringslite_IndexByte _ _ _ _ (slIndexByte_is s c _ _ ⟨_,rfl,h _ (idxB_mem s c) rfl⟩)
 exact⟨λh=>by simp at h,λ_=>j1 _ rfl⟩
theorem index1_is (s:List UInt8) (c:UInt8) (M:Mem) (K:Value->Prop) (h:∀z:Int,decide (z>=0)=decide (c∈s)->(z=idxB s c.toNat)->K (.int .i64 z)):S_strings_Index s [c] M K:=
 s_internal_stringslite_Index _ _ _ _ (slIndex1_is s c _ _ λz hz hz2=>⟨_,rfl,h z hz hz2⟩)
theorem contains1_is (s:List UInt8) (c:UInt8) (M:Mem) (K:Value->Prop) (h:K (.bool (decide (c∈s)))):S_strings_Contains s [c] M K:=
 s_strings_Index _ _ _ _ (index1_is s c _ _ λz hz _=>⟨_,rfl,by rw[hz];exact h⟩)
end Go.Proofs.YtjecddabdlapbaaDoor.core

namespace Go.Proofs.YtjecddabdlapbaaDoor.core
open Go.Gx Go.RowKit Go.ChangeShapes Go.WideShapes Go.ChangeAt
set_option linter.unusedVariables false
abbrev hexL:List UInt8:=[48,49,50,51,52,53,54,55,56,57,97,98,99,100,101,102]
def hexC (n:Nat):UInt8:=hexL.getD n 0
def shownP (signs:List UInt8) (low:Nat) (b:UInt8):List UInt8:=
 if b.toNat=10 then[92,110] else if b.toNat=9 then[92,116] else if b.toNat<low\/b.toNat>126 then[92,120,hexC (b.toNat / 16),hexC (b.toNat % 16)] else if b∈signs then[92,b] else[b]
theorem shownP_len (signs:List UInt8) (low:Nat) (b:UInt8):(shownP signs low b).length<=4:=by
 unfold shownP
 split
 ·simp
 ·split
  ·simp
  ·split
   ·simp
   ·split<;>simp
theorem hex_cut:∀n:Nat,n<16->(hexL.take (n+1)).drop n=[hexC n]:=by decide
theorem hi4:∀n:Nat,n<256->bShr .u8 (n:Int) 4=((n / 16:Nat):Int)/\bAnd .u8 (n:Int) 15=((n % 16:Nat):Int)/\IntKind.wrap .u8 (((n / 16:Nat):Int)+1)=((n / 16+1:Nat):Int)/\IntKind.wrap .u8 (((n % 16:Nat):Int)+1)=((n % 16+1:Nat):Int):=by decide+kernel
theorem qone_is (b:UInt8) (signs:List UInt8) (M:Mem) (K:Value->Prop) (low:Nat) (hlow:low=if signs=[39,92] then 32 else 33) (h:K (.string (mkS (shownP signs low b)))):S_quote_one (b.toNat:Int) signs M K:=by
 have hb:=b.toNat_lt
 obtain⟨e1,e2,e3,e4⟩:=hi4 b.toNat hb
 have q16:b.toNat / 16<16:=by omega
 have r16:b.toNat % 16<16:=by omega
 have j1:∀v:Bool,b.toNat≠10->b.toNat≠9->v=decide (b.toNat<low\/b.toNat>126)->S_quote_one_J1 (b.toNat:Int) signs M v K:=by
  intro v n10 n9 hv
  unfold S_quote_one_J1
  rw[e1,e2,e3,e4]
  refine⟨λe=>?_,λe=>?_⟩
  ·have hc:b.toNat<low\/b.toNat>126:=by rw[e]at hv;exact of_decide_eq_true hv.symm
   have t1:(((b.toNat / 16+1:Nat):Int)).toNat=b.toNat / 16+1:=by omega
   have t2:(((b.toNat / 16:Nat):Int)).toNat=b.toNat / 16:=by omega
   have t3:(((b.toNat % 16+1:Nat):Int)).toNat=b.toNat % 16+1:=by omega
   have t4:(((b.toNat % 16:Nat):Int)).toNat=b.toNat % 16:=by omega
   have c1:=hex_cut _ q16
   have c2:=hex_cut _ r16
   rw[t1,t2,t3,t4,c1,c2]
   refine⟨by omega,by omega,by simp;omega,by simp,by omega,by omega,by simp;omega,by simp,?_⟩
   have:shownP signs low b=[92,120,hexC (b.toNat / 16),hexC (b.toNat % 16)]:=by unfold shownP;rw[if_neg n10,if_neg n9,if_pos hc]
   rw[this]at h;exact h
  ·have hc:¬(b.toNat<low\/b.toNat>126):=λq=>e (by rw[hv];exact decide_eq_true q)
   have hs:shownP signs low b=if b∈signs then[92,b] else[b]:=by unfold shownP;rw[if_neg n10,if_neg n9,if_neg hc]
   refine s_strings_IndexByte _ _ _ _ (indexByte_is signs b _ _ ⟨_,rfl,λhi=>⟨[b],rfl,by simp,?_⟩,λhi=>⟨[b],rfl,?_⟩⟩)
   ·have hm:=idxB_mem signs b
    rw[decide_eq_true hi]at hm
    rw[hs,if_pos (of_decide_eq_true hm.symm)]at h;exact h
   ·have hm:=idxB_mem signs b
    rw[decide_eq_false hi]at hm
    rw[hs,if_neg (of_decide_eq_false hm.symm)]at h;exact h
 unfold S_quote_one
 refine⟨λq=>?_,λn10=>⟨λq=>?_,λn9=>?_⟩⟩
 ·have:shownP signs low b=[92,110]:=by unfold shownP;rw[if_pos (by omega)]
  rw[this]at h;exact h
 ·have:shownP signs low b=[92,116]:=by unfold shownP;rw[if_neg (by omega),if_pos (by omega)]
  rw[this]at h;exact h
 have n10':b.toNat≠10:=by omega
 have n9':b.toNat≠9:=by omega
 refine⟨λh32=>⟨λhne=>j1 _ n10' n9' ?_,λhe=>⟨λhs=>j1 _ n10' n9' ?_,λhs=>j1 _ n10' n9' ?_⟩⟩,λh32=>j1 _ n10' n9' ?_⟩
 ·rw[eq_comm,decide_eq_true_iff]
  left;rw[hlow];split<;>omega
 ·rw[eq_comm,decide_eq_true_iff]
  left;rw[hlow,if_neg hs];omega
 ·have hs:signs=[39,92]:=by simpa using hs
  rw[hlow,if_pos hs,Bool.eq_iff_iff];simp;omega
 ·rw[hlow,Bool.eq_iff_iff];split<;>simp<;>omega
theorem digit_is (n:Nat) (hn:n<16) (M:Mem) (K:Value->Prop) (h:K (.string (mkS [hexC n]))):S_chaffref_digit (n:Int) M K:=by
 unfold S_chaffref_digit
 have t1:((n:Int)+1).toNat=n+1:=by omega
 have t2:((n:Int)).toNat=n:=by omega
 rw[t1,t2,hex_cut n hn]
 exact⟨by unfold InI;omega,by omega,by omega,by simp;omega,h⟩
theorem wrapB (b:UInt8):IntKind.wrap .u8 (b.toNat:Int)=(b.toNat:Int):=by
 have:=b.toNat_lt
 simp only[IntKind.wrap,IntKind.bits,IntKind.signed,Bool.false_and,Bool.false_eq_true,if_false]
 omega
theorem wrapI (b:UInt8):IntKind.wrap .i64 (b.toNat:Int)=(b.toNat:Int):=wrap_in (by have:=b.toNat_lt;unfold InI;omega)
theorem shown_is (b:UInt8) (signs:List UInt8) (low:Nat) (M:Mem) (K:Value->Prop) (h:K (.string (mkS (shownP signs low b)))):S_chaffref_shown (b.toNat:Int) signs low M K:=by
 have hb:=b.toNat_lt
 have j1:∀v:Bool,b.toNat≠10->b.toNat≠9->v=decide (b.toNat<low\/b.toNat>126)->S_chaffref_shown_J1 (b.toNat:Int) signs M v K:=by
  intro v n10 n9 hv
  have e1:(b.toNat:Int).tdiv 16=((b.toNat / 16:Nat):Int):=by rw[Int.tdiv_eq_ediv_of_nonneg (by omega)];omega
  have e2:(b.toNat:Int).tmod 16=((b.toNat % 16:Nat):Int):=by rw[Int.tmod_eq_emod_of_nonneg (by omega)];omega
  unfold S_chaffref_shown_J1
  rw[e1,e2,wrapB]
  refine⟨λe=>?_,λe=>?_⟩
  ·have hc:b.toNat<low\/b.toNat>126:=by rw[e]at hv;exact of_decide_eq_true hv.symm
   refine⟨by unfold InI;omega,s_chaffref_digit _ _ _ (digit_is _ (by omega) _ _ ⟨_,rfl,by simp,s_chaffref_digit _ _ _ (digit_is _ (by omega) _ _ ⟨_,rfl,by simp,?_⟩)⟩)⟩
   have:shownP signs low b=[92,120,hexC (b.toNat / 16),hexC (b.toNat % 16)]:=by unfold shownP;rw[if_neg n10,if_neg n9,if_pos hc]
   rw[this]at h;exact h
  ·have hc:¬(b.toNat<low\/b.toNat>126):=λq=>e (by rw[hv];exact decide_eq_true q)
   have hs:shownP signs low b=if b∈signs then[92,b] else[b]:=by unfold shownP;rw[if_neg n10,if_neg n9,if_neg hc]
   refine⟨[b],rfl,s_strings_Contains _ _ _ _ (contains1_is signs b _ _ ⟨_,rfl,λhi=>⟨[b],rfl,by simp,?_⟩,λhi=>⟨[b],rfl,?_⟩⟩)⟩
   ·rw[hs,if_pos (of_decide_eq_true hi)]at h;exact h
   ·have hi:decide (b∈signs)=false:=by simpa using hi
    rw[hs,if_neg (of_decide_eq_false hi)]at h;exact h
 unfold S_chaffref_shown
 refine⟨λq=>?_,λn10=>⟨λq=>?_,λn9=>⟨λq=>j1 _ (by omega) (by omega) ?_,λq=>j1 _ (by omega) (by omega) ?_⟩⟩⟩
 ·have:shownP signs low b=[92,110]:=by unfold shownP;rw[if_pos (by omega)]
  rw[this]at h;exact h
 ·have:shownP signs low b=[92,116]:=by unfold shownP;rw[if_neg (by omega),if_pos (by omega)]
  rw[this]at h;exact h
 ·rw[eq_comm,decide_eq_true_iff];left;omega
 ·rw[Bool.eq_iff_iff];simp;omega
end Go.Proofs.YtjecddabdlapbaaDoor.core

namespace Go.Proofs.YtjecddabdlapbaaDoor.core
open Go.Gx Go.RowKit Go.ChangeShapes Go.WideShapes Go.ChangeAt
set_option linter.unusedVariables false
def litP (s:List UInt8):List UInt8:=[39]++s.flatMap (shownP [39,92] 32)++[39]
theorem flat4 (signs:List UInt8) (low:Nat):∀s:List UInt8,(s.flatMap (shownP signs low)).length<=4*s.length
 |[]=>by simp
 |c::r=>by
  have h1:=shownP_len signs low c
  have h2:=flat4 signs low r
  rw[List.flatMap_cons,List.length_append,List.length_cons]
  omega
theorem flat_take {s:List UInt8} {i:Nat} {c:UInt8} (f:UInt8->List UInt8) (h:s[i]?=some c):(s.take (i+1)).flatMap f=(s.take i).flatMap f++f c:=by
 rw[take_get h,List.flatMap_append];simp
theorem qlit_is (s:List UInt8) (hl:s.length<=140737488355328) (M:Mem) (K:Value->Prop) (h:K (.string (mkS (litP s)))):S_quote_Lit s M K:=by
 unfold S_quote_Lit
 refine⟨λout i=>0<=i/\i<=s.length/\out=[39]++(s.take i.toNat).flatMap (shownP [39,92] 32),λ_ i=>s.length-i.toNat,⟨by omega,by omega,by simp⟩,?_⟩
 rintro out i ⟨h0,h1,rfl⟩
 have hlen:=flat4 [39,92] 32 (s.take i.toNat)
 have htl:(s.take i.toNat).length<=s.length:=by rw[List.length_take];omega
 refine⟨λhlt=>?_,λhge=>⟨?_,?_⟩⟩
 ·obtain⟨c,hc⟩:=getI h0 hlt
  have:=shownP_len [39,92] 32 c
  refine⟨c,h0,hc,s_quote_one _ _ _ _ (qone_is c [39,92] _ _ 32 rfl ⟨_,rfl,?_,by unfold InI;omega,⟨by omega,by omega,?_⟩,by dsimp only;omega⟩)⟩
  ·simp only[List.length_append,List.length_cons,List.length_nil];omega
  ·rw[show(i+1).toNat=i.toNat+1 by omega,flat_take _ hc,List.append_assoc]
 ·simp only[List.length_append,List.length_cons,List.length_nil];omega
 ·have:i.toNat=s.length:=by omega
  rw[this,List.take_length];exact h
theorem rlit_is (s:List UInt8) (hl:s.length<=140737488355328) (M:Mem) (K:Value->Prop) (h:K (.string (mkS (litP s)))):S_chaffref_Lit s M K:=by
 unfold S_chaffref_Lit
 refine⟨λout i=>0<=i/\i<=s.length/\out=[39]++(s.take i.toNat).flatMap (shownP [39,92] 32),λ_ i=>s.length-i.toNat,⟨by omega,by omega,by simp⟩,?_⟩
 rintro out i ⟨h0,h1,rfl⟩
 have hlen:=flat4 [39,92] 32 (s.take i.toNat)
 have htl:(s.take i.toNat).length<=s.length:=by rw[List.length_take];omega
 refine⟨λhlt=>?_,λhge=>⟨?_,?_⟩⟩
 ·obtain⟨c,hc⟩:=getI h0 hlt
  have:=shownP_len [39,92] 32 c
  refine⟨c,h0,hc,?_⟩
  rw[wrapI]
  refine s_chaffref_shown _ _ _ _ _ (shown_is c [39,92] 32 _ _ ⟨_,rfl,?_,by unfold InI;omega,⟨by omega,by omega,?_⟩,by dsimp only;omega⟩)
  ·simp only[List.length_append,List.length_cons,List.length_nil];omega
  ·rw[show(i+1).toNat=i.toNat+1 by omega,flat_take _ hc,List.append_assoc]
 ·simp only[List.length_append,List.length_cons,List.length_nil];omega
 ·have:i.toNat=s.length:=by omega
  rw[this,List.take_length];exact h
end Go.Proofs.YtjecddabdlapbaaDoor.core

namespace Go.Proofs.YtjecddabdlapbaaDoor.core
open Go.Gx Go.RowKit Go.ChangeShapes Go.WideShapes Go.ChangeAt
set_option linter.unusedVariables false
end Go.Proofs.YtjecddabdlapbaaDoor.core

namespace Go.Proofs.YtjecddabdlapbaaDoor.core
open Go.Gx Go.RowKit Go.ChangeShapes Go.WideShapes Go.ChangeAt
set_option linter.unusedVariables false
end Go.Proofs.YtjecddabdlapbaaDoor.core

namespace Go.Proofs.YtjecddabdlapbaaDoor.core
open Go.Gx Go.RowKit Go.ChangeShapes Go.WideShapes Go.ChangeAt
set_option linter.unusedVariables false
end Go.Proofs.YtjecddabdlapbaaDoor.core

namespace Go.Proofs.YtjecddabdlapbaaDoor.core
open Go.Gx Go.RowKit Go.ChangeShapes Go.WideShapes Go.ChangeAt
set_option linter.unusedVariables false
end Go.Proofs.YtjecddabdlapbaaDoor.core

namespace Go.Proofs.YtjecddabdlapbaaDoor.core
open Go.Gx Go.RowKit Go.ChangeShapes Go.WideShapes Go.ChangeAt
set_option linter.unusedVariables false
def fitP (c:X_api_Case):Int:=if c.Text.length>60 then 2 else if c.Kind=1\/c.Kind=2 then(if c.N≠0 then 1 else 0) else if c.Kind=4 then(if c.N<0\/c.N>c.Text.length then 1 else 0) else 1
theorem bfit_is (c:X_api_Case) {M:Mem} (K:Value->Prop) (hK:K (.int .i64 (fitP c))):S_book_fit c M K:=by
 have key:∀z,z=fitP c->K (.int .i64 z):=λz e=>e▸hK
 unfold S_book_fit S_book_fit_J1 S_book_fit_J2
 refine⟨λh=>key _ ?_,λh=>⟨λh1=>⟨λ_=>⟨λg=>key _ ?_,λg=>key _ ?_⟩,λg=>?_⟩,λh1=>⟨λh2=>⟨λg=>key _ ?_,λg=>key _ ?_⟩,λh2=>⟨λh4=>⟨λg=>⟨λ_=>key _ ?_,λq=>absurd rfl q⟩,λg=>⟨λq=>key _ ?_,λq=>key _ ?_⟩⟩,λh4=>key _ ?_⟩⟩⟩⟩
 ·unfold fitP;rw[if_pos (by omega)]
 ·unfold fitP;rw[if_neg (by omega),if_pos (.inl h1),if_pos g]
 ·unfold fitP;rw[if_neg (by omega),if_pos (.inl h1),if_neg g]
 ·simp at g;omega
 ·have h2:c.Kind=2:=by simpa using h2
  unfold fitP;rw[if_neg (by omega),if_pos (.inr h2),if_pos g]
 ·have h2:c.Kind=2:=by simpa using h2
  unfold fitP;rw[if_neg (by omega),if_pos (.inr h2),if_neg g]
 ·unfold fitP;rw[if_neg (by omega),if_neg (by omega),if_pos h4,if_pos (.inl g)]
 ·have q:c.N>c.Text.length:=by simpa using q
  unfold fitP;rw[if_neg (by omega),if_neg (by omega),if_pos h4,if_pos (.inr q)]
 ·have q:¬c.N>c.Text.length:=by simpa using q
  unfold fitP;rw[if_neg (by omega),if_neg (by omega),if_pos h4,if_neg (by omega)]
 ·have h2:c.Kind≠2:=by simpa using h2
  unfold fitP;rw[if_neg (by omega),if_neg (by omega),if_neg h4]
theorem rcase_is (c:X_api_Case) {M:Mem} (K:Value->Prop) (hK:K (.int .i64 (fitP c))):S_chaffref_Case c M K:=by
 have key:∀z,z=fitP c->K (.int .i64 z):=λz e=>e▸hK
 unfold S_chaffref_Case S_chaffref_Case_J1 S_chaffref_Case_J2
 refine⟨λh=>key _ (by unfold fitP;rw[if_pos (by omega)]),λh=>⟨λh4=>⟨λg=>⟨λq=>key _ ?_,λq=>⟨λh1=>by omega,λh1=>⟨λh2=>by omega,λh2=>⟨λe=>by simp at e,λ_=>key _ ?_⟩⟩⟩⟩,λg=>⟨λq=>by simp at q,λq=>⟨λh1=>by omega,λh1=>⟨λh2=>by omega,λh2=>⟨λe=>by simp at e,λ_=>key _ ?_⟩⟩⟩⟩⟩,λh4=>⟨λq=>by simp at q,λq=>⟨λh1=>⟨λe=>key _ ?_,λe=>key _ ?_⟩,λh1=>⟨λh2=>⟨λe=>key _ ?_,λe=>key _ ?_⟩,λh2=>⟨λe=>by simp at e,λ_=>key _ ?_⟩⟩⟩⟩⟩⟩
 ·have q:c.N<=c.Text.length:=by simpa using q
  unfold fitP;rw[if_neg (by omega),if_neg (by omega),if_pos h4,if_neg (by omega)]
 ·have q:¬c.N<=c.Text.length:=by simpa using q
  unfold fitP;rw[if_neg (by omega),if_neg (by omega),if_pos h4,if_pos (by omega)]
 ·unfold fitP;rw[if_neg (by omega),if_neg (by omega),if_pos h4,if_pos (by omega)]
 ·have e:c.N=0:=by simpa using e
  unfold fitP;rw[if_neg (by omega),if_pos (.inl h1),if_neg (by omega)]
 ·have e:c.N≠0:=by simpa using e
  unfold fitP;rw[if_neg (by omega),if_pos (.inl h1),if_pos e]
 ·have e:c.N=0:=by simpa using e
  unfold fitP;rw[if_neg (by omega),if_pos (.inr h2),if_neg (by omega)]
 ·have e:c.N≠0:=by simpa using e
  unfold fitP;rw[if_neg (by omega),if_pos (.inr h2),if_pos e]
 ·unfold fitP;rw[if_neg (by omega),if_neg (by omega),if_neg h4]
theorem Xc_len (x:X_api_Case):x.cells.length=3:=rfl
end Go.Proofs.YtjecddabdlapbaaDoor.core

