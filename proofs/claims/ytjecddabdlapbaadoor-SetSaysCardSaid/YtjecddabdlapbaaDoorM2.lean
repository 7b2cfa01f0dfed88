/- Contracts and what they hang on, of several parts. No condition. -/
import Derived.Test.YtjecddabdlapbaaDoorSetMG
namespace Go.Proofs.YtjecddabdlapbaaDoor.core
open Go.Gx Go.RowKit Go.ChangeShapes Go.WideShapes Go.ChangeAt
set_option linter.unusedVariables false
def wfS (s:X_api_Set):Prop:=(Lit.int .u64 s.w0).wf=true/\(Lit.int .u64 s.w1).wf=true/\(Lit.int .u64 s.w2).wf=true/\(Lit.int .u64 s.w3).wf=true
end Go.Proofs.YtjecddabdlapbaaDoor.core

namespace Go.Proofs.YtjecddabdlapbaaDoor.core
open Go.Gx Go.RowKit Go.ChangeShapes Go.WideShapes Go.ChangeAt
set_option linter.unusedVariables false
theorem wrapU (n:Nat) (h:n<2 ^ 64):IntKind.wrap .u64 (n:Int)=n:=by
 simp only[IntKind.wrap,IntKind.bits,IntKind.signed,Bool.false_and,Bool.false_eq_true,if_false]
 omega
theorem bvU (n:Nat) (h:n<2 ^ 64):(BitVec.ofInt 64 (n:Int)).toNat=n:=by
 rw[BitVec.ofInt_natCast,BitVec.toNat_ofNat,Nat.mod_eq_of_lt h]
theorem bOrU (a b:Nat) (ha:a<2 ^ 64) (hb:b<2 ^ 64):bOr .u64 a b=((a|||b:Nat):Int):=by
 show IntKind.wrap .u64 ((BitVec.ofInt 64 (a:Int)|||BitVec.ofInt 64 (b:Int)).toNat:Int)=_
 rw[BitVec.toNat_or,bvU a ha,bvU b hb,wrapU _ (Nat.or_lt_two_pow ha hb)]
theorem bAndU (a b:Nat) (ha:a<2 ^ 64) (hb:b<2 ^ 64):bAnd .u64 a b=((a&&& b:Nat):Int):=by
 show IntKind.wrap .u64 ((BitVec.ofInt 64 (a:Int)&&& BitVec.ofInt 64 (b:Int)).toNat:Int)=_
 rw[BitVec.toNat_and,bvU a ha,bvU b hb,wrapU _ (Nat.and_lt_two_pow a hb)]
theorem bShlU (k:Nat) (hk:k<64):bShl .u64 1 k=((2 ^ k:Nat):Int):=by
 show IntKind.wrap .u64 (1*2 ^ (min (k:Int).toNat 64))=_
 have:min (k:Int).toNat 64=k:=by omega
 rw[this,Int.one_mul]
 have h2:(2 ^ k:Nat)<2 ^ 64:=Nat.pow_lt_pow_right (by decide) hk
 have:=wrapU (2 ^ k) h2
 rw[Int.natCast_pow]at this ⊢
 exact this
theorem bShrU (a k:Nat) (hk:k<64):bShr .u64 a k=((a / 2 ^ k:Nat):Int):=by
 show(a:Int).fdiv (2 ^ (min (k:Int).toNat 64))=_
 have:min (k:Int).toNat 64=k:=by omega
 rw[this,Int.ofNat_fdiv,Int.natCast_pow];rfl
def Uw (p:Nat->Bool) (w:Nat):Nat->Nat
 |0=>0
 |j+1=>Uw p w j+(if p (64*w+j)=true then 2 ^ j else 0)
theorem Uw_lt (p:Nat->Bool) (w:Nat):∀j,Uw p w j<2 ^ j
 |0=>by simp[Uw]
 |j+1=>by
  have:=Uw_lt p w j
  simp only[Uw,Nat.pow_succ]
  split<;>omega
theorem Uw_bit (p:Nat->Bool) (w:Nat) (k:Nat):∀j,(Uw p w j).testBit k=(decide (k<j)&&p (64*w+k))
 |0=>by simp[Uw]
 |j+1=>by
  have ih:=Uw_bit p w k j
  have hlt:=Uw_lt p w j
  simp only[Uw]
  split
  ·rename_i hp
   have e:Uw p w j+2 ^ j=2 ^ j*1|||Uw p w j:=by
    rw[<-Nat.two_pow_add_eq_or_of_lt hlt 1];omega
   rw[e,Nat.mul_one,Nat.testBit_or,Nat.testBit_two_pow,ih]
   by_cases hk:j=k
   ·subst hk;simp[hp]
   ·have:(decide (k<j+1))=decide (k<j):=by congr 1;simp;omega
    rw[this];simp[hk]
  ·rename_i hp
   rw[Nat.add_zero,ih]
   by_cases hk:j=k
   ·subst hk;simp[hp]
   ·have:(decide (k<j+1))=decide (k<j):=by congr 1;simp;omega
    rw[this]
def hasW (s:List Nat) (b:Nat):Bool:=(s.getD (b / 64) 0).testBit (b % 64)
theorem word_ext {x y:Nat} (hx:x<2 ^ 64) (hy:y<2 ^ 64) (h:∀k,k<64->x.testBit k=y.testBit k):x=y:=by
 refine Nat.eq_of_testBit_eq λk=>?_
 by_cases hk:k<64
 ·exact h k hk
 ·have:2 ^ 64<=2 ^ k:=Nat.pow_le_pow_right (by decide) (by omega)
  rw[Nat.testBit_lt_two_pow (by omega),Nat.testBit_lt_two_pow (by omega)]
theorem word_is {x:Nat} (p:Nat->Bool) (w:Nat) (hx:x<2 ^ 64) (h:∀k,k<64->x.testBit k=p (64*w+k)):x=Uw p w 64:=
 word_ext hx (Uw_lt p w 64) λk hk=>by rw[h k hk,Uw_bit];simp[hk]
theorem hasW_at (s:List Nat) (w k:Nat) (hk:k<64):hasW s (64*w+k)=(s.getD w 0).testBit k:=by
 unfold hasW
 rw[show(64*w+k) / 64=w by omega,show(64*w+k) % 64=k by omega]
theorem has_bit (x k:Nat) (hk:k<64):((bShr .u64 (x:Int) (k:Int)).tmod 2==(1:Int))=x.testBit k:=by
 rw[bShrU x k hk,Nat.testBit_eq_decide_div_mod_eq,Int.tmod_eq_emod_of_nonneg (Int.natCast_nonneg _)]
 generalize x / 2 ^ k=y
 rw[Bool.eq_iff_iff,beq_iff_eq,decide_eq_true_iff]
 omega
def Us (p:Nat->Bool):X_api_Set:=⟨(Uw p 0 64:Nat),(Uw p 1 64:Nat),(Uw p 2 64:Nat),(Uw p 3 64:Nat)⟩
def bitS (s:X_api_Set) (b:Nat):Bool:=hasW [s.w0.toNat,s.w1.toNat,s.w2.toNat,s.w3.toNat] b
theorem nat_of {z:Int} (h:(Lit.int .u64 z).wf=true):∃n:Nat,z=n/\n<2 ^ 64:=by
 simp only[Lit.wf,IntKind.min,IntKind.max,Bool.and_eq_true]at h
 refine⟨z.toNat,?_,?_⟩<;>simp[IntKind.bits,IntKind.signed]at h<;>omega
theorem Us_congr {p q:Nat->Bool} (h:∀b,b<256->p b=q b):Us p=Us q:=by
 have key:∀(w:Nat),w<4->∀j,j<=64->Uw p w j=Uw q w j:=by
  intro w hw j
  induction j with
  |zero=>intro _;rfl
  |succ j ih=>intro hj;rw[Uw,Uw,ih (by omega),h (64*w+j) (by omega)]
 unfold Us
 rw[key 0 (by omega) 64 (by omega),key 1 (by omega) 64 (by omega),key 2 (by omega) 64 (by omega),key 3 (by omega) 64 (by omega)]
theorem bit_get {s:X_api_Set} (h:wfS s) {x:Nat} (hx:x<256):∃w:Nat,[s.w0,s.w1,s.w2,s.w3][x / 64]?=some (w:Int)/\w<2 ^ 64/\w.testBit (x % 64)=bitS s x:=by
 obtain⟨a,b,c,d⟩:=s
 obtain⟨h0,h1,h2,h3⟩:=h
 obtain⟨a,rfl,ha⟩:=nat_of h0
 obtain⟨b,rfl,hb⟩:=nat_of h1
 obtain⟨c,rfl,hc⟩:=nat_of h2
 obtain⟨d,rfl,hd⟩:=nat_of h3
 have hq:x / 64<4:=by omega
 have hx':=hasW_at [a,b,c,d] (x / 64) (x % 64) (by omega)
 rw[show 64*(x / 64)+x % 64=x by omega]at hx'
 match h:x / 64,hq with
 |0,_=>exact⟨a,rfl,ha,by rw[h]at hx';exact hx'.symm⟩
 |1,_=>exact⟨b,rfl,hb,by rw[h]at hx';exact hx'.symm⟩
 |2,_=>exact⟨c,rfl,hc,by rw[h]at hx';exact hx'.symm⟩
 |3,_=>exact⟨d,rfl,hd,by rw[h]at hx';exact hx'.symm⟩
theorem rhas_is {s:X_api_Set} (hs:wfS s) {x:Nat} (hx:x<256) {M:Mem} (K:Value->Prop) (h:K (.bool (bitS s x))):S_chaffref_Has s (x:Int) M K:=by
 unfold S_chaffref_Has
 have e1:(x:Int).tdiv 64=((x / 64:Nat):Int):=by rw[Int.tdiv_eq_ediv_of_nonneg (by omega)];omega
 have e2:(x:Int).tmod 64=((x % 64:Nat):Int):=by rw[Int.tmod_eq_emod_of_nonneg (by omega)];omega
 obtain⟨w,hw,_,hb⟩:=bit_get hs hx
 rw[e1,e2]
 refine⟨by unfold InI;omega,by omega,by omega,(w:Int),?_,by omega,?_⟩
 ·rw[show 0+(((x / 64:Nat):Int)).toNat*1=x / 64 by omega];exact hw
 ·rw[has_bit _ _ (by omega),hb];exact h
theorem u8_shift:∀n:Nat,n<256->bShr .u8 (n:Int) 6=((n / 64:Nat):Int)/\bAnd .u8 (n:Int) 63=((n % 64:Nat):Int):=by decide+kernel
theorem bit_one (w k:Nat) (hw:w<2 ^ 64) (hk:k<64):((bAnd .u64 (bShr .u64 (w:Int) (k:Int)) 1:Int)==(1:Int))=w.testBit k:=by
 rw[bShrU w k hk,Nat.testBit_eq_decide_div_mod_eq]
 have h1:w / 2 ^ k<2 ^ 64:=Nat.lt_of_le_of_lt (Nat.div_le_self _ _) hw
 rw[show(1:Int)=((1:Nat):Int) from rfl,bAndU _ _ h1 (by decide),Nat.and_one_is_mod]
 generalize w / 2 ^ k=y
 rw[Bool.eq_iff_iff,beq_iff_eq,decide_eq_true_iff]
 omega
theorem has_is {s:X_api_Set} (hs:wfS s) (c:UInt8) {M:Mem} (K:Value->Prop) (h:K (.bool (bitS s c.toNat))):S_set_Has s (c.toNat:Int) M K:=by
 have hc:=c.toNat_lt
 obtain⟨e1,e2⟩:=u8_shift c.toNat hc
 obtain⟨w,hw,hlt,hb⟩:=bit_get hs hc
 unfold S_set_Has
 rw[e1,e2]
 refine⟨by omega,by omega,(w:Int),?_,by omega,?_⟩
 ·rw[show 0+(((c.toNat / 64:Nat):Int)).toNat*1=c.toNat / 64 by omega];exact hw
 ·rw[bit_one _ _ hlt (by omega),hb];exact h
theorem where_is (fv:Value) (M:Mem) (p:Nat->Bool) (hp:∀x:Nat,x<256->CallF Tryd.prog fv [.int .i64 x] M (λv _=>v= .bool (p x))) (K:Value->Prop)
  (h:K (Us p).val):S_chaffref_Where fv M K:=by
 unfold S_chaffref_Where
 let Z:Nat->List Int:=λb=>[(Uw p 0 (min b 64):Nat),(Uw p 1 (min (b-64) 64):Nat),(Uw p 2 (min (b-128) 64):Nat),(Uw p 3 (min (b-192) 64):Nat)]
 refine⟨λb zs=>∃n:Nat,b=n/\n<=256/\zs=Z n,λb _=>256-b.toNat,⟨0,rfl,by omega,rfl⟩,λb zs ⟨n,hb,hn,hz⟩=>?_⟩
 subst hb
 subst hz
 refine⟨λhlt=>?_,λhge=>?_⟩
 ·have hlt':n<256:=by omega
  refine(hp n hlt').mono λv _ _ hv=>⟨p n,hv,λhpn=>?_,λhpn=>?_⟩
  ·have e1:(n:Int).tdiv 64=((n / 64:Nat):Int):=by rw[Int.tdiv_eq_ediv_of_nonneg (by omega)];omega
   have e2:(n:Int).tmod 64=((n % 64:Nat):Int):=by rw[Int.tmod_eq_emod_of_nonneg (by omega)];omega
   rw[e1,e2]
   have hq:n / 64<4:=by omega
   have ei:(0+(((n / 64:Nat):Int)).toNat*1)=n / 64:=by omega
   rw[ei]
   have hr:n % 64<64:=by omega
   have hU:=Uw_lt p (n / 64) (n % 64)
   have hpow:2 ^ (n % 64)<2 ^ 64:=Nat.pow_lt_pow_right (by decide) hr
   have hpow2:2 ^ (n % 64)*2<=2 ^ 64:=by rw[<-Nat.pow_succ];exact Nat.pow_le_pow_right (by decide) (by omega)
   have hget:(Z n)[n / 64]?=some ((Uw p (n / 64) (n % 64):Nat):Int):=by
    show[((Uw p 0 (min n 64):Nat):Int),(Uw p 1 (min (n-64) 64):Nat),(Uw p 2 (min (n-128) 64):Nat),(Uw p 3 (min (n-192) 64):Nat)][n / 64]?=_
    match h:n / 64,hq with
    |0,_=>rw[show min n 64=n % 64 by omega];rfl
    |1,_=>rw[show min (n-64) 64=n % 64 by omega];rfl
    |2,_=>rw[show min (n-128) 64=n % 64 by omega];rfl
    |3,_=>rw[show min (n-192) 64=n % 64 by omega];rfl
   refine⟨by unfold InI;omega,by omega,by omega,_,hget,by omega,by omega,by omega,by show n / 64<4;exact hq,?_⟩
   rw[bShlU _ hr]
   have hw:IntKind.wrap .u64 (((Uw p (n / 64) (n % 64):Nat):Int)+((2 ^ (n % 64):Nat):Int))=((Uw p (n / 64) (n % 64+1):Nat):Int):=by
    rw[<-Int.natCast_add,wrapU _ (by omega)]
    have:p (64*(n / 64)+n % 64)=true:=by rw[show 64*(n / 64)+n % 64=n by omega];exact hpn
    simp only[Uw,this,if_true]
   rw[hw]
   have hset:(Z n).set (n / 64) ((Uw p (n / 64) (n % 64+1):Nat):Int)=Z (n+1):=by
    show[((Uw p 0 (min n 64):Nat):Int),(Uw p 1 (min (n-64) 64):Nat),(Uw p 2 (min (n-128) 64):Nat),(Uw p 3 (min (n-192) 64):Nat)].set (n / 64) _=[((Uw p 0 (min (n+1) 64):Nat):Int),(Uw p 1 (min (n+1-64) 64):Nat),(Uw p 2 (min (n+1-128) 64):Nat),(Uw p 3 (min (n+1-192) 64):Nat)]
    match h:n / 64,hq with
    |0,_=>rw[show min (n+1) 64=n % 64+1 by omega,show min (n+1-64) 64=min (n-64) 64 by omega,show min (n+1-128) 64=min (n-128) 64 by omega,show min (n+1-192) 64=min (n-192) 64 by omega];rfl
    |1,_=>rw[show min (n+1-64) 64=n % 64+1 by omega,show min (n+1) 64=min n 64 by omega,show min (n+1-128) 64=min (n-128) 64 by omega,show min (n+1-192) 64=min (n-192) 64 by omega];rfl
    |2,_=>rw[show min (n+1-128) 64=n % 64+1 by omega,show min (n+1) 64=min n 64 by omega,show min (n+1-64) 64=min (n-64) 64 by omega,show min (n+1-192) 64=min (n-192) 64 by omega];rfl
    |3,_=>rw[show min (n+1-192) 64=n % 64+1 by omega,show min (n+1) 64=min n 64 by omega,show min (n+1-64) 64=min (n-64) 64 by omega,show min (n+1-128) 64=min (n-128) 64 by omega];rfl
   rw[hset]
   exact⟨by unfold InI;omega,⟨n+1,by omega,by omega,rfl⟩,by dsimp only;omega⟩
  ·have hpn':p n=false:=by simpa using hpn
   have hsame:∀w:Nat,Uw p w (min (n+1-64*w) 64)=Uw p w (min (n-64*w) 64):=by
    intro w
    by_cases h1:64*w<=n/\n<64*w+64
    ·rw[show min (n+1-64*w) 64=min (n-64*w) 64+1 by omega]
     simp only[Uw]
     rw[show 64*w+min (n-64*w) 64=n by omega,hpn']
     simp
    ·rw[show min (n+1-64*w) 64=min (n-64*w) 64 by omega]
   have hZ:Z n=Z (n+1):=by
    have h0:=hsame 0
    have h1:=hsame 1
    have h2:=hsame 2
    have h3:=hsame 3
    simp only[Nat.mul_zero,Nat.sub_zero,Nat.mul_one]at h0 h1 h2 h3
    show[((Uw p 0 (min n 64):Nat):Int),(Uw p 1 (min (n-64) 64):Nat),(Uw p 2 (min (n-128) 64):Nat),(Uw p 3 (min (n-192) 64):Nat)]=[((Uw p 0 (min (n+1) 64):Nat):Int),(Uw p 1 (min (n+1-64) 64):Nat),(Uw p 2 (min (n+1-128) 64):Nat),(Uw p 3 (min (n+1-192) 64):Nat)]
    rw[h0,h1,show min (n+1-128) 64=min (n+1-64*2) 64 by omega,h2,show min (n+1-192) 64=min (n+1-64*3) 64 by omega,h3]
   unfold S_chaffref_Where_J1
   exact⟨by unfold InI;omega,⟨n+1,by omega,by omega,hZ⟩,by dsimp only;omega⟩
 ·have hn:n=256:=by omega
  subst hn
  exact⟨_,_,_,_,rfl,rfl,_,_,_,_,rfl,h⟩
theorem Uw_congr {p q:Nat->Bool} {w:Nat} (h:∀k,k<64->p (64*w+k)=q (64*w+k)):Uw p w 64=Uw q w 64:=by
 have key:∀j,j<=64->Uw p w j=Uw q w j:=by
  intro j
  induction j with
  |zero=>intro _;rfl
  |succ j ih=>intro hj;rw[Uw,Uw,ih (by omega),h j (by omega)]
 exact key 64 (by omega)
def U4 (p:Nat->Bool):List Int:=[(Uw p 0 64:Nat),(Uw p 1 64:Nat),(Uw p 2 64:Nat),(Uw p 3 64:Nat)]
theorem U4_get (p:Nat->Bool) {w:Nat} (hw:w<4):(U4 p)[w]?=some ((Uw p w 64:Nat):Int):=by
 match w,hw with
 |0,_=>rfl
 |1,_=>rfl
 |2,_=>rfl
 |3,_=>rfl
theorem U4_set {p q:Nat->Bool} {w:Nat} (hw:w<4) (h:∀x,x<256->x / 64≠w->p x=q x):(U4 p).set w ((Uw q w 64:Nat):Int)=U4 q:=by
 have key:∀v,v<4->v≠w->Uw p v 64=Uw q v 64:=λv hv hne=>Uw_congr λk hk=>h _ (by omega) (by omega)
 match w,hw with
 |0,_=>show[_,_,_,_]=[_,_,_,_];rw[key 1 (by omega) (by omega),key 2 (by omega) (by omega),key 3 (by omega) (by omega)]
 |1,_=>show[_,_,_,_]=[_,_,_,_];rw[key 0 (by omega) (by omega),key 2 (by omega) (by omega),key 3 (by omega) (by omega)]
 |2,_=>show[_,_,_,_]=[_,_,_,_];rw[key 0 (by omega) (by omega),key 1 (by omega) (by omega),key 3 (by omega) (by omega)]
 |3,_=>show[_,_,_,_]=[_,_,_,_];rw[key 0 (by omega) (by omega),key 1 (by omega) (by omega),key 2 (by omega) (by omega)]
theorem i64_shift:∀n:Nat,n<256->bShr .i64 (n:Int) 6=((n / 64:Nat):Int)/\bAnd .i64 (n:Int) 63=((n % 64:Nat):Int):=by decide+kernel
def inR (low high:Int) (x:Nat):Bool:=decide (low<=x/\(x:Int)<=high)
theorem range_is (low high:Int) {M:Mem} (K:Value->Prop) (hK:K (Us (inR low high)).val):S_set_Range low high M K:=by
 unfold S_set_Range
 have hz:∀p:Nat->Bool,(∀x,x<256->p x=false)->U4 p=[0,0,0,0]:=λp hp=>by
  have key:∀w,w<4->Uw p w 64=0:=λw hw=>by
   have h1:Uw p w 64=Uw (λ_=>false) w 64:=Uw_congr λk hk=>hp _ (by omega)
   have h2:∀j,Uw (λ_=>false) w j=0:=by
    intro j
    induction j with
    |zero=>rfl
    |succ j ih=>rw[Uw,ih];simp
   rw[h1,h2]
  unfold U4
  rw[key 0 (by omega),key 1 (by omega),key 2 (by omega),key 3 (by omega)];rfl
 let pb:Int->Nat->Bool:=λb x=>decide (low<=x/\(x:Int)<b)
 refine⟨λb zs=>(if low>0 then low else 0)<=b/\(b=(if low>0 then low else 0)\/b<=(if high<255 then high else 255)+1)/\zs=U4 (pb b),λb _=>(256-b).toNat,⟨Int.le_refl _,.inl rfl,(hz _ λx _=>?_).symm⟩,λb zs ⟨h0,h1,h2⟩=>⟨λhlt=>?_,λhge=>?_⟩⟩
 ·simp only[pb,decide_eq_false_iff_not];split<;>omega
 ·subst h2
  have hb0:0<=b:=by split at h0<;>omega
  have hb1:b<=255:=by split at hlt<;>omega
  have hb2:low<=b:=by split at h0<;>omega
  obtain⟨n,rfl⟩:=Int.eq_ofNat_of_zero_le hb0
  have hn:n<256:=by omega
  obtain⟨e1,e2⟩:=i64_shift n hn
  rw[e1,e2]
  have hidx:0+(((n / 64:Nat):Int)).toNat*1=n / 64:=by omega
  rw[hidx]
  have hw4:n / 64<4:=by omega
  refine⟨by omega,by omega,_,U4_get _ hw4,by omega,by omega,by omega,by show n / 64<4;exact hw4,by unfold InI;omega,⟨?_,?_,?_⟩,by dsimp only;omega⟩
  ·split at h0<;>(split<;>omega)
  ·right;split at hlt<;>(split<;>omega)
  ·rw[bShlU _ (by omega),bOrU _ _ (Uw_lt _ _ _) (Nat.pow_lt_pow_right (by decide) (by omega))]
   have hword:(Uw (pb (n:Int)) (n / 64) 64|||2 ^ (n % 64))=Uw (pb ((n:Int)+1)) (n / 64) 64:=by
    refine word_is _ _ (Nat.or_lt_two_pow (Uw_lt _ _ _) (Nat.pow_lt_pow_right (by decide) (by omega))) λk hk=>?_
    rw[Nat.testBit_or,Uw_bit,Nat.testBit_two_pow]
    simp only[pb,hk,decide_true,Bool.true_and]
    rw[Bool.eq_iff_iff]
    simp only[Bool.or_eq_true,decide_eq_true_eq]
    omega
   rw[hword]
   exact U4_set hw4 λx hx hne=>by simp only[pb];rw[decide_eq_decide];omega
 ·subst h2
  refine⟨_,_,_,_,rfl,rfl,_,_,_,_,rfl,?_⟩
  have:Us (pb b)=Us (inR low high):=Us_congr λx hx=>by
   simp only[pb,inR];rw[decide_eq_decide]
   split at h0<;>split at h1<;>omega
  rw[<-this]at hK;exact hK
end Go.Proofs.YtjecddabdlapbaaDoor.core

namespace Go.Proofs.YtjecddabdlapbaaDoor.core
open Go.Gx Go.RowKit Go.ChangeShapes Go.WideShapes Go.ChangeAt
set_option linter.unusedVariables false
theorem split_and {a b c d:Nat} (ha:a<256) (hc:c<256):(a+256*b)&&& (c+256*d)=(a&&& c)+256*(b&&& d):=by
 have hac:a&&& c<256:=Nat.and_lt_two_pow (n:=8) _ hc
 refine Nat.eq_of_testBit_eq λi=>?_
 have e:∀(x y:Nat),x<256->(x+256*y).testBit i=if i<8 then x.testBit i else y.testBit (i-8):=by
  intro x y hx
  rw[show x+256*y=2 ^ 8*y+x by omega,Nat.testBit_two_pow_mul_add _ (by omega)]
 rw[Nat.testBit_and,e a b ha,e c d hc,e _ _ hac,Nat.testBit_and,Nat.testBit_and]
 split<;>rfl
def p8 (a:Nat):Nat:=a % 2+a / 2 % 2+a / 4 % 2+a / 8 % 2+a / 16 % 2+a / 32 % 2+a / 64 % 2+a / 128 % 2
def s1 (x m:Nat):Nat:=(x / 2&&& m)+(x&&& m)
def s2 (x m:Nat):Nat:=(x / 4&&& m)+(x&&& m)
def s3 (x m:Nat):Nat:=(x / 16+x)&&& m
theorem low1:∀(a:Fin 256) (k:Fin 2),(a.val / 2+128*k.val)&&& 85=a.val / 2&&& 85:=by decide+kernel
theorem low2:∀(a:Fin 256) (k:Fin 4),(a.val / 4+64*k.val)&&& 51=a.val / 4&&& 51:=by decide+kernel
theorem s1_step {a b m:Nat} (ha:a<256):s1 (a+256*b) (85+256*m)=s1 a 85+256*s1 b m:=by
 unfold s1
 rw[show(a+256*b) / 2=(a / 2+128*(b % 2))+256*(b / 2) by omega,split_and (by omega) (by omega),split_and ha (by omega)]
 have:=low1 ⟨a,ha⟩ ⟨b % 2,by omega⟩
 simp only at this
 rw[this];omega
theorem s2_step {a b m:Nat} (ha:a<256):s2 (a+256*b) (51+256*m)=s2 a 51+256*s2 b m:=by
 unfold s2
 rw[show(a+256*b) / 4=(a / 4+64*(b % 4))+256*(b / 4) by omega,split_and (by omega) (by omega),split_and ha (by omega)]
 have:=low2 ⟨a,ha⟩ ⟨b % 4,by omega⟩
 simp only at this
 rw[this];omega
theorem s1_lt:∀a:Fin 256,s1 a.val 85<256:=by decide+kernel
theorem s2_small:∀a:Fin 256,s2 (s1 a.val 85) 51 % 16<=4/\s2 (s1 a.val 85) 51 / 16<=4:=by decide+kernel
theorem low3k:∀(a:Fin 256) (k:Fin 16),k.val<=4->((s2 (s1 a.val 85) 51 / 16+s2 (s1 a.val 85) 51)+16*k.val)&&& 15=p8 a.val:=by decide+kernel
theorem s3_step {a b m:Nat} (ha:a<256) (hb:b % 16<=4):s3 (s2 (s1 a 85) 51+256*b) (15+256*m)=p8 a+256*s3 b m:=by
 have h1:=s2_small ⟨a,ha⟩
 have h2:=low3k ⟨a,ha⟩ ⟨b % 16,by omega⟩ hb
 simp only at h1 h2
 unfold s3
 rw[show(s2 (s1 a 85) 51+256*b) / 16+(s2 (s1 a 85) 51+256*b)=((s2 (s1 a 85) 51 / 16+s2 (s1 a 85) 51)+16*(b % 16))+256*(b / 16+b) by omega,split_and (by omega) (by omega),h2]
def msk (c:Nat):Nat->Nat
 |0=>0
 |n+1=>c+256*msk c n
def bys:List Nat->Nat
 |[]=>0
 |a::l=>a+256*bys l
theorem m85:msk 85 8=6148914691236517205:=by decide+kernel
theorem m51:msk 51 8=3689348814741910323:=by decide+kernel
theorem m15:msk 15 8=1085102592571150095:=by decide+kernel
theorem s1_bys:∀(l:List Nat),(∀a∈l,a<256)->s1 (bys l) (msk 85 l.length)=bys (l.map λa=>s1 a 85)
 |[],_=>by simp[s1,msk,bys]
 |a::l,h=>by
  rw[List.length_cons,msk,bys,s1_step (h a (by simp)),s1_bys l λx hx=>h x (by simp[hx])];rfl
theorem s2_bys:∀(l:List Nat),(∀a∈l,a<256)->s2 (bys l) (msk 51 l.length)=bys (l.map λa=>s2 a 51)
 |[],_=>by simp[s2,msk,bys]
 |a::l,h=>by
  rw[List.length_cons,msk,bys,s2_step (h a (by simp)),s2_bys l λx hx=>h x (by simp[hx])];rfl
theorem s3_bys:∀(l:List Nat),(∀a∈l,a<256)->s3 (bys (l.map λa=>s2 (s1 a 85) 51)) (msk 15 l.length)=bys (l.map p8)
 |[],_=>by simp[s3,msk,bys]
 |a::l,h=>by
  have ih:=s3_bys l λx hx=>h x (by simp[hx])
  have hb:bys (l.map λa=>s2 (s1 a 85) 51) % 16<=4:=by
   cases l with
   |nil=>simp[bys]
   |cons x r=>
    have:s2 (s1 x 85) 51 % 16<=4:=(s2_small ⟨x,h x (by simp)⟩).1
    simp only[List.map_cons,bys]
    omega
  rw[List.length_cons,msk,List.map_cons,bys,s3_step (h a (by simp)) hb,ih];rfl
theorem p8_le (a:Nat):p8 a<=8:=by unfold p8;omega
theorem sum1 (a0 a1 a2 a3 a4 a5 a6 a7:Nat):a0+256*(a1+256*(a2+256*(a3+256*(a4+256*(a5+256*(a6+256*(a7+256*0)))))))+(a1+256*(a2+256*(a3+256*(a4+256*(a5+256*(a6+256*a7))))))=((a0+a1)+256*(a1+a2))+65536*((a2+a3)+256*((a3+a4)+256*((a4+a5)+256*((a5+a6)+256*((a6+a7)+256*a7))))):=by omega
theorem sum2 (a0 a1 a2 a3 a4 a5 a6 a7:Nat):((a0+a1)+256*(a1+a2))+65536*((a2+a3)+256*((a3+a4)+256*((a4+a5)+256*((a5+a6)+256*((a6+a7)+256*a7)))))+((a2+a3)+256*((a3+a4)+256*((a4+a5)+256*((a5+a6)+256*((a6+a7)+256*a7)))))=
  ((a0+a1+a2+a3)+256*((a1+a2+a3+a4)+256*((a2+a3+a4+a5)+256*(a3+a4+a5+a6))))+4294967296*((a4+a5+a6+a7)+256*((a5+a6+a7)+256*((a6+a7)+256*a7))):=by omega
theorem sum3 (a0 a1 a2 a3 a4 a5 a6 a7:Nat):((a0+a1+a2+a3)+256*((a1+a2+a3+a4)+256*((a2+a3+a4+a5)+256*(a3+a4+a5+a6))))+4294967296*((a4+a5+a6+a7)+256*((a5+a6+a7)+256*((a6+a7)+256*a7)))+((a4+a5+a6+a7)+256*((a5+a6+a7)+256*((a6+a7)+256*a7)))=
  (a0+a1+a2+a3+a4+a5+a6+a7)+128*(2*((a1+a2+a3+a4+a5+a6+a7)+256*((a2+a3+a4+a5+a6+a7)+256*((a3+a4+a5+a6+a7)+256*((a4+a5+a6+a7)+256*((a5+a6+a7)+256*((a6+a7)+256*a7))))))):=by omega
theorem lo1 {a0 a1 a2:Nat} (q0:a0<=8) (q1:a1<=8) (q2:a2<=8):(a0+a1)+256*(a1+a2)<65536:=by omega
theorem lo2 {a0 a1 a2 a3 a4 a5 a6:Nat} (q0:a0<=8) (q1:a1<=8) (q2:a2<=8) (q3:a3<=8) (q4:a4<=8) (q5:a5<=8) (q6:a6<=8):(a0+a1+a2+a3)+256*((a1+a2+a3+a4)+256*((a2+a3+a4+a5)+256*(a3+a4+a5+a6)))<4294967296:=by omega
theorem lt7 {s0 s1 s2 s3 s4 s5 s6 s7:Nat} (h0:s0<=64) (h1:s1<=64) (h2:s2<=64) (h3:s3<=64) (h4:s4<=64) (h5:s5<=64) (h6:s6<=64) (h7:s7<=64):s0+256*(s1+256*(s2+256*(s3+256*(s4+256*(s5+256*(s6+256*s7))))))<2 ^ 64:=by omega
theorem re1 (s0 s1 z:Nat):s0+256*s1+65536*z=s0+256*(s1+256*z):=by omega
theorem re2 (s0 s1 s2 s3 z:Nat):s0+256*(s1+256*(s2+256*s3))+4294967296*z=s0+256*(s1+256*(s2+256*(s3+256*z))):=by omega
theorem re3 (s0 z:Nat):s0+128*(2*z)=s0+256*z:=by omega
theorem lo3 {a0 a1 a2 a3 a4 a5 a6 a7:Nat} (q0:a0<=8) (q1:a1<=8) (q2:a2<=8) (q3:a3<=8) (q4:a4<=8) (q5:a5<=8) (q6:a6<=8) (q7:a7<=8):a0+a1+a2+a3+a4+a5+a6+a7<128:=by omega
theorem div_at {a z k x:Nat} (hx:x=a+k*z) (h:a<k):x / k=z:=by
 rw[hx,Nat.add_mul_div_left _ _ (by omega),Nat.div_eq_of_lt h,Nat.zero_add]
theorem fin1 {a0 a1 a2 a3 a4 a5 a6 a7:Nat} (q0:a0<=8) (q1:a1<=8) (q2:a2<=8) (q3:a3<=8) (q4:a4<=8) (q5:a5<=8) (q6:a6<=8) (q7:a7<=8):((a0+a1)+256*(a1+a2))+65536*((a2+a3)+256*((a3+a4)+256*((a4+a5)+256*((a5+a6)+256*((a6+a7)+256*a7)))))<2 ^ 64:=by
 rw[re1];exact lt7 (by omega) (by omega) (by omega) (by omega) (by omega) (by omega) (by omega) (by omega)
theorem fin2 {a0 a1 a2 a3 a4 a5 a6 a7:Nat} (q0:a0<=8) (q1:a1<=8) (q2:a2<=8) (q3:a3<=8) (q4:a4<=8) (q5:a5<=8) (q6:a6<=8) (q7:a7<=8):((a0+a1+a2+a3)+256*((a1+a2+a3+a4)+256*((a2+a3+a4+a5)+256*(a3+a4+a5+a6))))+4294967296*((a4+a5+a6+a7)+256*((a5+a6+a7)+256*((a6+a7)+256*a7)))<2 ^ 64:=by
 rw[re2];exact lt7 (by omega) (by omega) (by omega) (by omega) (by omega) (by omega) (by omega) (by omega)
theorem fin3 {a0 a1 a2 a3 a4 a5 a6 a7:Nat} (q0:a0<=8) (q1:a1<=8) (q2:a2<=8) (q3:a3<=8) (q4:a4<=8) (q5:a5<=8) (q6:a6<=8) (q7:a7<=8):(a0+a1+a2+a3+a4+a5+a6+a7)+128*(2*((a1+a2+a3+a4+a5+a6+a7)+256*((a2+a3+a4+a5+a6+a7)+256*((a3+a4+a5+a6+a7)+256*((a4+a5+a6+a7)+256*((a5+a6+a7)+256*((a6+a7)+256*a7)))))))<2 ^ 64:=by
 rw[re3];exact lt7 (by omega) (by omega) (by omega) (by omega) (by omega) (by omega) (by omega) (by omega)
theorem sums {a0 a1 a2 a3 a4 a5 a6 a7 y y1 y2 y3:Nat} (hy:y=a0+256*(a1+256*(a2+256*(a3+256*(a4+256*(a5+256*(a6+256*(a7+256*0)))))))) (h1:y1=y+y / 256) (h2:y2=y1+y1 / 65536) (h3:y3=y2+y2 / 4294967296)
  (q0:a0<=8) (q1:a1<=8) (q2:a2<=8) (q3:a3<=8) (q4:a4<=8) (q5:a5<=8) (q6:a6<=8) (q7:a7<=8):y1<2 ^ 64/\y2<2 ^ 64/\y3<2 ^ 64/\y3 % 128=a0+a1+a2+a3+a4+a5+a6+a7:=by
 have d1:=div_at hy (by omega)
 rw[d1,hy,Nat.mul_zero,Nat.add_zero]at h1
 have h1:=h1.trans (sum1 a0 a1 a2 a3 a4 a5 a6 a7)
 have d2:=div_at h1 (lo1 q0 q1 q2)
 rw[d2,h1]at h2
 have h2:=h2.trans (sum2 a0 a1 a2 a3 a4 a5 a6 a7)
 have d3:=div_at h2 (lo2 q0 q1 q2 q3 q4 q5 q6)
 rw[d3,h2]at h3
 have h3:=h3.trans (sum3 a0 a1 a2 a3 a4 a5 a6 a7)
 exact⟨h1▸fin1 q0 q1 q2 q3 q4 q5 q6 q7,h2▸fin2 q0 q1 q2 q3 q4 q5 q6 q7,h3▸fin3 q0 q1 q2 q3 q4 q5 q6 q7,by rw[h3,Nat.add_mul_mod_self_left,Nat.mod_eq_of_lt (lo3 q0 q1 q2 q3 q4 q5 q6 q7)]⟩
theorem pop_plain {b0 b1 b2 b3 b4 b5 b6 b7:Nat} (h:∀a∈[b0,b1,b2,b3,b4,b5,b6,b7],a<256) {y y1 y2 y3:Nat}
  (hy:y=s3 (s2 (s1 (bys [b0,b1,b2,b3,b4,b5,b6,b7]) 6148914691236517205) 3689348814741910323) 1085102592571150095) (h1:y1=y+y / 256) (h2:y2=y1+y1 / 65536) (h3:y3=y2+y2 / 4294967296):
  y1<2 ^ 64/\y2<2 ^ 64/\y3<2 ^ 64/\y3 % 128=p8 b0+p8 b1+p8 b2+p8 b3+p8 b4+p8 b5+p8 b6+p8 b7:=by
 have e1:=s1_bys _ h
 have e2:=s2_bys ([b0,b1,b2,b3,b4,b5,b6,b7].map λa=>s1 a 85) (by
  intro a ha
  obtain⟨x,hx,rfl⟩:=List.mem_map.1 ha
  exact s1_lt ⟨x,h x hx⟩)
 rw[List.map_map]at e2
 have e3:=s3_bys _ h
 rw[show[b0,b1,b2,b3,b4,b5,b6,b7].length=8 from rfl,m85]at e1
 rw[List.length_map,show[b0,b1,b2,b3,b4,b5,b6,b7].length=8 from rfl,m51]at e2
 rw[show[b0,b1,b2,b3,b4,b5,b6,b7].length=8 from rfl,m15]at e3
 rw[e1,e2]at hy
 have hy:y=bys ([b0,b1,b2,b3,b4,b5,b6,b7].map p8):=hy.trans e3
 simp only[List.map_cons,List.map_nil,bys]at hy
 have q0:=p8_le b0;have q1:=p8_le b1;have q2:=p8_le b2;have q3:=p8_le b3;have q4:=p8_le b4;have q5:=p8_le b5;have q6:=p8_le b6;have q7:=p8_le b7
 generalize p8 b0=a0 at*;generalize p8 b1=a1 at*;generalize p8 b2=a2 at*;generalize p8 b3=a3 at*
 generalize p8 b4=a4 at*;generalize p8 b5=a5 at*;generalize p8 b6=a6 at*;generalize p8 b7=a7 at*
 clear e1 e2 e3 h
 exact sums hy h1 h2 h3 q0 q1 q2 q3 q4 q5 q6 q7
end Go.Proofs.YtjecddabdlapbaaDoor.core

namespace Go.Proofs.YtjecddabdlapbaaDoor.core
open Go.Gx Go.RowKit Go.ChangeShapes Go.WideShapes Go.ChangeAt
set_option linter.unusedVariables false
theorem two_odd:∀(x:Nat),0<x->∃k m,x=2 ^ k*(2*m+1):=by
 intro x
 induction x using Nat.strongRecOn with
 |_ x ih=>
  intro h
  by_cases he:x % 2=0
  ·obtain⟨k,m,e⟩:=ih (x / 2) (by omega) (by omega)
   refine⟨k+1,m,?_⟩
   rw[Nat.pow_succ,Nat.mul_right_comm,<-e];omega
  ·exact⟨0,x / 2,by omega⟩
theorem tz_plain {x:Nat} (h0:0<x) (hx:x<2 ^ 64):∃k,k<64/\x.testBit k=true/\(∀j,j<k->x.testBit j=false)/\x&&& (2 ^ 64-x)=2 ^ k:=by
 obtain⟨k,m,e⟩:=two_odd x h0
 have hp:0<2 ^ k:=Nat.two_pow_pos k
 have e1:x=2 ^ (k+1)*m+2 ^ k:=by rw[e,Nat.pow_succ,Nat.mul_add,Nat.mul_one,Nat.mul_assoc]
 have e2:x-1=2 ^ (k+1)*m+(2 ^ k-1):=by omega
 have hlt:2 ^ k<2 ^ (k+1):=Nat.pow_lt_pow_right (by decide) (by omega)
 have b1:∀j,x.testBit j=if j<k+1 then(2 ^ k).testBit j else m.testBit (j-(k+1)):=λj=>by
  rw[e1,Nat.testBit_two_pow_mul_add _ hlt]
 have b2:∀j,(x-1).testBit j=if j<k+1 then(2 ^ k-1).testBit j else m.testBit (j-(k+1)):=λj=>by
  rw[e2,Nat.testBit_two_pow_mul_add _ (by omega)]
 have hxk:x.testBit k=true:=by rw[b1,if_pos (by omega),Nat.testBit_two_pow];simp
 have hlow:∀j,j<k->x.testBit j=false:=λj hj=>by rw[b1,if_pos (by omega),Nat.testBit_two_pow];simp;omega
 have hk:k<64:=by
  rcases Nat.lt_or_ge k 64 with h|h
  ·exact h
  ·have:=Nat.testBit_lt_two_pow (Nat.lt_of_lt_of_le hx (Nat.pow_le_pow_right (by decide) h))
   rw[this]at hxk;cases hxk
 refine⟨k,hk,hxk,hlow,Nat.eq_of_testBit_eq λi=>?_⟩
 have hc:2 ^ 64-x=2 ^ 64-((x-1)+1):=by omega
 rw[Nat.testBit_and,hc,Nat.testBit_two_pow_sub_succ (by omega),b2,Nat.testBit_two_pow]
 rcases Nat.lt_trichotomy i k with h|h|h
 ·rw[hlow i h];simp;omega
 ·subst h
  rw[hxk,if_pos (by omega),Nat.testBit_two_pow_sub_one];simp;exact hk
 ·rw[b1,if_neg (by omega),if_neg (by omega)]
  have:¬k=i:=by omega
  simp[this]
  intro h1 _;exact h1
def dBru:Nat:=285870213051353865
def dTab:List Nat:=[0,1,56,2,57,49,28,3,61,58,42,50,38,29,17,4,62,47,59,36,45,43,51,22,53,39,33,30,24,18,12,5,63,55,48,27,60,41,37,16,46,35,44,21,52,32,23,11,54,26,40,15,34,20,31,10,25,14,19,9,13,8,7,6]
theorem dTab_at:∀k:Fin 64,2 ^ k.val*dBru % 2 ^ 64 / 2 ^ 58<64/\dTab[2 ^ k.val*dBru % 2 ^ 64 / 2 ^ 58]?=some k.val:=by decide+kernel
end Go.Proofs.YtjecddabdlapbaaDoor.core

namespace Go.Proofs.YtjecddabdlapbaaDoor.core
open Go.Gx Go.RowKit Go.ChangeShapes Go.WideShapes Go.ChangeAt
set_option linter.unusedVariables false
def cnt (x:Nat):Nat->Nat
 |0=>0
 |n+1=>cnt x n+x / 2 ^ n % 2
theorem cnt_eight (x i:Nat):cnt x (8*i+8)=cnt x (8*i)+p8 (x / 2 ^ (8*i) % 256):=by
 have e:∀j,x / 2 ^ (8*i+j)=x / 2 ^ (8*i) / 2 ^ j:=λj=>by rw[Nat.pow_add,Nat.div_div_eq_div_mul]
 have h1:=e 1;have h2:=e 2;have h3:=e 3;have h4:=e 4;have h5:=e 5;have h6:=e 6;have h7:=e 7
 simp only[cnt,h1,h2,h3,h4,h5,h6,h7]
 generalize x / 2 ^ (8*i)=y
 unfold p8
 omega
theorem bys8 (x:Nat) (hx:x<2 ^ 64):bys [x % 256,x / 2 ^ 8 % 256,x / 2 ^ 16 % 256,x / 2 ^ 24 % 256,x / 2 ^ 32 % 256,x / 2 ^ 40 % 256,x / 2 ^ 48 % 256,x / 2 ^ 56 % 256]=x:=by
 simp only[bys]
 omega
theorem cnt_word (x:Nat):cnt x 64=p8 (x % 256)+p8 (x / 2 ^ 8 % 256)+p8 (x / 2 ^ 16 % 256)+p8 (x / 2 ^ 24 % 256)+p8 (x / 2 ^ 32 % 256)+p8 (x / 2 ^ 40 % 256)+p8 (x / 2 ^ 48 % 256)+p8 (x / 2 ^ 56 % 256):=by
 have h0:=cnt_eight x 0;have h1:=cnt_eight x 1;have h2:=cnt_eight x 2;have h3:=cnt_eight x 3;have h4:=cnt_eight x 4;have h5:=cnt_eight x 5;have h6:=cnt_eight x 6;have h7:=cnt_eight x 7
 simp only[Nat.mul_zero,Nat.zero_add,Nat.pow_zero,Nat.div_one,show 8*1=8 from rfl,show 8*2=16 from rfl,show 8*3=24 from rfl,show 8*4=32 from rfl,show 8*5=40 from rfl,show 8*6=48 from rfl,show 8*7=56 from rfl,show 8+8=16 from rfl,show 16+8=24 from rfl,show 24+8=32 from rfl,show 32+8=40 from rfl,show 40+8=48 from rfl,show 48+8=56 from rfl,show 56+8=64 from rfl]at h0 h1 h2 h3 h4 h5 h6 h7
 have hz:cnt x 0=0:=rfl
 omega
theorem bys_lt:∀l:List Nat,(∀a∈l,a<256)->bys l<256 ^ l.length
 |[],_=>by simp[bys]
 |a::l,h=>by
  have ih:=bys_lt l λx hx=>h x (by simp[hx])
  have ha:=h a (by simp)
  rw[bys,List.length_cons,Nat.pow_succ];omega
theorem bytes8 (x:Nat):∀a∈[x % 256,x / 2 ^ 8 % 256,x / 2 ^ 16 % 256,x / 2 ^ 24 % 256,x / 2 ^ 32 % 256,x / 2 ^ 40 % 256,x / 2 ^ 48 % 256,x / 2 ^ 56 % 256],a<256:=by
 intro a ha
 simp only[List.mem_cons,List.mem_nil_iff,or_false]at ha
 rcases ha with h|h|h|h|h|h|h|h<;>rw[h]<;>exact Nat.mod_lt _ (by decide)
theorem s1_lt64 {x:Nat} (hx:x<2 ^ 64):s1 x 6148914691236517205<2 ^ 64:=by
 have h:=bytes8 x
 have e:=s1_bys _ h
 rw[bys8 x hx]at e
 simp only[List.length_cons,List.length_nil]at e
 rw[m85]at e
 rw[e]
 have:=bys_lt ([x % 256,x / 2 ^ 8 % 256,x / 2 ^ 16 % 256,x / 2 ^ 24 % 256,x / 2 ^ 32 % 256,x / 2 ^ 40 % 256,x / 2 ^ 48 % 256,x / 2 ^ 56 % 256].map λa=>s1 a 85) (by
  intro a ha
  obtain⟨y,hy,rfl⟩:=List.mem_map.1 ha
  exact s1_lt ⟨y,h y hy⟩)
 simpa using this
theorem s2_le (a:Nat) (h:a<256):s2 (s1 a 85) 51<=68:=by
 have:=s2_small ⟨a,h⟩
 simp only at this
 omega
theorem s2_lt63 {x:Nat} (hx:x<2 ^ 64):s2 (s1 x 6148914691236517205) 3689348814741910323<2 ^ 63:=by
 have h:=bytes8 x
 have e:=s1_bys _ h
 have e2:=s2_bys ([x % 256,x / 2 ^ 8 % 256,x / 2 ^ 16 % 256,x / 2 ^ 24 % 256,x / 2 ^ 32 % 256,x / 2 ^ 40 % 256,x / 2 ^ 48 % 256,x / 2 ^ 56 % 256].map λa=>s1 a 85) (by
  intro a ha
  obtain⟨y,hy,rfl⟩:=List.mem_map.1 ha
  exact s1_lt ⟨y,h y hy⟩)
 rw[bys8 x hx]at e
 simp only[List.length_cons,List.length_nil,List.length_map]at e e2
 rw[m85]at e
 rw[m51]at e2
 rw[e,e2,List.map_map]
 have k:∀y,s2 (s1 (y % 256) 85) 51<=68:=λy=>s2_le _ (Nat.mod_lt _ (by decide))
 simp only[List.map_cons,List.map_nil,bys,Function.comp]
 have k0:=k x;have k1:=k (x / 2 ^ 8);have k2:=k (x / 2 ^ 16);have k3:=k (x / 2 ^ 24);have k4:=k (x / 2 ^ 32);have k5:=k (x / 2 ^ 40);have k6:=k (x / 2 ^ 48);have k7:=k (x / 2 ^ 56)
 generalize s2 (s1 (x % 256) 85) 51=a0 at*;generalize s2 (s1 (x / 2 ^ 8 % 256) 85) 51=a1 at*;generalize s2 (s1 (x / 2 ^ 16 % 256) 85) 51=a2 at*;generalize s2 (s1 (x / 2 ^ 24 % 256) 85) 51=a3 at*
 generalize s2 (s1 (x / 2 ^ 32 % 256) 85) 51=a4 at*;generalize s2 (s1 (x / 2 ^ 40 % 256) 85) 51=a5 at*;generalize s2 (s1 (x / 2 ^ 48 % 256) 85) 51=a6 at*;generalize s2 (s1 (x / 2 ^ 56 % 256) 85) 51=a7 at*
 clear k e e2 h hx
 omega
theorem shrW (x k:Nat) (hk:k<64):bShr .u64 (x:Int) (k:Int)=((x / 2 ^ k:Nat):Int):=bShrU x k hk
theorem and_low (y:Nat) (hy:y<2 ^ 64):bAnd .i64 (IntKind.wrap .i64 (y:Int)) 127=((y % 128:Nat):Int):=by
 have h1:(BitVec.ofInt 64 (IntKind.wrap .i64 (y:Int))).toNat=y:=by
  rw[BitVec.toNat_ofInt]
  simp only[IntKind.wrap,IntKind.bits,IntKind.signed,Bool.true_and]
  split<;>simp_all<;>omega
 show IntKind.wrap .i64 ((BitVec.ofInt 64 (IntKind.wrap .i64 (y:Int))&&& BitVec.ofInt 64 (127:Int)).toNat:Int)=_
 have h2:(BitVec.ofInt 64 (127:Int)).toNat=2 ^ 7-1:=by decide
 rw[BitVec.toNat_and,h1,h2,Nat.and_two_pow_sub_one_eq_mod]
 exact wrap_in (by unfold InI;omega)
theorem ones_is {x:Nat} (hx:x<2 ^ 64) {M:Mem} (K:Value->Prop) (hK:K (.int .i64 (cnt x 64:Nat))):S_math_bits_OnesCount64 (x:Int) M K:=by
 unfold S_math_bits_OnesCount64
 have l1:=s1_lt64 hx
 have l2:=s2_lt63 hx
 have e1:IntKind.wrap .u64 ((bAnd .u64 (bShr .u64 (x:Int) 1) 6148914691236517205)+(bAnd .u64 (x:Int) 6148914691236517205))=((s1 x 6148914691236517205:Nat):Int):=by
  rw[show(1:Int)=((1:Nat):Int) from rfl,shrW x 1 (by decide),show(6148914691236517205:Int)=((6148914691236517205:Nat):Int) from rfl,bAndU _ _ (by omega) (by decide),bAndU _ _ hx (by decide),<-Int.natCast_add]
  exact wrapU _ l1
 rw[e1]
 generalize hy1:s1 x 6148914691236517205=z1 at*
 have e2:IntKind.wrap .u64 ((bAnd .u64 (bShr .u64 (z1:Int) 2) 3689348814741910323)+(bAnd .u64 (z1:Int) 3689348814741910323))=((s2 z1 3689348814741910323:Nat):Int):=by
  rw[show(2:Int)=((2:Nat):Int) from rfl,shrW z1 2 (by decide),show(3689348814741910323:Int)=((3689348814741910323:Nat):Int) from rfl,bAndU _ _ (by omega) (by decide),bAndU _ _ l1 (by decide),<-Int.natCast_add]
  exact wrapU _ (Nat.lt_trans l2 (by decide))
 rw[e2]
 generalize hy2:s2 z1 3689348814741910323=z2 at*
 have e3:bAnd .u64 (IntKind.wrap .u64 ((bShr .u64 (z2:Int) 4)+(z2:Int))) 1085102592571150095=((s3 z2 1085102592571150095:Nat):Int):=by
  rw[show(4:Int)=((4:Nat):Int) from rfl,shrW z2 4 (by decide),<-Int.natCast_add,wrapU _ (by omega),show(1085102592571150095:Int)=((1085102592571150095:Nat):Int) from rfl,bAndU _ _ (by omega) (by decide)];rfl
 rw[e3]
 generalize hy:s3 z2 1085102592571150095=y at*
 obtain⟨g1,g2,g3,g4⟩:=pop_plain (bytes8 x) (y:=y) (by rw[bys8 x hx,hy1,hy2,hy]) rfl rfl rfl
 have e4:IntKind.wrap .u64 ((y:Int)+bShr .u64 (y:Int) 8)=((y+y / 256:Nat):Int):=by
  rw[show(8:Int)=((8:Nat):Int) from rfl,shrW y 8 (by decide),<-Int.natCast_add];exact wrapU _ g1
 rw[e4]
 generalize y+y / 256=y1 at*
 have e5:IntKind.wrap .u64 ((y1:Int)+bShr .u64 (y1:Int) 16)=((y1+y1 / 65536:Nat):Int):=by
  rw[show(16:Int)=((16:Nat):Int) from rfl,shrW y1 16 (by decide),<-Int.natCast_add];exact wrapU _ g2
 rw[e5]
 generalize y1+y1 / 65536=y2 at*
 have e6:IntKind.wrap .u64 ((y2:Int)+bShr .u64 (y2:Int) 32)=((y2+y2 / 4294967296:Nat):Int):=by
  rw[show(32:Int)=((32:Nat):Int) from rfl,shrW y2 32 (by decide),<-Int.natCast_add];exact wrapU _ g3
 rw[e6,and_low _ g3,g4,<-cnt_word]
 exact hK
def upTo (p:Nat->Bool):Nat->List UInt8
 |0=>[]
 |n+1=>upTo p n++if p n=true then[n.toUInt8] else[]
theorem upTo_skip {p:Nat->Bool} {n:Nat}:∀{m:Nat},n<=m->(∀b,n<=b->b<m->p b=false)->upTo p m=upTo p n
 |0,h,_=>by rw[Nat.le_zero.1 h]
 |m+1,h,hp=>by
  rcases Nat.lt_or_ge n (m+1)with h'|h'
  ·rw[upTo,hp m (by omega) (by omega),upTo_skip (by omega) λb h1 h2=>hp b h1 (by omega)];simp
  ·rw[show m+1=n by omega]
theorem upTo_len {p:Nat->Bool} {q x:Nat} (hx:∀k,k<64->x.testBit k=p (64*q+k)):∀j,j<=64->(upTo p (64*q+j)).length=(upTo p (64*q)).length+cnt x j
 |0,_=>rfl
 |j+1,h=>by
  have ih:=upTo_len hx j (by omega)
  have hj:=hx j (by omega)
  rw[Nat.testBit_eq_decide_div_mod_eq]at hj
  rw[show 64*q+(j+1)=64*q+j+1 by omega,upTo,List.length_append,ih,cnt,<-hj]
  have h2:x / 2 ^ j % 2<2:=Nat.mod_lt _ (by decide)
  by_cases h1:x / 2 ^ j % 2=1
  ·simp[h1];omega
  ·have h0:x / 2 ^ j % 2=0:=by omega
   simp[h0]
theorem upTo_le (p:Nat->Bool):∀n,(upTo p n).length<=n
 |0=>Nat.le_refl _
 |n+1=>by have:=upTo_le p n;rw[upTo,List.length_append];split<;>simp<;>omega
theorem count_is {s:X_api_Set} (hs:wfS s) {M:Mem} (K:Value->Prop) (hK:K (.int .i64 ((upTo (bitS s) 256).length:Nat))):S_set_Count s M K:=by
 unfold S_set_Count
 refine⟨λn x=>∃q:Nat,x=q/\q<=4/\n=((upTo (bitS s) (64*q)).length:Nat),λn x=>(4-x).toNat,⟨0,rfl,by decide,rfl⟩,λn x ⟨q,hx,hq,hn⟩=>?_⟩
 subst hx;subst hn
 refine⟨λh=>?_,λh=>?_⟩
 ·obtain⟨w,hw,hw2,_⟩:=bit_get hs (x:=64*q) (by omega)
  rw[show 64*q / 64=q by omega]at hw
  have hb:∀k,k<64->w.testBit k=bitS s (64*q+k):=λk hk=>by
   obtain⟨w',hw',_,hb'⟩:=bit_get hs (x:=64*q+k) (by omega)
   rw[show(64*q+k) / 64=q by omega,hw]at hw'
   rw[show(64*q+k) % 64=k by omega]at hb'
   simp only[Option.some.injEq]at hw'
   have:w=w':=by omega
   rw[this];exact hb'
  refine⟨by omega,by omega,(w:Int),hw,s_math_bits_OnesCount64 _ _ _ (ones_is hw2 _ ⟨_,rfl,?_⟩)⟩
  have e:=upTo_len hb 64 (by omega)
  have l:=upTo_le (bitS s) (64*q+64)
  refine⟨by unfold InI;omega,by unfold InI;omega,⟨q+1,by omega,by omega,?_⟩,by dsimp only;omega⟩
  rw[show 64*(q+1)=64*q+64 by omega,e];omega
 ·obtain rfl:q=4:=by omega
  exact hK
def TabM (M:Mem) (g:Nat) (zs:List Nat):Prop:=∀i z:Nat,zs[i]?=some z->M.cell g i=some (.int .u8 (z:Int))
theorem TabM.le {M M':Mem} {g:Nat} {zs:List Nat} (h:TabM M g zs) (hl:M.le M'):TabM M' g zs:=λi z hz=>hl.cell (h i z hz)
theorem neg_word {x:Nat} (h0:0<x) (hx:x<2 ^ 64):IntKind.wrap .u64 (0-(x:Int))=((2 ^ 64-x:Nat):Int):=by
 simp only[IntKind.wrap,IntKind.bits,IntKind.signed,Bool.false_and,Bool.false_eq_true,if_false]
 omega
theorem wrap_word (n:Nat):IntKind.wrap .u64 (n:Int)=((n % 2 ^ 64:Nat):Int):=by
 simp only[IntKind.wrap,IntKind.bits,IntKind.signed,Bool.false_and,Bool.false_eq_true,if_false]
 omega
theorem tz_is {x:Nat} (h0:0<x) (hx:x<2 ^ 64) {M:Mem} (hT:TabM M 0 dTab) (K:Value->Prop) (hK:∀k:Nat,k<64->x.testBit k=true->(∀j,j<k->x.testBit j=false)->K (.int .i64 (k:Int))):S_math_bits_TrailingZeros64 (x:Int) M K:=by
 unfold S_math_bits_TrailingZeros64
 obtain⟨k,hk,h1,h2,h3⟩:=tz_plain h0 hx
 refine⟨λh=>by omega,λ_=>?_⟩
 obtain⟨g1,g2⟩:=dTab_at ⟨k,hk⟩
 simp only at g1 g2
 have e:bShr .u64 (IntKind.wrap .u64 ((bAnd .u64 (x:Int) (IntKind.wrap .u64 (0-(x:Int))))*285870213051353865)) 58=((2 ^ k*dBru % 2 ^ 64 / 2 ^ 58:Nat):Int):=by
  rw[neg_word h0 hx,bAndU _ _ hx (by omega),h3,show(285870213051353865:Int)=((dBru:Nat):Int) from rfl,<-Int.natCast_mul,wrap_word,show(58:Int)=((58:Nat):Int) from rfl,shrW _ 58 (by decide)]
 rw[e]
 refine⟨by omega,by omega,(k:Int),λj v hj=>?_,?_⟩
 ·have hj0:j=0:=by
   have:=(List.getElem?_eq_some_iff.1 hj).1
   simp at this;omega
  subst hj0
  simp only[List.getElem?_cons_zero,Option.some.injEq]at hj
  subst hj
  have:=hT _ _ g2
  rw[show 0+((2 ^ k*dBru % 2 ^ 64 / 2 ^ 58:Nat):Int).toNat*1+0=2 ^ k*dBru % 2 ^ 64 / 2 ^ 58 by omega]
  exact this
 ·rw[wrap_in (by unfold InI;omega)]
  exact hK k hk h1 h2
def FirstAt (p:Nat->Bool) (m:Int) (z:Int):Prop:=
 (z= -1/\∀b:Nat,m<=b->b<256->p b=false)\/∃b:Nat,z=b/\b<256/\m<=b/\p b=true/\∀c:Nat,m<=c->c<b->p c=false
theorem FirstAt.eq {p:Nat->Bool} {m z w:Int} (h:FirstAt p m z) (k:FirstAt p m w):z=w:=by
 rcases h with⟨rfl,h⟩|⟨b,rfl,hb,hm,hp,h⟩<;>rcases k with⟨rfl,k⟩|⟨c,rfl,hc,hn,hq,k⟩
 ·rfl
 ·rw[h c hn hc]at hq;cases hq
 ·rw[k b hm hb]at hp;cases hp
 ·rcases Nat.lt_trichotomy b c with e|e|e
  ·rw[k b hm e]at hp;cases hp
  ·rw[e]
  ·rw[h c hn e]at hq;cases hq
theorem shr6 (x:Nat):bShr .i64 (x:Int) 6=((x / 64:Nat):Int):=by
 show(x:Int).fdiv (2 ^ (min (6:Int).toNat 64))=_
 rw[show(2:Int) ^ (min (6:Int).toNat 64)=((64:Nat):Int) from rfl,Int.ofNat_fdiv]
theorem and63 (x:Nat) (hx:x<2 ^ 63):bAnd .i64 (x:Int) 63=((x % 64:Nat):Int):=by
 show IntKind.wrap .i64 ((BitVec.ofInt 64 (x:Int)&&& BitVec.ofInt 64 (63:Int)).toNat:Int)=_
 have h2:(BitVec.ofInt 64 (63:Int)).toNat=2 ^ 6-1:=by decide
 rw[BitVec.toNat_and,bvU x (by omega),h2,Nat.and_two_pow_sub_one_eq_mod]
 exact wrap_in (by unfold InI;omega)
theorem shl6 (x:Nat) (hx:x<4):bShl .i64 (x:Int) 6=((64*x:Nat):Int):=by
 show IntKind.wrap .i64 ((x:Int)*2 ^ (min (6:Int).toNat 64))=_
 rw[show(2:Int) ^ (min (6:Int).toNat 64)=64 from rfl]
 have:=wrap_in (x:=(x:Int)*64) (by unfold InI;omega)
 rw[this];omega
theorem struck (w k:Nat) (hw:w<2 ^ 64) (hk:k<64):∃v:Nat,bShl .u64 (bShr .u64 (w:Int) (k:Int)) (k:Int)=(v:Int)/\v<2 ^ 64/\∀j,j<64->v.testBit j=(decide (k<=j)&&w.testBit j):=by
 refine⟨w / 2 ^ k*2 ^ k,?_,?_,λj hj=>?_⟩
 ·rw[shrW w k hk]
  show IntKind.wrap .u64 (((w / 2 ^ k:Nat):Int)*2 ^ (min (k:Int).toNat 64))=_
  have:min (k:Int).toNat 64=k:=by omega
  rw[this]
  have h2:=wrapU (w / 2 ^ k*2 ^ k) (Nat.lt_of_le_of_lt (Nat.div_mul_le_self _ _) hw)
  rw[<-h2,Int.natCast_mul,Int.natCast_pow];rfl
 ·exact Nat.lt_of_le_of_lt (Nat.div_mul_le_self _ _) hw
 ·rw[Nat.mul_comm,Nat.testBit_two_pow_mul,Nat.testBit_div_two_pow]
  by_cases h:k<=j
  ·simp[h,show j-k+k=j by omega]
  ·simp[h]
theorem first_is {s:X_api_Set} (hs:wfS s) {m:Int} (hm:m<=9223372036854775807) {M:Mem} (hT:TabM M 0 dTab) (K:Value->Prop) (hK:∀z,FirstAt (bitS s) m z->K (.int .i64 z)):S_set_First s m M K:=by
 unfold S_set_First
 obtain⟨f,hf⟩:∃f:Nat,(if m>0 then m else 0)=(f:Int):=⟨(if m>0 then m else 0).toNat,by split<;>omega⟩
 have hfm:∀b:Nat,m<=b↔f<=b:=λb=>by split at hf<;>omega
 have hf63:f<2 ^ 63:=by split at hf<;>omega
 simp only[hf,shr6,and63 f hf63]
 have hKn:(∀b:Nat,f<=b->b<256->bitS s b=false)->K (.int .i64 (-1)):=λh=>hK _ (.inl ⟨rfl,λb h1 h2=>h b ((hfm b).1 h1) h2⟩)
 have hKs:∀b:Nat,b<256->f<=b->bitS s b=true->(∀c:Nat,f<=c->c<b->bitS s c=false)->K (.int .i64 (b:Int)):=λb h1 h2 h3 h4=>
  hK _ (.inr ⟨b,rfl,h1,(hfm b).2 h2,h3,λc g1 g2=>h4 c ((hfm c).1 g1) g2⟩)
 clear hK hfm hf hm
 refine⟨λi=>∃q:Nat,i=q/\f / 64<=q/\∀b:Nat,f<=b->b<64*q->b<256->bitS s b=false,λi=>(4-i).toNat,⟨f / 64,rfl,Nat.le_refl _,λb h1 h2 _=>by omega⟩,λi ⟨q,hi,hq,hno⟩=>?_⟩
 subst hi
 refine⟨λh=>?_,λh=>hKn λb h1 h2=>hno b h1 (by omega) h2⟩
 obtain⟨w,hw,hw2,_⟩:=bit_get hs (x:=64*q) (by omega)
 rw[show 64*q / 64=q by omega]at hw
 have hb:∀k,k<64->w.testBit k=bitS s (64*q+k):=λk hk=>by
  obtain⟨w',hw',_,hb'⟩:=bit_get hs (x:=64*q+k) (by omega)
  rw[show(64*q+k) / 64=q by omega,hw]at hw'
  rw[show(64*q+k) % 64=k by omega]at hb'
  simp only[Option.some.injEq]at hw'
  have:w=w':=by omega
  rw[this];exact hb'
 have key:∀v:Nat,v<2 ^ 64->(∀j,j<64->v.testBit j=(decide (f<=64*q+j)&&bitS s (64*q+j)))->
   S_set_First_J1 M (q:Int) (λi=>∃q:Nat,i=q/\f / 64<=q/\∀b:Nat,f<=b->b<64*q->b<256->bitS s b=false) (λi=>(4-i).toNat) (v:Int) K:=λv hv hbit=>by
  unfold S_set_First_J1
  refine⟨λhne=>?_,λheq=>⟨by unfold InI;omega,⟨q+1,by omega,by omega,λb h1 h2 h3=>?_⟩,by dsimp only;omega⟩⟩
  ·refine s_math_bits_TrailingZeros64 _ _ _ (tz_is (by omega) hv hT _ λk hk h1 h2=>⟨_,rfl,?_⟩)
   have h3:=hbit k hk
   rw[h1]at h3
   simp only[Bool.true_eq,Bool.and_eq_true,decide_eq_true_eq]at h3
   rw[shl6 q (by omega),<-Int.natCast_add]
   refine⟨by unfold InI;omega,hKs _ (by omega) h3.1 h3.2 λc g1 g2=>?_⟩
   by_cases hc:c<64*q
   ·exact hno c g1 hc (by omega)
   ·have h4:=hbit (c-64*q) (by omega)
    rw[h2 _ (by omega),show 64*q+(c-64*q)=c by omega]at h4
    simpa[g1]using h4
  ·by_cases hc:b<64*q
   ·exact hno b h1 hc h3
   ·have h4:=hbit (b-64*q) (by omega)
    have hv0:v=0:=by
     have:=Classical.not_not.1 heq
     omega
    rw[hv0,Nat.zero_testBit,show 64*q+(b-64*q)=b by omega]at h4
    simpa[h1]using h4
 refine⟨by omega,by omega,(w:Int),by rw[show 0+(q:Int).toNat*1=q by omega];exact hw,λhe=>?_,λhne=>?_⟩
 ·obtain⟨v,e,hv,hbit⟩:=struck w (f % 64) hw2 (by omega)
  refine⟨by omega,by omega,?_⟩
  rw[e]
  refine key v hv λj hj=>?_
  rw[hbit j hj,hb j hj]
  congr 1
  rw[decide_eq_decide];omega
 ·refine key w hw2 λj hj=>?_
  rw[hb j hj,show decide (f<=64*q+j)=true by simp;omega];rfl
theorem firstAt_upTo {p:Nat->Bool} {n b:Nat} (hb:FirstAt p (n:Int) (b:Int)):n<=b/\b<256/\upTo p (b+1)=upTo p n++[b.toUInt8]:=by
 rcases hb with⟨h,_⟩|⟨c,hc,h1,h2,h3,h4⟩
 ·omega
 ·obtain rfl:b=c:=by omega
  refine⟨by omega,h1,?_⟩
  rw[upTo,h3,upTo_skip (n:=n) (by omega) λc g1 g2=>h4 c (by omega) g2];rfl
theorem firstAt_end {p:Nat->Bool} {n:Nat} (hn:n<=256) (hb:FirstAt p (n:Int) (-1)):upTo p 256=upTo p n:=by
 rcases hb with⟨_,h⟩|⟨c,hc,_⟩
 ·exact upTo_skip hn λb h1 h2=>h b (by omega) h2
 ·omega
theorem wrap8 (b:Nat) (h:b<256):IntKind.wrap .u8 (b:Int)=((b.toUInt8.toNat:Nat):Int):=by
 have e:b.toUInt8.toNat=b:=by simp[Nat.toUInt8];omega
 rw[e]
 simp only[IntKind.wrap,IntKind.bits,IntKind.signed,Bool.false_and,Bool.false_eq_true,if_false]
 omega
theorem sbytes_is {s:X_api_Set} (hs:wfS s) {M:Mem} (hT:TabM M 0 dTab) (K:Value->Prop) (hK:K (.string (mkS (upTo (bitS s) 256)))):S_set_Bytes s M K:=by
 unfold S_set_Bytes
 refine s_set_First _ _ _ _ (first_is hs (by decide) hT _ λz hz=>⟨z,rfl,λb rn rx=>∃n:Nat,n<=256/\FirstAt (bitS s) n b/\rx=bytesV (upTo (bitS s) n)/\rn=(upTo (bitS s) n).length,λb _ _=>if 0<=b then(256-b).toNat else 0,⟨0,by decide,hz,rfl,rfl⟩,λb rn rx ⟨n,hn,hb,hx,hr⟩=>?_⟩)
 subst hx;subst hr
 refine⟨λh0=>?_,λh0=>?_⟩
 ·obtain⟨c,rfl⟩:=Int.eq_ofNat_of_zero_le h0
  obtain⟨g1,g2,g3⟩:=firstAt_upTo hb
  have hl:=upTo_le (bitS s) n
  have hl2:(upTo (bitS s) (c+1)).length=(upTo (bitS s) n).length+1:=by rw[g3,List.length_append];rfl
  refine⟨by omega,by unfold InI;omega,s_set_First _ _ _ _ (first_is hs (by omega) hT _ λz hz=>⟨z,rfl,⟨c+1,by omega,hz,?_,hl2.symm⟩,?_⟩)⟩
  ·rw[g3,wrap8 c g2];simp[bytesV]
  ·dsimp only
   rcases hz with⟨rfl,_⟩|⟨d,rfl,hd,hd2,_⟩
   ·rw[if_neg (by omega),if_pos (by omega)];omega
   ·rw[if_pos (by omega),if_pos (by omega)];omega
 ·have:b= -1:=by
   rcases hb with⟨h,_⟩|⟨c,hc,_⟩
   ·exact h
   ·omega
  subst this
  refine⟨_,rfl,?_⟩
  rw[<-firstAt_end hn hb]
  exact hK
theorem rbytes_is {s:X_api_Set} (hs:wfS s) {M:Mem} (K:Value->Prop) (hK:K (.string (mkS (upTo (bitS s) 256)))):S_chaffref_Bytes s M K:=by
 unfold S_chaffref_Bytes
 refine⟨λx rn rx=>∃n:Nat,x=n/\n<=256/\rx=bytesV (upTo (bitS s) n)/\rn=(upTo (bitS s) n).length,λx _ _=>(256-x).toNat,⟨0,rfl,by decide,rfl,rfl⟩,λx rn rx ⟨n,hx,hn,hx2,hr⟩=>?_⟩
 subst hx;subst hx2;subst hr
 have hl:=upTo_le (bitS s) n
 refine⟨λh=>s_chaffref_Has _ _ _ _ (rhas_is hs (by omega) _ ⟨_,rfl,λhb=>⟨by omega,?_⟩,λhb=>?_⟩),λh=>?_⟩
 ·refine⟨by unfold InI;omega,⟨n+1,by omega,by omega,?_,?_⟩,by dsimp only;omega⟩
  ·rw[upTo,if_pos hb,wrap8 n (by omega)];simp[bytesV]
  ·rw[upTo,if_pos hb,List.length_append];rfl
 ·refine⟨by unfold InI;omega,⟨n+1,by omega,by omega,?_,?_⟩,by dsimp only;omega⟩
  ·rw[upTo,if_neg hb,List.append_nil]
  ·rw[upTo,if_neg hb,List.append_nil]
 ·obtain rfl:n=256:=by omega
  exact⟨_,rfl,hK⟩
end Go.Proofs.YtjecddabdlapbaaDoor.core

