/- Contracts and what they hang on, of several parts. No condition. -/
import Derived.Test.YtleaplmdgckmkaaGreatDoorM6
import Derived.Test.YtleaplmdgckmkaaGreatDoorCoreX
import Derived.Lib.Join
import Derived.Test.YtleaplmdgckmkaaGreatDoorM3
import Derived.Test.YtleaplmdgckmkaaGreatDoorWellG
import Derived.Test.YtleaplmdgckmkaaGreatDoorM4
import Derived.Test.YtleaplmdgckmkaaGreatDoorM2
import Derived.Test.YtleaplmdgckmkaaGreatDoorPackG
namespace Go.Proofs.YtleaplmdgckmkaaGreatDoor.core
open Go.Gx Go.RowKit Go.ChangeShapes Go.WideShapes Go.ChangeAt
set_option linter.unusedVariables false
def qlY (s:List UInt8) (rs:List Ru) (n x:Int):Prop:=
 (2000<s.length/\rs=[]/\n=0/\x=2)\/(s.length<=2000/\∃r k,Rl (kdT (qcs s true 2001 0)) (exT (qcs s true 2001 0)) (nmT (qcs s true 2001 0)) [] 0 r k/\
  ((r=none/\rs=[]/\n=atT (qcs s true 2001 0) k/\x=4)\/∃rs',r=some rs'/\((qaZ rs'≠0/\rs=[]/\n=0/\x=qaZ rs')\/(qaZ rs'=0/\rs=rs'/\n=0/\x=0))))
theorem qrU (M:Mem):GrR M [] none 0 0:=⟨[],⟨rfl,Nat.le_refl _,by decide,λg=>by simp at g⟩,rfl,rfl⟩
theorem qlP {s:List UInt8} {rs:List Ru} {n x:Int} (h:qlY s rs n x) {M:Mem} (K:Value->Mem->Prop) (hK:∀M' A c,M.le M'->GrR M' rs A rs.length c->K (.tuple #[.agg #[.slice A rs.length c],.int .i64 n,.int .i64 x]) M'):qgH s M K:=by
 rcases h with⟨hl,rfl,rfl,rfl⟩|⟨hs,r,k,hp,h⟩
 ·exact⟨λ_ M3 h3 _ M' hle=>hK M' none 0 (h3.trans hle) (qrU M'),λg=>absurd (by omega) g⟩
 ·refine⟨λg=>by omega,λ_=>?_⟩
  have nul:∀M1 (m z:Int),M.le M1->rs=[]->n=m->x=z->∀M2,M1.le M2->SlV M2 none 0 0 8 []->∀M',M2.le M'->K (.tuple #[.agg #[.slice none 0 0],.int .i64 m,.int .i64 z]) M':=λM1 m z h1 he hn hx M2 h2 _ M' hle=>by
   subst he hn hx
   exact hK M' none 0 ((h1.trans h2).trans hle) (qrU M')
  refine(qqX (M:=M) hs hp (λv M'=>M.le M'->_) (λrs' he' M' A c hle hg _=>?_) (λhn M' A l c hle=>?_)).mono (λv M' hle hv=>hv hle)
  ·refine⟨A,_,c,_,_,rfl,λg=>absurd rfl g,λ_=>qek _ _ _ _ _ (qha hg _ ⟨_,rfl,λh0=>?_,λh0=>?_⟩)⟩
   ·rcases h with⟨g,_⟩|⟨e2,g1,⟨g3,g4,g5,g6⟩|⟨g3,_⟩⟩
    ·rw[he']at g;cases g
    ·have:e2=rs':=by rw[he']at g1;cases g1;rfl
     subst this
     exact nul M' 0 _ hle g4 g5 g6
    ·have:e2=rs':=by rw[he']at g1;cases g1;rfl
     subst this
     exact absurd g3 h0
   ·intro M'' hle'
    have h0:qaZ rs'=0:=Classical.not_not.1 h0
    rcases h with⟨g,_⟩|⟨e2,g1,⟨g3,_⟩|⟨g3,g4,g5,g6⟩⟩
    ·rw[he']at g;cases g
    ·have:e2=rs':=by rw[he']at g1;cases g1;rfl
     subst this
     exact absurd h0 g3
    ·have:e2=rs':=by rw[he']at g1;cases g1;rfl
     subst this
     subst g4 g5 g6
     exact hK M'' A c (hle.trans hle') (hg.le hle')
  ·rcases h with⟨_,g1,g2,g3⟩|⟨e2,g1,_⟩
   ·exact⟨A,l,c,_,_,rfl,λ_=>nul M' _ _ hle g1 g2 g3,λg=>absurd (by decide) g⟩
   ·rw[hn]at g1;cases g1
end Go.Proofs.YtleaplmdgckmkaaGreatDoor.core
namespace Go.Proofs.YtleaplmdgckmkaaGreatDoor.core
open Go.Gx Go.RowKit Go.ChangeShapes Go.WideShapes Go.ChangeAt
set_option linter.unusedVariables false
theorem qnq:∀i:Nat,i<16->qfx (qro i)=i:=by decide+kernel
theorem qsi {b:UInt8} {n:Nat} (h:b.toNat=n):b=n.toUInt8:=by
 apply UInt8.toNat_inj.1
 have:=b.toNat_lt
 rw[h]
 show n=n % 256
 omega
theorem qjE {sg sg':List UInt8} {low:Nat} (hsub:∀c∈sg',c∈sg) (h92:(92:UInt8)∈sg') (hn:∀c∈sg,c.toNat≠110/\c.toNat≠116/\c.toNat≠120) (b:UInt8) (rest:List UInt8):
  qaX sg (qbz sg' low b++rest)=((b.toNat:Int),((qbz sg' low b).length:Int)):=by
 have hb:=b.toNat_lt
 unfold qbz
 by_cases h1:b.toNat=10
 ·rw[if_pos h1]
  show qaX sg (92::110::rest)=_
  rw[qfC _ _ _ _ rfl,if_pos (by decide),h1];rfl
 rw[if_neg h1]
 by_cases h2:b.toNat=9
 ·rw[if_pos h2]
  show qaX sg (92::116::rest)=_
  rw[qfC _ _ _ _ rfl,if_neg (by decide),if_pos (by decide),h2];rfl
 rw[if_neg h2]
 by_cases h3:b.toNat<low\/b.toNat>126
 ·rw[if_pos h3]
  show qaX sg (92::120::qro (b.toNat / 16)::qro (b.toNat % 16)::rest)=_
  rw[qfC _ _ _ _ rfl,if_neg (by decide),if_neg (by decide),if_neg (λh=>(hn _ h).2.2 rfl),if_pos (by decide)]
  have e1:=qnq (b.toNat / 16) (by omega)
  have e2:=qnq (b.toNat % 16) (by omega)
  dsimp only
  rw[e1,e2,if_pos ⟨by omega,by omega⟩]
  simp only[List.length_cons,List.length_nil]
  congr 1
  omega
 rw[if_neg h3]
 by_cases h4:b∈sg'
 ·rw[if_pos h4]
  show qaX sg (92::b::rest)=_
  have:=hn _ (hsub _ h4)
  rw[qfC _ _ _ _ rfl,if_neg this.1,if_neg this.2.1,if_pos (hsub _ h4)];rfl
 ·rw[if_neg h4]
  show qaX sg (b::rest)=_
  rw[qeI,if_neg h1,if_pos (λh=>h4 (by rw[qsi h];exact h92))];rfl
theorem qjC (sg':List UInt8) (low:Nat) (b:UInt8):∃c r,qbz sg' low b=c::r/\(c=92\/(c=b/\b∉sg')):=by
 unfold qbz
 split
 ·exact⟨_,_,rfl,.inl rfl⟩
 ·split
  ·exact⟨_,_,rfl,.inl rfl⟩
  ·split
   ·exact⟨_,_,rfl,.inl rfl⟩
   ·split
    ·exact⟨_,_,rfl,.inl rfl⟩
    ·rename_i h;exact⟨_,_,rfl,.inr ⟨rfl,h⟩⟩
theorem qmR:∀(s:List UInt8) (i:Int) (out rest:List UInt8),qj1 39 (s.flatMap (qbz [39,92] 32)++39::rest) i out=(out++s,i+(s.flatMap (qbz [39,92] 32)).length+1,0)
 |[],i,out,rest=>by
  rw[List.flatMap_nil,List.nil_append,qj1,if_pos rfl];simp
 |b::s,i,out,rest=>by
  obtain⟨c,r,hc,hcb⟩:=qjC [39,92] 32 b
  have hsd:=qjE (sg:=[39,34,92]) (sg':=[39,92]) (low:=32) (by decide) (by decide) (by decide) b (s.flatMap (qbz [39,92] 32)++39::rest)
  have hne:c≠39:=by
   rcases hcb with h|⟨h,h'⟩
   ·rw[h];decide
   ·rw[h];exact λe=>h' (by rw[e];decide)
  have hlen:(qbz [39,92] 32 b).length=r.length+1:=by rw[hc];rfl
  rw[hlen]at hsd
  rw[List.flatMap_cons,List.append_assoc]
  rw[hc]at hsd ⊢
  rw[List.cons_append]at hsd ⊢
  rw[qj1,if_neg hne,hsd,if_neg (by dsimp only;omega)]
  dsimp only
  rw[show((r.length+1:Nat):Int).toNat-1+1=r.length+1 by omega,List.drop_succ_cons,List.drop_left,qmR s]
  rw[show((b.toNat:Nat):Int).toNat.toUInt8=b by rw[Int.toNat_natCast];exact(qsi rfl).symm]
  simp only[List.append_assoc,List.cons_append,List.nil_append,List.length_append,List.length_cons]
  congr 2
  omega
theorem qkN (s rest:List UInt8):qcA (qdV s++rest)=(s,((qdV s).length:Int),0):=by
 have h:qdV s++rest=39::(s.flatMap (qbz [39,92] 32)++39::rest):=by unfold qdV;simp
 rw[h,qgs,if_neg (by decide),qmR]
 unfold qdV
 simp only[List.nil_append,List.length_append,List.length_cons,List.length_nil]
 (congr 2)<;>omega
theorem qfZ (b:Nat):∃c r,shC b=c::r/\c≠45/\c≠93/\c≠94:=by
 obtain⟨c,r,h,hc⟩:=qjC qfq 33 b.toUInt8
 refine⟨c,r,h,?_⟩
 rcases hc with rfl|⟨rfl,hc⟩
 ·decide
 ·exact⟨λe=>hc (by rw[e];decide),λe=>hc (by rw[e];decide),λe=>hc (by rw[e];decide)⟩
theorem qj9 {b:Nat} (hb:b<256) (rest:List UInt8):qaX qfq (shC b++rest)=((b:Int),((shC b).length:Int)):=by
 have:=qjE (sg:=qfq) (sg':=qfq) (low:=33) (λ_ h=>h) (by decide) (by decide) b.toUInt8 rest
 rw[show b.toUInt8.toNat=b from Nat.mod_eq_of_lt hb]at this
 exact this
def qs2 (p:Nat->Bool):Nat->List (Nat×Nat)
 |0=>[]
 |n+1=>qs2 p n++if p n=true/\(n=0\/p (n-1)=false) then[(n,qe6 p 255 n)] else[]
theorem qlS (p:Nat->Bool):∀n,qgD p n=(qs2 p n).flatMap λr=>qhq r.1 r.2
 |0=>rfl
 |n+1=>by
  rw[qgD,qs2,List.flatMap_append,qlS p n]
  congr 1
  split<;>simp
theorem qip (p:Nat->Bool):∀(f b:Nat),b<=255->b<=qe6 p f b/\qe6 p f b<=255/\∀x,b<x->x<=qe6 p f b->p x=true
 |0,b,h=>by unfold qe6;exact⟨Nat.le_refl _,h,λx h1 h2=>by omega⟩
 |f+1,b,h=>by
  unfold qe6
  split
  ·rename_i hc
   obtain⟨h1,h2,h3⟩:=qip p f (b+1) (by omega)
   refine⟨by omega,h2,λx h4 h5=>?_⟩
   by_cases e:x=b+1
   ·rw[e];exact hc.2
   ·exact h3 x (by omega) h5
  ·exact⟨Nat.le_refl _,h,λx h1 h2=>by omega⟩
theorem qnx {p:Nat->Bool}:∀(f b x:Nat),b<=x->x<=255->x-b<=f->(∀y,b<y->y<=x->p y=true)->x<=qe6 p f b
 |0,b,x,h1,h2,h3,h4=>by unfold qe6;omega
 |f+1,b,x,h1,h2,h3,h4=>by
  unfold qe6
  by_cases e:b=x
  ·subst e
   split
   ·have:=(qip p f (b+1) (by omega)).1;omega
   ·exact Nat.le_refl _
  ·rw[if_pos ⟨by omega,h4 _ (by omega) (by omega)⟩]
   exact qnx f (b+1) x (by omega) h2 (by omega) λy h5 h6=>h4 y (by omega) h6
theorem qis {p:Nat->Bool}:∀{n:Nat} {r:Nat×Nat},r∈qs2 p n↔r.1<n/\r.2=qe6 p 255 r.1/\p r.1=true/\(r.1=0\/p (r.1-1)=false)
 |0,r=>by simp[qs2]
 |n+1,r=>by
  rw[qs2,List.mem_append,qis (n:=n)]
  constructor
  ·rintro(⟨h1,h2,h3⟩|h)
   ·exact⟨by omega,h2,h3⟩
   ·split at h
    ·rename_i hc
     rw[List.mem_singleton]at h
     subst h
     exact⟨by omega,rfl,hc⟩
    ·cases h
  ·rintro⟨h1,h2,h3⟩
   by_cases e:r.1=n
   ·right
    rw[<-e,if_pos h3,List.mem_singleton,<-h2]
   ·exact .inl ⟨by omega,h2,h3⟩
theorem qry {p:Nat->Bool} {x:Nat} (hx:x<256):(qs2 p 256).any (λr=>decide (r.1<=x/\x<=r.2))=p x:=by
 rw[Bool.eq_iff_iff,List.any_eq_true]
 constructor
 ·rintro⟨r,hr,h⟩
  obtain⟨h1,h2,h3,_⟩:=qis.1 hr
  have h:=of_decide_eq_true h
  by_cases e:x=r.1
  ·rw[e];exact h3
  ·exact(qip p 255 r.1 (by omega)).2.2 x (by omega) (by rw[<-h2];exact h.2)
 ·intro hp
  have key:∀x,x<256->p x=true->∃m,m<=x/\p m=true/\(m=0\/p (m-1)=false)/\∀y,m<y->y<=x->p y=true:=by
   intro x
   induction x with
   |zero=>intro _ hp;exact⟨0,Nat.le_refl _,hp,.inl rfl,λy h1 h2=>by omega⟩
   |succ x ih=>
    intro hx hp
    cases hq:p x with
    |false=>exact⟨x+1,Nat.le_refl _,hp,.inr hq,λy h1 h2=>by omega⟩
    |true=>
     obtain⟨m,h1,h2,h3,h4⟩:=ih (by omega) hq
     refine⟨m,by omega,h2,h3,λy h5 h6=>?_⟩
     by_cases e:y=x+1
     ·rw[e];exact hp
     ·exact h4 y h5 (by omega)
  obtain⟨m,h1,h2,h3,h4⟩:=key x hx hp
  exact⟨(m,qe6 p 255 m),qis.2 ⟨by omega,rfl,h2,h3⟩,decide_eq_true ⟨h1,qnx 255 m x h1 (by omega) (by omega) h4⟩⟩
def spn (r:Nat×Nat):List (Int×Int):=if r.2=r.1+1 then[((r.1:Int),(r.1:Int)),((r.2:Int),(r.2:Int))] else[((r.1:Int),(r.2:Int))]
theorem qso (r:Nat×Nat) (h:r.1<=r.2) (x:Nat):(spn r).any (λp=>decide (p.1<=x/\(x:Int)<=p.2))=decide (r.1<=x/\x<=r.2):=by
 unfold spn
 rw[Bool.eq_iff_iff]
 split
 ·simp;omega
 ·simp
theorem qgS {s:List UInt8} {i:Nat} {acc:List (Int×Int)} {c:UInt8} {l h n:Int} (hc:s[i]?=some c) (h93:c≠93) (hp:qj8 (s.drop i)=some (l,h,n)) (hn:1<=n):qbb s i acc=qbb s (i+n.toNat) (acc++[(l,h)]):=by
 obtain⟨hi,hci⟩:=List.getElem?_eq_some_iff.1 hc
 conv=>lhs;rw[qbb]
 rw[dif_pos hi,if_neg (by rw[hci];exact h93),hp]
 dsimp only
 rw[show i+(n.toNat-1)+1=i+n.toNat by omega]
theorem qiA {b:Nat} (hb:b<256) {d:UInt8} {more:List UInt8} (hd:d≠45):qj8 (shC b++d::more)=some ((b:Int),(b:Int),((shC b).length:Int)):=by
 obtain⟨c,r,hc,_⟩:=qfZ b
 have hl:0<(shC b).length:=by rw[hc];simp
 unfold qj8
 rw[qj9 hb,if_neg (by dsimp only;omega)]
 dsimp only
 rw[Int.toNat_natCast,if_neg]
 unfold qqD
 have:(shC b++d::more)[(shC b).length]?=some d:=by rw[List.getElem?_append_right (Nat.le_refl _),Nat.sub_self];rfl
 rw[this]
 simp[hd]
theorem qpm {b e:Nat} (hbe:b<=e) (he:e<256) {more:List UInt8}:qj8 (shC b++45::(shC e++more))=some ((b:Int),(e:Int),(((shC b).length+1+(shC e).length:Nat):Int)):=by
 obtain⟨c,r,hc,_⟩:=qfZ b
 obtain⟨c2,r2,hc2,g1,g2,g3⟩:=qfZ e
 have hl:0<(shC b).length:=by rw[hc];simp
 have hl2:0<(shC e).length:=by rw[hc2];simp
 unfold qj8
 rw[qj9 (by omega),if_neg (by dsimp only;omega)]
 dsimp only
 rw[Int.toNat_natCast]
 have h1:(shC b++45::(shC e++more))[(shC b).length]?=some 45:=by rw[List.getElem?_append_right (Nat.le_refl _),Nat.sub_self];rfl
 have h2:(shC b++45::(shC e++more))[(shC b).length+1]?=some c2:=by
  rw[List.getElem?_append_right (by omega),show(shC b).length+1-(shC b).length=1 by omega,hc2];rfl
 have hd:qqD (shC b++45::(shC e++more)) (shC b).length=true:=by
  unfold qqD
  rw[h1,h2]
  simp[g2]
 have h3:(shC b++45::(shC e++more)).drop ((shC b).length+1)=shC e++more:=by
  rw[<-List.drop_drop,List.drop_left];rfl
 rw[if_pos hd,h3,qj9 he,if_neg (by dsimp only;omega)]
 dsimp only
 congr 3
 omega
theorem qqV (r:Nat×Nat):∃c t,qhq r.1 r.2=c::t/\c≠45/\c≠93/\c≠94:=by
 obtain⟨c,t,h,g⟩:=qfZ r.1
 refine⟨c,t++if r.2=r.1 then[] else if r.2=r.1+1 then shC r.2 else[45]++shC r.2,?_,g⟩
 unfold qhq
 rw[h,List.cons_append]
theorem qk9 (R:List (Nat×Nat)) (rest:List UInt8):∃c t,(R.flatMap λr=>qhq r.1 r.2)++93::rest=c::t/\c≠45/\c≠94:=by
 cases R with
 |nil=>exact⟨93,rest,rfl,by decide,by decide⟩
 |cons r R=>
  obtain⟨c,t,h,g1,_,g2⟩:=qqV r
  refine⟨c,t++((R.flatMap λr=>qhq r.1 r.2)++93::rest),?_,g1,g2⟩
  rw[List.flatMap_cons,h];simp
theorem qhe {s a b:List UInt8} {i:Nat} (h:s.drop i=a++b):s.drop (i+a.length)=b:=by
 rw[<-List.drop_drop,h,List.drop_left]
theorem qkD {s:List UInt8} {i:Nat} {c:UInt8} {t:List UInt8} (h:s.drop i=c::t):s[i]?=some c:=by
 have:(s.drop i)[0]?=some c:=by rw[h];rfl
 simpa using this
theorem qiz {s rest:List UInt8}:∀(R:List (Nat×Nat)) (i:Nat) (acc:List (Int×Int)),(∀r∈R,r.1<=r.2/\r.2<256)->s.drop i=(R.flatMap λr=>qhq r.1 r.2)++93::rest->
  qbb s i acc=some (acc++R.flatMap spn,i+(R.flatMap λr=>qhq r.1 r.2).length+1)
 |[],i,acc,_,h=>by
  rw[qjB (qkD h) rfl];simp
 |r::R,i,acc,hR,h=>by
  obtain⟨h1,h2⟩:=hR r (by simp)
  have hR':∀r∈R,r.1<=r.2/\r.2<256:=λq hq=>hR q (by simp[hq])
  rw[List.flatMap_cons,List.append_assoc]at h
  obtain⟨d,t,hm,hd,_⟩:=qk9 R rest
  obtain⟨c1,t1,hc1,g1,g2,g3⟩:=qfZ r.1
  have hl1:0<(shC r.1).length:=by rw[hc1];simp
  have first:∀(u:List UInt8),s.drop i=shC r.1++u->s[i]?=some c1:=λu hu=>by rw[hc1]at hu;exact qkD hu
  have hdrop:=qhe h
  have ih:=λacc=>qiz R (i+(qhq r.1 r.2).length) acc hR' hdrop
  rw[List.flatMap_cons,List.flatMap_cons,List.length_append]
  by_cases e1:r.2=r.1
  ·have ht:qhq r.1 r.2=shC r.1:=by unfold qhq;rw[if_pos e1];simp
   have hs:spn r=[((r.1:Int),(r.2:Int))]:=by unfold spn;rw[if_neg (by omega)]
   rw[ht]at h hdrop ih ⊢
   rw[qgS (first _ h) g2 (by rw[h,hm];exact qiA (by omega) hd) (by omega),Int.toNat_natCast,ih,hs,e1]
   simp only[List.append_assoc,List.cons_append,List.nil_append]
   congr 2
   omega
  ·by_cases e2:r.2=r.1+1
   ·have ht:qhq r.1 r.2=shC r.1++shC r.2:=by unfold qhq;rw[if_neg e1,if_pos e2]
    have hs:spn r=[((r.1:Int),(r.1:Int)),((r.2:Int),(r.2:Int))]:=by unfold spn;rw[if_pos e2]
    obtain⟨c2,t2,hc2,k1,k2,k3⟩:=qfZ r.2
    have hl2:0<(shC r.2).length:=by rw[hc2];simp
    rw[ht,List.append_assoc]at h
    rw[ht]at ih ⊢
    have h':=qhe h
    have f2:s[i+(shC r.1).length]?=some c2:=by rw[hc2]at h';exact qkD h'
    rw[qgS (first _ h) g2 (by rw[h,hc2,List.cons_append];exact qiA (by omega) k1) (by omega),Int.toNat_natCast,
     qgS f2 k2 (by rw[h',hm];exact qiA (by omega) hd) (by omega),Int.toNat_natCast,Nat.add_assoc]
    rw[List.length_append]at ih ⊢
    rw[ih,hs]
    simp only[List.append_assoc,List.cons_append,List.nil_append]
    congr 2
    omega
   ·have ht:qhq r.1 r.2=shC r.1++(45::shC r.2):=by unfold qhq;rw[if_neg e1,if_neg e2];rfl
    have hs:spn r=[((r.1:Int),(r.2:Int))]:=by unfold spn;rw[if_neg e2]
    rw[ht,List.append_assoc,List.cons_append]at h
    rw[ht]at ih ⊢
    have hl:(shC r.1++45::shC r.2).length=(shC r.1).length+1+(shC r.2).length:=by simp;omega
    rw[hl]at ih ⊢
    rw[qgS (first _ h) g2 (by rw[h];exact qpm h1 h2) (by omega),Int.toNat_natCast,ih,hs]
    simp only[List.append_assoc,List.cons_append,List.nil_append]
    congr 2
    omega
theorem qnL {α β:Type} (f:α->List β) (g:β->Bool):∀l:List α,(l.flatMap f).any g=l.any λa=>(f a).any g
 |[]=>rfl
 |a::l=>by rw[List.flatMap_cons,List.any_append,qnL f g l,List.any_cons]
theorem qnK {α:Type} {f g:α->Bool}:∀{l:List α},(∀a∈l,f a=g a)->l.any f=l.any g
 |[],_=>rfl
 |a::l,h=>by rw[List.any_cons,List.any_cons,h a (by simp),qnK λb hb=>h b (by simp[hb])]
theorem qoZ (R:List (Nat×Nat)) (hR:∀r∈R,r.1<=r.2/\r.2<256) (rest:List UInt8):qeG (91::((R.flatMap λr=>qhq r.1 r.2)++93::rest))=(Us λx=>R.any λr=>decide (r.1<=x/\x<=r.2),(((R.flatMap λr=>qhq r.1 r.2).length+2:Nat):Int),0):=by
 obtain⟨c,t,hm,_,h94⟩:=qk9 R rest
 have hsp:=qiz (s:=91::((R.flatMap λr=>qhq r.1 r.2)++93::rest)) (rest:=rest) R 1 [] hR rfl
 have h1:(91::((R.flatMap λr=>qhq r.1 r.2)++93::rest))[1]?=some c:=by rw[hm];rfl
 unfold qeG
 rw[List.getElem?_cons_zero,if_pos rfl,h1,if_neg (by simpa using h94),hsp]
 simp only[qh8,List.nil_append]
 congr 1
 ·refine qdL λx hx=>?_
  unfold inS
  rw[qnL,qnK λr hr=>qso r (hR r hr).1 x]
  simp
 ·congr 1
  omega
theorem qj2 {s:qab} (hs:wfS s) (rest:List UInt8):qeG (91::(qgD (qcg s) 256++93::rest))=(s,(((qgD (qcg s) 256).length+2:Nat):Int),0):=by
 rw[qlS,qoZ _ (λr hr=>by
  obtain⟨h1,h2,_⟩:=qis.1 hr
  have:=qip (qcg s) 255 r.1 (by omega)
  rw[<-h2]at this
  omega)]
 congr 1
 conv=>rhs;rw[<-qr8 hs]
 exact qdL λx hx=>qry hx
end Go.Proofs.YtleaplmdgckmkaaGreatDoor.core
namespace Go.Proofs.YtleaplmdgckmkaaGreatDoor.core
open Go.Gx Go.RowKit Go.ChangeShapes Go.WideShapes Go.ChangeAt
set_option linter.unusedVariables false
def Cel (M:Mem) (b:Nat) (cs:List Value) (t:TypeId):Prop:=M b=some (.cells cs.toArray t (0,0))
theorem Cel.le {M M':Mem} {b:Nat} {cs:List Value} {t:TypeId} (h:Cel M b cs t) (hl:M.le M'):Cel M' b cs t:=hl _ _ h
theorem Cel.at {M:Mem} {b:Nat} {cs:List Value} {t:TypeId} (h:Cel M b cs t) (o:Nat) (vs:List Value) (hv:(cs.drop o).take vs.length=vs):At M b o vs:=by
 intro j v hj
 unfold Mem.cell
 rw[h]
 rw[<-hv,List.getElem?_take]at hj
 split at hj
 ·simpa using hj
 ·cases hj
theorem Cel.has {M:Mem} {b:Nat} {cs:List Value} {t:TypeId} (h:Cel M b cs t) (o k:Nat) (hk:o+k<=cs.length):Has M b o k:=⟨_,_,h,by simpa using hk⟩
theorem Cel.put {M:Mem} {b:Nat} {cs:List Value} {t:TypeId} (h:Cel M b cs t) (o:Nat) (vs:List Value):Cel (M.put b o vs) b (qdm cs o vs) t:=Mem.put_eq h
theorem Cel.ne {M:Mem} {b b':Nat} {cs vs:List Value} {t:TypeId} {o:Nat} (h:Cel M b cs t) (hn:b≠b'):Cel (M.put b' o vs) b cs t:=by
 unfold Cel;rw[Mem.put_ne hn];exact h
theorem Cel.add {M:Mem} {b:Nat} (cs:List Value) (t:TypeId):Cel (M.add b (.cells cs.toArray t (0,0))) b cs t:=Mem.add_eq
theorem Cel.ne_new {M:Mem} {b b':Nat} {cs:List Value} {t:TypeId} (h:Cel M b cs t) (hn:M b'=none):b≠b':=by
 rintro rfl;unfold Cel at h;rw[hn]at h;cases h
theorem qnn {V M:Mem} {b o:Nat} {vs:List Value} (h:V.le M) (hb:V b=none):V.le (M.put b o vs):=λx q hx=>by
 rw[Mem.put_ne (by rintro rfl;rw[hb]at hx;cases hx)];exact h x q hx
theorem qf3 {V M:Mem} {b:Nat} (h:V.le M) (hb:M b=none):V b=none:=by
 cases hv:V b with
 |none=>rfl
 |some o=>rw[h b o hv]at hb;cases hb
theorem qaf.two {P:Program} {f:FuncId} {args:Array Value} {V M:Mem} {K:Value->Mem->Prop} (hle:V.le M) (h:qaf P f args V K):
  qaf P f args M (λv M'=>∃V',V.le V'/\V'.le M'/\(∀b,(M b).isSome=true->V b=none->V' b=none)/\K v V'):=by
 intro w hw
 have hv:On V w:=λb o hb=>hw b o (hle b o hb)
 refine(h w hv).mono λe w' ⟨v,h1,h2,h3⟩=>⟨v,h1,h2,_,qhL hv,λb o hb=>?_,λb hb hn=>?_,h3⟩
 ·unfold grow at hb ⊢
  split
  ·rename_i hlt;rw[if_pos hlt]at hb;exact hb
  ·rename_i hlt;rw[if_neg hlt]at hb;exact hle b o hb
 ·obtain⟨o,ho⟩:=Option.isSome_iff_exists.1 hb
  have:=hw.lt ho
  unfold grow
  rw[if_neg (by omega)];exact hn
structure LSt (V M:Mem) (bd bl:Nat) (dc:List Value) (A:Option Addr) (n c:Nat) (k:Nat):Prop where
 le:V.le M
 nd:V bd=none
 nl:V bl=none
 ne:bd≠bl
 cd:Cel M bd dc 70
 cl:Cel M bl [.slice A n c,.int .i64 k] 116
theorem LSt.to {V M M':Mem} {bd bl:Nat} {dc:List Value} {A:Option Addr} {n c k:Nat} (h:LSt V M bd bl dc A n c k) (hl:M.le M'):LSt V M' bd bl dc A n c k:=⟨h.le.trans hl,h.nd,h.nl,h.ne,h.cd.le hl,h.cl.le hl⟩
theorem LSt.next {V M:Mem} {bd bl:Nat} {dc:List Value} {A:Option Addr} {n c k:Nat} (h:LSt V M bd bl dc A n c k):LSt V (M.put bl 1 [.int .i64 ((k:Int)+1)]) bd bl dc A n c (k+1):=⟨qnn h.le h.nl,h.nd,h.nl,h.ne,h.cd.ne h.ne,h.cl.put _ _⟩
section
variable {V M:Mem} {bd bl:Nat} {dc:List Value} {A:Option Addr} {n c k:Nat} {ws:List (List UInt8)} {L:Nat->Prop} {Kp:List PanicEntry->Prop}
theorem qkM (h:LSt V M bd bl dc A n c k) (hw:SlV V A n c 1 (qec ws)) {x:List UInt8} (hx:ws[k]?=some x) (hL:L bl):
  qal Tryz.prog 96 #[.pointer (some ⟨bl,0,none⟩)] M L (λv M'=>v= .string (mkS x)/\LSt V M' bd bl dc A n c (k+1)) Kp:=by
 have hn:ws.length=n:=by simpa[qec]using hw.1
 have hk:k<n:=by rw[<-hn];exact(List.getElem?_eq_some_iff.1 hx).1
 have hcm:=hw.2.2.1
 have hlc:=hw.2.1
 unfold maxLen at hcm
 obtain⟨b,o,rfl,hat⟩:=hw.2.2.2 (by omega)
 refine qic _ _ _ ⟨(λv M'=>v= .string (mkS x)/\LSt V M' bd bl dc (some ⟨b,o,none⟩) n c (k+1)),Kp⟩ ⟨bl,0,rfl,(k:Int),h.cl.at 1 [_] rfl,bl,0,rfl,_,n,c,h.cl.at 0 [_] rfl,λg=>by omega,λ_=>?_⟩
 have h2:=h.next
 refine⟨bl,0,rfl,(k:Int),h.cl.at 1 [_] rfl,by unfold InI;omega,bl,0,rfl,h.cl.has 1 1 (Nat.le_refl 2),.inl hL,λM17 hM=>?_⟩
 subst hM
 refine⟨bl,0,rfl,_,n,c,h2.cl.at 0 [_] rfl,bl,0,rfl,((k+1:Nat):Int),h2.cl.at 1 [_] rfl,by unfold InI;omega,b,o,rfl,by omega,by omega,x,?_,λM' hl=>⟨rfl,h2.to hl⟩⟩
 have hj:(((k+1:Nat):Int)-1).toNat*1=k:=by omega
 rw[hj]
 refine At.le (λj v hj=>?_) h2.le
 have:j=0:=by
  cases j with
  |zero=>rfl
  |succ j=>simp at hj
 subst this
 refine hat (k+0) v ?_
 unfold qec
 rw[Nat.add_zero,List.getElem?_map,hx]
 simpa using hj
end
section
variable {V M:Mem} {bd bl:Nat} {dc:List Value} {A:Option Addr} {n c k:Nat} {ws:List (List UInt8)} {L:Nat->Prop} {Kp:List PanicEntry->Prop}
theorem qrd (hN:qfU V) (h:LSt V M bd bl dc A n c k) (hw:SlV V A n c 1 (qec ws)) (hx:ws[k]?=some [48]) (hL:L bl):
  qal Tryz.prog 93 #[.pointer (some ⟨bl,0,none⟩)] M L (λv M'=>v= .int .i64 0/\LSt V M' bd bl dc A n c (k+1)) Kp:=by
 refine qiO _ _ _ ⟨(λv M'=>v= .int .i64 0/\LSt V M' bd bl dc A n c (k+1)),Kp⟩ ((qkM h hw hx (.inl hL)).mono (λ_ q=>q) (λv M3 _ ⟨hv,h3⟩=>⟨_,hv,?_⟩) λ_ q=>q)
 exact(qtf (hN.le h3.le)).mono λv M4 _ hv=>⟨0,0,hv,λg=>absurd rfl g,λ_ M' hl=>⟨rfl,h3.to hl⟩⟩
theorem qhs (hN:qfU V) (h:LSt V M bd bl dc A n c k) (hw:SlV V A n c 1 (qec ws)) (hx:ws[k]?=some [48]) (hL:L bl):
  qal Tryz.prog 89 #[.pointer (some ⟨bl,0,none⟩)] M L (λv M'=>v= .int .i64 0/\LSt V M' bd bl dc A n c (k+1)) Kp:=by
 refine qhB _ _ _ ⟨(λv M'=>v= .int .i64 0/\LSt V M' bd bl dc A n c (k+1)),Kp⟩ ((qrd hN h hw hx (.inl hL)).mono (λ_ q=>q) (λv M3 _ ⟨hv,h3⟩=>⟨_,hv,λg=>absurd g (by decide),λ_ M' hl=>⟨rfl,h3.to hl⟩⟩) λ_ q=>q)
theorem qo8 {s:List UInt8} (h:LSt V M bd bl dc A n c k) (hw:SlV V A n c 1 (qec ws)) (hx:ws[k]?=some (qdV s)) (hl:(qdV s).length<=140737488355328) (hL:L bl):
  qal Tryz.prog 92 #[.pointer (some ⟨bl,0,none⟩)] M L (λv M'=>v= .string (mkS s)/\LSt V M' bd bl dc A n c (k+1)) Kp:=by
 refine qid _ _ _ ⟨(λv M'=>v= .string (mkS s)/\LSt V M' bd bl dc A n c (k+1)),Kp⟩ ((qkM h hw hx (.inl hL)).mono (λ_ q=>q) (λv M3 _ ⟨hv,h3⟩=>⟨_,hv,?_⟩) λ_ q=>q)
 refine qgZ _ _ _ (qle _ hl _ _ ⟨s,((qdV s).length:Nat),0,?_,λg=>absurd rfl g,λ_=>⟨λg=>?_,λ_ M' hl=>⟨rfl,h3.to hl⟩⟩⟩)
 ·have:=qkN s []
  rw[List.append_nil]at this
  rw[this];rfl
 ·simp at g
theorem qrv (h:LSt V M bd bl dc A n c k) (hk:k=n):qal Tryz.prog 60 #[.pointer (some ⟨bl,0,none⟩)] M L (λv M'=>v= .tuple #[]/\M.le M') Kp:=
 qiP _ _ _ ⟨(λv M'=>v= .tuple #[]/\M.le M'),Kp⟩ ⟨bl,0,rfl,(k:Int),h.cl.at 1 [_] rfl,bl,0,rfl,_,n,c,h.cl.at 0 [_] rfl,λg=>absurd (by rw[hk]) g,λ_ M' hl=>⟨rfl,hl⟩⟩
theorem qld (hN:qfU V) (h:LSt V M bd bl dc A n c k) (hw:SlV V A n c 1 (qec ws)) (hx:ws[k]?=some [48]) (hL:L bl):
  qal Tryz.prog 59 #[.pointer (some ⟨bd,0,none⟩),.string (mkS [108,111,97,100]),.pointer (some ⟨bl,0,none⟩)] M L (λv M'=>LSt V M' bd bl dc A n c (k+1)/\∃b4 b8,v= .func (.func 90) #[] #[.pointer (some ⟨b4,0,none⟩),.pointer (some ⟨b8,0,none⟩)]/\Cel M' b4 [.pointer (some ⟨bd,0,none⟩)] 110/\Cel M' b8 [.int .i64 0] 3) Kp:=by
 refine qdB _ _ _ _ _ ⟨_,Kp⟩ ?_
 refine⟨λg=>absurd g (by decide),λ_=>⟨λ_=>?_,λg=>absurd rfl g⟩⟩
 refine(qhs hN h hw hx (.inl hL)).mono (λ_ q=>q) (λv M7 _ ⟨hv,h7⟩=>⟨_,hv,λb4 M9 hn4 e9 b8 M10 hn8 e10 M' hl=>?_⟩) λ_ q=>q
 subst e9 e10
 have l9:=Mem.add_le (o:=.cells [Value.pointer (some ⟨bd,0,none⟩)].toArray 110 (0,0)) hn4
 have l10:=Mem.add_le (o:=.cells [Value.int .i64 0].toArray 3 (0,0)) hn8
 exact⟨h7.to (l9.trans (l10.trans hl)),b4,b8,rfl,(Cel.add _ _).le (l10.trans hl),(Cel.add _ _).le hl⟩
theorem qlc (hN:qfU V) (h:LSt V M bd bl dc A n c k) (hw:SlV V A n c 1 (qec ws)) (hx:ws[k]?=some [48]) (hL:L bl):
  qal Tryz.prog 59 #[.pointer (some ⟨bd,0,none⟩),.string (mkS [115,104,111,119]),.pointer (some ⟨bl,0,none⟩)] M L (λv M'=>LSt V M' bd bl dc A n c (k+1)/\∃b1 b2 b3,v= .func (.func 103) #[] #[.pointer (some ⟨b1,0,none⟩),.pointer (some ⟨b2,0,none⟩),.pointer (some ⟨b3,0,none⟩)]/\Cel M' b1 [.func (.func 126) #[] #[]] 155/\Cel M' b2 [.pointer (some ⟨bd,0,none⟩)] 110/\Cel M' b3 [.int .i64 0] 3) Kp:=by
 refine qdB _ _ _ _ _ ⟨_,Kp⟩ ?_
 refine⟨λg=>absurd g (by decide),λ_=>⟨λg=>absurd g (by decide),λ_=>⟨λg=>absurd g (by decide),λ_=>⟨λg=>absurd g (by decide),λ_=>⟨λg=>absurd g (by decide),λ_=>?_⟩⟩⟩⟩⟩
 refine qeJ _ _ _ _ _ ⟨λ_ M41 hl41=>⟨_,rfl,⟨rfl,rfl⟩,false,.inr ⟨_,_,_,rfl,rfl⟩,λ_=>?_,λg=>absurd g (by decide)⟩,λg=>absurd rfl g⟩
 refine(qhs hN (h.to hl41) hw hx (.inl hL)).mono (λ_ q=>q) (λv M7 _ ⟨hv,h7⟩=>⟨_,hv,λb1 M9 hn1 e9 b2 M10 hn2 e10 b3 M11 hn3 e11 M' hl=>?_⟩) λ_ q=>q
 subst e9 e10 e11
 have l1:=Mem.add_le (o:=.cells [Value.func (.func 126) #[] #[]].toArray 155 (0,0)) hn1
 have l2:=Mem.add_le (o:=.cells [Value.pointer (some ⟨bd,0,none⟩)].toArray 110 (0,0)) hn2
 have l3:=Mem.add_le (o:=.cells [Value.int .i64 0].toArray 3 (0,0)) hn3
 exact⟨h7.to (l1.trans (l2.trans (l3.trans hl))),b1,b2,b3,rfl,(Cel.add _ _).le (l2.trans (l3.trans hl)),(Cel.add _ _).le (l3.trans hl),(Cel.add _ _).le hl⟩
theorem qjL {s:List UInt8} (hN:qfU V) (h:LSt V M bd bl dc A n c k) (hw:SlV V A n c 1 (qec ws)) (hx:ws[k]?=some [48]) (hy:ws[k+1]?=some (qdV s)) (hl0:(qdV s).length<=140737488355328) (hL:L bl):
  qal Tryz.prog 59 #[.pointer (some ⟨bd,0,none⟩),.string (mkS [109,97,116,99,104]),.pointer (some ⟨bl,0,none⟩)] M L (λv M'=>LSt V M' bd bl dc A n c (k+2)/\∃b1 b2 b3 b4,v= .func (.func 105) #[] #[.pointer (some ⟨b1,0,none⟩),.pointer (some ⟨b2,0,none⟩),.pointer (some ⟨b3,0,none⟩),.pointer (some ⟨b4,0,none⟩)]/\Cel M' b1 [.func (.func 132) #[] #[]] 157/\Cel M' b2 [.pointer (some ⟨bd,0,none⟩)] 110/\Cel M' b3 [.int .i64 0] 3/\Cel M' b4 [.string (mkS s)] 9) Kp:=by
 refine qdB _ _ _ _ _ ⟨_,Kp⟩ ?_
 refine⟨λg=>absurd g (by decide),λ_=>⟨λg=>absurd g (by decide),λ_=>⟨λg=>absurd g (by decide),λ_=>⟨λg=>absurd g (by decide),λ_=>⟨λg=>absurd g (by decide),λ_=>?_⟩⟩⟩⟩⟩
 refine qeJ _ _ _ _ _ ⟨λg=>absurd g (by decide),λ_=>⟨λg=>absurd g (by decide),λ_=>⟨λg=>absurd g (by decide),λ_=>⟨λg=>absurd g (by decide),λ_ M41 hl41=>?_⟩⟩⟩⟩
 refine⟨_,rfl,⟨rfl,rfl⟩,true,.inl ⟨rfl,rfl⟩,λg=>absurd rfl g,λ_=>?_⟩
 refine qk7 _ _ _ _ ⟨λ_ M51 hl51=>⟨_,rfl,⟨rfl,rfl⟩,false,.inr ⟨_,_,_,rfl,rfl⟩,λ_=>?_,λg=>absurd g (by decide)⟩,λg=>absurd rfl g⟩
 refine(qhs hN ((h.to hl41).to hl51) hw hx (.inl hL)).mono (λ_ q=>q) (λv M7 _ ⟨hv,h7⟩=>⟨_,hv,?_⟩) λ_ q=>q
 refine(qo8 h7 hw hy hl0 (.inl hL)).mono (λ_ q=>q) (λv M8 _ ⟨hv,h8⟩=>⟨_,hv,λb1 M9 hn1 e9 b2 M10 hn2 e10 b3 M11 hn3 e11 b4 M12 hn4 e12 M' hl=>?_⟩) λ_ q=>q
 subst e9 e10 e11 e12
 have l1:=Mem.add_le (o:=.cells [Value.func (.func 132) #[] #[]].toArray 157 (0,0)) hn1
 have l2:=Mem.add_le (o:=.cells [Value.pointer (some ⟨bd,0,none⟩)].toArray 110 (0,0)) hn2
 have l3:=Mem.add_le (o:=.cells [Value.int .i64 0].toArray 3 (0,0)) hn3
 have l4:=Mem.add_le (o:=.cells [Value.string (mkS s)].toArray 9 (0,0)) hn4
 exact⟨h8.to (l1.trans (l2.trans (l3.trans (l4.trans hl)))),b1,b2,b3,b4,rfl,(Cel.add _ _).le (l2.trans (l3.trans (l4.trans hl))),(Cel.add _ _).le (l3.trans (l4.trans hl)),(Cel.add _ _).le (l4.trans hl),(Cel.add _ _).le hl⟩
end
end Go.Proofs.YtleaplmdgckmkaaGreatDoor.core
namespace Go.Proofs.YtleaplmdgckmkaaGreatDoor.core
open Go.Gx Go.RowKit Go.ChangeShapes Go.WideShapes Go.ChangeAt
set_option linter.unusedVariables false
theorem qa8 {e:Ex} (h:qnu e=true):1<=e.kind/\e.kind<=11/\(e.kind<=4->e.kids=[])/\(e.kind=5\/e.kind=6->2<=e.kids.length/\e.kids.length<=8)/\(7<=e.kind->e.kids.length=1)/\(e.kind=3->e.text≠[]/\e.text.length<=12)/\(e.kind≠2->zs e.set=true)/\(e.kind≠3->e.kind≠4->e.text=[]):=by
 unfold qnu qhr at h
 simp only at h
 have nil:∀l:List Ex,(l.length==0)=true->l=[]:=λl h=>List.eq_nil_of_length_eq_zero (by simpa using h)
 split at h
 ·simp only[Bool.and_eq_true,decide_eq_true_eq]at h
  exact⟨by omega,by omega,λ_=>nil _ h.1.1,λq=>by omega,λq=>by omega,λq=>by omega,λ_=>h.2,λ_ _=>h.1.2⟩
 ·split at h
  ·simp only[Bool.and_eq_true,decide_eq_true_eq]at h
   exact⟨by omega,by omega,λ_=>nil _ h.1,λq=>by omega,λq=>by omega,λq=>by omega,λq=>by omega,λ_ _=>h.2⟩
  ·split at h
   ·simp only[Bool.and_eq_true,decide_eq_true_eq,Bool.not_eq_true',decide_eq_false_iff_not]at h
    exact⟨by omega,by omega,λ_=>nil _ h.1.1.1,λq=>by omega,λq=>by omega,λ_=>⟨h.1.2,h.2⟩,λ_=>h.1.1.2,λq=>by omega⟩
   ·split at h
    ·simp only[Bool.and_eq_true]at h
     exact⟨by omega,by omega,λ_=>nil _ h.1.1,λq=>by omega,λq=>by omega,λq=>by omega,λ_=>h.1.2,λ_ q=>by omega⟩
    ·split at h
     ·simp only[Bool.and_eq_true,decide_eq_true_eq]at h
      exact⟨by omega,by omega,λq=>by omega,λ_=>⟨h.1.2,h.2⟩,λq=>by omega,λq=>by omega,λ_=>h.1.1.2,λ_ _=>h.1.1.1⟩
     ·split at h
      ·simp only[Bool.and_eq_true,decide_eq_true_eq,beq_iff_eq]at h
       exact⟨by omega,by omega,λq=>by omega,λq=>by omega,λ_=>h.2,λq=>by omega,λ_=>h.1.2,λ_ _=>h.1.1⟩
      ·cases h
inductive qfm (rs:List Ru):Ex->Prop
 |mk (e:Ex) (hf:qnu e=true) (hr:e.kind=4->0<=qbt e.text rs 0) (hk:∀k∈e.kids,qfm rs k):qfm rs e
theorem qfm.fit {rs:List Ru} {e:Ex} (h:qfm rs e):qnu e=true:=by cases h;assumption
theorem qfm.ref {rs:List Ru} {e:Ex} (h:qfm rs e):e.kind=4->0<=qbt e.text rs 0:=by cases h;assumption
theorem qfm.kid {rs:List Ru} {e:Ex} (h:qfm rs e):∀k∈e.kids,qfm rs k:=by cases h;assumption
mutual
theorem qkz:∀(e:Ex) (d n:Int),(lkE d n e).1=0->∀x∈qa5 e,qnu x=true
 | .mk k s t ks,d,n,h,x,hx=>by
  unfold lkE at h
  split at h
  ·cases h
  ·split at h
   ·cases h
   ·split at h
    ·cases h
    ·rename_i h3
     rw[qa5]at hx
     rcases List.mem_cons.1 hx with rfl|hx
     ·simpa[qnu,Ex.kind,Ex.set,Ex.text,Ex.kids]using h3
     ·exact qlC ks _ _ h x hx
theorem qlC:∀(ks:List Ex) (d n:Int),(qkp d n ks).1=0->∀x∈qaO ks,qnu x=true
 |[],_,_,_,x,hx=>by simp[qaO]at hx
 |k::ks,d,n,h,x,hx=>by
  rw[qkp]at h
  rw[qaO]at hx
  split at h
  ·rename_i hne;exact absurd h hne
  ·rename_i he
   have he:(lkE d n k).1=0:=by simpa using he
   rcases List.mem_append.1 hx with hx|hx
   ·exact qkz k _ _ he x hx
   ·exact qlC ks _ _ h x hx
end
theorem qjR {k:Ex}:∀{ks:List Ex},k∈ks->∀x∈qa5 k,x∈qaO ks
 |a::r,h,x,hx=>by
  rw[qaO]
  rcases List.mem_cons.1 h with rfl|h
  ·exact List.mem_append_left _ hx
  ·exact List.mem_append_right _ (qjR h x hx)
theorem qjT (e:Ex):e∈qa5 e:=by cases e;simp[qa5]
theorem qlG {e k:Ex} (h:k∈e.kids):∀x∈qa5 k,x∈qa5 e:=by
 intro x hx
 cases e
 rw[qa5]
 exact List.mem_cons_of_mem _ (qjR h x hx)
theorem qsP (rs:List Ru) (e:Ex) (h:∀x∈qa5 e,qnu x=true/\(x.kind=4->0<=qbt x.text rs 0)):qfm rs e:=by
 induction hn:SizeOf.sizeOf e using Nat.strongRecOn generalizing e with
 |_ n ih=>
  subst hn
  have h0:=h e (qjT e)
  exact .mk e h0.1 h0.2 λk hk=>ih _ (Ex.kid_lt hk) k (λx hx=>h x (qlG hk x hx)) rfl
theorem qm9:∀(l:List Ex) (acc:List (List UInt8)),(∀s∈acc,s∈l.foldl qeC acc)/\∀x∈l,x.kind=4->x.text∈l.foldl qeC acc
 |[],acc=>⟨λs h=>h,λx h=>by cases h⟩
 |a::r,acc=>by
  obtain⟨h1,h2⟩:=qm9 r (qeC acc a)
  have hs:∀s∈acc,s∈qeC acc a:=λs h=>by unfold qeC;split<;>simp[h]
  refine⟨λs h=>h1 s (hs s h),λx hx hk=>?_⟩
  rcases List.mem_cons.1 hx with rfl|hx
  ·refine h1 _ ?_
   unfold qeC
   split
   ·simp
   ·rename_i hno
    by_cases hm:x.text∈acc
    ·exact hm
    ·exact absurd ⟨hk,hm⟩ hno
  ·exact h2 x hx hk
theorem qq0 {e x:Ex} (hx:x∈qa5 e) (hk:x.kind=4):x.text∈qeB e:=(qm9 (qa5 e) []).2 x hx hk
structure qh7 (rs:List Ru):Prop where
 one:0<rs.length
 ten:rs.length<=10
 good:∀r∈rs,qfm rs r.body
 err:∀r∈rs,qdv r.body=0
 name:∀r∈rs,qc2 r.name=true
 at_:∀(i:Nat) r,rs[i]?=some r->qbt r.name rs 0=i
 all:((rs.map λr=>(qa5 r.body).length).sum)<=120
theorem qjK (rs0:List Ru):∀l:List Ru,qkg rs0 l=0->∀r∈l,∀s∈qeB r.body,0<=qbt s rs0 0
 |[],_,r,h,_,_=>by cases h
 |a::t,h,r,hr,s,hs=>by
  rw[qkg]at h
  split at h
  ·cases h
  ·rename_i hall
   rcases List.mem_cons.1 hr with rfl|hr
   ·have hall:(qeB r.body).all (λs=>decide (0<=qbt s rs0 0))=true:=by simpa using hall
    simpa using List.all_eq_true.1 hall s hs
   ·exact qjK rs0 t h r hr s hs
theorem qlT (rs0:List Ru):∀(l:List Ru) (i n:Int),qrz rs0 l i n=0->qkg rs0 rs0=0/\(∀(j:Nat) r,l[j]?=some r->qc2 r.name=true/\qbt r.name rs0 0=i+j/\qdv r.body=0)/\n+((l.map λr=>(qa5 r.body).length).sum:Nat)<=120
 |[],i,n,h=>by
  rw[qrz]at h
  split at h
  ·cases h
  ·exact⟨h,λj r hj=>by simp at hj,by simp;omega⟩
 |a::t,i,n,h=>by
  rw[qrz]at h
  split at h
  ·cases h
  ·rename_i h1
   split at h
   ·cases h
   ·rename_i h2
    split at h
    ·rename_i h3;exact absurd h h3
    ·rename_i h3
     obtain⟨g1,g2,g3⟩:=qlT rs0 t (i+1) _ h
     refine⟨g1,λj r hj=>?_,by simp only[List.map_cons,List.sum_cons];omega⟩
     cases j with
     |zero=>
      simp only[List.getElem?_cons_zero,Option.some.injEq]at hj
      subst hj
      exact⟨by simpa using h1,by simpa using h2,by simpa using h3⟩
     |succ j=>
      obtain⟨k1,k2,k3⟩:=g2 j r (by simpa using hj)
      exact⟨k1,by rw[k2];omega,k3⟩
theorem qi0 {rs:List Ru} (h:qaZ rs=0):qh7 rs:=by
 unfold qaZ at h
 split at h
 ·cases h
 ·split at h
  ·cases h
  ·obtain⟨h1,h2,h3⟩:=qlT rs rs 0 0 h
   have hget:∀r∈rs,∃j,rs[j]?=some r:=λr hr=>List.mem_iff_getElem?.1 hr
   refine⟨by omega,by omega,λr hr=>qsP rs r.body λx hx=>?_,λr hr=>?_,λr hr=>?_,λi r hi=>by have:=(h2 i r hi).2.1;omega,by omega⟩
   ·obtain⟨j,hj⟩:=hget r hr
    exact⟨qkz _ _ _ (h2 j r hj).2.2 x hx,λhk=>qjK rs rs h1 r hr _ (qq0 hx hk)⟩
   ·obtain⟨j,hj⟩:=hget r hr;exact(h2 j r hj).2.2
   ·obtain⟨j,hj⟩:=hget r hr;exact(h2 j r hj).1
theorem qjU (s:List UInt8):∀(rs:List Ru) (i:Int),0<=i->0<=qbt s rs i->i<=qbt s rs i/\∃r,rs[(qbt s rs i-i).toNat]?=some r/\r.name=s
 |[],i,_,h=>by simp[qbt]at h
 |a::t,i,hi,h=>by
  unfold qbt at h ⊢
  split
  ·rename_i hn
   exact⟨by omega,a,by rw[show(i-i).toNat=0 by omega];rfl,hn⟩
  ·rename_i hn
   rw[if_neg hn]at h
   obtain⟨h1,r,h2,h3⟩:=qjU s t (i+1) (by omega) h
   refine⟨by omega,r,?_,h3⟩
   rw[show(qbt s t (i+1)-i).toNat=(qbt s t (i+1)-(i+1)).toNat+1 by omega]
   simpa using h2
theorem qdK {s:List UInt8} {rs:List Ru} (h:0<=qbt s rs 0):(qbt s rs 0).toNat<rs.length/\qbt s rs 0<rs.length:=by
 obtain⟨_,r,h2,_⟩:=qjU s rs 0 (by omega) h
 have:=(List.getElem?_eq_some_iff.1 h2).1
 simp only[Int.sub_zero]at this
 omega
theorem GrR.len {M:Mem} {rs:List Ru} {A:Option Addr} {l c:Nat} (h:GrR M rs A l c):l=rs.length:=h.max.1
end Go.Proofs.YtleaplmdgckmkaaGreatDoor.core
namespace Go.Proofs.YtleaplmdgckmkaaGreatDoor.core
open Go.Gx Go.RowKit Go.ChangeShapes Go.WideShapes Go.ChangeAt
set_option linter.unusedVariables false
theorem qkv (sep:List UInt8) (m:Nat) (hs:sep.length<=m):∀zs:List (List UInt8),(Lib.join zs sep).length<=(zs.map λz=>z.length+m).sum
 |[]=>by simp[Lib.join_nil]
 |[z]=>by rw[Lib.join_one];simp
 |z::y::r=>by
  have ih:=qkv sep m hs (y::r)
  have:Lib.join (z::y::r) sep=z++sep++Lib.join (y::r) sep:=by simp[Lib.join,List.intercalate]
  rw[this,List.map_cons,List.sum_cons,List.length_append,List.length_append]
  omega
inductive qgK:Ex->Prop
 |mk (e:Ex) (hf:qnu e=true) (hk:∀k∈e.kids,qgK k):qgK e
theorem qgK.fit {e:Ex} (h:qgK e):qnu e=true:=by cases h;assumption
theorem qgK.kid {e:Ex} (h:qgK e):∀k∈e.kids,qgK k:=by cases h;assumption
theorem qsU (e:Ex) (h:∀x∈qa5 e,qnu x=true):qgK e:=by
 induction hn:SizeOf.sizeOf e using Nat.strongRecOn generalizing e with
 |_ n ih=>
  subst hn
  exact .mk e (h e (qjT e)) λk hk=>ih _ (Ex.kid_lt hk) k (λx hx=>h x (qlG hk x hx)) rfl
theorem qgK.of {e:Ex} (h:qdv e=0):qgK e:=qsU e (qkz e 1 0 h)
def qkK (e:Ex):Int:=if e.kind=6 then 1 else if e.kind=5 then 2 else if e.kind=10\/e.kind=11 then 3 else if 7<=e.kind/\e.kind<=9 then 4 else 5
def brT (t:List UInt8):List UInt8:=[40]++t++[41]
def qbP (k:Int):Int:=if k=6 then 2 else if k=5\/k>=10 then 3 else 4
def qoG:qab:=Us λ_=>true
def qm1 (s:qab):List UInt8:=if qaF [s.w0,s.w1,s.w2,s.w3] [qoG.w0,qoG.w1,qoG.w2,qoG.w3]=true then[46] else[91]++qgD (qcg s) 256++[93]
def qdk (k:Int) (s:qab) (t:List UInt8) (l:List (List UInt8)):List UInt8:=
 if k=1 then[40,41] else if k=2 then qm1 s else if k=3 then qdV t else if k=4 then t
 else if k=5 then Lib.join l [32] else if k=6 then Lib.join l [32,47,32]
 else if k=10 then[38]++(l[0]?).getD [] else if k=11 then[33]++(l[0]?).getD []
 else if k=7 then(l[0]?).getD []++[42] else if k=8 then(l[0]?).getD []++[43] else(l[0]?).getD []++[63]
mutual
def txE:Ex->List UInt8
 | .mk k s t ks=>qdk k s t (txs (qbP k) ks)
def txs (m:Int):List Ex->List (List UInt8)
 |[]=>[]
 |e::r=>(if qkK e<m then brT (txE e) else txE e)::txs m r
end
def wiT (m:Int) (e:Ex):List UInt8:=if qkK e<m then brT (txE e) else txE e
theorem qo2 (m:Int):∀ks,txs m ks=ks.map (wiT m)
 |[]=>by rw[txs];rfl
 |k::ks=>by rw[txs,qo2 m ks];rfl
theorem qdZ (e:Ex):txE e=qdk e.kind e.set e.text (e.kids.map (wiT (qbP e.kind))):=by
 cases e
 rw[txE,qo2];rfl
theorem qhN:∀ks:List Ex,(qaO ks).length=(ks.map λk=>(qa5 k).length).sum
 |[]=>by rw[qaO];rfl
 |k::ks=>by rw[qaO,List.length_append,qhN ks];rfl
theorem qlF (e:Ex):(qa5 e).length=(qaO e.kids).length+1:=by
 cases e;rw[qa5];simp[Ex.kids]
theorem qrK {α:Type} {f g:α->Nat}:∀{l:List α},(∀x∈l,f x<=g x)->(l.map f).sum<=(l.map g).sum
 |[],_=>by simp
 |x::l,h=>by
  have h1:=h x (List.mem_cons_self ..)
  have h2:=qrK (l:=l) λy hy=>h y (List.mem_cons_of_mem _ hy)
  simp only[List.map_cons,List.sum_cons];omega
theorem qpN {a:Nat}:∀{l:List Nat},a∈l->a<=l.sum
 |[],h=>by cases h
 |x::l,h=>by
  rw[List.sum_cons]
  rcases List.mem_cons.1 h with rfl|h
  ·omega
  ·have:=qpN h;omega
theorem qpc {α:Type} (f:α->Nat) (c:Nat):∀l:List α,(l.map λx=>c*f x).sum=c*(l.map f).sum
 |[]=>by simp
 |x::l=>by simp only[List.map_cons,List.sum_cons,qpc f c l,Nat.mul_add]
theorem qqU (s:qab):(qm1 s).length<=2400:=by
 unfold qm1
 split
 ·simp
 ·have:=qir (qcg s) 256
  simp;omega
theorem qj3 (e:Ex) (h:qgK e):(txE e).length+5<=3000*(qa5 e).length:=by
 induction hn:SizeOf.sizeOf e using Nat.strongRecOn generalizing e with
 |_ n ih=>
  subst hn
  have hk:∀m,∀k∈e.kids,(wiT m k).length+3<=3000*(qa5 k).length:=λm k hk=>by
   have:=ih _ (Ex.kid_lt hk) k (h.kid k hk) rfl
   unfold wiT
   split
   ·simp[brT];omega
   ·omega
  have hs:∀m,((e.kids.map (wiT m)).map λz=>z.length+3).sum<=3000*(qaO e.kids).length:=λm=>by
   rw[List.map_map,qhN,<-qpc]
   exact qrK λk hkk=>hk m k hkk
  have h0:∀m,(((e.kids.map (wiT m))[0]?).getD []).length<=3000*(qaO e.kids).length:=λm=>by
   cases hq:e.kids with
   |nil=>simp
   |cons k r=>
    have h1:=hk m k (by rw[hq];exact List.mem_cons_self ..)
    rw[qaO,List.length_append]
    simp only[List.map_cons,List.getElem?_cons_zero,Option.getD_some]
    omega
  rw[qdZ,qlF]
  have g0:=h0 (qbP e.kind)
  have gs:=hs (qbP e.kind)
  have hf:=qa8 h.fit
  obtain⟨_,_,_,_,_,hlit,_⟩:=hf
  have hnm:e.kind=4->e.text.length<=8:=λh4=>by
   have:=h.fit
   unfold qnu qhr at this
   simp[h4,qc2]at this
   omega
  generalize e.kids.map (wiT (qbP e.kind))=l at*
  unfold qdk
  split
  ·simp;omega
  split
  ·have:=qqU e.set;omega
  split
  ·rename_i h3
   have:=(hlit h3).2
   have:=qsS [39,92] 32 e.text
   unfold qdV;rw[List.length_append,List.length_append];simp only[List.length_singleton];omega
  split
  ·rename_i h4
   have:=hnm h4;omega
  split
  ·have:=qkv [32] 3 (by simp) l;omega
  split
  ·have:=qkv [32,47,32] 3 (by simp) l;omega
  repeat (split;(· rw[List.length_append];simp only[List.length_singleton];omega))
  rw[List.length_append];simp only[List.length_singleton];omega
end Go.Proofs.YtleaplmdgckmkaaGreatDoor.core
namespace Go.Proofs.YtleaplmdgckmkaaGreatDoor.core
open Go.Gx Go.RowKit Go.ChangeShapes Go.WideShapes Go.ChangeAt
set_option linter.unusedVariables false
theorem qkm (l:List UInt8):(mkS l).data.toList=l:=rfl
theorem qpU {M:Mem} {A:Option Addr} {n c:Nat} {zs:List (List UInt8)} {sep:List UInt8} (h:SlV M A n c 1 (qec zs)) (hn:zs.length<=140737488355328) (hl:(Lib.join zs sep).length<=140737488355328):
  qaf Tryz.prog 73 #[.slice A n c,.string (mkS sep)] M (λv M'=>v= .string (mkS (Lib.join zs sep))):=by
 intro w hw
 obtain⟨h1,h2,h3,h4⟩:=h
 have hnz:zs.length=n:=by simpa[qec]using h1
 by_cases h0:n=0
 ·subst h0
  obtain rfl:=List.length_eq_zero_iff.1 hnz
  exact(qga A c (mkS sep) w).mono λx w' ⟨g1,g2⟩=>⟨_,g1,g2▸Below.refl _ _,rfl⟩
 ·obtain⟨b,o,rfl,ha⟩:=h4 (by omega)
  have hm:(zs.map mkS).map (λx=>x.data.toList)=zs:=by
   rw[List.map_map]
   exact(List.map_congr_left λa _=>qkm a).trans (List.map_id _)
  have hcell:∀(j:Nat) x,(zs.map mkS)[j]?=some x->M.cell b (o+j)=some (.string x):=λj x hj=>by
   refine ha j _ ?_
   rw[List.getElem?_map]at hj
   obtain⟨z,hz,rfl⟩:=Option.map_eq_some_iff.1 hj
   unfold qec
   rw[List.getElem?_map,hz];rfl
  have hlt:b<w.heap.size:=by
   obtain⟨z,hz⟩:∃z,zs[0]?=some z:=⟨zs[0]'(by omega),List.getElem?_eq_getElem _⟩
   have:=hcell 0 (mkS z) (by rw[List.getElem?_map,hz];rfl)
   unfold Mem.cell at this
   split at this
   ·rename_i hq;exact hw.lt hq
   ·cases this
  have hz:(zs.map mkS).length=n:=by rw[List.length_map];exact hnz
  have:=qiB b o c (zs.map mkS) (mkS sep) w (λj x hj=>hw.cell (hcell j x hj)) hlt (by omega) (by omega) (by rw[hm,qkm];exact hl)
  rw[hm,qkm,hz]at this
  exact this.mono λx w' ⟨g1,g2⟩=>⟨_,g1,g2,rfl⟩
theorem qrm (x:qaa) (e:Ex) (hk:x.Kind=e.kind) (M:Mem) (K:Value->Prop) (hK:K (.int .i64 (qkK e))):qer x M K:=by
 unfold qer qcn qbU
 rw[hk]
 have key:∀z,z=qkK e->K (.int .i64 z):=λz hz=>hz▸hK
 refine⟨λh=>key _ ?_,λh6=>⟨λh=>key _ ?_,λh5=>⟨λh=>⟨λ_=>key _ ?_,λg=>?_⟩,λh10=>⟨λh=>key _ ?_,λh11=>⟨λh=>⟨λ_=>key _ ?_,λg=>?_⟩,λh7=>⟨λh=>⟨λ_=>key _ ?_,λg=>?_⟩,λh8=>⟨λh=>key _ ?_,λh=>key _ ?_⟩⟩⟩⟩⟩⟩⟩
 all_goals first
  |(simp at g;omega)
  |(simp at*;unfold qkK;simp[*];try omega)
theorem qoF:Us (inR 0 255)=qoG:=qdL λb hb=>by unfold inR;simp;omega
theorem qnZ {x:qaa} {e:Ex} (hk:x.Kind=e.kind) (m:Int) (M:Mem) (K:Value->Prop) (hl:(txE e).length<=1000000) (ht:qaf Tryz.prog 46 #[x.val] M (λv _=>v= .string (mkS (txE e)))) (hK:K (.string (mkS (wiT m e)))):qfb x m M K:=by
 refine ht.mono λv M' _ hv=>⟨_,hv,qk2 _ _ _ (qrm x e hk _ _ ⟨_,rfl,λh=>?_,λh=>?_⟩)⟩
 ·unfold wiT at hK;rw[if_pos h]at hK
  exact⟨by simp;omega,by simp;omega,hK⟩
 ·unfold wiT at hK;rw[if_neg h]at hK
  exact hK
theorem qo7:∀(n:Nat) (e:Ex),SizeOf.sizeOf e<n->qgK e->(qa5 e).length<=60->∀(x:qaa) (M:Mem),ExR M e x->qnQ M 4 qoN->qaf Tryz.prog 46 #[x.val] M (λv _=>v= .string (mkS (txE e)))
 |0,_,h,_,_,_,_,_,_=>absurd h (Nat.not_lt_zero _)
 |n+1,e,hn,hf,hfl,x,M,hR,hT=>by
  obtain⟨xs,h⟩:=hR.open
  have hkl:∀k∈e.kids,(qa5 k).length<=60:=λk hk=>by
   have h1:=qlF e
   have h2:=qhN e.kids
   have:(qa5 k).length<=(e.kids.map λk=>(qa5 k).length).sum:=qpN (List.mem_map_of_mem hk)
   omega
  have kid:∀{i:Nat} {k:Ex} (m:Int) (M':Mem),M.le M'->e.kids[i]?=some k->∃(b o:Nat) (y:qaa),x.Kids_a=some ⟨b,o,none⟩/\At M' b (o+i*7) y.cells/\qaf Tryz.prog 72 #[y.val,.int .i64 m] M' (λv _=>v= .string (mkS (wiT m k))):=λ{i k} m M' hle hk=>by
   obtain⟨b,o,y,h1,h2,h3,_⟩:=h.kid hk
   have hm:=List.mem_of_getElem? hk
   obtain⟨ys,hy⟩:=h3.open
   have hlen:=qj3 k (hf.kid k hm)
   have:=hkl k hm
   exact⟨b,o,y,h1,h2.le hle,qkc _ _ _ _ (qnZ hy.kind m M' _ (by omega) (qo7 n k (by have:=Ex.kid_lt hm;omega) (hf.kid k hm) (hkl k hm) y M' (h3.le hle) (hT.le hle)) rfl)⟩
  have htl:=qj3 e hf
  have hll:(txE e).length<=180000:=by omega
  obtain⟨hk1,hk2,hk0,hk5,hk7,hlit,_⟩:=qa8 hf.fit
  have one:7<=e.kind->∃k,e.kids=[k]:=λh7=>by
   have:=hk7 h7
   match e.kids,this with
   |[k],_=>exact⟨k,rfl⟩
  refine qmf _ _ _ ?_
  have key:∀z,z=txE e->(Value.string (mkS z))= .string (mkS (txE e)):=λz hz=>hz▸rfl
  have loop:∀(m:Int) (sep:List UInt8),(e.kind=5\/e.kind=6)->m=qbP e.kind->Lib.join (e.kids.map (wiT m)) sep=txE e->qcF x M m sep (λv=>v= .string (mkS (txE e))):=λm sep h56 hm hj=>by
   have h8:=(hk5 h56).2
   refine⟨λx51 rn rx=>∃i:Nat,x51=i/\i<=e.kids.length/\rn=i/\rx=qec ((e.kids.take i).map (wiT m)),λx51 _ _=>e.kids.length-x51.toNat,⟨0,rfl,by omega,rfl,rfl⟩,λx51 rn rx ⟨i,hx,hi,hrn,hrx⟩=>⟨λhlt=>?_,λhge=>?_⟩⟩
   ·subst hx hrn hrx
    rw[h.len]at hlt ⊢
    obtain⟨k,hk⟩:∃k,e.kids[rn]?=some k:=⟨e.kids[rn]'(by omega),List.getElem?_eq_getElem _⟩
    obtain⟨b,o,y,h1,h2,h3⟩:=kid m M (Mem.le.refl _) hk
    refine⟨b,o,h1,by omega,hlt,y,by simpa using h2,h3.mono λv M' _ hv=>⟨_,hv,by omega,by unfold InI;omega,⟨rn+1,by omega,by omega,rfl,?_⟩,by dsimp only;omega⟩⟩
    rw[qpe,List.take_add_one,hk]
    simp
   ·rw[h.len]at hge
    subst hx
    have hie:i=e.kids.length:=by omega
    subst hie hrn
    intro M69 ad cap hle hsl
    rw[hrx,List.take_length]at hsl
    refine(qpU (sep:=sep) hsl (by rw[List.length_map];omega) (by rw[hj];omega)).mono λv M' _ hv=>⟨_,hv,?_⟩
    rw[hj]
  have hd:∀m (k:Ex),e.kids=[k]->((e.kids.map (wiT m))[0]?).getD []=wiT m k:=λm k hk=>by rw[hk];rfl
  have hwl:∀m,∀k∈e.kids,(wiT m k).length<=1000000:=λm k hk=>by
   have h1:=qj3 k (hf.kid k hk)
   have h2:=hkl k hk
   unfold wiT;split
   ·simp[brT];omega
   ·omega
  unfold qgG
  rw[h.kind,h.set,h.text,h.len]
  refine⟨λh1=>key _ (by rw[qdZ];simp[qdk,h1]),λh1=>⟨λh2=>?_,λh2=>⟨λh3=>?_,λh3=>⟨λh4=>key _ (by rw[qdZ];simp[qdk,h4]),λh4=>⟨λh10=>?_,λh10=>⟨λh11=>?_,λh11=>⟨λh7=>?_,λh7=>⟨λh8=>?_,λh8=>⟨λh9=>?_,λh9=>⟨λh6=>?_,λh6=>?_⟩⟩⟩⟩⟩⟩⟩⟩⟩⟩
  ·have hs:txE e=qm1 e.set:=by rw[qdZ];simp[qdk,h2]
   refine qe0 _ _ _ _ (qim _ _ _ ⟨_,rfl,?_⟩)
   rw[qoF]
   refine⟨λg=>key _ ?_,λg=>?_⟩
   ·rw[hs];unfold qm1;rw[if_pos g]
   ·refine qke _ _ _ (qpv h.hs hT _ ⟨_,rfl,key _ ?_⟩)
    rw[hs];unfold qm1;rw[if_neg g]
  ·have ht:=h.ht
   refine qd3 _ _ _ (qiR _ (by have:=(hlit h3).2;omega) _ _ ⟨_,rfl,key _ ?_⟩)
   rw[qdZ];simp[qdk,h3]
  ·obtain⟨k,hk⟩:=one (by omega)
   obtain⟨b,o,y,g1,g2,g3⟩:=kid (i:=0) (k:=k) 3 M (Mem.le.refl _) (by rw[hk];rfl)
   have:=hwl 3 k (by rw[hk];simp)
   refine⟨b,o,g1,by omega,by rw[hk];simp,y,by simpa using g2,g3.mono λv M' _ hv=>⟨_,hv,by simp;omega,key _ ?_⟩⟩
   rw[qdZ];simp[qdk,h10,qbP,hk]
  ·obtain⟨k,hk⟩:=one (by omega)
   obtain⟨b,o,y,g1,g2,g3⟩:=kid (i:=0) (k:=k) 3 M (Mem.le.refl _) (by rw[hk];rfl)
   have:=hwl 3 k (by rw[hk];simp)
   refine⟨b,o,g1,by omega,by rw[hk];simp,y,by simpa using g2,g3.mono λv M' _ hv=>⟨_,hv,by simp;omega,key _ ?_⟩⟩
   rw[qdZ];simp[qdk,h11,qbP,hk]
  ·obtain⟨k,hk⟩:=one (by omega)
   obtain⟨b,o,y,g1,g2,g3⟩:=kid (i:=0) (k:=k) 4 M (Mem.le.refl _) (by rw[hk];rfl)
   have:=hwl 4 k (by rw[hk];simp)
   refine⟨b,o,g1,by omega,by rw[hk];simp,y,by simpa using g2,g3.mono λv M' _ hv=>⟨_,hv,by simp;omega,key _ ?_⟩⟩
   rw[qdZ];simp[qdk,h7,qbP,hk]
  ·obtain⟨k,hk⟩:=one (by omega)
   obtain⟨b,o,y,g1,g2,g3⟩:=kid (i:=0) (k:=k) 4 M (Mem.le.refl _) (by rw[hk];rfl)
   have:=hwl 4 k (by rw[hk];simp)
   refine⟨b,o,g1,by omega,by rw[hk];simp,y,by simpa using g2,g3.mono λv M' _ hv=>⟨_,hv,by simp;omega,key _ ?_⟩⟩
   rw[qdZ];simp[qdk,h8,qbP,hk]
  ·obtain⟨k,hk⟩:=one (by omega)
   obtain⟨b,o,y,g1,g2,g3⟩:=kid (i:=0) (k:=k) 4 M (Mem.le.refl _) (by rw[hk];rfl)
   have:=hwl 4 k (by rw[hk];simp)
   refine⟨b,o,g1,by omega,by rw[hk];simp,y,by simpa using g2,g3.mono λv M' _ hv=>⟨_,hv,by simp;omega,key _ ?_⟩⟩
   rw[qdZ];simp[qdk,h9,qbP,hk]
  ·exact loop 2 _ (.inr h6) (by rw[h6];rfl) (by rw[qdZ];simp[qdk,h6,qbP])
  ·have h5:e.kind=5:=by omega
   exact loop 3 _ (.inl h5) (by rw[h5];rfl) (by rw[qdZ];simp[qdk,h5,qbP])
theorem qpj {e:Ex} {x:qaa} {M:Mem} (hR:ExR M e x) (hT:qnQ M 4 qoN) (K:Value->Prop) (h1:qdv e≠0->K (.tuple #[.string (mkS []),.int .i64 (qdv e)])) (h2:qdv e=0->K (.tuple #[.string (mkS (txE e)),.int .i64 0])):qfP x M K:=by
 refine qh0 _ _ _ (qlM e x M _ hR ⟨_,rfl,h1,λh0=>?_⟩)
 have h0:qdv e=0:=by simpa using h0
 exact(qo7 _ e (Nat.lt_succ_self _) (qgK.of h0) (qf6 h0).1 x M hR hT).mono λv M' _ hv=>⟨_,hv,h2 h0⟩
end Go.Proofs.YtleaplmdgckmkaaGreatDoor.core
namespace Go.Proofs.YtleaplmdgckmkaaGreatDoor.core
open Go.Gx Go.RowKit Go.ChangeShapes Go.WideShapes Go.ChangeAt
set_option linter.unusedVariables false
section
variable {s:List UInt8} {hb:Bool} {T:List qag} {k i:Nat}
theorem qmF {s:List UInt8} {i:Nat} {c:UInt8} {t:List UInt8} (h:s.drop i=c::t):i<s.length:=by
 have:=congrArg List.length h
 rw[List.length_drop]at this
 simp at this;omega
theorem qaP.le (h:qaP s hb T k i):i<=s.length:=by obtain⟨_,_,h,_⟩:=h;exact h
theorem qaP.sign {n c:Nat} (h:qaP s hb T k i) (hl:qen (s.drop (qan s i))= .sign n c) (hg:qan s i<s.length):kdT T k=(if c=33 then 126 else(c:Int))/\qaP s hb T (k+1) (qan s i+n):=by
 obtain⟨f,hd,hi,hf⟩:=h
 obtain⟨f,rfl⟩:∃f',f=f'+1:=⟨f-1,by omega⟩
 have b1:=(qks (t:=s.drop (qan s i))).2 _ _ hl
 have b2:=(qkr (t:=s.drop (qan s i))).2 _ _ hl
 rw[List.length_drop]at b1
 have:=qfO hi
 rw[qcs,if_neg (by omega),hl]at hd
 obtain⟨ht,hst⟩:=qdl hd (by omega) (by omega)
 exact⟨(qb3 ht).1,hst⟩
theorem qaP.node {n:Nat} {kk:Int} {st:qab} {tx:List UInt8} (h:qaP s hb T k i) (hl:qen (s.drop (qan s i))= .node n kk st tx) (hg:qan s i<s.length) (hn:kk=4->ql4 s (qan s (qan s i+n))=false):kdT T k=110/\exT T k= .mk kk st tx []/\qaP s hb T (k+1) (qan s i+n):=by
 obtain⟨f,hd,hi,hf⟩:=h
 obtain⟨f,rfl⟩:∃f',f=f'+1:=⟨f-1,by omega⟩
 have b1:=(qks (t:=s.drop (qan s i))).1 _ _ _ _ hl
 have b2:=(qkr (t:=s.drop (qan s i))).1 _ _ _ _ hl
 rw[List.length_drop]at b1
 have:=qfO hi
 rw[qcs,if_neg (by omega),hl]at hd
 dsimp only at hd
 rw[if_neg (λg=>by rw[hn g.1]at g;cases g.2.2)]at hd
 obtain⟨ht,hst⟩:=qdl hd (by omega) (by omega)
 exact⟨(qb3 ht).1,(qb3 ht).2.1,hst⟩
theorem qaP.head {n:Nat} {st:qab} {tx:List UInt8} (h:qaP s true T k i) (hl:qen (s.drop (qan s i))= .node n 4 st tx) (hg:qan s i<s.length) (ha:ql4 s (qan s (qan s i+n))=true):kdT T k=104/\nmT T k=tx/\qaP s true T (k+1) (qan s (qan s i+n)+2):=by
 obtain⟨f,hd,hi,hf⟩:=h
 obtain⟨f,rfl⟩:∃f',f=f'+1:=⟨f-1,by omega⟩
 have b1:=(qks (t:=s.drop (qan s i))).1 _ _ _ _ hl
 have b2:=(qkr (t:=s.drop (qan s i))).1 _ _ _ _ hl
 rw[List.length_drop]at b1
 have:=qfO hi
 have h2:=qnJ ha
 have:=qfO (s:=s) (i:=qan s i+n) (by omega)
 rw[qcs,if_neg (by omega),hl]at hd
 dsimp only at hd
 rw[if_pos ⟨rfl,rfl,ha⟩]at hd
 obtain⟨ht,hst⟩:=qdl hd (by omega) (by omega)
 exact⟨(qb3 ht).1,(qb3 ht).2.2.2,hst⟩
theorem qaP.over (h:qaP s hb T k i) (hg:qan s i=s.length):kdT T k=101:=by
 obtain⟨f,hd,hi,hf⟩:=h
 obtain⟨f,rfl⟩:∃f',f=f'+1:=⟨f-1,by omega⟩
 rw[qcs,if_pos hg]at hd
 have ht:T[k]?=some (tkR 101 (qan s i) zE []):=by
  have:(T.drop k)[0]?=some (tkR 101 (qan s i) zE []):=by rw[hd];rfl
  simpa using this
 exact(qb3 ht).1
def Hd (c:UInt8):Prop:=wsB c=false/\c.toNat≠35/\c.toNat≠60
def Gap (r:List UInt8):Prop:=r=[]\/∃d t,r=d::t/\Hd d
def GR (r:List UInt8):Prop:=r=[]\/∃c t,r=c::t/\nmB c=false/\(Hd c\/(wsB c=true/\Gap t))
theorem qmA {c:UInt8} {t:List UInt8} (h:s.drop i=c::t) (hc:Hd c):qan s i=i:=by
 unfold qan
 rw[h,qcW,if_neg (by rw[hc.1];simp),if_neg hc.2.1];rfl
theorem qrW (h:s.drop i=[]):qan s i=i:=by
 unfold qan
 rw[h,qcW];rfl
theorem qrX {r:List UInt8} (h:s.drop i=r) (hr:Gap r):qan s i=i:=by
 rcases hr with rfl|⟨d,t,rfl,hd⟩
 ·exact qrW h
 ·exact qmA h hd
theorem qoE {c:UInt8} {t:List UInt8} (h:s.drop i=c::t) (hc:wsB c=true) (ht:Gap t):qan s i=i+1:=by
 have h1:s.drop (i+1)=t:=by rw[<-List.drop_drop,h];rfl
 have:=qrX h1 ht
 unfold qan at this ⊢
 rw[h1]at this
 rw[h,qcW,if_pos hc];omega
theorem qqs {r:List UInt8} (h:s.drop i=r) (hr:Gap r):ql4 s i=false:=by
 unfold ql4
 rw[h]
 rcases hr with rfl|⟨d,t,rfl,hd⟩
 ·rfl
 ·refine decide_eq_false λe=>?_
  rw[List.take_succ_cons]at e
  exact hd.2.2 (by rw[(List.cons.inj e).1];rfl)
theorem qtL {r:List UInt8} (h:s.drop i=r) (hr:GR r):ql4 s (qan s i)=false:=by
 rcases hr with rfl|⟨c,t,rfl,_,hc|⟨hc,ht⟩⟩
 ·rw[qrW h];exact qqs h (.inl rfl)
 ·rw[qmA h hc];exact qqs h (.inr ⟨_,_,rfl,hc⟩)
 ·rw[qoE h hc ht]
  have h1:s.drop (i+1)=t:=by rw[<-List.drop_drop,h];rfl
  exact qqs h1 ht
end
theorem qlo:∀(l rest:List UInt8),(∀c∈l,nmB c=true)->(rest=[]\/∃c t,rest=c::t/\nmB c=false)->qfK (l++rest)=l.length
 |[],rest,_,h=>by
  rcases h with rfl|⟨c,t,rfl,hc⟩
  ·rfl
  ·rw[List.nil_append,qfK,if_neg (by rw[hc];simp)];rfl
 |c::l,rest,hl,h=>by
  rw[List.cons_append,qfK,if_pos (hl c (by simp)),qlo l rest (λd hd=>hl d (by simp[hd])) h,List.length_cons];omega
theorem qkt {c:UInt8} (h:ql2 c=true):¬(c.toNat=39\/c.toNat=34)/\c.toNat≠91/\c.toNat≠46/\c∉qds/\c.toNat≠60/\c.toNat≠35/\wsB c=false:=by
 have k:∀n:Nat,n<256->ql2 n.toUInt8=true->¬(n=39\/n=34)/\n≠91/\n≠46/\n.toUInt8∉qds/\n≠60/\n≠35/\wsB n.toUInt8=false:=by decide+kernel
 have:=k c.toNat c.toNat_lt
 rw[<-qsi (b:=c) rfl]at this
 exact this h
theorem qdU {nm:List UInt8} (h:qc2 nm=true):∃c l,nm=c::l/\ql2 c=true/\(∀d∈l,nmB d=true)/\nm.length<=8:=by
 unfold qc2 at h
 simp only[Bool.and_eq_true,decide_eq_true_eq]at h
 obtain⟨⟨h1,h2⟩,h3⟩:=h
 cases nm with
 |nil=>simp at h1
 |cons c l=>
  refine⟨c,l,rfl,?_,λd hd=>?_,h2⟩
  ·have:=h3 0 (by simp)
   simpa[okC]using this
  ·obtain⟨j,hj,rfl⟩:=List.mem_iff_getElem.1 hd
   have:=h3 (j+1) (by simp;omega)
   simp only[List.getElem?_cons_succ,List.getElem?_eq_getElem hj,Option.getD_some,okC]at this
   unfold nmB
   simpa using this
theorem qnl {nm rest:List UInt8} (h:qc2 nm=true) (hr:rest=[]\/∃c t,rest=c::t/\nmB c=false):qen (nm++rest)= .node nm.length 4 zS nm:=by
 obtain⟨c,l,rfl,hc,hl,_⟩:=qdU h
 obtain⟨g1,g2,g3,g4,g5,_⟩:=qkt hc
 rw[List.cons_append,qen,if_neg g1,if_neg g2,if_neg g3,if_neg g4,if_neg (λg=>g5 g.1),if_pos hc,qlo l rest hl hr,<-List.cons_append,List.take_append_of_le_length (by simp;omega)]
 rw[show(c::l).length=1+l.length by simp;omega,List.take_of_length_le (by simp;omega)]
theorem qtz {c:UInt8} {t:List UInt8} (h:c∈qds):qen (c::t)= .sign 1 c.toNat:=by
 have k:∀c∈qds,¬(c.toNat=39\/c.toNat=34)/\c.toNat≠91/\c.toNat≠46:=by decide
 obtain⟨g1,g2,g3⟩:=k c h
 rw[qen,if_neg g1,if_neg g2,if_neg g3,if_pos h]
theorem qsI {x rest:List UInt8} (hx:x≠[]):qen (qdV x++rest)= .node (qdV x).length 3 zS x:=by
 obtain⟨t,ht⟩:∃t,qdV x++rest=39::t:=⟨x.flatMap (qbz [39,92] 32)++39::rest,by unfold qdV;simp⟩
 have hu:=qkN x rest
 rw[ht]at hu ⊢
 rw[qen,if_pos (.inl rfl),hu,if_neg (λg=>g rfl),if_neg hx,Int.toNat_natCast]
theorem qrl {t:List UInt8}:qen (46::t)= .node 1 2 qt1 []:=by
 rw[qen,if_neg (by decide),if_neg (by decide),if_pos (show(46:UInt8).toNat=46 from rfl)]
theorem qsH {st:qab} (hs:wfS st) (rest:List UInt8):qen (qm1 st++rest)= .node (qm1 st).length 2 st []:=by
 unfold qm1
 split
 ·rename_i h
  have:st=qt1:=by
   unfold qaF at h
   simp[qoG]at h
   obtain⟨a,b,c,d⟩:=st
   simp only at h
   rw[h.1,h.2.1,h.2.2.1,h.2.2.2];rfl
  rw[this]
  exact qrl
 ·have e:[91]++qgD (qcg st) 256++[93]++rest=91::(qgD (qcg st) 256++93::rest):=by simp
  have hu:=qj2 hs rest
  generalize qgD (qcg st) 256=cc at*
  rw[e,qen,if_neg (by decide),if_pos (show(91:UInt8).toNat=91 from rfl),hu,if_neg (λg=>g rfl),Int.toNat_natCast]
  have hl:(([91]:List UInt8)++cc++[93]).length=cc.length+2:=by simp
  rw[hl]
theorem qiZ:∀c∈qds,Hd c:=by
 have:∀c∈qds,wsB c=false/\c.toNat≠35/\c.toNat≠60:=by decide
 exact this
theorem Ps.first {kd:Nat->Int} {ex:Nat->Ex} {t:Tg} {acc:List Ex} {k n:Nat} {r:Option Ex} (h:Ps kd ex t acc k r n):r.isSome=true->qpW t=false->beg (kd k):=by
 induction h with
 |altNo=>intro h;cases h
 |altOn _ _ _ ih _=>intro _ _;exact ih rfl rfl
 |altEnd _ _ ih=>intro _ _;exact ih rfl rfl
 |seqNo=>intro h;cases h
 |seqOn _ _ _ ih _=>intro _ _;exact ih rfl rfl
 |seqEnd _ _ ih=>intro _ _;exact ih rfl rfl
 |preSign c hc _ _=>intro _ _;unfold beg;omega
 |preNo=>intro h;cases h
 |prePost _ _ _ _ ih _=>intro _ _;exact ih rfl rfl
 |postOn=>intro _ e;cases e
 |postEnd=>intro _ e;cases e
 |priNode h=>intro _ _;exact .inl h
 |priEmpty h=>intro _ _;exact .inr (.inl h)
 |priNo=>intro h;cases h
 |priClose h=>intro _ _;exact .inr (.inl h)
 |priOpen=>intro h;cases h
 |priBad=>intro h;cases h
theorem Ps.pri_first {kd:Nat->Int} {ex:Nat->Ex} {k n:Nat} {e:Ex} (h:Ps kd ex .pri [] k (some e) n):kd k=110\/kd k=40:=by
 cases h with
 |priNode h=>exact .inl h
 |priEmpty h=>exact .inr h
 |priClose h=>exact .inr h
inductive WfE:Ex->Prop
 |mk (e:Ex) (hs:wfS e.set) (hk:∀k∈e.kids,WfE k):WfE e
theorem WfE.set {e:Ex} (h:WfE e):wfS e.set:=by cases h;assumption
theorem WfE.kid {e:Ex} (h:WfE e):∀k∈e.kids,WfE k:=by cases h;assumption
theorem ExR.wfE {M:Mem}:∀{e:Ex} {x:qaa},ExR M e x->WfE e:=by
 intro e x h
 induction h with
 |mk hk hs ht hv hl hks ih=>
  refine .mk _ hs λk hk=>?_
  obtain⟨i,hi,rfl⟩:=List.mem_iff_getElem.1 hk
  have hi':i<_:=hi
  exact ih i _ _ (List.getElem?_eq_getElem hi) (List.getElem?_eq_getElem (by rw[hl];exact hi))
theorem qpP {e:Ex}:(e.kind=6->qkK e=1)/\(e.kind=5->qkK e=2)/\(e.kind=10\/e.kind=11->qkK e=3)/\(7<=e.kind/\e.kind<=9->qkK e=4)/\(e.kind<=4->qkK e=5)/\1<=qkK e/\qkK e<=5:=by
 unfold qkK
 refine⟨λh=>by rw[if_pos h],λh=>by rw[if_neg (by omega),if_pos h],λh=>by rw[if_neg (by omega),if_neg (by omega),if_pos h],λh=>by rw[if_neg (by omega),if_neg (by omega),if_neg (by omega),if_pos h],λh=>by rw[if_neg (by omega),if_neg (by omega),if_neg (by omega),if_neg (by omega)],?_,?_⟩<;>(repeat' split)<;>omega
theorem qg8 (x y:List UInt8) (r:List (List UInt8)) (sep:List UInt8):Lib.join (x::y::r) sep=x++(sep++Lib.join (y::r) sep):=by simp[Lib.join,List.intercalate]
theorem qpa {k:Int} {s:qab} {t:List UInt8} {l:List (List UInt8)}:(k=1->qdk k s t l=[40,41])/\(k=2->qdk k s t l=qm1 s)/\(k=3->qdk k s t l=qdV t)/\(k=4->qdk k s t l=t)/\(k=5->qdk k s t l=Lib.join l [32])/\(k=6->qdk k s t l=Lib.join l [32,47,32])/\
  (k=10->qdk k s t l=38::(l[0]?).getD [])/\(k=11->qdk k s t l=33::(l[0]?).getD [])/\(k=7->qdk k s t l=(l[0]?).getD []++[42])/\(k=8->qdk k s t l=(l[0]?).getD []++[43])/\(k=9->qdk k s t l=(l[0]?).getD []++[63]):=by
 unfold qdk
 refine⟨λh=>?_,λh=>?_,λh=>?_,λh=>?_,λh=>?_,λh=>?_,λh=>?_,λh=>?_,λh=>?_,λh=>?_,λh=>?_⟩<;>subst h<;>simp
theorem qkA {e:Ex} (h:qnu e=true) (h4:e.kind=4):qc2 e.text=true:=by
 unfold qnu qhr at h
 simp only at h
 rw[if_neg (by omega),if_neg (by omega),if_neg (by omega),if_pos h4]at h
 simp only[Bool.and_eq_true]at h
 exact h.2
theorem que {s:qab} (h:zs s=true):s=⟨0,0,0,0⟩:=by
 unfold zs qaF at h
 simp at h
 obtain⟨a,b,c,d⟩:=s
 simp only at h
 rw[h.1,h.2.1,h.2.2.1,h.2.2.2]
theorem qrS (x:List UInt8):∃t,qdV x=39::t:=⟨x.flatMap (qbz [39,92] 32)++[39],by unfold qdV;simp⟩
theorem qrM (s:qab):∃c t,qm1 s=c::t/\Hd c:=by
 unfold qm1
 split
 ·exact⟨46,[],rfl,by unfold Hd;decide⟩
 ·exact⟨91,qgD (qcg s) 256++[93],by simp,by unfold Hd;decide⟩
theorem qqN:∀(m:Nat) (e:Ex),SizeOf.sizeOf e<m->qgK e->∃c t,txE e=c::t/\Hd c
 |0,_,h,_=>absurd h (Nat.not_lt_zero _)
 |m+1,e,hm,hf=>by
  obtain⟨f1,f2,f3,f4,f5,f6,f7,f8⟩:=qa8 hf.fit
  obtain⟨t1,t2,t3,t4,t5,t6,t10,t11,t7,t8,t9⟩:=qpa (k:=e.kind) (s:=e.set) (t:=e.text) (l:=e.kids.map (wiT (qbP e.kind)))
  rw[qdZ]
  have kid:∀k∈e.kids,∀v,∃c t,wiT v k=c::t/\Hd c:=λk hk v=>by
   unfold wiT
   split
   ·exact⟨40,txE k++[41],by unfold brT;simp,qiZ 40 (by decide)⟩
   ·exact qqN m k (by have:=Ex.kid_lt hk;omega) (hf.kid k hk)
  have first:e.kids≠[]->∀v,∃k r c t,e.kids=k::r/\wiT v k=c::t/\Hd c:=λhne v=>by
   cases hk:e.kids with
   |nil=>exact absurd hk hne
   |cons k r=>
    obtain⟨c,t,h1,h2⟩:=kid k (by rw[hk];simp) v
    exact⟨k,r,c,t,rfl,h1,h2⟩
  have jn:∀sep,e.kids≠[]->∃c t,Lib.join (e.kids.map (wiT (qbP e.kind))) sep=c::t/\Hd c:=λsep hne=>by
   obtain⟨k,r,c,t,h1,h2,h3⟩:=first hne (qbP e.kind)
   rw[h1,List.map_cons]
   cases r with
   |nil=>exact⟨c,t,by rw[List.map_nil,Lib.join_one,h2],h3⟩
   |cons y r=>exact⟨c,_,by rw[List.map_cons,qg8,h2,List.cons_append],h3⟩
  have one_:e.kids≠[]->∀z,∃c t,((e.kids.map (wiT (qbP e.kind)))[0]?).getD []++z=c::t/\Hd c:=λhne z=>by
   obtain⟨k,r,c,t,h1,h2,h3⟩:=first hne (qbP e.kind)
   exact⟨c,t++z,by rw[h1,List.map_cons,List.getElem?_cons_zero,Option.getD_some,h2,List.cons_append],h3⟩
  have h58:e.kind=5\/e.kind=6->e.kids≠[]:=λh hn=>by have:=f4 h;rw[hn]at this;simp at this
  have h7:7<=e.kind->e.kids≠[]:=λh hn=>by have:=f5 h;rw[hn]at this;simp at this
  have cases_:e.kind=1\/e.kind=2\/e.kind=3\/e.kind=4\/e.kind=5\/e.kind=6\/e.kind=7\/e.kind=8\/e.kind=9\/e.kind=10\/e.kind=11:=by omega
  rcases cases_ with h|h|h|h|h|h|h|h|h|h|h
  ·rw[t1 h];exact⟨40,[41],rfl,qiZ 40 (by decide)⟩
  ·rw[t2 h];exact qrM _
  ·rw[t3 h]
   obtain⟨t,ht⟩:=qrS e.text
   exact⟨39,t,ht,by unfold Hd;decide⟩
  ·rw[t4 h]
   obtain⟨c,l,h1,h2,_⟩:=qdU (qkA hf.fit h)
   obtain⟨_,_,_,_,g5,g6,g7⟩:=qkt h2
   exact⟨c,l,h1,g7,g6,g5⟩
  ·rw[t5 h];exact jn _ (h58 (.inl h))
  ·rw[t6 h];exact jn _ (h58 (.inr h))
  ·rw[t7 h];exact one_ (h7 (by omega)) _
  ·rw[t8 h];exact one_ (h7 (by omega)) _
  ·rw[t9 h];exact one_ (h7 (by omega)) _
  ·rw[t10 h];exact⟨38,_,rfl,qiZ 38 (by decide)⟩
  ·rw[t11 h];exact⟨33,_,rfl,qiZ 33 (by decide)⟩
theorem qse {e:Ex} (hf:qgK e) (v:Int):∃c t,wiT v e=c::t/\Hd c:=by
 unfold wiT
 split
 ·exact⟨40,txE e++[41],by unfold brT;simp,qiZ 40 (by decide)⟩
 ·exact qqN _ e (Nat.lt_succ_self _) hf
end Go.Proofs.YtleaplmdgckmkaaGreatDoor.core
namespace Go.Proofs.YtleaplmdgckmkaaGreatDoor.core
open Go.Gx Go.RowKit Go.ChangeShapes Go.WideShapes Go.ChangeAt
set_option linter.unusedVariables false
def npo (x:Int):Prop:=x≠42/\x≠43/\x≠63
def Qp (T:List qag) (L:Int) (k:Nat) (e:Ex) (n:Nat):Prop:=
 if L>=5 then Ps (kdT T) (exT T) .pri [] k (some e) n
 else if L=4 then ∃e0 n0,Ps (kdT T) (exT T) .pri [] k (some e0) n0/\∀r q,Ps (kdT T) (exT T) .post [e] n r q->Ps (kdT T) (exT T) .post [e0] n0 r q
 else if L=3 then npo (kdT T n)->Ps (kdT T) (exT T) .pre [] k (some e) n
 else if L=2 then npo (kdT T n)->¬beg (kdT T n)->Ps (kdT T) (exT T) .seq [] k (some e) n
 else npo (kdT T n)->¬beg (kdT T n)->kdT T n≠47->Ps (kdT T) (exT T) .alt [] k (some e) n
section
variable {T:List qag} {k n:Nat} {e:Ex}
theorem Qp.five (h:Ps (kdT T) (exT T) .pri [] k (some e) n):Qp T 5 k e n:=by unfold Qp;rw[if_pos (by omega)];exact h
theorem Qp.to4 {L:Int} (h:Qp T L k e n) (hL:L>=4):∃e0 n0,Ps (kdT T) (exT T) .pri [] k (some e0) n0/\∀r q,Ps (kdT T) (exT T) .post [e] n r q->Ps (kdT T) (exT T) .post [e0] n0 r q:=by
 unfold Qp at h
 split at h
 ·exact⟨_,_,h,λ_ _=>id⟩
 ·rw[if_pos (by omega)]at h;exact h
theorem Qp.to3 {L:Int} (h:Qp T L k e n) (hL:L>=3):npo (kdT T n)->Ps (kdT T) (exT T) .pre [] k (some e) n:=by
 by_cases h4:L>=4
 ·obtain⟨e0,n0,h1,h2⟩:=h.to4 h4
  intro ⟨g1,g2,g3⟩
  have:=h1.pri_first
  exact .prePost (by omega) (by omega) h1 (h2 _ _ (.postEnd g1 g2 g3))
 ·unfold Qp at h
  rw[if_neg (by omega),if_neg (by omega),if_pos (by omega)]at h;exact h
theorem Qp.to2 {L:Int} (h:Qp T L k e n) (hL:L>=2):npo (kdT T n)->¬beg (kdT T n)->Ps (kdT T) (exT T) .seq [] k (some e) n:=by
 by_cases h3:L>=3
 ·intro g1 g2;exact .seqEnd (acc:=[]) (h.to3 h3 g1) g2
 ·unfold Qp at h
  rw[if_neg (by omega),if_neg (by omega),if_neg (by omega),if_pos (by omega)]at h;exact h
theorem Qp.to1 {L:Int} (h:Qp T L k e n):npo (kdT T n)->¬beg (kdT T n)->kdT T n≠47->Ps (kdT T) (exT T) .alt [] k (some e) n:=by
 by_cases h2:L>=2
 ·intro g1 g2 g3;exact .altEnd (acc:=[]) (h.to2 h2 g1 g2) g3
 ·unfold Qp at h
  rw[if_neg (by omega),if_neg (by omega),if_neg (by omega),if_neg (by omega)]at h;exact h
theorem Qp.down {L v:Int} (h:Qp T L k e n) (hv:v<=L):Qp T v k e n:=by
 unfold Qp
 split
 ·unfold Qp at h;rw[if_pos (by omega)]at h;exact h
 ·split
  ·exact h.to4 (by omega)
  ·split
   ·exact h.to3 (by omega)
   ·split
    ·exact h.to2 (by omega)
    ·exact h.to1
end
section
variable {s:List UInt8} {hb:Bool} {T:List qag}
theorem qgu {k i:Nat} {c:UInt8} {r:List UInt8} (h:qaP s hb T k i) (hd:s.drop (qan s i)=c::r) (hc:c∈qds):kdT T k=(if c.toNat=33 then 126 else(c.toNat:Int))/\qaP s hb T (k+1) (qan s i+1)/\s.drop (qan s i+1)=r:=by
 obtain⟨h1,h2⟩:=h.sign (by rw[hd];exact qtz hc) (qmF hd)
 exact⟨h1,h2,by rw[<-List.drop_drop,hd];rfl⟩
theorem qtJ {c:UInt8} (hc:c∈qds) (r:List UInt8):GR (c::r):=by
 have:∀c∈qds,nmB c=false:=by decide
 exact .inr ⟨c,r,rfl,this c hc,.inl (qiZ c hc)⟩
theorem GR.nm {r:List UInt8} (h:GR r):r=[]\/∃c t,r=c::t/\nmB c=false:=by
 rcases h with rfl|⟨c,t,rfl,h,_⟩
 ·exact .inl rfl
 ·exact .inr ⟨c,t,rfl,h⟩
def Bk (s:List UInt8) (hb:Bool) (T:List qag) (t:List UInt8) (L:Int) (e:Ex):Prop:=
 ∀(k i:Nat) (rest:List UInt8),qaP s hb T k i->s.drop (qan s i)=t++rest->GR rest->∃n j,qaP s hb T n j/\s.drop j=rest/\Qp T L k e n
theorem Bk.down {t:List UInt8} {L v:Int} {e:Ex} (h:Bk s hb T t L e) (hv:v<=L):Bk s hb T t v e:=λk i rest h1 h2 h3=>by
 obtain⟨n,j,q1,q2,q3⟩:=h k i rest h1 h2 h3
 exact⟨n,j,q1,q2,q3.down hv⟩
theorem Bk.br {t:List UInt8} {L:Int} {e:Ex} (h:Bk s hb T t L e) (ht:∃c r,t=c::r/\Hd c):Bk s hb T (brT t) 5 e:=λk i rest h1 h2 h3=>by
 obtain⟨c,r,rfl,hc⟩:=ht
 have e1:brT (c::r)++rest=40::((c::r)++(41::rest)):=by unfold brT;simp
 rw[e1]at h2
 obtain⟨k1,k2,k3⟩:=qgu h1 h2 (by decide)
 have hg:qan s (qan s i+1)=qan s i+1:=qmA k3 hc
 obtain⟨n,j,q1,q2,q3⟩:=h (k+1) (qan s i+1) (41::rest) k2 (by rw[hg];exact k3) (qtJ (by decide) _)
 have hg2:qan s j=j:=qmA q2 (qiZ 41 (by decide))
 obtain⟨p1,p2,p3⟩:=qgu q1 (by rw[hg2];exact q2) (by decide)
 have hk:kdT T k=40:=k1
 have hn:kdT T n=41:=p1
 have ha:=q3.to1 (by rw[hn];unfold npo;omega) (by rw[hn];unfold beg;omega) (by omega)
 have h41:kdT T (k+1)≠41:=by
  have:=ha.first rfl rfl
  unfold beg at this;omega
 rw[hg2]at p2 p3
 exact⟨n+1,j+1,p2,p3,.five (.priClose hk h41 ha hn)⟩
theorem Bk.wi {v:Int} {e:Ex} (hf:qgK e) (h:Bk s hb T (txE e) (qkK e) e) (hv:v<=5):Bk s hb T (wiT v e) v e:=by
 unfold wiT
 split
 ·exact(h.br (qqN _ e (Nat.lt_succ_self _) hf)).down hv
 ·exact h.down (by omega)
theorem Bk.seqs:∀(ks:List Ex),ks≠[]->(∀e∈ks,qgK e/\Bk s hb T (wiT 3 e) 3 e)->∀(acc:List Ex) (k i:Nat) (rest:List UInt8),qaP s hb T k i->s.drop (qan s i)=Lib.join (ks.map (wiT 3)) [32]++rest->GR rest->
  ∃n j,qaP s hb T n j/\s.drop j=rest/\(npo (kdT T n)->¬beg (kdT T n)->Ps (kdT T) (exT T) .seq acc k (some (qoR 5 (acc++ks))) n)
 |[],h,_,_,_,_,_,_,_,_=>absurd rfl h
 |[e],_,hk,acc,k,i,rest,h1,h2,h3=>by
  rw[List.map_cons,List.map_nil,Lib.join_one]at h2
  obtain⟨n,j,q1,q2,q3⟩:=(hk e (by simp)).2 k i rest h1 h2 h3
  exact⟨n,j,q1,q2,λg1 g2=>.seqEnd (q3.to3 (by omega) g1) g2⟩
 |e::f::ks,_,hk,acc,k,i,rest,h1,h2,h3=>by
  rw[List.map_cons,List.map_cons,qg8,<-List.map_cons,List.append_assoc]at h2
  obtain⟨c,t,hj,hc⟩:∃c t,Lib.join ((f::ks).map (wiT 3)) [32]=c::t/\Hd c:=by
   obtain⟨c,t,h,hc⟩:=qse (hk f (by simp)).1 3
   cases ks with
   |nil=>exact⟨c,t,by rw[List.map_cons,List.map_nil,Lib.join_one,h],hc⟩
   |cons g ks=>exact⟨c,_,by rw[List.map_cons,List.map_cons,qg8,h,List.cons_append],hc⟩
  obtain⟨n,j,q1,q2,q3⟩:=(hk e (by simp)).2 k i ([32]++Lib.join ((f::ks).map (wiT 3)) [32]++rest) h1 (by rw[h2]) (.inr ⟨32,_,rfl,rfl,.inr ⟨rfl,.inr ⟨c,t++rest,by rw[hj];simp,hc⟩⟩⟩)
  have hg:qan s j=j+1:=qoE (c:=32) (t:=Lib.join ((f::ks).map (wiT 3)) [32]++rest) (by rw[q2];simp) rfl (.inr ⟨c,t++rest,by rw[hj];simp,hc⟩)
  have hd:s.drop (j+1)=Lib.join ((f::ks).map (wiT 3)) [32]++rest:=by rw[<-List.drop_drop,q2];simp
  obtain⟨n2,j2,p1,p2,p3⟩:=Bk.seqs (f::ks) (by simp) (λx hx=>hk x (by simp[hx])) (acc++[e]) n j rest q1 (by rw[hg];exact hd) h3
  refine⟨n2,j2,p1,p2,λg1 g2=>?_⟩
  have hr:=p3 g1 g2
  have hb:=hr.first rfl rfl
  rw[List.append_assoc]at hr
  exact .seqOn (q3.to3 (by omega) (by unfold beg at hb;unfold npo;omega)) hb hr
theorem Bk.alts:∀(ks:List Ex),ks≠[]->(∀e∈ks,qgK e/\Bk s hb T (wiT 2 e) 2 e)->∀(acc:List Ex) (k i:Nat) (rest:List UInt8),qaP s hb T k i->s.drop (qan s i)=Lib.join (ks.map (wiT 2)) [32,47,32]++rest->GR rest->
  ∃n j,qaP s hb T n j/\s.drop j=rest/\(npo (kdT T n)->¬beg (kdT T n)->kdT T n≠47->Ps (kdT T) (exT T) .alt acc k (some (qoR 6 (acc++ks))) n)
 |[],h,_,_,_,_,_,_,_,_=>absurd rfl h
 |[e],_,hk,acc,k,i,rest,h1,h2,h3=>by
  rw[List.map_cons,List.map_nil,Lib.join_one]at h2
  obtain⟨n,j,q1,q2,q3⟩:=(hk e (by simp)).2 k i rest h1 h2 h3
  exact⟨n,j,q1,q2,λg1 g2 g3=>.altEnd (q3.to2 (by omega) g1 g2) g3⟩
 |e::f::ks,_,hk,acc,k,i,rest,h1,h2,h3=>by
  rw[List.map_cons,List.map_cons,qg8,<-List.map_cons,List.append_assoc]at h2
  obtain⟨c,t,hj,hc⟩:∃c t,Lib.join ((f::ks).map (wiT 2)) [32,47,32]=c::t/\Hd c:=by
   obtain⟨c,t,h,hc⟩:=qse (hk f (by simp)).1 2
   cases ks with
   |nil=>exact⟨c,t,by rw[List.map_cons,List.map_nil,Lib.join_one,h],hc⟩
   |cons g ks=>exact⟨c,_,by rw[List.map_cons,List.map_cons,qg8,h,List.cons_append],hc⟩
  obtain⟨n,j,q1,q2,q3⟩:=(hk e (by simp)).2 k i ([32,47,32]++Lib.join ((f::ks).map (wiT 2)) [32,47,32]++rest) h1 (by rw[h2]) (.inr ⟨32,_,rfl,rfl,.inr ⟨rfl,.inr ⟨47,_,rfl,qiZ 47 (by decide)⟩⟩⟩)
  have q2':s.drop j=32::47::32::(Lib.join ((f::ks).map (wiT 2)) [32,47,32]++rest):=by rw[q2];simp
  have hg:qan s j=j+1:=qoE q2' rfl (.inr ⟨47,_,rfl,qiZ 47 (by decide)⟩)
  have hd1:s.drop (j+1)=47::32::(Lib.join ((f::ks).map (wiT 2)) [32,47,32]++rest):=by rw[<-List.drop_drop,q2'];rfl
  obtain⟨m1,m2,m3⟩:=qgu q1 (by rw[hg];exact hd1) (by decide)
  have hn:kdT T n=47:=m1
  rw[hg]at m2 m3
  have hg2:qan s (j+1+1)=j+1+1+1:=qoE m3 rfl (.inr ⟨c,t++rest,by rw[hj];simp,hc⟩)
  have hd2:s.drop (j+1+1+1)=Lib.join ((f::ks).map (wiT 2)) [32,47,32]++rest:=by rw[<-List.drop_drop,m3];rfl
  obtain⟨n2,j2,p1,p2,p3⟩:=Bk.alts (f::ks) (by simp) (λx hx=>hk x (by simp[hx])) (acc++[e]) (n+1) (j+1+1) rest m2 (by rw[hg2];exact hd2) h3
  refine⟨n2,j2,p1,p2,λg1 g2 g3=>?_⟩
  have hr:=p3 g1 g2 g3
  rw[List.append_assoc]at hr
  exact .altOn (q3.to2 (by omega) (by rw[hn];unfold npo;omega) (by rw[hn];unfold beg;omega)) hn hr
theorem back:∀(m:Nat) (e:Ex),SizeOf.sizeOf e<m->qgK e->WfE e->Bk s hb T (txE e) (qkK e) e
 |0,_,h,_,_=>absurd h (Nat.not_lt_zero _)
 |m+1,e,hm,hf,hw=>by
  obtain⟨f1,f2,f3,f4,f5,f6,f7,f8⟩:=qa8 hf.fit
  obtain⟨t1,t2,t3,t4,t5,t6,t10,t11,t7,t8,t9⟩:=qpa (k:=e.kind) (s:=e.set) (t:=e.text) (l:=e.kids.map (wiT (qbP e.kind)))
  obtain⟨l6,l5,l10,l7,l4,_,_⟩:=qpP (e:=e)
  rw[<-qdZ]at t1 t2 t3 t4 t5 t6 t10 t11 t7 t8 t9
  have kid:∀k∈e.kids,∀v,v<=5->qgK k/\Bk s hb T (wiT v k) v k:=λk hk v hv=>⟨hf.kid k hk,Bk.wi (hf.kid k hk) (back m k (by have:=Ex.kid_lt hk;omega) (hf.kid k hk) (hw.kid k hk)) hv⟩
  have hz:e.kind≠2->e.set=⟨0,0,0,0⟩:=λh=>que (f7 h)
  have eta:e= .mk e.kind e.set e.text e.kids:=by cases e;rfl
  have cases_:e.kind=1\/e.kind=2\/e.kind=3\/e.kind=4\/e.kind=5\/e.kind=6\/(e.kind=7\/e.kind=8\/e.kind=9)\/(e.kind=10\/e.kind=11):=by omega
  have node:∀(kk:Int) (st:qab) (tx:List UInt8),e= .mk kk st tx []->e.kind<=4->(∀rest,GR rest->qen (txE e++rest)= .node (txE e).length kk st tx)->0<(txE e).length->Bk s hb T (txE e) (qkK e) e:=λkk st tx he h4 hl h0 k i rest h1 h2 h3=>by
   rw[l4 h4]
   have hlt:qan s i<s.length:=by
    have:=congrArg List.length h2
    rw[List.length_drop,List.length_append]at this
    omega
   have hd:=qhe h2
   obtain⟨q1,q2,q3⟩:=h1.node (by rw[h2];exact hl rest h3) hlt (λ_=>qtL hd h3)
   refine⟨k+1,_,q3,hd,.five ?_⟩
   have:=Ps.priNode (ex:=exT T) q1
   rw[q2,<-he]at this
   exact this
  have kids0:e.kind<=4->e.kids=[]:=f3
  rcases cases_ with h|h|h|h|h|h|h|h
  ·intro k i rest h1 h2 h3
   rw[l4 (by omega)]
   rw[t1 h]at h2
   obtain⟨k1,k2,k3⟩:=qgu (r:=41::rest) h1 (by rw[h2];rfl) (by decide)
   have hg:qan s (qan s i+1)=qan s i+1:=qmA k3 (qiZ 41 (by decide))
   obtain⟨p1,p2,p3⟩:=qgu k2 (by rw[hg];exact k3) (by decide)
   rw[hg]at p2 p3
   refine⟨k+2,_,p2,p3,.five ?_⟩
   have hp:=Ps.priEmpty (kd:=kdT T) (ex:=exT T) (k:=k) k1 p1
   rw[eta,h,hz (by omega),f8 (by omega) (by omega),kids0 (by omega)]
   exact hp
  ·refine node 2 e.set [] ?_ (by omega) (λrest hr=>?_) ?_
   ·conv=>lhs;rw[eta,h,f8 (by omega) (by omega),kids0 (by omega)]
   ·rw[t2 h];exact qsH hw.set rest
   ·rw[t2 h];obtain⟨c,t,hc,_⟩:=qrM e.set;rw[hc];simp
  ·refine node 3 zS e.text ?_ (by omega) (λrest hr=>?_) ?_
   ·conv=>lhs;rw[eta,h,hz (by omega),kids0 (by omega)]
    rfl
   ·rw[t3 h];exact qsI (f6 h).1
   ·rw[t3 h];obtain⟨t,ht⟩:=qrS e.text;rw[ht];simp
  ·have hn:=qkA hf.fit h
   refine node 4 zS e.text ?_ (by omega) (λrest hr=>?_) ?_
   ·conv=>lhs;rw[eta,h,hz (by omega),kids0 (by omega)]
    rfl
   ·rw[t4 h];exact qnl hn hr.nm
   ·rw[t4 h];obtain⟨c,l,hc,_⟩:=qdU hn;rw[hc];simp
  ·have hne:e.kids≠[]:=λhn=>by have:=f4 (.inl h);rw[hn]at this;simp at this
   have hlk:qbP e.kind=3:=by unfold qbP;rw[if_neg (by omega),if_pos (by omega)]
   intro k i rest h1 h2 h3
   rw[t5 h,hlk]at h2
   obtain⟨n,j,q1,q2,q3⟩:=Bk.seqs e.kids hne (λx hx=>kid x hx 3 (by omega)) [] k i rest h1 h2 h3
   refine⟨n,j,q1,q2,?_⟩
   rw[l5 h]
   unfold Qp
   rw[if_neg (by omega),if_neg (by omega),if_neg (by omega),if_pos rfl]
   have he:qoR 5 ([]++e.kids)=e:=by
    have:=f4 (.inl h)
    rw[List.nil_append,qhb 5 (by omega)]
    conv=>rhs;rw[eta,h,hz (by omega),f8 (by omega) (by omega)]
    rfl
   rw[he]at q3
   exact q3
  ·have hne:e.kids≠[]:=λhn=>by have:=f4 (.inr h);rw[hn]at this;simp at this
   have hlk:qbP e.kind=2:=by unfold qbP;rw[if_pos h]
   intro k i rest h1 h2 h3
   rw[t6 h,hlk]at h2
   obtain⟨n,j,q1,q2,q3⟩:=Bk.alts e.kids hne (λx hx=>kid x hx 2 (by omega)) [] k i rest h1 h2 h3
   refine⟨n,j,q1,q2,?_⟩
   rw[l6 h]
   unfold Qp
   rw[if_neg (by omega),if_neg (by omega),if_neg (by omega),if_neg (by omega)]
   have he:qoR 6 ([]++e.kids)=e:=by
    have:=f4 (.inr h)
    rw[List.nil_append,qhb 6 (by omega)]
    conv=>rhs;rw[eta,h,hz (by omega),f8 (by omega) (by omega)]
    rfl
   rw[he]at q3
   exact q3
  ·obtain⟨y,hy⟩:∃y,e.kids=[y]:=List.length_eq_one_iff.1 (f5 (by omega))
   have hlk:qbP e.kind=4:=by unfold qbP;rw[if_neg (by omega),if_neg (by omega)]
   have post:∀(c:UInt8),c∈qds->c.toNat≠33->(c.toNat=42/\e.kind=7\/c.toNat=43/\e.kind=8\/c.toNat=63/\e.kind=9)->txE e=wiT 4 y++[c]->Bk s hb T (txE e) (qkK e) e:=λc hc h33 hck ht k i rest h1 h2 h3=>by
    rw[ht,List.append_assoc]at h2
    obtain⟨n,j,q1,q2,q3⟩:=(kid y (by rw[hy];simp) 4 (by omega)).2 k i (c::rest) h1 h2 (qtJ hc rest)
    have hg:qan s j=j:=qmA q2 (qiZ c hc)
    obtain⟨p1,p2,p3⟩:=qgu q1 (by rw[hg];exact q2) hc
    rw[hg]at p2 p3
    rw[if_neg h33]at p1
    refine⟨n+1,j+1,p2,p3,?_⟩
    rw[l7 (by omega)]
    obtain⟨e0,n0,g1,g2⟩:=q3.to4 (by omega)
    unfold Qp
    rw[if_neg (by omega),if_pos rfl]
    refine⟨e0,n0,g1,λr q hp=>g2 r q ?_⟩
    have he:one e.kind [y]=e:=by
     conv=>rhs;rw[eta,hz (by omega),f8 (by omega) (by omega),hy]
     rfl
    refine Ps.postOn e.kind (by omega) ?_
    rw[he];exact hp
   have h0:(([y]:List Ex).map (wiT 4))[0]?=some (wiT 4 y):=rfl
   rcases h with h|h|h
   ·exact post 42 (by decide) (by decide) (.inl ⟨rfl,h⟩) (by rw[t7 h,hlk,hy,h0];rfl)
   ·exact post 43 (by decide) (by decide) (.inr (.inl ⟨rfl,h⟩)) (by rw[t8 h,hlk,hy,h0];rfl)
   ·exact post 63 (by decide) (by decide) (.inr (.inr ⟨rfl,h⟩)) (by rw[t9 h,hlk,hy,h0];rfl)
  ·obtain⟨y,hy⟩:∃y,e.kids=[y]:=List.length_eq_one_iff.1 (f5 (by omega))
   have hlk:qbP e.kind=3:=by unfold qbP;rw[if_neg (by omega),if_pos (by omega)]
   have pre_:∀(c:UInt8),c∈qds->(c.toNat=38/\e.kind=10\/c.toNat=33/\e.kind=11)->txE e=c::wiT 3 y->Bk s hb T (txE e) (qkK e) e:=λc hc hck ht k i rest h1 h2 h3=>by
    rw[ht,List.cons_append]at h2
    obtain⟨p1,p2,p3⟩:=qgu h1 h2 hc
    obtain⟨d,t,hd,hh⟩:=qse (kid y (by rw[hy];simp) 3 (by omega)).1 3
    have hg:qan s (qan s i+1)=qan s i+1:=qmA (c:=d) (t:=t++rest) (by rw[p3,hd,List.cons_append]) hh
    obtain⟨n,j,q1,q2,q3⟩:=(kid y (by rw[hy];simp) 3 (by omega)).2 (k+1) (qan s i+1) rest p2 (by rw[hg];exact p3) h3
    refine⟨n,j,q1,q2,?_⟩
    rw[l10 h]
    unfold Qp
    rw[if_neg (by omega),if_neg (by omega),if_pos rfl]
    intro g
    have he:one e.kind [y]=e:=by
     conv=>rhs;rw[eta,hz (by omega),f8 (by omega) (by omega),hy]
     rfl
    have:=Ps.preSign (k:=k) e.kind (by rw[p1];rcases hck with⟨a,b⟩|⟨a,b⟩<;>rw[a,b]<;>decide) (q3.to3 (by omega) g)
    rw[Option.map_some,he]at this
    exact this
   have h0:(([y]:List Ex).map (wiT 3))[0]?=some (wiT 3 y):=rfl
   rcases h with h|h
   ·exact pre_ 38 (by decide) (.inl ⟨rfl,h⟩) (by rw[t10 h,hlk,hy,h0];rfl)
   ·exact pre_ 33 (by decide) (.inr ⟨rfl,h⟩) (by rw[t11 h,hlk,hy,h0];rfl)
end
end Go.Proofs.YtleaplmdgckmkaaGreatDoor.core
namespace Go.Proofs.YtleaplmdgckmkaaGreatDoor.core
open Go.Gx Go.RowKit Go.ChangeShapes Go.WideShapes Go.ChangeAt
set_option linter.unusedVariables false
def qou (r:Ru):List UInt8:=r.name++(32::60::45::32::(txE r.body++[10]))
def qeD (rs:List Ru):List UInt8:=rs.flatMap qou
theorem qrV (rs:List Ru) (h:∀r∈rs,qc2 r.name=true):Gap (qeD rs):=by
 cases rs with
 |nil=>exact .inl rfl
 |cons r rs=>
  obtain⟨c,l,h1,h2,_⟩:=qdU (h r (by simp))
  obtain⟨_,_,_,_,g5,g6,g7⟩:=qkt h2
  refine .inr ⟨c,l++(32::60::45::32::(txE r.body++[10]))++qeD rs,?_,g7,g6,g5⟩
  unfold qeD qou
  rw[List.flatMap_cons,h1];simp
theorem qjI {s:List UInt8} {T:List qag}:∀(rs:List Ru),rs≠[]->(∀r∈rs,qc2 r.name=true/\qgK r.body/\WfE r.body)->∀(acc:List Ru) (k i:Nat),qaP s true T k i->s.drop (qan s i)=qeD rs->
  kdT T k=104/\∃n,Rl (kdT T) (exT T) (nmT T) acc k (some (acc++rs)) n
 |[],h,_,_,_,_,_,_=>absurd rfl h
 |r::rs,_,hr,acc,k,i,h1,h2=>by
  obtain⟨hn,hf,hw⟩:=hr r (by simp)
  have e1:qeD (r::rs)=r.name++(32::60::45::32::(txE r.body++(10::qeD rs))):=by
   unfold qeD qou
   rw[List.flatMap_cons];simp
  rw[e1]at h2
  obtain⟨c,l,hc,hlet,_⟩:=qdU hn
  have hlt:qan s i<s.length:=by rw[hc,List.cons_append]at h2;exact qmF h2
  have hl:qen (s.drop (qan s i))= .node r.name.length 4 zS r.name:=by rw[h2];exact qnl hn (.inr ⟨32,_,rfl,rfl⟩)
  have hd:=qhe h2
  have hg:qan s (qan s i+r.name.length)=qan s i+r.name.length+1:=by
   rw[qan,hd,qcW,if_pos (by rfl),qcW,if_neg (by decide),if_neg (by decide)]
  have hd1:s.drop (qan s i+r.name.length+1)=60::45::32::(txE r.body++(10::qeD rs)):=by rw[<-List.drop_drop,hd];rfl
  have harr:ql4 s (qan s (qan s i+r.name.length))=true:=by rw[hg];unfold ql4;rw[hd1];rfl
  obtain⟨p1,p2,p3⟩:=h1.head hl hlt harr
  rw[hg]at p3
  have hd2:s.drop (qan s i+r.name.length+1+2)=32::(txE r.body++(10::qeD rs)):=by rw[<-List.drop_drop,hd1];rfl
  obtain⟨d,t,hx,hh⟩:=qqN _ r.body (Nat.lt_succ_self _) hf
  have hg2:qan s (qan s i+r.name.length+1+2)=qan s i+r.name.length+1+2+1:=qoE hd2 rfl (.inr ⟨d,t++(10::qeD rs),by rw[hx];simp,hh⟩)
  have hd3:s.drop (qan s i+r.name.length+1+2+1)=txE r.body++(10::qeD rs):=by rw[<-List.drop_drop,hd2];rfl
  have hgap:=qrV rs λq hq=>(hr q (by simp[hq])).1
  obtain⟨n,j,q1,q2,q3⟩:=back _ r.body (Nat.lt_succ_self _) hf hw (k+1) _ (10::qeD rs) p3 (by rw[hg2];exact hd3) (.inr ⟨10,_,rfl,rfl,.inr ⟨rfl,hgap⟩⟩)
  have hg3:qan s j=j+1:=qoE q2 rfl hgap
  have hd4:s.drop (j+1)=qeD rs:=by rw[<-List.drop_drop,q2];rfl
  have hru:(⟨nmT T k,r.body⟩:Ru)=r:=by rw[p2]
  refine⟨p1,?_⟩
  cases rs with
  |nil=>
   have hlen:qan s j=s.length:=by
    have h3:=congrArg List.length hd4
    have h4:=qmF q2
    rw[List.length_drop]at h3
    simp[qeD]at h3
    omega
   have h101:=q1.over hlen
   have:=Rl.en (acc:=acc) (nm:=nmT T) p1 (q3.to1 (by rw[h101];unfold npo;omega) (by rw[h101];unfold beg;omega) (by omega)) h101
   rw[hru]at this
   exact⟨n,this⟩
  |cons r2 rs=>
   obtain⟨h104,m,hm⟩:=qjI (r2::rs) (by simp) (λq hq=>hr q (by simp[hq])) (acc++[r]) n j q1 (by rw[hg3];exact hd4)
   refine⟨m,.on p1 (q3.to1 (by rw[h104];unfold npo;omega) (by rw[h104];unfold beg;omega) (by omega)) (by omega) ?_⟩
   rw[hru]
   rw[List.append_assoc]at hm
   exact hm
theorem qow {rs:List Ru} (hok:qh7 rs) (hgr:qaZ rs=0) (hw:∀r∈rs,WfE r.body) (hne:rs≠[]) (hl:(qeD rs).length<=2000):qlY (qeD rs) rs 0 0:=by
 have hall:∀r∈rs,qc2 r.name=true/\qgK r.body/\WfE r.body:=λr hr=>⟨hok.name r hr,qgK.of (hok.err r hr),hw r hr⟩
 have hg:qan (qeD rs) 0=0:=qrX (r:=qeD rs) (by simp) (qrV rs λr hr=>(hall r hr).1)
 obtain⟨_,n,hn⟩:=qjI (s:=qeD rs) rs hne hall [] 0 0 (qeX _ true hl) (by rw[hg];simp)
 exact .inr ⟨hl,some rs,n,hn,.inr ⟨rs,rfl,.inr ⟨hgr,rfl,rfl,rfl⟩⟩⟩
end Go.Proofs.YtleaplmdgckmkaaGreatDoor.core
namespace Go.Proofs.YtleaplmdgckmkaaGreatDoor.core
open Go.Gx Go.RowKit Go.ChangeShapes Go.WideShapes Go.ChangeAt
set_option linter.unusedVariables false
structure Lat {α:Type} (le:α->α->Prop) (ju:α->α->α) (wt:α->Nat) (m:Nat):Prop where
 refl:∀a,le a a
 trans:∀{a b c},le a b->le b c->le a c
 anti:∀{a b},le a b->le b a->a=b
 left:∀a b,le a (ju a b)
 right:∀a b,le b (ju a b)
 least:∀{a b c},le a c->le b c->le (ju a b) c
 mono:∀{a b},le a b->wt a<=wt b
 strict:∀{a b},le a b->a≠b->wt a<wt b
 bound:∀a,wt a<=m
section
variable {α:Type} {le:α->α->Prop} {ju:α->α->α} {wt:α->Nat} {m n:Nat} {F:List α->Nat->α}
def leL (le:α->α->Prop) (kn z:List α):Prop:=kn.length=z.length/\∀(i:Nat) a b,kn[i]?=some a->z[i]?=some b->le a b
theorem leL.refl (L:Lat le ju wt m) (kn:List α):leL le kn kn:=⟨rfl,λi a b ha hb=>by rw[ha]at hb;cases hb;exact L.refl a⟩
theorem leL.trans (L:Lat le ju wt m) {a b c:List α} (h:leL le a b) (k:leL le b c):leL le a c:=⟨h.1.trans k.1,λi x z hx hz=>by
 obtain⟨y,hy⟩:=qgo (l:=b) (i:=i) (by have:=(List.getElem?_eq_some_iff.1 hx).1;have:=h.1;omega)
 exact L.trans (h.2 i x y hx hy) (k.2 i y z hy hz)⟩
theorem leL.anti (L:Lat le ju wt m) {a b:List α} (h:leL le a b) (k:leL le b a):a=b:=by
 apply List.ext_getElem?
 intro i
 by_cases hi:i<a.length
 ·obtain⟨x,hx⟩:=qgo hi
  obtain⟨y,hy⟩:=qgo (l:=b) (i:=i) (by have:=h.1;omega)
  rw[hx,hy,L.anti (h.2 i x y hx hy) (k.2 i y x hy hx)]
 ·rw[List.getElem?_eq_none (by omega),List.getElem?_eq_none (by have:=h.1;omega)]
theorem leL.set (L:Lat le ju wt m) {kn:List α} {i:Nat} {a b:α} (hi:kn[i]?=some a) (h:le a b):leL le kn (kn.set i b):=by
 refine⟨by simp,λj x y hx hy=>?_⟩
 rw[List.getElem?_set]at hy
 split at hy
 ·subst i
  split at hy
  ·simp only[Option.some.injEq]at hy;subst hy;rw[hi]at hx;cases hx;exact h
  ·cases hy
 ·rw[hx]at hy;cases hy;exact L.refl _
def wS (wt:α->Nat) (m:Nat) (kn:List α):Nat:=(kn.map λa=>m-wt a).sum
theorem qmO (L:Lat le ju wt m):∀{kn:List α} {i:Nat} {a b:α},kn[i]?=some a->le a b->a≠b->wS wt m (kn.set i b)<wS wt m kn
 |[],i,a,b,h,_,_=>by simp at h
 |x::r,0,a,b,h,h1,h2=>by
  simp only[List.getElem?_cons_zero,Option.some.injEq]at h
  subst h
  have:=L.strict h1 h2
  have:=L.bound b
  simp only[wS,List.set_cons_zero,List.map_cons,List.sum_cons]
  omega
 |x::r,i+1,a,b,h,h1,h2=>by
  have:=qmO L (kn:=r) (i:=i) (by simpa using h) h1 h2
  simp only[wS,List.set_cons_succ,List.map_cons,List.sum_cons]at this ⊢
  omega
theorem qn0 (L:Lat le ju wt m):∀{a b:List α},leL le a b->wS wt m b<=wS wt m a/\(a≠b->wS wt m b<wS wt m a)
 |[],[],_=>⟨Nat.le_refl _,λh=>absurd rfl h⟩
 |[],y::b,h=>by have:=h.1;simp at this
 |x::a,[],h=>by have:=h.1;simp at this
 |x::a,y::b,h=>by
  have h0:=h.2 0 x y rfl rfl
  obtain⟨i1,i2⟩:=qn0 L (a:=a) (b:=b) ⟨by simpa using h.1,λi p q hp hq=>h.2 (i+1) p q (by simpa using hp) (by simpa using hq)⟩
  have:=L.mono h0
  have hb:=L.bound y
  simp only[wS,List.map_cons,List.sum_cons]at i1 i2 ⊢
  refine⟨by omega,λhne=>?_⟩
  by_cases hxy:x=y
  ·subst hxy
   have:=i2 (λe=>hne (by rw[e]))
   omega
  ·have:=L.strict h0 hxy
   omega
structure Pre (le:α->α->Prop) (F:List α->Nat->α) (n:Nat) (kn:List α):Prop where
 len:kn.length=n
 up:∀(i:Nat) a,kn[i]?=some a->le a (F kn i)
 low:∀z:List α,z.length=n->(∀(i:Nat) b,z[i]?=some b->le (F z i) b)->leL le kn z
def qmM (le:α->α->Prop) (F:List α->Nat->α) (n:Nat):Prop:=∀kn z:List α,∀i:Nat,i<n->kn.length=n->leL le kn z->le (F kn i) (F z i)
theorem Pre.step (L:Lat le ju wt m) (hF:qmM le F n) {kn:List α} (h:Pre le F n kn) {i:Nat} {a:α} (hi:kn[i]?=some a):Pre le F n (kn.set i (F kn i))/\leL le kn (kn.set i (F kn i)):=by
 have hle:=leL.set L hi (h.up i a hi)
 have hil:i<n:=by have:=(List.getElem?_eq_some_iff.1 hi).1;have:=h.len;omega
 refine⟨⟨by simp[h.len],λj x hx=>?_,λz hz hc=>?_⟩,hle⟩
 ·have hj:j<n:=by have:=(List.getElem?_eq_some_iff.1 hx).1;simp at this;have:=h.len;omega
  have hm:=hF kn _ j hj h.len hle
  rw[List.getElem?_set]at hx
  split at hx
  ·subst i
   split at hx
   ·simp only[Option.some.injEq]at hx;subst hx;exact hm
   ·cases hx
  ·exact L.trans (h.up j x hx) hm
 ·have hl:=h.low z hz hc
  refine⟨by simpa using hl.1,λj x y hx hy=>?_⟩
  rw[List.getElem?_set]at hx
  split at hx
  ·subst i
   split at hx
   ·simp only[Option.some.injEq]at hx;subst hx
    exact L.trans (hF kn z j hil h.len hl) (hc j y hy)
   ·cases hx
  ·exact hl.2 j x y hx hy
structure Lfp (le:α->α->Prop) (F:List α->Nat->α) (n:Nat) (kn:List α):Prop where
 len:kn.length=n
 shut:∀(i:Nat) a,kn[i]?=some a->le (F kn i) a
 low:∀z:List α,z.length=n->(∀(i:Nat) b,z[i]?=some b->le (F z i) b)->leL le kn z
theorem Lfp.same (L:Lat le ju wt m) {a b:List α} (h:Lfp le F n a) (k:Lfp le F n b):a=b:=leL.anti L (h.low b k.len k.shut) (k.low a h.len h.shut)
theorem Pre.lfp (L:Lat le ju wt m) {kn:List α} (h:Pre le F n kn) (hfix:∀(i:Nat) a,kn[i]?=some a->F kn i=a):Lfp le F n kn:=⟨h.len,λi a ha=>by rw[hfix i a ha];exact L.refl a,h.low⟩
def jac (ju:α->α->α) (F:List α->Nat->α) (kn:List α):List α:=kn.zipIdx.map λp=>ju p.1 (F kn p.2)
theorem qkw (kn:List α):(jac ju F kn).length=kn.length:=by simp[jac]
theorem qkx {kn:List α} {i:Nat} {a:α} (h:kn[i]?=some a):(jac ju F kn)[i]?=some (ju a (F kn i)):=by simp[jac,h]
theorem qtE (L:Lat le ju wt m) (kn:List α):leL le kn (jac ju F kn):=⟨(qkw kn).symm,λi a b ha hb=>by rw[qkx ha]at hb;cases hb;exact L.left _ _⟩
theorem qsL (L:Lat le ju wt m) (hF:qmM le F n) {kn z:List α} (hl:kn.length=n) (h:leL le kn z) (hz:∀(i:Nat) b,z[i]?=some b->le (F z i) b):leL le (jac ju F kn) z:=by
 refine⟨by rw[qkw];exact h.1,λi a b ha hb=>?_⟩
 have hi:i<kn.length:=by have:=(List.getElem?_eq_some_iff.1 ha).1;rw[qkw]at this;exact this
 obtain⟨x,hx⟩:=qgo hi
 rw[qkx hx]at ha
 cases ha
 exact L.least (h.2 i x b hx hb) (L.trans (hF kn z i (by omega) hl h) (hz i b hb))
def qie (ju:α->α->α) (F:List α->Nat->α):Nat->List α->List α
 |0,kn=>kn
 |k+1,kn=>jac ju F (qie ju F k kn)
theorem qnp (k:Nat) (kn:List α):(qie ju F k kn).length=kn.length:=by
 induction k with
 |zero=>rfl
 |succ k ih=>rw[qie,qkw,ih]
theorem qiX (L:Lat le ju wt m) (kn:List α):∀k,jac ju F (qie ju F k kn)=qie ju F k kn\/wS wt m (qie ju F k kn)+k<=wS wt m kn
 |0=>.inr (Nat.le_refl _)
 |k+1=>by
  rcases qiX L kn k with h|h
  ·left;rw[qie,h,h]
  ·by_cases he:jac ju F (qie ju F k kn)=qie ju F k kn
   ·left;rw[qie,he,he]
   ·right
    have:=(qn0 L (qtE (F:=F) L (qie ju F k kn))).2 (λe=>he e.symm)
    rw[qie];omega
theorem qrH (kn:List α):wS wt m kn<=m*kn.length:=by
 induction kn with
 |nil=>simp[wS]
 |cons a r ih=>
  simp only[wS,List.map_cons,List.sum_cons,List.length_cons]at ih ⊢
  rw[Nat.mul_succ];omega
theorem qpV (L:Lat le ju wt m) (hF:qmM le F n) (bot:α) (hbot:∀a,le bot a) (k:Nat) (hk:m*n<k):Lfp le F n (qie ju F k (List.replicate n bot)):=by
 have hlen:∀k,(qie ju F k (List.replicate n bot)).length=n:=λk=>by rw[qnp];simp
 refine⟨hlen k,λi a ha=>?_,λz hz hc=>?_⟩
 ·have hst:jac ju F (qie ju F k (List.replicate n bot))=qie ju F k (List.replicate n bot):=by
   rcases qiX (F:=F) L (List.replicate n bot) k with h|h
   ·exact h
   ·have:=qrH (wt:=wt) (m:=m) (List.replicate n bot)
    simp only[List.length_replicate]at this
    omega
  have h2:=qkx (ju:=ju) (F:=F) ha
  rw[hst,ha]at h2
  simp only[Option.some.injEq]at h2
  have:=L.right a (F (qie ju F k (List.replicate n bot)) i)
  rw[<-h2]at this
  exact this
 ·have hz0:∀k,leL le (qie ju F k (List.replicate n bot)) z:=by
   intro k
   induction k with
   |zero=>exact⟨by simp[qie,hz],λi a b ha hb=>by
     simp only[qie]at ha
     have:=List.mem_of_getElem? ha
     rw[(List.mem_replicate.1 this).2];exact hbot b⟩
   |succ k ih=>exact qsL L hF (hlen k) ih hc
  exact hz0 k
end
end Go.Proofs.YtleaplmdgckmkaaGreatDoor.core
namespace Go.Proofs.YtleaplmdgckmkaaGreatDoor.core
open Go.Gx Go.RowKit Go.ChangeShapes Go.WideShapes Go.ChangeAt
set_option linter.unusedVariables false
theorem qqJ {P:Program} {o:Oper} {a:Act} {w:World} {K K' J:Act->World->Prop} {Q:Exit->Act->World->Prop} (h:∀a w,K a w->K' a w) (hh:o.wp P a w K (λe a w=>match e with| .normal=>J a w|e=>Q e a w)):o.wp P a w K' Q:=by
 unfold Oper.wp at*
 generalize (execOp a.eval o).run P w=r at*
 cases r with
 |ok n w'=>
  cases n<;>simp only[Oper.upon]at hh ⊢<;>
   first
    |exact h _ _ hh
    |exact Calls.mono hh (λe w'' he=>by cases e<;>first|exact h _ _ he|exact he)
    |exact Rows.mono hh (λ_ _ he=>h _ _ he)
 |halt x w'=>cases x<;>simp only[Oper.upon]at hh ⊢<;>exact hh
theorem qit {P:Program} {ops:Array Oper} {Q:Exit->Act->World->Prop} (J:Act->World->Prop):∀(k:Nat) {l:List Oper} {a:Act} {w:World},wpList P ops (λe a w=>match e with| .normal=>J a w|e=>Q e a w) (l.take k) a w->(∀a w,J a w->wpList P ops Q (l.drop k) a w)->wpList P ops Q l a w
 |0,l,a,w,h,h2=>by rw[List.take_zero]at h;exact h2 a w h
 |k+1,[],a,w,h,h2=>h2 a w h
 |k+1,o::l,a,w,h,h2=>by
  have ih:∀a w,wpList P ops (λe a w=>match e with| .normal=>J a w|e=>Q e a w) (l.take k) a w->wpList P ops Q l a w:=λa w h=>qit J k h h2
  rw[List.take_succ_cons]at h
  unfold wpList at h ⊢
  split at h
  ·rename_i hw
   rw[if_pos hw]
   exact h.imp (qqJ ih) id
  ·rename_i hw
   rw[if_neg hw]
   exact ih _ _ h
theorem sPr {P:Program} {ops:Array Oper} {Q:Exit->Act->World->Prop} {n:Nat} {E:World} {bw:List Nat} {M:Mem} {w:World} {a:Act} {env:Env} {bs:List Bx} {rs:List Rw} {rest:List Oper} {o:Oper} (v:Value) {d:Nat} (hs:Sx n E bw M w a env bs rs) (h:∀a',Sx n E bw M w a' ((d,v)::env) bs rs->wpList P ops Q rest a' w)
  (hg:o.guard=none:=by rfl) (hd:o.dst=some d:=by rfl) (hdn:d<n:=by decide) (hk:qcf env o=true:=by rfl) (hr:∀w,(execOp (evT env) o).run P w= .ok (.value v) w:=by intro _;rfl):wpList P ops Q (o::rest) a w:=
 qsn v hs hg hd hdn (Yl.pure hk hr) h
def qi9 (a b:qac) (M:Mem) (K:Value->Prop):Prop:=K (qac.mk (a.Empty&&b.Empty) ((a.Eats&&(b.Empty||b.Eats))||(a.Empty&&b.Eats)) (a.Fails||((a.Empty||a.Eats)&&b.Fails))).val
def qlX (a b:qac) (M:Mem) (K:Value->Prop):Prop:=K (qac.mk (a.Empty||(a.Fails&&b.Empty)) (a.Eats||(a.Fails&&b.Eats)) (a.Fails&&b.Fails)).val
theorem qdj {P:Program} {ops:Array Oper} {Q:Exit->Act->World->Prop} (k:Nat) (J:Act->World->Prop) {l:List Oper} {a:Act} {w:World} (h1:wpList P ops (λe a w=>match e with| .normal=>J a w|e=>Q e a w) (l.take k) a w) (h2:∀a w,J a w->wpList P ops Q (l.drop k) a w):wpList P ops Q l a w:=qit J k h1 h2
set_option maxRecDepth 100000 in
theorem qiH (a1 b2:qac) (M:Mem) (K:Value->Prop) (hK:qi9 a1 b2 M K):qaf Tryz.prog 75 #[a1.val,b2.val] M (λv _=>K v):=by
 obtain⟨e1,t1,f1⟩:=a1
 obtain⟨e2,t2,f2⟩:=b2
 refine qi4 Tryz.func75 rfl 44 rfl (Nat.le_of_ble_eq_true rfl) (λE a hs=>?_)
 have hMM:=MX.refl M E
 change Sx 44 E [] M E a [(0,(qac.mk e1 t1 f1).val),(1,(qac.mk e2 t2 f2).val)] [] []at hs
 refine Wp.seq (Wp.region (qao (qac.mk e1 t1 f1).cells hs rfl rfl rfl (by decide) (λ_ _ b3 hEb3 hs=>?_)))
 refine qao (qac.mk e2 t2 f2).cells hs rfl rfl rfl (by decide) (λ_ _ b4 hEb4 hs=>?_)
 refine qae [(.bool false),(.bool false),(.bool false)] hs (by kernel_rfl) (by decide) (λ_ _ b5 hEb5 hs=>?_)
 refine wpList_nil (Wp.seq (Wp.region ?_))
 change Sx 44 E [] M _ _ _ [⟨b5,105,[.bool false,.bool false,.bool false]⟩,⟨b4,105,[.bool e2,.bool t2,.bool f2]⟩,⟨b3,105,[.bool e1,.bool t1,.bool f1]⟩] []at hs
 refine qdj 6 (λa w=>Sx 44 E [] M w a [(2,pt b3 0),(3,pt b4 0),(4,pt b5 0),(10,.bool (e1&&e2))] [⟨b5,105,[.bool false,.bool false,.bool false]⟩,⟨b4,105,[.bool e2,.bool t2,.bool f2]⟩,⟨b3,105,[.bool e1,.bool t1,.bool f1]⟩] []) ?_ λa w hs=>?_
 ·cases e1<;>cases e2<;>(
   refine sP (pt b3 0) hs λ_ hs=>?_
   first|refine sY (.bool true) hs (Yl.lB [.bool true] false 2) λ_ hs=>?_|refine sY (.bool false) hs (Yl.lB [.bool false] false 2) λ_ hs=>?_
   first|refine sPr (.bool true) hs λ_ hs=>?_|refine sPr (.bool false) hs λ_ hs=>?_
   first|refine sNo hs λ_ hs=>?_|refine sNu hs λ_ hs=>?_|refine sYe hs (sP (pt b4 0) hs λ_ hs=>?_)
   first|refine sNo hs λ_ hs=>?_|refine sNu hs λ_ hs=>?_|refine sYe hs (sY (.bool true) hs (Yl.lB [.bool true] false 1) λ_ hs=>?_)|refine sYe hs (sY (.bool false) hs (Yl.lB [.bool false] false 1) λ_ hs=>?_)
   first|refine sPr (.bool true) hs λ_ hs=>?_|refine sPr (.bool false) hs λ_ hs=>?_
   exact wpList_nil (hs.wk ⟨rfl,rfl,rfl,rfl,trivial⟩))
 refine qdj 10 (λa w=>Sx 44 E [] M w a [(2,pt b3 0),(3,pt b4 0),(4,pt b5 0),(10,.bool (e1&&e2)),(20,.bool (t1&&(e2||t2)))] [⟨b5,105,[.bool false,.bool false,.bool false]⟩,⟨b4,105,[.bool e2,.bool t2,.bool f2]⟩,⟨b3,105,[.bool e1,.bool t1,.bool f1]⟩] []) ?_ λa w hs=>?_
 ·cases t1<;>cases e2<;>cases t2<;>(
   refine sP (pt b3 1) hs λ_ hs=>?_
   first|refine sY (.bool true) hs (Yl.lB [.bool true] false 2) λ_ hs=>?_|refine sY (.bool false) hs (Yl.lB [.bool false] false 2) λ_ hs=>?_
   first|refine sPr (.bool true) hs λ_ hs=>?_|refine sPr (.bool false) hs λ_ hs=>?_
   first|refine sNo hs λ_ hs=>?_|refine sNu hs λ_ hs=>?_|refine sYe hs (sP (pt b4 0) hs λ_ hs=>?_)
   first|refine sNo hs λ_ hs=>?_|refine sNu hs λ_ hs=>?_|refine sYe hs (sY (.bool true) hs (Yl.lB [.bool true] false 1) λ_ hs=>?_)|refine sYe hs (sY (.bool false) hs (Yl.lB [.bool false] false 1) λ_ hs=>?_)
   first|refine sNo hs λ_ hs=>?_|refine sNu hs λ_ hs=>?_|refine sYe hs (sPr (.bool true) hs λ_ hs=>?_)|refine sYe hs (sPr (.bool false) hs λ_ hs=>?_)
   first|refine sNo hs λ_ hs=>?_|refine sNu hs λ_ hs=>?_|refine sYe hs (sP (pt b4 1) hs λ_ hs=>?_)
   first|refine sNo hs λ_ hs=>?_|refine sNu hs λ_ hs=>?_|refine sYe hs (sY (.bool true) hs (Yl.lB [.bool true] false 1) λ_ hs=>?_)|refine sYe hs (sY (.bool false) hs (Yl.lB [.bool false] false 1) λ_ hs=>?_)
   first|refine sNo hs λ_ hs=>?_|refine sNu hs λ_ hs=>?_|refine sYe hs (sPr (.bool true) hs λ_ hs=>?_)|refine sYe hs (sPr (.bool false) hs λ_ hs=>?_)
   first|refine sPr (.bool true) hs λ_ hs=>?_|refine sPr (.bool false) hs λ_ hs=>?_
   exact wpList_nil (hs.wk ⟨rfl,rfl,rfl,rfl,rfl,trivial⟩))
 refine qdj 8 (λa w=>Sx 44 E [] M w a [(2,pt b3 0),(3,pt b4 0),(4,pt b5 0),(10,.bool (e1&&e2)),(28,.bool ((t1&&(e2||t2))||(e1&&t2)))] [⟨b5,105,[.bool false,.bool false,.bool false]⟩,⟨b4,105,[.bool e2,.bool t2,.bool f2]⟩,⟨b3,105,[.bool e1,.bool t1,.bool f1]⟩] []) ?_ λa w hs=>?_
 ·cases t1<;>cases e2<;>cases t2<;>cases e1<;>(
   first|refine sPr (.bool true) hs λ_ hs=>?_|refine sPr (.bool false) hs λ_ hs=>?_
   first|refine sNo hs λ_ hs=>?_|refine sNu hs λ_ hs=>?_|refine sYe hs (sP (pt b3 0) hs λ_ hs=>?_)
   first|refine sNo hs λ_ hs=>?_|refine sNu hs λ_ hs=>?_|refine sYe hs (sY (.bool true) hs (Yl.lB [.bool true] false 2) λ_ hs=>?_)|refine sYe hs (sY (.bool false) hs (Yl.lB [.bool false] false 2) λ_ hs=>?_)
   first|refine sNo hs λ_ hs=>?_|refine sNu hs λ_ hs=>?_|refine sYe hs (sPr (.bool true) hs λ_ hs=>?_)|refine sYe hs (sPr (.bool false) hs λ_ hs=>?_)
   first|refine sNo hs λ_ hs=>?_|refine sNu hs λ_ hs=>?_|refine sYe hs (sP (pt b4 1) hs λ_ hs=>?_)
   first|refine sNo hs λ_ hs=>?_|refine sNu hs λ_ hs=>?_|refine sYe hs (sY (.bool true) hs (Yl.lB [.bool true] false 1) λ_ hs=>?_)|refine sYe hs (sY (.bool false) hs (Yl.lB [.bool false] false 1) λ_ hs=>?_)
   first|refine sNo hs λ_ hs=>?_|refine sNu hs λ_ hs=>?_|refine sYe hs (sPr (.bool true) hs λ_ hs=>?_)|refine sYe hs (sPr (.bool false) hs λ_ hs=>?_)
   first|refine sPr (.bool true) hs λ_ hs=>?_|refine sPr (.bool false) hs λ_ hs=>?_
   exact wpList_nil (hs.wk ⟨rfl,rfl,rfl,rfl,rfl,trivial⟩))
 refine qdj 14 (λa w=>Sx 44 E [] M w a [(2,pt b3 0),(3,pt b4 0),(4,pt b5 0),(10,.bool (e1&&e2)),(28,.bool ((t1&&(e2||t2))||(e1&&t2))),(42,.bool (f1||((e1||t1)&&f2)))] [⟨b5,105,[.bool false,.bool false,.bool false]⟩,⟨b4,105,[.bool e2,.bool t2,.bool f2]⟩,⟨b3,105,[.bool e1,.bool t1,.bool f1]⟩] []) ?_ λa w hs=>?_
 ·cases f1<;>cases e1<;>cases t1<;>cases f2<;>(
   refine sP (pt b3 2) hs λ_ hs=>?_
   first|refine sY (.bool true) hs (Yl.lB [.bool true] false 2) λ_ hs=>?_|refine sY (.bool false) hs (Yl.lB [.bool false] false 2) λ_ hs=>?_
   first|refine sPr (.bool true) hs λ_ hs=>?_|refine sPr (.bool false) hs λ_ hs=>?_
   first|refine sNo hs λ_ hs=>?_|refine sNu hs λ_ hs=>?_|refine sYe hs (sP (pt b3 0) hs λ_ hs=>?_)
   first|refine sNo hs λ_ hs=>?_|refine sNu hs λ_ hs=>?_|refine sYe hs (sY (.bool true) hs (Yl.lB [.bool true] false 2) λ_ hs=>?_)|refine sYe hs (sY (.bool false) hs (Yl.lB [.bool false] false 2) λ_ hs=>?_)
   first|refine sNo hs λ_ hs=>?_|refine sNu hs λ_ hs=>?_|refine sYe hs (sPr (.bool true) hs λ_ hs=>?_)|refine sYe hs (sPr (.bool false) hs λ_ hs=>?_)
   first|refine sNo hs λ_ hs=>?_|refine sNu hs λ_ hs=>?_|refine sYe hs (sP (pt b3 1) hs λ_ hs=>?_)
   first|refine sNo hs λ_ hs=>?_|refine sNu hs λ_ hs=>?_|refine sYe hs (sY (.bool true) hs (Yl.lB [.bool true] false 2) λ_ hs=>?_)|refine sYe hs (sY (.bool false) hs (Yl.lB [.bool false] false 2) λ_ hs=>?_)
   first|refine sNo hs λ_ hs=>?_|refine sNu hs λ_ hs=>?_|refine sYe hs (sPr (.bool true) hs λ_ hs=>?_)|refine sYe hs (sPr (.bool false) hs λ_ hs=>?_)
   first|refine sNo hs λ_ hs=>?_|refine sNu hs λ_ hs=>?_|refine sYe hs (sPr (.bool true) hs λ_ hs=>?_)|refine sYe hs (sPr (.bool false) hs λ_ hs=>?_)
   first|refine sNo hs λ_ hs=>?_|refine sNu hs λ_ hs=>?_|refine sYe hs (sP (pt b4 2) hs λ_ hs=>?_)
   first|refine sNo hs λ_ hs=>?_|refine sNu hs λ_ hs=>?_|refine sYe hs (sY (.bool true) hs (Yl.lB [.bool true] false 1) λ_ hs=>?_)|refine sYe hs (sY (.bool false) hs (Yl.lB [.bool false] false 1) λ_ hs=>?_)
   first|refine sNo hs λ_ hs=>?_|refine sNu hs λ_ hs=>?_|refine sYe hs (sPr (.bool true) hs λ_ hs=>?_)|refine sYe hs (sPr (.bool false) hs λ_ hs=>?_)
   first|refine sPr (.bool true) hs λ_ hs=>?_|refine sPr (.bool false) hs λ_ hs=>?_
   exact wpList_nil (hs.wk ⟨rfl,rfl,rfl,rfl,rfl,rfl,trivial⟩))
 refine sP (qac.mk (e1&&e2) ((t1&&(e2||t2))||(e1&&t2)) (f1||((e1||t1)&&f2))).val hs λ_ hs=>?_
 refine stB 0 [.bool (e1&&e2),.bool ((t1&&(e2||t2))||(e1&&t2)),.bool (f1||((e1||t1)&&f2))] [⟨b5,105,[.bool (e1&&e2),.bool ((t1&&(e2||t2))||(e1&&t2)),.bool (f1||((e1||t1)&&f2))]⟩,⟨b4,105,[.bool e2,.bool t2,.bool f2]⟩,⟨b3,105,[.bool e1,.bool t1,.bool f1]⟩] hs λ_ _ hs=>?_
 exact wpList_nil (Wp.ret (lvE K hs (qf2 (vs:=[.bool (e1&&e2),.bool ((t1&&(e2||t2))||(e1&&t2)),.bool (f1||((e1||t1)&&f2))]) true 0 hs rfl rfl rfl (by kernel_rfl) rfl) hMM.2 hK))
set_option maxRecDepth 100000 in
theorem qk0 (a1 b2:qac) (M:Mem) (K:Value->Prop) (hK:qlX a1 b2 M K):qaf Tryz.prog 76 #[a1.val,b2.val] M (λv _=>K v):=by
 obtain⟨e1,t1,f1⟩:=a1
 obtain⟨e2,t2,f2⟩:=b2
 refine qi4 Tryz.func76 rfl 32 rfl (Nat.le_of_ble_eq_true rfl) (λE a hs=>?_)
 have hMM:=MX.refl M E
 change Sx 32 E [] M E a [(0,(qac.mk e1 t1 f1).val),(1,(qac.mk e2 t2 f2).val)] [] []at hs
 refine Wp.seq (Wp.region (qao (qac.mk e1 t1 f1).cells hs rfl rfl rfl (by decide) (λ_ _ b3 hEb3 hs=>?_)))
 refine qao (qac.mk e2 t2 f2).cells hs rfl rfl rfl (by decide) (λ_ _ b4 hEb4 hs=>?_)
 refine qae [(.bool false),(.bool false),(.bool false)] hs (by kernel_rfl) (by decide) (λ_ _ b5 hEb5 hs=>?_)
 refine wpList_nil (Wp.seq (Wp.region ?_))
 change Sx 32 E [] M _ _ _ [⟨b5,105,[.bool false,.bool false,.bool false]⟩,⟨b4,105,[.bool e2,.bool t2,.bool f2]⟩,⟨b3,105,[.bool e1,.bool t1,.bool f1]⟩] []at hs
 refine qdj 10 (λa w=>Sx 32 E [] M w a [(2,pt b3 0),(3,pt b4 0),(4,pt b5 0),(14,.bool (e1||(f1&&e2)))] [⟨b5,105,[.bool false,.bool false,.bool false]⟩,⟨b4,105,[.bool e2,.bool t2,.bool f2]⟩,⟨b3,105,[.bool e1,.bool t1,.bool f1]⟩] []) ?_ λa w hs=>?_
 ·cases e1<;>cases f1<;>cases e2<;>(
   refine sP (pt b3 0) hs λ_ hs=>?_
   first|refine sY (.bool true) hs (Yl.lB [.bool true] false 2) λ_ hs=>?_|refine sY (.bool false) hs (Yl.lB [.bool false] false 2) λ_ hs=>?_
   first|refine sPr (.bool true) hs λ_ hs=>?_|refine sPr (.bool false) hs λ_ hs=>?_
   first|refine sNo hs λ_ hs=>?_|refine sNu hs λ_ hs=>?_|refine sYe hs (sP (pt b3 2) hs λ_ hs=>?_)
   first|refine sNo hs λ_ hs=>?_|refine sNu hs λ_ hs=>?_|refine sYe hs (sY (.bool true) hs (Yl.lB [.bool true] false 2) λ_ hs=>?_)|refine sYe hs (sY (.bool false) hs (Yl.lB [.bool false] false 2) λ_ hs=>?_)
   first|refine sNo hs λ_ hs=>?_|refine sNu hs λ_ hs=>?_|refine sYe hs (sPr (.bool true) hs λ_ hs=>?_)|refine sYe hs (sPr (.bool false) hs λ_ hs=>?_)
   first|refine sNo hs λ_ hs=>?_|refine sNu hs λ_ hs=>?_|refine sYe hs (sP (pt b4 0) hs λ_ hs=>?_)
   first|refine sNo hs λ_ hs=>?_|refine sNu hs λ_ hs=>?_|refine sYe hs (sY (.bool true) hs (Yl.lB [.bool true] false 1) λ_ hs=>?_)|refine sYe hs (sY (.bool false) hs (Yl.lB [.bool false] false 1) λ_ hs=>?_)
   first|refine sNo hs λ_ hs=>?_|refine sNu hs λ_ hs=>?_|refine sYe hs (sPr (.bool true) hs λ_ hs=>?_)|refine sYe hs (sPr (.bool false) hs λ_ hs=>?_)
   first|refine sPr (.bool true) hs λ_ hs=>?_|refine sPr (.bool false) hs λ_ hs=>?_
   exact wpList_nil (hs.wk ⟨rfl,rfl,rfl,rfl,trivial⟩))
 refine qdj 10 (λa w=>Sx 32 E [] M w a [(2,pt b3 0),(3,pt b4 0),(4,pt b5 0),(14,.bool (e1||(f1&&e2))),(24,.bool (t1||(f1&&t2)))] [⟨b5,105,[.bool false,.bool false,.bool false]⟩,⟨b4,105,[.bool e2,.bool t2,.bool f2]⟩,⟨b3,105,[.bool e1,.bool t1,.bool f1]⟩] []) ?_ λa w hs=>?_
 ·cases t1<;>cases f1<;>cases t2<;>(
   refine sP (pt b3 1) hs λ_ hs=>?_
   first|refine sY (.bool true) hs (Yl.lB [.bool true] false 2) λ_ hs=>?_|refine sY (.bool false) hs (Yl.lB [.bool false] false 2) λ_ hs=>?_
   first|refine sPr (.bool true) hs λ_ hs=>?_|refine sPr (.bool false) hs λ_ hs=>?_
   first|refine sNo hs λ_ hs=>?_|refine sNu hs λ_ hs=>?_|refine sYe hs (sP (pt b3 2) hs λ_ hs=>?_)
   first|refine sNo hs λ_ hs=>?_|refine sNu hs λ_ hs=>?_|refine sYe hs (sY (.bool true) hs (Yl.lB [.bool true] false 2) λ_ hs=>?_)|refine sYe hs (sY (.bool false) hs (Yl.lB [.bool false] false 2) λ_ hs=>?_)
   first|refine sNo hs λ_ hs=>?_|refine sNu hs λ_ hs=>?_|refine sYe hs (sPr (.bool true) hs λ_ hs=>?_)|refine sYe hs (sPr (.bool false) hs λ_ hs=>?_)
   first|refine sNo hs λ_ hs=>?_|refine sNu hs λ_ hs=>?_|refine sYe hs (sP (pt b4 1) hs λ_ hs=>?_)
   first|refine sNo hs λ_ hs=>?_|refine sNu hs λ_ hs=>?_|refine sYe hs (sY (.bool true) hs (Yl.lB [.bool true] false 1) λ_ hs=>?_)|refine sYe hs (sY (.bool false) hs (Yl.lB [.bool false] false 1) λ_ hs=>?_)
   first|refine sNo hs λ_ hs=>?_|refine sNu hs λ_ hs=>?_|refine sYe hs (sPr (.bool true) hs λ_ hs=>?_)|refine sYe hs (sPr (.bool false) hs λ_ hs=>?_)
   first|refine sPr (.bool true) hs λ_ hs=>?_|refine sPr (.bool false) hs λ_ hs=>?_
   exact wpList_nil (hs.wk ⟨rfl,rfl,rfl,rfl,rfl,trivial⟩))
 refine qdj 6 (λa w=>Sx 32 E [] M w a [(2,pt b3 0),(3,pt b4 0),(4,pt b5 0),(14,.bool (e1||(f1&&e2))),(24,.bool (t1||(f1&&t2))),(30,.bool (f1&&f2))] [⟨b5,105,[.bool false,.bool false,.bool false]⟩,⟨b4,105,[.bool e2,.bool t2,.bool f2]⟩,⟨b3,105,[.bool e1,.bool t1,.bool f1]⟩] []) ?_ λa w hs=>?_
 ·cases f1<;>cases f2<;>(
   refine sP (pt b3 2) hs λ_ hs=>?_
   first|refine sY (.bool true) hs (Yl.lB [.bool true] false 2) λ_ hs=>?_|refine sY (.bool false) hs (Yl.lB [.bool false] false 2) λ_ hs=>?_
   first|refine sPr (.bool true) hs λ_ hs=>?_|refine sPr (.bool false) hs λ_ hs=>?_
   first|refine sNo hs λ_ hs=>?_|refine sNu hs λ_ hs=>?_|refine sYe hs (sP (pt b4 2) hs λ_ hs=>?_)
   first|refine sNo hs λ_ hs=>?_|refine sNu hs λ_ hs=>?_|refine sYe hs (sY (.bool true) hs (Yl.lB [.bool true] false 1) λ_ hs=>?_)|refine sYe hs (sY (.bool false) hs (Yl.lB [.bool false] false 1) λ_ hs=>?_)
   first|refine sPr (.bool true) hs λ_ hs=>?_|refine sPr (.bool false) hs λ_ hs=>?_
   exact wpList_nil (hs.wk ⟨rfl,rfl,rfl,rfl,rfl,rfl,trivial⟩))
 refine sP (qac.mk (e1||(f1&&e2)) (t1||(f1&&t2)) (f1&&f2)).val hs λ_ hs=>?_
 refine stB 0 [.bool (e1||(f1&&e2)),.bool (t1||(f1&&t2)),.bool (f1&&f2)] [⟨b5,105,[.bool (e1||(f1&&e2)),.bool (t1||(f1&&t2)),.bool (f1&&f2)]⟩,⟨b4,105,[.bool e2,.bool t2,.bool f2]⟩,⟨b3,105,[.bool e1,.bool t1,.bool f1]⟩] hs λ_ _ hs=>?_
 exact wpList_nil (Wp.ret (lvE K hs (qf2 (vs:=[.bool (e1||(f1&&e2)),.bool (t1||(f1&&t2)),.bool (f1&&f2)]) true 0 hs rfl rfl rfl (by kernel_rfl) rfl) hMM.2 hK))
end Go.Proofs.YtleaplmdgckmkaaGreatDoor.core
namespace Go.Proofs.YtleaplmdgckmkaaGreatDoor.core
open Go.Gx Go.RowKit Go.ChangeShapes Go.WideShapes Go.ChangeAt
set_option linter.unusedVariables false
abbrev Fa:=qac
def fa0:Fa:=⟨false,false,false⟩
def qcl (a b:Fa):Fa:=⟨a.Empty&&b.Empty,(a.Eats&&(b.Empty||b.Eats))||(a.Empty&&b.Eats),a.Fails||((a.Empty||a.Eats)&&b.Fails)⟩
def qoK (a b:Fa):Fa:=⟨a.Empty||(a.Fails&&b.Empty),a.Eats||(a.Fails&&b.Eats),a.Fails&&b.Fails⟩
def qhd (f:Fa):Fa:=⟨f.Fails,f.Eats,false⟩
def qoM (f:Fa):Fa:=⟨f.Empty||f.Eats,false,f.Fails⟩
def qoL (f:Fa):Fa:=⟨f.Fails,false,f.Empty||f.Eats⟩
def qqa (a b:Fa):Fa:=⟨a.Empty||b.Empty,a.Eats||b.Eats,a.Fails||b.Fails⟩
def qkR:List Fa->Fa
 |[]=>fa0
 |a::l=>l.foldl qcl a
def qkQ:List Fa->Fa
 |[]=>fa0
 |[a]=>a
 |a::l=>qcl a (qkQ l)
def orL:List Fa->Fa
 |[]=>fa0
 |[a]=>a
 |a::l=>qoK a (orL l)
def hdF (l:List Fa):Fa:=l.headD fa0
theorem qn7:∀a b c:Fa,qcl (qcl a b) c=qcl a (qcl b c):=by
 rintro⟨_|_,_|_,_|_⟩ ⟨_|_,_|_,_|_⟩ ⟨_|_,_|_,_|_⟩<;>rfl
theorem qn8 {l:List Fa} (h:l≠[]) (a:Fa):qkR (l++[a])=qcl (qkR l) a:=by
 cases l with
 |nil=>exact absurd rfl h
 |cons b r=>simp[qkR]
theorem qlB (a b:Fa):∀l:List Fa,l.foldl qcl (qcl a b)=qcl a (l.foldl qcl b)
 |[]=>rfl
 |c::l=>by rw[List.foldl_cons,List.foldl_cons,qn7,qlB a (qcl b c) l]
theorem qj5:∀l:List Fa,qkR l=qkQ l
 |[]=>rfl
 |[a]=>rfl
 |a::b::l=>by
  have:=qj5 (b::l)
  rw[qkQ,<-this,qkR,qkR,List.foldl_cons,qlB]
  simp
def opF (k:Int) (s:qab) (r:Fa) (l:List Fa):Fa:=
 if k=1 then⟨true,false,false⟩ else if k=2 then⟨false,!zs s,true⟩ else if k=3 then⟨false,true,true⟩ else if k=4 then r
 else if k=5 then qkR l else if k=6 then orL l else if k=7 then qhd (hdF l) else if k=8 then qcl (hdF l) (qhd (hdF l))
 else if k=9 then qoK (hdF l) ⟨true,false,false⟩ else if k=10 then qoM (hdF l) else qoL (hdF l)
def qsv (rs:List Ru) (kn:List Fa) (s:List UInt8):Fa:=(kn[(qbt s rs 0).toNat]?).getD fa0
mutual
def ofE (rs:List Ru) (kn:List Fa):Ex->Fa
 | .mk k s t ks=>opF k s (qsv rs kn t) (qts rs kn ks)
def qts (rs:List Ru) (kn:List Fa):List Ex->List Fa
 |[]=>[]
 |k::ks=>ofE rs kn k::qts rs kn ks
end
theorem qnh (rs:List Ru) (kn:List Fa):∀ks,qts rs kn ks=ks.map (ofE rs kn)
 |[]=>by rw[qts];rfl
 |k::ks=>by rw[qts,qnh rs kn ks];rfl
theorem qni (rs:List Ru) (kn:List Fa) (e:Ex):ofE rs kn e=opF e.kind e.set (qsv rs kn e.text) (e.kids.map (ofE rs kn)):=by
 cases e;rw[ofE,qnh];rfl
def qed (a b:Fa):Prop:=(a.Empty=true->b.Empty=true)/\(a.Eats=true->b.Eats=true)/\(a.Fails=true->b.Fails=true)
def bit (b:Bool):Nat:=if b then 1 else 0
def qtN (a:Fa):Nat:=bit a.Empty+bit a.Eats+bit a.Fails
theorem qif:Lat qed qqa qtN 3 where
 refl:=λa=>⟨id,id,id⟩
 trans:=λh k=>⟨k.1∘h.1,k.2.1∘h.2.1,k.2.2∘h.2.2⟩
 anti:=by rintro⟨_|_,_|_,_|_⟩ ⟨_|_,_|_,_|_⟩<;>simp[qed]
 left:=by rintro⟨_|_,_|_,_|_⟩ ⟨_|_,_|_,_|_⟩<;>simp[qed,qqa]
 right:=by rintro⟨_|_,_|_,_|_⟩ ⟨_|_,_|_,_|_⟩<;>simp[qed,qqa]
 least:=by rintro⟨_|_,_|_,_|_⟩ ⟨_|_,_|_,_|_⟩ ⟨_|_,_|_,_|_⟩<;>simp[qed,qqa]
 mono:=by rintro⟨_|_,_|_,_|_⟩ ⟨_|_,_|_,_|_⟩<;>simp[qed,qtN,bit]
 strict:=by rintro⟨_|_,_|_,_|_⟩ ⟨_|_,_|_,_|_⟩<;>simp[qed,qtN,bit]
 bound:=by rintro⟨_|_,_|_,_|_⟩<;>simp[qtN,bit]
theorem qkP:∀{a b c d:Fa},qed a c->qed b d->qed (qcl a b) (qcl c d):=by
 intro a b c d h k
 obtain⟨h1,h2,h3⟩:=h
 obtain⟨k1,k2,k3⟩:=k
 refine⟨?_,?_,?_⟩<;>simp only[qcl,Bool.and_eq_true,Bool.or_eq_true]
 ·exact λ⟨p,q⟩=>⟨h1 p,k1 q⟩
 ·rintro(⟨p,q⟩|⟨p,q⟩)
  ·exact .inl ⟨h2 p,q.imp k1 k2⟩
  ·exact .inr ⟨h1 p,k2 q⟩
 ·rintro(p|⟨p,q⟩)
  ·exact .inl (h3 p)
  ·exact .inr ⟨p.imp h1 h2,k3 q⟩
theorem qpF:∀{a b c d:Fa},qed a c->qed b d->qed (qoK a b) (qoK c d):=by
 intro a b c d h k
 obtain⟨h1,h2,h3⟩:=h
 obtain⟨k1,k2,k3⟩:=k
 refine⟨?_,?_,?_⟩<;>simp only[qoK,Bool.and_eq_true,Bool.or_eq_true]
 ·exact λp=>p.imp h1 λ⟨p,q⟩=>⟨h3 p,k1 q⟩
 ·exact λp=>p.imp h2 λ⟨p,q⟩=>⟨h3 p,k2 q⟩
 ·exact λ⟨p,q⟩=>⟨h3 p,k3 q⟩
theorem qkX:∀{a c:Fa},qed a c->qed (qhd a) (qhd c):=λh=>⟨h.2.2,h.2.1,id⟩
theorem qrE:∀{a c:Fa},qed a c->qed (qoM a) (qoM c):=λh=>⟨by simp only[qoM,Bool.or_eq_true];exact λp=>p.imp h.1 h.2.1,id,h.2.2⟩
theorem qre:∀{a c:Fa},qed a c->qed (qoL a) (qoL c):=λh=>⟨h.2.2,id,by simp only[qoL,Bool.or_eq_true];exact λp=>p.imp h.1 h.2.1⟩
theorem qjx:∀{l k:List Fa},leL qed l k->qed (qkQ l) (qkQ k)
 |[],k,h=>by have:=h.1;have:k=[]:=List.eq_nil_of_length_eq_zero (by simpa using this.symm);subst this;exact qif.refl _
 |[a],k,h=>by
  obtain⟨b,rfl⟩:∃b,k=[b]:=List.length_eq_one_iff.1 (by simpa using h.1.symm)
  exact h.2 0 a b rfl rfl
 |a::x::l,k,h=>by
  obtain⟨b,k,rfl⟩:∃b k',k=b::k':=by cases k with|nil=>have:=h.1;simp at this|cons b k=>exact⟨b,k,rfl⟩
  have ht:leL qed (x::l) k:=⟨by simpa using h.1,λi p q hp hq=>h.2 (i+1) p q (by simpa using hp) (by simpa using hq)⟩
  cases k with
  |nil=>have:=ht.1;simp at this
  |cons y k=>
   simp only[qkQ]
   exact qkP (h.2 0 a b rfl rfl) (qjx ht)
theorem qnb:∀{l k:List Fa},leL qed l k->qed (orL l) (orL k)
 |[],k,h=>by have:=h.1;have:k=[]:=List.eq_nil_of_length_eq_zero (by simpa using this.symm);subst this;exact qif.refl _
 |[a],k,h=>by
  obtain⟨b,rfl⟩:∃b,k=[b]:=List.length_eq_one_iff.1 (by simpa using h.1.symm)
  exact h.2 0 a b rfl rfl
 |a::x::l,k,h=>by
  obtain⟨b,k,rfl⟩:∃b k',k=b::k':=by cases k with|nil=>have:=h.1;simp at this|cons b k=>exact⟨b,k,rfl⟩
  have ht:leL qed (x::l) k:=⟨by simpa using h.1,λi p q hp hq=>h.2 (i+1) p q (by simpa using hp) (by simpa using hq)⟩
  cases k with
  |nil=>have:=ht.1;simp at this
  |cons y k=>
   simp only[orL]
   exact qpF (h.2 0 a b rfl rfl) (qnb ht)
theorem qrp {l k:List Fa} (h:leL qed l k):qed (hdF l) (hdF k):=by
 cases l with
 |nil=>have:=h.1;have:k=[]:=List.eq_nil_of_length_eq_zero (by simpa using this.symm);subst this;exact qif.refl _
 |cons a l=>cases k with
  |nil=>have:=h.1;simp at this
  |cons b k=>exact h.2 0 a b rfl rfl
theorem qq8 {k:Int} {s:qab} {r r':Fa} {l l':List Fa} (hr:qed r r') (hl:leL qed l l'):qed (opF k s r l) (opF k s r' l'):=by
 have h1:=qrp hl
 unfold opF
 split;· exact qif.refl _
 split;· exact qif.refl _
 split;· exact qif.refl _
 split;· exact hr
 split;· rw[qj5,qj5];exact qjx hl
 split;· exact qnb hl
 split;· exact qkX h1
 split;· exact qkP h1 (qkX h1)
 split;· exact qpF h1 (qif.refl _)
 split;· exact qrE h1
 exact qre h1
theorem qpu {rs:List Ru} {kn z:List Fa} (h:leL qed kn z) (s:List UInt8):qed (qsv rs kn s) (qsv rs z s):=by
 unfold qsv
 by_cases hi:(qbt s rs 0).toNat<kn.length
 ·obtain⟨a,ha⟩:=qgo hi
  obtain⟨b,hb⟩:=qgo (l:=z) (i:=(qbt s rs 0).toNat) (by have:=h.1;omega)
  rw[ha,hb];exact h.2 _ _ _ ha hb
 ·rw[List.getElem?_eq_none (by omega),List.getElem?_eq_none (by have:=h.1;omega)];exact qif.refl _
theorem qrc {rs:List Ru} {kn z:List Fa} (h:leL qed kn z) (e:Ex):qed (ofE rs kn e) (ofE rs z e):=by
 induction hn:SizeOf.sizeOf e using Nat.strongRecOn generalizing e with
 |_ n ih=>
  subst hn
  rw[qni,qni]
  refine qq8 (qpu h _) ⟨by simp,λi a b ha hb=>?_⟩
  rw[List.getElem?_map]at ha hb
  cases hk:e.kids[i]? with
  |none=>rw[hk]at ha;cases ha
  |some k=>
   rw[hk]at ha hb
   simp only[Option.map_some,Option.some.injEq]at ha hb
   subst ha hb
   exact ih _ (Ex.kid_lt (List.mem_of_getElem? hk)) k rfl
def Fof (rs:List Ru) (kn:List Fa) (i:Nat):Fa:=match rs[i]? with
 |some r=>ofE rs kn r.body
 |none=>fa0
theorem qnT (rs:List Ru) (n:Nat):qmM qed (Fof rs) n:=λkn z i _ _ h=>by
 unfold Fof
 split
 ·exact qrc h _
 ·exact qif.refl _
theorem qqw (x:Fa):x.cells.length=3:=rfl
theorem qo6 (a b:Fa) (M:Mem) (K:Value->Prop) (h:K (qcl a b).val):qi9 a b M K:=h
theorem qtq (a b:Fa) (M:Mem) (K:Value->Prop) (h:K (qoK a b).val):qlX a b M K:=h
end Go.Proofs.YtleaplmdgckmkaaGreatDoor.core
namespace Go.Proofs.YtleaplmdgckmkaaGreatDoor.core
open Go.Gx Go.RowKit Go.ChangeShapes Go.WideShapes Go.ChangeAt
set_option linter.unusedVariables false
theorem qtD {rs:List Ru} {kn:List Fa} {e:Ex} {ga ra:Option Addr} {gl gc rc:Nat} {x:qaa} {M M':Mem} {b2 b3 b4:Nat}
  (hon:∀(k:Ex) (y:qaa) (K:Value->Prop),k∈e.kids->ExR M' k y->K (ofE rs kn k).val->qeP ga gl gc ra kn.length rc y M' K)
  (hR:ExR M e x) (hle:M.le M') (h2:At M' b2 0 [Value.slice ga gl gc]) (h3:At M' b3 0 [Value.slice ra kn.length rc]) (h4:At M' b4 0 x.cells)
  (i:Int) (h0:0<=i) (k:Ex) (hk:e.kids[i.toNat]?=some k) (K:Value->Prop) (hK:K (ofE rs kn k).val):qe9 i b2 b3 b4 M' K:=by
 obtain⟨xs,hx⟩:=(hR.le hle).open
 obtain⟨b,o,y,ha,hat,hy,_⟩:=hx.kid hk
 have hlt:=(List.getElem?_eq_some_iff.1 hk).1
 unfold qe9
 refine⟨_,_,_,h2,_,_,_,h3,_,_,_,(h4.part 6 [Value.slice x.Kids_a x.Kids_l x.Kids_c] rfl),b,o,ha,h0,by rw[hx.len];omega,y,hat,?_⟩
 exact qfE _ _ _ _ _ _ _ _ _ (hon k y _ (List.mem_of_getElem? hk) hy ⟨_,rfl,hK⟩)
theorem qph (a:Fa) (M:Mem) (K:Value->Prop) (h:K (qhd a).val):qgF a M K:=h
theorem qrb {rs:List Ru} {kn:List Fa} {ga ra:Option Addr} {gl gc rc:Nat} (hlen:kn.length=rs.length):∀(n:Nat) (e:Ex),SizeOf.sizeOf e<n->∀{M:Mem} {x:qaa} {K:Value->Prop},ExR M e x->GrR M rs ga gl gc->
  SlV M ra kn.length rc 3 (cl qac.cells kn)->qfm rs e->K (ofE rs kn e).val->qeP ga gl gc ra kn.length rc x M K:=by
 intro n
 induction n with
 |zero=>intro e h;omega
 |succ n ih=>
  intro e hn M x K hR hg hkn hgood hK
  obtain⟨xs,hx⟩:=hR.open
  obtain⟨g1,g2,g3,g4,g5,g6,g7,g8⟩:=qa8 hgood.fit
  have hon:∀M',M.le M'->∀(k:Ex) (y:qaa) (K:Value->Prop),k∈e.kids->ExR M' k y->K (ofE rs kn k).val->qeP ga gl gc ra kn.length rc y M' K:=λM' hle k y K hk hy hK=>
   ih k (by have:=Ex.kid_lt hk;omega) hy (hg.le hle) (hkn.le hle) (hgood.kid k hk) hK
  have kid:=λ{M' b2 b3 b4} (hle:M.le M')=>qtD (e:=e) (M:=M) (M':=M') (b2:=b2) (b3:=b3) (b4:=b4) (hon M' hle) hR hle
  rw[qni]at hK
  have hL:∀(i:Nat) k,e.kids[i]?=some k->(e.kids.map (ofE rs kn))[i]?=some (ofE rs kn k):=λi k hk=>by rw[List.getElem?_map,hk];rfl
  generalize hLd:e.kids.map (ofE rs kn)=l at hK hL
  have hll:l.length=e.kids.length:=by rw[<-hLd];simp
  have hat3:∀{M:Mem} {b:Nat},At M b 0 [Value.int .i64 e.kind,Value.int .u64 x.Set.w0,Value.int .u64 x.Set.w1,Value.int .u64 x.Set.w2,Value.int .u64 x.Set.w3,Value.string (mkS x.Text),Value.slice x.Kids_a x.Kids_l x.Kids_c]->At M b 0 x.cells:=λh=>by rw[<-hx.kind]at h;exact h
  have one:7<=e.kind->∃k,e.kids[(0:Int).toNat]?=some k/\hdF l=ofE rs kn k:=λh7=>by
   obtain⟨k,hk⟩:=qgo (l:=e.kids) (i:=0) (by have:=g5 h7;omega)
   refine⟨k,hk,?_⟩
   have:=hL 0 k hk
   cases l with
   |nil=>simp at this
   |cons a r=>simp at this;exact this
  unfold opF at hK
  unfold qeP
  rw[hx.kind]
  refine⟨λh=>?_,λn1=>⟨λh=>?_,λn2=>⟨λh=>?_,λn3=>⟨λh=>?_,λn4=>⟨λh=>?_,λn5=>⟨λh=>?_,λn6=>⟨λh=>?_,λn7=>⟨λh=>?_,λn8=>⟨λh=>?_,λn9=>?_⟩⟩⟩⟩⟩⟩⟩⟩⟩
  ·rw[if_pos h]at hK;exact hK
  ·rw[if_neg n1,if_pos h,<-hx.set]at hK;exact hK
  ·rw[if_neg n1,if_neg n2,if_pos h]at hK;exact hK
  ·rw[if_neg n1,if_neg n2,if_neg n3,if_pos h]at hK
   have hr:=hgood.ref h
   obtain⟨hlt,hlt'⟩:=qdK hr
   obtain⟨a,ha⟩:=qgo (l:=kn) (i:=(qbt e.text rs 0).toNat) (by omega)
   obtain⟨b,o,hb,hat⟩:=hkn.at qqw rfl ha
   rw[hx.text]
   refine qd5 _ _ _ _ _ _ (qi3 hg e.text _ ⟨_,rfl,b,o,hb,hr,by omega,a,hat,?_⟩)
   rw[qsv,ha]at hK;exact hK
  ·rw[if_neg n1,if_neg n2,if_neg n3,if_neg n4,if_pos h]at hK
   obtain⟨q1,q2⟩:=g4 (.inl h)
   obtain⟨k0,hk0⟩:=qgo (l:=e.kids) (i:=0) (by omega)
   intro M1 b8 hl1 hb8 M2 b9 hl2 hb9 M3 b10 hl3 hb10
   have hle:=(hl1.trans hl2).trans hl3
   refine qcj _ _ _ _ _ _ (kid hle (hb8.le (hl2.trans hl3)) (hb9.le hl3) (hat3 hb10) 0 (by omega) k0 hk0 _ ⟨_,rfl,?_⟩)
   refine⟨λi a b c=>1<=i/\i<=l.length/\(⟨a,b,c⟩:Fa)=qkR (l.take i.toNat),λi _ _ _=>l.length-i.toNat,⟨by omega,by omega,?_⟩,λi a b c ⟨i1,i2,i3⟩=>?_⟩
   ·have:=hL 0 k0 hk0
    cases l with
    |nil=>simp at this
    |cons y r=>simp at this;subst this;rfl
   ·refine⟨_,_,_,(hat3 hb10).part 6 [Value.slice x.Kids_a x.Kids_l x.Kids_c] rfl,λhlt=>?_,λhge=>?_⟩
    ·rw[hx.len]at hlt
     obtain⟨k,hk⟩:=getI (l:=e.kids) (i:=i) (by omega) (by omega)
     refine qcj _ _ _ _ _ _ (kid hle (hb8.le (hl2.trans hl3)) (hb9.le hl3) (hat3 hb10) i (by omega) k hk _ ⟨_,rfl,qiH _ _ _ _ (qo6 _ _ _ _ ⟨_,rfl,by unfold InI;omega,⟨by omega,by omega,?_⟩,by dsimp only;omega⟩)⟩)
     rw[i3,show(i+1).toNat=i.toNat+1 by omega,qij (hL _ k hk),qn8]
     intro h0
     have:=congrArg List.length h0
     rw[List.length_take,List.length_nil]at this;omega
    ·rw[hx.len]at hge
     rw[List.take_of_length_le (by omega)]at i3
     rw[<-i3]at hK;exact hK
  ·rw[if_neg n1,if_neg n2,if_neg n3,if_neg n4,if_neg n5,if_pos h]at hK
   obtain⟨q1,q2⟩:=g4 (.inr h)
   have hxl:=hx.len
   refine⟨by unfold InI;omega,λM1 b8 hl1 hb8 M2 b9 hl2 hb9 M3 b10 hl3 hb10=>?_⟩
   have hle:=(hl1.trans hl2).trans hl3
   obtain⟨k0,hk0⟩:=getI (l:=e.kids) (i:=(x.Kids_l:Int)-1) (by omega) (by omega)
   refine qcj _ _ _ _ _ _ (kid hle (hb8.le (hl2.trans hl3)) (hb9.le hl3) (hat3 hb10) _ (by omega) k0 hk0 _ ⟨_,rfl,?_⟩)
   refine⟨_,_,_,(hat3 hb10).part 6 [Value.slice x.Kids_a x.Kids_l x.Kids_c] rfl,by unfold InI;omega,?_⟩
   refine⟨λi a b c=> -1<=i/\i<=(l.length:Int)-2/\(⟨a,b,c⟩:Fa)=orL (l.drop (i+1).toNat),λi _ _ _=>(i+1).toNat,⟨by omega,by omega,?_⟩,λi a b c ⟨i1,i2,i3⟩=>⟨λhge=>?_,λhlt=>?_⟩⟩
   ·have h1:=hL _ k0 hk0
    rw[show((x.Kids_l:Int)-2+1).toNat=((x.Kids_l:Int)-1).toNat by omega,qaW h1,List.drop_of_length_le (by omega)];rfl
   ·obtain⟨k,hk⟩:=getI (l:=e.kids) (i:=i) (by omega) (by omega)
    refine qcj _ _ _ _ _ _ (kid hle (hb8.le (hl2.trans hl3)) (hb9.le hl3) (hat3 hb10) i (by omega) k hk _ ⟨_,rfl,qk0 _ _ _ _ (qtq _ _ _ _ ⟨_,rfl,by unfold InI;omega,⟨by omega,by omega,?_⟩,by dsimp only;omega⟩)⟩)
    rw[i3,show(i-1+1).toNat=i.toNat by omega,qaW (hL _ k hk),show(i+1).toNat=i.toNat+1 by omega]
    cases hd:l.drop (i.toNat+1)with
    |nil=>have:=congrArg List.length hd;simp at this;omega
    |cons y r=>rfl
   ·rw[show(i+1).toNat=0 by omega,List.drop_zero]at i3
    rw[<-i3]at hK;exact hK
  ·rw[if_neg n1,if_neg n2,if_neg n3,if_neg n4,if_neg n5,if_neg n6,if_pos h]at hK
   obtain⟨k0,hk0,hhd⟩:=one (by omega)
   rw[hhd]at hK
   intro M1 b8 hl1 hb8 M2 b9 hl2 hb9 M3 b10 hl3 hb10
   have hle:=(hl1.trans hl2).trans hl3
   exact qcj _ _ _ _ _ _ (kid hle (hb8.le (hl2.trans hl3)) (hb9.le hl3) (hat3 hb10) 0 (by omega) k0 hk0 _ ⟨_,rfl,qiI _ _ _ (qph _ _ _ ⟨_,rfl,hK⟩)⟩)
  ·rw[if_neg n1,if_neg n2,if_neg n3,if_neg n4,if_neg n5,if_neg n6,if_neg n7,if_pos h]at hK
   obtain⟨k0,hk0,hhd⟩:=one (by omega)
   rw[hhd]at hK
   intro M1 b8 hl1 hb8 M2 b9 hl2 hb9 M3 b10 hl3 hb10
   have hle:=(hl1.trans hl2).trans hl3
   have kk:=λK hK=>qcj _ _ _ _ _ _ (kid hle (hb8.le (hl2.trans hl3)) (hb9.le hl3) (hat3 hb10) 0 (by omega) k0 hk0 K hK)
   exact kk _ ⟨_,rfl,kk _ ⟨_,rfl,qiI _ _ _ (qph _ _ _ ⟨_,rfl,qiH _ _ _ _ (qo6 _ _ _ _ ⟨_,rfl,hK⟩)⟩)⟩⟩
  ·rw[if_neg n1,if_neg n2,if_neg n3,if_neg n4,if_neg n5,if_neg n6,if_neg n7,if_neg n8,if_pos h]at hK
   obtain⟨k0,hk0,hhd⟩:=one (by omega)
   rw[hhd]at hK
   intro M1 b8 hl1 hb8 M2 b9 hl2 hb9 M3 b10 hl3 hb10
   have hle:=(hl1.trans hl2).trans hl3
   exact qcj _ _ _ _ _ _ (kid hle (hb8.le (hl2.trans hl3)) (hb9.le hl3) (hat3 hb10) 0 (by omega) k0 hk0 _ ⟨_,rfl,qk0 _ _ _ _ (qtq _ _ _ _ ⟨_,rfl,hK⟩)⟩)
  ·rw[if_neg n1,if_neg n2,if_neg n3,if_neg n4,if_neg n5,if_neg n6,if_neg n7,if_neg n8,if_neg n9]at hK
   obtain⟨k0,hk0,hhd⟩:=one (by omega)
   rw[hhd]at hK
   intro M1 b8 hl1 hb8 M2 b9 hl2 hb9 M3 b10 hl3 hb10
   have hle:=(hl1.trans hl2).trans hl3
   have j1:∀b:Bool,b=((ofE rs kn k0).Empty||(ofE rs kn k0).Eats)->qcV b10 M3 (ofE rs kn k0) b K:=by
    rintro b rfl
    unfold qcV
    refine⟨_,(hat3 hb10).part 0 [Value.int .i64 x.Kind] rfl,λh=>?_,λh=>?_⟩
    ·rw[hx.kind]at h;rw[if_pos h]at hK;exact hK
    ·rw[hx.kind]at h;rw[if_neg h]at hK;exact hK
   refine qcj _ _ _ _ _ _ (kid hle (hb8.le (hl2.trans hl3)) (hb9.le hl3) (hat3 hb10) 0 (by omega) k0 hk0 _ ⟨_,rfl,λh=>j1 _ (by simp[h]),λh=>j1 _ (by simp[h])⟩)
theorem qp9 {rs:List Ru} {kn:List Fa} {ga ra:Option Addr} {gl gc rc b5:Nat} {M:Mem} (hok:qh7 rs) (hlen:kn.length=rs.length) (hg:GrR M rs ga gl gc) (hkn:SlV M ra kn.length rc 3 (cl qac.cells kn)) (h5:At M b5 0 [Value.slice ga gl gc])
  (i:Int) (h0:0<=i) (h1:i<rs.length) (K:Value->Prop) (hK:K (Fof rs kn i.toNat).val):qcE ra kn.length rc i b5 M K:=by
 obtain⟨r,x,b,o,hr,ha,hat,hrr⟩:=hg.at h0 (by rw[hg.len];exact h1)
 unfold qcE
 refine⟨_,_,_,h5,_,_,_,h5,b,o,ha,h0,by rw[hg.len];exact h1,x.Body,hat.part 1 x.Body.cells rfl,qfE _ _ _ _ _ _ _ _ _ (qrb hlen _ r.body (Nat.lt_succ_self _) hrr.2.2 hg hkn (hok.good r (List.mem_of_getElem? hr)) ⟨_,rfl,?_⟩)⟩
 rw[Fof,hr]at hK
 exact hK
end Go.Proofs.YtleaplmdgckmkaaGreatDoor.core
namespace Go.Proofs.YtleaplmdgckmkaaGreatDoor.core
open Go.Gx Go.RowKit Go.ChangeShapes Go.WideShapes Go.ChangeAt
set_option linter.unusedVariables false
structure qho (M M':Mem) (e size:Nat) (ad:Option Addr) (n cap:Nat) (xs:List Value):Prop where
 le:M.le M'
 row:qjg M' e size ad n cap xs
 new:∀g o,ad=some ⟨g,o,none⟩->M g=none
theorem qho.make {M M':Mem} {e size n cap:Nat} {ad:Option Addr} {xs:List Value} (h:qb8 M M' e size ad n cap xs):qho M M' e size ad n cap xs:=by
 refine⟨h.le,h.roww,λg o hg=>?_⟩
 obtain⟨_,_,_,⟨h1,_⟩|⟨g',cur,h1,h2,_⟩⟩:=h
 ·rw[h1]at hg;cases hg
 ·rw[h1]at hg
  simp only[Option.some.injEq,Addr.mk.injEq,and_true]at hg
  rw[<-hg.1];exact h2
theorem qho.more {M M' M'':Mem} {e size n cap:Nat} {ad:Option Addr} {xs:List Value} (h:qho M M' e size ad n cap xs) (hl:M'.le M''):qho M M'' e size ad n cap xs:=
 ⟨h.le.trans hl,h.row.le hl,h.new⟩
theorem qho.put {α:Type} {f:α->List Value} {M M':Mem} {e size n cap:Nat} {ad:Option Addr} {xs:List α} (hf:∀x,(f x).length=size) (h:qho M M' e size ad n cap (cl f xs)) (hl:xs.length=n) {i b o:Nat} (hi:i<n) (had:ad=some ⟨b,o,none⟩) (x:α):
  Has M' b (o+i*size) size/\M b=none/\qho M (M'.put b (o+i*size) (f x)) e size ad n cap (cl f (xs.set i x)):=by
 obtain⟨_,h2,h3⟩:=h.row.put hf hl hi had x
 have hb:=h.new b o had
 refine⟨h2,hb,λy q hy=>?_,h3,h.new⟩
 rw[Mem.put_ne (by rintro rfl;rw[hb]at hy;cases hy)]
 exact h.le y q hy
theorem SlV.elems {α:Type} {f:α->List Value} {M:Mem} {A:Option Addr} {l c sz:Nat} {xs:List α} (h:SlV M A l c sz (cl f xs)) (hf:∀x,(f x).length=sz) (h0:0<sz):xs.length=l:=h.len hf h0
theorem At.inj {M:Mem} {b o:Nat} {vs us:List Value} (h:At M b o vs) (k:At M b o us) (hl:vs.length=us.length):vs=us:=by
 apply List.ext_getElem?
 intro j
 cases hv:vs[j]? with
 |none=>rw[List.getElem?_eq_none_iff]at hv;rw[List.getElem?_eq_none (by omega)]
 |some v=>
  cases hu:us[j]? with
  |none=>rw[List.getElem?_eq_none_iff]at hu;have:=(List.getElem?_eq_some_iff.1 hv).1;omega
  |some u=>
   have h1:=h j v hv
   have h2:=k j u hu
   rw[h1]at h2;exact h2
theorem qpz {α:Type} {le:α->α->Prop} {F:List α->Nat->α} (bot:α) (hbot:∀a,le bot a) (n:Nat):Pre le F n (List.replicate n bot):=
 ⟨by simp,λi a ha=>by rw[(List.mem_replicate.1 (List.mem_of_getElem? ha)).2];exact hbot _,λz hz _=>⟨by simp[hz],λi a b ha _=>by rw[(List.mem_replicate.1 (List.mem_of_getElem? ha)).2];exact hbot _⟩⟩
theorem qh2 {α:Type} (f:α->List Value) (n:Nat) (a:α):cl f (List.replicate n a)=qov n (f a):=by simp[cl,qov,List.map_replicate]
theorem qoD {F:List Fa->Nat->Fa} {n:Nat} (hF:qmM qed F n) (hn:n<=10) (next:Value) (M:Mem) (K:Value->Mem->Prop)
  (hnext:∀M' ad cap kn,M.le M'->SlV M' ad n cap 3 (cl qac.cells kn)->kn.length=n->∀i:Int,0<=i->i<n->qgM Tryz.prog next [.slice ad n cap,.int .i64 i] M' (λv _=>v=(F kn i.toNat).val))
  (hK:∀M' ad cap kn,M.le M'->SlV M' ad n cap 3 (cl qac.cells kn)->Lfp qed F n kn->K (.slice ad n cap) M'):qbT (n:Int) next M (λ_=>False) K:=by
 unfold qbT
 simp only[Int.toNat_natCast]
 refine⟨by omega,by omega,by omega,λM6 ad cap hnr=>?_⟩
 have h6:=qho.make hnr
 rw[show qov n [Value.bool false,Value.bool false,Value.bool false]=cl qac.cells (List.replicate n fa0) from(qh2 qac.cells n fa0).symm]at h6
 have L:=qif
 refine⟨List Fa,λkn more M'=>qho M M' _ 3 ad n cap (cl qac.cells kn)/\Pre qed F n kn/\(more=false->∀(i:Nat) a,kn[i]?=some a->F kn i=a),λkn more=>2*wS qtN 3 kn+(if more then 1 else 0),List.replicate n fa0,⟨h6,qpz fa0 (λa=>⟨λh=>(by cases h),λh=>(by cases h),λh=>(by cases h)⟩) n,λh=>(by cases h)⟩,λkn more M' ⟨hg,hp,hfix⟩=>⟨λhmore=>?_,λhmore=>?_⟩⟩
 ·refine⟨List Fa,λk2 more2 i M2=>0<=i/\i<=n/\qho M M2 _ 3 ad n cap (cl qac.cells k2)/\Pre qed F n k2/\leL qed kn k2/\(more2=true->kn≠k2)/\(more2=false->k2=kn/\∀(j:Nat) a,(j:Int)<i->kn[j]?=some a->F kn j=a),λ_ _ i=>n-i.toNat,kn,⟨by omega,by omega,hg,hp,leL.refl L kn,λh=>(by cases h),λ_=>⟨rfl,λj a h=>by omega⟩⟩,λk2 more2 i M2 ⟨h0,h1,hg2,hp2,hl2,ht2,hf2⟩=>⟨λhlt=>?_,λhge=>?_⟩⟩
  ·have hkl:=hp2.len
   obtain⟨a,ha⟩:=getI (l:=k2) h0 (by omega)
   have hsl:=hg2.row.slv
   refine((hnext M2 ad cap k2 hg2.le hsl hkl i h0 hlt).mono (K':=λv M'=>M2.le M'/\v=(F k2 i.toNat).val) λv M' hle hv=>⟨hle,hv⟩).toW.mono (λ_ h=>h) λv M3 _ ⟨hle3,hv⟩=>⟨_,hv,?_⟩
   have hg3:=hg2.more hle3
   obtain⟨b,o,had,hat⟩:=hg3.row.slv.at qqw hkl ha
   refine⟨b,o,had,h0,hlt,a,hat,λhne=>?_,λhne=>?_⟩
   ·obtain⟨q1,q2,q3⟩:=hg3.put qqw hkl (i:=i.toNat) (by omega) had (F k2 i.toNat)
    have hne':a≠F k2 i.toNat:=λe=>hne (by rw[<-e];exact⟨rfl,rfl,rfl⟩)
    obtain⟨s1,s2⟩:=hp2.step L hF ha
    have hw:=qmO L ha (hp2.up _ _ ha) hne'
    refine⟨b,o,had,h0,hlt,q1,.inr q2,λM4 hM4=>?_⟩
    subst hM4
    refine⟨by unfold InI;omega,k2.set i.toNat (F k2 i.toNat),⟨by omega,by omega,q3,s1,hl2.trans L s2,λ_ e=>?_,λh=>(by cases h)⟩,by dsimp only;omega⟩
    rw[<-e]at hw
    have:=(qn0 L hl2).1
    omega
   ·have hsame:F k2 i.toNat=a:=by
     have hne:=Classical.not_not.1 hne
     obtain⟨e1,e2,e3⟩:=hne
     generalize F k2 i.toNat=z at e1 e2 e3
     cases z;cases a;simp only at e1 e2 e3;subst e1 e2 e3;rfl
    refine⟨by unfold InI;omega,k2,⟨by omega,by omega,hg3,hp2,hl2,ht2,λhm=>?_⟩,by dsimp only;omega⟩
    obtain⟨f1,f2⟩:=hf2 hm
    subst f1
    refine⟨rfl,λj x hj hx=>?_⟩
    by_cases e:(j:Int)=i
    ·have:i.toNat=j:=by omega
     rw[this]at ha hsame
     rw[ha]at hx;cases hx;exact hsame
    ·exact f2 j x (by omega) hx
  ·have hkl:=hp.len
   cases more2 with
   |true=>
    refine⟨k2,⟨hg2,hp2,λh=>(by cases h)⟩,?_⟩
    have:=(qn0 L hl2).2 (ht2 rfl)
    rw[hmore];dsimp only;omega
   |false=>
    obtain⟨f1,f2⟩:=hf2 rfl
    subst f1
    refine⟨k2,⟨hg2,hp2,λ_ j x hx=>f2 j x (by have:=(List.getElem?_eq_some_iff.1 hx).1;omega) hx⟩,?_⟩
    rw[hmore];dsimp only;simp
 ·intro M7 hle7
  have hm:more=false:=by simpa using hmore
  exact hK M7 ad cap kn (hg.le.trans hle7) (hg.row.slv.le hle7) (hp.lfp L (hfix hm))
theorem qru {rs:List Ru} {ga:Option Addr} {gl gc:Nat} {M:Mem} (hok:qh7 rs) (hg:GrR M rs ga gl gc) (K:Value->Mem->Prop)
  (hK:∀M' ad cap kn,M.le M'->SlV M' ad rs.length cap 3 (cl qac.cells kn)->Lfp qed (Fof rs) rs.length kn->K (.slice ad rs.length cap) M'):qdw ga gl gc M K:=by
 unfold qdw
 intro M5 b4 hle5 h5
 rw[hg.len]
 refine qhP _ _ _ _ (qoD (qnT rs _) hok.ten _ _ _ (λM' ad cap kn hle' hsl hkl i h0 h1=>?_) λM' ad cap kn hle' hsl hlfp=>⟨_,_,_,rfl,λM'' hle''=>hK M'' ad cap kn ((hle5.trans hle').trans hle'') (hsl.le hle'') hlfp⟩)
 have hg':=hg.le (hle5.trans hle')
 rw[<-hkl]at hsl ⊢
 exact qjs _ _ _ _ _ _ (λv=>v=(Fof rs kn i.toNat).val) (qp9 hok hkl hg' hsl (h5.le hle') i h0 h1 _ rfl)
end Go.Proofs.YtleaplmdgckmkaaGreatDoor.core
namespace Go.Proofs.YtleaplmdgckmkaaGreatDoor.core
open Go.Gx Go.RowKit Go.ChangeShapes Go.WideShapes Go.ChangeAt
set_option linter.unusedVariables false
def enc (f:Fa):Int:=(if f.Empty then 1 else 0)+(if f.Eats then 2 else 0)+(if f.Fails then 4 else 0)
theorem enc1:∀f:Fa,(qcw .i64 (enc f) 1>0)↔f.Empty=true:=by rintro⟨_|_,_|_,_|_⟩<;>decide
theorem enc2:∀f:Fa,(qcw .i64 (enc f) 2>0)↔f.Eats=true:=by rintro⟨_|_,_|_,_|_⟩<;>decide
theorem enc4:∀f:Fa,(qcw .i64 (enc f) 4>0)↔f.Fails=true:=by rintro⟨_|_,_|_,_|_⟩<;>decide
theorem d1 (f:Fa):decide (qcw .i64 (enc f) 1>0)=f.Empty:=by rw[Bool.eq_iff_iff,decide_eq_true_iff];exact enc1 f
theorem d2 (f:Fa):decide (qcw .i64 (enc f) 2>0)=f.Eats:=by rw[Bool.eq_iff_iff,decide_eq_true_iff];exact enc2 f
end Go.Proofs.YtleaplmdgckmkaaGreatDoor.core
namespace Go.Proofs.YtleaplmdgckmkaaGreatDoor.core
open Go.Gx Go.RowKit Go.ChangeShapes Go.WideShapes Go.ChangeAt
set_option linter.unusedVariables false
theorem d4 (f:Fa):decide (qcw .i64 (enc f) 4>0)=f.Fails:=by rw[Bool.eq_iff_iff,decide_eq_true_iff];exact enc4 f
end Go.Proofs.YtleaplmdgckmkaaGreatDoor.core
namespace Go.Proofs.YtleaplmdgckmkaaGreatDoor.core
open Go.Gx Go.RowKit Go.ChangeShapes Go.WideShapes Go.ChangeAt
set_option linter.unusedVariables false
def qc3 (rs:List Ru):List Fa:=qie qqa (Fof rs) (3*rs.length+1) (List.replicate rs.length fa0)
theorem qtO (a:Fa):qed fa0 a:=⟨λh=>(by cases h),λh=>(by cases h),λh=>(by cases h)⟩
theorem qin (rs:List Ru):Lfp qed (Fof rs) rs.length (qc3 rs):=qpV qif (qnT rs _) fa0 qtO _ (by omega)
theorem qno (rs:List Ru):(qc3 rs).length=rs.length:=(qin rs).len
theorem qsK {rs:List Ru} {kn:List Fa} (h:Lfp qed (Fof rs) rs.length kn):kn=qc3 rs:=h.same qif (qin rs)
theorem qpB {rs:List Ru} {ga:Option Addr} {gl gc:Nat} {M:Mem} (hok:qh7 rs) (hg:GrR M rs ga gl gc) (K:Value->Mem->Prop)
  (hK:∀M' ad cap,M.le M'->SlV M' ad rs.length cap 3 (cl qac.cells (qc3 rs))->K (.slice ad rs.length cap) M'):qdw ga gl gc M K:=
 qru hok hg K λM' ad cap kn hle hsl hlfp=>by rw[qsK hlfp]at hsl;exact hK M' ad cap hle hsl
def ndB (rs:List Ru) (kn:List Fa) (x:Ex):Bool:=decide (x.kind=7\/x.kind=8)&&(hdF (x.kids.map (ofE rs kn))).Empty
def qgz (rs:List Ru) (kn:List Fa) (e:Ex):Bool:=(qa5 e).any (ndB rs kn)
theorem qjS (p:Ex->Bool):∀ks:List Ex,(qaO ks).any p=ks.any λk=>(qa5 k).any p
 |[]=>by rw[qaO];rfl
 |k::ks=>by rw[qaO,List.any_append,qjS p ks];rfl
theorem qrt (e:Ex):qa5 e=e::qaO e.kids:=by cases e;rw[qa5];rfl
theorem qko (rs:List Ru) (kn:List Fa) (e:Ex):qgz rs kn e=(ndB rs kn e||e.kids.any (qgz rs kn)):=by
 unfold qgz
 rw[qrt,List.any_cons,qjS]
theorem qrj {rs:List Ru} {kn:List Fa} {ga ra:Option Addr} {gl gc rc:Nat} (hlen:kn.length=rs.length):∀(n:Nat) (e:Ex),SizeOf.sizeOf e<n->∀{M:Mem} {x:qaa} {K:Value->Prop},ExR M e x->GrR M rs ga gl gc->
  SlV M ra kn.length rc 3 (cl qac.cells kn)->qfm rs e->K (.bool (qgz rs kn e))->qeq ga gl gc ra kn.length rc x M K:=by
 intro n
 induction n with
 |zero=>intro e h;omega
 |succ n ih=>
  intro e hn M x K hR hg hkn hgood hK
  obtain⟨xs,hx⟩:=hR.open
  obtain⟨g1,g2,g3,g4,g5,g6,g7,g8⟩:=qa8 hgood.fit
  rw[qko]at hK
  have hl8:e.kids.length<=8:=by
   by_cases h4:e.kind<=4
   ·rw[g3 h4];simp
   ·by_cases h7:7<=e.kind
    ·have:=g5 h7;omega
    ·exact(g4 (by omega)).2
  have j1:∀b:Bool,b=ndB rs kn e->qbv ga gl gc ra kn.length rc x M b K:=by
   intro b hb
   unfold qbv
   rw[<-hb]at hK
   refine⟨λh=>by rw[h,Bool.true_or]at hK;exact hK,λh=>?_⟩
   have h:b=false:=by simpa using h
   rw[h,Bool.false_or]at hK
   refine⟨λi=>0<=i/\i<=e.kids.length/\(e.kids.drop i.toNat).any (qgz rs kn)=e.kids.any (qgz rs kn),λi=>e.kids.length-i.toNat,⟨by omega,by omega,rfl⟩,λi ⟨i0,i1,heq⟩=>⟨λhlt=>?_,λhge=>?_⟩⟩
   ·rw[hx.len]at hlt
    obtain⟨k,hk⟩:=getI (l:=e.kids) i0 hlt
    obtain⟨b,o,y,ha,hat,hy,_⟩:=hx.kid hk
    have hmem:=List.mem_of_getElem? hk
    rw[qaW hk,List.any_cons]at heq
    refine⟨b,o,ha,i0,by rw[hx.len];exact hlt,y,hat,qhX _ _ _ _ _ _ _ _ _ (ih k (by have:=Ex.kid_lt hmem;omega) hy hg hkn (hgood.kid k hmem) ⟨_,rfl,λht=>?_,λhf=>⟨by unfold InI;omega,⟨by omega,by omega,?_⟩,by dsimp only;omega⟩⟩)⟩
    ·rw[ht,Bool.true_or]at heq;rw[<-heq]at hK;exact hK
    ·have hf:qgz rs kn k=false:=by simpa using hf
     rw[hf,Bool.false_or]at heq
     rw[show(i+1).toNat=i.toNat+1 by omega];exact heq
   ·rw[hx.len]at hge
    rw[List.drop_of_length_le (by omega),List.any_nil]at heq
    rw[<-heq]at hK;exact hK
  have kid0:7<=e.kind->∃k b o y,e.kids=[k]/\x.Kids_a=some ⟨b,o,none⟩/\At M b (o+(0:Int).toNat*7) y.cells/\ExR M k y/\k∈e.kids:=λh7=>by
   obtain⟨k,hk⟩:∃k,e.kids=[k]:=List.length_eq_one_iff.1 (g5 h7)
   obtain⟨b,o,y,ha,hat,hy,_⟩:=hx.kid (i:=0) (k:=k) (by rw[hk];rfl)
   exact⟨k,b,o,y,hk,ha,hat,hy,by rw[hk];simp⟩
  unfold qeq
  rw[hx.kind]
  have hx1:7<=e.kind->(0:Int)<((x.Kids_l:Nat):Int):=λh7=>by rw[hx.len,g5 h7];omega
  refine⟨λh7=>?_,λn7=>⟨λh8=>?_,λn8=>j1 _ (by simp[ndB,n7,n8])⟩⟩
  ·obtain⟨k,b,o,y,hk,ha,hat,hy,hmem⟩:=kid0 (by omega)
   refine⟨b,o,ha,by omega,hx1 (by omega),y,hat,qfE _ _ _ _ _ _ _ _ _ (qrb hlen _ k (Nat.lt_succ_self _) hy hg hkn (hgood.kid k hmem) ⟨_,rfl,j1 _ ?_⟩)⟩
   simp[ndB,h7,hk,hdF]
  ·obtain⟨k,b,o,y,hk,ha,hat,hy,hmem⟩:=kid0 (by omega)
   refine⟨b,o,ha,by omega,hx1 (by omega),y,hat,qfE _ _ _ _ _ _ _ _ _ (qrb hlen _ k (Nat.lt_succ_self _) hy hg hkn (hgood.kid k hmem) ⟨_,rfl,j1 _ ?_⟩)⟩
   simp[ndB,h8,hk,hdF]
mutual
def qb4 (rs:List Ru) (kn:List Fa):Ex->List Nat
 | .mk k s t ks=>if k=4 then[(qbt t rs 0).toNat] else if k=5 then qc0 rs kn ks else qdF rs kn ks
def qc0 (rs:List Ru) (kn:List Fa):List Ex->List Nat
 |[]=>[]
 |k::ks=>qb4 rs kn k++(if (ofE rs kn k).Empty then qc0 rs kn ks else[])
def qdF (rs:List Ru) (kn:List Fa):List Ex->List Nat
 |[]=>[]
 |k::ks=>qb4 rs kn k++qdF rs kn ks
end
theorem qdt (rs:List Ru) (kn:List Fa) (e:Ex):qb4 rs kn e=if e.kind=4 then[(qbt e.text rs 0).toNat] else if e.kind=5 then qc0 rs kn e.kids else qdF rs kn e.kids:=by
 cases e;rw[qb4];rfl
mutual
theorem qc1 {rs:List Ru} (kn:List Fa):∀e:Ex,qfm rs e->∀i∈qb4 rs kn e,i<rs.length
 | .mk k s t ks,h,i,hi=>by
  rw[qb4]at hi
  split at hi
  ·rename_i h4
   simp at hi;subst hi
   exact(qdK (h.ref h4)).1
  ·split at hi
   ·exact qll kn ks (λk hk=>h.kid k hk) i hi
   ·exact qlm kn ks (λk hk=>h.kid k hk) i hi
theorem qll {rs:List Ru} (kn:List Fa):∀ks:List Ex,(∀k∈ks,qfm rs k)->∀i∈qc0 rs kn ks,i<rs.length
 |[],_,i,hi=>by simp[qc0]at hi
 |k::ks,h,i,hi=>by
  rw[qc0]at hi
  rcases List.mem_append.1 hi with hi|hi
  ·exact qc1 kn k (h k (by simp)) i hi
  ·split at hi
   ·exact qll kn ks (λk hk=>h k (by simp[hk])) i hi
   ·cases hi
theorem qlm {rs:List Ru} (kn:List Fa):∀ks:List Ex,(∀k∈ks,qfm rs k)->∀i∈qdF rs kn ks,i<rs.length
 |[],_,i,hi=>by simp[qdF]at hi
 |k::ks,h,i,hi=>by
  rw[qdF]at hi
  rcases List.mem_append.1 hi with hi|hi
  ·exact qc1 kn k (h k (by simp)) i hi
  ·exact qlm kn ks (λk hk=>h k (by simp[hk])) i hi
end
def wkB (wk:List Bool) (i:Nat):Bool:=(wk[i]?).getD false
def qgT (rs:List Ru) (kn:List Fa) (wk:List Bool) (e:Ex):Bool:=(qb4 rs kn e).all (wkB wk)
theorem qqS {rs:List Ru} {kn:List Fa} {wk:List Bool} {ga ra wa:Option Addr} {gl gc rc wc:Nat} (hlen:kn.length=rs.length) (hwl:wk.length=rs.length):∀(n:Nat) (e:Ex),SizeOf.sizeOf e<n->∀{M:Mem} {x:qaa} {K:Value->Prop},ExR M e x->GrR M rs ga gl gc->
  SlV M ra kn.length rc 3 (cl qac.cells kn)->SlV M wa wk.length wc 1 (cl bC wk)->qfm rs e->K (.bool (qgT rs kn wk e))->qep ga gl gc ra kn.length rc wa wk.length wc x M K:=by
 intro n
 induction n with
 |zero=>intro e h;omega
 |succ n ih=>
  intro e hn M x K hR hg hkn hwk hgood hK
  obtain⟨xs,hx⟩:=hR.open
  obtain⟨g1,g2,g3,g4,g5,g6,g7,g8⟩:=qa8 hgood.fit
  have hl8:e.kids.length<=8:=by
   by_cases h4:e.kind<=4
   ·rw[g3 h4];simp
   ·by_cases h7:7<=e.kind
    ·have:=g5 h7;omega
    ·exact(g4 (by omega)).2
  rw[qgT,qdt]at hK
  unfold qep
  rw[hx.kind]
  refine⟨λh4=>?_,λn4=>⟨λh5=>?_,λn5=>?_⟩⟩
  ·rw[if_pos h4]at hK
   have hr:=hgood.ref h4
   obtain⟨hlt,hlt'⟩:=qdK hr
   obtain⟨a,ha⟩:=qgo (l:=wk) (i:=(qbt e.text rs 0).toNat) (by omega)
   obtain⟨b,o,hb,hat⟩:=hwk.at (f:=bC) (λ_=>rfl) rfl ha
   rw[hx.text]
   refine qd5 _ _ _ _ _ _ (qi3 hg e.text _ ⟨_,rfl,b,o,hb,hr,by omega,a,hat,?_⟩)
   simp only[List.all_cons,List.all_nil,Bool.and_true,wkB,ha,Option.getD_some]at hK
   exact hK
  ·rw[if_neg n4,if_pos h5]at hK
   refine⟨λi=>0<=i/\i<=e.kids.length/\(qc0 rs kn (e.kids.drop i.toNat)).all (wkB wk)=(qc0 rs kn e.kids).all (wkB wk),λi=>e.kids.length-i.toNat,⟨by omega,by omega,rfl⟩,λi ⟨i0,i1,heq⟩=>⟨λhlt=>?_,λhge=>?_⟩⟩
   ·rw[hx.len]at hlt
    obtain⟨k,hk⟩:=getI (l:=e.kids) i0 hlt
    obtain⟨b,o,y,ha,hat,hy,_⟩:=hx.kid hk
    have hmem:=List.mem_of_getElem? hk
    rw[qaW hk,qc0,List.all_append]at heq
    refine⟨b,o,ha,i0,by rw[hx.len];exact hlt,y,hat,qfD _ _ _ _ _ _ _ _ _ _ _ _ (ih k (by have:=Ex.kid_lt hmem;omega) hy hg hkn hwk (hgood.kid k hmem) ⟨_,rfl,λhf=>?_,λht=>?_⟩)⟩
    ·have hf:(qb4 rs kn k).all (wkB wk)=false:=by simpa[qgT]using hf
     rw[hf,Bool.false_and]at heq;rw[<-heq]at hK;exact hK
    ·have ht:(qb4 rs kn k).all (wkB wk)=true:=by simpa[qgT]using ht
     rw[ht,Bool.true_and]at heq
     refine qfE _ _ _ _ _ _ _ _ _ (qrb hlen _ k (Nat.lt_succ_self _) hy hg hkn (hgood.kid k hmem) ⟨_,rfl,λhf=>?_,λht2=>⟨by unfold InI;omega,⟨by omega,by omega,?_⟩,by dsimp only;omega⟩⟩)
     ·have hf:(ofE rs kn k).Empty=false:=by simpa using hf
      rw[hf]at heq
      simp only[Bool.false_eq_true,if_false,List.all_nil]at heq
      rw[<-heq]at hK;exact hK
     ·have ht2:(ofE rs kn k).Empty=true:=by simpa using ht2
      rw[ht2,if_pos rfl]at heq
      rw[show(i+1).toNat=i.toNat+1 by omega];exact heq
   ·rw[hx.len]at hge
    rw[List.drop_of_length_le (by omega),qc0,List.all_nil]at heq
    rw[<-heq]at hK;exact hK
  ·rw[if_neg n4,if_neg n5]at hK
   refine⟨λi=>0<=i/\i<=e.kids.length/\(qdF rs kn (e.kids.drop i.toNat)).all (wkB wk)=(qdF rs kn e.kids).all (wkB wk),λi=>e.kids.length-i.toNat,⟨by omega,by omega,rfl⟩,λi ⟨i0,i1,heq⟩=>⟨λhlt=>?_,λhge=>?_⟩⟩
   ·rw[hx.len]at hlt
    obtain⟨k,hk⟩:=getI (l:=e.kids) i0 hlt
    obtain⟨b,o,y,ha,hat,hy,_⟩:=hx.kid hk
    have hmem:=List.mem_of_getElem? hk
    rw[qaW hk,qdF,List.all_append]at heq
    refine⟨b,o,ha,i0,by rw[hx.len];exact hlt,y,hat,qfD _ _ _ _ _ _ _ _ _ _ _ _ (ih k (by have:=Ex.kid_lt hmem;omega) hy hg hkn hwk (hgood.kid k hmem) ⟨_,rfl,λhf=>?_,λht=>⟨by unfold InI;omega,⟨by omega,by omega,?_⟩,by dsimp only;omega⟩⟩)⟩
    ·have hf:(qb4 rs kn k).all (wkB wk)=false:=by simpa[qgT]using hf
     rw[hf,Bool.false_and]at heq;rw[<-heq]at hK;exact hK
    ·have ht:(qb4 rs kn k).all (wkB wk)=true:=by simpa[qgT]using ht
     rw[ht,Bool.true_and]at heq
     rw[show(i+1).toNat=i.toNat+1 by omega];exact heq
   ·rw[hx.len]at hge
    rw[List.drop_of_length_le (by omega),qdF,List.all_nil]at heq
    rw[<-heq]at hK;exact hK
def bLe (a b:Bool):Prop:=a=true->b=true
theorem qtX:Lat bLe (·||·) bit 1 where
 refl:=λa=>id
 trans:=λh k=>k∘h
 anti:=by rintro(_|_) (_|_)<;>simp[bLe]
 left:=by rintro(_|_) (_|_)<;>simp[bLe]
 right:=by rintro(_|_) (_|_)<;>simp[bLe]
 least:=by rintro(_|_) (_|_) (_|_)<;>simp[bLe]
 mono:=by rintro(_|_) (_|_)<;>simp[bLe,bit]
 strict:=by rintro(_|_) (_|_)<;>simp[bLe,bit]
 bound:=by rintro(_|_)<;>simp[bit]
def Gof (rs:List Ru) (kn:List Fa) (wk:List Bool) (i:Nat):Bool:=match rs[i]? with
 |some r=>qgT rs kn wk r.body
 |none=>false
theorem qnS (rs:List Ru) (kn:List Fa) (n:Nat):qmM bLe (Gof rs kn) n:=λa z i _ _ h=>by
 unfold Gof
 split
 ·intro hs
  rw[qgT,List.all_eq_true]at hs ⊢
  intro j hj
  have:=hs j hj
  unfold wkB at this ⊢
  cases ha:a[j]? with
  |none=>rw[ha]at this;cases this
  |some x=>
   rw[ha]at this
   obtain⟨y,hy⟩:=qgo (l:=z) (i:=j) (by have:=(List.getElem?_eq_some_iff.1 ha).1;have:=h.1;omega)
   rw[hy];exact h.2 j x y ha hy this
 ·exact id
def qoP (rs:List Ru):List Bool:=qie (·||·) (Gof rs (qc3 rs)) (rs.length+1) (List.replicate rs.length false)
theorem qii (rs:List Ru):Lfp bLe (Gof rs (qc3 rs)) rs.length (qoP rs):=qpV qtX (qnS rs _ _) false (λa h=>(by cases h)) _ (by omega)
theorem qsd {rs:List Ru} {wk:List Bool} (h:Lfp bLe (Gof rs (qc3 rs)) rs.length wk):wk=qoP rs:=h.same qtX (qii rs)
end Go.Proofs.YtleaplmdgckmkaaGreatDoor.core
namespace Go.Proofs.YtleaplmdgckmkaaGreatDoor.core
open Go.Gx Go.RowKit Go.ChangeShapes Go.WideShapes Go.ChangeAt
set_option linter.unusedVariables false
theorem qqr (b:Bool):(bC b).length=1:=rfl
theorem qp5 {F:List Bool->Nat->Bool} {n:Nat} (hF:qmM bLe F n) (hn:n<=10) (next:Value) (M:Mem) (K:Value->Mem->Prop)
  (hnext:∀M' ad cap kn,M.le M'->SlV M' ad n cap 1 (cl bC kn)->kn.length=n->∀i:Int,0<=i->i<n->qgM Tryz.prog next [.slice ad n cap,.int .i64 i] M' (λv _=>v= .bool (F kn i.toNat)))
  (hK:∀M' ad cap kn,M.le M'->SlV M' ad n cap 1 (cl bC kn)->Lfp bLe F n kn->K (.slice ad n cap) M'):qb5 (n:Int) next M (λ_=>False) K:=by
 unfold qb5
 simp only[Int.toNat_natCast]
 refine⟨by omega,by omega,by omega,λM6 ad cap hnr=>?_⟩
 have h6:=qho.make hnr
 rw[show qov n [Value.bool false]=cl bC (List.replicate n false) from(qh2 bC n false).symm]at h6
 have L:=qtX
 refine⟨List Bool,λkn more M'=>qho M M' _ 1 ad n cap (cl bC kn)/\Pre bLe F n kn/\(more=false->∀(i:Nat) a,kn[i]?=some a->F kn i=a),λkn more=>2*wS bit 1 kn+(if more then 1 else 0),List.replicate n false,⟨h6,qpz false (λa h=>(by cases h)) n,λh=>(by cases h)⟩,λkn more M' ⟨hg,hp,hfix⟩=>⟨λhmore=>?_,λhmore=>?_⟩⟩
 ·refine⟨List Bool,λk2 more2 i M2=>0<=i/\i<=n/\qho M M2 _ 1 ad n cap (cl bC k2)/\Pre bLe F n k2/\leL bLe kn k2/\(more2=true->kn≠k2)/\(more2=false->k2=kn/\∀(j:Nat) a,(j:Int)<i->kn[j]?=some a->F kn j=a),λ_ _ i=>n-i.toNat,kn,⟨by omega,by omega,hg,hp,leL.refl L kn,λh=>(by cases h),λ_=>⟨rfl,λj a h=>by omega⟩⟩,λk2 more2 i M2 ⟨h0,h1,hg2,hp2,hl2,ht2,hf2⟩=>⟨λhlt=>?_,λhge=>?_⟩⟩
  ·have hkl:=hp2.len
   obtain⟨a,ha⟩:=getI (l:=k2) h0 (by omega)
   have hsl:=hg2.row.slv
   refine((hnext M2 ad cap k2 hg2.le hsl hkl i h0 hlt).mono (K':=λv M'=>M2.le M'/\v= .bool (F k2 i.toNat)) λv M' hle hv=>⟨hle,hv⟩).toW.mono (λ_ h=>h) λv M3 _ ⟨hle3,hv⟩=>⟨_,hv,?_⟩
   have hg3:=hg2.more hle3
   obtain⟨b,o,had,hat⟩:=hg3.row.slv.at qqr hkl ha
   refine⟨b,o,had,h0,hlt,a,hat,λhne=>?_,λhne=>?_⟩
   ·obtain⟨q1,q2,q3⟩:=hg3.put qqr hkl (i:=i.toNat) (by omega) had (F k2 i.toNat)
    have hne':a≠F k2 i.toNat:=λe=>hne e.symm
    obtain⟨s1,s2⟩:=hp2.step L hF ha
    have hw:=qmO L ha (hp2.up _ _ ha) hne'
    refine⟨b,o,had,h0,hlt,q1,.inr q2,λM4 hM4=>?_⟩
    subst hM4
    refine⟨by unfold InI;omega,k2.set i.toNat (F k2 i.toNat),⟨by omega,by omega,q3,s1,hl2.trans L s2,λ_ e=>?_,λh=>(by cases h)⟩,by dsimp only;omega⟩
    rw[<-e]at hw
    have:=(qn0 L hl2).1
    omega
   ·have hsame:F k2 i.toNat=a:=Classical.not_not.1 hne
    refine⟨by unfold InI;omega,k2,⟨by omega,by omega,hg3,hp2,hl2,ht2,λhm=>?_⟩,by dsimp only;omega⟩
    obtain⟨f1,f2⟩:=hf2 hm
    subst f1
    refine⟨rfl,λj x hj hx=>?_⟩
    by_cases e:(j:Int)=i
    ·have:i.toNat=j:=by omega
     rw[this]at ha hsame
     rw[ha]at hx;cases hx;exact hsame
    ·exact f2 j x (by omega) hx
  ·have hkl:=hp.len
   cases more2 with
   |true=>
    refine⟨k2,⟨hg2,hp2,λh=>(by cases h)⟩,?_⟩
    have:=(qn0 L hl2).2 (ht2 rfl)
    rw[hmore];dsimp only;omega
   |false=>
    obtain⟨f1,f2⟩:=hf2 rfl
    subst f1
    refine⟨k2,⟨hg2,hp2,λ_ j x hx=>f2 j x (by have:=(List.getElem?_eq_some_iff.1 hx).1;omega) hx⟩,?_⟩
    rw[hmore];dsimp only;simp
 ·intro M7 hle7
  have hm:more=false:=by simpa using hmore
  exact hK M7 ad cap kn (hg.le.trans hle7) (hg.row.slv.le hle7) (hp.lfp L (hfix hm))
def qhM:List Bool->Int->Int
 |[],_=> -1
 |b::t,i=>if b then i else qhM t (i+1)
def qdY (rs:List Ru):Int×Int:=
 if qaZ rs≠0 then(0,qaZ rs)
 else if qhM (rs.map λr=>qgz rs (qc3 rs) r.body) 0≠-1 then(qhM (rs.map λr=>qgz rs (qc3 rs) r.body) 0,9)
 else if qhM ((qoP rs).map (!·)) 0≠-1 then(qhM ((qoP rs).map (!·)) 0,8) else(0,0)
theorem qns {l:List Bool} {i:Int} (h0:0<=i) {t:List Bool} (hd:l.drop i.toNat=true::t) (heq:qhM (l.drop i.toNat) i=qhM l 0):qhM l 0=i/\qhM l 0≠-1:=by
 rw[hd,qhM,if_pos rfl]at heq
 exact⟨heq.symm,by omega⟩
theorem qlA {l:List Bool} {i:Int} (h0:0<=i) {t:List Bool} (hd:l.drop i.toNat=false::t) (heq:qhM (l.drop i.toNat) i=qhM l 0):qhM (l.drop (i+1).toNat) (i+1)=qhM l 0:=by
 rw[show(i+1).toNat=i.toNat+1 by omega,<-List.drop_drop,hd,List.drop_succ_cons,List.drop_zero]
 rw[hd,qhM]at heq
 simpa using heq
theorem qih {rs:List Ru} {ga:Option Addr} {gl gc:Nat} {M:Mem} (hg:GrR M rs ga gl gc) (K:Value->Prop) (hK:K (.tuple #[.int .i64 (qdY rs).1,.int .i64 (qdY rs).2])):qfa ga gl gc M K:=by
 unfold qfa
 unfold qdY at hK
 refine qek _ _ _ _ _ (qha hg _ ⟨_,rfl,λh=>?_,λh=>?_⟩)
 ·rw[if_pos h]at hK;exact hK
 rw[if_neg h]at hK
 have h0:qaZ rs=0:=by simpa using h
 have hok:=qi0 h0
 have h10:=hok.ten
 have hgl:=hg.len
 have hkl:=qno rs
 have hwl:=(qii rs).len
 refine qk1 _ _ _ _ _ (qpB hok hg _ λM1 ad cap hle hsl=>⟨_,_,_,rfl,?_⟩)
 generalize hll:(rs.map λr=>qgz rs (qc3 rs) r.body)=ll at hK
 have hlll:ll.length=rs.length:=by rw[<-hll];simp
 have hlg:∀(i:Nat) r,rs[i]?=some r->ll[i]?=some (qgz rs (qc3 rs) r.body):=λi r hr=>by rw[<-hll,List.getElem?_map,hr];rfl
 refine⟨λi=>0<=i/\i<=rs.length/\qhM (ll.drop i.toNat) i=qhM ll 0,λi=>rs.length-i.toNat,⟨by omega,by omega,rfl⟩,λi ⟨i0,i1,heq⟩=>⟨λhlt=>?_,λhge=>?_⟩⟩
 ·obtain⟨r,x,b,o,hr,ha,hat,hrr⟩:=(hg.le hle).at i0 hlt
  rw[<-hkl]at hsl ⊢
  refine⟨b,o,ha,i0,hlt,x,hat,qhX _ _ _ _ _ _ _ _ _ (qrj hkl _ r.body (Nat.lt_succ_self _) hrr.2.2 (hg.le hle) hsl (hok.good r (List.mem_of_getElem? hr)) ⟨_,rfl,λht=>?_,λhf=>⟨by unfold InI;omega,⟨by omega,by omega,?_⟩,by dsimp only;omega⟩⟩)⟩
  ·have hd:=qaW (hlg _ r hr)
   rw[ht]at hd
   obtain⟨e1,e2⟩:=qns i0 hd heq
   rw[if_pos e2,e1]at hK;exact hK
  ·have hd:=qaW (hlg _ r hr)
   rw[show qgz rs (qc3 rs) r.body=false by simpa using hf]at hd
   exact qlA i0 hd heq
 rw[List.drop_of_length_le (by omega),qhM]at heq
 rw[if_neg (by rw[<-heq];simp)]at hK
 intro M2 b4 hle2 h4 M3 b10 hle3 hb10
 rw[hgl]
 refine qig _ _ _ _ (qp5 (qnS rs (qc3 rs) _) h10 _ _ _ (λM' ad2 cap2 wk hle' hsl2 hwk2 i i0 i1=>?_) λM' ad2 cap2 wk hle' hsl2 hlfp=>⟨_,_,_,rfl,?_⟩)
 ·have hle4:=((hle.trans hle2).trans hle3).trans hle'
  rw[<-hwk2]at hsl2 ⊢
  obtain⟨r,x,b,o,hr,ha,hat,hrr⟩:=(hg.le hle4).at (i:=i) i0 (by omega)
  refine qkB _ _ _ _ _ _ _ (λv=>v= .bool (Gof rs (qc3 rs) wk i.toNat)) ?_
  unfold qdM
  have h4':=h4.le (hle3.trans hle')
  refine⟨_,_,_,h4',_,_,_,hb10.le hle',_,_,_,h4',b,o,ha,i0,by omega,x.Body,hat.part 1 x.Body.cells rfl,?_⟩
  have hsl3:=hsl.le ((hle2.trans hle3).trans hle')
  rw[<-hkl]at hsl3 ⊢
  refine qfD _ _ _ _ _ _ _ _ _ _ _ _ (qqS hkl hwk2 _ r.body (Nat.lt_succ_self _) hrr.2.2 (hg.le hle4) hsl3 hsl2 (hok.good r (List.mem_of_getElem? hr)) ⟨_,rfl,?_⟩)
  rw[Gof,hr]
 ·rw[qsd hlfp]at hsl2
  generalize hwd:(qoP rs).map (!·)=wd at hK
  have hwdl:wd.length=rs.length:=by rw[<-hwd];simp[hwl]
  refine⟨λi=>0<=i/\i<=rs.length/\qhM (wd.drop i.toNat) i=qhM wd 0,λi=>rs.length-i.toNat,⟨by omega,by omega,rfl⟩,λi ⟨i0,i1,heq⟩=>⟨λhlt=>?_,λhge=>?_⟩⟩
  ·obtain⟨a,ha⟩:=qgo (l:=qoP rs) (i:=i.toNat) (by omega)
   obtain⟨b,o,hb,hat⟩:=hsl2.at qqr hwl ha
   have hwg:wd[i.toNat]?=some (!a):=by rw[<-hwd,List.getElem?_map,ha];rfl
   have hd:=qaW hwg
   refine⟨b,o,hb,i0,hlt,a,hat,λhf=>?_,λht=>⟨by unfold InI;omega,⟨by omega,by omega,?_⟩,by dsimp only;omega⟩⟩
   ·rw[show a=false by simpa using hf]at hd
    obtain⟨e1,e2⟩:=qns i0 hd heq
    rw[if_pos e2,e1]at hK;exact hK
   ·rw[show a=true by simpa using ht]at hd
    exact qlA i0 hd heq
  ·rw[List.drop_of_length_le (by omega),qhM]at heq
   rw[if_neg (by rw[<-heq];simp)]at hK;exact hK
end Go.Proofs.YtleaplmdgckmkaaGreatDoor.core
namespace Go.Proofs.YtleaplmdgckmkaaGreatDoor.core
open Go.Gx Go.RowKit Go.ChangeShapes Go.WideShapes Go.ChangeAt
set_option linter.unusedVariables false
theorem qtC {rs:List Ru} {e:Ex} (h:qfm rs e):e.kids.length<=8:=by
 obtain⟨g1,g2,g3,g4,g5,_⟩:=qa8 h.fit
 by_cases h4:e.kind<=4
 ·rw[g3 h4];simp
 ·by_cases h7:7<=e.kind
  ·have:=g5 h7;omega
  ·exact(g4 (by omega)).2
end Go.Proofs.YtleaplmdgckmkaaGreatDoor.core
namespace Go.Proofs.YtleaplmdgckmkaaGreatDoor.core
open Go.Gx Go.RowKit Go.ChangeShapes Go.WideShapes Go.ChangeAt
set_option linter.unusedVariables false
def ql1 (rs:List Ru):Nat:=(rs.map λr=>(qa5 r.body).length).sum
theorem qlw {rs:List Ru} {ga:Option Addr} {gl gc:Nat} {M:Mem} (hg:GrR M rs ga gl gc) (K:Value->Prop) (h1:qaZ rs≠0->K (.tuple #[.int .i64 0,.int .i64 (qaZ rs)])) (h2:qaZ rs=0->K (.tuple #[.int .i64 (ql1 rs:Nat),.int .i64 0])):qev ga gl gc M K:=by
 unfold qev
 refine qek _ _ _ _ _ (qha hg _ ⟨_,rfl,λh=>h1 h,λh=>?_⟩)
 have h0:qaZ rs=0:=by simpa using h
 have hok:=qi0 h0
 have h10:=hok.ten
 have hgl:=hg.len
 have hall:=hok.all
 have K2:=h2 h0
 rw[hgl]
 have hsplit:∀k:Nat,((rs.take k).map λr=>(qa5 r.body).length).sum<=ql1 rs:=by
  intro k
  have:=congrArg (λl:List Ru=>(l.map λr=>(qa5 r.body).length).sum) (List.take_append_drop k rs)
  simp only[List.map_append,List.sum_append]at this
  unfold ql1;omega
 unfold ql1 at hsplit K2
 refine⟨λall i=>0<=i/\i<=rs.length/\all=((rs.take i.toNat).map λr=>(qa5 r.body).length).sum,λ_ i=>rs.length-i.toNat,⟨by omega,by omega,by simp⟩,λall i ⟨i0,i1,hall'⟩=>⟨λhlt=>?_,λhge=>?_⟩⟩
 ·obtain⟨r,x,b,o,hr,ha,hat,hrr⟩:=hg.at i0 (by rw[hgl];exact hlt)
  have herr:=hok.err r (List.mem_of_getElem? hr)
  obtain⟨hf60,_⟩:=qf6 herr
  have hs:=hsplit i.toNat
  refine⟨b,o,ha,i0,hlt,x,hat,qgv _ _ _ (qmc r.body x.Body _ _ hrr.2.2 (λh=>absurd herr h) λ_=>⟨_,_,rfl,by unfold InI;omega,by unfold InI;omega,⟨by omega,by omega,?_⟩,by dsimp only;omega⟩)⟩
  rw[show(i+1).toNat=i.toNat+1 by omega,qij hr,List.map_append,List.sum_append,hall'];simp
 ·rw[List.take_of_length_le (by omega)]at hall'
  rw[hall'];exact K2
end Go.Proofs.YtleaplmdgckmkaaGreatDoor.core
namespace Go.Proofs.YtleaplmdgckmkaaGreatDoor.core
open Go.Gx Go.RowKit Go.ChangeShapes Go.WideShapes Go.ChangeAt
set_option linter.unusedVariables false
theorem qps {rs:List Ru} (h:qh7 rs) {r:Ru} (hr:r∈rs):r.name.length<=8/\(txE r.body).length<=180000/\(qou r).length<=200000:=by
 have h1:=h.name r hr
 have h2:=qj3 _ (qgK.of (h.err r hr))
 have h3:=(qf6 (h.err r hr)).1
 have h4:r.name.length<=8:=by
  simp[qc2]at h1;omega
 refine⟨h4,by omega,?_⟩
 unfold qou
 simp only[List.length_append,List.length_cons,List.length_nil];omega
theorem qlD {rs:List Ru} {i:Nat} {r:Ru} (h:rs[i]?=some r):(rs.take (i+1)).flatMap qou=(rs.take i).flatMap qou++qou r:=by
 rw[List.take_add_one,h];simp
theorem qlE {rs:List Ru} (h:qh7 rs):∀i,((rs.take i).flatMap qou).length<=i*200000
 |0=>by simp
 |i+1=>by
  have ih:=qlE h i
  cases hr:rs[i]? with
  |none=>
   rw[List.take_add_one,hr,Option.toList_none,List.append_nil]
   refine Nat.le_trans ih (Nat.mul_le_mul_right _ (Nat.le_succ i))
  |some r=>
   have:=(qps h (List.mem_of_getElem? hr)).2.2
   rw[qlD hr,List.length_append];omega
theorem qlv {rs:List Ru} {A:Option Addr} {l c:Nat} {M:Mem} (hg:GrR M rs A l c) (hT:qnQ M 4 qoN) (K:Value->Prop) (h1:qaZ rs≠0->K (.tuple #[.string (mkS []),.int .i64 (qaZ rs)])) (h2:qaZ rs=0->K (.tuple #[.string (mkS (qeD rs)),.int .i64 0])):qfQ A l c M K:=by
 refine qek _ _ _ _ _ (qha hg _ ⟨_,rfl,h1,λh0=>?_⟩)
 have h0:qaZ rs=0:=by simpa using h0
 have hok:=qi0 h0
 have hl:=hg.max.1
 have h10:=hok.ten
 refine⟨λout x=>∃i:Nat,x=i/\i<=rs.length/\out=(rs.take i).flatMap qou,λ_ x=>rs.length-x.toNat,⟨0,rfl,by omega,rfl⟩,λout x ⟨i,hx,hi,ho⟩=>⟨λhlt=>?_,λhge=>?_⟩⟩
 ·subst hx
  obtain⟨r,y,b,o,g1,g2,g3,g4,g5,g6⟩:=hg.at (i:=(i:Int)) (by omega) hlt
  rw[Int.toNat_natCast]at g1
  have hm:=List.mem_of_getElem? g1
  obtain⟨n8,t1,t2⟩:=qps hok hm
  have hfl:=qlE hok i
  have hm10:i*200000<=2000000:=by omega
  have he:=hok.err r hm
  have h10':((txE r.body).length:Nat)<=180000:=t1
  rw[<-g4]at n8
  refine⟨b,o,g2,by omega,hlt,y,g3,qk3 _ _ _ (qpj g6 hT _ (λh=>absurd he h) λ_=>⟨_,_,rfl,?_⟩)⟩
  have hr:y.Name++([32,60,45,32]:List UInt8)++txE r.body++[10]=qou r:=by rw[g4];simp[qou]
  rw[hr,ho]
  refine⟨by simp only[List.length_cons,List.length_nil];omega,by simp only[List.length_append,List.length_cons,List.length_nil];omega,by simp only[List.length_append,List.length_cons,List.length_nil];omega,by omega,by unfold InI;omega,⟨i+1,by omega,by omega,(qlD g1).symm⟩,by dsimp only;omega⟩
 ·subst hx
  have:i=rs.length:=by omega
  subst this
  rw[ho,List.take_length];exact h2 h0
end Go.Proofs.YtleaplmdgckmkaaGreatDoor.core
namespace Go.Proofs.YtleaplmdgckmkaaGreatDoor.core
open Go.Gx Go.RowKit Go.ChangeShapes Go.WideShapes Go.ChangeAt
set_option linter.unusedVariables false
def qik (f:Int->Int) (q:Bool):Nat->Int->Bool->Int
 |0,p,_=>p
 |m+1,p,fi=>if f p= -2\/(f p<0/\fi=true/\q=true) then f p else if f p<0 then p else qik f q m (f p) false
def qnf (k p r:Int):Int:=if r= -2 then -2 else if k=9/\0<=r then r else if (k=10/\r<0)\/(k=11/\0<=r) then -1 else p
def qqB (t:qab) (s:List UInt8) (p:Int):Int:=match s[p.toNat]? with
 |some c=>if qcg t c.toNat then p+1 else -1
 |none=> -1
def qqC (x s:List UInt8) (p:Int):Int:=if p+(x.length:Nat)<=(s.length:Nat)/\(s.take (p+(x.length:Nat)).toNat).drop p.toNat=x then p+(x.length:Nat) else -1
mutual
def qcr (rs:List Ru) (s:List UInt8) (E:Nat->Nat->Int):Ex->Int->Int
 | .mk k t x ks,p=>if k=1 then p else if k=2 then qqB t s p else if k=3 then qqC x s p else if k=4 then E p.toNat (qbt x rs 0).toNat
  else if k=5 then qiG rs s E ks p else if k=6 then qi8 rs s E ks p else if k=7\/k=8 then qik (hdE rs s E ks) (decide (k=8)) (s.length+2) p true
  else qnf k p (hdE rs s E ks p)
def qiG (rs:List Ru) (s:List UInt8) (E:Nat->Nat->Int):List Ex->Int->Int
 |[],p=>p
 |k::ks,p=>if qcr rs s E k p<0 then qcr rs s E k p else qiG rs s E ks (qcr rs s E k p)
def qi8 (rs:List Ru) (s:List UInt8) (E:Nat->Nat->Int):List Ex->Int->Int
 |[],_=> -1
 |k::ks,p=>if qcr rs s E k p≠-1 then qcr rs s E k p else qi8 rs s E ks p
def hdE (rs:List Ru) (s:List UInt8) (E:Nat->Nat->Int):List Ex->Int->Int
 |[],_=> -1
 |k::_,p=>qcr rs s E k p
end
theorem qeE (rs:List Ru) (s:List UInt8) (E:Nat->Nat->Int) (e:Ex) (p:Int):qcr rs s E e p=if e.kind=1 then p else if e.kind=2 then qqB e.set s p else if e.kind=3 then qqC e.text s p else if e.kind=4 then E p.toNat (qbt e.text rs 0).toNat
  else if e.kind=5 then qiG rs s E e.kids p else if e.kind=6 then qi8 rs s E e.kids p else if e.kind=7\/e.kind=8 then qik (hdE rs s E e.kids) (decide (e.kind=8)) (s.length+2) p true
  else qnf e.kind p (hdE rs s E e.kids p):=by
 cases e;rw[qcr];rfl
def Val (n:Nat) (f:Fa) (p r:Int):Prop:=r= -2\/(r= -1/\f.Fails=true)\/(r=p/\f.Empty=true)\/(p<r/\r<=n/\f.Eats=true)
theorem Val.pos {n:Nat} {f:Fa} {p r:Int} (h:Val n f p r) (hp:0<=p) (hn:p<=n):r= -2\/r= -1\/(p<=r/\r<=n):=by
 rcases h with h|h|h|h<;>omega
structure qqy (rs:List Ru) (n:Nat) (E:Nat->Nat->Int):Prop where
 val:∀(p i:Nat) f,p<=n->(qc3 rs)[i]?=some f->Val n f p (E p i)
theorem qmT {n:Nat} {a b:Fa} {p q r:Int} (hp:0<=p) (h1:Val n a p q) (hq:0<=q) (h2:Val n b q r):Val n (qcl a b) p r:=by
 unfold Val at*
 simp only[qcl,Bool.or_eq_true,Bool.and_eq_true]
 rcases h1 with h1|⟨h1,_⟩|⟨h1,e1⟩|⟨h1,h1',e1⟩
 ·omega
 ·omega
 ·rcases h2 with h2|⟨h2,e2⟩|⟨h2,e2⟩|⟨h2,h2',e2⟩
  ·exact .inl h2
  ·exact .inr (.inl ⟨h2,.inr ⟨.inl e1,e2⟩⟩)
  ·exact .inr (.inr (.inl ⟨by omega,e1,e2⟩))
  ·exact .inr (.inr (.inr ⟨by omega,h2',.inr ⟨e1,e2⟩⟩))
 ·rcases h2 with h2|⟨h2,e2⟩|⟨h2,e2⟩|⟨h2,h2',e2⟩
  ·exact .inl h2
  ·exact .inr (.inl ⟨h2,.inr ⟨.inr e1,e2⟩⟩)
  ·exact .inr (.inr (.inr ⟨by omega,by omega,.inl ⟨e1,.inl e2⟩⟩))
  ·exact .inr (.inr (.inr ⟨by omega,h2',.inl ⟨e1,.inr e2⟩⟩))
theorem qmU {n:Nat} {a b:Fa} {p q:Int} (hp:0<=p) (h1:Val n a p q) (hq:q<0):Val n (qcl a b) p q:=by
 unfold Val at*
 simp only[qcl,Bool.or_eq_true,Bool.and_eq_true]
 rcases h1 with h1|⟨h1,e1⟩|⟨h1,_⟩|⟨h1,_,_⟩
 ·exact .inl h1
 ·exact .inr (.inl ⟨h1,.inl e1⟩)
 ·omega
 ·omega
theorem qsz {n:Nat} {a b:Fa} {p q:Int} (h1:Val n a p q) (hq:q≠-1):Val n (qoK a b) p q:=by
 unfold Val at*
 simp only[qoK,Bool.or_eq_true,Bool.and_eq_true]
 rcases h1 with h1|⟨h1,_⟩|⟨h1,e1⟩|⟨h1,h2,e1⟩
 ·exact .inl h1
 ·exact absurd h1 hq
 ·exact .inr (.inr (.inl ⟨h1,.inl e1⟩))
 ·exact .inr (.inr (.inr ⟨h1,h2,.inl e1⟩))
theorem qq7 {n:Nat} {a b:Fa} {p r:Int} (hp:0<=p) (h1:Val n a p (-1)) (h2:Val n b p r):Val n (qoK a b) p r:=by
 unfold Val at*
 simp only[qoK,Bool.or_eq_true,Bool.and_eq_true]
 have e1:a.Fails=true:=by
  rcases h1 with h1|⟨_,e1⟩|⟨h1,_⟩|⟨h1,_,_⟩
  ·omega
  ·exact e1
  ·omega
  ·omega
 rcases h2 with h2|⟨h2,e2⟩|⟨h2,e2⟩|⟨h2,h2',e2⟩
 ·exact .inl h2
 ·exact .inr (.inl ⟨h2,e1,e2⟩)
 ·exact .inr (.inr (.inl ⟨h2,.inr ⟨e1,e2⟩⟩))
 ·exact .inr (.inr (.inr ⟨h2,h2',.inr ⟨e1,e2⟩⟩))
theorem qj7 {n:Nat} {a:Fa} {f:Int->Int} {b:Bool} (he:a.Empty=false) (hf:∀p:Int,0<=p->p<=n->Val n a p (f p)):∀(m:Nat) (p q:Int),0<=p->p<=q->q<=n->n+1<=q+m->(p<q->a.Eats=true)->Val n (qhd a) p (qik f b m q false)
 |0,p,q,hp,hpq,hq,hm,_=>by omega
 |m+1,p,q,hp,hpq,hq,hm,hE=>by
  have hv:=hf q (by omega) hq
  rw[qik]
  have key:f q= -1->Val n (qhd a) p q:=λh1=>by
   have e1:a.Fails=true:=by
    rcases hv with h|⟨_,e⟩|⟨h,_⟩|⟨h,_,_⟩
    ·omega
    ·exact e
    ·omega
    ·omega
   by_cases hlt:p<q
   ·exact .inr (.inr (.inr ⟨hlt,hq,hE hlt⟩))
   ·exact .inr (.inr (.inl ⟨by omega,e1⟩))
  split
  ·rename_i h
   rcases h with h|⟨_,h,_⟩
   ·exact .inl h
   ·cases h
  ·rename_i h
   split
   ·exact key (by rcases hv with h'|⟨h',_⟩|⟨h',_⟩|⟨h',_,_⟩<;>omega)
   ·have hgt:q<f q/\f q<=n/\a.Eats=true:=by
     rcases hv with h'|⟨h',_⟩|⟨h',e'⟩|h'
     ·omega
     ·omega
     ·rw[he]at e';cases e'
     ·exact h'
    exact qj7 he hf m p (f q) hp (by omega) hgt.2.1 (by omega) (λ_=>hgt.2.2)
theorem qoe {n:Nat} {a:Fa} {f:Int->Int} (he:a.Empty=false) (hf:∀p:Int,0<=p->p<=n->Val n a p (f p)) {m:Nat} {p:Int} (hp:0<=p) (hn:p<=n) (hm:n+2<=m):Val n (qhd a) p (qik f false m p true):=by
 have:=qj7 (b:=false) he hf m p p hp (Int.le_refl _) hn (by omega) (λh=>absurd h (by omega))
 cases m with
 |zero=>omega
 |succ m=>rw[qik]at this ⊢;simpa using this
theorem qox {n:Nat} {a:Fa} {f:Int->Int} (he:a.Empty=false) (hf:∀p:Int,0<=p->p<=n->Val n a p (f p)) {m:Nat} {p:Int} (hp:0<=p) (hn:p<=n) (hm:n+2<=m):Val n (qcl a (qhd a)) p (qik f true m p true):=by
 cases m with
 |zero=>omega
 |succ m=>
  have hv:=hf p hp hn
  rw[qik]
  by_cases h0:f p<0
  ·rw[if_pos (.inr ⟨h0,rfl,rfl⟩)]
   exact qmU hp hv h0
  ·rw[if_neg (by rintro(h|⟨h,_⟩)<;>omega),if_neg h0]
   have hge:p<=f p/\f p<=n:=by rcases hv.pos hp hn with h|h|h<;>omega
   exact qmT hp hv (by omega) (qj7 he hf m (f p) (f p) (by omega) (Int.le_refl _) hge.2 (by omega) (λh=>absurd h (by omega)))
theorem qsA {n:Nat} {a:Fa} {k p r:Int} (hk:k=9\/k=10\/k=11) (hp:0<=p) (hv:Val n a p r):Val n (if k=9 then qoK a ⟨true,false,false⟩ else if k=10 then qoM a else qoL a) p (qnf k p r):=by
 unfold qnf
 unfold Val at*
 by_cases h2:r= -2
 ·rw[if_pos h2];exact .inl rfl
 rw[if_neg h2]
 rcases hv with h|⟨h,e⟩|⟨h,e⟩|⟨h,h',e⟩
 ·exact absurd h h2
 all_goals
  rcases hk with rfl|rfl|rfl
  all_goals simp only[qoK,qoM,qoL,e]
 all_goals first|(split<;>simp_all<;>omega)|skip
theorem qqG {t:qab} {c:Nat} (hc:c<256) (h:qcg t c=true):zs t=false:=by
 by_cases hz:zs t=true
 ·exfalso
  unfold zs at hz
  have:t=⟨0,0,0,0⟩:=by
   obtain⟨a,b,d,e⟩:=t
   simp only[qaF,beq_iff_eq]at hz
   obtain⟨rfl,rfl,rfl,rfl⟩:=hz
   rfl
  subst this
  have h0:(⟨0,0,0,0⟩:qab)=Us λ_=>false:=rfl
  rw[h0,qi6 hc]at h;cases h
 ·simpa using hz
theorem qpo {t:qab} {s:List UInt8} {p:Int} (hp:0<=p):Val s.length ⟨false,!zs t,true⟩ p (qqB t s p):=by
 unfold qqB
 split
 ·rename_i c hc
  have hlt:=(List.getElem?_eq_some_iff.1 hc).1
  split
  ·rename_i hb
   exact .inr (.inr (.inr ⟨by omega,by omega,by rw[qqG c.toNat_lt hb];rfl⟩))
  ·exact .inr (.inl ⟨rfl,rfl⟩)
 ·exact .inr (.inl ⟨rfl,rfl⟩)
theorem qsG {x s:List UInt8} {p:Int} (hx:x≠[]) (hp:0<=p):Val s.length ⟨false,true,true⟩ p (qqC x s p):=by
 unfold qqC
 have:0<x.length:=List.length_pos_iff.2 hx
 split
 ·exact .inr (.inr (.inr ⟨by omega,by omega,rfl⟩))
 ·exact .inr (.inl ⟨rfl,rfl⟩)
structure qdy (rs:List Ru) (e:Ex):Prop where
 good:qfm rs e
 loop:qgz rs (qc3 rs) e=false
theorem qdy.kid {rs:List Ru} {e k:Ex} (h:qdy rs e) (hk:k∈e.kids):qdy rs k:=by
 refine⟨h.good.kid k hk,?_⟩
 have:=h.loop
 rw[qko,Bool.or_eq_false_iff,List.any_eq_false]at this
 simpa using this.2 k hk
theorem qdy.star {rs:List Ru} {e k:Ex} (h:qdy rs e) (hk:e.kids=[k]) (h7:e.kind=7\/e.kind=8):(ofE rs (qc3 rs) k).Empty=false:=by
 have:=h.loop
 rw[qko,Bool.or_eq_false_iff]at this
 have:=this.1
 unfold ndB at this
 rw[decide_eq_true h7,hk]at this
 simpa[hdF]using this
theorem qpp {rs:List Ru} {s:List UInt8} {E:Nat->Nat->Int}:∀(ks:List Ex),ks≠[]->(∀k∈ks,∀p:Int,0<=p->p<=s.length->Val s.length (ofE rs (qc3 rs) k) p (qcr rs s E k p))->∀p:Int,0<=p->p<=s.length->Val s.length (qkQ (ks.map (ofE rs (qc3 rs)))) p (qiG rs s E ks p)
 |[],h,_,_,_,_=>absurd rfl h
 |[k],_,hk,p,hp,hn=>by
  have:=hk k (by simp) p hp hn
  rw[qiG]
  split
  ·exact this
  ·rw[qiG];exact this
 |k::k2::r,_,hk,p,hp,hn=>by
  have hv:=hk k (by simp) p hp hn
  rw[qiG]
  show Val _ (qcl (ofE rs (qc3 rs) k) (qkQ ((k2::r).map (ofE rs (qc3 rs))))) _ _
  split
  ·rename_i h0;exact qmU hp hv h0
  ·rename_i h0
   have hge:p<=qcr rs s E k p/\qcr rs s E k p<=s.length:=by rcases hv.pos hp hn with h|h|h<;>omega
   exact qmT hp hv (by omega) (qpp (k2::r) (by simp) (λk' hk'=>hk k' (by simp[hk'])) _ (by omega) hge.2)
theorem qqu {rs:List Ru} {s:List UInt8} {E:Nat->Nat->Int} {p:Int} (hp:0<=p):∀(ks:List Ex),ks≠[]->(∀k∈ks,Val s.length (ofE rs (qc3 rs) k) p (qcr rs s E k p))->Val s.length (orL (ks.map (ofE rs (qc3 rs)))) p (qi8 rs s E ks p)
 |[],h,_=>absurd rfl h
 |[k],_,hk=>by
  have:=hk k (by simp)
  rw[qi8]
  split
  ·exact this
  ·rename_i h;rw[qi8];rw[Decidable.not_not.1 h]at this;exact this
 |k::k2::r,_,hk=>by
  have hv:=hk k (by simp)
  rw[qi8]
  show Val _ (qoK (ofE rs (qc3 rs) k) (orL ((k2::r).map (ofE rs (qc3 rs))))) _ _
  split
  ·rename_i h0;exact qsz hv h0
  ·rename_i h0
   rw[Decidable.not_not.1 h0]at hv
   exact qq7 hp hv (qqu hp (k2::r) (by simp) λk' hk'=>hk k' (by simp[hk']))
theorem qkC {rs:List Ru} {s:List UInt8} {E:Nat->Nat->Int} (hT:qqy rs s.length E):∀(n:Nat) (e:Ex),SizeOf.sizeOf e<n->qdy rs e->∀p:Int,0<=p->p<=s.length->Val s.length (ofE rs (qc3 rs) e) p (qcr rs s E e p):=by
 intro n
 induction n with
 |zero=>intro e h;omega
 |succ n ih=>
  intro e hn hok p hp hl
  obtain⟨g1,g2,g3,g4,g5,g6,g7,g8⟩:=qa8 hok.good.fit
  have hkid:∀k∈e.kids,∀p:Int,0<=p->p<=s.length->Val s.length (ofE rs (qc3 rs) k) p (qcr rs s E k p):=λk hk=>ih k (by have:=Ex.kid_lt hk;omega) (hok.kid hk)
  rw[qeE,qni,opF]
  by_cases h1:e.kind=1
  ·rw[if_pos h1,if_pos h1];exact .inr (.inr (.inl ⟨rfl,rfl⟩))
  rw[if_neg h1,if_neg h1]
  by_cases h2:e.kind=2
  ·rw[if_pos h2,if_pos h2];exact qpo hp
  rw[if_neg h2,if_neg h2]
  by_cases h3:e.kind=3
  ·rw[if_pos h3,if_pos h3];exact qsG (g6 h3).1 hp
  rw[if_neg h3,if_neg h3]
  by_cases h4:e.kind=4
  ·rw[if_pos h4,if_pos h4]
   obtain⟨hlt,hlt'⟩:=qdK (hok.good.ref h4)
   obtain⟨f,hf⟩:=qgo (l:=qc3 rs) (i:=(qbt e.text rs 0).toNat) (by rw[qno];omega)
   have:=hT.val p.toNat _ f (by omega) hf
   unfold qsv
   rw[hf,Option.getD_some]
   rw[show((p.toNat:Nat):Int)=p by omega]at this
   exact this
  rw[if_neg h4,if_neg h4]
  by_cases h5:e.kind=5
  ·rw[if_pos h5,if_pos h5,qj5]
   exact qpp e.kids (by intro h;have:=(g4 (.inl h5)).1;rw[h]at this;simp at this) hkid p hp hl
  rw[if_neg h5,if_neg h5]
  by_cases h6:e.kind=6
  ·rw[if_pos h6,if_pos h6]
   exact qqu hp e.kids (by intro h;have:=(g4 (.inr h6)).1;rw[h]at this;simp at this) λk hk=>hkid k hk p hp hl
  rw[if_neg h6,if_neg h6]
  obtain⟨k,hk⟩:=List.length_eq_one_iff.1 (g5 (by omega))
  have hkv:=hkid k (by rw[hk];simp)
  have hhd:hdE rs s E e.kids=qcr rs s E k:=by rw[hk];funext q;rw[hdE]
  have hdf:hdF (e.kids.map (ofE rs (qc3 rs)))=ofE rs (qc3 rs) k:=by rw[hk];rfl
  rw[hhd,hdf]
  by_cases h7:e.kind=7
  ·rw[if_pos h7,if_pos (.inl h7),show decide (e.kind=8)=false by rw[h7];rfl]
   exact qoe (hok.star hk (.inl h7)) hkv hp hl (Nat.le_refl _)
  rw[if_neg h7]
  by_cases h8:e.kind=8
  ·rw[if_pos h8,if_pos (.inr h8),show decide (e.kind=8)=true by rw[h8];rfl]
   exact qox (hok.star hk (.inr h8)) hkv hp hl (Nat.le_refl _)
  rw[if_neg h8,if_neg (show ¬(e.kind=7\/e.kind=8) by omega)]
  exact qsA (k:=e.kind) (by omega) hp (hkv p hp hl)
end Go.Proofs.YtleaplmdgckmkaaGreatDoor.core
namespace Go.Proofs.YtleaplmdgckmkaaGreatDoor.core
open Go.Gx Go.RowKit Go.ChangeShapes Go.WideShapes Go.ChangeAt
set_option linter.unusedVariables false
def qoO (E E':Nat->Nat->Int):Prop:=∀p i,E p i= -2\/E' p i=E p i
theorem qkT {f g:Int->Int} (h:∀p,f p≠-2->g p=f p) {q:Bool}:∀(m:Nat) (p:Int) (fi:Bool),qik f q m p fi≠-2->qik g q m p fi=qik f q m p fi
 |0,_,_,_=>rfl
 |m+1,p,fi,hne=>by
  rw[qik]at hne
  by_cases h2:f p= -2
  ·rw[if_pos (.inl h2)]at hne;exact absurd h2 hne
  ·rw[qik,qik,h p h2]
   split
   ·rfl
   ·rename_i h1
    rw[if_neg h1]at hne
    split
    ·rfl
    ·rename_i h3
     rw[if_neg h3]at hne
     exact qkT h m _ _ hne
mutual
theorem qf7 {rs:List Ru} {s:List UInt8} {E E':Nat->Nat->Int} (h:qoO E E'):∀(e:Ex) (p:Int),qcr rs s E e p≠-2->qcr rs s E' e p=qcr rs s E e p
 | .mk k t x ks,p=>by
  rw[qcr,qcr]
  intro hne
  by_cases h1:k=1
  ·rw[if_pos h1,if_pos h1]
  rw[if_neg h1]at hne
  rw[if_neg h1,if_neg h1]
  by_cases h2:k=2
  ·rw[if_pos h2,if_pos h2]
  rw[if_neg h2]at hne
  rw[if_neg h2,if_neg h2]
  by_cases h3:k=3
  ·rw[if_pos h3,if_pos h3]
  rw[if_neg h3]at hne
  rw[if_neg h3,if_neg h3]
  by_cases h4:k=4
  ·rw[if_pos h4]at hne
   rw[if_pos h4,if_pos h4]
   rcases h p.toNat (qbt x rs 0).toNat with h'|h'
   ·exact absurd h' hne
   ·exact h'
  rw[if_neg h4]at hne
  rw[if_neg h4,if_neg h4]
  by_cases h5:k=5
  ·rw[if_pos h5]at hne
   rw[if_pos h5,if_pos h5];exact qm2 h ks p hne
  rw[if_neg h5]at hne
  rw[if_neg h5,if_neg h5]
  by_cases h6:k=6
  ·rw[if_pos h6]at hne
   rw[if_pos h6,if_pos h6];exact qnM h ks p hne
  rw[if_neg h6]at hne
  rw[if_neg h6,if_neg h6]
  by_cases h7:k=7\/k=8
  ·rw[if_pos h7]at hne
   rw[if_pos h7,if_pos h7];exact qkT (λq hq=>qp4 h ks q hq) _ _ _ hne
  rw[if_neg h7]at hne
  rw[if_neg h7,if_neg h7]
  by_cases h8:hdE rs s E ks p= -2
  ·rw[h8]at hne;exact absurd (by simp[qnf]) hne
  ·rw[qp4 h ks p h8]
theorem qm2 {rs:List Ru} {s:List UInt8} {E E':Nat->Nat->Int} (h:qoO E E'):∀(ks:List Ex) (p:Int),qiG rs s E ks p≠-2->qiG rs s E' ks p=qiG rs s E ks p
 |[],_,_=>rfl
 |k::ks,p,hne=>by
  rw[qiG]at hne
  have hk:qcr rs s E k p≠-2:=λe=>by rw[e]at hne;exact hne (by simp)
  rw[qiG,qiG,qf7 h k p hk]
  split
  ·rfl
  ·rename_i h1
   rw[if_neg h1]at hne
   exact qm2 h ks _ hne
theorem qnM {rs:List Ru} {s:List UInt8} {E E':Nat->Nat->Int} (h:qoO E E'):∀(ks:List Ex) (p:Int),qi8 rs s E ks p≠-2->qi8 rs s E' ks p=qi8 rs s E ks p
 |[],_,_=>rfl
 |k::ks,p,hne=>by
  rw[qi8]at hne
  have hk:qcr rs s E k p≠-2:=λe=>by rw[e]at hne;exact hne (by simp)
  rw[qi8,qi8,qf7 h k p hk]
  split
  ·rfl
  ·rename_i h1
   rw[if_neg h1]at hne
   exact qnM h ks _ hne
theorem qp4 {rs:List Ru} {s:List UInt8} {E E':Nat->Nat->Int} (h:qoO E E'):∀(ks:List Ex) (p:Int),hdE rs s E ks p≠-2->hdE rs s E' ks p=hdE rs s E ks p
 |[],_,_=>by rw[hdE,hdE]
 |k::ks,p,hne=>by
  rw[hdE]at hne
  rw[hdE,hdE];exact qf7 h k p hne
end
def qnW (rs:List Ru) (n:Nat) (E:Nat->Nat->Int) (p:Int):Prop:=∀q:Nat,p<q->q<=n->∀i,i<rs.length->E q i≠-2
theorem qnW.more {rs:List Ru} {n:Nat} {E:Nat->Nat->Int} {p q:Int} (h:qnW rs n E p) (hq:p<=q):qnW rs n E q:=λx hx=>h x (by omega)
theorem qkS {n:Nat} {a:Fa} {f:Int->Int} {b:Bool} (he:a.Empty=false):∀(m:Nat) (p:Int) (fi:Bool),0<=p->p<=n->n+1<=p+m->(∀q:Int,p<=q->q<=n->Val n a q (f q)/\f q≠-2)->qik f b m p fi≠-2
 |0,p,fi,hp,hn,hm,_=>by omega
 |m+1,p,fi,hp,hn,hm,h=>by
  obtain⟨hv,h2⟩:=h p (Int.le_refl _) hn
  rw[qik]
  split
  ·exact h2
  ·split
   ·omega
   ·have hgt:p<f p/\f p<=n:=by
     rcases hv with h'|⟨h',_⟩|⟨_,e'⟩|h'
     ·omega
     ·omega
     ·rw[he]at e';cases e'
     ·exact⟨h'.1,h'.2.1⟩
    exact qkS he m (f p) false (by omega) hgt.2 (by omega) λq hq hqn=>h q (by omega) hqn
theorem qlL {rs:List Ru} {s:List UInt8} {E:Nat->Nat->Int} (hT:qqy rs s.length E):∀(n:Nat) (e:Ex),SizeOf.sizeOf e<n->qdy rs e->∀p:Int,0<=p->p<=s.length->qnW rs s.length E p->(∀j∈qb4 rs (qc3 rs) e,E p.toNat j≠-2)->qcr rs s E e p≠-2:=by
 intro n
 induction n with
 |zero=>intro e h;omega
 |succ n ih=>
  intro e hn hok p hp hl hB hN
  obtain⟨g1,g2,g3,g4,g5,g6,g7,g8⟩:=qa8 hok.good.fit
  have hval:∀k∈e.kids,∀p:Int,0<=p->p<=s.length->Val s.length (ofE rs (qc3 rs) k) p (qcr rs s E k p):=λk hk=>qkC hT _ k (Nat.lt_succ_self _) (hok.kid hk)
  have hlater:∀k∈e.kids,∀q:Int,p<q->q<=s.length->qcr rs s E k q≠-2:=λk hk q hq hql=>ih k (by have:=Ex.kid_lt hk;omega) (hok.kid hk) q (by omega) hql (hB.more (by omega)) λj hj=>hB q.toNat (by omega) (by omega) j (qc1 _ _ (hok.kid hk).good j hj)
  have hnow:∀k∈e.kids,(∀j∈qb4 rs (qc3 rs) k,E p.toNat j≠-2)->qcr rs s E k p≠-2:=λk hk hj=>ih k (by have:=Ex.kid_lt hk;omega) (hok.kid hk) p hp hl hB hj
  rw[qdt]at hN
  rw[qeE]
  by_cases h1:e.kind=1
  ·rw[if_pos h1];omega
  rw[if_neg h1]
  by_cases h2:e.kind=2
  ·rw[if_pos h2]
   have:=qpo (t:=e.set) (s:=s) hp
   rcases this.pos hp hl with h|h|h
   ·unfold qqB at h;split at h<;>(try split at h)<;>omega
   ·omega
   ·omega
  rw[if_neg h2]
  by_cases h3:e.kind=3
  ·rw[if_pos h3];unfold qqC;split<;>omega
  rw[if_neg h3]
  by_cases h4:e.kind=4
  ·rw[if_pos h4]
   rw[if_pos h4]at hN
   exact hN _ (by simp)
  rw[if_neg h4]
  rw[if_neg h4]at hN
  by_cases h5:e.kind=5
  ·rw[if_pos h5]
   rw[if_pos h5]at hN
   have key:∀ks:List Ex,(∀k∈ks,k∈e.kids)->∀q:Int,p<=q->q<=s.length->(q=p->∀j∈qc0 rs (qc3 rs) ks,E p.toNat j≠-2)->qiG rs s E ks q≠-2:=by
    intro ks
    induction ks with
    |nil=>intro _ q hq _ _;rw[qiG];omega
    |cons k ks ihk=>
     intro hm q hq hql hj
     rw[qiG]
     have hkm:=hm k (by simp)
     have hne:qcr rs s E k q≠-2:=by
      by_cases hqp:q=p
      ·subst hqp
       exact hnow k hkm λj hjk=>hj rfl j (by rw[qc0];exact List.mem_append_left _ hjk)
      ·exact hlater k hkm q (by omega) hql
     have hv:=hval k hkm q (by omega) hql
     split
     ·exact hne
     ·rename_i h0
      have hge:q<=qcr rs s E k q/\qcr rs s E k q<=s.length:=by rcases hv.pos (by omega) hql with h|h|h<;>omega
      refine ihk (λk' hk'=>hm k' (by simp[hk'])) _ (by omega) hge.2 λhep j hjk=>?_
      have hqp:q=p:=by omega
      subst hqp
      have hem:(ofE rs (qc3 rs) k).Empty=true:=by
       rcases hv with h|⟨h,_⟩|⟨_,h⟩|⟨h,_,_⟩
       ·omega
       ·omega
       ·exact h
       ·omega
      exact hj rfl j (by rw[qc0,if_pos hem];exact List.mem_append_right _ hjk)
   exact key e.kids (λ_ h=>h) p (Int.le_refl _) hl λ_=>hN
  rw[if_neg h5]
  rw[if_neg h5]at hN
  by_cases h6:e.kind=6
  ·rw[if_pos h6]
   have key:∀ks:List Ex,(∀k∈ks,k∈e.kids)->(∀j∈qdF rs (qc3 rs) ks,E p.toNat j≠-2)->qi8 rs s E ks p≠-2:=by
    intro ks
    induction ks with
    |nil=>intro _ _;rw[qi8];omega
    |cons k ks ihk=>
     intro hm hj
     rw[qi8]
     split
     ·exact hnow k (hm k (by simp)) λj hjk=>hj j (by rw[qdF];exact List.mem_append_left _ hjk)
     ·exact ihk (λk' hk'=>hm k' (by simp[hk'])) λj hjk=>hj j (by rw[qdF];exact List.mem_append_right _ hjk)
   exact key e.kids (λ_ h=>h) hN
  rw[if_neg h6]
  obtain⟨k,hk⟩:=List.length_eq_one_iff.1 (g5 (by omega))
  have hkm:k∈e.kids:=by rw[hk];simp
  have hhd:hdE rs s E e.kids=qcr rs s E k:=by rw[hk];funext q;rw[hdE]
  have hk1:qcr rs s E k p≠-2:=hnow k hkm λj hjk=>hN j (by rw[hk,qdF];exact List.mem_append_left _ hjk)
  rw[hhd]
  by_cases h7:e.kind=7\/e.kind=8
  ·rw[if_pos h7]
   refine qkS (hok.star hk h7) _ p true hp hl (by omega) λq hq hql=>⟨hval k hkm q (by omega) hql,?_⟩
   by_cases hqp:q=p
   ·subst hqp;exact hk1
   ·exact hlater k hkm q (by omega) hql
  ·rw[if_neg h7]
   unfold qnf
   rw[if_neg hk1]
   split
   ·exact hk1
   ·split<;>omega
end Go.Proofs.YtleaplmdgckmkaaGreatDoor.core
namespace Go.Proofs.YtleaplmdgckmkaaGreatDoor.core
open Go.Gx Go.RowKit Go.ChangeShapes Go.WideShapes Go.ChangeAt
set_option linter.unusedVariables false
theorem least {P:Nat->Prop}:∀k,P k->∃m,m<=k/\P m/\∀j,j<m->¬P j:=by
 intro k
 induction k using Nat.strongRecOn with
 |_ k ih=>
  intro h
  by_cases hj:∃j,j<k/\P j
  ·obtain⟨j,hjk,hp⟩:=hj
   obtain⟨m,h1,h2⟩:=ih j hjk hp
   exact⟨m,by omega,h2⟩
  ·exact⟨k,Nat.le_refl _,h,λj hjk hp=>hj ⟨j,hjk,hp⟩⟩
structure qcU (rs:List Ru):Prop where
 ok:qh7 rs
 loop:∀r∈rs,qgz rs (qc3 rs) r.body=false
 wk:∀i,i<rs.length->wkB (qoP rs) i=true
theorem qi1:∀(l:List Bool) (i:Int),0<=i->qhM l i= -1->∀b∈l,b=false
 |[],_,_,_,b,hb=>by cases hb
 |a::l,i,hi,h,b,hb=>by
  rw[qhM]at h
  split at h
  ·omega
  ·rename_i ha
   rcases List.mem_cons.1 hb with rfl|hb
   ·simpa using ha
   ·exact qi1 l (i+1) (by omega) h b hb
theorem qoW {rs:List Ru} (h:(qdY rs).2=0):qcU rs:=by
 unfold qdY at h
 split at h
 ·exact absurd h (by assumption)
 ·rename_i h0
  split at h
  ·cases h
  ·rename_i h1
   split at h
   ·cases h
   ·rename_i h2
    refine⟨qi0 (Decidable.not_not.1 h0),λr hr=>?_,λi hi=>?_⟩
    ·exact qi1 _ 0 (by omega) (Decidable.not_not.1 h1) _ (List.mem_map.2 ⟨r,hr,rfl⟩)
    ·obtain⟨b,hb⟩:=qgo (l:=qoP rs) (i:=i) (by rw[(qii rs).len];exact hi)
     have:=qi1 _ 0 (by omega) (Decidable.not_not.1 h2) _ (List.mem_map.2 ⟨b,List.mem_of_getElem? hb,rfl⟩)
     unfold wkB;rw[hb];simpa using this
theorem qcU.peg {rs:List Ru} (h:qcU rs) {r:Ru} (hr:r∈rs):qdy rs r.body:=⟨h.ok.good r hr,h.loop r hr⟩
theorem qcU.stage {rs:List Ru} (h:qcU rs):∃st:Nat->Nat,(∀i,i<rs.length->1<=st i/\st i<=rs.length)/\∀(i:Nat) r,rs[i]?=some r->∀j∈qb4 rs (qc3 rs) r.body,st j<st i:=by
 let n:=rs.length
 let F:=Gof rs (qc3 rs)
 let W:Nat->List Bool:=λk=>qie (·||·) F k (List.replicate n false)
 have hWl:∀k,(W k).length=n:=λk=>by show(qie _ _ _ _).length=n;rw[qnp];simp
 have hall:∀i,i<n->wkB (W n) i=true:=λi hi=>by
  have hN:W (n+1)=qoP rs:=rfl
  rcases qiX (F:=F) qtX (List.replicate n false) n with hs|hs
  ·have:W (n+1)=W n:=hs
   rw[<-this,hN];exact h.wk i hi
  ·have h0:=qrH (wt:=bit) (m:=1) (List.replicate n false)
   rw[List.length_replicate]at h0
   have hz:wS bit 1 (W n)=0:=by show wS bit 1 (qie _ F n _)=0;omega
   obtain⟨b,hb⟩:=qgo (l:=W n) (i:=i) (by rw[hWl];exact hi)
   unfold wkB;rw[hb]
   cases b with
   |true=>rfl
   |false=>
    have:=qmO qtX (le:=bLe) (b:=true) hb (λh=>(by cases h)) (by simp)
    omega
 have hex:∀i,∃m,i<n->(m<=n/\wkB (W m) i=true/\∀j,j<m->¬wkB (W j) i=true):=λi=>by
  by_cases hi:i<n
  ·obtain⟨m,hm⟩:=least (P:=λk=>wkB (W k) i=true) n (hall i hi)
   exact⟨m,λ_=>hm⟩
  ·exact⟨0,λh=>absurd h hi⟩
 refine⟨λi=>Classical.choose (hex i),λi hi=>?_,λi r hr j hj=>?_⟩
 ·obtain⟨h1,h2,h3⟩:=Classical.choose_spec (hex i) hi
  refine⟨?_,h1⟩
  rcases Nat.eq_zero_or_pos (Classical.choose (hex i))with h0|h0
  ·rw[h0]at h2
   have:wkB (List.replicate n false) i=true:=h2
   unfold wkB at this
   rw[List.getElem?_replicate,if_pos hi]at this
   cases this
  ·exact h0
 ·have hi:i<n:=(List.getElem?_eq_some_iff.1 hr).1
  have hjn:j<n:=qc1 _ _ (h.ok.good r (List.mem_of_getElem? hr)) j hj
  obtain⟨h1,h2,h3⟩:=Classical.choose_spec (hex i) hi
  obtain⟨k1,k2,k3⟩:=Classical.choose_spec (hex j) hjn
  show Classical.choose (hex j)<Classical.choose (hex i)
  generalize Classical.choose (hex i)=a at h1 h2 h3
  generalize Classical.choose (hex j)=b at k1 k2 k3
  cases a with
  |zero=>
   have:wkB (List.replicate n false) i=true:=h2
   unfold wkB at this
   rw[List.getElem?_replicate,if_pos hi]at this
   cases this
  |succ a=>
   have hno:=h3 a (by omega)
   obtain⟨c,hc⟩:=qgo (l:=W a) (i:=i) (by rw[hWl];exact hi)
   have hcf:c=false:=by
    cases c with
    |false=>rfl
    |true=>exact absurd (by unfold wkB;rw[hc];rfl) hno
   subst hcf
   have:(W (a+1))[i]?=some (false||F (W a) i):=qkx hc
   unfold wkB at h2
   rw[this]at h2
   have hF:F (W a) i=true:=by simpa using h2
   have hF':Gof rs (qc3 rs) (W a) i=true:=hF
   unfold Gof at hF'
   simp only[hr]at hF'
   unfold qgT at hF'
   rw[List.all_eq_true]at hF'
   have hja:=hF' j hj
   rcases Nat.lt_or_ge b (a+1)with h'|h'
   ·exact h'
   ·exact absurd hja (k3 a (by omega))
end Go.Proofs.YtleaplmdgckmkaaGreatDoor.core
namespace Go.Proofs.YtleaplmdgckmkaaGreatDoor.core
open Go.Gx Go.RowKit Go.ChangeShapes Go.WideShapes Go.ChangeAt
set_option linter.unusedVariables false
structure Tab (rs:List Ru) (s:List UInt8) (E:Nat->Nat->Int):Prop where
 ok:qqy rs s.length E
 known:∀p i:Nat,p<=s.length->i<rs.length->E p i≠-2
 fix:∀(p i:Nat) r,p<=s.length->rs[i]?=some r->E p i=qcr rs s E r.body p
theorem Tab.knows {rs:List Ru} {s:List UInt8} {E:Nat->Nat->Int} (h:Tab rs s E) {e:Ex} (he:qdy rs e) {p:Int} (hp:0<=p) (hl:p<=s.length):qcr rs s E e p≠-2:=
 qlL h.ok _ e (Nat.lt_succ_self _) he p hp hl (λq _ hq i hi=>h.known q i hq hi) λj hj=>h.known _ j (by omega) (qc1 _ _ he.good j hj)
theorem Tab.res {rs:List Ru} {s:List UInt8} {E:Nat->Nat->Int} (h:Tab rs s E) {e:Ex} (he:qdy rs e) {p:Int} (hp:0<=p) (hl:p<=s.length):qcr rs s E e p= -1\/(p<=qcr rs s E e p/\qcr rs s E e p<=s.length):=by
 rcases(qkC h.ok _ e (Nat.lt_succ_self _) he p hp hl).pos hp hl with h'|h'
 ·exact absurd h' (h.knows he hp hl)
 ·exact h'
theorem Tab.empty {rs:List Ru} {s:List UInt8} {E:Nat->Nat->Int} (h:Tab rs s E) {e:Ex} (he:qdy rs e) {p:Int} (hp:0<=p) (hl:p<=s.length) (hq:qcr rs s E e p=p):(ofE rs (qc3 rs) e).Empty=true:=by
 rcases qkC h.ok _ e (Nat.lt_succ_self _) he p hp hl with h'|⟨h',_⟩|⟨_,h'⟩|⟨h',_⟩
 ·omega
 ·omega
 ·exact h'
 ·omega
def qmL (rs:List Ru) (e k:Ex) (p q:Int):Prop:=k∈e.kids/\p<=q/\(q=p->∀j∈qb4 rs (qc3 rs) k,j∈qb4 rs (qc3 rs) e)
theorem qpC {rs:List Ru} (hw:qcU rs) (n:Nat) (P:Ex->Int->Prop)
  (h:∀(e:Ex) (p:Int),qdy rs e->0<=p->p<=n->(∀(k:Ex) (q:Int),qmL rs e k p q->q<=n->P k q)->(e.kind=4->∀r,rs[(qbt e.text rs 0).toNat]?=some r->P r.body p)->P e p):
  ∀(e:Ex) (p:Int),qdy rs e->0<=p->p<=n->P e p:=by
 obtain⟨st,hst,hord⟩:=hw.stage
 have h10:=hw.ok.ten
 have key:∀(a b c:Nat) (e:Ex) (p:Int),qdy rs e->0<=p->p<=n->n-p.toNat<a->(∀j∈qb4 rs (qc3 rs) e,st j<b)->SizeOf.sizeOf e<c->P e p:=by
  intro a
  induction a with
  |zero=>intro b c e p _ _ _ h;omega
  |succ a iha=>
   intro b
   induction b with
   |zero=>
    intro c
    induction c with
    |zero=>intro e p _ _ _ _ _ h;omega
    |succ c ihc=>
     intro e p he hp hl ha hb hc
     refine h e p he hp hl (λk q ⟨hk,hq,hn⟩ hql=>?_) λh4 r hr=>?_
     ·by_cases hqp:q=p
      ·exact ihc k q (he.kid hk) (by omega) hql (by omega) (λj hj=>hb j (hn hqp j hj)) (by have:=Ex.kid_lt hk;omega)
      ·exact iha (rs.length+1) _ k q (he.kid hk) (by omega) hql (by omega) (λj hj=>by have:=(hst j (qc1 _ _ (he.kid hk).good j hj)).2;omega) (Nat.lt_succ_self _)
     ·have:=hb (qbt e.text rs 0).toNat (by rw[qdt,if_pos h4];simp)
      omega
   |succ b ihb=>
    intro c
    induction c with
    |zero=>intro e p _ _ _ _ _ h;omega
    |succ c ihc=>
     intro e p he hp hl ha hb hc
     refine h e p he hp hl (λk q ⟨hk,hq,hn⟩ hql=>?_) λh4 r hr=>?_
     ·by_cases hqp:q=p
      ·exact ihc k q (he.kid hk) (by omega) hql (by omega) (λj hj=>hb j (hn hqp j hj)) (by have:=Ex.kid_lt hk;omega)
      ·exact iha (rs.length+1) _ k q (he.kid hk) (by omega) hql (by omega) (λj hj=>by have:=(hst j (qc1 _ _ (he.kid hk).good j hj)).2;omega) (Nat.lt_succ_self _)
     ·have:=hb (qbt e.text rs 0).toNat (by rw[qdt,if_pos h4];simp)
      exact ihb _ r.body p (hw.peg (List.mem_of_getElem? hr)) hp hl ha (λj hj=>by have:=hord _ r hr j hj;omega) (Nat.lt_succ_self _)
 exact λe p he hp hl=>key (n+1) (rs.length+1) _ e p he hp hl (by omega) (λj hj=>by have:=(hst j (qc1 _ _ he.good j hj)).2;omega) (Nat.lt_succ_self _)
theorem qkZ {rs:List Ru} {s:List UInt8} {E:Nat->Nat->Int} (hT:Tab rs s E) {e:Ex} (he:qdy rs e) (h5:e.kind=5) {p:Int} (hp:0<=p) (hl:p<=s.length):∀(i:Nat) (q:Int) k,p<=q->q<=s.length->(q=p->∀j∈qc0 rs (qc3 rs) (e.kids.drop i),j∈qb4 rs (qc3 rs) e)->e.kids[i]?=some k->
  qmL rs e k p q/\(0<=qcr rs s E k q->p<=qcr rs s E k q/\qcr rs s E k q<=s.length/\(qcr rs s E k q=p->∀j∈qc0 rs (qc3 rs) (e.kids.drop (i+1)),j∈qb4 rs (qc3 rs) e)):=by
 intro i q k hq hql hn hk
 have hkm:=List.mem_of_getElem? hk
 rw[qaW hk]at hn
 refine⟨⟨hkm,hq,λhqp j hj=>hn hqp j (by rw[qc0];exact List.mem_append_left _ hj)⟩,λh0=>?_⟩
 rcases hT.res (he.kid hkm) (by omega) hql with h|⟨h1,h2⟩
 ·omega
 ·refine⟨by omega,h2,λhep j hj=>?_⟩
  have hqp:q=p:=by omega
  have hem:=hT.empty (he.kid hkm) (by omega) hql (by omega)
  exact hn hqp j (by rw[qc0,if_pos hem];exact List.mem_append_right _ hj)
theorem qjP {rs:List Ru} {kn:List Fa}:∀{ks:List Ex} {k:Ex},k∈ks->∀j∈qb4 rs kn k,j∈qdF rs kn ks
 |a::ks,k,h,j,hj=>by
  rw[qdF]
  rcases List.mem_cons.1 h with rfl|h
  ·exact List.mem_append_left _ hj
  ·exact List.mem_append_right _ (qjP h j hj)
theorem qeN {rs:List Ru} {e k:Ex} (hk:k∈e.kids) (h4:e.kind≠4) (h5:e.kind≠5) {p q:Int} (hq:p<=q):qmL rs e k p q:=
 ⟨hk,hq,λ_ j hj=>by rw[qdt,if_neg h4,if_neg h5];exact qjP hk j hj⟩
end Go.Proofs.YtleaplmdgckmkaaGreatDoor.core
namespace Go.Proofs.YtleaplmdgckmkaaGreatDoor.core
open Go.Gx Go.RowKit Go.ChangeShapes Go.WideShapes Go.ChangeAt
set_option linter.unusedVariables false
theorem u8wF (c:UInt8):IntKind.wrap .i64 (c.toNat:Int)=(c.toNat:Int):=by
 have:=c.toNat_lt
 exact qdX (by unfold InI;omega)
abbrev iC (z:Int):List Value:=[.int .i64 z]
theorem qtH (z:Int):(iC z).length=1:=rfl
theorem qar {z:Int} (h1: -1000000<=z) (h2:z<=1000000):InI z:=by unfold InI;omega
end Go.Proofs.YtleaplmdgckmkaaGreatDoor.core
namespace Go.Proofs.YtleaplmdgckmkaaGreatDoor.core
open Go.Gx Go.RowKit Go.ChangeShapes Go.WideShapes Go.ChangeAt
set_option linter.unusedVariables false
def upd (E:Nat->Nat->Int) (p:Nat) (row:List Int):Nat->Nat->Int:=λq i=>if q=p then(row[i]?).getD (-2) else E q i
theorem qgh {E:Nat->Nat->Int} {p q:Nat} {row:List Int} {i:Nat} (h:q≠p):upd E p row q i=E q i:=by unfold upd;rw[if_neg h]
theorem qoY {E:Nat->Nat->Int} {p:Nat} {row:List Int} {i:Nat} {z:Int} (h:row[i]?=some z):upd E p row p i=z:=by unfold upd;rw[if_pos rfl,h];rfl
theorem Val.up {n:Nat} {f g:Fa} {p r:Int} (h:Val n f p r) (k:qed f g):Val n g p r:=by
 obtain⟨k1,k2,k3⟩:=k
 rcases h with h|⟨h,e⟩|⟨h,e⟩|⟨h,h',e⟩
 ·exact .inl h
 ·exact .inr (.inl ⟨h,k3 e⟩)
 ·exact .inr (.inr (.inl ⟨h,k1 e⟩))
 ·exact .inr (.inr (.inr ⟨h,h',k2 e⟩))
structure EOk (rs:List Ru) (s:List UInt8) (E:Nat->Nat->Int) (p:Int):Prop where
 ok:qqy rs s.length E
 un:∀q i:Nat,(q:Int)<=p->E q i= -2
 known:∀q i:Nat,p<q->q<=s.length->i<rs.length->E q i≠-2
 fix:∀(q i:Nat) r,p<q->q<=s.length->rs[i]?=some r->E q i=qcr rs s E r.body q
theorem EOk.init (rs:List Ru) (s:List UInt8):EOk rs s (λ_ _=> -2) s.length:=
 ⟨⟨λ_ _ _ _ _=>.inl rfl⟩,λ_ _ _=>rfl,λq i h1 h2=>by omega,λq i r h1 h2=>by omega⟩
theorem EOk.tab {rs:List Ru} {s:List UInt8} {E:Nat->Nat->Int} {p:Int} (h:EOk rs s E p) (hp:p<0):Tab rs s E:=
 ⟨h.ok,λq i h1 h2=>h.known q i (by omega) h1 h2,λq i r h1 h2=>h.fix q i r (by omega) h1 h2⟩
structure qhU (rs:List Ru) (s:List UInt8) (E:Nat->Nat->Int) (p:Nat) (row:List Int):Prop where
 len:row.length=rs.length
 ok:qqy rs s.length (upd E p row)
 sound:∀(i:Nat) z r,row[i]?=some z->rs[i]?=some r->z= -2\/z=qcr rs s (upd E p row) r.body p
theorem qhU.init {rs:List Ru} {s:List UInt8} {E:Nat->Nat->Int} {p:Nat} (h:EOk rs s E p) {row:List Int} (hl:row.length=rs.length) (hr:∀(i:Nat) z,row[i]?=some z->z= -2):qhU rs s E p row:=by
 refine⟨hl,⟨λq i f hq hf=>?_⟩,λi z r hz _=>.inl (hr i z hz)⟩
 by_cases hqp:q=p
 ·subst hqp
  unfold upd;rw[if_pos rfl]
  cases hz:row[i]? with
  |none=>exact .inl rfl
  |some z=>rw[hr i z hz];exact .inl rfl
 ·rw[qgh hqp];exact h.ok.val q i f hq hf
theorem qhU.step {rs:List Ru} {s:List UInt8} {E:Nat->Nat->Int} {p:Nat} (hw:qcU rs) (hp:p<=s.length) {row:List Int} (h:qhU rs s E p row) {i:Nat} {r:Ru} (hi:row[i]?=some (-2)) (hr:rs[i]?=some r):
  qhU rs s E p (row.set i (qcr rs s (upd E p row) r.body p)):=by
 have hil:i<row.length:=(List.getElem?_eq_some_iff.1 hi).1
 generalize hz:qcr rs s (upd E p row) r.body p=z
 have hle:qoO (upd E p row) (upd E p (row.set i z)):=λq j=>by
  by_cases hqp:q=p
  ·subst hqp
   unfold upd
   rw[if_pos rfl,if_pos rfl,List.getElem?_set]
   by_cases hij:i=j
   ·subst hij;rw[hi];exact .inl rfl
   ·rw[if_neg hij];exact .inr rfl
  ·rw[qgh hqp,qgh hqp];exact .inr rfl
 have hpeg:=hw.peg (List.mem_of_getElem? hr)
 refine⟨by rw[List.length_set];exact h.len,⟨λq j f hq hf=>?_⟩,λj y r' hy hr'=>?_⟩
 ·by_cases hqp:q=p
  ·subst hqp
   unfold upd
   rw[if_pos rfl,List.getElem?_set]
   by_cases hij:i=j
   ·subst hij
    rw[if_pos rfl,if_pos hil,Option.getD_some]
    have hv:=qkC h.ok _ r.body (Nat.lt_succ_self _) hpeg q (by omega) (by omega)
    rw[hz]at hv
    refine hv.up ?_
    have:=(qin rs).shut i f hf
    have hF:Fof rs (qc3 rs) i=ofE rs (qc3 rs) r.body:=by unfold Fof;simp only[hr]
    rw[hF]at this;exact this
   ·rw[if_neg hij]
    have:=h.ok.val q j f hq hf
    unfold upd at this
    rw[if_pos rfl]at this;exact this
  ·rw[qgh hqp]
   have:=h.ok.val q j f hq hf
   rw[qgh hqp]at this;exact this
 ·rw[List.getElem?_set]at hy
  by_cases hij:i=j
  ·subst hij
   rw[if_pos rfl,if_pos hil]at hy
   simp only[Option.some.injEq]at hy
   subst hy
   rw[hr]at hr';cases hr'
   by_cases h2:z= -2
   ·exact .inl h2
   ·right
    rw[qf7 hle r.body p (by rw[hz];exact h2),hz]
  ·rw[if_neg hij]at hy
   rcases h.sound j y r' hy hr' with h'|h'
   ·exact .inl h'
   ·by_cases h2:y= -2
    ·exact .inl h2
    ·right
     rw[qf7 hle r'.body p (by rw[<-h'];exact h2),<-h']
theorem qhU.hit {rs:List Ru} {s:List UInt8} {E:Nat->Nat->Int} {p:Nat} (hw:qcU rs) (hE:EOk rs s E p) (hp:p<=s.length) {row:List Int} (h:qhU rs s E p row) {r:Ru} (hr:r∈rs) (hn:∀j∈qb4 rs (qc3 rs) r.body,∀z,row[j]?=some z->z≠-2):
  qcr rs s (upd E p row) r.body p≠-2:=by
 have hpeg:=hw.peg hr
 refine qlL h.ok _ r.body (Nat.lt_succ_self _) hpeg p (by omega) (by omega) (λq hq hql i hi=>?_) λj hj=>?_
 ·rw[qgh (by omega)];exact hE.known q i hq hql hi
 ·obtain⟨z,hz⟩:=qgo (l:=row) (i:=j) (by rw[h.len];exact qc1 _ _ hpeg.good j hj)
  rw[Int.toNat_natCast,qoY hz];exact hn j hj z hz
theorem qhU.done {rs:List Ru} {s:List UInt8} {E:Nat->Nat->Int} {p:Nat} (hE:EOk rs s E p) {row:List Int} (h:qhU rs s E p row) (hk:∀(i:Nat) z,row[i]?=some z->z≠-2):EOk rs s (upd E p row) ((p:Int)-1):=by
 have hle:qoO E (upd E p row):=λq i=>by
  by_cases hqp:q=p
  ·exact .inl (hE.un q i (by omega))
  ·rw[qgh hqp];exact .inr rfl
 refine⟨h.ok,λq i hq=>?_,λq i h1 h2 h3=>?_,λq i r h1 h2 h3=>?_⟩
 ·rw[qgh (by omega)];exact hE.un q i (by omega)
 ·by_cases hqp:q=p
  ·subst hqp
   obtain⟨z,hz⟩:=qgo (l:=row) (i:=i) (by rw[h.len];exact h3)
   rw[qoY hz];exact hk i z hz
  ·rw[qgh hqp];exact hE.known q i (by omega) h2 h3
 ·have hi:=(List.getElem?_eq_some_iff.1 h3).1
  by_cases hqp:q=p
  ·subst hqp
   obtain⟨z,hz⟩:=qgo (l:=row) (i:=i) (by rw[h.len];exact hi)
   rw[qoY hz]
   exact(h.sound i z r hz h3).resolve_left (hk i z hz)
  ·rw[qgh hqp]
   have hf:=hE.fix q i r (by omega) h2 h3
   rw[qf7 hle r.body q (by rw[<-hf];exact hE.known q i (by omega) h2 hi)]
   exact hf
end Go.Proofs.YtleaplmdgckmkaaGreatDoor.core
namespace Go.Proofs.YtleaplmdgckmkaaGreatDoor.core
open Go.Gx Go.RowKit Go.ChangeShapes Go.WideShapes Go.ChangeAt
set_option linter.unusedVariables false
def but (M:Mem) (g:Nat):Mem:=λx=>if x=g then none else M x
theorem qtV (M:Mem) (g:Nat):but M g g=none:=by simp[but]
theorem qqp {M:Mem} {g x:Nat} (h:x≠g):but M g x=M x:=by simp[but,h]
theorem qtU (M:Mem) (g:Nat):(but M g).le M:=λx o hx=>by
 unfold but at hx
 split at hx
 ·cases hx
 ·exact hx
theorem qtA {V M:Mem} {g:Nat} (h:V.le M) (hg:V g=none):V.le (but M g):=λx o hx=>by
 rw[qqp (by rintro rfl;rw[hg]at hx;cases hx)]
 exact h x o hx
end Go.Proofs.YtleaplmdgckmkaaGreatDoor.core
namespace Go.Proofs.YtleaplmdgckmkaaGreatDoor.core
open Go.Gx Go.RowKit Go.ChangeShapes Go.WideShapes Go.ChangeAt
set_option linter.unusedVariables false
def qhE (r p:Int):qah:=if 0<=r then⟨true,r-p⟩ else⟨false,0⟩
end Go.Proofs.YtleaplmdgckmkaaGreatDoor.core
namespace Go.Proofs.YtleaplmdgckmkaaGreatDoor.core
open Go.Gx Go.RowKit Go.ChangeShapes Go.WideShapes Go.ChangeAt
set_option linter.unusedVariables false
abbrev Rc:=Option (Int×Nat)
def qm4 (f:Ex->Int->Rc):List Ex->Int->Rc
 |[],p=>some (p,0)
 |k::ks,p=>(f k p).bind λx=>if x.1<0 then some x else(qm4 f ks x.1).map λy=>(y.1,x.2+y.2)
def qnO (f:Ex->Int->Rc):List Ex->Int->Rc
 |[],_=>some (-1,0)
 |k::ks,p=>(f k p).bind λx=>if x.1≠-1 then some x else(qnO f ks p).map λy=>(y.1,x.2+y.2)
def qof (f:Int->Rc) (q:Bool):Nat->Int->Bool->Rc
 |0,_,_=>none
 |m+1,p,fi=>(f p).bind λx=>if x.1<0 then some (if (fi&&q)=true then x.1 else p,x.2) else(qof f q m x.1 false).map λy=>(y.1,x.2+y.2)
def hdV (f:Ex->Int->Rc):List Ex->Int->Rc
 |[],_=>none
 |k::_,p=>f k p
def ev (rs:List Ru) (s:List UInt8):Nat->Ex->Int->Rc
 |0,_,_=>none
 |m+1,e,p=>(if e.kind=1 then some (p,0) else if e.kind=2 then some (qqB e.set s p,0) else if e.kind=3 then some (qqC e.text s p,0)
  else if e.kind=4 then(rs[(qbt e.text rs 0).toNat]?).bind λr=>ev rs s m r.body p
  else if e.kind=5 then qm4 (ev rs s m) e.kids p else if e.kind=6 then qnO (ev rs s m) e.kids p
  else if e.kind=7\/e.kind=8 then qof (hdV (ev rs s m) e.kids) (decide (e.kind=8)) (s.length+2) p true
  else(hdV (ev rs s m) e.kids p).map λx=>(qnf e.kind p x.1,x.2)).map λx=>(x.1,x.2+1)
def ql0 (f g:Ex->Int->Rc):Prop:=∀e p x,f e p=some x->g e p=some x
theorem qiF {f g:Ex->Int->Rc} (h:ql0 f g):∀(ks:List Ex) p x,qm4 f ks p=some x->qm4 g ks p=some x
 |[],_,_,h'=>h'
 |k::ks,p,x,h'=>by
  rw[qm4]at h' ⊢
  cases hf:f k p with
  |none=>rw[hf]at h';cases h'
  |some y=>
   rw[hf]at h'
   rw[h k p y hf]
   simp only[Option.bind_some]at h' ⊢
   split at h'
   ·rename_i h0;rw[if_pos h0];exact h'
   ·rename_i h0
    rw[if_neg h0]
    cases hz:qm4 f ks y.1 with
    |none=>rw[hz]at h';cases h'
    |some z=>rw[hz]at h';rw[qiF h ks _ z hz];exact h'
theorem qi7 {f g:Ex->Int->Rc} (h:ql0 f g):∀(ks:List Ex) p x,qnO f ks p=some x->qnO g ks p=some x
 |[],_,_,h'=>h'
 |k::ks,p,x,h'=>by
  rw[qnO]at h' ⊢
  cases hf:f k p with
  |none=>rw[hf]at h';cases h'
  |some y=>
   rw[hf]at h'
   rw[h k p y hf]
   simp only[Option.bind_some]at h' ⊢
   split at h'
   ·rename_i h0;rw[if_pos h0];exact h'
   ·rename_i h0
    rw[if_neg h0]
    cases hz:qnO f ks p with
    |none=>rw[hz]at h';cases h'
    |some z=>rw[hz]at h';rw[qi7 h ks _ z hz];exact h'
theorem qnr {f g:Ex->Int->Rc} (h:ql0 f g):∀(ks:List Ex) p x,hdV f ks p=some x->hdV g ks p=some x
 |[],_,_,h'=>h'
 |k::_,p,x,h'=>by rw[hdV]at h' ⊢;exact h k p x h'
theorem qiy {f g:Int->Rc} (h:∀p x,f p=some x->g p=some x) {q:Bool}:∀(m:Nat) p fi x,qof f q m p fi=some x->qof g q m p fi=some x
 |0,_,_,_,h'=>h'
 |m+1,p,fi,x,h'=>by
  rw[qof]at h' ⊢
  cases hf:f p with
  |none=>rw[hf]at h';cases h'
  |some y=>
   rw[hf]at h'
   rw[h p y hf]
   simp only[Option.bind_some]at h' ⊢
   split at h'
   ·rename_i h0;rw[if_pos h0];exact h'
   ·rename_i h0
    rw[if_neg h0]
    cases hz:qof f q m y.1 false with
    |none=>rw[hz]at h';cases h'
    |some z=>rw[hz]at h';rw[qiy h m _ _ z hz];exact h'
theorem qqb {rs:List Ru} {s:List UInt8}:∀m,ql0 (ev rs s m) (ev rs s (m+1))
 |0,e,p,x,h=>by rw[ev]at h;cases h
 |m+1,e,p,x,h=>by
  have ih:=qqb (rs:=rs) (s:=s) m
  rw[ev]at h ⊢
  obtain⟨y,hy,rfl⟩:=Option.map_eq_some_iff.1 h
  refine Option.map_eq_some_iff.2 ⟨y,?_,rfl⟩
  by_cases h1:e.kind=1
  ·rw[if_pos h1]at hy ⊢;exact hy
  rw[if_neg h1]at hy ⊢
  by_cases h2:e.kind=2
  ·rw[if_pos h2]at hy ⊢;exact hy
  rw[if_neg h2]at hy ⊢
  by_cases h3:e.kind=3
  ·rw[if_pos h3]at hy ⊢;exact hy
  rw[if_neg h3]at hy ⊢
  by_cases h4:e.kind=4
  ·rw[if_pos h4]at hy ⊢
   obtain⟨r,hr,hy⟩:=Option.bind_eq_some_iff.1 hy
   exact Option.bind_eq_some_iff.2 ⟨r,hr,ih _ _ _ hy⟩
  rw[if_neg h4]at hy ⊢
  by_cases h5:e.kind=5
  ·rw[if_pos h5]at hy ⊢;exact qiF ih _ _ _ hy
  rw[if_neg h5]at hy ⊢
  by_cases h6:e.kind=6
  ·rw[if_pos h6]at hy ⊢;exact qi7 ih _ _ _ hy
  rw[if_neg h6]at hy ⊢
  by_cases h7:e.kind=7\/e.kind=8
  ·rw[if_pos h7]at hy ⊢;exact qiy (qnr ih _) _ _ _ _ hy
  rw[if_neg h7]at hy ⊢
  obtain⟨z,hz,he⟩:=Option.map_eq_some_iff.1 hy
  exact Option.map_eq_some_iff.2 ⟨z,qnr ih _ _ _ hz,he⟩
theorem qhO {rs:List Ru} {s:List UInt8} {m n:Nat} (h:m<=n):ql0 (ev rs s m) (ev rs s n):=by
 induction h with
 |refl=>exact λ_ _ _ h=>h
 |step _ ih=>exact λe p x hx=>qqb _ e p x (ih e p x hx)
end Go.Proofs.YtleaplmdgckmkaaGreatDoor.core
namespace Go.Proofs.YtleaplmdgckmkaaGreatDoor.core
open Go.Gx Go.RowKit Go.ChangeShapes Go.WideShapes Go.ChangeAt
set_option linter.unusedVariables false
section
variable {rs:List Ru} {s:List UInt8} {E:Nat->Nat->Int}
theorem qm3 {f:Ex->Int->Rc}:∀(ks:List Ex) (p:Int) x,(∀k∈ks,∀(q:Int) y,0<=q->q<=s.length->f k q=some y->y.1=qcr rs s E k q/\(y.1<0\/y.1<=s.length))->0<=p->p<=s.length->qm4 f ks p=some x->x.1=qiG rs s E ks p
 |[],_,_,_,_,_,h=>by rw[qm4]at h;cases h;rw[qiG]
 |k::ks,p,x,hf,hp,hl,h=>by
  rw[qm4]at h
  obtain⟨y,hy,h⟩:=Option.bind_eq_some_iff.1 h
  obtain⟨h1,h2⟩:=hf k (by simp) p y hp hl hy
  rw[qiG,<-h1]
  split at h
  ·rename_i h0;cases h;rw[if_pos h0]
  ·rename_i h0
   rw[if_neg h0]
   obtain⟨z,hz,rfl⟩:=Option.map_eq_some_iff.1 h
   exact qm3 ks y.1 z (λk' hk'=>hf k' (by simp[hk'])) (by omega) (by omega) hz
theorem qnN {f:Ex->Int->Rc} {p:Int}:∀(ks:List Ex) x,(∀k∈ks,∀y,f k p=some y->y.1=qcr rs s E k p)->qnO f ks p=some x->x.1=qi8 rs s E ks p
 |[],_,_,h=>by rw[qnO]at h;cases h;rw[qi8]
 |k::ks,x,hf,h=>by
  rw[qnO]at h
  obtain⟨y,hy,h⟩:=Option.bind_eq_some_iff.1 h
  have h1:=hf k (by simp) y hy
  rw[qi8,<-h1]
  split at h
  ·rename_i h0;cases h;rw[if_pos h0]
  ·rename_i h0
   rw[if_neg h0]
   obtain⟨z,hz,rfl⟩:=Option.map_eq_some_iff.1 h
   exact qnN ks z (λk' hk'=>hf k' (by simp[hk'])) hz
theorem qmY {f:Int->Rc} {g:Int->Int} {q:Bool}:∀(m:Nat) (p:Int) fi x,(∀(r:Int) y,0<=r->r<=s.length->f r=some y->y.1=g r/\g r≠-2/\(y.1<0\/y.1<=s.length))->0<=p->p<=s.length->qof f q m p fi=some x->x.1=qik g q m p fi
 |0,_,_,_,_,_,_,h=>by rw[qof]at h;cases h
 |m+1,p,fi,x,hf,hp,hl,h=>by
  rw[qof]at h
  obtain⟨y,hy,h⟩:=Option.bind_eq_some_iff.1 h
  obtain⟨h1,h2,h3⟩:=hf p y hp hl hy
  rw[qik,<-h1]
  rw[<-h1]at h2
  split at h
  ·rename_i h0
   cases h
   by_cases hq:(fi&&q)=true
   ·rw[if_pos hq,if_pos (.inr ⟨h0,by simpa using hq⟩)]
   ·rw[if_neg hq,if_neg (λh=>h.elim h2 λh=>hq (by simp[h.2.1,h.2.2])),if_pos h0]
  ·rename_i h0
   rw[if_neg (λh=>h.elim h2 λh=>h0 h.1),if_neg h0]
   obtain⟨z,hz,rfl⟩:=Option.map_eq_some_iff.1 h
   exact qmY m y.1 false z hf (by omega) (by omega) hz
theorem qlJ (hw:qcU rs) (hT:Tab rs s E):∀(m:Nat) (e:Ex) (p:Int) x,qdy rs e->0<=p->p<=s.length->ev rs s m e p=some x->x.1=qcr rs s E e p
 |0,e,p,x,_,_,_,h=>by rw[ev]at h;cases h
 |m+1,e,p,x,hok,hp,hl,h=>by
  have ih:=qlJ hw hT m
  have hk:∀k∈e.kids,∀(q:Int) y,0<=q->q<=s.length->ev rs s m k q=some y->y.1=qcr rs s E k q/\(y.1<0\/y.1<=s.length):=λk hk q y hq hql hy=>by
   have h1:=ih k q y (hok.kid hk) hq hql hy
   refine⟨h1,?_⟩
   rw[h1]
   rcases hT.res (hok.kid hk) hq hql with h'|h'<;>omega
  rw[ev]at h
  obtain⟨y,hy,rfl⟩:=Option.map_eq_some_iff.1 h
  rw[qeE]
  show y.1=_
  by_cases h1:e.kind=1
  ·rw[if_pos h1]at hy ⊢;cases hy;rfl
  rw[if_neg h1]at hy ⊢
  by_cases h2:e.kind=2
  ·rw[if_pos h2]at hy ⊢;cases hy;rfl
  rw[if_neg h2]at hy ⊢
  by_cases h3:e.kind=3
  ·rw[if_pos h3]at hy ⊢;cases hy;rfl
  rw[if_neg h3]at hy ⊢
  by_cases h4:e.kind=4
  ·rw[if_pos h4]at hy ⊢
   obtain⟨r,hr,hy⟩:=Option.bind_eq_some_iff.1 hy
   rw[ih r.body p y (hw.peg (List.mem_of_getElem? hr)) hp hl hy]
   have:=hT.fix p.toNat _ r (by omega) hr
   rw[this,show((p.toNat:Nat):Int)=p by omega]
  rw[if_neg h4]at hy ⊢
  by_cases h5:e.kind=5
  ·rw[if_pos h5]at hy ⊢;exact qm3 _ _ _ hk hp hl hy
  rw[if_neg h5]at hy ⊢
  by_cases h6:e.kind=6
  ·rw[if_pos h6]at hy ⊢;exact qnN _ _ (λk hkm y hy=>(hk k hkm p y hp hl hy).1) hy
  rw[if_neg h6]at hy ⊢
  obtain⟨g1,g2,g3,g4,g5,g6,g7,g8⟩:=qa8 hok.good.fit
  obtain⟨k,hk1⟩:=List.length_eq_one_iff.1 (g5 (by omega))
  have hkm:k∈e.kids:=by rw[hk1];simp
  have hhd:hdE rs s E e.kids=qcr rs s E k:=by rw[hk1];funext q;rw[hdE]
  have hhv:hdV (ev rs s m) e.kids=ev rs s m k:=by rw[hk1];funext q;rw[hdV]
  rw[hhd]
  rw[hhv]at hy
  by_cases h7:e.kind=7\/e.kind=8
  ·rw[if_pos h7]at hy ⊢
   exact qmY _ _ _ _ (λr z hr hrl hz=>⟨(hk k hkm r z hr hrl hz).1,hT.knows (hok.kid hkm) hr hrl,(hk k hkm r z hr hrl hz).2⟩) hp hl hy
  rw[if_neg h7]at hy ⊢
  obtain⟨z,hz,rfl⟩:=Option.map_eq_some_iff.1 hy
  show qnf e.kind p z.1=_
  rw[(hk k hkm p z hp hl hz).1]
theorem qul (hw:qcU rs) (hT:Tab rs s E):∀(e:Ex) (p:Int),qdy rs e->0<=p->p<=s.length->∃m x,ev rs s m e p=some x:=by
 refine qpC hw s.length (λe p=>∃m x,ev rs s m e p=some x) λe p hok hp hl hk hr=>?_
 have up:∀{m:Nat} {y:Int×Nat},(if e.kind=1 then some (p,0) else if e.kind=2 then some (qqB e.set s p,0) else if e.kind=3 then some (qqC e.text s p,0)
  else if e.kind=4 then(rs[(qbt e.text rs 0).toNat]?).bind λr=>ev rs s m r.body p
  else if e.kind=5 then qm4 (ev rs s m) e.kids p else if e.kind=6 then qnO (ev rs s m) e.kids p
  else if e.kind=7\/e.kind=8 then qof (hdV (ev rs s m) e.kids) (decide (e.kind=8)) (s.length+2) p true
  else(hdV (ev rs s m) e.kids p).map λx=>(qnf e.kind p x.1,x.2))=some y->∃m x,ev rs s m e p=some x:=λ{m y} h=>⟨m+1,(y.1,y.2+1),by rw[ev,h];rfl⟩
 by_cases h1:e.kind=1
 ·exact up (m:=0) (if_pos h1)
 by_cases h2:e.kind=2
 ·exact up (m:=0) (by rw[if_neg h1,if_pos h2])
 by_cases h3:e.kind=3
 ·exact up (m:=0) (by rw[if_neg h1,if_neg h2,if_pos h3])
 by_cases h4:e.kind=4
 ·obtain⟨hlt,_⟩:=qdK (hok.good.ref h4)
  obtain⟨r,hrr⟩:=qgo (l:=rs) hlt
  obtain⟨m,x,hx⟩:=hr h4 r hrr
  exact up (m:=m) (by rw[if_neg h1,if_neg h2,if_neg h3,if_pos h4,hrr];exact hx)
 by_cases h5:e.kind=5
 ·have key:∀(d i:Nat) (q:Int),e.kids.length-i<d->p<=q->q<=s.length->(q=p->∀j∈qc0 rs (qc3 rs) (e.kids.drop i),j∈qb4 rs (qc3 rs) e)->∃m x,qm4 (ev rs s m) (e.kids.drop i) q=some x:=by
   intro d
   induction d with
   |zero=>intro i q h;omega
   |succ d ih=>
    intro i q hd hq hql hn
    by_cases hi:i<e.kids.length
    ·obtain⟨k,hki⟩:=qgo (l:=e.kids) hi
     obtain⟨t1,t2⟩:=qkZ hT hok h5 hp hl i q k hq hql hn hki
     obtain⟨m1,x,hx⟩:=hk k q t1 hql
     have hxe:=qlJ hw hT m1 k q x (hok.kid t1.1) (by omega) hql hx
     rw[qaW hki]
     by_cases h0:x.1<0
     ·exact⟨m1,x,by rw[qm4,hx,Option.bind_some,if_pos h0]⟩
     ·obtain⟨u1,u2,u3⟩:=t2 (by omega)
      rw[<-hxe]at u1 u2 u3
      obtain⟨m2,y,hy⟩:=ih (i+1) x.1 (by omega) u1 u2 u3
      refine⟨max m1 m2,(y.1,x.2+y.2),?_⟩
      rw[qm4,qhO (Nat.le_max_left m1 m2) _ _ _ hx,Option.bind_some,if_neg h0,qiF (qhO (Nat.le_max_right m1 m2)) _ _ _ hy]
      rfl
    ·exact⟨0,(q,0),by rw[List.drop_of_length_le (by omega),qm4]⟩
  obtain⟨m,x,hx⟩:=key (e.kids.length+1) 0 p (by omega) (Int.le_refl _) hl λ_ j hj=>by rw[qdt,if_neg h4,if_pos h5];exact hj
  exact up (m:=m) (by rw[if_neg h1,if_neg h2,if_neg h3,if_neg h4,if_pos h5];exact hx)
 by_cases h6:e.kind=6
 ·have key:∀ks:List Ex,(∀k∈ks,k∈e.kids)->∃m x,qnO (ev rs s m) ks p=some x:=by
   intro ks
   induction ks with
   |nil=>intro _;exact⟨0,(-1,0),by rw[qnO]⟩
   |cons k ks ih=>
    intro hm
    obtain⟨m1,x,hx⟩:=hk k p (qeN (hm k (by simp)) h4 h5 (Int.le_refl _)) hl
    by_cases h0:x.1≠-1
    ·exact⟨m1,x,by rw[qnO,hx,Option.bind_some,if_pos h0]⟩
    ·obtain⟨m2,y,hy⟩:=ih λk' hk'=>hm k' (by simp[hk'])
     refine⟨max m1 m2,(y.1,x.2+y.2),?_⟩
     rw[qnO,qhO (Nat.le_max_left m1 m2) _ _ _ hx,Option.bind_some,if_neg h0,qi7 (qhO (Nat.le_max_right m1 m2)) _ _ _ hy]
     rfl
  obtain⟨m,x,hx⟩:=key e.kids λ_ h=>h
  exact up (m:=m) (by rw[if_neg h1,if_neg h2,if_neg h3,if_neg h4,if_neg h5,if_pos h6];exact hx)
 obtain⟨g1,g2,g3,g4,g5,g6,g7,g8⟩:=qa8 hok.good.fit
 obtain⟨k,hk1⟩:=List.length_eq_one_iff.1 (g5 (by omega))
 have hkm:k∈e.kids:=by rw[hk1];simp
 have hhv:∀m,hdV (ev rs s m) e.kids=ev rs s m k:=λm=>by rw[hk1];funext q;rw[hdV]
 by_cases h7:e.kind=7\/e.kind=8
 ·have hem:=hok.star hk1 h7
  have key:∀(m:Nat) (q:Int) (fi:Bool),p<=q->q<=s.length->s.length+1<=q.toNat+m->∃n x,qof (ev rs s n k) (decide (e.kind=8)) m q fi=some x:=by
   intro m
   induction m with
   |zero=>intro q fi hq hql hm;omega
   |succ m ih=>
    intro q fi hq hql hm
    obtain⟨m1,x,hx⟩:=hk k q (qeN hkm h4 h5 hq) hql
    have hxe:=qlJ hw hT m1 k q x (hok.kid hkm) (by omega) hql hx
    by_cases h0:x.1<0
    ·exact⟨m1,(if (fi&&decide (e.kind=8))=true then x.1 else q,x.2),by rw[qof,hx,Option.bind_some,if_pos h0]⟩
    ·have hgt:q<x.1/\x.1<=s.length:=by
      rw[hxe]at h0 ⊢
      rcases hT.res (hok.kid hkm) (p:=q) (by omega) hql with h|⟨h,h'⟩
      ·omega
      ·by_cases he:qcr rs s E k q=q
       ·rw[hT.empty (hok.kid hkm) (by omega) hql he]at hem;cases hem
       ·omega
     obtain⟨m2,y,hy⟩:=ih x.1 false (by omega) hgt.2 (by omega)
     refine⟨max m1 m2,(y.1,x.2+y.2),?_⟩
     rw[qof,qhO (Nat.le_max_left m1 m2) _ _ _ hx,Option.bind_some,if_neg h0,qiy (λq z=>qhO (Nat.le_max_right m1 m2) k q z) _ _ _ _ hy]
     rfl
  obtain⟨m,x,hx⟩:=key (s.length+2) p true (Int.le_refl _) hl (by omega)
  exact up (m:=m) (by rw[if_neg h1,if_neg h2,if_neg h3,if_neg h4,if_neg h5,if_neg h6,if_pos h7,hhv];exact hx)
 ·obtain⟨m,x,hx⟩:=hk k p (qeN hkm h4 h5 (Int.le_refl _)) hl
  exact up (m:=m) (by rw[if_neg h1,if_neg h2,if_neg h3,if_neg h4,if_neg h5,if_neg h6,if_neg h7,hhv,hx];rfl)
end
end Go.Proofs.YtleaplmdgckmkaaGreatDoor.core
namespace Go.Proofs.YtleaplmdgckmkaaGreatDoor.core
open Go.Gx Go.RowKit Go.ChangeShapes Go.WideShapes Go.ChangeAt
set_option linter.unusedVariables false
end Go.Proofs.YtleaplmdgckmkaaGreatDoor.core
namespace Go.Proofs.YtleaplmdgckmkaaGreatDoor.core
open Go.Gx Go.RowKit Go.ChangeShapes Go.WideShapes Go.ChangeAt
set_option linter.unusedVariables false
theorem qpy (a b:List UInt8) {M:Mem} (K:Value->Prop) (hK:K (.bool (decide (b.length<=a.length/\a.take b.length=b)))):qbw a b M K:=by
 unfold qbw
 refine qbO _ _ _ _ ?_
 unfold qa7
 refine⟨λh=>⟨by omega,by omega,by omega,_,rfl,?_⟩,λh=>⟨_,rfl,?_⟩⟩
 ·have:((mkS ((a.take ((b.length:Nat):Int).toNat).drop (0:Int).toNat)).toList==(mkS b).toList)=decide (b.length<=a.length/\a.take b.length=b):=by
   rw[Bool.eq_iff_iff,qaY,decide_eq_true_iff]
   simp only[Int.toNat_natCast,Int.toNat_zero,List.drop_zero]
   exact⟨λh'=>⟨by omega,h'⟩,λh'=>h'.2⟩
  rw[this];exact hK
 ·rw[show decide (b.length<=a.length/\a.take b.length=b)=false from decide_eq_false (λh'=>h (by omega))]at hK
  exact hK
end Go.Proofs.YtleaplmdgckmkaaGreatDoor.core
namespace Go.Proofs.YtleaplmdgckmkaaGreatDoor.core
open Go.Gx Go.RowKit Go.ChangeShapes Go.WideShapes Go.ChangeAt
set_option linter.unusedVariables false
theorem qto {rs:List Ru} {s:List UInt8} {E:Nat->Nat->Int} {p:Nat} (hw:qcU rs) (hE:EOk rs s E p) (hp:p<=s.length):∃row,qhU rs s E p row/\∀(i:Nat) z,row[i]?=some z->z≠-2:=by
 obtain⟨st,hst,hord⟩:=hw.stage
 have key:∀k:Nat,∃row,qhU rs s E p row/\∀(i:Nat) z,st i<=k->row[i]?=some z->z≠-2:=by
  intro k
  induction k with
  |zero=>
   refine⟨List.replicate rs.length (-2),qhU.init hE (by simp) λi z hz=>?_,λi z hi hz=>?_⟩
   ·rw[List.getElem?_replicate]at hz
    split at hz
    ·simpa using hz.symm
    ·cases hz
   ·have:=(List.getElem?_eq_some_iff.1 hz).1
    have:=(hst i (by simpa using this)).1
    omega
  |succ k ih=>
   obtain⟨row0,hR0,hk0⟩:=ih
   have inner:∀i:Nat,i<=rs.length->∃row,qhU rs s E p row/\(∀(j:Nat) z,st j<=k->row[j]?=some z->z≠-2)/\∀(j:Nat) z,j<i->st j<=k+1->row[j]?=some z->z≠-2:=by
    intro i
    induction i with
    |zero=>intro _;exact⟨row0,hR0,hk0,λj z h=>by omega⟩
    |succ i ihi=>
     intro hi
     obtain⟨row,hR,hk,hki⟩:=ihi (by omega)
     obtain⟨z,hz⟩:=qgo (l:=row) (i:=i) (by rw[hR.len];omega)
     obtain⟨r,hr⟩:=qgo (l:=rs) (i:=i) (by omega)
     by_cases h2:z= -2
     ·subst h2
      have hhit:st i<=k+1->qcr rs s (upd E p row) r.body p≠-2:=λhsti=>hR.hit hw hE hp (List.mem_of_getElem? hr) λj hj z hz=>hk j z (by have:=hord _ r hr j hj;omega) hz
      have hset:∀(j:Nat) y,(row.set i (qcr rs s (upd E p row) r.body p))[j]?=some y->(j=i/\y=qcr rs s (upd E p row) r.body p)\/(j≠i/\row[j]?=some y):=λj y hy=>by
       rw[List.getElem?_set]at hy
       by_cases hij:i=j
       ·rw[if_pos hij,if_pos (by rw[hR.len];omega)]at hy;exact .inl ⟨hij.symm,by simpa using hy.symm⟩
       ·rw[if_neg hij]at hy;exact .inr ⟨λh=>hij h.symm,hy⟩
      refine⟨_,hR.step hw hp hz hr,λj y hj hy=>?_,λj y hj hj2 hy=>?_⟩
      ·rcases hset j y hy with⟨rfl,rfl⟩|⟨_,hy⟩
       ·exact hhit (by omega)
       ·exact hk j y hj hy
      ·rcases hset j y hy with⟨rfl,rfl⟩|⟨hne,hy⟩
       ·exact hhit hj2
       ·exact hki j y (by omega) hj2 hy
     ·refine⟨row,hR,hk,λj y hj hj2 hy=>?_⟩
      by_cases hji:j=i
      ·subst hji;rw[hz]at hy;cases hy;exact h2
      ·exact hki j y (by omega) hj2 hy
   obtain⟨row,hR,_,hki⟩:=inner rs.length (Nat.le_refl _)
   exact⟨row,hR,λj y hj hy=>hki j y (by have:=(List.getElem?_eq_some_iff.1 hy).1;rw[hR.len]at this;exact this) hj hy⟩
 obtain⟨row,hR,hk⟩:=key rs.length
 exact⟨row,hR,λi z hz=>hk i z (hst i (by have:=(List.getElem?_eq_some_iff.1 hz).1;rw[hR.len]at this;exact this)).2 hz⟩
theorem qpb {rs:List Ru} {s:List UInt8} (hw:qcU rs):∃E,Tab rs s E:=by
 have key:∀d:Nat,d<=s.length+1->∃E,EOk rs s E ((s.length:Int)-d):=by
  intro d
  induction d with
  |zero=>intro _;exact⟨_,by simpa using EOk.init rs s⟩
  |succ d ih=>
   intro hd
   obtain⟨E,hE⟩:=ih (by omega)
   have e1:(s.length:Int)-d=((s.length-d:Nat):Int):=by omega
   rw[e1]at hE
   obtain⟨row,hR,hk⟩:=qto hw hE (by omega)
   refine⟨upd E (s.length-d) row,?_⟩
   have:=hR.done hE hk
   rw[show((s.length-d:Nat):Int)-1=(s.length:Int)-((d+1:Nat):Int) by omega]at this
   exact this
 obtain⟨E,hE⟩:=key (s.length+1) (Nat.le_refl _)
 exact⟨E,hE.tab (by omega)⟩
end Go.Proofs.YtleaplmdgckmkaaGreatDoor.core
namespace Go.Proofs.YtleaplmdgckmkaaGreatDoor.core
open Go.Gx Go.RowKit Go.ChangeShapes Go.WideShapes Go.ChangeAt
set_option linter.unusedVariables false
def qfL (rs:List Ru) (s:List UInt8):Int:=if (qdY rs).2≠0 then(qdY rs).2 else if (s.length:Int)>60 then 2 else 0
theorem qrh {rs:List Ru} {ga:Option Addr} {gl gc:Nat} {M:Mem} (hg:GrR M rs ga gl gc) (s:List UInt8) (K:Value->Prop) (hK:K (.int .i64 (qfL rs s))):qfi ga gl gc s M K:=by
 unfold qfi
 unfold qfL at hK
 refine qeZ _ _ _ _ _ (qih hg _ ⟨_,_,rfl,λh=>?_,λh=>⟨λh2=>?_,λh2=>?_⟩⟩)
 ·rw[if_pos h]at hK;exact hK
 ·rw[if_neg h,if_pos h2]at hK;exact hK
 ·rw[if_neg h,if_neg h2]at hK;exact hK
end Go.Proofs.YtleaplmdgckmkaaGreatDoor.core
namespace Go.Proofs.YtleaplmdgckmkaaGreatDoor.core
open Go.Gx Go.RowKit Go.ChangeShapes Go.WideShapes Go.ChangeAt
set_option linter.unusedVariables false
theorem qmu {rs:List Ru} {s:List UInt8} (h:qfL rs s=0):qcU rs/\s.length<=60:=by
 unfold qfL at h
 split at h
 ·rename_i h1;exact absurd h h1
 ·rename_i h1
  split at h
  ·cases h
  ·exact⟨qoW (Decidable.not_not.1 h1),by omega⟩
end Go.Proofs.YtleaplmdgckmkaaGreatDoor.core
namespace Go.Proofs.YtleaplmdgckmkaaGreatDoor.core
open Go.Gx Go.RowKit Go.ChangeShapes Go.WideShapes Go.ChangeAt
set_option linter.unusedVariables false
structure qdC where
 Kid:Int
 At:Int
def qdC.cells (x:qdC):List Value:=[(Value.int .i64 x.Kid),(Value.int .i64 x.At)]
abbrev Tr:=qdC
def qrN (f:Ex->Int->Int):List Ex->Int->Int->List Tr
 |[],_,_=>[]
 |k::ks,i,p=>⟨i,p⟩::(if f k p<0 then[] else qrN f ks (i+1) (f k p))
def qr6 (f:Ex->Int->Int):List Ex->Int->Int->List Tr
 |[],_,_=>[]
 |k::ks,i,p=>⟨i,p⟩::(if f k p<0 then qr6 f ks (i+1) p else[])
def qpi (f:Int->Int):Nat->Int->List Tr
 |0,_=>[]
 |m+1,p=>if p<0 then[] else⟨0,p⟩::qpi f m (f p)
def qoC (rs:List Ru) (s:List UInt8) (E:Nat->Nat->Int) (e:Ex) (p:Int):List Tr:=
 if e.kind=5 then qrN (qcr rs s E) e.kids 0 p else if e.kind=6 then qr6 (qcr rs s E) e.kids 0 p
 else if e.kind=7\/e.kind=8 then qpi (hdE rs s E e.kids) (s.length+3) p else if 9<=e.kind then[⟨0,p⟩] else[]
end Go.Proofs.YtleaplmdgckmkaaGreatDoor.core
namespace Go.Proofs.YtleaplmdgckmkaaGreatDoor.core
open Go.Gx Go.RowKit Go.ChangeShapes Go.WideShapes Go.ChangeAt
set_option linter.unusedVariables false
section
variable {rs:List Ru} {s:List UInt8} {E:Nat->Nat->Int} {m:Nat}
end
end Go.Proofs.YtleaplmdgckmkaaGreatDoor.core
namespace Go.Proofs.YtleaplmdgckmkaaGreatDoor.core
open Go.Gx Go.RowKit Go.ChangeShapes Go.WideShapes Go.ChangeAt
set_option linter.unusedVariables false
def cap (c:Nat):Int:=if (c:Int)<2097152 then c else 2097152
theorem qmx {rs:List Ru} {s:List UInt8} {E:Nat->Nat->Int} (hT:Tab rs s E) {e:Ex} (hok:qdy rs e) {p:Int} (hp:0<=p) (hl:p<=s.length):∀t∈qoC rs s E e p,0<=t.Kid/\t.At<=s.length/\∃k,e.kids[t.Kid.toNat]?=some k/\qmL rs e k p t.At:=by
 obtain⟨g1,g2,g3,g4,g5,g6,g7,g8⟩:=qa8 hok.good.fit
 intro t ht
 unfold qoC at ht
 by_cases h5:e.kind=5
 ·rw[if_pos h5]at ht
  have key:∀(ks:List Ex) (i:Nat) (q:Int),ks=e.kids.drop i->p<=q->q<=s.length->(q=p->∀j∈qc0 rs (qc3 rs) (e.kids.drop i),j∈qb4 rs (qc3 rs) e)->∀t∈qrN (qcr rs s E) ks i q,0<=t.Kid/\t.At<=s.length/\∃k,e.kids[t.Kid.toNat]?=some k/\qmL rs e k p t.At:=by
   intro ks
   induction ks with
   |nil=>intro i q _ _ _ _ t ht;rw[qrN]at ht;cases ht
   |cons k ks ih=>
    intro i q hks hq hql hn t ht
    have hi:e.kids[i]?=some k:=by have:=congrArg (λl=>l[0]?) hks;simpa using this.symm
    have hks':ks=e.kids.drop (i+1):=by rw[qaW hi]at hks;exact(List.cons.inj hks).2
    obtain⟨t1,t2⟩:=qkZ hT hok h5 hp hl i q k hq hql hn hi
    rw[qrN]at ht
    rcases List.mem_cons.1 ht with rfl|ht
    ·exact⟨by simp,hql,k,by simpa using hi,t1⟩
    ·split at ht
     ·cases ht
     ·obtain⟨u1,u2,u3⟩:=t2 (by omega)
      exact ih (i+1) _ hks' u1 u2 u3 t (by rw[show((i+1:Nat):Int)=(i:Int)+1 by omega];exact ht)
  exact key e.kids 0 p (by rw[List.drop_zero]) (Int.le_refl _) hl (λ_ j hj=>by rw[qdt,if_neg (by omega),if_pos h5];exact hj) t ht
 rw[if_neg h5]at ht
 by_cases h6:e.kind=6
 ·rw[if_pos h6]at ht
  have key:∀(ks:List Ex) (i:Nat),ks=e.kids.drop i->∀t∈qr6 (qcr rs s E) ks i p,0<=t.Kid/\t.At<=s.length/\∃k,e.kids[t.Kid.toNat]?=some k/\qmL rs e k p t.At:=by
   intro ks
   induction ks with
   |nil=>intro i _ t ht;rw[qr6]at ht;cases ht
   |cons k ks ih=>
    intro i hks t ht
    have hi:e.kids[i]?=some k:=by have:=congrArg (λl=>l[0]?) hks;simpa using this.symm
    have hks':ks=e.kids.drop (i+1):=by rw[qaW hi]at hks;exact(List.cons.inj hks).2
    rw[qr6]at ht
    rcases List.mem_cons.1 ht with rfl|ht
    ·exact⟨by simp,hl,k,by simpa using hi,qeN (List.mem_of_getElem? hi) (by omega) h5 (Int.le_refl _)⟩
    ·split at ht
     ·exact ih (i+1) hks' t (by rw[show((i+1:Nat):Int)=(i:Int)+1 by omega];exact ht)
     ·cases ht
  exact key e.kids 0 (by rw[List.drop_zero]) t ht
 rw[if_neg h6]at ht
 by_cases h7:e.kind=7\/e.kind=8
 ·rw[if_pos h7]at ht
  obtain⟨k,hk1⟩:=List.length_eq_one_iff.1 (g5 (by omega))
  have hkm:k∈e.kids:=by rw[hk1];simp
  have hhd:hdE rs s E e.kids=qcr rs s E k:=by rw[hk1];funext q;rw[hdE]
  rw[hhd]at ht
  have key:∀(m:Nat) (q:Int),q<0\/(p<=q/\q<=s.length)->∀t∈qpi (qcr rs s E k) m q,0<=t.Kid/\t.At<=s.length/\∃k,e.kids[t.Kid.toNat]?=some k/\qmL rs e k p t.At:=by
   intro m
   induction m with
   |zero=>intro q _ t ht;rw[qpi]at ht;cases ht
   |succ m ih=>
    intro q hq t ht
    rw[qpi]at ht
    split at ht
    ·cases ht
    ·rcases List.mem_cons.1 ht with rfl|ht
     ·exact⟨by simp,by dsimp only;omega,k,by rw[hk1];rfl,qeN hkm (by omega) h5 (by dsimp only;omega)⟩
     ·exact ih _ (by rcases hT.res (hok.kid hkm) (p:=q) (by omega) (by omega)with h|h<;>omega) t ht
  exact key _ p (.inr ⟨Int.le_refl _,hl⟩) t ht
 rw[if_neg h7]at ht
 split at ht
 ·simp only[List.mem_singleton]at ht
  subst ht
  obtain⟨k,hk1⟩:=List.length_eq_one_iff.1 (g5 (by omega))
  exact⟨by simp,hl,k,by rw[hk1];rfl,qeN (by rw[hk1];simp) (by omega) h5 (Int.le_refl _)⟩
 ·cases ht
end Go.Proofs.YtleaplmdgckmkaaGreatDoor.core
namespace Go.Proofs.YtleaplmdgckmkaaGreatDoor.core
open Go.Gx Go.RowKit Go.ChangeShapes Go.WideShapes Go.ChangeAt
set_option linter.unusedVariables false
inductive Evt where
 |node (n p:Int) (e:Ex)
 |done (i p:Int)
inductive Job where
 |node (e:Ex) (n p:Int)
 |rule (i p:Int)
 |kids (L:List Ex) (n:Int) (l:List Tr)
def cnt (e:Ex):Nat:=(qa5 e).length
def qjq (L:List Ex) (i:Nat):Nat:=((L.take i).map cnt).sum
def qmB (rs:List Ru) (i:Nat):Nat:=((rs.take i).map λr=>cnt r.body).sum
inductive qkL (rs:List Ru) (s:List UInt8) (E:Nat->Nat->Int):Job->List Evt->List Evt->Prop where
 |ref {e:Ex} {n p:Int} {t t':List Evt} (h4:e.kind=4) (h:qkL rs s E (.rule (qbt e.text rs 0) p) t t'):qkL rs s E (.node e n p) t (t'++[.node n p e])
 |inner {e:Ex} {n p:Int} {t t':List Evt} (h4:e.kind≠4) (h:qkL rs s E (.kids e.kids (n+1) (qoC rs s E e p)) t t'):qkL rs s E (.node e n p) t (t'++[.node n p e])
 |seen {i p:Int} {t:List Evt} (h: .done i p∈t):qkL rs s E (.rule i p) t t
 |rule {i p:Int} {r:Ru} {t t':List Evt} (hn:Evt.done i p∉t) (hr:rs[i.toNat]?=some r) (h:qkL rs s E (.node r.body (qmB rs i.toNat) p) t t'):qkL rs s E (.rule i p) t (t'++[.done i p])
 |nil {L:List Ex} {n:Int} {t:List Evt}:qkL rs s E (.kids L n []) t t
 |cons {L:List Ex} {n:Int} {k:Tr} {l:List Tr} {e:Ex} {t t1 t2:List Evt} (he:L[k.Kid.toNat]?=some e) (h1:qkL rs s E (.node e (n+qjq L k.Kid.toNat) k.At) t t1) (h2:qkL rs s E (.kids L n l) t1 t2):qkL rs s E (.kids L n (k::l)) t t2
theorem qsQ {rs:List Ru} {s:List UInt8} {E:Nat->Nat->Int} (hw:qcU rs) (hT:Tab rs s E):∀(e:Ex) (p:Int),qdy rs e->0<=p->p<=s.length->∀(n:Int) t,∃t',qkL rs s E (.node e n p) t t':=by
 refine qpC hw s.length _ λe p hok hp hl ihk ihr n t=>?_
 by_cases h4:e.kind=4
 ·have h0:=hok.good.ref h4
  obtain⟨rr,hrr⟩:=qgo (l:=rs) (qdK h0).1
  by_cases hd:Evt.done (qbt e.text rs 0) p∈t
  ·exact⟨_,.ref h4 (.seen hd)⟩
  ·obtain⟨t',ht⟩:=ihr h4 rr hrr (qmB rs (qbt e.text rs 0).toNat) t
   exact⟨_,.ref h4 (.rule hd hrr ht)⟩
 ·have key:∀(l:List Tr),(∀k∈l,k∈qoC rs s E e p)->∀t,∃t',qkL rs s E (.kids e.kids (n+1) l) t t':=by
   intro l
   induction l with
   |nil=>exact λ_ t=>⟨t,.nil⟩
   |cons k l ih=>
    intro hm t
    obtain⟨_,hk1,x,hx,htr⟩:=qmx hT hok hp hl k (hm k (by simp))
    obtain⟨t1,h1⟩:=ihk x k.At htr hk1 (n+1+qjq e.kids k.Kid.toNat) t
    obtain⟨t2,h2⟩:=ih (λy hy=>hm y (by simp[hy])) t1
    exact⟨t2,.cons hx h1 h2⟩
  obtain⟨t',ht⟩:=key _ (λ_ h=>h) t
  exact⟨_,.inner h4 ht⟩
theorem qg4 {L:List Ex} {i:Nat} {e:Ex} (h:L[i]?=some e):qjq L (i+1)=qjq L i+cnt e:=by
 unfold qjq
 rw[List.take_add_one,h]
 simp
theorem qly {rs:List Ru} {i:Nat} {r:Ru} (h:rs[i]?=some r):qmB rs (i+1)=qmB rs i+cnt r.body:=by
 unfold qmB
 rw[List.take_add_one,h]
 simp
theorem qrx (L:List Ex):(qaO L).length=(L.map cnt).sum:=by
 induction L with
 |nil=>simp[qaO]
 |cons k ks ih=>rw[qaO,List.length_append,ih];simp[cnt]
theorem qnB (e:Ex):cnt e=1+(e.kids.map cnt).sum:=by
 cases e with
 |mk k t x ks=>rw[cnt,qa5,List.length_cons,qrx];simp[Ex.kids];omega
theorem qmG (e:Ex):1<=cnt e:=by rw[qnB];omega
theorem qkj {L:List Ex} {i:Nat} {e:Ex} (h:L[i]?=some e):qjq L i+cnt e<=(L.map cnt).sum:=by
 rw[<-qg4 h]
 have:=List.take_append_drop (i+1) L
 have e2:(L.map cnt).sum=qjq L (i+1)+((L.drop (i+1)).map cnt).sum:=by
  conv=>lhs;rw[<-this]
  rw[List.map_append,List.sum_append];rfl
 omega
theorem qlz {rs:List Ru} {i:Nat} {r:Ru} (h:rs[i]?=some r):qmB rs i+cnt r.body<=(rs.map λr=>cnt r.body).sum:=by
 rw[<-qly h]
 have:=List.take_append_drop (i+1) rs
 have e2:(rs.map λr=>cnt r.body).sum=qmB rs (i+1)+((rs.drop (i+1)).map λr=>cnt r.body).sum:=by
  conv=>lhs;rw[<-this]
  rw[List.map_append,List.sum_append];rfl
 omega
end Go.Proofs.YtleaplmdgckmkaaGreatDoor.core
namespace Go.Proofs.YtleaplmdgckmkaaGreatDoor.core
open Go.Gx Go.RowKit Go.ChangeShapes Go.WideShapes Go.ChangeAt
set_option linter.unusedVariables false
theorem qiq:∀(m:Nat) (e:Ex),SizeOf.sizeOf e<m->cnt e<=100000->∀(M:Mem) (x:qaa) (K:Value->Mem->Prop),ExR M e x->(∀M',M.le M'->K (.int .i64 (cnt e)) M')->qeu x M (λ_=>False) K
 |0,_,h,_=>by omega
 |m+1,e,hm,hc=>λM x K hR hK=>by
  obtain⟨xs,hx⟩:=hR.open
  have hce:=qnB e
  have hlen:e.kids.length<=(e.kids.map cnt).sum:=by
   have:∀L:List Ex,L.length<=(L.map cnt).sum:=λL=>by
    induction L with
    |nil=>simp
    |cons k ks ih=>simp only[List.length_cons,List.map_cons,List.sum_cons];have:=qmG k;omega
   exact this _
  unfold qeu
  refine⟨Unit,λ_ n i M'=>0<=i/\i<=e.kids.length/\n=1+(qjq e.kids i.toNat:Nat)/\M.le M',λ_ _ i=>e.kids.length-i.toNat,(),⟨by omega,by omega,rfl,Mem.le.refl M⟩,λ_ n i M' ⟨i0,i1,hn,hle⟩=>⟨λhlt=>?_,λhge=>?_⟩⟩
  ·rw[hx.len]at hlt
   obtain⟨k,hk⟩:=getI (l:=e.kids) i0 hlt
   obtain⟨b,o,y,ha,hat,hy,_⟩:=hx.kid hk
   have hpk:=qkj hk
   have hsz:=Ex.kid_lt (List.mem_of_getElem? hk)
   refine⟨b,o,ha,i0,by rw[hx.len];exact hlt,y,hat.le hle,(qeh _ _ _ _ (qiq m k (by omega) (by omega) _ _ _ (hy.le hle) λM2 hle2=>⟨_,rfl,?_,?_,(),⟨by omega,by omega,?_,hle.trans hle2⟩,?_⟩)).mono (λ_ h=>h.elim) (λv M' _ h=>h)⟩
   ·exact qar (by omega) (by omega)
   ·exact qar (by omega) (by omega)
   ·rw[show(i+1).toNat=i.toNat+1 by omega,qg4 hk,hn];omega
   ·show e.kids.length-(i+1).toNat<e.kids.length-i.toNat
    omega
  ·rw[hx.len]at hge
   intro M2 hle2
   have:qjq e.kids i.toNat=(e.kids.map cnt).sum:=by unfold qjq;rw[List.take_of_length_le (by omega)]
   rw[hn,this,show(1:Int)+((e.kids.map cnt).sum:Nat)=((cnt e:Nat):Int) by rw[hce];omega]
   exact hK M2 (hle.trans hle2)
def cpl:List UInt8->List UInt8->Nat
 |a::u,b::v=>if a=b then cpl u v+1 else 0
 |_,_=>0
def qeM (rs:List Ru) (s:List UInt8) (E:Nat->Nat->Int):Evt->Option (Int×(Nat->Bool))
 | .node _ p e=>if qcr rs s E e p<0 then(if e.kind=2 then some (p,qcg e.set) else if e.kind=3 then some (p+(cpl (s.drop p.toNat) e.text:Nat),λb=>decide ((e.text[cpl (s.drop p.toNat) e.text]?).map UInt8.toNat=some b)) else none) else none
 | .done _ _=>none
structure FW (rs:List Ru) (s:List UInt8) (E:Nat->Nat->Int) (t:List Evt) (far:Int) (want:qab):Prop where
 wf:wfS want
 lo: -1<=far
 ge:∀x∈t,∀m,qeM rs s E x=some m->m.1<=far
 bits:∀b,b<256->(qcg want b=true↔∃x∈t,∃m,qeM rs s E x=some m/\m.1=far/\m.2 b=true)
 ex:far= -1\/∃x∈t,∃m,qeM rs s E x=some m/\m.1=far
theorem qnF (b:Nat) (hb:b<256):qcg (qab.mk 0 0 0 0) b=false:=by
 have h:qab.mk 0 0 0 0=Us λ_=>false:=by
  have h1:=qr8 (s:=qab.mk 0 0 0 0) (by unfold wfS;decide)
  rw[<-h1]
  exact qdL λb hb=>by
   have h4:∀i:Nat,([0,0,0,0]:List Nat)[i]?.getD 0=0:=λi=>by
    match i with
    |0=>rfl
    |1=>rfl
    |2=>rfl
    |3=>rfl
    |n+4=>rfl
   unfold qcg qtI
   simp[h4]
 rw[h,qi6 hb]
theorem FW.init (rs:List Ru) (s:List UInt8) (E:Nat->Nat->Int):FW rs s E [] (-1) (qab.mk 0 0 0 0):=
 ⟨by unfold wfS;decide,Int.le_refl _,λx hx=>(by cases hx),λb hb=>by rw[qnF b hb];simp,.inl rfl⟩
theorem FW.skip {rs:List Ru} {s:List UInt8} {E:Nat->Nat->Int} {t:List Evt} {far:Int} {want:qab} (h:FW rs s E t far want) {x:Evt} (hx:qeM rs s E x=none):FW rs s E (t++[x]) far want:=by
 refine⟨h.wf,h.lo,λy hy m hm=>?_,λb hb=>?_,h.ex.imp id λ⟨y,hy,hm⟩=>⟨y,by simp[hy],hm⟩⟩
 ·rcases List.mem_append.1 hy with hy|hy
  ·exact h.ge y hy m hm
  ·simp only[List.mem_singleton]at hy;rw[hy,hx]at hm;cases hm
 ·rw[h.bits b hb]
  refine⟨λ⟨y,hy,hm⟩=>⟨y,by simp[hy],hm⟩,λ⟨y,hy,m,hm,hr⟩=>?_⟩
  rcases List.mem_append.1 hy with hy|hy
  ·exact⟨y,hy,m,hm,hr⟩
  ·simp only[List.mem_singleton]at hy;rw[hy,hx]at hm;cases hm
def qlZ (far:Int) (want:qab) (p:Int) (f:Nat->Bool) (far':Int) (want':qab):Prop:=
 wfS want'/\far'=(if far<p then p else far)/\∀b,b<256->qcg want' b=if far<p then f b else if p=far then(qcg want b||f b) else qcg want b
theorem FW.miss {rs:List Ru} {s:List UInt8} {E:Nat->Nat->Int} {t:List Evt} {far far' p:Int} {want want':qab} {f:Nat->Bool} (h:FW rs s E t far want) (hp:0<=p) {x:Evt} (hx:qeM rs s E x=some (p,f)) (hm:qlZ far want p f far' want'):FW rs s E (t++[x]) far' want':=by
 obtain⟨h1,h2,h3⟩:=hm
 have hlo:=h.lo
 refine⟨h1,by split at h2<;>omega,λy hy m hm=>?_,λb hb=>?_,.inr ?_⟩
 ·rcases List.mem_append.1 hy with hy|hy
  ·have:=h.ge y hy m hm
   split at h2<;>omega
  ·simp only[List.mem_singleton]at hy
   rw[hy,hx]at hm
   cases hm
   show p<=far'
   split at h2<;>omega
 ·rw[h3 b hb]
  have hb':=h.bits b hb
  by_cases hlt:far<p
  ·rw[if_pos hlt]at h2 ⊢
   subst h2
   refine⟨λhf=>⟨x,by simp,_,hx,rfl,hf⟩,λ⟨y,hy,m,hm,hmp,hmb⟩=>?_⟩
   rcases List.mem_append.1 hy with hy|hy
   ·have:=h.ge y hy m hm;omega
   ·simp only[List.mem_singleton]at hy
    rw[hy,hx]at hm;cases hm;exact hmb
  ·rw[if_neg hlt]at h2 ⊢
   subst h2
   by_cases he:p=far'
   ·rw[if_pos he,Bool.or_eq_true,hb']
    refine⟨λhf=>?_,λ⟨y,hy,m,hm,hmp,hmb⟩=>?_⟩
    ·rcases hf with⟨y,hy,hr⟩|hf
     ·exact⟨y,by simp[hy],hr⟩
     ·exact⟨x,by simp,_,hx,he,hf⟩
    ·rcases List.mem_append.1 hy with hy|hy
     ·exact .inl ⟨y,hy,m,hm,hmp,hmb⟩
     ·simp only[List.mem_singleton]at hy
      rw[hy,hx]at hm;cases hm;exact .inr hmb
   ·rw[if_neg he,hb']
    refine⟨λ⟨y,hy,hr⟩=>⟨y,by simp[hy],hr⟩,λ⟨y,hy,m,hm,hmp,hmb⟩=>?_⟩
    rcases List.mem_append.1 hy with hy|hy
    ·exact⟨y,hy,m,hm,hmp,hmb⟩
    ·simp only[List.mem_singleton]at hy
     rw[hy,hx]at hm;cases hm;exact absurd hmp he
 ·by_cases hlt:far<p
  ·rw[if_pos hlt]at h2;exact⟨x,by simp,_,hx,h2.symm⟩
  ·rw[if_neg hlt]at h2
   subst h2
   rcases h.ex with h'|⟨y,hy,m,hm⟩
   ·by_cases he:p=far'
    ·exact⟨x,by simp,_,hx,he⟩
    ·omega
   ·exact⟨y,by simp[hy],m,hm⟩
end Go.Proofs.YtleaplmdgckmkaaGreatDoor.core
namespace Go.Proofs.YtleaplmdgckmkaaGreatDoor.core
open Go.Gx Go.RowKit Go.ChangeShapes Go.WideShapes Go.ChangeAt
set_option linter.unusedVariables false
theorem At.blk {M:Mem} {b:Nat} {cs:List Value} {t:TypeId} {f:Nat×Nat} (h:M b=some (.cells cs.toArray t f)):At M b 0 cs:=λj v hj=>by
 unfold Mem.cell
 rw[h,Nat.zero_add]
 simpa using hj
theorem Has.blk {M:Mem} {b o k:Nat} {cs:List Value} {t:TypeId} (h:M b=some (.cells cs.toArray t (0,0))) (hk:o+k<=cs.length):Has M b o k:=⟨_,_,h,by simpa using hk⟩
def qcL (E:Nat->Nat->Int) (t:List Evt):List qaz:=t.filterMap λx=>match x with
 | .done i p=>some ⟨i,p,qhE (E p.toNat i.toNat) p⟩
 | .node _ _ _=>none
theorem qoB (E:Nat->Nat->Int) (t:List Evt) (n p:Int) (e:Ex):qcL E (t++[.node n p e])=qcL E t:=by simp[qcL]
theorem qhH (E:Nat->Nat->Int) (t:List Evt) (i p:Int):qcL E (t++[.done i p])=qcL E t++[⟨i,p,qhE (E p.toNat i.toNat) p⟩]:=by simp[qcL]
theorem qt6 (x:qaz):∀u∈x.cells,u.oneCell'=true:=by
 intro u hu
 simp only[qaz.cells,List.mem_cons,List.not_mem_nil,or_false]at hu
 rcases hu with rfl|rfl|rfl|rfl<;>rfl
theorem qgx:∀(n:Nat) (l:List Nat),l.Nodup->(∀x∈l,x<n)->l.length<=n
 |0,l,_,h=>by
  cases l with
  |nil=>simp
  |cons a l=>have:=h a (by simp);omega
 |n+1,l,hn,h=>by
  by_cases hm:n∈l
  ·have h1:=qgx n (l.erase n) (hn.sublist List.erase_sublist) λx hx=>by
    have hx2:=List.mem_of_mem_erase hx
    have:=h x hx2
    have hne:x≠n:=λe=>by
     subst e
     exact(List.Nodup.not_mem_erase hn) hx
    omega
   have:=List.length_erase_of_mem hm
   omega
  ·have:=qgx n l hn λx hx=>by
    have:=h x hx
    have hne:x≠n:=λe=>hm (e▸hx)
    omega
   omega
def quh (x:qaz):Nat:=x.Rule.toNat*61+x.At.toNat
theorem qlq {E:Nat->Nat->Int} {t:List Evt} {x:qaz}:x∈qcL E t↔.done x.Rule x.At∈t/\x.Out=qhE (E x.At.toNat x.Rule.toNat) x.At:=by
 unfold qcL
 rw[List.mem_filterMap]
 constructor
 ·rintro⟨y,hy,h⟩
  cases y with
  |node n p e=>cases h
  |done i p=>simp only[Option.some.injEq]at h;subst h;exact⟨hy,rfl⟩
 ·rintro⟨h1,h2⟩
  refine⟨_,h1,?_⟩
  cases x
  simp only at h2 ⊢
  rw[h2]
structure PkC where
 V:Mem
 rs:List Ru
 s:List UInt8
 E:Nat->Nat->Int
 pb:Nat
 r:Nat
 ga:Option Addr
 fa:Option Addr
 gl:Nat
 gc:Nat
 fc:Nat
 nodeV:Value
 JB:Nat->Prop
 J:List Evt->Mem->Prop
 tot:Nat
abbrev PkC.res (c:PkC) (e:Ex) (p:Int):Int:=qcr c.rs c.s c.E e p
abbrev PkC.LV (c:PkC):Nat->Prop:=λb=>c.V b=none
abbrev PkC.ptr (c:PkC):Option Addr:=some ⟨c.pb,0,none⟩
abbrev PkC.cells (c:PkC) (la:Option Addr) (ln lc:Nat) (far:Int) (want:qab):List Value:=(qbY.mk c.ga c.gl c.gc c.s (some c.r) la ln lc far want c.nodeV c.fa c.rs.length c.fc).cells
structure PkC.Ok (c:PkC):Prop where
 hw:qcU c.rs
 hT:Tab c.rs c.s c.E
 s60:c.s.length<=60
 gr:GrR c.V c.rs c.ga c.gl c.gc
 fst:∀i,i<c.rs.length->∃b o,c.fa=some ⟨b,o,none⟩/\At c.V b (o+i*1) [Value.int .i64 (qmB c.rs i:Nat)]
 pbV:c.V c.pb=none
 rV:c.V c.r=none
 pr:c.pb≠c.r
 jpb:¬c.JB c.pb
 jr:¬c.JB c.r
 jV:∀b,c.JB b->c.V b=none
 frame:∀t M M',c.J t M->(∀b,c.JB b->M' b=M b)->c.J t M'
 has:∀t M,c.J t M->∀b,c.JB b->(M b).isSome=true
 node:∃nil,qqA c.nodeV nil/\(nil=true->∀t (n p:Int) e M,c.J t M->c.J (t++[.node n p e]) M)/\(nil=false->∀t (n p:Int) e M,0<=n->n<c.tot->c.J t M->qhp Tryz.prog c.nodeV [.int .i64 n,.bool (decide (0<=c.res e p))] M c.JB (λv M'=>v= .tuple #[]/\c.J (t++[.node n p e]) M'))
 done:∀t i p M,c.J t M->c.J (t++[.done i p]) M
 tot:(c.rs.map λr=>cnt r.body).sum<=c.tot
 small:c.tot<=100000
structure PB (c:PkC) (t:List Evt) (far:Int) (want:qab) (M:Mem):Prop where
 le:c.V.le M
 bk:∃la lc,M c.pb=some (.cells (c.cells la (qcL c.E t).length lc far want).toArray 96 (0,0))/\qjg M 134 4 la (qcL c.E t).length lc (cl qaz.cells (qcL c.E t))/\∀g,la=some ⟨g,0,none⟩->c.V g=none/\¬c.JB g/\g≠c.pb/\g≠c.r
 mp:∃f,ql5 M c.r f/\∀i p v,f i p=some v↔(Evt.done i p∈t/\v=(qhE (c.E p.toNat i.toNat) p).val)
 j:c.J t M
 ks:((qcL c.E t).map quh).Nodup/\∀i p,Evt.done i p∈t->0<=i/\i<c.rs.length/\0<=p/\p<=c.s.length
def PI (c:PkC) (t:List Evt) (M:Mem):Prop:=∃far want,FW c.rs c.s c.E t far want/\PB c t far want M
theorem Mem.le.eq {M M':Mem} (h:M.le M') {b:Nat} (hb:(M b).isSome=true):M' b=M b:=by
 obtain⟨o,ho⟩:=Option.isSome_iff_exists.1 hb
 rw[ho];exact h b o ho
section
variable {c:PkC} {t:List Evt} {far:Int} {want:qab} {M:Mem}
theorem PB.keep (hc:c.Ok) (h:PB c t far want M) {M':Mem} {t':List Evt} (hlog:qcL c.E t'=qcL c.E t) (hd:∀i p,Evt.done i p∈t'↔Evt.done i p∈t) (hk:∀b o,M b=some o->¬c.JB b->M' b=some o) (hj:c.J t' M'):PB c t' far want M':=by
 obtain⟨la,lc,h1,h2,h3⟩:=h.bk
 refine⟨λb o hb=>hk b o (h.le b o hb) λhJ=>(by rw[hc.jV b hJ]at hb;cases hb),?_,?_,hj,by rw[hlog];exact h.ks.1,λi p hi=>h.ks.2 i p ((hd i p).1 hi)⟩
 ·rw[hlog];exact⟨la,lc,hk _ _ h1 hc.jpb,h2.same λg o hg ho=>hk g o ho (h3 g hg).2.1,h3⟩
 ·obtain⟨f,⟨es,clk,h4,h5⟩,h6⟩:=h.mp
  exact⟨f,⟨es,clk,hk _ _ h4 hc.jr,h5⟩,λi p v=>by rw[h6 i p v,hd i p]⟩
theorem PB.up (hc:c.Ok) (h:PB c t far want M) {M':Mem} (hl:M.le M'):PB c t far want M':=
 h.keep hc rfl (λ_ _=>Iff.rfl) (λb o hb _=>hl b o hb) (hc.frame _ _ _ h.j λb hb=>Mem.le.eq hl (hc.has _ _ h.j b hb))
theorem PI.up (hc:c.Ok) (h:PI c t M) {M':Mem} (hl:M.le M'):PI c t M':=by
 obtain⟨far,want,h1,h2⟩:=h
 exact⟨far,want,h1,h2.up hc hl⟩
theorem PB.at (h:PB c t far want M):∃la lc,At M c.pb 0 (c.cells la (qcL c.E t).length lc far want):=by
 obtain⟨la,lc,h1,_⟩:=h.bk
 exact⟨la,lc,At.blk h1⟩
theorem PB.put (hc:c.Ok) (h:PB c t far want M) (k:Nat) (vs:List Value) {far':Int} {want':qab} (hp:∀la ln lc,qdm (c.cells la ln lc far want) k vs=c.cells la ln lc far' want'):PB c t far' want' (M.put c.pb k vs):=by
 obtain⟨la,lc,h1,h2,h3⟩:=h.bk
 have hne:∀b,b≠c.pb->(M.put c.pb k vs) b=M b:=λb hb=>Mem.put_ne hb
 refine⟨λb o hb=>?_,⟨la,lc,?_,h2.same λg o hg ho=>by rw[hne g (h3 g hg).2.2.1];exact ho,h3⟩,?_,hc.frame _ _ _ h.j λb hb=>hne b λe=>hc.jpb (e▸hb),h.ks⟩
 ·rw[hne b (λe=>by rw[e,hc.pbV]at hb;cases hb)];exact h.le b o hb
 ·rw[Mem.put_eq h1]
  have:=hp la (qcL c.E t).length lc
  simp only at this ⊢
  rw[this]
 ·obtain⟨f,⟨es,clk,h4,h5⟩,h6⟩:=h.mp
  exact⟨f,⟨es,clk,by rw[hne _ hc.pr.symm];exact h4,h5⟩,h6⟩
theorem PB.node (hc:c.Ok) (h:PB c t far want M) {M':Mem} (hk:∀b o,M b=some o->¬c.JB b->M' b=some o) {n p:Int} {e:Ex} (hj:c.J (t++[.node n p e]) M'):PB c (t++[.node n p e]) far want M':=
 h.keep hc (qoB _ _ _ _ _) (λi q=>by simp) hk hj
theorem PB.room (hc:c.Ok) (h:PB c t far want M):(qcL c.E t).length<=610:=by
 have h10:=hc.hw.ok.ten
 have hs60:=hc.s60
 have:=qgx 610 _ h.ks.1 λx hx=>by
  obtain⟨y,hy,rfl⟩:=List.mem_map.1 hx
  have:=h.ks.2 _ _ (qlq.1 hy).1
  unfold quh
  omega
 simpa using this
theorem qpM (hc:c.Ok) (h:PB c t far want M) (hwf:wfS want) {p:Int} {w:qab} (hw:wfS w) {K:Value->Mem->Prop}
  (hK:∀M' far' want',PB c t far' want' M'->qlZ far want p (qcg w) far' want'->K (.tuple #[]) M'):qcd c.ptr p w M c.LV K:=by
 have has:∀{far want M k n},PB c t far want M->k+n<=11->Has M c.pb (0+k) n:=λh hk=>by
  obtain⟨la,lc,h1,_⟩:=h.bk
  exact Has.blk h1 (by rw[Nat.zero_add];exact hk)
 have atFar:∀{far want M},PB c t far want M->At M c.pb (0+4) [.int .i64 far]:=λh=>by
  obtain⟨la,lc,h1⟩:=h.at
  exact h1.part 4 [.int .i64 _] rfl
 have atWant:∀{far want M},PB c t far want M->At M c.pb (0+5) want.cells:=λh=>by
  obtain⟨la,lc,h1⟩:=h.at
  exact h1.part 5 (qab.cells _) rfl
 unfold qcd
 have j1:∀(M':Mem) (far1:Int) (want1:qab),PB c t far1 want1 M'->wfS want1->(far1=if far<p then p else far)->(∀b,b<256->qcg want1 b=if far<p then false else qcg want b)->qaU c.ptr p w M c.LV M' K:=by
  intro M' far1 want1 hB hwf1 hf1 hb1
  unfold qaU
  refine⟨c.pb,0,rfl,far1,atFar hB,λhe=>⟨c.pb,0,rfl,want1,atWant hB,qjG _ _ _ _ (qpT hwf1 hw _ ⟨_,rfl,c.pb,0,rfl,has hB (by omega),.inl hc.pbV,λM2 hM2 M3 hle=>?_⟩)⟩,λhne M3 hle=>?_⟩
  ·refine hK M3 far1 (Us λb=>qcg want1 b||qcg w b) ?_ ⟨qmK _,hf1,λb hb=>?_⟩
   ·rw[hM2]at hle
    exact(hB.put hc (0+5) _ λla ln lc=>rfl).up hc hle
   ·rw[qi6 hb,hb1 b hb]
    by_cases hlt:far<p
    ·rw[if_pos hlt,if_pos hlt];simp
    ·rw[if_neg hlt]at hf1
     rw[if_neg hlt,if_neg hlt,if_pos (by omega)]
  ·refine hK M3 far1 want1 (hB.up hc hle) ⟨hwf1,hf1,λb hb=>?_⟩
   by_cases hlt:far<p
   ·rw[if_pos hlt]at hf1;exact absurd hf1.symm hne
   ·rw[if_neg hlt]at hf1
    rw[hb1 b hb,if_neg hlt,if_neg hlt,if_neg (by omega)]
 refine⟨c.pb,0,rfl,far,atFar h,λhgt=>⟨c.pb,0,rfl,has h (by omega),.inl hc.pbV,λM10 hM10=>?_⟩,λhle=>j1 M far want h hwf (by rw[if_neg (by omega)]) λb _=>by rw[if_neg (by omega)]⟩
 have hB1:PB c t p want M10:=by rw[hM10];exact h.put hc (0+4) _ λla ln lc=>rfl
 refine⟨c.pb,0,rfl,has hB1 (by omega),.inl hc.pbV,λM13 hM13=>?_⟩
 have hB2:PB c t p (qab.mk 0 0 0 0) M13:=by rw[hM13];exact hB1.put hc (0+5) _ λla ln lc=>rfl
 exact j1 M13 p _ hB2 (by unfold wfS;decide) (by rw[if_pos (by omega)]) λb hb=>by rw[if_pos (by omega),qnF b hb]
def qr9 (c:PkC) (e:Ex) (n p:Int) (t t1:List Evt):Prop:=∀(M:Mem) (x:qaa) (K:Value->Mem->Prop),ExR c.V e x->PI c t M->
 (∀M' to1 far want,PB c t1 far want M'->FW c.rs c.s c.E (t1++[.node n p e]) far want->(0<=c.res e p->to1=c.res e p)->K (.tuple #[.int .i64 to1,.bool (decide (0<=c.res e p))]) M')->qcc c.ptr x n p M c.LV K
def qrF (c:PkC) (e:Ex) (n p:Int) (t t':List Evt):Prop:=∀(M:Mem) (x:qaa) (K:Value->Mem->Prop),ExR c.V e x->PI c t M->
 (∀M' to1,PI c t' M'->(0<=c.res e p->to1=c.res e p)->K (.tuple #[.int .i64 to1,.bool (decide (0<=c.res e p))]) M')->qcy c.ptr x n p M c.LV K
theorem qrJ (hc:c.Ok) {e:Ex} {n p:Int} {t1:List Evt} (hn0:0<=n) (hn1:n<c.tot) (h:qr9 c e n p t t1):qrF c e n p t (t1++[.node n p e]):=by
 intro M x K hR hP hK
 obtain⟨nil,hnil,hyes,hno⟩:=hc.node
 have atN:∀{far want M},PB c t1 far want M->At M c.pb (0+9) [c.nodeV]:=λh=>by
  obtain⟨la,lc,h1⟩:=h.at
  exact h1.part 9 [c.nodeV] rfl
 unfold qcy
 refine(qg0 _ _ _ _ _ _ _ (h M x _ hR hP λM' to1 far want hB hF hto=>⟨to1,_,rfl,c.pb,0,rfl,c.nodeV,atN hB,nil,hnil,λhn=>?_,λhn=>?_⟩)).mono (λg h=>.inl h) (λv M' _ h=>h)
 ·have hf:nil=false:=by simpa using hn
  refine⟨c.pb,0,rfl,c.nodeV,atN hB,(hno hf t1 n p e M' hn0 hn1 hB.j).mono (λb hb=>.inl (hc.jV b hb)) λv M2 hle2 ⟨hv,hJ⟩=>⟨hv,?_⟩⟩
  unfold qa4
  intro M3 hle
  exact hK M3 to1 ⟨far,want,hF,(hB.node hc (λb o hb hj=>hle2.keep b o hb hj) hJ).up hc hle⟩ hto
 ·have ht:nil=true:=by simpa using hn
  unfold qa4
  intro M2 hle
  have hB2:=hB.up hc hle
  exact hK M2 to1 ⟨far,want,hF,hB2.node hc (λb o hb _=>hb) (hyes ht t1 n p e M2 hB2.j)⟩ hto
end
end Go.Proofs.YtleaplmdgckmkaaGreatDoor.core
