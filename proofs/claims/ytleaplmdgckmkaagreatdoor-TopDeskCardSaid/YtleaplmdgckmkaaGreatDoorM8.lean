/- Contracts and what they hang on, of several parts. No condition. -/
import Derived.Test.YtleaplmdgckmkaaGreatDoorM7
import Derived.Lib.LaidU8
import Derived.Test.YtleaplmdgckmkaaGreatDoorM6
import Derived.Test.YtleaplmdgckmkaaGreatDoorM5
namespace Go.Proofs.YtleaplmdgckmkaaGreatDoor.core
open Go.Gx Go.RowKit Go.ChangeShapes Go.WideShapes Go.ChangeAt
set_option linter.unusedVariables false
def qfV (c:PkC) (L:List Ex) (n:Int):List Tr->List Evt->List Evt->Prop
 |[],t,t'=>t=t'
 |k::l,t,t'=>∃e t1,L[k.Kid.toNat]?=some e/\(qdy c.rs e->0<=k.At->k.At<=c.s.length->0<=n+qjq L k.Kid.toNat->n+qjq L k.Kid.toNat+cnt e<=c.tot->qrF c e (n+qjq L k.Kid.toNat) k.At t t1)/\qfV c L n l t1 t'
theorem PI.le {c:PkC} {t:List Evt} {M:Mem} (h:PI c t M):c.V.le M:=by obtain⟨_,_,_,h⟩:=h;exact h.le
section
variable {c:PkC} {e:Ex} {n p:Int} {t t1:List Evt}
theorem qku (hn1:n+cnt e<=c.tot) {i:Nat} {k:Ex} (hk:e.kids[i]?=some k):n+1+qjq e.kids i+cnt k<=c.tot:=by
 have:=qkj hk
 have:=qnB e
 omega
theorem qpS {i:Nat} {k:Ex} (hk:e.kids[i]?=some k):cnt k<=cnt e:=by
 have:=qkj hk
 have:=qnB e
 omega
theorem qtl (hc:c.Ok) (h5:e.kind=5) (hok:qdy c.rs e) (hp:0<=p) (hl:p<=c.s.length) (hn0:0<=n) (hn1:n+cnt e<=c.tot) (hch:qfV c e.kids (n+1) (qoC c.rs c.s c.E e p) t t1) {M:Mem} {x:qaa} {K:Value->Mem->Prop} (hR:ExR c.V e x) (hP:PI c t M)
  (hK:∀M' to1,PI c t1 M'->(0<=c.res e p->to1=c.res e p)->K (.tuple #[.int .i64 to1,.bool (decide (0<=c.res e p))]) M'):qcz c.ptr x n p M c.LV K:=by
 obtain⟨xs,hx⟩:=hR.open
 have hsm:=hc.small
 have hl8:=qtC hok.good
 have hres:c.res e p=qiG c.rs c.s c.E e.kids p:=by
  unfold PkC.res;rw[qeE,if_neg (by omega),if_neg (by omega),if_neg (by omega),if_neg (by omega),if_pos h5]
 unfold qoC at hch
 rw[if_pos h5]at hch
 unfold qcz
 refine⟨qar (by omega) (by omega),List Evt,λt' q k i M'=>0<=i/\i<=e.kids.length/\0<=q/\q<=c.s.length/\k=n+1+qjq e.kids i.toNat/\PI c t' M'/\qfV c e.kids (n+1) (qrN (qcr c.rs c.s c.E) (e.kids.drop i.toNat) i q) t' t1/\qiG c.rs c.s c.E (e.kids.drop i.toNat) q=c.res e p,λ_ _ _ i=>e.kids.length-i.toNat,t,
  ⟨by omega,by omega,hp,hl,by simp[qjq],hP,by simpa using hch,by rw[hres];rfl⟩,λt' q k i M' ⟨i0,i1,q0,q1,hkn,hP',hch',hrs⟩=>⟨λhlt=>?_,λhge=>?_⟩⟩
 ·rw[hx.len]at hlt
  obtain⟨ke,hk⟩:=getI (l:=e.kids) i0 hlt
  have hkm:=List.mem_of_getElem? hk
  obtain⟨b,o,y,ha,hat,hy,_⟩:=hx.kid hk
  rw[qaW hk,qrN]at hch'
  rw[qaW hk,qiG]at hrs
  obtain⟨e',t2,he',hT',hrest⟩:=hch'
  simp only at he' hT'
  rw[hk]at he';cases he'
  have hroom:=qku hn1 hk
  have hcnt:=qpS hk
  have hkr:c.res ke q= -1\/(q<=c.res ke q/\c.res ke q<=c.s.length):=hc.hT.res (hok.kid hkm) q0 q1
  have hT':=hT' (hok.kid hkm) q0 q1 (by omega) hroom
  rw[<-hkn]at hT'
  refine⟨b,o,ha,i0,by rw[hx.len];exact hlt,y,hat.le hP'.le,(qbS _ _ _ _ _ _ _ (hT' M' y _ hy hP' λM2 to1 hP2 hto=>⟨to1,_,rfl,λhno=>?_,λhyes=>?_⟩)).mono (λg h=>.inl h) (λv M' _ h=>h)⟩
  ·have h0:c.res ke q<0:=by simpa using hno
   rw[if_pos h0]at hrest hrs
   have hrest:t2=t1:=hrest
   subst hrest
   intro M3 hle
   have:=hK M3 0 (hP2.up hc hle) (λh=>by rw[<-hrs]at h;exact absurd h0 (Int.not_lt.2 h))
   rw[decide_eq_false (by rw[<-hrs];exact Int.not_le.2 h0)]at this
   exact this
  ·have h0:0<=c.res ke q:=by simpa using hyes
   rw[if_neg (Int.not_lt.2 h0)]at hrest hrs
   have hto:=hto h0
   subst hto
   refine(qeh _ _ _ _ (qiq _ ke (Nat.lt_succ_self _) (by omega) _ _ _ (hy.le hP2.le) λM3 hle3=>⟨_,rfl,?_,?_,t2,⟨by omega,by omega,h0,by omega,?_,hP2.up hc hle3,?_,?_⟩,?_⟩)).mono (λ_ h=>h.elim) (λv M' _ h=>h)
   ·exact qar (by omega) (by omega)
   ·exact qar (by omega) (by omega)
   ·rw[show(i+1).toNat=i.toNat+1 by omega,qg4 hk,hkn];push_cast;omega
   ·rw[show(i+1).toNat=i.toNat+1 by omega];exact hrest
   ·rw[show(i+1).toNat=i.toNat+1 by omega];exact hrs
   ·show e.kids.length-(i+1).toNat<e.kids.length-i.toNat
    omega
 ·rw[hx.len]at hge
  rw[List.drop_of_length_le (by omega),qrN]at hch'
  rw[List.drop_of_length_le (by omega),qiG]at hrs
  have hch':t'=t1:=hch'
  subst hch'
  intro M2 hle
  have:=hK M2 q (hP'.up hc hle) (λ_=>hrs)
  rw[decide_eq_true (by rw[<-hrs];exact q0)]at this
  exact this
theorem qkl {z p l:Int} (h:z= -1\/(p<=z/\z<=l)) (hp:0<=p):z≠-2:=by omega
theorem qpn (hc:c.Ok) (h7:7<=e.kind) (hok:qdy c.rs e) (hp:0<=p) (hl:p<=c.s.length) (hn0:0<=n) (hn1:n+cnt e<=c.tot) (hch:qfV c e.kids (n+1) (qoC c.rs c.s c.E e p) t t1) {M:Mem} {x:qaa} {K:Value->Mem->Prop} (hR:ExR c.V e x) (hP:PI c t M)
  (hK:∀M' to1,PI c t1 M'->(0<=c.res e p->to1=c.res e p)->K (.tuple #[.int .i64 to1,.bool (decide (0<=c.res e p))]) M'):qbR c.ptr x n p M c.LV K:=by
 obtain⟨xs,hx⟩:=hR.open
 have hsm:=hc.small
 obtain⟨g1,g2,g3,g4,g5,g6,_⟩:=qa8 hok.good.fit
 obtain⟨k,hk1⟩:=List.length_eq_one_iff.1 (g5 h7)
 have hk:e.kids[(0:Int).toNat]?=some k:=by rw[hk1];rfl
 have hkm:k∈e.kids:=by rw[hk1];simp
 obtain⟨b,o,y,ha,hat,hy,_⟩:=hx.kid hk
 have hroom:=qku hn1 hk
 have hp0:qjq e.kids (0:Int).toNat=0:=by simp[qjq]
 have hkr:c.res k p= -1\/(p<=c.res k p/\c.res k p<=c.s.length):=hc.hT.res (hok.kid hkm) hp hl
 have hhd:hdE c.rs c.s c.E e.kids=qcr c.rs c.s c.E k:=by rw[hk1];funext q;rw[hdE]
 have hres:c.res e p=if e.kind=7\/e.kind=8 then qik (qcr c.rs c.s c.E k) (decide (e.kind=8)) (c.s.length+2) p true else qnf e.kind p (c.res k p):=by
  unfold PkC.res;rw[qeE,if_neg (by omega),if_neg (by omega),if_neg (by omega),if_neg (by omega),if_neg (by omega),if_neg (by omega),hhd]
 have hkk:qoC c.rs c.s c.E e p=⟨0,p⟩::(if e.kind=7\/e.kind=8 then qpi (qcr c.rs c.s c.E k) (c.s.length+2) (c.res k p) else[]):=by
  unfold qoC
  rw[if_neg (by omega),if_neg (by omega)]
  by_cases h78:e.kind=7\/e.kind=8
  ·rw[if_pos h78,if_pos h78,qpi,if_neg (by omega),hhd]
  ·rw[if_neg h78,if_neg h78,if_pos (by omega)]
 rw[hkk]at hch
 obtain⟨e',t2,he',hT',hrest⟩:=hch
 simp only at he' hT'
 rw[hk]at he';cases he'
 have hT':=hT' (hok.kid hkm) hp hl (by omega) hroom
 have hone:∀q,(((n+1:Int)+(qjq e.kids (0:Int).toNat:Nat)))=n+1+q->q=0:=λq h=>by rw[hp0]at h;omega
 rw[hp0,show(n+1:Int)+((0:Nat):Int)=n+1 by omega]at hT'
 unfold qbR
 rw[hx.kind]
 have hkl:0<((x.Kids_l:Nat):Int):=by rw[hx.len,hk1];simp
 refine⟨b,o,ha,by omega,hkl,y,hat.le hP.le,qar (by omega) (by omega),(qbS _ _ _ _ _ _ _ (hT' M y _ hy hP λM2 to1 hP2 hto=>⟨to1,_,rfl,λk10=>?_,λn10=>⟨λk11=>?_,λn11=>⟨λhno=>?_,λhyes=>?_⟩⟩⟩)).mono (λg h=>.inl h) (λv M' _ h=>h)⟩
 ·rw[if_neg (by omega)]at hrest hres
  have hrest:t2=t1:=hrest
  subst hrest
  intro M3 hle
  unfold qnf at hres
  rw[if_neg (by omega),if_neg (by omega)]at hres
  have:=hK M3 p (hP2.up hc hle) (λh=>by split at hres<;>omega)
  rw[show decide (0<=c.res e p)=decide (0<=c.res k p) by rw[decide_eq_decide];split at hres<;>omega]at this
  exact this
 ·rw[if_neg (by omega)]at hrest hres
  have hrest:t2=t1:=hrest
  subst hrest
  intro M3 hle
  unfold qnf at hres
  rw[if_neg (by omega),if_neg (by omega)]at hres
  have:=hK M3 p (hP2.up hc hle) (λh=>by split at hres<;>omega)
  rw[show decide (0<=c.res e p)= !decide (0<=c.res k p) by rw[Bool.eq_iff_iff,Bool.not_eq_true',decide_eq_true_iff,decide_eq_false_iff_not];split at hres<;>omega]at this
  exact this
 ·have h0:c.res k p<0:=by simpa using hno
  intro M3 hle
  have hend:t2=t1:=by
   by_cases h78:e.kind=7\/e.kind=8
   ·rw[if_pos h78,qpi,if_pos h0]at hrest;exact hrest
   ·rw[if_neg h78]at hrest;exact hrest
  subst hend
  have hval:c.res e p=if e.kind=8 then c.res k p else p:=by
   rw[hres]
   by_cases h78:e.kind=7\/e.kind=8
   ·rw[if_pos h78,qik]
    by_cases h8:e.kind=8
    ·rw[if_pos (.inr ⟨h0,rfl,by simpa using h8⟩),if_pos h8]
    ·rw[if_neg (λh=>h.elim (qkl hkr hp) λh=>h8 (by simpa using h.2.2)),if_pos h0,if_neg h8]
   ·rw[if_neg h78,if_neg (by omega)]
    unfold qnf
    rw[if_neg (by omega),if_neg (by omega),if_neg (by omega)]
  have:=hK M3 p (hP2.up hc hle) (λh=>by split at hval<;>omega)
  rw[show decide (0<=c.res e p)=(e.kind != (8:Int)) by rw[Bool.eq_iff_iff,decide_eq_true_iff,bne_iff_ne];split at hval<;>omega]at this
  exact this
 ·have h0:0<=c.res k p:=by simpa using hyes
  have hto:=hto h0
  subst hto
  refine⟨List Evt×Nat,λg q M'=>0<=q/\q<=c.s.length/\PI c g.1 M'/\(e.kind=7\/e.kind=8->qfV c e.kids (n+1) (qpi (qcr c.rs c.s c.E k) (g.2+1) q) g.1 t1/\qik (qcr c.rs c.s c.E k) (decide (e.kind=8)) g.2 q false=c.res e p/\c.s.length+1<=q+g.2)/\(¬(e.kind=7\/e.kind=8)->g.1=t1/\q=c.res e p),λ_ q=>(c.s.length+1-q).toNat,(t2,c.s.length+1),
   ⟨h0,by omega,hP2,λh78=>⟨by rw[if_pos h78]at hrest;exact hrest,?_,?_⟩,λh78=>⟨by rw[if_neg h78]at hrest;exact hrest,?_⟩⟩,λg q M' ⟨q0,q1,hP',hl78,hl9⟩=>⟨λn9=>?_,λk9=>?_⟩⟩
  ·rw[if_pos h78,qik,if_neg (λh=>h.elim (qkl hkr hp) λh=>Int.not_lt.2 h0 h.1),if_neg (Int.not_lt.2 h0)]at hres
   exact hres.symm
  ·have:(e.kind=7\/e.kind=8):=h78
   have hem:=hok.star hk1 h78
   have hne:c.res k p≠p:=λh=>by
    have:=hc.hT.empty (hok.kid hkm) hp hl h
    rw[this]at hem;cases hem
   push_cast;omega
  ·rw[if_neg h78]at hres
   unfold qnf at hres
   rw[if_neg (by omega)]at hres
   by_cases h9:e.kind=9
   ·rw[if_pos ⟨h9,h0⟩]at hres;exact hres.symm
   ·omega
  ·have h78:e.kind=7\/e.kind=8:=by omega
   obtain⟨hch2,hst,hm⟩:=hl78 h78
   obtain⟨t3,m⟩:=g
   simp only at hch2 hst hm hP'
   have hem:=hok.star hk1 h78
   have hne:c.res k q≠q:=λh=>by
    have:=hc.hT.empty (hok.kid hkm) q0 q1 h
    rw[this]at hem;cases hem
   have hqr:c.res k q= -1\/(q<=c.res k q/\c.res k q<=c.s.length):=hc.hT.res (hok.kid hkm) q0 q1
   rw[qpi,if_neg (by omega)]at hch2
   obtain⟨e',t4,he',hT2,hrest2⟩:=hch2
   simp only at he' hT2
   rw[hk]at he';cases he'
   have hT2:=hT2 (hok.kid hkm) q0 q1 (by omega) hroom
   rw[hp0,show(n+1:Int)+((0:Nat):Int)=n+1 by omega]at hT2
   cases m with
   |zero=>omega
   |succ m=>
    rw[qik]at hst
    refine⟨b,o,ha,by omega,hkl,y,hat.le hP'.le,qar (by omega) (by omega),(qbS _ _ _ _ _ _ _ (hT2 M' y _ hy hP' λM3 to1 hP3 hto=>⟨to1,_,rfl,λhno=>?_,λhyes=>?_⟩)).mono (λg h=>.inl h) (λv M' _ h=>h)⟩
    ·have hq0:c.res k q<0:=by simpa using hno
     rw[qpi,if_pos hq0]at hrest2
     have hrest2:t4=t1:=hrest2
     subst hrest2
     rw[if_neg (λh=>h.elim (qkl hqr q0) λh=>by cases h.2.1),if_pos hq0]at hst
     unfold qaH
     intro M4 hle
     have:=hK M4 q (hP3.up hc hle) (λ_=>hst)
     rw[decide_eq_true (by rw[<-hst];exact q0)]at this
     exact this
    ·have hq0:0<=c.res k q:=by simpa using hyes
     have hto:=hto hq0
     subst hto
     rw[if_neg (λh=>h.elim (qkl hqr q0) λh=>Int.not_lt.2 hq0 h.1),if_neg (Int.not_lt.2 hq0)]at hst
     exact⟨(t4,m),⟨hq0,by omega,hP3,λ_=>⟨hrest2,hst,by push_cast at hm;omega⟩,λh=>absurd h78 h⟩,by show((c.s.length:Int)+1-c.res k q).toNat<((c.s.length:Int)+1-q).toNat;omega⟩
  ·have h9:e.kind=9:=by simpa using k9
   obtain⟨h1,h2⟩:=hl9 (by omega)
   unfold qaH
   intro M3 hle
   rw[h1]at hP'
   have:=hK M3 q (hP'.up hc hle) (λ_=>h2)
   rw[decide_eq_true (by rw[<-h2];exact q0)]at this
   exact this
end
end Go.Proofs.YtleaplmdgckmkaaGreatDoor.core
namespace Go.Proofs.YtleaplmdgckmkaaGreatDoor.core
open Go.Gx Go.RowKit Go.ChangeShapes Go.WideShapes Go.ChangeAt
set_option linter.unusedVariables false
theorem qr2:∀a b:List UInt8,cpl a b<=a.length/\cpl a b<=b.length
 |[],_=>by simp[cpl]
 |_::_,[]=>by simp[cpl]
 |x::a,y::b=>by
  have:=qr2 a b
  rw[cpl]
  split<;>simp<;>omega
theorem qnA:∀(a b:List UInt8) (k:Nat),k<cpl a b->a[k]?=b[k]?
 |[],_,k,h=>by simp[cpl]at h
 |_::_,[],k,h=>by simp[cpl]at h
 |x::a,y::b,k,h=>by
  rw[cpl]at h
  split at h
  ·rename_i hxy
   cases k with
   |zero=>simp[hxy]
   |succ k=>simpa using qnA a b k (by omega)
  ·omega
theorem qqj:∀(a b:List UInt8) (x:UInt8),a[cpl a b]?=some x->b[cpl a b]?≠some x
 |[],_,x,h=>by simp at h
 |_::_,[],x,h=>by simp
 |u::a,v::b,x,h=>by
  rw[cpl]at h ⊢
  split at h
  ·rename_i huv
   rw[if_pos huv]
   simp only[List.getElem?_cons_succ]at h ⊢
   exact qqj a b x h
  ·rename_i huv
   rw[if_neg huv]
   simp only[List.getElem?_cons_zero,Option.some.injEq]at h ⊢
   subst h;exact λh'=>huv (Option.some.inj h').symm
theorem qqk:∀(a b:List UInt8),cpl a b=b.length->b.length<=a.length/\a.take b.length=b
 |_,[],_=>by simp
 |[],_::_,h=>by simp[cpl]at h
 |u::a,v::b,h=>by
  rw[cpl]at h
  split at h
  ·rename_i huv
   have:=qqk a b (by simpa using h)
   subst huv
   simp only[List.length_cons,List.take_succ_cons]
   exact⟨by omega,by rw[this.2]⟩
  ·simp at h
theorem qlZ.as {far far' p:Int} {want want':qab} {f g:Nat->Bool} (h:qlZ far want p f far' want') (hfg:∀b,b<256->f b=g b):qlZ far want p g far' want':=
 ⟨h.1,h.2.1,λb hb=>by rw[h.2.2 b hb,hfg b hb]⟩
section
variable {c:PkC} {e:Ex} {n p:Int} {t t1:List Evt}
def qnR (c:PkC) (i p:Int) (t t':List Evt):Prop:=∀(M:Mem) (K:Value->Mem->Prop),PI c t M->(∀M',PI c t' M'->K (qhE (c.E p.toNat i.toNat) p).val M')->qbj c.ptr i p M c.LV K
theorem qpH (hc:c.Ok) (hok:qdy c.rs e) (hp:0<=p) (hl:p<=c.s.length) (hn0:0<=n) (hn1:n+cnt e<=c.tot) (h4:e.kind=4->qnR c (qbt e.text c.rs 0) p t t1) (hch:e.kind≠4->qfV c e.kids (n+1) (qoC c.rs c.s c.E e p) t t1):qr9 c e n p t t1:=by
 intro M x K hR hP hK
 obtain⟨xs,hx⟩:=hR.open
 have hsm:=hc.small
 have hs60:=hc.s60
 have hl8:=qtC hok.good
 obtain⟨g1,g2,g3,g4,g5,g6,_⟩:=qa8 hok.good.fit
 have fin:∀(M':Mem) (to1:Int) (b:Bool),PI c t1 M'->qeM c.rs c.s c.E (.node n p e)=none->b=decide (0<=c.res e p)->(0<=c.res e p->to1=c.res e p)->K (.tuple #[.int .i64 to1,.bool b]) M':=λM' to1 b ⟨far,want,hF,hB⟩ hm hb hto=>by
  rw[hb];exact hK M' to1 far want hB (hF.skip hm) hto
 have mnone:e.kind≠2->e.kind≠3->qeM c.rs c.s c.E (.node n p e)=none:=λh2 h3=>by
  rw[qeM,if_neg h2,if_neg h3];split<;>rfl
 have mpos:0<=c.res e p->qeM c.rs c.s c.E (.node n p e)=none:=λh=>by
  rw[qeM,if_neg (Int.not_lt.2 h)]
 have leaf:e.kind<=3->t=t1:=λh=>by
  have:=hch (by omega)
  unfold qoC at this
  rw[if_neg (by omega),if_neg (by omega),if_neg (show ¬(e.kind=7\/e.kind=8) by omega),if_neg (by omega)]at this
  exact this
 have atS:∀{t M},PI c t M->At M c.pb (0+1) [.string (mkS c.s)]:=λ⟨far,want,_,h⟩=>by
  obtain⟨la,lc,h1⟩:=h.at
  exact h1.part 1 [.string (mkS c.s)] rfl
 have atG:∀{t M},PI c t M->At M c.pb 0 [.slice c.ga c.gl c.gc]:=λ⟨far,want,_,h⟩=>by
  obtain⟨la,lc,h1⟩:=h.at
  exact h1.part 0 [.slice c.ga c.gl c.gc] rfl
 unfold qcc
 rw[hx.kind]
 refine⟨λk1 M2 hle=>?_,λn1=>?_⟩
 ·have ht:=leaf (by omega)
  subst ht
  have hr:c.res e p=p:=by unfold PkC.res;rw[qeE,if_pos k1]
  exact fin M2 p true (hP.up hc hle) (mpos (by rw[hr];exact hp)) (by rw[hr];exact(decide_eq_true hp).symm) λ_=>hr.symm
 refine⟨λk2=>?_,λn2=>?_⟩
 ·have ht:=leaf (by omega)
  subst ht
  have hr:c.res e p=qqB e.set c.s p:=by unfold PkC.res;rw[qeE,if_neg n1,if_pos k2]
  have j1:∀v:Bool,v=decide (0<=c.res e p)->(v=true->c.res e p=p+1)->qaT c.ptr x p M c.LV v K:=by
   intro v hv hv1
   unfold qaT
   refine⟨λht=>⟨qar (by omega) (by omega),λM2 hle=>fin M2 _ true (hP.up hc hle) (mpos (by rw[hv1 ht];omega)) (by rw[<-hv,ht]) λ_=>(hv1 ht).symm⟩,λhf=>?_⟩
   have hneg:¬0<=c.res e p:=λh=>hf (by rw[hv,decide_eq_true h])
   obtain⟨far,want,hF,hB⟩:=hP
   rw[hx.set]
   refine(qei _ _ _ _ _ _ (qpM hc hB hF.wf hx.hs λM2 far' want' hB2 hm=>⟨rfl,λM3 hle=>?_⟩)).mono (λg h=>.inl h) (λv M' _ h=>h)
   have:=hK M3 0 far' want' (hB2.up hc hle) (hF.miss hp (x:=.node n p e) (by rw[qeM,if_pos (Int.not_le.1 hneg),if_pos k2]) hm) λh=>absurd h hneg
   rw[decide_eq_false hneg]at this
   exact this
  refine⟨c.pb,0,rfl,c.s,atS hP,λhlt=>?_,λhge=>?_⟩
  ·obtain⟨d,hd⟩:=getI (l:=c.s) hp hlt
   unfold qqB at hr
   rw[hd]at hr
   simp only at hr
   rw[hx.set]
   refine⟨c.pb,0,rfl,c.s,atS hP,d,hp,hd,qk5 _ _ _ _ (qrT hx.hs d _ ⟨_,rfl,j1 _ ?_ λhb=>?_⟩)⟩
   ·rw[Bool.eq_iff_iff,decide_eq_true_iff]
    split at hr<;>rename_i hb<;>simp only[hb,hr]<;>simp<;>omega
   ·rw[if_pos hb]at hr;exact hr
  ·unfold qqB at hr
   rw[List.getElem?_eq_none (by omega)]at hr
   simp only at hr
   exact j1 _ (by rw[hr];rfl) λh=>by cases h
 refine⟨λk3=>?_,λn3=>?_⟩
 ·have ht:=leaf (by omega)
  subst ht
  have h12:=g6 k3
  have hr:c.res e p=qqC e.text c.s p:=by unfold PkC.res;rw[qeE,if_neg n1,if_neg n2,if_pos k3]
  rw[hx.text]
  refine⟨c.pb,0,rfl,c.s,atS hP,hp,hl,by omega,qcK _ _ _ _ (qpy _ _ _ ⟨_,rfl,λhyes=>⟨qar (by omega) (by omega),λM2 hle=>?_⟩,λhno=>?_⟩)⟩
  ·have hh:=of_decide_eq_true hyes
   rw[Int.toNat_natCast,List.take_length,List.length_drop]at hh
   have hr2:c.res e p=p+((e.text.length:Nat):Int):=by
    rw[hr];unfold qqC
    rw[if_pos ⟨by omega,by rw[List.drop_take,show(p+((e.text.length:Nat):Int)).toNat-p.toNat=e.text.length by omega];exact hh.2⟩]
   exact fin M2 _ true (hP.up hc hle) (mpos (by rw[hr2];omega)) (by rw[hr2];exact(decide_eq_true (by omega)).symm) λ_=>hr2.symm
  ·have hh:¬(e.text.length<=(c.s.drop p.toNat).length/\(c.s.drop p.toNat).take e.text.length=e.text):=by
    intro h
    apply hno
    rw[Int.toNat_natCast,List.take_length,decide_eq_true h]
   have hneg:c.res e p= -1:=by
    rw[hr];unfold qqC
    rw[if_neg]
    rintro⟨h1,h2⟩
    rw[List.drop_take,show(p+((e.text.length:Nat):Int)).toNat-p.toNat=e.text.length by omega]at h2
    exact hh ⟨by rw[List.length_drop];omega,h2⟩
   obtain⟨cl1,cl2⟩:=qr2 (c.s.drop p.toNat) e.text
   have hlt:cpl (c.s.drop p.toNat) e.text<e.text.length:=by
    rcases Nat.lt_or_ge (cpl (c.s.drop p.toNat) e.text) e.text.length with h|h
    ·exact h
    ·exact absurd (qqk _ _ (by omega)) hh
   have hme:qeM c.rs c.s c.E (.node n p e)=some (p+(cpl (c.s.drop p.toNat) e.text:Nat),λb=>decide ((e.text[cpl (c.s.drop p.toNat) e.text]?).map UInt8.toNat=some b)):=by
    rw[qeM,if_pos (show c.res e p<0 by rw[hneg];omega),if_neg n2,if_pos k3]
   have hsame:=qnA (c.s.drop p.toNat) e.text
   have hend:=qqj (c.s.drop p.toNat) e.text
   rw[List.length_drop]at cl1
   generalize hC:cpl (c.s.drop p.toNat) e.text=C at hlt hme hsame hend cl1 cl2
   have j2:∀(k:Int) (v:Bool),0<=k->k<=C->(v=true->k+1<=C)->(v=false->k=C)->qaS c.ptr x p M c.LV k (λk=>0<=k/\k<=C) (λk=>C-k.toNat) v K:=by
    intro k v k0 k1 hv1 hv2
    unfold qaS
    refine⟨λht=>⟨qar (by omega) (by omega),⟨by omega,by have:=hv1 ht;omega⟩,by have:=hv1 ht;show C-(k+1).toNat<C-k.toNat;omega⟩,λhf=>?_⟩
    have hkC:=hv2 (by simpa using hf)
    subst hkC
    obtain⟨d,hd⟩:=qgo (l:=e.text) hlt
    have hd':e.text[((C:Nat):Int).toNat]?=some d:=by rw[Int.toNat_natCast];exact hd
    obtain⟨far,want,hF,hB⟩:=hP
    rw[hx.text]
    refine⟨qar (by omega) (by omega),d,k0,hd',d,k0,hd',?_⟩
    rw[u8wF]
    refine qe0 _ _ _ _ (qim _ _ _ ⟨_,rfl,(qei _ _ _ _ _ _ (qpM hc hB hF.wf (qmK _) λM2 far' want' hB2 hm=>⟨rfl,λM3 hle=>?_⟩)).mono (λg h=>.inl h) (λv M' _ h=>h)⟩)
    have:=hK M3 0 far' want' (hB2.up hc hle) (hF.miss (by omega) hme (hm.as λb hb=>?_)) λh=>by rw[hneg]at h;omega
    ·rw[decide_eq_false (by rw[hneg];omega)]at this
     exact this
    ·rw[qi6 hb,hd]
     unfold inR
     rw[Option.map_some,decide_eq_decide]
     simp only[Option.some.injEq]
     omega
   refine⟨λk=>0<=k/\k<=C,λk=>C-k.toNat,⟨by omega,by omega⟩,λk ⟨k0,k1⟩=>⟨qar (by omega) (by omega),c.pb,0,rfl,c.s,atS hP,λhlt2=>?_,λhge2=>?_⟩⟩
   ·obtain⟨a1,ha1⟩:=getI (l:=c.s) (i:=p+k) (by omega) hlt2
    obtain⟨a2,ha2⟩:=getI (l:=e.text) (i:=k) k0 (by omega)
    have hdr:(c.s.drop p.toNat)[k.toNat]?=some a1:=by rw[List.getElem?_drop,<-ha1];congr 1;omega
    refine⟨c.pb,0,rfl,c.s,atS hP,qar (by omega) (by omega),a1,by omega,ha1,a2,k0,ha2,j2 k _ k0 k1 (λhv=>?_) λhv=>?_⟩
    ·have hEq:a1=a2:=by
      have:=beq_iff_eq.1 hv
      exact UInt8.toNat_inj.1 (by omega)
     by_cases h:k<C
     ·omega
     ·exfalso
      have hkC:k.toNat=C:=by omega
      rw[hkC]at hdr ha2
      exact hend a1 hdr (by rw[ha2,hEq])
    ·by_cases h:k<C
     ·exfalso
      have:=hsame k.toNat (by omega)
      rw[hdr,ha2]at this
      have:a1=a2:=Option.some.inj this
      rw[this]at hv
      simp at hv
     ·omega
   ·exact j2 k false k0 k1 (λh=>by cases h) λ_=>by omega
 refine⟨λk4=>?_,λn4=>?_⟩
 ·have hf0:=hok.good.ref k4
  obtain⟨hf1,hf2⟩:=qdK hf0
  have hr:c.res e p=c.E p.toNat (qbt e.text c.rs 0).toNat:=by unfold PkC.res;rw[qeE,if_neg n1,if_neg n2,if_neg n3,if_pos k4]
  have hrr:c.res e p= -1\/(p<=c.res e p/\c.res e p<=c.s.length):=hc.hT.res hok hp hl
  rw[hx.text]
  refine⟨c.pb,0,rfl,_,_,_,atG hP,qd5 _ _ _ _ _ _ (qi3 (hc.gr.le hP.le) e.text _ ⟨_,rfl,(qej _ _ _ _ _ _ (h4 k4 M _ hP λM2 hP2=>⟨_,rfl,?_⟩)).mono (λg h=>.inl h) (λv M' _ h=>h)⟩)⟩
  unfold qbI
  rw[<-hr]
  unfold qhE
  by_cases h0:0<=c.res e p
  ·rw[if_pos h0]
   show InI (p+(c.res e p-p))/\∀M',M2.le M'->K (.tuple #[.int .i64 (p+(c.res e p-p)),.bool true]) M'
   exact⟨qar (by omega) (by omega),λM3 hle=>fin M3 _ true (hP2.up hc hle) (mpos h0) (decide_eq_true h0).symm λ_=>by omega⟩
  ·rw[if_neg h0]
   show InI (p+0)/\∀M',M2.le M'->K (.tuple #[.int .i64 (p+0),.bool false]) M'
   exact⟨qar (by omega) (by omega),λM3 hle=>fin M3 _ false (hP2.up hc hle) (mnone n2 n3) (decide_eq_false h0).symm λh=>absurd h h0⟩
 refine⟨λk5=>?_,λn5=>?_⟩
 ·refine(qhA _ _ _ _ _ _ _ (qtl hc k5 hok hp hl hn0 hn1 (hch n4) hR hP λM2 to1 hP2 hto=>⟨to1,_,rfl,λM3 hle=>fin M3 to1 _ (hP2.up hc hle) (mnone n2 n3) rfl hto⟩)).mono (λg h=>.inl h) (λv M' _ h=>h)
 refine⟨λk6=>?_,λn6=>?_⟩
 ·have hres:c.res e p=qi8 c.rs c.s c.E e.kids p:=by
   unfold PkC.res;rw[qeE,if_neg n1,if_neg n2,if_neg n3,if_neg n4,if_neg n5,if_pos k6]
  have hch:=hch n4
  unfold qoC at hch
  rw[if_neg n5,if_pos k6]at hch
  refine⟨qar (by omega) (by omega),List Evt,λt' k i M'=>0<=i/\i<=e.kids.length/\k=n+1+qjq e.kids i.toNat/\PI c t' M'/\qfV c e.kids (n+1) (qr6 (qcr c.rs c.s c.E) (e.kids.drop i.toNat) i p) t' t1/\qi8 c.rs c.s c.E (e.kids.drop i.toNat) p=c.res e p,λ_ _ i=>e.kids.length-i.toNat,t,
   ⟨by omega,by omega,by simp[qjq],hP,by simpa using hch,by rw[hres];rfl⟩,λt' k i M' ⟨i0,i1,hkn,hP',hch',hrs⟩=>⟨λhlt=>?_,λhge=>?_⟩⟩
  ·rw[hx.len]at hlt
   obtain⟨ke,hk⟩:=getI (l:=e.kids) i0 hlt
   have hkm:=List.mem_of_getElem? hk
   obtain⟨b,o,y,ha,hat,hy,_⟩:=hx.kid hk
   rw[qaW hk,qr6]at hch'
   rw[qaW hk,qi8]at hrs
   obtain⟨e',t2,he',hT',hrest⟩:=hch'
   simp only at he' hT'
   rw[hk]at he';cases he'
   have hroom:=qku hn1 hk
   have hcnt:=qpS hk
   have hkr:c.res ke p= -1\/(p<=c.res ke p/\c.res ke p<=c.s.length):=hc.hT.res (hok.kid hkm) hp hl
   have hT':=hT' (hok.kid hkm) hp hl (by omega) hroom
   rw[<-hkn]at hT'
   refine⟨b,o,ha,i0,by rw[hx.len];exact hlt,y,hat.le hP'.le,(qbS _ _ _ _ _ _ _ (hT' M' y _ hy hP' λM2 to1 hP2 hto=>⟨to1,_,rfl,λhyes=>?_,λhno=>?_⟩)).mono (λg h=>.inl h) (λv M' _ h=>h)⟩
   ·have h0:0<=c.res ke p:=by simpa using hyes
    rw[if_neg (Int.not_lt.2 h0)]at hrest
    have hne:c.res ke p≠-1:=by omega
    rw[if_pos hne]at hrs
    have hrest:t2=t1:=hrest
    subst hrest
    have hto:=hto h0
    subst hto
    have hrs:c.res ke p=c.res e p:=hrs
    intro M3 hle
    rw[hrs]
    exact fin M3 _ true (hP2.up hc hle) (mnone n2 n3) (by rw[<-hrs];exact(decide_eq_true h0).symm) λ_=>rfl
   ·have h0:c.res ke p<0:=by simpa using hno
    rw[if_pos h0]at hrest
    have hne:¬c.res ke p≠-1:=by omega
    rw[if_neg hne]at hrs
    refine(qeh _ _ _ _ (qiq _ ke (Nat.lt_succ_self _) (by omega) _ _ _ (hy.le hP2.le) λM3 hle3=>⟨_,rfl,?_,?_,t2,⟨by omega,by omega,?_,hP2.up hc hle3,?_,?_⟩,?_⟩)).mono (λ_ h=>h.elim) (λv M' _ h=>h)
    ·exact qar (by omega) (by omega)
    ·exact qar (by omega) (by omega)
    ·rw[show(i+1).toNat=i.toNat+1 by omega,qg4 hk,hkn];push_cast;omega
    ·rw[show(i+1).toNat=i.toNat+1 by omega];exact hrest
    ·rw[show(i+1).toNat=i.toNat+1 by omega];exact hrs
    ·show e.kids.length-(i+1).toNat<e.kids.length-i.toNat
     omega
  ·rw[hx.len]at hge
   rw[List.drop_of_length_le (by omega),qr6]at hch'
   rw[List.drop_of_length_le (by omega),qi8]at hrs
   have hch':t'=t1:=hch'
   subst hch'
   intro M2 hle
   exact fin M2 0 false (hP'.up hc hle) (mnone n2 n3) (by rw[<-hrs];rfl) λh=>by rw[<-hrs]at h;omega
 ·refine(qge _ _ _ _ _ _ _ (qpn hc (by omega) hok hp hl hn0 hn1 (hch n4) hR hP λM2 to1 hP2 hto=>⟨to1,_,rfl,λM3 hle=>fin M3 to1 _ (hP2.up hc hle) (mnone n2 n3) rfl hto⟩)).mono (λg h=>.inl h) (λv M' _ h=>h)
end
end Go.Proofs.YtleaplmdgckmkaaGreatDoor.core
namespace Go.Proofs.YtleaplmdgckmkaaGreatDoor.core
open Go.Gx Go.RowKit Go.ChangeShapes Go.WideShapes Go.ChangeAt
set_option linter.unusedVariables false
def qut (rs:List Ru) (s:List UInt8) (E:Nat->Nat->Int):Job->Prop
 | .node e _ p=>qdy rs e/\0<=p/\p<=s.length
 | .rule i p=>0<=i/\i<rs.length/\0<=p/\p<=s.length
 | .kids L _ l=>∃(e:Ex) (p:Int),L=e.kids/\qdy rs e/\0<=p/\p<=s.length/\∀k∈l,k∈qoC rs s E e p
def LowE (rs:List Ru) (st:Nat->Nat) (e:Ex) (p i q:Int):Prop:=p<q\/(q=p/\∃j∈qb4 rs (qc3 rs) e,st i.toNat<=st j)
def LowJ (rs:List Ru) (st:Nat->Nat):Job->Int->Int->Prop
 | .node e _ p,i,q=>LowE rs st e p i q
 | .rule k p,i,q=>p<q\/(q=p/\st i.toNat<=st k.toNat)
 | .kids L _ l,i,q=>∃k∈l,∃e,L[k.Kid.toNat]?=some e/\LowE rs st e k.At i q
theorem qrs {rs:List Ru} {s:List UInt8} {E:Nat->Nat->Int} (hw:qcU rs) (hT:Tab rs s E) {st:Nat->Nat} (hst:∀(i:Nat) r,rs[i]?=some r->∀j∈qb4 rs (qc3 rs) r.body,st j<st i) {j:Job} {t t1:List Evt} (h:qkL rs s E j t t1):
  qut rs s E j->∀i q,Evt.done i q∈t1->Evt.done i q∈t\/LowJ rs st j i q:=by
 induction h with
 | @ref e n p t t' h4 _ ih=>
  intro ⟨hok,hp,hl⟩ i q hd
  have hf:=hok.good.ref h4
  obtain⟨f1,f2⟩:=qdK hf
  rcases ih ⟨hf,f2,hp,hl⟩ i q (by simpa using hd)with h|h|⟨h1,h2⟩
  ·exact .inl h
  ·exact .inr (.inl h)
  ·exact .inr (.inr ⟨h1,_,by rw[qdt,if_pos h4];simp,h2⟩)
 | @inner e n p t t' h4 _ ih=>
  intro ⟨hok,hp,hl⟩ i q hd
  rcases ih ⟨e,p,rfl,hok,hp,hl,λk hk=>hk⟩ i q (by simpa using hd)with h|⟨k,hk,x,hx,h⟩
  ·exact .inl h
  ·obtain⟨_,_,x',hx',htr,hpk,hnd⟩:=qmx hT hok hp hl k hk
   rw[hx]at hx';cases hx'
   rcases h with h|⟨h1,j0,h2,h3⟩
   ·exact .inr (.inl (by omega))
   ·by_cases he:k.At=p
    ·exact .inr (.inr ⟨by omega,j0,hnd he j0 h2,h3⟩)
    ·exact .inr (.inl (by omega))
 |seen _=>exact λ_ i q hd=>.inl hd
 | @rule k p r t t' hn hr _ ih=>
  intro ⟨hk,hk2,hp,hl⟩ i q hd
  rcases List.mem_append.1 hd with hd|hd
  ·rcases ih ⟨hw.peg (List.mem_of_getElem? hr),hp,hl⟩ i q hd with h|h|⟨h1,j0,h2,h3⟩
   ·exact .inl h
   ·exact .inr (.inl h)
   ·exact .inr (.inr ⟨h1,Nat.le_of_lt (Nat.lt_of_le_of_lt h3 (hst _ r hr j0 h2))⟩)
  ·simp only[List.mem_singleton,Evt.done.injEq]at hd
   obtain⟨rfl,rfl⟩:=hd
   exact .inr (.inr ⟨rfl,Nat.le_refl _⟩)
 |nil=>exact λ_ i q hd=>.inl hd
 | @cons L n k l x t ta tb he _ _ ih1 ih2=>
  intro ⟨e,p,hL,hok,hp,hl,hks⟩ i q hd
  obtain⟨_,hk1,x',hx',htr⟩:=qmx hT hok hp hl k (hks k (by simp))
  rw[<-hL,he]at hx';cases hx'
  rcases ih2 ⟨e,p,hL,hok,hp,hl,λy hy=>hks y (by simp[hy])⟩ i q hd with h|⟨y,hy,r,hr,h⟩
  ·rcases ih1 ⟨hok.kid htr.1,by have:=htr.2.1;omega,hk1⟩ i q h with h|h
   ·exact .inl h
   ·exact .inr ⟨k,by simp,x,he,h⟩
  ·exact .inr ⟨y,by simp[hy],r,hr,h⟩
theorem qrr {rs:List Ru} {s:List UInt8} {E:Nat->Nat->Int} (hw:qcU rs) (hT:Tab rs s E) {i p n:Int} {r:Ru} (hr:rs[i.toNat]?=some r) (hp:0<=p) (hl:p<=s.length) {t t1:List Evt} (h:qkL rs s E (.node r.body n p) t t1) (hn:Evt.done i p∉t):Evt.done i p∉t1:=by
 obtain⟨st,_,hst⟩:=hw.stage
 intro hd
 rcases qrs hw hT hst h ⟨hw.peg (List.mem_of_getElem? hr),hp,hl⟩ i p hd with h|h|⟨_,j,h1,h2⟩
 ·exact hn h
 ·omega
 ·have:=hst _ r hr j h1;omega
end Go.Proofs.YtleaplmdgckmkaaGreatDoor.core
namespace Go.Proofs.YtleaplmdgckmkaaGreatDoor.core
open Go.Gx Go.RowKit Go.ChangeShapes Go.WideShapes Go.ChangeAt
set_option linter.unusedVariables false
section
variable {c:PkC} {t t1:List Evt} {i p:Int}
theorem qsr (hc:c.Ok) (hi:0<=i) {rr:Ru} (hr:c.rs[i.toNat]?=some rr) (hp:0<=p) (hl:p<=c.s.length) (hn:Evt.done i p∉t) (hn1:Evt.done i p∉t1) (hT:qrF c rr.body (qmB c.rs i.toNat) p t t1):qnR c i p t (t1++[.done i p]):=by
 intro M K hP hK
 have hlt:=(List.getElem?_eq_some_iff.1 hr).1
 have hgl:=hc.gr.len
 have h10:=hc.hw.ok.ten
 have hs60:=hc.s60
 have hok:=hc.hw.peg (List.mem_of_getElem? hr)
 have hE:c.E p.toNat i.toNat=c.res rr.body p:=by
  have:=hc.hT.fix p.toNat i.toNat rr (by omega) hr
  rw[show((p.toNat:Nat):Int)=p by omega]at this
  exact this
 have hrr:c.res rr.body p= -1\/(p<=c.res rr.body p/\c.res rr.body p<=c.s.length):=hc.hT.res hok hp hl
 obtain⟨b2,o2,ha2,hat2⟩:=hc.fst i.toNat hlt
 obtain⟨r2,x2,b3,o3,hr2,ha3,hat3,hrr3⟩:=hc.gr.at hi (by omega)
 rw[hr]at hr2;cases hr2
 have atK:∀{t far want M},PB c t far want M->∃la lc,M c.pb=some (.cells (c.cells la (qcL c.E t).length lc far want).toArray 96 (0,0))/\At M c.pb (0+2) [.map (some c.r)]/\At M c.pb 0 [.slice c.ga c.gl c.gc]/\At M c.pb (0+10) [.slice c.fa c.rs.length c.fc]/\At M c.pb (0+3) [.slice la (qcL c.E t).length lc]/\qjg M 134 4 la (qcL c.E t).length lc (cl qaz.cells (qcL c.E t))/\∀g,la=some ⟨g,0,none⟩->c.V g=none/\¬c.JB g/\g≠c.pb/\g≠c.r:=λh=>by
  obtain⟨la,lc,h1,h2,h3⟩:=h.bk
  have h0:=At.blk h1
  exact⟨la,lc,h1,h0.part 2 [.map (some c.r)] rfl,h0.part 0 [.slice c.ga c.gl c.gc] rfl,h0.part 10 [.slice c.fa c.rs.length c.fc] rfl,h0.part 3 [.slice la _ lc] rfl,h2,h3⟩
 obtain⟨far,want,hF,hB⟩:=id hP
 obtain⟨la,lc,hblk,a1,a2,a3,a4,hrow,hla⟩:=atK hB
 obtain⟨f,hf,hfd⟩:=hB.mp
 have hnone:f i p=none:=by
  cases hv:f i p with
  |none=>rfl
  |some v=>exact absurd ((hfd i p v).1 hv).1 hn
 unfold qbj
 rw[show c.gl=c.rs.length from hgl]at*
 refine⟨c.pb,0,rfl,_,a1,c.r,f,rfl,hf,qar (by omega) (by omega),qar (by omega) (by omega),⟨false,0⟩,by rw[hnone];rfl,λh=>(by rw[hnone]at h;cases h),λ_=>?_⟩
 refine⟨c.pb,0,rfl,_,_,_,a2,b3,o3,ha3,hi,by omega,x2.Body,(hat3.part 1 x2.Body.cells rfl).le hB.le,c.pb,0,rfl,_,_,_,a3,b2,o2,ha2,hi,by omega,_,hat2.le hB.le,?_⟩
 refine(qbS _ _ _ _ _ _ _ (hT M x2.Body _ hrr3.2.2 hP λM2 to1 hP2 hto=>⟨to1,_,rfl,?_⟩)).mono (λg h=>.inl h) (λv M' _ h=>h)
 have j1:∀(ok:Bool) (N:Int),qah.mk ok N=qhE (c.E p.toNat i.toNat) p->qaV c.ptr i p M c.LV ok M2 N K:=by
  intro ok N hout
  obtain⟨far,want,hF,hB⟩:=hP2
  obtain⟨la,lc,hblk,a1,a2,a3,a4,hrow,hla⟩:=atK hB
  obtain⟨f,hf,hfd⟩:=hB.mp
  unfold qaV
  rw[hout]
  refine⟨c.pb,0,rfl,_,a1,c.r,f,rfl,hf,qar (by omega) (by omega),qar (by omega) (by omega),.inl hc.rV,λM39 hS=>?_⟩
  have hne39:∀b,b≠c.r->M39 b=M2 b:=λb hb=>hS.ne hb
  have hblk39:M39 c.pb=_:=(hne39 _ hc.pr).trans hblk
  have hrow39:=hrow.same (M':=M39) λg o hg ho=>by rw[hne39 g (hla g hg).2.2.2];exact ho
  have hbound:=hB.room hc
  refine⟨c.pb,0,rfl,la,(qcL c.E t1).length,lc,(At.blk hblk39).part 3 [.slice la _ lc] rfl,λu hu=>qt6 ⟨i,p,qhE (c.E p.toNat i.toNat) p⟩ u hu,_,hrow39,λg hg=>.inl (hla g hg).1,by omega,λM49 ad50 cap51 hA=>?_⟩
  have h49pb:M49 c.pb=_:=hA.keep _ _ hblk39 λg hg e=>(hla g hg).2.2.1 e.symm
  refine⟨c.pb,0,rfl,Has.blk h49pb (by show 0+3+1<=11;omega),.inl hc.pbV,λM54 hM54 M3 hle=>?_⟩
  refine hK M3 ⟨far,want,hF.skip rfl,PB.up hc ?_ hle⟩
  have hne54:∀b,b≠c.pb->M54 b=M49 b:=λb hb=>by rw[hM54];exact Mem.put_ne hb
  have hold:∀b o,M2 b=some o->b≠c.r->b≠c.pb->(∀g,la=some ⟨g,0,none⟩->b≠g)->M54 b=some o:=λb o ho h1 h2 h3=>by
   rw[hne54 b h2];exact hA.keep b o (by rw[hne39 b h1];exact ho) h3
  have hcells:cl qaz.cells (qcL c.E t1)++(qaz.mk i p (qhE (c.E p.toNat i.toNat) p)).cells=cl qaz.cells (qcL c.E (t1++[.done i p])):=by rw[qhH];exact qhS _ _
  have hlen:(qcL c.E (t1++[.done i p])).length=(qcL c.E t1).length+1:=by rw[qhH,List.length_append];rfl
  have hblkg:∀g,ad50=some ⟨g,0,none⟩->c.V g=none/\¬c.JB g/\g≠c.pb/\g≠c.r:=λg hg=>by
   rcases hA.blk g hg with h|h
   ·exact hla g h
   ·refine⟨?_,λhj=>?_,λe=>?_,λe=>?_⟩
    ·cases hv:c.V g with
     |none=>rfl
     |some o=>
      have:=hB.le g o hv
      rw[<-hne39 g (λe=>by rw[e,hc.rV]at hv;cases hv),h]at this;cases this
    ·have:=hc.has _ _ hB.j g hj
     rw[<-hne39 g (λe=>hc.jr (e▸hj)),h]at this;cases this
    ·rw[e,hblk39]at h;cases h
    ·obtain⟨o,hM39,hsome,_⟩:=hS
     rw[e,hM39,Mem.add_eq]at h;cases h
  refine⟨λb o ho=>?_,⟨ad50,cap51,?_,?_,hblkg⟩,?_,hc.done _ _ _ _ (hc.frame _ _ _ hB.j λb hb=>?_),?_,λa b hab=>?_⟩
  ·exact hold b o (hB.le b o ho) (λe=>by rw[e,hc.rV]at ho;cases ho) (λe=>by rw[e,hc.pbV]at ho;cases ho) λg hg e=>by rw[e,(hla g hg).1]at ho;cases ho
  ·rw[hM54,Mem.put_eq h49pb,hlen];rfl
  ·rw[hlen,<-hcells]
   exact hA.row.same λg o hg ho=>by rw[hne54 g (hblkg g hg).2.2.1];exact ho
  ·obtain⟨o,hM39,hsome,hset⟩:=hS
   have hm39:M39 c.r=some o:=by rw[hM39];exact Mem.add_eq
   have hr54:M54 c.r=M39 c.r:=by
    rw[hne54 _ hc.pr.symm,hm39]
    exact hA.keep _ _ hm39 λg hg e=>(hla g hg).2.2.2 e.symm
   obtain⟨es,clk,h4,h5⟩:=hset f (λa b=>if a=i/\b=p then some (qhE (c.E p.toNat i.toNat) p).val else f a b) hf (by simp) (λa b hab=>by rw[if_neg hab])
   refine⟨_,⟨es,clk,hr54.trans h4,h5⟩,λa b v=>?_⟩
   by_cases hab:a=i/\b=p
   ·rw[if_pos hab]
    obtain⟨rfl,rfl⟩:=hab
    exact⟨λh=>⟨by simp,(Option.some.inj h).symm⟩,λh=>by rw[h.2]⟩
   ·rw[if_neg hab,hfd a b v]
    refine and_congr_left λ_=>⟨λh=>by simp[h],λh=>?_⟩
    rcases List.mem_append.1 h with h|h
    ·exact h
    ·simp only[List.mem_singleton,Evt.done.injEq]at h;exact absurd h hab
  ·have:=hc.has _ _ hB.j b hb
   obtain⟨o,ho⟩:=Option.isSome_iff_exists.1 this
   rw[ho]
   exact hold b o ho (λe=>hc.jr (e▸hb)) (λe=>hc.jpb (e▸hb)) λg hg e=>(hla g hg).2.1 (e▸hb)
  ·rw[qhH,List.map_append,List.nodup_append]
   refine⟨hB.ks.1,by simp,λa ha b hb=>?_⟩
   obtain⟨y,hy,rfl⟩:=List.mem_map.1 ha
   obtain⟨hy1,_⟩:=qlq.1 hy
   have hk:=hB.ks.2 _ _ hy1
   simp only[List.map_cons,List.map_nil,List.mem_singleton]at hb
   subst hb
   unfold quh
   intro e
   have e1:y.Rule=i:=by simp only at e;omega
   have e2:y.At=p:=by simp only at e;omega
   rw[e1,e2]at hy1
   exact hn1 hy1
  ·rcases List.mem_append.1 hab with h|h
   ·exact hB.ks.2 a b h
   ·simp only[List.mem_singleton,Evt.done.injEq]at h
    obtain⟨rfl,rfl⟩:=h
    exact⟨hi,by omega,hp,hl⟩
 refine⟨λhyes=>⟨?_,j1 _ _ ?_⟩,λhno=>j1 _ _ ?_⟩
 ·have h0:0<=c.res rr.body p:=by simpa using hyes
  rw[hto h0]
  exact qar (by omega) (by omega)
 ·have h0:0<=c.res rr.body p:=by simpa using hyes
  rw[hto h0,hE,decide_eq_true h0]
  unfold qhE
  rw[if_pos h0]
 ·have h0:¬0<=c.res rr.body p:=λh=>hno (decide_eq_true h)
  rw[hE,decide_eq_false h0]
  unfold qhE
  rw[if_neg h0]
end
theorem qpr {c:PkC} {t:List Evt} {i p:Int} (hc:c.Ok) (hd:Evt.done i p∈t):qnR c i p t t:=by
 intro M K hP hK
 obtain⟨far,want,hF,hB⟩:=id hP
 obtain⟨la,lc,h1⟩:=hB.at
 obtain⟨f,hf,hfd⟩:=hB.mp
 obtain⟨k1,k2,k3,k4⟩:=hB.ks.2 i p hd
 have h10:=hc.hw.ok.ten
 have hs60:=hc.s60
 have hv:=(hfd i p _).2 ⟨hd,rfl⟩
 unfold qbj
 refine⟨c.pb,0,rfl,_,h1.part 2 [.map (some c.r)] rfl,c.r,f,rfl,hf,qar (by omega) (by omega),qar (by omega) (by omega),qhE (c.E p.toNat i.toNat) p,by rw[hv];rfl,λ_ M2 hle=>hK M2 (hP.up hc hle),λhn=>absurd (by rw[hv];rfl) hn⟩
def qt3 (c:PkC):Job->List Evt->List Evt->Prop
 | .node e n p,t,t'=>qdy c.rs e->0<=p->p<=c.s.length->0<=n->n+cnt e<=c.tot->qrF c e n p t t'
 | .rule i p,t,t'=>0<=i->i<c.rs.length->0<=p->p<=c.s.length->qnR c i p t t'
 | .kids L n l,t,t'=>qfV c L n l t t'
theorem qlg {c:PkC} (hc:c.Ok) {j:Job} {t t':List Evt} (h:qkL c.rs c.s c.E j t t'):qt3 c j t t':=by
 induction h with
 | @ref e n p t t' h4 _ ih=>
  intro hok hp hl hn0 hn1
  have hf:=hok.good.ref h4
  obtain⟨f1,f2⟩:=qdK hf
  exact qrJ hc hn0 (by have:=qmG e;omega) (qpH hc hok hp hl hn0 hn1 (λ_=>ih hf f2 hp hl) λn4=>absurd h4 n4)
 | @inner e n p t t' h4 _ ih=>
  intro hok hp hl hn0 hn1
  exact qrJ hc hn0 (by have:=qmG e;omega) (qpH hc hok hp hl hn0 hn1 (λk4=>absurd k4 h4) λ_=>ih)
 |seen h=>exact λ_ _ _ _=>qpr hc h
 | @rule i p r t t' hn hr hg ih=>
  intro hi hi2 hp hl
  have hsum:=qlz hr
  have htot:=hc.tot
  exact qsr hc hi hr hp hl hn (qrr hc.hw hc.hT hr hp hl hg hn) (ih (hc.hw.peg (List.mem_of_getElem? hr)) hp hl (by omega) (by omega))
 |nil=>rfl
 |cons he _ _ ih1 ih2=>exact⟨_,_,he,ih1,ih2⟩
theorem qq4 {c:PkC} (hc:c.Ok) {i p:Int} (hi:0<=i) (hi2:i<c.rs.length) (hp:0<=p) (hl:p<=c.s.length) {t:List Evt} {M:Mem} {K:Value->Mem->Prop} (hP:PI c t M) (hK:∀M' t',qkL c.rs c.s c.E (.rule i p) t t'->PI c t' M'->K (qhE (c.E p.toNat i.toNat) p).val M'):qbj c.ptr i p M c.LV K:=by
 by_cases hd:Evt.done i p∈t
 ·exact qlg hc (.seen hd) hi hi2 hp hl M K hP λM'=>hK M' t (.seen hd)
 ·obtain⟨r,hr⟩:=qgo (l:=c.rs) (i:=i.toNat) (by omega)
  obtain⟨t',ht⟩:=qsQ hc.hw hc.hT r.body p (hc.hw.peg (List.mem_of_getElem? hr)) hp hl (qmB c.rs i.toNat) t
  exact qlg hc (.rule hd hr ht) hi hi2 hp hl M K hP λM'=>hK M' _ (.rule hd hr ht)
end Go.Proofs.YtleaplmdgckmkaaGreatDoor.core
namespace Go.Proofs.YtleaplmdgckmkaaGreatDoor.core
open Go.Gx Go.RowKit Go.ChangeShapes Go.WideShapes Go.ChangeAt
set_option linter.unusedVariables false
theorem At.off {M:Mem} {b o r:Nat} {vs:List Value} (h:At M b o vs) (hr:∀j,M.cell r j=none):At (but M r) b o vs:=λj v hj=>by
 have h1:=h j v hj
 by_cases hb:b=r
 ·subst hb;rw[hr]at h1;cases h1
 ·unfold Mem.cell at h1 ⊢
  rw[qqp hb];exact h1
theorem SlV.off {M:Mem} {a:Option Addr} {l c size r:Nat} {xs:List Value} (h:SlV M a l c size xs) (hr:∀j,M.cell r j=none):SlV (but M r) a l c size xs:=
 ⟨h.1,h.2.1,h.2.2.1,λh0=>by obtain⟨b,o,e,ha⟩:=h.2.2.2 h0;exact⟨b,o,e,At.off ha hr⟩⟩
section
variable {rs:List Ru} {s:List UInt8} {E:Nat->Nat->Int} {b r:Nat} {ga ea:Option Addr} {gl gc ec eb:Nat}
end
end Go.Proofs.YtleaplmdgckmkaaGreatDoor.core
namespace Go.Proofs.YtleaplmdgckmkaaGreatDoor.core
open Go.Gx Go.RowKit Go.ChangeShapes Go.WideShapes Go.ChangeAt
set_option linter.unusedVariables false
theorem qsB {rs:List Ru} {s:List UInt8} {ga:Option Addr} {gl gc:Nat} {M:Mem} {K:Value->Mem->Prop} (hg:GrR M rs ga gl gc) (h10:rs.length<=10) (h120:(rs.map λr=>cnt r.body).sum<=100000)
  (hK:∀(V M':Mem) (pb r:Nat) (fa:Option Addr) (fc:Nat),M.le V->V pb=none->V r=none->pb≠r->(∀i,i<rs.length->∃b o,fa=some ⟨b,o,none⟩/\At V b (o+i*1) [Value.int .i64 (qmB rs i:Nat)])->
   M' pb=some (.cells (qbY.mk ga rs.length gc s (some r) none 0 0 (-1) (qab.mk 0 0 0 0) Value.nilFunc fa rs.length fc).cells.toArray 96 (0,0))->ql5 M' r (λ_ _=>none)->V.le M'->K (.pointer (some ⟨pb,0,none⟩)) M'):
  qeU ga gl gc s M (λ_=>False) K:=by
 have hgl:=hg.len
 subst hgl
 unfold qeU
 intro M6 r hr hM6 _
 have hle6:M.le M6:=by rw[hM6];exact Mem.add_le hr
 refine⟨Unit,λ_ n i rn rx M'=>0<=i/\i<=rs.length/\n=(qmB rs i.toNat:Nat)/\rn=i.toNat/\rx=cl iC ((List.range i.toNat).map λj=>((qmB rs j:Nat):Int))/\M6.le M',λ_ _ i _ _=>rs.length-i.toNat,(),⟨by omega,by omega,by simp[qmB],rfl,rfl,Mem.le.refl _⟩,λ_ n i rn rx M' ⟨i0,i1,hn,hrn,hrx,hle⟩=>⟨λhlt=>?_,λhge=>?_⟩⟩
 ·obtain⟨rr,x,b,o,hrr,ha,hat,hrx2⟩:=hg.at i0 hlt
  have hsum:=qlz hrr
  refine⟨b,o,ha,i0,hlt,x,hat.le (hle6.trans hle),by omega,(qeh _ _ _ _ (qiq _ rr.body (Nat.lt_succ_self _) (by omega) _ _ _ (hrx2.2.2.le (hle6.trans hle)) λM2 hle2=>⟨_,rfl,?_,?_,(),⟨by omega,by omega,?_,by omega,?_,hle.trans hle2⟩,?_⟩)).mono (λ_ h=>h.elim) (λv M' _ h=>h)⟩
  ·exact qar (by omega) (by omega)
  ·exact qar (by omega) (by omega)
  ·rw[show(i+1).toNat=i.toNat+1 by omega,qly hrr,hn];push_cast;rfl
  ·rw[hrx,hn,show(i+1).toNat=i.toNat+1 by omega,List.range_succ,List.map_append]
   exact qhS _ _
  ·show rs.length-(i+1).toNat<rs.length-i.toNat
   omega
 ·intro M64 hn64 M67 ad cap hn67 pb M68 hpb hM68 M3 hle3
  have hi:i.toNat=rs.length:=by omega
  rw[hrn,hi]at hn67
  rw[hrx,hi]at hn67
  have hle67:M6.le M67:=hle.trans (hn64.le.trans hn67.le)
  have hr67:M67 r=some (.map #[] 0):=hle67 _ _ (by rw[hM6];exact Mem.add_eq)
  have hcell:∀j,M67.cell r j=none:=λj=>by unfold Mem.cell;rw[hr67]
  have hsl:=SlV.off hn67.slv hcell
  have hne:pb≠r:=by rintro rfl;rw[hpb]at hr67;cases hr67
  have hleV:(but M67 r).le M68:=(qtU _ _).trans (by rw[hM68];exact Mem.add_le hpb)
  refine hK (but M67 r) M3 pb r ad cap (qtA (hle6.trans hle67) hr) ?_ (qtV _ _) hne (λj hj=>?_) ?_ ?_ (hleV.trans hle3)
  ·rw[qqp hne];exact hpb
  ·exact hsl.at qtH (by simp) (x:=((qmB rs j:Nat):Int)) (by rw[List.getElem?_map,List.getElem?_range hj];rfl)
  ·refine hle3 _ _ ?_
   rw[hM68,Mem.add_eq,hrn,hi];rfl
  ·refine ql5.le ?_ hle3
   obtain⟨es,clk,h1,h2⟩:=ql5.new M r
   rw[Mem.add_eq]at h1
   cases h1
   refine⟨#[],0,?_,h2⟩
   rw[hM68,Mem.add_ne hne.symm];exact hr67
theorem qtv {rs:List Ru} {s:List UInt8} {E:Nat->Nat->Int} {ga:Option Addr} {gl gc:Nat} {M:Mem} {K:Value->Mem->Prop} (hw:qcU rs) (hT:Tab rs s E) (hs:s.length<=60) (hg:GrR M rs ga gl gc)
  (hK:∀(c:PkC) (M':Mem),c.Ok->c.rs=rs->c.s=s->c.E=E->M.le c.V->PI c [] M'->K (.pointer c.ptr) M'):qeU ga gl gc s M (λ_=>False) K:=by
 have h10:=hw.ok.ten
 have h120:(rs.map λr=>cnt r.body).sum<=120:=hw.ok.all
 have hgl:=hg.len
 refine qsB hg h10 (by omega) λV M' pb r fa fc hle h1 h2 h3 h4 h5 h6 h7=>?_
 refine hK ⟨V,rs,s,E,pb,r,ga,fa,gl,gc,fc,.nilFunc,λ_=>False,λ_ _=>True,120⟩ M' ?_ rfl rfl rfl hle ?_
 ·exact⟨hw,hT,hs,hg.le hle,h4,h1,h2,h3,λh=>h,λh=>h,λ_ h=>h.elim,λ_ _ _ _ _=>trivial,λ_ _ _ _ h=>h.elim,⟨true,.inl ⟨rfl,rfl⟩,λ_ _ _ _ _ _ _=>trivial,λh=>(by cases h)⟩,λ_ _ _ _ _=>trivial,h120,by show 120<=100000;omega⟩
 ·refine⟨-1,qab.mk 0 0 0 0,FW.init _ _ _,h7,⟨none,0,?_,⟨rfl,Nat.le_refl _,by decide,.inl ⟨rfl,rfl,rfl⟩⟩,λg hg=>by cases hg⟩,⟨_,h6,λi p v=>⟨λh=>(by cases h),λh=>(by cases h.1)⟩⟩,trivial,by simp[qcL],λi p h=>by cases h⟩
  rw[h5,hgl];rfl
end Go.Proofs.YtleaplmdgckmkaaGreatDoor.core
namespace Go.Proofs.YtleaplmdgckmkaaGreatDoor.core
open Go.Gx Go.RowKit Go.ChangeShapes Go.WideShapes Go.ChangeAt
set_option linter.unusedVariables false
theorem qmW {rs:List Ru} {s:List UInt8} {E E':Nat->Nat->Int} (hw:qcU rs) (hT:Tab rs s E) (hT':Tab rs s E') {p i:Nat} (hp:p<=s.length) (hi:i<rs.length):E p i=E' p i:=by
 obtain⟨r,hr⟩:=qgo (l:=rs) hi
 have hok:=hw.peg (List.mem_of_getElem? hr)
 obtain⟨m,x,hx⟩:=qul hw hT r.body p hok (by omega) (by omega)
 rw[hT.fix p i r hp hr,hT'.fix p i r hp hr,<-qlJ hw hT m _ _ _ hok (by omega) (by omega) hx,<-qlJ hw hT' m _ _ _ hok (by omega) (by omega) hx]
theorem qt8 {c:PkC} {M:Mem} {L:Nat->Prop} (h:M.le c.V):∀b,c.LV b->Wr L M b:=λb hb=>.inr (by
 cases hv:M b with
 |none=>rfl
 |some o=>have:=h b o hv;rw[show c.V b=none from hb]at this;cases this)
section
variable {rs:List Ru} {s:List UInt8} {ga:Option Addr} {gl gc:Nat} {M:Mem} {K:Value->Mem->Prop}
theorem qmn (hg:GrR M rs ga gl gc)
  (h1:qfL rs s≠0->∀M',M.le M'->K (.tuple #[(qah.mk false 0).val,.slice none 0 0,.int .i64 (qfL rs s)]) M')
  (h3:qfL rs s=0->∀E,Tab rs s E->∀t,qkL rs s E (.rule 0 0) [] t->∀M' la lc,M.le M'->SlV M' la (qcL E t).length lc 4 (cl qaz.cells (qcL E t))->K (.tuple #[(qhE (E 0 0) 0).val,.slice la (qcL E t).length lc,.int .i64 0]) M'):
  qeT ga gl gc s M (λ_=>False) K:=by
 unfold qeT
 refine qmi _ _ _ _ _ _ (qrh hg s _ ⟨_,rfl,λh=>h1 h,λh=>?_⟩)
 have h0:qfL rs s=0:=Decidable.not_not.1 h
 obtain⟨hw,hs⟩:=qmu h0
 have h11:=hw.ok.one
 obtain⟨E,hT⟩:=qpb (s:=s) hw
 refine(qor _ _ _ _ _ _ _ (qtv hw hT hs hg λc M2 hc hcr hcs hcE hle hP=>⟨_,rfl,?_⟩)).mono (λ_ h=>h.elim) (λv M' _ h=>h)
 subst hcr hcs hcE
 refine(qej _ _ _ _ _ _ (qq4 hc (Int.le_refl 0) (by omega) (Int.le_refl 0) (by omega) hP λM3 t' hgo hP3=>⟨_,rfl,?_⟩)).mono (qt8 hle) (λv M' _ h=>h)
 obtain⟨far,want,hF,hB⟩:=id hP3
 obtain⟨la,lc,hb,hrow,_⟩:=hB.bk
 exact⟨c.pb,0,rfl,la,(qcL c.E t').length,lc,(At.blk hb).part 3 [.slice la _ lc] rfl,λM4 hle4=>h3 h0 c.E hT t' hgo M4 la lc (hle.trans (hP3.le.trans hle4)) (hrow.slv.le hle4)⟩
end
end Go.Proofs.YtleaplmdgckmkaaGreatDoor.core
namespace Go.Proofs.YtleaplmdgckmkaaGreatDoor.core
open Go.Gx Go.RowKit Go.ChangeShapes Go.WideShapes Go.ChangeAt
set_option linter.unusedVariables false
def qcD (t:List UInt8) (hv:Bool) (A:Option Addr) (l c:Nat):List Value:=[.string (mkS t),.string (mkS []),.bool hv,.bool false,.slice A l c,.slice none 0 0]
section
variable {V M:Mem} {bd bl:Nat} {t:List UInt8} {hv:Bool} {ga:Option Addr} {gl gc:Nat} {A:Option Addr} {n c k:Nat} {L:Nat->Prop} {Kp:List PanicEntry->Prop}
theorem qrY (h:LSt V M bd bl (qcD t true ga gl gc) A n c k):qal Tryz.prog 101 #[.pointer (some ⟨bd,0,none⟩),.int .i64 0] M L (λv M'=>v= .agg #[.slice ga gl gc]/\M.le M') Kp:=
 qfH _ _ _ _ ⟨(λv M'=>v= .agg #[.slice ga gl gc]/\M.le M'),Kp⟩ ⟨bd,0,rfl,by decide,by decide,true,h.cd.at 2 [_] rfl,λg=>absurd rfl g,λ_=>⟨bd,0,rfl,by decide,by decide,_,_,_,h.cd.at 4 [_] rfl,λM' hl=>⟨rfl,hl⟩⟩⟩
theorem qgB {K:Value->Mem->Prop} (h:LSt V M bd bl (qcD t false ga gl gc) A n c k) (hp:Kp (qhR 12 0 false)):qal Tryz.prog 101 #[.pointer (some ⟨bd,0,none⟩),.int .i64 0] M L K Kp:=
 qfH _ _ _ _ ⟨K,Kp⟩ ⟨bd,0,rfl,by decide,by decide,false,h.cd.at 2 [_] rfl,λ_=>qsY 12 _ _ _ _ hp,λg=>absurd (by decide) g⟩
theorem qsE {rs:List Ru} (hN:qfU V) (h:LSt V M bd bl (qcD t hv ga gl gc) A n c k) (hr:qlY t rs 0 0) (hg0:qaZ rs=0) (hw:qdY rs=(0,0)) (hs:ql1 rs<=1000000) (hL:L bd):
  qal Tryz.prog 91 #[.pointer (some ⟨bd,0,none⟩),.int .i64 0] M L (λv M'=>v= .string (mkS (([111,107,32]:List UInt8)++Lib.itoa (ql1 rs:Nat)))/\∃V' a' c',V.le V'/\GrR V' rs a' rs.length c'/\LSt V' M' bd bl (qcD t true a' rs.length c') A n c k) Kp:=by
 refine qfn _ _ _ _ ⟨_,Kp⟩ ⟨bd,0,rfl,t,h.cd.at 0 [_] rfl,?_⟩
 refine(qaf.two h.le (qiM _ _ (λv V'=>∃a' c',V.le V'/\GrR V' rs a' rs.length c'/\v= .tuple #[.agg #[.slice a' rs.length c'],.int .i64 0,.int .i64 0]) (qlP hr _ λM' a' c' hl hg=>⟨a',c',hl,hg,rfl⟩))).mono λv M11 hle ⟨V',_,hvm,hno,a',c',hl,hg,hq⟩=>⟨a',rs.length,c',0,0,hq,?_⟩
 have nd:V' bd=none:=hno bd (by rw[h.cd];rfl) h.nd
 have nl:V' bl=none:=hno bl (by rw[h.cl];rfl) h.nl
 refine qg5 0 0 _ _ _ _ (λ_ M13 h13=>⟨rfl,?_⟩) (λg=>absurd rfl g)
 refine qeZ _ _ _ _ _ (qih (hg.le (hvm.trans h13)) _ ⟨0,0,by rw[hw],?_⟩)
 refine qg5 0 0 _ _ _ _ (λ_ M16 h16=>⟨rfl,bd,0,rfl,by decide,by decide,bd,0,rfl,?_⟩) (λg=>absurd rfl g)
 have h2:LSt V' M16 bd bl (qcD t hv ga gl gc) A n c k:=⟨hvm.trans (h13.trans h16),nd,nl,h.ne,h.cd.le (hle.trans (h13.trans h16)),h.cl.le (hle.trans (h13.trans h16))⟩
 refine⟨h2.cd.has 2 1 (by simp[qcD]),.inl hL,λM21 e21=>⟨by decide,by decide,?_⟩⟩
 have c21:Cel M21 bd (qcD t true ga gl gc) 70:=by rw[e21];exact h2.cd.put 2 [.bool true]
 refine⟨c21.has 4 1 (by simp[qcD]),.inl hL,λM22 e22=>?_⟩
 have c22:Cel M22 bd (qcD t true a' rs.length c') 70:=by rw[e22];exact c21.put 4 [.slice a' rs.length c']
 have l22:V'.le M22:=by rw[e22];exact qnn (by rw[e21];exact qnn h2.le nd) nd
 have h22:LSt V' M22 bd bl (qcD t true a' rs.length c') A n c k:=⟨l22,nd,nl,h.ne,c22,by rw[e22];exact Cel.ne (by rw[e21];exact h2.cl.ne h.ne.symm) h.ne.symm⟩
 refine qhZ _ _ _ _ _ (qlw (hg.le l22) _ (λg=>absurd hg0 g) λ_=>⟨_,_,rfl,?_⟩)
 refine(qhf ((hN.le hl).le l22) (by unfold InI;omega)).mono λv M' _ hq=>⟨_,hq,?_,λM' hl'=>⟨rfl,V',a',c',hl,hg,h22.to hl'⟩⟩
 have:=qbE (z:=((ql1 rs:Nat):Int)) (by unfold InI;omega)
 simp only[List.length_cons,List.length_nil];omega
theorem qrk {rs:List Ru} {K:Value->Mem->Prop} {r e:Int} (h:LSt V M bd bl (qcD t hv ga gl gc) A n c k) (hr:qlY t rs 0 0) (hw:qdY rs=(r,e)) (he:e≠0) (hp:Kp (qhR e r true)):
  qal Tryz.prog 91 #[.pointer (some ⟨bd,0,none⟩),.int .i64 0] M L K Kp:=by
 refine qfn _ _ _ _ ⟨K,Kp⟩ ⟨bd,0,rfl,t,h.cd.at 0 [_] rfl,?_⟩
 refine(qaf.two h.le (qiM _ _ (λv V'=>∃a' c',V.le V'/\GrR V' rs a' rs.length c'/\v= .tuple #[.agg #[.slice a' rs.length c'],.int .i64 0,.int .i64 0]) (qlP hr _ λM' a' c' hl hg=>⟨a',c',hl,hg,rfl⟩))).mono λv M11 hle ⟨V',_,hvm,hno,a',c',hl,hg,hq⟩=>⟨a',rs.length,c',0,0,hq,?_⟩
 refine qg5 0 0 _ _ _ _ (λ_ M13 h13=>⟨rfl,?_⟩) (λg=>absurd rfl g)
 refine qeZ _ _ _ _ _ (qih (hg.le (hvm.trans h13)) _ ⟨r,e,by rw[hw],?_⟩)
 exact qg5 r e _ _ _ _ (λg=>absurd g he) (λ_=>hp)
theorem qsp {rs:List Ru} (hT:qnQ V 4 qoN) (h:LSt V M bd bl (qcD t true ga gl gc) A n c k) (hg:GrR V rs ga gl gc) (hg0:qaZ rs=0) (hl:(qeD rs).length<=140737488355328) {b1 b2 b3:Nat}
  (c1:Cel M b1 [.func (.func 126) #[] #[]] 155) (c2:Cel M b2 [.pointer (some ⟨bd,0,none⟩)] 110) (c3:Cel M b3 [.int .i64 0] 3):
  qal Tryz.prog 103 #[.pointer (some ⟨b1,0,none⟩),.pointer (some ⟨b2,0,none⟩),.pointer (some ⟨b3,0,none⟩)] M L (λv M'=>v= .string (mkS (qdV (qeD rs)))/\M.le M') Kp:=by
 have key:∀M10,M.le M10->qdi Tryz.prog (.func (.func 126) #[] #[]) [.agg #[.slice ga gl gc]] M10 (Wr L M) (λv M12=>∃(x11:List UInt8),v=(Value.string (mkS x11))/\(∀M',M12.le M'->(Value.string (mkS x11)= .string (mkS (qdV (qeD rs)))/\M.le M'))) Kp:=λM10 h10=>
  qgC ga gl gc M10 _ ⟨_,Kp⟩ (qhY _ _ _ _ _ (qlv (hg.le (h.le.trans h10)) (hT.le (h.le.trans h10)) _ (λg=>absurd hg0 g) λ_=>⟨_,_,rfl,qd3 _ _ _ (qiR _ hl _ _ ⟨_,rfl,λM' hl'=>⟨_,rfl,λM2 hl2=>⟨rfl,h10.trans (hl'.trans hl2)⟩⟩⟩)⟩))
 have get:∀{Q:Option Addr->Nat->Nat->Mem->Prop},(∀M11,M.le M11->Q ga gl gc M11)->qal Tryz.prog 101 #[.pointer (some ⟨bd,0,none⟩),.int .i64 0] M (Wr L M) (λv M11=>∃(xa:Option Addr) (xl xc:Nat),v= .agg #[.slice xa xl xc]/\Q xa xl xc M11) Kp:=λhQ=>
  (qrY h).mono (λ_ q=>q) (λv M' _ ⟨hv,hle⟩=>⟨_,_,_,hv,hQ M' hle⟩) λ_ q=>q
 exact qem _ _ _ _ _ ⟨_,Kp⟩ ⟨_,c2.at 0 [_] rfl,0,c3.at 0 [_] rfl,⟨_,c1.at 0 [_] rfl,get λM10 h10=>key M10 h10⟩,get λM10 h10=>⟨_,(c1.le h10).at 0 [_] rfl,key M10 h10⟩⟩
theorem qqT {K:Value->Mem->Prop} (h:LSt V M bd bl (qcD t false ga gl gc) A n c k) (hp:Kp (qhR 12 0 false)) {b1 b2 b3:Nat}
  (c1:Cel M b1 [.func (.func 126) #[] #[]] 155) (c2:Cel M b2 [.pointer (some ⟨bd,0,none⟩)] 110) (c3:Cel M b3 [.int .i64 0] 3):
  qal Tryz.prog 103 #[.pointer (some ⟨b1,0,none⟩),.pointer (some ⟨b2,0,none⟩),.pointer (some ⟨b3,0,none⟩)] M L K Kp:=
 qem _ _ _ _ _ ⟨K,Kp⟩ ⟨_,c2.at 0 [_] rfl,0,c3.at 0 [_] rfl,⟨_,c1.at 0 [_] rfl,qgB h hp⟩,qgB h hp⟩
def qiS (o:qah):List UInt8:=if o.Ok=true then([111,107,32]:List UInt8)++Lib.itoa o.N else[102,97,105,108]
theorem qri {rs:List Ru} {s:List UInt8} {o:qah} (hN:qfU V) (h:LSt V M bd bl (qcD t true ga gl gc) A n c k) (hg:GrR V rs ga gl gc) (h0:qfL rs s=0) (ho:∀E,Tab rs s E->qhE (E 0 0) 0=o) (hI:InI o.N) {b1 b2 b3 b4:Nat}
  (c1:Cel M b1 [.func (.func 132) #[] #[]] 157) (c2:Cel M b2 [.pointer (some ⟨bd,0,none⟩)] 110) (c3:Cel M b3 [.int .i64 0] 3) (c4:Cel M b4 [.string (mkS s)] 9):
  qal Tryz.prog 105 #[.pointer (some ⟨b1,0,none⟩),.pointer (some ⟨b2,0,none⟩),.pointer (some ⟨b3,0,none⟩),.pointer (some ⟨b4,0,none⟩)] M L (λv M'=>v= .string (mkS (qiS o))/\M.le M') Kp:=by
 have key:∀M10,M.le M10->qdi Tryz.prog (.func (.func 132) #[] #[]) [.agg #[.slice ga gl gc],.string (mkS s)] M10 (Wr L M) (λv M12=>∃(x11:List UInt8),v=(Value.string (mkS x11))/\(∀M',M12.le M'->(Value.string (mkS x11)= .string (mkS (qiS o))/\M.le M'))) Kp:=λM10 h10=>by
  refine qjt ga gl gc s M10 _ ⟨_,Kp⟩ (qaf.toW (qhQ _ _ _ _ _ _ (qmn (hg.le (h.le.trans h10)) (λg=>absurd h0 g) λ_ E hE tt hgo M11 la lc hle hsl=>⟨_,la,_,lc,0,rfl,?_⟩)))
  rw[ho E hE]
  refine qmj _ _ _ ⟨_,Kp⟩ ⟨λg=>absurd rfl g,λ_ M13 h13=>⟨rfl,?_⟩⟩
  have hl:=qbE hI
  refine qjo _ _ _ ⟨λg=>⟨_,rfl,λM' hl'=>⟨_,rfl,λM2 hl2=>⟨?_,h10.trans (hle.trans (h13.trans (hl'.trans hl2)))⟩⟩⟩,λg=>(qhf (hN.le (h.le.trans (h10.trans (hle.trans h13)))) hI).mono λv M' _ hv=>⟨_,hv,by simp only[List.length_cons,List.length_nil];omega,⟨_,rfl,λM' hl'=>⟨_,rfl,λM2 hl2=>⟨?_,h10.trans (hle.trans (h13.trans (hl'.trans hl2)))⟩⟩⟩⟩⟩
  ·unfold qiS;rw[if_neg g]
  ·unfold qiS;rw[if_pos (Decidable.not_not.1 g)]
 have get:∀{Q:Option Addr->Nat->Nat->Mem->Prop},(∀M11,M.le M11->Q ga gl gc M11)->qal Tryz.prog 101 #[.pointer (some ⟨bd,0,none⟩),.int .i64 0] M (Wr L M) (λv M11=>∃(xa:Option Addr) (xl xc:Nat),v= .agg #[.slice xa xl xc]/\Q xa xl xc M11) Kp:=λhQ=>
  (qrY h).mono (λ_ q=>q) (λv M' _ ⟨hv,hle⟩=>⟨_,_,_,hv,hQ M' hle⟩) λ_ q=>q
 exact qel _ _ _ _ _ _ ⟨_,Kp⟩ ⟨_,c2.at 0 [_] rfl,0,c3.at 0 [_] rfl,⟨_,c1.at 0 [_] rfl,get λM10 h10=>⟨s,(c4.le h10).at 0 [_] rfl,key M10 h10⟩,s,c4.at 0 [_] rfl,get λM10 h10=>key M10 h10⟩,
  get λM10 h10=>⟨⟨_,(c1.le h10).at 0 [_] rfl,s,(c4.le h10).at 0 [_] rfl,key M10 h10⟩,s,(c4.le h10).at 0 [_] rfl,_,(c1.le h10).at 0 [_] rfl,key M10 h10⟩,
  s,c4.at 0 [_] rfl,⟨_,c1.at 0 [_] rfl,get λM10 h10=>key M10 h10⟩,get λM10 h10=>⟨_,(c1.le h10).at 0 [_] rfl,key M10 h10⟩⟩
theorem qpO {s:List UInt8} {K:Value->Mem->Prop} (h:LSt V M bd bl (qcD t false ga gl gc) A n c k) (hp:Kp (qhR 12 0 false)) {b1 b2 b3 b4:Nat}
  (c1:Cel M b1 [.func (.func 132) #[] #[]] 157) (c2:Cel M b2 [.pointer (some ⟨bd,0,none⟩)] 110) (c3:Cel M b3 [.int .i64 0] 3) (c4:Cel M b4 [.string (mkS s)] 9):
  qal Tryz.prog 105 #[.pointer (some ⟨b1,0,none⟩),.pointer (some ⟨b2,0,none⟩),.pointer (some ⟨b3,0,none⟩),.pointer (some ⟨b4,0,none⟩)] M L K Kp:=
 qel _ _ _ _ _ _ ⟨K,Kp⟩ ⟨_,c2.at 0 [_] rfl,0,c3.at 0 [_] rfl,⟨_,c1.at 0 [_] rfl,qgB h hp,s,c4.at 0 [_] rfl,qgB h hp⟩,qgB h hp,s,c4.at 0 [_] rfl,⟨_,c1.at 0 [_] rfl,qgB h hp⟩,qgB h hp⟩
end
end Go.Proofs.YtleaplmdgckmkaaGreatDoor.core
namespace Go.Proofs.YtleaplmdgckmkaaGreatDoor.core
open Go.Gx Go.RowKit Go.ChangeShapes Go.WideShapes Go.ChangeAt
set_option linter.unusedVariables false
structure DSt (V M:Mem) (bd:Nat) (dc:List Value):Prop where
 le:V.le M
 nd:V bd=none
 cd:Cel M bd dc 70
theorem DSt.to {V M M':Mem} {bd:Nat} {dc:List Value} (h:DSt V M bd dc) (hl:M.le M'):DSt V M' bd dc:=⟨h.le.trans hl,h.nd,h.cd.le hl⟩
theorem LSt.ds {V M:Mem} {bd bl:Nat} {dc:List Value} {A:Option Addr} {n c k:Nat} (h:LSt V M bd bl dc A n c k):DSt V M bd dc:=⟨h.le,h.nd,h.cd⟩
theorem qhi {P:Program} {f:FuncId} {fn:Func} {caps:Array Value} {M:Mem} {L:Nat->Prop} {K:Value->Mem->Prop} {Kp:List PanicEntry->Prop} (hf:P.funcs[f]?=some fn) (hb:fn.body.isNone=false) (hn:(fn.name== "runtime.NumGoroutine")=false) (h:qal P f caps M L K Kp):qdi P (.func (.func f) #[] caps) [] M L K Kp:=
 ⟨f,fn,#[],caps,rfl,hf,hb,hn,by simpa using h⟩
theorem qn5 (c:UInt8) (r:List UInt8):Lib.trimPrefix (c::r) [c]=r:=by
 unfold Lib.trimPrefix Lib.hasPrefix
 simp[List.isPrefixOf]
section
variable {V M:Mem} {bd:Nat} {dc:List Value} {A:Option Addr} {n c:Nat} {ws:List (List UInt8)} {L:Nat->Prop}
theorem qne {w0 r s:List UInt8} {K:PK} (hN:qfU V) (hw:SlV V A n c 1 (qec ws)) (hV:V.le M) (h0:ws[0]?=some w0) (hs:s=w0++32::r) (hl:s.length<4294967281)
  (h1:w0=[114,117,108,101]->∃(x21:List UInt8),At M bd 0 [(.string (mkS x21))]/\qal Tryz.prog 58 #[(.string (mkS x21)),(.string (mkS r))] M (Wr L M) (λv M23=>∃(x22:List UInt8),v=(Value.string (mkS x22))/\Has M23 bd 0 1/\Wr L M bd/\∀M',(M23.put bd 0 [(.string (mkS x22))]).le M'->K (Value.string (mkS ([111,107]:List UInt8))) M') (qba K))
  (h2:w0≠[99,97,115,101])
  (h3:w0≠[114,117,108,101]->∀b M36,M b=none->M36=M.add b (.cells [(.slice A n c),(.int .i64 1)].toArray 116 (0,0))->qal Tryz.prog 59 #[(.pointer (some ⟨bd,0,none⟩)),(.string (mkS w0)),(.pointer (some ⟨b,0,none⟩))] M36 (Wr L M) (λv M41=>qal Tryz.prog 60 #[(.pointer (some ⟨b,0,none⟩))] M41 (Wr L M) (λw M42=>w=(Value.tuple #[])/\qdi Tryz.prog v [] M42 (Wr L M) (λv M44=>∃(x43:List UInt8),v=(Value.string (mkS x43))/\(∀M',M44.le M'->K (Value.string (mkS x43)) M')) (qba K)) (qba K)) (qba K)):
  qcq (some ⟨bd,0,none⟩) s A n c M L K:=by
 have hn:ws.length=n:=by simpa[qec]using hw.1
 have hk:0<n:=by rw[<-hn];exact(List.getElem?_eq_some_iff.1 h0).1
 obtain⟨b,o,rfl,hat⟩:=hw.2.2.2 hk
 have ha:∀M',V.le M'->At M' b (o+(0:Int).toNat*1) [(.string (mkS w0))]:=λM' hl'=>At.le (λj v hj=>by
  have:j=0:=by
   cases j with
   |zero=>rfl
   |succ j=>simp at hj
  subst this
  refine hat 0 v ?_
  unfold qec
  rw[List.getElem?_map,h0]
  simpa using hj) hl'
 have hidx:Lib.index s w0=0:=by
  have:=Lib.index_first (s:=s) (sub:=w0) (i:=0) (Nat.zero_le _) (by rw[hs];simp[Lib.occAt]) (λj hj=>absurd hj (Nat.not_lt_zero _))
  exact this
 have hsl:s.length=w0.length+(r.length+1):=by rw[hs];simp
 refine⟨b,o,rfl,by decide,by omega,w0,ha M hV,b,o,rfl,by decide,by omega,w0,ha M hV,(qtG (hN.le hV) hl).mono λv M2 _ hv=>⟨_,hv,?_⟩⟩
 rw[hidx]
 refine⟨by unfold InI;omega,by omega,by omega,by omega,?_⟩
 have hd:((s.take ((s.length:Nat):Int).toNat).drop ((0:Int)+((w0.length:Nat):Int)).toNat)=32::r:=by
  have e1:((s.length:Nat):Int).toNat=s.length:=by omega
  have e2:((0:Int)+((w0.length:Nat):Int)).toNat=w0.length:=by omega
  rw[e1,e2,List.take_length,hs,List.drop_left]
 rw[hd]
 refine qth.mono λv M3 _ hv=>⟨_,hv,b,o,rfl,by decide,by omega,w0,ha M hV,λg=>?_,λg=>⟨λg2=>absurd g2 h2,λ_ b35 M36 hn36 e36=>⟨b,o,rfl,by decide,by omega,w0,?_,?_⟩⟩⟩
 ·rw[qn5]
  obtain⟨x21,q1,q2⟩:=h1 g
  exact⟨bd,0,rfl,x21,q1,q2.mono (λ_ q=>q) (λv M23 _ ⟨x22,e1,e2,e3,e4⟩=>⟨x22,e1,bd,0,rfl,e2,e3,λM26 e26 M' hl'=>e4 M' (e26▸hl')⟩) λ_ q=>q⟩
 ·exact ha M36 (by rw[e36];exact hV.trans (Mem.add_le hn36))
 ·exact(h3 g b35 M36 hn36 e36).mono (λ_ q=>q) (λv M41 _ q=>⟨v,rfl,q⟩) λ_ q=>q
theorem qsD {t r:List UInt8} {Kp:List PanicEntry->Prop} (hl:t.length+r.length+1<=2000):qal Tryz.prog 58 #[(.string (mkS t)),(.string (mkS r))] M L (λv M'=>v= .string (mkS (t++r++[10]))/\M.le M') Kp:=
 qmk _ _ _ _ ⟨(λv M'=>v= .string (mkS (t++r++[10]))/\M.le M'),Kp⟩ ⟨by unfold InI;omega,by unfold InI;omega,λg=>by omega,λ_=>⟨by omega,by simp only[List.length_append,List.length_cons,List.length_nil];omega,λM' hl'=>⟨rfl,hl'⟩⟩⟩
theorem qnd {t r:List UInt8} {hv:Bool} {ga:Option Addr} {gl gc:Nat} (hN:qfU V) (h:DSt V M bd (qcD t hv ga gl gc)) (hw:SlV V A n c 1 (qec ws)) (h0:ws[0]?=some [114,117,108,101]) (hl:t.length+r.length+1<=2000) (hL:L bd):
  qaw Tryz.prog 30 #[.pointer (some ⟨bd,0,none⟩),.string (mkS ([114,117,108,101,32]++r)),.slice A n c] M L (λv M'=>v= .string (mkS [111,107])/\DSt V M' bd (qcD (t++r++[10]) hv ga gl gc)):=by
 refine qck _ _ _ _ _ _ _ ⟨_,λ_=>False⟩ (qne (r:=r) hN hw h.le h0 rfl (by simp only[List.length_append,List.length_cons,List.length_nil];omega) (λ_=>⟨t,h.cd.at 0 [_] rfl,(qsD hl).mono (λ_ q=>q) (λv M2 _ ⟨hq,hle⟩=>⟨_,hq,?_⟩) λ_ q=>q⟩) (by decide) (λg=>absurd rfl g)) (λ_ _ _ _ _ _ _ _ _ _ _ hc=>hc.elim) qhg
 have h2:=h.to hle
 refine⟨h2.cd.has 0 1 (by simp[qcD]),.inl hL,λM' hl'=>⟨rfl,(qnn h2.le h2.nd).trans hl',h2.nd,(h2.cd.put 0 [.string (mkS (t++r++[10]))]).le hl'⟩⟩
theorem qeL {w0 r s:List UInt8} {K:PK} {Q:Value->Mem->Prop} (hN:qfU V) (h:DSt V M bd dc) (hw:SlV V A n c 1 (qec ws)) (h0:ws[0]?=some w0) (hs:s=w0++32::r) (hl:s.length<4294967281)
  (h1:w0≠[114,117,108,101]) (h2:w0≠[99,97,115,101])
  (hR:∀b M36,LSt V M36 bd b dc A n c 1->Wr L M b->qal Tryz.prog 59 #[(.pointer (some ⟨bd,0,none⟩)),(.string (mkS w0)),(.pointer (some ⟨b,0,none⟩))] M36 (Wr L M) (λv M'=>LSt V M' bd b dc A n c n/\Q v M') K.p)
  (hD:∀x b M41 M42,LSt V M42 bd b dc A n c n->Q x M41->M41.le M42->qdi Tryz.prog x [] M42 (Wr L M) (λv M44=>∃(x43:List UInt8),v=(Value.string (mkS x43))/\(∀M',M44.le M'->K (Value.string (mkS x43)) M')) K.p):
  qcq (some ⟨bd,0,none⟩) s A n c M L K:=by
 refine qne hN hw h.le h0 hs hl (λg=>absurd g h1) h2 λ_ b M36 hn e36=>?_
 have hb:V b=none:=qf3 h.le hn
 have hle:M.le M36:=by rw[e36];exact Mem.add_le hn
 have hst:LSt V M36 bd b dc A n c ((1:Nat):Int).toNat:=⟨h.le.trans hle,h.nd,hb,h.cd.ne_new hn,h.cd.le hle,by rw[e36];exact Cel.add _ _⟩
 refine(hR b M36 hst (.inr hn)).mono (λ_ q=>q) (λv M41 _ ⟨h41,hq⟩=>?_) λ_ q=>q
 exact(qrv h41 rfl).mono (λ_ q=>q) (λw M42 _ ⟨hw',hle'⟩=>⟨hw',hD v b M41 M42 (h41.to hle') hq hle'⟩) λ_ q=>q
section
variable {t:List UInt8} {rs:List Ru} {ga:Option Addr} {gl gc:Nat} {hv:Bool}
theorem qra (hN:qfU V) (h:DSt V M bd (qcD t hv ga gl gc)) (hw:SlV V A 2 c 1 (qec ws)) (h0:ws[0]?=some [108,111,97,100]) (h1:ws[1]?=some [48]) (hr:qlY t rs 0 0) (hg0:qaZ rs=0) (hwl:qdY rs=(0,0)) (hsz:ql1 rs<=1000000) (hL:L bd):
  qaw Tryz.prog 30 #[.pointer (some ⟨bd,0,none⟩),.string (mkS [108,111,97,100,32,48]),.slice A 2 c] M L (λv M'=>v= .string (mkS (([111,107,32]:List UInt8)++Lib.itoa (ql1 rs:Nat)))/\∃V' a' c',V.le V'/\GrR V' rs a' rs.length c'/\DSt V' M' bd (qcD t true a' rs.length c')):=by
 refine qck _ _ _ _ _ _ _ ⟨_,λ_=>False⟩ (qeL (r:=[48]) (Q:=λv M'=>∃b4 b8,v= .func (.func 90) #[] #[.pointer (some ⟨b4,0,none⟩),.pointer (some ⟨b8,0,none⟩)]/\Cel M' b4 [.pointer (some ⟨bd,0,none⟩)] 110/\Cel M' b8 [.int .i64 0] 3) hN h hw h0 rfl (by decide) (by decide) (by decide) (λb M36 hst hb=>qld hN hst hw h1 hb) (λx b M41 M42 hst ⟨b4,b8,e,c4,c8⟩ hle=>?_)) (λ_ _ _ _ _ _ _ _ _ _ _ hc=>hc.elim) qhg
 subst e
 refine qeo _ _ _ _ ⟨_,λ_=>False⟩ ⟨_,(c4.le hle).at 0 [_] rfl,0,(c8.le hle).at 0 [_] rfl,(qsE hN hst hr hg0 hwl hsz (.inl (.inl hL))).mono (λ_ q=>q) (λv M6 _ ⟨hv',V',a',c',hl,hg,h6⟩=>⟨_,hv',λM' hl'=>⟨_,rfl,λM2 hl2=>⟨rfl,V',a',c',hl,hg,h6.ds.to (hl'.trans hl2)⟩⟩⟩) λ_ q=>q⟩
theorem qq9 (hN:qfU V) (hT:qnQ V 4 qoN) (h:DSt V M bd (qcD t true ga gl gc)) (hg:GrR V rs ga gl gc) (hg0:qaZ rs=0) (hl:(qeD rs).length<=140737488355328) (hw:SlV V A 2 c 1 (qec ws)) (h0:ws[0]?=some [115,104,111,119]) (h1:ws[1]?=some [48]):
  qaw Tryz.prog 30 #[.pointer (some ⟨bd,0,none⟩),.string (mkS [115,104,111,119,32,48]),.slice A 2 c] M L (λv M'=>v= .string (mkS (qdV (qeD rs)))/\DSt V M' bd (qcD t true ga gl gc)):=by
 refine qck _ _ _ _ _ _ _ ⟨_,λ_=>False⟩ (qeL (r:=[48]) (Q:=λv M'=>∃b1 b2 b3,v= .func (.func 103) #[] #[.pointer (some ⟨b1,0,none⟩),.pointer (some ⟨b2,0,none⟩),.pointer (some ⟨b3,0,none⟩)]/\Cel M' b1 [.func (.func 126) #[] #[]] 155/\Cel M' b2 [.pointer (some ⟨bd,0,none⟩)] 110/\Cel M' b3 [.int .i64 0] 3) hN h hw h0 rfl (by decide) (by decide) (by decide) (λb M36 hst hb=>qlc hN hst hw h1 hb) (λx b M41 M42 hst ⟨b1,b2,b3,e,c1,c2,c3⟩ hle=>?_)) (λ_ _ _ _ _ _ _ _ _ _ _ hc=>hc.elim) qhg
 subst e
 exact qhi Tryz.func103 rfl (by decide) ((qsp hT hst hg hg0 hl (c1.le hle) (c2.le hle) (c3.le hle)).mono (λ_ q=>q) (λv M6 _ ⟨hv',h6⟩=>⟨_,hv',λM' hl'=>⟨rfl,hst.ds.to (h6.trans hl')⟩⟩) λ_ q=>q)
theorem qpG {s:List UInt8} {o:qah} (hN:qfU V) (h:DSt V M bd (qcD t true ga gl gc)) (hg:GrR V rs ga gl gc) (hk0:qfL rs s=0) (ho:∀E,Tab rs s E->qhE (E 0 0) 0=o) (hI:InI o.N) (hl:(qdV s).length<=1000000) (hw:SlV V A 3 c 1 (qec ws)) (h0:ws[0]?=some [109,97,116,99,104]) (h1:ws[1]?=some [48]) (h2:ws[2]?=some (qdV s)):
  qaw Tryz.prog 30 #[.pointer (some ⟨bd,0,none⟩),.string (mkS ([109,97,116,99,104,32,48,32]++qdV s)),.slice A 3 c] M L (λv M'=>v= .string (mkS (qiS o))/\DSt V M' bd (qcD t true ga gl gc)):=by
 refine qck _ _ _ _ _ _ _ ⟨_,λ_=>False⟩ (qeL (r:=[48,32]++qdV s) (Q:=λv M'=>∃b1 b2 b3 b4,v= .func (.func 105) #[] #[.pointer (some ⟨b1,0,none⟩),.pointer (some ⟨b2,0,none⟩),.pointer (some ⟨b3,0,none⟩),.pointer (some ⟨b4,0,none⟩)]/\Cel M' b1 [.func (.func 132) #[] #[]] 157/\Cel M' b2 [.pointer (some ⟨bd,0,none⟩)] 110/\Cel M' b3 [.int .i64 0] 3/\Cel M' b4 [.string (mkS s)] 9) hN h hw h0 rfl (by simp only[List.length_append,List.length_cons,List.length_nil];omega) (by decide) (by decide) (λb M36 hst hb=>qjL hN hst hw h1 h2 (by omega) hb) (λx b M41 M42 hst ⟨b1,b2,b3,b4,e,c1,c2,c3,c4⟩ hle=>?_)) (λ_ _ _ _ _ _ _ _ _ _ _ hc=>hc.elim) qhg
 subst e
 exact qhi Tryz.func105 rfl (by decide) ((qri hN hst hg hk0 ho hI (c1.le hle) (c2.le hle) (c3.le hle) (c4.le hle)).mono (λ_ q=>q) (λv M6 _ ⟨hv',h6⟩=>⟨_,hv',λM' hl'=>⟨rfl,hst.ds.to (h6.trans hl')⟩⟩) λ_ q=>q)
theorem qlN {M:Mem} (hN:qfU M) {e:Int} (he:InI e):qtd e 0 false M (λc=>c=([101,114,114,111,114,32]:List UInt8)++Lib.itoa e):=
 (qhf hN he).mono λv M' _ hv=>⟨_,hv,by have:=qbE he;simp only[List.length_cons,List.length_nil];omega,λg=>absurd g (by decide),λ_=>rfl⟩
theorem qqh {M:Mem} (hN:qfU M) {e a:Int} (he:InI e) (ha:InI a):qtd e a true M (λc=>c=([101,114,114,111,114,32]:List UInt8)++Lib.itoa e++(([32]:List UInt8)++Lib.itoa a)):=by
 have h1:=qbE he
 have h2:=qbE ha
 exact(qhf hN he).mono λv M' _ hv=>⟨_,hv,by simp only[List.length_cons,List.length_nil];omega,λ_=>(qhf hN ha).mono λv M' _ hv=>⟨_,hv,by simp only[List.length_cons,List.length_nil];omega,by simp only[List.length_append,List.length_cons,List.length_nil];omega,rfl⟩,λg=>absurd rfl g⟩
theorem qhF {s msg:List UInt8} {e a:Int} {b:Bool} (hV:V.le M) (hN:qfU V) (hd:∀M',qfU M'->qtd e a b M' (λc=>c=msg)) (hS:∀K:Value->Mem->Prop,qcq (some ⟨bd,0,none⟩) s A n c M (λ_=>False) ⟨K,λch=>ch=qhR e a b⟩):
  qaw Tryz.prog 30 #[.pointer (some ⟨bd,0,none⟩),.string (mkS s),.slice A n c] M L (λv M'=>v= .string (mkS msg)/\M.le M'):=by
 refine(qck _ _ _ _ _ _ (λ_=>False) ⟨(λv _=>v= .string (mkS msg)),λch=>ch=qhR e a b⟩ (hS _) (qtr (λM' hl=>hd M' ((hN.le hV).le λb o hb=>hl.keep b o hb id)) (λ_=>rfl) λ_ q=>q) qhg).mono (λ_ q=>q.elim) λv M' hl hv=>⟨hv,λb o hb=>hl.keep b o hb id⟩
theorem qlk {r e:Int} (hN:qfU V) (h:DSt V M bd (qcD t hv ga gl gc)) (hw:SlV V A 2 c 1 (qec ws)) (h0:ws[0]?=some [108,111,97,100]) (h1:ws[1]?=some [48]) (hr:qlY t rs 0 0) (hwl:qdY rs=(r,e)) (he:e≠0) (hI:InI e) (hJ:InI r):
  qaw Tryz.prog 30 #[.pointer (some ⟨bd,0,none⟩),.string (mkS [108,111,97,100,32,48]),.slice A 2 c] M L (λv M'=>v= .string (mkS (([101,114,114,111,114,32]:List UInt8)++Lib.itoa e++(([32]:List UInt8)++Lib.itoa r)))/\M.le M'):=by
 refine qhF h.le hN (λM' hM=>qqh hM hI hJ) λK=>qeL (r:=[48]) (Q:=λv M'=>∃b4 b8,v= .func (.func 90) #[] #[.pointer (some ⟨b4,0,none⟩),.pointer (some ⟨b8,0,none⟩)]/\Cel M' b4 [.pointer (some ⟨bd,0,none⟩)] 110/\Cel M' b8 [.int .i64 0] 3) hN h hw h0 rfl (by decide) (by decide) (by decide) (λb M36 hst hb=>qld hN hst hw h1 hb) (λx b M41 M42 hst ⟨b4,b8,e,c4,c8⟩ hle=>?_)
 subst e
 exact qeo _ _ _ _ ⟨_,_⟩ ⟨_,(c4.le hle).at 0 [_] rfl,0,(c8.le hle).at 0 [_] rfl,qrk hst hr hwl he rfl⟩
theorem qlj (hN:qfU V) (h:DSt V M bd (qcD t false ga gl gc)) (hw:SlV V A 2 c 1 (qec ws)) (h0:ws[0]?=some [115,104,111,119]) (h1:ws[1]?=some [48]):
  qaw Tryz.prog 30 #[.pointer (some ⟨bd,0,none⟩),.string (mkS [115,104,111,119,32,48]),.slice A 2 c] M L (λv M'=>v= .string (mkS (([101,114,114,111,114,32]:List UInt8)++Lib.itoa 12))/\M.le M'):=by
 refine qhF h.le hN (λM' hM=>qlN hM (by unfold InI;omega)) λK=>qeL (r:=[48]) (Q:=λv M'=>∃b1 b2 b3,v= .func (.func 103) #[] #[.pointer (some ⟨b1,0,none⟩),.pointer (some ⟨b2,0,none⟩),.pointer (some ⟨b3,0,none⟩)]/\Cel M' b1 [.func (.func 126) #[] #[]] 155/\Cel M' b2 [.pointer (some ⟨bd,0,none⟩)] 110/\Cel M' b3 [.int .i64 0] 3) hN h hw h0 rfl (by decide) (by decide) (by decide) (λb M36 hst hb=>qlc hN hst hw h1 hb) (λx b M41 M42 hst ⟨b1,b2,b3,e,c1,c2,c3⟩ hle=>?_)
 subst e
 exact qhi Tryz.func103 rfl (by decide) (qqT (Kp:=λch=>ch=qhR 12 0 false) hst rfl (c1.le hle) (c2.le hle) (c3.le hle))
theorem qkk {s:List UInt8} (hN:qfU V) (h:DSt V M bd (qcD t false ga gl gc)) (hl:(qdV s).length<=1000000) (hw:SlV V A 3 c 1 (qec ws)) (h0:ws[0]?=some [109,97,116,99,104]) (h1:ws[1]?=some [48]) (h2:ws[2]?=some (qdV s)):
  qaw Tryz.prog 30 #[.pointer (some ⟨bd,0,none⟩),.string (mkS ([109,97,116,99,104,32,48,32]++qdV s)),.slice A 3 c] M L (λv M'=>v= .string (mkS (([101,114,114,111,114,32]:List UInt8)++Lib.itoa 12))/\M.le M'):=by
 refine qhF h.le hN (λM' hM=>qlN hM (by unfold InI;omega)) λK=>qeL (r:=[48,32]++qdV s) (Q:=λv M'=>∃b1 b2 b3 b4,v= .func (.func 105) #[] #[.pointer (some ⟨b1,0,none⟩),.pointer (some ⟨b2,0,none⟩),.pointer (some ⟨b3,0,none⟩),.pointer (some ⟨b4,0,none⟩)]/\Cel M' b1 [.func (.func 132) #[] #[]] 157/\Cel M' b2 [.pointer (some ⟨bd,0,none⟩)] 110/\Cel M' b3 [.int .i64 0] 3/\Cel M' b4 [.string (mkS s)] 9) hN h hw h0 rfl (by simp only[List.length_append,List.length_cons,List.length_nil];omega) (by decide) (by decide) (λb M36 hst hb=>qjL hN hst hw h1 h2 (by omega) hb) (λx b M41 M42 hst ⟨b1,b2,b3,b4,e,c1,c2,c3,c4⟩ hle=>?_)
 subst e
 exact qhi Tryz.func105 rfl (by decide) (qpO (Kp:=λch=>ch=qhR 12 0 false) hst rfl (c1.le hle) (c2.le hle) (c3.le hle) (c4.le hle))
end
end
end Go.Proofs.YtleaplmdgckmkaaGreatDoor.core
namespace Go.Proofs.YtleaplmdgckmkaaGreatDoor.core
open Go.Gx Go.RowKit Go.ChangeShapes Go.WideShapes Go.ChangeAt
set_option linter.unusedVariables false
def qaN (ls:List (List UInt8)):List UInt8:=ls.flatMap (·++[10])
def qcY (s:List UInt8):List (List UInt8):=(qgt 32 s).filter λw=>decide (w≠[])
theorem qkY:∀{ls:List (List UInt8)},(∀l∈ls,(10:UInt8)∉l)->qgt 10 (qaN ls)=ls++[[]]
 |[],_=>qil (c:=10) (a:=[]) (by simp)
 |l::r,h=>by
  have e:qaN (l::r)=l++10::qaN r:=by simp[qaN]
  rw[e,qeH (h l (List.mem_cons_self ..)),qkY λx hx=>h x (List.mem_cons_of_mem _ hx)]
  rfl
theorem qoy {V M M2:Mem} {e size n cap:Nat} {ad:Option Addr} {xs:List Value} (hle:V.le M) (h:qb8 M M2 e size ad n cap xs):
  ∃V2,V.le V2/\V2.le M2/\SlV V2 ad n cap size xs/\∀b,(M b).isSome=true->V b=none->V2 b=none:=by
 obtain⟨h1,h2,h3,⟨rfl,rfl,rfl,rfl⟩|⟨g,cur,rfl,hg,hc,ht,rfl⟩⟩:=h
 ·exact⟨V,Mem.le.refl V,hle,⟨h1,h2,h3,λg=>by omega⟩,λ_ _ q=>q⟩
 ·have hv:=qf3 hle hg
  have hnr:qb8 V (V.add g (.cells cur e (0,0))) e size (some ⟨g,0,none⟩) n cap xs:=⟨h1,h2,h3,.inr ⟨g,cur,rfl,hv,hc,ht,rfl⟩⟩
  refine⟨_,hnr.le,λb o hb=>?_,hnr.slv,λb hb hn=>?_⟩
  ·by_cases hbg:b=g
   ·subst hbg;rw[Mem.add_eq]at hb ⊢;exact hb
   ·rw[Mem.add_ne hbg]at hb ⊢;exact hle b o hb
  ·rw[Mem.add_ne (by rintro rfl;rw[hg]at hb;cases hb)];exact hn
def qhD (ans:Nat->List UInt8) (i:Nat):List UInt8:=(List.range i).flatMap λk=>ans k++[10]
theorem qca (ans:Nat->List UInt8) (i:Nat):qhD ans (i+1)=qhD ans i++(ans i++[10]):=by
 unfold qhD;rw[List.range_succ];simp
theorem qli {ans:Nat->List UInt8} (h:∀i,(ans i).length<=100000):∀i,(qhD ans i).length<=i*100001
 |0=>by simp[qhD]
 |i+1=>by
  have:=qli h i
  have:=h i
  rw[qca];simp only[List.length_append,List.length_cons,List.length_nil];omega
theorem qlV (a b:List UInt8):Lib.byteCells (a++b)=Lib.byteCells a++Lib.byteCells b:=by simp[Lib.byteCells]
theorem qqd {V0 M:Mem} {L:Nat->Prop} {ls:List (List UInt8)} {ans:Nat->List UInt8} (Ph:Nat->List Value->Mem->Prop) {K:Value->Mem->Prop} (hV:V0.le M) (hN:qfU V0)
  (hPm:∀i dc V V',V.le V'->Ph i dc V->Ph i dc V') (h0:Ph 0 (qcD [] false none 0 0) V0) (hls:∀l∈ls,(10:UInt8)∉l) (hlen:(qaN ls).length<=65536) (hn:ls.length<=100) (hans:∀i,(ans i).length<=100000)
  (hword:∀l∈ls,∃w,(qcY l)[0]?=some w/\w[0]?≠some 35)
  (hline:∀(i:Nat) line bd V M1 A n c dc (L':Nat->Prop),ls[i]?=some line->Ph i dc V->DSt V M1 bd dc->qfU V->SlV V A n c 1 (qec (qcY line))->L' bd->qaw Tryz.prog 30 #[.pointer (some ⟨bd,0,none⟩),.string (mkS line),.slice A n c] M1 L' (λv M'=>v= .string (mkS (ans i))/\∃V' dc',V.le V'/\Ph (i+1) dc' V'/\DSt V' M' bd dc'))
  (hK:∀M',K (.string (mkS (qhD ans ls.length))) M'):qdp (qaN ls) M L K:=by
 have hsp:=qkY hls
 unfold qdp
 refine(qaf.two hV (qpk hN (by omega))).mono λv M5 hle ⟨V1,hv1,hm1,hno1,A,hv,hsl⟩=>?_
 rw[hsp]at hv hsl
 simp only[List.length_append,List.length_cons,List.length_nil]at hv hsl
 refine⟨A,ls.length+1,ls.length+1,hv,by unfold InI;omega,?_⟩
 obtain⟨b,o,rfl,hat⟩:=hsl.2.2.2 (by omega)
 have hj:(((ls.length+1:Nat):Int)-1).toNat=ls.length:=by omega
 have hat':∀(j:Nat) x,(ls++[[]])[j]?=some x->∀M',V1.le M'->At M' b (o+j*1) [.string (mkS x)]:=λj x hx M' hl=>At.le (λk v hk=>by
  have:k=0:=by
   cases k with
   |zero=>rfl
   |succ k=>simp at hk
  subst this
  have:=hat j v (by unfold qec;rw[List.getElem?_map,hx];simpa using hk)
  rw[Nat.mul_one];exact this) hl
 refine⟨b,o,rfl,by omega,by omega,[],by rw[hj];exact hat' ls.length [] (by simp) M5 hm1,λ_=>⟨by unfold InI;omega,by omega,by omega,?_⟩,λg=>absurd rfl g⟩
 rw[hj]
 refine⟨λg=>by omega,λ_=>⟨λg=>by simp at g;omega,λ_ bd M14 hbd e14=>?_⟩⟩
 have hMbd:M bd=none:=qf3 hle hbd
 have hb14:DSt V1 M14 bd (qcD [] false none 0 0):=⟨hm1.trans (by rw[e14];exact Mem.add_le hbd),qf3 hm1 hbd,by rw[e14];exact Cel.add _ _⟩
 refine⟨Mem,λV x c rn rx M1=>∃k:Nat,x=k/\k<=ls.length/\rn=(qhD ans k).length/\rx=Lib.byteCells (qhD ans k)/\V1.le V/\∃dc,DSt V M1 bd dc/\Ph k dc V,λ_ x _ _ _=>ls.length-x.toNat,V1,⟨0,rfl,by omega,rfl,rfl,Mem.le.refl _,_,hb14,hPm _ _ _ _ hv1 h0⟩,λV x u rn rx M1 ⟨k,hx,hk,hrn,hrx,hVV,dc,hd,hp⟩=>⟨λhlt=>?_,λhge=>?_⟩⟩
 ·subst hx
  have hk':k<ls.length:=by omega
  obtain⟨line,hlk⟩:∃line,ls[k]?=some line:=⟨_,List.getElem?_eq_getElem hk'⟩
  have hmem:=List.mem_of_getElem? hlk
  have hNV:qfU V:=(hN.le hv1).le hVV
  have hll:line.length<=65536:=by
   have:line.length<=(qaN ls).length:=by
    unfold qaN
    obtain⟨p,q,hpq⟩:=List.append_of_mem hmem
    rw[hpq];simp;omega
   omega
  refine⟨b,o,rfl,by omega,hlt,line,by rw[Int.toNat_natCast];exact hat' k line (by rw[List.getElem?_append_left hk'];exact hlk) M1 (hVV.trans hd.le),?_⟩
  refine(qaf.two hd.le (qpk hNV (by omega))).mono λv M198 hle2 ⟨V2,hv2,hm2,hno2,A2,hv',hsl2⟩=>⟨A2,_,_,hv',?_⟩
  have hd2:DSt V2 M198 bd dc:=⟨hm2,hno2 bd (by rw[hd.cd];rfl) hd.nd,hd.cd.le hle2⟩
  have hpl:(qgt 32 line).length<=65537:=by
   have h1:=Lib.countB_le (mkS [32]) (Nat.le_refl 1) _ (mkS line) (Nat.le_refl _)
   have h2:(qgt 32 line).length=Lib.countB (mkS line) (mkS [32])+1:=by
    have hd':((Lib.splitB (mkS [32]) 0 (Lib.countB (mkS line) (mkS [32])) (mkS line)).map (·.data.toList))=qgt 32 line:=Lib.splitB_data _ _ _ _
    rw[<-hd',List.length_map]
    exact Lib.splitB_all (mkS [32]) (Nat.le_refl 1) 0 _ _ rfl
   rw[qcu]at h1;omega
  refine⟨λx rn rx=>∃j:Nat,x=j/\j<=(qgt 32 line).length/\rn=(((qgt 32 line).take j).filter λw=>decide (w≠[])).length/\rx=qec (((qgt 32 line).take j).filter λw=>decide (w≠[])),λx _ _=>(qgt 32 line).length-x.toNat,⟨0,rfl,by omega,rfl,rfl⟩,λx rn' rx' ⟨j,hx,hj',hrn',hrx'⟩=>⟨λhlt'=>?_,λhge'=>?_⟩⟩
  ·subst hx
   have hj2:j<(qgt 32 line).length:=by omega
   obtain⟨b2,o2,rfl,hat2⟩:=hsl2.2.2.2 (by omega)
   obtain⟨wd,hwd⟩:∃wd,(qgt 32 line)[j]?=some wd:=⟨_,List.getElem?_eq_getElem hj2⟩
   have htk:(qgt 32 line).take (j+1)=(qgt 32 line).take j++[wd]:=by rw[List.take_add_one,hwd];rfl
   have hfl:=List.length_filter_le (λw:List UInt8=>decide (w≠[])) ((qgt 32 line).take j)
   rw[List.length_take]at hfl
   refine⟨b2,o2,rfl,by omega,hlt',wd,λq v hq=>?_,λhne=>⟨?_,?_⟩,λhne=>?_⟩
   ·have:q=0:=by
     cases q with
     |zero=>rfl
     |succ q=>simp at hq
    subst this
    have:=(hat2.le hm2) j v (by unfold qec;rw[List.getElem?_map,hwd];simpa using hq)
    rw[Int.toNat_natCast,Nat.mul_one];exact this
   ·omega
   ·refine⟨by unfold InI;omega,⟨j+1,by omega,by omega,?_,?_⟩,by dsimp only;omega⟩
    ·rw[htk,List.filter_append,hrn'];simp[hne]
    ·rw[htk,List.filter_append,hrx'];simp[hne,qec]
   ·have hnil:wd=[]:=Decidable.not_not.1 hne
    refine⟨by unfold InI;omega,⟨j+1,by omega,by omega,?_,?_⟩,by dsimp only;omega⟩
    ·rw[htk,List.filter_append,hrn'];simp[hnil]
    ·rw[htk,List.filter_append,hrx'];simp[hnil]
  ·subst hx
   have hjj:j=(qgt 32 line).length:=by omega
   subst hjj
   rw[List.take_length]at hrn' hrx'
   have hrn2:rn'=(qcY line).length:=hrn'
   have hrx2:rx'=qec (qcY line):=hrx'
   obtain⟨w0,hw0,hw35⟩:=hword line hmem
   have hpos:0<(qcY line).length:=(List.getElem?_eq_some_iff.1 hw0).1
   have hw0ne:w0≠[]:=by
    have:=List.mem_of_getElem? hw0
    unfold qcY at this
    simpa using(List.mem_filter.1 this).2
   obtain⟨c0,r0,rfl⟩:∃c0 r0,w0=c0::r0:=by
    cases w0 with
    |nil=>exact absurd rfl hw0ne
    |cons c r=>exact⟨c,r,rfl⟩
   have hc35:c0≠35:=λe=>hw35 (by rw[e];rfl)
   refine⟨λg=>by omega,λ_=>⟨by decide,by omega,c0::r0,?_,c0,by decide,rfl,?_⟩⟩
   ·rw[hrx2]
    obtain⟨t,ht⟩:∃t,qcY line=(c0::r0)::t:=by
     cases h:qcY line with
     |nil=>rw[h]at hw0;simp at hw0
     |cons a t=>rw[h]at hw0;exact⟨t,by rw[Option.some.inj hw0]⟩
    rw[ht];rfl
   ·have hb0:((c0.toNat:Int)==(35:Int))=false:=by
     rw[beq_eq_false_iff_ne]
     intro e
     exact hc35 (UInt8.toNat_inj.1 (by show c0.toNat=35;omega))
    rw[hb0]
    refine⟨λg=>absurd g (by decide),λ_ M250 ad cap hnr=>?_⟩
    subst hrn2 hrx2
    obtain⟨V3,hv3,hm3,hs3,hno3⟩:=qoy hm2 hnr
    have hd3:DSt V3 M250 bd dc:=⟨hm3,hno3 bd (by rw[hd2.cd];rfl) hd2.nd,hd2.cd.le hnr.le⟩
    have hVV3:V.le V3:=hv2.trans hv3
    refine(hline k line bd V3 M250 ad _ cap dc (Wr L M) hlk (hPm _ _ _ _ hVV3 hp) hd3 (hNV.le hVV3) hs3 (.inr hMbd)).mono (λ_ q=>q) λv M252 _ ⟨hq,V4,dc4,hv4,hp4,hd4⟩=>⟨_,hq,?_⟩
    have hol:=qli hans k
    have hak:=hans k
    have hk100:k*100001<=100*100001:=Nat.mul_le_mul_right _ (by omega)
    refine qsb _ _ _ _ _ (by omega) _ ⟨_,_,rfl,qqI _ _ _ _ _ (by omega) _ ⟨_,rfl,?_⟩⟩
    refine⟨by unfold InI;omega,V4,⟨k+1,by omega,by omega,?_,?_,hVV.trans (hVV3.trans hv4),dc4,hd4,hp4⟩,by dsimp only;omega⟩
    ·rw[qca,hrn];simp only[List.length_append,List.length_cons,List.length_nil];omega
    ·rw[qca,hrx,qlV,qlV,<-List.append_assoc];rfl
 ·subst hx
  have:k=ls.length:=by omega
  subst this
  exact⟨_,hrx,hK⟩
end Go.Proofs.YtleaplmdgckmkaaGreatDoor.core
namespace Go.Proofs.YtleaplmdgckmkaaGreatDoor.core
open Go.Gx Go.RowKit Go.ChangeShapes Go.WideShapes Go.ChangeAt
set_option linter.unusedVariables false
theorem qp3:∀n:Nat,n<16->qro n≠10:=by decide
theorem qm0 (signs:List UInt8) (low:Nat) (b:UInt8):(10:UInt8)∉qbz signs low b:=by
 have hb:=b.toNat_lt
 unfold qbz
 split
 ·decide
 ·rename_i h10
  have hne:b≠10:=λe=>h10 (by rw[e];rfl)
  split
  ·decide
  ·split
   ·have h1:=qp3 (b.toNat / 16) (by omega)
    have h2:=qp3 (b.toNat % 16) (by omega)
    intro h
    simp only[List.mem_cons,List.not_mem_nil,or_false]at h
    rcases h with h|h|h|h
    ·exact absurd h (by decide)
    ·exact absurd h (by decide)
    ·exact h1 h.symm
    ·exact h2 h.symm
   ·split
    ·intro h
     simp only[List.mem_cons,List.not_mem_nil,or_false]at h
     rcases h with h|h
     ·exact absurd h (by decide)
     ·exact hne h.symm
    ·intro h
     simp only[List.mem_cons,List.not_mem_nil,or_false]at h
     exact hne h.symm
theorem qrR (s:List UInt8):(10:UInt8)∉qdV s:=by
 unfold qdV
 intro h
 simp only[List.mem_append,List.mem_cons,List.not_mem_nil,or_false,List.mem_flatMap]at h
 rcases h with(h|⟨b,_,h⟩)|h
 ·exact absurd h (by decide)
 ·exact qm0 _ _ _ h
 ·exact absurd h (by decide)
theorem qfr {a b:List UInt8} (ha:(10:UInt8)∉a) (hb:(10:UInt8)∉b):(10:UInt8)∉a++b:=λh=>(List.mem_append.1 h).elim ha hb
theorem qtm (a b:Nat):(10:UInt8)∉qhq a b:=by
 have h:∀x,(10:UInt8)∉shC x:=λx=>qm0 _ _ _
 unfold qhq
 refine qfr (h a) ?_
 split
 ·simp
 ·split
  ·exact h b
  ·exact qfr (by decide) (h b)
theorem qr3 (p:Nat->Bool):∀n,(10:UInt8)∉qgD p n
 |0=>by simp[qgD]
 |n+1=>by
  rw[qgD]
  intro h
  rcases List.mem_append.1 h with h|h
  ·exact qr3 p n h
  ·split at h
   ·exact qtm _ _ h
   ·simp at h
theorem qtk (s:qab):(10:UInt8)∉qm1 s:=by
 unfold qm1
 split
 ·decide
 ·intro h
  simp only[List.mem_append,List.mem_cons,List.not_mem_nil,or_false]at h
  rcases h with(h|h)|h
  ·exact absurd h (by decide)
  ·exact qr3 _ _ h
  ·exact absurd h (by decide)
theorem qpK {s:List UInt8} (h:qc2 s=true):(10:UInt8)∉s:=by
 obtain⟨c,l,rfl,hc,hl,_⟩:=qdU h
 intro hm
 rcases List.mem_cons.1 hm with e|hm
 ·rw[<-e]at hc;exact absurd hc (by decide)
 ·exact absurd (hl 10 hm) (by decide)
theorem qmy {sep:List UInt8} (hs:(10:UInt8)∉sep):∀{zs:List (List UInt8)},(∀z∈zs,(10:UInt8)∉z)->(10:UInt8)∉Lib.join zs sep
 |[],_=>by simp[Lib.join_nil]
 |[z],h=>by rw[Lib.join_one];exact h z (List.mem_cons_self ..)
 |z::y::r,h=>by
  have e:Lib.join (z::y::r) sep=z++sep++Lib.join (y::r) sep:=by simp[Lib.join,List.intercalate]
  rw[e]
  intro hm
  rcases List.mem_append.1 hm with hm|hm
  ·rcases List.mem_append.1 hm with hm|hm
   ·exact h z (List.mem_cons_self ..) hm
   ·exact hs hm
  ·exact qmy hs (λx hx=>h x (List.mem_cons_of_mem _ hx)) hm
theorem qlx {l:List (List UInt8)} (h:∀z∈l,(10:UInt8)∉z) (i:Nat):(10:UInt8)∉(l[i]?).getD []:=by
 cases hi:l[i]? with
 |none=>simp
 |some z=>exact h z (List.mem_of_getElem? hi)
theorem qrI:∀(n:Nat) (e:Ex),SizeOf.sizeOf e<n->qgK e->(10:UInt8)∉txE e
 |0,_,h,_=>absurd h (Nat.not_lt_zero _)
 |n+1,e,hn,hf=>by
  have hk:∀z∈e.kids.map (wiT (qbP e.kind)),(10:UInt8)∉z:=λz hz=>by
   obtain⟨k,hk,rfl⟩:=List.mem_map.1 hz
   have ih:=qrI n k (by have:=Ex.kid_lt hk;omega) (hf.kid k hk)
   unfold wiT
   split
   ·unfold brT
    exact qfr (qfr (by decide) ih) (by decide)
   ·exact ih
  rw[qdZ]
  unfold qdk
  split
  ·decide
  ·split
   ·exact qtk _
   ·split
    ·exact qrR _
    ·split
     ·rename_i h4;exact qpK (qkA hf.fit h4)
     ·split
      ·exact qmy (by decide) hk
      ·split
       ·exact qmy (by decide) hk
       ·split
        ·exact qfr (by decide) (qlx hk 0)
        ·split
         ·exact qfr (by decide) (qlx hk 0)
         ·split
          ·exact qfr (qlx hk 0) (by decide)
          ·split
           ·exact qfr (qlx hk 0) (by decide)
           ·exact qfr (qlx hk 0) (by decide)
def ruL (r:Ru):List UInt8:=r.name++(32::60::45::32::txE r.body)
def grL (rs:List Ru):List (List UInt8):=rs.map ruL
theorem qe5 (rs:List Ru):qeD rs=qaN (grL rs):=by
 unfold qeD qaN grL
 induction rs with
 |nil=>rfl
 |cons r t ih=>rw[List.map_cons,List.flatMap_cons,List.flatMap_cons,ih];simp[qou,ruL]
theorem qtK {rs:List Ru} (h:∀r∈rs,qc2 r.name=true/\qgK r.body):∀l∈grL rs,(10:UInt8)∉l:=λl hl=>by
 obtain⟨r,hr,rfl⟩:=List.mem_map.1 hl
 unfold ruL
 have:=qrI _ r.body (Nat.lt_succ_self _) (h r hr).2
 refine qfr (qpK (h r hr).1) ?_
 intro hm
 simp only[List.mem_cons]at hm
 rcases hm with e|e|e|e|e
 ·exact absurd e (by decide)
 ·exact absurd e (by decide)
 ·exact absurd e (by decide)
 ·exact absurd e (by decide)
 ·exact this e
def qlt:List (List UInt8)->List UInt8
 |[]=>[]
 |[a]=>a
 |a::r=>a++10::qlt r
theorem qjQ:∀{ls:List (List UInt8)},ls≠[]->qaN ls=qlt ls++[10]
 |[],h=>absurd rfl h
 |[a],_=>by simp[qaN,qlt]
 |a::b::r,_=>by
  have ih:=qjQ (ls:=b::r) (by simp)
  have e:qaN (a::b::r)=a++10::qaN (b::r):=by simp[qaN]
  rw[e,ih];simp[qlt]
theorem qmZ:∀{ls:List (List UInt8)},ls≠[]->(∀l∈ls,(10:UInt8)∉l)->qgt 10 (qlt ls)=ls
 |[],h,_=>absurd rfl h
 |[a],_,h=>qil (h a (List.mem_cons_self ..))
 |a::b::r,_,h=>by
  show qgt 10 (a++10::qlt (b::r))=_
  rw[qeH (h a (List.mem_cons_self ..)),qmZ (by simp) λx hx=>h x (List.mem_cons_of_mem _ hx)]
theorem qn4 (x:List UInt8) (c:UInt8):Lib.trimSuffix (x++[c]) [c]=x:=by
 unfold Lib.trimSuffix Lib.hasSuffix
 simp
end Go.Proofs.YtleaplmdgckmkaaGreatDoor.core
namespace Go.Proofs.YtleaplmdgckmkaaGreatDoor.core
open Go.Gx Go.RowKit Go.ChangeShapes Go.WideShapes Go.ChangeAt
set_option linter.unusedVariables false
def dlT (rs:List Ru) (s:List UInt8):List (List UInt8):=(grL rs).map ([114,117,108,101,32]++·)++[[108,111,97,100,32,48],[109,97,116,99,104,32,48,32]++qdV s,[115,104,111,119,32,48]]
theorem ql6 (r:List UInt8):(qcY ([114,117,108,101,32]++r))[0]?=some [114,117,108,101]:=by
 have e:([114,117,108,101,32]:List UInt8)++r=[114,117,108,101]++32::r:=rfl
 unfold qcY
 rw[e,qeH (by decide)]
 rfl
theorem qju (a:List UInt8) (ha:(32:UInt8)∉a) (hn:a≠[]):qcY (a++32::[48])=[a,[48]]:=by
 unfold qcY
 rw[qeH ha,qil (by decide)]
 simp[hn]
theorem qjY {w:List UInt8} (h:(32:UInt8)∉w) (hn:w≠[]):qcY ([109,97,116,99,104,32,48,32]++w)=[[109,97,116,99,104],[48],w]:=by
 have e:([109,97,116,99,104,32,48,32]:List UInt8)++w=[109,97,116,99,104]++32::([48]++32::w):=rfl
 unfold qcY
 rw[e,qeH (by decide),qeH (by decide),qil h]
 simp[hn]
theorem qmv (s:List UInt8):qdV s≠[]:=by unfold qdV;simp
theorem qf5 (s:List UInt8):(qdV s).length<=4*s.length+2:=by
 have:(s.flatMap (qbz [39,92] 32)).length<=4*s.length:=by
  induction s with
  |nil=>simp
  |cons c t ih=>
   have:=qfY [39,92] 32 c
   rw[List.flatMap_cons,List.length_append,List.length_cons];omega
 unfold qdV
 simp only[List.length_append,List.length_cons,List.length_nil];omega
theorem qls (ls:List (List UInt8)):(qaN (ls.map ([114,117,108,101,32]++·))).length=(qaN ls).length+5*ls.length:=by
 unfold qaN
 induction ls with
 |nil=>rfl
 |cons a t ih=>rw[List.map_cons,List.flatMap_cons,List.flatMap_cons,List.length_append,List.length_append,ih];simp only[List.length_append,List.length_cons,List.length_nil];omega
theorem qg6 (a b:List (List UInt8)):qaN (a++b)=qaN a++qaN b:=by unfold qaN;rw[List.flatMap_append]
theorem qr0 {rs:List Ru} {s:List UInt8} (h1:(qeD rs).length<=1900) (h2:rs.length<=90) (h3:s.length<=60):(qaN (dlT rs s)).length<=65536/\(dlT rs s).length<=100:=by
 have hl:=qf5 s
 have hm:=qls (grL rs)
 have hg:(grL rs).length=rs.length:=by simp[grL]
 rw[<-qe5,hg]at hm
 unfold dlT
 rw[qg6,List.length_append,List.length_append,hm,List.length_map,hg]
 simp only[qaN,List.flatMap_cons,List.flatMap_nil,List.length_append,List.length_cons,List.length_nil]
 omega
theorem qtQ {rs:List Ru} {s:List UInt8} (h:∀r∈rs,qc2 r.name=true/\qgK r.body):∀l∈dlT rs s,(10:UInt8)∉l:=λl hl=>by
 unfold dlT at hl
 rcases List.mem_append.1 hl with hl|hl
 ·obtain⟨r,hr,rfl⟩:=List.mem_map.1 hl
  exact qfr (by decide) (qtK h r hr)
 ·simp only[List.mem_cons,List.not_mem_nil,or_false]at hl
  rcases hl with rfl|rfl|rfl
  ·decide
  ·exact qfr (by decide) (qrR s)
  ·decide
theorem qqe {rs:List Ru} {s:List UInt8} (h:(32:UInt8)∉qdV s):∀l∈dlT rs s,∃w,(qcY l)[0]?=some w/\w[0]?≠some 35:=λl hl=>by
 unfold dlT at hl
 rcases List.mem_append.1 hl with hl|hl
 ·obtain⟨r,hr,rfl⟩:=List.mem_map.1 hl
  exact⟨_,ql6 r,by decide⟩
 ·simp only[List.mem_cons,List.not_mem_nil,or_false]at hl
  rcases hl with rfl|rfl|rfl
  ·exact⟨_,congrArg (·[0]?) (qju [108,111,97,100] (by decide) (by decide)),by decide⟩
  ·exact⟨_,congrArg (·[0]?) (qjY h (qmv s)),by decide⟩
  ·exact⟨_,congrArg (·[0]?) (qju [115,104,111,119] (by decide) (by decide)),by decide⟩
theorem qr1 {rs:List Ru} {s:List UInt8} {i:Nat} {line:List UInt8} (h:(dlT rs s)[i]?=some line):(i<rs.length/\∃r,(grL rs)[i]?=some r/\line=[114,117,108,101,32]++r)\/(i=rs.length/\line=[108,111,97,100,32,48])\/(i=rs.length+1/\line=[109,97,116,99,104,32,48,32]++qdV s)\/(i=rs.length+2/\line=[115,104,111,119,32,48]):=by
 have hg:(grL rs).length=rs.length:=by simp[grL]
 unfold dlT at h
 rcases Nat.lt_or_ge i rs.length with hi|hi
 ·rw[List.getElem?_append_left (by rw[List.length_map,hg];exact hi),List.getElem?_map]at h
  obtain⟨r,h1,h2⟩:=Option.map_eq_some_iff.1 h
  exact .inl ⟨hi,r,h1,h2.symm⟩
 ·rw[List.getElem?_append_right (by rw[List.length_map,hg];exact hi),List.length_map,hg]at h
  obtain⟨j,rfl⟩:∃j,i=rs.length+j:=⟨i-rs.length,by omega⟩
  rw[Nat.add_sub_cancel_left]at h
  match j,h with
  |0,h=>exact .inr (.inl ⟨rfl,(Option.some.inj h).symm⟩)
  |1,h=>exact .inr (.inr (.inl ⟨rfl,(Option.some.inj h).symm⟩))
  |2,h=>exact .inr (.inr (.inr ⟨rfl,(Option.some.inj h).symm⟩))
  |j+3,h=>simp at h
theorem qiu {ls:List (List UInt8)} {i:Nat} {r:List UInt8} (h:ls[i]?=some r):qaN (ls.take (i+1))=qaN (ls.take i)++r++[10]:=by
 rw[List.take_add_one,h,qg6]
 simp[qaN]
theorem qj6 (ls:List (List UInt8)) (i:Nat):(qaN (ls.take i)).length<=(qaN ls).length:=by
 have:=congrArg (λl=>(qaN l).length) (List.take_append_drop i ls)
 simp only[qg6,List.length_append]at this
 omega
def qmJ (rs:List Ru) (r e:Int) (k:Nat):List UInt8:=if k<rs.length then[111,107] else if k=rs.length then([101,114,114,111,114,32]:List UInt8)++Lib.itoa e++(([32]:List UInt8)++Lib.itoa r) else([101,114,114,111,114,32]:List UInt8)++Lib.itoa 12
def qmI (rs:List Ru) (o:qah) (k:Nat):List UInt8:=if k<rs.length then[111,107] else if k=rs.length then([111,107,32]:List UInt8)++Lib.itoa (ql1 rs:Nat) else if k=rs.length+1 then qiS o else qdV (qeD rs)
theorem qoU {V:Mem} {A:Option Addr} {n c:Nat} {ws:List (List UInt8)} (h:SlV V A n c 1 (qec ws)):n=ws.length:=by
 have:=h.1
 simp[qec]at this
 exact this.symm
theorem qrw {M:Mem} {L:Nat->Prop} {rs:List Ru} {s:List UInt8} {r e:Int} {K:Value->Mem->Prop} (hN:qfU M) (hall:∀r∈rs,qc2 r.name=true/\qgK r.body) (h1:(qeD rs).length<=1900) (h2:rs.length<=90) (h3:s.length<=60) (h4:(32:UInt8)∉qdV s)
  (hr:qlY (qeD rs) rs 0 0) (hwl:qdY rs=(r,e)) (he:e≠0) (hI:InI e) (hJ:InI r) (hK:∀M',K (.string (mkS (qhD (qmJ rs r e) (rs.length+3)))) M'):qdp (qaN (dlT rs s)) M L K:=by
 obtain⟨q1,q2⟩:=qr0 h1 h2 h3
 have hg:(grL rs).length=rs.length:=by simp[grL]
 have hll:=qf5 s
 have i1:=qbE hI
 have i2:=qbE hJ
 have i3:=qbE (z:=12) (by unfold InI;omega)
 refine qqd (V0:=M) (ans:=qmJ rs r e) (λi dc _=>dc=qcD (qaN ((grL rs).take i)) false none 0 0) (Mem.le.refl M) hN (λ_ _ _ _ _ h=>h) rfl (qtQ hall) q1 q2 (λi=>?_) (qqe h4) (λi line bd V M1 A n c dc L' hi hp hd hNV hw hL=>?_) (by rw[show(dlT rs s).length=rs.length+3 by simp[dlT,hg]];exact hK)
 ·unfold qmJ
  split
  ·simp
  ·split
   ·simp only[List.length_append,List.length_cons,List.length_nil];omega
   ·simp only[List.length_append,List.length_cons,List.length_nil];omega
 ·subst hp
  have hn:=qoU hw
  have full:∀j,rs.length<=j->qaN ((grL rs).take j)=qeD rs:=λj hj=>by rw[List.take_of_length_le (by omega),<-qe5]
  rcases qr1 hi with⟨hlt,r',hr',rfl⟩|⟨rfl,rfl⟩|⟨rfl,rfl⟩|⟨rfl,rfl⟩
  ·have ht:=qiu hr'
   have hlen:=qj6 (grL rs) (i+1)
   rw[ht,<-qe5]at hlen
   simp only[List.length_append,List.length_cons,List.length_nil]at hlen
   refine(qnd hNV hd hw (ql6 r') (by omega) hL).mono (λ_ q=>q) λv M' _ ⟨hv,hd'⟩=>⟨?_,V,_,Mem.le.refl V,rfl,?_⟩
   ·unfold qmJ;rw[if_pos hlt];exact hv
   ·rw[ht];exact hd'
  ·have hws:=qju [108,111,97,100] (by decide) (by decide)
   have hws':qcY [108,111,97,100,32,48]=[[108,111,97,100],[48]]:=hws
   rw[hws']at hn hw
   obtain rfl:n=2:=hn
   rw[full _ (Nat.le_refl _)]at hd
   refine(qlk hNV hd hw rfl rfl hr hwl he hI hJ).mono (λ_ q=>q) λv M' _ ⟨hv,hle⟩=>⟨?_,V,_,Mem.le.refl V,rfl,?_⟩
   ·unfold qmJ;rw[if_neg (by omega),if_pos rfl];exact hv
   ·rw[full _ (by omega)];exact hd.to hle
  ·rw[qjY h4 (qmv s)]at hn hw
   obtain rfl:n=3:=hn
   refine(qkk hNV hd (by omega) hw rfl rfl rfl).mono (λ_ q=>q) λv M' _ ⟨hv,hle⟩=>⟨?_,V,_,Mem.le.refl V,rfl,?_⟩
   ·unfold qmJ;rw[if_neg (by omega),if_neg (by omega)];exact hv
   ·rw[full _ (by omega),<-full (rs.length+1) (by omega)];exact hd.to hle
  ·have hws:qcY [115,104,111,119,32,48]=[[115,104,111,119],[48]]:=qju [115,104,111,119] (by decide) (by decide)
   rw[hws]at hn hw
   obtain rfl:n=2:=hn
   refine(qlj hNV hd hw rfl rfl).mono (λ_ q=>q) λv M' _ ⟨hv,hle⟩=>⟨?_,V,_,Mem.le.refl V,rfl,?_⟩
   ·unfold qmJ;rw[if_neg (by omega),if_neg (by omega)];exact hv
   ·rw[full _ (by omega),<-full (rs.length+2) (by omega)];exact hd.to hle
theorem qqg {M:Mem} {L:Nat->Prop} {rs:List Ru} {s:List UInt8} {o:qah} {K:Value->Mem->Prop} (hN:qfU M) (hT:qnQ M 4 qoN) (hall:∀r∈rs,qc2 r.name=true/\qgK r.body) (h1:(qeD rs).length<=1900) (h2:rs.length<=90) (h3:s.length<=60) (h4:(32:UInt8)∉qdV s)
  (hr:qlY (qeD rs) rs 0 0) (hg0:qaZ rs=0) (hwl:qdY rs=(0,0)) (hsz:ql1 rs<=1000000) (hk0:qfL rs s=0) (ho:∀E,Tab rs s E->qhE (E 0 0) 0=o) (hI:InI o.N) (hK:∀M',K (.string (mkS (qhD (qmI rs o) (rs.length+3)))) M'):qdp (qaN (dlT rs s)) M L K:=by
 obtain⟨q1,q2⟩:=qr0 h1 h2 h3
 have hg:(grL rs).length=rs.length:=by simp[grL]
 have hll:=qf5 s
 have hlg:=qf5 (qeD rs)
 have i1:=qbE (z:=((ql1 rs:Nat):Int)) (by unfold InI;omega)
 have i2:=qbE hI
 refine qqd (V0:=M) (ans:=qmI rs o) (λi dc V=>qnQ V 4 qoN/\(i<=rs.length->dc=qcD (qaN ((grL rs).take i)) false none 0 0)/\(rs.length<i->∃a' c',dc=qcD (qeD rs) true a' rs.length c'/\GrR V rs a' rs.length c')) (Mem.le.refl M) hN (λi dc V V' hl ⟨a,b,c⟩=>⟨a.le hl,b,λg=>let⟨a',c',e1,e2⟩:=c g;⟨a',c',e1,e2.le hl⟩⟩) ⟨hT,λ_=>rfl,λg=>by omega⟩ (qtQ hall) q1 q2 (λi=>?_) (qqe h4) (λi line bd V M1 A n c dc L' hi hp hd hNV hw hL=>?_) (by rw[show(dlT rs s).length=rs.length+3 by simp[dlT,hg]];exact hK)
 ·unfold qmI
  split
  ·simp
  ·split
   ·simp only[List.length_append,List.length_cons,List.length_nil];omega
   ·split
    ·unfold qiS
     split
     ·simp only[List.length_append,List.length_cons,List.length_nil];omega
     ·simp
    ·omega
 ·obtain⟨hTV,p1,p2⟩:=hp
  have hn:=qoU hw
  have full:∀j,rs.length<=j->qaN ((grL rs).take j)=qeD rs:=λj hj=>by rw[List.take_of_length_le (by omega),<-qe5]
  rcases qr1 hi with⟨hlt,r',hr',rfl⟩|⟨rfl,rfl⟩|⟨rfl,rfl⟩|⟨rfl,rfl⟩
  ·obtain rfl:=p1 (by omega)
   have ht:=qiu hr'
   have hlen:=qj6 (grL rs) (i+1)
   rw[ht,<-qe5]at hlen
   simp only[List.length_append,List.length_cons,List.length_nil]at hlen
   refine(qnd hNV hd hw (ql6 r') (by omega) hL).mono (λ_ q=>q) λv M' _ ⟨hv,hd'⟩=>⟨?_,V,_,Mem.le.refl V,⟨hTV,λ_=>rfl,λg=>by omega⟩,?_⟩
   ·unfold qmI;rw[if_pos hlt];exact hv
   ·rw[ht];exact hd'
  ·obtain rfl:=p1 (Nat.le_refl _)
   have hws':qcY [108,111,97,100,32,48]=[[108,111,97,100],[48]]:=qju [108,111,97,100] (by decide) (by decide)
   rw[hws']at hn hw
   obtain rfl:n=2:=hn
   rw[full _ (Nat.le_refl _)]at hd
   refine(qra hNV hd hw rfl rfl hr hg0 hwl hsz hL).mono (λ_ q=>q) λv M' _ ⟨hv,V',a',c',hle,hg',hd'⟩=>⟨?_,V',_,hle,⟨hTV.le hle,λg=>by omega,λ_=>⟨a',c',rfl,hg'⟩⟩,hd'⟩
   unfold qmI;rw[if_neg (by omega),if_pos rfl];exact hv
  ·obtain⟨a',c',rfl,hg'⟩:=p2 (by omega)
   rw[qjY h4 (qmv s)]at hn hw
   obtain rfl:n=3:=hn
   refine(qpG hNV hd hg' hk0 ho hI (by omega) hw rfl rfl rfl).mono (λ_ q=>q) λv M' _ ⟨hv,hd'⟩=>⟨?_,V,_,Mem.le.refl V,⟨hTV,λg=>by omega,λ_=>⟨a',c',rfl,hg'⟩⟩,hd'⟩
   unfold qmI;rw[if_neg (by omega),if_neg (by omega),if_pos rfl];exact hv
  ·obtain⟨a',c',rfl,hg'⟩:=p2 (by omega)
   have hws:qcY [115,104,111,119,32,48]=[[115,104,111,119],[48]]:=qju [115,104,111,119] (by decide) (by decide)
   rw[hws]at hn hw
   obtain rfl:n=2:=hn
   refine(qq9 hNV hTV hd hg' hg0 (by omega) hw rfl rfl).mono (λ_ q=>q) λv M' _ ⟨hv,hd'⟩=>⟨?_,V,_,Mem.le.refl V,⟨hTV,λg=>by omega,λ_=>⟨a',c',rfl,hg'⟩⟩,hd'⟩
   unfold qmI;rw[if_neg (by omega),if_neg (by omega),if_neg (by omega)];exact hv
theorem qkf (ans:Nat->List UInt8):∀n,(∀k,k<n->ans k=[111,107])->qhD ans n=Lib.repeatL [111,107,10] n
 |0,_=>rfl
 |n+1,h=>by
  rw[qca,qkf ans n λk hk=>h k (by omega),h n (by omega),Lib.repeatL_add _ n 1,Lib.repeatL_one];rfl
theorem qq6 (rs:List Ru) (r e:Int):qhD (qmJ rs r e) (rs.length+3)=Lib.repeatL [111,107,10] rs.length++[101,114,114,111,114,32]++Lib.itoa e++[32]++Lib.itoa r++[10,101,114,114,111,114,32,49,50,10,101,114,114,111,114,32,49,50,10]:=by
 have h12:Lib.itoa 12=[49,50]:=by unfold Lib.itoa Lib.decDigits Lib.decDigits;rfl
 rw[qca,qca,qca,qkf _ _ λk hk=>by unfold qmJ;rw[if_pos hk]]
 have a0:qmJ rs r e rs.length=([101,114,114,111,114,32]:List UInt8)++Lib.itoa e++(([32]:List UInt8)++Lib.itoa r):=by unfold qmJ;rw[if_neg (by omega),if_pos rfl]
 have a1:qmJ rs r e (rs.length+1)=([101,114,114,111,114,32]:List UInt8)++[49,50]:=by unfold qmJ;rw[if_neg (by omega),if_neg (by omega),h12]
 have a2:qmJ rs r e (rs.length+2)=([101,114,114,111,114,32]:List UInt8)++[49,50]:=by unfold qmJ;rw[if_neg (by omega),if_neg (by omega),h12]
 rw[a0,a1,a2]
 simp
theorem qlh (rs:List Ru) (o:qah):qhD (qmI rs o) (rs.length+3)=Lib.repeatL [111,107,10] rs.length++(([111,107,32]:List UInt8)++Lib.itoa (ql1 rs:Nat)++[10])++(qiS o++[10])++qdV (qeD rs)++[10]:=by
 rw[qca,qca,qca,qkf _ _ λk hk=>by unfold qmI;rw[if_pos hk]]
 have a0:qmI rs o rs.length=([111,107,32]:List UInt8)++Lib.itoa (ql1 rs:Nat):=by unfold qmI;rw[if_neg (by omega),if_pos rfl]
 have a1:qmI rs o (rs.length+1)=qiS o:=by unfold qmI;rw[if_neg (by omega),if_neg (by omega),if_pos rfl]
 have a2:qmI rs o (rs.length+2)=qdV (qeD rs):=by unfold qmI;rw[if_neg (by omega),if_neg (by omega),if_neg (by omega)]
 rw[a0,a1,a2]
 simp
theorem qn9 (rs:List Ru) (s:List UInt8):qaN ((grL rs).map ([114,117,108,101,32]++·))++[108,111,97,100,32,48,10,109,97,116,99,104,32,48,32]++qdV s++[10,115,104,111,119,32,48,10]=qaN (dlT rs s):=by
 unfold dlT
 rw[qg6]
 simp[qaN]
theorem qoV {rs:List Ru} (h:(qdY rs).2=0):qdY rs=(0,0):=by
 unfold qdY at h ⊢
 split at h
 ·rename_i h1;exact absurd h h1
 ·rename_i h1
  rw[if_neg h1]
  split at h
  ·cases h
  ·rename_i h2
   rw[if_neg h2]
   split at h
   ·cases h
   ·rename_i h3;rw[if_neg h3]
theorem qp6:∀(l:List Bool) (i:Int),0<=i-> -1<=qhM l i/\qhM l i<=i+l.length
 |[],i,h=>by unfold qhM;simp;omega
 |b::t,i,h=>by
  have:=qp6 t (i+1) (by omega)
  unfold qhM
  rw[List.length_cons]
  split<;>omega
theorem qsf {rs:List Ru} (hg0:qaZ rs=0) (h10:rs.length<=10) (hw:(qoP rs).length=rs.length):InI (qdY rs).1/\InI (qdY rs).2:=by
 have h1:=qp6 (rs.map λr=>qgz rs (qc3 rs) r.body) 0 (by omega)
 have h2:=qp6 ((qoP rs).map (!·)) 0 (by omega)
 rw[List.length_map]at h1 h2
 unfold qdY InI
 rw[if_neg (λg=>g hg0)]
 split
 ·dsimp only;omega
 ·split
  ·dsimp only;omega
  ·dsimp only;omega
end Go.Proofs.YtleaplmdgckmkaaGreatDoor.core
namespace Go.Proofs.YtleaplmdgckmkaaGreatDoor.core
open Go.Gx Go.RowKit Go.ChangeShapes Go.WideShapes Go.ChangeAt
set_option linter.unusedVariables false
theorem qrC:(Rows.laid_math_bits_deBruijn64tab:DataW Unit)=Lib.tabData .u8 (qoN.map λ(n:Nat)=>(n:Int)):=by kernel_rfl
theorem qsl {W:World} (h:Lib.VarReads Tryz.prog W "math/bits.deBruijn64tab" Rows.laid_math_bits_deBruijn64tab):qnQ (HM W) 4 qoN:=by
 obtain⟨g,t,cs,fuel,p,hg,hty,hvar,hd⟩:=h
 obtain rfl:=Option.some.inj ((show Tryz.prog.globalNamed "math/bits.deBruijn64tab"=some 4 by kernel_rfl).symm.trans hg)
 obtain rfl:=Option.some.inj ((show(Tryz.prog.globals[4]?).map (·.type)=some 250 by kernel_rfl).symm.trans hty)
 rw[qrC]at hd
 have hcs:=Lib.cells_of_tab (n:=64) (e:=5) (by kernel_rfl) (by kernel_rfl) (by kernel_rfl) (by kernel_rfl) hd
 intro i z hz
 refine HM.cell ?_
 rw[World.var?_cell hg hvar i,<-Array.getElem?_toList,hcs,List.getElem?_map,List.getElem?_map,hz];rfl
end Go.Proofs.YtleaplmdgckmkaaGreatDoor.core
namespace Go.Proofs.YtleaplmdgckmkaaGreatDoor.core
open Go.Gx Go.RowKit Go.ChangeShapes Go.WideShapes Go.ChangeAt
set_option linter.unusedVariables false
noncomputable def quc (rs:List Ru) (s:List UInt8):Bool:= @decide (∃E,Tab rs s E/\E 0 0=(s.length:Int)) (Classical.propDecidable _)
theorem qr7 {rs:List Ru} {s:List UInt8} {E:Nat->Nat->Int} (hw:qcU rs) (hT:Tab rs s E):quc rs s=decide (E 0 0=(s.length:Int)):=by
 have h11:=hw.ok.one
 unfold quc
 rw[decide_eq_decide]
 exact⟨λ⟨E',hT',h⟩=>by rw[qmW hw hT hT' (p:=0) (i:=0) (by omega) h11];exact h,λh=>⟨E,hT,h⟩⟩
theorem qmw {rs:List Ru} {s:List UInt8} {ga:Option Addr} {gl gc:Nat} {M:Mem} {K:Value->Prop} (hg:GrR M rs ga gl gc) (h1:qfL rs s≠0->K (.tuple #[.bool false,.int .i64 (qfL rs s)])) (h2:qfL rs s=0->K (.tuple #[.bool (quc rs s),.int .i64 0])):qdq ga gl gc s M K:=by
 unfold qdq
 refine qhQ _ _ _ _ _ _ (qmn hg (λh M' _=>⟨_,_,_,_,_,rfl,λh'=>absurd h' h,λ_=>h1 h⟩) λh E hT t _ M' la lc _ _=>⟨_,_,_,_,_,rfl,λ_=>?_,λhn=>absurd rfl hn⟩)
 obtain⟨hw,hs60⟩:=qmu h
 have h2:=h2 h
 rw[qr7 hw hT]at h2
 by_cases h0:0<=E 0 0
 ·refine⟨λ_=>?_,λhn=>absurd (by unfold qhE;rw[if_pos h0]) hn⟩
  have e1:(qhE (E 0 0) 0).N=E 0 0:=by unfold qhE;rw[if_pos h0];simp
  rw[e1];exact h2
 ·refine⟨λhy=>?_,λ_=>?_⟩
  ·unfold qhE at hy;rw[if_neg h0]at hy;cases hy
  ·rw[decide_eq_false (by omega)]at h2;exact h2
end Go.Proofs.YtleaplmdgckmkaaGreatDoor.core
namespace Go.Proofs.YtleaplmdgckmkaaGreatDoor.core
open Go.Gx Go.RowKit Go.ChangeShapes Go.WideShapes Go.ChangeAt
set_option linter.unusedVariables false
def ru0:Ru:=⟨[97],.mk 3 ⟨0,0,0,0⟩ [120] []⟩
theorem qte:qdY [ru0]=(0,0):=by rfl
theorem acc0:quc [ru0] [120]=true:=by
 have hw:=qoW (rs:=[ru0]) (by rw[qte])
 obtain⟨E,hT⟩:=qpb (s:=[120]) hw
 rw[qr7 hw hT,hT.fix 0 0 ru0 (by simp) rfl]
 rfl
theorem x_gr {M:Mem} {A:Option Addr} {c:Nat} (h:SlV M A 1 c 8 (qai.mk [97] (qaa.mk 3 (qab.mk 0 0 0 0) [120] none 0 0)).cells):GrR M [ru0] A 1 c:=by
 refine⟨[qai.mk [97] (qaa.mk 3 (qab.mk 0 0 0 0) [120] none 0 0)],by simpa[cl]using h,qcX.of rfl λi r x hr hx=>?_,rfl⟩
 cases i with
 |zero=>
  cases hr;cases hx
  exact⟨rfl,by unfold maxLen ru0;simp,.mk (xs:=[]) (by decide) ⟨by decide,by decide,by decide,by decide⟩ (by unfold maxLen;simp) ⟨rfl,Nat.le_refl _,by unfold maxLen;simp,λh=>by simp at h⟩ rfl (λi e x h=>by simp at h)⟩
 |succ i=>simp at hr
section
variable {M:Mem}
theorem qnG (K:Value->Prop) (hK:K (.bool true)):qcJ M K:=by
 unfold qcJ
 refine qk8 _ _ λM5 A c hle hsl M' hle2=>⟨_,_,_,rfl,qjm _ _ _ _ _ _ (qmw ((x_gr hsl).le hle2) (λh=>absurd (by unfold qfL;rw[qte];rfl) h) λ_=>⟨_,_,rfl,λ_=>hK,λh=>absurd acc0 h⟩)⟩
end
end Go.Proofs.YtleaplmdgckmkaaGreatDoor.core
