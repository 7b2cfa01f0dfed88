/- Contracts and what they hang on, of several parts. No condition. -/
import Derived.Test.YtmnilbfhfjdelaaEventBuildsLawG
namespace Go.Proofs.Ytmnilbfhfjdelaa.core
open Go.Gx Go.RowKit Go.ChangeShapes Go.WideShapes Go.ChangeAt
set_option linter.unusedVariables false
abbrev Ev:=X_api_Event
inductive Tn where
 |mk (rule frm to:Int) (kids:List Tn)
mutual
def evs:Tn->List Ev
 | .mk r f t ks=>⟨1,r,f⟩::(evsL ks++[⟨2,r,t⟩])
def evsL:List Tn->List Ev
 |[]=>[]
 |t::ts=>evs t++evsL ts
end
theorem evsL_app:∀a b:List Tn,evsL (a++b)=evsL a++evsL b
 |[],b=>rfl
 |t::a,b=>by rw[List.cons_append,evsL,evsL,evsL_app a b,List.append_assoc]
theorem evsL_one (t:Tn):evsL [t]=evs t:=by rw[evsL,evsL,List.append_nil]
structure Fr where
 r:Int
 f:Int
 ks:List Tn
def run:List Fr->List Ev->Option Tn
 |_,[]=>none
 |st,v::l=>if v.Kind=1 then run (⟨v.Rule,v.At,[]⟩::st) l else
  match st with
  |[]=>none
  |F::st=>if v.Kind=2/\F.r=v.Rule then
    match st with
    |[]=>if l=[] then some (.mk F.r F.f v.At F.ks) else none
    |G::st=>run (⟨G.r,G.f,G.ks++[.mk F.r F.f v.At F.ks]⟩::st) l
   else none
def flatS:List Fr->List Ev
 |[]=>[]
 |F::st=>flatS st++(⟨1,F.r,F.f⟩::evsL F.ks)
theorem ev_eta {v:Ev} {k:Int} (h:v.Kind=k):v=⟨k,v.Rule,v.At⟩:=by cases v;cases h;rfl
theorem run_sound:∀(l:List Ev) (st:List Fr) (t:Tn),run st l=some t->flatS st++l=evs t
 |[],st,t,h=>by simp[run]at h
 |v::l,st,t,h=>by
  unfold run at h
  split at h
  ·rename_i h1
   have:=run_sound l _ t h
   rw[flatS]at this
   rw[<-this,ev_eta h1]
   simp[evsL]
  ·split at h
   ·cases h
   ·rename_i F st
    split at h
    ·rename_i h2
     have hv:=ev_eta h2.1
     split at h
     ·split at h
      ·rename_i hl
       cases h
       subst hl
       rw[hv,flatS,flatS,evs,h2.2];simp
      ·cases h
     ·rename_i G st
      have:=run_sound l _ t h
      rw[<-this,flatS,flatS,flatS,evsL_app,evsL_one,evs,hv,h2.2]
      simp
    ·cases h
mutual
theorem run_tree:∀(t:Tn) (F:Fr) (st:List Fr) (l:List Ev),run (F::st) (evs t++l)=run (⟨F.r,F.f,F.ks++[t]⟩::st) l
 | .mk r f to ks,F,st,l=>by
  rw[evs,List.cons_append]
  conv=>lhs;unfold run
  rw[if_pos rfl,List.append_assoc,run_kids ks ⟨r,f,[]⟩ (F::st)]
  conv=>lhs;simp only[List.nil_append,List.cons_append];unfold run
  simp
theorem run_kids:∀(ks:List Tn) (F:Fr) (st:List Fr) (l:List Ev),run (F::st) (evsL ks++l)=run (⟨F.r,F.f,F.ks++ks⟩::st) l
 |[],F,st,l=>by simp[evsL]
 |t::ks,F,st,l=>by
  rw[evsL,List.append_assoc,run_tree t F st,run_kids ks]
  simp
end
theorem run_evs:∀t:Tn,run [] (evs t)=some t
 | .mk r f to ks=>by
  rw[evs]
  unfold run
  rw[if_pos rfl,run_kids ks ⟨r,f,[]⟩ []]
  simp[run]
theorem run_iff {l:List Ev} {t:Tn}:run [] l=some t↔evs t=l:=by
 refine⟨λh=>?_,λh=>by rw[<-h];exact run_evs t⟩
 have:=run_sound l [] t h
 rw[<-this];rfl
def bld:Nat->List Ev->List Tn->List Tn×List Ev
 |0,l,acc=>(acc,l)
 |_+1,[],acc=>(acc,[])
 |n+1,v::l,acc=>if v.Kind=1 then
   match bld n l []with
   |(_,[])=>([],[])
   |(ts,w::r)=>if w.Kind=2/\w.Rule=v.Rule then bld n r (acc++[.mk v.Rule v.At w.At ts]) else([],[])
  else(acc,v::l)
def nop:List Ev->Prop
 |[]=>True
 |v::_=>v.Kind≠1
theorem bld_all:∀(n:Nat) (ks:List Tn) (rest:List Ev) (acc:List Tn),(evsL ks++rest).length<=n->nop rest->bld n (evsL ks++rest) acc=(acc++ks,rest)
 |0,ks,rest,acc,hn,hr=>by
  have hnil:=List.eq_nil_of_length_eq_zero (Nat.le_zero.1 hn)
  have h2:=(List.append_eq_nil_iff.1 hnil)
  have hk:ks=[]:=by
   cases ks with
   |nil=>rfl
   |cons t ks=>cases t;simp[evsL,evs]at h2
  rw[hnil,h2.2,hk];simp[bld]
 |n+1,[],rest,acc,hn,hr=>by
  rw[evsL,List.nil_append,List.append_nil]
  cases rest with
  |nil=>rfl
  |cons v l=>rw[bld,if_neg hr]
 |n+1,.mk r f to kk::ks,rest,acc,hn,hr=>by
  have e:evsL (.mk r f to kk::ks)++rest=⟨1,r,f⟩::(evsL kk++(⟨2,r,to⟩::(evsL ks++rest))):=by
   rw[evsL,evs];simp
  rw[e]at hn ⊢
  rw[List.length_cons]at hn
  have h1:=bld_all n kk (⟨2,r,to⟩::(evsL ks++rest)) [] (by omega) (by simp[nop])
  rw[List.length_append,List.length_cons]at hn
  have h2:=bld_all n ks rest (acc++[.mk r f to kk]) (by omega) hr
  rw[bld,if_pos rfl,h1]
  simp only[List.nil_append]
  rw[if_pos (by simp),h2];simp
theorem bld_len:∀(n:Nat) (l:List Ev) (acc:List Tn),(evsL (bld n l acc).1).length+(bld n l acc).2.length<=(evsL acc).length+l.length
 |0,l,acc=>Nat.le_refl _
 |n+1,[],acc=>by rw[bld];exact Nat.le_refl _
 |n+1,v::l,acc=>by
  rw[bld]
  split
  ·have h1:=bld_len n l []
   split
   ·simp[evsL]
   ·rename_i ts w r he
    rw[he]at h1
    split
    ·have h2:=bld_len n r (acc++[.mk v.Rule v.At w.At ts])
     rw[evsL_app,evsL_one,evs]at h2
     simp only[evsL,List.length_append,List.length_cons,List.length_nil]at h1 h2 ⊢
     omega
    ·simp[evsL]
  ·exact Nat.le_refl _
end Go.Proofs.Ytmnilbfhfjdelaa.core

namespace Go.Proofs.Ytmnilbfhfjdelaa.core
open Go.Gx Go.RowKit Go.ChangeShapes Go.WideShapes Go.ChangeAt
set_option linter.unusedVariables false
theorem Ec_len (x:X_api_Event):x.cells.length=3:=rfl
theorem Ec_one (l:List X_api_Event):∀u∈cl X_api_Event.cells l,u.oneCell'=true:=by
 intro u hu
 obtain⟨c,hc,hu⟩:=List.mem_flatten.1 hu
 obtain⟨x,_,rfl⟩:=List.mem_map.1 hc
 simp only[X_api_Event.cells,List.mem_cons,List.not_mem_nil,or_false]at hu
 rcases hu with rfl|rfl|rfl<;>rfl
theorem cl_cat (a b:List X_api_Event):cl X_api_Event.cells (a++b)=cl X_api_Event.cells a++cl X_api_Event.cells b:=by unfold cl;rw[List.map_append,List.flatten_append]
theorem cl_one (x:X_api_Event):cl X_api_Event.cells [x]=x.cells:=by unfold cl;simp
theorem getJ {α:Type} {l:List α} {i:Int} (h0:0<=i) (h1:i<(l.length:Int)):∃x,l[i.toNat]?=some x:=⟨l[i.toNat]'(by omega),List.getElem?_eq_getElem _⟩
theorem inI_of {z:Int} (h0: -1000000000000<=z) (h1:z<=1000000000000):InI z:=by unfold InI;omega
theorem egrow_is {n:Int} {M:Mem} (h0:0<=n) (h1:n<=100000000) (K:Nat->List Value->Prop) (hK:K 0 []):S_slices_Grow_Event n M K:=by
 unfold S_slices_Grow_Event
 refine⟨λh=>by omega,λ_=>⟨inI_of (by omega) (by omega),inI_of (by omega) (by omega),λhp=>⟨hp,by omega,by omega,by omega,by simpa using hK⟩,λ_=>hK⟩⟩
theorem econcat_is {A:Option Addr} {c l0 c0 l1 c1 l2 c2:Nat} {a0 a1 a2:Option Addr} {M:Mem} {t u v:List Value} (h:SlV M A 3 c 1 [.slice a0 l0 c0,.slice a1 l1 c1,.slice a2 l2 c2]) (h0:SlV M a0 l0 c0 3 t) (h1:SlV M a1 l1 c1 3 u) (h2:SlV M a2 l2 c2 3 v)
  (o0:∀x∈t,x.oneCell'=true) (o1:∀x∈u,x.oneCell'=true) (o2:∀x∈v,x.oneCell'=true) (b0:l0<=10000000) (b1:l1<=10000000) (b2:l2<=10000000) (K:Nat->List Value->Prop) (hK:K (l0+l1+l2) (t++u++v)):S_slices_Concat_Event A 3 c M K:=by
 obtain⟨b,o,rfl,hat⟩:=h.2.2.2 (by omega)
 have at0:=hat.part 0 [.slice a0 l0 c0] rfl
 have at1:=hat.part 1 [.slice a1 l1 c1] rfl
 have at2:=hat.part 2 [.slice a2 l2 c2] rfl
 unfold S_slices_Concat_Event
 refine⟨λsize i=>0<=i/\i<=3/\(i=0->size=0)/\(i=1->size=l0)/\(i=2->size=((l0+l1:Nat):Int))/\(i=3->size=((l0+l1+l2:Nat):Int)),λ_ i=>3-i.toNat,⟨by omega,by omega,λ_=>rfl,λh=>absurd h (by omega),λh=>absurd h (by omega),λh=>absurd h (by omega)⟩,λsize i ⟨i0,i2,e0,e1,e2,e3⟩=>⟨λhlt=>?_,λhge=>?_⟩⟩
 ·rcases show i=0\/i=1\/i=2 by omega with rfl|rfl|rfl
  ·have:=e0 rfl
   subst this
   exact⟨b,o,rfl,by omega,hlt,a0,l0,c0,at0,inI_of (by omega) (by omega),λh=>by omega,λ_=>⟨inI_of (by omega) (by omega),⟨by omega,by omega,λh=>absurd h (by omega),λ_=>by omega,λh=>absurd h (by omega),λh=>absurd h (by omega)⟩,by dsimp only;decide⟩⟩
  ·have:=e1 rfl
   subst this
   exact⟨b,o,rfl,by omega,hlt,a1,l1,c1,at1,inI_of (by omega) (by omega),λh=>by omega,λ_=>⟨inI_of (by omega) (by omega),⟨by omega,by omega,λh=>absurd h (by omega),λh=>absurd h (by omega),λ_=>by omega,λh=>absurd h (by omega)⟩,by dsimp only;decide⟩⟩
  ·have:=e2 rfl
   subst this
   exact⟨b,o,rfl,by omega,hlt,a2,l2,c2,at2,inI_of (by omega) (by omega),λh=>by omega,λ_=>⟨inI_of (by omega) (by omega),⟨by omega,by omega,λh=>absurd h (by omega),λh=>absurd h (by omega),λh=>absurd h (by omega),λ_=>by omega⟩,by dsimp only;decide⟩⟩
 ·have hi:i=3:=by omega
  have:=e3 hi
  subst this
  refine s_slices_Grow_Event _ _ _ (egrow_is (by omega) (by omega) _ ?_)
  refine⟨λi rn rx=>0<=i/\i<=3/\(i=0->rn=0/\rx=[])/\(i=1->rn=l0/\rx=t)/\(i=2->rn=l0+l1/\rx=t++u)/\(i=3->rn=l0+l1+l2/\rx=t++u++v),λi _ _=>3-i.toNat,⟨by omega,by omega,λ_=>⟨rfl,rfl⟩,λh=>absurd h (by omega),λh=>absurd h (by omega),λh=>absurd h (by omega)⟩,λi rn rx ⟨i0,i2,e0,e1,e2,e3⟩=>⟨λhlt=>?_,λhge=>?_⟩⟩
  ·rcases show i=0\/i=1\/i=2 by omega with rfl|rfl|rfl
   ·obtain⟨rfl,rfl⟩:=e0 rfl
    exact⟨b,o,rfl,by omega,hlt,a0,l0,c0,at0,t,h0,o0,by omega,inI_of (by omega) (by omega),⟨by omega,by omega,λh=>absurd h (by omega),λ_=>⟨by omega,by simp⟩,λh=>absurd h (by omega),λh=>absurd h (by omega)⟩,by dsimp only;decide⟩
   ·obtain⟨rfl,rfl⟩:=e1 rfl
    exact⟨b,o,rfl,by omega,hlt,a1,l1,c1,at1,u,h1,o1,by omega,inI_of (by omega) (by omega),⟨by omega,by omega,λh=>absurd h (by omega),λh=>absurd h (by omega),λ_=>⟨rfl,rfl⟩,λh=>absurd h (by omega)⟩,by dsimp only;decide⟩
   ·obtain⟨rfl,rfl⟩:=e2 rfl
    exact⟨b,o,rfl,by omega,hlt,a2,l2,c2,at2,v,h2,o2,by omega,inI_of (by omega) (by omega),⟨by omega,by omega,λh=>absurd h (by omega),λh=>absurd h (by omega),λh=>absurd h (by omega),λ_=>⟨rfl,rfl⟩⟩,by dsimp only;decide⟩
  ·obtain⟨rfl,rfl⟩:=e3 (by omega)
   exact hK
theorem Tc_len (x:X_api_Tree):x.cells.length=4:=rfl
theorem Tc_one (x:X_api_Tree):∀u∈x.cells,u.oneCell'=true:=by
 intro u hu
 simp only[X_api_Tree.cells,List.mem_cons,List.not_mem_nil,or_false]at hu
 rcases hu with rfl|rfl|rfl|rfl<;>rfl
inductive TrR (M:Mem):Tn->X_api_Tree->Prop where
 |mk {r f to:Int} {A:Option Addr} {c:Nat} {ks:List Tn} {xs:List X_api_Tree} (hv:SlV M A ks.length c 4 (cl X_api_Tree.cells xs)) (hl:xs.length=ks.length) (hks:∀(i:Nat) t x,ks[i]?=some t->xs[i]?=some x->TrR M t x):TrR M (.mk r f to ks) ⟨r,f,to,A,ks.length,c⟩
theorem TrR.le {M M':Mem} {t:Tn} {x:X_api_Tree} (h:TrR M t x) (hl:M.le M'):TrR M' t x:=by
 induction h with
 |mk hv hl' _ ih=>exact .mk (hv.le hl) hl' ih
theorem same_is {M:Mem} {t:Tn} {x:X_api_Tree} (h:TrR M t x):∀(y:X_api_Tree),TrR M t y->∀K:Value->Prop,K (.bool true)->S_chaffref_SameTree x y M K:=by
 induction h with
 | @mk r f to A c ks xs hv hl hks ih=>
  intro y hy K hK
  cases hy with
  | @mk _ _ _ A' c' _ ys hv' hl' hks'=>
   have hm:=hv.max
   unfold S_chaffref_SameTree
   refine⟨λ_=>⟨λ_=>⟨λ_=>s_slices_EqualFunc_Tree _ _ _ _ _ _ _ _ _ ?_,λh=>absurd rfl h⟩,λh=>absurd rfl h⟩,λh=>absurd rfl h⟩
   unfold S_slices_EqualFunc_Tree
   refine⟨λh=>absurd rfl h,λ_=>⟨λi=>0<=i/\i<=ks.length,λi=>ks.length-i.toNat,⟨by omega,by omega⟩,λi ⟨i0,il⟩=>⟨λhlt=>?_,λ_=>⟨_,rfl,hK⟩⟩⟩⟩
   have hlt2:i<((ks.length:Nat):Int):=hlt
   obtain⟨k,hk⟩:=getJ (l:=ks) i0 hlt
   obtain⟨u,hu⟩:=getJ (l:=xs) i0 (by rw[hl];exact hlt)
   obtain⟨w,hw⟩:=getJ (l:=ys) i0 (by rw[hl'];exact hlt)
   obtain⟨b,o,ha,hat⟩:=hv.at Tc_len hl hu
   obtain⟨b',o',ha',hat'⟩:=hv'.at Tc_len hl' hw
   refine⟨b,o,ha,i0,hlt,u,hat,b',o',ha',i0,hlt,w,hat',f_chaffref_SameTree _ _ _ _ (ih _ k u hk hu w (hks' _ k w hk hw) _ ⟨_,rfl,λh=>absurd rfl h,λ_=>⟨by unfold InI;omega,⟨by omega,by omega⟩,by dsimp only;omega⟩⟩)⟩
theorem evsL_take {ks:List Tn} {i:Nat} {t:Tn} (h:ks[i]?=some t):evsL (ks.take (i+1))=evsL (ks.take i)++evs t:=by
 rw[List.take_add_one,h,evsL_app]
 show _++evsL [t]=_
 rw[evsL_one]
theorem evsL_len (ks:List Tn) (i:Nat):(evsL (ks.take i)).length<=(evsL ks).length:=by
 conv=>rhs;rw[<-List.take_append_drop i ks]
 rw[evsL_app,List.length_append];omega
theorem events_is {M:Mem} {t:Tn} {x:X_api_Tree} (h:TrR M t x):(evs t).length<=10000000->∀K:Nat->List Value->Prop,K (evs t).length (cl X_api_Event.cells (evs t))->C_chaffref_Events x M K:=by
 induction h with
 | @mk r f to A c ks xs hv hl hks ih=>
  intro hb K hK
  have hm:=hv.max
  rw[evs]at hK hb
  rw[List.length_cons,List.length_append,List.length_singleton]at hb hK
  refine s_chaffref_Events _ _ _ ?_
  unfold S_chaffref_Events
  refine⟨λi rn rx=>0<=i/\i<=ks.length/\rn=(evsL (ks.take i.toNat)).length/\rx=cl X_api_Event.cells (evsL (ks.take i.toNat)),λi _ _=>ks.length-i.toNat,⟨by omega,by omega,by simp[evsL],by simp[cl,evsL]⟩,λi rn rx ⟨i0,il,hn,hx⟩=>⟨λhlt=>?_,λhge=>?_⟩⟩
  ·have hlt2:i<((ks.length:Nat):Int):=hlt
   obtain⟨y,hy⟩:=getJ (l:=xs) i0 (by rw[hl];exact hlt)
   obtain⟨k,hk⟩:=getJ (l:=ks) i0 hlt
   have ht:=evsL_len ks (i.toNat+1)
   rw[evsL_take hk,List.length_append]at ht
   obtain⟨b,o,ha,hat⟩:=hv.at Tc_len hl hy
   refine⟨b,o,ha,i0,hlt,y,hat,ih _ k y hk hy (by omega) _ ⟨Ec_one _,by omega,by unfold InI;omega,⟨by omega,by omega,?_,?_⟩,by dsimp only;omega⟩⟩
   ·rw[show(i+1).toNat=i.toNat+1 by omega,evsL_take hk,List.length_append];omega
   ·rw[show(i+1).toNat=i.toNat+1 by omega,evsL_take hk,cl_cat,hx]
  ·have hge2:¬i<((ks.length:Nat):Int):=hge
   have e:ks.take i.toNat=ks:=List.take_of_length_le (by omega)
   rw[e]at hn hx
   intro M1 A1 c1 hle1 hs1 M2 A2 c2 hle2 hs2 M3 A3 c3 hle3 hs3 M4 A4 c4 hle4 hs4
   subst hx
   refine s_slices_Concat_Event _ _ _ _ _ (econcat_is hs4 (((hs1.le hle2).le hle3).le hle4) ((hs2.le hle3).le hle4) (hs3.le hle4) (by rw[<-cl_one];exact Ec_one _) (Ec_one _) (by rw[<-cl_one];exact Ec_one _) (by omega) (by omega) (by omega) _ ?_)
   rw[show(evsL ks).length+1+1=1+rn+1 by omega]at hK
   rw[show cl X_api_Event.cells (⟨1,r,f⟩::(evsL ks++[⟨2,r,to⟩]))=(X_api_Event.mk 1 r f).cells++cl X_api_Event.cells (evsL ks)++(X_api_Event.mk 2 r to).cells by
    rw[<-List.singleton_append,cl_cat,cl_cat,cl_one,cl_one,List.append_assoc]]at hK
   exact hK
def TsR (M:Mem) (ts:List Tn) (xs:List X_api_Tree):Prop:=xs.length=ts.length/\∀(i:Nat) t x,ts[i]?=some t->xs[i]?=some x->TrR M t x
theorem TsR.le {M M':Mem} {ts:List Tn} {xs:List X_api_Tree} (h:TsR M ts xs) (hl:M.le M'):TsR M' ts xs:=⟨h.1,λi t x a b=>(h.2 i t x a b).le hl⟩
theorem TsR.snoc {M:Mem} {ts:List Tn} {xs:List X_api_Tree} {t:Tn} {x:X_api_Tree} (h:TsR M ts xs) (ht:TrR M t x):TsR M (ts++[t]) (xs++[x]):=by
 refine⟨by rw[List.length_append,List.length_append,h.1];rfl,λi u y hu hy=>?_⟩
 by_cases hi:i<ts.length
 ·rw[List.getElem?_append_left hi]at hu
  rw[List.getElem?_append_left (by rw[h.1];exact hi)]at hy
  exact h.2 i u y hu hy
 ·rw[List.getElem?_append_right (by omega)]at hu
  rw[List.getElem?_append_right (by rw[h.1];omega),h.1]at hy
  cases hj:i-ts.length with
  |zero=>rw[hj]at hu hy;cases hu;cases hy;exact ht
  |succ j=>rw[hj]at hu;simp at hu
theorem TsR.tree {M:Mem} {ts:List Tn} {xs:List X_api_Tree} {A:Option Addr} {c:Nat} (h:TsR M ts xs) (hv:SlV M A ts.length c 4 (cl X_api_Tree.cells xs)) (r f to:Int):TrR M (.mk r f to ts) ⟨r,f,to,A,ts.length,c⟩:=.mk hv h.1 h.2
theorem slv0 (M:Mem) (sz:Nat):SlV M none 0 0 sz []:=⟨by simp,Nat.le_refl _,by unfold maxLen;omega,λh=>by omega⟩
theorem tcl_snoc (xs:List X_api_Tree) (x:X_api_Tree):cl X_api_Tree.cells xs++x.cells=cl X_api_Tree.cells (xs++[x]):=by unfold cl;simp
theorem rest_is {M:Mem} {A:Option Addr} {l c:Nat} {v:Ev} {r:List Ev} (h:SlV M A l c 3 (cl X_api_Event.cells (v::r))) (hl:l=r.length+1):SlV M (slA A 1 c 3) r.length (c-1) 3 (cl X_api_Event.cells r):=by
 have:=h.rest 1 (by omega)
 rw[show l-1=r.length by omega]at this
 exact this
theorem rbuild_is:∀(n:Nat) (l:List Ev),l.length<=n->l.length<=10000000->∀(A:Option Addr) (c:Nat) (M:Mem) (K:Value->Mem->Prop),SlV M A l.length c 3 (cl X_api_Event.cells l)->
  (∀M' A1 c1 xs A2 c2,M.le M'->TsR M' (bld n l []).1 xs->SlV M' A1 (bld n l []).1.length c1 4 (cl X_api_Tree.cells xs)->SlV M' A2 (bld n l []).2.length c2 3 (cl X_api_Event.cells (bld n l []).2)->K (.tuple #[.slice A1 (bld n l []).1.length c1,.slice A2 (bld n l []).2.length c2]) M')->S_chaffref_Build A l.length c M K:=by
 intro n
 induction n using Nat.strongRecOn with
 |_ n ih=>
 intro l hn hb A c M K hsl hK
 generalize hB:bld n l []=B at hK
 unfold S_chaffref_Build
 refine⟨λa ll lc rn rx M'=>∃(m:Nat) (u:List Ev) (acc:List Tn) (xs:List X_api_Tree),u.length<=m/\m<=n/\bld m u acc=B/\M.le M'/\ll=u.length/\SlV M' a u.length lc 3 (cl X_api_Event.cells u)/\rn=acc.length/\rx=cl X_api_Tree.cells xs/\TsR M' acc xs/\acc.length+u.length<=l.length,λ_ ll _ _ _=>ll,⟨n,l,[],[],hn,Nat.le_refl _,hB,Mem.le.refl _,rfl,hsl,rfl,rfl,⟨rfl,λi t x h=>by simp at h⟩,by simp⟩,λa ll lc rn rx M1 ⟨m,u,acc,xs,hum,hmn,hbl,hle,hll,hs,hrn,hrx,hts,hal⟩=>⟨λhgt=>?_,λhle0=>?_⟩⟩
 ·subst hll hrn hrx
  cases u with
  |nil=>simp at hgt
  |cons v u=>
   rw[List.length_cons]at hum hal
   obtain⟨m,rfl⟩:∃m',m=m'+1:=⟨m-1,by omega⟩
   obtain⟨b,o,ha,hat⟩:=hs.at Ec_len rfl (i:=0) (x:=v) rfl
   refine⟨b,o,ha,Int.le_refl _,hgt,v.Kind,hat.part 0 [.int .i64 v.Kind] rfl,?_⟩
   unfold S_chaffref_Build_J1
   rw[bld]at hbl
   refine⟨λhk=>?_,λhk=>?_⟩
   ·have hk1:v.Kind=1:=by simpa using hk
    rw[if_pos hk1]at hbl
    have hr:=rest_is hs rfl
    refine⟨by omega,by rw[List.length_cons];omega,?_⟩
    refine s_chaffref_Build _ _ _ _ _ ?_
    have hlen:=bld_len m u []
    rw[show(v::u).length-(1:Int).toNat=u.length by rw[List.length_cons];rfl]
    refine ih m (by omega) u (by omega) (by omega) _ _ M1 _ hr λM2 A1 c1 ys A2 c2 hle2 hys hs1 hs2=>⟨_,_,_,_,_,_,rfl,?_⟩
    generalize hin:bld m u []=p at hbl hys hs1 hs2 hlen
    obtain⟨ts,rest⟩:=p
    simp only[evsL,List.length_nil,Nat.zero_add]at hlen hys hs1 hs2 ⊢
    have no:B=([],[])->S_chaffref_Build_J2 a (v::u).length lc acc.length (cl X_api_Tree.cells xs) (λa ll lc rn rx M'=>∃(m:Nat) (u:List Ev) (acc:List Tn) (xs:List X_api_Tree),u.length<=m/\m<=n/\bld m u acc=B/\M.le M'/\ll=u.length/\SlV M' a u.length lc 3 (cl X_api_Event.cells u)/\rn=acc.length/\rx=cl X_api_Tree.cells xs/\TsR M' acc xs/\acc.length+u.length<=l.length) (λ_ ll _ _ _=>ll) A1 ts.length c1 A2 rest.length c2 M2 true K:=by
     intro hB0
     unfold S_chaffref_Build_J2
     refine⟨λ_ M3 hle3=>?_,λh=>absurd rfl h⟩
     subst hB0
     exact hK M3 none 0 [] none 0 ((hle.trans hle2).trans hle3) ⟨rfl,λi t x h=>by simp at h⟩ (slv0 _ _) (slv0 _ _)
    cases rest with
    |nil=>
     simp only at hbl
     exact⟨λ_=>no hbl.symm,λh=>absurd rfl h⟩
    |cons w r=>
     simp only at hbl
     refine⟨λh=>absurd h (by simp only[List.length_cons];omega),λ_=>?_⟩
     obtain⟨b2,o2,ha2,hat2⟩:=hs2.at Ec_len rfl (i:=0) (x:=w) rfl
     have hpos:(0:Int)<(((w::r).length:Nat):Int):=by rw[List.length_cons];omega
     refine⟨b2,o2,ha2,Int.le_refl _,hpos,w.Kind,hat2.part 0 [.int .i64 w.Kind] rfl,λhk2=>?_,λhk2=>?_⟩
     ·exact no (by rw[<-hbl,if_neg (λh=>hk2 h.1)])
     ·have hk2:w.Kind=2:=Decidable.not_not.1 hk2
      refine⟨b2,o2,ha2,Int.le_refl _,hpos,w.Rule,hat2.part 1 [.int .i64 w.Rule] rfl,b,o,ha,Int.le_refl _,hgt,v.Rule,(hat.le hle2).part 1 [.int .i64 v.Rule] rfl,?_⟩
      by_cases hrr:w.Rule=v.Rule
      ·rw[if_pos ⟨hk2,hrr⟩]at hbl
       unfold S_chaffref_Build_J2
       rw[List.length_cons]at hlen
       have hacc:acc.length<=10000000:=by omega
       refine⟨λh=>absurd h (by simp[hrr]),λ_=>⟨b,o,ha,Int.le_refl _,hgt,v.Rule,(hat.le hle2).part 1 [.int .i64 v.Rule] rfl,b,o,ha,Int.le_refl _,hgt,v.At,(hat.le hle2).part 2 [.int .i64 v.At] rfl,b2,o2,ha2,Int.le_refl _,hpos,w.At,hat2.part 2 [.int .i64 w.At] rfl,by omega,by omega,by rw[List.length_cons];omega,⟨m,r,acc++[.mk v.Rule v.At w.At ts],xs++[⟨v.Rule,v.At,w.At,A1,ts.length,c1⟩],by omega,by omega,hbl,hle.trans hle2,rfl,rest_is hs2 rfl,by simp,tcl_snoc _ _,(hts.le hle2).snoc (hys.tree hs1 _ _ _),by rw[List.length_append,List.length_singleton];omega⟩,?_⟩⟩
       show(w::r).length-(1:Int).toNat<(v::u).length
       rw[List.length_cons,List.length_cons]
       show r.length+1-1<u.length+1
       omega
      ·rw[show((w.Rule:Int) != (v.Rule:Int))=true by simpa using hrr]
       exact no (by rw[<-hbl,if_neg (λh=>hrr h.2)])
   ·have hk1:v.Kind≠1:=λh=>hk (by simpa using h)
    rw[if_neg hk1]at hbl
    subst hbl
    intro M2 A2 c2 hle2 hs2 M3 hle3
    exact hK M3 A2 c2 xs a lc ((hle.trans hle2).trans hle3) ((hts.le hle2).le hle3) (hs2.le hle3) ((hs.le hle2).le hle3)
 ·subst hll hrn hrx
  have hu:u=[]:=List.eq_nil_of_length_eq_zero (by omega)
  subst hu
  have hB0:B=(acc,[]):=by
   rw[<-hbl]
   cases m<;>rfl
  subst hB0
  unfold S_chaffref_Build_J1
  refine⟨λh=>(by cases h),λ_ M2 A2 c2 hle2 hs2 M3 hle3=>hK M3 A2 c2 xs a lc ((hle.trans hle2).trans hle3) ((hts.le hle2).le hle3) (hs2.le hle3) ((hs.le hle2).le hle3)⟩
end Go.Proofs.Ytmnilbfhfjdelaa.core

namespace Go.Proofs.Ytmnilbfhfjdelaa.core
open Go.Gx Go.RowKit Go.ChangeShapes Go.WideShapes Go.ChangeAt
set_option linter.unusedVariables false
theorem eequal2_is {A B:Option Addr} {c d:Nat} {zs ws:List Ev} {M:Mem} (h1:SlV M A zs.length c 3 (cl X_api_Event.cells zs)) (h2:SlV M B ws.length d 3 (cl X_api_Event.cells ws)) (hb:zs.length<=10000000) (K:Value->Prop) (hK:∀b:Bool,(b=true↔zs=ws)->K (.bool b)):S_slices_Equal_Event A zs.length c B ws.length d M K:=by
 unfold S_slices_Equal_Event
 refine⟨λh=>hK false ⟨λh=>(by cases h),λe=>absurd (by rw[e]) h⟩,λh=>?_⟩
 have hl:zs.length=ws.length:=by omega
 refine⟨λi=>0<=i/\i<=zs.length/\zs.take i.toNat=ws.take i.toNat,λi=>zs.length-i.toNat,⟨by omega,by omega,by simp⟩,λi ⟨i0,il,he⟩=>⟨λhlt=>?_,λhge=>?_⟩⟩
 ·obtain⟨x,hx⟩:=getJ (l:=zs) i0 hlt
  obtain⟨y,hy⟩:=getJ (l:=ws) i0 (by omega)
  obtain⟨b,o,ha,hat⟩:=h1.at Ec_len rfl hx
  obtain⟨b',o',ha',hat'⟩:=h2.at Ec_len rfl hy
  refine⟨b,o,ha,i0,hlt,x,hat,b',o',ha',i0,by omega,y,hat',λhne=>hK false ⟨λh=>(by cases h),λe=>absurd ?_ hne⟩,λheq=>?_⟩
  ·rw[e,hy]at hx
   cases hx;exact⟨rfl,rfl,rfl⟩
  ·have hxy:x=y:=by
    obtain⟨e1,e2,e3⟩:=Decidable.not_not.1 heq
    cases x;cases y;simp_all
   refine⟨inI_of (by omega) (by omega),⟨by omega,by omega,?_⟩,by dsimp only;omega⟩
   rw[show(i+1).toNat=i.toNat+1 by omega,List.take_add_one,List.take_add_one,he,hx,hy,hxy]
 ·have hz:zs=ws:=by
   rw[<-List.take_of_length_le (l:=zs) (i:=i.toNat) (by omega),he,List.take_of_length_le (by omega)]
  exact hK true ⟨λ_=>hz,λ_=>rfl⟩
theorem bld_one (t:Tn):bld (evs t).length (evs t) []=([t],[]):=by
 have:=bld_all (evs t).length [t] [] [] (by rw[evsL_one,List.append_nil];exact Nat.le_refl _) trivial
 rw[evsL_one,List.append_nil]at this
 exact this
theorem rone_is {l:List Ev} {A:Option Addr} {c:Nat} {M:Mem} {K:Value->Mem->Prop} (hb:l.length<=10000000) (hsl:SlV M A l.length c 3 (cl X_api_Event.cells l))
  (h1:∀t x M',evs t=l->M.le M'->TrR M' t x->K (.tuple #[x.val,.int .i64 0]) M') (h2:(¬∃t,evs t=l)->∀M',M.le M'->K (.tuple #[(X_api_Tree.mk 0 0 0 none 0 0).val,.int .i64 3]) M'):S_chaffref_BuildOne A l.length c M K:=by
 unfold S_chaffref_BuildOne
 have hone:∀t,evs t=l->bld l.length l []=([t],[]):=λt ht=>by rw[<-ht];exact bld_one t
 refine s_chaffref_Build _ _ _ _ _ (rbuild_is l.length l (Nat.le_refl _) hb A c M _ hsl λM1 A1 c1 xs A2 c2 hle hts hs1 hs2=>⟨_,_,_,_,_,_,rfl,?_⟩)
 have hlen:=bld_len l.length l []
 generalize hB:bld l.length l []=B at*
 obtain⟨ts,rest⟩:=B
 simp only[evsL,List.length_nil,Nat.zero_add]at hlen hts hs1 hs2 ⊢
 have no:(¬∃t,evs t=l)->S_chaffref_BuildOne_J1 A1 ts.length M1 true K:=by
  intro hn
  unfold S_chaffref_BuildOne_J1
  exact⟨λ_ M2 hle2 _ M3 hle3=>h2 hn M3 ((hle.trans hle2).trans hle3),λh=>absurd rfl h⟩
 refine⟨λhne=>no λ⟨t,ht⟩=>hne (by have:=hone t ht;cases this;rfl),λheq=>⟨λhgt=>no λ⟨t,ht⟩=>(by have:=hone t ht;cases this;simp at hgt),λ_=>?_⟩⟩
 obtain⟨t,rfl⟩:∃t,ts=[t]:=List.length_eq_one_iff.1 (by omega)
 obtain⟨x,rfl⟩:∃x,xs=[x]:=List.length_eq_one_iff.1 (by rw[hts.1];rfl)
 have htx:=hts.2 0 t x rfl rfl
 obtain⟨b,o,ha,hat⟩:=hs1.at Tc_len rfl (i:=0) (x:=x) rfl
 rw[evsL,evsL,List.append_nil]at hlen
 refine⟨b,o,ha,Int.le_refl _,by simp,x,hat,events_is htx (by omega) _ λM2 A3 c3 hle2 hs3=>?_⟩
 refine s_slices_Equal_Event _ _ _ _ _ _ _ _ (eequal2_is hs3 ((hsl.le hle).le hle2) (by omega) _ λv hv=>⟨v,rfl,?_⟩)
 by_cases he:evs t=l
 ·rw[hv.2 he]
  unfold S_chaffref_BuildOne_J1
  exact⟨λh=>(by cases h),λ_=>⟨b,o,ha,Int.le_refl _,by simp,x,hat,λM3 hle3=>h1 t x M3 he (hle.trans hle3) (htx.le hle3)⟩⟩
 ·rw[show v=false from Bool.eq_false_iff.2 λh=>he (hv.1 h)]
  exact no λ⟨u,hu⟩=>he (by have:=hone u hu;cases this;exact hu)
structure FrR (V M:Mem) (F:Fr) (y:X_api_Tree):Prop where
 r:y.Rule=F.r
 f:y.From=F.f
 kl:y.Kids_l=F.ks.length
 row:∃zs,RowW M 24 4 y.Kids_a F.ks.length y.Kids_c (cl X_api_Tree.cells zs)/\TsR V F.ks zs
 fr:∀g,y.Kids_a=some ⟨g,0,none⟩->V g=none
structure StS (V M:Mem) (fs:List Fr) (ys:List X_api_Tree):Prop where
 len:ys.length=fs.length
 le:V.le M
 row:∀(j:Nat) F y,fs[j]?=some F->ys[j]?=some y->FrR V M F y
 ap:∀(j j':Nat) y y' g,j≠j'->ys[j]?=some y->ys[j']?=some y'->y.Kids_a=some ⟨g,0,none⟩->y'.Kids_a≠some ⟨g,0,none⟩
theorem get_snoc {α:Type} {l:List α} {a b:α} {j:Nat} (h:(l++[a])[j]?=some b):(j<l.length/\l[j]?=some b)\/(j=l.length/\b=a):=by
 by_cases hj:j<l.length
 ·rw[List.getElem?_append_left hj]at h;exact .inl ⟨hj,h⟩
 ·rw[List.getElem?_append_right (by omega)]at h
  cases hk:j-l.length with
  |zero=>rw[hk]at h;cases h;exact .inr ⟨by omega,rfl⟩
  |succ k=>rw[hk]at h;simp at h
theorem StS.push {V M:Mem} {fs:List Fr} {ys:List X_api_Tree} (h:StS V M fs ys) (r f:Int):StS V M (fs++[⟨r,f,[]⟩]) (ys++[⟨r,f,0,none,0,0⟩]):=by
 refine⟨by rw[List.length_append,List.length_append,h.len];rfl,h.le,λj F y hF hy=>?_,λj j' y y' g hne hy hy' hg hg'=>?_⟩
 ·rcases get_snoc hF with⟨h1,h2⟩|⟨h1,rfl⟩
  ·rcases get_snoc hy with⟨_,h3⟩|⟨h3,_⟩
   ·exact h.row j F y h2 h3
   ·have:=h.len;omega
  ·rcases get_snoc hy with⟨h2,_⟩|⟨_,rfl⟩
   ·have:=h.len;omega
   ·exact⟨rfl,rfl,rfl,⟨[],⟨by simp[cl],Nat.le_refl _,by unfold maxLen;simp,.inl ⟨rfl,rfl,rfl⟩⟩,rfl,λi t x hh=>by simp at hh⟩,λg hg=>by cases hg⟩
 ·rcases get_snoc hy with⟨_,h2⟩|⟨_,rfl⟩
  ·rcases get_snoc hy' with⟨_,h3⟩|⟨_,rfl⟩
   ·exact h.ap j j' y y' g hne h2 h3 hg hg'
   ·cases hg'
  ·cases hg
noncomputable def thaw (V M:Mem) (A:Option Addr):Mem:=λb=> @ite _ (A=some ⟨b,0,none⟩) (Classical.propDecidable _) (M b) (V b)
theorem thaw_M {V M:Mem} {A:Option Addr} (h:V.le M):(thaw V M A).le M:=by
 intro b o hb
 unfold thaw at hb
 split at hb
 ·exact hb
 ·exact h b o hb
theorem thaw_V {V M:Mem} {A:Option Addr} (h:∀g,A=some ⟨g,0,none⟩->V g=none):V.le (thaw V M A):=by
 intro b o hb
 unfold thaw
 rw[if_neg (λe=>by rw[h b e]at hb;cases hb)]
 exact hb
theorem FrR.tree {V M:Mem} {F:Fr} {y:X_api_Tree} (h:FrR V M F y) (to:Int):TrR (thaw V M y.Kids_a) (.mk F.r F.f to F.ks) ⟨y.Rule,y.From,to,y.Kids_a,y.Kids_l,y.Kids_c⟩:=by
 obtain⟨zs,hr,hts⟩:=h.row
 rw[h.r,h.f,h.kl]
 have hr':RowW (thaw V M y.Kids_a) 24 4 y.Kids_a F.ks.length y.Kids_c (cl X_api_Tree.cells zs):=hr.same λg o hg hM=>by unfold thaw;rw[if_pos hg];exact hM
 exact(hts.le (thaw_V h.fr)).tree hr'.slv _ _ _
theorem StS.close {V M M2:Mem} {fs:List Fr} {ys:List X_api_Tree} {G F:Fr} {yG yF:X_api_Tree} (h:StS V M (fs++[G]++[F]) (ys++[yG]++[yF])) (hl:ys.length=fs.length) (to:Int) {a2:Option Addr} {c2:Nat} {zs:List X_api_Tree} (hz:TsR V G.ks zs)
  (ha:AppW M M2 24 4 yG.Kids_a a2 (G.ks.length+1) c2 (cl X_api_Tree.cells zs++(X_api_Tree.mk yF.Rule yF.From to yF.Kids_a yF.Kids_l yF.Kids_c).cells)):
  StS (thaw V M yF.Kids_a) M2 (fs++[⟨G.r,G.f,G.ks++[.mk F.r F.f to F.ks]⟩]) (ys++[⟨yG.Rule,yG.From,yG.To,a2,G.ks.length+1,c2⟩]):=by
 have gF:(fs++[G]++[F])[fs.length+1]?=some F:=by rw[List.getElem?_append_right (by simp)];simp
 have gG:(fs++[G]++[F])[fs.length]?=some G:=by rw[List.append_assoc,List.getElem?_append_right (Nat.le_refl _)];simp
 have g1:(ys++[yG]++[yF])[fs.length+1]?=some yF:=by rw[<-hl,List.getElem?_append_right (by simp)];simp
 have g2:(ys++[yG]++[yF])[fs.length]?=some yG:=by rw[<-hl,List.append_assoc,List.getElem?_append_right (Nat.le_refl _)];simp
 have hF:=h.row _ _ _ gF g1
 have hG:=h.row _ _ _ gG g2
 have hV:=thaw_V (V:=V) (M:=M) (A:=yF.Kids_a) hF.fr
 have hM:=thaw_M (A:=yF.Kids_a) h.le
 have old:∀(j:Nat) y,ys[j]?=some y->(ys++[yG]++[yF])[j]?=some y/\j<fs.length:=λj y hy=>by
  have hj:=(List.getElem?_eq_some_iff.1 hy).1
  exact⟨by rw[List.append_assoc,List.getElem?_append_left hj];exact hy,by omega⟩
 have apart:∀(j:Nat) y g,j≠fs.length+1->(ys++[yG]++[yF])[j]?=some y->y.Kids_a=some ⟨g,0,none⟩->V g=none->thaw V M yF.Kids_a g=none:=by
  intro j y g hj hy hg hv
  unfold thaw
  rw[if_neg (λe=>h.ap (fs.length+1) j yF y g (λe=>hj e.symm) g1 hy e hg)]
  exact hv
 have hle2:(thaw V M yF.Kids_a).le M2:=by
  intro b o hb
  refine ha.keep b o (hM b o hb) λg hg e=>?_
  subst e
  rw[apart _ _ _ (by omega) g2 hg (hG.fr _ hg)]at hb
  cases hb
 refine⟨by rw[List.length_append,List.length_append,hl];rfl,hle2,λj E y hE hy=>?_,λj j' y y' g hne hy hy' hg hg'=>?_⟩
 ·rcases get_snoc hE with⟨h1,h2⟩|⟨h1,rfl⟩
  ·rcases get_snoc hy with⟨_,h3⟩|⟨h3,_⟩
   ·obtain⟨h4,h5⟩:=old j y h3
    have hr:=h.row j E y (by rw[List.append_assoc,List.getElem?_append_left h1];exact h2) h4
    obtain⟨ws,hw,hws⟩:=hr.row
    refine⟨hr.r,hr.f,hr.kl,⟨ws,hw.same λg o hg hMg=>ha.keep g o hMg λg' hg' e=>?_,hws.le hV⟩,λg hg=>apart j y g (by omega) h4 hg (hr.fr g hg)⟩
    subst e
    exact h.ap j fs.length y yG g (by omega) h4 g2 hg hg'
   ·omega
  ·rcases get_snoc hy with⟨h2,_⟩|⟨_,rfl⟩
   ·omega
   ·refine⟨hG.r,hG.f,by simp,⟨zs++[X_api_Tree.mk yF.Rule yF.From to yF.Kids_a yF.Kids_l yF.Kids_c],?_,(hz.le hV).snoc (hF.tree to)⟩,λg hg=>?_⟩
    ·have:=ha.row
     rw[tcl_snoc]at this
     rw[List.length_append,List.length_singleton]
     exact this
    ·rcases ha.blk g hg with e|e
     ·exact apart _ _ _ (by omega) g2 e (hG.fr _ e)
     ·cases hv:thaw V M yF.Kids_a g with
      |none=>rfl
      |some o=>rw[hM g o hv]at e;cases e
 ·have newg:∀(i:Nat) z,ys[i]?=some z->z.Kids_a=some ⟨g,0,none⟩->a2=some ⟨g,0,none⟩->False:=by
   intro i z hz' hzg h2g
   obtain⟨h4,h5⟩:=old i z hz'
   rcases ha.blk g h2g with e|e
   ·exact h.ap i fs.length z yG g (by omega) h4 g2 hzg e
   ·obtain⟨E,hE⟩:∃E,(fs++[G]++[F])[i]?=some E:=⟨_,List.getElem?_eq_getElem (by simp;omega)⟩
    obtain⟨ws,hw,_⟩:=(h.row i E z hE h4).row
    obtain⟨_,_,_,⟨e1,_⟩|⟨g',cur,e1,e2,_⟩⟩:=hw
    ·rw[e1]at hzg;cases hzg
    ·rw[e1]at hzg;cases hzg;rw[e2]at e;cases e
  rcases get_snoc hy with⟨_,h2⟩|⟨h1,rfl⟩
  ·rcases get_snoc hy' with⟨_,h3⟩|⟨_,rfl⟩
   ·exact h.ap j j' y y' g hne (old j y h2).1 (old j' y' h3).1 hg hg'
   ·exact newg j y h2 hg hg'
  ·rcases get_snoc hy' with⟨_,h3⟩|⟨h3,_⟩
   ·exact newg j' y' h3 hg' hg
   ·omega
theorem tcl_len (ys:List X_api_Tree):(cl X_api_Tree.cells ys).length=ys.length*4:=by
 induction ys with
 |nil=>rfl
 |cons y ys ih=>
  show(y.cells++cl X_api_Tree.cells ys).length=_
  rw[List.length_append,ih,List.length_cons,Tc_len];omega
theorem put_kids (ys:List X_api_Tree) (y:X_api_Tree) (a:Option Addr) (l c:Nat):putAt (cl X_api_Tree.cells (ys++[y])) (0+ys.length*4+3) [.slice a l c]=cl X_api_Tree.cells (ys++[⟨y.Rule,y.From,y.To,a,l,c⟩]):=by
 rw[<-tcl_snoc,<-tcl_snoc]
 have h:=tcl_len ys
 unfold putAt
 rw[List.take_append,List.drop_append,List.take_of_length_le (by omega),List.drop_of_length_le (by simp;omega)]
 rw[show 0+ys.length*4+3-(cl X_api_Tree.cells ys).length=3 by omega]
 simp only[List.length_singleton]
 rw[show 0+ys.length*4+3+1-(cl X_api_Tree.cells ys).length=4 by omega]
 simp[X_api_Tree.cells]
end Go.Proofs.Ytmnilbfhfjdelaa.core

