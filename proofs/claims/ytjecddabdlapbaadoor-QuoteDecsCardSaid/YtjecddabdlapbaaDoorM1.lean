/- Contracts and what they hang on, of several parts. No condition. -/
import Derived.WalkKit
import Derived.WalkSpells
import Derived.WalkLawsBesides
import Derived.Deep.Quiet
import Derived.OrdersHeld
import Derived.Laws.StructEq
import Derived.Maps.AppendAt
import Derived.Laws.MakeOwn
import Derived.Laws.IdiomStrings
import Derived.ProofKit
import Derived.OpenShut
import Derived.ShutString
import Derived.ChangeOld
import Derived.Carry
import Derived.Laws.Externs
import Derived.Lib.Bytealg
import Derived.SizedLaws
import Derived.JoinedCond
import Derived.Deep.CondSized
import Derived.Maps.Keyed
import Derived.DeepKeys3
import Derived.ChangeMaps4
import Derived.Lib.OthersKept
import GoSem.Extern.BytealgCount
import Derived.Test.YtjecddabdlapbaaDoorRows
import Derived.Deep.DeepHandedRow
import Derived.Lib.LaidTab
import Derived.Stop.LaidErr
import Derived.Lay
import Derived.LaidMore
import Derived.Stop.Joined
namespace Go.Gx
open Go.RowKit
abbrev Env:=List (Nat×Value)
def lk:Env->Nat->Option Value
 |[],_=>none
 |(k,v)::r,x=>match Nat.beq k x with
  |true=>some v
  |false=>lk r x
theorem lk_cons (k:Nat) (v:Value) (r:Env) (x:Nat):lk ((k,v)::r) x=if k=x then some v else lk r x:=by
 show(match Nat.beq k x with|true=>some v|false=>lk r x)=_
 by_cases h:k=x
 ·subst h;simp
 ·have:Nat.beq k x=false:=by
   cases hb:Nat.beq k x
   ·rfl
   ·exact absurd (Nat.eq_of_beq_eq_true hb) h
  simp[this,h]
structure Ag (n:Nat) (a:Act) (env:Env):Prop where
 df:a.defers=[]
 sz:a.tmps.size=n
 at_:∀x v,lk env x=some v->a.tmps.getD x undef=v
theorem Ag.put {n:Nat} {a:Act} {env:Env} (h:Ag n a env) {d:Nat} (hd:d<n) (v:Value):Ag n (a.put (some d) v) ((d,v)::env):=by
 refine⟨h.df,by simp[Act.put,h.sz],λx u hx=>?_⟩
 rw[lk_cons]at hx
 by_cases hk:d=x
 ·subst hk
  simp only[if_true,Option.some.injEq]at hx
  subst hx
  simp[Act.put,h.sz,hd]
 ·rw[if_neg hk]at hx
  have:=h.at_ x u hx
  simp only[Act.put,Array.getD_eq_getD_getElem?,Array.getElem?_setIfInBounds_ne hk]at this ⊢
  exact this
theorem Ag.sub {n:Nat} {a:Act} {env:Env} (h:Ag n a env) (env':Env) (hs:∀p∈env',lk env p.1=some p.2):Ag n a env':=by
 refine⟨h.df,h.sz,λx v hx=>h.at_ x v ?_⟩
 clear h
 induction env' with
 |nil=>cases hx
 |cons p r ih=>
  obtain⟨k,u⟩:=p
  rw[lk_cons]at hx
  by_cases hk:k=x
  ·subst hk
   simp only[if_true,Option.some.injEq]at hx
   subst hx
   exact hs (k,u) (by simp)
  ·rw[if_neg hk]at hx
   exact ih (λq hq=>hs q (List.mem_cons_of_mem _ hq)) hx
def evT (env:Env):Operand->Value
 | .tmp t=>(lk env t).getD undef
 | .const v=>v
 | .global g=>.pointer (some ⟨g,0,none⟩)
 | .func f=>.func (.func f) #[] #[]
def known (env:Env):Operand->Bool
 | .tmp t=>(lk env t).isSome
 |_=>true
theorem Ag.eval {n:Nat} {a:Act} {env:Env} (h:Ag n a env) {x:Operand} (hk:known env x=true):a.eval x=evT env x:=by
 cases x with
 |tmp t=>
  simp only[known]at hk
  obtain⟨v,hv⟩:=Option.isSome_iff_exists.1 hk
  simp[Act.eval,evT,hv,h.at_ t v hv]
 |_=>rfl
def notSel:Op->Bool
 | .select .. =>false
 |_=>true
def okOp (env:Env) (o:Oper):Bool:=notSel o.op&&o.op.operands.toList.all (known env)
theorem Ag.exec {n:Nat} {a:Act} {env:Env} (h:Ag n a env) {o:Oper} (hk:okOp env o=true):execOp a.eval o=execOp (evT env) o:=by
 simp only[okOp,Bool.and_eq_true]at hk
 refine execOp_congr o (λcs b e=>?_) λx hx=>h.eval ?_
 ·rw[e]at hk;simp[notSel]at hk
 ·have:=List.all_eq_true.1 hk.2 x (by simpa using hx)
  exact this
structure Bx where
 b:Nat
 t:TypeId
 cs:List Value
def BxAt (w:World) (x:Bx):Prop:=w.heap[x.b]?=some (.cells x.cs.toArray x.t (0,0))
structure Rw where
 v:Value
 e:TypeId
 size:Nat
 n:Nat
 xs:List Value
 own:Bool
abbrev Mem:=Nat->Option Obj
def Mem.le (M M':Mem):Prop:=∀b o,M b=some o->M' b=some o
def On (M:Mem) (w:World):Prop:=∀b o,M b=some o->w.heap[b]?=some o
theorem Mem.le.refl (M:Mem):M.le M:=λ_ _ h=>h
theorem Mem.le.trans {A B C:Mem} (h:A.le B) (k:B.le C):A.le C:=λb o q=>k b o (h b o q)
theorem On.lt {M:Mem} {w:World} (h:On M w) {b:Nat} {o:Obj} (hb:M b=some o):b<w.heap.size:=(Array.getElem?_eq_some_iff.1 (h b o hb)).1
structure Pres (E:World) (bw:List Nat) (w:World):Prop where
 os:w.os=E.os
 tape:w.tape=E.tape
 output:w.output=E.output
 size:E.heap.size<=w.heap.size
 block:∀k,k<E.heap.size->k∉bw->w.heap[k]?=E.heap[k]?
theorem Pres.refl (E:World) (bw:List Nat):Pres E bw E:=⟨rfl,rfl,rfl,Nat.le_refl _,λ_ _ _=>rfl⟩
theorem Pres.below {E w:World} (h:Pres E [] w):Below E.heap.size E w:=⟨h.os,h.tape,h.output,h.size,λk hk=>h.block k hk (by simp)⟩
structure Cx (M:Mem) (bs:List Bx) (rs:List Rw) (w:World):Prop where
 on:On M w
 bx:∀x∈bs,BxAt w x
 rw:∀r∈rs,∃base,w.ownsRow base r.e r.size r.v r.n r.xs
structure Nd (bs:List Bx) (rs:List Rw):Prop where
 b:(bs.map (·.b)).Nodup
 x:∀x∈bs,∀r∈rs,r.v.ownBlock≠some x.b
 r:rs.Pairwise λr s=>∀g,r.v.ownBlock=some g->s.v.ownBlock≠some g
theorem Nd.sub {bs bs':List Bx} {rs rs':List Rw} (h:Nd bs rs) (hb:bs'.Sublist bs) (hr:rs'.Sublist rs):Nd bs' rs':=
 ⟨h.b.sublist (hb.map _),λx hx r hr'=>h.x x (hb.subset hx) r (hr.subset hr'),h.r.sublist hr⟩
structure Sx (n:Nat) (E:World) (bw:List Nat) (M:Mem) (w:World) (a:Act) (env:Env) (bs:List Bx) (rs:List Rw):Prop where
 ag:Ag n a env
 on:On M w
 pr:Pres E bw w
 bx:∀x∈bs,BxAt w x/\M x.b=none/\(E.heap.size<=x.b\/x.b∈bw)
 rw:∀r∈rs,w.ownsRow 0 r.e r.size r.v r.n r.xs/\∀g,r.v.ownBlock=some g->M g=none/\(E.heap.size<=g\/(r.own=false/\g∈bw))
 nd:Nd bs rs
theorem BxAt.lt {w:World} {x:Bx} (h:BxAt w x):x.b<w.heap.size:=by
 unfold BxAt at h
 rcases Nat.lt_or_ge x.b w.heap.size with h'|h'
 ·exact h'
 ·rw[Array.getElem?_eq_none h']at h;cases h
theorem Sx.cx {n:Nat} {E:World} {bw:List Nat} {M:Mem} {w:World} {a:Act} {env:Env} {bs:List Bx} {rs:List Rw} (h:Sx n E bw M w a env bs rs):Cx M bs rs w:=
 ⟨h.on,λx hx=>(h.bx x hx).1,λr hr=>⟨_,(h.rw r hr).1⟩⟩
theorem Sx.act {n:Nat} {E:World} {bw:List Nat} {M:Mem} {w:World} {a a':Act} {env env':Env} {bs:List Bx} {rs:List Rw} (h:Sx n E bw M w a env bs rs) (hA:Ag n a' env'):Sx n E bw M w a' env' bs rs:=
 ⟨hA,h.on,h.pr,h.bx,h.rw,h.nd⟩
theorem Sx.sub {n:Nat} {E:World} {bw:List Nat} {M:Mem} {w:World} {a:Act} {env:Env} {bs:List Bx} {rs:List Rw} (h:Sx n E bw M w a env bs rs) (env':Env) (hs:∀p∈env',lk env p.1=some p.2):Sx n E bw M w a env' bs rs:=
 h.act (h.ag.sub env' hs)
def Yl (P:Program) (env:Env) (M:Mem) (bs:List Bx) (rs:List Rw) (o:Oper) (v:Value):Prop:=
 okOp env o=true/\∀w,Cx M bs rs w->(execOp (evT env) o).run P w= .ok (.value v) w
theorem Yl.pure {P:Program} {env:Env} {M:Mem} {bs:List Bx} {rs:List Rw} {o:Oper} {v:Value} (hk:okOp env o=true)
  (h:∀w,(execOp (evT env) o).run P w= .ok (.value v) w):Yl P env M bs rs o v:=⟨hk,λw _=>h w⟩
theorem Yl.eq {P:Program} {env:Env} {M:Mem} {bs:List Bx} {rs:List Rw} {o:Oper} {v v':Value} (h:Yl P env M bs rs o v) (e:v=v'):Yl P env M bs rs o v':=e▸h
def lkX:List (Nat×(Act->World->Prop))->Nat->Option (Act->World->Prop)
 |[],_=>none
 |(k,v)::r,x=>match Nat.beq k x with
  |true=>some v
  |false=>lkX r x
def QQ (N:Act->World->Prop) (X:List (Nat×(Act->World->Prop))) (R:Act->World->Prop) (Z:List PanicEntry->Act->World->Prop):Exit->Act->World->Prop
 | .normal,a,w=>N a w
 | .exit id,a,w=>match lkX X id with
  |some K=>K a w
  |none=>False
 | .ret,a,w=>R a w
 | .panic c,a,w=>Z c a w
 |_,_,_=>False
def Wp (P:Program) (c:Code) (N:Act->World->Prop) (X:List (Nat×(Act->World->Prop))) (R:Act->World->Prop) (Z:List PanicEntry->Act->World->Prop) (a:Act) (w:World):Prop:=
 Code.wp P c (QQ N X R Z) a w
section
variable {P:Program} {N J:Act->World->Prop} {X:List (Nat×(Act->World->Prop))} {R:Act->World->Prop} {Z:List PanicEntry->Act->World->Prop} {a:Act} {w:World}
theorem Wp.mono {c:Code} {N':Act->World->Prop} (hN:∀a w,N a w->N' a w) (h:Wp P c N X R Z a w):Wp P c N' X R Z a w:=
 Code.wp_mono (λe a w q=>by cases e<;>first|exact hN _ _ q|exact q) h
theorem Wp.seq {x y:Code} (h:Wp P x (λa w=>Wp P y N X R Z a w) X R Z a w):Wp P (.seq x y) N X R Z a w:=
 wp_seq (Code.wp_mono (λe a w q=>by cases e<;>exact q) h)
theorem Wp.join {x y:Code} (J:Act->World->Prop) (h:Wp P x J X R Z a w) (hJ:∀a w,J a w->Wp P y N X R Z a w):Wp P (.seq x y) N X R Z a w:=
 Wp.seq (Wp.mono hJ h)
theorem Wp.skip (h:N a w):Wp P .skip N X R Z a w:=wp_skip h
theorem Wp.ret (h:R a w):Wp P .ret N X R Z a w:=wp_ret h
theorem Wp.exit {id:Nat} {K:Act->World->Prop} (hx:lkX X id=some K) (h:K a w):Wp P (.exit id) N X R Z a w:=
 wp_exit (by unfold QQ;simp only[hx];exact h)
theorem Wp.block {id:Nat} {c:Code} (h:Wp P c N ((id,N)::X) R Z a w):Wp P (.block id c) N X R Z a w:=by
 refine wp_block (Code.wp_mono (λe a w q=>?_) h)
 cases e with
 |exit i=>
  simp only[QQ,lkX,Exit.inBlock]at q ⊢
  by_cases hi:i=id
  ·subst hi
   have:Nat.beq i i=true:=by simp
   simp only[this]at q
   simpa using q
  ·have:Nat.beq id i=false:=by
    cases hb:Nat.beq id i
    ·rfl
    ·exact absurd (Nat.eq_of_beq_eq_true hb).symm hi
   simp only[this]at q
   simp only[hi,if_false]
   exact q
 |_=>exact q
theorem Wp.loop {σ:Type} {c:Code} (I:σ->Act->World->Prop) (μ:σ->Nat) (s0:σ) (h0:I s0 a w)
  (round:∀s a w,I s a w->Wp P c (λa' w'=>∃s',I s' a' w'/\μ s'<μ s) X R Z a w):Wp P (.loop c) N X R Z a w:=by
 classical
 have least:∀m (a:Act) (w:World),(∃s,I s a w/\μ s=m)->∃s,I s a w/\∀s',I s' a w->μ s<=μ s':=by
  intro m
  induction m using Nat.strongRecOn with
  |_ m ih=>
   intro a w ⟨s,hs,hm⟩
   by_cases hx:∃s',I s' a w/\μ s'<m
   ·obtain⟨s',h1,h2⟩:=hx
    exact ih _ h2 a w ⟨s',h1,rfl⟩
   ·exact⟨s,hs,λs' h'=>by
     rcases Nat.lt_or_ge (μ s') m with h2|h2
     ·exact absurd ⟨s',h',h2⟩ hx
     ·omega⟩
 let M:Act->World->Nat:=λa w=>if h:∃s,I s a w then μ (Classical.choose (least _ a w ⟨_,(Classical.choose_spec h),rfl⟩)) else 0
 have hM:∀s a w,I s a w->M a w<=μ s:=by
  intro s a w hs
  have h:∃s,I s a w:=⟨s,hs⟩
  simp only[M,dif_pos h]
  exact(Classical.choose_spec (least _ a w ⟨_,(Classical.choose_spec h),rfl⟩)).2 s hs
 refine wp_loop (λa w=>∃s,I s a w) M ⟨s0,h0⟩ (λa w hI=>?_)
 have hc:=Classical.choose_spec (least _ a w ⟨_,(Classical.choose_spec hI),rfl⟩)
 have he:M a w=μ (Classical.choose (least _ a w ⟨_,(Classical.choose_spec hI),rfl⟩)):=by simp only[M,dif_pos hI]
 refine Code.wp_mono (λe a' w' q=>?_) (round _ a w hc.1)
 cases e with
 |normal=>
  obtain⟨s',h1,h2⟩:=q
  refine⟨⟨s',h1⟩,?_⟩
  rw[he]
  exact Nat.lt_of_le_of_lt (hM s' a' w' h1) h2
 |_=>exact q
theorem Wp.cond {n:Nat} {E:World} {bw:List Nat} {M:Mem} {env:Env} {bs:List Bx} {rs:List Rw} (hs:Sx n E bw M w a env bs rs) {c:Operand} {x y:Code} {b:Bool} {p:Prop}
  (hk:known env c=true) (hc:evT env c= .bool b) (hp:b=true↔p) (h1:p->Wp P x N X R Z a w) (h2:¬p->Wp P y N X R Z a w):Wp P (.cond c x y) N X R Z a w:=by
 refine wp_cond_split (t:=b) ((hs.ag.eval hk).trans hc) (λe=>h1 (hp.1 e)) (λe=>h2 λq=>?_)
 have:=hp.2 q
 rw[e]at this
 cases this
end
def OpW (P:Program) (ρ:Operand->Value) (o:Oper) (w:World) (K:Value->World->Prop) (Z:List PanicEntry->World->Prop):Prop:=
 match (execOp ρ o).run P w with
 | .ok (.value v) w'=>K v w'
 | .ok .skip w'=>K undef w'
 | .ok (.enter f args) w'=>Calls P f args w' λ
  | .returned v,w''=>K v w''
  | .panicked c,w''=>Z c w''
  | .outgrown,_=>False
 | .halt (.panic v) w'=>Z [{v,recovered:=false}] w'
 |_=>False
theorem OpW.upon {P:Program} {o:Oper} {a:Act} {w:World} {next:Act->World->Prop} {Q:Exit->Act->World->Prop} {Z:List PanicEntry->World->Prop}
  (hZ:∀c w,Z c w->Q (.panic c) a w)
  (h:OpW P a.eval o w (λv w'=>next (a.put o.dst v) w') Z):o.wp P a w next Q:=by
 unfold OpW at h
 unfold Oper.wp
 generalize (execOp a.eval o).run P w=r at*
 cases r with
 |ok n w'=>
  cases n<;>simp only[Oper.upon]at h ⊢<;>try exact h
  case enter f args=>
   refine Calls.mono h λe w'' he=>?_
   cases e with
   |returned v=>exact he
   |panicked c=>exact hZ _ _ he
   |outgrown=>exact he.elim
 |halt x w'=>cases x<;>simp only[Oper.upon]at h ⊢<;>first|exact hZ _ _ h|exact h
section
variable {P:Program} {ops:Array Oper} {Q:Exit->Act->World->Prop} {n:Nat} {E:World} {bw:List Nat} {M:Mem} {w:World} {a:Act} {env:Env} {bs:List Bx} {rs:List Rw} {rest:List Oper} {o:Oper}
theorem stepY (v:Value) {d:Nat} (hs:Sx n E bw M w a env bs rs) (hg:o.guard=none) (hd:o.dst=some d) (hdn:d<n) (hy:Yl P env M bs rs o v)
  (h:∀a',Sx n E bw M w a' ((d,v)::env) bs rs->wpList P ops Q rest a' w):wpList P ops Q (o::rest) a w:=by
 refine wpList_plain hg λK hK=>?_
 have he:(execOp a.eval o).run P w= .ok (.value v) w:=by rw[hs.ag.exec hy.1];exact hy.2 w hs.cx
 unfold Oper.wp
 rw[he]
 refine hK _ _ ?_
 rw[hd]
 exact h _ (hs.act (hs.ag.put hdn v))
theorem yielded_of {j t:Nat} {b:Bool} (hs:Sx n E bw M w a env bs rs) (ht:(ops[j]?).bind (·.dst)=some t) (hl:lk env t=some (.bool b)):yielded ops a.tmps j=some b:=by
 have hlt:t<a.tmps.size:=by
  rcases Nat.lt_or_ge t a.tmps.size with h'|h'
  ·exact h'
  ·have:=hs.ag.at_ t _ hl
   simp[Array.getElem?_eq_none h',undef]at this
 have hat:a.tmps[t]?=some (.bool b):=by
  have:=hs.ag.at_ t _ hl
  simp only[Array.getD_eq_getD_getElem?,Array.getElem?_eq_getElem hlt,Option.getD_some]at this ⊢
  rw[this]
 simp[yielded,ht,hat]
theorem step_yes {j t:Nat} {b:Bool} (hs:Sx n E bw M w a env bs rs) (hg:o.guard=some (j,b)) (ht:(ops[j]?).bind (·.dst)=some t) (hl:lk env t=some (.bool b))
  (h:wpList P ops Q ({o with guard:=none}::rest) a w):wpList P ops Q (o::rest) a w:=by
 have hw:Region.wanted o (yielded ops a.tmps)=true:=by simp[Region.wanted,hg,yielded_of hs ht hl]
 unfold wpList at h ⊢
 rw[if_pos (by simp[Region.wanted])]at h
 rw[if_pos hw]
 exact h
theorem step_no {j t d:Nat} {b c:Bool} (hs:Sx n E bw M w a env bs rs) (hg:o.guard=some (j,b)) (ht:(ops[j]?).bind (·.dst)=some t) (hl:lk env t=some (.bool c)) (hne:(c==b)=false)
  (hd:o.dst=some d) (hdn:d<n) (h:∀a',Sx n E bw M w a' ((d,undef)::env) bs rs->wpList P ops Q rest a' w):wpList P ops Q (o::rest) a w:=by
 have hw:Region.wanted o (yielded ops a.tmps)=false:=by
  simp[Region.wanted,hg,yielded_of hs ht hl]
  simpa using hne
 unfold wpList
 rw[if_neg (by simp[hw]),hd]
 exact h _ (hs.act (hs.ag.put hdn undef))
theorem step_nou {j t d:Nat} {b:Bool} (hs:Sx n E bw M w a env bs rs) (hg:o.guard=some (j,b)) (ht:(ops[j]?).bind (·.dst)=some t) (hl:lk env t=some undef)
  (hd:o.dst=some d) (hdn:d<n) (h:∀a',Sx n E bw M w a' ((d,undef)::env) bs rs->wpList P ops Q rest a' w):wpList P ops Q (o::rest) a w:=by
 have hy:yielded ops a.tmps j=none:=by
  have:=hs.ag.at_ t _ hl
  simp only[Array.getD_eq_getD_getElem?]at this
  cases hc:a.tmps[t]? with
  |none=>simp[yielded,ht,hc]
  |some u=>rw[hc]at this;simp only[Option.getD_some]at this;subst this;simp[yielded,ht,hc,undef]
 have hw:Region.wanted o (yielded ops a.tmps)=false:=by simp[Region.wanted,hg,hy]
 unfold wpList
 rw[if_neg (by simp[hw]),hd]
 exact h _ (hs.act (hs.ag.put hdn undef))
theorem Sx.bt {d:Nat} {b:Bool} (hs:Sx n E bw M w a ((d,.bool b)::env) bs rs) (h:b=true):Sx n E bw M w a ((d,.bool true)::env) bs rs:=h▸hs
theorem Sx.bf {d:Nat} {b:Bool} (hs:Sx n E bw M w a ((d,.bool b)::env) bs rs) (h:b=false):Sx n E bw M w a ((d,.bool false)::env) bs rs:=h▸hs
end
theorem bsplit {G:Prop} (b:Bool) {p:Prop} (hp:b=true↔p) (h1:b=true->p->G) (h2:b=false->¬p->G):G:=by
 cases hb:b
 ·exact h2 hb λq=>by rw[hp.2 q]at hb;cases hb
 ·exact h1 hb (hp.1 hb)
section
variable {P:Program} {N:Act->World->Prop} {X:List (Nat×(Act->World->Prop))} {R:Act->World->Prop} {Z:List PanicEntry->Act->World->Prop} {a:Act} {w:World}
theorem Wp.region {id:Nat} {l:List Oper} (h:wpList P l.toArray (QQ N X R Z) l a w):Wp P (.region id l.toArray false) N X R Z a w:=wp_region_lit h
end
def argEnv:List Value->Nat->Env
 |[],_=>[]
 |v::r,i=>(i,v)::argEnv r (i+1)
theorem lk_argEnv (l:List Value):∀(i x:Nat) (v:Value),lk (argEnv l i) x=some v->i<=x/\l[x-i]?=some v:=by
 induction l with
 |nil=>intro i x v h;cases h
 |cons u r ih=>
  intro i x v h
  rw[argEnv,lk_cons]at h
  by_cases hx:i=x
  ·subst hx;simpa using h
  ·rw[if_neg hx]at h
   obtain⟨h1,h2⟩:=ih (i+1) x v h
   refine⟨by omega,?_⟩
   obtain⟨k,rfl⟩:∃k,x=i+1+k:=⟨x-(i+1),by omega⟩
   rw[show i+1+k-i=k+1 by omega]
   rw[show i+1+k-(i+1)=k by omega]at h2
   simpa using h2
theorem enter {P:Program} {f:FuncId} {fn:Func} {c:Code} {l:List Value} {w:World} {Rf:Ending->World->Prop} {M:Mem}
  (hf:P.funcs[f]?=some fn) (hb:fn.body=some c) (n:Nat) (hn:fn.ntmps=n) (hl:l.length<=n) (hon:On M w) (lent:List Bx)
  (hlent:∀x∈lent,BxAt w x/\M x.b=none) (hnd:(lent.map (·.b)).Nodup)
  (h:∀a,Sx n w (lent.map (·.b)) M w a (argEnv l 0) lent []->Wp P c (λa w=>bodyPost P fn Rf .normal a w) [] (λa w=>bodyPost P fn Rf .ret a w) (λch a w=>bodyPost P fn Rf (.panic ch) a w) a w):
  Calls P f l.toArray w Rf:=by
 refine calls_of_wp hf hb ?_
 refine Code.wp_mono (λe a w q=>?_) (h _ ⟨⟨rfl,?_,λx v hx=>?_⟩,hon,Pres.refl _ _,λx hx=>⟨(hlent x hx).1,(hlent x hx).2,.inr (List.mem_map.2 ⟨x,hx,rfl⟩)⟩,(λr hr=>by cases hr),⟨hnd,(λ_ _ r hr=>by cases hr),List.Pairwise.nil⟩⟩)
 ·cases e<;>first|exact q|exact False.elim q
 ·simp[hn];omega
 ·obtain⟨_,h2⟩:=lk_argEnv l 0 x v hx
  simp only[Nat.sub_zero]at h2
  have hx':x<l.length:=by
   rcases Nat.lt_or_ge x l.length with h'|h'
   ·exact h'
   ·rw[List.getElem?_eq_none h']at h2;cases h2
  simp only[Array.getD_eq_getD_getElem?]
  rw[Array.getElem?_append_left (by simpa using hx')]
  simp[h2]
def grow (M:Mem) (w w':World):Mem:=λb=>if w.heap.size<=b then w'.heap[b]? else M b
theorem grow_le {M:Mem} {w w':World} (h:On M w):M.le (grow M w w'):=by
 intro b o hb
 have:=h.lt hb
 unfold grow
 rw[if_neg (by omega)]
 exact hb
theorem grow_on {M:Mem} {w w':World} (h:On M w) (hb:∀k,k<w.heap.size->(M k).isSome=true->w'.heap[k]?=w.heap[k]?):On (grow M w w') w':=by
 intro b o ho
 unfold grow at ho
 by_cases hk:w.heap.size<=b
 ·rw[if_pos hk]at ho;exact ho
 ·rw[if_neg hk]at ho
  rw[hb b (by omega) (by rw[ho];rfl)]
  exact h b o ho
def CallE (P:Program) (f:FuncId) (args:Array Value) (M:Mem) (K:Value->Mem->Prop):Prop:=
 ∀w,On M w->Calls P f args w λe w'=>∃v,e= .returned v/\Below w.heap.size w w'/\K v (grow M w w')
theorem CallE.mono {P:Program} {f:FuncId} {args:Array Value} {M:Mem} {K K':Value->Mem->Prop} (h:CallE P f args M K) (hK:∀v M',M.le M'->K v M'->K' v M'):CallE P f args M K':=
 λw hw=>(h w hw).mono λ_ _ ⟨v,h1,h2,h3⟩=>⟨v,h1,h2,hK v _ (grow_le hw) h3⟩
theorem enterE {P:Program} {f:FuncId} {fn:Func} {c:Code} {l:List Value} {M:Mem} {K:Value->Mem->Prop}
  (hf:P.funcs[f]?=some fn) (hb:fn.body=some c) (n:Nat) (hn:fn.ntmps=n) (hl:l.length<=n)
  (h:∀w a,Sx n w [] M w a (argEnv l 0) [] []->Wp P c (λa' w'=>a'.defers=[]/\∃v,(results fn a'.tmps).run P w'= .ok v w'/\Below w.heap.size w w'/\K v (grow M w w')) []
   (λa' w'=>a'.defers=[]/\∃v,(results fn a'.tmps).run P w'= .ok v w'/\Below w.heap.size w w'/\K v (grow M w w')) (λ_ _ _=>False) a w):
  CallE P f l.toArray M K:=by
 intro w hw
 refine enter (Rf:=λe w'=>∃v,e= .returned v/\Below w.heap.size w w'/\K v (grow M w w')) hf hb n hn hl hw [] (by simp) (by simp) (λa hs=>?_)
 refine Code.wp_mono (λe a' w' q=>?_) (h w a (by simpa using hs))
 cases e with
 |normal=>obtain⟨h1,v,h2,h3,h4⟩:=q;exact⟨h1,v,h2,v,rfl,h3,h4⟩
 |ret=>obtain⟨h1,v,h2,h3,h4⟩:=q;exact⟨h1,v,h2,v,rfl,h3,h4⟩
 |_=>exact q.elim
theorem leaveE {P:Program} {fn:Func} {n:Nat} {E:World} {M0 M:Mem} {w:World} {a:Act} {env:Env} {bs:List Bx} {rs:List Rw} {K:Value->Mem->Prop} {v:Value}
  (hs:Sx n E [] M w a env bs rs) (hr:(results fn a.tmps).run P w= .ok v w) (hM:∀b o,M b=some o->M0 b=some o\/E.heap.size<=b) (hK:∀M',M.le M'->K v M'):
  a.defers=[]/\∃v,(results fn a.tmps).run P w= .ok v w/\Below E.heap.size E w/\K v (grow M0 E w):=by
 refine⟨hs.ag.df,v,hr,hs.pr.below,hK _ λb o hb=>?_⟩
 unfold grow
 by_cases hk:E.heap.size<=b
 ·rw[if_pos hk];exact hs.on b o hb
 ·rw[if_neg hk]
  rcases hM b o hb with h|h
  ·exact h
  ·omega
theorem resT {P:Program} {fn:Func} {n:Nat} {E:World} {bw:List Nat} {M:Mem} {w:World} {a:Act} {env:Env} {bs:List Bx} {rs:List Rw} {t:Nat} {v:Value} (hs:Sx n E bw M w a env bs rs) (hr:fn.results= #[.tmp t]) (hv:lk env t=some v):
  (results fn a.tmps).run P w= .ok v w:=by rw[results_tmp hr,hs.ag.at_ t v hv]
theorem resTT {P:Program} {fn:Func} {n:Nat} {E:World} {bw:List Nat} {M:Mem} {w:World} {a:Act} {env:Env} {bs:List Bx} {rs:List Rw} {t u:Nat} {v x:Value} (hs:Sx n E bw M w a env bs rs) (hr:fn.results= #[.tmp t,.tmp u]) (hv:lk env t=some v) (hx:lk env u=some x):
  (results fn a.tmps).run P w= .ok (.tuple #[v,x]) w:=by rw[results_tmp2 hr,hs.ag.at_ t v hv,hs.ag.at_ u x hx]
section
variable {P:Program} {env:Env} {M:Mem} {bs:List Bx} {rs:List Rw} {o:Oper}
end
section
variable {P:Program} {ops:Array Oper} {Q:Exit->Act->World->Prop} {n:Nat} {E:World} {bw:List Nat} {M:Mem} {w:World} {a:Act} {env:Env} {bs:List Bx} {rs:List Rw} {rest:List Oper} {o:Oper} {Z:List PanicEntry->World->Prop}
theorem stepK {d:Nat} (hs:Sx n E bw M w a env bs rs) (hZ:∀c w,Z c w->Q (.panic c) a w) (hg:o.guard=none) (hk:okOp env o=true) (hd:o.dst=some d) (hdn:d<n)
  (h:OpW P (evT env) o w (λv w'=>∀a',Ag n a' ((d,v)::env)->wpList P ops Q rest a' w') Z):wpList P ops Q (o::rest) a w:=by
 refine wpList_plain hg λK hK=>?_
 refine OpW.upon (Z:=Z) hZ ?_
 unfold OpW at h ⊢
 rw[hs.ag.exec hk]
 have key:∀v w',(∀a',Ag n a' ((d,v)::env)->wpList P ops Q rest a' w')->K (a.put o.dst v) w':=by
  intro v w' hh
  exact hK _ _ (hh _ (by rw[hd];exact hs.ag.put hdn v))
 generalize (execOp (evT env) o).run P w=r at*
 cases r with
 |ok x w'=>
  cases x<;>simp only at h ⊢<;>try exact key _ _ h
  case enter f args=>
   refine Calls.mono h λe w'' he=>?_
   cases e with
   |returned v=>exact key _ _ he
   |panicked c=>exact he
   |outgrown=>exact he
  all_goals exact h
 |halt x w'=>cases x<;>simp only at h ⊢<;>exact h
theorem Sx.later {w':World} {M':Mem} (hs:Sx n E bw M w a env bs rs) (hb:Below w.heap.size w w') (hon:On M' w') (hM:∀b,b<w.heap.size->M' b=M b):Sx n E bw M' w' a env bs rs:=by
 refine⟨hs.ag,hon,?_,λx hx=>?_,λr hr=>?_,hs.nd⟩
 ·obtain⟨h1,h2,h3,h4,h5⟩:=hs.pr
  exact⟨hb.os.trans h1,hb.tape.trans h2,hb.output.trans h3,Nat.le_trans h4 hb.size,λk hk hn=>(hb.block k (by omega)).trans (h5 k hk hn)⟩
 ·obtain⟨h1,h2,h3⟩:=hs.bx x hx
  exact⟨(hb.block _ h1.lt).trans h1,(hM _ h1.lt).trans h2,h3⟩
 ·obtain⟨h1,h2⟩:=hs.rw r hr
  refine⟨?_,λg hg=>⟨(hM g (h1.lt g hg).2).trans (h2 g hg).1,(h2 g hg).2⟩⟩
  refine⟨h1.1,?_⟩
  rcases h1.2 with hn|⟨g,cap,cur,hv,hbg,hgg,r3⟩
  ·exact .inl hn
  ·exact .inr ⟨g,cap,cur,hv,hbg,(hb.block g (Array.getElem?_eq_some_iff.1 hgg).1).trans hgg,r3⟩
theorem On.later {w':World} (h:On M w) (hb:Below w.heap.size w w'):On M w':=λb o q=>(hb.block b (h.lt q)).trans (h b o q)
def putAt (cs:List Value) (k:Nat) (vs:List Value):List Value:=cs.take k++vs++cs.drop (k+vs.length)
theorem run_call {d:Option Tmp} {f:Nat} {ty:TypeId} {c:Call} {pos:String} {af:Array Edge} {gd:Option (Nat×Bool)} {fn:Func} {first caps:Array Value} (args:List Value)
  (hcal:∃x,c.callee= .value x/\evT env x= .func (.func f) first caps) (hargs:first.toList++c.args.toList.map (evT env)++caps.toList=args) (hf:P.funcs[f]?=some fn) (hbody:fn.body.isNone=false) (hname:(fn.name== "runtime.NumGoroutine")=false):
  (execOp (evT env) ⟨d,.call c,ty,pos,af,gd⟩).run P w= .ok (.enter f args.toArray) w:=by
 obtain⟨x,hcal,hx⟩:=hcal
 have ha:first++c.args.map (evT env)++caps=args.toArray:=by rw[<-hargs];apply Array.ext';simp
 have hname':¬fn.name= "runtime.NumGoroutine":=beq_eq_false_iff_ne.1 hname
 have hbody':¬fn.body=none:=by intro e;rw[e]at hbody;cases hbody
 simp[execOp,resolve,hcal,hx,Deferred.ofValue,invoke,callFunc,hf,hbody',hname',<-ha]
theorem stepCallE {d f:Nat} {ty:TypeId} {c:Call} {pos:String} {af:Array Edge} {fn:Func} {K:Value->Mem->Prop} {first caps:Array Value} (args:List Value) (hs:Sx n E bw M w a env bs rs)
  (hk:okOp env ⟨some d,.call c,ty,pos,af,none⟩=true) (hcal:∃x,c.callee= .value x/\evT env x= .func (.func f) first caps) (hargs:first.toList++c.args.toList.map (evT env)++caps.toList=args) (hf:P.funcs[f]?=some fn) (hbody:fn.body.isNone=false) (hname:(fn.name== "runtime.NumGoroutine")=false) (hdn:d<n)
  (hc:CallE P f args.toArray M K)
  (h:∀a' w' M' v,M.le M'->(∀b o,M' b=some o->M b=some o\/E.heap.size<=b)->K v M'->Sx n E bw M' w' a' ((d,v)::env) bs rs->wpList P ops Q rest a' w'):wpList P ops Q (⟨some d,.call c,ty,pos,af,none⟩::rest) a w:=by
 refine stepK (Z:=λ_ _=>False) (d:=d) hs (λ_ _ h=>h.elim) rfl hk rfl hdn ?_
 unfold OpW
 rw[run_call args hcal hargs hf hbody hname]
 refine(hc w hs.on).mono λe w' ⟨v,he,hb,hK⟩=>?_
 subst he
 intro a' hA
 refine h a' w' _ v (grow_le hs.on) (λb o hbo=>?_) hK ((hs.later hb (grow_on hs.on λk hk _=>hb.block k hk) (λb hb=>?_)).act hA)
 ·unfold grow at hbo
  by_cases hk:w.heap.size<=b
  ·exact .inr (Nat.le_trans hs.pr.size hk)
  ·rw[if_neg hk]at hbo;exact .inl hbo
 ·unfold grow
  rw[if_neg (by omega)]
theorem stepCallP {d f:Nat} {ty:TypeId} {c:Call} {pos:String} {af:Array Edge} {fn:Func} {K:Value->Prop} {first caps:Array Value} (args:List Value) (hs:Sx n E bw M w a env bs rs)
  (hk:okOp env ⟨some d,.call c,ty,pos,af,none⟩=true) (hcal:∃x,c.callee= .value x/\evT env x= .func (.func f) first caps) (hargs:first.toList++c.args.toList.map (evT env)++caps.toList=args) (hf:P.funcs[f]?=some fn) (hbody:fn.body.isNone=false) (hname:(fn.name== "runtime.NumGoroutine")=false) (hdn:d<n)
  (hc:CallE P f args.toArray M λv _=>K v)
  (h:∀a' w' v,K v->Sx n E bw M w' a' ((d,v)::env) bs rs->wpList P ops Q rest a' w'):wpList P ops Q (⟨some d,.call c,ty,pos,af,none⟩::rest) a w:=by
 refine stepK (Z:=λ_ _=>False) (d:=d) hs (λ_ _ h=>h.elim) rfl hk rfl hdn ?_
 unfold OpW
 rw[run_call args hcal hargs hf hbody hname]
 refine(hc w hs.on).mono λe w' ⟨v,he,hb,hK⟩=>?_
 subst he
 intro a' hA
 exact h a' w' v hK ((hs.later hb (hs.on.later hb) (λ_ _=>rfl)).act hA)
end
def InI (x:Int):Prop:= -9223372036854775808<=x/\x<=9223372036854775807
theorem wrap_in {x:Int} (h:InI x):IntKind.i64.wrap x=x:=by
 exact IntWalk.i64_in x h
def SubE (env:Env):Env->Prop
 |[]=>True
 |p::r=>lk env p.1=some p.2/\SubE env r
theorem SubE.mem {env:Env}:∀{env':Env},SubE env env'->∀p∈env',lk env p.1=some p.2
 |[],_,p,h=>by cases h
 |q::r,h,p,hp=>by
  rcases List.mem_cons.1 hp with rfl|hp
  ·exact h.1
  ·exact SubE.mem h.2 p hp
section
variable {n:Nat} {E:World} {bw:List Nat} {M:Mem} {w:World} {a:Act} {env env':Env} {bs bs':List Bx} {rs rs':List Rw}
theorem Sx.weak (hs:Sx n E bw M w a env bs rs) (hb:bs'.Sublist bs) (hr:rs'.Sublist rs) (he:SubE env env'):Sx n E bw M w a env' bs' rs':=
 ⟨hs.ag.sub env' he.mem,hs.on,hs.pr,λx hx=>hs.bx x (hb.subset hx),λr hx=>hs.rw r (hr.subset hx),
  hs.nd.sub hb hr⟩
theorem Sx.wk (hs:Sx n E bw M w a env bs rs) (he:SubE env env'):Sx n E bw M w a env' bs rs:=hs.weak (List.Sublist.refl _) (List.Sublist.refl _) he
end
def MM (M' M:Mem) (E:World):Prop:=∀b o,M' b=some o->M b=some o\/E.heap.size<=b
theorem MM.next {M'' M' M:Mem} {E:World} (h:MM M' M E) (k:∀b o,M'' b=some o->M' b=some o\/E.heap.size<=b):MM M'' M E:=
 λb o q=>(k b o q).elim (h b o) .inr
def MX (M' M:Mem) (E:World):Prop:=M.le M'/\MM M' M E
theorem MX.refl (M:Mem) (E:World):MX M M E:=⟨Mem.le.refl M,λ_ _ h=>.inl h⟩
theorem MX.next {M'' M' M:Mem} {E:World} (h:MX M' M E) (hl:M'.le M'') (k:∀b o,M'' b=some o->M' b=some o\/E.heap.size<=b):MX M'' M E:=⟨h.1.trans hl,h.2.next k⟩
def mkS (l:List UInt8):ByteArray:=⟨⟨l⟩⟩
theorem mkS_toList (l:List UInt8):(mkS l).toList=l:=by
 rw[ByteArray.toList_eq];rfl
theorem mkS_beq {a b:List UInt8}:((mkS a).toList==(mkS b).toList)=true↔a=b:=by rw[mkS_toList,mkS_toList];exact beq_iff_eq
theorem mkS_bne {a b:List UInt8}:(!((mkS a).toList==(mkS b).toList))=true↔a≠b:=by rw[mkS_toList,mkS_toList];simp
theorem bnot_iff {b:Bool} {p:Prop} (h:b=true↔p):(!b)=true↔¬p:=by rw[<-h];simp
section
variable {P:Program} {fn:Func} {n:Nat} {E:World} {bw:List Nat} {M:Mem} {w:World} {a:Act} {env:Env} {bs:List Bx} {rs:List Rw}
end
end Go.Gx

namespace Go.Gx
open Go.RowKit
section
variable {P:Program} {ops:Array Oper} {Q:Exit->Act->World->Prop} {C:World->Prop} {keep:List Bool}
end
section
variable {P:Program} {ops:Array Oper} {Q:Exit->Act->World->Prop} {M0:Mem} {bs0:List Bx} {rs0:List Rw} {keep:List Bool} {n:Nat} {E:World} {bw:List Nat} {M:Mem} {w:World} {a:Act} {env:Env} {bs:List Bx} {rs:List Rw} {o:Oper} {fuel:Nat} {listed:Array Bool}
theorem Cx.none (w:World):Cx (λ_=>Option.none) [] [] w:=⟨(λ_ _ h=>by cases h),(λ_ h=>by cases h),(λ_ h=>by cases h)⟩
end
end Go.Gx

namespace Go.Gx
open Go.RowKit
section
variable {P:Program} {env:Env} {M:Mem} {bs:List Bx} {rs:List Rw} {d:Option Tmp} {ty:TypeId} {pos:String} {af:Array Edge} {gd:Option (Nat×Bool)}
theorem mkS_size (l:List UInt8):(mkS l).size=l.length:=rfl
theorem mkS_getElem? (l:List UInt8) (i:Nat):(mkS l)[i]?=l[i]?:=by
 by_cases h:i<l.length
 ·rw[List.getElem?_eq_getElem h,getElem?_pos (mkS l) i h];rfl
 ·rw[List.getElem?_eq_none (by omega),getElem?_neg (mkS l) i h]
theorem mkS_eta (s:ByteArray):s=mkS s.data.toList:=by cases s;rfl
theorem Yl.indexStr {t:TypeId} {x i:Operand} {l:List UInt8} {k:IntKind} {n:Int} {c:UInt8} (hkx:known env x=true) (hki:known env i=true) (hx:evT env x= .string (mkS l)) (hi:evT env i= .int k n)
  (hu:P.underlying t=some .string) (h0:0<=n) (hc:l[n.toNat]?=some c):Yl P env M bs rs ⟨d,.index t x i,ty,pos,af,gd⟩ (.int .u8 (c.toNat:Int)):=by
 refine⟨by simp[okOp,notSel,Op.operands,hkx,hki],λw _=>?_⟩
 have:=mkS_getElem? l n.toNat
 rw[hc]at this
 simp[execOp,Instr.index,hx,hi,asIntOf,run_underlying hu,h0,this]
theorem mkS_extract (l:List UInt8) (a b:Nat):(mkS l).extract a b=mkS ((l.take b).drop a):=by
 rw[mkS_eta ((mkS l).extract a b)]
 congr 1
 simp[ByteArray.data_extract,mkS,List.extract,List.take_drop]
 rw[List.drop_take,List.drop_take,show a+(b-a)-a=b-a by omega]
theorem run_sliceBound {k:IntKind} {n:Int} {y:Nat} {code:BoundsCode} (w:World) (h0:0<=n) (h1:n<=y):(Instr.sliceBound (.int k n) y code).run P w= .ok n.toNat w:=by
 simp[Instr.sliceBound,asIntOf,h0,h1]
theorem Yl.sliceStrLH {t:TypeId} {x lo hi:Operand} {l:List UInt8} {k k':IntKind} {a b:Int} (hkx:known env x=true) (hka:known env lo=true) (hkb:known env hi=true) (hx:evT env x= .string (mkS l)) (ha:evT env lo= .int k a) (hb:evT env hi= .int k' b)
  (hu:P.underlying t=some .string) (h0:0<=a) (h1:a<=b) (h2:b<=(l.length:Int)):Yl P env M bs rs ⟨d,.slice t x (some lo) (some hi) none,ty,pos,af,gd⟩ (.string (mkS ((l.take b.toNat).drop a.toNat))):=by
 refine⟨by simp[okOp,notSel,Op.operands,hkx,hka,hkb],λw _=>?_⟩
 have e1:=run_sliceBound (P:=P) (k:=k') (n:=b) (y:=l.length) (code:=.sliceAlen) w (by omega) h2
 have e2:=run_sliceBound (P:=P) (k:=k) (n:=a) (y:=b.toNat) (code:=.sliceB) w h0 (by omega)
 simp[execOp,Instr.sliceAt,Instr.slice,Instr.sliceBounds,hx,ha,hb,run_underlying hu,mkS_size,e1,e2,mkS_extract]
theorem mkS_append (a b:List UInt8):mkS a++mkS b=mkS (a++b):=ByteArray.mk_append_mk a b
theorem Yl.concat {t u:TypeId} {x y:Operand} {a b:List UInt8} (hkx:known env x=true) (hky:known env y=true) (hx:evT env x= .string (mkS a)) (hy:evT env y= .string (mkS b)) (hl:a.length+b.length<=9223372036854775807):
  Yl P env M bs rs ⟨d,.binOp .add t x y u,ty,pos,af,gd⟩ (.string (mkS (a++b))):=by
 refine⟨by simp[okOp,notSel,Op.operands,hkx,hky],λw _=>?_⟩
 have:=run_string_add_sum (P:=P) (w:=w) (mkS a) (mkS b) hl
 simp[execOp,eqGuard,hx,hy,binOp,this,mkS_append]
end
end Go.Gx

namespace Go.Gx
open Go.RowKit
section
variable {P:Program}
end
section
variable {P:Program} {env:Env} {M:Mem} {bs:List Bx} {rs:List Rw} {d:Option Tmp} {ty:TypeId} {pos:String} {af:Array Edge} {gd:Option (Nat×Bool)}
end
end Go.Gx

namespace Go.Gx
open Go.RowKit
section
variable {P:Program} {ops:Array Oper} {Q:Exit->Act->World->Prop} {n:Nat} {E:World} {bw:List Nat} {M:Mem} {w:World} {a:Act} {env:Env} {bs:List Bx} {rs:List Rw} {rest:List Oper}
end
section
variable {P:Program} {env:Env} {M:Mem} {bs:List Bx} {rs:List Rw} {d:Option Tmp} {ty:TypeId} {pos:String} {af:Array Edge} {gd:Option (Nat×Bool)}
end
end Go.Gx

namespace Go.Gx
open Go.RowKit
section
variable {P:Program} {ops:Array Oper} {Q:Exit->Act->World->Prop} {n:Nat} {E:World} {bw:List Nat} {M:Mem} {w:World} {a:Act} {env:Env} {rest:List Oper}
end
section
variable {n:Nat} {E:World} {bw:List Nat} {M:Mem} {w:World} {a:Act} {env:Env} {bs:List Bx} {rs:List Rw}
end
section
variable {P:Program} {ops:Array Oper} {Q:Exit->Act->World->Prop} {n:Nat} {E:World} {bw:List Nat} {M:Mem} {w:World} {a:Act} {env:Env} {bs:List Bx} {rs:List Rw} {rest:List Oper}
end
end Go.Gx

namespace Go.Gx
open Go.RowKit
section
variable {P:Program} {ops:Array Oper} {Q:Exit->Act->World->Prop} {n:Nat} {E:World} {bw:List Nat} {M:Mem} {w:World} {a:Act} {env:Env} {bs:List Bx} {rs:List Rw} {rest:List Oper}
end
section
variable {P:Program} {env:Env} {M:Mem} {bs:List Bx} {rs:List Rw} {d:Option Tmp} {ty:TypeId} {pos:String} {af:Array Edge} {gd:Option (Nat×Bool)}
end
section
variable {P:Program} {ops:Array Oper} {Q:Exit->Act->World->Prop} {n:Nat} {E:World} {bw:List Nat} {M:Mem} {w:World} {a:Act} {env:Env} {bs:List Bx} {rs:List Rw} {rest:List Oper}
end
end Go.Gx

namespace Go.Gx
open Go.RowKit Go.ChangeShapes
def HM (w:World):Mem:=λb=>w.heap[b]?
theorem HM.on (w:World):On (HM w) w:=λ_ _ h=>h
section
variable {H:Type} {enc:TypeId×Value->H} {P:Program} {w:World}
theorem argInt {r:Reach} {b0:Nat} {t:TypeId} {k:IntKind} {v:Value} {d:DataW H} {ps:List MemPlace} (ht:P.underlying t=some (.int k)) (hval:Value.okWide P w r b0 t v) (hd:DataW.Trod enc P w 0 (λ_=>true) true t v d ps):
  ∃z,v= .int k z/\(Lit.int k z).wf=true:=by
 obtain⟨n,h1,_,_,h2⟩:=open_int ht hval hd
 exact⟨n,h1,h2⟩
theorem trodAll_below (hl:laidOutB P=true) {W W':World} (hb:Below W.heap.size W W'):∀{ts:List TypeId} {vs:List Value} {ds:List (DataW H)} {ps:List MemPlace},(ts.all λt=>P.readableRec t&&decide (t<P.types.size))=true->
  DataW.TrodAll enc P W 0 (λ_=>true) true ts vs ds ps->DataW.TrodAll enc P W' 0 (λb=>decide (b<W.heap.size)) true ts vs ds ps
 |[],_,_,_,_,h=>by
  obtain⟨rfl,rfl,rfl⟩:=trodAll_nil h
  exact trodAll_mk0
 |t::ts,_,_,_,hr,h=>by
  simp only[List.all_cons,Bool.and_eq_true,decide_eq_true_eq]at hr
  obtain⟨v,vs,d,ds,p,q,rfl,rfl,rfl,h1,h2⟩:=trodAll_cons h
  have hlt:∀x∈p,x.block<W.heap.size:=by
   obtain⟨m,hm⟩:=h1
   exact DataW.trod_lt m _ _ _ hm
  exact trodAll_cons_mk (Below.trod hl hr.1.1 hr.1.2 h1 hb hlt) (trodAll_below hl hb (by simpa using hr.2) h2)
end
end Go.Gx

namespace Go.Gx
open Go.RowKit
section
variable {α:Type} {f:α->List Value}
end
section
variable {α β:Type} {R:α->β->Prop}
end
section
variable {P:Program} {ops:Array Oper} {Q:Exit->Act->World->Prop} {n:Nat} {E:World} {bw:List Nat} {M:Mem} {w:World} {a:Act} {env:Env} {bs:List Bx} {rs:List Rw} {rest:List Oper} {o:Oper}
theorem sP (v:Value) {d:Nat} (hs:Sx n E bw M w a env bs rs) (h:∀a',Sx n E bw M w a' ((d,v)::env) bs rs->wpList P ops Q rest a' w)
  (hg:o.guard=none:=by rfl) (hd:o.dst=some d:=by rfl) (hdn:d<n:=by decide) (hk:okOp env o=true:=by rfl) (hr:∀w,(execOp (evT env) o).run P w= .ok (.value v) w:=by intro _;kernel_rfl):wpList P ops Q (o::rest) a w:=
 stepY v hs hg hd hdn (Yl.pure hk hr) h
theorem sY (v:Value) {d:Nat} (hs:Sx n E bw M w a env bs rs) (hy:Yl P env M bs rs o v) (h:∀a',Sx n E bw M w a' ((d,v)::env) bs rs->wpList P ops Q rest a' w)
  (hg:o.guard=none:=by rfl) (hd:o.dst=some d:=by rfl) (hdn:d<n:=by decide):wpList P ops Q (o::rest) a w:=
 stepY v hs hg hd hdn hy h
theorem sNo {j t d:Nat} {b c:Bool} (hs:Sx n E bw M w a env bs rs) (h:∀a',Sx n E bw M w a' ((d,undef)::env) bs rs->wpList P ops Q rest a' w) (hg:o.guard=some (j,b):=by rfl) (ht:(ops[j]?).bind (·.dst)=some t:=by rfl) (hl:lk env t=some (.bool c):=by rfl) (hne:(c==b)=false:=by rfl)
  (hd:o.dst=some d:=by rfl) (hdn:d<n:=by decide):wpList P ops Q (o::rest) a w:=step_no hs hg ht hl hne hd hdn h
theorem sNu {j t d:Nat} {b:Bool} (hs:Sx n E bw M w a env bs rs) (h:∀a',Sx n E bw M w a' ((d,undef)::env) bs rs->wpList P ops Q rest a' w) (hg:o.guard=some (j,b):=by rfl) (ht:(ops[j]?).bind (·.dst)=some t:=by rfl) (hl:lk env t=some undef:=by rfl)
  (hd:o.dst=some d:=by rfl) (hdn:d<n:=by decide):wpList P ops Q (o::rest) a w:=step_nou hs hg ht hl hd hdn h
theorem sYe {j t:Nat} {b:Bool} (hs:Sx n E bw M w a env bs rs) (h:wpList P ops Q ({o with guard:=none}::rest) a w) (hg:o.guard=some (j,b):=by rfl) (ht:(ops[j]?).bind (·.dst)=some t:=by rfl) (hl:lk env t=some (.bool b):=by rfl):wpList P ops Q (o::rest) a w:=step_yes hs hg ht hl h
end
section
variable {P:Program} {ops:Array Oper} {Q:Exit->Act->World->Prop} {M0:Mem} {bs0:List Bx} {rs0:List Rw} {keep:List Bool} {n:Nat} {E:World} {bw:List Nat} {M:Mem} {w:World} {a:Act} {env:Env} {bs:List Bx} {rs:List Rw} {o:Oper} {fuel:Nat} {listed:Array Bool}
end
section
variable {P:Program} {ops:Array Oper} {Q:Exit->Act->World->Prop} {n:Nat} {E:World} {bw:List Nat} {M:Mem} {w:World} {a:Act} {env:Env} {bs:List Bx} {rs:List Rw} {rest:List Oper}
abbrev iv (x:Int):Value:=.int .i64 x
theorem lvE (K:Value->Prop) {fn:Func} {M0:Mem} {v:Value} (hs:Sx n E [] M w a env bs rs) (hr:(results fn a.tmps).run P w= .ok v w) (hM:∀b o,M b=some o->M0 b=some o\/E.heap.size<=b) (hK:K v):
  a.defers=[]/\∃v,(results fn a.tmps).run P w= .ok v w/\Below E.heap.size E w/\K v:=leaveE (K:=λv _=>K v) hs hr hM λ_ _=>hK
end
theorem bsS {n:Nat} {E:World} {bw:List Nat} {M:Mem} {w:World} {a:Act} {env:Env} {bs:List Bx} {rs:List Rw} {d:Nat} {b:Bool} {p A B G:Prop} (hp:b=true↔p) (hs:Sx n E bw M w a ((d,.bool b)::env) bs rs) (hS:(p->A)/\(¬p->B)) (h1:Sx n E bw M w a ((d,.bool true)::env) bs rs->A->G) (h2:Sx n E bw M w a ((d,.bool false)::env) bs rs->B->G):G:=
 bsplit b hp (λhb hc=>h1 (hs.bt hb) (hS.1 hc)) (λhb hc=>h2 (hs.bf hb) (hS.2 hc))
theorem Wp.cS {P:Program} {N:Act->World->Prop} {X:List (Nat×(Act->World->Prop))} {R:Act->World->Prop} {Z:List PanicEntry->Act->World->Prop} {a:Act} {w:World} {n:Nat} {E:World} {bw:List Nat} {M:Mem} {env:Env} {bs:List Bx} {rs:List Rw} {c:Operand} {x y:Code} {b:Bool} {p A B:Prop} (hs:Sx n E bw M w a env bs rs)
  (hp:b=true↔p) (hS:(p->A)/\(¬p->B)) (h1:A->Wp P x N X R Z a w) (h2:B->Wp P y N X R Z a w) (hk:known env c=true:=by rfl) (hc:evT env c= .bool b:=by rfl):Wp P (.cond c x y) N X R Z a w:=
 Wp.cond hs hk hc hp (λhc=>h1 (hS.1 hc)) (λhc=>h2 (hS.2 hc))
section
variable {P:Program} {ops:Array Oper} {Q:Exit->Act->World->Prop} {M0:Mem} {bs0:List Bx} {rs0:List Rw} {keep:List Bool} {w:World} {a:Act} {o:Oper} {fuel:Nat} {listed:Array Bool}
end
section
variable {P:Program} {ops:Array Oper} {Q:Exit->Act->World->Prop} {n:Nat} {E:World} {bw:List Nat} {M:Mem} {w:World} {a:Act} {env:Env} {bs:List Bx} {rs:List Rw} {rest:List Oper}
theorem Yl.wr {o:Oper} {z:Int} (hI:InI z) (hk:okOp env o=true:=by rfl) (hr:∀w,(execOp (evT env) o).run P w= .ok (.value (Value.int .i64 (IntKind.wrap .i64 z))) w:=by intro _;kernel_rfl):Yl P env M bs rs o (.int .i64 z):=
 Yl.eq (Yl.pure hk hr) (congrArg (Value.int .i64) (wrap_in hI))
theorem cP (args:List Value) {d f:Nat} {ty:TypeId} {c:Call} {pos:String} {af:Array Edge} {fn:Func} {K:Value->Prop} {first caps:Array Value} (hs:Sx n E bw M w a env bs rs) (hf:P.funcs[f]?=some fn) (hc:CallE P f args.toArray M λv _=>K v)
  (h:∀a' w' v,K v->Sx n E bw M w' a' ((d,v)::env) bs rs->wpList P ops Q rest a' w') (hk:okOp env ⟨some d,.call c,ty,pos,af,none⟩=true:=by rfl) (hcal:∃x,c.callee= .value x/\evT env x= .func (.func f) first caps:=by exact⟨_,rfl,rfl⟩) (hargs:first.toList++c.args.toList.map (evT env)++caps.toList=args:=by rfl)
  (hbody:fn.body.isNone=false:=by rfl) (hname:(fn.name== "runtime.NumGoroutine")=false:=by kernel_rfl) (hdn:d<n:=by decide):wpList P ops Q (⟨some d,.call c,ty,pos,af,none⟩::rest) a w:=stepCallP args hs hk hcal hargs hf hbody hname hdn hc h
theorem cE (args:List Value) {d f:Nat} {ty:TypeId} {c:Call} {pos:String} {af:Array Edge} {fn:Func} {K:Value->Mem->Prop} {first caps:Array Value} (hs:Sx n E bw M w a env bs rs) (hf:P.funcs[f]?=some fn) (hc:CallE P f args.toArray M K)
  (h:∀a' w' M' v,M.le M'->(∀b o,M' b=some o->M b=some o\/E.heap.size<=b)->K v M'->Sx n E bw M' w' a' ((d,v)::env) bs rs->wpList P ops Q rest a' w') (hk:okOp env ⟨some d,.call c,ty,pos,af,none⟩=true:=by rfl) (hcal:∃x,c.callee= .value x/\evT env x= .func (.func f) first caps:=by exact⟨_,rfl,rfl⟩)
  (hargs:first.toList++c.args.toList.map (evT env)++caps.toList=args:=by rfl) (hbody:fn.body.isNone=false:=by rfl) (hname:(fn.name== "runtime.NumGoroutine")=false:=by kernel_rfl) (hdn:d<n:=by decide):wpList P ops Q (⟨some d,.call c,ty,pos,af,none⟩::rest) a w:=stepCallE args hs hk hcal hargs hf hbody hname hdn hc h
end
section
variable {P:Program} {ops ops1:Array Oper} {Q:Exit->Act->World->Prop} {M0:Mem} {bs0:List Bx} {rs0:List Rw} {keep:List Bool} {n j:Nat} {E:World} {bw:List Nat} {M:Mem} {w:World} {a:Act} {env:Env} {bs:List Bx} {rs:List Rw} {o:Oper} {fuel:Nat} {listed:Array Bool}
end
end Go.Gx

namespace Go.Gx
open Go.RowKit
section
variable {P:Program} {env:Env} {M:Mem} {bs:List Bx} {rs:List Rw} {d:Option Tmp} {ty:TypeId} {pos:String} {af:Array Edge} {gd:Option (Nat×Bool)}
end
end Go.Gx

namespace Go.Gx
open Go.RowKit
section
variable {P:Program} {ops:Array Oper} {Q:Exit->Act->World->Prop} {n:Nat} {E:World} {bw:List Nat} {M:Mem} {w:World} {a:Act} {env:Env} {bs:List Bx} {rs:List Rw} {rest:List Oper}
theorem On.hm (h:On M w):M.le (HM w):=λb o hb=>h b o hb
end
end Go.Gx

namespace Go.Gx
open Go.RowKit Go.ChangeShapes
mutual
def dBulk {H:Type}:DataW H->Nat
 | .lit (.string bytes)=>bytes.length+1
 | .lit _=>1
 | .nil=>1
 | .ptr d=>dBulk d+1
 | .slice elems spare=>dBulks elems+dBulks spare+1
 | .agg parts=>dBulks parts+1
 | .iface _ d=>dBulk d+1
 | .map entries=>dBulkEs entries+1
 | .held _=>1
def dBulks {H:Type}:List (DataW H)->Nat
 |[]=>0
 |d::r=>dBulk d+dBulks r
def dBulkEs {H:Type}:List (Lit×DataW H)->Nat
 |[]=>0
 |x::r=>dBulkE x+dBulkEs r
def dBulkE {H:Type}:Lit×DataW H->Nat
 |(.string bytes,d)=>bytes.length+dBulk d+1
 |(_,d)=>dBulk d+1
end
section
variable {H:Type} {enc:TypeId×Value->H} {P:Program} {w:World}
theorem argStrB {r:Reach} {b0:Nat} {t:TypeId} {v:Value} {d:DataW H} {ps:List MemPlace} (ht:P.underlying t=some .string) (hval:Value.okWide P w r b0 t v) (hd:DataW.Trod enc P w 0 (λ_=>true) true t v d ps):
  ∃l,v= .string (mkS l)/\d= .lit (.string l)/\l.length+1=dBulk d:=by
 obtain⟨s,rfl⟩:=WideShapes.okWide_string ht hval
 obtain⟨fuel,hf⟩:=hd
 obtain⟨s',h,hx,hs⟩:=DataW.trod_string ht hf
 simp[Value.cells]at h
 subst h
 simp only[Prod.mk.injEq]at hx
 obtain⟨rfl,_⟩:=hx
 exact⟨s.data.toList,by rw[<-mkS_eta],rfl,by simp[dBulk]⟩
end
end Go.Gx

namespace Go.Gx
open Go.RowKit
def Mem.put (M:Mem) (b o:Nat) (vs:List Value):Mem:=λx=>if x=b then(match M b with
 |some (.cells c t f)=>some (.cells (putAt c.toList o vs).toArray t f)
 |r=>r) else M x
def Mem.add (M:Mem) (b:Nat) (o:Obj):Mem:=λx=>if x=b then some o else M x
section
variable {P:Program} {ops:Array Oper} {Q:Exit->Act->World->Prop} {n:Nat} {E:World} {M M0:Mem} {L:Nat->Prop} {w:World} {a:Act} {env:Env} {bs:List Bx} {rs:List Rw} {rest:List Oper}
end
section
variable {P:Program} {env:Env} {M:Mem} {bs:List Bx} {rs:List Rw} {d:Option Tmp} {ty:TypeId} {pos:String} {af:Array Edge} {gd:Option (Nat×Bool)}
end
end Go.Gx

namespace Go.Gx
open Go.RowKit Go.Maps Go.WideMaps
section
variable {P:Program} {ops:Array Oper} {Q:Exit->Act->World->Prop} {n:Nat} {E:World} {M M0:Mem} {L:Nat->Prop} {w:World} {a:Act} {env:Env} {bs:List Bx} {rs:List Rw} {rest:List Oper}
variable {d:Option Tmp} {ty:TypeId} {pos:String} {af:Array Edge} {gd:Option (Nat×Bool)}
end
section
variable {P:Program} {fn:Func} {n:Nat} {E:World} {bw:List Nat} {M:Mem} {w:World} {a:Act} {env:Env} {bs:List Bx} {rs:List Rw}
end
end Go.Gx

namespace Go.Gx
open Go.RowKit
section
variable {P:Program} {N J:Act->World->Prop} {X:List (Nat×(Act->World->Prop))} {R:Act->World->Prop} {Z:List PanicEntry->Act->World->Prop} {a:Act} {w:World} {ops:Array Oper} {Q:Exit->Act->World->Prop}
theorem wn (h:Q .normal a w):wpList P ops Q [] a w:=h
theorem qs {x y:Code} (h:Wp P x (λa w=>Wp P y N X R Z a w) X R Z a w):Wp P (.seq x y) N X R Z a w:=Wp.seq h
theorem qg {id:Nat} {l:List Oper} (h:wpList P l.toArray (QQ N X R Z) l a w):Wp P (.region id l.toArray false) N X R Z a w:=Wp.region h
theorem qr {id:Nat} {l:List Oper} {y:Code} (h:wpList P l.toArray (QQ (λa w=>Wp P y N X R Z a w) X R Z) l a w):Wp P (.seq (.region id l.toArray false) y) N X R Z a w:=Wp.seq (Wp.region h)
theorem qk (h:N a w):Wp P .skip N X R Z a w:=Wp.skip h
theorem qt (h:R a w):Wp P .ret N X R Z a w:=Wp.ret h
theorem qb {id:Nat} {c:Code} (h:Wp P c N ((id,N)::X) R Z a w):Wp P (.block id c) N X R Z a w:=Wp.block h
theorem qx {id:Nat} {K:Act->World->Prop} (hx:lkX X id=some K) (h:K a w):Wp P (.exit id) N X R Z a w:=Wp.exit hx h
end
theorem SubE.of {env:Env}:∀{env':Env},(env'.map λp=>lk env p.1)=(env'.map λp=>some p.2)->SubE env env'
 |[],_=>trivial
 |p::r,h=>by
  simp only[List.map_cons,List.cons.injEq]at h
  exact⟨h.1,SubE.of h.2⟩
section
variable {P:Program} {ops:Array Oper} {Q:Exit->Act->World->Prop} {n:Nat} {E:World} {bw:List Nat} {M M0:Mem} {w:World} {a:Act} {env env':Env} {bs bs':List Bx} {rs rs':List Rw} {rest:List Oper} {o o1 o2 o3 o4 o5 o6:Oper}
theorem Sx.q (hs:Sx n E bw M w a env bs rs) (he:(env'.map λp=>lk env p.1)=(env'.map λp=>some p.2):=by rfl):Sx n E bw M w a env' bs rs:=hs.wk (SubE.of he)
structure Pq (P:Program) (n:Nat) (env:Env) (o:Oper) (d:Nat) (v:Value):Prop where
 g1:o.guard=none
 d1:o.dst=some d
 n1:d<n
 k1:okOp env o=true
 r1:∀w,(execOp (evT env) o).run P w= .ok (.value v) w
theorem Pq.s {d:Nat} {v:Value} (q:Pq P n env o d v) (hs:Sx n E bw M w a env bs rs) (h:∀a',Sx n E bw M w a' ((d,v)::env) bs rs->wpList P ops Q rest a' w):wpList P ops Q (o::rest) a w:=sP v hs h q.g1 q.d1 q.n1 q.k1 q.r1
theorem sP2 (v1 v2:Value) {d1 d2:Nat} (hs:Sx n E bw M w a env bs rs) (h:∀a',Sx n E bw M w a' ((d2,v2)::(d1,v1)::env) bs rs->wpList P ops Q rest a' w)
  (q1:Pq P n env o1 d1 v1:=by exact⟨rfl,rfl,by decide,rfl,by intro _;kernel_rfl⟩) (q2:Pq P n ((d1,v1)::env) o2 d2 v2:=by exact⟨rfl,rfl,by decide,rfl,by intro _;kernel_rfl⟩):wpList P ops Q (o1::o2::rest) a w:=
 q1.s hs λ_ hs=>q2.s hs h
theorem sP3 (v1 v2 v3:Value) {d1 d2 d3:Nat} (hs:Sx n E bw M w a env bs rs) (h:∀a',Sx n E bw M w a' ((d3,v3)::(d2,v2)::(d1,v1)::env) bs rs->wpList P ops Q rest a' w)
  (q1:Pq P n env o1 d1 v1:=by exact⟨rfl,rfl,by decide,rfl,by intro _;kernel_rfl⟩) (q2:Pq P n ((d1,v1)::env) o2 d2 v2:=by exact⟨rfl,rfl,by decide,rfl,by intro _;kernel_rfl⟩)
  (q3:Pq P n ((d2,v2)::(d1,v1)::env) o3 d3 v3:=by exact⟨rfl,rfl,by decide,rfl,by intro _;kernel_rfl⟩):wpList P ops Q (o1::o2::o3::rest) a w:=
 q1.s hs λ_ hs=>q2.s hs λ_ hs=>q3.s hs h
theorem sP4 (v1 v2 v3 v4:Value) {d1 d2 d3 d4:Nat} (hs:Sx n E bw M w a env bs rs) (h:∀a',Sx n E bw M w a' ((d4,v4)::(d3,v3)::(d2,v2)::(d1,v1)::env) bs rs->wpList P ops Q rest a' w)
  (q1:Pq P n env o1 d1 v1:=by exact⟨rfl,rfl,by decide,rfl,by intro _;kernel_rfl⟩) (q2:Pq P n ((d1,v1)::env) o2 d2 v2:=by exact⟨rfl,rfl,by decide,rfl,by intro _;kernel_rfl⟩)
  (q3:Pq P n ((d2,v2)::(d1,v1)::env) o3 d3 v3:=by exact⟨rfl,rfl,by decide,rfl,by intro _;kernel_rfl⟩) (q4:Pq P n ((d3,v3)::(d2,v2)::(d1,v1)::env) o4 d4 v4:=by exact⟨rfl,rfl,by decide,rfl,by intro _;kernel_rfl⟩):wpList P ops Q (o1::o2::o3::o4::rest) a w:=
 q1.s hs λ_ hs=>q2.s hs λ_ hs=>q3.s hs λ_ hs=>q4.s hs h
theorem ye (v:Value) {j t d:Nat} {b:Bool} (hs:Sx n E bw M w a env bs rs) (h:∀a',Sx n E bw M w a' ((d,v)::env) bs rs->wpList P ops Q rest a' w) (hg:o.guard=some (j,b):=by rfl) (ht:(ops[j]?).bind (·.dst)=some t:=by rfl) (hl:lk env t=some (.bool b):=by rfl)
  (q:Pq P n env {o with guard:=none} d v:=by exact⟨rfl,rfl,by decide,rfl,by intro _;kernel_rfl⟩):wpList P ops Q (o::rest) a w:=sYe hs (q.s hs h) hg ht hl
theorem rT {K:Value->Prop} {fn:Func} {v:Value} {t:Nat} (hs:Sx n E [] M w a env bs rs) (hM:MX M M0 E) (hK:K v) (hr:fn.results= #[.tmp t]:=by rfl) (hv:lk env t=some v:=by rfl):
  a.defers=[]/\∃v,(results fn a.tmps).run P w= .ok v w/\Below E.heap.size E w/\K v:=lvE K hs (resT hs hr hv) hM.2 hK
theorem rTT {K:Value->Prop} {fn:Func} {v x:Value} {t u:Nat} (hs:Sx n E [] M w a env bs rs) (hM:MX M M0 E) (hK:K (.tuple #[v,x])) (hr:fn.results= #[.tmp t,.tmp u]:=by rfl) (hv:lk env t=some v:=by rfl) (hx:lk env u=some x:=by rfl):
  a.defers=[]/\∃v,(results fn a.tmps).run P w= .ok v w/\Below E.heap.size E w/\K v:=lvE K hs (resTT hs hr hv hx) hM.2 hK
theorem cM (args:List Value) {d f:Nat} {ty:TypeId} {c:Call} {pos:String} {af:Array Edge} {fn:Func} {K:Value->Mem->Prop} {first caps:Array Value} (hs:Sx n E bw M w a env bs rs) (hM:MX M M0 E) (hf:P.funcs[f]?=some fn) (hc:CallE P f args.toArray M K)
  (h:∀a' w' M' v,MX M' M0 E->M.le M'->K v M'->Sx n E bw M' w' a' ((d,v)::env) bs rs->wpList P ops Q rest a' w') (hk:okOp env ⟨some d,.call c,ty,pos,af,none⟩=true:=by rfl) (hcal:∃x,c.callee= .value x/\evT env x= .func (.func f) first caps:=by exact⟨_,rfl,rfl⟩)
  (hargs:first.toList++c.args.toList.map (evT env)++caps.toList=args:=by rfl) (hbody:fn.body.isNone=false:=by rfl) (hname:(fn.name== "runtime.NumGoroutine")=false:=by kernel_rfl) (hdn:d<n:=by decide):wpList P ops Q (⟨some d,.call c,ty,pos,af,none⟩::rest) a w:=
 cE args hs hf hc (λa' w' M' v h1 h2 h3 h4=>h a' w' M' v (hM.next h1 h2) h1 h3 h4) hk hcal hargs hbody hname hdn
end
section
variable {P:Program} {ops:Array Oper} {Q:Exit->Act->World->Prop} {M0:Mem} {bs0:List Bx} {rs0:List Rw} {keep:List Bool} {n:Nat} {E:World} {bw:List Nat} {M:Mem} {w:World} {a:Act} {env:Env} {bs:List Bx} {rs:List Rw} {o:Oper} {fuel:Nat} {listed:Array Bool}
end
section
variable {P:Program} {f:FuncId} {fn:Func} {c:Code} {M:Mem} {K:Value->Mem->Prop} {L:Nat->Prop}
abbrev EndE (P:Program) (fn:Func) (M:Mem) (K:Value->Mem->Prop) (w:World) (a':Act) (w':World):Prop:=a'.defers=[]/\∃v,(results fn a'.tmps).run P w'= .ok v w'/\Below w.heap.size w w'/\K v (grow M w w')
theorem eE1 {a0:Value} (hf:P.funcs[f]?=some fn) (n:Nat) (h:∀w a,MX M M w->Sx n w [] M w a [(0,a0)] [] []->Wp P c (EndE P fn M K w) [] (EndE P fn M K w) (λ_ _ _=>False) a w) (hb:fn.body=some c:=by rfl) (hn:fn.ntmps=n:=by rfl) (hl:1<=n:=by exact Nat.le_of_ble_eq_true rfl):CallE P f #[a0] M K:=
 enterE (l:=[a0]) hf hb n hn hl λw a hs=>h w a (MX.refl M w) hs
theorem eE2 {a0 a1:Value} (hf:P.funcs[f]?=some fn) (n:Nat) (h:∀w a,MX M M w->Sx n w [] M w a [(0,a0),(1,a1)] [] []->Wp P c (EndE P fn M K w) [] (EndE P fn M K w) (λ_ _ _=>False) a w) (hb:fn.body=some c:=by rfl) (hn:fn.ntmps=n:=by rfl) (hl:2<=n:=by exact Nat.le_of_ble_eq_true rfl):CallE P f #[a0,a1] M K:=
 enterE (l:=[a0,a1]) hf hb n hn hl λw a hs=>h w a (MX.refl M w) hs
end
end Go.Gx

namespace Go.Gx
open Go.RowKit Go.Maps Go.WideMaps
section
variable {P:Program} {ops:Array Oper} {Q:Exit->Act->World->Prop} {n:Nat} {E:World} {M M0:Mem} {L:Nat->Prop} {w:World} {a:Act} {env:Env} {bs:List Bx} {rs:List Rw} {rest:List Oper}
variable {d:Option Tmp} {ty:TypeId} {pos:String} {af:Array Edge} {gd:Option (Nat×Bool)}
end
section
variable {P:Program} {ops:Array Oper} {Q:Exit->Act->World->Prop} {n:Nat} {E:World} {bw:List Nat} {M:Mem} {w:World} {a:Act} {env:Env} {bs:List Bx} {rs:List Rw} {rest:List Oper} {o:Oper}
end
end Go.Gx

namespace Go.Gx
open Go.RowKit
section
variable {P:Program} {ops:Array Oper} {Q:Exit->Act->World->Prop} {n:Nat} {E:World} {M M0:Mem} {L:Nat->Prop} {w:World} {a:Act} {env:Env} {bs:List Bx} {rs:List Rw} {rest:List Oper}
end
section
variable {P:Program} {ops:Array Oper} {Q:Exit->Act->World->Prop} {n:Nat} {E:World} {M M0:Mem} {L:Nat->Prop} {w:World} {a:Act} {env:Env} {bs:List Bx} {rs:List Rw} {rest:List Oper}
end
end Go.Gx

namespace Go.Gx
open Go.RowKit
section
variable {P:Program} {ops:Array Oper} {Q:Exit->Act->World->Prop} {n:Nat} {E:World} {bw:List Nat} {M:Mem} {w:World} {a:Act} {env:Env} {bs:List Bx} {rs:List Rw} {rest:List Oper}
end
end Go.Gx

namespace Go.Gx
open Go.RowKit
section
variable {P:Program} {env:Env} {M:Mem} {bs:List Bx} {rs:List Rw} {d:Option Tmp} {ty:TypeId} {pos:String} {af:Array Edge} {gd:Option (Nat×Bool)}
def IfNil (v:Value) (b:Bool):Prop:=(v= .nilIface/\b=true)\/∃t u,v= .iface t u/\b=false
theorem Yl.ifNotNil {t u:TypeId} {x:Operand} {v:Value} {b:Bool} (hk:okOp env ⟨d,.binOp .neq t x (.const .nilIface) u,ty,pos,af,gd⟩=true) (ht:(match P.underlying t with|some (.interface ..)=>true|_=>false)=true) (hx:evT env x=v) (h:IfNil v b):
  Yl P env M bs rs ⟨d,.binOp .neq t x (.const .nilIface) u,ty,pos,af,gd⟩ (.bool (!b)):=by
 refine⟨hk,λw _=>?_⟩
 have hc:evT env (.const .nilIface)= .nilIface:=rfl
 split at ht<;>try cases ht
 rename_i hu
 have:(Op.equalIn (9999+1) t v .nilIface).run P w= .ok b w:=by
  generalize 9999=q
  rcases h with⟨rfl,rfl⟩|⟨f,xs,rfl,rfl⟩<;>simp[Op.equalIn,run_underlying hu]
 rcases h with⟨rfl,rfl⟩|⟨f,xs,rfl,rfl⟩<;>simp[execOp,eqGuard,hx,hc,binOp,Op.equal,Op.maxDepth,this]
end
section
variable {P:Program} {ops:Array Oper} {Q:Exit->Act->World->Prop} {n:Nat} {E:World} {M M0:Mem} {L:Nat->Prop} {w:World} {a:Act} {env:Env} {bs:List Bx} {rs:List Rw} {rest:List Oper}
end
end Go.Gx

namespace Go.Proofs.YtjecddabdlapbaaDoor.core
open Go.Gx Go.RowKit Go.ChangeShapes Go.WideShapes Go.ChangeAt
set_option linter.unusedVariables false
def S_quote_Dec (n1:Int) (M:Mem) (K:Value->Prop):Prop:=
 (CallE Tryd.prog 88 #[(.int .i64 n1)] M (λv _=>∃(x2:List UInt8),v=(Value.string (mkS x2))/\K (Value.string (mkS x2))))
set_option maxRecDepth 100000 in
theorem s_quote_Dec (n1:Int) (M:Mem) (K:Value->Prop) (hS:S_quote_Dec n1 M K):CallE Tryd.prog 46 #[(Value.int .i64 n1)] M (λv _=>K v):=by
 refine eE1 Tryd.func46 5 λE a hMM hs=>?_;unfold S_quote_Dec at hS;refine qr (sP (.string (mkS ([]:List UInt8))) hs λ_ hs=>?_);refine wn (qr (sP (iv n1) hs λ_ hs=>?_));refine cP [(iv n1)] hs Tryd.func88 hS λ_ _ v hS hs=>?_;obtain⟨x2,rfl,hS⟩:=hS;refine sP (.string (mkS x2)) hs λ_ hs=>?_;exact wn (qt (rT hs hMM hS))
def S_quote_Undec_J1 (x2:Int) (x7:Bool) (K:Value->Prop):Prop:=
 ((x7=true->K (Value.tuple #[(.int .i64 0),(.int .i64 3)]))/\(¬(x7=true)->K (Value.tuple #[(.int .i64 x2),(.int .i64 0)])))
def S_quote_Undec (s1:List UInt8) (M:Mem) (K:Value->Prop):Prop:=
 (CallE Tryd.prog 87 #[(.string (mkS s1))] M (λv M4=>∃(x2:Int) (x3:Value),v=(Value.tuple #[(.int .i64 x2),x3])/\(∃nil5:Bool,IfNil x3 nil5/\((¬(nil5=true)->(S_quote_Undec_J1 x2 true K))/\(¬(¬(nil5=true))->((((s1.length:Nat):Int)>9->(S_quote_Undec_J1 x2 true K))/\(¬(((s1.length:Nat):Int)>9)->((x2<0->(S_quote_Undec_J1 x2 true K))/\(¬(x2<0)->(CallE Tryd.prog 88 #[(.int .i64 x2)] M4 (λv _=>∃(x6:List UInt8),v=(Value.string (mkS x6))/\(S_quote_Undec_J1 x2 (!((mkS x6).toList==(mkS s1).toList)) K))))))))))))
set_option maxRecDepth 100000 in
theorem s_quote_Undec (s1:List UInt8) (M:Mem) (K:Value->Prop) (hS:S_quote_Undec s1 M K):CallE Tryd.prog 44 #[(Value.string (mkS s1))] M (λv _=>K v):=by
 refine eE1 Tryd.func44 29 λE a hMM hs=>?_;unfold S_quote_Undec at hS;refine qr (sP2 (iv 0) (iv 0) hs λ_ hs=>?_);refine wn (qr (sP (.string (mkS s1)) hs λ_ hs=>?_));refine cM [(.string (mkS s1))] hs hMM Tryd.func87 hS λ_ _ M4 v hMM hle hS hs=>?_;obtain⟨x2,x3,rfl,hS⟩:=hS;refine sP4 (Value.tuple #[(iv x2),x3]) (iv x2) x3 (iv x2) hs λ_ hs=>?_;refine sP x3 hs λ_ hs=>?_;refine wn (qs (Wp.join (λa w=>∃(x7:Bool),Sx 29 E [] M4 w a [(4,(iv x2)),(27,(.bool x7))] [] []/\(S_quote_Undec_J1 x2 x7 K)) ?_ ?_))
 ·refine qg (sP x3 hs λ_ hs=>?_);obtain⟨nil5,hfn,hS⟩:=hS;refine sY (.bool (!nil5)) hs (Yl.ifNotNil rfl (by kernel_rfl) rfl hfn) λ_ hs=>?_;refine sP (.bool (!nil5)) hs λ_ hs=>?_;refine bsS (bnot_iff Iff.rfl) hs hS (λhs hS=>?_) (λhs hS=>?_)
  ·repeat (first|refine sNo hs λ_ hs=>?_|refine sNu hs λ_ hs=>?_)
   refine sP2 (.bool true) (.bool true) hs λ_ hs=>?_;refine sNo hs λ_ hs=>?_;refine sNo hs λ_ hs=>?_;refine sP2 (.bool true) (.bool true) hs λ_ hs=>?_;repeat (first|refine sNo hs λ_ hs=>?_|refine sNu hs λ_ hs=>?_)
   refine sP (.bool true) hs λ_ hs=>?_;exact wn (⟨true,hs.q,hS⟩)
  ·refine ye (.string (mkS s1)) hs λ_ hs=>?_;refine ye (iv (s1.length:Int)) hs λ_ hs=>?_;refine ye (.bool (decide ((s1.length:Int)>9))) hs λ_ hs=>?_;refine sP2 (.bool (decide ((s1.length:Int)>9))) (.bool (decide ((s1.length:Int)>9))) hs λ_ hs=>?_;refine bsS decide_eq_true_iff hs hS (λhs hS=>?_) (λhs hS=>?_)
   ·refine sNo hs λ_ hs=>?_;refine sNo hs λ_ hs=>?_;refine sP2 (.bool true) (.bool true) hs λ_ hs=>?_;repeat (first|refine sNo hs λ_ hs=>?_|refine sNu hs λ_ hs=>?_)
    refine sP (.bool true) hs λ_ hs=>?_;exact wn (⟨true,hs.q,hS⟩)
   ·refine ye (iv x2) hs λ_ hs=>?_;refine ye (.bool (decide (x2<0))) hs λ_ hs=>?_;refine sP2 (.bool (decide (x2<0))) (.bool (decide (x2<0))) hs λ_ hs=>?_;refine bsS decide_eq_true_iff hs hS (λhs hS=>?_) (λhs hS=>?_)
    ·repeat (first|refine sNo hs λ_ hs=>?_|refine sNu hs λ_ hs=>?_)
     refine sP (.bool true) hs λ_ hs=>?_;exact wn (⟨true,hs.q,hS⟩)
    ·refine ye (iv x2) hs λ_ hs=>?_;refine sYe hs (stepCallP [(iv x2)] hs rfl ⟨_,rfl,rfl⟩ rfl Tryd.func88 rfl (by kernel_rfl) (by decide) hS (λ_ _ v hS hs=>?_));obtain⟨x6,rfl,hS⟩:=hS;refine ye (.string (mkS s1)) hs λ_ hs=>?_;refine ye (.bool (!((mkS x6).toList==(mkS s1).toList))) hs λ_ hs=>?_;refine sP (.bool (!((mkS x6).toList==(mkS s1).toList))) hs λ_ hs=>?_;exact wn (⟨(!((mkS x6).toList==(mkS s1).toList)),hs.q,hS⟩)
 ·intro a w hJ;obtain⟨x7,hs,hS⟩:=hJ;unfold S_quote_Undec_J1 at hS;refine Wp.cS hs Iff.rfl hS (λhS=>?_) (λhS=>?_)
  ·refine qr (sP2 (iv 0) (iv 3) hs λ_ hs=>?_);exact wn (qt (rTT hs hMM hS))
  ·refine qk (qr (sP3 (iv x2) (iv x2) (iv 0) hs λ_ hs=>?_));exact wn (qt (rTT hs hMM hS))
def S_chaffref_digit (n1:Int) (M:Mem) (K:Value->Prop):Prop:=
 (InI (n1+1)/\((0:Int)<=n1/\(n1:Int)<=n1+1/\(n1+1:Int)<=((([48,49,50,51,52,53,54,55,56,57,97,98,99,100,101,102]:List UInt8).length:Nat):Int)/\K (Value.string (mkS ((([48,49,50,51,52,53,54,55,56,57,97,98,99,100,101,102]:List UInt8).take (n1+1).toNat).drop n1.toNat)))))
set_option maxRecDepth 100000 in
theorem s_chaffref_digit (n1:Int) (M:Mem) (K:Value->Prop) (hS:S_chaffref_digit n1 M K):CallE Tryd.prog 89 #[(Value.int .i64 n1)] M (λv _=>K v):=by
 refine eE1 Tryd.func89 7 λE a hMM hs=>?_;unfold S_chaffref_digit at hS;refine qr (sP (.string (mkS ([]:List UInt8))) hs λ_ hs=>?_);refine wn (qr (sP2 (iv n1) (iv n1) hs λ_ hs=>?_));obtain⟨hI,hS⟩:=hS;refine sY (iv (n1+1)) hs (Yl.wr hI) λ_ hs=>?_;obtain⟨h0,h1,h2,hS⟩:=hS;refine sY (.string (mkS ((([48,49,50,51,52,53,54,55,56,57,97,98,99,100,101,102]:List UInt8).take (n1+1).toNat).drop n1.toNat))) hs (Yl.sliceStrLH rfl rfl rfl rfl rfl rfl (by kernel_rfl) h0 h1 h2) λ_ hs=>?_;refine sP (.string (mkS ((([48,49,50,51,52,53,54,55,56,57,97,98,99,100,101,102]:List UInt8).take (n1+1).toNat).drop n1.toNat))) hs λ_ hs=>?_;exact wn (qt (rT hs hMM hS))
def S_chaffref_Dec_J1 (M:Mem) (n6:Int) (out7:List UInt8) (I8:Int->List UInt8->Prop) (mu9:Int->List UInt8->Nat) (d10:Int) (K:Value->Prop):Prop:=
 (CallE Tryd.prog 89 #[(.int .i64 d10)] M (λv _=>∃(x11:List UInt8),v=(Value.string (mkS x11))/\(x11.length+out7.length<=9223372036854775807/\(InI (n6.tdiv 10)/\I8 (n6.tdiv 10) (x11++out7)/\mu9 (n6.tdiv 10) (x11++out7)<mu9 n6 out7))))
def S_chaffref_Dec (n1:Int) (M:Mem) (K:Value->Prop):Prop:=
 (((n1:Int)=0->K (Value.string (mkS ([48]:List UInt8))))/\(¬((n1:Int)=0)->(∃(I8:Int->List UInt8->Prop) (mu9:Int->List UInt8->Nat),I8 n1 ([]:List UInt8)/\∀(n6:Int) (out7:List UInt8),(I8 n6 out7->(((n6:Int)≠0->((n6.tmod 10<0->(InI (0-(n6.tmod 10))/\(S_chaffref_Dec_J1 M n6 out7 I8 mu9 (0-(n6.tmod 10)) K)))/\(¬(n6.tmod 10<0)->(S_chaffref_Dec_J1 M n6 out7 I8 mu9 (n6.tmod 10) K))))/\(¬((n6:Int)≠0)->((n1<0->(([45]:List UInt8).length+out7.length<=9223372036854775807/\K (Value.string (mkS (([45]:List UInt8)++out7)))))/\(¬(n1<0)->K (Value.string (mkS out7))))))))))
set_option maxRecDepth 100000 in
theorem s_chaffref_Dec (n1:Int) (M:Mem) (K:Value->Prop) (hS:S_chaffref_Dec n1 M K):CallE Tryd.prog 47 #[(Value.int .i64 n1)] M (λv _=>K v):=by
 refine eE1 Tryd.func47 28 λE a hMM hs=>?_;unfold S_chaffref_Dec at hS;refine qr (sP (.string (mkS ([]:List UInt8))) hs λ_ hs=>?_);refine wn (qs (qr (sP2 (iv n1) (.bool ((n1:Int)==(0:Int))) hs λ_ hs=>?_)));refine wn (Wp.cS hs beq_iff_eq hS (λhS=>?_) (λhS=>?_))
 ·refine qr (sP (.string (mkS ([48]:List UInt8))) hs λ_ hs=>?_);exact wn (qt (rT hs hMM hS))
 ·refine qk (qr (sP4 (iv n1) (.bool (decide (n1<0))) (.string (mkS ([]:List UInt8))) (.bool (decide (n1<0))) hs λ_ hs=>?_));refine wn (qs (qb ?_));obtain⟨I8,mu9,hI0,hst⟩:=hS;refine Wp.loop (σ:=(Int)×(List UInt8)) (λ(n6,out7) a w=>Sx 28 E [] M w a [(0,(iv n6)),(3,(.string (mkS out7))),(4,(.bool (decide (n1<0))))] [] []/\I8 n6 out7) (λ(n6,out7)=>mu9 n6 out7) (n1,([]:List UInt8)) ⟨hs.q,hI0⟩ (λs a w hI=>?_);obtain⟨n6,out7⟩:=s;obtain⟨hs,hI⟩:=hI;have hS:=hst n6 out7 hI;clear hst hI0 hI;refine qs (qr (sP2 (iv n6) (.bool ((n6:Int) != (0:Int))) hs λ_ hs=>?_));refine wn (Wp.cS hs bne_iff_ne hS (λhS=>?_) (λhS=>?_))
  ·refine qk (qb (qr (sP3 (iv n6) (iv (n6.tmod 10)) (iv (n6.tmod 10)) hs λ_ hs=>?_)));refine wn (Wp.join (λa w=>∃(d10:Int),Sx 28 E [] M w a [(0,(iv n6)),(3,(.string (mkS out7))),(4,(.bool (decide (n1<0)))),(5,(iv d10))] [] []/\(S_chaffref_Dec_J1 M n6 out7 I8 mu9 d10 K)) ?_ ?_)
   ·refine qr (sP2 (iv (n6.tmod 10)) (.bool (decide (n6.tmod 10<0))) hs λ_ hs=>?_);refine wn (Wp.cS hs decide_eq_true_iff hS (λhS=>?_) (λhS=>?_))
    ·refine qg (sP (iv (n6.tmod 10)) hs λ_ hs=>?_);obtain⟨hI,hS⟩:=hS;refine sY (iv (0-(n6.tmod 10))) hs (Yl.wr hI) λ_ hs=>?_;refine sP (iv (0-(n6.tmod 10))) hs λ_ hs=>?_;exact wn (⟨(0-(n6.tmod 10)),hs.q,hS⟩)
    ·exact qk (⟨(n6.tmod 10),hs.q,hS⟩)
   ·intro a w hJ;obtain⟨d10,hs,hS⟩:=hJ;unfold S_chaffref_Dec_J1 at hS;refine qr (sP (iv d10) hs λ_ hs=>?_);refine cP [(iv d10)] hs Tryd.func89 hS λ_ _ v hS hs=>?_;obtain⟨x11,rfl,hS⟩:=hS;refine sP (.string (mkS out7)) hs λ_ hs=>?_;obtain⟨hl,hS⟩:=hS;refine sY (.string (mkS (x11++out7))) hs (Yl.concat rfl rfl rfl rfl hl) λ_ hs=>?_;refine sP (.string (mkS (x11++out7))) hs λ_ hs=>?_;refine wn (qg (sP (iv n6) hs λ_ hs=>?_));obtain⟨hI,hS⟩:=hS;refine sY (iv (n6.tdiv 10)) hs (Yl.wr hI) λ_ hs=>?_;refine sP (iv (n6.tdiv 10)) hs λ_ hs=>?_;exact wn (⟨(n6.tdiv 10,x11++out7),⟨hs.q,hS.1⟩,hS.2⟩)
  ·refine qx rfl (qs (qr (sP (.bool (decide (n1<0))) hs λ_ hs=>?_)));refine wn (Wp.cS hs decide_eq_true_iff hS (λhS=>?_) (λhS=>?_))
   ·refine qg (sP (.string (mkS out7)) hs λ_ hs=>?_);obtain⟨hl,hS⟩:=hS;refine sY (.string (mkS (([45]:List UInt8)++out7))) hs (Yl.concat rfl rfl rfl rfl hl) λ_ hs=>?_;refine sP (.string (mkS (([45]:List UInt8)++out7))) hs λ_ hs=>?_;refine wn (qr (sP2 (.string (mkS (([45]:List UInt8)++out7))) (.string (mkS (([45]:List UInt8)++out7))) hs λ_ hs=>?_));exact wn (qt (rT hs hMM hS))
   ·refine qk (qr (sP2 (.string (mkS out7)) (.string (mkS out7)) hs λ_ hs=>?_));exact wn (qt (rT hs hMM hS))
def S_chaffref_Undec_J1 (s1:List UInt8) (n9:Int) (x10:Int) (I11:Int->Int->Prop) (mu12:Int->Int->Nat) (x16:Bool) (K:Value->Prop):Prop:=
 ((x16=true->K (Value.tuple #[(.int .i64 0),(.int .i64 3)]))/\(¬(x16=true)->(InI (10*n9)/\(∃c17:UInt8,(0:Int)<=x10/\s1[x10.toNat]?=some c17/\(InI ((10*n9)+(IntKind.wrap .i64 (IntKind.wrap .u8 ((c17.toNat:Int)-48))))/\(InI (x10+1)/\I11 ((10*n9)+(IntKind.wrap .i64 (IntKind.wrap .u8 ((c17.toNat:Int)-48)))) (x10+1)/\mu12 ((10*n9)+(IntKind.wrap .i64 (IntKind.wrap .u8 ((c17.toNat:Int)-48)))) (x10+1)<mu12 n9 x10))))))
def S_chaffref_Undec (s1:List UInt8) (M:Mem) (K:Value->Prop):Prop:=
 (∃(I11:Int->Int->Prop) (mu12:Int->Int->Nat),I11 0 0/\∀(n9:Int) (x10:Int),(I11 n9 x10->((x10<((s1.length:Nat):Int)->(∃c13:UInt8,(0:Int)<=x10/\s1[x10.toNat]?=some c13/\(((c13.toNat:Int)<48->(S_chaffref_Undec_J1 s1 n9 x10 I11 mu12 true K))/\(¬((c13.toNat:Int)<48)->(∃c14:UInt8,(0:Int)<=x10/\s1[x10.toNat]?=some c14/\(((c14.toNat:Int)>57->(S_chaffref_Undec_J1 s1 n9 x10 I11 mu12 true K))/\(¬((c14.toNat:Int)>57)->(((x10:Int)=9->(S_chaffref_Undec_J1 s1 n9 x10 I11 mu12 true K))/\(¬((x10:Int)=9)->((x10>0->(∃c15:UInt8,(0:Int)<=0/\s1[(0:Int).toNat]?=some c15/\(S_chaffref_Undec_J1 s1 n9 x10 I11 mu12 ((c15.toNat:Int)==(48:Int)) K)))/\(¬(x10>0)->(S_chaffref_Undec_J1 s1 n9 x10 I11 mu12 false K))))))))))))/\(¬(x10<((s1.length:Nat):Int))->((s1=([]:List UInt8)->K (Value.tuple #[(.int .i64 0),(.int .i64 3)]))/\(¬(s1=([]:List UInt8))->K (Value.tuple #[(.int .i64 n9),(.int .i64 0)])))))))
set_option maxRecDepth 100000 in
theorem s_chaffref_Undec (s1:List UInt8) (M:Mem) (K:Value->Prop) (hS:S_chaffref_Undec s1 M K):CallE Tryd.prog 45 #[(Value.string (mkS s1))] M (λv _=>K v):=by
 refine eE1 Tryd.func45 46 λE a hMM hs=>?_;unfold S_chaffref_Undec at hS;refine qr (sP2 (iv 0) (iv 0) hs λ_ hs=>?_);refine wn (qr (sP (iv 0) hs λ_ hs=>?_));refine wn (qs (qr (sP3 (.string (mkS s1)) (iv (s1.length:Int)) (iv 0) hs λ_ hs=>?_)));refine wn (qb ?_);obtain⟨I11,mu12,hI0,hst⟩:=hS;refine Wp.loop (σ:=(Int)×(Int)) (λ(n9,x10) a w=>Sx 46 E [] M w a [(0,(.string (mkS s1))),(4,(iv n9)),(7,(iv (s1.length:Int))),(8,(iv x10))] [] []/\I11 n9 x10) (λ(n9,x10)=>mu12 n9 x10) (0,0) ⟨hs.q,hI0⟩ (λs a w hI=>?_);obtain⟨n9,x10⟩:=s;obtain⟨hs,hI⟩:=hI;have hS:=hst n9 x10 hI;clear hst hI0 hI;refine qr (sP (.bool (decide (x10<(s1.length:Int)))) hs λ_ hs=>?_);refine wn (qs (Wp.cS hs decide_eq_true_iff hS (λhS=>?_) (λhS=>?_)))
 ·refine qk (qs (qb (qr (sP2 (iv x10) (iv x10) hs λ_ hs=>?_))));refine wn (qs (Wp.join (λa w=>∃(x16:Bool),Sx 46 E [] M w a [(0,(.string (mkS s1))),(4,(iv n9)),(5,(iv x10)),(7,(iv (s1.length:Int))),(8,(iv x10)),(33,(.bool x16))] [] []/\(S_chaffref_Undec_J1 s1 n9 x10 I11 mu12 x16 K)) ?_ ?_))
  ·refine qg (sP2 (.string (mkS s1)) (iv x10) hs λ_ hs=>?_);obtain⟨c13,h0,hi,hS⟩:=hS;refine sY (.int .u8 (c13.toNat:Int)) hs (Yl.indexStr rfl rfl rfl rfl (by kernel_rfl) h0 hi) λ_ hs=>?_;refine sP2 (.bool (decide ((c13.toNat:Int)<48))) (.bool (decide ((c13.toNat:Int)<48))) hs λ_ hs=>?_;refine bsS decide_eq_true_iff hs hS (λhs hS=>?_) (λhs hS=>?_)
   ·repeat (first|refine sNo hs λ_ hs=>?_|refine sNu hs λ_ hs=>?_)
    refine sP2 (.bool true) (.bool true) hs λ_ hs=>?_;refine sNo hs λ_ hs=>?_;refine sNo hs λ_ hs=>?_;refine sP2 (.bool true) (.bool true) hs λ_ hs=>?_;repeat (first|refine sNo hs λ_ hs=>?_|refine sNu hs λ_ hs=>?_)
    refine sP (.bool true) hs λ_ hs=>?_;exact wn (⟨true,hs.q,hS⟩)
   ·refine ye (.string (mkS s1)) hs λ_ hs=>?_;refine ye (iv x10) hs λ_ hs=>?_;refine sYe hs ?_;obtain⟨c14,h0,hi,hS⟩:=hS;refine sY (.int .u8 (c14.toNat:Int)) hs (Yl.indexStr rfl rfl rfl rfl (by kernel_rfl) h0 hi) λ_ hs=>?_;refine ye (.bool (decide ((c14.toNat:Int)>57))) hs λ_ hs=>?_;refine sP2 (.bool (decide ((c14.toNat:Int)>57))) (.bool (decide ((c14.toNat:Int)>57))) hs λ_ hs=>?_;refine bsS decide_eq_true_iff hs hS (λhs hS=>?_) (λhs hS=>?_)
    ·refine sNo hs λ_ hs=>?_;refine sNo hs λ_ hs=>?_;refine sP2 (.bool true) (.bool true) hs λ_ hs=>?_;repeat (first|refine sNo hs λ_ hs=>?_|refine sNu hs λ_ hs=>?_)
     refine sP (.bool true) hs λ_ hs=>?_;exact wn (⟨true,hs.q,hS⟩)
    ·refine ye (iv x10) hs λ_ hs=>?_;refine ye (.bool ((x10:Int)==(9:Int))) hs λ_ hs=>?_;refine sP2 (.bool ((x10:Int)==(9:Int))) (.bool ((x10:Int)==(9:Int))) hs λ_ hs=>?_;refine bsS beq_iff_eq hs hS (λhs hS=>?_) (λhs hS=>?_)
     ·repeat (first|refine sNo hs λ_ hs=>?_|refine sNu hs λ_ hs=>?_)
      refine sP (.bool true) hs λ_ hs=>?_;exact wn (⟨true,hs.q,hS⟩)
     ·refine ye (iv x10) hs λ_ hs=>?_;refine ye (.bool (decide (x10>0))) hs λ_ hs=>?_;refine ye (.bool (decide (x10>0))) hs λ_ hs=>?_;refine bsS decide_eq_true_iff hs hS (λhs hS=>?_) (λhs hS=>?_)
      ·refine ye (.string (mkS s1)) hs λ_ hs=>?_;refine sYe hs ?_;obtain⟨c15,h0,hi,hS⟩:=hS;refine sY (.int .u8 (c15.toNat:Int)) hs (Yl.indexStr rfl rfl rfl rfl (by kernel_rfl) h0 hi) λ_ hs=>?_;refine ye (.bool ((c15.toNat:Int)==(48:Int))) hs λ_ hs=>?_;refine ye (.bool ((c15.toNat:Int)==(48:Int))) hs λ_ hs=>?_;refine sP (.bool ((c15.toNat:Int)==(48:Int))) hs λ_ hs=>?_;exact wn (⟨((c15.toNat:Int)==(48:Int)),hs.q,hS⟩)
      ·repeat (first|refine sNo hs λ_ hs=>?_|refine sNu hs λ_ hs=>?_)
       refine ye (.bool false) hs λ_ hs=>?_;refine sP (.bool false) hs λ_ hs=>?_;exact wn (⟨false,hs.q,hS⟩)
  ·intro a w hJ;obtain⟨x16,hs,hS⟩:=hJ;unfold S_chaffref_Undec_J1 at hS;refine Wp.cS hs Iff.rfl hS (λhS=>?_) (λhS=>?_)
   ·refine qr (sP2 (iv 0) (iv 3) hs λ_ hs=>?_);exact wn (qt (rTT hs hMM hS))
   ·refine qk (qg (sP (iv n9) hs λ_ hs=>?_));obtain⟨hI,hS⟩:=hS;refine sY (iv (10*n9)) hs (Yl.wr hI) λ_ hs=>?_;refine sP2 (.string (mkS s1)) (iv x10) hs λ_ hs=>?_;obtain⟨c17,h0,hi,hS⟩:=hS;refine sY (.int .u8 (c17.toNat:Int)) hs (Yl.indexStr rfl rfl rfl rfl (by kernel_rfl) h0 hi) λ_ hs=>?_;refine sP2 (.int .u8 (IntKind.wrap .u8 ((c17.toNat:Int)-48))) (iv (IntKind.wrap .i64 (IntKind.wrap .u8 ((c17.toNat:Int)-48)))) hs λ_ hs=>?_;obtain⟨hI,hS⟩:=hS;refine sY (iv ((10*n9)+(IntKind.wrap .i64 (IntKind.wrap .u8 ((c17.toNat:Int)-48))))) hs (Yl.wr hI) λ_ hs=>?_;refine sP (iv ((10*n9)+(IntKind.wrap .i64 (IntKind.wrap .u8 ((c17.toNat:Int)-48))))) hs λ_ hs=>?_;refine wn (qg ?_);obtain⟨hI,hS⟩:=hS;refine sY (iv (x10+1)) hs (Yl.wr hI) λ_ hs=>?_;refine sP (iv (x10+1)) hs λ_ hs=>?_;exact wn (⟨((10*n9)+(IntKind.wrap .i64 (IntKind.wrap .u8 ((c17.toNat:Int)-48))),x10+1),⟨hs.q,hS.1⟩,hS.2⟩)
 ·refine qx rfl (qs (qr (sP (.string (mkS s1)) hs λ_ hs=>?_)));refine sP (.bool ((mkS s1).toList==(mkS ([]:List UInt8)).toList)) hs λ_ hs=>?_;refine wn (Wp.cS hs mkS_beq hS (λhS=>?_) (λhS=>?_))
  ·refine qr (sP2 (iv 0) (iv 3) hs λ_ hs=>?_);exact wn (qt (rTT hs hMM hS))
  ·refine qk (qr (sP3 (iv n9) (iv n9) (iv 0) hs λ_ hs=>?_));exact wn (qt (rTT hs hMM hS))
end Go.Proofs.YtjecddabdlapbaaDoor.core

namespace Go.Proofs.YtjecddabdlapbaaDoor.core
open Go.Gx Go.RowKit Go.ChangeShapes Go.WideShapes Go.ChangeAt
set_option linter.unusedVariables false
def S_chafflaw_QuoteDecs (n1:Int) (s2:List UInt8) (M:Mem) (K:Value->Prop):Prop:=
 (CallE Tryd.prog 44 #[(.string (mkS s2))] M (λv _=>∃(x3:Int) (x4:Int),v=(Value.tuple #[(.int .i64 x3),(.int .i64 x4)])/\(CallE Tryd.prog 45 #[(.string (mkS s2))] M (λv _=>∃(x5:Int) (x6:Int),v=(Value.tuple #[(.int .i64 x5),(.int .i64 x6)])/\(CallE Tryd.prog 46 #[(.int .i64 n1)] M (λv _=>∃(x7:List UInt8),v=(Value.string (mkS x7))/\(CallE Tryd.prog 47 #[(.int .i64 n1)] M (λv _=>∃(x8:List UInt8),v=(Value.string (mkS x8))/\((x7=x8->(((x3:Int)=x5->K (Value.bool ((x4:Int)==(x6:Int))))/\(¬((x3:Int)=x5)->K (Value.bool false))))/\(¬(x7=x8)->K (Value.bool false)))))))))))
set_option maxRecDepth 100000 in
theorem s_chafflaw_QuoteDecs (n1:Int) (s2:List UInt8) (M:Mem) (K:Value->Prop) (hS:S_chafflaw_QuoteDecs n1 s2 M K):CallE Tryd.prog 11 #[(Value.int .i64 n1),(Value.string (mkS s2))] M (λv _=>K v):=by
 refine eE2 Tryd.func11 34 λE a hMM hs=>?_;unfold S_chafflaw_QuoteDecs at hS;refine qr (sP (.bool false) hs λ_ hs=>?_);refine wn (qr (sP (.string (mkS s2)) hs λ_ hs=>?_));refine cP [(.string (mkS s2))] hs Tryd.func44 hS λ_ _ v hS hs=>?_;obtain⟨x3,x4,rfl,hS⟩:=hS;refine sP4 (Value.tuple #[(iv x3),(iv x4)]) (iv x3) (iv x4) (iv x3) hs λ_ hs=>?_;refine sP (iv x4) hs λ_ hs=>?_;refine wn (qr (sP (.string (mkS s2)) hs λ_ hs=>?_));refine cP [(.string (mkS s2))] hs Tryd.func45 hS λ_ _ v hS hs=>?_;obtain⟨x5,x6,rfl,hS⟩:=hS;refine sP4 (Value.tuple #[(iv x5),(iv x6)]) (iv x5) (iv x6) (iv x5) hs λ_ hs=>?_;refine sP (iv x6) hs λ_ hs=>?_;refine wn (qr (sP (iv n1) hs λ_ hs=>?_));refine cP [(iv n1)] hs Tryd.func46 hS λ_ _ v hS hs=>?_;obtain⟨x7,rfl,hS⟩:=hS;refine sP (iv n1) hs λ_ hs=>?_;refine cP [(iv n1)] hs Tryd.func47 hS λ_ _ v hS hs=>?_;obtain⟨x8,rfl,hS⟩:=hS;refine sP (.bool ((mkS x7).toList==(mkS x8).toList)) hs λ_ hs=>?_
 refine sP (.bool ((mkS x7).toList==(mkS x8).toList)) hs λ_ hs=>?_;refine bsS mkS_beq hs hS (λhs hS=>?_) (λhs hS=>?_)
 ·refine ye (iv x3) hs λ_ hs=>?_;refine ye (iv x5) hs λ_ hs=>?_;refine ye (.bool ((x3:Int)==(x5:Int))) hs λ_ hs=>?_;refine sP2 (.bool ((x3:Int)==(x5:Int))) (.bool ((x3:Int)==(x5:Int))) hs λ_ hs=>?_;refine bsS beq_iff_eq hs hS (λhs hS=>?_) (λhs hS=>?_)
  ·refine ye (iv x4) hs λ_ hs=>?_;refine ye (iv x6) hs λ_ hs=>?_;refine ye (.bool ((x4:Int)==(x6:Int))) hs λ_ hs=>?_;refine sP2 (.bool ((x4:Int)==(x6:Int))) (.bool ((x4:Int)==(x6:Int))) hs λ_ hs=>?_;exact wn (qt (rT hs hMM hS))
  ·repeat (first|refine sNo hs λ_ hs=>?_|refine sNu hs λ_ hs=>?_)
   refine sP2 (.bool false) (.bool false) hs λ_ hs=>?_;exact wn (qt (rT hs hMM hS))
 ·repeat (first|refine sNo hs λ_ hs=>?_|refine sNu hs λ_ hs=>?_)
  refine sP2 (.bool false) (.bool false) hs λ_ hs=>?_;repeat (first|refine sNo hs λ_ hs=>?_|refine sNu hs λ_ hs=>?_)
  refine sP2 (.bool false) (.bool false) hs λ_ hs=>?_;exact wn (qt (rT hs hMM hS))
end Go.Proofs.YtjecddabdlapbaaDoor.core

namespace Go.Gx
open Go.RowKit Go.ChangeShapes Go.WideShapes Go.ChangeAt
theorem witness_row_shaped {H:Type} {enc:TypeId×Value->H} {C:Checked} {os:Os} {f:FuncId} {fn:Func} {s:OpenSpec} {conds:List PathCond} {apart:Bool} {laid:List (String×DataW Unit)} (w0:World) (args:Array Value) (hos:w0.os=os)
  (hsh:(w0.forCall (λ_ _=>0) ⟨#[],args,[]⟩).Shaped C.prog) (hok:Input.okWideB C.prog (w0.forCall (λ_ _=>0) ⟨#[],args,[]⟩) f ⟨#[],args,[]⟩=true)
  (hrow:s.preRow enc C.prog fn conds apart laid (w0.forCall (λ_ _=>0) ⟨#[],args,[]⟩).memory args):
  ∃(w:World) (tape:Tape) (i:Input),w.os=os/\(w.forCall tape i).Shaped C.prog/\i.vars=[]/\Input.okWide C.prog (w.forCall tape i) .any w.heap.size f i/\
   s.preRow enc C.prog fn conds apart laid (w.forCall tape i).memory i.args/\({}:Assume).holds C.prog (lone (Frame.enter C.prog f i.args .normal) [] (w.forCall tape i)):=
 ⟨w0,λ_ _=>0,⟨#[],args,[]⟩,hos,hsh,(Input.okWide_of_okWideB (base:=0) hok).1,(Input.okWide_of_okWideB hok).2,hrow,by
  simp only[Assume.holds]
  exact⟨by simp,by simp,λ_=>Modest.zero,by simp,by simp⟩⟩
end Go.Gx

