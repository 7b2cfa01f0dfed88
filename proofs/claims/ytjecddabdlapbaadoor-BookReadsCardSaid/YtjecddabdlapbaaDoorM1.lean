/- Contracts and what they hang on, of several parts. No condition. -/
import Derived.WalkKit
import Derived.WalkSpells
import Derived.WalkLawsBesides
import Derived.Deep.Quiet
import Derived.OrdersHeld
import Derived.Laws.StructEq
import Derived.Maps.AppendAt
import Derived.Laws.MakeOwn
import Derived.Laws.IdiomStrings
import Derived.ProofKit
import Derived.OpenShut
import Derived.ShutString
import Derived.ChangeOld
import Derived.Carry
import Derived.Laws.Externs
import Derived.Lib.Bytealg
import Derived.SizedLaws
import Derived.JoinedCond
import Derived.Deep.CondSized
import Derived.Maps.Keyed
import Derived.DeepKeys3
import Derived.ChangeMaps4
import Derived.Lib.OthersKept
import GoSem.Extern.BytealgCount
import Derived.Test.YtjecddabdlapbaaDoorRows
namespace Go.Gx
open Go.RowKit
abbrev Env:=List (Nat×Value)
def lk:Env->Nat->Option Value
 |[],_=>none
 |(k,v)::r,x=>match Nat.beq k x with
  |true=>some v
  |false=>lk r x
theorem lk_cons (k:Nat) (v:Value) (r:Env) (x:Nat):lk ((k,v)::r) x=if k=x then some v else lk r x:=by
 show(match Nat.beq k x with|true=>some v|false=>lk r x)=_
 by_cases h:k=x
 ·subst h;simp
 ·have:Nat.beq k x=false:=by
   cases hb:Nat.beq k x
   ·rfl
   ·exact absurd (Nat.eq_of_beq_eq_true hb) h
  simp[this,h]
structure Ag (n:Nat) (a:Act) (env:Env):Prop where
 df:a.defers=[]
 sz:a.tmps.size=n
 at_:∀x v,lk env x=some v->a.tmps.getD x undef=v
theorem Ag.put {n:Nat} {a:Act} {env:Env} (h:Ag n a env) {d:Nat} (hd:d<n) (v:Value):Ag n (a.put (some d) v) ((d,v)::env):=by
 refine⟨h.df,by simp[Act.put,h.sz],λx u hx=>?_⟩
 rw[lk_cons]at hx
 by_cases hk:d=x
 ·subst hk
  simp only[if_true,Option.some.injEq]at hx
  subst hx
  simp[Act.put,h.sz,hd]
 ·rw[if_neg hk]at hx
  have:=h.at_ x u hx
  simp only[Act.put,Array.getD_eq_getD_getElem?,Array.getElem?_setIfInBounds_ne hk]at this ⊢
  exact this
theorem Ag.sub {n:Nat} {a:Act} {env:Env} (h:Ag n a env) (env':Env) (hs:∀p∈env',lk env p.1=some p.2):Ag n a env':=by
 refine⟨h.df,h.sz,λx v hx=>h.at_ x v ?_⟩
 clear h
 induction env' with
 |nil=>cases hx
 |cons p r ih=>
  obtain⟨k,u⟩:=p
  rw[lk_cons]at hx
  by_cases hk:k=x
  ·subst hk
   simp only[if_true,Option.some.injEq]at hx
   subst hx
   exact hs (k,u) (by simp)
  ·rw[if_neg hk]at hx
   exact ih (λq hq=>hs q (List.mem_cons_of_mem _ hq)) hx
def evT (env:Env):Operand->Value
 | .tmp t=>(lk env t).getD undef
 | .const v=>v
 | .global g=>.pointer (some ⟨g,0,none⟩)
 | .func f=>.func (.func f) #[] #[]
def known (env:Env):Operand->Bool
 | .tmp t=>(lk env t).isSome
 |_=>true
theorem Ag.eval {n:Nat} {a:Act} {env:Env} (h:Ag n a env) {x:Operand} (hk:known env x=true):a.eval x=evT env x:=by
 cases x with
 |tmp t=>
  simp only[known]at hk
  obtain⟨v,hv⟩:=Option.isSome_iff_exists.1 hk
  simp[Act.eval,evT,hv,h.at_ t v hv]
 |_=>rfl
def notSel:Op->Bool
 | .select .. =>false
 |_=>true
def okOp (env:Env) (o:Oper):Bool:=notSel o.op&&o.op.operands.toList.all (known env)
theorem Ag.exec {n:Nat} {a:Act} {env:Env} (h:Ag n a env) {o:Oper} (hk:okOp env o=true):execOp a.eval o=execOp (evT env) o:=by
 simp only[okOp,Bool.and_eq_true]at hk
 refine execOp_congr o (λcs b e=>?_) λx hx=>h.eval ?_
 ·rw[e]at hk;simp[notSel]at hk
 ·have:=List.all_eq_true.1 hk.2 x (by simpa using hx)
  exact this
structure Bx where
 b:Nat
 t:TypeId
 cs:List Value
def BxAt (w:World) (x:Bx):Prop:=w.heap[x.b]?=some (.cells x.cs.toArray x.t (0,0))
structure Rw where
 v:Value
 e:TypeId
 size:Nat
 n:Nat
 xs:List Value
 own:Bool
abbrev Mem:=Nat->Option Obj
def Mem.le (M M':Mem):Prop:=∀b o,M b=some o->M' b=some o
def On (M:Mem) (w:World):Prop:=∀b o,M b=some o->w.heap[b]?=some o
theorem Mem.le.refl (M:Mem):M.le M:=λ_ _ h=>h
theorem Mem.le.trans {A B C:Mem} (h:A.le B) (k:B.le C):A.le C:=λb o q=>k b o (h b o q)
theorem On.lt {M:Mem} {w:World} (h:On M w) {b:Nat} {o:Obj} (hb:M b=some o):b<w.heap.size:=(Array.getElem?_eq_some_iff.1 (h b o hb)).1
theorem On.noneAt {M:Mem} {w:World} (h:On M w) {b:Nat} (hb:w.heap.size<=b):M b=none:=by
 cases hm:M b with
 |none=>rfl
 |some o=>have:=h.lt hm;omega
structure Pres (E:World) (bw:List Nat) (w:World):Prop where
 os:w.os=E.os
 tape:w.tape=E.tape
 output:w.output=E.output
 size:E.heap.size<=w.heap.size
 block:∀k,k<E.heap.size->k∉bw->w.heap[k]?=E.heap[k]?
theorem Pres.refl (E:World) (bw:List Nat):Pres E bw E:=⟨rfl,rfl,rfl,Nat.le_refl _,λ_ _ _=>rfl⟩
theorem Pres.below {E w:World} (h:Pres E [] w):Below E.heap.size E w:=⟨h.os,h.tape,h.output,h.size,λk hk=>h.block k hk (by simp)⟩
structure Cx (M:Mem) (bs:List Bx) (rs:List Rw) (w:World):Prop where
 on:On M w
 bx:∀x∈bs,BxAt w x
 rw:∀r∈rs,∃base,w.ownsRow base r.e r.size r.v r.n r.xs
structure Nd (bs:List Bx) (rs:List Rw):Prop where
 b:(bs.map (·.b)).Nodup
 x:∀x∈bs,∀r∈rs,r.v.ownBlock≠some x.b
 r:rs.Pairwise λr s=>∀g,r.v.ownBlock=some g->s.v.ownBlock≠some g
theorem Nd.sub {bs bs':List Bx} {rs rs':List Rw} (h:Nd bs rs) (hb:bs'.Sublist bs) (hr:rs'.Sublist rs):Nd bs' rs':=
 ⟨h.b.sublist (hb.map _),λx hx r hr'=>h.x x (hb.subset hx) r (hr.subset hr'),h.r.sublist hr⟩
structure Sx (n:Nat) (E:World) (bw:List Nat) (M:Mem) (w:World) (a:Act) (env:Env) (bs:List Bx) (rs:List Rw):Prop where
 ag:Ag n a env
 on:On M w
 pr:Pres E bw w
 bx:∀x∈bs,BxAt w x/\M x.b=none/\(E.heap.size<=x.b\/x.b∈bw)
 rw:∀r∈rs,w.ownsRow 0 r.e r.size r.v r.n r.xs/\∀g,r.v.ownBlock=some g->M g=none/\(E.heap.size<=g\/(r.own=false/\g∈bw))
 nd:Nd bs rs
theorem BxAt.lt {w:World} {x:Bx} (h:BxAt w x):x.b<w.heap.size:=by
 unfold BxAt at h
 rcases Nat.lt_or_ge x.b w.heap.size with h'|h'
 ·exact h'
 ·rw[Array.getElem?_eq_none h']at h;cases h
theorem BxAt.cell {w:World} {x:Bx} (h:BxAt w x) (i:Nat):w.cell? ⟨x.b,i,none⟩=x.cs[i]?:=by
 rw[cell_of_row w x.b i x.cs.toArray x.t (0,0) h];simp
theorem Sx.cx {n:Nat} {E:World} {bw:List Nat} {M:Mem} {w:World} {a:Act} {env:Env} {bs:List Bx} {rs:List Rw} (h:Sx n E bw M w a env bs rs):Cx M bs rs w:=
 ⟨h.on,λx hx=>(h.bx x hx).1,λr hr=>⟨_,(h.rw r hr).1⟩⟩
theorem Sx.act {n:Nat} {E:World} {bw:List Nat} {M:Mem} {w:World} {a a':Act} {env env':Env} {bs:List Bx} {rs:List Rw} (h:Sx n E bw M w a env bs rs) (hA:Ag n a' env'):Sx n E bw M w a' env' bs rs:=
 ⟨hA,h.on,h.pr,h.bx,h.rw,h.nd⟩
theorem Sx.sub {n:Nat} {E:World} {bw:List Nat} {M:Mem} {w:World} {a:Act} {env:Env} {bs:List Bx} {rs:List Rw} (h:Sx n E bw M w a env bs rs) (env':Env) (hs:∀p∈env',lk env p.1=some p.2):Sx n E bw M w a env' bs rs:=
 h.act (h.ag.sub env' hs)
def Yl (P:Program) (env:Env) (M:Mem) (bs:List Bx) (rs:List Rw) (o:Oper) (v:Value):Prop:=
 okOp env o=true/\∀w,Cx M bs rs w->(execOp (evT env) o).run P w= .ok (.value v) w
theorem Yl.pure {P:Program} {env:Env} {M:Mem} {bs:List Bx} {rs:List Rw} {o:Oper} {v:Value} (hk:okOp env o=true)
  (h:∀w,(execOp (evT env) o).run P w= .ok (.value v) w):Yl P env M bs rs o v:=⟨hk,λw _=>h w⟩
theorem Yl.eq {P:Program} {env:Env} {M:Mem} {bs:List Bx} {rs:List Rw} {o:Oper} {v v':Value} (h:Yl P env M bs rs o v) (e:v=v'):Yl P env M bs rs o v':=e▸h
def lkX:List (Nat×(Act->World->Prop))->Nat->Option (Act->World->Prop)
 |[],_=>none
 |(k,v)::r,x=>match Nat.beq k x with
  |true=>some v
  |false=>lkX r x
def QQ (N:Act->World->Prop) (X:List (Nat×(Act->World->Prop))) (R:Act->World->Prop) (Z:List PanicEntry->Act->World->Prop):Exit->Act->World->Prop
 | .normal,a,w=>N a w
 | .exit id,a,w=>match lkX X id with
  |some K=>K a w
  |none=>False
 | .ret,a,w=>R a w
 | .panic c,a,w=>Z c a w
 |_,_,_=>False
def Wp (P:Program) (c:Code) (N:Act->World->Prop) (X:List (Nat×(Act->World->Prop))) (R:Act->World->Prop) (Z:List PanicEntry->Act->World->Prop) (a:Act) (w:World):Prop:=
 Code.wp P c (QQ N X R Z) a w
section
variable {P:Program} {N J:Act->World->Prop} {X:List (Nat×(Act->World->Prop))} {R:Act->World->Prop} {Z:List PanicEntry->Act->World->Prop} {a:Act} {w:World}
theorem Wp.mono {c:Code} {N':Act->World->Prop} (hN:∀a w,N a w->N' a w) (h:Wp P c N X R Z a w):Wp P c N' X R Z a w:=
 Code.wp_mono (λe a w q=>by cases e<;>first|exact hN _ _ q|exact q) h
theorem Wp.seq {x y:Code} (h:Wp P x (λa w=>Wp P y N X R Z a w) X R Z a w):Wp P (.seq x y) N X R Z a w:=
 wp_seq (Code.wp_mono (λe a w q=>by cases e<;>exact q) h)
theorem Wp.join {x y:Code} (J:Act->World->Prop) (h:Wp P x J X R Z a w) (hJ:∀a w,J a w->Wp P y N X R Z a w):Wp P (.seq x y) N X R Z a w:=
 Wp.seq (Wp.mono hJ h)
theorem Wp.skip (h:N a w):Wp P .skip N X R Z a w:=wp_skip h
theorem Wp.ret (h:R a w):Wp P .ret N X R Z a w:=wp_ret h
theorem Wp.exit {id:Nat} {K:Act->World->Prop} (hx:lkX X id=some K) (h:K a w):Wp P (.exit id) N X R Z a w:=
 wp_exit (by unfold QQ;simp only[hx];exact h)
theorem Wp.block {id:Nat} {c:Code} (h:Wp P c N ((id,N)::X) R Z a w):Wp P (.block id c) N X R Z a w:=by
 refine wp_block (Code.wp_mono (λe a w q=>?_) h)
 cases e with
 |exit i=>
  simp only[QQ,lkX,Exit.inBlock]at q ⊢
  by_cases hi:i=id
  ·subst hi
   have:Nat.beq i i=true:=by simp
   simp only[this]at q
   simpa using q
  ·have:Nat.beq id i=false:=by
    cases hb:Nat.beq id i
    ·rfl
    ·exact absurd (Nat.eq_of_beq_eq_true hb).symm hi
   simp only[this]at q
   simp only[hi,if_false]
   exact q
 |_=>exact q
theorem Wp.loop {σ:Type} {c:Code} (I:σ->Act->World->Prop) (μ:σ->Nat) (s0:σ) (h0:I s0 a w)
  (round:∀s a w,I s a w->Wp P c (λa' w'=>∃s',I s' a' w'/\μ s'<μ s) X R Z a w):Wp P (.loop c) N X R Z a w:=by
 classical
 have least:∀m (a:Act) (w:World),(∃s,I s a w/\μ s=m)->∃s,I s a w/\∀s',I s' a w->μ s<=μ s':=by
  intro m
  induction m using Nat.strongRecOn with
  |_ m ih=>
   intro a w ⟨s,hs,hm⟩
   by_cases hx:∃s',I s' a w/\μ s'<m
   ·obtain⟨s',h1,h2⟩:=hx
    exact ih _ h2 a w ⟨s',h1,rfl⟩
   ·exact⟨s,hs,λs' h'=>by
     rcases Nat.lt_or_ge (μ s') m with h2|h2
     ·exact absurd ⟨s',h',h2⟩ hx
     ·omega⟩
 let M:Act->World->Nat:=λa w=>if h:∃s,I s a w then μ (Classical.choose (least _ a w ⟨_,(Classical.choose_spec h),rfl⟩)) else 0
 have hM:∀s a w,I s a w->M a w<=μ s:=by
  intro s a w hs
  have h:∃s,I s a w:=⟨s,hs⟩
  simp only[M,dif_pos h]
  exact(Classical.choose_spec (least _ a w ⟨_,(Classical.choose_spec h),rfl⟩)).2 s hs
 refine wp_loop (λa w=>∃s,I s a w) M ⟨s0,h0⟩ (λa w hI=>?_)
 have hc:=Classical.choose_spec (least _ a w ⟨_,(Classical.choose_spec hI),rfl⟩)
 have he:M a w=μ (Classical.choose (least _ a w ⟨_,(Classical.choose_spec hI),rfl⟩)):=by simp only[M,dif_pos hI]
 refine Code.wp_mono (λe a' w' q=>?_) (round _ a w hc.1)
 cases e with
 |normal=>
  obtain⟨s',h1,h2⟩:=q
  refine⟨⟨s',h1⟩,?_⟩
  rw[he]
  exact Nat.lt_of_le_of_lt (hM s' a' w' h1) h2
 |_=>exact q
theorem Wp.cond {n:Nat} {E:World} {bw:List Nat} {M:Mem} {env:Env} {bs:List Bx} {rs:List Rw} (hs:Sx n E bw M w a env bs rs) {c:Operand} {x y:Code} {b:Bool} {p:Prop}
  (hk:known env c=true) (hc:evT env c= .bool b) (hp:b=true↔p) (h1:p->Wp P x N X R Z a w) (h2:¬p->Wp P y N X R Z a w):Wp P (.cond c x y) N X R Z a w:=by
 refine wp_cond_split (t:=b) ((hs.ag.eval hk).trans hc) (λe=>h1 (hp.1 e)) (λe=>h2 λq=>?_)
 have:=hp.2 q
 rw[e]at this
 cases this
end
def OpW (P:Program) (ρ:Operand->Value) (o:Oper) (w:World) (K:Value->World->Prop) (Z:List PanicEntry->World->Prop):Prop:=
 match (execOp ρ o).run P w with
 | .ok (.value v) w'=>K v w'
 | .ok .skip w'=>K undef w'
 | .ok (.enter f args) w'=>Calls P f args w' λ
  | .returned v,w''=>K v w''
  | .panicked c,w''=>Z c w''
  | .outgrown,_=>False
 | .halt (.panic v) w'=>Z [{v,recovered:=false}] w'
 |_=>False
theorem OpW.upon {P:Program} {o:Oper} {a:Act} {w:World} {next:Act->World->Prop} {Q:Exit->Act->World->Prop} {Z:List PanicEntry->World->Prop}
  (hZ:∀c w,Z c w->Q (.panic c) a w)
  (h:OpW P a.eval o w (λv w'=>next (a.put o.dst v) w') Z):o.wp P a w next Q:=by
 unfold OpW at h
 unfold Oper.wp
 generalize (execOp a.eval o).run P w=r at*
 cases r with
 |ok n w'=>
  cases n<;>simp only[Oper.upon]at h ⊢<;>try exact h
  case enter f args=>
   refine Calls.mono h λe w'' he=>?_
   cases e with
   |returned v=>exact he
   |panicked c=>exact hZ _ _ he
   |outgrown=>exact he.elim
 |halt x w'=>cases x<;>simp only[Oper.upon]at h ⊢<;>first|exact hZ _ _ h|exact h
section
variable {P:Program} {ops:Array Oper} {Q:Exit->Act->World->Prop} {n:Nat} {E:World} {bw:List Nat} {M:Mem} {w:World} {a:Act} {env:Env} {bs:List Bx} {rs:List Rw} {rest:List Oper} {o:Oper}
theorem stepY (v:Value) {d:Nat} (hs:Sx n E bw M w a env bs rs) (hg:o.guard=none) (hd:o.dst=some d) (hdn:d<n) (hy:Yl P env M bs rs o v)
  (h:∀a',Sx n E bw M w a' ((d,v)::env) bs rs->wpList P ops Q rest a' w):wpList P ops Q (o::rest) a w:=by
 refine wpList_plain hg λK hK=>?_
 have he:(execOp a.eval o).run P w= .ok (.value v) w:=by rw[hs.ag.exec hy.1];exact hy.2 w hs.cx
 unfold Oper.wp
 rw[he]
 refine hK _ _ ?_
 rw[hd]
 exact h _ (hs.act (hs.ag.put hdn v))
theorem yielded_of {j t:Nat} {b:Bool} (hs:Sx n E bw M w a env bs rs) (ht:(ops[j]?).bind (·.dst)=some t) (hl:lk env t=some (.bool b)):yielded ops a.tmps j=some b:=by
 have hlt:t<a.tmps.size:=by
  rcases Nat.lt_or_ge t a.tmps.size with h'|h'
  ·exact h'
  ·have:=hs.ag.at_ t _ hl
   simp[Array.getElem?_eq_none h',undef]at this
 have hat:a.tmps[t]?=some (.bool b):=by
  have:=hs.ag.at_ t _ hl
  simp only[Array.getD_eq_getD_getElem?,Array.getElem?_eq_getElem hlt,Option.getD_some]at this ⊢
  rw[this]
 simp[yielded,ht,hat]
theorem step_yes {j t:Nat} {b:Bool} (hs:Sx n E bw M w a env bs rs) (hg:o.guard=some (j,b)) (ht:(ops[j]?).bind (·.dst)=some t) (hl:lk env t=some (.bool b))
  (h:wpList P ops Q ({o with guard:=none}::rest) a w):wpList P ops Q (o::rest) a w:=by
 have hw:Region.wanted o (yielded ops a.tmps)=true:=by simp[Region.wanted,hg,yielded_of hs ht hl]
 unfold wpList at h ⊢
 rw[if_pos (by simp[Region.wanted])]at h
 rw[if_pos hw]
 exact h
theorem step_no {j t d:Nat} {b c:Bool} (hs:Sx n E bw M w a env bs rs) (hg:o.guard=some (j,b)) (ht:(ops[j]?).bind (·.dst)=some t) (hl:lk env t=some (.bool c)) (hne:(c==b)=false)
  (hd:o.dst=some d) (hdn:d<n) (h:∀a',Sx n E bw M w a' ((d,undef)::env) bs rs->wpList P ops Q rest a' w):wpList P ops Q (o::rest) a w:=by
 have hw:Region.wanted o (yielded ops a.tmps)=false:=by
  simp[Region.wanted,hg,yielded_of hs ht hl]
  simpa using hne
 unfold wpList
 rw[if_neg (by simp[hw]),hd]
 exact h _ (hs.act (hs.ag.put hdn undef))
theorem step_nou {j t d:Nat} {b:Bool} (hs:Sx n E bw M w a env bs rs) (hg:o.guard=some (j,b)) (ht:(ops[j]?).bind (·.dst)=some t) (hl:lk env t=some undef)
  (hd:o.dst=some d) (hdn:d<n) (h:∀a',Sx n E bw M w a' ((d,undef)::env) bs rs->wpList P ops Q rest a' w):wpList P ops Q (o::rest) a w:=by
 have hy:yielded ops a.tmps j=none:=by
  have:=hs.ag.at_ t _ hl
  simp only[Array.getD_eq_getD_getElem?]at this
  cases hc:a.tmps[t]? with
  |none=>simp[yielded,ht,hc]
  |some u=>rw[hc]at this;simp only[Option.getD_some]at this;subst this;simp[yielded,ht,hc,undef]
 have hw:Region.wanted o (yielded ops a.tmps)=false:=by simp[Region.wanted,hg,hy]
 unfold wpList
 rw[if_neg (by simp[hw]),hd]
 exact h _ (hs.act (hs.ag.put hdn undef))
theorem Sx.bt {d:Nat} {b:Bool} (hs:Sx n E bw M w a ((d,.bool b)::env) bs rs) (h:b=true):Sx n E bw M w a ((d,.bool true)::env) bs rs:=h▸hs
theorem Sx.bf {d:Nat} {b:Bool} (hs:Sx n E bw M w a ((d,.bool b)::env) bs rs) (h:b=false):Sx n E bw M w a ((d,.bool false)::env) bs rs:=h▸hs
end
theorem bsplit {G:Prop} (b:Bool) {p:Prop} (hp:b=true↔p) (h1:b=true->p->G) (h2:b=false->¬p->G):G:=by
 cases hb:b
 ·exact h2 hb λq=>by rw[hp.2 q]at hb;cases hb
 ·exact h1 hb (hp.1 hb)
section
variable {P:Program} {N:Act->World->Prop} {X:List (Nat×(Act->World->Prop))} {R:Act->World->Prop} {Z:List PanicEntry->Act->World->Prop} {a:Act} {w:World}
theorem Wp.region {id:Nat} {l:List Oper} (h:wpList P l.toArray (QQ N X R Z) l a w):Wp P (.region id l.toArray false) N X R Z a w:=wp_region_lit h
end
def argEnv:List Value->Nat->Env
 |[],_=>[]
 |v::r,i=>(i,v)::argEnv r (i+1)
theorem lk_argEnv (l:List Value):∀(i x:Nat) (v:Value),lk (argEnv l i) x=some v->i<=x/\l[x-i]?=some v:=by
 induction l with
 |nil=>intro i x v h;cases h
 |cons u r ih=>
  intro i x v h
  rw[argEnv,lk_cons]at h
  by_cases hx:i=x
  ·subst hx;simpa using h
  ·rw[if_neg hx]at h
   obtain⟨h1,h2⟩:=ih (i+1) x v h
   refine⟨by omega,?_⟩
   obtain⟨k,rfl⟩:∃k,x=i+1+k:=⟨x-(i+1),by omega⟩
   rw[show i+1+k-i=k+1 by omega]
   rw[show i+1+k-(i+1)=k by omega]at h2
   simpa using h2
theorem enter {P:Program} {f:FuncId} {fn:Func} {c:Code} {l:List Value} {w:World} {Rf:Ending->World->Prop} {M:Mem}
  (hf:P.funcs[f]?=some fn) (hb:fn.body=some c) (n:Nat) (hn:fn.ntmps=n) (hl:l.length<=n) (hon:On M w) (lent:List Bx)
  (hlent:∀x∈lent,BxAt w x/\M x.b=none) (hnd:(lent.map (·.b)).Nodup)
  (h:∀a,Sx n w (lent.map (·.b)) M w a (argEnv l 0) lent []->Wp P c (λa w=>bodyPost P fn Rf .normal a w) [] (λa w=>bodyPost P fn Rf .ret a w) (λch a w=>bodyPost P fn Rf (.panic ch) a w) a w):
  Calls P f l.toArray w Rf:=by
 refine calls_of_wp hf hb ?_
 refine Code.wp_mono (λe a w q=>?_) (h _ ⟨⟨rfl,?_,λx v hx=>?_⟩,hon,Pres.refl _ _,λx hx=>⟨(hlent x hx).1,(hlent x hx).2,.inr (List.mem_map.2 ⟨x,hx,rfl⟩)⟩,(λr hr=>by cases hr),⟨hnd,(λ_ _ r hr=>by cases hr),List.Pairwise.nil⟩⟩)
 ·cases e<;>first|exact q|exact False.elim q
 ·simp[hn];omega
 ·obtain⟨_,h2⟩:=lk_argEnv l 0 x v hx
  simp only[Nat.sub_zero]at h2
  have hx':x<l.length:=by
   rcases Nat.lt_or_ge x l.length with h'|h'
   ·exact h'
   ·rw[List.getElem?_eq_none h']at h2;cases h2
  simp only[Array.getD_eq_getD_getElem?]
  rw[Array.getElem?_append_left (by simpa using hx')]
  simp[h2]
def grow (M:Mem) (w w':World):Mem:=λb=>if w.heap.size<=b then w'.heap[b]? else M b
theorem grow_le {M:Mem} {w w':World} (h:On M w):M.le (grow M w w'):=by
 intro b o hb
 have:=h.lt hb
 unfold grow
 rw[if_neg (by omega)]
 exact hb
theorem grow_on {M:Mem} {w w':World} (h:On M w) (hb:∀k,k<w.heap.size->(M k).isSome=true->w'.heap[k]?=w.heap[k]?):On (grow M w w') w':=by
 intro b o ho
 unfold grow at ho
 by_cases hk:w.heap.size<=b
 ·rw[if_pos hk]at ho;exact ho
 ·rw[if_neg hk]at ho
  rw[hb b (by omega) (by rw[ho];rfl)]
  exact h b o ho
def CallE (P:Program) (f:FuncId) (args:Array Value) (M:Mem) (K:Value->Mem->Prop):Prop:=
 ∀w,On M w->Calls P f args w λe w'=>∃v,e= .returned v/\Below w.heap.size w w'/\K v (grow M w w')
theorem CallE.mono {P:Program} {f:FuncId} {args:Array Value} {M:Mem} {K K':Value->Mem->Prop} (h:CallE P f args M K) (hK:∀v M',M.le M'->K v M'->K' v M'):CallE P f args M K':=
 λw hw=>(h w hw).mono λ_ _ ⟨v,h1,h2,h3⟩=>⟨v,h1,h2,hK v _ (grow_le hw) h3⟩
theorem enterE {P:Program} {f:FuncId} {fn:Func} {c:Code} {l:List Value} {M:Mem} {K:Value->Mem->Prop}
  (hf:P.funcs[f]?=some fn) (hb:fn.body=some c) (n:Nat) (hn:fn.ntmps=n) (hl:l.length<=n)
  (h:∀w a,Sx n w [] M w a (argEnv l 0) [] []->Wp P c (λa' w'=>a'.defers=[]/\∃v,(results fn a'.tmps).run P w'= .ok v w'/\Below w.heap.size w w'/\K v (grow M w w')) []
   (λa' w'=>a'.defers=[]/\∃v,(results fn a'.tmps).run P w'= .ok v w'/\Below w.heap.size w w'/\K v (grow M w w')) (λ_ _ _=>False) a w):
  CallE P f l.toArray M K:=by
 intro w hw
 refine enter (Rf:=λe w'=>∃v,e= .returned v/\Below w.heap.size w w'/\K v (grow M w w')) hf hb n hn hl hw [] (by simp) (by simp) (λa hs=>?_)
 refine Code.wp_mono (λe a' w' q=>?_) (h w a (by simpa using hs))
 cases e with
 |normal=>obtain⟨h1,v,h2,h3,h4⟩:=q;exact⟨h1,v,h2,v,rfl,h3,h4⟩
 |ret=>obtain⟨h1,v,h2,h3,h4⟩:=q;exact⟨h1,v,h2,v,rfl,h3,h4⟩
 |_=>exact q.elim
theorem leaveE {P:Program} {fn:Func} {n:Nat} {E:World} {M0 M:Mem} {w:World} {a:Act} {env:Env} {bs:List Bx} {rs:List Rw} {K:Value->Mem->Prop} {v:Value}
  (hs:Sx n E [] M w a env bs rs) (hr:(results fn a.tmps).run P w= .ok v w) (hM:∀b o,M b=some o->M0 b=some o\/E.heap.size<=b) (hK:∀M',M.le M'->K v M'):
  a.defers=[]/\∃v,(results fn a.tmps).run P w= .ok v w/\Below E.heap.size E w/\K v (grow M0 E w):=by
 refine⟨hs.ag.df,v,hr,hs.pr.below,hK _ λb o hb=>?_⟩
 unfold grow
 by_cases hk:E.heap.size<=b
 ·rw[if_pos hk];exact hs.on b o hb
 ·rw[if_neg hk]
  rcases hM b o hb with h|h
  ·exact h
  ·omega
theorem resT {P:Program} {fn:Func} {n:Nat} {E:World} {bw:List Nat} {M:Mem} {w:World} {a:Act} {env:Env} {bs:List Bx} {rs:List Rw} {t:Nat} {v:Value} (hs:Sx n E bw M w a env bs rs) (hr:fn.results= #[.tmp t]) (hv:lk env t=some v):
  (results fn a.tmps).run P w= .ok v w:=by rw[results_tmp hr,hs.ag.at_ t v hv]
theorem resTT {P:Program} {fn:Func} {n:Nat} {E:World} {bw:List Nat} {M:Mem} {w:World} {a:Act} {env:Env} {bs:List Bx} {rs:List Rw} {t u:Nat} {v x:Value} (hs:Sx n E bw M w a env bs rs) (hr:fn.results= #[.tmp t,.tmp u]) (hv:lk env t=some v) (hx:lk env u=some x):
  (results fn a.tmps).run P w= .ok (.tuple #[v,x]) w:=by rw[results_tmp2 hr,hs.ag.at_ t v hv,hs.ag.at_ u x hx]
theorem add_lit (b o n:Nat):(⟨b,o,none⟩:Addr).add n=⟨b,o+n,none⟩:=by unfold Addr.add;split<;>simp_all
theorem run_load_one {P:Program} {w:World} {a:Addr} {v:Value} {t:TypeId} {d:TypeDesc} (hu:P.underlying t=some d) (hd:(match d with| .struct _| .array _ _=>true|_=>false)=false)
  (h:w.cell? a=some v):(loadVar t a).run P w= .ok v w:=by
 cases d<;>simp at hd<;>simp[loadVar,isAgg,run_underlying hu,h,go_sem]
theorem run_load_agg {P:Program} {w:World} {a:Addr} {vs:List Value} {t:TypeId} {d:TypeDesc} {n:Nat} (hu:P.underlying t=some d) (hd:(match d with| .struct _| .array _ _=>true|_=>false)=true)
  (hn:(P.info? t).map (·.size)=some n) (hl:vs.length=n) (h:∀j v,vs[j]?=some v->w.cell? (a.add j)=some v):(loadVar t a).run P w= .ok (.agg vs.toArray) w:=by
 subst hl
 have hls:=run_loadCells_list (P:=P) w a vs h
 cases hi:P.info? t with
 |none=>simp[hi]at hn
 |some i=>
  simp[hi]at hn
  rw[<-hn]at hls
  cases d<;>simp at hd<;>simp[loadVar,isAgg,run_underlying hu,sizeOf,typeInfo,hi,hls]
def isAggD:Option TypeDesc->Bool
 |some (.struct _)|some (.array _ _)=>true
 |_=>false
def Mem.cell (M:Mem) (b i:Nat):Option Value:=match M b with
 |some (.cells c _ _)=>c[i]?
 |_=>none
theorem On.cell {M:Mem} {w:World} (h:On M w) {b i:Nat} {v:Value} (hc:M.cell b i=some v):w.cell? ⟨b,i,none⟩=some v:=by
 unfold Mem.cell at hc
 split at hc
 ·rename_i c e f hm
  rw[cell_of_row w b i c e f (h _ _ hm)]
  exact hc
 ·cases hc
theorem Mem.le.cell {M M':Mem} (h:M.le M') {b i:Nat} {v:Value} (hc:M.cell b i=some v):M'.cell b i=some v:=by
 unfold Mem.cell at hc ⊢
 split at hc
 ·rename_i c e f hm
  rw[h _ _ hm]
  exact hc
 ·cases hc
def At (M:Mem) (b o:Nat) (vs:List Value):Prop:=∀j v,vs[j]?=some v->M.cell b (o+j)=some v
theorem At.le {M M':Mem} {b o:Nat} {vs:List Value} (h:At M b o vs) (hl:M.le M'):At M' b o vs:=λj v hj=>hl.cell (h j v hj)
theorem At.part {M:Mem} {b o:Nat} {vs:List Value} (h:At M b o vs) (k:Nat) (us:List Value) (hk:(vs.drop k).take us.length=us):At M b (o+k) us:=by
 intro j u hj
 rw[Nat.add_assoc]
 refine h _ _ ?_
 have hjl:j<us.length:=(List.getElem?_eq_some_iff.1 hj).1
 rw[<-hk,List.getElem?_take,if_pos hjl,List.getElem?_drop]at hj
 exact hj
def ofCells (agg:Bool) (vs:List Value):Value:=
 match agg,vs with
 |false,[v]=>v
 |_,vs=>.agg vs.toArray
theorem run_load_at {P:Program} {w:World} {b o:Nat} {vs:List Value} {t:TypeId} {g:Bool} (hg:isAggD (P.underlying t)=g) (hsome:(P.underlying t).isSome=true)
  (hn:(P.info? t).map (·.size)=some vs.length) (h1:g=false->vs.length=1) (h:∀j v,vs[j]?=some v->w.cell? ⟨b,o+j,none⟩=some v):(loadVar t ⟨b,o,none⟩).run P w= .ok (ofCells g vs) w:=by
 cases hu:P.underlying t with
 |none=>simp[hu]at hsome
 |some d=>
  rw[hu]at hg
  cases g with
  |true=>
   rw[run_load_agg (d:=d) hu (by cases d<;>simp_all [isAggD]) hn rfl (λj v hj=>by rw[add_lit];exact h j v hj)]
   cases vs with
   |nil=>rfl
   |cons v r=>rfl
  |false=>
   obtain⟨v,rfl⟩:∃v,vs=[v]:=List.length_eq_one_iff.1 (h1 rfl)
   exact run_load_one (d:=d) hu (by cases d<;>simp_all [isAggD]) (h 0 v rfl)
def tyOk (P:Program) (t:TypeId) (g:Bool) (k:Nat):Bool:=isAggD (P.underlying t)==g&&(P.underlying t).isSome&&((P.info? t).map (·.size))==some k&&(g||k==1)
theorem tyOk_spec {P:Program} {t:TypeId} {g:Bool} {k:Nat} (h:tyOk P t g k=true):isAggD (P.underlying t)=g/\(P.underlying t).isSome=true/\(P.info? t).map (·.size)=some k/\(g=false->k=1):=by
 simp only[tyOk,Bool.and_eq_true,beq_iff_eq,Bool.or_eq_true]at h
 obtain⟨⟨⟨h1,h2⟩,h3⟩,h4⟩:=h
 exact⟨h1,h2,h3,λe=>h4.elim (λh4=>by rw[e]at h4;cases h4) λh4=>h4⟩
section
variable {P:Program} {env:Env} {M:Mem} {bs:List Bx} {rs:List Rw} {o:Oper}
theorem Yl.loadV {d:Option Tmp} {t ty:TypeId} {x:Operand} {pos:String} {af:Array Edge} {gd:Option (Nat×Bool)} {b k:Nat} {vs:List Value} (g:Bool) (hk:known env x=true) (hx:evT env x= .pointer (some ⟨b,k,none⟩))
  (ht:tyOk P t g vs.length=true) (h:At M b k vs):
  Yl P env M bs rs ⟨d,.load t x,ty,pos,af,gd⟩ (ofCells g vs):=by
 obtain⟨h1,h2,h3,h4⟩:=tyOk_spec ht
 refine⟨by simp[okOp,notSel,Op.operands,hk],λw hc=>?_⟩
 have:=run_load_at (P:=P) h1 h2 h3 h4 (λj v hj=>hc.on.cell (h j v hj))
 simp[execOp,Instr.loadAt,hx,Instr.sureAddr,this]
theorem Yl.loadB {d:Option Tmp} {t ty:TypeId} {x:Operand} {pos:String} {af:Array Edge} {gd:Option (Nat×Bool)} {b k:Nat} {cs vs:List Value} (g:Bool) (i:Nat) {bt:TypeId} (hi:bs[i]?=some ⟨b,bt,cs⟩) (hk:known env x=true) (hx:evT env x= .pointer (some ⟨b,k,none⟩))
  (ht:tyOk P t g vs.length=true) (hvs:(cs.drop k).take vs.length=vs):
  Yl P env M bs rs ⟨d,.load t x,ty,pos,af,gd⟩ (ofCells g vs):=by
 obtain⟨h1,h2,h3,h4⟩:=tyOk_spec ht
 refine⟨by simp[okOp,notSel,Op.operands,hk],λw hc=>?_⟩
 have hb:=hc.bx _ (List.mem_of_getElem? hi)
 have hat:∀j v,vs[j]?=some v->w.cell? ⟨b,k+j,none⟩=some v:=by
  intro j v hj
  rw[hb.cell]
  show cs[k+j]?=some v
  have hjl:j<vs.length:=(List.getElem?_eq_some_iff.1 hj).1
  rw[<-hvs,List.getElem?_take,if_pos hjl,List.getElem?_drop]at hj
  exact hj
 have:=run_load_at (P:=P) h1 h2 h3 h4 hat
 simp[execOp,Instr.loadAt,hx,Instr.sureAddr,this]
theorem Yl.indexS {d:Option Tmp} {t e ty:TypeId} {x i:Operand} {pos:String} {af:Array Edge} {gd:Option (Nat×Bool)} {b k l c sz:Nat} {ik:IntKind} {n:Int} {ad:Option Addr} (hkx:known env x=true) (hki:known env i=true)
  (hx:evT env x= .slice ad l c) (hi:evT env i= .int ik n) (hu:P.underlying t=some (.slice e)) (hn:(P.info? e).map (·.size)=some sz) (had:ad=some ⟨b,k,none⟩) (h0:0<=n) (hl:n<l):
  Yl P env M bs rs ⟨d,.indexAddr t x i,ty,pos,af,gd⟩ (.pointer (some ⟨b,k+n.toNat*sz,none⟩)):=by
 subst had
 refine⟨by simp[okOp,notSel,Op.operands,hkx,hki],λw _=>?_⟩
 cases hi':P.info? e with
 |none=>simp[hi']at hn
 |some ti=>
  simp[hi']at hn
  simp[execOp,Instr.indexAt,hx,hi,asIntOf,run_underlying hu,sizeOf,typeInfo,hi',h0,hl,go_sem,hn,add_lit]
end
section
variable {P:Program} {ops:Array Oper} {Q:Exit->Act->World->Prop} {n:Nat} {E:World} {bw:List Nat} {M:Mem} {w:World} {a:Act} {env:Env} {bs:List Bx} {rs:List Rw} {rest:List Oper} {o:Oper} {Z:List PanicEntry->World->Prop}
theorem stepK {d:Nat} (hs:Sx n E bw M w a env bs rs) (hZ:∀c w,Z c w->Q (.panic c) a w) (hg:o.guard=none) (hk:okOp env o=true) (hd:o.dst=some d) (hdn:d<n)
  (h:OpW P (evT env) o w (λv w'=>∀a',Ag n a' ((d,v)::env)->wpList P ops Q rest a' w') Z):wpList P ops Q (o::rest) a w:=by
 refine wpList_plain hg λK hK=>?_
 refine OpW.upon (Z:=Z) hZ ?_
 unfold OpW at h ⊢
 rw[hs.ag.exec hk]
 have key:∀v w',(∀a',Ag n a' ((d,v)::env)->wpList P ops Q rest a' w')->K (a.put o.dst v) w':=by
  intro v w' hh
  exact hK _ _ (hh _ (by rw[hd];exact hs.ag.put hdn v))
 generalize (execOp (evT env) o).run P w=r at*
 cases r with
 |ok x w'=>
  cases x<;>simp only at h ⊢<;>try exact key _ _ h
  case enter f args=>
   refine Calls.mono h λe w'' he=>?_
   cases e with
   |returned v=>exact key _ _ he
   |panicked c=>exact he
   |outgrown=>exact he
  all_goals exact h
 |halt x w'=>cases x<;>simp only at h ⊢<;>exact h
theorem stepK0 (hs:Sx n E bw M w a env bs rs) (hZ:∀c w,Z c w->Q (.panic c) a w) (hg:o.guard=none) (hk:okOp env o=true) (hd:o.dst=none)
  (h:OpW P (evT env) o w (λ_ w'=>∀a',Ag n a' env->wpList P ops Q rest a' w') Z):wpList P ops Q (o::rest) a w:=by
 refine wpList_plain hg λK hK=>?_
 refine OpW.upon (Z:=Z) hZ ?_
 unfold OpW at h ⊢
 rw[hs.ag.exec hk]
 have key:∀(v:Value) w',(∀a',Ag n a' env->wpList P ops Q rest a' w')->K (a.put o.dst v) w':=by
  intro v w' hh
  exact hK _ _ (hh _ (by rw[hd];exact hs.ag))
 generalize (execOp (evT env) o).run P w=r at*
 cases r with
 |ok x w'=>
  cases x<;>simp only at h ⊢<;>try exact key _ _ h
  case enter f args=>
   refine Calls.mono h λe w'' he=>?_
   cases e with
   |returned v=>exact key v _ he
   |panicked c=>exact he
   |outgrown=>exact he
  all_goals exact h
 |halt x w'=>cases x<;>simp only at h ⊢<;>exact h
theorem OpW.of_run {ρ:Operand->Value} {w':World} {v:Value} {K:Value->World->Prop}
  (h:(execOp ρ o).run P w= .ok (.value v) w') (hK:K v w'):OpW P ρ o w K Z:=by unfold OpW;rw[h];exact hK
theorem OpW.of_skip {ρ:Operand->Value} {w':World} {K:Value->World->Prop}
  (h:(execOp ρ o).run P w= .ok .skip w') (hK:K undef w'):OpW P ρ o w K Z:=by unfold OpW;rw[h];exact hK
theorem Sx.later {w':World} {M':Mem} (hs:Sx n E bw M w a env bs rs) (hb:Below w.heap.size w w') (hon:On M' w') (hM:∀b,b<w.heap.size->M' b=M b):Sx n E bw M' w' a env bs rs:=by
 refine⟨hs.ag,hon,?_,λx hx=>?_,λr hr=>?_,hs.nd⟩
 ·obtain⟨h1,h2,h3,h4,h5⟩:=hs.pr
  exact⟨hb.os.trans h1,hb.tape.trans h2,hb.output.trans h3,Nat.le_trans h4 hb.size,λk hk hn=>(hb.block k (by omega)).trans (h5 k hk hn)⟩
 ·obtain⟨h1,h2,h3⟩:=hs.bx x hx
  exact⟨(hb.block _ h1.lt).trans h1,(hM _ h1.lt).trans h2,h3⟩
 ·obtain⟨h1,h2⟩:=hs.rw r hr
  refine⟨?_,λg hg=>⟨(hM g (h1.lt g hg).2).trans (h2 g hg).1,(h2 g hg).2⟩⟩
  refine⟨h1.1,?_⟩
  rcases h1.2 with hn|⟨g,cap,cur,hv,hbg,hgg,r3⟩
  ·exact .inl hn
  ·exact .inr ⟨g,cap,cur,hv,hbg,(hb.block g (Array.getElem?_eq_some_iff.1 hgg).1).trans hgg,r3⟩
theorem On.later {w':World} (h:On M w) (hb:Below w.heap.size w w'):On M w':=λb o q=>(hb.block b (h.lt q)).trans (h b o q)
theorem Sx.new (hs:Sx n E bw M w a env bs rs) (cs:List Value) (t:TypeId) {a':Act} {env':Env} (hA:Ag n a' env'):Sx n E bw M (w.alloc (.cells cs.toArray t)) a' env' (⟨w.heap.size,t,cs⟩::bs) rs:=by
 have hb:Below w.heap.size w (w.alloc (.cells cs.toArray t)):=(Below.refl _ w).alloc (Nat.le_refl _) _
 have h1:=(hs.later hb (hs.on.later hb) (λ_ _=>rfl)).act hA
 refine⟨hA,h1.on,h1.pr,λx hx=>?_,h1.rw,?_⟩
 ·rcases List.mem_cons.1 hx with rfl|hx
  ·exact⟨heap_alloc_new w _,hs.on.noneAt (Nat.le_refl _),.inl hs.pr.size⟩
  ·exact h1.bx x hx
 ·refine⟨?_,λx hx r hr=>?_,hs.nd.r⟩
  ·rw[List.map_cons,List.nodup_cons]
   refine⟨λhm=>?_,hs.nd.b⟩
   obtain⟨x,hx,he⟩:=List.mem_map.1 hm
   have:=(hs.bx x hx).1.lt
   simp only at he
   omega
  ·rcases List.mem_cons.1 hx with rfl|hx
   ·intro e
    have:=((hs.rw r hr).1.lt _ e).2
    simp only at this
    omega
   ·exact hs.nd.x x hx r hr
theorem stepBox (cs:List Value) {d:Nat} {t ty:TypeId} {x:Operand} {pos:String} {af:Array Edge} {v:Value} (hs:Sx n E bw M w a env bs rs) (hk:known env x=true) (hx:evT env x=v) (hc:v.cells=cs.toArray) (hdn:d<n)
  (h:∀a' w' b,E.heap.size<=b->Sx n E bw M w' a' ((d,.pointer (some ⟨b,0,none⟩))::env) (⟨b,t,cs⟩::bs) rs->wpList P ops Q rest a' w'):wpList P ops Q (⟨some d,.box t x,ty,pos,af,none⟩::rest) a w:=by
 refine stepK (Z:=λ_ _=>False) (d:=d) hs (λ_ _ h=>h.elim) rfl (by simp[okOp,notSel,Op.operands,hk]) rfl hdn ?_
 refine OpW.of_run (w':=w.alloc (.cells cs.toArray t)) (v:=.pointer (some ⟨w.heap.size,0,none⟩)) ?_ ?_
 ·simp[execOp,Instr.box,newVar,newRow,hx,hc]
 ·intro a' hA
  exact h a' _ _ hs.pr.size (hs.new cs t hA)
theorem stepAlloc (cs:List Value) {d:Nat} {t ty:TypeId} {pos:String} {af:Array Edge} (hs:Sx n E bw M w a env bs rs) (hz:((P.info? t).bind (·.zero)).map (·.cells)=some cs.toArray) (hdn:d<n)
  (h:∀a' w' b,E.heap.size<=b->Sx n E bw M w' a' ((d,.pointer (some ⟨b,0,none⟩))::env) (⟨b,t,cs⟩::bs) rs->wpList P ops Q rest a' w'):wpList P ops Q (⟨some d,.alloc t,ty,pos,af,none⟩::rest) a w:=by
 refine stepK (Z:=λ_ _=>False) (d:=d) hs (λ_ _ h=>h.elim) rfl (by simp[okOp,notSel,Op.operands]) rfl hdn ?_
 refine OpW.of_run (w':=w.alloc (.cells cs.toArray t)) (v:=.pointer (some ⟨w.heap.size,0,none⟩)) ?_ ?_
 ·cases hi:P.info? t with
  |none=>simp[hi]at hz
  |some i=>
   cases hz0:i.zero with
   |none=>simp[hi,hz0]at hz
   |some z=>
    simp[hi,hz0]at hz
    simp[execOp,Instr.alloc,newVar,newRow,zeroValue,typeInfo,hi,hz0,hz]
 ·intro a' hA
  exact h a' _ _ hs.pr.size (hs.new cs t hA)
def putAt (cs:List Value) (k:Nat) (vs:List Value):List Value:=cs.take k++vs++cs.drop (k+vs.length)
theorem Sx.set (hs:Sx n E bw M w a env bs rs) (i:Nat) {x:Bx} (hi:bs[i]?=some x) (cs:List Value) {a':Act} {env':Env} (hA:Ag n a' env'):Sx n E bw M (w.setRow x.b cs.toArray) a' env' (bs.set i ⟨x.b,x.t,cs⟩) rs:=by
 have hmap:(bs.set i ⟨x.b,x.t,cs⟩).map (·.b)=bs.map (·.b):=by
  rw[List.map_set]
  apply List.ext_getElem?
  intro j
  rw[List.getElem?_set]
  by_cases hij:i=j
  ·subst hij
   obtain⟨hlt,hx⟩:=List.getElem?_eq_some_iff.1 hi
   simp[hlt,hx]
  ·simp[hij]
 obtain⟨hx1,hx2,hx3⟩:=hs.bx x (List.mem_of_getElem? hi)
 have hother:∀k,k≠x.b->(w.setRow x.b cs.toArray).heap[k]?=w.heap[k]?:=by
  intro k hk
  simp only[World.setRow,Array.getElem?_modify]
  rw[if_neg (by omega)]
 have hnd1:(bs.map (·.b)).Nodup:=hs.nd.b
 refine⟨hA,λb o hb=>?_,?_,λy hy=>?_,λr hr=>?_,?_⟩
 ·rw[hother b (by rintro rfl;rw[hx2]at hb;cases hb)];exact hs.on b o hb
 ·obtain⟨h1,h2,h3,h4,h5⟩:=hs.pr
  refine⟨h1,h2,h3,by simpa[World.setRow]using h4,λk hk hn=>?_⟩
  rw[hother k (by
   rintro rfl
   rcases hx3 with h|h
   ·omega
   ·exact hn h)]
  exact h5 k hk hn
 ·obtain⟨j,hj⟩:=List.mem_iff_getElem?.1 hy
  rw[List.getElem?_set]at hj
  by_cases hij:i=j
  ·subst hij
   rw[if_pos rfl]at hj
   have hlt:i<bs.length:=(List.getElem?_eq_some_iff.1 hi).1
   rw[if_pos hlt]at hj
   simp only[Option.some.injEq]at hj
   subst hj
   exact⟨setRow_heap w x.b x.cs.toArray cs.toArray x.t (0,0) hx1,hx2,hx3⟩
  ·rw[if_neg hij]at hj
   have hne:y.b≠x.b:=by
    intro e
    have h1:(bs.map (·.b))[i]?=some x.b:=by simp[hi]
    have h2:(bs.map (·.b))[j]?=some x.b:=by simp[hj,e]
    have hl1:i<(bs.map (·.b)).length:=(List.getElem?_eq_some_iff.1 h1).1
    exact hij ((List.getElem?_inj hl1 hnd1).1 (h1.trans h2.symm))
   obtain⟨g1,g2,g3⟩:=hs.bx y (List.mem_of_getElem? hj)
   exact⟨(hother _ hne).trans g1,g2,g3⟩
 ·obtain⟨g1,g2⟩:=hs.rw r hr
  refine⟨⟨g1.1,?_⟩,g2⟩
  rcases g1.2 with hn|⟨g,cap,cur,hv,hbg,hgg,r3⟩
  ·exact .inl hn
  ·refine .inr ⟨g,cap,cur,hv,hbg,?_,r3⟩
   rw[hother g ?_];exact hgg
   rintro rfl
   exact hs.nd.x x (List.mem_of_getElem? hi) r hr (by rw[hv];rfl)
 ·refine⟨by rw[hmap];exact hs.nd.b,λy hy r hr=>?_,hs.nd.r⟩
  have hy':y.b∈bs.map (·.b):=by rw[<-hmap];exact List.mem_map.2 ⟨y,hy,rfl⟩
  obtain⟨z,hz,he⟩:=List.mem_map.1 hy'
  rw[<-he]
  exact hs.nd.x z hz r hr
theorem stepStoreB (i:Nat) {t ty:TypeId} {p x:Operand} {pos:String} {af:Array Edge} {b k:Nat} {bt:TypeId} {cs vs:List Value} {v:Value} (hs:Sx n E bw M w a env bs rs) (hi:bs[i]?=some ⟨b,bt,cs⟩) (hkp:known env p=true) (hkx:known env x=true)
  (hp:evT env p= .pointer (some ⟨b,k,none⟩)) (hx:evT env x=v) (hc:v.cells=vs.toArray) (hn:(P.info? t).map (·.size)=some vs.length) (hfit:k+vs.length<=cs.length) (h1:vs.all (·.oneCell')=true)
  (h:∀a' w',Sx n E bw M w' a' env (bs.set i ⟨b,bt,putAt cs k vs⟩) rs->wpList P ops Q rest a' w'):wpList P ops Q (⟨none,.store t p x,ty,pos,af,none⟩::rest) a w:=by
 refine stepK0 (Z:=λ_ _=>False) hs (λ_ _ h=>h.elim) rfl (by simp[okOp,notSel,Op.operands,hkp,hkx]) rfl ?_
 have hb:=(hs.bx _ (List.mem_of_getElem? hi)).1
 have hst:=run_storeCells_at P b k bt vs 0 cs.toArray w hb (by simpa using hfit) (λu hu=>List.all_eq_true.1 h1 u hu)
 refine OpW.of_skip (w':=w.setRow b (putAt cs k vs).toArray) ?_ ?_
 ·cases hin:P.info? t with
  |none=>simp[hin]at hn
  |some ti=>
   simp[hin]at hn
   have e:(cs.toArray.toList.take (k+0)++vs++cs.toArray.toList.drop (k+0+vs.length)).toArray=(putAt cs k vs).toArray:=by simp[putAt]
   rw[e]at hst
   simp[execOp,Instr.storeAt,hp,hx,Instr.sureAddr,storeVar,hc,sizeOf,typeInfo,hin,hn,hst]
 ·intro a' hA
  exact h a' _ (hs.set i hi _ hA)
theorem run_call {d:Option Tmp} {f:Nat} {ty:TypeId} {c:Call} {pos:String} {af:Array Edge} {gd:Option (Nat×Bool)} {fn:Func} {first caps:Array Value} (args:List Value)
  (hcal:∃x,c.callee= .value x/\evT env x= .func (.func f) first caps) (hargs:first.toList++c.args.toList.map (evT env)++caps.toList=args) (hf:P.funcs[f]?=some fn) (hbody:fn.body.isNone=false) (hname:(fn.name== "runtime.NumGoroutine")=false):
  (execOp (evT env) ⟨d,.call c,ty,pos,af,gd⟩).run P w= .ok (.enter f args.toArray) w:=by
 obtain⟨x,hcal,hx⟩:=hcal
 have ha:first++c.args.map (evT env)++caps=args.toArray:=by rw[<-hargs];apply Array.ext';simp
 have hname':¬fn.name= "runtime.NumGoroutine":=beq_eq_false_iff_ne.1 hname
 have hbody':¬fn.body=none:=by intro e;rw[e]at hbody;cases hbody
 simp[execOp,resolve,hcal,hx,Deferred.ofValue,invoke,callFunc,hf,hbody',hname',<-ha]
theorem stepCallE {d f:Nat} {ty:TypeId} {c:Call} {pos:String} {af:Array Edge} {fn:Func} {K:Value->Mem->Prop} {first caps:Array Value} (args:List Value) (hs:Sx n E bw M w a env bs rs)
  (hk:okOp env ⟨some d,.call c,ty,pos,af,none⟩=true) (hcal:∃x,c.callee= .value x/\evT env x= .func (.func f) first caps) (hargs:first.toList++c.args.toList.map (evT env)++caps.toList=args) (hf:P.funcs[f]?=some fn) (hbody:fn.body.isNone=false) (hname:(fn.name== "runtime.NumGoroutine")=false) (hdn:d<n)
  (hc:CallE P f args.toArray M K)
  (h:∀a' w' M' v,M.le M'->(∀b o,M' b=some o->M b=some o\/E.heap.size<=b)->K v M'->Sx n E bw M' w' a' ((d,v)::env) bs rs->wpList P ops Q rest a' w'):wpList P ops Q (⟨some d,.call c,ty,pos,af,none⟩::rest) a w:=by
 refine stepK (Z:=λ_ _=>False) (d:=d) hs (λ_ _ h=>h.elim) rfl hk rfl hdn ?_
 unfold OpW
 rw[run_call args hcal hargs hf hbody hname]
 refine(hc w hs.on).mono λe w' ⟨v,he,hb,hK⟩=>?_
 subst he
 intro a' hA
 refine h a' w' _ v (grow_le hs.on) (λb o hbo=>?_) hK ((hs.later hb (grow_on hs.on λk hk _=>hb.block k hk) (λb hb=>?_)).act hA)
 ·unfold grow at hbo
  by_cases hk:w.heap.size<=b
  ·exact .inr (Nat.le_trans hs.pr.size hk)
  ·rw[if_neg hk]at hbo;exact .inl hbo
 ·unfold grow
  rw[if_neg (by omega)]
theorem stepCallP {d f:Nat} {ty:TypeId} {c:Call} {pos:String} {af:Array Edge} {fn:Func} {K:Value->Prop} {first caps:Array Value} (args:List Value) (hs:Sx n E bw M w a env bs rs)
  (hk:okOp env ⟨some d,.call c,ty,pos,af,none⟩=true) (hcal:∃x,c.callee= .value x/\evT env x= .func (.func f) first caps) (hargs:first.toList++c.args.toList.map (evT env)++caps.toList=args) (hf:P.funcs[f]?=some fn) (hbody:fn.body.isNone=false) (hname:(fn.name== "runtime.NumGoroutine")=false) (hdn:d<n)
  (hc:CallE P f args.toArray M λv _=>K v)
  (h:∀a' w' v,K v->Sx n E bw M w' a' ((d,v)::env) bs rs->wpList P ops Q rest a' w'):wpList P ops Q (⟨some d,.call c,ty,pos,af,none⟩::rest) a w:=by
 refine stepK (Z:=λ_ _=>False) (d:=d) hs (λ_ _ h=>h.elim) rfl hk rfl hdn ?_
 unfold OpW
 rw[run_call args hcal hargs hf hbody hname]
 refine(hc w hs.on).mono λe w' ⟨v,he,hb,hK⟩=>?_
 subst he
 intro a' hA
 exact h a' w' v hK ((hs.later hb (hs.on.later hb) (λ_ _=>rfl)).act hA)
end
def InI (x:Int):Prop:= -9223372036854775808<=x/\x<=9223372036854775807
theorem wrap_in {x:Int} (h:InI x):IntKind.i64.wrap x=x:=by
 exact IntWalk.i64_in x h
def SubE (env:Env):Env->Prop
 |[]=>True
 |p::r=>lk env p.1=some p.2/\SubE env r
theorem SubE.mem {env:Env}:∀{env':Env},SubE env env'->∀p∈env',lk env p.1=some p.2
 |[],_,p,h=>by cases h
 |q::r,h,p,hp=>by
  rcases List.mem_cons.1 hp with rfl|hp
  ·exact h.1
  ·exact SubE.mem h.2 p hp
section
variable {n:Nat} {E:World} {bw:List Nat} {M:Mem} {w:World} {a:Act} {env env':Env} {bs bs':List Bx} {rs rs':List Rw}
theorem Sx.weak (hs:Sx n E bw M w a env bs rs) (hb:bs'.Sublist bs) (hr:rs'.Sublist rs) (he:SubE env env'):Sx n E bw M w a env' bs' rs':=
 ⟨hs.ag.sub env' he.mem,hs.on,hs.pr,λx hx=>hs.bx x (hb.subset hx),λr hx=>hs.rw r (hr.subset hx),
  hs.nd.sub hb hr⟩
theorem Sx.wk (hs:Sx n E bw M w a env bs rs) (he:SubE env env'):Sx n E bw M w a env' bs rs:=hs.weak (List.Sublist.refl _) (List.Sublist.refl _) he
theorem Sx.chbx (hs:Sx n E bw M w a env bs rs) (h:bs=bs'):Sx n E bw M w a env bs' rs:=h▸hs
theorem Sx.nilrow (hs:Sx n E bw M w a env bs rs) (e size:Nat):Sx n E bw M w a env bs (⟨.slice none 0 0,e,size,0,[],true⟩::rs):=
 ⟨hs.ag,hs.on,hs.pr,hs.bx,λr hr=>by
  rcases List.mem_cons.1 hr with rfl|hr
  ·exact⟨World.ownsRow_nil _ _ _ _,λg hg=>by cases hg⟩
  ·exact hs.rw r hr,hs.nd.b,λx hx r hr=>by
  rcases List.mem_cons.1 hr with rfl|hr
  ·intro e;cases e
  ·exact hs.nd.x x hx r hr,List.Pairwise.cons (λ_ _ _ h=>by cases h) hs.nd.r⟩
end
def MM (M' M:Mem) (E:World):Prop:=∀b o,M' b=some o->M b=some o\/E.heap.size<=b
theorem MM.next {M'' M' M:Mem} {E:World} (h:MM M' M E) (k:∀b o,M'' b=some o->M' b=some o\/E.heap.size<=b):MM M'' M E:=
 λb o q=>(k b o q).elim (h b o) .inr
def MX (M' M:Mem) (E:World):Prop:=M.le M'/\MM M' M E
theorem MX.refl (M:Mem) (E:World):MX M M E:=⟨Mem.le.refl M,λ_ _ h=>.inl h⟩
theorem MX.next {M'' M' M:Mem} {E:World} (h:MX M' M E) (hl:M'.le M'') (k:∀b o,M'' b=some o->M' b=some o\/E.heap.size<=b):MX M'' M E:=⟨h.1.trans hl,h.2.next k⟩
def mkS (l:List UInt8):ByteArray:=⟨⟨l⟩⟩
theorem mkS_toList (l:List UInt8):(mkS l).toList=l:=by
 rw[ByteArray.toList_eq];rfl
theorem mkS_beq {a b:List UInt8}:((mkS a).toList==(mkS b).toList)=true↔a=b:=by rw[mkS_toList,mkS_toList];exact beq_iff_eq
theorem mkS_bne {a b:List UInt8}:(!((mkS a).toList==(mkS b).toList))=true↔a≠b:=by rw[mkS_toList,mkS_toList];simp
theorem bnot_iff {b:Bool} {p:Prop} (h:b=true↔p):(!b)=true↔¬p:=by rw[<-h];simp
def bOr (k:IntKind) (x y:Int):Int:=k.wrap (BitVec.ofInt k.bits x|||BitVec.ofInt k.bits y).toNat
def bShl (k:IntKind) (x y:Int):Int:=k.wrap (x*2 ^ (min y.toNat k.bits))
def bShr (k:IntKind) (x y:Int):Int:=x.fdiv (2 ^ (min y.toNat k.bits))
section
variable {P:Program} {fn:Func} {n:Nat} {E:World} {bw:List Nat} {M:Mem} {w:World} {a:Act} {env:Env} {bs:List Bx} {rs:List Rw}
theorem resTTT {t u s:Nat} {v x y:Value} (hs:Sx n E bw M w a env bs rs) (hr:fn.results= #[.tmp t,.tmp u,.tmp s]) (hv:lk env t=some v) (hx:lk env u=some x) (hy:lk env s=some y):
  (results fn a.tmps).run P w= .ok (.tuple #[v,x,y]) w:=by
 have h1:=hs.ag.at_ t v hv
 have h2:=hs.ag.at_ u x hx
 have h3:=hs.ag.at_ s y hy
 simp only[results,hr]
 simp[-Array.getD_eq_getD_getElem?,h1,h2,h3]
theorem run_cell {t:TypeId} {b k i:Nat} {bt:TypeId} {cs vs:List Value} {g:Bool} (hs:Sx n E bw M w a env bs rs) (hi:bs[i]?=some ⟨b,bt,cs⟩)
  (ht:tyOk P t g vs.length=true) (hvs:(cs.drop k).take vs.length=vs):(loadVar t ⟨b,k,none⟩).run P w= .ok (ofCells g vs) w:=by
 obtain⟨h1,h2,h3,h4⟩:=tyOk_spec ht
 have hb:=(hs.bx _ (List.mem_of_getElem? hi)).1
 refine run_load_at (P:=P) h1 h2 h3 h4 (λj v hj=>?_)
 rw[hb.cell]
 show cs[k+j]?=some v
 have hjl:j<vs.length:=(List.getElem?_eq_some_iff.1 hj).1
 rw[<-hvs,List.getElem?_take,if_pos hjl,List.getElem?_drop]at hj
 exact hj
theorem resCT {t:TypeId} {c b k u:Nat} {x:Value} {bt:TypeId} {cs vs:List Value} (g:Bool) (i:Nat) (hs:Sx n E bw M w a env bs rs) (hr:fn.results= #[.cell c t,.tmp u]) (hi:bs[i]?=some ⟨b,bt,cs⟩) (hc:lk env c=some (.pointer (some ⟨b,k,none⟩)))
  (ht:tyOk P t g vs.length=true) (hvs:(cs.drop k).take vs.length=vs) (hx:lk env u=some x):(results fn a.tmps).run P w= .ok (.tuple #[ofCells g vs,x]) w:=by
 have:=run_cell (P:=P) hs hi ht hvs
 have h1:=hs.ag.at_ c _ hc
 have h2:=hs.ag.at_ u x hx
 simp only[results,hr]
 simp[-Array.getD_eq_getD_getElem?,h1,asAddr,this,h2]
end
end Go.Gx

namespace Go.Gx
open Go.RowKit
def WpD (P:Program) (ops:Array Oper) (Q:Exit->Act->World->Prop) (C:World->Prop) (keep:List Bool):Nat->Array Bool->Act->World->Prop
 |0,listed,a,w=>Region.ready .any ops listed=[]/\Q .normal a w
 |fuel+1,listed,a,w=>
  (Region.ready .any ops listed=[]->Q .normal a w)/\
  ∀i∈Region.ready .any ops listed,wpOp P ops Q i (λa' w'=>(keep.getD i false=true->C w->C w')/\WpD P ops Q C keep fuel (listed.setIfInBounds i true) a' w') a w
section
variable {P:Program} {ops:Array Oper} {Q:Exit->Act->World->Prop} {C:World->Prop} {keep:List Bool}
theorem wpAny_of_WpD:∀(fuel:Nat) (listed:Array Bool) (a:Act) (w:World),WpD P ops Q C keep fuel listed a w->wpAny P .any ops Q fuel listed a w
 |0,_,_,_,h=>h
 |fuel+1,_,_,_,h=>⟨h.1,λi hi=>wpOp_mono (λa' w' h'=>wpAny_of_WpD fuel _ a' w' h'.2) (h.2 i hi)⟩
def freeB (ops:Array Oper) (keep:List Bool) (listed:Array Bool) (i:Nat) (A:List Nat) (pure:Bool):Bool:=
 match ops[i]? with
 |none=>false
 |some oi=>(A.all λj=> !listed.getD j true&&j != i&&(match ops[j]? with
   |none=>false
   |some oj=>oj.after.toList.any λe=>Region.binds .any e&&(e.on==i||A.contains e.on)))&&
  (List.range ops.size).all λj=>j==i||listed.getD j true||A.contains j||(match ops[j]? with
   |none=>true
   |some oj=>oi.apart ops oj&&(keep.getD j false||pure))
def HangA (ops:Array Oper) (listed:Array Bool) (i:Nat) (A:List Nat):Prop:=
 ∀j∈A,listed.getD j true=false/\j≠i/\∃oj e,ops[j]?=some oj/\e∈oj.after/\Region.binds .any e=true/\(e.on=i\/e.on∈A)
theorem freeB_spec {listed:Array Bool} {i:Nat} {oi:Oper} {A:List Nat} {pure:Bool} (hi:ops[i]?=some oi) (h:freeB ops keep listed i A pure=true):
  HangA ops listed i A/\∀j oj,ops[j]?=some oj->j≠i->listed.getD j true=false->j∉A->oi.apart ops oj=true/\(keep.getD j false=true\/pure=true):=by
 unfold freeB at h
 rw[hi]at h
 simp only[Bool.and_eq_true]at h
 obtain⟨hA,hB⟩:=h
 refine⟨λj hj=>?_,λj oj hj hne hl hno=>?_⟩
 ·have h1:=List.all_eq_true.1 hA j hj
  simp only[Bool.and_eq_true,bne_iff_ne,Bool.not_eq_true']at h1
  obtain⟨⟨h1,h2⟩,h3⟩:=h1
  refine⟨h1,h2,?_⟩
  split at h3
  ·cases h3
  ·rename_i oj hoj
   obtain⟨e,he,h4⟩:=List.any_eq_true.1 h3
   simp only[Bool.and_eq_true,Bool.or_eq_true,beq_iff_eq,List.contains_iff_mem]at h4
   exact⟨oj,e,hoj,by simpa using he,h4.1,h4.2⟩
 ·have hjlt:j<ops.size:=(Array.getElem?_eq_some_iff.1 hj).1
  have h1:=List.all_eq_true.1 hB j (List.mem_range.2 hjlt)
  have hno':A.contains j=false:=by simpa using hno
  simp only[hj,Bool.or_eq_true,beq_iff_eq,hl,hno',Bool.and_eq_true]at h1
  rcases h1 with((h1|h1)|h1)|h1
  ·exact absurd h1 hne
  ·cases h1
  ·cases h1
  ·exact h1
theorem WpD.first {i:Nat} {oi:Oper} {v:Value} {A:List Nat} {C1:World->Prop} (hC1:∀w,C1 w->(∀w,C1 w)\/C w) (hC2:∀w,C w->C1 w) (hi:ops[i]?=some oi) (hsel:∀(j:Nat) (o:Oper) cs b,ops[j]?=some o->o.op≠.select cs b)
  (hQ:∀c a w,Q (.panic c) (a.put oi.dst v) w->Q (.panic c) a w):
  ∀(fuel:Nat) (listed:Array Bool) (a:Act) (w:World),HangA ops listed i A->
   (∀j oj,ops[j]?=some oj->j≠i->listed.getD j true=false->j∉A->oi.apart ops oj=true/\(keep.getD j false=true\/∀w,C1 w))->
   i∈Region.ready .any ops listed->YieldsIf P ops C1 oi v a->C1 w->
   WpD P ops Q C keep fuel (listed.setIfInBounds i true) (a.put oi.dst v) w->WpD P ops Q C keep (fuel+1) listed a w:=by
 intro fuel
 induction fuel with
 |zero=>
  intro listed a w _ _ hr hy hS H
  refine⟨λh=>(by rw[h]at hr;cases hr),λj hj=>?_⟩
  by_cases hji:j=i
  ·subst hji;exact hy.wpOp hi hS ⟨λ_ h=>h,H⟩
  ·have:=ready_mono hj hji
   rw[H.1]at this
   cases this
 |succ fuel ih=>
  intro listed a w hang hfree hr hy hS H
  refine⟨λh=>(by rw[h]at hr;cases hr),λj hj=>?_⟩
  by_cases hji:j=i
  ·subst hji;exact hy.wpOp hi hS ⟨λ_ h=>h,H⟩
  ·have h1:=H.2 j (ready_mono hj hji)
   obtain⟨hjun,oj,hoj,hall⟩:=mem_ready.1 hj
   have hun:listed.getD i true=false:=(mem_ready.1 hr).1
   have hjA:j∉A:=λhjA=>by
    obtain⟨_,_,oj',e,hoj',he,hbd,hon⟩:=hang j hjA
    rw[hoj]at hoj'
    cases hoj'
    have h1:=hall e he hbd
    have h0:listed.getD e.on true=false:=by
     rcases hon with rfl|hon
     ·exact hun
     ·exact(hang _ hon).1
    rcases Nat.lt_or_ge e.on listed.size with h'|h'
    ·simp[h']at h0 h1;rw[h0]at h1;cases h1
    ·simp[Array.getElem?_eq_none h']at h1
   have hfj:=hfree j oj hoj hji hjun hjA
   have h2:=wpOp_putIf hoj hfj.1 (λcs b=>hsel i oi cs b hi) (λcs b=>hsel j oj cs b hoj) hQ hy h1
   refine wpOp_mono (λa' w' h3=>⟨h3.2.1,ih (listed.setIfInBounds j true) a' w' (λk hk=>?_) (λk ok hk hki hun hno=>?_) (ready_mono hr (Ne.symm hji)) h3.1 (by
    rcases hfj.2 with hk|hall
    ·rcases hC1 w hS with hall|hc
     ·exact hall w'
     ·exact hC2 _ (h3.2.1 hk hc)
    ·exact hall w') ?_⟩) h2
   ·obtain⟨g1,g2,g3⟩:=hang k hk
    refine⟨?_,g2,g3⟩
    rw[getD_set_ne true (by rintro rfl;exact hjA hk)];exact g1
   ·refine hfree k ok hk hki ?_ hno
    by_cases hjk:j=k
    ·subst hjk;exact hjun
    ·rw[getD_set_ne true hjk]at hun;exact hun
   ·rw[Array.setIfInBounds_comm _ _ hji]
    exact h3.2.2
end
section
variable {P:Program} {ops:Array Oper} {Q:Exit->Act->World->Prop} {M0:Mem} {bs0:List Bx} {rs0:List Rw} {keep:List Bool} {n:Nat} {E:World} {bw:List Nat} {M:Mem} {w:World} {a:Act} {env:Env} {bs:List Bx} {rs:List Rw} {o:Oper} {fuel:Nat} {listed:Array Bool}
def QZ (Q:Exit->Act->World->Prop):Prop:=∀c (a:Act) d v w,Q (.panic c) (a.put d v) w->Q (.panic c) a w
theorem QZ.qq {N:Act->World->Prop} {X:List (Nat×(Act->World->Prop))} {R:Act->World->Prop} {fn:Func} {Rf:Ending->World->Prop}:
  QZ (QQ N X R (λch a w=>bodyPost P fn Rf (.panic ch) a w)):=by
 intro c a d v w h
 simp only[QQ,bodyPost]at h ⊢
 cases d<;>exact h
theorem QZ.no {N:Act->World->Prop} {X:List (Nat×(Act->World->Prop))} {R:Act->World->Prop}:QZ (QQ N X R (λ_ _ _=>False)):=λ_ _ _ _ _ h=>h
theorem wanted_none (hg:o.guard=none):Region.wanted o (yielded ops a.tmps)=true:=by simp[Region.wanted,hg]
theorem wanted_yes {j t:Nat} {b:Bool} (hs:Sx n E bw M w a env bs rs) (hg:o.guard=some (j,b)) (ht:(ops[j]?).bind (·.dst)=some t) (hl:lk env t=some (.bool b)):Region.wanted o (yielded ops a.tmps)=true:=by
 simp[Region.wanted,hg,yielded_of hs ht hl]
theorem wanted_no {j t:Nat} {b c:Bool} (hs:Sx n E bw M w a env bs rs) (hg:o.guard=some (j,b)) (ht:(ops[j]?).bind (·.dst)=some t) (hl:lk env t=some (.bool c)) (hne:(c==b)=false):Region.wanted o (yielded ops a.tmps)=false:=by
 simp[Region.wanted,hg,yielded_of hs ht hl]
 simpa using hne
theorem Sx.cxle {M0:Mem} {bs0:List Bx} {rs0:List Rw} (hs:Sx n E bw M w a env bs rs) (hl:M0.le M) (hb:bs0.Sublist bs) (hr:rs0.Sublist rs):Cx M0 bs0 rs0 w:=
 ⟨λb o h=>hs.on b o (hl b o h),λx hx=>(hs.bx x (hb.subset hx)).1,λr hx=>⟨_,(hs.rw r (hr.subset hx)).1⟩⟩
theorem stepDY (v:Value) (i:Nat) (A:List Nat) {d:Nat} (hs:Sx n E bw M w a env bs rs) (hC:Cx M0 bs0 rs0 w) (hQ:QZ Q) (ho:ops[i]?=some o) (hw:Region.wanted o (yielded ops a.tmps)=true) (hd:o.dst=some d) (hdn:d<n)
  (hsel:Region.noSelect ops=true) (hr:(Region.ready .any ops listed).contains i=true) (hf:freeB ops keep listed i A false=true) (hy:Yl P env M0 bs0 rs0 o v)
  (h:∀a',Sx n E bw M w a' ((d,v)::env) bs rs->WpD P ops Q (Cx M0 bs0 rs0) keep fuel (listed.setIfInBounds i true) a' w):WpD P ops Q (Cx M0 bs0 rs0) keep (fuel+1) listed a w:=by
 refine WpD.first (v:=v) (C1:=Cx M0 bs0 rs0) (λ_ h=>.inr h) (λ_ h=>h) ho (Region.noSelect_spec hsel) (λc a w h=>hQ c a _ _ w h) fuel listed a w (freeB_spec ho hf).1 (λj oj h1 h2 h3 h4=>?_) (by simpa using hr) (.inl ⟨hw,λw' hc=>?_⟩) hC ?_
 ·obtain⟨g1,g2⟩:=(freeB_spec ho hf).2 j oj h1 h2 h3 h4
  exact⟨g1,.inl (by simpa using g2)⟩
 ·rw[hs.ag.exec hy.1];exact hy.2 w' hc
 ·rw[hd];exact h _ (hs.act (hs.ag.put hdn v))
theorem Cx.none (w:World):Cx (λ_=>Option.none) [] [] w:=⟨(λ_ _ h=>by cases h),(λ_ h=>by cases h),(λ_ h=>by cases h)⟩
theorem stepDP (v:Value) (i:Nat) (A:List Nat) {d:Nat} (hs:Sx n E bw M w a env bs rs) (hQ:QZ Q) (ho:ops[i]?=some o) (hw:Region.wanted o (yielded ops a.tmps)=true) (hd:o.dst=some d) (hdn:d<n)
  (hsel:Region.noSelect ops=true) (hr:(Region.ready .any ops listed).contains i=true) (hf:freeB ops keep listed i A true=true) (hy:Yl P env (λ_=>Option.none) [] [] o v)
  (h:∀a',Sx n E bw M w a' ((d,v)::env) bs rs->WpD P ops Q (Cx M0 bs0 rs0) keep fuel (listed.setIfInBounds i true) a' w):WpD P ops Q (Cx M0 bs0 rs0) keep (fuel+1) listed a w:=by
 refine WpD.first (v:=v) (C1:=λ_=>True) (λ_ _=>.inl λ_=>trivial) (λ_ _=>trivial) ho (Region.noSelect_spec hsel) (λc a w h=>hQ c a _ _ w h) fuel listed a w (freeB_spec ho hf).1 (λj oj h1 h2 h3 h4=>⟨((freeB_spec ho hf).2 j oj h1 h2 h3 h4).1,.inr λ_=>trivial⟩) (by simpa using hr) (.inl ⟨hw,λw' _=>?_⟩) trivial ?_
 ·rw[hs.ag.exec hy.1];exact hy.2 w' (Cx.none w')
 ·rw[hd];exact h _ (hs.act (hs.ag.put hdn v))
theorem stepDN (i:Nat) (A:List Nat) {d:Nat} (hs:Sx n E bw M w a env bs rs) (hQ:QZ Q) (ho:ops[i]?=some o) (hw:Region.wanted o (yielded ops a.tmps)=false) (hd:o.dst=some d) (hdn:d<n)
  (hsel:Region.noSelect ops=true) (hr:(Region.ready .any ops listed).contains i=true) (hf:freeB ops keep listed i A true=true)
  (h:∀a',Sx n E bw M w a' ((d,undef)::env) bs rs->WpD P ops Q (Cx M0 bs0 rs0) keep fuel (listed.setIfInBounds i true) a' w):WpD P ops Q (Cx M0 bs0 rs0) keep (fuel+1) listed a w:=by
 refine WpD.first (v:=undef) (C1:=λ_=>True) (λ_ _=>.inl λ_=>trivial) (λ_ _=>trivial) ho (Region.noSelect_spec hsel) (λc a w h=>hQ c a _ _ w h) fuel listed a w (freeB_spec ho hf).1 (λj oj h1 h2 h3 h4=>⟨((freeB_spec ho hf).2 j oj h1 h2 h3 h4).1,.inr λ_=>trivial⟩) (by simpa using hr) (.inr ⟨hw,rfl⟩) trivial ?_
 rw[hd];exact h _ (hs.act (hs.ag.put hdn undef))
theorem stepDE (i:Nat) (ho:ops[i]?=some o) (hw:Region.wanted o (yielded ops a.tmps)=true) (hr:Region.ready .any ops listed=[i]) (ops1:Array Oper)
  (h:wpList P ops1 (λe a' w'=>match e with
   | .normal=>(keep.getD i false=true->Cx M0 bs0 rs0 w->Cx M0 bs0 rs0 w')/\WpD P ops Q (Cx M0 bs0 rs0) keep fuel (listed.setIfInBounds i true) a' w'
   | .panic c=>Q (.panic c) a' w'
   |_=>False) [{o with guard:=none}] a w):WpD P ops Q (Cx M0 bs0 rs0) keep (fuel+1) listed a w:=by
 refine⟨λh0=>(by rw[hr]at h0;cases h0),λj hj=>?_⟩
 rw[hr,List.mem_singleton]at hj
 subst hj
 unfold wpOp
 simp only[ho,hw,if_true]
 left
 unfold wpList at h
 rw[if_pos (by simp[Region.wanted])]at h
 rcases h with h|⟨_,a0,w0,h0⟩
 ·unfold Oper.wp at h ⊢
  have he:execOp a.eval {o with guard:=none}=execOp a.eval o:=rfl
  rw[he]at h
  generalize (execOp a.eval o).run P w=r at*
  cases r with
  |ok x w'=>
   cases x<;>simp only[Oper.upon,wpList]at h ⊢<;>try exact h
   case enter f args=>
    refine Calls.mono h λe w'' he=>?_
    cases e with
    |returned v=>exact he
    |panicked c=>exact he
    |outgrown=>obtain⟨a0,w0,h0⟩:=he;exact h0.elim
  |halt x w'=>cases x<;>simp only[Oper.upon]at h ⊢<;>exact h
 ·exact h0.elim
theorem WpD.done (hr:Region.ready .any ops listed=[]) (h:Q .normal a w):∀fuel,WpD P ops Q (Cx M0 bs0 rs0) keep fuel listed a w
 |0=>⟨hr,h⟩
 |_+1=>⟨λ_=>h,by rw[hr];simp⟩
end
theorem Sx.drew {n:Nat} {E:World} {bw:List Nat} {M:Mem} {w:World} {a:Act} {env:Env} {bs:List Bx} {rs:List Rw} (hs:Sx n E bw M w a env bs rs):Sx n E bw M w.drew a env bs rs:=
 hs.later ⟨rfl,rfl,rfl,Nat.le_refl _,λ_ _=>rfl⟩ hs.on (λ_ _=>rfl)
theorem Wp.regionD {P:Program} {N:Act->World->Prop} {X:List (Nat×(Act->World->Prop))} {R:Act->World->Prop} {Z:List PanicEntry->Act->World->Prop} {a:Act} {w:World} {n:Nat} {E:World} {bw:List Nat} {M:Mem} {env:Env} {bs:List Bx} {rs:List Rw}
  {id k:Nat} {l:List Oper} (keep:List Bool) (hs:Sx n E bw M w a env bs rs) (hm:P.follows .mixedOrders=true) (hk:l.length=k) (bs0:List Bx) (hbs:∀x∈bs0,x∈bs) (rs0:List Rw) (hrs:∀x∈rs0,x∈rs)
  (h:∀w,Sx n E bw M w a env bs rs->Cx M bs0 rs0 w->WpD P l.toArray (QQ N X R Z) (Cx M bs0 rs0) keep k (Array.replicate k false) a w):Wp P (.region id l.toArray true) N X R Z a w:=by
 subst hk
 exact wp_region_any hm (by simpa using wpAny_of_WpD _ _ _ _ (h w.drew hs.drew ⟨hs.drew.cx.on,λx hx=>hs.drew.cx.bx x (hbs x hx),λx hx=>hs.drew.cx.rw x (hrs x hx)⟩))
end Go.Gx

namespace Go.Gx
open Go.RowKit
section
variable {P:Program} {env:Env} {M:Mem} {bs:List Bx} {rs:List Rw} {d:Option Tmp} {ty:TypeId} {pos:String} {af:Array Edge} {gd:Option (Nat×Bool)}
theorem mkS_size (l:List UInt8):(mkS l).size=l.length:=rfl
theorem mkS_getElem? (l:List UInt8) (i:Nat):(mkS l)[i]?=l[i]?:=by
 by_cases h:i<l.length
 ·rw[List.getElem?_eq_getElem h,getElem?_pos (mkS l) i h];rfl
 ·rw[List.getElem?_eq_none (by omega),getElem?_neg (mkS l) i h]
theorem mkS_eta (s:ByteArray):s=mkS s.data.toList:=by cases s;rfl
theorem Yl.indexStr {t:TypeId} {x i:Operand} {l:List UInt8} {k:IntKind} {n:Int} {c:UInt8} (hkx:known env x=true) (hki:known env i=true) (hx:evT env x= .string (mkS l)) (hi:evT env i= .int k n)
  (hu:P.underlying t=some .string) (h0:0<=n) (hc:l[n.toNat]?=some c):Yl P env M bs rs ⟨d,.index t x i,ty,pos,af,gd⟩ (.int .u8 (c.toNat:Int)):=by
 refine⟨by simp[okOp,notSel,Op.operands,hkx,hki],λw _=>?_⟩
 have:=mkS_getElem? l n.toNat
 rw[hc]at this
 simp[execOp,Instr.index,hx,hi,asIntOf,run_underlying hu,h0,this]
theorem mkS_extract (l:List UInt8) (a b:Nat):(mkS l).extract a b=mkS ((l.take b).drop a):=by
 rw[mkS_eta ((mkS l).extract a b)]
 congr 1
 simp[ByteArray.data_extract,mkS,List.extract,List.take_drop]
 rw[List.drop_take,List.drop_take,show a+(b-a)-a=b-a by omega]
theorem run_sliceBound {k:IntKind} {n:Int} {y:Nat} {code:BoundsCode} (w:World) (h0:0<=n) (h1:n<=y):(Instr.sliceBound (.int k n) y code).run P w= .ok n.toNat w:=by
 simp[Instr.sliceBound,asIntOf,h0,h1]
theorem Yl.sliceStrLH {t:TypeId} {x lo hi:Operand} {l:List UInt8} {k k':IntKind} {a b:Int} (hkx:known env x=true) (hka:known env lo=true) (hkb:known env hi=true) (hx:evT env x= .string (mkS l)) (ha:evT env lo= .int k a) (hb:evT env hi= .int k' b)
  (hu:P.underlying t=some .string) (h0:0<=a) (h1:a<=b) (h2:b<=(l.length:Int)):Yl P env M bs rs ⟨d,.slice t x (some lo) (some hi) none,ty,pos,af,gd⟩ (.string (mkS ((l.take b.toNat).drop a.toNat))):=by
 refine⟨by simp[okOp,notSel,Op.operands,hkx,hka,hkb],λw _=>?_⟩
 have e1:=run_sliceBound (P:=P) (k:=k') (n:=b) (y:=l.length) (code:=.sliceAlen) w (by omega) h2
 have e2:=run_sliceBound (P:=P) (k:=k) (n:=a) (y:=b.toNat) (code:=.sliceB) w h0 (by omega)
 simp[execOp,Instr.sliceAt,Instr.slice,Instr.sliceBounds,hx,ha,hb,run_underlying hu,mkS_size,e1,e2,mkS_extract]
theorem Yl.sliceStrL {t:TypeId} {x lo:Operand} {l:List UInt8} {k:IntKind} {a:Int} (hkx:known env x=true) (hka:known env lo=true) (hx:evT env x= .string (mkS l)) (ha:evT env lo= .int k a)
  (hu:P.underlying t=some .string) (h0:0<=a) (h1:a<=(l.length:Int)) (_h2:((l.length:Nat):Int)<=((l.length:Nat):Int)):Yl P env M bs rs ⟨d,.slice t x (some lo) none none,ty,pos,af,gd⟩ (.string (mkS ((l.take ((l.length:Nat):Int).toNat).drop a.toNat))):=by
 refine⟨by simp[okOp,notSel,Op.operands,hkx,hka],λw _=>?_⟩
 have e2:=run_sliceBound (P:=P) (k:=k) (n:=a) (y:=l.length) (code:=.sliceB) w h0 h1
 simp[execOp,Instr.sliceAt,Instr.slice,Instr.sliceBounds,hx,ha,run_underlying hu,mkS_size,e2,mkS_extract]
theorem Yl.sliceStrH {t:TypeId} {x hi:Operand} {l:List UInt8} {k':IntKind} {b:Int} (hkx:known env x=true) (hkb:known env hi=true) (hx:evT env x= .string (mkS l)) (hb:evT env hi= .int k' b)
  (hu:P.underlying t=some .string) (_h0:(0:Int)<=0) (h1:(0:Int)<=b) (h2:b<=(l.length:Int)):Yl P env M bs rs ⟨d,.slice t x none (some hi) none,ty,pos,af,gd⟩ (.string (mkS ((l.take b.toNat).drop (0:Int).toNat))):=by
 refine⟨by simp[okOp,notSel,Op.operands,hkx,hkb],λw _=>?_⟩
 have e1:=run_sliceBound (P:=P) (k:=k') (n:=b) (y:=l.length) (code:=.sliceAlen) w (by omega) h2
 simp[execOp,Instr.sliceAt,Instr.slice,Instr.sliceBounds,hx,hb,run_underlying hu,mkS_size,e1,mkS_extract]
theorem mkS_append (a b:List UInt8):mkS a++mkS b=mkS (a++b):=ByteArray.mk_append_mk a b
theorem Yl.concat {t u:TypeId} {x y:Operand} {a b:List UInt8} (hkx:known env x=true) (hky:known env y=true) (hx:evT env x= .string (mkS a)) (hy:evT env y= .string (mkS b)) (hl:a.length+b.length<=9223372036854775807):
  Yl P env M bs rs ⟨d,.binOp .add t x y u,ty,pos,af,gd⟩ (.string (mkS (a++b))):=by
 refine⟨by simp[okOp,notSel,Op.operands,hkx,hky],λw _=>?_⟩
 have:=run_string_add_sum (P:=P) (w:=w) (mkS a) (mkS b) hl
 simp[execOp,eqGuard,hx,hy,binOp,this,mkS_append]
theorem run_equalIn_array {P:Program} (d n:Nat) (t e:TypeId) (k:IntKind) (ht:P.underlying t=some (.array n e)) (he:P.underlying e=some (.int k)) (hs:(P.info? e).map (·.size)=some 1)
  (heq:∀a b w,(Op.equalIn d e (.int k a) (.int k b)).run P w= .ok (a==b) w)
  (xs ys:List Int) (hx:xs.length=n) (hy:ys.length=n) (w:World):
  (Op.equalIn (d+1) t (.agg (xs.map (Value.int k)).toArray) (.agg (ys.map (Value.int k)).toArray)).run P w= .ok (xs==ys) w:=by
 have hsz:(sizeOf e).run P w= .ok 1 w:=by
  cases hi:P.info? e with
  |none=>simp[hi]at hs
  |some i=>simp[hi]at hs;simp[sizeOf,typeInfo,hi,hs]
 have hag:(isAgg e).run P w= .ok false w:=by simp[isAgg,run_underlying he]
 have hpart:∀(zs:List Int) (i:Nat) (h:i<zs.length),(part e (zs.map (Value.int k)).toArray (i*1)).run P w= .ok (.int k zs[i]) w:=by
  intro zs i h
  simp only[part,Sem.run_bind,hag,Result.andThen_ok]
  simp[h]
 have key:∀(m j:Nat),j+m=n->
   ((forIn (List.range' j m) ((none,()):Option Bool×PUnit) λi _=>(do
    let a <-part e (xs.map (Value.int k)).toArray (i*1)
    let b <-part e (ys.map (Value.int k)).toArray (i*1)
    let c <-Op.equalIn d e a b
    if (!c)=true then pure (ForInStep.done (some false,())) else pure (ForInStep.yield (none,())):Sem (ForInStep (Option Bool×PUnit)))).run P w)= .ok (if xs.drop j==ys.drop j then(none,()) else(some false,())) w:=by
  intro m
  induction m with
  |zero=>intro j hj;simp[List.drop_of_length_le (show xs.length<=j by omega),List.drop_of_length_le (show ys.length<=j by omega)]
  |succ m ih=>
   intro j hj
   have h1:j<xs.length:=by omega
   have h2:j<ys.length:=by omega
   rw[List.range'_succ,List.forIn_cons]
   have e':(xs.drop j==ys.drop j)=(xs[j]==ys[j]&&(xs.drop (j+1)==ys.drop (j+1))):=by
    rw[List.drop_eq_getElem_cons h1,List.drop_eq_getElem_cons h2];rfl
   simp only[Sem.run_bind,hpart xs j h1,hpart ys j h2,Result.andThen_ok,heq]
   rw[e']
   cases hb:(xs[j]==ys[j])
   ·simp only[Bool.not_false,if_true,Sem.run_pure,Result.andThen_ok,Bool.false_and,Bool.false_eq_true,if_false]
   ·simp only[Bool.not_true,Bool.false_eq_true,if_false,Sem.run_pure,Result.andThen_ok,Bool.true_and]
    exact ih (j+1) (by omega)
 simp only[Op.equalIn,Sem.run_bind,run_underlying ht,Result.andThen_ok,hsz]
 have:=key n 0 (by omega)
 simp only[List.drop_zero]at this
 simp only[Std.Legacy.Range.forIn_eq_forIn_range',Std.Legacy.Range.size,Nat.sub_zero,Nat.add_sub_cancel,Nat.div_one]
 rw[this]
 cases hb:(xs==ys)<;>simp
def cellsEq (xs ys:List Int):Bool:=xs==ys
theorem Yl.neqS {t u:TypeId} {x y:Operand} {xs ys:Array Value} {b:Bool} (hk:okOp env ⟨d,.binOp .neq t x y u,ty,pos,af,gd⟩=true) (hm:P.eqGuardType P.depth t=false) (hvx:evT env x= .agg xs) (hvy:evT env y= .agg ys)
  (h:∀w,(Op.equal t (.agg xs) (.agg ys)).run P w= .ok b w):Yl P env M bs rs ⟨d,.binOp .neq t x y u,ty,pos,af,gd⟩ (.bool (!b)):=by
 refine⟨hk,λw _=>?_⟩
 have h2:=run_eqGuard_agg (P:=P) w .neq t x y xs ys hm
 simp only[execOp,hvx,hvy,Sem.run_bind,h2,Result.andThen_ok,binOp,h]
 rfl
def slA (a:Option Addr) (lo c size:Nat):Option Addr:=if c=lo then a else a.map (·.add (lo*size))
theorem Yl.sliceSH {t e:TypeId} {sz l c:Nat} {ad:Option Addr} {x hi:Operand} {k':IntKind} {b:Int} (hkx:known env x=true) (hkb:known env hi=true) (hx:evT env x= .slice ad l c) (hb:evT env hi= .int k' b)
  (hu:P.underlying t=some (.slice e)) (hn:(P.info? e).map (·.size)=some sz) (h1:0<=b) (h2:b<=(c:Int)):Yl P env M bs rs ⟨d,.slice t x none (some hi) none,ty,pos,af,gd⟩ (.slice ad b.toNat c):=by
 refine⟨by simp[okOp,notSel,Op.operands,hkx,hkb],λw _=>?_⟩
 have e1:=run_sliceBound (P:=P) (k:=k') (n:=b) (y:=c) (code:=.sliceAcap) w (by omega) h2
 cases hi':P.info? e with
 |none=>simp[hi']at hn
 |some ti=>
  have:(Option.map (λx:Addr=>x.add 0) ad)=ad:=by cases ad<;>simp[Addr.add]
  simp[execOp,Instr.sliceAt,Instr.slice,Instr.sliceBounds,hx,hb,run_underlying hu,e1,sizeOf,typeInfo,hi',this]
end
end Go.Gx

namespace Go.Gx
open Go.RowKit
def intsOf (k:IntKind):List Value->Option (List Int)
 |[]=>some []
 | .int k' a::r=>if k'=k then(intsOf k r).map (a::·) else none
 |_=>none
theorem intsOf_spec {k:IntKind}:∀{vs:List Value} {zs:List Int},intsOf k vs=some zs->vs=zs.map (Value.int k)
 |[],zs,h=>by simp only[intsOf,Option.some.injEq]at h;subst h;rfl
 |v::r,zs,h=>by
  cases v with
  |int k' a=>
   simp only[intsOf]at h
   split at h
   ·rename_i e
    subst e
    simp only[Option.map_eq_some_iff]at h
    obtain⟨l,h1,rfl⟩:=h
    rw[intsOf_spec h1];rfl
   ·cases h
  |_=>simp[intsOf]at h
def eqFs (P:Program) (g:TypeId->List Value->List Value->Option Bool) (xs ys:List Value):List Field->Option Bool
 |[]=>some true
 |[f]=>if f.name≠ "_" then(if f.offset+P.cellsOf f.type<=xs.length/\f.offset+P.cellsOf f.type<=ys.length then g f.type ((xs.drop f.offset).take (P.cellsOf f.type)) ((ys.drop f.offset).take (P.cellsOf f.type)) else none) else some true
 |f::r=>if f.name≠ "_" then(if f.offset+P.cellsOf f.type<=xs.length/\f.offset+P.cellsOf f.type<=ys.length then(g f.type ((xs.drop f.offset).take (P.cellsOf f.type)) ((ys.drop f.offset).take (P.cellsOf f.type))).bind λb=>(eqFs P g xs ys r).map (b&&·) else none) else eqFs P g xs ys r
def eqAt (P:Program):Nat->TypeId->List Value->List Value->Option Bool
 |0,_,_,_=>none
 |n+1,t,xs,ys=>match P.underlying t with
  |some .bool=>match xs,ys with
   |[.bool a],[.bool b]=>some (a==b)
   |_,_=>none
  |some (.int _)=>match xs,ys with
   |[.int k a],[.int k' b]=>if k=k' then some (a==b) else none
   |_,_=>none
  |some .string=>match xs,ys with
   |[.string a],[.string b]=>some (a.toList==b.toList)
   |_,_=>none
  |some (.struct fs)=>if P.stoodInHeld t=false/\(P.info? t).isSome=true then eqFs P (eqAt P n) xs ys fs.toList else none
  |some (.array l e)=>match P.underlying e with
   |some (.int k)=>if P.cellsOf e=1/\(P.info? e).isSome=true/\0<n then(intsOf k xs).bind λa=>(intsOf k ys).bind λb=>if a.length=l/\b.length=l then some (cellsEq a b) else none else none
   |_=>none
  |_=>none
def valOf (P:Program) (t:TypeId) (cs:List Value):Value:=ofCells (isAggD (P.underlying t)) cs
section
variable {P:Program}
theorem run_partOf {t:TypeId} {cs:List Value} {off:Nat} (w:World) (hu:(P.underlying t).isSome=true) (hi:(P.info? t).isSome=true) (hl:off+P.cellsOf t<=cs.length) (h1:isAggD (P.underlying t)=false->P.cellsOf t=1):
  (part t cs.toArray off).run P w= .ok (valOf P t ((cs.drop off).take (P.cellsOf t))) w:=by
 cases hd:P.underlying t with
 |none=>simp[hd]at hu
 |some d=>
  obtain⟨i,hi⟩:=Option.isSome_iff_exists.1 hi
  have hc:P.cellsOf t=i.size:=by simp[Program.cellsOf,hi]
  cases hg:isAggD (P.underlying t)with
  |true=>
   have:(isAgg t).run P w= .ok true w:=by
    rw[hd]at hg
    cases d<;>simp[isAggD]at hg<;>simp[isAgg,run_underlying hd]
   simp only[part,Sem.run_bind,this,Result.andThen_ok,if_true,sizeOf,typeInfo]
   simp only[valOf,hg,ofCells]
   have e:(cs.toArray.extract off (off+i.size))=((cs.drop off).take (P.cellsOf t)).toArray:=by
    rw[hc];apply Array.ext';simp only[Array.toList_extract,List.extract,Nat.add_sub_cancel_left]
   simp only[Sem.run_pure,run_program,hi,Result.andThen_ok,e]
  |false=>
   have:(isAgg t).run P w= .ok false w:=by
    rw[hd]at hg
    cases d<;>simp[isAggD]at hg<;>simp[isAgg,run_underlying hd]
   have h1:=h1 hg
   have hlt:off<cs.length:=by omega
   simp only[part,Sem.run_bind,this,Result.andThen_ok]
   rw[h1]
   have e2:(cs.drop off).take 1=[cs[off]]:=by
    rw[List.drop_eq_getElem_cons hlt];rfl
   simp[valOf,hg,ofCells,hlt,e2]
theorem run_eqAt:∀(n d:Nat) (t:TypeId) (xs ys:List Value) (b:Bool),eqAt P n t xs ys=some b->(P.underlying t).isSome=true/\(isAggD (P.underlying t)=false->xs.length=1/\ys.length=1)/\∀w,(Op.equalIn (d+n) t (valOf P t xs) (valOf P t ys)).run P w= .ok b w
 |0,d,t,xs,ys,b,h=>by cases h
 |n+1,d,t,xs,ys,b,h=>by
  unfold eqAt at h
  split at h
  ·rename_i hu
   split at h
   ·simp only[Option.some.injEq]at h;subst h
    refine⟨by simp[hu],λ_=>⟨rfl,rfl⟩,λw=>?_⟩
    simp only[valOf,hu,isAggD,ofCells]
    exact run_equalIn_bool w _ _ _ _ hu
   ·cases h
  ·rename_i q hu
   split at h
   ·split at h
    ·rename_i k a k' b' e
     subst e
     simp only[Option.some.injEq]at h;subst h
     refine⟨by simp[hu],λ_=>⟨rfl,rfl⟩,λw=>?_⟩
     simp only[valOf,hu,isAggD,ofCells]
     exact run_equalIn_int w _ _ _ _ _ _ hu
    ·cases h
   ·cases h
  ·rename_i hu
   split at h
   ·simp only[Option.some.injEq]at h;subst h
    refine⟨by simp[hu],λ_=>⟨rfl,rfl⟩,λw=>?_⟩
    simp only[valOf,hu,isAggD,ofCells]
    exact run_equalIn_string w _ _ _ _ hu
   ·cases h
  ·rename_i fs hu
   split at h
   ·rename_i hc
    obtain⟨hst,_⟩:=hc
    have hfs:fs=P.fieldsOf t:=by simp[Program.fieldsOf,hu]
    refine⟨by simp[hu],λhf=>by simp[hu,isAggD]at hf,λw=>?_⟩
    have hv:∀zs,valOf P t zs= .agg zs.toArray:=by
     intro zs;simp only[valOf,hu,isAggD];cases zs<;>rfl
    rw[hv,hv]
    have:=run_equalIn_struct w (d+n) t xs.toArray ys.toArray (by rw[<-hfs];exact hu) hst
    rw[show d+(n+1)=d+n+1 by omega,this,<-hfs]
    clear this hu hfs
    generalize fs.toList=l at h
    have hone:∀(f:Field) (b:Bool),f.offset+P.cellsOf f.type<=xs.length->f.offset+P.cellsOf f.type<=ys.length->eqAt P n f.type ((xs.drop f.offset).take (P.cellsOf f.type)) ((ys.drop f.offset).take (P.cellsOf f.type))=some b->
      (part f.type xs.toArray f.offset).run P w= .ok (valOf P f.type ((xs.drop f.offset).take (P.cellsOf f.type))) w/\(part f.type ys.toArray f.offset).run P w= .ok (valOf P f.type ((ys.drop f.offset).take (P.cellsOf f.type))) w/\
       (Op.equalIn (d+n) f.type (valOf P f.type ((xs.drop f.offset).take (P.cellsOf f.type))) (valOf P f.type ((ys.drop f.offset).take (P.cellsOf f.type)))).run P w= .ok b w:=by
     intro f b l1 l2 hb
     obtain⟨g1,g2,g3⟩:=run_eqAt n d f.type _ _ b hb
     have hinf:(P.info? f.type).isSome=true:=by
      cases hi:P.info? f.type with
      |some _=>rfl
      |none=>simp[Program.underlying,hi]at g1
     have hsz:isAggD (P.underlying f.type)=false->P.cellsOf f.type=1:=by
      intro hg
      have:=(g2 hg).1
      simp only[List.length_take,List.length_drop]at this
      omega
     exact⟨run_partOf w g1 hinf l1 hsz,run_partOf w g1 hinf l2 hsz,g3 w⟩
    have key:∀(l:List Field) (b:Bool),eqFs P (eqAt P n) xs ys l=some b->(Op.eqFields (d+n) xs.toArray ys.toArray l).run P w= .ok b w:=by
     intro l
     induction l with
     |nil=>intro b h;simp only[eqFs,Option.some.injEq]at h;subst h;rfl
     |cons f r ih=>
      intro b h
      unfold Op.eqFields
      cases r with
      |nil=>
       simp only[eqFs]at h
       split at h
       ·rename_i hn
        split at h
        ·rename_i hl
         obtain⟨e1,e2,e3⟩:=hone f b hl.1 hl.2 h
         simp only[hn,Sem.run_bind,e1,e2,e3,Result.andThen_ok,ne_eq,not_false_eq_true,if_true]
         cases b<;>simp[Op.eqFields]
        ·cases h
       ·rename_i hn
        simp only[Option.some.injEq]at h;subst h
        simp only[hn,if_false,Op.eqFields]
        rfl
      |cons f2 r2=>
       simp only[eqFs]at h ih
       split at h
       ·rename_i hn
        split at h
        ·rename_i hl
         simp only[Option.bind_eq_some_iff,Option.map_eq_some_iff]at h
         obtain⟨b1,h1,b2,h2,rfl⟩:=h
         obtain⟨e1,e2,e3⟩:=hone f b1 hl.1 hl.2 h1
         simp only[hn,Sem.run_bind,e1,e2,e3,Result.andThen_ok,ne_eq,not_false_eq_true,if_true]
         cases b1
         ·simp
         ·simpa using ih b2 h2
        ·cases h
       ·rename_i hn
        simp only[hn,if_false]
        exact ih b h
    exact key l b h
   ·cases h
  ·rename_i l e hu
   split at h
   ·rename_i k he
    split at h
    ·rename_i hc
     simp only[Option.bind_eq_some_iff]at h
     obtain⟨as1,h1,bs,h2,h⟩:=h
     split at h
     ·rename_i hl
      simp only[Option.some.injEq]at h;subst h
      refine⟨by simp[hu],λhf=>by simp[hu,isAggD]at hf,λw=>?_⟩
      have hv:∀zs,valOf P t zs= .agg zs.toArray:=by
       intro zs;simp only[valOf,hu,isAggD];cases zs<;>rfl
      rw[hv,hv,intsOf_spec h1,intsOf_spec h2]
      obtain⟨m,rfl⟩:∃m,n=m+1:=⟨n-1,by omega⟩
      obtain⟨i,hi⟩:=Option.isSome_iff_exists.1 hc.2.1
      have hs:(P.info? e).map (·.size)=some 1:=by
       have:=hc.1
       simp only[Program.cellsOf,hi,Option.map_some,Option.getD_some]at this
       simp[hi,this]
      exact run_equalIn_array (d+(m+1)) l t e k hu he hs (λa b w=>run_equalIn_int w (d+m) e k k a b he) as1 bs hl.1 hl.2 w
     ·cases h
    ·cases h
   ·cases h
  ·cases h
end
section
variable {P:Program} {env:Env} {M:Mem} {bs:List Bx} {rs:List Rw} {d:Option Tmp} {ty:TypeId} {pos:String} {af:Array Edge} {gd:Option (Nat×Bool)}
theorem Yl.neqC {t u:TypeId} {x y:Operand} {b:Bool} (xs ys:List Value) (hk:okOp env ⟨d,.binOp .neq t x y u,ty,pos,af,gd⟩=true) (hm:P.eqGuardType P.depth t=false) (hg:isAggD (P.underlying t)=true) (hx:evT env x= .agg xs.toArray) (hy:evT env y= .agg ys.toArray)
  (h:eqAt P 8 t xs ys=some b):Yl P env M bs rs ⟨d,.binOp .neq t x y u,ty,pos,af,gd⟩ (.bool (!b)):=by
 have hv:∀zs,valOf P t zs= .agg zs.toArray:=by
  intro zs;simp only[valOf,hg];cases zs<;>rfl
 refine Yl.neqS hk hm hx hy λw=>?_
 have:=(run_eqAt 8 9992 t xs ys b h).2.2 w
 rw[hv,hv]at this
 exact this
end
theorem band_iff {a b:Bool} {p q:Prop} (h1:a=true↔p) (h2:b=true↔q):(a&&b)=true↔p/\q:=by rw[Bool.and_eq_true,h1,h2]
end Go.Gx

namespace Go.Gx
open Go.RowKit
def SlV (M:Mem) (a:Option Addr) (l c size:Nat) (xs:List Value):Prop:=
 xs.length=l*size/\l<=c/\c<=maxLen/\(0<l->∃b o,a=some ⟨b,o,none⟩/\At M b o xs)
theorem SlV.le {M M':Mem} {a:Option Addr} {l c size:Nat} {xs:List Value} (h:SlV M a l c size xs) (hl:M.le M'):SlV M' a l c size xs:=
 ⟨h.1,h.2.1,h.2.2.1,λh0=>by obtain⟨b,o,e,ha⟩:=h.2.2.2 h0;exact⟨b,o,e,ha.le hl⟩⟩
section
variable {P:Program} {ops:Array Oper} {Q:Exit->Act->World->Prop} {n:Nat} {E:World} {bw:List Nat} {M:Mem} {w:World} {a:Act} {env:Env} {bs:List Bx} {rs:List Rw} {rest:List Oper}
theorem ownsRow_form {base:Nat} {e size n:Nat} {v:Value} {xs:List Value} (h:w.ownsRow base e size v n xs):
  ∃ad cap,v= .slice ad n cap/\n<=cap/\cap<=maxLen/\(ad=none/\n=0/\cap=0\/∃g,ad=some ⟨g,0,none⟩):=by
 rcases h.2 with⟨rfl,rfl⟩|⟨g,cap,cur,rfl,_,_,h1,h2,_,_⟩
 ·exact⟨none,0,rfl,Nat.le_refl _,Nat.zero_le _,.inl ⟨rfl,rfl,rfl⟩⟩
 ·exact⟨_,cap,rfl,h1,h2,.inr ⟨g,rfl⟩⟩
theorem Sx.rowform (hs:Sx n E bw M w a env bs rs) (i:Nat) {r:Rw} (hi:rs[i]?=some r):∃ad cap,r.v= .slice ad r.n cap/\r.n<=cap/\r.xs.length=r.n*r.size:=by
 obtain⟨h1,_⟩:=hs.rw r (List.mem_of_getElem? hi)
 obtain⟨ad,cap,e,h2,_,_⟩:=ownsRow_form h1
 exact⟨ad,cap,e,h2,h1.1⟩
theorem Sx.chrs {rs':List Rw} (hs:Sx n E bw M w a env bs rs) (h:rs=rs'):Sx n E bw M w a env bs rs':=h▸hs
theorem lenb {k bytes:Nat} (h:k*bytes<=140737488355328) (h0:0<bytes):k<=maxLen:=by
 have:k*1<=k*bytes:=Nat.mul_le_mul_left k h0
 unfold maxLen
 omega
theorem Sx.rowblk (hs:Sx n E bw M w a env bs rs) (i:Nat) {e size k cap:Nat} {ad:Option Addr} {xs:List Value} {ow:Bool} (hi:rs[i]?=some ⟨.slice ad k cap,e,size,k,xs,ow⟩) (h0:0<k):∃g,ad=some ⟨g,0,none⟩:=by
 obtain⟨h1,_⟩:=hs.rw _ (List.mem_of_getElem? hi)
 obtain⟨ad',cap',he,_,_,h2⟩:=ownsRow_form h1
 simp only[Value.slice.injEq]at he
 obtain⟨rfl,_,rfl⟩:=he
 rcases h2 with⟨_,h3,_⟩|h2
 ·simp only at h3;omega
 ·exact h2
theorem Sx.newrow (hs:Sx n E bw M w a env bs rs) (cs:List Value) (e size k:Nat) (hl:cs.length=k*size) (hm:k<=maxLen) {a':Act} {env':Env} (hA:Ag n a' env'):
  Sx n E bw M (w.alloc (.cells cs.toArray e)) a' env' bs (⟨.slice (some ⟨w.heap.size,0,none⟩) k k,e,size,k,cs,true⟩::rs):=by
 have hb:Below w.heap.size w (w.alloc (.cells cs.toArray e)):=(Below.refl _ w).alloc (Nat.le_refl _) _
 have h1:=(hs.later hb (hs.on.later hb) (λ_ _=>rfl)).act hA
 refine⟨hA,h1.on,h1.pr,h1.bx,λr hr=>?_,hs.nd.b,λx hx r hr=>?_,List.Pairwise.cons (λs hs' g hg=>?_) hs.nd.r⟩
 ·rcases List.mem_cons.1 hr with rfl|hr
  ·refine⟨⟨hl,.inr ⟨w.heap.size,k,cs.toArray,rfl,Nat.zero_le _,heap_alloc_new w _,Nat.le_refl _,hm,by simpa using hl,by simp[<-hl]⟩⟩,λg hg=>?_⟩
   simp only[Value.ownBlock,Option.some.injEq]at hg
   subst hg
   exact⟨hs.on.noneAt (Nat.le_refl _),.inl hs.pr.size⟩
  ·exact h1.rw r hr
 ·rcases List.mem_cons.1 hr with rfl|hr
  ·simp only[Value.ownBlock,ne_eq,Option.some.injEq]
   have:=(hs.bx x hx).1.lt
   omega
  ·exact hs.nd.x x hx r hr
 ·simp only[Value.ownBlock,Option.some.injEq]at hg
  subst hg
  intro e'
  have:=((hs.rw s hs').1.lt _ e').2
  omega
theorem stepMake (cs:List Value) (e size k:Nat) {d:Nat} {o:Oper} (hs:Sx n E bw M w a env bs rs) (hk:okOp env o=true) (hg:o.guard=none) (hd:o.dst=some d)
  (hrun:∀w,(execOp (evT env) o).run P w= .ok (.value (.slice (some ⟨w.heap.size,0,none⟩) k k)) (w.alloc (.cells cs.toArray e))) (hl:cs.length=k*size) (hm:k<=maxLen) (hdn:d<n)
  (h:∀a' w' v,Sx n E bw M w' a' ((d,v)::env) bs (⟨v,e,size,k,cs,true⟩::rs)->wpList P ops Q rest a' w'):wpList P ops Q (o::rest) a w:=by
 refine stepK (Z:=λ_ _=>False) (d:=d) hs (λ_ _ h=>h.elim) hg hk hd hdn ?_
 refine OpW.of_run (hrun w) ?_
 intro a' hA
 exact h a' _ _ (hs.newrow cs e size k hl hm hA)
theorem Sx.rowset {w':World} (hs:Sx n E bw M w a env bs rs) (i:Nat) {r r':Rw} (hi:rs[i]?=some r) (hg:w.grownBy w' r.v.ownBlock)
  (hfl:r'.own=r.own) (hown:w'.ownsRow 0 r'.e r'.size r'.v r'.n r'.xs) (hblk:r'.v.ownBlock=r.v.ownBlock\/r'.v.ownBlock=none\/r'.v.ownBlock=some w.heap.size) {a':Act} {env':Env} (hA:Ag n a' env'):
  Sx n E bw M w' a' env' bs (rs.set i r'):=by
 have hr:=hs.rw r (List.mem_of_getElem? hi)
 have hne:∀k,k<w.heap.size->r.v.ownBlock≠some k->w'.heap[k]?=w.heap[k]?:=λk hk h=>hg.block k hk (λe=>h e.symm)
 have hlt:∀g,r'.v.ownBlock=some g->(r.v.ownBlock=some g\/g=w.heap.size):=λg hg'=>by
  rcases hblk with h|h|h
  ·exact .inl (h▸hg')
  ·rw[h]at hg';cases hg'
  ·rw[h]at hg';exact .inr (by simpa using hg'.symm)
 have hiL:i<rs.length:=(List.getElem?_eq_some_iff.1 hi).1
 have hmem:∀s∈rs.set i r',s=r'\/∃j,rs[j]?=some s/\i≠j:=by
  intro s hs'
  obtain⟨j,hj⟩:=List.mem_iff_getElem?.1 hs'
  rw[List.getElem?_set]at hj
  by_cases hij:i=j
  ·subst hij
   rw[if_pos rfl,if_pos hiL]at hj
   simp only[Option.some.injEq]at hj
   exact .inl hj.symm
  ·rw[if_neg hij]at hj;exact .inr ⟨j,hj,hij⟩
 have hpw:∀j s,rs[j]?=some s->i≠j->∀g,r.v.ownBlock=some g->s.v.ownBlock≠some g:=by
  intro j s hj hij g hg1 hg2
  obtain⟨hjl,hj'⟩:=List.getElem?_eq_some_iff.1 hj
  obtain⟨_,hi'⟩:=List.getElem?_eq_some_iff.1 hi
  have hp:=List.pairwise_iff_getElem.1 hs.nd.r
  rcases Nat.lt_or_ge i j with h|h
  ·have:=hp i j hiL hjl h g
   rw[hi',hj']at this
   exact this hg1 hg2
  ·have:=hp j i hjl hiL (by omega) g
   rw[hi',hj']at this
   exact this hg2 hg1
 have hkp:∀j s,rs[j]?=some s->i≠j->s.v.ownBlock=none\/s.v.ownBlock≠r.v.ownBlock:=by
  intro j s hj hij
  cases hb:s.v.ownBlock with
  |none=>exact .inl rfl
  |some g=>exact .inr λe=>hpw j s hj hij g e.symm hb
 refine⟨hA,λb o hb=>?_,?_,λx hx=>?_,λs hs'=>?_,hs.nd.b,λx hx s hs'=>?_,?_⟩
 ·rw[hne b (hs.on.lt hb) (λe=>by rw[(hr.2 b e).1]at hb;cases hb)];exact hs.on b o hb
 ·obtain⟨h1,h2,h3,h4,h5⟩:=hs.pr
  refine⟨hg.os.trans h1,hg.tape.trans h2,hg.output.trans h3,Nat.le_trans h4 hg.size,λk hk hn=>?_⟩
  rw[hne k (by omega) (λe=>by
   rcases(hr.2 k e).2 with h|h
   ·omega
   ·exact hn h.2)]
  exact h5 k hk hn
 ·obtain⟨g1,g2,g3⟩:=hs.bx x hx
  exact⟨(hne _ g1.lt (hs.nd.x x hx r (List.mem_of_getElem? hi))).trans g1,g2,g3⟩
 ·rcases hmem s hs' with rfl|⟨j,hj,hij⟩
  ·refine⟨hown,λg hg'=>?_⟩
   rcases hlt g hg' with h|rfl
   ·rw[hfl];exact hr.2 g h
   ·exact⟨hs.on.noneAt (Nat.le_refl _),.inl hs.pr.size⟩
  ·obtain⟨g1,g2⟩:=hs.rw s (List.mem_of_getElem? hj)
   exact⟨g1.kept hg (hkp j s hj hij),g2⟩
 ·rcases hmem s hs' with rfl|⟨j,hj,hij⟩
  ·intro e
   rcases hlt _ e with h|h
   ·exact hs.nd.x x hx r (List.mem_of_getElem? hi) h
   ·have:=(hs.bx x hx).1.lt
    omega
  ·exact hs.nd.x x hx s (List.mem_of_getElem? hj)
 ·refine List.pairwise_iff_getElem.2 λp q hp hq hpq g hg1=>?_
  simp only[List.length_set]at hp hq
  rw[List.getElem_set]at hg1 ⊢
  have old:∀j (hj:j<rs.length),i≠j->∀g,r'.v.ownBlock=some g->rs[j].v.ownBlock≠some g:=by
   intro j hj hij g h1 h2
   rcases hlt g h1 with h|rfl
   ·exact hpw j rs[j] (List.getElem?_eq_getElem hj) hij g h h2
   ·have:=((hs.rw rs[j] (List.getElem_mem hj)).1.lt _ h2).2
    omega
  by_cases hip:i=p
  ·rw[if_pos hip]at hg1
   rw[if_neg (by omega)]
   exact old q hq (by omega) g hg1
  ·rw[if_neg hip]at hg1
   by_cases hiq:i=q
   ·rw[if_pos hiq]
    exact λh=>old p hp hip g h hg1
   ·rw[if_neg hiq]
    exact List.pairwise_iff_getElem.1 hs.nd.r p q hp hq hpq g hg1
def Src (w:World) (A:Option Addr) (m size:Nat) (news:List Value):Prop:=
 news.length=m*size/\(∀u∈news,u.oneCell'=true)/\(0<m->∃ad,A=some ad/\∀j u,news[j]?=some u->w.cell? (ad.add j)=some u)
theorem run_append_src {base:Nat} {t ty e:TypeId} {size bytes:Nat} (ht:P.underlying t=some (.slice e)) (hi:(P.info? e).map (λi=>(i.size,i.bytes,i.zero.map (·.cells.size)))=some (size,bytes,some size)) (hsz:0<size)
  {v:Value} {n:Nat} {xs:List Value} (hown:w.ownsRow base e size v n xs) {A:Option Addr} {m c:Nat} {news:List Value} (hr:Src w A m size news)
  (h63:n+m<=maxLen) (hbytes:(n+m)*bytes<=140737488355328) (hbase:base<=w.heap.size):
  ∃v' w',(Builtin.append_ #[t,t] ty #[v,.slice A m c]).run P w= .ok v' w'/\w'.ownsRow base e size v' (n+m) (xs++news)/\w.grownBy w' v.ownBlock/\
   (v'.ownBlock=v.ownBlock\/v'.ownBlock=none\/v'.ownBlock=some w.heap.size):=by
 cases hinf:P.info? e with
 |none=>simp[hinf]at hi
 |some i=>
  simp only[hinf,Option.map_some,Option.some.injEq,Prod.mk.injEq]at hi
  obtain⟨h1,h2,h3⟩:=hi
  cases hz:i.zero with
  |none=>simp[hz]at h3
  |some z=>
   simp only[hz,Option.map_some,Option.some.injEq]at h3
   rcases A with _|ad
   ·have hm:m=0:=by
     rcases Nat.eq_zero_or_pos m with h0|h0
     ·exact h0
     ·obtain⟨ad,h,_⟩:=hr.2.2 h0;cases h
    subst hm
    have hn:news=[]:=List.eq_nil_of_length_eq_zero (by simpa using hr.1)
    subst hn
    refine⟨v,w,?_,by simpa using hown,World.grownBy.refl w _,.inl rfl⟩
    rcases hown.2 with⟨rfl,rfl⟩|⟨g,cap,cur,rfl,_,_,hnc,_⟩
    ·simp[Builtin.append_,run_underlying ht,sizeOf,typeInfo,hinf,Builtin.lenOf,Builtin.firstCells]
    ·simp[Builtin.append_,run_underlying ht,sizeOf,typeInfo,hinf,Builtin.lenOf,Builtin.firstCells,hnc,storeCells]
   ·have hcells:∀j u,news[j]?=some u->w.cell? (ad.add j)=some u:=by
     intro j u hu
     rcases Nat.eq_zero_or_pos m with h0|h0
     ·subst h0
      have hn:news=[]:=List.eq_nil_of_length_eq_zero (by simpa using hr.1)
      subst hn
      simp at hu
     ·obtain⟨ad',h,hc⟩:=hr.2.2 h0
      injection h with h
      subst h
      exact hc j u hu
    obtain⟨v',w',hrun,g2,g3,_,g5⟩:=run_append_own_at (P:=P) w base t ty e i z size bytes ht hinf hz h1 h2 h3 hsz v n xs hown ad m c news hr.1 hcells hr.2.1 h63 hbytes hbase
    exact⟨v',w',hrun,g2,g3,g5.imp id .inr⟩
theorem run_call_append {d:Option Tmp} {ty:TypeId} {x y:Operand} {t:TypeId} {pos:String} {af:Array Edge} {gd:Option (Nat×Bool)} {vx vy:Value} (hx:evT env x=vx) (hy:evT env y=vy):
  (execOp (evT env) ⟨d,.call {callee:=.builtin .append,args:= #[x,y],argTypes:= #[t,t]},ty,pos,af,gd⟩).run P w=((Builtin.append_ #[t,t] ty #[vx,vy]).run P w).andThen λv w'=>.ok (.value v) w':=by
 simp[execOp,resolve,invoke,builtin,hx,hy]
theorem stepAppend (i:Nat) {d:Nat} {ty:TypeId} {x y:Operand} {t e:TypeId} {size bytes:Nat} {pos:String} {af:Array Edge} {v:Value} {k:Nat} {xs:List Value} {A:Option Addr} {m c:Nat} {ow:Bool} (news:List Value)
  (hs:Sx n E bw M w a env bs rs) (hi:rs[i]?=some ⟨v,e,size,k,xs,ow⟩) (hkx:known env x=true) (hky:known env y=true) (hx:evT env x=v) (hy:evT env y= .slice A m c)
  (ht:P.underlying t=some (.slice e)) (hinf:(P.info? e).map (λi=>(i.size,i.bytes,i.zero.map (·.cells.size)))=some (size,bytes,some size)) (hsz:0<size) (hdn:d<n)
  (hr:Src w A m size news) (h63:k+m<=maxLen) (hbytes:(k+m)*bytes<=140737488355328)
  (h:∀a' w' v',Sx n E bw M w' a' ((d,v')::env) bs (rs.set i ⟨v',e,size,k+m,xs++news,ow⟩)->wpList P ops Q rest a' w'):
  wpList P ops Q (⟨some d,.call {callee:=.builtin .append,args:= #[x,y],argTypes:= #[t,t]},ty,pos,af,none⟩::rest) a w:=by
 refine stepK (Z:=λ_ _=>False) (d:=d) hs (λ_ _ h=>h.elim) rfl (by simp[okOp,notSel,Op.operands,Call.operands,hkx,hky]) rfl hdn ?_
 obtain⟨v',w',hrun,h1,h2,h3⟩:=run_append_src (P:=P) (ty:=ty) (c:=c) ht hinf hsz (hs.rw _ (List.mem_of_getElem? hi)).1 hr h63 hbytes (Nat.zero_le _)
 refine OpW.of_run (w':=w') (v:=v') (by rw[run_call_append hx hy,hrun];rfl) ?_
 intro a' hA
 exact h a' w' v' (hs.rowset (r':=⟨v',e,size,k+m,xs++news,ow⟩) i hi h2 rfl h1 h3 hA)
theorem Sx.srcRow (hs:Sx n E bw M w a env bs rs) (j:Nat) {A:Option Addr} {m c:Nat} {e size:Nat} {news:List Value} {ow:Bool} (hj:rs[j]?=some ⟨.slice A m c,e,size,m,news,ow⟩) (h1:news.all (·.oneCell')=true):Src w A m size news:=by
 obtain⟨g1,_⟩:=hs.rw _ (List.mem_of_getElem? hj)
 refine⟨g1.1,λu hu=>List.all_eq_true.1 h1 u hu,λh0=>?_⟩
 obtain⟨ad,cap,he,_,_,h2⟩:=ownsRow_form g1
 simp only[Value.slice.injEq]at he
 obtain⟨rfl,_,rfl⟩:=he
 rcases h2 with⟨_,h3,_⟩|⟨g,rfl⟩
 ·simp only at h3;omega
 ·exact⟨_,rfl,λj u hu=>g1.cells (g:=g) rfl j u hu⟩
theorem Sx.release (hs:Sx n E bw M w a env bs rs) (i:Nat) {A:Option Addr} {l c:Nat} {e size:Nat} {xs:List Value} (hi:rs[i]?=some ⟨.slice A l c,e,size,l,xs,true⟩) (rs':List Rw) (hrs:rs.eraseIdx i=rs'):
  ∃M',M.le M'/\SlV M' A l c size xs/\(∀b o,M' b=some o->M b=some o\/E.heap.size<=b)/\Sx n E bw M' w a env bs rs':=by
 subst hrs
 obtain⟨g1,g2⟩:=hs.rw _ (List.mem_of_getElem? hi)
 have hiL:i<rs.length:=(List.getElem?_eq_some_iff.1 hi).1
 have hsub:(rs.eraseIdx i).Sublist rs:=List.eraseIdx_sublist rs i
 obtain⟨ad,cap,he,hc1,hc2,h2⟩:=ownsRow_form g1
 simp only[Value.slice.injEq]at he
 obtain⟨rfl,_,rfl⟩:=he
 rcases h2 with⟨rfl,h3,h4⟩|⟨g,rfl⟩
 ·simp only at h3 h4
  refine⟨M,Mem.le.refl M,⟨g1.1,hc1,hc2,λh0=>by omega⟩,λ_ _ h=>.inl h,hs.ag,hs.on,hs.pr,hs.bx,λr hr=>hs.rw r (hsub.subset hr),hs.nd.sub (List.Sublist.refl _) hsub⟩
 ·have hg:=(g2 g rfl).1
  have hbg:E.heap.size<=g:=by
   rcases(g2 g rfl).2 with h|h
   ·exact h
   ·cases h.1
  obtain⟨_,hlt⟩:=g1.lt g rfl
  rcases g1.2 with⟨h0,_⟩|⟨g',cap',cur,hv,_,hcell,_,_,_,htake⟩
  ·cases h0
  ·simp only[Value.slice.injEq,Option.some.injEq,Addr.mk.injEq,and_true]at hv
   obtain⟨rfl,_,rfl⟩:=hv
   refine⟨λb=>if b=g then w.heap[g]? else M b,λb o hb=>?_,⟨g1.1,hc1,hc2,λ_=>⟨g,0,rfl,λj v hj=>?_⟩⟩,λb o hb=>?_,hs.ag,λb o hb=>?_,hs.pr,λx hx=>?_,λr hr=>?_,hs.nd.sub (List.Sublist.refl _) hsub⟩
   ·show(if b=g then w.heap[g]? else M b)=some o
    rw[if_neg (by rintro rfl;rw[hg]at hb;cases hb)];exact hb
   ·unfold Mem.cell
    simp only[if_true,hcell]
    change List.take (l*size) cur.toList=xs at htake
    rw[<-htake,List.getElem?_take]at hj
    split at hj
    ·simpa using hj
    ·cases hj
   ·change (if b=g then w.heap[g]? else M b)=some o at hb
    by_cases hbg':b=g
    ·exact .inr (hbg'▸hbg)
    ·rw[if_neg hbg']at hb;exact .inl hb
   ·change (if b=g then w.heap[g]? else M b)=some o at hb
    by_cases hbg':b=g
    ·rw[if_pos hbg']at hb;rw[hbg'];exact hb
    ·rw[if_neg hbg']at hb;exact hs.on b o hb
   ·obtain⟨k1,k2,k3⟩:=hs.bx x hx
    refine⟨k1,?_,k3⟩
    show(if x.b=g then w.heap[g]? else M x.b)=none
    rw[if_neg (λe=>hs.nd.x x hx _ (List.mem_of_getElem? hi) (by rw[e];rfl))];exact k2
   ·obtain⟨k1,k2⟩:=hs.rw r (hsub.subset hr)
    refine⟨k1,λg' hg'=>⟨?_,(k2 g' hg').2⟩⟩
    show(if g'=g then w.heap[g]? else M g')=none
    rw[if_neg ?_]
    ·exact(k2 g' hg').1
    ·rintro rfl
     obtain⟨j,hj⟩:=List.mem_iff_getElem?.1 hr
     rw[List.getElem?_eraseIdx]at hj
     have hp:=List.pairwise_iff_getElem.1 hs.nd.r
     obtain⟨_,hi'⟩:=List.getElem?_eq_some_iff.1 hi
     by_cases hji:j<i
     ·rw[if_pos hji]at hj
      obtain⟨hjl,hj'⟩:=List.getElem?_eq_some_iff.1 hj
      have:=hp j i hjl hiL hji g'
      rw[hj',hi']at this
      exact this hg' rfl
     ·rw[if_neg hji]at hj
      obtain⟨hjl,hj'⟩:=List.getElem?_eq_some_iff.1 hj
      have:=hp i (j+1) hiL hjl (by omega) g'
      rw[hj',hi']at this
      exact this rfl hg'
end
section
variable {P:Program} {env:Env} {M:Mem} {bs:List Bx} {rs:List Rw} {d:Option Tmp} {ty:TypeId} {pos:String} {af:Array Edge} {gd:Option (Nat×Bool)}
theorem Yl.lenR (i:Nat) {x:Operand} {t e':TypeId} {v:Value} {e size k:Nat} {xs:List Value} {ow:Bool} (hi:rs[i]?=some ⟨v,e,size,k,xs,ow⟩) (hk:known env x=true) (hx:evT env x=v) (ht:P.underlying t=some (.slice e')):
  Yl P env M bs rs ⟨d,.call {callee:=.builtin .len,args:= #[x],argTypes:= #[t]},ty,pos,af,gd⟩ (.int .i64 ((k:Nat):Int)):=by
 refine⟨by simp[okOp,notSel,Op.operands,Call.operands,hk],λw hc=>?_⟩
 obtain⟨base,g1⟩:=hc.rw _ (List.mem_of_getElem? hi)
 obtain⟨ad,cap,he,_⟩:=ownsRow_form g1
 simp only at he
 subst he
 simp[execOp,resolve,invoke,builtin,hx,Builtin.len_,run_underlying ht,goInt]
end
end Go.Gx

namespace Go.Gx
open Go.RowKit
section
variable {P:Program} {ops:Array Oper} {Q:Exit->Act->World->Prop} {n:Nat} {E:World} {bw:List Nat} {M:Mem} {w:World} {a:Act} {env:Env} {rest:List Oper}
end
section
variable {n:Nat} {E:World} {bw:List Nat} {M:Mem} {w:World} {a:Act} {env:Env} {bs:List Bx} {rs:List Rw}
end
section
variable {P:Program} {ops:Array Oper} {Q:Exit->Act->World->Prop} {n:Nat} {E:World} {bw:List Nat} {M:Mem} {w:World} {a:Act} {env:Env} {bs:List Bx} {rs:List Rw} {rest:List Oper}
end
end Go.Gx

namespace Go.Gx
open Go.RowKit
def repl (n:Nat) (zs:List Value):List Value:=(List.replicate n zs).flatten
def bytesV (l:List UInt8):List Value:=l.map λc=>Value.int .u8 (c.toNat:Int)
theorem repl_length (n:Nat) (zs:List Value):(repl n zs).length=n*zs.length:=by simp[repl]
theorem repl_get (zs:List Value):∀(n j:Nat),j<n*zs.length->(repl n zs)[j]?=zs[j % zs.length]?
 |0,j,h=>by omega
 |n+1,j,h=>by
  unfold repl
  rw[List.replicate_succ,List.flatten_cons,List.getElem?_append]
  split
  ·rename_i hl
   rw[Nat.mod_eq_of_lt hl]
  ·rename_i hl
   rw[Nat.succ_mul]at h
   have:=repl_get zs n (j-zs.length) (by omega)
   unfold repl at this
   rw[this,Nat.mod_eq_sub_mod (show j>=zs.length by omega)]
section
variable {P:Program} {ops:Array Oper} {Q:Exit->Act->World->Prop} {n:Nat} {E:World} {bw:List Nat} {M:Mem} {w:World} {a:Act} {env:Env} {bs:List Bx} {rs:List Rw} {rest:List Oper}
theorem Sx.newrowC (hs:Sx n E bw M w a env bs rs) (cur:Array Value) (e size k c:Nat) (hk:k<=c) (hl:cur.size=c*size) (hm:c<=maxLen) {a':Act} {env':Env} (hA:Ag n a' env'):
  Sx n E bw M (w.alloc (.cells cur e)) a' env' bs (⟨.slice (some ⟨w.heap.size,0,none⟩) k c,e,size,k,cur.toList.take (k*size),true⟩::rs):=by
 have hb:Below w.heap.size w (w.alloc (.cells cur e)):=(Below.refl _ w).alloc (Nat.le_refl _) _
 have h1:=(hs.later hb (hs.on.later hb) (λ_ _=>rfl)).act hA
 have hle:k*size<=c*size:=Nat.mul_le_mul_right _ hk
 refine⟨hA,h1.on,h1.pr,h1.bx,λr hr=>?_,hs.nd.b,λx hx r hr=>?_,List.Pairwise.cons (λs hs' g hg=>?_) hs.nd.r⟩
 ·rcases List.mem_cons.1 hr with rfl|hr
  ·refine⟨⟨by simp;omega,.inr ⟨w.heap.size,c,cur,rfl,Nat.zero_le _,heap_alloc_new w _,hk,hm,hl,rfl⟩⟩,λg hg=>?_⟩
   simp only[Value.ownBlock,Option.some.injEq]at hg
   subst hg
   exact⟨hs.on.noneAt (Nat.le_refl _),.inl hs.pr.size⟩
  ·exact h1.rw r hr
 ·rcases List.mem_cons.1 hr with rfl|hr
  ·simp only[Value.ownBlock,ne_eq,Option.some.injEq]
   have:=(hs.bx x hx).1.lt
   omega
  ·exact hs.nd.x x hx r hr
 ·simp only[Value.ownBlock,Option.some.injEq]at hg
  subst hg
  intro e'
  have:=((hs.rw s hs').1.lt _ e').2
  omega
theorem madeCells_take (zs:List Value) (k c:Nat) (hk:k<=c):(madeCells zs.toArray (c*zs.length)).toList.take (k*zs.length)=repl k zs:=by
 have hle:k*zs.length<=c*zs.length:=Nat.mul_le_mul_right _ hk
 apply List.ext_getElem?
 intro j
 rw[List.getElem?_take]
 split
 ·rename_i hj
  rw[repl_get zs k j hj]
  have hz:0<zs.length:=by
   rcases Nat.eq_zero_or_pos zs.length with h|h
   ·rw[h]at hj;omega
   ·exact h
  have hm:j % zs.length<zs.length:=Nat.mod_lt _ hz
  have hjc:j<c*zs.length:=by omega
  simp[madeCells,hjc,hm]
 ·rename_i hj
  rw[List.getElem?_eq_none (by rw[repl_length];omega)]
theorem stepMakeN (zs:List Value) {d:Nat} {t e ty:TypeId} {x y:Operand} {pos:String} {af:Array Edge} {size bytes:Nat} {kl kc:IntKind} {l c:Int} (hs:Sx n E bw M w a env bs rs) (hkx:known env x=true) (hky:known env y=true) (hx:evT env x= .int kl l) (hy:evT env y= .int kc c)
  (ht:P.underlying t=some (.slice e)) (hi:(P.info? e).map (λi=>(i.size,i.bytes,i.zero.map (·.cells)))=some (size,bytes,some zs.toArray)) (hsz:zs.length=size) (hb0:0<bytes) (hdn:d<n)
  (h0:0<=l) (hlc:l<=c) (hb:c.toNat*bytes<=140737488355328)
  (h:∀a' w' v,Sx n E bw M w' a' ((d,v)::env) bs (⟨v,e,size,l.toNat,repl l.toNat zs,true⟩::rs)->wpList P ops Q rest a' w'):wpList P ops Q (⟨some d,.makeSlice t x y,ty,pos,af,none⟩::rest) a w:=by
 subst hsz
 refine stepK (Z:=λ_ _=>False) (d:=d) hs (λ_ _ h=>h.elim) rfl (by simp[okOp,notSel,Op.operands,hkx,hky]) rfl hdn ?_
 have hcm:c.toNat<=maxLen:=lenb hb hb0
 have hc63:c<=9223372036854775807:=by unfold maxLen at hcm;omega
 cases hinf:P.info? e with
 |none=>simp[hinf]at hi
 |some i=>
  simp only[hinf,Option.map_some,Option.some.injEq,Prod.mk.injEq]at hi
  obtain⟨h1,h2,h3⟩:=hi
  cases hz:i.zero with
  |none=>simp[hz]at h3
  |some z=>
   simp only[hz,Option.map_some,Option.some.injEq]at h3
   have hbc:(i.bytes:Int)*c<=281474976710656:=by
    have:((c.toNat*i.bytes:Nat):Int)<=140737488355328:=by rw[h2];omega
    rw[Int.natCast_mul,Int.toNat_of_nonneg (by omega),Int.mul_comm]at this
    omega
   have hrun:=run_make (P:=P) w t e i z ht hinf hz kl kc l c h0 hlc hbc hc63
   refine OpW.of_run (w':=w.alloc (.cells (madeCells zs.toArray (c.toNat*zs.length)) e)) (v:=.slice (some ⟨w.heap.size,0,none⟩) l.toNat c.toNat) ?_ ?_
   ·rw[h3,h1]at hrun
    simp[execOp,hx,hy,hrun]
   ·intro a' hA
    have:=hs.newrowC (madeCells zs.toArray (c.toNat*zs.length)) e zs.length l.toNat c.toNat (by omega) (by simp[madeCells]) hcm hA
    rw[madeCells_take zs _ _ (by omega)]at this
    exact h a' _ _ this
theorem Sx.rowput (hs:Sx n E bw M w a env bs rs) (i:Nat) {r r':Rw} (hi:rs[i]?=some r) (hfl:r'.own=r.own) (hown:w.ownsRow 0 r'.e r'.size r'.v r'.n r'.xs) (hblk:r'.v.ownBlock=r.v.ownBlock):Sx n E bw M w a env bs (rs.set i r'):=
 hs.rowset i hi (World.grownBy.refl w _) hfl hown (.inl hblk) hs.ag
theorem stepCut (i:Nat) {d:Nat} {t e ty:TypeId} {x y:Operand} {pos:String} {af:Array Edge} {size k cap:Nat} {ad:Option Addr} {xs:List Value} {ow:Bool} {ik:IntKind} {c:Int} (hs:Sx n E bw M w a env bs rs) (hi:rs[i]?=some ⟨.slice ad k cap,e,size,k,xs,ow⟩)
  (hkx:known env x=true) (hky:known env y=true) (hx:evT env x= .slice ad k cap) (hy:evT env y= .int ik c) (ht:P.underlying t=some (.slice e)) (hn:(P.info? e).map (·.size)=some size) (hdn:d<n)
  (h0:0<=c) (hc:c<=(k:Int))
  (h:∀a' w' v,Sx n E bw M w' a' ((d,v)::env) bs (rs.set i ⟨v,e,size,c.toNat,xs.take (c.toNat*size),ow⟩)->wpList P ops Q rest a' w'):wpList P ops Q (⟨some d,.slice t x none (some y) none,ty,pos,af,none⟩::rest) a w:=by
 obtain⟨h1,h2⟩:=hs.rw _ (List.mem_of_getElem? hi)
 simp only at h1 h2
 have hkc:k<=cap:=by
  obtain⟨_,_,he,h3,_⟩:=ownsRow_form h1
  cases he
  exact h3
 have hyl:=Yl.sliceSH (P:=P) (env:=env) (M:=M) (bs:=bs) (rs:=rs) (d:=some d) (ty:=ty) (pos:=pos) (af:=af) (gd:=none) (b:=c) hkx hky hx hy ht hn h0 (by omega)
 refine stepY _ hs rfl rfl hdn hyl λa' hs'=>?_
 refine h a' w _ (hs'.rowput i hi rfl ?_ ?_)
 ·have hle:c.toNat*size<=k*size:=Nat.mul_le_mul_right _ (by omega)
  refine⟨by show(xs.take (c.toNat*size)).length=c.toNat*size;rw[List.length_take,h1.1];omega,?_⟩
  rcases h1.2 with⟨hv,hk0⟩|⟨g,cap',cur,hv,hb,hg,h3,h4,h5,h6⟩
  ·left
   cases hv
   simp only at hk0
   have hz:c.toNat=0:=by omega
   exact⟨by simp only[hz],hz⟩
  ·right
   cases hv
   refine⟨g,cap,cur,rfl,hb,hg,by simp only;omega,h4,h5,?_⟩
   simp only
   rw[<-h6,List.take_take,Nat.min_eq_left hle]
 ·cases ad<;>rfl
theorem stepStoreR (i:Nat) {t ty:TypeId} {p x:Operand} {pos:String} {af:Array Edge} {g k m cap e size:Nat} {ad:Option Addr} {xs vs:List Value} {ow:Bool} {v:Value} (hs:Sx n E bw M w a env bs rs) (hi:rs[i]?=some ⟨.slice ad m cap,e,size,m,xs,ow⟩) (had:ad=some ⟨g,0,none⟩) (hkp:known env p=true) (hkx:known env x=true)
  (hp:evT env p= .pointer (some ⟨g,k,none⟩)) (hx:evT env x=v) (hc:v.cells=vs.toArray) (hn:(P.info? t).map (·.size)=some vs.length) (hfit:k+vs.length<=m*size) (h1:vs.all (·.oneCell')=true)
  (h:∀a' w',Sx n E bw M w' a' env bs (rs.set i ⟨.slice ad m cap,e,size,m,putAt xs k vs,ow⟩)->wpList P ops Q rest a' w'):wpList P ops Q (⟨none,.store t p x,ty,pos,af,none⟩::rest) a w:=by
 subst had
 refine stepK0 (Z:=λ_ _=>False) hs (λ_ _ h=>h.elim) rfl (by simp[okOp,notSel,Op.operands,hkp,hkx]) rfl ?_
 obtain⟨g1,g2⟩:=hs.rw _ (List.mem_of_getElem? hi)
 rcases g1.2 with⟨hv,_⟩|⟨g',cap',cur,hv,hb,hg,h3,h4,h5,h6⟩
 ·cases hv
 ·cases hv
  simp only at h3 h6 g1
  have hle:m*size<=cap*size:=Nat.mul_le_mul_right _ h3
  have hst:=run_storeCells_at P g k e vs 0 cur w hg (by rw[h5];simp only;omega) (λu hu=>List.all_eq_true.1 h1 u hu)
  refine OpW.of_skip (w':=w.setRow g (putAt cur.toList k vs).toArray) ?_ ?_
  ·cases hin:P.info? t with
   |none=>simp[hin]at hn
   |some ti=>
    simp[hin]at hn
    have e':(cur.toList.take (k+0)++vs++cur.toList.drop (k+0+vs.length)).toArray=(putAt cur.toList k vs).toArray:=by simp[putAt]
    rw[e']at hst
    simp[execOp,Instr.storeAt,hp,hx,Instr.sureAddr,storeVar,hc,sizeOf,typeInfo,hin,hn,hst]
  ·intro a' hA
   have hgr:w.grownBy (w.setRow g (putAt cur.toList k vs).toArray) (Value.slice (some ⟨g,0,none⟩) m cap).ownBlock:=by
    refine⟨rfl,rfl,rfl,by simp[World.setRow],λq _ hne=>?_⟩
    simp only[World.setRow,Array.getElem?_modify]
    rw[if_neg]
    rintro rfl
    exact hne rfl
   have hlen:(putAt cur.toList k vs).length=cap*size:=by
    have hcl:cur.toList.length=cap*size:=by simpa using h5
    simp only[putAt,List.length_append,List.length_take,List.length_drop]
    rw[hcl]
    omega
   refine h a' _ (hs.rowset (r':=⟨.slice (some ⟨g,0,none⟩) m cap,e,size,m,putAt xs k vs,ow⟩) i hi hgr rfl ⟨?_,.inr ⟨g,cap,_,rfl,Nat.zero_le _,setRow_heap w g cur _ e (0,0) hg,h3,h4,by simpa using hlen,?_⟩⟩ (.inl rfl) hA)
   ·have hx1:=g1.1
    simp only at hx1 ⊢
    simp only[putAt,List.length_append,List.length_take,List.length_drop]
    omega
   ·simp only
    rw[<-h6]
    have hcl:cur.toList.length=cap*size:=by simpa using h5
    apply List.ext_getElem?
    intro j
    simp only[putAt]
    rw[List.getElem?_take]
    have hkl:(cur.toList.take k).length=k:=by rw[List.length_take,hcl];omega
    have hkl2:((cur.toList.take (m*size)).take k).length=k:=by rw[List.length_take,List.length_take,hcl];omega
    rw[List.append_assoc,List.append_assoc,List.getElem?_append (l₁:=cur.toList.take k),List.getElem?_append (l₁:=(cur.toList.take (m*size)).take k),hkl,hkl2]
    by_cases hj:j<m*size
    ·rw[if_pos hj]
     by_cases hjk:j<k
     ·rw[if_pos hjk,if_pos hjk,List.getElem?_take,List.getElem?_take,List.getElem?_take,if_pos hjk,if_pos hjk,if_pos hj]
     ·rw[if_neg hjk,if_neg hjk,List.getElem?_append (l₁:=vs),List.getElem?_append (l₁:=vs)]
      split
      ·rfl
      ·rw[List.getElem?_drop,List.getElem?_drop,List.getElem?_take,if_pos (by omega)]
    ·rw[if_neg hj,if_neg (by omega),List.getElem?_append (l₁:=vs),if_neg (by omega),List.getElem?_drop,List.getElem?_take,if_neg (by omega)]
end
section
variable {P:Program} {env:Env} {M:Mem} {bs:List Bx} {rs:List Rw} {d:Option Tmp} {ty:TypeId} {pos:String} {af:Array Edge} {gd:Option (Nat×Bool)}
theorem run_bytes_str {w:World} {src dst e:TypeId} {A:Option Addr} {c:Nat} {l:List UInt8} (hs:P.underlying src=some (.slice e)) (he:P.underlying e=some (.int .u8)) (hd:P.underlying dst=some .string)
  (hA:A=none->l=[]) (hc:∀ad,A=some ad->∀j v,(bytesV l)[j]?=some v->w.cell? (ad.add j)=some v):(convert src dst (.slice A l.length c)).run P w= .ok (.string (mkS l)) w:=by
 cases A with
 |none=>
  have:=hA rfl
  subst this
  rw[run_convert_bytes_string w src dst e none _ c hs he hd]
  rfl
 |some ad=>
  exact run_convert_bytes_back w src dst e ad c l hs he hd λj hj=>hc ad rfl j _ (by simp[bytesV,hj])
theorem Yl.bytesV {src dst e:TypeId} {x:Operand} {A:Option Addr} {k c:Nat} {l:List UInt8} (hk:known env x=true) (hx:evT env x= .slice A k c) (hs:P.underlying src=some (.slice e)) (he:P.underlying e=some (.int .u8)) (hd:P.underlying dst=some .string)
  (h:SlV M A k c 1 (bytesV l)) (hl:l.length=k):Yl P env M bs rs ⟨d,.convert src dst x,ty,pos,af,gd⟩ (.string (mkS l)):=by
 subst hl
 refine⟨by simp[okOp,notSel,Op.operands,hk],λw hc=>?_⟩
 rcases Nat.eq_zero_or_pos l.length with h0|h0
 ·have hl:l=[]:=List.eq_nil_of_length_eq_zero h0
  subst hl
  have:=run_bytes_str (P:=P) (w:=w) (A:=A) (c:=c) (l:=[]) hs he hd (λ_=>rfl) (λad _ j v hj=>by simp[Gx.bytesV]at hj)
  simp only[execOp,hx,Sem.run_bind,this,Result.andThen_ok];rfl
 ·obtain⟨b,o,rfl,hat⟩:=h.2.2.2 h0
  have:=run_bytes_str (P:=P) (w:=w) (A:=some ⟨b,o,none⟩) (c:=c) (l:=l) hs he hd (λh=>by cases h) (λad had j v hj=>by cases had;rw[add_lit];exact hc.on.cell (hat j v hj))
  simp only[execOp,hx,Sem.run_bind,this,Result.andThen_ok];rfl
theorem Yl.bytesR (i:Nat) {src dst e':TypeId} {x:Operand} {v:Value} {e k:Nat} {ow:Bool} {l:List UInt8} (hi:rs[i]?=some ⟨v,e,1,k,Gx.bytesV l,ow⟩) (hk:known env x=true) (hx:evT env x=v) (hs:P.underlying src=some (.slice e')) (he:P.underlying e'=some (.int .u8)) (hd:P.underlying dst=some .string):
  Yl P env M bs rs ⟨d,.convert src dst x,ty,pos,af,gd⟩ (.string (mkS l)):=by
 refine⟨by simp[okOp,notSel,Op.operands,hk],λw hc=>?_⟩
 obtain⟨base,g1⟩:=hc.rw _ (List.mem_of_getElem? hi)
 simp only at g1
 obtain⟨ad,cap,he',_,_,hf⟩:=ownsRow_form g1
 subst he'
 have hkl:l.length=k:=by have:=g1.1;simp[Gx.bytesV]at this;exact this
 subst hkl
 have:(convert src dst (.slice ad l.length cap)).run P w= .ok (.string (mkS l)) w:=by
  refine run_bytes_str hs he hd (λhn=>?_) (λa' ha j v hj=>?_)
  ·rcases hf with⟨_,h0,_⟩|⟨g,hg⟩
   ·exact List.eq_nil_of_length_eq_zero h0
   ·rw[hn]at hg;cases hg
  ·rcases hf with⟨hn,_,_⟩|⟨g,hg⟩
   ·rw[hn]at ha;cases ha
   ·rw[hg]at ha;cases ha
    subst hg
    exact g1.cells (g:=g) rfl j v hj
 simp only[execOp,hx,Sem.run_bind,this,Result.andThen_ok];rfl
end
section
variable {P:Program} {ops:Array Oper} {Q:Exit->Act->World->Prop} {n:Nat} {E:World} {bw:List Nat} {M:Mem} {w:World} {a:Act} {env:Env} {bs:List Bx} {rs:List Rw} {rest:List Oper}
end
end Go.Gx

namespace Go.Gx
open Go.RowKit Go.ChangeShapes
def HM (w:World):Mem:=λb=>w.heap[b]?
theorem HM.on (w:World):On (HM w) w:=λ_ _ h=>h
theorem HM.cell {w:World} {b i:Nat} {v:Value} (h:w.cell? ⟨b,i,none⟩=some v):(HM w).cell b i=some v:=by
 unfold World.cell? at h
 unfold Mem.cell HM
 simp only at h ⊢
 split at h
 ·rename_i hq
  rw[hq]
  simpa using h
 ·cases h
section
variable {H:Type} {enc:TypeId×Value->H} {P:Program} {w:World}
theorem trodAll_below (hl:laidOutB P=true) {W W':World} (hb:Below W.heap.size W W'):∀{ts:List TypeId} {vs:List Value} {ds:List (DataW H)} {ps:List MemPlace},(ts.all λt=>P.readableRec t&&decide (t<P.types.size))=true->
  DataW.TrodAll enc P W 0 (λ_=>true) true ts vs ds ps->DataW.TrodAll enc P W' 0 (λb=>decide (b<W.heap.size)) true ts vs ds ps
 |[],_,_,_,_,h=>by
  obtain⟨rfl,rfl,rfl⟩:=trodAll_nil h
  exact trodAll_mk0
 |t::ts,_,_,_,hr,h=>by
  simp only[List.all_cons,Bool.and_eq_true,decide_eq_true_eq]at hr
  obtain⟨v,vs,d,ds,p,q,rfl,rfl,rfl,h1,h2⟩:=trodAll_cons h
  have hlt:∀x∈p,x.block<W.heap.size:=by
   obtain⟨m,hm⟩:=h1
   exact DataW.trod_lt m _ _ _ hm
  exact trodAll_cons_mk (Below.trod hl hr.1.1 hr.1.2 h1 hb hlt) (trodAll_below hl hb (by simpa using hr.2) h2)
end
theorem flat_part {α:Type} {f:α->List Value} {sz:Nat}:∀(es:List α) (_:∀e∈es,(f e).length=sz) (i:Nat) (e:α),es[i]?=some e->(((es.map f).flatten).drop (i*sz)).take (f e).length=f e
 |[],_,i,e,h=>by simp at h
 |a::r,hf,0,e,h=>by
  simp only[List.getElem?_cons_zero,Option.some.injEq]at h;subst h
  simp
 |a::r,hf,i+1,e,h=>by
  simp only[List.getElem?_cons_succ]at h
  have ha:=hf a (by simp)
  have:=flat_part r (λe he=>hf e (by simp[he])) i e h
  simp only[List.map_cons,List.flatten_cons]
  rw[Nat.succ_mul,List.drop_append,List.drop_of_length_le (by omega),List.nil_append,ha,Nat.add_sub_cancel]
  exact this
theorem SlV.elem {α:Type} {f:α->List Value} {M:Mem} {A:Option Addr} {l c sz:Nat} {es:List α} (h:SlV M A l c sz ((es.map f).flatten)) (hl:es.length=l) (hf:∀e∈es,(f e).length=sz) {i:Nat} {e:α} (he:es[i]?=some e):
  ∃b o,A=some ⟨b,o,none⟩/\At M b (o+i*sz) (f e):=by
 have hi:i<es.length:=(List.getElem?_eq_some_iff.1 he).1
 obtain⟨b,o,ha,hat⟩:=h.2.2.2 (by omega)
 exact⟨b,o,ha,hat.part (i*sz) (f e) (flat_part es hf i e he)⟩
end Go.Gx

namespace Go.Gx
open Go.RowKit
def cl {α:Type} (f:α->List Value) (xs:List α):List Value:=(xs.map f).flatten
section
variable {α:Type} {f:α->List Value}
theorem cl_cons (x:α) (xs:List α):cl f (x::xs)=f x++cl f xs:=by simp[cl]
theorem cl_length {sz:Nat} (hf:∀x,(f x).length=sz):∀xs:List α,(cl f xs).length=xs.length*sz
 |[]=>by simp[cl]
 |x::r=>by rw[cl_cons,List.length_append,hf,cl_length hf r,List.length_cons,Nat.succ_mul];omega
theorem cl_put {sz:Nat} (hf:∀x,(f x).length=sz):∀{xs:List α} {i:Nat} (x:α),i<xs.length->putAt (cl f xs) (0+i*sz) (f x)=cl f (xs.set i x)
 |[],_,_,h=>by simp at h
 |y::r,0,x,_=>by
  have h1:List.drop sz (f y)=[]:=List.drop_eq_nil_of_le (by rw[hf];omega)
  simp only[putAt,cl_cons,List.set_cons_zero,hf,Nat.zero_mul,Nat.add_zero,List.take_zero,List.nil_append,Nat.zero_add,List.drop_append,Nat.sub_self,List.drop_zero,h1]
 |y::r,i+1,x,h=>by
  have ih:=cl_put hf (xs:=r) (i:=i) x (by simpa using h)
  rw[List.set_cons_succ,cl_cons y (r.set i x),<-ih,cl_cons]
  have h1:0+(i+1)*sz=(f y).length+(0+i*sz):=by rw[hf,Nat.succ_mul];omega
  unfold putAt
  rw[h1,List.take_length_add_append,Nat.add_assoc,List.drop_length_add_append]
  simp only[List.append_assoc]
theorem SlV.at {M:Mem} {A:Option Addr} {l c sz:Nat} {xs:List α} (h:SlV M A l c sz (cl f xs)) (hf:∀x,(f x).length=sz) (hl:xs.length=l) {i:Nat} {x:α} (hx:xs[i]?=some x):∃b o,A=some ⟨b,o,none⟩/\At M b (o+i*sz) (f x):=
 SlV.elem h hl (λx _=>hf x) hx
theorem SlV.len {M:Mem} {A:Option Addr} {l c sz:Nat} {xs:List α} (h:SlV M A l c sz (cl f xs)) (hf:∀x,(f x).length=sz) (h0:0<sz):xs.length=l:=by
 have:=h.1
 rw[cl_length hf]at this
 exact Nat.eq_of_mul_eq_mul_right h0 this
theorem SlV.rest {M:Mem} {A:Option Addr} {l c sz:Nat} {xs:List Value} (h:SlV M A l c sz xs) (k:Nat) (hk:k<=l):SlV M (slA A k c sz) (l-k) (c-k) sz (xs.drop (k*sz)):=by
 obtain⟨h1,h2,h3,h4⟩:=h
 refine⟨by rw[List.length_drop,h1,Nat.sub_mul],by omega,by omega,λh0=>?_⟩
 obtain⟨b,o,rfl,ha⟩:=h4 (by omega)
 refine⟨b,o+k*sz,?_,?_⟩
 ·unfold slA
  rw[if_neg (by omega)]
  simp[add_lit]
 ·intro j v hj
  rw[List.getElem?_drop]at hj
  have:=ha _ _ hj
  rw[<-Nat.add_assoc]at this
  exact this
theorem SlV.first {M:Mem} {A:Option Addr} {l c sz:Nat} {xs:List Value} (h:SlV M A l c sz xs) (k:Nat) (hk:k<=l):SlV M A k c sz (xs.take (k*sz)):=by
 obtain⟨h1,h2,h3,h4⟩:=h
 have hle:k*sz<=l*sz:=Nat.mul_le_mul_right _ hk
 refine⟨by rw[List.length_take,h1];omega,by omega,by omega,λh0=>?_⟩
 obtain⟨b,o,rfl,ha⟩:=h4 (by omega)
 refine⟨b,o,rfl,λj v hj=>ha j v ?_⟩
 rw[List.getElem?_take]at hj
 split at hj
 ·exact hj
 ·cases hj
end
section
variable {α β:Type} {R:α->β->Prop}
end
theorem getI {α:Type} {l:List α} {i:Int} (h0:0<=i) (h1:i<(l.length:Int)):∃x,l[i.toNat]?=some x:=⟨l[i.toNat]'(by omega),List.getElem?_eq_getElem _⟩
theorem drop_get {α:Type} {l:List α} {i:Nat} {x:α} (h:l[i]?=some x):l.drop i=x::l.drop (i+1):=by
 obtain⟨hl,hx⟩:=List.getElem?_eq_some_iff.1 h
 rw[List.drop_eq_getElem_cons hl,hx]
abbrev sC (s:List UInt8):List Value:=[.string (mkS s)]
section
variable {P:Program} {ops:Array Oper} {Q:Exit->Act->World->Prop} {n:Nat} {E:World} {bw:List Nat} {M:Mem} {w:World} {a:Act} {env:Env} {bs:List Bx} {rs:List Rw} {rest:List Oper} {o:Oper}
theorem sP (v:Value) {d:Nat} (hs:Sx n E bw M w a env bs rs) (h:∀a',Sx n E bw M w a' ((d,v)::env) bs rs->wpList P ops Q rest a' w)
  (hg:o.guard=none:=by rfl) (hd:o.dst=some d:=by rfl) (hdn:d<n:=by decide) (hk:okOp env o=true:=by rfl) (hr:∀w,(execOp (evT env) o).run P w= .ok (.value v) w:=by intro _;kernel_rfl):wpList P ops Q (o::rest) a w:=
 stepY v hs hg hd hdn (Yl.pure hk hr) h
theorem sY (v:Value) {d:Nat} (hs:Sx n E bw M w a env bs rs) (hy:Yl P env M bs rs o v) (h:∀a',Sx n E bw M w a' ((d,v)::env) bs rs->wpList P ops Q rest a' w)
  (hg:o.guard=none:=by rfl) (hd:o.dst=some d:=by rfl) (hdn:d<n:=by decide):wpList P ops Q (o::rest) a w:=
 stepY v hs hg hd hdn hy h
theorem sNo {j t d:Nat} {b c:Bool} (hs:Sx n E bw M w a env bs rs) (h:∀a',Sx n E bw M w a' ((d,undef)::env) bs rs->wpList P ops Q rest a' w) (hg:o.guard=some (j,b):=by rfl) (ht:(ops[j]?).bind (·.dst)=some t:=by rfl) (hl:lk env t=some (.bool c):=by rfl) (hne:(c==b)=false:=by rfl)
  (hd:o.dst=some d:=by rfl) (hdn:d<n:=by decide):wpList P ops Q (o::rest) a w:=step_no hs hg ht hl hne hd hdn h
theorem sNu {j t d:Nat} {b:Bool} (hs:Sx n E bw M w a env bs rs) (h:∀a',Sx n E bw M w a' ((d,undef)::env) bs rs->wpList P ops Q rest a' w) (hg:o.guard=some (j,b):=by rfl) (ht:(ops[j]?).bind (·.dst)=some t:=by rfl) (hl:lk env t=some undef:=by rfl)
  (hd:o.dst=some d:=by rfl) (hdn:d<n:=by decide):wpList P ops Q (o::rest) a w:=step_nou hs hg ht hl hd hdn h
theorem sYe {j t:Nat} {b:Bool} (hs:Sx n E bw M w a env bs rs) (h:wpList P ops Q ({o with guard:=none}::rest) a w) (hg:o.guard=some (j,b):=by rfl) (ht:(ops[j]?).bind (·.dst)=some t:=by rfl) (hl:lk env t=some (.bool b):=by rfl):wpList P ops Q (o::rest) a w:=step_yes hs hg ht hl h
end
section
variable {P:Program} {ops:Array Oper} {Q:Exit->Act->World->Prop} {M0:Mem} {bs0:List Bx} {rs0:List Rw} {keep:List Bool} {n:Nat} {E:World} {bw:List Nat} {M:Mem} {w:World} {a:Act} {env:Env} {bs:List Bx} {rs:List Rw} {o:Oper} {fuel:Nat} {listed:Array Bool}
theorem dP (v:Value) (i:Nat) (A:List Nat) {d:Nat} (hs:Sx n E bw M w a env bs rs) (hQ:QZ Q) (hw:Region.wanted o (yielded ops a.tmps)=true) (h:∀a',Sx n E bw M w a' ((d,v)::env) bs rs->WpD P ops Q (Cx M0 bs0 rs0) keep fuel (listed.setIfInBounds i true) a' w)
  (ho:ops[i]?=some o:=by rfl) (hd:o.dst=some d:=by rfl) (hdn:d<n:=by decide) (hsel:Region.noSelect ops=true:=by kernel_rfl) (hr:(Region.ready .any ops listed).contains i=true:=by kernel_rfl) (hf:freeB ops keep listed i A true=true:=by kernel_rfl)
  (hk:okOp env o=true:=by rfl) (hy:∀w,(execOp (evT env) o).run P w= .ok (.value v) w:=by intro _;kernel_rfl):WpD P ops Q (Cx M0 bs0 rs0) keep (fuel+1) listed a w:=
 stepDP v i A hs hQ ho hw hd hdn hsel hr hf (Yl.pure hk hy) h
theorem dN (i:Nat) (A:List Nat) {d:Nat} (hs:Sx n E bw M w a env bs rs) (hQ:QZ Q) (hw:Region.wanted o (yielded ops a.tmps)=false) (h:∀a',Sx n E bw M w a' ((d,undef)::env) bs rs->WpD P ops Q (Cx M0 bs0 rs0) keep fuel (listed.setIfInBounds i true) a' w)
  (ho:ops[i]?=some o:=by rfl) (hd:o.dst=some d:=by rfl) (hdn:d<n:=by decide) (hsel:Region.noSelect ops=true:=by kernel_rfl) (hr:(Region.ready .any ops listed).contains i=true:=by kernel_rfl) (hf:freeB ops keep listed i A true=true:=by kernel_rfl):WpD P ops Q (Cx M0 bs0 rs0) keep (fuel+1) listed a w:=
 stepDN i A hs hQ ho hw hd hdn hsel hr hf h
end
section
variable {P:Program} {ops:Array Oper} {Q:Exit->Act->World->Prop} {n:Nat} {E:World} {bw:List Nat} {M:Mem} {w:World} {a:Act} {env:Env} {bs:List Bx} {rs:List Rw} {rest:List Oper}
abbrev pt (b k:Nat):Value:=.pointer (some ⟨b,k,none⟩)
abbrev iv (x:Int):Value:=.int .i64 x
theorem Yl.lB (vs:List Value) (g:Bool) (i:Nat) {d:Option Tmp} {t ty:TypeId} {x:Operand} {pos:String} {af:Array Edge} {gd:Option (Nat×Bool)} {b k:Nat} {cs:List Value} {bt:TypeId} (hi:bs[i]?=some ⟨b,bt,cs⟩:=by rfl) (hk:known env x=true:=by rfl) (hx:evT env x= .pointer (some ⟨b,k,none⟩):=by rfl)
  (ht:tyOk P t g vs.length=true:=by kernel_rfl) (hvs:(cs.drop k).take vs.length=vs:=by rfl):Yl P env M bs rs ⟨d,.load t x,ty,pos,af,gd⟩ (ofCells g vs):=Yl.loadB g i hi hk hx ht hvs
theorem stB (i:Nat) (vs:List Value) (bs':List Bx) {t ty:TypeId} {p x:Operand} {pos:String} {af:Array Edge} {b k:Nat} {bt:TypeId} {cs:List Value} {v:Value} (hs:Sx n E bw M w a env bs rs)
  (h:∀a' w',Sx n E bw M w' a' env bs' rs->wpList P ops Q rest a' w') (hi:bs[i]?=some ⟨b,bt,cs⟩:=by rfl) (hkp:known env p=true:=by rfl) (hkx:known env x=true:=by rfl)
  (hp:evT env p= .pointer (some ⟨b,k,none⟩):=by rfl) (hx:evT env x=v:=by rfl) (hc:v.cells=vs.toArray:=by rfl) (hn:(P.info? t).map (·.size)=some vs.length:=by kernel_rfl) (hfit:k+vs.length<=cs.length:=by exact Nat.le_of_ble_eq_true rfl) (h1:vs.all (·.oneCell')=true:=by rfl)
  (hb:bs.set i ⟨b,bt,putAt cs k vs⟩=bs':=by rfl):wpList P ops Q (⟨none,.store t p x,ty,pos,af,none⟩::rest) a w:=
 stepStoreB i hs hi hkp hkx hp hx hc hn hfit h1 λa' w' hs'=>h a' w' (hs'.chbx hb)
theorem lvE (K:Value->Prop) {fn:Func} {M0:Mem} {v:Value} (hs:Sx n E [] M w a env bs rs) (hr:(results fn a.tmps).run P w= .ok v w) (hM:∀b o,M b=some o->M0 b=some o\/E.heap.size<=b) (hK:K v):
  a.defers=[]/\∃v,(results fn a.tmps).run P w= .ok v w/\Below E.heap.size E w/\K v:=leaveE (K:=λv _=>K v) hs hr hM λ_ _=>hK
end
theorem bsS {n:Nat} {E:World} {bw:List Nat} {M:Mem} {w:World} {a:Act} {env:Env} {bs:List Bx} {rs:List Rw} {d:Nat} {b:Bool} {p A B G:Prop} (hp:b=true↔p) (hs:Sx n E bw M w a ((d,.bool b)::env) bs rs) (hS:(p->A)/\(¬p->B)) (h1:Sx n E bw M w a ((d,.bool true)::env) bs rs->A->G) (h2:Sx n E bw M w a ((d,.bool false)::env) bs rs->B->G):G:=
 bsplit b hp (λhb hc=>h1 (hs.bt hb) (hS.1 hc)) (λhb hc=>h2 (hs.bf hb) (hS.2 hc))
theorem Wp.cS {P:Program} {N:Act->World->Prop} {X:List (Nat×(Act->World->Prop))} {R:Act->World->Prop} {Z:List PanicEntry->Act->World->Prop} {a:Act} {w:World} {n:Nat} {E:World} {bw:List Nat} {M:Mem} {env:Env} {bs:List Bx} {rs:List Rw} {c:Operand} {x y:Code} {b:Bool} {p A B:Prop} (hs:Sx n E bw M w a env bs rs)
  (hp:b=true↔p) (hS:(p->A)/\(¬p->B)) (h1:A->Wp P x N X R Z a w) (h2:B->Wp P y N X R Z a w) (hk:known env c=true:=by rfl) (hc:evT env c= .bool b:=by rfl):Wp P (.cond c x y) N X R Z a w:=
 Wp.cond hs hk hc hp (λhc=>h1 (hS.1 hc)) (λhc=>h2 (hS.2 hc))
section
variable {P:Program} {ops:Array Oper} {Q:Exit->Act->World->Prop} {M0:Mem} {bs0:List Bx} {rs0:List Rw} {keep:List Bool} {w:World} {a:Act} {o:Oper} {fuel:Nat} {listed:Array Bool}
theorem sE (i:Nat)
  (h:wpList P #[] (λe a' w'=>match e with
   | .normal=>(keep.getD i false=true->Cx M0 bs0 rs0 w->Cx M0 bs0 rs0 w')/\WpD P ops Q (Cx M0 bs0 rs0) keep fuel (listed.setIfInBounds i true) a' w'
   | .panic c=>Q (.panic c) a' w'
   |_=>False) [{o with guard:=none}] a w) (ho:ops[i]?=some o:=by rfl) (hw:Region.wanted o (yielded ops a.tmps)=true:=by exact wanted_none rfl) (hr:Region.ready .any ops listed=[i]:=by kernel_rfl):WpD P ops Q (Cx M0 bs0 rs0) keep (fuel+1) listed a w:=
 stepDE i ho hw hr #[] h
end
section
variable {P:Program} {ops:Array Oper} {Q:Exit->Act->World->Prop} {n:Nat} {E:World} {bw:List Nat} {M:Mem} {w:World} {a:Act} {env:Env} {bs:List Bx} {rs:List Rw} {rest:List Oper}
theorem Yl.wr {o:Oper} {z:Int} (hI:InI z) (hk:okOp env o=true:=by rfl) (hr:∀w,(execOp (evT env) o).run P w= .ok (.value (Value.int .i64 (IntKind.wrap .i64 z))) w:=by intro _;kernel_rfl):Yl P env M bs rs o (.int .i64 z):=
 Yl.eq (Yl.pure hk hr) (congrArg (Value.int .i64) (wrap_in hI))
theorem Yl.lV (vs:List Value) (g:Bool) {d:Option Tmp} {t ty:TypeId} {x:Operand} {pos:String} {af:Array Edge} {gd:Option (Nat×Bool)} {b k:Nat} (h:At M b k vs) (hk:known env x=true:=by rfl) (hx:evT env x= .pointer (some ⟨b,k,none⟩):=by rfl)
  (ht:tyOk P t g vs.length=true:=by kernel_rfl):Yl P env M bs rs ⟨d,.load t x,ty,pos,af,gd⟩ (ofCells g vs):=Yl.loadV g hk hx ht h
theorem Yl.iS (e sz:Nat) {d:Option Tmp} {t ty:TypeId} {x i:Operand} {pos:String} {af:Array Edge} {gd:Option (Nat×Bool)} {b k l c:Nat} {ik:IntKind} {n:Int} {ad:Option Addr} (had:ad=some ⟨b,k,none⟩) (h0:0<=n) (hl:n<l) (hkx:known env x=true:=by rfl) (hki:known env i=true:=by rfl)
  (hx:evT env x= .slice ad l c:=by rfl) (hi:evT env i= .int ik n:=by rfl) (hu:P.underlying t=some (.slice e):=by kernel_rfl) (hn:(P.info? e).map (·.size)=some sz:=by kernel_rfl):
  Yl P env M bs rs ⟨d,.indexAddr t x i,ty,pos,af,gd⟩ (.pointer (some ⟨b,k+n.toNat*sz,none⟩)):=Yl.indexS hkx hki hx hi hu hn had h0 hl
theorem cP (args:List Value) {d f:Nat} {ty:TypeId} {c:Call} {pos:String} {af:Array Edge} {fn:Func} {K:Value->Prop} {first caps:Array Value} (hs:Sx n E bw M w a env bs rs) (hf:P.funcs[f]?=some fn) (hc:CallE P f args.toArray M λv _=>K v)
  (h:∀a' w' v,K v->Sx n E bw M w' a' ((d,v)::env) bs rs->wpList P ops Q rest a' w') (hk:okOp env ⟨some d,.call c,ty,pos,af,none⟩=true:=by rfl) (hcal:∃x,c.callee= .value x/\evT env x= .func (.func f) first caps:=by exact⟨_,rfl,rfl⟩) (hargs:first.toList++c.args.toList.map (evT env)++caps.toList=args:=by rfl)
  (hbody:fn.body.isNone=false:=by rfl) (hname:(fn.name== "runtime.NumGoroutine")=false:=by kernel_rfl) (hdn:d<n:=by decide):wpList P ops Q (⟨some d,.call c,ty,pos,af,none⟩::rest) a w:=stepCallP args hs hk hcal hargs hf hbody hname hdn hc h
theorem cE (args:List Value) {d f:Nat} {ty:TypeId} {c:Call} {pos:String} {af:Array Edge} {fn:Func} {K:Value->Mem->Prop} {first caps:Array Value} (hs:Sx n E bw M w a env bs rs) (hf:P.funcs[f]?=some fn) (hc:CallE P f args.toArray M K)
  (h:∀a' w' M' v,M.le M'->(∀b o,M' b=some o->M b=some o\/E.heap.size<=b)->K v M'->Sx n E bw M' w' a' ((d,v)::env) bs rs->wpList P ops Q rest a' w') (hk:okOp env ⟨some d,.call c,ty,pos,af,none⟩=true:=by rfl) (hcal:∃x,c.callee= .value x/\evT env x= .func (.func f) first caps:=by exact⟨_,rfl,rfl⟩)
  (hargs:first.toList++c.args.toList.map (evT env)++caps.toList=args:=by rfl) (hbody:fn.body.isNone=false:=by rfl) (hname:(fn.name== "runtime.NumGoroutine")=false:=by kernel_rfl) (hdn:d<n:=by decide):wpList P ops Q (⟨some d,.call c,ty,pos,af,none⟩::rest) a w:=stepCallE args hs hk hcal hargs hf hbody hname hdn hc h
end
section
variable {P:Program} {ops ops1:Array Oper} {Q:Exit->Act->World->Prop} {M0:Mem} {bs0:List Bx} {rs0:List Rw} {keep:List Bool} {n j:Nat} {E:World} {bw:List Nat} {M:Mem} {w:World} {a:Act} {env:Env} {bs:List Bx} {rs:List Rw} {o:Oper} {fuel:Nat} {listed:Array Bool}
theorem wN (h:WpD P ops Q (Cx M0 bs0 rs0) keep fuel listed a w):wpList P ops1 (λe a' w'=>match e with
   | .normal=>(keep.getD j false=true->Cx M0 bs0 rs0 w->Cx M0 bs0 rs0 w')/\WpD P ops Q (Cx M0 bs0 rs0) keep fuel listed a' w'
   | .panic c=>Q (.panic c) a' w'
   |_=>False) [] a w:=wpList_nil ⟨λ_ h=>h,h⟩
theorem wF {w0:World} (h:WpD P ops Q (Cx M0 bs0 rs0) keep fuel listed a w) (hk:keep.getD j false=false:=by decide):wpList P ops1 (λe a' w'=>match e with
   | .normal=>(keep.getD j false=true->Cx M0 bs0 rs0 w0->Cx M0 bs0 rs0 w')/\WpD P ops Q (Cx M0 bs0 rs0) keep fuel listed a' w'
   | .panic c=>Q (.panic c) a' w'
   |_=>False) [] a w:=wpList_nil ⟨λh=>(by rw[hk]at h;cases h),h⟩
theorem nE (i:Nat) (h:wpList P #[] (λe a' w'=>match e with
   | .normal=>(keep.getD i false=true->Cx M0 bs0 rs0 w->Cx M0 bs0 rs0 w')/\WpD P ops Q (Cx M0 bs0 rs0) keep fuel (listed.setIfInBounds i true) a' w'
   | .panic c=>Q (.panic c) a' w'
   |_=>False) [{o with guard:=none}] a w) (ho:ops[i]?=some o:=by rfl) (hw:Region.wanted o (yielded ops a.tmps)=true:=by exact wanted_none rfl) (hr:Region.ready .any ops listed=[i]:=by kernel_rfl):wpList P ops1 (λe a' w'=>match e with
   | .normal=>(keep.getD j false=true->Cx M0 bs0 rs0 w->Cx M0 bs0 rs0 w')/\WpD P ops Q (Cx M0 bs0 rs0) keep (fuel+1) listed a' w'
   | .panic c=>Q (.panic c) a' w'
   |_=>False) [] a w:=wN (sE i h ho hw hr)
theorem fE {w0:World} (i:Nat) (h:wpList P #[] (λe a' w'=>match e with
   | .normal=>(keep.getD i false=true->Cx M0 bs0 rs0 w->Cx M0 bs0 rs0 w')/\WpD P ops Q (Cx M0 bs0 rs0) keep fuel (listed.setIfInBounds i true) a' w'
   | .panic c=>Q (.panic c) a' w'
   |_=>False) [{o with guard:=none}] a w) (hk:keep.getD j false=false:=by decide) (ho:ops[i]?=some o:=by rfl) (hw:Region.wanted o (yielded ops a.tmps)=true:=by exact wanted_none rfl) (hr:Region.ready .any ops listed=[i]:=by kernel_rfl):wpList P ops1 (λe a' w'=>match e with
   | .normal=>(keep.getD j false=true->Cx M0 bs0 rs0 w0->Cx M0 bs0 rs0 w')/\WpD P ops Q (Cx M0 bs0 rs0) keep (fuel+1) listed a' w'
   | .panic c=>Q (.panic c) a' w'
   |_=>False) [] a w:=wF (sE i h ho hw hr) hk
theorem sEy {i j t:Nat} {b:Bool} (hs:Sx n E bw M w a env bs rs) (h:wpList P #[] (λe a' w'=>match e with
   | .normal=>(keep.getD i false=true->Cx M0 bs0 rs0 w->Cx M0 bs0 rs0 w')/\WpD P ops Q (Cx M0 bs0 rs0) keep fuel (listed.setIfInBounds i true) a' w'
   | .panic c=>Q (.panic c) a' w'
   |_=>False) [{o with guard:=none}] a w) (hr:Region.ready .any ops listed=[i]:=by kernel_rfl) (ho:ops[i]?=some o:=by rfl) (hg:o.guard=some (j,b):=by rfl) (ht:(ops[j]?).bind (·.dst)=some t:=by rfl) (hl:lk env t=some (.bool b):=by rfl):WpD P ops Q (Cx M0 bs0 rs0) keep (fuel+1) listed a w:=
 stepDE i ho (wanted_yes hs hg ht hl) hr #[] h
theorem dD (h:Q .normal a w) (hr:Region.ready .any ops listed=[]:=by kernel_rfl):WpD P ops Q (Cx M0 bs0 rs0) keep fuel listed a w:=WpD.done hr h fuel
theorem dFy (v:Value) (i:Nat) (A:List Nat) {d j t:Nat} {b:Bool} (hs:Sx n E bw M w a env bs rs) (ho:ops[i]?=some o) (hy:Yl P env (λ_=>Option.none) [] [] o v) (h:∀a',Sx n E bw M w a' ((d,v)::env) bs rs->WpD P ops Q (Cx M0 bs0 rs0) keep fuel (listed.setIfInBounds i true) a' w)
  (hQ:QZ Q:=by exact QZ.no) (hg:o.guard=some (j,b):=by rfl) (ht:(ops[j]?).bind (·.dst)=some t:=by rfl) (hl:lk env t=some (.bool b):=by rfl) (hd:o.dst=some d:=by rfl) (hdn:d<n:=by decide) (hsel:Region.noSelect ops=true:=by kernel_rfl) (hr:(Region.ready .any ops listed).contains i=true:=by kernel_rfl) (hf:freeB ops keep listed i A true=true:=by kernel_rfl):WpD P ops Q (Cx M0 bs0 rs0) keep (fuel+1) listed a w:=
 stepDP v i A hs hQ ho (wanted_yes hs hg ht hl) hd hdn hsel hr hf hy h
theorem dA (v:Value) (i:Nat) (A:List Nat) {d:Nat} (hs:Sx n E bw M w a env bs rs) (h:∀a',Sx n E bw M w a' ((d,v)::env) bs rs->WpD P ops Q (Cx M0 bs0 rs0) keep fuel (listed.setIfInBounds i true) a' w)
  (hQ:QZ Q:=by exact QZ.no) (ho:ops[i]?=some o:=by rfl) (hg:o.guard=none:=by rfl) (hd:o.dst=some d:=by rfl) (hdn:d<n:=by decide) (hsel:Region.noSelect ops=true:=by kernel_rfl) (hr:(Region.ready .any ops listed).contains i=true:=by kernel_rfl) (hf:freeB ops keep listed i A true=true:=by kernel_rfl)
  (hk:okOp env o=true:=by rfl) (hy:∀w,(execOp (evT env) o).run P w= .ok (.value v) w:=by intro _;kernel_rfl):WpD P ops Q (Cx M0 bs0 rs0) keep (fuel+1) listed a w:=
 stepDP v i A hs hQ ho (wanted_none hg) hd hdn hsel hr hf (Yl.pure hk hy) h
theorem dF (v:Value) (i:Nat) (A:List Nat) {d:Nat} (hs:Sx n E bw M w a env bs rs) (ho:ops[i]?=some o) (hy:Yl P env (λ_=>Option.none) [] [] o v) (h:∀a',Sx n E bw M w a' ((d,v)::env) bs rs->WpD P ops Q (Cx M0 bs0 rs0) keep fuel (listed.setIfInBounds i true) a' w)
  (hQ:QZ Q:=by exact QZ.no) (hg:o.guard=none:=by rfl) (hd:o.dst=some d:=by rfl) (hdn:d<n:=by decide) (hsel:Region.noSelect ops=true:=by kernel_rfl) (hr:(Region.ready .any ops listed).contains i=true:=by kernel_rfl) (hf:freeB ops keep listed i A true=true:=by kernel_rfl):WpD P ops Q (Cx M0 bs0 rs0) keep (fuel+1) listed a w:=
 stepDP v i A hs hQ ho (wanted_none hg) hd hdn hsel hr hf hy h
theorem dC (v:Value) (i:Nat) (A:List Nat) {d:Nat} (hs:Sx n E bw M w a env bs rs) (hC:Cx M0 bs0 rs0 w) (ho:ops[i]?=some o) (hy:Yl P env M0 bs0 rs0 o v) (h:∀a',Sx n E bw M w a' ((d,v)::env) bs rs->WpD P ops Q (Cx M0 bs0 rs0) keep fuel (listed.setIfInBounds i true) a' w)
  (hQ:QZ Q:=by exact QZ.no) (hg:o.guard=none:=by rfl) (hd:o.dst=some d:=by rfl) (hdn:d<n:=by decide) (hsel:Region.noSelect ops=true:=by kernel_rfl) (hr:(Region.ready .any ops listed).contains i=true:=by kernel_rfl) (hf:freeB ops keep listed i A false=true:=by kernel_rfl):WpD P ops Q (Cx M0 bs0 rs0) keep (fuel+1) listed a w:=
 stepDY v i A hs hC hQ ho (wanted_none hg) hd hdn hsel hr hf hy h
end
end Go.Gx

namespace Go.Gx
open Go.RowKit
def idxB (s:List UInt8) (c:Int):Int:=match s.findIdx? (·==c.toNat.toUInt8)with
 |some i=>i
 |none=> -1
theorem find_same {p q:Nat->Bool}:∀{l:List Nat},(∀i∈l,p i=q i)->l.find? p=l.find? q
 |[],_=>rfl
 |a::r,h=>by rw[List.find?_cons,List.find?_cons,h a (by simp),find_same λi hi=>h i (by simp[hi])]
theorem find_range (l:List UInt8) (c:UInt8):(List.range l.length).find? (λi=>l.getD i 0==c)=l.findIdx? (·==c):=by
 cases h:l.findIdx? (·==c)with
 |none=>
  rw[List.findIdx?_eq_none_iff]at h
  rw[List.find?_eq_none]
  intro i hi
  have hl:=List.mem_range.1 hi
  have:=h l[i] (List.getElem_mem hl)
  simpa[List.getD,List.getElem?_eq_getElem hl]using this
 |some i=>
  rw[List.findIdx?_eq_some_iff_getElem]at h
  obtain⟨hl,hi,hlt⟩:=h
  rw[List.find?_range_eq_some]
  refine⟨by simpa[List.getD,List.getElem?_eq_getElem hl]using hi,List.mem_range.2 hl,λj hj=>?_⟩
  have:=hlt j hj
  simpa[List.getD,List.getElem?_eq_getElem (Nat.lt_trans hj hl)]using this
theorem firstIdx_is (l:List UInt8) (c:Int):firstIdx (mkS l) c.toNat.toUInt8=idxB l c:=by
 unfold firstIdx idxB
 have e:(List.range (mkS l).size).find? (λi=>(mkS l)[i]! ==c.toNat.toUInt8)=(List.range l.length).find? (λi=>l.getD i 0==c.toNat.toUInt8):=by
  have hsz:(mkS l).size=l.length:=rfl
  rw[hsz]
  refine find_same λi hi=>?_
  have hl:=List.mem_range.1 hi
  have h1:(mkS l)[i]! =l[i]:=getElem!_pos (mkS l) i hl
  rw[h1]
  simp[List.getD,List.getElem?_eq_getElem hl]
 rw[e,find_range]
 cases l.findIdx? (·==c.toNat.toUInt8)<;>rfl
theorem idxB_cases (s:List UInt8) (c:UInt8):(idxB s c.toNat= -1/\∀(i:Nat) x,s[i]?=some x->x≠c)\/∃i:Nat,idxB s c.toNat=i/\s[i]?=some c/\∀(j:Nat) x,j<i->s[j]?=some x->x≠c:=by
 have hc:(c.toNat:Int).toNat.toUInt8=c:=by simp
 unfold idxB
 rw[hc]
 cases h:s.findIdx? (·==c)with
 |none=>
  left
  rw[List.findIdx?_eq_none_iff]at h
  refine⟨rfl,λi x hx=>?_⟩
  have:=h x (List.mem_of_getElem? hx)
  simpa using this
 |some i=>
  right
  rw[List.findIdx?_eq_some_iff_getElem]at h
  obtain⟨hl,hi,hlt⟩:=h
  refine⟨i,rfl,by rw[List.getElem?_eq_getElem hl];simpa using hi,λj x hj hx=>?_⟩
  have:=hlt j hj
  obtain⟨_,rfl⟩:=List.getElem?_eq_some_iff.1 hx
  simpa using this
section
variable {P:Program} {env:Env} {M:Mem} {bs:List Bx} {rs:List Rw} {d:Option Tmp} {ty:TypeId} {pos:String} {af:Array Edge} {gd:Option (Nat×Bool)}
theorem Yl.ext {f:Nat} {c:Call} {fn:Func} {e:Array Value->Sem Value} {v:Value} (args:List Value) (hk:okOp env ⟨d,.call c,ty,pos,af,gd⟩=true) (hcal:∃x,c.callee= .value x/\evT env x= .func (.func f) #[] #[]) (hargs:c.args.toList.map (evT env)=args)
  (hf:P.funcs[f]?=some fn) (hbody:fn.body.isNone=true) (hname:(fn.name== "runtime.NumGoroutine")=false) (hn:(Extern.findNext fn).isNone=true) (he:Extern.find fn=some e) (hr:∀w,(e args.toArray).run P w= .ok v w):Yl P env M bs rs ⟨d,.call c,ty,pos,af,gd⟩ v:=by
 refine⟨hk,λw _=>?_⟩
 obtain⟨x,hcal,hx⟩:=hcal
 have ha:c.args.map (evT env)=args.toArray:=by rw[<-hargs];apply Array.ext';simp
 have hname':¬fn.name= "runtime.NumGoroutine":=beq_eq_false_iff_ne.1 hname
 have hbody':fn.body=none:=by simpa using hbody
 have hn':Extern.findNext fn=none:=by simpa using hn
 simp[execOp,resolve,hcal,hx,Deferred.ofValue,invoke,callFunc,hf,hbody',hname',hn',he,ha,hr]
theorem Yl.idxByte {f:Nat} {c:Call} {fn:Func} {l:List UInt8} {z:Int} (hk:okOp env ⟨d,.call c,ty,pos,af,gd⟩=true) (hcal:∃x,c.callee= .value x/\evT env x= .func (.func f) #[] #[]) (hargs:c.args.toList.map (evT env)=[.string (mkS l),.int .u8 z])
  (hf:P.funcs[f]?=some fn) (hbody:fn.body.isNone=true) (hname:(fn.name== "runtime.NumGoroutine")=false) (hn:(Extern.findNext fn).isNone=true) (he:Extern.find fn=some Extern.BytealgIndexByte.indexByte):Yl P env M bs rs ⟨d,.call c,ty,pos,af,gd⟩ (.int .i64 (idxB l z)):=
 Yl.ext _ hk hcal hargs hf hbody hname hn he λw=>by rw[<-firstIdx_is];exact run_indexByte_string _ _ _
end
end Go.Gx

namespace Go.Gx
open Go.RowKit
section
variable {P:Program} {ops:Array Oper} {Q:Exit->Act->World->Prop} {n:Nat} {E:World} {bw:List Nat} {M:Mem} {w:World} {a:Act} {env:Env} {bs:List Bx} {rs:List Rw} {rest:List Oper}
theorem On.hm (h:On M w):M.le (HM w):=λb o hb=>h b o hb
end
end Go.Gx

namespace Go.Gx
open Go.RowKit Go.ChangeShapes
mutual
def dBulk {H:Type}:DataW H->Nat
 | .lit (.string bytes)=>bytes.length+1
 | .lit _=>1
 | .nil=>1
 | .ptr d=>dBulk d+1
 | .slice elems spare=>dBulks elems+dBulks spare+1
 | .agg parts=>dBulks parts+1
 | .iface _ d=>dBulk d+1
 | .map entries=>dBulkEs entries+1
 | .held _=>1
def dBulks {H:Type}:List (DataW H)->Nat
 |[]=>0
 |d::r=>dBulk d+dBulks r
def dBulkEs {H:Type}:List (Lit×DataW H)->Nat
 |[]=>0
 |x::r=>dBulkE x+dBulkEs r
def dBulkE {H:Type}:Lit×DataW H->Nat
 |(.string bytes,d)=>bytes.length+dBulk d+1
 |(_,d)=>dBulk d+1
end
section
variable {H:Type} {enc:TypeId×Value->H} {P:Program} {w:World}
theorem argStrB {r:Reach} {b0:Nat} {t:TypeId} {v:Value} {d:DataW H} {ps:List MemPlace} (ht:P.underlying t=some .string) (hval:Value.okWide P w r b0 t v) (hd:DataW.Trod enc P w 0 (λ_=>true) true t v d ps):
  ∃l,v= .string (mkS l)/\d= .lit (.string l)/\l.length+1=dBulk d:=by
 obtain⟨s,rfl⟩:=WideShapes.okWide_string ht hval
 obtain⟨fuel,hf⟩:=hd
 obtain⟨s',h,hx,hs⟩:=DataW.trod_string ht hf
 simp[Value.cells]at h
 subst h
 simp only[Prod.mk.injEq]at hx
 obtain⟨rfl,_⟩:=hx
 exact⟨s.data.toList,by rw[<-mkS_eta],rfl,by simp[dBulk]⟩
end
end Go.Gx

namespace Go.Gx
open Go.RowKit
def Mem.put (M:Mem) (b o:Nat) (vs:List Value):Mem:=λx=>if x=b then(match M b with
 |some (.cells c t f)=>some (.cells (putAt c.toList o vs).toArray t f)
 |r=>r) else M x
def Mem.add (M:Mem) (b:Nat) (o:Obj):Mem:=λx=>if x=b then some o else M x
section
variable {P:Program} {ops:Array Oper} {Q:Exit->Act->World->Prop} {n:Nat} {E:World} {M M0:Mem} {L:Nat->Prop} {w:World} {a:Act} {env:Env} {bs:List Bx} {rs:List Rw} {rest:List Oper}
end
section
variable {P:Program} {env:Env} {M:Mem} {bs:List Bx} {rs:List Rw} {d:Option Tmp} {ty:TypeId} {pos:String} {af:Array Edge} {gd:Option (Nat×Bool)}
end
end Go.Gx

namespace Go.Gx
open Go.RowKit Go.Maps Go.WideMaps
section
variable {P:Program} {ops:Array Oper} {Q:Exit->Act->World->Prop} {n:Nat} {E:World} {M M0:Mem} {L:Nat->Prop} {w:World} {a:Act} {env:Env} {bs:List Bx} {rs:List Rw} {rest:List Oper}
variable {d:Option Tmp} {ty:TypeId} {pos:String} {af:Array Edge} {gd:Option (Nat×Bool)}
end
section
variable {P:Program} {fn:Func} {n:Nat} {E:World} {bw:List Nat} {M:Mem} {w:World} {a:Act} {env:Env} {bs:List Bx} {rs:List Rw}
end
end Go.Gx

namespace Go.Gx
open Go.RowKit
section
variable {P:Program} {N J:Act->World->Prop} {X:List (Nat×(Act->World->Prop))} {R:Act->World->Prop} {Z:List PanicEntry->Act->World->Prop} {a:Act} {w:World} {ops:Array Oper} {Q:Exit->Act->World->Prop}
theorem wn (h:Q .normal a w):wpList P ops Q [] a w:=h
theorem qs {x y:Code} (h:Wp P x (λa w=>Wp P y N X R Z a w) X R Z a w):Wp P (.seq x y) N X R Z a w:=Wp.seq h
theorem qg {id:Nat} {l:List Oper} (h:wpList P l.toArray (QQ N X R Z) l a w):Wp P (.region id l.toArray false) N X R Z a w:=Wp.region h
theorem qr {id:Nat} {l:List Oper} {y:Code} (h:wpList P l.toArray (QQ (λa w=>Wp P y N X R Z a w) X R Z) l a w):Wp P (.seq (.region id l.toArray false) y) N X R Z a w:=Wp.seq (Wp.region h)
theorem qk (h:N a w):Wp P .skip N X R Z a w:=Wp.skip h
theorem qt (h:R a w):Wp P .ret N X R Z a w:=Wp.ret h
theorem qb {id:Nat} {c:Code} (h:Wp P c N ((id,N)::X) R Z a w):Wp P (.block id c) N X R Z a w:=Wp.block h
theorem qx {id:Nat} {K:Act->World->Prop} (hx:lkX X id=some K) (h:K a w):Wp P (.exit id) N X R Z a w:=Wp.exit hx h
end
theorem SubE.of {env:Env}:∀{env':Env},(env'.map λp=>lk env p.1)=(env'.map λp=>some p.2)->SubE env env'
 |[],_=>trivial
 |p::r,h=>by
  simp only[List.map_cons,List.cons.injEq]at h
  exact⟨h.1,SubE.of h.2⟩
section
variable {P:Program} {ops:Array Oper} {Q:Exit->Act->World->Prop} {n:Nat} {E:World} {bw:List Nat} {M M0:Mem} {w:World} {a:Act} {env env':Env} {bs bs':List Bx} {rs rs':List Rw} {rest:List Oper} {o o1 o2 o3 o4 o5 o6:Oper}
theorem Sx.q (hs:Sx n E bw M w a env bs rs) (he:(env'.map λp=>lk env p.1)=(env'.map λp=>some p.2):=by rfl):Sx n E bw M w a env' bs rs:=hs.wk (SubE.of he)
theorem Sx.qq (hs:Sx n E bw M w a env bs rs) (hb:bs'.Sublist bs) (hr:rs'.Sublist rs) (he:(env'.map λp=>lk env p.1)=(env'.map λp=>some p.2):=by rfl):Sx n E bw M w a env' bs' rs':=hs.weak hb hr (SubE.of he)
structure Pq (P:Program) (n:Nat) (env:Env) (o:Oper) (d:Nat) (v:Value):Prop where
 g1:o.guard=none
 d1:o.dst=some d
 n1:d<n
 k1:okOp env o=true
 r1:∀w,(execOp (evT env) o).run P w= .ok (.value v) w
theorem Pq.s {d:Nat} {v:Value} (q:Pq P n env o d v) (hs:Sx n E bw M w a env bs rs) (h:∀a',Sx n E bw M w a' ((d,v)::env) bs rs->wpList P ops Q rest a' w):wpList P ops Q (o::rest) a w:=sP v hs h q.g1 q.d1 q.n1 q.k1 q.r1
theorem sP2 (v1 v2:Value) {d1 d2:Nat} (hs:Sx n E bw M w a env bs rs) (h:∀a',Sx n E bw M w a' ((d2,v2)::(d1,v1)::env) bs rs->wpList P ops Q rest a' w)
  (q1:Pq P n env o1 d1 v1:=by exact⟨rfl,rfl,by decide,rfl,by intro _;kernel_rfl⟩) (q2:Pq P n ((d1,v1)::env) o2 d2 v2:=by exact⟨rfl,rfl,by decide,rfl,by intro _;kernel_rfl⟩):wpList P ops Q (o1::o2::rest) a w:=
 q1.s hs λ_ hs=>q2.s hs h
theorem sP3 (v1 v2 v3:Value) {d1 d2 d3:Nat} (hs:Sx n E bw M w a env bs rs) (h:∀a',Sx n E bw M w a' ((d3,v3)::(d2,v2)::(d1,v1)::env) bs rs->wpList P ops Q rest a' w)
  (q1:Pq P n env o1 d1 v1:=by exact⟨rfl,rfl,by decide,rfl,by intro _;kernel_rfl⟩) (q2:Pq P n ((d1,v1)::env) o2 d2 v2:=by exact⟨rfl,rfl,by decide,rfl,by intro _;kernel_rfl⟩)
  (q3:Pq P n ((d2,v2)::(d1,v1)::env) o3 d3 v3:=by exact⟨rfl,rfl,by decide,rfl,by intro _;kernel_rfl⟩):wpList P ops Q (o1::o2::o3::rest) a w:=
 q1.s hs λ_ hs=>q2.s hs λ_ hs=>q3.s hs h
theorem sP4 (v1 v2 v3 v4:Value) {d1 d2 d3 d4:Nat} (hs:Sx n E bw M w a env bs rs) (h:∀a',Sx n E bw M w a' ((d4,v4)::(d3,v3)::(d2,v2)::(d1,v1)::env) bs rs->wpList P ops Q rest a' w)
  (q1:Pq P n env o1 d1 v1:=by exact⟨rfl,rfl,by decide,rfl,by intro _;kernel_rfl⟩) (q2:Pq P n ((d1,v1)::env) o2 d2 v2:=by exact⟨rfl,rfl,by decide,rfl,by intro _;kernel_rfl⟩)
  (q3:Pq P n ((d2,v2)::(d1,v1)::env) o3 d3 v3:=by exact⟨rfl,rfl,by decide,rfl,by intro _;kernel_rfl⟩) (q4:Pq P n ((d3,v3)::(d2,v2)::(d1,v1)::env) o4 d4 v4:=by exact⟨rfl,rfl,by decide,rfl,by intro _;kernel_rfl⟩):wpList P ops Q (o1::o2::o3::o4::rest) a w:=
 q1.s hs λ_ hs=>q2.s hs λ_ hs=>q3.s hs λ_ hs=>q4.s hs h
theorem ye (v:Value) {j t d:Nat} {b:Bool} (hs:Sx n E bw M w a env bs rs) (h:∀a',Sx n E bw M w a' ((d,v)::env) bs rs->wpList P ops Q rest a' w) (hg:o.guard=some (j,b):=by rfl) (ht:(ops[j]?).bind (·.dst)=some t:=by rfl) (hl:lk env t=some (.bool b):=by rfl)
  (q:Pq P n env {o with guard:=none} d v:=by exact⟨rfl,rfl,by decide,rfl,by intro _;kernel_rfl⟩):wpList P ops Q (o::rest) a w:=sYe hs (q.s hs h) hg ht hl
theorem sB1 (v:Value) (i:Nat) {d:Nat} {t ty:TypeId} {x:Operand} {pos:String} {af:Array Edge} {b k:Nat} {cs:List Value} {bt:TypeId} (hs:Sx n E bw M w a env bs rs) (h:∀a',Sx n E bw M w a' ((d,v)::env) bs rs->wpList P ops Q rest a' w)
  (hi:bs[i]?=some ⟨b,bt,cs⟩:=by rfl) (hk:known env x=true:=by rfl) (hx:evT env x= .pointer (some ⟨b,k,none⟩):=by rfl) (ht:tyOk P t false 1=true:=by kernel_rfl) (hvs:(cs.drop k).take 1=[v]:=by rfl) (hdn:d<n:=by decide):wpList P ops Q (⟨some d,.load t x,ty,pos,af,none⟩::rest) a w:=
 sY v hs (Yl.lB [v] false i hi hk hx ht hvs) h rfl rfl hdn
theorem sV1 (v:Value) {d:Nat} {t ty:TypeId} {x:Operand} {pos:String} {af:Array Edge} {b k:Nat} (hat:At M b k [v]) (hs:Sx n E bw M w a env bs rs) (h:∀a',Sx n E bw M w a' ((d,v)::env) bs rs->wpList P ops Q rest a' w)
  (hk:known env x=true:=by rfl) (hx:evT env x= .pointer (some ⟨b,k,none⟩):=by rfl) (ht:tyOk P t false 1=true:=by kernel_rfl) (hdn:d<n:=by decide):wpList P ops Q (⟨some d,.load t x,ty,pos,af,none⟩::rest) a w:=
 sY v hs (Yl.lV [v] false hat hk hx ht) h rfl rfl hdn
theorem sI (e sz:Nat) {d:Nat} {t ty:TypeId} {x i:Operand} {pos:String} {af:Array Edge} {b k l c:Nat} {ik:IntKind} {z:Int} {ad:Option Addr} (had:ad=some ⟨b,k,none⟩) (h0:0<=z) (hl:z<l) (hs:Sx n E bw M w a env bs rs)
  (h:∀a',Sx n E bw M w a' ((d,.pointer (some ⟨b,k+z.toNat*sz,none⟩))::env) bs rs->wpList P ops Q rest a' w) (hkx:known env x=true:=by rfl) (hki:known env i=true:=by rfl) (hx:evT env x= .slice ad l c:=by rfl) (hi:evT env i= .int ik z:=by rfl)
  (hu:P.underlying t=some (.slice e):=by kernel_rfl) (hn:(P.info? e).map (·.size)=some sz:=by kernel_rfl) (hdn:d<n:=by decide):wpList P ops Q (⟨some d,.indexAddr t x i,ty,pos,af,none⟩::rest) a w:=
 sY _ hs (Yl.iS e sz had h0 hl hkx hki hx hi hu hn) h rfl rfl hdn
theorem rT {K:Value->Prop} {fn:Func} {v:Value} {t:Nat} (hs:Sx n E [] M w a env bs rs) (hM:MX M M0 E) (hK:K v) (hr:fn.results= #[.tmp t]:=by rfl) (hv:lk env t=some v:=by rfl):
  a.defers=[]/\∃v,(results fn a.tmps).run P w= .ok v w/\Below E.heap.size E w/\K v:=lvE K hs (resT hs hr hv) hM.2 hK
theorem rTT {K:Value->Prop} {fn:Func} {v x:Value} {t u:Nat} (hs:Sx n E [] M w a env bs rs) (hM:MX M M0 E) (hK:K (.tuple #[v,x])) (hr:fn.results= #[.tmp t,.tmp u]:=by rfl) (hv:lk env t=some v:=by rfl) (hx:lk env u=some x:=by rfl):
  a.defers=[]/\∃v,(results fn a.tmps).run P w= .ok v w/\Below E.heap.size E w/\K v:=lvE K hs (resTT hs hr hv hx) hM.2 hK
theorem cM (args:List Value) {d f:Nat} {ty:TypeId} {c:Call} {pos:String} {af:Array Edge} {fn:Func} {K:Value->Mem->Prop} {first caps:Array Value} (hs:Sx n E bw M w a env bs rs) (hM:MX M M0 E) (hf:P.funcs[f]?=some fn) (hc:CallE P f args.toArray M K)
  (h:∀a' w' M' v,MX M' M0 E->M.le M'->K v M'->Sx n E bw M' w' a' ((d,v)::env) bs rs->wpList P ops Q rest a' w') (hk:okOp env ⟨some d,.call c,ty,pos,af,none⟩=true:=by rfl) (hcal:∃x,c.callee= .value x/\evT env x= .func (.func f) first caps:=by exact⟨_,rfl,rfl⟩)
  (hargs:first.toList++c.args.toList.map (evT env)++caps.toList=args:=by rfl) (hbody:fn.body.isNone=false:=by rfl) (hname:(fn.name== "runtime.NumGoroutine")=false:=by kernel_rfl) (hdn:d<n:=by decide):wpList P ops Q (⟨some d,.call c,ty,pos,af,none⟩::rest) a w:=
 cE args hs hf hc (λa' w' M' v h1 h2 h3 h4=>h a' w' M' v (hM.next h1 h2) h1 h3 h4) hk hcal hargs hbody hname hdn
end
section
variable {P:Program} {ops:Array Oper} {Q:Exit->Act->World->Prop} {M0:Mem} {bs0:List Bx} {rs0:List Rw} {keep:List Bool} {n:Nat} {E:World} {bw:List Nat} {M:Mem} {w:World} {a:Act} {env:Env} {bs:List Bx} {rs:List Rw} {o:Oper} {fuel:Nat} {listed:Array Bool}
theorem dNo (i:Nat) (A:List Nat) {d j t:Nat} {b c:Bool} (hs:Sx n E bw M w a env bs rs) (h:∀a',Sx n E bw M w a' ((d,undef)::env) bs rs->WpD P ops Q (Cx M0 bs0 rs0) keep fuel (listed.setIfInBounds i true) a' w)
  (hQ:QZ Q:=by exact QZ.no) (ho:ops[i]?=some o:=by rfl) (hg:o.guard=some (j,b):=by rfl) (ht:(ops[j]?).bind (·.dst)=some t:=by rfl) (hl:lk env t=some (.bool c):=by rfl) (hne:(c==b)=false:=by rfl) (hd:o.dst=some d:=by rfl) (hdn:d<n:=by decide)
  (hsel:Region.noSelect ops=true:=by kernel_rfl) (hr:(Region.ready .any ops listed).contains i=true:=by kernel_rfl) (hf:freeB ops keep listed i A true=true:=by kernel_rfl):WpD P ops Q (Cx M0 bs0 rs0) keep (fuel+1) listed a w:=
 dN i A hs hQ (wanted_no hs hg ht hl hne) h ho hd hdn hsel hr hf
theorem dPy (v:Value) (i:Nat) (A:List Nat) {d j t:Nat} {b:Bool} (hs:Sx n E bw M w a env bs rs) (h:∀a',Sx n E bw M w a' ((d,v)::env) bs rs->WpD P ops Q (Cx M0 bs0 rs0) keep fuel (listed.setIfInBounds i true) a' w)
  (hQ:QZ Q:=by exact QZ.no) (ho:ops[i]?=some o:=by rfl) (hg:o.guard=some (j,b):=by rfl) (ht:(ops[j]?).bind (·.dst)=some t:=by rfl) (hl:lk env t=some (.bool b):=by rfl) (hd:o.dst=some d:=by rfl) (hdn:d<n:=by decide)
  (hsel:Region.noSelect ops=true:=by kernel_rfl) (hr:(Region.ready .any ops listed).contains i=true:=by kernel_rfl) (hf:freeB ops keep listed i A true=true:=by kernel_rfl) (hk:okOp env o=true:=by rfl) (hy:∀w,(execOp (evT env) o).run P w= .ok (.value v) w:=by intro _;kernel_rfl):WpD P ops Q (Cx M0 bs0 rs0) keep (fuel+1) listed a w:=
 dP v i A hs hQ (wanted_yes hs hg ht hl) h ho hd hdn hsel hr hf hk hy
end
section
variable {P:Program} {f:FuncId} {fn:Func} {c:Code} {M:Mem} {K:Value->Mem->Prop} {L:Nat->Prop}
abbrev EndE (P:Program) (fn:Func) (M:Mem) (K:Value->Mem->Prop) (w:World) (a':Act) (w':World):Prop:=a'.defers=[]/\∃v,(results fn a'.tmps).run P w'= .ok v w'/\Below w.heap.size w w'/\K v (grow M w w')
theorem eE1 {a0:Value} (hf:P.funcs[f]?=some fn) (n:Nat) (h:∀w a,MX M M w->Sx n w [] M w a [(0,a0)] [] []->Wp P c (EndE P fn M K w) [] (EndE P fn M K w) (λ_ _ _=>False) a w) (hb:fn.body=some c:=by rfl) (hn:fn.ntmps=n:=by rfl) (hl:1<=n:=by exact Nat.le_of_ble_eq_true rfl):CallE P f #[a0] M K:=
 enterE (l:=[a0]) hf hb n hn hl λw a hs=>h w a (MX.refl M w) hs
theorem eE2 {a0 a1:Value} (hf:P.funcs[f]?=some fn) (n:Nat) (h:∀w a,MX M M w->Sx n w [] M w a [(0,a0),(1,a1)] [] []->Wp P c (EndE P fn M K w) [] (EndE P fn M K w) (λ_ _ _=>False) a w) (hb:fn.body=some c:=by rfl) (hn:fn.ntmps=n:=by rfl) (hl:2<=n:=by exact Nat.le_of_ble_eq_true rfl):CallE P f #[a0,a1] M K:=
 enterE (l:=[a0,a1]) hf hb n hn hl λw a hs=>h w a (MX.refl M w) hs
theorem eE4 {a0 a1 a2 a3:Value} (hf:P.funcs[f]?=some fn) (n:Nat) (h:∀w a,MX M M w->Sx n w [] M w a [(0,a0),(1,a1),(2,a2),(3,a3)] [] []->Wp P c (EndE P fn M K w) [] (EndE P fn M K w) (λ_ _ _=>False) a w) (hb:fn.body=some c:=by rfl) (hn:fn.ntmps=n:=by rfl) (hl:4<=n:=by exact Nat.le_of_ble_eq_true rfl):CallE P f #[a0,a1,a2,a3] M K:=
 enterE (l:=[a0,a1,a2,a3]) hf hb n hn hl λw a hs=>h w a (MX.refl M w) hs
end
end Go.Gx

namespace Go.Gx
open Go.RowKit Go.Maps Go.WideMaps
section
variable {P:Program} {ops:Array Oper} {Q:Exit->Act->World->Prop} {n:Nat} {E:World} {M M0:Mem} {L:Nat->Prop} {w:World} {a:Act} {env:Env} {bs:List Bx} {rs:List Rw} {rest:List Oper}
variable {d:Option Tmp} {ty:TypeId} {pos:String} {af:Array Edge} {gd:Option (Nat×Bool)}
end
section
variable {P:Program} {ops:Array Oper} {Q:Exit->Act->World->Prop} {n:Nat} {E:World} {bw:List Nat} {M:Mem} {w:World} {a:Act} {env:Env} {bs:List Bx} {rs:List Rw} {rest:List Oper} {o:Oper}
end
end Go.Gx

namespace Go.Gx
open Go.RowKit
section
variable {P:Program} {ops:Array Oper} {Q:Exit->Act->World->Prop} {n:Nat} {E:World} {M M0:Mem} {L:Nat->Prop} {w:World} {a:Act} {env:Env} {bs:List Bx} {rs:List Rw} {rest:List Oper}
end
section
variable {P:Program} {ops:Array Oper} {Q:Exit->Act->World->Prop} {n:Nat} {E:World} {M M0:Mem} {L:Nat->Prop} {w:World} {a:Act} {env:Env} {bs:List Bx} {rs:List Rw} {rest:List Oper}
end
end Go.Gx

namespace Go.Gx
open Go.RowKit
section
variable {P:Program} {ops:Array Oper} {Q:Exit->Act->World->Prop} {n:Nat} {E:World} {bw:List Nat} {M:Mem} {w:World} {a:Act} {env:Env} {bs:List Bx} {rs:List Rw} {rest:List Oper}
end
end Go.Gx

namespace Go.Gx
open Go.RowKit
section
variable {P:Program} {env:Env} {M:Mem} {bs:List Bx} {rs:List Rw} {d:Option Tmp} {ty:TypeId} {pos:String} {af:Array Edge} {gd:Option (Nat×Bool)}
def IfNil (v:Value) (b:Bool):Prop:=(v= .nilIface/\b=true)\/∃t u,v= .iface t u/\b=false
theorem Yl.ifNotNil {t u:TypeId} {x:Operand} {v:Value} {b:Bool} (hk:okOp env ⟨d,.binOp .neq t x (.const .nilIface) u,ty,pos,af,gd⟩=true) (ht:(match P.underlying t with|some (.interface ..)=>true|_=>false)=true) (hx:evT env x=v) (h:IfNil v b):
  Yl P env M bs rs ⟨d,.binOp .neq t x (.const .nilIface) u,ty,pos,af,gd⟩ (.bool (!b)):=by
 refine⟨hk,λw _=>?_⟩
 have hc:evT env (.const .nilIface)= .nilIface:=rfl
 split at ht<;>try cases ht
 rename_i hu
 have:(Op.equalIn (9999+1) t v .nilIface).run P w= .ok b w:=by
  generalize 9999=q
  rcases h with⟨rfl,rfl⟩|⟨f,xs,rfl,rfl⟩<;>simp[Op.equalIn,run_underlying hu]
 rcases h with⟨rfl,rfl⟩|⟨f,xs,rfl,rfl⟩<;>simp[execOp,eqGuard,hx,hc,binOp,Op.equal,Op.maxDepth,this]
theorem Yl.countB {f:Nat} {c:Call} {fn:Func} {l:List UInt8} {z:Int} (hk:okOp env ⟨d,.call c,ty,pos,af,gd⟩=true) (hcal:∃x,c.callee= .value x/\evT env x= .func (.func f) #[] #[]) (hargs:c.args.toList.map (evT env)=[.string (mkS l),.int .u8 z])
  (hf:P.funcs[f]?=some fn) (hbody:fn.body.isNone=true) (hname:(fn.name== "runtime.NumGoroutine")=false) (hn:(Extern.findNext fn).isNone=true) (he:Extern.find fn=some Extern.BytealgCount.count):Yl P env M bs rs ⟨d,.call c,ty,pos,af,gd⟩ (.int .i64 ((l.count z.toNat.toUInt8:Nat):Int)):=
 Yl.ext _ hk hcal hargs hf hbody hname hn he λ_=>Lib.run_countString _ _ _
end
section
variable {P:Program} {ops:Array Oper} {Q:Exit->Act->World->Prop} {n:Nat} {E:World} {M M0:Mem} {L:Nat->Prop} {w:World} {a:Act} {env:Env} {bs:List Bx} {rs:List Rw} {rest:List Oper}
end
end Go.Gx

namespace Go.Proofs.YtjecddabdlapbaaDoor.core
open Go.Gx Go.RowKit Go.ChangeShapes Go.WideShapes Go.ChangeAt
set_option linter.unusedVariables false
def S_internal_stringslite_IndexByte (s1:List UInt8) (c2:Int) (M:Mem) (K:Value->Prop):Prop:=
 K (Value.int .i64 (idxB s1 c2))
set_option maxRecDepth 100000 in
theorem s_internal_stringslite_IndexByte (s1:List UInt8) (c2:Int) (M:Mem) (K:Value->Prop) (hS:S_internal_stringslite_IndexByte s1 c2 M K):CallE Tryd.prog 99 #[(Value.string (mkS s1)),(Value.int .u8 c2)] M (λv _=>K v):=by
 refine eE2 Tryd.func99 8 λE a hMM hs=>?_;unfold S_internal_stringslite_IndexByte at hS;refine qr (sP (iv 0) hs λ_ hs=>?_);refine wn (qr (sP2 (.string (mkS s1)) (.int .u8 c2) hs λ_ hs=>?_));refine sY (iv (idxB s1 c2)) hs (Yl.idxByte rfl ⟨_,rfl,rfl⟩ rfl Tryd.func129 rfl (by kernel_rfl) (by kernel_rfl) (by kernel_rfl)) λ_ hs=>?_;refine sP (iv (idxB s1 c2)) hs λ_ hs=>?_;exact wn (qt (rT hs hMM hS))
def S_strings_IndexByte (s1:List UInt8) (c2:Int) (M:Mem) (K:Value->Prop):Prop:=
 (CallE Tryd.prog 99 #[(.string (mkS s1)),(.int .u8 c2)] M (λv _=>∃(x3:Int),v=(Value.int .i64 x3)/\K (Value.int .i64 x3)))
set_option maxRecDepth 100000 in
theorem s_strings_IndexByte (s1:List UInt8) (c2:Int) (M:Mem) (K:Value->Prop) (hS:S_strings_IndexByte s1 c2 M K):CallE Tryd.prog 57 #[(Value.string (mkS s1)),(Value.int .u8 c2)] M (λv _=>K v):=by
 refine eE2 Tryd.func57 8 λE a hMM hs=>?_;unfold S_strings_IndexByte at hS;refine qr (sP (iv 0) hs λ_ hs=>?_);refine wn (qr (sP2 (.string (mkS s1)) (.int .u8 c2) hs λ_ hs=>?_));refine cP [(.string (mkS s1)),(.int .u8 c2)] hs Tryd.func99 hS λ_ _ v hS hs=>?_;obtain⟨x3,rfl,hS⟩:=hS;refine sP (iv x3) hs λ_ hs=>?_;exact wn (qt (rT hs hMM hS))
def S_internal_stringslite_Index_J6 (s1:List UInt8) (substr2:List UInt8) (M:Mem) (i25:Int) (fails26:Int) (I27:Int->Int->Prop) (mu28:Int->Int->Nat) (i31:Int) (x39:Bool) (K:Value->Prop):Prop:=
 ((x39=true->((0:Int)<=i31+1/\(i31+1:Int)<=((s1.length:Nat):Int)/\((s1.length:Nat):Int)<=((s1.length:Nat):Int)/\(CallE Tryd.prog 145 #[(.string (mkS ((s1.take ((s1.length:Nat):Int).toNat).drop (i31+1).toNat))),(.string (mkS substr2))] M (λv _=>∃(x40:Int),v=(Value.int .i64 x40)/\((x40<0->K (Value.int .i64 (-1)))/\(¬(x40<0)->(InI ((i31+1)+x40)/\K (Value.int .i64 ((i31+1)+x40)))))))))/\(¬(x39=true)->I27 (i31+1) (fails26+1)/\mu28 (i31+1) (fails26+1)<mu28 i25 fails26))
def S_internal_stringslite_Index_J5 (s1:List UInt8) (substr2:List UInt8) (M:Mem) (i25:Int) (fails26:Int) (I27:Int->Int->Prop) (mu28:Int->Int->Nat) (i31:Int) (x36:Bool) (K:Value->Prop):Prop:=
 ((x36=true->((0:Int)<=i31+1/\(i31+1:Int)<=((s1.length:Nat):Int)/\((s1.length:Nat):Int)<=((s1.length:Nat):Int)/\False))/\(¬(x36=true)->(∃(x38:Int),At M 1 0 [(.int .i64 x38)]/\((((substr2.length:Nat):Int)>x38->(InI (4+(bShr .i64 (i31+1) 4))/\((fails26+1>=4+(bShr .i64 (i31+1) 4)->(S_internal_stringslite_Index_J6 s1 substr2 M i25 fails26 I27 mu28 i31 (decide (i31+1<(((s1.length:Nat):Int)-((substr2.length:Nat):Int))+1)) K))/\(¬(fails26+1>=4+(bShr .i64 (i31+1) 4))->(S_internal_stringslite_Index_J6 s1 substr2 M i25 fails26 I27 mu28 i31 false K)))))/\(¬(((substr2.length:Nat):Int)>x38)->(S_internal_stringslite_Index_J6 s1 substr2 M i25 fails26 I27 mu28 i31 false K))))))
def S_internal_stringslite_Index_J4 (s1:List UInt8) (substr2:List UInt8) (M:Mem) (i25:Int) (fails26:Int) (I27:Int->Int->Prop) (mu28:Int->Int->Nat) (i31:Int) (x33:Bool) (K:Value->Prop):Prop:=
 ((x33=true->K (Value.int .i64 i31))/\(¬(x33=true)->(InI (i31+1)/\(InI (fails26+1)/\(∃(x34:Int),At M 1 0 [(.int .i64 x34)]/\((((substr2.length:Nat):Int)<=x34->(CallE Tryd.prog 144 #[(.int .i64 (i31+1))] M (λv _=>∃(x35:Int),v=(Value.int .i64 x35)/\(S_internal_stringslite_Index_J5 s1 substr2 M i25 fails26 I27 mu28 i31 (decide (fails26+1>x35)) K))))/\(¬(((substr2.length:Nat):Int)<=x34)->(S_internal_stringslite_Index_J5 s1 substr2 M i25 fails26 I27 mu28 i31 false K))))))))
def S_internal_stringslite_Index_J3 (s1:List UInt8) (substr2:List UInt8) (M:Mem) (c10:UInt8) (i25:Int) (fails26:Int) (I27:Int->Int->Prop) (mu28:Int->Int->Nat) (i31:Int) (K:Value->Prop):Prop:=
 (InI (i31+1)/\(∃c32:UInt8,(0:Int)<=i31+1/\s1[(i31+1).toNat]?=some c32/\(((c32.toNat:Int)=(c10.toNat:Int)->(InI (i31+((substr2.length:Nat):Int))/\((0:Int)<=i31/\(i31:Int)<=i31+((substr2.length:Nat):Int)/\(i31+((substr2.length:Nat):Int):Int)<=((s1.length:Nat):Int)/\(S_internal_stringslite_Index_J4 s1 substr2 M i25 fails26 I27 mu28 i31 ((mkS ((s1.take (i31+((substr2.length:Nat):Int)).toNat).drop i31.toNat)).toList==(mkS substr2).toList) K))))/\(¬((c32.toNat:Int)=(c10.toNat:Int))->(S_internal_stringslite_Index_J4 s1 substr2 M i25 fails26 I27 mu28 i31 false K)))))
def S_internal_stringslite_Index_J2 (s1:List UInt8) (substr2:List UInt8) (M:Mem) (x7:Bool) (K:Value->Prop):Prop:=
 ((x7=true->False)/\(¬(x7=true)->(∃c9:UInt8,(0:Int)<=0/\substr2[(0:Int).toNat]?=some c9/\(∃c10:UInt8,(0:Int)<=1/\substr2[(1:Int).toNat]?=some c10/\(InI (((s1.length:Nat):Int)-((substr2.length:Nat):Int))/\(InI ((((s1.length:Nat):Int)-((substr2.length:Nat):Int))+1)/\(∃(I27:Int->Int->Prop) (mu28:Int->Int->Nat),I27 0 0/\∀(i25:Int) (fails26:Int),(I27 i25 fails26->((i25<(((s1.length:Nat):Int)-((substr2.length:Nat):Int))+1->(∃c29:UInt8,(0:Int)<=i25/\s1[i25.toNat]?=some c29/\(((c29.toNat:Int)≠(c9.toNat:Int)->(InI (i25+1)/\((0:Int)<=i25+1/\(i25+1:Int)<=(((s1.length:Nat):Int)-((substr2.length:Nat):Int))+1/\((((s1.length:Nat):Int)-((substr2.length:Nat):Int))+1:Int)<=((s1.length:Nat):Int)/\(CallE Tryd.prog 99 #[(.string (mkS ((s1.take ((((s1.length:Nat):Int)-((substr2.length:Nat):Int))+1).toNat).drop (i25+1).toNat))),(.int .u8 (c9.toNat:Int))] M (λv _=>∃(x30:Int),v=(Value.int .i64 x30)/\((x30<0->K (Value.int .i64 (-1)))/\(¬(x30<0)->(InI (x30+1)/\(InI (i25+(x30+1))/\(S_internal_stringslite_Index_J3 s1 substr2 M c10 i25 fails26 I27 mu28 (i25+(x30+1)) K))))))))))/\(¬((c29.toNat:Int)≠(c9.toNat:Int))->(S_internal_stringslite_Index_J3 s1 substr2 M c10 i25 fails26 I27 mu28 i25 K)))))/\(¬(i25<(((s1.length:Nat):Int)-((substr2.length:Nat):Int))+1)->K (Value.int .i64 (-1))))))))))))
def S_internal_stringslite_Index_J1 (s1:List UInt8) (substr2:List UInt8) (M:Mem) (x3:Bool) (K:Value->Prop):Prop:=
 ((x3=true->K (Value.int .i64 0))/\(¬(x3=true)->((((substr2.length:Nat):Int)=1->(∃c4:UInt8,(0:Int)<=0/\substr2[(0:Int).toNat]?=some c4/\(CallE Tryd.prog 99 #[(.string (mkS s1)),(.int .u8 (c4.toNat:Int))] M (λv _=>∃(x5:Int),v=(Value.int .i64 x5)/\K (Value.int .i64 x5)))))/\(¬(((substr2.length:Nat):Int)=1)->((((substr2.length:Nat):Int)>=((s1.length:Nat):Int)->K (Value.int .i64 (-1)))/\(¬(((substr2.length:Nat):Int)>=((s1.length:Nat):Int))->(∃(x6:Int),At M 1 0 [(.int .i64 x6)]/\((((substr2.length:Nat):Int)<=x6->(S_internal_stringslite_Index_J2 s1 substr2 M (decide (((s1.length:Nat):Int)<=64)) K))/\(¬(((substr2.length:Nat):Int)<=x6)->(S_internal_stringslite_Index_J2 s1 substr2 M false K))))))))))
def S_internal_stringslite_Index (s1:List UInt8) (substr2:List UInt8) (M:Mem) (K:Value->Prop):Prop:=
 ((((substr2.length:Nat):Int)=0->(S_internal_stringslite_Index_J1 s1 substr2 M true K))/\(¬(((substr2.length:Nat):Int)=0)->(S_internal_stringslite_Index_J1 s1 substr2 M ((mkS substr2).toList==(mkS s1).toList) K)))
set_option maxRecDepth 100000 in
theorem s_internal_stringslite_Index (s1:List UInt8) (substr2:List UInt8) (M:Mem) (K:Value->Prop) (hS:S_internal_stringslite_Index s1 substr2 M K):CallE Tryd.prog 127 #[(Value.string (mkS s1)),(Value.string (mkS substr2))] M (λv _=>K v):=by
 refine eE2 Tryd.func127 143 λE a hMM hs=>?_;unfold S_internal_stringslite_Index at hS;refine qr (sP (iv 0) hs λ_ hs=>?_);refine wn (qr (sP3 (.string (mkS substr2)) (iv (substr2.length:Int)) (iv (substr2.length:Int)) hs λ_ hs=>?_));refine wn (qs (qb (Wp.join (λa w=>∃(x3:Bool),Sx 143 E [] M w a [(0,(.string (mkS s1))),(1,(.string (mkS substr2))),(5,(iv (substr2.length:Int))),(16,(.bool x3))] [] []/\(S_internal_stringslite_Index_J1 s1 substr2 M x3 K)) ?_ ?_)))
 ·refine qg (sP3 (iv (substr2.length:Int)) (.bool ((substr2.length:Int)==(0:Int))) (.bool ((substr2.length:Int)==(0:Int))) hs λ_ hs=>?_);refine bsS beq_iff_eq hs hS (λhs hS=>?_) (λhs hS=>?_)
  ·repeat (first|refine sNo hs λ_ hs=>?_|refine sNu hs λ_ hs=>?_)
   refine sP2 (.bool true) (.bool true) hs λ_ hs=>?_;exact wn (⟨true,hs.q,hS⟩)
  ·refine ye (.string (mkS substr2)) hs λ_ hs=>?_;refine ye (.string (mkS s1)) hs λ_ hs=>?_;refine ye (.bool ((mkS substr2).toList==(mkS s1).toList)) hs λ_ hs=>?_;refine sP2 (.bool ((mkS substr2).toList==(mkS s1).toList)) (.bool ((mkS substr2).toList==(mkS s1).toList)) hs λ_ hs=>?_;exact wn (⟨((mkS substr2).toList==(mkS s1).toList),hs.q,hS⟩)
 ·intro a w hJ;obtain⟨x3,hs,hS⟩:=hJ;unfold S_internal_stringslite_Index_J1 at hS;refine Wp.cS hs Iff.rfl hS (λhS=>?_) (λhS=>?_)
  ·refine qr (sP (iv 0) hs λ_ hs=>?_);exact wn (qt (rT hs hMM hS))
  ·refine qr (sP3 (iv (substr2.length:Int)) (.bool ((substr2.length:Int)==(1:Int))) (.bool ((substr2.length:Int)==(1:Int))) hs λ_ hs=>?_);refine wn (Wp.cS hs beq_iff_eq hS (λhS=>?_) (λhS=>?_))
   ·refine qr (sP2 (.string (mkS s1)) (.string (mkS substr2)) hs λ_ hs=>?_);obtain⟨c4,h0,hi,hS⟩:=hS;refine sY (.int .u8 (c4.toNat:Int)) hs (Yl.indexStr rfl rfl rfl rfl (by kernel_rfl) h0 hi) λ_ hs=>?_;refine cP [(.string (mkS s1)),(.int .u8 (c4.toNat:Int))] hs Tryd.func99 hS λ_ _ v hS hs=>?_;obtain⟨x5,rfl,hS⟩:=hS;refine sP (iv x5) hs λ_ hs=>?_;exact wn (qt (rT hs hMM hS))
   ·refine qr (sP4 (iv (substr2.length:Int)) (.string (mkS s1)) (iv (s1.length:Int)) (.bool (decide ((substr2.length:Int)>=(s1.length:Int)))) hs λ_ hs=>?_);refine sP (.bool (decide ((substr2.length:Int)>=(s1.length:Int)))) hs λ_ hs=>?_;refine wn (Wp.cS hs decide_eq_true_iff hS (λhS=>?_) (λhS=>?_))
    ·refine qr (sP (iv (-1)) hs λ_ hs=>?_);exact wn (qt (rT hs hMM hS))
    ·refine Wp.join (λa w=>∃(x7:Bool),Sx 143 E [] M w a [(0,(.string (mkS s1))),(1,(.string (mkS substr2))),(5,(iv (substr2.length:Int))),(36,(.bool x7))] [] []/\(S_internal_stringslite_Index_J2 s1 substr2 M x7 K)) ?_ ?_
     ·refine qg (sP (iv (substr2.length:Int)) hs λ_ hs=>?_);obtain⟨x6,hat,hS⟩:=hS;refine sV1 (iv x6) hat hs λ_ hs=>?_;refine sP2 (.bool (decide ((substr2.length:Int)<=x6))) (.bool (decide ((substr2.length:Int)<=x6))) hs λ_ hs=>?_;refine bsS decide_eq_true_iff hs hS (λhs hS=>?_) (λhs hS=>?_)
      ·refine ye (.string (mkS s1)) hs λ_ hs=>?_;refine ye (iv (s1.length:Int)) hs λ_ hs=>?_;refine ye (.bool (decide ((s1.length:Int)<=64))) hs λ_ hs=>?_;refine sP2 (.bool (decide ((s1.length:Int)<=64))) (.bool (decide ((s1.length:Int)<=64))) hs λ_ hs=>?_;exact wn (⟨(decide ((s1.length:Int)<=64)),hs.q,hS⟩)
      ·repeat (first|refine sNo hs λ_ hs=>?_|refine sNu hs λ_ hs=>?_)
       refine sP2 (.bool false) (.bool false) hs λ_ hs=>?_;exact wn (⟨false,hs.q,hS⟩)
     ·intro a w hJ;obtain⟨x7,hs,hS⟩:=hJ;unfold S_internal_stringslite_Index_J2 at hS;refine Wp.cS hs Iff.rfl hS (λhS=>?_) (λhS=>?_)
      ·refine qr (sP2 (.string (mkS s1)) (.string (mkS substr2)) hs λ_ hs=>?_);exact hS.elim
      ·refine qk (qr (sP (.string (mkS substr2)) hs λ_ hs=>?_));obtain⟨c9,h0,hi,hS⟩:=hS;refine sY (.int .u8 (c9.toNat:Int)) hs (Yl.indexStr rfl rfl rfl rfl (by kernel_rfl) h0 hi) λ_ hs=>?_;refine sP (.int .u8 (c9.toNat:Int)) hs λ_ hs=>?_;refine wn (qr (sP (.string (mkS substr2)) hs λ_ hs=>?_));obtain⟨c10,h0,hi,hS⟩:=hS;refine sY (.int .u8 (c10.toNat:Int)) hs (Yl.indexStr rfl rfl rfl rfl (by kernel_rfl) h0 hi) λ_ hs=>?_;refine sP (.int .u8 (c10.toNat:Int)) hs λ_ hs=>?_;refine wn (qr (sP (iv 0) hs λ_ hs=>?_));refine wn (qr (sP3 (.string (mkS s1)) (iv (s1.length:Int)) (iv (substr2.length:Int)) hs λ_ hs=>?_));obtain⟨hI,hS⟩:=hS;refine sY (iv ((s1.length:Int)-(substr2.length:Int))) hs (Yl.wr hI) λ_ hs=>?_;obtain⟨hI,hS⟩:=hS;refine sY (iv (((s1.length:Int)-(substr2.length:Int))+1)) hs (Yl.wr hI) λ_ hs=>?_;refine sP (iv (((s1.length:Int)-(substr2.length:Int))+1)) hs λ_ hs=>?_;refine wn (qr (sP (iv 0) hs λ_ hs=>?_));refine wn (qs (qb ?_));obtain⟨I27,mu28,hI0,hst⟩:=hS
       refine Wp.loop (σ:=(Int)×(Int)) (λ(i25,fails26) a w=>Sx 143 E [] M w a [(0,(.string (mkS s1))),(1,(.string (mkS substr2))),(5,(iv (substr2.length:Int))),(6,(.int .u8 (c9.toNat:Int))),(7,(.int .u8 (c10.toNat:Int))),(8,(iv i25)),(9,(iv (((s1.length:Int)-(substr2.length:Int))+1))),(10,(iv fails26))] [] []/\I27 i25 fails26) (λ(i25,fails26)=>mu28 i25 fails26) (0,0) ⟨hs.q,hI0⟩ (λs a w hI=>?_);obtain⟨i25,fails26⟩:=s;obtain⟨hs,hI⟩:=hI;have hS:=hst i25 fails26 hI;clear hst hI0 hI;refine qs (qr (sP3 (iv i25) (iv (((s1.length:Int)-(substr2.length:Int))+1)) (.bool (decide (i25<((s1.length:Int)-(substr2.length:Int))+1))) hs λ_ hs=>?_));refine wn (Wp.cS hs decide_eq_true_iff hS (λhS=>?_) (λhS=>?_))
       ·refine qk (qb (Wp.join (λa w=>∃(i31:Int),Sx 143 E [] M w a [(0,(.string (mkS s1))),(1,(.string (mkS substr2))),(5,(iv (substr2.length:Int))),(6,(.int .u8 (c9.toNat:Int))),(7,(.int .u8 (c10.toNat:Int))),(8,(iv i31)),(9,(iv (((s1.length:Int)-(substr2.length:Int))+1))),(10,(iv fails26))] [] []/\(S_internal_stringslite_Index_J3 s1 substr2 M c10 i25 fails26 I27 mu28 i31 K)) ?_ ?_))
        ·refine qr (sP2 (.string (mkS s1)) (iv i25) hs λ_ hs=>?_);obtain⟨c29,h0,hi,hS⟩:=hS;refine sY (.int .u8 (c29.toNat:Int)) hs (Yl.indexStr rfl rfl rfl rfl (by kernel_rfl) h0 hi) λ_ hs=>?_;refine sP2 (.int .u8 (c9.toNat:Int)) (.bool ((c29.toNat:Int) != (c9.toNat:Int))) hs λ_ hs=>?_;refine wn (Wp.cS hs bne_iff_ne hS (λhS=>?_) (λhS=>?_))
         ·refine qr (sP2 (.string (mkS s1)) (iv i25) hs λ_ hs=>?_);obtain⟨hI,hS⟩:=hS;refine sY (iv (i25+1)) hs (Yl.wr hI) λ_ hs=>?_;refine sP (iv (((s1.length:Int)-(substr2.length:Int))+1)) hs λ_ hs=>?_;obtain⟨h0,h1,h2,hS⟩:=hS;refine sY (.string (mkS ((s1.take (((s1.length:Int)-(substr2.length:Int))+1).toNat).drop (i25+1).toNat))) hs (Yl.sliceStrLH rfl rfl rfl rfl rfl rfl (by kernel_rfl) h0 h1 h2) λ_ hs=>?_;refine sP (.int .u8 (c9.toNat:Int)) hs λ_ hs=>?_;refine cP [(.string (mkS ((s1.take (((s1.length:Int)-(substr2.length:Int))+1).toNat).drop (i25+1).toNat))),(.int .u8 (c9.toNat:Int))] hs Tryd.func99 hS λ_ _ v hS hs=>?_;obtain⟨x30,rfl,hS⟩:=hS;refine sP (iv x30) hs λ_ hs=>?_;refine wn (qs (qr (sP2 (iv x30) (.bool (decide (x30<0))) hs λ_ hs=>?_)));refine wn (Wp.cS hs decide_eq_true_iff hS (λhS=>?_) (λhS=>?_))
          ·refine qr (sP (iv (-1)) hs λ_ hs=>?_);exact wn (qt (rT hs hMM hS))
          ·refine qk (qg (sP2 (iv i25) (iv x30) hs λ_ hs=>?_));obtain⟨hI,hS⟩:=hS;refine sY (iv (x30+1)) hs (Yl.wr hI) λ_ hs=>?_;obtain⟨hI,hS⟩:=hS;refine sY (iv (i25+(x30+1))) hs (Yl.wr hI) λ_ hs=>?_;refine sP (iv (i25+(x30+1))) hs λ_ hs=>?_;exact wn (⟨(i25+(x30+1)),hs.q,hS⟩)
         ·exact qk (⟨i25,hs.q,hS⟩)
        ·intro a w hJ;obtain⟨i31,hs,hS⟩:=hJ;unfold S_internal_stringslite_Index_J3 at hS;refine qs (Wp.join (λa w=>∃(x33:Bool),Sx 143 E [] M w a [(0,(.string (mkS s1))),(1,(.string (mkS substr2))),(5,(iv (substr2.length:Int))),(6,(.int .u8 (c9.toNat:Int))),(7,(.int .u8 (c10.toNat:Int))),(8,(iv i31)),(9,(iv (((s1.length:Int)-(substr2.length:Int))+1))),(10,(iv fails26)),(93,(.bool x33))] [] []/\(S_internal_stringslite_Index_J4 s1 substr2 M i25 fails26 I27 mu28 i31 x33 K)) ?_ ?_)
         ·refine qg (sP2 (.string (mkS s1)) (iv i31) hs λ_ hs=>?_);obtain⟨hI,hS⟩:=hS;refine sY (iv (i31+1)) hs (Yl.wr hI) λ_ hs=>?_;obtain⟨c32,h0,hi,hS⟩:=hS;refine sY (.int .u8 (c32.toNat:Int)) hs (Yl.indexStr rfl rfl rfl rfl (by kernel_rfl) h0 hi) λ_ hs=>?_;refine sP3 (.int .u8 (c10.toNat:Int)) (.bool ((c32.toNat:Int)==(c10.toNat:Int))) (.bool ((c32.toNat:Int)==(c10.toNat:Int))) hs λ_ hs=>?_;refine bsS beq_iff_eq hs hS (λhs hS=>?_) (λhs hS=>?_)
          ·refine ye (.string (mkS s1)) hs λ_ hs=>?_;refine ye (iv i31) hs λ_ hs=>?_;refine ye (iv i31) hs λ_ hs=>?_;refine ye (iv (substr2.length:Int)) hs λ_ hs=>?_;refine sYe hs ?_;obtain⟨hI,hS⟩:=hS;refine sY (iv (i31+(substr2.length:Int))) hs (Yl.wr hI) λ_ hs=>?_;refine sYe hs ?_;obtain⟨h0,h1,h2,hS⟩:=hS;refine sY (.string (mkS ((s1.take (i31+(substr2.length:Int)).toNat).drop i31.toNat))) hs (Yl.sliceStrLH rfl rfl rfl rfl rfl rfl (by kernel_rfl) h0 h1 h2) λ_ hs=>?_;refine ye (.string (mkS substr2)) hs λ_ hs=>?_;refine ye (.bool ((mkS ((s1.take (i31+(substr2.length:Int)).toNat).drop i31.toNat)).toList==(mkS substr2).toList)) hs λ_ hs=>?_;refine sP (.bool ((mkS ((s1.take (i31+(substr2.length:Int)).toNat).drop i31.toNat)).toList==(mkS substr2).toList)) hs λ_ hs=>?_;exact wn (⟨((mkS ((s1.take (i31+(substr2.length:Int)).toNat).drop i31.toNat)).toList==(mkS substr2).toList),hs.q,hS⟩)
          ·repeat (first|refine sNo hs λ_ hs=>?_|refine sNu hs λ_ hs=>?_)
           refine sP (.bool false) hs λ_ hs=>?_;exact wn (⟨false,hs.q,hS⟩)
         ·intro a w hJ;obtain⟨x33,hs,hS⟩:=hJ;unfold S_internal_stringslite_Index_J4 at hS;refine Wp.cS hs Iff.rfl hS (λhS=>?_) (λhS=>?_)
          ·refine qr (sP2 (iv i31) (iv i31) hs λ_ hs=>?_);exact wn (qt (rT hs hMM hS))
          ·refine qk (qr (sP (iv i31) hs λ_ hs=>?_));obtain⟨hI,hS⟩:=hS;refine sY (iv (i31+1)) hs (Yl.wr hI) λ_ hs=>?_;refine sP (iv (i31+1)) hs λ_ hs=>?_;refine wn (qr (sP (iv fails26) hs λ_ hs=>?_));obtain⟨hI,hS⟩:=hS;refine sY (iv (fails26+1)) hs (Yl.wr hI) λ_ hs=>?_;refine sP (iv (fails26+1)) hs λ_ hs=>?_;refine wn (Wp.join (λa w=>∃(x36:Bool),Sx 143 E [] M w a [(0,(.string (mkS s1))),(1,(.string (mkS substr2))),(5,(iv (substr2.length:Int))),(6,(.int .u8 (c9.toNat:Int))),(7,(.int .u8 (c10.toNat:Int))),(8,(iv (i31+1))),(9,(iv (((s1.length:Int)-(substr2.length:Int))+1))),(10,(iv (fails26+1))),(107,(.bool x36))] [] []/\(S_internal_stringslite_Index_J5 s1 substr2 M i25 fails26 I27 mu28 i31 x36 K)) ?_ ?_)
           ·refine qg (sP (iv (substr2.length:Int)) hs λ_ hs=>?_);obtain⟨x34,hat,hS⟩:=hS;refine sV1 (iv x34) hat hs λ_ hs=>?_;refine sP2 (.bool (decide ((substr2.length:Int)<=x34))) (.bool (decide ((substr2.length:Int)<=x34))) hs λ_ hs=>?_;refine bsS decide_eq_true_iff hs hS (λhs hS=>?_) (λhs hS=>?_)
            ·refine ye (iv (fails26+1)) hs λ_ hs=>?_;refine ye (iv (i31+1)) hs λ_ hs=>?_;refine sYe hs (stepCallP [(iv (i31+1))] hs rfl ⟨_,rfl,rfl⟩ rfl Tryd.func144 rfl (by kernel_rfl) (by decide) hS (λ_ _ v hS hs=>?_));obtain⟨x35,rfl,hS⟩:=hS;refine ye (.bool (decide (fails26+1>x35))) hs λ_ hs=>?_;refine sP (.bool (decide (fails26+1>x35))) hs λ_ hs=>?_;exact wn (⟨(decide (fails26+1>x35)),hs.q,hS⟩)
            ·repeat (first|refine sNo hs λ_ hs=>?_|refine sNu hs λ_ hs=>?_)
             refine sP (.bool false) hs λ_ hs=>?_;exact wn (⟨false,hs.q,hS⟩)
           ·intro a w hJ;obtain⟨x36,hs,hS⟩:=hJ;unfold S_internal_stringslite_Index_J5 at hS;refine Wp.cS hs Iff.rfl hS (λhS=>?_) (λhS=>?_)
            ·refine qr (sP2 (.string (mkS s1)) (iv (i31+1)) hs λ_ hs=>?_);obtain⟨h0,h1,h2,hS⟩:=hS;refine sY (.string (mkS ((s1.take (s1.length:Int).toNat).drop (i31+1).toNat))) hs (Yl.sliceStrL rfl rfl rfl rfl (by kernel_rfl) h0 h1 h2) λ_ hs=>?_;refine sP (.string (mkS substr2)) hs λ_ hs=>?_;exact hS.elim
            ·refine Wp.join (λa w=>∃(x39:Bool),Sx 143 E [] M w a [(0,(.string (mkS s1))),(1,(.string (mkS substr2))),(5,(iv (substr2.length:Int))),(6,(.int .u8 (c9.toNat:Int))),(7,(.int .u8 (c10.toNat:Int))),(8,(iv (i31+1))),(9,(iv (((s1.length:Int)-(substr2.length:Int))+1))),(10,(iv (fails26+1))),(132,(.bool x39))] [] []/\(S_internal_stringslite_Index_J6 s1 substr2 M i25 fails26 I27 mu28 i31 x39 K)) ?_ ?_
             ·refine qg (sP (iv (substr2.length:Int)) hs λ_ hs=>?_);obtain⟨x38,hat,hS⟩:=hS;refine sV1 (iv x38) hat hs λ_ hs=>?_;refine sP2 (.bool (decide ((substr2.length:Int)>x38))) (.bool (decide ((substr2.length:Int)>x38))) hs λ_ hs=>?_;refine bsS decide_eq_true_iff hs hS (λhs hS=>?_) (λhs hS=>?_)
              ·refine ye (iv (fails26+1)) hs λ_ hs=>?_;refine ye (iv (i31+1)) hs λ_ hs=>?_;refine ye (iv (bShr .i64 (i31+1) 4)) hs λ_ hs=>?_;refine sYe hs ?_;obtain⟨hI,hS⟩:=hS;refine sY (iv (4+(bShr .i64 (i31+1) 4))) hs (Yl.wr hI) λ_ hs=>?_;refine ye (.bool (decide (fails26+1>=4+(bShr .i64 (i31+1) 4)))) hs λ_ hs=>?_;refine sP2 (.bool (decide (fails26+1>=4+(bShr .i64 (i31+1) 4)))) (.bool (decide (fails26+1>=4+(bShr .i64 (i31+1) 4)))) hs λ_ hs=>?_;refine bsS decide_eq_true_iff hs hS (λhs hS=>?_) (λhs hS=>?_)
               ·refine ye (iv (i31+1)) hs λ_ hs=>?_;refine ye (iv (((s1.length:Int)-(substr2.length:Int))+1)) hs λ_ hs=>?_;refine ye (.bool (decide (i31+1<((s1.length:Int)-(substr2.length:Int))+1))) hs λ_ hs=>?_;refine sP (.bool (decide (i31+1<((s1.length:Int)-(substr2.length:Int))+1))) hs λ_ hs=>?_;exact wn (⟨(decide (i31+1<((s1.length:Int)-(substr2.length:Int))+1)),hs.q,hS⟩)
               ·repeat (first|refine sNo hs λ_ hs=>?_|refine sNu hs λ_ hs=>?_)
                refine sP (.bool false) hs λ_ hs=>?_;exact wn (⟨false,hs.q,hS⟩)
              ·repeat (first|refine sNo hs λ_ hs=>?_|refine sNu hs λ_ hs=>?_)
               refine sP2 (.bool false) (.bool false) hs λ_ hs=>?_;repeat (first|refine sNo hs λ_ hs=>?_|refine sNu hs λ_ hs=>?_)
               refine sP (.bool false) hs λ_ hs=>?_;exact wn (⟨false,hs.q,hS⟩)
             ·intro a w hJ;obtain⟨x39,hs,hS⟩:=hJ;unfold S_internal_stringslite_Index_J6 at hS;refine Wp.cS hs Iff.rfl hS (λhS=>?_) (λhS=>?_)
              ·refine qr (sP2 (.string (mkS s1)) (iv (i31+1)) hs λ_ hs=>?_);obtain⟨h0,h1,h2,hS⟩:=hS;refine sY (.string (mkS ((s1.take (s1.length:Int).toNat).drop (i31+1).toNat))) hs (Yl.sliceStrL rfl rfl rfl rfl (by kernel_rfl) h0 h1 h2) λ_ hs=>?_;refine sP (.string (mkS substr2)) hs λ_ hs=>?_;refine cP [(.string (mkS ((s1.take (s1.length:Int).toNat).drop (i31+1).toNat))),(.string (mkS substr2))] hs Tryd.func145 hS λ_ _ v hS hs=>?_;obtain⟨x40,rfl,hS⟩:=hS;refine sP (iv x40) hs λ_ hs=>?_;refine wn (qs (qr (sP2 (iv x40) (.bool (decide (x40<0))) hs λ_ hs=>?_)));refine wn (Wp.cS hs decide_eq_true_iff hS (λhS=>?_) (λhS=>?_))
               ·refine qr (sP (iv (-1)) hs λ_ hs=>?_);exact wn (qt (rT hs hMM hS))
               ·refine qk (qr (sP2 (iv (i31+1)) (iv x40) hs λ_ hs=>?_));obtain⟨hI,hS⟩:=hS;refine sY (iv ((i31+1)+x40)) hs (Yl.wr hI) λ_ hs=>?_;refine sP (iv ((i31+1)+x40)) hs λ_ hs=>?_;exact wn (qt (rT hs hMM hS))
              ·exact qk (⟨(i31+1,fails26+1),⟨hs.q,hS.1⟩,hS.2⟩)
       ·refine qx rfl (qr (sP (iv (-1)) hs λ_ hs=>?_));exact wn (qt (rT hs hMM hS))
def S_strings_Index (s1:List UInt8) (substr2:List UInt8) (M:Mem) (K:Value->Prop):Prop:=
 (CallE Tryd.prog 127 #[(.string (mkS s1)),(.string (mkS substr2))] M (λv _=>∃(x3:Int),v=(Value.int .i64 x3)/\K (Value.int .i64 x3)))
set_option maxRecDepth 100000 in
theorem s_strings_Index (s1:List UInt8) (substr2:List UInt8) (M:Mem) (K:Value->Prop) (hS:S_strings_Index s1 substr2 M K):CallE Tryd.prog 96 #[(Value.string (mkS s1)),(Value.string (mkS substr2))] M (λv _=>K v):=by
 refine eE2 Tryd.func96 8 λE a hMM hs=>?_;unfold S_strings_Index at hS;refine qr (sP (iv 0) hs λ_ hs=>?_);refine wn (qr (sP2 (.string (mkS s1)) (.string (mkS substr2)) hs λ_ hs=>?_));refine cP [(.string (mkS s1)),(.string (mkS substr2))] hs Tryd.func127 hS λ_ _ v hS hs=>?_;obtain⟨x3,rfl,hS⟩:=hS;refine sP (iv x3) hs λ_ hs=>?_;exact wn (qt (rT hs hMM hS))
def S_strings_Contains (s1:List UInt8) (substr2:List UInt8) (M:Mem) (K:Value->Prop):Prop:=
 (CallE Tryd.prog 96 #[(.string (mkS s1)),(.string (mkS substr2))] M (λv _=>∃(x3:Int),v=(Value.int .i64 x3)/\K (Value.bool (decide (x3>=0)))))
set_option maxRecDepth 100000 in
theorem s_strings_Contains (s1:List UInt8) (substr2:List UInt8) (M:Mem) (K:Value->Prop) (hS:S_strings_Contains s1 substr2 M K):CallE Tryd.prog 105 #[(Value.string (mkS s1)),(Value.string (mkS substr2))] M (λv _=>K v):=by
 refine eE2 Tryd.func105 9 λE a hMM hs=>?_;unfold S_strings_Contains at hS;refine qr (sP (.bool false) hs λ_ hs=>?_);refine wn (qr (sP2 (.string (mkS s1)) (.string (mkS substr2)) hs λ_ hs=>?_));refine cP [(.string (mkS s1)),(.string (mkS substr2))] hs Tryd.func96 hS λ_ _ v hS hs=>?_;obtain⟨x3,rfl,hS⟩:=hS;refine sP2 (.bool (decide (x3>=0))) (.bool (decide (x3>=0))) hs λ_ hs=>?_;exact wn (qt (rT hs hMM hS))
end Go.Proofs.YtjecddabdlapbaaDoor.core

namespace Go.Proofs.YtjecddabdlapbaaDoor.core
open Go.Gx Go.RowKit Go.ChangeShapes Go.WideShapes Go.ChangeAt
set_option linter.unusedVariables false
def S_quote_next_J2 (x11:Int) (x12:Int) (x13:Bool) (K:Value->Prop):Prop:=
 ((x13=true->K (Value.tuple #[(.int .u8 (IntKind.wrap .u8 (bOr .i64 (bShl .i64 x11 4) x12))),(.int .i64 4)]))/\(¬(x13=true)->K (Value.tuple #[(.int .u8 0),(.int .i64 0)])))
def S_quote_next_J1 (s1:List UInt8) (M:Mem) (x8:Bool) (K:Value->Prop):Prop:=
 ((x8=true->(∃c9:UInt8,(0:Int)<=2/\s1[(2:Int).toNat]?=some c9/\(∃c10:UInt8,(0:Int)<=3/\s1[(3:Int).toNat]?=some c10/\(CallE Tryd.prog 57 #[(.string (mkS ([48,49,50,51,52,53,54,55,56,57,97,98,99,100,101,102]:List UInt8))),(.int .u8 (c9.toNat:Int))] M (λv _=>∃(x11:Int),v=(Value.int .i64 x11)/\(CallE Tryd.prog 57 #[(.string (mkS ([48,49,50,51,52,53,54,55,56,57,97,98,99,100,101,102]:List UInt8))),(.int .u8 (c10.toNat:Int))] M (λv _=>∃(x12:Int),v=(Value.int .i64 x12)/\((x11>=0->(S_quote_next_J2 x11 x12 (decide (x12>=0)) K))/\(¬(x11>=0)->(S_quote_next_J2 x11 x12 false K))))))))))/\(¬(x8=true)->K (Value.tuple #[(.int .u8 0),(.int .i64 0)])))
def S_quote_next (s1:List UInt8) (signs2:List UInt8) (M:Mem) (K:Value->Prop):Prop:=
 (∃c3:UInt8,(0:Int)<=0/\s1[(0:Int).toNat]?=some c3/\(((c3.toNat:Int)≠92->(∃c4:UInt8,(0:Int)<=0/\s1[(0:Int).toNat]?=some c4/\(((c4.toNat:Int)=10->K (Value.tuple #[(.int .u8 0),(.int .i64 0)]))/\(¬((c4.toNat:Int)=10)->(∃c5:UInt8,(0:Int)<=0/\s1[(0:Int).toNat]?=some c5/\K (Value.tuple #[(.int .u8 (c5.toNat:Int)),(.int .i64 1)]))))))/\(¬((c3.toNat:Int)≠92)->((((s1.length:Nat):Int)<2->K (Value.tuple #[(.int .u8 0),(.int .i64 0)]))/\(¬(((s1.length:Nat):Int)<2)->(∃c6:UInt8,(0:Int)<=1/\s1[(1:Int).toNat]?=some c6/\(((c6.toNat:Int)=110->K (Value.tuple #[(.int .u8 10),(.int .i64 2)]))/\(¬((c6.toNat:Int)=110)->(((c6.toNat:Int)=116->K (Value.tuple #[(.int .u8 9),(.int .i64 2)]))/\(¬((c6.toNat:Int)=116)->(CallE Tryd.prog 57 #[(.string (mkS signs2)),(.int .u8 (c6.toNat:Int))] M (λv _=>∃(x7:Int),v=(Value.int .i64 x7)/\((x7>=0->K (Value.tuple #[(.int .u8 (c6.toNat:Int)),(.int .i64 2)]))/\(¬(x7>=0)->(((c6.toNat:Int)=120->(S_quote_next_J1 s1 M (decide (((s1.length:Nat):Int)>=4)) K))/\(¬((c6.toNat:Int)=120)->(S_quote_next_J1 s1 M false K)))))))))))))))))
set_option maxRecDepth 100000 in
theorem s_quote_next (s1:List UInt8) (signs2:List UInt8) (M:Mem) (K:Value->Prop) (hS:S_quote_next s1 signs2 M K):CallE Tryd.prog 60 #[(Value.string (mkS s1)),(Value.string (mkS signs2))] M (λv _=>K v):=by
 refine eE2 Tryd.func60 59 λE a hMM hs=>?_;unfold S_quote_next at hS;refine qr (sP2 (.int .u8 0) (iv 0) hs λ_ hs=>?_);refine wn (qs (qr (sP (.string (mkS s1)) hs λ_ hs=>?_)));obtain⟨c3,h0,hi,hS⟩:=hS;refine sY (.int .u8 (c3.toNat:Int)) hs (Yl.indexStr rfl rfl rfl rfl (by kernel_rfl) h0 hi) λ_ hs=>?_;refine sP (.bool ((c3.toNat:Int) != (92:Int))) hs λ_ hs=>?_;refine wn (Wp.cS hs bne_iff_ne hS (λhS=>?_) (λhS=>?_))
 ·refine qs (qr (sP (.string (mkS s1)) hs λ_ hs=>?_));obtain⟨c4,h0,hi,hS⟩:=hS;refine sY (.int .u8 (c4.toNat:Int)) hs (Yl.indexStr rfl rfl rfl rfl (by kernel_rfl) h0 hi) λ_ hs=>?_;refine sP (.bool ((c4.toNat:Int)==(10:Int))) hs λ_ hs=>?_;refine wn (Wp.cS hs beq_iff_eq hS (λhS=>?_) (λhS=>?_))
  ·refine qr (sP2 (.int .u8 0) (iv 0) hs λ_ hs=>?_);exact wn (qt (rTT hs hMM hS))
  ·refine qk (qr (sP (.string (mkS s1)) hs λ_ hs=>?_));obtain⟨c5,h0,hi,hS⟩:=hS;refine sY (.int .u8 (c5.toNat:Int)) hs (Yl.indexStr rfl rfl rfl rfl (by kernel_rfl) h0 hi) λ_ hs=>?_;refine sP2 (.int .u8 (c5.toNat:Int)) (iv 1) hs λ_ hs=>?_;exact wn (qt (rTT hs hMM hS))
 ·refine qk (qs (qr (sP3 (.string (mkS s1)) (iv (s1.length:Int)) (.bool (decide ((s1.length:Int)<2))) hs λ_ hs=>?_)));refine wn (Wp.cS hs decide_eq_true_iff hS (λhS=>?_) (λhS=>?_))
  ·refine qr (sP2 (.int .u8 0) (iv 0) hs λ_ hs=>?_);exact wn (qt (rTT hs hMM hS))
  ·refine qk (qs (qr (sP (.string (mkS s1)) hs λ_ hs=>?_)));obtain⟨c6,h0,hi,hS⟩:=hS;refine sY (.int .u8 (c6.toNat:Int)) hs (Yl.indexStr rfl rfl rfl rfl (by kernel_rfl) h0 hi) λ_ hs=>?_;refine sP (.int .u8 (c6.toNat:Int)) hs λ_ hs=>?_;refine wn (qb (qr (sP3 (.int .u8 (c6.toNat:Int)) (.bool ((c6.toNat:Int)==(110:Int))) (.bool ((c6.toNat:Int)==(110:Int))) hs λ_ hs=>?_)));refine wn (Wp.cS hs beq_iff_eq hS (λhS=>?_) (λhS=>?_))
   ·refine qr (sP2 (.int .u8 10) (iv 2) hs λ_ hs=>?_);exact wn (qt (rTT hs hMM hS))
   ·refine qr (sP3 (.int .u8 (c6.toNat:Int)) (.bool ((c6.toNat:Int)==(116:Int))) (.bool ((c6.toNat:Int)==(116:Int))) hs λ_ hs=>?_);refine wn (Wp.cS hs beq_iff_eq hS (λhS=>?_) (λhS=>?_))
    ·refine qr (sP2 (.int .u8 9) (iv 2) hs λ_ hs=>?_);exact wn (qt (rTT hs hMM hS))
    ·refine qr (sP2 (.string (mkS signs2)) (.int .u8 (c6.toNat:Int)) hs λ_ hs=>?_);refine cP [(.string (mkS signs2)),(.int .u8 (c6.toNat:Int))] hs Tryd.func57 hS λ_ _ v hS hs=>?_;obtain⟨x7,rfl,hS⟩:=hS;refine sP2 (.bool (decide (x7>=0))) (.bool (decide (x7>=0))) hs λ_ hs=>?_;refine wn (Wp.cS hs decide_eq_true_iff hS (λhS=>?_) (λhS=>?_))
     ·refine qr (sP3 (.int .u8 (c6.toNat:Int)) (.int .u8 (c6.toNat:Int)) (iv 2) hs λ_ hs=>?_);exact wn (qt (rTT hs hMM hS))
     ·refine Wp.join (λa w=>∃(x8:Bool),Sx 59 E [] M w a [(0,(.string (mkS s1))),(34,(.bool x8))] [] []/\(S_quote_next_J1 s1 M x8 K)) ?_ ?_
      ·refine qg (sP3 (.int .u8 (c6.toNat:Int)) (.bool ((c6.toNat:Int)==(120:Int))) (.bool ((c6.toNat:Int)==(120:Int))) hs λ_ hs=>?_);refine bsS beq_iff_eq hs hS (λhs hS=>?_) (λhs hS=>?_)
       ·refine ye (.string (mkS s1)) hs λ_ hs=>?_;refine ye (iv (s1.length:Int)) hs λ_ hs=>?_;refine ye (.bool (decide ((s1.length:Int)>=4))) hs λ_ hs=>?_;refine sP2 (.bool (decide ((s1.length:Int)>=4))) (.bool (decide ((s1.length:Int)>=4))) hs λ_ hs=>?_;exact wn (⟨(decide ((s1.length:Int)>=4)),hs.q,hS⟩)
       ·repeat (first|refine sNo hs λ_ hs=>?_|refine sNu hs λ_ hs=>?_)
        refine sP2 (.bool false) (.bool false) hs λ_ hs=>?_;exact wn (⟨false,hs.q,hS⟩)
      ·intro a w hJ;obtain⟨x8,hs,hS⟩:=hJ;unfold S_quote_next_J1 at hS;refine Wp.cS hs Iff.rfl hS (λhS=>?_) (λhS=>?_)
       ·refine qs (Wp.regionD [true,true,true,true,true,true,true,true] hs (by kernel_rfl) rfl [] (λ_ h=>h) [] (λ_ h=>h) (λ_ hs hC=>?_));have hL:=Mem.le.refl M;refine dA (Value.string (mkS s1)) 0 [1,2,5,6,7] hs λ_ hs=>?_;obtain⟨c9,h0,hi,hS⟩:=hS;refine dF (.int .u8 (c9.toNat:Int)) 1 [2,5,6,7] hs rfl (Yl.indexStr rfl rfl rfl rfl (by kernel_rfl) h0 hi) λ_ hs=>?_;refine dA (Value.string (mkS s1)) 3 [4,5,6,7] hs λ_ hs=>?_;obtain⟨c10,h0,hi,hS⟩:=hS;refine dF (.int .u8 (c10.toNat:Int)) 4 [5,6,7] hs rfl (Yl.indexStr rfl rfl rfl rfl (by kernel_rfl) h0 hi) λ_ hs=>?_;refine sE 2 ?_;refine cP [(.string (mkS ([48,49,50,51,52,53,54,55,56,57,97,98,99,100,101,102]:List UInt8))),(.int .u8 (c9.toNat:Int))] hs Tryd.func57 hS λ_ _ v hS hs=>?_;obtain⟨x11,rfl,hS⟩:=hS;refine wn (⟨λ_ _=>hs.cxle hL (List.Sublist.refl _) (List.Sublist.refl _),?_⟩);have hC:=hs.cxle hL (List.Sublist.refl _) (List.Sublist.refl _);refine sE 5 ?_;refine cP [(.string (mkS ([48,49,50,51,52,53,54,55,56,57,97,98,99,100,101,102]:List UInt8))),(.int .u8 (c10.toNat:Int))] hs Tryd.func57 hS λ_ _ v hS hs=>?_;obtain⟨x12,rfl,hS⟩:=hS;refine wn (⟨λ_ _=>hs.cxle hL (List.Sublist.refl _) (List.Sublist.refl _),?_⟩);have hC:=hs.cxle hL (List.Sublist.refl _) (List.Sublist.refl _);refine sE 6 ?_;refine sP (iv x11) hs λ_ hs=>?_
        refine nE 7 ?_;refine sP (iv x12) hs λ_ hs=>?_;refine wN ?_;refine dD ?_;refine Wp.join (λa w=>∃(x13:Bool),Sx 59 E [] M w a [(7,(iv x11)),(8,(iv x12)),(53,(.bool x13))] [] []/\(S_quote_next_J2 x11 x12 x13 K)) ?_ ?_
        ·refine qg (sP3 (iv x11) (.bool (decide (x11>=0))) (.bool (decide (x11>=0))) hs λ_ hs=>?_);refine bsS decide_eq_true_iff hs hS (λhs hS=>?_) (λhs hS=>?_)
         ·refine ye (iv x12) hs λ_ hs=>?_;refine ye (.bool (decide (x12>=0))) hs λ_ hs=>?_;refine sP (.bool (decide (x12>=0))) hs λ_ hs=>?_;exact wn (⟨(decide (x12>=0)),hs.q,hS⟩)
         ·refine sNo hs λ_ hs=>?_;refine sNo hs λ_ hs=>?_;refine sP (.bool false) hs λ_ hs=>?_;exact wn (⟨false,hs.q,hS⟩)
        ·intro a w hJ;obtain⟨x13,hs,hS⟩:=hJ;unfold S_quote_next_J2 at hS;refine Wp.cS hs Iff.rfl hS (λhS=>?_) (λhS=>?_)
         ·refine qr (sP4 (iv x11) (iv (bShl .i64 x11 4)) (iv x12) (iv (bOr .i64 (bShl .i64 x11 4) x12)) hs λ_ hs=>?_);refine sP3 (.int .u8 (IntKind.wrap .u8 (bOr .i64 (bShl .i64 x11 4) x12))) (.int .u8 (IntKind.wrap .u8 (bOr .i64 (bShl .i64 x11 4) x12))) (iv 4) hs λ_ hs=>?_;exact wn (qt (rTT hs hMM hS))
         ·refine qk (qr (sP2 (.int .u8 0) (iv 0) hs λ_ hs=>?_));exact wn (qt (rTT hs hMM hS))
       ·refine qk (qr (sP2 (.int .u8 0) (iv 0) hs λ_ hs=>?_));exact wn (qt (rTT hs hMM hS))
def S_chaffref_value (b1:Int) (M:Mem) (K:Value->Prop):Prop:=
 (∃(x3:List UInt8),[(.int .u8 b1)]=bytesV x3/\(CallE Tryd.prog 96 #[(.string (mkS ([48,49,50,51,52,53,54,55,56,57,97,98,99,100,101,102]:List UInt8))),(.string (mkS x3))] M (λv _=>∃(x4:Int),v=(Value.int .i64 x4)/\K (Value.int .i64 x4))))
set_option maxRecDepth 100000 in
theorem s_chaffref_value (b1:Int) (M:Mem) (K:Value->Prop) (hS:S_chaffref_value b1 M K):CallE Tryd.prog 104 #[(Value.int .u8 b1)] M (λv _=>K v):=by
 refine eE1 Tryd.func104 7 λE a hMM hs=>?_;unfold S_chaffref_value at hS;refine qr (sP (iv 0) hs λ_ hs=>?_);refine wn (qr (sP (.int .u8 b1) hs λ_ hs=>?_));refine stepMake [(.int .u8 b1)] 5 1 1 hs rfl rfl rfl (λ_=>by kernel_rfl) rfl (by unfold maxLen;decide) (by decide) (λ_ _ rv2 hs=>?_);obtain⟨x3,hb,hS⟩:=hS;refine sY (.string (mkS x3)) hs (Yl.bytesR (l:=x3) (e':=5) 0 (by rw[<-hb];rfl) rfl rfl (by kernel_rfl) (by kernel_rfl) (by kernel_rfl)) λ_ hs=>?_;refine cP [(.string (mkS ([48,49,50,51,52,53,54,55,56,57,97,98,99,100,101,102]:List UInt8))),(.string (mkS x3))] hs Tryd.func96 hS λ_ _ v hS hs=>?_;obtain⟨x4,rfl,hS⟩:=hS;refine sP (iv x4) hs λ_ hs=>?_;exact wn (qt (rT hs hMM hS))
def S_chaffref_said_J2 (s1:List UInt8) (M:Mem) (x14:Bool) (K:Value->Prop):Prop:=
 ((x14=true->K (Value.tuple #[(.int .i64 0),(.int .i64 0)]))/\(¬(x14=true)->(∃c15:UInt8,(0:Int)<=2/\s1[(2:Int).toNat]?=some c15/\(∃c16:UInt8,(0:Int)<=3/\s1[(3:Int).toNat]?=some c16/\(CallE Tryd.prog 104 #[(.int .u8 (c15.toNat:Int))] M (λv _=>∃(x17:Int),v=(Value.int .i64 x17)/\(InI (16*x17)/\(CallE Tryd.prog 104 #[(.int .u8 (c16.toNat:Int))] M (λv _=>∃(x18:Int),v=(Value.int .i64 x18)/\(InI ((16*x17)+x18)/\K (Value.tuple #[(.int .i64 ((16*x17)+x18)),(.int .i64 4)])))))))))))
def S_chaffref_said_J3 (s1:List UInt8) (x21:Bool) (K:Value->Prop):Prop:=
 ((x21=true->(∃c22:UInt8,(0:Int)<=1/\s1[(1:Int).toNat]?=some c22/\K (Value.tuple #[(.int .i64 (IntKind.wrap .i64 (c22.toNat:Int))),(.int .i64 2)])))/\(¬(x21=true)->K (Value.tuple #[(.int .i64 0),(.int .i64 0)])))
def S_chaffref_said_J1 (s1:List UInt8) (signs2:List UInt8) (M:Mem) (x4:Bool) (K:Value->Prop):Prop:=
 ((x4=true->K (Value.tuple #[(.int .i64 0),(.int .i64 0)]))/\(¬(x4=true)->(∃c5:UInt8,(0:Int)<=0/\s1[(0:Int).toNat]?=some c5/\(((c5.toNat:Int)≠92->(∃c6:UInt8,(0:Int)<=0/\s1[(0:Int).toNat]?=some c6/\K (Value.tuple #[(.int .i64 (IntKind.wrap .i64 (c6.toNat:Int))),(.int .i64 1)])))/\(¬((c5.toNat:Int)≠92)->((((s1.length:Nat):Int)=1->K (Value.tuple #[(.int .i64 0),(.int .i64 0)]))/\(¬(((s1.length:Nat):Int)=1)->(∃c7:UInt8,(0:Int)<=1/\s1[(1:Int).toNat]?=some c7/\(((c7.toNat:Int)=110->K (Value.tuple #[(.int .i64 10),(.int .i64 2)]))/\(¬((c7.toNat:Int)=110)->(∃c8:UInt8,(0:Int)<=1/\s1[(1:Int).toNat]?=some c8/\(((c8.toNat:Int)=116->K (Value.tuple #[(.int .i64 9),(.int .i64 2)]))/\(¬((c8.toNat:Int)=116)->(∃c9:UInt8,(0:Int)<=1/\s1[(1:Int).toNat]?=some c9/\(((c9.toNat:Int)=120->((((s1.length:Nat):Int)<4->(S_chaffref_said_J2 s1 M true K))/\(¬(((s1.length:Nat):Int)<4)->(∃c10:UInt8,(0:Int)<=2/\s1[(2:Int).toNat]?=some c10/\(CallE Tryd.prog 104 #[(.int .u8 (c10.toNat:Int))] M (λv _=>∃(x11:Int),v=(Value.int .i64 x11)/\((x11<0->(S_chaffref_said_J2 s1 M true K))/\(¬(x11<0)->(∃c12:UInt8,(0:Int)<=3/\s1[(3:Int).toNat]?=some c12/\(CallE Tryd.prog 104 #[(.int .u8 (c12.toNat:Int))] M (λv _=>∃(x13:Int),v=(Value.int .i64 x13)/\(S_chaffref_said_J2 s1 M (decide (x13<0)) K))))))))))))/\(¬((c9.toNat:Int)=120)->((0:Int)<=1/\(1:Int)<=2/\(2:Int)<=((s1.length:Nat):Int)/\(CallE Tryd.prog 105 #[(.string (mkS signs2)),(.string (mkS ((s1.take (2:Int).toNat).drop (1:Int).toNat)))] M (λv _=>∃(x19:Bool),v=(Value.bool x19)/\((x19=true->(∃c20:UInt8,(0:Int)<=1/\s1[(1:Int).toNat]?=some c20/\(S_chaffref_said_J3 s1 (decide ((c20.toNat:Int)<128)) K)))/\(¬(x19=true)->(S_chaffref_said_J3 s1 false K))))))))))))))))))))))
def S_chaffref_said (s1:List UInt8) (signs2:List UInt8) (M:Mem) (K:Value->Prop):Prop:=
 ((s1=([]:List UInt8)->(S_chaffref_said_J1 s1 signs2 M true K))/\(¬(s1=([]:List UInt8))->(∃c3:UInt8,(0:Int)<=0/\s1[(0:Int).toNat]?=some c3/\(S_chaffref_said_J1 s1 signs2 M ((c3.toNat:Int)==(10:Int)) K))))
set_option maxRecDepth 100000 in
theorem s_chaffref_said (s1:List UInt8) (signs2:List UInt8) (M:Mem) (K:Value->Prop) (hS:S_chaffref_said s1 signs2 M K):CallE Tryd.prog 63 #[(Value.string (mkS s1)),(Value.string (mkS signs2))] M (λv _=>K v):=by
 refine eE2 Tryd.func63 73 λE a hMM hs=>?_;unfold S_chaffref_said at hS;refine qr (sP2 (iv 0) (iv 0) hs λ_ hs=>?_);refine wn (qs (qb (Wp.join (λa w=>∃(x4:Bool),Sx 73 E [] M w a [(0,(.string (mkS s1))),(1,(.string (mkS signs2))),(6,(.bool x4))] [] []/\(S_chaffref_said_J1 s1 signs2 M x4 K)) ?_ ?_)))
 ·refine qg (sP3 (.string (mkS s1)) (.bool ((mkS s1).toList==(mkS ([]:List UInt8)).toList)) (.bool ((mkS s1).toList==(mkS ([]:List UInt8)).toList)) hs λ_ hs=>?_);refine bsS mkS_beq hs hS (λhs hS=>?_) (λhs hS=>?_)
  ·repeat (first|refine sNo hs λ_ hs=>?_|refine sNu hs λ_ hs=>?_)
   refine sP2 (.bool true) (.bool true) hs λ_ hs=>?_;exact wn (⟨true,hs.q,hS⟩)
  ·refine ye (.string (mkS s1)) hs λ_ hs=>?_;refine sYe hs ?_;obtain⟨c3,h0,hi,hS⟩:=hS;refine sY (.int .u8 (c3.toNat:Int)) hs (Yl.indexStr rfl rfl rfl rfl (by kernel_rfl) h0 hi) λ_ hs=>?_;refine ye (.bool ((c3.toNat:Int)==(10:Int))) hs λ_ hs=>?_;refine sP2 (.bool ((c3.toNat:Int)==(10:Int))) (.bool ((c3.toNat:Int)==(10:Int))) hs λ_ hs=>?_;exact wn (⟨((c3.toNat:Int)==(10:Int)),hs.q,hS⟩)
 ·intro a w hJ;obtain⟨x4,hs,hS⟩:=hJ;unfold S_chaffref_said_J1 at hS;refine Wp.cS hs Iff.rfl hS (λhS=>?_) (λhS=>?_)
  ·refine qr (sP2 (iv 0) (iv 0) hs λ_ hs=>?_);exact wn (qt (rTT hs hMM hS))
  ·refine qr (sP (.string (mkS s1)) hs λ_ hs=>?_);obtain⟨c5,h0,hi,hS⟩:=hS;refine sY (.int .u8 (c5.toNat:Int)) hs (Yl.indexStr rfl rfl rfl rfl (by kernel_rfl) h0 hi) λ_ hs=>?_;refine sP2 (.bool ((c5.toNat:Int) != (92:Int))) (.bool ((c5.toNat:Int) != (92:Int))) hs λ_ hs=>?_;refine wn (Wp.cS hs bne_iff_ne hS (λhS=>?_) (λhS=>?_))
   ·refine qr (sP (.string (mkS s1)) hs λ_ hs=>?_);obtain⟨c6,h0,hi,hS⟩:=hS;refine sY (.int .u8 (c6.toNat:Int)) hs (Yl.indexStr rfl rfl rfl rfl (by kernel_rfl) h0 hi) λ_ hs=>?_;refine sP3 (iv (IntKind.wrap .i64 (c6.toNat:Int))) (iv (IntKind.wrap .i64 (c6.toNat:Int))) (iv 1) hs λ_ hs=>?_;exact wn (qt (rTT hs hMM hS))
   ·refine qr (sP4 (.string (mkS s1)) (iv (s1.length:Int)) (.bool ((s1.length:Int)==(1:Int))) (.bool ((s1.length:Int)==(1:Int))) hs λ_ hs=>?_);refine wn (Wp.cS hs beq_iff_eq hS (λhS=>?_) (λhS=>?_))
    ·refine qr (sP2 (iv 0) (iv 0) hs λ_ hs=>?_);exact wn (qt (rTT hs hMM hS))
    ·refine qr (sP (.string (mkS s1)) hs λ_ hs=>?_);obtain⟨c7,h0,hi,hS⟩:=hS;refine sY (.int .u8 (c7.toNat:Int)) hs (Yl.indexStr rfl rfl rfl rfl (by kernel_rfl) h0 hi) λ_ hs=>?_;refine sP2 (.bool ((c7.toNat:Int)==(110:Int))) (.bool ((c7.toNat:Int)==(110:Int))) hs λ_ hs=>?_;refine wn (Wp.cS hs beq_iff_eq hS (λhS=>?_) (λhS=>?_))
     ·refine qr (sP2 (iv 10) (iv 2) hs λ_ hs=>?_);exact wn (qt (rTT hs hMM hS))
     ·refine qr (sP (.string (mkS s1)) hs λ_ hs=>?_);obtain⟨c8,h0,hi,hS⟩:=hS;refine sY (.int .u8 (c8.toNat:Int)) hs (Yl.indexStr rfl rfl rfl rfl (by kernel_rfl) h0 hi) λ_ hs=>?_;refine sP2 (.bool ((c8.toNat:Int)==(116:Int))) (.bool ((c8.toNat:Int)==(116:Int))) hs λ_ hs=>?_;refine wn (Wp.cS hs beq_iff_eq hS (λhS=>?_) (λhS=>?_))
      ·refine qr (sP2 (iv 9) (iv 2) hs λ_ hs=>?_);exact wn (qt (rTT hs hMM hS))
      ·refine qr (sP (.string (mkS s1)) hs λ_ hs=>?_);obtain⟨c9,h0,hi,hS⟩:=hS;refine sY (.int .u8 (c9.toNat:Int)) hs (Yl.indexStr rfl rfl rfl rfl (by kernel_rfl) h0 hi) λ_ hs=>?_;refine sP2 (.bool ((c9.toNat:Int)==(120:Int))) (.bool ((c9.toNat:Int)==(120:Int))) hs λ_ hs=>?_;refine wn (Wp.cS hs beq_iff_eq hS (λhS=>?_) (λhS=>?_))
       ·refine qs (Wp.join (λa w=>∃(x14:Bool),Sx 73 E [] M w a [(0,(.string (mkS s1))),(51,(.bool x14))] [] []/\(S_chaffref_said_J2 s1 M x14 K)) ?_ ?_)
        ·refine qg (sP4 (.string (mkS s1)) (iv (s1.length:Int)) (.bool (decide ((s1.length:Int)<4))) (.bool (decide ((s1.length:Int)<4))) hs λ_ hs=>?_);refine bsS decide_eq_true_iff hs hS (λhs hS=>?_) (λhs hS=>?_)
         ·repeat (first|refine sNo hs λ_ hs=>?_|refine sNu hs λ_ hs=>?_)
          refine sP2 (.bool true) (.bool true) hs λ_ hs=>?_;repeat (first|refine sNo hs λ_ hs=>?_|refine sNu hs λ_ hs=>?_)
          refine sP (.bool true) hs λ_ hs=>?_;exact wn (⟨true,hs.q,hS⟩)
         ·refine ye (.string (mkS s1)) hs λ_ hs=>?_;refine sYe hs ?_;obtain⟨c10,h0,hi,hS⟩:=hS;refine sY (.int .u8 (c10.toNat:Int)) hs (Yl.indexStr rfl rfl rfl rfl (by kernel_rfl) h0 hi) λ_ hs=>?_;refine sYe hs (stepCallP [(.int .u8 (c10.toNat:Int))] hs rfl ⟨_,rfl,rfl⟩ rfl Tryd.func104 rfl (by kernel_rfl) (by decide) hS (λ_ _ v hS hs=>?_));obtain⟨x11,rfl,hS⟩:=hS;refine ye (.bool (decide (x11<0))) hs λ_ hs=>?_;refine sP2 (.bool (decide (x11<0))) (.bool (decide (x11<0))) hs λ_ hs=>?_;refine bsS decide_eq_true_iff hs hS (λhs hS=>?_) (λhs hS=>?_)
          ·repeat (first|refine sNo hs λ_ hs=>?_|refine sNu hs λ_ hs=>?_)
           refine sP (.bool true) hs λ_ hs=>?_;exact wn (⟨true,hs.q,hS⟩)
          ·refine ye (.string (mkS s1)) hs λ_ hs=>?_;refine sYe hs ?_;obtain⟨c12,h0,hi,hS⟩:=hS;refine sY (.int .u8 (c12.toNat:Int)) hs (Yl.indexStr rfl rfl rfl rfl (by kernel_rfl) h0 hi) λ_ hs=>?_;refine sYe hs (stepCallP [(.int .u8 (c12.toNat:Int))] hs rfl ⟨_,rfl,rfl⟩ rfl Tryd.func104 rfl (by kernel_rfl) (by decide) hS (λ_ _ v hS hs=>?_));obtain⟨x13,rfl,hS⟩:=hS;refine ye (.bool (decide (x13<0))) hs λ_ hs=>?_;refine sP (.bool (decide (x13<0))) hs λ_ hs=>?_;exact wn (⟨(decide (x13<0)),hs.q,hS⟩)
        ·intro a w hJ;obtain⟨x14,hs,hS⟩:=hJ;unfold S_chaffref_said_J2 at hS;refine Wp.cS hs Iff.rfl hS (λhS=>?_) (λhS=>?_)
         ·refine qr (sP2 (iv 0) (iv 0) hs λ_ hs=>?_);exact wn (qt (rTT hs hMM hS))
         ·refine qk (qs (Wp.regionD [true,true,true,true,true,true,true,true,true,true] hs (by kernel_rfl) rfl [] (λ_ h=>h) [] (λ_ h=>h) (λ_ hs hC=>?_)));have hL:=Mem.le.refl M;refine dA (Value.string (mkS s1)) 0 [1,2,3,6,7,8,9] hs λ_ hs=>?_;obtain⟨c15,h0,hi,hS⟩:=hS;refine dF (.int .u8 (c15.toNat:Int)) 1 [2,3,6,7,8,9] hs rfl (Yl.indexStr rfl rfl rfl rfl (by kernel_rfl) h0 hi) λ_ hs=>?_;refine dA (Value.string (mkS s1)) 4 [5,6,7,8,9] hs λ_ hs=>?_;obtain⟨c16,h0,hi,hS⟩:=hS;refine dF (.int .u8 (c16.toNat:Int)) 5 [6,7,8,9] hs rfl (Yl.indexStr rfl rfl rfl rfl (by kernel_rfl) h0 hi) λ_ hs=>?_;refine sE 2 ?_;refine cP [(.int .u8 (c15.toNat:Int))] hs Tryd.func104 hS λ_ _ v hS hs=>?_;obtain⟨x17,rfl,hS⟩:=hS;refine wn (⟨λ_ _=>hs.cxle hL (List.Sublist.refl _) (List.Sublist.refl _),?_⟩);have hC:=hs.cxle hL (List.Sublist.refl _) (List.Sublist.refl _);obtain⟨hI,hS⟩:=hS;refine dF (iv (16*x17)) 3 [7,8,9] hs rfl (Yl.wr hI) λ_ hs=>?_;refine sE 6 ?_;refine cP [(.int .u8 (c16.toNat:Int))] hs Tryd.func104 hS λ_ _ v hS hs=>?_;obtain⟨x18,rfl,hS⟩:=hS;refine wn (⟨λ_ _=>hs.cxle hL (List.Sublist.refl _) (List.Sublist.refl _),?_⟩);have hC:=hs.cxle hL (List.Sublist.refl _) (List.Sublist.refl _);refine sE 7 ?_;obtain⟨hI,hS⟩:=hS;refine sY (iv ((16*x17)+x18)) hs (Yl.wr hI) λ_ hs=>?_;refine nE 8 ?_
          refine sP (iv ((16*x17)+x18)) hs λ_ hs=>?_;refine nE 9 ?_;refine sP (iv 4) hs λ_ hs=>?_;refine wN ?_;refine dD ?_;exact qt (rTT hs hMM hS)
       ·refine Wp.join (λa w=>∃(x21:Bool),Sx 73 E [] M w a [(0,(.string (mkS s1))),(60,(.bool x21))] [] []/\(S_chaffref_said_J3 s1 x21 K)) ?_ ?_
        ·refine qg (sP2 (.string (mkS signs2)) (.string (mkS s1)) hs λ_ hs=>?_);obtain⟨h0,h1,h2,hS⟩:=hS;refine sY (.string (mkS ((s1.take (2:Int).toNat).drop (1:Int).toNat))) hs (Yl.sliceStrLH rfl rfl rfl rfl rfl rfl (by kernel_rfl) h0 h1 h2) λ_ hs=>?_;refine cP [(.string (mkS signs2)),(.string (mkS ((s1.take (2:Int).toNat).drop (1:Int).toNat)))] hs Tryd.func105 hS λ_ _ v hS hs=>?_;obtain⟨x19,rfl,hS⟩:=hS;refine sP (.bool x19) hs λ_ hs=>?_;refine bsS Iff.rfl hs hS (λhs hS=>?_) (λhs hS=>?_)
         ·refine ye (.string (mkS s1)) hs λ_ hs=>?_;refine sYe hs ?_;obtain⟨c20,h0,hi,hS⟩:=hS;refine sY (.int .u8 (c20.toNat:Int)) hs (Yl.indexStr rfl rfl rfl rfl (by kernel_rfl) h0 hi) λ_ hs=>?_;refine ye (.bool (decide ((c20.toNat:Int)<128))) hs λ_ hs=>?_;refine sP2 (.bool (decide ((c20.toNat:Int)<128))) (.bool (decide ((c20.toNat:Int)<128))) hs λ_ hs=>?_;exact wn (⟨(decide ((c20.toNat:Int)<128)),hs.q,hS⟩)
         ·repeat (first|refine sNo hs λ_ hs=>?_|refine sNu hs λ_ hs=>?_)
          refine sP2 (.bool false) (.bool false) hs λ_ hs=>?_;exact wn (⟨false,hs.q,hS⟩)
        ·intro a w hJ;obtain⟨x21,hs,hS⟩:=hJ;unfold S_chaffref_said_J3 at hS;refine Wp.cS hs Iff.rfl hS (λhS=>?_) (λhS=>?_)
         ·refine qr (sP (.string (mkS s1)) hs λ_ hs=>?_);obtain⟨c22,h0,hi,hS⟩:=hS;refine sY (.int .u8 (c22.toNat:Int)) hs (Yl.indexStr rfl rfl rfl rfl (by kernel_rfl) h0 hi) λ_ hs=>?_;refine sP3 (iv (IntKind.wrap .i64 (c22.toNat:Int))) (iv (IntKind.wrap .i64 (c22.toNat:Int))) (iv 2) hs λ_ hs=>?_;exact wn (qt (rTT hs hMM hS))
         ·refine qk (qr (sP2 (iv 0) (iv 0) hs λ_ hs=>?_));exact wn (qt (rTT hs hMM hS))
end Go.Proofs.YtjecddabdlapbaaDoor.core

namespace Go.Proofs.YtjecddabdlapbaaDoor.core
open Go.Gx Go.RowKit Go.ChangeShapes Go.WideShapes Go.ChangeAt
set_option linter.unusedVariables false
def S_quote_Undec_J1 (x2:Int) (x7:Bool) (K:Value->Prop):Prop:=
 ((x7=true->K (Value.tuple #[(.int .i64 0),(.int .i64 3)]))/\(¬(x7=true)->K (Value.tuple #[(.int .i64 x2),(.int .i64 0)])))
def S_quote_Undec (s1:List UInt8) (M:Mem) (K:Value->Prop):Prop:=
 (CallE Tryd.prog 87 #[(.string (mkS s1))] M (λv M4=>∃(x2:Int) (x3:Value),v=(Value.tuple #[(.int .i64 x2),x3])/\(∃nil5:Bool,IfNil x3 nil5/\((¬(nil5=true)->(S_quote_Undec_J1 x2 true K))/\(¬(¬(nil5=true))->((((s1.length:Nat):Int)>9->(S_quote_Undec_J1 x2 true K))/\(¬(((s1.length:Nat):Int)>9)->((x2<0->(S_quote_Undec_J1 x2 true K))/\(¬(x2<0)->(CallE Tryd.prog 88 #[(.int .i64 x2)] M4 (λv _=>∃(x6:List UInt8),v=(Value.string (mkS x6))/\(S_quote_Undec_J1 x2 (!((mkS x6).toList==(mkS s1).toList)) K))))))))))))
set_option maxRecDepth 100000 in
theorem s_quote_Undec (s1:List UInt8) (M:Mem) (K:Value->Prop) (hS:S_quote_Undec s1 M K):CallE Tryd.prog 44 #[(Value.string (mkS s1))] M (λv _=>K v):=by
 refine eE1 Tryd.func44 29 λE a hMM hs=>?_;unfold S_quote_Undec at hS;refine qr (sP2 (iv 0) (iv 0) hs λ_ hs=>?_);refine wn (qr (sP (.string (mkS s1)) hs λ_ hs=>?_));refine cM [(.string (mkS s1))] hs hMM Tryd.func87 hS λ_ _ M4 v hMM hle hS hs=>?_;obtain⟨x2,x3,rfl,hS⟩:=hS;refine sP4 (Value.tuple #[(iv x2),x3]) (iv x2) x3 (iv x2) hs λ_ hs=>?_;refine sP x3 hs λ_ hs=>?_;refine wn (qs (Wp.join (λa w=>∃(x7:Bool),Sx 29 E [] M4 w a [(4,(iv x2)),(27,(.bool x7))] [] []/\(S_quote_Undec_J1 x2 x7 K)) ?_ ?_))
 ·refine qg (sP x3 hs λ_ hs=>?_);obtain⟨nil5,hfn,hS⟩:=hS;refine sY (.bool (!nil5)) hs (Yl.ifNotNil rfl (by kernel_rfl) rfl hfn) λ_ hs=>?_;refine sP (.bool (!nil5)) hs λ_ hs=>?_;refine bsS (bnot_iff Iff.rfl) hs hS (λhs hS=>?_) (λhs hS=>?_)
  ·repeat (first|refine sNo hs λ_ hs=>?_|refine sNu hs λ_ hs=>?_)
   refine sP2 (.bool true) (.bool true) hs λ_ hs=>?_;refine sNo hs λ_ hs=>?_;refine sNo hs λ_ hs=>?_;refine sP2 (.bool true) (.bool true) hs λ_ hs=>?_;repeat (first|refine sNo hs λ_ hs=>?_|refine sNu hs λ_ hs=>?_)
   refine sP (.bool true) hs λ_ hs=>?_;exact wn (⟨true,hs.q,hS⟩)
  ·refine ye (.string (mkS s1)) hs λ_ hs=>?_;refine ye (iv (s1.length:Int)) hs λ_ hs=>?_;refine ye (.bool (decide ((s1.length:Int)>9))) hs λ_ hs=>?_;refine sP2 (.bool (decide ((s1.length:Int)>9))) (.bool (decide ((s1.length:Int)>9))) hs λ_ hs=>?_;refine bsS decide_eq_true_iff hs hS (λhs hS=>?_) (λhs hS=>?_)
   ·refine sNo hs λ_ hs=>?_;refine sNo hs λ_ hs=>?_;refine sP2 (.bool true) (.bool true) hs λ_ hs=>?_;repeat (first|refine sNo hs λ_ hs=>?_|refine sNu hs λ_ hs=>?_)
    refine sP (.bool true) hs λ_ hs=>?_;exact wn (⟨true,hs.q,hS⟩)
   ·refine ye (iv x2) hs λ_ hs=>?_;refine ye (.bool (decide (x2<0))) hs λ_ hs=>?_;refine sP2 (.bool (decide (x2<0))) (.bool (decide (x2<0))) hs λ_ hs=>?_;refine bsS decide_eq_true_iff hs hS (λhs hS=>?_) (λhs hS=>?_)
    ·repeat (first|refine sNo hs λ_ hs=>?_|refine sNu hs λ_ hs=>?_)
     refine sP (.bool true) hs λ_ hs=>?_;exact wn (⟨true,hs.q,hS⟩)
    ·refine ye (iv x2) hs λ_ hs=>?_;refine sYe hs (stepCallP [(iv x2)] hs rfl ⟨_,rfl,rfl⟩ rfl Tryd.func88 rfl (by kernel_rfl) (by decide) hS (λ_ _ v hS hs=>?_));obtain⟨x6,rfl,hS⟩:=hS;refine ye (.string (mkS s1)) hs λ_ hs=>?_;refine ye (.bool (!((mkS x6).toList==(mkS s1).toList))) hs λ_ hs=>?_;refine sP (.bool (!((mkS x6).toList==(mkS s1).toList))) hs λ_ hs=>?_;exact wn (⟨(!((mkS x6).toList==(mkS s1).toList)),hs.q,hS⟩)
 ·intro a w hJ;obtain⟨x7,hs,hS⟩:=hJ;unfold S_quote_Undec_J1 at hS;refine Wp.cS hs Iff.rfl hS (λhS=>?_) (λhS=>?_)
  ·refine qr (sP2 (iv 0) (iv 3) hs λ_ hs=>?_);exact wn (qt (rTT hs hMM hS))
  ·refine qk (qr (sP3 (iv x2) (iv x2) (iv 0) hs λ_ hs=>?_));exact wn (qt (rTT hs hMM hS))
def S_chaffref_Undec_J1 (s1:List UInt8) (n9:Int) (x10:Int) (I11:Int->Int->Prop) (mu12:Int->Int->Nat) (x16:Bool) (K:Value->Prop):Prop:=
 ((x16=true->K (Value.tuple #[(.int .i64 0),(.int .i64 3)]))/\(¬(x16=true)->(InI (10*n9)/\(∃c17:UInt8,(0:Int)<=x10/\s1[x10.toNat]?=some c17/\(InI ((10*n9)+(IntKind.wrap .i64 (IntKind.wrap .u8 ((c17.toNat:Int)-48))))/\(InI (x10+1)/\I11 ((10*n9)+(IntKind.wrap .i64 (IntKind.wrap .u8 ((c17.toNat:Int)-48)))) (x10+1)/\mu12 ((10*n9)+(IntKind.wrap .i64 (IntKind.wrap .u8 ((c17.toNat:Int)-48)))) (x10+1)<mu12 n9 x10))))))
def S_chaffref_Undec (s1:List UInt8) (M:Mem) (K:Value->Prop):Prop:=
 (∃(I11:Int->Int->Prop) (mu12:Int->Int->Nat),I11 0 0/\∀(n9:Int) (x10:Int),(I11 n9 x10->((x10<((s1.length:Nat):Int)->(∃c13:UInt8,(0:Int)<=x10/\s1[x10.toNat]?=some c13/\(((c13.toNat:Int)<48->(S_chaffref_Undec_J1 s1 n9 x10 I11 mu12 true K))/\(¬((c13.toNat:Int)<48)->(∃c14:UInt8,(0:Int)<=x10/\s1[x10.toNat]?=some c14/\(((c14.toNat:Int)>57->(S_chaffref_Undec_J1 s1 n9 x10 I11 mu12 true K))/\(¬((c14.toNat:Int)>57)->(((x10:Int)=9->(S_chaffref_Undec_J1 s1 n9 x10 I11 mu12 true K))/\(¬((x10:Int)=9)->((x10>0->(∃c15:UInt8,(0:Int)<=0/\s1[(0:Int).toNat]?=some c15/\(S_chaffref_Undec_J1 s1 n9 x10 I11 mu12 ((c15.toNat:Int)==(48:Int)) K)))/\(¬(x10>0)->(S_chaffref_Undec_J1 s1 n9 x10 I11 mu12 false K))))))))))))/\(¬(x10<((s1.length:Nat):Int))->((s1=([]:List UInt8)->K (Value.tuple #[(.int .i64 0),(.int .i64 3)]))/\(¬(s1=([]:List UInt8))->K (Value.tuple #[(.int .i64 n9),(.int .i64 0)])))))))
set_option maxRecDepth 100000 in
theorem s_chaffref_Undec (s1:List UInt8) (M:Mem) (K:Value->Prop) (hS:S_chaffref_Undec s1 M K):CallE Tryd.prog 45 #[(Value.string (mkS s1))] M (λv _=>K v):=by
 refine eE1 Tryd.func45 46 λE a hMM hs=>?_;unfold S_chaffref_Undec at hS;refine qr (sP2 (iv 0) (iv 0) hs λ_ hs=>?_);refine wn (qr (sP (iv 0) hs λ_ hs=>?_));refine wn (qs (qr (sP3 (.string (mkS s1)) (iv (s1.length:Int)) (iv 0) hs λ_ hs=>?_)));refine wn (qb ?_);obtain⟨I11,mu12,hI0,hst⟩:=hS;refine Wp.loop (σ:=(Int)×(Int)) (λ(n9,x10) a w=>Sx 46 E [] M w a [(0,(.string (mkS s1))),(4,(iv n9)),(7,(iv (s1.length:Int))),(8,(iv x10))] [] []/\I11 n9 x10) (λ(n9,x10)=>mu12 n9 x10) (0,0) ⟨hs.q,hI0⟩ (λs a w hI=>?_);obtain⟨n9,x10⟩:=s;obtain⟨hs,hI⟩:=hI;have hS:=hst n9 x10 hI;clear hst hI0 hI;refine qr (sP (.bool (decide (x10<(s1.length:Int)))) hs λ_ hs=>?_);refine wn (qs (Wp.cS hs decide_eq_true_iff hS (λhS=>?_) (λhS=>?_)))
 ·refine qk (qs (qb (qr (sP2 (iv x10) (iv x10) hs λ_ hs=>?_))));refine wn (qs (Wp.join (λa w=>∃(x16:Bool),Sx 46 E [] M w a [(0,(.string (mkS s1))),(4,(iv n9)),(5,(iv x10)),(7,(iv (s1.length:Int))),(8,(iv x10)),(33,(.bool x16))] [] []/\(S_chaffref_Undec_J1 s1 n9 x10 I11 mu12 x16 K)) ?_ ?_))
  ·refine qg (sP2 (.string (mkS s1)) (iv x10) hs λ_ hs=>?_);obtain⟨c13,h0,hi,hS⟩:=hS;refine sY (.int .u8 (c13.toNat:Int)) hs (Yl.indexStr rfl rfl rfl rfl (by kernel_rfl) h0 hi) λ_ hs=>?_;refine sP2 (.bool (decide ((c13.toNat:Int)<48))) (.bool (decide ((c13.toNat:Int)<48))) hs λ_ hs=>?_;refine bsS decide_eq_true_iff hs hS (λhs hS=>?_) (λhs hS=>?_)
   ·repeat (first|refine sNo hs λ_ hs=>?_|refine sNu hs λ_ hs=>?_)
    refine sP2 (.bool true) (.bool true) hs λ_ hs=>?_;refine sNo hs λ_ hs=>?_;refine sNo hs λ_ hs=>?_;refine sP2 (.bool true) (.bool true) hs λ_ hs=>?_;repeat (first|refine sNo hs λ_ hs=>?_|refine sNu hs λ_ hs=>?_)
    refine sP (.bool true) hs λ_ hs=>?_;exact wn (⟨true,hs.q,hS⟩)
   ·refine ye (.string (mkS s1)) hs λ_ hs=>?_;refine ye (iv x10) hs λ_ hs=>?_;refine sYe hs ?_;obtain⟨c14,h0,hi,hS⟩:=hS;refine sY (.int .u8 (c14.toNat:Int)) hs (Yl.indexStr rfl rfl rfl rfl (by kernel_rfl) h0 hi) λ_ hs=>?_;refine ye (.bool (decide ((c14.toNat:Int)>57))) hs λ_ hs=>?_;refine sP2 (.bool (decide ((c14.toNat:Int)>57))) (.bool (decide ((c14.toNat:Int)>57))) hs λ_ hs=>?_;refine bsS decide_eq_true_iff hs hS (λhs hS=>?_) (λhs hS=>?_)
    ·refine sNo hs λ_ hs=>?_;refine sNo hs λ_ hs=>?_;refine sP2 (.bool true) (.bool true) hs λ_ hs=>?_;repeat (first|refine sNo hs λ_ hs=>?_|refine sNu hs λ_ hs=>?_)
     refine sP (.bool true) hs λ_ hs=>?_;exact wn (⟨true,hs.q,hS⟩)
    ·refine ye (iv x10) hs λ_ hs=>?_;refine ye (.bool ((x10:Int)==(9:Int))) hs λ_ hs=>?_;refine sP2 (.bool ((x10:Int)==(9:Int))) (.bool ((x10:Int)==(9:Int))) hs λ_ hs=>?_;refine bsS beq_iff_eq hs hS (λhs hS=>?_) (λhs hS=>?_)
     ·repeat (first|refine sNo hs λ_ hs=>?_|refine sNu hs λ_ hs=>?_)
      refine sP (.bool true) hs λ_ hs=>?_;exact wn (⟨true,hs.q,hS⟩)
     ·refine ye (iv x10) hs λ_ hs=>?_;refine ye (.bool (decide (x10>0))) hs λ_ hs=>?_;refine ye (.bool (decide (x10>0))) hs λ_ hs=>?_;refine bsS decide_eq_true_iff hs hS (λhs hS=>?_) (λhs hS=>?_)
      ·refine ye (.string (mkS s1)) hs λ_ hs=>?_;refine sYe hs ?_;obtain⟨c15,h0,hi,hS⟩:=hS;refine sY (.int .u8 (c15.toNat:Int)) hs (Yl.indexStr rfl rfl rfl rfl (by kernel_rfl) h0 hi) λ_ hs=>?_;refine ye (.bool ((c15.toNat:Int)==(48:Int))) hs λ_ hs=>?_;refine ye (.bool ((c15.toNat:Int)==(48:Int))) hs λ_ hs=>?_;refine sP (.bool ((c15.toNat:Int)==(48:Int))) hs λ_ hs=>?_;exact wn (⟨((c15.toNat:Int)==(48:Int)),hs.q,hS⟩)
      ·repeat (first|refine sNo hs λ_ hs=>?_|refine sNu hs λ_ hs=>?_)
       refine ye (.bool false) hs λ_ hs=>?_;refine sP (.bool false) hs λ_ hs=>?_;exact wn (⟨false,hs.q,hS⟩)
  ·intro a w hJ;obtain⟨x16,hs,hS⟩:=hJ;unfold S_chaffref_Undec_J1 at hS;refine Wp.cS hs Iff.rfl hS (λhS=>?_) (λhS=>?_)
   ·refine qr (sP2 (iv 0) (iv 3) hs λ_ hs=>?_);exact wn (qt (rTT hs hMM hS))
   ·refine qk (qg (sP (iv n9) hs λ_ hs=>?_));obtain⟨hI,hS⟩:=hS;refine sY (iv (10*n9)) hs (Yl.wr hI) λ_ hs=>?_;refine sP2 (.string (mkS s1)) (iv x10) hs λ_ hs=>?_;obtain⟨c17,h0,hi,hS⟩:=hS;refine sY (.int .u8 (c17.toNat:Int)) hs (Yl.indexStr rfl rfl rfl rfl (by kernel_rfl) h0 hi) λ_ hs=>?_;refine sP2 (.int .u8 (IntKind.wrap .u8 ((c17.toNat:Int)-48))) (iv (IntKind.wrap .i64 (IntKind.wrap .u8 ((c17.toNat:Int)-48)))) hs λ_ hs=>?_;obtain⟨hI,hS⟩:=hS;refine sY (iv ((10*n9)+(IntKind.wrap .i64 (IntKind.wrap .u8 ((c17.toNat:Int)-48))))) hs (Yl.wr hI) λ_ hs=>?_;refine sP (iv ((10*n9)+(IntKind.wrap .i64 (IntKind.wrap .u8 ((c17.toNat:Int)-48))))) hs λ_ hs=>?_;refine wn (qg ?_);obtain⟨hI,hS⟩:=hS;refine sY (iv (x10+1)) hs (Yl.wr hI) λ_ hs=>?_;refine sP (iv (x10+1)) hs λ_ hs=>?_;exact wn (⟨((10*n9)+(IntKind.wrap .i64 (IntKind.wrap .u8 ((c17.toNat:Int)-48))),x10+1),⟨hs.q,hS.1⟩,hS.2⟩)
 ·refine qx rfl (qs (qr (sP (.string (mkS s1)) hs λ_ hs=>?_)));refine sP (.bool ((mkS s1).toList==(mkS ([]:List UInt8)).toList)) hs λ_ hs=>?_;refine wn (Wp.cS hs mkS_beq hS (λhS=>?_) (λhS=>?_))
  ·refine qr (sP2 (iv 0) (iv 3) hs λ_ hs=>?_);exact wn (qt (rTT hs hMM hS))
  ·refine qk (qr (sP3 (iv n9) (iv n9) (iv 0) hs λ_ hs=>?_));exact wn (qt (rTT hs hMM hS))
end Go.Proofs.YtjecddabdlapbaaDoor.core

namespace Go.Proofs.YtjecddabdlapbaaDoor.core
open Go.Gx Go.RowKit Go.ChangeShapes Go.WideShapes Go.ChangeAt
set_option linter.unusedVariables false
def S_quote_Unlit_J2 (K:Value->Prop):Prop:=
 K (Value.tuple #[(.string (mkS ([]:List UInt8))),(.int .i64 0),(.int .i64 4)])
def S_quote_Unlit_J1 (s1:List UInt8) (M:Mem) (x4:Bool) (K:Value->Prop):Prop:=
 ((x4=true->K (Value.tuple #[(.string (mkS ([]:List UInt8))),(.int .i64 0),(.int .i64 4)]))/\(¬(x4=true)->(∃(I32:Int->Nat->List Value->Prop) (mu33:Int->Nat->List Value->Nat),I32 1 0 []/\∀(i28:Int) (rn30:Nat) (rx31:List Value),(I32 i28 rn30 rx31->((i28<((s1.length:Nat):Int)->(∃c34:UInt8,(0:Int)<=i28/\s1[i28.toNat]?=some c34/\(∃c35:UInt8,(0:Int)<=0/\s1[(0:Int).toNat]?=some c35/\(((c34.toNat:Int)=(c35.toNat:Int)->(∃(x36:List UInt8),rx31=bytesV x36/\(InI (i28+1)/\K (Value.tuple #[(.string (mkS x36)),(.int .i64 (i28+1)),(.int .i64 0)]))))/\(¬((c34.toNat:Int)=(c35.toNat:Int))->((0:Int)<=i28/\(i28:Int)<=((s1.length:Nat):Int)/\((s1.length:Nat):Int)<=((s1.length:Nat):Int)/\(CallE Tryd.prog 60 #[(.string (mkS ((s1.take ((s1.length:Nat):Int).toNat).drop i28.toNat))),(.string (mkS ([39,34,92]:List UInt8)))] M (λv _=>∃(x37:Int) (x38:Int),v=(Value.tuple #[(.int .u8 x37),(.int .i64 x38)])/\(((x38:Int)=0->(S_quote_Unlit_J2 K))/\(¬((x38:Int)=0)->((rn30+1)*1<=140737488355328/\(InI (i28+x38)/\I32 (i28+x38) (rn30+1) (rx31++[(.int .u8 x37)])/\mu33 (i28+x38) (rn30+1) (rx31++[(.int .u8 x37)])<mu33 i28 rn30 rx31))))))))))))/\(¬(i28<((s1.length:Nat):Int))->(S_quote_Unlit_J2 K)))))))
def S_quote_Unlit (s1:List UInt8) (M:Mem) (K:Value->Prop):Prop:=
 ((s1=([]:List UInt8)->(S_quote_Unlit_J1 s1 M true K))/\(¬(s1=([]:List UInt8))->(∃c2:UInt8,(0:Int)<=0/\s1[(0:Int).toNat]?=some c2/\(((c2.toNat:Int)≠39->(∃c3:UInt8,(0:Int)<=0/\s1[(0:Int).toNat]?=some c3/\(S_quote_Unlit_J1 s1 M ((c3.toNat:Int) != (34:Int)) K)))/\(¬((c2.toNat:Int)≠39)->(S_quote_Unlit_J1 s1 M false K))))))
set_option maxRecDepth 100000 in
theorem s_quote_Unlit (s1:List UInt8) (M:Mem) (K:Value->Prop) (hS:S_quote_Unlit s1 M K):CallE Tryd.prog 123 #[(Value.string (mkS s1))] M (λv _=>K v):=by
 refine eE1 Tryd.func123 51 λE a hMM hs=>?_;unfold S_quote_Unlit at hS;refine qr (sP3 (.string (mkS ([]:List UInt8))) (iv 0) (iv 0) hs λ_ hs=>?_);refine wn (qs (Wp.join (λa w=>∃(x4:Bool),Sx 51 E [] M w a [(0,(.string (mkS s1))),(20,(.bool x4))] [] []/\(S_quote_Unlit_J1 s1 M x4 K)) ?_ ?_))
 ·refine qg (sP3 (.string (mkS s1)) (.bool ((mkS s1).toList==(mkS ([]:List UInt8)).toList)) (.bool ((mkS s1).toList==(mkS ([]:List UInt8)).toList)) hs λ_ hs=>?_);refine bsS mkS_beq hs hS (λhs hS=>?_) (λhs hS=>?_)
  ·repeat (first|refine sNo hs λ_ hs=>?_|refine sNu hs λ_ hs=>?_)
   refine sP (.bool true) hs λ_ hs=>?_;exact wn (⟨true,hs.q,hS⟩)
  ·refine ye (.string (mkS s1)) hs λ_ hs=>?_;refine sYe hs ?_;obtain⟨c2,h0,hi,hS⟩:=hS;refine sY (.int .u8 (c2.toNat:Int)) hs (Yl.indexStr rfl rfl rfl rfl (by kernel_rfl) h0 hi) λ_ hs=>?_;refine ye (.bool ((c2.toNat:Int) != (39:Int))) hs λ_ hs=>?_;refine ye (.bool ((c2.toNat:Int) != (39:Int))) hs λ_ hs=>?_;refine bsS bne_iff_ne hs hS (λhs hS=>?_) (λhs hS=>?_)
   ·refine ye (.string (mkS s1)) hs λ_ hs=>?_;refine sYe hs ?_;obtain⟨c3,h0,hi,hS⟩:=hS;refine sY (.int .u8 (c3.toNat:Int)) hs (Yl.indexStr rfl rfl rfl rfl (by kernel_rfl) h0 hi) λ_ hs=>?_;refine ye (.bool ((c3.toNat:Int) != (34:Int))) hs λ_ hs=>?_;refine ye (.bool ((c3.toNat:Int) != (34:Int))) hs λ_ hs=>?_;refine sP (.bool ((c3.toNat:Int) != (34:Int))) hs λ_ hs=>?_;exact wn (⟨((c3.toNat:Int) != (34:Int)),hs.q,hS⟩)
   ·repeat (first|refine sNo hs λ_ hs=>?_|refine sNu hs λ_ hs=>?_)
    refine ye (.bool false) hs λ_ hs=>?_;refine sP (.bool false) hs λ_ hs=>?_;exact wn (⟨false,hs.q,hS⟩)
 ·intro a w hJ;obtain⟨x4,hs,hS⟩:=hJ;unfold S_quote_Unlit_J1 at hS;refine Wp.cS hs Iff.rfl hS (λhS=>?_) (λhS=>?_)
  ·refine qr (sP3 (.string (mkS ([]:List UInt8))) (iv 0) (iv 4) hs λ_ hs=>?_);exact wn (qt (lvE K hs (resTTT hs rfl rfl rfl rfl) hMM.2 hS))
  ·refine qk (qr (sP (.slice none 0 0) hs λ_ hs=>?_));have hs:=hs.nilrow 5 1;refine wn (Wp.join (λa w=>Sx 51 E [] M w a [] [] []/\(S_quote_Unlit_J2 K)) ?_ ?_)
   ·refine qr (sP (iv 1) hs λ_ hs=>?_);refine wn (qb ?_);obtain⟨I32,mu33,hI0,hst⟩:=hS;refine Wp.loop (σ:=(Int)×(Nat)×(List Value)×(Value)) (λ(i28,rn30,rx31,rv29) a w=>Sx 51 E [] M w a [(0,(.string (mkS s1))),(5,rv29),(6,(iv i28))] [] [⟨rv29,5,1,rn30,rx31,true⟩]/\I32 i28 rn30 rx31) (λ(i28,rn30,rx31,rv29)=>mu33 i28 rn30 rx31) (1,0,[],(.slice none 0 0)) ⟨hs.q,hI0⟩ (λs a w hI=>?_);obtain⟨i28,rn30,rx31,rv29⟩:=s;obtain⟨hs,hI⟩:=hI;have hS:=hst i28 rn30 rx31 hI;clear hst hI0 hI;refine qs (qr (sP4 (iv i28) (.string (mkS s1)) (iv (s1.length:Int)) (.bool (decide (i28<(s1.length:Int)))) hs λ_ hs=>?_));refine wn (Wp.cS hs decide_eq_true_iff hS (λhS=>?_) (λhS=>?_))
    ·refine qk (qb (qs (qs (Wp.regionD [true,true,true,true,true,true] hs (by kernel_rfl) rfl [] (λ_ h=>h) [⟨rv29,5,1,rn30,rx31,true⟩] (λ_ h=>h) (λ_ hs hC=>?_)))));have hL:=Mem.le.refl M;refine dA (Value.string (mkS s1)) 0 [2,5] hs λ_ hs=>?_;refine dA (iv i28) 1 [2,5] hs λ_ hs=>?_;obtain⟨c34,h0,hi,hS⟩:=hS;refine dF (.int .u8 (c34.toNat:Int)) 2 [5] hs rfl (Yl.indexStr rfl rfl rfl rfl (by kernel_rfl) h0 hi) λ_ hs=>?_;refine sE 3 ?_;refine sP (.string (mkS s1)) hs λ_ hs=>?_;refine nE 4 ?_;obtain⟨c35,h0,hi,hS⟩:=hS;refine sY (.int .u8 (c35.toNat:Int)) hs (Yl.indexStr rfl rfl rfl rfl (by kernel_rfl) h0 hi) λ_ hs=>?_;refine nE 5 ?_;refine sP (.bool ((c34.toNat:Int)==(c35.toNat:Int))) hs λ_ hs=>?_;refine wN ?_;refine dD ?_;refine Wp.cS hs beq_iff_eq hS (λhS=>?_) (λhS=>?_)
     ·refine qr (sP rv29 hs λ_ hs=>?_);obtain⟨x36,hb,hS⟩:=hS;refine sY (.string (mkS x36)) hs (Yl.bytesR (l:=x36) (e':=5) 0 (by rw[<-hb];rfl) rfl rfl (by kernel_rfl) (by kernel_rfl) (by kernel_rfl)) λ_ hs=>?_;refine sP (iv i28) hs λ_ hs=>?_;obtain⟨hI,hS⟩:=hS;refine sY (iv (i28+1)) hs (Yl.wr hI) λ_ hs=>?_;refine sP3 (.string (mkS x36)) (iv (i28+1)) (iv 0) hs λ_ hs=>?_;exact wn (qt (lvE K hs (resTTT hs rfl rfl rfl rfl) hMM.2 hS))
     ·refine qk (qr (sP2 (.string (mkS s1)) (iv i28) hs λ_ hs=>?_));obtain⟨h0,h1,h2,hS⟩:=hS;refine sY (.string (mkS ((s1.take (s1.length:Int).toNat).drop i28.toNat))) hs (Yl.sliceStrL rfl rfl rfl rfl (by kernel_rfl) h0 h1 h2) λ_ hs=>?_;refine cP [(.string (mkS ((s1.take (s1.length:Int).toNat).drop i28.toNat))),(.string (mkS ([39,34,92]:List UInt8)))] hs Tryd.func60 hS λ_ _ v hS hs=>?_;obtain⟨x37,x38,rfl,hS⟩:=hS;refine sP4 (Value.tuple #[(.int .u8 x37),(iv x38)]) (.int .u8 x37) (iv x38) (.int .u8 x37) hs λ_ hs=>?_;refine sP (iv x38) hs λ_ hs=>?_;refine wn (qs (qr (sP2 (iv x38) (.bool ((x38:Int)==(0:Int))) hs λ_ hs=>?_)));refine wn (Wp.cS hs beq_iff_eq hS (λhS=>?_) (λhS=>?_))
      ·exact qx rfl (⟨(hs.weak (List.Sublist.refl _) (.cons _ List.Sublist.slnil) trivial),hS⟩)
      ·refine qk (qr (sP2 rv29 (.int .u8 x37) hs λ_ hs=>?_));refine stepMake [(.int .u8 x37)] 5 1 1 hs rfl rfl rfl (λ_=>by kernel_rfl) rfl (by unfold maxLen;decide) (by decide) (λ_ _ rv39 hs=>?_);obtain⟨ad40,cap41,hv,hcp,hxl⟩:=hs.rowform 0 rfl
       dsimp only at hv hcp hxl
       subst hv;obtain⟨hB,hS⟩:=hS;refine stepAppend 1 [(.int .u8 x37)] hs rfl rfl rfl rfl rfl (by kernel_rfl) (by kernel_rfl) (by decide) (by decide) (hs.srcRow 0 rfl rfl) (lenb hB (by decide)) hB (λ_ _ rv42 hs=>?_);replace hs:=hs.chrs (rs':=[⟨(Value.slice ad40 1 cap41),5,1,1,[(.int .u8 x37)],true⟩,⟨rv42,5,1,(rn30+1),(rx31++[(.int .u8 x37)]),true⟩]) rfl;refine sP rv42 hs λ_ hs=>?_;refine wn (qg (sP2 (iv i28) (iv x38) hs λ_ hs=>?_));obtain⟨hI,hS⟩:=hS;refine sY (iv (i28+x38)) hs (Yl.wr hI) λ_ hs=>?_;refine sP (iv (i28+x38)) hs λ_ hs=>?_;exact wn (⟨(i28+x38,(rn30+1),(rx31++[(.int .u8 x37)]),rv42),⟨(hs.qq (List.Sublist.refl _) (.cons _ (.cons_cons _ List.Sublist.slnil))),hS.1⟩,hS.2⟩)
    ·exact qx rfl (⟨(hs.weak (List.Sublist.refl _) (.cons _ List.Sublist.slnil) trivial),hS⟩)
   ·intro a w hJ;obtain⟨hs,hS⟩:=hJ;unfold S_quote_Unlit_J2 at hS;refine qr (sP3 (.string (mkS ([]:List UInt8))) (iv 0) (iv 4) hs λ_ hs=>?_);exact wn (qt (lvE K hs (resTTT hs rfl rfl rfl rfl) hMM.2 hS))
def S_chaffref_Unlit_J2 (s1:List UInt8) (M:Mem) (out14:List UInt8) (at15:Int) (I16:List UInt8->Int->Prop) (mu17:List UInt8->Int->Nat) (x20:Bool) (K:Value->Prop):Prop:=
 ((x20=true->((0:Int)<=at15/\(at15:Int)<=((s1.length:Nat):Int)/\((s1.length:Nat):Int)<=((s1.length:Nat):Int)/\(CallE Tryd.prog 63 #[(.string (mkS ((s1.take ((s1.length:Nat):Int).toNat).drop at15.toNat))),(.string (mkS ([92,39,34]:List UInt8)))] M (λv _=>∃(x21:Int) (x22:Int),v=(Value.tuple #[(.int .i64 x21),(.int .i64 x22)])/\(((x22:Int)=0->K (Value.tuple #[(.string (mkS ([]:List UInt8))),(.int .i64 0),(.int .i64 4)]))/\(¬((x22:Int)=0)->(∃(x24:List UInt8),[(.int .u8 (IntKind.wrap .u8 x21))]=bytesV x24/\(out14.length+x24.length<=9223372036854775807/\(InI (at15+x22)/\I16 (out14++x24) (at15+x22)/\mu17 (out14++x24) (at15+x22)<mu17 out14 at15)))))))))/\(¬(x20=true)->((at15>=((s1.length:Nat):Int)->K (Value.tuple #[(.string (mkS ([]:List UInt8))),(.int .i64 0),(.int .i64 4)]))/\(¬(at15>=((s1.length:Nat):Int))->(InI (at15+1)/\K (Value.tuple #[(.string (mkS out14)),(.int .i64 (at15+1)),(.int .i64 0)]))))))
def S_chaffref_Unlit_J1 (s1:List UInt8) (M:Mem) (x4:Bool) (K:Value->Prop):Prop:=
 ((x4=true->K (Value.tuple #[(.string (mkS ([]:List UInt8))),(.int .i64 0),(.int .i64 4)]))/\(¬(x4=true)->(∃(I16:List UInt8->Int->Prop) (mu17:List UInt8->Int->Nat),I16 ([]:List UInt8) 1/\∀(out14:List UInt8) (at15:Int),(I16 out14 at15->((at15<((s1.length:Nat):Int)->(∃c18:UInt8,(0:Int)<=at15/\s1[at15.toNat]?=some c18/\(∃c19:UInt8,(0:Int)<=0/\s1[(0:Int).toNat]?=some c19/\(S_chaffref_Unlit_J2 s1 M out14 at15 I16 mu17 ((c18.toNat:Int) != (c19.toNat:Int)) K))))/\(¬(at15<((s1.length:Nat):Int))->(S_chaffref_Unlit_J2 s1 M out14 at15 I16 mu17 false K)))))))
def S_chaffref_Unlit (s1:List UInt8) (M:Mem) (K:Value->Prop):Prop:=
 ((s1=([]:List UInt8)->(S_chaffref_Unlit_J1 s1 M true K))/\(¬(s1=([]:List UInt8))->(∃c2:UInt8,(0:Int)<=0/\s1[(0:Int).toNat]?=some c2/\(((c2.toNat:Int)≠39->(∃c3:UInt8,(0:Int)<=0/\s1[(0:Int).toNat]?=some c3/\(S_chaffref_Unlit_J1 s1 M ((c3.toNat:Int) != (34:Int)) K)))/\(¬((c2.toNat:Int)≠39)->(S_chaffref_Unlit_J1 s1 M false K))))))
set_option maxRecDepth 100000 in
theorem s_chaffref_Unlit (s1:List UInt8) (M:Mem) (K:Value->Prop) (hS:S_chaffref_Unlit s1 M K):CallE Tryd.prog 126 #[(Value.string (mkS s1))] M (λv _=>K v):=by
 refine eE1 Tryd.func126 58 λE a hMM hs=>?_;unfold S_chaffref_Unlit at hS;refine qr (sP3 (.string (mkS ([]:List UInt8))) (iv 0) (iv 0) hs λ_ hs=>?_);refine wn (qs (Wp.join (λa w=>∃(x4:Bool),Sx 58 E [] M w a [(0,(.string (mkS s1))),(20,(.bool x4))] [] []/\(S_chaffref_Unlit_J1 s1 M x4 K)) ?_ ?_))
 ·refine qg (sP3 (.string (mkS s1)) (.bool ((mkS s1).toList==(mkS ([]:List UInt8)).toList)) (.bool ((mkS s1).toList==(mkS ([]:List UInt8)).toList)) hs λ_ hs=>?_);refine bsS mkS_beq hs hS (λhs hS=>?_) (λhs hS=>?_)
  ·repeat (first|refine sNo hs λ_ hs=>?_|refine sNu hs λ_ hs=>?_)
   refine sP (.bool true) hs λ_ hs=>?_;exact wn (⟨true,hs.q,hS⟩)
  ·refine ye (.string (mkS s1)) hs λ_ hs=>?_;refine sYe hs ?_;obtain⟨c2,h0,hi,hS⟩:=hS;refine sY (.int .u8 (c2.toNat:Int)) hs (Yl.indexStr rfl rfl rfl rfl (by kernel_rfl) h0 hi) λ_ hs=>?_;refine ye (.bool ((c2.toNat:Int) != (39:Int))) hs λ_ hs=>?_;refine ye (.bool ((c2.toNat:Int) != (39:Int))) hs λ_ hs=>?_;refine bsS bne_iff_ne hs hS (λhs hS=>?_) (λhs hS=>?_)
   ·refine ye (.string (mkS s1)) hs λ_ hs=>?_;refine sYe hs ?_;obtain⟨c3,h0,hi,hS⟩:=hS;refine sY (.int .u8 (c3.toNat:Int)) hs (Yl.indexStr rfl rfl rfl rfl (by kernel_rfl) h0 hi) λ_ hs=>?_;refine ye (.bool ((c3.toNat:Int) != (34:Int))) hs λ_ hs=>?_;refine ye (.bool ((c3.toNat:Int) != (34:Int))) hs λ_ hs=>?_;refine sP (.bool ((c3.toNat:Int) != (34:Int))) hs λ_ hs=>?_;exact wn (⟨((c3.toNat:Int) != (34:Int)),hs.q,hS⟩)
   ·repeat (first|refine sNo hs λ_ hs=>?_|refine sNu hs λ_ hs=>?_)
    refine ye (.bool false) hs λ_ hs=>?_;refine sP (.bool false) hs λ_ hs=>?_;exact wn (⟨false,hs.q,hS⟩)
 ·intro a w hJ;obtain⟨x4,hs,hS⟩:=hJ;unfold S_chaffref_Unlit_J1 at hS;refine Wp.cS hs Iff.rfl hS (λhS=>?_) (λhS=>?_)
  ·refine qr (sP3 (.string (mkS ([]:List UInt8))) (iv 0) (iv 4) hs λ_ hs=>?_);exact wn (qt (lvE K hs (resTTT hs rfl rfl rfl rfl) hMM.2 hS))
  ·refine qk (qr (sP (.string (mkS ([]:List UInt8))) hs λ_ hs=>?_));refine wn (qr (sP (iv 1) hs λ_ hs=>?_));refine wn (qs (qb ?_));obtain⟨I16,mu17,hI0,hst⟩:=hS;refine Wp.loop (σ:=(List UInt8)×(Int)) (λ(out14,at15) a w=>Sx 58 E [] M w a [(0,(.string (mkS s1))),(5,(.string (mkS out14))),(6,(iv at15))] [] []/\I16 out14 at15) (λ(out14,at15)=>mu17 out14 at15) (([]:List UInt8),1) ⟨hs.q,hI0⟩ (λs a w hI=>?_);obtain⟨out14,at15⟩:=s;obtain⟨hs,hI⟩:=hI;have hS:=hst out14 at15 hI;clear hst hI0 hI;refine qs (Wp.join (λa w=>∃(x20:Bool),Sx 58 E [] M w a [(0,(.string (mkS s1))),(5,(.string (mkS out14))),(6,(iv at15)),(32,(.bool x20))] [] []/\(S_chaffref_Unlit_J2 s1 M out14 at15 I16 mu17 x20 K)) ?_ ?_)
   ·refine Wp.regionD [true,true,true,true,true,true,true,true,true,true,true,true] hs (by kernel_rfl) rfl [] (λ_ h=>h) [] (λ_ h=>h) (λ_ hs hC=>?_);have hL:=Mem.le.refl M;refine dA (iv at15) 0 [3,4,5,6,7,8,9,10,11] hs λ_ hs=>?_;refine sE 1 ?_;refine sP (.string (mkS s1)) hs λ_ hs=>?_;refine nE 2 ?_;refine sP (iv (s1.length:Int)) hs λ_ hs=>?_;refine nE 3 ?_;refine sP (.bool (decide (at15<(s1.length:Int)))) hs λ_ hs=>?_;refine nE 4 ?_;refine sP (.bool (decide (at15<(s1.length:Int)))) hs λ_ hs=>?_;refine wN ?_;refine bsS decide_eq_true_iff hs hS (λhs hS=>?_) (λhs hS=>?_)
    ·refine dPy (Value.string (mkS s1)) 5 [7,10,11] hs λ_ hs=>?_;refine dPy (iv at15) 6 [7,10,11] hs λ_ hs=>?_;obtain⟨c18,h0,hi,hS⟩:=hS;refine dFy (.int .u8 (c18.toNat:Int)) 7 [10,11] hs rfl (Yl.indexStr rfl rfl rfl rfl (by kernel_rfl) h0 hi) λ_ hs=>?_;refine sEy (i:=8) hs ?_;refine sP (.string (mkS s1)) hs λ_ hs=>?_;refine wN ?_;refine sEy (i:=9) hs ?_;obtain⟨c19,h0,hi,hS⟩:=hS;refine sY (.int .u8 (c19.toNat:Int)) hs (Yl.indexStr rfl rfl rfl rfl (by kernel_rfl) h0 hi) λ_ hs=>?_;refine wN ?_;refine sEy (i:=10) hs ?_;refine sP (.bool ((c18.toNat:Int) != (c19.toNat:Int))) hs λ_ hs=>?_;refine nE 11 ?_;refine sP (.bool ((c18.toNat:Int) != (c19.toNat:Int))) hs λ_ hs=>?_;refine wN ?_;refine dD ?_;exact⟨((c18.toNat:Int) != (c19.toNat:Int)),hs.q,hS⟩
    ·refine dNo 5 [7,10,11] hs λ_ hs=>?_;refine dNo 6 [7,10,11] hs λ_ hs=>?_;refine dNo 7 [10,11] hs λ_ hs=>?_;refine dNo 8 [9,10,11] hs λ_ hs=>?_;refine dNo 9 [10,11] hs λ_ hs=>?_;refine dNo 10 [11] hs λ_ hs=>?_;refine sE 11 ?_;refine sP (.bool false) hs λ_ hs=>?_;refine wN ?_;refine dD ?_;exact⟨false,hs.q,hS⟩
   ·intro a w hJ;obtain⟨x20,hs,hS⟩:=hJ;unfold S_chaffref_Unlit_J2 at hS;refine Wp.cS hs Iff.rfl hS (λhS=>?_) (λhS=>?_)
    ·refine qk (qb (qr (sP2 (.string (mkS s1)) (iv at15) hs λ_ hs=>?_)));obtain⟨h0,h1,h2,hS⟩:=hS;refine sY (.string (mkS ((s1.take (s1.length:Int).toNat).drop at15.toNat))) hs (Yl.sliceStrL rfl rfl rfl rfl (by kernel_rfl) h0 h1 h2) λ_ hs=>?_;refine cP [(.string (mkS ((s1.take (s1.length:Int).toNat).drop at15.toNat))),(.string (mkS ([92,39,34]:List UInt8)))] hs Tryd.func63 hS λ_ _ v hS hs=>?_;obtain⟨x21,x22,rfl,hS⟩:=hS;refine sP4 (Value.tuple #[(iv x21),(iv x22)]) (iv x21) (iv x22) (iv x21) hs λ_ hs=>?_;refine sP (iv x22) hs λ_ hs=>?_;refine wn (qs (qr (sP2 (iv x22) (.bool ((x22:Int)==(0:Int))) hs λ_ hs=>?_)));refine wn (Wp.cS hs beq_iff_eq hS (λhS=>?_) (λhS=>?_))
     ·refine qr (sP3 (.string (mkS ([]:List UInt8))) (iv 0) (iv 4) hs λ_ hs=>?_);exact wn (qt (lvE K hs (resTTT hs rfl rfl rfl rfl) hMM.2 hS))
     ·refine qk (qr (sP3 (.string (mkS out14)) (iv x21) (.int .u8 (IntKind.wrap .u8 x21)) hs λ_ hs=>?_));refine stepMake [(.int .u8 (IntKind.wrap .u8 x21))] 5 1 1 hs rfl rfl rfl (λ_=>by kernel_rfl) rfl (by unfold maxLen;decide) (by decide) (λ_ _ rv23 hs=>?_);obtain⟨x24,hb,hS⟩:=hS;refine sY (.string (mkS x24)) hs (Yl.bytesR (l:=x24) (e':=5) 0 (by rw[<-hb];rfl) rfl rfl (by kernel_rfl) (by kernel_rfl) (by kernel_rfl)) λ_ hs=>?_;obtain⟨hl,hS⟩:=hS;refine sY (.string (mkS (out14++x24))) hs (Yl.concat rfl rfl rfl rfl hl) λ_ hs=>?_;refine sP (.string (mkS (out14++x24))) hs λ_ hs=>?_;refine wn (qg (sP2 (iv at15) (iv x22) hs λ_ hs=>?_));obtain⟨hI,hS⟩:=hS;refine sY (iv (at15+x22)) hs (Yl.wr hI) λ_ hs=>?_;refine sP (iv (at15+x22)) hs λ_ hs=>?_;exact wn (⟨(out14++x24,at15+x22),⟨(hs.qq (List.Sublist.refl _) (.cons _ List.Sublist.slnil)),hS.1⟩,hS.2⟩)
    ·refine qx rfl (qs (qr (sP (iv at15) hs λ_ hs=>?_)));refine sP3 (.string (mkS s1)) (iv (s1.length:Int)) (.bool (decide (at15>=(s1.length:Int)))) hs λ_ hs=>?_;refine wn (Wp.cS hs decide_eq_true_iff hS (λhS=>?_) (λhS=>?_))
     ·refine qr (sP3 (.string (mkS ([]:List UInt8))) (iv 0) (iv 4) hs λ_ hs=>?_);exact wn (qt (lvE K hs (resTTT hs rfl rfl rfl rfl) hMM.2 hS))
     ·refine qk (qr (sP2 (.string (mkS out14)) (iv at15) hs λ_ hs=>?_));obtain⟨hI,hS⟩:=hS;refine sY (iv (at15+1)) hs (Yl.wr hI) λ_ hs=>?_;refine sP3 (.string (mkS out14)) (iv (at15+1)) (iv 0) hs λ_ hs=>?_;exact wn (qt (lvE K hs (resTTT hs rfl rfl rfl rfl) hMM.2 hS))
end Go.Proofs.YtjecddabdlapbaaDoor.core

namespace Go.Proofs.YtjecddabdlapbaaDoor.core
open Go.Gx Go.RowKit Go.ChangeShapes Go.WideShapes Go.ChangeAt
set_option linter.unusedVariables false
def S_strings_Count (s1:List UInt8) (substr2:List UInt8) (M:Mem) (K:Value->Prop):Prop:=
 ((((substr2.length:Nat):Int)=0->(CallE Tryd.prog 94 #[(.string (mkS s1))] M (λv _=>∃(x3:Int),v=(Value.int .i64 x3)/\(InI (x3+1)/\K (Value.int .i64 (x3+1))))))/\(¬(((substr2.length:Nat):Int)=0)->((((substr2.length:Nat):Int)=1->(∃c4:UInt8,(0:Int)<=0/\substr2[(0:Int).toNat]?=some c4/\K (Value.int .i64 ((s1.count (c4.toNat:Int).toNat.toUInt8:Nat):Int))))/\(¬(((substr2.length:Nat):Int)=1)->(∃(I11:List UInt8->Int->Prop) (mu12:List UInt8->Int->Nat),I11 s1 0/\∀(s9:List UInt8) (n10:Int),(I11 s9 n10->(CallE Tryd.prog 96 #[(.string (mkS s9)),(.string (mkS substr2))] M (λv _=>∃(x13:Int),v=(Value.int .i64 x13)/\(((x13:Int)=(-1)->K (Value.int .i64 n10))/\(¬((x13:Int)=(-1))->(InI (n10+1)/\(InI (x13+((substr2.length:Nat):Int))/\((0:Int)<=x13+((substr2.length:Nat):Int)/\(x13+((substr2.length:Nat):Int):Int)<=((s9.length:Nat):Int)/\((s9.length:Nat):Int)<=((s9.length:Nat):Int)/\I11 ((s9.take ((s9.length:Nat):Int).toNat).drop (x13+((substr2.length:Nat):Int)).toNat) (n10+1)/\mu12 ((s9.take ((s9.length:Nat):Int).toNat).drop (x13+((substr2.length:Nat):Int)).toNat) (n10+1)<mu12 s9 n10)))))))))))))
set_option maxRecDepth 100000 in
theorem s_strings_Count (s1:List UInt8) (substr2:List UInt8) (M:Mem) (K:Value->Prop) (hS:S_strings_Count s1 substr2 M K):CallE Tryd.prog 54 #[(Value.string (mkS s1)),(Value.string (mkS substr2))] M (λv _=>K v):=by
 refine eE2 Tryd.func54 34 λE a hMM hs=>?_;unfold S_strings_Count at hS;refine qr (sP (iv 0) hs λ_ hs=>?_);refine wn (qs (qr (sP3 (.string (mkS substr2)) (iv (substr2.length:Int)) (.bool ((substr2.length:Int)==(0:Int))) hs λ_ hs=>?_)));refine wn (Wp.cS hs beq_iff_eq hS (λhS=>?_) (λhS=>?_))
 ·refine qr (sP (.string (mkS s1)) hs λ_ hs=>?_);refine cP [(.string (mkS s1))] hs Tryd.func94 hS λ_ _ v hS hs=>?_;obtain⟨x3,rfl,hS⟩:=hS;obtain⟨hI,hS⟩:=hS;refine sY (iv (x3+1)) hs (Yl.wr hI) λ_ hs=>?_;refine sP (iv (x3+1)) hs λ_ hs=>?_;exact wn (qt (rT hs hMM hS))
 ·refine qk (qs (qr (sP3 (.string (mkS substr2)) (iv (substr2.length:Int)) (.bool ((substr2.length:Int)==(1:Int))) hs λ_ hs=>?_)));refine wn (Wp.cS hs beq_iff_eq hS (λhS=>?_) (λhS=>?_))
  ·refine qr (sP2 (.string (mkS s1)) (.string (mkS substr2)) hs λ_ hs=>?_);obtain⟨c4,h0,hi,hS⟩:=hS;refine sY (.int .u8 (c4.toNat:Int)) hs (Yl.indexStr rfl rfl rfl rfl (by kernel_rfl) h0 hi) λ_ hs=>?_;refine sY (iv ((s1.count (c4.toNat:Int).toNat.toUInt8:Nat):Int)) hs (Yl.countB rfl ⟨_,rfl,rfl⟩ rfl Tryd.func95 rfl (by kernel_rfl) (by kernel_rfl) (by kernel_rfl)) λ_ hs=>?_;refine sP (iv ((s1.count (c4.toNat:Int).toNat.toUInt8:Nat):Int)) hs λ_ hs=>?_;exact wn (qt (rT hs hMM hS))
  ·refine qk (qr (sP (iv 0) hs λ_ hs=>?_));refine wn (qb ?_);obtain⟨I11,mu12,hI0,hst⟩:=hS;refine Wp.loop (σ:=(List UInt8)×(Int)) (λ(s9,n10) a w=>Sx 34 E [] M w a [(0,(.string (mkS s9))),(1,(.string (mkS substr2))),(5,(iv n10))] [] []/\I11 s9 n10) (λ(s9,n10)=>mu12 s9 n10) (s1,0) ⟨hs.q,hI0⟩ (λs a w hI=>?_);obtain⟨s9,n10⟩:=s;obtain⟨hs,hI⟩:=hI;have hS:=hst s9 n10 hI;clear hst hI0 hI;refine qb (qr (sP2 (.string (mkS s9)) (.string (mkS substr2)) hs λ_ hs=>?_));refine cP [(.string (mkS s9)),(.string (mkS substr2))] hs Tryd.func96 hS λ_ _ v hS hs=>?_;obtain⟨x13,rfl,hS⟩:=hS;refine sP (iv x13) hs λ_ hs=>?_;refine wn (qs (qr (sP2 (iv x13) (.bool ((x13:Int)==((-1):Int))) hs λ_ hs=>?_)));refine wn (Wp.cS hs beq_iff_eq hS (λhS=>?_) (λhS=>?_))
   ·refine qr (sP2 (iv n10) (iv n10) hs λ_ hs=>?_);exact wn (qt (rT hs hMM hS))
   ·refine qk (qr (sP (iv n10) hs λ_ hs=>?_));obtain⟨hI,hS⟩:=hS;refine sY (iv (n10+1)) hs (Yl.wr hI) λ_ hs=>?_;refine sP (iv (n10+1)) hs λ_ hs=>?_;refine wn (qg (sP4 (.string (mkS s9)) (iv x13) (.string (mkS substr2)) (iv (substr2.length:Int)) hs λ_ hs=>?_));obtain⟨hI,hS⟩:=hS;refine sY (iv (x13+(substr2.length:Int))) hs (Yl.wr hI) λ_ hs=>?_;obtain⟨h0,h1,h2,hS⟩:=hS;refine sY (.string (mkS ((s9.take (s9.length:Int).toNat).drop (x13+(substr2.length:Int)).toNat))) hs (Yl.sliceStrL rfl rfl rfl rfl (by kernel_rfl) h0 h1 h2) λ_ hs=>?_;refine sP (.string (mkS ((s9.take (s9.length:Int).toNat).drop (x13+(substr2.length:Int)).toNat))) hs λ_ hs=>?_;exact wn (⟨((s9.take (s9.length:Int).toNat).drop (x13+(substr2.length:Int)).toNat,n10+1),⟨hs.q,hS.1⟩,hS.2⟩)
def S_strings_genSplit_J2 (M:Mem) (s41:List UInt8) (i42:Int) (rn44:Nat) (rx45:List Value) (K:Value->Mem->Prop):Prop:=
 ((0:Int)<=i42/\i42<((rn44:Nat):Int)/\(InI (i42+1)/\((0:Int)<=i42+1/\(i42+1:Int)<=((rn44:Nat):Int)/\(∀(M53:Mem) (ad51:Option Addr) (cap52:Nat),M.le M53->SlV M53 ad51 ((i42+1).toNat) cap52 1 (List.take ((i42+1).toNat*1) (putAt rx45 (0+i42.toNat*1) [(.string (mkS s41))]))->(∀M',M53.le M'->K (Value.slice ad51 ((i42+1).toNat) cap52) M')))))
def S_strings_genSplit_J1 (s1:List UInt8) (sep2:List UInt8) (sepSave3:Int) (M:Mem) (n10:Int) (K:Value->Mem->Prop):Prop:=
 (InI (((s1.length:Nat):Int)+1)/\((0:Int)<=(if ((s1.length:Nat):Int)+1<n10 then((s1.length:Nat):Int)+1 else n10)/\(if ((s1.length:Nat):Int)+1<n10 then((s1.length:Nat):Int)+1 else n10)<=(if ((s1.length:Nat):Int)+1<n10 then((s1.length:Nat):Int)+1 else n10)/\(if ((s1.length:Nat):Int)+1<n10 then((s1.length:Nat):Int)+1 else n10).toNat*16<=140737488355328/\(InI ((if ((s1.length:Nat):Int)+1<n10 then((s1.length:Nat):Int)+1 else n10)-1)/\(∃(I34:List UInt8->Int->Nat->List Value->Prop) (mu35:List UInt8->Int->Nat->List Value->Nat),I34 s1 0 ((if ((s1.length:Nat):Int)+1<n10 then((s1.length:Nat):Int)+1 else n10).toNat) (repl (if ((s1.length:Nat):Int)+1<n10 then((s1.length:Nat):Int)+1 else n10).toNat [(.string (mkS []))])/\∀(s29:List UInt8) (i30:Int) (rn32:Nat) (rx33:List Value),(I34 s29 i30 rn32 rx33->((i30<(if ((s1.length:Nat):Int)+1<n10 then((s1.length:Nat):Int)+1 else n10)-1->(CallE Tryd.prog 96 #[(.string (mkS s29)),(.string (mkS sep2))] M (λv _=>∃(x36:Int),v=(Value.int .i64 x36)/\((x36<0->(S_strings_genSplit_J2 M s29 i30 rn32 rx33 K))/\(¬(x36<0)->(InI (x36+sepSave3)/\((0:Int)<=0/\(0:Int)<=x36+sepSave3/\(x36+sepSave3:Int)<=((s29.length:Nat):Int)/\((0:Int)<=i30/\i30<((rn32:Nat):Int)/\(InI (x36+((sep2.length:Nat):Int))/\((0:Int)<=x36+((sep2.length:Nat):Int)/\(x36+((sep2.length:Nat):Int):Int)<=((s29.length:Nat):Int)/\((s29.length:Nat):Int)<=((s29.length:Nat):Int)/\(InI (i30+1)/\I34 ((s29.take ((s29.length:Nat):Int).toNat).drop (x36+((sep2.length:Nat):Int)).toNat) (i30+1) rn32 (putAt rx33 (0+i30.toNat*1) [(.string (mkS ((s29.take (x36+sepSave3).toNat).drop (0:Int).toNat)))])/\mu35 ((s29.take ((s29.length:Nat):Int).toNat).drop (x36+((sep2.length:Nat):Int)).toNat) (i30+1) rn32 (putAt rx33 (0+i30.toNat*1) [(.string (mkS ((s29.take (x36+sepSave3).toNat).drop (0:Int).toNat)))])<mu35 s29 i30 rn32 rx33)))))))))))/\(¬(i30<(if ((s1.length:Nat):Int)+1<n10 then((s1.length:Nat):Int)+1 else n10)-1)->(S_strings_genSplit_J2 M s29 i30 rn32 rx33 K))))))))
def S_strings_genSplit (s1:List UInt8) (sep2:List UInt8) (sepSave3:Int) (n4:Int) (M:Mem) (K:Value->Mem->Prop):Prop:=
 (((n4:Int)=0->(∀M',M.le M'->K (Value.slice none 0 0) M'))/\(¬((n4:Int)=0)->((sep2=([]:List UInt8)->(CallE Tryd.prog 128 #[(.string (mkS s1)),(.int .i64 n4)] M (λv M8=>∃(xa5:Option Addr) (xl6:Nat) (xc7:Nat),v=(Value.slice xa5 xl6 xc7)/\(∀M',M8.le M'->K (Value.slice xa5 xl6 xc7) M'))))/\(¬(sep2=([]:List UInt8))->((n4<0->(CallE Tryd.prog 54 #[(.string (mkS s1)),(.string (mkS sep2))] M (λv _=>∃(x9:Int),v=(Value.int .i64 x9)/\(InI (x9+1)/\(S_strings_genSplit_J1 s1 sep2 sepSave3 M (x9+1) K)))))/\(¬(n4<0)->(S_strings_genSplit_J1 s1 sep2 sepSave3 M n4 K)))))))
set_option maxRecDepth 100000 in
theorem s_strings_genSplit (s1:List UInt8) (sep2:List UInt8) (sepSave3:Int) (n4:Int) (M:Mem) (K:Value->Mem->Prop) (hS:S_strings_genSplit s1 sep2 sepSave3 n4 M K):CallE Tryd.prog 97 #[(Value.string (mkS s1)),(Value.string (mkS sep2)),(Value.int .i64 sepSave3),(Value.int .i64 n4)] M K:=by
 refine eE4 Tryd.func97 66 λE a hMM hs=>?_;unfold S_strings_genSplit at hS;refine qr (sP (.slice none 0 0) hs λ_ hs=>?_);refine wn (qs (qr (sP2 (iv n4) (.bool ((n4:Int)==(0:Int))) hs λ_ hs=>?_)));refine wn (Wp.cS hs beq_iff_eq hS (λhS=>?_) (λhS=>?_))
 ·refine qr (sP (.slice none 0 0) hs λ_ hs=>?_);exact wn (qt (leaveE (K:=K) hs (resT hs rfl rfl) hMM.2 hS))
 ·refine qk (qs (qr (sP2 (.string (mkS sep2)) (.bool ((mkS sep2).toList==(mkS ([]:List UInt8)).toList)) hs λ_ hs=>?_)));refine wn (Wp.cS hs mkS_beq hS (λhS=>?_) (λhS=>?_))
  ·refine qr (sP2 (.string (mkS s1)) (iv n4) hs λ_ hs=>?_);refine cM [(.string (mkS s1)),(iv n4)] hs hMM Tryd.func128 hS λ_ _ M8 v hMM hle hS hs=>?_;obtain⟨xa5,xl6,xc7,rfl,hS⟩:=hS;refine sP (.slice xa5 xl6 xc7) hs λ_ hs=>?_;exact wn (qt (leaveE (K:=K) hs (resT hs rfl rfl) hMM.2 hS))
  ·refine qk (Wp.join (λa w=>∃(n10:Int),Sx 66 E [] M w a [(0,(.string (mkS s1))),(1,(.string (mkS sep2))),(2,(iv sepSave3)),(3,(iv n10))] [] []/\(S_strings_genSplit_J1 s1 sep2 sepSave3 M n10 K)) ?_ ?_)
   ·refine qr (sP2 (iv n4) (.bool (decide (n4<0))) hs λ_ hs=>?_);refine wn (Wp.cS hs decide_eq_true_iff hS (λhS=>?_) (λhS=>?_))
    ·refine qg (sP2 (.string (mkS s1)) (.string (mkS sep2)) hs λ_ hs=>?_);refine cP [(.string (mkS s1)),(.string (mkS sep2))] hs Tryd.func54 hS λ_ _ v hS hs=>?_;obtain⟨x9,rfl,hS⟩:=hS;obtain⟨hI,hS⟩:=hS;refine sY (iv (x9+1)) hs (Yl.wr hI) λ_ hs=>?_;refine sP (iv (x9+1)) hs λ_ hs=>?_;exact wn (⟨(x9+1),hs.q,hS⟩)
    ·exact qk (⟨n4,hs.q,hS⟩)
   ·intro a w hJ;obtain⟨n10,hs,hS⟩:=hJ;unfold S_strings_genSplit_J1 at hS;refine qr (sP3 (iv n10) (.string (mkS s1)) (iv (s1.length:Int)) hs λ_ hs=>?_);obtain⟨hI,hS⟩:=hS;refine sY (iv ((s1.length:Int)+1)) hs (Yl.wr hI) λ_ hs=>?_;refine sP2 (iv (if (s1.length:Int)+1<n10 then(s1.length:Int)+1 else n10)) (iv (if (s1.length:Int)+1<n10 then(s1.length:Int)+1 else n10)) hs λ_ hs=>?_;refine wn (qr (sP (iv (if (s1.length:Int)+1<n10 then(s1.length:Int)+1 else n10)) hs λ_ hs=>?_));obtain⟨h0,h1,hB,hS⟩:=hS;refine stepMakeN (e:=9) (size:=1) (bytes:=16) [(.string (mkS []))] hs rfl rfl rfl rfl (by kernel_rfl) (by kernel_rfl) rfl (by decide) (by decide) h0 h1 hB (λ_ _ rv11 hs=>?_);refine sP rv11 hs λ_ hs=>?_;refine wn (qr (sP (iv (if (s1.length:Int)+1<n10 then(s1.length:Int)+1 else n10)) hs λ_ hs=>?_));obtain⟨hI,hS⟩:=hS;refine sY (iv ((if (s1.length:Int)+1<n10 then(s1.length:Int)+1 else n10)-1)) hs (Yl.wr hI) λ_ hs=>?_;refine sP (iv ((if (s1.length:Int)+1<n10 then(s1.length:Int)+1 else n10)-1)) hs λ_ hs=>?_;refine wn (qr (sP (iv 0) hs λ_ hs=>?_))
    refine wn (Wp.join (λa w=>∃(s41:List UInt8) (i42:Int) (rn44:Nat) (rx45:List Value) (rv43:Value),Sx 66 E [] M w a [(0,(.string (mkS s41))),(9,rv43),(10,(iv i42))] [] [⟨rv43,9,1,rn44,rx45,true⟩]/\(S_strings_genSplit_J2 M s41 i42 rn44 rx45 K)) ?_ ?_)
    ·refine qb ?_;obtain⟨I34,mu35,hI0,hst⟩:=hS;refine Wp.loop (σ:=(List UInt8)×(Int)×(Nat)×(List Value)×(Value)) (λ(s29,i30,rn32,rx33,rv31) a w=>Sx 66 E [] M w a [(0,(.string (mkS s29))),(1,(.string (mkS sep2))),(2,(iv sepSave3)),(3,(iv ((if (s1.length:Int)+1<n10 then(s1.length:Int)+1 else n10)-1))),(9,rv31),(10,(iv i30))] [] [⟨rv31,9,1,rn32,rx33,true⟩]/\I34 s29 i30 rn32 rx33) (λ(s29,i30,rn32,rx33,rv31)=>mu35 s29 i30 rn32 rx33) (s1,0,(if (s1.length:Int)+1<n10 then(s1.length:Int)+1 else n10).toNat,(repl (if (s1.length:Int)+1<n10 then(s1.length:Int)+1 else n10).toNat [(.string (mkS []))]),rv11) ⟨hs.q,hI0⟩ (λs a w hI=>?_);obtain⟨s29,i30,rn32,rx33,rv31⟩:=s;obtain⟨hs,hI⟩:=hI;have hS:=hst s29 i30 rn32 rx33 hI;clear hst hI0 hI;refine qs (qr (sP3 (iv i30) (iv ((if (s1.length:Int)+1<n10 then(s1.length:Int)+1 else n10)-1)) (.bool (decide (i30<(if (s1.length:Int)+1<n10 then(s1.length:Int)+1 else n10)-1))) hs λ_ hs=>?_));refine wn (Wp.cS hs decide_eq_true_iff hS (λhS=>?_) (λhS=>?_))
     ·refine qk (qb (qr (sP2 (.string (mkS s29)) (.string (mkS sep2)) hs λ_ hs=>?_)));refine cP [(.string (mkS s29)),(.string (mkS sep2))] hs Tryd.func96 hS λ_ _ v hS hs=>?_;obtain⟨x36,rfl,hS⟩:=hS;refine sP (iv x36) hs λ_ hs=>?_;refine wn (qs (qr (sP2 (iv x36) (.bool (decide (x36<0))) hs λ_ hs=>?_)));refine wn (Wp.cS hs decide_eq_true_iff hS (λhS=>?_) (λhS=>?_))
      ·exact qx rfl (⟨s29,i30,rn32,rx33,rv31,hs.q,hS⟩)
      ·refine qk (qr (sP4 rv31 (iv i30) (.string (mkS s29)) (iv x36) hs λ_ hs=>?_));refine sP (iv sepSave3) hs λ_ hs=>?_;obtain⟨hI,hS⟩:=hS;refine sY (iv (x36+sepSave3)) hs (Yl.wr hI) λ_ hs=>?_;obtain⟨h0,h1,h2,hS⟩:=hS;refine sY (.string (mkS ((s29.take (x36+sepSave3).toNat).drop (0:Int).toNat))) hs (Yl.sliceStrH rfl rfl rfl rfl (by kernel_rfl) h0 h1 h2) λ_ hs=>?_;obtain⟨ad37,cap38,hv,hcp,hxl⟩:=hs.rowform 0 rfl
       dsimp only at hv hcp hxl
       subst hv;obtain⟨h0,hl,hS⟩:=hS
       have hix39:i30.toNat<rn32:=by omega
       obtain⟨g40,hg40⟩:=hs.rowblk 0 rfl (by omega);refine sY (.pointer (some ⟨g40,0+i30.toNat*1,none⟩)) hs (Yl.indexS (e:=9) (sz:=1) rfl rfl rfl rfl (by kernel_rfl) (by kernel_rfl) hg40 h0 hl) λ_ hs=>?_;refine stepStoreR 0 (vs:=[(.string (mkS ((s29.take (x36+sepSave3).toNat).drop (0:Int).toNat)))]) hs rfl hg40 rfl rfl rfl rfl rfl (by kernel_rfl) (by have:=hix39;show _+1<=_;omega) rfl (λ_ _ hs=>?_);replace hs:=hs.chrs (rs':=[⟨(Value.slice ad37 rn32 cap38),9,1,rn32,(putAt rx33 (0+i30.toNat*1) [(.string (mkS ((s29.take (x36+sepSave3).toNat).drop (0:Int).toNat)))]),true⟩]) rfl;refine wn (qr (sP4 (.string (mkS s29)) (iv x36) (.string (mkS sep2)) (iv (sep2.length:Int)) hs λ_ hs=>?_));obtain⟨hI,hS⟩:=hS;refine sY (iv (x36+(sep2.length:Int))) hs (Yl.wr hI) λ_ hs=>?_;obtain⟨h0,h1,h2,hS⟩:=hS;refine sY (.string (mkS ((s29.take (s29.length:Int).toNat).drop (x36+(sep2.length:Int)).toNat))) hs (Yl.sliceStrL rfl rfl rfl rfl (by kernel_rfl) h0 h1 h2) λ_ hs=>?_;refine sP (.string (mkS ((s29.take (s29.length:Int).toNat).drop (x36+(sep2.length:Int)).toNat))) hs λ_ hs=>?_;refine wn (qg (sP (iv i30) hs λ_ hs=>?_));obtain⟨hI,hS⟩:=hS;refine sY (iv (i30+1)) hs (Yl.wr hI) λ_ hs=>?_;refine sP (iv (i30+1)) hs λ_ hs=>?_
       exact wn (⟨((s29.take (s29.length:Int).toNat).drop (x36+(sep2.length:Int)).toNat,i30+1,rn32,(putAt rx33 (0+i30.toNat*1) [(.string (mkS ((s29.take (x36+sepSave3).toNat).drop (0:Int).toNat)))]),(.slice ad37 rn32 cap38)),⟨hs.q,hS.1⟩,hS.2⟩)
     ·exact qx rfl (⟨s29,i30,rn32,rx33,rv31,hs.q,hS⟩)
    ·intro a w hJ;obtain⟨s41,i42,rn44,rx45,rv43,hs,hS⟩:=hJ;unfold S_strings_genSplit_J2 at hS;refine qr (sP3 rv43 (iv i42) (.string (mkS s41)) hs λ_ hs=>?_);obtain⟨ad46,cap47,hv,hcp,hxl⟩:=hs.rowform 0 rfl
     dsimp only at hv hcp hxl
     subst hv;obtain⟨h0,hl,hS⟩:=hS
     have hix48:i42.toNat<rn44:=by omega
     obtain⟨g49,hg49⟩:=hs.rowblk 0 rfl (by omega);refine sY (.pointer (some ⟨g49,0+i42.toNat*1,none⟩)) hs (Yl.indexS (e:=9) (sz:=1) rfl rfl rfl rfl (by kernel_rfl) (by kernel_rfl) hg49 h0 hl) λ_ hs=>?_;refine stepStoreR 0 (vs:=[(.string (mkS s41))]) hs rfl hg49 rfl rfl rfl rfl rfl (by kernel_rfl) (by have:=hix48;show _+1<=_;omega) rfl (λ_ _ hs=>?_);replace hs:=hs.chrs (rs':=[⟨(Value.slice ad46 rn44 cap47),9,1,rn44,(putAt rx45 (0+i42.toNat*1) [(.string (mkS s41))]),true⟩]) rfl;refine wn (qr (sP2 (.slice ad46 rn44 cap47) (iv i42) hs λ_ hs=>?_));obtain⟨hI,hS⟩:=hS;refine sY (iv (i42+1)) hs (Yl.wr hI) λ_ hs=>?_;obtain⟨h0,h1,hS⟩:=hS;refine stepCut 0 hs rfl rfl rfl rfl rfl (by kernel_rfl) (by kernel_rfl) (by decide) h0 h1 (λ_ _ rv50 hs=>?_);replace hs:=hs.chrs (rs':=[⟨rv50,9,1,((i42+1).toNat),(List.take ((i42+1).toNat*1) (putAt rx45 (0+i42.toNat*1) [(.string (mkS s41))])),true⟩]) rfl;refine sP rv50 hs λ_ hs=>?_;refine wn (qt ?_);obtain⟨ad51,cap52,hv,hcp,hxl⟩:=hs.rowform 0 rfl
     dsimp only at hv hcp hxl
     subst hv;obtain⟨M53,hle,hsl,hnew,hs⟩:=hs.release 0 rfl [] rfl;have hMM:=hMM.next hle hnew;have hS:=hS M53 ad51 cap52 hle hsl;exact leaveE (K:=K) hs (resT hs rfl rfl) hMM.2 hS
def S_strings_Split (s1:List UInt8) (sep2:List UInt8) (M:Mem) (K:Value->Mem->Prop):Prop:=
 (CallE Tryd.prog 97 #[(.string (mkS s1)),(.string (mkS sep2)),(.int .i64 0),(.int .i64 (-1))] M (λv M6=>∃(xa3:Option Addr) (xl4:Nat) (xc5:Nat),v=(Value.slice xa3 xl4 xc5)/\(∀M',M6.le M'->K (Value.slice xa3 xl4 xc5) M')))
set_option maxRecDepth 100000 in
theorem s_strings_Split (s1:List UInt8) (sep2:List UInt8) (M:Mem) (K:Value->Mem->Prop) (hS:S_strings_Split s1 sep2 M K):CallE Tryd.prog 55 #[(Value.string (mkS s1)),(Value.string (mkS sep2))] M K:=by
 refine eE2 Tryd.func55 8 λE a hMM hs=>?_;unfold S_strings_Split at hS;refine qr (sP (.slice none 0 0) hs λ_ hs=>?_);refine wn (qr (sP2 (.string (mkS s1)) (.string (mkS sep2)) hs λ_ hs=>?_));refine cM [(.string (mkS s1)),(.string (mkS sep2)),(iv 0),(iv (-1))] hs hMM Tryd.func97 hS λ_ _ M6 v hMM hle hS hs=>?_;obtain⟨xa3,xl4,xc5,rfl,hS⟩:=hS;refine sP (.slice xa3 xl4 xc5) hs λ_ hs=>?_;exact wn (qt (leaveE (K:=K) hs (resT hs rfl rfl) hMM.2 hS))
end Go.Proofs.YtjecddabdlapbaaDoor.core

