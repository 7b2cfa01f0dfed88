/- Contracts and what they hang on, of several parts. No condition. -/
import Derived.WalkKit
import Derived.WalkSpells
import Derived.WalkLawsBesides
import Derived.Deep.Quiet
import Derived.OrdersHeld
import Derived.Laws.StructEq
import Derived.Maps.AppendAt
import Derived.Laws.MakeOwn
import Derived.Laws.IdiomStrings
import Derived.ProofKit
import Derived.OpenShut
import Derived.ShutString
import Derived.ChangeOld
import Derived.Carry
import Derived.Laws.Externs
import Derived.Lib.Bytealg
import Derived.SizedLaws
import Derived.JoinedCond
import Derived.Deep.CondSized
import Derived.Maps.Keyed
import Derived.DeepKeys3
import Derived.ChangeMaps4
import Derived.Lib.OthersKept
import GoSem.Extern.BytealgCount
import Derived.Test.YtjecddabdlapbaaDoorRows
namespace Go.Gx
open Go.RowKit
abbrev Env:=List (Nat×Value)
def lk:Env->Nat->Option Value
 |[],_=>none
 |(k,v)::r,x=>match Nat.beq k x with
  |true=>some v
  |false=>lk r x
theorem lk_cons (k:Nat) (v:Value) (r:Env) (x:Nat):lk ((k,v)::r) x=if k=x then some v else lk r x:=by
 show(match Nat.beq k x with|true=>some v|false=>lk r x)=_
 by_cases h:k=x
 ·subst h;simp
 ·have:Nat.beq k x=false:=by
   cases hb:Nat.beq k x
   ·rfl
   ·exact absurd (Nat.eq_of_beq_eq_true hb) h
  simp[this,h]
structure Ag (n:Nat) (a:Act) (env:Env):Prop where
 df:a.defers=[]
 sz:a.tmps.size=n
 at_:∀x v,lk env x=some v->a.tmps.getD x undef=v
theorem Ag.put {n:Nat} {a:Act} {env:Env} (h:Ag n a env) {d:Nat} (hd:d<n) (v:Value):Ag n (a.put (some d) v) ((d,v)::env):=by
 refine⟨h.df,by simp[Act.put,h.sz],λx u hx=>?_⟩
 rw[lk_cons]at hx
 by_cases hk:d=x
 ·subst hk
  simp only[if_true,Option.some.injEq]at hx
  subst hx
  simp[Act.put,h.sz,hd]
 ·rw[if_neg hk]at hx
  have:=h.at_ x u hx
  simp only[Act.put,Array.getD_eq_getD_getElem?,Array.getElem?_setIfInBounds_ne hk]at this ⊢
  exact this
theorem Ag.sub {n:Nat} {a:Act} {env:Env} (h:Ag n a env) (env':Env) (hs:∀p∈env',lk env p.1=some p.2):Ag n a env':=by
 refine⟨h.df,h.sz,λx v hx=>h.at_ x v ?_⟩
 clear h
 induction env' with
 |nil=>cases hx
 |cons p r ih=>
  obtain⟨k,u⟩:=p
  rw[lk_cons]at hx
  by_cases hk:k=x
  ·subst hk
   simp only[if_true,Option.some.injEq]at hx
   subst hx
   exact hs (k,u) (by simp)
  ·rw[if_neg hk]at hx
   exact ih (λq hq=>hs q (List.mem_cons_of_mem _ hq)) hx
def evT (env:Env):Operand->Value
 | .tmp t=>(lk env t).getD undef
 | .const v=>v
 | .global g=>.pointer (some ⟨g,0,none⟩)
 | .func f=>.func (.func f) #[] #[]
def known (env:Env):Operand->Bool
 | .tmp t=>(lk env t).isSome
 |_=>true
theorem Ag.eval {n:Nat} {a:Act} {env:Env} (h:Ag n a env) {x:Operand} (hk:known env x=true):a.eval x=evT env x:=by
 cases x with
 |tmp t=>
  simp only[known]at hk
  obtain⟨v,hv⟩:=Option.isSome_iff_exists.1 hk
  simp[Act.eval,evT,hv,h.at_ t v hv]
 |_=>rfl
def notSel:Op->Bool
 | .select .. =>false
 |_=>true
def okOp (env:Env) (o:Oper):Bool:=notSel o.op&&o.op.operands.toList.all (known env)
theorem Ag.exec {n:Nat} {a:Act} {env:Env} (h:Ag n a env) {o:Oper} (hk:okOp env o=true):execOp a.eval o=execOp (evT env) o:=by
 simp only[okOp,Bool.and_eq_true]at hk
 refine execOp_congr o (λcs b e=>?_) λx hx=>h.eval ?_
 ·rw[e]at hk;simp[notSel]at hk
 ·have:=List.all_eq_true.1 hk.2 x (by simpa using hx)
  exact this
structure Bx where
 b:Nat
 t:TypeId
 cs:List Value
def BxAt (w:World) (x:Bx):Prop:=w.heap[x.b]?=some (.cells x.cs.toArray x.t (0,0))
structure Rw where
 v:Value
 e:TypeId
 size:Nat
 n:Nat
 xs:List Value
 own:Bool
abbrev Mem:=Nat->Option Obj
def Mem.le (M M':Mem):Prop:=∀b o,M b=some o->M' b=some o
def On (M:Mem) (w:World):Prop:=∀b o,M b=some o->w.heap[b]?=some o
theorem Mem.le.refl (M:Mem):M.le M:=λ_ _ h=>h
theorem Mem.le.trans {A B C:Mem} (h:A.le B) (k:B.le C):A.le C:=λb o q=>k b o (h b o q)
theorem On.lt {M:Mem} {w:World} (h:On M w) {b:Nat} {o:Obj} (hb:M b=some o):b<w.heap.size:=(Array.getElem?_eq_some_iff.1 (h b o hb)).1
theorem On.noneAt {M:Mem} {w:World} (h:On M w) {b:Nat} (hb:w.heap.size<=b):M b=none:=by
 cases hm:M b with
 |none=>rfl
 |some o=>have:=h.lt hm;omega
structure Pres (E:World) (bw:List Nat) (w:World):Prop where
 os:w.os=E.os
 tape:w.tape=E.tape
 output:w.output=E.output
 size:E.heap.size<=w.heap.size
 block:∀k,k<E.heap.size->k∉bw->w.heap[k]?=E.heap[k]?
theorem Pres.refl (E:World) (bw:List Nat):Pres E bw E:=⟨rfl,rfl,rfl,Nat.le_refl _,λ_ _ _=>rfl⟩
theorem Pres.below {E w:World} (h:Pres E [] w):Below E.heap.size E w:=⟨h.os,h.tape,h.output,h.size,λk hk=>h.block k hk (by simp)⟩
structure Cx (M:Mem) (bs:List Bx) (rs:List Rw) (w:World):Prop where
 on:On M w
 bx:∀x∈bs,BxAt w x
 rw:∀r∈rs,∃base,w.ownsRow base r.e r.size r.v r.n r.xs
structure Nd (bs:List Bx) (rs:List Rw):Prop where
 b:(bs.map (·.b)).Nodup
 x:∀x∈bs,∀r∈rs,r.v.ownBlock≠some x.b
 r:rs.Pairwise λr s=>∀g,r.v.ownBlock=some g->s.v.ownBlock≠some g
theorem Nd.sub {bs bs':List Bx} {rs rs':List Rw} (h:Nd bs rs) (hb:bs'.Sublist bs) (hr:rs'.Sublist rs):Nd bs' rs':=
 ⟨h.b.sublist (hb.map _),λx hx r hr'=>h.x x (hb.subset hx) r (hr.subset hr'),h.r.sublist hr⟩
structure Sx (n:Nat) (E:World) (bw:List Nat) (M:Mem) (w:World) (a:Act) (env:Env) (bs:List Bx) (rs:List Rw):Prop where
 ag:Ag n a env
 on:On M w
 pr:Pres E bw w
 bx:∀x∈bs,BxAt w x/\M x.b=none/\(E.heap.size<=x.b\/x.b∈bw)
 rw:∀r∈rs,w.ownsRow 0 r.e r.size r.v r.n r.xs/\∀g,r.v.ownBlock=some g->M g=none/\(E.heap.size<=g\/(r.own=false/\g∈bw))
 nd:Nd bs rs
theorem BxAt.lt {w:World} {x:Bx} (h:BxAt w x):x.b<w.heap.size:=by
 unfold BxAt at h
 rcases Nat.lt_or_ge x.b w.heap.size with h'|h'
 ·exact h'
 ·rw[Array.getElem?_eq_none h']at h;cases h
theorem BxAt.cell {w:World} {x:Bx} (h:BxAt w x) (i:Nat):w.cell? ⟨x.b,i,none⟩=x.cs[i]?:=by
 rw[cell_of_row w x.b i x.cs.toArray x.t (0,0) h];simp
theorem Sx.cx {n:Nat} {E:World} {bw:List Nat} {M:Mem} {w:World} {a:Act} {env:Env} {bs:List Bx} {rs:List Rw} (h:Sx n E bw M w a env bs rs):Cx M bs rs w:=
 ⟨h.on,λx hx=>(h.bx x hx).1,λr hr=>⟨_,(h.rw r hr).1⟩⟩
theorem Sx.act {n:Nat} {E:World} {bw:List Nat} {M:Mem} {w:World} {a a':Act} {env env':Env} {bs:List Bx} {rs:List Rw} (h:Sx n E bw M w a env bs rs) (hA:Ag n a' env'):Sx n E bw M w a' env' bs rs:=
 ⟨hA,h.on,h.pr,h.bx,h.rw,h.nd⟩
theorem Sx.sub {n:Nat} {E:World} {bw:List Nat} {M:Mem} {w:World} {a:Act} {env:Env} {bs:List Bx} {rs:List Rw} (h:Sx n E bw M w a env bs rs) (env':Env) (hs:∀p∈env',lk env p.1=some p.2):Sx n E bw M w a env' bs rs:=
 h.act (h.ag.sub env' hs)
def Yl (P:Program) (env:Env) (M:Mem) (bs:List Bx) (rs:List Rw) (o:Oper) (v:Value):Prop:=
 okOp env o=true/\∀w,Cx M bs rs w->(execOp (evT env) o).run P w= .ok (.value v) w
theorem Yl.pure {P:Program} {env:Env} {M:Mem} {bs:List Bx} {rs:List Rw} {o:Oper} {v:Value} (hk:okOp env o=true)
  (h:∀w,(execOp (evT env) o).run P w= .ok (.value v) w):Yl P env M bs rs o v:=⟨hk,λw _=>h w⟩
theorem Yl.eq {P:Program} {env:Env} {M:Mem} {bs:List Bx} {rs:List Rw} {o:Oper} {v v':Value} (h:Yl P env M bs rs o v) (e:v=v'):Yl P env M bs rs o v':=e▸h
def lkX:List (Nat×(Act->World->Prop))->Nat->Option (Act->World->Prop)
 |[],_=>none
 |(k,v)::r,x=>match Nat.beq k x with
  |true=>some v
  |false=>lkX r x
def QQ (N:Act->World->Prop) (X:List (Nat×(Act->World->Prop))) (R:Act->World->Prop) (Z:List PanicEntry->Act->World->Prop):Exit->Act->World->Prop
 | .normal,a,w=>N a w
 | .exit id,a,w=>match lkX X id with
  |some K=>K a w
  |none=>False
 | .ret,a,w=>R a w
 | .panic c,a,w=>Z c a w
 |_,_,_=>False
def Wp (P:Program) (c:Code) (N:Act->World->Prop) (X:List (Nat×(Act->World->Prop))) (R:Act->World->Prop) (Z:List PanicEntry->Act->World->Prop) (a:Act) (w:World):Prop:=
 Code.wp P c (QQ N X R Z) a w
section
variable {P:Program} {N J:Act->World->Prop} {X:List (Nat×(Act->World->Prop))} {R:Act->World->Prop} {Z:List PanicEntry->Act->World->Prop} {a:Act} {w:World}
theorem Wp.mono {c:Code} {N':Act->World->Prop} (hN:∀a w,N a w->N' a w) (h:Wp P c N X R Z a w):Wp P c N' X R Z a w:=
 Code.wp_mono (λe a w q=>by cases e<;>first|exact hN _ _ q|exact q) h
theorem Wp.seq {x y:Code} (h:Wp P x (λa w=>Wp P y N X R Z a w) X R Z a w):Wp P (.seq x y) N X R Z a w:=
 wp_seq (Code.wp_mono (λe a w q=>by cases e<;>exact q) h)
theorem Wp.join {x y:Code} (J:Act->World->Prop) (h:Wp P x J X R Z a w) (hJ:∀a w,J a w->Wp P y N X R Z a w):Wp P (.seq x y) N X R Z a w:=
 Wp.seq (Wp.mono hJ h)
theorem Wp.skip (h:N a w):Wp P .skip N X R Z a w:=wp_skip h
theorem Wp.ret (h:R a w):Wp P .ret N X R Z a w:=wp_ret h
theorem Wp.exit {id:Nat} {K:Act->World->Prop} (hx:lkX X id=some K) (h:K a w):Wp P (.exit id) N X R Z a w:=
 wp_exit (by unfold QQ;simp only[hx];exact h)
theorem Wp.block {id:Nat} {c:Code} (h:Wp P c N ((id,N)::X) R Z a w):Wp P (.block id c) N X R Z a w:=by
 refine wp_block (Code.wp_mono (λe a w q=>?_) h)
 cases e with
 |exit i=>
  simp only[QQ,lkX,Exit.inBlock]at q ⊢
  by_cases hi:i=id
  ·subst hi
   have:Nat.beq i i=true:=by simp
   simp only[this]at q
   simpa using q
  ·have:Nat.beq id i=false:=by
    cases hb:Nat.beq id i
    ·rfl
    ·exact absurd (Nat.eq_of_beq_eq_true hb).symm hi
   simp only[this]at q
   simp only[hi,if_false]
   exact q
 |_=>exact q
theorem Wp.loop {σ:Type} {c:Code} (I:σ->Act->World->Prop) (μ:σ->Nat) (s0:σ) (h0:I s0 a w)
  (round:∀s a w,I s a w->Wp P c (λa' w'=>∃s',I s' a' w'/\μ s'<μ s) X R Z a w):Wp P (.loop c) N X R Z a w:=by
 classical
 have least:∀m (a:Act) (w:World),(∃s,I s a w/\μ s=m)->∃s,I s a w/\∀s',I s' a w->μ s<=μ s':=by
  intro m
  induction m using Nat.strongRecOn with
  |_ m ih=>
   intro a w ⟨s,hs,hm⟩
   by_cases hx:∃s',I s' a w/\μ s'<m
   ·obtain⟨s',h1,h2⟩:=hx
    exact ih _ h2 a w ⟨s',h1,rfl⟩
   ·exact⟨s,hs,λs' h'=>by
     rcases Nat.lt_or_ge (μ s') m with h2|h2
     ·exact absurd ⟨s',h',h2⟩ hx
     ·omega⟩
 let M:Act->World->Nat:=λa w=>if h:∃s,I s a w then μ (Classical.choose (least _ a w ⟨_,(Classical.choose_spec h),rfl⟩)) else 0
 have hM:∀s a w,I s a w->M a w<=μ s:=by
  intro s a w hs
  have h:∃s,I s a w:=⟨s,hs⟩
  simp only[M,dif_pos h]
  exact(Classical.choose_spec (least _ a w ⟨_,(Classical.choose_spec h),rfl⟩)).2 s hs
 refine wp_loop (λa w=>∃s,I s a w) M ⟨s0,h0⟩ (λa w hI=>?_)
 have hc:=Classical.choose_spec (least _ a w ⟨_,(Classical.choose_spec hI),rfl⟩)
 have he:M a w=μ (Classical.choose (least _ a w ⟨_,(Classical.choose_spec hI),rfl⟩)):=by simp only[M,dif_pos hI]
 refine Code.wp_mono (λe a' w' q=>?_) (round _ a w hc.1)
 cases e with
 |normal=>
  obtain⟨s',h1,h2⟩:=q
  refine⟨⟨s',h1⟩,?_⟩
  rw[he]
  exact Nat.lt_of_le_of_lt (hM s' a' w' h1) h2
 |_=>exact q
theorem Wp.cond {n:Nat} {E:World} {bw:List Nat} {M:Mem} {env:Env} {bs:List Bx} {rs:List Rw} (hs:Sx n E bw M w a env bs rs) {c:Operand} {x y:Code} {b:Bool} {p:Prop}
  (hk:known env c=true) (hc:evT env c= .bool b) (hp:b=true↔p) (h1:p->Wp P x N X R Z a w) (h2:¬p->Wp P y N X R Z a w):Wp P (.cond c x y) N X R Z a w:=by
 refine wp_cond_split (t:=b) ((hs.ag.eval hk).trans hc) (λe=>h1 (hp.1 e)) (λe=>h2 λq=>?_)
 have:=hp.2 q
 rw[e]at this
 cases this
end
def OpW (P:Program) (ρ:Operand->Value) (o:Oper) (w:World) (K:Value->World->Prop) (Z:List PanicEntry->World->Prop):Prop:=
 match (execOp ρ o).run P w with
 | .ok (.value v) w'=>K v w'
 | .ok .skip w'=>K undef w'
 | .ok (.enter f args) w'=>Calls P f args w' λ
  | .returned v,w''=>K v w''
  | .panicked c,w''=>Z c w''
  | .outgrown,_=>False
 | .halt (.panic v) w'=>Z [{v,recovered:=false}] w'
 |_=>False
theorem OpW.upon {P:Program} {o:Oper} {a:Act} {w:World} {next:Act->World->Prop} {Q:Exit->Act->World->Prop} {Z:List PanicEntry->World->Prop}
  (hZ:∀c w,Z c w->Q (.panic c) a w)
  (h:OpW P a.eval o w (λv w'=>next (a.put o.dst v) w') Z):o.wp P a w next Q:=by
 unfold OpW at h
 unfold Oper.wp
 generalize (execOp a.eval o).run P w=r at*
 cases r with
 |ok n w'=>
  cases n<;>simp only[Oper.upon]at h ⊢<;>try exact h
  case enter f args=>
   refine Calls.mono h λe w'' he=>?_
   cases e with
   |returned v=>exact he
   |panicked c=>exact hZ _ _ he
   |outgrown=>exact he.elim
 |halt x w'=>cases x<;>simp only[Oper.upon]at h ⊢<;>first|exact hZ _ _ h|exact h
section
variable {P:Program} {ops:Array Oper} {Q:Exit->Act->World->Prop} {n:Nat} {E:World} {bw:List Nat} {M:Mem} {w:World} {a:Act} {env:Env} {bs:List Bx} {rs:List Rw} {rest:List Oper} {o:Oper}
theorem stepY (v:Value) {d:Nat} (hs:Sx n E bw M w a env bs rs) (hg:o.guard=none) (hd:o.dst=some d) (hdn:d<n) (hy:Yl P env M bs rs o v)
  (h:∀a',Sx n E bw M w a' ((d,v)::env) bs rs->wpList P ops Q rest a' w):wpList P ops Q (o::rest) a w:=by
 refine wpList_plain hg λK hK=>?_
 have he:(execOp a.eval o).run P w= .ok (.value v) w:=by rw[hs.ag.exec hy.1];exact hy.2 w hs.cx
 unfold Oper.wp
 rw[he]
 refine hK _ _ ?_
 rw[hd]
 exact h _ (hs.act (hs.ag.put hdn v))
theorem yielded_of {j t:Nat} {b:Bool} (hs:Sx n E bw M w a env bs rs) (ht:(ops[j]?).bind (·.dst)=some t) (hl:lk env t=some (.bool b)):yielded ops a.tmps j=some b:=by
 have hlt:t<a.tmps.size:=by
  rcases Nat.lt_or_ge t a.tmps.size with h'|h'
  ·exact h'
  ·have:=hs.ag.at_ t _ hl
   simp[Array.getElem?_eq_none h',undef]at this
 have hat:a.tmps[t]?=some (.bool b):=by
  have:=hs.ag.at_ t _ hl
  simp only[Array.getD_eq_getD_getElem?,Array.getElem?_eq_getElem hlt,Option.getD_some]at this ⊢
  rw[this]
 simp[yielded,ht,hat]
theorem step_yes {j t:Nat} {b:Bool} (hs:Sx n E bw M w a env bs rs) (hg:o.guard=some (j,b)) (ht:(ops[j]?).bind (·.dst)=some t) (hl:lk env t=some (.bool b))
  (h:wpList P ops Q ({o with guard:=none}::rest) a w):wpList P ops Q (o::rest) a w:=by
 have hw:Region.wanted o (yielded ops a.tmps)=true:=by simp[Region.wanted,hg,yielded_of hs ht hl]
 unfold wpList at h ⊢
 rw[if_pos (by simp[Region.wanted])]at h
 rw[if_pos hw]
 exact h
theorem step_no {j t d:Nat} {b c:Bool} (hs:Sx n E bw M w a env bs rs) (hg:o.guard=some (j,b)) (ht:(ops[j]?).bind (·.dst)=some t) (hl:lk env t=some (.bool c)) (hne:(c==b)=false)
  (hd:o.dst=some d) (hdn:d<n) (h:∀a',Sx n E bw M w a' ((d,undef)::env) bs rs->wpList P ops Q rest a' w):wpList P ops Q (o::rest) a w:=by
 have hw:Region.wanted o (yielded ops a.tmps)=false:=by
  simp[Region.wanted,hg,yielded_of hs ht hl]
  simpa using hne
 unfold wpList
 rw[if_neg (by simp[hw]),hd]
 exact h _ (hs.act (hs.ag.put hdn undef))
theorem step_nou {j t d:Nat} {b:Bool} (hs:Sx n E bw M w a env bs rs) (hg:o.guard=some (j,b)) (ht:(ops[j]?).bind (·.dst)=some t) (hl:lk env t=some undef)
  (hd:o.dst=some d) (hdn:d<n) (h:∀a',Sx n E bw M w a' ((d,undef)::env) bs rs->wpList P ops Q rest a' w):wpList P ops Q (o::rest) a w:=by
 have hy:yielded ops a.tmps j=none:=by
  have:=hs.ag.at_ t _ hl
  simp only[Array.getD_eq_getD_getElem?]at this
  cases hc:a.tmps[t]? with
  |none=>simp[yielded,ht,hc]
  |some u=>rw[hc]at this;simp only[Option.getD_some]at this;subst this;simp[yielded,ht,hc,undef]
 have hw:Region.wanted o (yielded ops a.tmps)=false:=by simp[Region.wanted,hg,hy]
 unfold wpList
 rw[if_neg (by simp[hw]),hd]
 exact h _ (hs.act (hs.ag.put hdn undef))
theorem Sx.bt {d:Nat} {b:Bool} (hs:Sx n E bw M w a ((d,.bool b)::env) bs rs) (h:b=true):Sx n E bw M w a ((d,.bool true)::env) bs rs:=h▸hs
theorem Sx.bf {d:Nat} {b:Bool} (hs:Sx n E bw M w a ((d,.bool b)::env) bs rs) (h:b=false):Sx n E bw M w a ((d,.bool false)::env) bs rs:=h▸hs
end
theorem bsplit {G:Prop} (b:Bool) {p:Prop} (hp:b=true↔p) (h1:b=true->p->G) (h2:b=false->¬p->G):G:=by
 cases hb:b
 ·exact h2 hb λq=>by rw[hp.2 q]at hb;cases hb
 ·exact h1 hb (hp.1 hb)
section
variable {P:Program} {N:Act->World->Prop} {X:List (Nat×(Act->World->Prop))} {R:Act->World->Prop} {Z:List PanicEntry->Act->World->Prop} {a:Act} {w:World}
theorem Wp.region {id:Nat} {l:List Oper} (h:wpList P l.toArray (QQ N X R Z) l a w):Wp P (.region id l.toArray false) N X R Z a w:=wp_region_lit h
end
def argEnv:List Value->Nat->Env
 |[],_=>[]
 |v::r,i=>(i,v)::argEnv r (i+1)
theorem lk_argEnv (l:List Value):∀(i x:Nat) (v:Value),lk (argEnv l i) x=some v->i<=x/\l[x-i]?=some v:=by
 induction l with
 |nil=>intro i x v h;cases h
 |cons u r ih=>
  intro i x v h
  rw[argEnv,lk_cons]at h
  by_cases hx:i=x
  ·subst hx;simpa using h
  ·rw[if_neg hx]at h
   obtain⟨h1,h2⟩:=ih (i+1) x v h
   refine⟨by omega,?_⟩
   obtain⟨k,rfl⟩:∃k,x=i+1+k:=⟨x-(i+1),by omega⟩
   rw[show i+1+k-i=k+1 by omega]
   rw[show i+1+k-(i+1)=k by omega]at h2
   simpa using h2
theorem enter {P:Program} {f:FuncId} {fn:Func} {c:Code} {l:List Value} {w:World} {Rf:Ending->World->Prop} {M:Mem}
  (hf:P.funcs[f]?=some fn) (hb:fn.body=some c) (n:Nat) (hn:fn.ntmps=n) (hl:l.length<=n) (hon:On M w) (lent:List Bx)
  (hlent:∀x∈lent,BxAt w x/\M x.b=none) (hnd:(lent.map (·.b)).Nodup)
  (h:∀a,Sx n w (lent.map (·.b)) M w a (argEnv l 0) lent []->Wp P c (λa w=>bodyPost P fn Rf .normal a w) [] (λa w=>bodyPost P fn Rf .ret a w) (λch a w=>bodyPost P fn Rf (.panic ch) a w) a w):
  Calls P f l.toArray w Rf:=by
 refine calls_of_wp hf hb ?_
 refine Code.wp_mono (λe a w q=>?_) (h _ ⟨⟨rfl,?_,λx v hx=>?_⟩,hon,Pres.refl _ _,λx hx=>⟨(hlent x hx).1,(hlent x hx).2,.inr (List.mem_map.2 ⟨x,hx,rfl⟩)⟩,(λr hr=>by cases hr),⟨hnd,(λ_ _ r hr=>by cases hr),List.Pairwise.nil⟩⟩)
 ·cases e<;>first|exact q|exact False.elim q
 ·simp[hn];omega
 ·obtain⟨_,h2⟩:=lk_argEnv l 0 x v hx
  simp only[Nat.sub_zero]at h2
  have hx':x<l.length:=by
   rcases Nat.lt_or_ge x l.length with h'|h'
   ·exact h'
   ·rw[List.getElem?_eq_none h']at h2;cases h2
  simp only[Array.getD_eq_getD_getElem?]
  rw[Array.getElem?_append_left (by simpa using hx')]
  simp[h2]
def grow (M:Mem) (w w':World):Mem:=λb=>if w.heap.size<=b then w'.heap[b]? else M b
theorem grow_le {M:Mem} {w w':World} (h:On M w):M.le (grow M w w'):=by
 intro b o hb
 have:=h.lt hb
 unfold grow
 rw[if_neg (by omega)]
 exact hb
theorem grow_on {M:Mem} {w w':World} (h:On M w) (hb:∀k,k<w.heap.size->(M k).isSome=true->w'.heap[k]?=w.heap[k]?):On (grow M w w') w':=by
 intro b o ho
 unfold grow at ho
 by_cases hk:w.heap.size<=b
 ·rw[if_pos hk]at ho;exact ho
 ·rw[if_neg hk]at ho
  rw[hb b (by omega) (by rw[ho];rfl)]
  exact h b o ho
def CallE (P:Program) (f:FuncId) (args:Array Value) (M:Mem) (K:Value->Mem->Prop):Prop:=
 ∀w,On M w->Calls P f args w λe w'=>∃v,e= .returned v/\Below w.heap.size w w'/\K v (grow M w w')
theorem CallE.mono {P:Program} {f:FuncId} {args:Array Value} {M:Mem} {K K':Value->Mem->Prop} (h:CallE P f args M K) (hK:∀v M',M.le M'->K v M'->K' v M'):CallE P f args M K':=
 λw hw=>(h w hw).mono λ_ _ ⟨v,h1,h2,h3⟩=>⟨v,h1,h2,hK v _ (grow_le hw) h3⟩
theorem enterE {P:Program} {f:FuncId} {fn:Func} {c:Code} {l:List Value} {M:Mem} {K:Value->Mem->Prop}
  (hf:P.funcs[f]?=some fn) (hb:fn.body=some c) (n:Nat) (hn:fn.ntmps=n) (hl:l.length<=n)
  (h:∀w a,Sx n w [] M w a (argEnv l 0) [] []->Wp P c (λa' w'=>a'.defers=[]/\∃v,(results fn a'.tmps).run P w'= .ok v w'/\Below w.heap.size w w'/\K v (grow M w w')) []
   (λa' w'=>a'.defers=[]/\∃v,(results fn a'.tmps).run P w'= .ok v w'/\Below w.heap.size w w'/\K v (grow M w w')) (λ_ _ _=>False) a w):
  CallE P f l.toArray M K:=by
 intro w hw
 refine enter (Rf:=λe w'=>∃v,e= .returned v/\Below w.heap.size w w'/\K v (grow M w w')) hf hb n hn hl hw [] (by simp) (by simp) (λa hs=>?_)
 refine Code.wp_mono (λe a' w' q=>?_) (h w a (by simpa using hs))
 cases e with
 |normal=>obtain⟨h1,v,h2,h3,h4⟩:=q;exact⟨h1,v,h2,v,rfl,h3,h4⟩
 |ret=>obtain⟨h1,v,h2,h3,h4⟩:=q;exact⟨h1,v,h2,v,rfl,h3,h4⟩
 |_=>exact q.elim
theorem leaveE {P:Program} {fn:Func} {n:Nat} {E:World} {M0 M:Mem} {w:World} {a:Act} {env:Env} {bs:List Bx} {rs:List Rw} {K:Value->Mem->Prop} {v:Value}
  (hs:Sx n E [] M w a env bs rs) (hr:(results fn a.tmps).run P w= .ok v w) (hM:∀b o,M b=some o->M0 b=some o\/E.heap.size<=b) (hK:∀M',M.le M'->K v M'):
  a.defers=[]/\∃v,(results fn a.tmps).run P w= .ok v w/\Below E.heap.size E w/\K v (grow M0 E w):=by
 refine⟨hs.ag.df,v,hr,hs.pr.below,hK _ λb o hb=>?_⟩
 unfold grow
 by_cases hk:E.heap.size<=b
 ·rw[if_pos hk];exact hs.on b o hb
 ·rw[if_neg hk]
  rcases hM b o hb with h|h
  ·exact h
  ·omega
theorem resT {P:Program} {fn:Func} {n:Nat} {E:World} {bw:List Nat} {M:Mem} {w:World} {a:Act} {env:Env} {bs:List Bx} {rs:List Rw} {t:Nat} {v:Value} (hs:Sx n E bw M w a env bs rs) (hr:fn.results= #[.tmp t]) (hv:lk env t=some v):
  (results fn a.tmps).run P w= .ok v w:=by rw[results_tmp hr,hs.ag.at_ t v hv]
theorem resTT {P:Program} {fn:Func} {n:Nat} {E:World} {bw:List Nat} {M:Mem} {w:World} {a:Act} {env:Env} {bs:List Bx} {rs:List Rw} {t u:Nat} {v x:Value} (hs:Sx n E bw M w a env bs rs) (hr:fn.results= #[.tmp t,.tmp u]) (hv:lk env t=some v) (hx:lk env u=some x):
  (results fn a.tmps).run P w= .ok (.tuple #[v,x]) w:=by rw[results_tmp2 hr,hs.ag.at_ t v hv,hs.ag.at_ u x hx]
theorem add_lit (b o n:Nat):(⟨b,o,none⟩:Addr).add n=⟨b,o+n,none⟩:=by unfold Addr.add;split<;>simp_all
theorem run_load_one {P:Program} {w:World} {a:Addr} {v:Value} {t:TypeId} {d:TypeDesc} (hu:P.underlying t=some d) (hd:(match d with| .struct _| .array _ _=>true|_=>false)=false)
  (h:w.cell? a=some v):(loadVar t a).run P w= .ok v w:=by
 cases d<;>simp at hd<;>simp[loadVar,isAgg,run_underlying hu,h,go_sem]
theorem run_load_agg {P:Program} {w:World} {a:Addr} {vs:List Value} {t:TypeId} {d:TypeDesc} {n:Nat} (hu:P.underlying t=some d) (hd:(match d with| .struct _| .array _ _=>true|_=>false)=true)
  (hn:(P.info? t).map (·.size)=some n) (hl:vs.length=n) (h:∀j v,vs[j]?=some v->w.cell? (a.add j)=some v):(loadVar t a).run P w= .ok (.agg vs.toArray) w:=by
 subst hl
 have hls:=run_loadCells_list (P:=P) w a vs h
 cases hi:P.info? t with
 |none=>simp[hi]at hn
 |some i=>
  simp[hi]at hn
  rw[<-hn]at hls
  cases d<;>simp at hd<;>simp[loadVar,isAgg,run_underlying hu,sizeOf,typeInfo,hi,hls]
def isAggD:Option TypeDesc->Bool
 |some (.struct _)|some (.array _ _)=>true
 |_=>false
def Mem.cell (M:Mem) (b i:Nat):Option Value:=match M b with
 |some (.cells c _ _)=>c[i]?
 |_=>none
theorem On.cell {M:Mem} {w:World} (h:On M w) {b i:Nat} {v:Value} (hc:M.cell b i=some v):w.cell? ⟨b,i,none⟩=some v:=by
 unfold Mem.cell at hc
 split at hc
 ·rename_i c e f hm
  rw[cell_of_row w b i c e f (h _ _ hm)]
  exact hc
 ·cases hc
theorem Mem.le.cell {M M':Mem} (h:M.le M') {b i:Nat} {v:Value} (hc:M.cell b i=some v):M'.cell b i=some v:=by
 unfold Mem.cell at hc ⊢
 split at hc
 ·rename_i c e f hm
  rw[h _ _ hm]
  exact hc
 ·cases hc
def At (M:Mem) (b o:Nat) (vs:List Value):Prop:=∀j v,vs[j]?=some v->M.cell b (o+j)=some v
theorem At.le {M M':Mem} {b o:Nat} {vs:List Value} (h:At M b o vs) (hl:M.le M'):At M' b o vs:=λj v hj=>hl.cell (h j v hj)
theorem At.part {M:Mem} {b o:Nat} {vs:List Value} (h:At M b o vs) (k:Nat) (us:List Value) (hk:(vs.drop k).take us.length=us):At M b (o+k) us:=by
 intro j u hj
 rw[Nat.add_assoc]
 refine h _ _ ?_
 have hjl:j<us.length:=(List.getElem?_eq_some_iff.1 hj).1
 rw[<-hk,List.getElem?_take,if_pos hjl,List.getElem?_drop]at hj
 exact hj
def ofCells (agg:Bool) (vs:List Value):Value:=
 match agg,vs with
 |false,[v]=>v
 |_,vs=>.agg vs.toArray
theorem run_load_at {P:Program} {w:World} {b o:Nat} {vs:List Value} {t:TypeId} {g:Bool} (hg:isAggD (P.underlying t)=g) (hsome:(P.underlying t).isSome=true)
  (hn:(P.info? t).map (·.size)=some vs.length) (h1:g=false->vs.length=1) (h:∀j v,vs[j]?=some v->w.cell? ⟨b,o+j,none⟩=some v):(loadVar t ⟨b,o,none⟩).run P w= .ok (ofCells g vs) w:=by
 cases hu:P.underlying t with
 |none=>simp[hu]at hsome
 |some d=>
  rw[hu]at hg
  cases g with
  |true=>
   rw[run_load_agg (d:=d) hu (by cases d<;>simp_all [isAggD]) hn rfl (λj v hj=>by rw[add_lit];exact h j v hj)]
   cases vs with
   |nil=>rfl
   |cons v r=>rfl
  |false=>
   obtain⟨v,rfl⟩:∃v,vs=[v]:=List.length_eq_one_iff.1 (h1 rfl)
   exact run_load_one (d:=d) hu (by cases d<;>simp_all [isAggD]) (h 0 v rfl)
def tyOk (P:Program) (t:TypeId) (g:Bool) (k:Nat):Bool:=isAggD (P.underlying t)==g&&(P.underlying t).isSome&&((P.info? t).map (·.size))==some k&&(g||k==1)
theorem tyOk_spec {P:Program} {t:TypeId} {g:Bool} {k:Nat} (h:tyOk P t g k=true):isAggD (P.underlying t)=g/\(P.underlying t).isSome=true/\(P.info? t).map (·.size)=some k/\(g=false->k=1):=by
 simp only[tyOk,Bool.and_eq_true,beq_iff_eq,Bool.or_eq_true]at h
 obtain⟨⟨⟨h1,h2⟩,h3⟩,h4⟩:=h
 exact⟨h1,h2,h3,λe=>h4.elim (λh4=>by rw[e]at h4;cases h4) λh4=>h4⟩
section
variable {P:Program} {env:Env} {M:Mem} {bs:List Bx} {rs:List Rw} {o:Oper}
theorem Yl.loadV {d:Option Tmp} {t ty:TypeId} {x:Operand} {pos:String} {af:Array Edge} {gd:Option (Nat×Bool)} {b k:Nat} {vs:List Value} (g:Bool) (hk:known env x=true) (hx:evT env x= .pointer (some ⟨b,k,none⟩))
  (ht:tyOk P t g vs.length=true) (h:At M b k vs):
  Yl P env M bs rs ⟨d,.load t x,ty,pos,af,gd⟩ (ofCells g vs):=by
 obtain⟨h1,h2,h3,h4⟩:=tyOk_spec ht
 refine⟨by simp[okOp,notSel,Op.operands,hk],λw hc=>?_⟩
 have:=run_load_at (P:=P) h1 h2 h3 h4 (λj v hj=>hc.on.cell (h j v hj))
 simp[execOp,Instr.loadAt,hx,Instr.sureAddr,this]
theorem Yl.loadB {d:Option Tmp} {t ty:TypeId} {x:Operand} {pos:String} {af:Array Edge} {gd:Option (Nat×Bool)} {b k:Nat} {cs vs:List Value} (g:Bool) (i:Nat) {bt:TypeId} (hi:bs[i]?=some ⟨b,bt,cs⟩) (hk:known env x=true) (hx:evT env x= .pointer (some ⟨b,k,none⟩))
  (ht:tyOk P t g vs.length=true) (hvs:(cs.drop k).take vs.length=vs):
  Yl P env M bs rs ⟨d,.load t x,ty,pos,af,gd⟩ (ofCells g vs):=by
 obtain⟨h1,h2,h3,h4⟩:=tyOk_spec ht
 refine⟨by simp[okOp,notSel,Op.operands,hk],λw hc=>?_⟩
 have hb:=hc.bx _ (List.mem_of_getElem? hi)
 have hat:∀j v,vs[j]?=some v->w.cell? ⟨b,k+j,none⟩=some v:=by
  intro j v hj
  rw[hb.cell]
  show cs[k+j]?=some v
  have hjl:j<vs.length:=(List.getElem?_eq_some_iff.1 hj).1
  rw[<-hvs,List.getElem?_take,if_pos hjl,List.getElem?_drop]at hj
  exact hj
 have:=run_load_at (P:=P) h1 h2 h3 h4 hat
 simp[execOp,Instr.loadAt,hx,Instr.sureAddr,this]
theorem Yl.indexS {d:Option Tmp} {t e ty:TypeId} {x i:Operand} {pos:String} {af:Array Edge} {gd:Option (Nat×Bool)} {b k l c sz:Nat} {ik:IntKind} {n:Int} {ad:Option Addr} (hkx:known env x=true) (hki:known env i=true)
  (hx:evT env x= .slice ad l c) (hi:evT env i= .int ik n) (hu:P.underlying t=some (.slice e)) (hn:(P.info? e).map (·.size)=some sz) (had:ad=some ⟨b,k,none⟩) (h0:0<=n) (hl:n<l):
  Yl P env M bs rs ⟨d,.indexAddr t x i,ty,pos,af,gd⟩ (.pointer (some ⟨b,k+n.toNat*sz,none⟩)):=by
 subst had
 refine⟨by simp[okOp,notSel,Op.operands,hkx,hki],λw _=>?_⟩
 cases hi':P.info? e with
 |none=>simp[hi']at hn
 |some ti=>
  simp[hi']at hn
  simp[execOp,Instr.indexAt,hx,hi,asIntOf,run_underlying hu,sizeOf,typeInfo,hi',h0,hl,go_sem,hn,add_lit]
theorem Yl.indexA {d:Option Tmp} {t e ty:TypeId} {x i:Operand} {pos:String} {af:Array Edge} {gd:Option (Nat×Bool)} {b k l sz:Nat} {ik:IntKind} {n:Int} (hkx:known env x=true) (hki:known env i=true)
  (hx:evT env x= .pointer (some ⟨b,k,none⟩)) (hi:evT env i= .int ik n) (hu:P.underlying t=some (.array l e)) (hn:(P.info? e).map (·.size)=some sz) (h0:0<=n) (hl:n<l):
  Yl P env M bs rs ⟨d,.indexAddr t x i,ty,pos,af,gd⟩ (.pointer (some ⟨b,k+n.toNat*sz,none⟩)):=by
 refine⟨by simp[okOp,notSel,Op.operands,hkx,hki],λw _=>?_⟩
 cases hi':P.info? e with
 |none=>simp[hi']at hn
 |some ti=>
  simp[hi']at hn
  simp[execOp,Instr.indexAt,hx,hi,asIntOf,run_underlying hu,sizeOf,typeInfo,hi',h0,hl,go_sem,hn,add_lit,Instr.sureAddr]
end
section
variable {P:Program} {ops:Array Oper} {Q:Exit->Act->World->Prop} {n:Nat} {E:World} {bw:List Nat} {M:Mem} {w:World} {a:Act} {env:Env} {bs:List Bx} {rs:List Rw} {rest:List Oper} {o:Oper} {Z:List PanicEntry->World->Prop}
theorem stepK {d:Nat} (hs:Sx n E bw M w a env bs rs) (hZ:∀c w,Z c w->Q (.panic c) a w) (hg:o.guard=none) (hk:okOp env o=true) (hd:o.dst=some d) (hdn:d<n)
  (h:OpW P (evT env) o w (λv w'=>∀a',Ag n a' ((d,v)::env)->wpList P ops Q rest a' w') Z):wpList P ops Q (o::rest) a w:=by
 refine wpList_plain hg λK hK=>?_
 refine OpW.upon (Z:=Z) hZ ?_
 unfold OpW at h ⊢
 rw[hs.ag.exec hk]
 have key:∀v w',(∀a',Ag n a' ((d,v)::env)->wpList P ops Q rest a' w')->K (a.put o.dst v) w':=by
  intro v w' hh
  exact hK _ _ (hh _ (by rw[hd];exact hs.ag.put hdn v))
 generalize (execOp (evT env) o).run P w=r at*
 cases r with
 |ok x w'=>
  cases x<;>simp only at h ⊢<;>try exact key _ _ h
  case enter f args=>
   refine Calls.mono h λe w'' he=>?_
   cases e with
   |returned v=>exact key _ _ he
   |panicked c=>exact he
   |outgrown=>exact he
  all_goals exact h
 |halt x w'=>cases x<;>simp only at h ⊢<;>exact h
theorem stepK0 (hs:Sx n E bw M w a env bs rs) (hZ:∀c w,Z c w->Q (.panic c) a w) (hg:o.guard=none) (hk:okOp env o=true) (hd:o.dst=none)
  (h:OpW P (evT env) o w (λ_ w'=>∀a',Ag n a' env->wpList P ops Q rest a' w') Z):wpList P ops Q (o::rest) a w:=by
 refine wpList_plain hg λK hK=>?_
 refine OpW.upon (Z:=Z) hZ ?_
 unfold OpW at h ⊢
 rw[hs.ag.exec hk]
 have key:∀(v:Value) w',(∀a',Ag n a' env->wpList P ops Q rest a' w')->K (a.put o.dst v) w':=by
  intro v w' hh
  exact hK _ _ (hh _ (by rw[hd];exact hs.ag))
 generalize (execOp (evT env) o).run P w=r at*
 cases r with
 |ok x w'=>
  cases x<;>simp only at h ⊢<;>try exact key _ _ h
  case enter f args=>
   refine Calls.mono h λe w'' he=>?_
   cases e with
   |returned v=>exact key v _ he
   |panicked c=>exact he
   |outgrown=>exact he
  all_goals exact h
 |halt x w'=>cases x<;>simp only at h ⊢<;>exact h
theorem OpW.of_run {ρ:Operand->Value} {w':World} {v:Value} {K:Value->World->Prop}
  (h:(execOp ρ o).run P w= .ok (.value v) w') (hK:K v w'):OpW P ρ o w K Z:=by unfold OpW;rw[h];exact hK
theorem OpW.of_skip {ρ:Operand->Value} {w':World} {K:Value->World->Prop}
  (h:(execOp ρ o).run P w= .ok .skip w') (hK:K undef w'):OpW P ρ o w K Z:=by unfold OpW;rw[h];exact hK
theorem Sx.later {w':World} {M':Mem} (hs:Sx n E bw M w a env bs rs) (hb:Below w.heap.size w w') (hon:On M' w') (hM:∀b,b<w.heap.size->M' b=M b):Sx n E bw M' w' a env bs rs:=by
 refine⟨hs.ag,hon,?_,λx hx=>?_,λr hr=>?_,hs.nd⟩
 ·obtain⟨h1,h2,h3,h4,h5⟩:=hs.pr
  exact⟨hb.os.trans h1,hb.tape.trans h2,hb.output.trans h3,Nat.le_trans h4 hb.size,λk hk hn=>(hb.block k (by omega)).trans (h5 k hk hn)⟩
 ·obtain⟨h1,h2,h3⟩:=hs.bx x hx
  exact⟨(hb.block _ h1.lt).trans h1,(hM _ h1.lt).trans h2,h3⟩
 ·obtain⟨h1,h2⟩:=hs.rw r hr
  refine⟨?_,λg hg=>⟨(hM g (h1.lt g hg).2).trans (h2 g hg).1,(h2 g hg).2⟩⟩
  refine⟨h1.1,?_⟩
  rcases h1.2 with hn|⟨g,cap,cur,hv,hbg,hgg,r3⟩
  ·exact .inl hn
  ·exact .inr ⟨g,cap,cur,hv,hbg,(hb.block g (Array.getElem?_eq_some_iff.1 hgg).1).trans hgg,r3⟩
theorem On.later {w':World} (h:On M w) (hb:Below w.heap.size w w'):On M w':=λb o q=>(hb.block b (h.lt q)).trans (h b o q)
theorem Sx.new (hs:Sx n E bw M w a env bs rs) (cs:List Value) (t:TypeId) {a':Act} {env':Env} (hA:Ag n a' env'):Sx n E bw M (w.alloc (.cells cs.toArray t)) a' env' (⟨w.heap.size,t,cs⟩::bs) rs:=by
 have hb:Below w.heap.size w (w.alloc (.cells cs.toArray t)):=(Below.refl _ w).alloc (Nat.le_refl _) _
 have h1:=(hs.later hb (hs.on.later hb) (λ_ _=>rfl)).act hA
 refine⟨hA,h1.on,h1.pr,λx hx=>?_,h1.rw,?_⟩
 ·rcases List.mem_cons.1 hx with rfl|hx
  ·exact⟨heap_alloc_new w _,hs.on.noneAt (Nat.le_refl _),.inl hs.pr.size⟩
  ·exact h1.bx x hx
 ·refine⟨?_,λx hx r hr=>?_,hs.nd.r⟩
  ·rw[List.map_cons,List.nodup_cons]
   refine⟨λhm=>?_,hs.nd.b⟩
   obtain⟨x,hx,he⟩:=List.mem_map.1 hm
   have:=(hs.bx x hx).1.lt
   simp only at he
   omega
  ·rcases List.mem_cons.1 hx with rfl|hx
   ·intro e
    have:=((hs.rw r hr).1.lt _ e).2
    simp only at this
    omega
   ·exact hs.nd.x x hx r hr
theorem stepBox (cs:List Value) {d:Nat} {t ty:TypeId} {x:Operand} {pos:String} {af:Array Edge} {v:Value} (hs:Sx n E bw M w a env bs rs) (hk:known env x=true) (hx:evT env x=v) (hc:v.cells=cs.toArray) (hdn:d<n)
  (h:∀a' w' b,E.heap.size<=b->Sx n E bw M w' a' ((d,.pointer (some ⟨b,0,none⟩))::env) (⟨b,t,cs⟩::bs) rs->wpList P ops Q rest a' w'):wpList P ops Q (⟨some d,.box t x,ty,pos,af,none⟩::rest) a w:=by
 refine stepK (Z:=λ_ _=>False) (d:=d) hs (λ_ _ h=>h.elim) rfl (by simp[okOp,notSel,Op.operands,hk]) rfl hdn ?_
 refine OpW.of_run (w':=w.alloc (.cells cs.toArray t)) (v:=.pointer (some ⟨w.heap.size,0,none⟩)) ?_ ?_
 ·simp[execOp,Instr.box,newVar,newRow,hx,hc]
 ·intro a' hA
  exact h a' _ _ hs.pr.size (hs.new cs t hA)
theorem stepAlloc (cs:List Value) {d:Nat} {t ty:TypeId} {pos:String} {af:Array Edge} (hs:Sx n E bw M w a env bs rs) (hz:((P.info? t).bind (·.zero)).map (·.cells)=some cs.toArray) (hdn:d<n)
  (h:∀a' w' b,E.heap.size<=b->Sx n E bw M w' a' ((d,.pointer (some ⟨b,0,none⟩))::env) (⟨b,t,cs⟩::bs) rs->wpList P ops Q rest a' w'):wpList P ops Q (⟨some d,.alloc t,ty,pos,af,none⟩::rest) a w:=by
 refine stepK (Z:=λ_ _=>False) (d:=d) hs (λ_ _ h=>h.elim) rfl (by simp[okOp,notSel,Op.operands]) rfl hdn ?_
 refine OpW.of_run (w':=w.alloc (.cells cs.toArray t)) (v:=.pointer (some ⟨w.heap.size,0,none⟩)) ?_ ?_
 ·cases hi:P.info? t with
  |none=>simp[hi]at hz
  |some i=>
   cases hz0:i.zero with
   |none=>simp[hi,hz0]at hz
   |some z=>
    simp[hi,hz0]at hz
    simp[execOp,Instr.alloc,newVar,newRow,zeroValue,typeInfo,hi,hz0,hz]
 ·intro a' hA
  exact h a' _ _ hs.pr.size (hs.new cs t hA)
def putAt (cs:List Value) (k:Nat) (vs:List Value):List Value:=cs.take k++vs++cs.drop (k+vs.length)
theorem Sx.set (hs:Sx n E bw M w a env bs rs) (i:Nat) {x:Bx} (hi:bs[i]?=some x) (cs:List Value) {a':Act} {env':Env} (hA:Ag n a' env'):Sx n E bw M (w.setRow x.b cs.toArray) a' env' (bs.set i ⟨x.b,x.t,cs⟩) rs:=by
 have hmap:(bs.set i ⟨x.b,x.t,cs⟩).map (·.b)=bs.map (·.b):=by
  rw[List.map_set]
  apply List.ext_getElem?
  intro j
  rw[List.getElem?_set]
  by_cases hij:i=j
  ·subst hij
   obtain⟨hlt,hx⟩:=List.getElem?_eq_some_iff.1 hi
   simp[hlt,hx]
  ·simp[hij]
 obtain⟨hx1,hx2,hx3⟩:=hs.bx x (List.mem_of_getElem? hi)
 have hother:∀k,k≠x.b->(w.setRow x.b cs.toArray).heap[k]?=w.heap[k]?:=by
  intro k hk
  simp only[World.setRow,Array.getElem?_modify]
  rw[if_neg (by omega)]
 have hnd1:(bs.map (·.b)).Nodup:=hs.nd.b
 refine⟨hA,λb o hb=>?_,?_,λy hy=>?_,λr hr=>?_,?_⟩
 ·rw[hother b (by rintro rfl;rw[hx2]at hb;cases hb)];exact hs.on b o hb
 ·obtain⟨h1,h2,h3,h4,h5⟩:=hs.pr
  refine⟨h1,h2,h3,by simpa[World.setRow]using h4,λk hk hn=>?_⟩
  rw[hother k (by
   rintro rfl
   rcases hx3 with h|h
   ·omega
   ·exact hn h)]
  exact h5 k hk hn
 ·obtain⟨j,hj⟩:=List.mem_iff_getElem?.1 hy
  rw[List.getElem?_set]at hj
  by_cases hij:i=j
  ·subst hij
   rw[if_pos rfl]at hj
   have hlt:i<bs.length:=(List.getElem?_eq_some_iff.1 hi).1
   rw[if_pos hlt]at hj
   simp only[Option.some.injEq]at hj
   subst hj
   exact⟨setRow_heap w x.b x.cs.toArray cs.toArray x.t (0,0) hx1,hx2,hx3⟩
  ·rw[if_neg hij]at hj
   have hne:y.b≠x.b:=by
    intro e
    have h1:(bs.map (·.b))[i]?=some x.b:=by simp[hi]
    have h2:(bs.map (·.b))[j]?=some x.b:=by simp[hj,e]
    have hl1:i<(bs.map (·.b)).length:=(List.getElem?_eq_some_iff.1 h1).1
    exact hij ((List.getElem?_inj hl1 hnd1).1 (h1.trans h2.symm))
   obtain⟨g1,g2,g3⟩:=hs.bx y (List.mem_of_getElem? hj)
   exact⟨(hother _ hne).trans g1,g2,g3⟩
 ·obtain⟨g1,g2⟩:=hs.rw r hr
  refine⟨⟨g1.1,?_⟩,g2⟩
  rcases g1.2 with hn|⟨g,cap,cur,hv,hbg,hgg,r3⟩
  ·exact .inl hn
  ·refine .inr ⟨g,cap,cur,hv,hbg,?_,r3⟩
   rw[hother g ?_];exact hgg
   rintro rfl
   exact hs.nd.x x (List.mem_of_getElem? hi) r hr (by rw[hv];rfl)
 ·refine⟨by rw[hmap];exact hs.nd.b,λy hy r hr=>?_,hs.nd.r⟩
  have hy':y.b∈bs.map (·.b):=by rw[<-hmap];exact List.mem_map.2 ⟨y,hy,rfl⟩
  obtain⟨z,hz,he⟩:=List.mem_map.1 hy'
  rw[<-he]
  exact hs.nd.x z hz r hr
theorem stepStoreB (i:Nat) {t ty:TypeId} {p x:Operand} {pos:String} {af:Array Edge} {b k:Nat} {bt:TypeId} {cs vs:List Value} {v:Value} (hs:Sx n E bw M w a env bs rs) (hi:bs[i]?=some ⟨b,bt,cs⟩) (hkp:known env p=true) (hkx:known env x=true)
  (hp:evT env p= .pointer (some ⟨b,k,none⟩)) (hx:evT env x=v) (hc:v.cells=vs.toArray) (hn:(P.info? t).map (·.size)=some vs.length) (hfit:k+vs.length<=cs.length) (h1:vs.all (·.oneCell')=true)
  (h:∀a' w',Sx n E bw M w' a' env (bs.set i ⟨b,bt,putAt cs k vs⟩) rs->wpList P ops Q rest a' w'):wpList P ops Q (⟨none,.store t p x,ty,pos,af,none⟩::rest) a w:=by
 refine stepK0 (Z:=λ_ _=>False) hs (λ_ _ h=>h.elim) rfl (by simp[okOp,notSel,Op.operands,hkp,hkx]) rfl ?_
 have hb:=(hs.bx _ (List.mem_of_getElem? hi)).1
 have hst:=run_storeCells_at P b k bt vs 0 cs.toArray w hb (by simpa using hfit) (λu hu=>List.all_eq_true.1 h1 u hu)
 refine OpW.of_skip (w':=w.setRow b (putAt cs k vs).toArray) ?_ ?_
 ·cases hin:P.info? t with
  |none=>simp[hin]at hn
  |some ti=>
   simp[hin]at hn
   have e:(cs.toArray.toList.take (k+0)++vs++cs.toArray.toList.drop (k+0+vs.length)).toArray=(putAt cs k vs).toArray:=by simp[putAt]
   rw[e]at hst
   simp[execOp,Instr.storeAt,hp,hx,Instr.sureAddr,storeVar,hc,sizeOf,typeInfo,hin,hn,hst]
 ·intro a' hA
  exact h a' _ (hs.set i hi _ hA)
theorem run_call {d:Option Tmp} {f:Nat} {ty:TypeId} {c:Call} {pos:String} {af:Array Edge} {gd:Option (Nat×Bool)} {fn:Func} {first caps:Array Value} (args:List Value)
  (hcal:∃x,c.callee= .value x/\evT env x= .func (.func f) first caps) (hargs:first.toList++c.args.toList.map (evT env)++caps.toList=args) (hf:P.funcs[f]?=some fn) (hbody:fn.body.isNone=false) (hname:(fn.name== "runtime.NumGoroutine")=false):
  (execOp (evT env) ⟨d,.call c,ty,pos,af,gd⟩).run P w= .ok (.enter f args.toArray) w:=by
 obtain⟨x,hcal,hx⟩:=hcal
 have ha:first++c.args.map (evT env)++caps=args.toArray:=by rw[<-hargs];apply Array.ext';simp
 have hname':¬fn.name= "runtime.NumGoroutine":=beq_eq_false_iff_ne.1 hname
 have hbody':¬fn.body=none:=by intro e;rw[e]at hbody;cases hbody
 simp[execOp,resolve,hcal,hx,Deferred.ofValue,invoke,callFunc,hf,hbody',hname',<-ha]
theorem stepCallE {d f:Nat} {ty:TypeId} {c:Call} {pos:String} {af:Array Edge} {fn:Func} {K:Value->Mem->Prop} {first caps:Array Value} (args:List Value) (hs:Sx n E bw M w a env bs rs)
  (hk:okOp env ⟨some d,.call c,ty,pos,af,none⟩=true) (hcal:∃x,c.callee= .value x/\evT env x= .func (.func f) first caps) (hargs:first.toList++c.args.toList.map (evT env)++caps.toList=args) (hf:P.funcs[f]?=some fn) (hbody:fn.body.isNone=false) (hname:(fn.name== "runtime.NumGoroutine")=false) (hdn:d<n)
  (hc:CallE P f args.toArray M K)
  (h:∀a' w' M' v,M.le M'->(∀b o,M' b=some o->M b=some o\/E.heap.size<=b)->K v M'->Sx n E bw M' w' a' ((d,v)::env) bs rs->wpList P ops Q rest a' w'):wpList P ops Q (⟨some d,.call c,ty,pos,af,none⟩::rest) a w:=by
 refine stepK (Z:=λ_ _=>False) (d:=d) hs (λ_ _ h=>h.elim) rfl hk rfl hdn ?_
 unfold OpW
 rw[run_call args hcal hargs hf hbody hname]
 refine(hc w hs.on).mono λe w' ⟨v,he,hb,hK⟩=>?_
 subst he
 intro a' hA
 refine h a' w' _ v (grow_le hs.on) (λb o hbo=>?_) hK ((hs.later hb (grow_on hs.on λk hk _=>hb.block k hk) (λb hb=>?_)).act hA)
 ·unfold grow at hbo
  by_cases hk:w.heap.size<=b
  ·exact .inr (Nat.le_trans hs.pr.size hk)
  ·rw[if_neg hk]at hbo;exact .inl hbo
 ·unfold grow
  rw[if_neg (by omega)]
theorem stepCallP {d f:Nat} {ty:TypeId} {c:Call} {pos:String} {af:Array Edge} {fn:Func} {K:Value->Prop} {first caps:Array Value} (args:List Value) (hs:Sx n E bw M w a env bs rs)
  (hk:okOp env ⟨some d,.call c,ty,pos,af,none⟩=true) (hcal:∃x,c.callee= .value x/\evT env x= .func (.func f) first caps) (hargs:first.toList++c.args.toList.map (evT env)++caps.toList=args) (hf:P.funcs[f]?=some fn) (hbody:fn.body.isNone=false) (hname:(fn.name== "runtime.NumGoroutine")=false) (hdn:d<n)
  (hc:CallE P f args.toArray M λv _=>K v)
  (h:∀a' w' v,K v->Sx n E bw M w' a' ((d,v)::env) bs rs->wpList P ops Q rest a' w'):wpList P ops Q (⟨some d,.call c,ty,pos,af,none⟩::rest) a w:=by
 refine stepK (Z:=λ_ _=>False) (d:=d) hs (λ_ _ h=>h.elim) rfl hk rfl hdn ?_
 unfold OpW
 rw[run_call args hcal hargs hf hbody hname]
 refine(hc w hs.on).mono λe w' ⟨v,he,hb,hK⟩=>?_
 subst he
 intro a' hA
 exact h a' w' v hK ((hs.later hb (hs.on.later hb) (λ_ _=>rfl)).act hA)
end
def InI (x:Int):Prop:= -9223372036854775808<=x/\x<=9223372036854775807
theorem wrap_in {x:Int} (h:InI x):IntKind.i64.wrap x=x:=by
 exact IntWalk.i64_in x h
def SubE (env:Env):Env->Prop
 |[]=>True
 |p::r=>lk env p.1=some p.2/\SubE env r
theorem SubE.mem {env:Env}:∀{env':Env},SubE env env'->∀p∈env',lk env p.1=some p.2
 |[],_,p,h=>by cases h
 |q::r,h,p,hp=>by
  rcases List.mem_cons.1 hp with rfl|hp
  ·exact h.1
  ·exact SubE.mem h.2 p hp
section
variable {n:Nat} {E:World} {bw:List Nat} {M:Mem} {w:World} {a:Act} {env env':Env} {bs bs':List Bx} {rs rs':List Rw}
theorem Sx.weak (hs:Sx n E bw M w a env bs rs) (hb:bs'.Sublist bs) (hr:rs'.Sublist rs) (he:SubE env env'):Sx n E bw M w a env' bs' rs':=
 ⟨hs.ag.sub env' he.mem,hs.on,hs.pr,λx hx=>hs.bx x (hb.subset hx),λr hx=>hs.rw r (hr.subset hx),
  hs.nd.sub hb hr⟩
theorem Sx.wk (hs:Sx n E bw M w a env bs rs) (he:SubE env env'):Sx n E bw M w a env' bs rs:=hs.weak (List.Sublist.refl _) (List.Sublist.refl _) he
theorem Sx.chbx (hs:Sx n E bw M w a env bs rs) (h:bs=bs'):Sx n E bw M w a env bs' rs:=h▸hs
theorem Sx.nilrow (hs:Sx n E bw M w a env bs rs) (e size:Nat):Sx n E bw M w a env bs (⟨.slice none 0 0,e,size,0,[],true⟩::rs):=
 ⟨hs.ag,hs.on,hs.pr,hs.bx,λr hr=>by
  rcases List.mem_cons.1 hr with rfl|hr
  ·exact⟨World.ownsRow_nil _ _ _ _,λg hg=>by cases hg⟩
  ·exact hs.rw r hr,hs.nd.b,λx hx r hr=>by
  rcases List.mem_cons.1 hr with rfl|hr
  ·intro e;cases e
  ·exact hs.nd.x x hx r hr,List.Pairwise.cons (λ_ _ _ h=>by cases h) hs.nd.r⟩
end
def MM (M' M:Mem) (E:World):Prop:=∀b o,M' b=some o->M b=some o\/E.heap.size<=b
theorem MM.next {M'' M' M:Mem} {E:World} (h:MM M' M E) (k:∀b o,M'' b=some o->M' b=some o\/E.heap.size<=b):MM M'' M E:=
 λb o q=>(k b o q).elim (h b o) .inr
def MX (M' M:Mem) (E:World):Prop:=M.le M'/\MM M' M E
theorem MX.refl (M:Mem) (E:World):MX M M E:=⟨Mem.le.refl M,λ_ _ h=>.inl h⟩
theorem MX.next {M'' M' M:Mem} {E:World} (h:MX M' M E) (hl:M'.le M'') (k:∀b o,M'' b=some o->M' b=some o\/E.heap.size<=b):MX M'' M E:=⟨h.1.trans hl,h.2.next k⟩
def mkS (l:List UInt8):ByteArray:=⟨⟨l⟩⟩
theorem mkS_toList (l:List UInt8):(mkS l).toList=l:=by
 rw[ByteArray.toList_eq];rfl
theorem mkS_beq {a b:List UInt8}:((mkS a).toList==(mkS b).toList)=true↔a=b:=by rw[mkS_toList,mkS_toList];exact beq_iff_eq
theorem mkS_bne {a b:List UInt8}:(!((mkS a).toList==(mkS b).toList))=true↔a≠b:=by rw[mkS_toList,mkS_toList];simp
theorem bnot_iff {b:Bool} {p:Prop} (h:b=true↔p):(!b)=true↔¬p:=by rw[<-h];simp
def bAnd (k:IntKind) (x y:Int):Int:=k.wrap (BitVec.ofInt k.bits x&&& BitVec.ofInt k.bits y).toNat
def bOr (k:IntKind) (x y:Int):Int:=k.wrap (BitVec.ofInt k.bits x|||BitVec.ofInt k.bits y).toNat
def bShl (k:IntKind) (x y:Int):Int:=k.wrap (x*2 ^ (min y.toNat k.bits))
def bShr (k:IntKind) (x y:Int):Int:=x.fdiv (2 ^ (min y.toNat k.bits))
section
variable {P:Program} {fn:Func} {n:Nat} {E:World} {bw:List Nat} {M:Mem} {w:World} {a:Act} {env:Env} {bs:List Bx} {rs:List Rw}
theorem run_cell {t:TypeId} {b k i:Nat} {bt:TypeId} {cs vs:List Value} {g:Bool} (hs:Sx n E bw M w a env bs rs) (hi:bs[i]?=some ⟨b,bt,cs⟩)
  (ht:tyOk P t g vs.length=true) (hvs:(cs.drop k).take vs.length=vs):(loadVar t ⟨b,k,none⟩).run P w= .ok (ofCells g vs) w:=by
 obtain⟨h1,h2,h3,h4⟩:=tyOk_spec ht
 have hb:=(hs.bx _ (List.mem_of_getElem? hi)).1
 refine run_load_at (P:=P) h1 h2 h3 h4 (λj v hj=>?_)
 rw[hb.cell]
 show cs[k+j]?=some v
 have hjl:j<vs.length:=(List.getElem?_eq_some_iff.1 hj).1
 rw[<-hvs,List.getElem?_take,if_pos hjl,List.getElem?_drop]at hj
 exact hj
theorem resC {t:TypeId} {c b k:Nat} {bt:TypeId} {cs vs:List Value} (g:Bool) (i:Nat) (hs:Sx n E bw M w a env bs rs) (hr:fn.results= #[.cell c t]) (hi:bs[i]?=some ⟨b,bt,cs⟩) (hc:lk env c=some (.pointer (some ⟨b,k,none⟩)))
  (ht:tyOk P t g vs.length=true) (hvs:(cs.drop k).take vs.length=vs):(results fn a.tmps).run P w= .ok (ofCells g vs) w:=by
 have:=run_cell (P:=P) hs hi ht hvs
 have h1:=hs.ag.at_ c _ hc
 simp only[results,hr]
 simp[-Array.getD_eq_getD_getElem?,h1,asAddr,this]
end
end Go.Gx

namespace Go.Gx
open Go.RowKit
def WpD (P:Program) (ops:Array Oper) (Q:Exit->Act->World->Prop) (C:World->Prop) (keep:List Bool):Nat->Array Bool->Act->World->Prop
 |0,listed,a,w=>Region.ready .any ops listed=[]/\Q .normal a w
 |fuel+1,listed,a,w=>
  (Region.ready .any ops listed=[]->Q .normal a w)/\
  ∀i∈Region.ready .any ops listed,wpOp P ops Q i (λa' w'=>(keep.getD i false=true->C w->C w')/\WpD P ops Q C keep fuel (listed.setIfInBounds i true) a' w') a w
section
variable {P:Program} {ops:Array Oper} {Q:Exit->Act->World->Prop} {C:World->Prop} {keep:List Bool}
theorem wpAny_of_WpD:∀(fuel:Nat) (listed:Array Bool) (a:Act) (w:World),WpD P ops Q C keep fuel listed a w->wpAny P .any ops Q fuel listed a w
 |0,_,_,_,h=>h
 |fuel+1,_,_,_,h=>⟨h.1,λi hi=>wpOp_mono (λa' w' h'=>wpAny_of_WpD fuel _ a' w' h'.2) (h.2 i hi)⟩
def freeB (ops:Array Oper) (keep:List Bool) (listed:Array Bool) (i:Nat) (A:List Nat) (pure:Bool):Bool:=
 match ops[i]? with
 |none=>false
 |some oi=>(A.all λj=> !listed.getD j true&&j != i&&(match ops[j]? with
   |none=>false
   |some oj=>oj.after.toList.any λe=>Region.binds .any e&&(e.on==i||A.contains e.on)))&&
  (List.range ops.size).all λj=>j==i||listed.getD j true||A.contains j||(match ops[j]? with
   |none=>true
   |some oj=>oi.apart ops oj&&(keep.getD j false||pure))
def HangA (ops:Array Oper) (listed:Array Bool) (i:Nat) (A:List Nat):Prop:=
 ∀j∈A,listed.getD j true=false/\j≠i/\∃oj e,ops[j]?=some oj/\e∈oj.after/\Region.binds .any e=true/\(e.on=i\/e.on∈A)
theorem freeB_spec {listed:Array Bool} {i:Nat} {oi:Oper} {A:List Nat} {pure:Bool} (hi:ops[i]?=some oi) (h:freeB ops keep listed i A pure=true):
  HangA ops listed i A/\∀j oj,ops[j]?=some oj->j≠i->listed.getD j true=false->j∉A->oi.apart ops oj=true/\(keep.getD j false=true\/pure=true):=by
 unfold freeB at h
 rw[hi]at h
 simp only[Bool.and_eq_true]at h
 obtain⟨hA,hB⟩:=h
 refine⟨λj hj=>?_,λj oj hj hne hl hno=>?_⟩
 ·have h1:=List.all_eq_true.1 hA j hj
  simp only[Bool.and_eq_true,bne_iff_ne,Bool.not_eq_true']at h1
  obtain⟨⟨h1,h2⟩,h3⟩:=h1
  refine⟨h1,h2,?_⟩
  split at h3
  ·cases h3
  ·rename_i oj hoj
   obtain⟨e,he,h4⟩:=List.any_eq_true.1 h3
   simp only[Bool.and_eq_true,Bool.or_eq_true,beq_iff_eq,List.contains_iff_mem]at h4
   exact⟨oj,e,hoj,by simpa using he,h4.1,h4.2⟩
 ·have hjlt:j<ops.size:=(Array.getElem?_eq_some_iff.1 hj).1
  have h1:=List.all_eq_true.1 hB j (List.mem_range.2 hjlt)
  have hno':A.contains j=false:=by simpa using hno
  simp only[hj,Bool.or_eq_true,beq_iff_eq,hl,hno',Bool.and_eq_true]at h1
  rcases h1 with((h1|h1)|h1)|h1
  ·exact absurd h1 hne
  ·cases h1
  ·cases h1
  ·exact h1
theorem WpD.first {i:Nat} {oi:Oper} {v:Value} {A:List Nat} {C1:World->Prop} (hC1:∀w,C1 w->(∀w,C1 w)\/C w) (hC2:∀w,C w->C1 w) (hi:ops[i]?=some oi) (hsel:∀(j:Nat) (o:Oper) cs b,ops[j]?=some o->o.op≠.select cs b)
  (hQ:∀c a w,Q (.panic c) (a.put oi.dst v) w->Q (.panic c) a w):
  ∀(fuel:Nat) (listed:Array Bool) (a:Act) (w:World),HangA ops listed i A->
   (∀j oj,ops[j]?=some oj->j≠i->listed.getD j true=false->j∉A->oi.apart ops oj=true/\(keep.getD j false=true\/∀w,C1 w))->
   i∈Region.ready .any ops listed->YieldsIf P ops C1 oi v a->C1 w->
   WpD P ops Q C keep fuel (listed.setIfInBounds i true) (a.put oi.dst v) w->WpD P ops Q C keep (fuel+1) listed a w:=by
 intro fuel
 induction fuel with
 |zero=>
  intro listed a w _ _ hr hy hS H
  refine⟨λh=>(by rw[h]at hr;cases hr),λj hj=>?_⟩
  by_cases hji:j=i
  ·subst hji;exact hy.wpOp hi hS ⟨λ_ h=>h,H⟩
  ·have:=ready_mono hj hji
   rw[H.1]at this
   cases this
 |succ fuel ih=>
  intro listed a w hang hfree hr hy hS H
  refine⟨λh=>(by rw[h]at hr;cases hr),λj hj=>?_⟩
  by_cases hji:j=i
  ·subst hji;exact hy.wpOp hi hS ⟨λ_ h=>h,H⟩
  ·have h1:=H.2 j (ready_mono hj hji)
   obtain⟨hjun,oj,hoj,hall⟩:=mem_ready.1 hj
   have hun:listed.getD i true=false:=(mem_ready.1 hr).1
   have hjA:j∉A:=λhjA=>by
    obtain⟨_,_,oj',e,hoj',he,hbd,hon⟩:=hang j hjA
    rw[hoj]at hoj'
    cases hoj'
    have h1:=hall e he hbd
    have h0:listed.getD e.on true=false:=by
     rcases hon with rfl|hon
     ·exact hun
     ·exact(hang _ hon).1
    rcases Nat.lt_or_ge e.on listed.size with h'|h'
    ·simp[h']at h0 h1;rw[h0]at h1;cases h1
    ·simp[Array.getElem?_eq_none h']at h1
   have hfj:=hfree j oj hoj hji hjun hjA
   have h2:=wpOp_putIf hoj hfj.1 (λcs b=>hsel i oi cs b hi) (λcs b=>hsel j oj cs b hoj) hQ hy h1
   refine wpOp_mono (λa' w' h3=>⟨h3.2.1,ih (listed.setIfInBounds j true) a' w' (λk hk=>?_) (λk ok hk hki hun hno=>?_) (ready_mono hr (Ne.symm hji)) h3.1 (by
    rcases hfj.2 with hk|hall
    ·rcases hC1 w hS with hall|hc
     ·exact hall w'
     ·exact hC2 _ (h3.2.1 hk hc)
    ·exact hall w') ?_⟩) h2
   ·obtain⟨g1,g2,g3⟩:=hang k hk
    refine⟨?_,g2,g3⟩
    rw[getD_set_ne true (by rintro rfl;exact hjA hk)];exact g1
   ·refine hfree k ok hk hki ?_ hno
    by_cases hjk:j=k
    ·subst hjk;exact hjun
    ·rw[getD_set_ne true hjk]at hun;exact hun
   ·rw[Array.setIfInBounds_comm _ _ hji]
    exact h3.2.2
end
section
variable {P:Program} {ops:Array Oper} {Q:Exit->Act->World->Prop} {M0:Mem} {bs0:List Bx} {rs0:List Rw} {keep:List Bool} {n:Nat} {E:World} {bw:List Nat} {M:Mem} {w:World} {a:Act} {env:Env} {bs:List Bx} {rs:List Rw} {o:Oper} {fuel:Nat} {listed:Array Bool}
def QZ (Q:Exit->Act->World->Prop):Prop:=∀c (a:Act) d v w,Q (.panic c) (a.put d v) w->Q (.panic c) a w
theorem QZ.qq {N:Act->World->Prop} {X:List (Nat×(Act->World->Prop))} {R:Act->World->Prop} {fn:Func} {Rf:Ending->World->Prop}:
  QZ (QQ N X R (λch a w=>bodyPost P fn Rf (.panic ch) a w)):=by
 intro c a d v w h
 simp only[QQ,bodyPost]at h ⊢
 cases d<;>exact h
theorem QZ.no {N:Act->World->Prop} {X:List (Nat×(Act->World->Prop))} {R:Act->World->Prop}:QZ (QQ N X R (λ_ _ _=>False)):=λ_ _ _ _ _ h=>h
theorem wanted_none (hg:o.guard=none):Region.wanted o (yielded ops a.tmps)=true:=by simp[Region.wanted,hg]
theorem wanted_yes {j t:Nat} {b:Bool} (hs:Sx n E bw M w a env bs rs) (hg:o.guard=some (j,b)) (ht:(ops[j]?).bind (·.dst)=some t) (hl:lk env t=some (.bool b)):Region.wanted o (yielded ops a.tmps)=true:=by
 simp[Region.wanted,hg,yielded_of hs ht hl]
theorem wanted_no {j t:Nat} {b c:Bool} (hs:Sx n E bw M w a env bs rs) (hg:o.guard=some (j,b)) (ht:(ops[j]?).bind (·.dst)=some t) (hl:lk env t=some (.bool c)) (hne:(c==b)=false):Region.wanted o (yielded ops a.tmps)=false:=by
 simp[Region.wanted,hg,yielded_of hs ht hl]
 simpa using hne
theorem Sx.cxle {M0:Mem} {bs0:List Bx} {rs0:List Rw} (hs:Sx n E bw M w a env bs rs) (hl:M0.le M) (hb:bs0.Sublist bs) (hr:rs0.Sublist rs):Cx M0 bs0 rs0 w:=
 ⟨λb o h=>hs.on b o (hl b o h),λx hx=>(hs.bx x (hb.subset hx)).1,λr hx=>⟨_,(hs.rw r (hr.subset hx)).1⟩⟩
theorem stepDY (v:Value) (i:Nat) (A:List Nat) {d:Nat} (hs:Sx n E bw M w a env bs rs) (hC:Cx M0 bs0 rs0 w) (hQ:QZ Q) (ho:ops[i]?=some o) (hw:Region.wanted o (yielded ops a.tmps)=true) (hd:o.dst=some d) (hdn:d<n)
  (hsel:Region.noSelect ops=true) (hr:(Region.ready .any ops listed).contains i=true) (hf:freeB ops keep listed i A false=true) (hy:Yl P env M0 bs0 rs0 o v)
  (h:∀a',Sx n E bw M w a' ((d,v)::env) bs rs->WpD P ops Q (Cx M0 bs0 rs0) keep fuel (listed.setIfInBounds i true) a' w):WpD P ops Q (Cx M0 bs0 rs0) keep (fuel+1) listed a w:=by
 refine WpD.first (v:=v) (C1:=Cx M0 bs0 rs0) (λ_ h=>.inr h) (λ_ h=>h) ho (Region.noSelect_spec hsel) (λc a w h=>hQ c a _ _ w h) fuel listed a w (freeB_spec ho hf).1 (λj oj h1 h2 h3 h4=>?_) (by simpa using hr) (.inl ⟨hw,λw' hc=>?_⟩) hC ?_
 ·obtain⟨g1,g2⟩:=(freeB_spec ho hf).2 j oj h1 h2 h3 h4
  exact⟨g1,.inl (by simpa using g2)⟩
 ·rw[hs.ag.exec hy.1];exact hy.2 w' hc
 ·rw[hd];exact h _ (hs.act (hs.ag.put hdn v))
theorem Cx.none (w:World):Cx (λ_=>Option.none) [] [] w:=⟨(λ_ _ h=>by cases h),(λ_ h=>by cases h),(λ_ h=>by cases h)⟩
theorem stepDP (v:Value) (i:Nat) (A:List Nat) {d:Nat} (hs:Sx n E bw M w a env bs rs) (hQ:QZ Q) (ho:ops[i]?=some o) (hw:Region.wanted o (yielded ops a.tmps)=true) (hd:o.dst=some d) (hdn:d<n)
  (hsel:Region.noSelect ops=true) (hr:(Region.ready .any ops listed).contains i=true) (hf:freeB ops keep listed i A true=true) (hy:Yl P env (λ_=>Option.none) [] [] o v)
  (h:∀a',Sx n E bw M w a' ((d,v)::env) bs rs->WpD P ops Q (Cx M0 bs0 rs0) keep fuel (listed.setIfInBounds i true) a' w):WpD P ops Q (Cx M0 bs0 rs0) keep (fuel+1) listed a w:=by
 refine WpD.first (v:=v) (C1:=λ_=>True) (λ_ _=>.inl λ_=>trivial) (λ_ _=>trivial) ho (Region.noSelect_spec hsel) (λc a w h=>hQ c a _ _ w h) fuel listed a w (freeB_spec ho hf).1 (λj oj h1 h2 h3 h4=>⟨((freeB_spec ho hf).2 j oj h1 h2 h3 h4).1,.inr λ_=>trivial⟩) (by simpa using hr) (.inl ⟨hw,λw' _=>?_⟩) trivial ?_
 ·rw[hs.ag.exec hy.1];exact hy.2 w' (Cx.none w')
 ·rw[hd];exact h _ (hs.act (hs.ag.put hdn v))
theorem stepDN (i:Nat) (A:List Nat) {d:Nat} (hs:Sx n E bw M w a env bs rs) (hQ:QZ Q) (ho:ops[i]?=some o) (hw:Region.wanted o (yielded ops a.tmps)=false) (hd:o.dst=some d) (hdn:d<n)
  (hsel:Region.noSelect ops=true) (hr:(Region.ready .any ops listed).contains i=true) (hf:freeB ops keep listed i A true=true)
  (h:∀a',Sx n E bw M w a' ((d,undef)::env) bs rs->WpD P ops Q (Cx M0 bs0 rs0) keep fuel (listed.setIfInBounds i true) a' w):WpD P ops Q (Cx M0 bs0 rs0) keep (fuel+1) listed a w:=by
 refine WpD.first (v:=undef) (C1:=λ_=>True) (λ_ _=>.inl λ_=>trivial) (λ_ _=>trivial) ho (Region.noSelect_spec hsel) (λc a w h=>hQ c a _ _ w h) fuel listed a w (freeB_spec ho hf).1 (λj oj h1 h2 h3 h4=>⟨((freeB_spec ho hf).2 j oj h1 h2 h3 h4).1,.inr λ_=>trivial⟩) (by simpa using hr) (.inr ⟨hw,rfl⟩) trivial ?_
 rw[hd];exact h _ (hs.act (hs.ag.put hdn undef))
theorem stepDE (i:Nat) (ho:ops[i]?=some o) (hw:Region.wanted o (yielded ops a.tmps)=true) (hr:Region.ready .any ops listed=[i]) (ops1:Array Oper)
  (h:wpList P ops1 (λe a' w'=>match e with
   | .normal=>(keep.getD i false=true->Cx M0 bs0 rs0 w->Cx M0 bs0 rs0 w')/\WpD P ops Q (Cx M0 bs0 rs0) keep fuel (listed.setIfInBounds i true) a' w'
   | .panic c=>Q (.panic c) a' w'
   |_=>False) [{o with guard:=none}] a w):WpD P ops Q (Cx M0 bs0 rs0) keep (fuel+1) listed a w:=by
 refine⟨λh0=>(by rw[hr]at h0;cases h0),λj hj=>?_⟩
 rw[hr,List.mem_singleton]at hj
 subst hj
 unfold wpOp
 simp only[ho,hw,if_true]
 left
 unfold wpList at h
 rw[if_pos (by simp[Region.wanted])]at h
 rcases h with h|⟨_,a0,w0,h0⟩
 ·unfold Oper.wp at h ⊢
  have he:execOp a.eval {o with guard:=none}=execOp a.eval o:=rfl
  rw[he]at h
  generalize (execOp a.eval o).run P w=r at*
  cases r with
  |ok x w'=>
   cases x<;>simp only[Oper.upon,wpList]at h ⊢<;>try exact h
   case enter f args=>
    refine Calls.mono h λe w'' he=>?_
    cases e with
    |returned v=>exact he
    |panicked c=>exact he
    |outgrown=>obtain⟨a0,w0,h0⟩:=he;exact h0.elim
  |halt x w'=>cases x<;>simp only[Oper.upon]at h ⊢<;>exact h
 ·exact h0.elim
theorem WpD.done (hr:Region.ready .any ops listed=[]) (h:Q .normal a w):∀fuel,WpD P ops Q (Cx M0 bs0 rs0) keep fuel listed a w
 |0=>⟨hr,h⟩
 |_+1=>⟨λ_=>h,by rw[hr];simp⟩
end
theorem Sx.drew {n:Nat} {E:World} {bw:List Nat} {M:Mem} {w:World} {a:Act} {env:Env} {bs:List Bx} {rs:List Rw} (hs:Sx n E bw M w a env bs rs):Sx n E bw M w.drew a env bs rs:=
 hs.later ⟨rfl,rfl,rfl,Nat.le_refl _,λ_ _=>rfl⟩ hs.on (λ_ _=>rfl)
theorem Wp.regionD {P:Program} {N:Act->World->Prop} {X:List (Nat×(Act->World->Prop))} {R:Act->World->Prop} {Z:List PanicEntry->Act->World->Prop} {a:Act} {w:World} {n:Nat} {E:World} {bw:List Nat} {M:Mem} {env:Env} {bs:List Bx} {rs:List Rw}
  {id k:Nat} {l:List Oper} (keep:List Bool) (hs:Sx n E bw M w a env bs rs) (hm:P.follows .mixedOrders=true) (hk:l.length=k) (bs0:List Bx) (hbs:∀x∈bs0,x∈bs) (rs0:List Rw) (hrs:∀x∈rs0,x∈rs)
  (h:∀w,Sx n E bw M w a env bs rs->Cx M bs0 rs0 w->WpD P l.toArray (QQ N X R Z) (Cx M bs0 rs0) keep k (Array.replicate k false) a w):Wp P (.region id l.toArray true) N X R Z a w:=by
 subst hk
 exact wp_region_any hm (by simpa using wpAny_of_WpD _ _ _ _ (h w.drew hs.drew ⟨hs.drew.cx.on,λx hx=>hs.drew.cx.bx x (hbs x hx),λx hx=>hs.drew.cx.rw x (hrs x hx)⟩))
end Go.Gx

namespace Go.Gx
open Go.RowKit
section
variable {P:Program} {env:Env} {M:Mem} {bs:List Bx} {rs:List Rw} {d:Option Tmp} {ty:TypeId} {pos:String} {af:Array Edge} {gd:Option (Nat×Bool)}
theorem mkS_size (l:List UInt8):(mkS l).size=l.length:=rfl
theorem mkS_getElem? (l:List UInt8) (i:Nat):(mkS l)[i]?=l[i]?:=by
 by_cases h:i<l.length
 ·rw[List.getElem?_eq_getElem h,getElem?_pos (mkS l) i h];rfl
 ·rw[List.getElem?_eq_none (by omega),getElem?_neg (mkS l) i h]
theorem mkS_eta (s:ByteArray):s=mkS s.data.toList:=by cases s;rfl
theorem Yl.indexStr {t:TypeId} {x i:Operand} {l:List UInt8} {k:IntKind} {n:Int} {c:UInt8} (hkx:known env x=true) (hki:known env i=true) (hx:evT env x= .string (mkS l)) (hi:evT env i= .int k n)
  (hu:P.underlying t=some .string) (h0:0<=n) (hc:l[n.toNat]?=some c):Yl P env M bs rs ⟨d,.index t x i,ty,pos,af,gd⟩ (.int .u8 (c.toNat:Int)):=by
 refine⟨by simp[okOp,notSel,Op.operands,hkx,hki],λw _=>?_⟩
 have:=mkS_getElem? l n.toNat
 rw[hc]at this
 simp[execOp,Instr.index,hx,hi,asIntOf,run_underlying hu,h0,this]
theorem mkS_extract (l:List UInt8) (a b:Nat):(mkS l).extract a b=mkS ((l.take b).drop a):=by
 rw[mkS_eta ((mkS l).extract a b)]
 congr 1
 simp[ByteArray.data_extract,mkS,List.extract,List.take_drop]
 rw[List.drop_take,List.drop_take,show a+(b-a)-a=b-a by omega]
theorem run_sliceBound {k:IntKind} {n:Int} {y:Nat} {code:BoundsCode} (w:World) (h0:0<=n) (h1:n<=y):(Instr.sliceBound (.int k n) y code).run P w= .ok n.toNat w:=by
 simp[Instr.sliceBound,asIntOf,h0,h1]
theorem Yl.sliceStrLH {t:TypeId} {x lo hi:Operand} {l:List UInt8} {k k':IntKind} {a b:Int} (hkx:known env x=true) (hka:known env lo=true) (hkb:known env hi=true) (hx:evT env x= .string (mkS l)) (ha:evT env lo= .int k a) (hb:evT env hi= .int k' b)
  (hu:P.underlying t=some .string) (h0:0<=a) (h1:a<=b) (h2:b<=(l.length:Int)):Yl P env M bs rs ⟨d,.slice t x (some lo) (some hi) none,ty,pos,af,gd⟩ (.string (mkS ((l.take b.toNat).drop a.toNat))):=by
 refine⟨by simp[okOp,notSel,Op.operands,hkx,hka,hkb],λw _=>?_⟩
 have e1:=run_sliceBound (P:=P) (k:=k') (n:=b) (y:=l.length) (code:=.sliceAlen) w (by omega) h2
 have e2:=run_sliceBound (P:=P) (k:=k) (n:=a) (y:=b.toNat) (code:=.sliceB) w h0 (by omega)
 simp[execOp,Instr.sliceAt,Instr.slice,Instr.sliceBounds,hx,ha,hb,run_underlying hu,mkS_size,e1,e2,mkS_extract]
theorem Yl.sliceStrL {t:TypeId} {x lo:Operand} {l:List UInt8} {k:IntKind} {a:Int} (hkx:known env x=true) (hka:known env lo=true) (hx:evT env x= .string (mkS l)) (ha:evT env lo= .int k a)
  (hu:P.underlying t=some .string) (h0:0<=a) (h1:a<=(l.length:Int)) (_h2:((l.length:Nat):Int)<=((l.length:Nat):Int)):Yl P env M bs rs ⟨d,.slice t x (some lo) none none,ty,pos,af,gd⟩ (.string (mkS ((l.take ((l.length:Nat):Int).toNat).drop a.toNat))):=by
 refine⟨by simp[okOp,notSel,Op.operands,hkx,hka],λw _=>?_⟩
 have e2:=run_sliceBound (P:=P) (k:=k) (n:=a) (y:=l.length) (code:=.sliceB) w h0 h1
 simp[execOp,Instr.sliceAt,Instr.slice,Instr.sliceBounds,hx,ha,run_underlying hu,mkS_size,e2,mkS_extract]
theorem mkS_append (a b:List UInt8):mkS a++mkS b=mkS (a++b):=ByteArray.mk_append_mk a b
theorem Yl.concat {t u:TypeId} {x y:Operand} {a b:List UInt8} (hkx:known env x=true) (hky:known env y=true) (hx:evT env x= .string (mkS a)) (hy:evT env y= .string (mkS b)) (hl:a.length+b.length<=9223372036854775807):
  Yl P env M bs rs ⟨d,.binOp .add t x y u,ty,pos,af,gd⟩ (.string (mkS (a++b))):=by
 refine⟨by simp[okOp,notSel,Op.operands,hkx,hky],λw _=>?_⟩
 have:=run_string_add_sum (P:=P) (w:=w) (mkS a) (mkS b) hl
 simp[execOp,eqGuard,hx,hy,binOp,this,mkS_append]
theorem Yl.shl {t u:TypeId} {x y:Operand} {k k':IntKind} {a b:Int} (hkx:known env x=true) (hky:known env y=true) (hx:evT env x= .int k a) (hy:evT env y= .int k' b) (h0:0<=b):
  Yl P env M bs rs ⟨d,.binOp .shl t x y u,ty,pos,af,gd⟩ (.int k (bShl k a b)):=by
 refine⟨by simp[okOp,notSel,Op.operands,hkx,hky],λw _=>?_⟩
 have hn:¬b<0:=by omega
 simp[execOp,eqGuard,hx,hy,binOp,Op.shift,hn,bShl]
theorem Yl.shr {t u:TypeId} {x y:Operand} {k k':IntKind} {a b:Int} (hkx:known env x=true) (hky:known env y=true) (hx:evT env x= .int k a) (hy:evT env y= .int k' b) (h0:0<=b):
  Yl P env M bs rs ⟨d,.binOp .shr t x y u,ty,pos,af,gd⟩ (.int k (bShr k a b)):=by
 refine⟨by simp[okOp,notSel,Op.operands,hkx,hky],λw _=>?_⟩
 have hn:¬b<0:=by omega
 simp[execOp,eqGuard,hx,hy,binOp,Op.shift,hn,bShr]
theorem run_equalIn_array {P:Program} (d n:Nat) (t e:TypeId) (k:IntKind) (ht:P.underlying t=some (.array n e)) (he:P.underlying e=some (.int k)) (hs:(P.info? e).map (·.size)=some 1)
  (heq:∀a b w,(Op.equalIn d e (.int k a) (.int k b)).run P w= .ok (a==b) w)
  (xs ys:List Int) (hx:xs.length=n) (hy:ys.length=n) (w:World):
  (Op.equalIn (d+1) t (.agg (xs.map (Value.int k)).toArray) (.agg (ys.map (Value.int k)).toArray)).run P w= .ok (xs==ys) w:=by
 have hsz:(sizeOf e).run P w= .ok 1 w:=by
  cases hi:P.info? e with
  |none=>simp[hi]at hs
  |some i=>simp[hi]at hs;simp[sizeOf,typeInfo,hi,hs]
 have hag:(isAgg e).run P w= .ok false w:=by simp[isAgg,run_underlying he]
 have hpart:∀(zs:List Int) (i:Nat) (h:i<zs.length),(part e (zs.map (Value.int k)).toArray (i*1)).run P w= .ok (.int k zs[i]) w:=by
  intro zs i h
  simp only[part,Sem.run_bind,hag,Result.andThen_ok]
  simp[h]
 have key:∀(m j:Nat),j+m=n->
   ((forIn (List.range' j m) ((none,()):Option Bool×PUnit) λi _=>(do
    let a <-part e (xs.map (Value.int k)).toArray (i*1)
    let b <-part e (ys.map (Value.int k)).toArray (i*1)
    let c <-Op.equalIn d e a b
    if (!c)=true then pure (ForInStep.done (some false,())) else pure (ForInStep.yield (none,())):Sem (ForInStep (Option Bool×PUnit)))).run P w)= .ok (if xs.drop j==ys.drop j then(none,()) else(some false,())) w:=by
  intro m
  induction m with
  |zero=>intro j hj;simp[List.drop_of_length_le (show xs.length<=j by omega),List.drop_of_length_le (show ys.length<=j by omega)]
  |succ m ih=>
   intro j hj
   have h1:j<xs.length:=by omega
   have h2:j<ys.length:=by omega
   rw[List.range'_succ,List.forIn_cons]
   have e':(xs.drop j==ys.drop j)=(xs[j]==ys[j]&&(xs.drop (j+1)==ys.drop (j+1))):=by
    rw[List.drop_eq_getElem_cons h1,List.drop_eq_getElem_cons h2];rfl
   simp only[Sem.run_bind,hpart xs j h1,hpart ys j h2,Result.andThen_ok,heq]
   rw[e']
   cases hb:(xs[j]==ys[j])
   ·simp only[Bool.not_false,if_true,Sem.run_pure,Result.andThen_ok,Bool.false_and,Bool.false_eq_true,if_false]
   ·simp only[Bool.not_true,Bool.false_eq_true,if_false,Sem.run_pure,Result.andThen_ok,Bool.true_and]
    exact ih (j+1) (by omega)
 simp only[Op.equalIn,Sem.run_bind,run_underlying ht,Result.andThen_ok,hsz]
 have:=key n 0 (by omega)
 simp only[List.drop_zero]at this
 simp only[Std.Legacy.Range.forIn_eq_forIn_range',Std.Legacy.Range.size,Nat.sub_zero,Nat.add_sub_cancel,Nat.div_one]
 rw[this]
 cases hb:(xs==ys)<;>simp
def cellsEq (xs ys:List Int):Bool:=xs==ys
theorem run_eqlA {n:Nat} {t e:TypeId} {k:IntKind} (ht:P.underlying t=some (.array n e)) (he:P.underlying e=some (.int k)) (hs:(P.info? e).map (·.size)=some 1) (xs ys:List Int) (hx:xs.length=n) (hy:ys.length=n) (w:World):
  (Op.equal t (.agg (xs.map (Value.int k)).toArray) (.agg (ys.map (Value.int k)).toArray)).run P w= .ok (cellsEq xs ys) w:=
 run_equalIn_array 9999 n t e k ht he hs (λa b w=>run_equalIn_int w 9998 e k k a b he) xs ys hx hy w
theorem Yl.eqlA {n:Nat} {t e u:TypeId} {k:IntKind} {x y:Operand} {xs ys:List Int} {vx vy:Value} (hk:okOp env ⟨d,.binOp .eql t x y u,ty,pos,af,gd⟩=true) (hm:P.eqGuardType P.depth t=false) (ht:P.underlying t=some (.array n e)) (he:P.underlying e=some (.int k)) (hs:(P.info? e).map (·.size)=some 1)
  (hvx:evT env x=vx) (hvy:evT env y=vy) (hx:vx= .agg (xs.map (Value.int k)).toArray) (hy:vy= .agg (ys.map (Value.int k)).toArray) (hlx:xs.length=n) (hly:ys.length=n):
  Yl P env M bs rs ⟨d,.binOp .eql t x y u,ty,pos,af,gd⟩ (.bool (cellsEq xs ys)):=by
 refine⟨hk,λw _=>?_⟩
 have h1:=run_eqlA ht he hs xs ys hlx hly w
 have h2:=run_eqGuard_agg (P:=P) w .eql t x y (xs.map (Value.int k)).toArray (ys.map (Value.int k)).toArray hm
 simp only[execOp,hvx,hvy,hx,hy,Sem.run_bind,h2,Result.andThen_ok,binOp,h1]
 rfl
theorem Yl.neqA {n:Nat} {t e u:TypeId} {k:IntKind} {x y:Operand} {xs ys:List Int} {vx vy:Value} (hk:okOp env ⟨d,.binOp .neq t x y u,ty,pos,af,gd⟩=true) (hm:P.eqGuardType P.depth t=false) (ht:P.underlying t=some (.array n e)) (he:P.underlying e=some (.int k)) (hs:(P.info? e).map (·.size)=some 1)
  (hvx:evT env x=vx) (hvy:evT env y=vy) (hx:vx= .agg (xs.map (Value.int k)).toArray) (hy:vy= .agg (ys.map (Value.int k)).toArray) (hlx:xs.length=n) (hly:ys.length=n):
  Yl P env M bs rs ⟨d,.binOp .neq t x y u,ty,pos,af,gd⟩ (.bool (!(cellsEq xs ys))):=by
 refine⟨hk,λw _=>?_⟩
 have h1:=run_eqlA ht he hs xs ys hlx hly w
 have h2:=run_eqGuard_agg (P:=P) w .neq t x y (xs.map (Value.int k)).toArray (ys.map (Value.int k)).toArray hm
 simp only[execOp,hvx,hvy,hx,hy,Sem.run_bind,h2,Result.andThen_ok,binOp,h1]
 rfl
def slA (a:Option Addr) (lo c size:Nat):Option Addr:=if c=lo then a else a.map (·.add (lo*size))
theorem Yl.sliceSL {t e:TypeId} {sz l c:Nat} {ad:Option Addr} {x lo:Operand} {k:IntKind} {a:Int} (hkx:known env x=true) (hka:known env lo=true) (hx:evT env x= .slice ad l c) (ha:evT env lo= .int k a)
  (hu:P.underlying t=some (.slice e)) (hn:(P.info? e).map (·.size)=some sz) (h0:0<=a) (h1:a<=(l:Int)):Yl P env M bs rs ⟨d,.slice t x (some lo) none none,ty,pos,af,gd⟩ (.slice (slA ad a.toNat c sz) (l-a.toNat) (c-a.toNat)):=by
 refine⟨by simp[okOp,notSel,Op.operands,hkx,hka],λw _=>?_⟩
 have e2:=run_sliceBound (P:=P) (k:=k) (n:=a) (y:=l) (code:=.sliceB) w h0 h1
 cases hi':P.info? e with
 |none=>simp[hi']at hn
 |some ti=>
  simp[hi']at hn
  simp[execOp,Instr.sliceAt,Instr.slice,Instr.sliceBounds,hx,ha,run_underlying hu,e2,sizeOf,typeInfo,hi',hn,slA]
theorem Yl.loadBD {t:TypeId} {x:Operand} {b k:Nat} {q:IntKind} {zs:List Int} {z:Int} (i:Nat) {bt:TypeId} (hi:bs[i]?=some ⟨b,bt,zs.map (Value.int q)⟩) (hk:known env x=true) (hx:evT env x= .pointer (some ⟨b,k,none⟩))
  (ht:tyOk P t false 1=true) (hz:zs[k]?=some z):Yl P env M bs rs ⟨d,.load t x,ty,pos,af,gd⟩ (.int q z):=by
 have hlt:k<zs.length:=(List.getElem?_eq_some_iff.1 hz).1
 refine Yl.loadB (vs:=[.int q z]) false i hi hk hx ht ?_
 apply List.ext_getElem?
 intro j
 rw[List.getElem?_take,List.getElem?_drop]
 match j with
 |0=>simp[hz]
 |j+1=>simp
end
end Go.Gx

namespace Go.Gx
open Go.RowKit
section
variable {P:Program}
end
section
variable {P:Program} {env:Env} {M:Mem} {bs:List Bx} {rs:List Rw} {d:Option Tmp} {ty:TypeId} {pos:String} {af:Array Edge} {gd:Option (Nat×Bool)}
end
end Go.Gx

namespace Go.Gx
open Go.RowKit
def SlV (M:Mem) (a:Option Addr) (l c size:Nat) (xs:List Value):Prop:=
 xs.length=l*size/\l<=c/\c<=maxLen/\(0<l->∃b o,a=some ⟨b,o,none⟩/\At M b o xs)
theorem SlV.le {M M':Mem} {a:Option Addr} {l c size:Nat} {xs:List Value} (h:SlV M a l c size xs) (hl:M.le M'):SlV M' a l c size xs:=
 ⟨h.1,h.2.1,h.2.2.1,λh0=>by obtain⟨b,o,e,ha⟩:=h.2.2.2 h0;exact⟨b,o,e,ha.le hl⟩⟩
def Cs (xs:List Value) (k:Nat) (vs:List Value):Prop:=(xs.drop k).take vs.length=vs
section
variable {P:Program} {ops:Array Oper} {Q:Exit->Act->World->Prop} {n:Nat} {E:World} {bw:List Nat} {M:Mem} {w:World} {a:Act} {env:Env} {bs:List Bx} {rs:List Rw} {rest:List Oper}
theorem ownsRow_form {base:Nat} {e size n:Nat} {v:Value} {xs:List Value} (h:w.ownsRow base e size v n xs):
  ∃ad cap,v= .slice ad n cap/\n<=cap/\cap<=maxLen/\(ad=none/\n=0/\cap=0\/∃g,ad=some ⟨g,0,none⟩):=by
 rcases h.2 with⟨rfl,rfl⟩|⟨g,cap,cur,rfl,_,_,h1,h2,_,_⟩
 ·exact⟨none,0,rfl,Nat.le_refl _,Nat.zero_le _,.inl ⟨rfl,rfl,rfl⟩⟩
 ·exact⟨_,cap,rfl,h1,h2,.inr ⟨g,rfl⟩⟩
theorem Sx.rowform (hs:Sx n E bw M w a env bs rs) (i:Nat) {r:Rw} (hi:rs[i]?=some r):∃ad cap,r.v= .slice ad r.n cap/\r.n<=cap/\r.xs.length=r.n*r.size:=by
 obtain⟨h1,_⟩:=hs.rw r (List.mem_of_getElem? hi)
 obtain⟨ad,cap,e,h2,_,_⟩:=ownsRow_form h1
 exact⟨ad,cap,e,h2,h1.1⟩
theorem Sx.chrs {rs':List Rw} (hs:Sx n E bw M w a env bs rs) (h:rs=rs'):Sx n E bw M w a env bs rs':=h▸hs
theorem lenb {k bytes:Nat} (h:k*bytes<=140737488355328) (h0:0<bytes):k<=maxLen:=by
 have:k*1<=k*bytes:=Nat.mul_le_mul_left k h0
 unfold maxLen
 omega
theorem Sx.rowblk (hs:Sx n E bw M w a env bs rs) (i:Nat) {e size k cap:Nat} {ad:Option Addr} {xs:List Value} {ow:Bool} (hi:rs[i]?=some ⟨.slice ad k cap,e,size,k,xs,ow⟩) (h0:0<k):∃g,ad=some ⟨g,0,none⟩:=by
 obtain⟨h1,_⟩:=hs.rw _ (List.mem_of_getElem? hi)
 obtain⟨ad',cap',he,_,_,h2⟩:=ownsRow_form h1
 simp only[Value.slice.injEq]at he
 obtain⟨rfl,_,rfl⟩:=he
 rcases h2 with⟨_,h3,_⟩|h2
 ·simp only at h3;omega
 ·exact h2
theorem Sx.newrow (hs:Sx n E bw M w a env bs rs) (cs:List Value) (e size k:Nat) (hl:cs.length=k*size) (hm:k<=maxLen) {a':Act} {env':Env} (hA:Ag n a' env'):
  Sx n E bw M (w.alloc (.cells cs.toArray e)) a' env' bs (⟨.slice (some ⟨w.heap.size,0,none⟩) k k,e,size,k,cs,true⟩::rs):=by
 have hb:Below w.heap.size w (w.alloc (.cells cs.toArray e)):=(Below.refl _ w).alloc (Nat.le_refl _) _
 have h1:=(hs.later hb (hs.on.later hb) (λ_ _=>rfl)).act hA
 refine⟨hA,h1.on,h1.pr,h1.bx,λr hr=>?_,hs.nd.b,λx hx r hr=>?_,List.Pairwise.cons (λs hs' g hg=>?_) hs.nd.r⟩
 ·rcases List.mem_cons.1 hr with rfl|hr
  ·refine⟨⟨hl,.inr ⟨w.heap.size,k,cs.toArray,rfl,Nat.zero_le _,heap_alloc_new w _,Nat.le_refl _,hm,by simpa using hl,by simp[<-hl]⟩⟩,λg hg=>?_⟩
   simp only[Value.ownBlock,Option.some.injEq]at hg
   subst hg
   exact⟨hs.on.noneAt (Nat.le_refl _),.inl hs.pr.size⟩
  ·exact h1.rw r hr
 ·rcases List.mem_cons.1 hr with rfl|hr
  ·simp only[Value.ownBlock,ne_eq,Option.some.injEq]
   have:=(hs.bx x hx).1.lt
   omega
  ·exact hs.nd.x x hx r hr
 ·simp only[Value.ownBlock,Option.some.injEq]at hg
  subst hg
  intro e'
  have:=((hs.rw s hs').1.lt _ e').2
  omega
theorem stepMake (cs:List Value) (e size k:Nat) {d:Nat} {o:Oper} (hs:Sx n E bw M w a env bs rs) (hk:okOp env o=true) (hg:o.guard=none) (hd:o.dst=some d)
  (hrun:∀w,(execOp (evT env) o).run P w= .ok (.value (.slice (some ⟨w.heap.size,0,none⟩) k k)) (w.alloc (.cells cs.toArray e))) (hl:cs.length=k*size) (hm:k<=maxLen) (hdn:d<n)
  (h:∀a' w' v,Sx n E bw M w' a' ((d,v)::env) bs (⟨v,e,size,k,cs,true⟩::rs)->wpList P ops Q rest a' w'):wpList P ops Q (o::rest) a w:=by
 refine stepK (Z:=λ_ _=>False) (d:=d) hs (λ_ _ h=>h.elim) hg hk hd hdn ?_
 refine OpW.of_run (hrun w) ?_
 intro a' hA
 exact h a' _ _ (hs.newrow cs e size k hl hm hA)
theorem Sx.rowset {w':World} (hs:Sx n E bw M w a env bs rs) (i:Nat) {r r':Rw} (hi:rs[i]?=some r) (hg:w.grownBy w' r.v.ownBlock)
  (hfl:r'.own=r.own) (hown:w'.ownsRow 0 r'.e r'.size r'.v r'.n r'.xs) (hblk:r'.v.ownBlock=r.v.ownBlock\/r'.v.ownBlock=none\/r'.v.ownBlock=some w.heap.size) {a':Act} {env':Env} (hA:Ag n a' env'):
  Sx n E bw M w' a' env' bs (rs.set i r'):=by
 have hr:=hs.rw r (List.mem_of_getElem? hi)
 have hne:∀k,k<w.heap.size->r.v.ownBlock≠some k->w'.heap[k]?=w.heap[k]?:=λk hk h=>hg.block k hk (λe=>h e.symm)
 have hlt:∀g,r'.v.ownBlock=some g->(r.v.ownBlock=some g\/g=w.heap.size):=λg hg'=>by
  rcases hblk with h|h|h
  ·exact .inl (h▸hg')
  ·rw[h]at hg';cases hg'
  ·rw[h]at hg';exact .inr (by simpa using hg'.symm)
 have hiL:i<rs.length:=(List.getElem?_eq_some_iff.1 hi).1
 have hmem:∀s∈rs.set i r',s=r'\/∃j,rs[j]?=some s/\i≠j:=by
  intro s hs'
  obtain⟨j,hj⟩:=List.mem_iff_getElem?.1 hs'
  rw[List.getElem?_set]at hj
  by_cases hij:i=j
  ·subst hij
   rw[if_pos rfl,if_pos hiL]at hj
   simp only[Option.some.injEq]at hj
   exact .inl hj.symm
  ·rw[if_neg hij]at hj;exact .inr ⟨j,hj,hij⟩
 have hpw:∀j s,rs[j]?=some s->i≠j->∀g,r.v.ownBlock=some g->s.v.ownBlock≠some g:=by
  intro j s hj hij g hg1 hg2
  obtain⟨hjl,hj'⟩:=List.getElem?_eq_some_iff.1 hj
  obtain⟨_,hi'⟩:=List.getElem?_eq_some_iff.1 hi
  have hp:=List.pairwise_iff_getElem.1 hs.nd.r
  rcases Nat.lt_or_ge i j with h|h
  ·have:=hp i j hiL hjl h g
   rw[hi',hj']at this
   exact this hg1 hg2
  ·have:=hp j i hjl hiL (by omega) g
   rw[hi',hj']at this
   exact this hg2 hg1
 have hkp:∀j s,rs[j]?=some s->i≠j->s.v.ownBlock=none\/s.v.ownBlock≠r.v.ownBlock:=by
  intro j s hj hij
  cases hb:s.v.ownBlock with
  |none=>exact .inl rfl
  |some g=>exact .inr λe=>hpw j s hj hij g e.symm hb
 refine⟨hA,λb o hb=>?_,?_,λx hx=>?_,λs hs'=>?_,hs.nd.b,λx hx s hs'=>?_,?_⟩
 ·rw[hne b (hs.on.lt hb) (λe=>by rw[(hr.2 b e).1]at hb;cases hb)];exact hs.on b o hb
 ·obtain⟨h1,h2,h3,h4,h5⟩:=hs.pr
  refine⟨hg.os.trans h1,hg.tape.trans h2,hg.output.trans h3,Nat.le_trans h4 hg.size,λk hk hn=>?_⟩
  rw[hne k (by omega) (λe=>by
   rcases(hr.2 k e).2 with h|h
   ·omega
   ·exact hn h.2)]
  exact h5 k hk hn
 ·obtain⟨g1,g2,g3⟩:=hs.bx x hx
  exact⟨(hne _ g1.lt (hs.nd.x x hx r (List.mem_of_getElem? hi))).trans g1,g2,g3⟩
 ·rcases hmem s hs' with rfl|⟨j,hj,hij⟩
  ·refine⟨hown,λg hg'=>?_⟩
   rcases hlt g hg' with h|rfl
   ·rw[hfl];exact hr.2 g h
   ·exact⟨hs.on.noneAt (Nat.le_refl _),.inl hs.pr.size⟩
  ·obtain⟨g1,g2⟩:=hs.rw s (List.mem_of_getElem? hj)
   exact⟨g1.kept hg (hkp j s hj hij),g2⟩
 ·rcases hmem s hs' with rfl|⟨j,hj,hij⟩
  ·intro e
   rcases hlt _ e with h|h
   ·exact hs.nd.x x hx r (List.mem_of_getElem? hi) h
   ·have:=(hs.bx x hx).1.lt
    omega
  ·exact hs.nd.x x hx s (List.mem_of_getElem? hj)
 ·refine List.pairwise_iff_getElem.2 λp q hp hq hpq g hg1=>?_
  simp only[List.length_set]at hp hq
  rw[List.getElem_set]at hg1 ⊢
  have old:∀j (hj:j<rs.length),i≠j->∀g,r'.v.ownBlock=some g->rs[j].v.ownBlock≠some g:=by
   intro j hj hij g h1 h2
   rcases hlt g h1 with h|rfl
   ·exact hpw j rs[j] (List.getElem?_eq_getElem hj) hij g h h2
   ·have:=((hs.rw rs[j] (List.getElem_mem hj)).1.lt _ h2).2
    omega
  by_cases hip:i=p
  ·rw[if_pos hip]at hg1
   rw[if_neg (by omega)]
   exact old q hq (by omega) g hg1
  ·rw[if_neg hip]at hg1
   by_cases hiq:i=q
   ·rw[if_pos hiq]
    exact λh=>old p hp hip g h hg1
   ·rw[if_neg hiq]
    exact List.pairwise_iff_getElem.1 hs.nd.r p q hp hq hpq g hg1
def Src (w:World) (A:Option Addr) (m size:Nat) (news:List Value):Prop:=
 news.length=m*size/\(∀u∈news,u.oneCell'=true)/\(0<m->∃ad,A=some ad/\∀j u,news[j]?=some u->w.cell? (ad.add j)=some u)
theorem run_append_src {base:Nat} {t ty e:TypeId} {size bytes:Nat} (ht:P.underlying t=some (.slice e)) (hi:(P.info? e).map (λi=>(i.size,i.bytes,i.zero.map (·.cells.size)))=some (size,bytes,some size)) (hsz:0<size)
  {v:Value} {n:Nat} {xs:List Value} (hown:w.ownsRow base e size v n xs) {A:Option Addr} {m c:Nat} {news:List Value} (hr:Src w A m size news)
  (h63:n+m<=maxLen) (hbytes:(n+m)*bytes<=140737488355328) (hbase:base<=w.heap.size):
  ∃v' w',(Builtin.append_ #[t,t] ty #[v,.slice A m c]).run P w= .ok v' w'/\w'.ownsRow base e size v' (n+m) (xs++news)/\w.grownBy w' v.ownBlock/\
   (v'.ownBlock=v.ownBlock\/v'.ownBlock=none\/v'.ownBlock=some w.heap.size):=by
 cases hinf:P.info? e with
 |none=>simp[hinf]at hi
 |some i=>
  simp only[hinf,Option.map_some,Option.some.injEq,Prod.mk.injEq]at hi
  obtain⟨h1,h2,h3⟩:=hi
  cases hz:i.zero with
  |none=>simp[hz]at h3
  |some z=>
   simp only[hz,Option.map_some,Option.some.injEq]at h3
   rcases A with _|ad
   ·have hm:m=0:=by
     rcases Nat.eq_zero_or_pos m with h0|h0
     ·exact h0
     ·obtain⟨ad,h,_⟩:=hr.2.2 h0;cases h
    subst hm
    have hn:news=[]:=List.eq_nil_of_length_eq_zero (by simpa using hr.1)
    subst hn
    refine⟨v,w,?_,by simpa using hown,World.grownBy.refl w _,.inl rfl⟩
    rcases hown.2 with⟨rfl,rfl⟩|⟨g,cap,cur,rfl,_,_,hnc,_⟩
    ·simp[Builtin.append_,run_underlying ht,sizeOf,typeInfo,hinf,Builtin.lenOf,Builtin.firstCells]
    ·simp[Builtin.append_,run_underlying ht,sizeOf,typeInfo,hinf,Builtin.lenOf,Builtin.firstCells,hnc,storeCells]
   ·have hcells:∀j u,news[j]?=some u->w.cell? (ad.add j)=some u:=by
     intro j u hu
     rcases Nat.eq_zero_or_pos m with h0|h0
     ·subst h0
      have hn:news=[]:=List.eq_nil_of_length_eq_zero (by simpa using hr.1)
      subst hn
      simp at hu
     ·obtain⟨ad',h,hc⟩:=hr.2.2 h0
      injection h with h
      subst h
      exact hc j u hu
    obtain⟨v',w',hrun,g2,g3,_,g5⟩:=run_append_own_at (P:=P) w base t ty e i z size bytes ht hinf hz h1 h2 h3 hsz v n xs hown ad m c news hr.1 hcells hr.2.1 h63 hbytes hbase
    exact⟨v',w',hrun,g2,g3,g5.imp id .inr⟩
theorem run_call_append {d:Option Tmp} {ty:TypeId} {x y:Operand} {t:TypeId} {pos:String} {af:Array Edge} {gd:Option (Nat×Bool)} {vx vy:Value} (hx:evT env x=vx) (hy:evT env y=vy):
  (execOp (evT env) ⟨d,.call {callee:=.builtin .append,args:= #[x,y],argTypes:= #[t,t]},ty,pos,af,gd⟩).run P w=((Builtin.append_ #[t,t] ty #[vx,vy]).run P w).andThen λv w'=>.ok (.value v) w':=by
 simp[execOp,resolve,invoke,builtin,hx,hy]
theorem stepAppend (i:Nat) {d:Nat} {ty:TypeId} {x y:Operand} {t e:TypeId} {size bytes:Nat} {pos:String} {af:Array Edge} {v:Value} {k:Nat} {xs:List Value} {A:Option Addr} {m c:Nat} {ow:Bool} (news:List Value)
  (hs:Sx n E bw M w a env bs rs) (hi:rs[i]?=some ⟨v,e,size,k,xs,ow⟩) (hkx:known env x=true) (hky:known env y=true) (hx:evT env x=v) (hy:evT env y= .slice A m c)
  (ht:P.underlying t=some (.slice e)) (hinf:(P.info? e).map (λi=>(i.size,i.bytes,i.zero.map (·.cells.size)))=some (size,bytes,some size)) (hsz:0<size) (hdn:d<n)
  (hr:Src w A m size news) (h63:k+m<=maxLen) (hbytes:(k+m)*bytes<=140737488355328)
  (h:∀a' w' v',Sx n E bw M w' a' ((d,v')::env) bs (rs.set i ⟨v',e,size,k+m,xs++news,ow⟩)->wpList P ops Q rest a' w'):
  wpList P ops Q (⟨some d,.call {callee:=.builtin .append,args:= #[x,y],argTypes:= #[t,t]},ty,pos,af,none⟩::rest) a w:=by
 refine stepK (Z:=λ_ _=>False) (d:=d) hs (λ_ _ h=>h.elim) rfl (by simp[okOp,notSel,Op.operands,Call.operands,hkx,hky]) rfl hdn ?_
 obtain⟨v',w',hrun,h1,h2,h3⟩:=run_append_src (P:=P) (ty:=ty) (c:=c) ht hinf hsz (hs.rw _ (List.mem_of_getElem? hi)).1 hr h63 hbytes (Nat.zero_le _)
 refine OpW.of_run (w':=w') (v:=v') (by rw[run_call_append hx hy,hrun];rfl) ?_
 intro a' hA
 exact h a' w' v' (hs.rowset (r':=⟨v',e,size,k+m,xs++news,ow⟩) i hi h2 rfl h1 h3 hA)
theorem Sx.srcRow (hs:Sx n E bw M w a env bs rs) (j:Nat) {A:Option Addr} {m c:Nat} {e size:Nat} {news:List Value} {ow:Bool} (hj:rs[j]?=some ⟨.slice A m c,e,size,m,news,ow⟩) (h1:news.all (·.oneCell')=true):Src w A m size news:=by
 obtain⟨g1,_⟩:=hs.rw _ (List.mem_of_getElem? hj)
 refine⟨g1.1,λu hu=>List.all_eq_true.1 h1 u hu,λh0=>?_⟩
 obtain⟨ad,cap,he,_,_,h2⟩:=ownsRow_form g1
 simp only[Value.slice.injEq]at he
 obtain⟨rfl,_,rfl⟩:=he
 rcases h2 with⟨_,h3,_⟩|⟨g,rfl⟩
 ·simp only at h3;omega
 ·exact⟨_,rfl,λj u hu=>g1.cells (g:=g) rfl j u hu⟩
theorem Sx.srcV (hs:Sx n E bw M w a env bs rs) {A:Option Addr} {m c size:Nat} {news:List Value} (h:SlV M A m c size news) (h1:∀u∈news,u.oneCell'=true):Src w A m size news:=by
 refine⟨h.1,h1,λh0=>?_⟩
 obtain⟨b,o,rfl,ha⟩:=h.2.2.2 h0
 exact⟨_,rfl,λj u hu=>by rw[add_lit];exact hs.on.cell (ha j u hu)⟩
theorem Sx.release (hs:Sx n E bw M w a env bs rs) (i:Nat) {A:Option Addr} {l c:Nat} {e size:Nat} {xs:List Value} (hi:rs[i]?=some ⟨.slice A l c,e,size,l,xs,true⟩) (rs':List Rw) (hrs:rs.eraseIdx i=rs'):
  ∃M',M.le M'/\SlV M' A l c size xs/\(∀b o,M' b=some o->M b=some o\/E.heap.size<=b)/\Sx n E bw M' w a env bs rs':=by
 subst hrs
 obtain⟨g1,g2⟩:=hs.rw _ (List.mem_of_getElem? hi)
 have hiL:i<rs.length:=(List.getElem?_eq_some_iff.1 hi).1
 have hsub:(rs.eraseIdx i).Sublist rs:=List.eraseIdx_sublist rs i
 obtain⟨ad,cap,he,hc1,hc2,h2⟩:=ownsRow_form g1
 simp only[Value.slice.injEq]at he
 obtain⟨rfl,_,rfl⟩:=he
 rcases h2 with⟨rfl,h3,h4⟩|⟨g,rfl⟩
 ·simp only at h3 h4
  refine⟨M,Mem.le.refl M,⟨g1.1,hc1,hc2,λh0=>by omega⟩,λ_ _ h=>.inl h,hs.ag,hs.on,hs.pr,hs.bx,λr hr=>hs.rw r (hsub.subset hr),hs.nd.sub (List.Sublist.refl _) hsub⟩
 ·have hg:=(g2 g rfl).1
  have hbg:E.heap.size<=g:=by
   rcases(g2 g rfl).2 with h|h
   ·exact h
   ·cases h.1
  obtain⟨_,hlt⟩:=g1.lt g rfl
  rcases g1.2 with⟨h0,_⟩|⟨g',cap',cur,hv,_,hcell,_,_,_,htake⟩
  ·cases h0
  ·simp only[Value.slice.injEq,Option.some.injEq,Addr.mk.injEq,and_true]at hv
   obtain⟨rfl,_,rfl⟩:=hv
   refine⟨λb=>if b=g then w.heap[g]? else M b,λb o hb=>?_,⟨g1.1,hc1,hc2,λ_=>⟨g,0,rfl,λj v hj=>?_⟩⟩,λb o hb=>?_,hs.ag,λb o hb=>?_,hs.pr,λx hx=>?_,λr hr=>?_,hs.nd.sub (List.Sublist.refl _) hsub⟩
   ·show(if b=g then w.heap[g]? else M b)=some o
    rw[if_neg (by rintro rfl;rw[hg]at hb;cases hb)];exact hb
   ·unfold Mem.cell
    simp only[if_true,hcell]
    change List.take (l*size) cur.toList=xs at htake
    rw[<-htake,List.getElem?_take]at hj
    split at hj
    ·simpa using hj
    ·cases hj
   ·change (if b=g then w.heap[g]? else M b)=some o at hb
    by_cases hbg':b=g
    ·exact .inr (hbg'▸hbg)
    ·rw[if_neg hbg']at hb;exact .inl hb
   ·change (if b=g then w.heap[g]? else M b)=some o at hb
    by_cases hbg':b=g
    ·rw[if_pos hbg']at hb;rw[hbg'];exact hb
    ·rw[if_neg hbg']at hb;exact hs.on b o hb
   ·obtain⟨k1,k2,k3⟩:=hs.bx x hx
    refine⟨k1,?_,k3⟩
    show(if x.b=g then w.heap[g]? else M x.b)=none
    rw[if_neg (λe=>hs.nd.x x hx _ (List.mem_of_getElem? hi) (by rw[e];rfl))];exact k2
   ·obtain⟨k1,k2⟩:=hs.rw r (hsub.subset hr)
    refine⟨k1,λg' hg'=>⟨?_,(k2 g' hg').2⟩⟩
    show(if g'=g then w.heap[g]? else M g')=none
    rw[if_neg ?_]
    ·exact(k2 g' hg').1
    ·rintro rfl
     obtain⟨j,hj⟩:=List.mem_iff_getElem?.1 hr
     rw[List.getElem?_eraseIdx]at hj
     have hp:=List.pairwise_iff_getElem.1 hs.nd.r
     obtain⟨_,hi'⟩:=List.getElem?_eq_some_iff.1 hi
     by_cases hji:j<i
     ·rw[if_pos hji]at hj
      obtain⟨hjl,hj'⟩:=List.getElem?_eq_some_iff.1 hj
      have:=hp j i hjl hiL hji g'
      rw[hj',hi']at this
      exact this hg' rfl
     ·rw[if_neg hji]at hj
      obtain⟨hjl,hj'⟩:=List.getElem?_eq_some_iff.1 hj
      have:=hp i (j+1) hiL hjl (by omega) g'
      rw[hj',hi']at this
      exact this rfl hg'
end
section
variable {P:Program} {env:Env} {M:Mem} {bs:List Bx} {rs:List Rw} {d:Option Tmp} {ty:TypeId} {pos:String} {af:Array Edge} {gd:Option (Nat×Bool)}
theorem Yl.lenR (i:Nat) {x:Operand} {t e':TypeId} {v:Value} {e size k:Nat} {xs:List Value} {ow:Bool} (hi:rs[i]?=some ⟨v,e,size,k,xs,ow⟩) (hk:known env x=true) (hx:evT env x=v) (ht:P.underlying t=some (.slice e')):
  Yl P env M bs rs ⟨d,.call {callee:=.builtin .len,args:= #[x],argTypes:= #[t]},ty,pos,af,gd⟩ (.int .i64 ((k:Nat):Int)):=by
 refine⟨by simp[okOp,notSel,Op.operands,Call.operands,hk],λw hc=>?_⟩
 obtain⟨base,g1⟩:=hc.rw _ (List.mem_of_getElem? hi)
 obtain⟨ad,cap,he,_⟩:=ownsRow_form g1
 simp only at he
 subst he
 simp[execOp,resolve,invoke,builtin,hx,Builtin.len_,run_underlying ht,goInt]
theorem Yl.loadR (i:Nat) {t:TypeId} {x:Operand} {g k n cap e size:Nat} {ad:Option Addr} {xs vs:List Value} {ow:Bool} (ag:Bool) (hi:rs[i]?=some ⟨.slice ad n cap,e,size,n,xs,ow⟩) (had:ad=some ⟨g,0,none⟩) (hk:known env x=true) (hx:evT env x= .pointer (some ⟨g,k,none⟩))
  (ht:tyOk P t ag vs.length=true) (h:Cs xs k vs):Yl P env M bs rs ⟨d,.load t x,ty,pos,af,gd⟩ (ofCells ag vs):=by
 subst had
 obtain⟨h1,h2,h3,h4⟩:=tyOk_spec ht
 refine⟨by simp[okOp,notSel,Op.operands,hk],λw hc=>?_⟩
 obtain⟨base,g1⟩:=hc.rw _ (List.mem_of_getElem? hi)
 have:=run_load_at (P:=P) (b:=g) (o:=k) h1 h2 h3 h4 (λj v hj=>by
  have hjl:j<vs.length:=(List.getElem?_eq_some_iff.1 hj).1
  rw[<-h,List.getElem?_take,if_pos hjl,List.getElem?_drop]at hj
  have:=g1.cells (g:=g) rfl (k+j) v hj
  rw[add_lit,Nat.zero_add]at this
  exact this)
 simp[execOp,Instr.loadAt,hx,Instr.sureAddr,this]
end
end Go.Gx

namespace Go.Gx
open Go.RowKit
structure Sy (E:World) (bw:List Nat) (M:Mem) (w:World) (bs:List Bx) (rs:List Rw):Prop where
 on:On M w
 pr:Pres E bw w
 bx:∀x∈bs,BxAt w x/\M x.b=none/\(E.heap.size<=x.b\/x.b∈bw)
 rw:∀r∈rs,w.ownsRow 0 r.e r.size r.v r.n r.xs/\∀g,r.v.ownBlock=some g->M g=none/\(E.heap.size<=g\/(r.own=false/\g∈bw))
 nd:Nd bs rs
theorem Sy.sx {n:Nat} {E:World} {bw:List Nat} {M:Mem} {w:World} {a:Act} {env:Env} {bs:List Bx} {rs:List Rw} (h:Sy E bw M w bs rs) (hA:Ag n a env):Sx n E bw M w a env bs rs:=⟨hA,h.on,h.pr,h.bx,h.rw,h.nd⟩
def blk (lb:List Bx) (lr:List Rw):List Nat:=lb.map (·.b)++lr.filterMap (·.v.ownBlock)
def CallL (P:Program) (f:FuncId) (args:Array Value) (M:Mem) (lb:List Bx) (lr:List Rw) (K:Value->List Bx->List Rw->Mem->Prop):Prop:=
 ∀w,Sy w (blk lb lr) M w lb lr->Calls P f args w λe w'=>∃v lb' lr' M',e= .returned v/\M.le M'/\MM M' M w/\Sy w (blk lb lr) M' w' lb' lr'/\lb'.map (·.b)=lb.map (·.b)/\K v lb' lr' M'
theorem CallL.mono {P:Program} {f:FuncId} {args:Array Value} {M:Mem} {lb:List Bx} {lr:List Rw} {K K':Value->List Bx->List Rw->Mem->Prop} (h:CallL P f args M lb lr K) (hK:∀v lb' lr' M',M.le M'->K v lb' lr' M'->K' v lb' lr' M'):CallL P f args M lb lr K':=
 λw hw=>(h w hw).mono λ_ _ ⟨v,lb',lr',M',h1,h2,h3,h4,h5,h6⟩=>⟨v,lb',lr',M',h1,h2,h3,h4,h5,hK v _ _ _ h2 h6⟩
def flag (b:Bool) (l:List Rw):List Rw:=l.map λr=>{r with own:=b}
theorem enterL {P:Program} {f:FuncId} {fn:Func} {c:Code} {l:List Value} {M:Mem} {lb:List Bx} {lr:List Rw} {K:Value->List Bx->List Rw->Mem->Prop}
  (hf:P.funcs[f]?=some fn) (hb:fn.body=some c) (n:Nat) (hn:fn.ntmps=n) (hl:l.length<=n)
  (h:∀w a,Sx n w (blk lb lr) M w a (argEnv l 0) lb lr->Wp P c
   (λa' w'=>a'.defers=[]/\∃v,(results fn a'.tmps).run P w'= .ok v w'/\∃lb' lr' M',M.le M'/\MM M' M w/\Sy w (blk lb lr) M' w' lb' lr'/\lb'.map (·.b)=lb.map (·.b)/\K v lb' lr' M') []
   (λa' w'=>a'.defers=[]/\∃v,(results fn a'.tmps).run P w'= .ok v w'/\∃lb' lr' M',M.le M'/\MM M' M w/\Sy w (blk lb lr) M' w' lb' lr'/\lb'.map (·.b)=lb.map (·.b)/\K v lb' lr' M') (λ_ _ _=>False) a w):
  CallL P f l.toArray M lb lr K:=by
 intro w hw
 refine calls_of_wp hf hb ?_
 refine Code.wp_mono (λe a' w' q=>?_) (h w _ (hw.sx ⟨rfl,?_,λx v hx=>?_⟩))
 ·cases e with
  |normal=>obtain⟨h1,v,h2,lb',lr',M',h3⟩:=q;exact⟨h1,v,h2,v,lb',lr',M',rfl,h3⟩
  |ret=>obtain⟨h1,v,h2,lb',lr',M',h3⟩:=q;exact⟨h1,v,h2,v,lb',lr',M',rfl,h3⟩
  |_=>exact q.elim
 ·simp[hn];omega
 ·obtain⟨_,h2⟩:=lk_argEnv l 0 x v hx
  simp only[Nat.sub_zero]at h2
  have hx':x<l.length:=by
   rcases Nat.lt_or_ge x l.length with h'|h'
   ·exact h'
   ·rw[List.getElem?_eq_none h']at h2;cases h2
  simp only[Array.getD_eq_getD_getElem?]
  rw[Array.getElem?_append_left (by simpa using hx')]
  simp[h2]
theorem leaveL {P:Program} {fn:Func} {n:Nat} {E:World} {lb:List Bx} {lr:List Rw} {M0 M:Mem} {w:World} {a:Act} {env:Env} {bs:List Bx} {rs:List Rw} {K:Value->List Bx->List Rw->Mem->Prop} {v:Value}
  (hs:Sx n E (blk lb lr) M w a env bs rs) (hr:(results fn a.tmps).run P w= .ok v w) (hL:M0.le M) (hM:MM M M0 E) (lb':List Bx) (lr':List Rw) (hb:lb'.Sublist bs) (hrr:lr'.Sublist rs) (he:lb'.map (·.b)=lb.map (·.b)) (hK:K v lb' lr' M):
  a.defers=[]/\∃v,(results fn a.tmps).run P w= .ok v w/\∃lb' lr' M',M0.le M'/\MM M' M0 E/\Sy E (blk lb lr) M' w lb' lr'/\lb'.map (·.b)=lb.map (·.b)/\K v lb' lr' M':=
 ⟨hs.ag.df,v,hr,lb',lr',M,hL,hM,⟨hs.on,hs.pr,λx hx=>hs.bx x (hb.subset hx),λr hx=>hs.rw r (hrr.subset hx),hs.nd.sub hb hrr⟩,he,hK⟩
theorem ownBlock_lt {w:World} {e size n:Nat} {v:Value} {xs:List Value} (h:w.ownsRow 0 e size v n xs) {g:Nat} (hg:v.ownBlock=some g):g<w.heap.size:=(h.lt g hg).2
theorem ownsRow_keep {w w':World} {e size n:Nat} {v:Value} {xs:List Value} (h:w.ownsRow 0 e size v n xs) (hk:∀g,v.ownBlock=some g->w'.heap[g]?=w.heap[g]?):w'.ownsRow 0 e size v n xs:=by
 refine⟨h.1,?_⟩
 rcases h.2 with hn|⟨g,cap,cur,hv,hb,hg,r3⟩
 ·exact .inl hn
 ·exact .inr ⟨g,cap,cur,hv,hb,(hk g (by rw[hv];rfl)).trans hg,r3⟩
section
variable {P:Program} {ops:Array Oper} {Q:Exit->Act->World->Prop} {n:Nat} {E:World} {bw:List Nat} {M:Mem} {w:World} {a:Act} {env:Env} {rest:List Oper}
theorem mem_blk {lb:List Bx} {lr:List Rw} {k:Nat}:k∈blk lb lr↔(∃x∈lb,x.b=k)\/∃r∈lr,r.v.ownBlock=some k:=by
 unfold blk
 simp only[List.mem_append,List.mem_map,List.mem_filterMap]
theorem Sx.back {bs:List Bx} {rs:List Rw} {lb lb':List Bx} {lr lr':List Rw} {fl:Bool} {M':Mem} {w':World} {a':Act} {env':Env} (hs:Sx n E bw M w a env (lb++bs) (flag fl lr++rs)) (_hle:M.le M') (hMM:MM M' M w) (hy:Sy w (blk lb lr) M' w' lb' lr') (hbe:lb'.map (·.b)=lb.map (·.b)) (hA:Ag n a' env'):
  Sx n E bw M' w' a' env' (lb'++bs) (flag fl lr'++rs):=by
 have hlbE:∀x∈lb,E.heap.size<=x.b\/x.b∈bw:=λx hx=>(hs.bx x (List.mem_append_left _ hx)).2.2
 have hlrE:∀r∈lr,∀g,r.v.ownBlock=some g->E.heap.size<=g\/(fl=false/\g∈bw):=λr hr g hg=>((hs.rw {r with own:=fl} (List.mem_append_left _ (List.mem_map.2 ⟨r,hr,rfl⟩))).2 g hg).2
 have hsz:=hs.pr.size
 have hbsN:∀x∈bs,x.b∉blk lb lr:=by
  intro x hx hm
  rcases mem_blk.1 hm with⟨y,hy,e⟩|⟨r,hr,e⟩
  ·have:=hs.nd.b
   rw[List.map_append,List.nodup_append]at this
   exact this.2.2 y.b (List.mem_map.2 ⟨y,hy,rfl⟩) x.b (List.mem_map.2 ⟨x,hx,rfl⟩) e
  ·exact hs.nd.x x (List.mem_append_right _ hx) {r with own:=fl} (List.mem_append_left _ (List.mem_map.2 ⟨r,hr,rfl⟩)) e
 have hrsN:∀r∈rs,∀g,r.v.ownBlock=some g->g∉blk lb lr:=by
  intro r hr g hg hm
  rcases mem_blk.1 hm with⟨y,hy,e⟩|⟨q,hq,e⟩
  ·subst e;exact hs.nd.x y (List.mem_append_left _ hy) r (List.mem_append_right _ hr) hg
  ·have:=List.pairwise_append.1 hs.nd.r
   exact this.2.2 {q with own:=fl} (List.mem_map.2 ⟨q,hq,rfl⟩) r hr g e hg
 have hlb':∀x∈lb',∃y∈lb,y.b=x.b:=by
  intro x hx
  have:x.b∈lb.map (·.b):=by rw[<-hbe];exact List.mem_map.2 ⟨x,hx,rfl⟩
  obtain⟨y,hy,e⟩:=List.mem_map.1 this
  exact⟨y,hy,e⟩
 have hlr':∀r∈lr',∀g,r.v.ownBlock=some g->w.heap.size<=g\/g∈blk lb lr:=λr hr g hg=>((hy.rw r hr).2 g hg).2.imp id (·.2)
 refine⟨hA,hy.on,?_,λx hx=>?_,λr hr=>?_,?_,λx hx r hr=>?_,?_⟩
 ·obtain⟨p1,p2,p3,p4,p5⟩:=hs.pr
  obtain⟨q1,q2,q3,q4,q5⟩:=hy.pr
  refine⟨q1.trans p1,q2.trans p2,q3.trans p3,Nat.le_trans p4 q4,λk hk hn=>?_⟩
  rw[q5 k (by omega) (λhm=>?_)]
  ·exact p5 k hk hn
  ·rcases mem_blk.1 hm with⟨y,hy,e⟩|⟨q,hq,e⟩
   ·subst e
    rcases hlbE y hy with h|h
    ·omega
    ·exact hn h
   ·rcases hlrE q hq k e with h|h
    ·omega
    ·exact hn h.2
 ·rcases List.mem_append.1 hx with hx|hx
  ·obtain⟨h1,h2,_⟩:=hy.bx x hx
   obtain⟨y,hyl,e⟩:=hlb' x hx
   exact⟨h1,h2,e▸hlbE y hyl⟩
  ·obtain⟨h1,h2,h3⟩:=hs.bx x (List.mem_append_right _ hx)
   refine⟨(hy.pr.block _ h1.lt (hbsN x hx)).trans h1,?_,h3⟩
   cases hm:M' x.b with
   |none=>rfl
   |some o=>
    rcases hMM _ _ hm with h|h
    ·rw[h2]at h;cases h
    ·have:=h1.lt;omega
 ·rcases List.mem_append.1 hr with hr|hr
  ·obtain⟨q,hq,rfl⟩:=List.mem_map.1 hr
   obtain⟨h1,h2⟩:=hy.rw q hq
   refine⟨h1,λg hg=>⟨(h2 g hg).1,?_⟩⟩
   rcases hlr' q hq g hg with h|h
   ·left;omega
   ·rcases mem_blk.1 h with⟨y,hyl,e⟩|⟨q',hq',e⟩
    ·exfalso
     have:y.b∈lb'.map (·.b):=by rw[hbe];exact List.mem_map.2 ⟨y,hyl,rfl⟩
     obtain⟨z,hz,ez⟩:=List.mem_map.1 this
     exact hy.nd.x z hz q hq (by rw[ez,e];exact hg)
    ·exact hlrE q' hq' g e
  ·obtain⟨h1,h2⟩:=hs.rw r (List.mem_append_right _ hr)
   refine⟨ownsRow_keep h1 λg hg=>hy.pr.block g (ownBlock_lt h1 hg) (hrsN r hr g hg),λg hg=>⟨?_,(h2 g hg).2⟩⟩
   cases hm:M' g with
   |none=>rfl
   |some o=>
    rcases hMM _ _ hm with h|h
    ·rw[(h2 g hg).1]at h;cases h
    ·have:=ownBlock_lt h1 hg;omega
 ·have:=hs.nd.b
  rw[List.map_append]at this ⊢
  rw[hbe]
  exact this
 ·rcases List.mem_append.1 hx with hx|hx<;>rcases List.mem_append.1 hr with hr|hr
  ·obtain⟨q,hq,rfl⟩:=List.mem_map.1 hr
   exact hy.nd.x x hx q hq
  ·obtain⟨y,hyl,e⟩:=hlb' x hx
   rw[<-e]
   exact hs.nd.x y (List.mem_append_left _ hyl) r (List.mem_append_right _ hr)
  ·obtain⟨q,hq,rfl⟩:=List.mem_map.1 hr
   intro hg
   have hxl:=(hs.bx x (List.mem_append_right _ hx)).1.lt
   rcases hlr' q hq _ hg with h|h
   ·omega
   ·exact hbsN x hx h
  ·exact hs.nd.x x (List.mem_append_right _ hx) r (List.mem_append_right _ hr)
 ·refine List.pairwise_append.2 ⟨?_,(List.pairwise_append.1 hs.nd.r).2.1,?_⟩
  ·exact List.pairwise_map.2 hy.nd.r
  ·intro r hr s hs' g hg hg'
   obtain⟨q,hq,rfl⟩:=List.mem_map.1 hr
   have hsl:=ownBlock_lt (hs.rw s (List.mem_append_right _ hs')).1 hg'
   rcases hlr' q hq g hg with h|h
   ·omega
   ·exact hrsN s hs' g hg' h
theorem Sx.lend {bs:List Bx} {rs:List Rw} {lb:List Bx} {lr:List Rw} {fl:Bool} (hs:Sx n E bw M w a env (lb++bs) (flag fl lr++rs)) (hf:lr=flag false lr):Sy w (blk lb lr) M w lb lr:=by
 refine⟨hs.on,Pres.refl _ _,λx hx=>?_,λr hr=>?_,?_,λx hx r hr=>?_,?_⟩
 ·obtain⟨h1,h2,_⟩:=hs.bx x (List.mem_append_left _ hx)
  exact⟨h1,h2,.inr (mem_blk.2 (.inl ⟨x,hx,rfl⟩))⟩
 ·obtain⟨h1,h2⟩:=hs.rw {r with own:=fl} (List.mem_append_left _ (List.mem_map.2 ⟨r,hr,rfl⟩))
  refine⟨h1,λg hg=>⟨(h2 g hg).1,.inr ⟨?_,mem_blk.2 (.inr ⟨r,hr,hg⟩)⟩⟩⟩
  rw[hf]at hr
  obtain⟨q,_,rfl⟩:=List.mem_map.1 hr
  rfl
 ·have:=hs.nd.b
  rw[List.map_append,List.nodup_append]at this
  exact this.1
 ·exact hs.nd.x x (List.mem_append_left _ hx) {r with own:=fl} (List.mem_append_left _ (List.mem_map.2 ⟨r,hr,rfl⟩))
 ·have:=(List.pairwise_append.1 hs.nd.r).1
  exact List.pairwise_map.1 this
theorem stepCallL {d f:Nat} {ty:TypeId} {c:Call} {pos:String} {af:Array Edge} {fn:Func} {K:Value->List Bx->List Rw->Mem->Prop} {first caps:Array Value} {bs0:List Bx} {rs0:List Rw} (args:List Value) (lb bs:List Bx) (lr rs:List Rw) (fl:Bool) (hs:Sx n E bw M w a env bs0 rs0)
  (hbs:bs0=lb++bs) (hrs:rs0=flag fl lr++rs) (hfl:lr=flag false lr)
  (hk:okOp env ⟨some d,.call c,ty,pos,af,none⟩=true) (hcal:∃x,c.callee= .value x/\evT env x= .func (.func f) first caps) (hargs:first.toList++c.args.toList.map (evT env)++caps.toList=args) (hf:P.funcs[f]?=some fn) (hbody:fn.body.isNone=false) (hname:(fn.name== "runtime.NumGoroutine")=false) (hdn:d<n)
  (hc:CallL P f args.toArray M lb lr K)
  (h:∀a' w' M' v lb' lr',M.le M'->(∀b o,M' b=some o->M b=some o\/E.heap.size<=b)->K v lb' lr' M'->Sx n E bw M' w' a' ((d,v)::env) (lb'++bs) (flag fl lr'++rs)->wpList P ops Q rest a' w'):wpList P ops Q (⟨some d,.call c,ty,pos,af,none⟩::rest) a w:=by
 subst hbs
 subst hrs
 refine stepK (Z:=λ_ _=>False) (d:=d) hs (λ_ _ h=>h.elim) rfl hk rfl hdn ?_
 unfold OpW
 rw[run_call args hcal hargs hf hbody hname]
 refine(hc w (hs.lend hfl)).mono λe w' ⟨v,lb',lr',M',he,hle,hMM,hy,hbe,hK⟩=>?_
 subst he
 intro a' hA
 refine h a' w' M' v lb' lr' hle (λb o hb=>(hMM b o hb).imp id λh=>Nat.le_trans hs.pr.size h) hK (hs.back hle hMM hy hbe hA)
end
section
variable {n:Nat} {E:World} {bw:List Nat} {M:Mem} {w:World} {a:Act} {env:Env} {bs:List Bx} {rs:List Rw}
theorem Nd.perm {bs bs':List Bx} {rs rs':List Rw} (h:Nd bs rs) (hb:bs.Perm bs') (hr:rs.Perm rs'):Nd bs' rs':=
 ⟨(hb.map _).nodup_iff.1 h.b,λx hx r hr'=>h.x x (hb.mem_iff.2 hx) r (hr.mem_iff.2 hr'),(List.Perm.pairwise_iff (λh g hg hg'=>h g hg' hg) hr).1 h.r⟩
theorem Sx.perm {bs':List Bx} {rs':List Rw} (h:Sx n E bw M w a env bs rs) (hb:bs.Perm bs') (hr:rs.Perm rs'):Sx n E bw M w a env bs' rs':=
 ⟨h.ag,h.on,h.pr,λx hx=>h.bx x (hb.mem_iff.2 hx),λr hx=>h.rw r (hr.mem_iff.2 hx),h.nd.perm hb hr⟩
theorem perm_front {α:Type}:∀(l:List α) (i:Nat) (x:α),l[i]?=some x->l.Perm (x::l.eraseIdx i)
 |[],i,x,h=>by simp at h
 |y::r,0,x,h=>by simp at h;subst h;exact List.Perm.refl _
 |y::r,i+1,x,h=>by
  simp only[List.getElem?_cons_succ]at h
  simp only[List.eraseIdx_cons_succ]
  exact(List.Perm.cons y (perm_front r i x h)).trans (List.Perm.swap x y _)
theorem Sx.bfront (h:Sx n E bw M w a env bs rs) (i:Nat) {x:Bx} (hi:bs[i]?=some x) {l:List Bx} (hl:bs.eraseIdx i=l):Sx n E bw M w a env (x::l) rs:=by
 subst hl;exact h.perm (perm_front bs i x hi) (List.Perm.refl _)
theorem perm_back {α:Type}:∀(l:List α) (i:Nat) (x:α),i<=l.length->(x::l).Perm (l.insertIdx i x)
 |l,0,x,_=>by simp
 |[],i+1,x,h=>by simp at h
 |y::r,i+1,x,h=>by
  rw[List.insertIdx_succ_cons]
  exact(List.Perm.swap y x r).trans (List.Perm.cons y (perm_back r i x (by simpa using h)))
theorem insert_le {α:Type} {l l':List α} {i:Nat} {x:α} (h:l.insertIdx i x=l') (hl:l'.length=l.length+1):i<=l.length:=by
 rcases Nat.lt_or_ge l.length i with h'|h'
 ·rw[List.insertIdx_of_length_lt h']at h
  subst h;omega
 ·exact h'
theorem Sx.bback {x:Bx} {l:List Bx} (h:Sx n E bw M w a env (x::l) rs) (i:Nat) {l':List Bx} (hl:l.insertIdx i x=l') (hn:l'.length=l.length+1:=by rfl):Sx n E bw M w a env l' rs:=by
 have:=insert_le hl hn
 subst hl;exact h.perm (perm_back l i x this) (List.Perm.refl _)
end
def CallF (P:Program) (fv:Value) (args:List Value) (M:Mem) (K:Value->Mem->Prop):Prop:=
 ∃f fn first caps,fv= .func (.func f) first caps/\P.funcs[f]?=some fn/\fn.body.isNone=false/\(fn.name== "runtime.NumGoroutine")=false/\CallE P f (first.toList++args++caps.toList).toArray M K
theorem CallF.mono {P:Program} {fv:Value} {args:List Value} {M:Mem} {K K':Value->Mem->Prop} (h:CallF P fv args M K) (hK:∀v M',M.le M'->K v M'->K' v M'):CallF P fv args M K':=by
 obtain⟨f,fn,first,caps,h1,h2,h3,h4,h5⟩:=h
 exact⟨f,fn,first,caps,h1,h2,h3,h4,h5.mono hK⟩
section
variable {P:Program} {ops:Array Oper} {Q:Exit->Act->World->Prop} {n:Nat} {E:World} {bw:List Nat} {M:Mem} {w:World} {a:Act} {env:Env} {bs:List Bx} {rs:List Rw} {rest:List Oper}
theorem stepCallG {d:Nat} {ty:TypeId} {c:Call} {pos:String} {af:Array Edge} {K:Value->Prop} {fv:Value} (args:List Value) (hs:Sx n E bw M w a env bs rs)
  (hk:okOp env ⟨some d,.call c,ty,pos,af,none⟩=true) (hcal:∃x,c.callee= .value x/\evT env x=fv) (hargs:c.args.toList.map (evT env)=args) (hdn:d<n)
  (hc:CallF P fv args M λv _=>K v)
  (h:∀a' w' v,K v->Sx n E bw M w' a' ((d,v)::env) bs rs->wpList P ops Q rest a' w'):wpList P ops Q (⟨some d,.call c,ty,pos,af,none⟩::rest) a w:=by
 obtain⟨f,fn,first,caps,rfl,hf,hbody,hname,hc⟩:=hc
 exact stepCallP _ hs hk hcal (by rw[hargs]) hf hbody hname hdn hc h
end
end Go.Gx

namespace Go.Gx
open Go.RowKit
def bytesV (l:List UInt8):List Value:=l.map λc=>Value.int .u8 (c.toNat:Int)
section
variable {P:Program} {ops:Array Oper} {Q:Exit->Act->World->Prop} {n:Nat} {E:World} {bw:List Nat} {M:Mem} {w:World} {a:Act} {env:Env} {bs:List Bx} {rs:List Rw} {rest:List Oper}
end
section
variable {P:Program} {env:Env} {M:Mem} {bs:List Bx} {rs:List Rw} {d:Option Tmp} {ty:TypeId} {pos:String} {af:Array Edge} {gd:Option (Nat×Bool)}
theorem run_bytes_str {w:World} {src dst e:TypeId} {A:Option Addr} {c:Nat} {l:List UInt8} (hs:P.underlying src=some (.slice e)) (he:P.underlying e=some (.int .u8)) (hd:P.underlying dst=some .string)
  (hA:A=none->l=[]) (hc:∀ad,A=some ad->∀j v,(bytesV l)[j]?=some v->w.cell? (ad.add j)=some v):(convert src dst (.slice A l.length c)).run P w= .ok (.string (mkS l)) w:=by
 cases A with
 |none=>
  have:=hA rfl
  subst this
  rw[run_convert_bytes_string w src dst e none _ c hs he hd]
  rfl
 |some ad=>
  exact run_convert_bytes_back w src dst e ad c l hs he hd λj hj=>hc ad rfl j _ (by simp[bytesV,hj])
theorem Yl.bytesV {src dst e:TypeId} {x:Operand} {A:Option Addr} {k c:Nat} {l:List UInt8} (hk:known env x=true) (hx:evT env x= .slice A k c) (hs:P.underlying src=some (.slice e)) (he:P.underlying e=some (.int .u8)) (hd:P.underlying dst=some .string)
  (h:SlV M A k c 1 (bytesV l)) (hl:l.length=k):Yl P env M bs rs ⟨d,.convert src dst x,ty,pos,af,gd⟩ (.string (mkS l)):=by
 subst hl
 refine⟨by simp[okOp,notSel,Op.operands,hk],λw hc=>?_⟩
 rcases Nat.eq_zero_or_pos l.length with h0|h0
 ·have hl:l=[]:=List.eq_nil_of_length_eq_zero h0
  subst hl
  have:=run_bytes_str (P:=P) (w:=w) (A:=A) (c:=c) (l:=[]) hs he hd (λ_=>rfl) (λad _ j v hj=>by simp[Gx.bytesV]at hj)
  simp only[execOp,hx,Sem.run_bind,this,Result.andThen_ok];rfl
 ·obtain⟨b,o,rfl,hat⟩:=h.2.2.2 h0
  have:=run_bytes_str (P:=P) (w:=w) (A:=some ⟨b,o,none⟩) (c:=c) (l:=l) hs he hd (λh=>by cases h) (λad had j v hj=>by cases had;rw[add_lit];exact hc.on.cell (hat j v hj))
  simp only[execOp,hx,Sem.run_bind,this,Result.andThen_ok];rfl
theorem Yl.bytesR (i:Nat) {src dst e':TypeId} {x:Operand} {v:Value} {e k:Nat} {ow:Bool} {l:List UInt8} (hi:rs[i]?=some ⟨v,e,1,k,Gx.bytesV l,ow⟩) (hk:known env x=true) (hx:evT env x=v) (hs:P.underlying src=some (.slice e')) (he:P.underlying e'=some (.int .u8)) (hd:P.underlying dst=some .string):
  Yl P env M bs rs ⟨d,.convert src dst x,ty,pos,af,gd⟩ (.string (mkS l)):=by
 refine⟨by simp[okOp,notSel,Op.operands,hk],λw hc=>?_⟩
 obtain⟨base,g1⟩:=hc.rw _ (List.mem_of_getElem? hi)
 simp only at g1
 obtain⟨ad,cap,he',_,_,hf⟩:=ownsRow_form g1
 subst he'
 have hkl:l.length=k:=by have:=g1.1;simp[Gx.bytesV]at this;exact this
 subst hkl
 have:(convert src dst (.slice ad l.length cap)).run P w= .ok (.string (mkS l)) w:=by
  refine run_bytes_str hs he hd (λhn=>?_) (λa' ha j v hj=>?_)
  ·rcases hf with⟨_,h0,_⟩|⟨g,hg⟩
   ·exact List.eq_nil_of_length_eq_zero h0
   ·rw[hn]at hg;cases hg
  ·rcases hf with⟨hn,_,_⟩|⟨g,hg⟩
   ·rw[hn]at ha;cases ha
   ·rw[hg]at ha;cases ha
    subst hg
    exact g1.cells (g:=g) rfl j v hj
 simp only[execOp,hx,Sem.run_bind,this,Result.andThen_ok];rfl
end
theorem putAt_map {α:Type} (f:α->Value) (zs:List α) (k:Nat) (z:α) (h:k<zs.length):putAt (zs.map f) k [f z]=(zs.set k z).map f:=by
 unfold putAt
 rw[List.set_eq_take_append_cons_drop,if_pos h]
 simp[List.map_take,List.map_drop]
theorem Yl.loadBA {P:Program} {env:Env} {M:Mem} {bs:List Bx} {rs:List Rw} {d:Option Tmp} {ty:TypeId} {pos:String} {af:Array Edge} {gd:Option (Nat×Bool)} {t:TypeId} {x:Operand} {b:Nat} {q:IntKind} {zs ys:List Int} (i:Nat) {bt:TypeId} (hi:bs[i]?=some ⟨b,bt,zs.map (Value.int q)⟩) (hk:known env x=true) (hx:evT env x= .pointer (some ⟨b,0,none⟩))
  (hv:Value.agg (ys.map (Value.int q)).toArray=Value.agg (ys.map (Value.int q)).toArray) (ht:tyOk P t true ys.length=true) (hz:zs=ys):Yl P env M bs rs ⟨d,.load t x,ty,pos,af,gd⟩ (.agg (ys.map (Value.int q)).toArray):=by
 subst hz
 have:=Yl.loadB (P:=P) (env:=env) (M:=M) (bs:=bs) (rs:=rs) (d:=d) (ty:=ty) (pos:=pos) (af:=af) (gd:=gd) (vs:=zs.map (Value.int q)) (k:=0) true i hi hk hx (by simpa using ht) (by rw[List.drop_zero,List.take_of_length_le (Nat.le_refl _)])
 have e:ofCells true (zs.map (Value.int q))= .agg (zs.map (Value.int q)).toArray:=by cases zs<;>rfl
 rw[e]at this
 exact this
section
variable {P:Program} {ops:Array Oper} {Q:Exit->Act->World->Prop} {n:Nat} {E:World} {bw:List Nat} {M:Mem} {w:World} {a:Act} {env:Env} {bs:List Bx} {rs:List Rw} {rest:List Oper}
theorem stepStoreBA (i:Nat) {t ty:TypeId} {p x:Operand} {pos:String} {af:Array Edge} {b:Nat} {bt:TypeId} {q:IntKind} {zs ys:List Int} (hs:Sx n E bw M w a env bs rs) (hi:bs[i]?=some ⟨b,bt,zs.map (Value.int q)⟩) (hkp:known env p=true) (hkx:known env x=true)
  (hp:evT env p= .pointer (some ⟨b,0,none⟩)) (hx:evT env x= .agg (ys.map (Value.int q)).toArray) (hn:(P.info? t).map (·.size)=some ys.length) (hl:zs.length=ys.length)
  (h:∀a' w',Sx n E bw M w' a' env (bs.set i ⟨b,bt,ys.map (Value.int q)⟩) rs->wpList P ops Q rest a' w'):wpList P ops Q (⟨none,.store t p x,ty,pos,af,none⟩::rest) a w:=by
 refine stepStoreB i (vs:=ys.map (Value.int q)) hs hi hkp hkx hp hx rfl (by simpa using hn) (by simp[hl]) (by simp[Value.oneCell']) λa' w' hs'=>?_
 have:putAt (zs.map (Value.int q)) 0 (ys.map (Value.int q))=ys.map (Value.int q):=by simp[putAt,hl,List.drop_of_length_le]
 rw[this]at hs'
 exact h a' w' hs'
theorem stepStoreBD (i:Nat) {t ty:TypeId} {p x:Operand} {pos:String} {af:Array Edge} {b k:Nat} {bt:TypeId} {q:IntKind} {zs:List Int} {z:Int} (hs:Sx n E bw M w a env bs rs) (hi:bs[i]?=some ⟨b,bt,zs.map (Value.int q)⟩) (hkp:known env p=true) (hkx:known env x=true)
  (hp:evT env p= .pointer (some ⟨b,k,none⟩)) (hx:evT env x= .int q z) (hn:(P.info? t).map (·.size)=some 1) (hfit:k<zs.length)
  (h:∀a' w',Sx n E bw M w' a' env (bs.set i ⟨b,bt,(zs.set k z).map (Value.int q)⟩) rs->wpList P ops Q rest a' w'):wpList P ops Q (⟨none,.store t p x,ty,pos,af,none⟩::rest) a w:=by
 refine stepStoreB i (vs:=[.int q z]) hs hi hkp hkx hp hx rfl hn (by simp only[List.length_map,List.length_cons,List.length_nil];omega) rfl λa' w' hs'=>?_
 rw[putAt_map (Value.int q) zs k z hfit]at hs'
 exact h a' w' hs'
end
end Go.Gx

namespace Go.Gx
open Go.RowKit Go.ChangeShapes
def HM (w:World):Mem:=λb=>w.heap[b]?
theorem HM.on (w:World):On (HM w) w:=λ_ _ h=>h
theorem HM.cell {w:World} {b i:Nat} {v:Value} (h:w.cell? ⟨b,i,none⟩=some v):(HM w).cell b i=some v:=by
 unfold World.cell? at h
 unfold Mem.cell HM
 simp only at h ⊢
 split at h
 ·rename_i hq
  rw[hq]
  simpa using h
 ·cases h
theorem cell_spot {w:World} {a:Addr} {v:Value} (h:w.cell? a=some v):a=⟨a.block,a.off,none⟩:=by
 unfold World.cell? at h
 split at h
 ·split at h
  ·cases h
  ·rename_i hs
   obtain⟨b,o,s⟩:=a
   cases s<;>simp_all
 ·cases h
def All2 {α β:Type} (R:α->β->Prop):List α->List β->Prop
 |[],cs=>cs=[]
 |a::as1,cs=>∃b bs,cs=b::bs/\R a b/\All2 R as1 bs
theorem All2.append {α β:Type} {R:α->β->Prop}:∀{as1 as':List α} {bs bs':List β},All2 R as1 bs->All2 R as' bs'->All2 R (as1++as') (bs++bs')
 |[],_,_,_,h,k=>by cases h;exact k
 |_::_,_,_,_,⟨b,bs,h1,h2,h3⟩,k=>by subst h1;exact⟨b,_,rfl,h2,h3.append k⟩
theorem All2.length {α β:Type} {R:α->β->Prop}:∀{as1:List α} {bs:List β},All2 R as1 bs->bs.length=as1.length
 |[],_,h=>by cases h;rfl
 |_::_,_,⟨_,_,h1,_,h3⟩=>by subst h1;simp[h3.length]
theorem All2.mono {α β:Type} {R R':α->β->Prop} (hR:∀a b,R a b->R' a b):∀{as1:List α} {bs:List β},All2 R as1 bs->All2 R' as1 bs
 |[],_,h=>h
 |_::_,_,⟨b,bs,h1,h2,h3⟩=>⟨b,bs,h1,hR _ _ h2,h3.mono hR⟩
inductive Leaf
 |int (k:IntKind)
 |bool
 |str
 |ptr (t e:TypeId)
 |sl (t e:TypeId)
def catF (P:Program) (g:TypeId->Option (List Leaf)):Nat->List Field->Option (List Leaf)
 |_,[]=>some []
 |o,f::r=>if f.offset=o then(g f.type).bind λm=>if m.length=P.cellsOf f.type then(catF P g (o+m.length) r).map (m++·) else none else none
def leaves (P:Program):Nat->TypeId->Option (List Leaf)
 |0,_=>none
 |n+1,t=>match P.underlying t with
  |some .bool=>some [.bool]
  |some (.int k)=>some [.int k]
  |some .string=>some [.str]
  |some (.pointer e)=>some [.ptr t e]
  |some (.slice e)=>some [.sl t e]
  |some (.struct fs)=>(catF P (leaves P n) 0 fs.toList).bind λl=>if l.length=P.cellsOf t then some l else none
  |some (.array k e)=>(leaves P n e).bind λm=>if m.length=P.cellsOf e/\k*m.length=P.cellsOf t then some (List.replicate k m).flatten else none
  |_=>none
section
variable {H:Type} {enc:TypeId×Value->H} {P:Program} {w:World}
theorem cells_at {a:Addr} {n:Nat} {cs:List Value} (h:w.cells? 0 a n=some cs) (hn:0<n):a=⟨a.block,a.off,none⟩/\∀j v,cs[j]?=some v->(HM w).cell a.block (a.off+j)=some v:=by
 obtain⟨_,hl,hc⟩:=World.cells?_some h
 have h0:=hc 0 hn
 have hs:a=⟨a.block,a.off,none⟩:=by
  rw[Addr.add,if_pos rfl,List.getElem?_eq_getElem (by omega)]at h0
  exact cell_spot h0
 refine⟨hs,λj v hj=>HM.cell ?_⟩
 have:=hc j (by have:=(List.getElem?_eq_some_iff.1 hj).1;omega)
 rw[hj,hs,add_lit]at this
 exact this
theorem trodAll_below (hl:laidOutB P=true) {W W':World} (hb:Below W.heap.size W W'):∀{ts:List TypeId} {vs:List Value} {ds:List (DataW H)} {ps:List MemPlace},(ts.all λt=>P.readableRec t&&decide (t<P.types.size))=true->
  DataW.TrodAll enc P W 0 (λ_=>true) true ts vs ds ps->DataW.TrodAll enc P W' 0 (λb=>decide (b<W.heap.size)) true ts vs ds ps
 |[],_,_,_,_,h=>by
  obtain⟨rfl,rfl,rfl⟩:=trodAll_nil h
  exact trodAll_mk0
 |t::ts,_,_,_,hr,h=>by
  simp only[List.all_cons,Bool.and_eq_true,decide_eq_true_eq]at hr
  obtain⟨v,vs,d,ds,p,q,rfl,rfl,rfl,h1,h2⟩:=trodAll_cons h
  have hlt:∀x∈p,x.block<W.heap.size:=by
   obtain⟨m,hm⟩:=h1
   exact DataW.trod_lt m _ _ _ hm
  exact trodAll_cons_mk (Below.trod hl hr.1.1 hr.1.2 h1 hb hlt) (trodAll_below hl hb (by simpa using hr.2) h2)
end
theorem flat_part {α:Type} {f:α->List Value} {sz:Nat}:∀(es:List α) (_:∀e∈es,(f e).length=sz) (i:Nat) (e:α),es[i]?=some e->(((es.map f).flatten).drop (i*sz)).take (f e).length=f e
 |[],_,i,e,h=>by simp at h
 |a::r,hf,0,e,h=>by
  simp only[List.getElem?_cons_zero,Option.some.injEq]at h;subst h
  simp
 |a::r,hf,i+1,e,h=>by
  simp only[List.getElem?_cons_succ]at h
  have ha:=hf a (by simp)
  have:=flat_part r (λe he=>hf e (by simp[he])) i e h
  simp only[List.map_cons,List.flatten_cons]
  rw[Nat.succ_mul,List.drop_append,List.drop_of_length_le (by omega),List.nil_append,ha,Nat.add_sub_cancel]
  exact this
theorem SlV.elem {α:Type} {f:α->List Value} {M:Mem} {A:Option Addr} {l c sz:Nat} {es:List α} (h:SlV M A l c sz ((es.map f).flatten)) (hl:es.length=l) (hf:∀e∈es,(f e).length=sz) {i:Nat} {e:α} (he:es[i]?=some e):
  ∃b o,A=some ⟨b,o,none⟩/\At M b (o+i*sz) (f e):=by
 have hi:i<es.length:=(List.getElem?_eq_some_iff.1 he).1
 obtain⟨b,o,ha,hat⟩:=h.2.2.2 (by omega)
 exact⟨b,o,ha,hat.part (i*sz) (f e) (flat_part es hf i e he)⟩
end Go.Gx

namespace Go.Gx
open Go.RowKit
def cl {α:Type} (f:α->List Value) (xs:List α):List Value:=(xs.map f).flatten
section
variable {α:Type} {f:α->List Value}
theorem cl_one (x:α):cl f [x]=f x:=by simp[cl]
theorem cl_cons (x:α) (xs:List α):cl f (x::xs)=f x++cl f xs:=by simp[cl]
theorem cl_append (xs ys:List α):cl f (xs++ys)=cl f xs++cl f ys:=by simp[cl]
theorem cl_snoc (xs:List α) (x:α):cl f xs++f x=cl f (xs++[x]):=by simp[cl]
theorem cl_length {sz:Nat} (hf:∀x,(f x).length=sz):∀xs:List α,(cl f xs).length=xs.length*sz
 |[]=>by simp[cl]
 |x::r=>by rw[cl_cons,List.length_append,hf,cl_length hf r,List.length_cons,Nat.succ_mul];omega
theorem cl_drop {sz:Nat} (hf:∀x,(f x).length=sz):∀(k:Nat) (xs:List α),(cl f xs).drop (k*sz)=cl f (xs.drop k)
 |0,xs=>by simp
 |k+1,[]=>by simp[cl]
 |k+1,x::r=>by
  rw[cl_cons,List.drop_succ_cons,<-cl_drop hf k r,Nat.succ_mul,Nat.add_comm,<-List.drop_drop]
  congr 1
  rw[<-hf x];simp
theorem cl_one' (hf:∀x,∀u∈f x,u.oneCell'=true) (xs:List α):∀u∈cl f xs,u.oneCell'=true:=by
 intro u hu
 simp only[cl,List.mem_flatten,List.mem_map]at hu
 obtain⟨l,⟨x,_,rfl⟩,hu⟩:=hu
 exact hf x u hu
theorem cl_Cs {sz:Nat} (hf:∀x,(f x).length=sz) {xs:List α} {i:Nat} {x:α} (h:xs[i]?=some x):Cs (cl f xs) (0+i*sz) (f x):=by
 unfold Cs
 rw[Nat.zero_add]
 exact flat_part xs (λx _=>hf x) i x h
theorem SlV.at {M:Mem} {A:Option Addr} {l c sz:Nat} {xs:List α} (h:SlV M A l c sz (cl f xs)) (hf:∀x,(f x).length=sz) (hl:xs.length=l) {i:Nat} {x:α} (hx:xs[i]?=some x):∃b o,A=some ⟨b,o,none⟩/\At M b (o+i*sz) (f x):=
 SlV.elem h hl (λx _=>hf x) hx
theorem SlV.len {M:Mem} {A:Option Addr} {l c sz:Nat} {xs:List α} (h:SlV M A l c sz (cl f xs)) (hf:∀x,(f x).length=sz) (h0:0<sz):xs.length=l:=by
 have:=h.1
 rw[cl_length hf]at this
 exact Nat.eq_of_mul_eq_mul_right h0 this
theorem SlV.max {M:Mem} {A:Option Addr} {l c sz:Nat} {xs:List Value} (h:SlV M A l c sz xs):l<=9223372036854775807:=by
 have h1:=h.2.1
 have h2:=h.2.2.1
 unfold maxLen at h2
 omega
theorem SlV.rest {M:Mem} {A:Option Addr} {l c sz:Nat} {xs:List Value} (h:SlV M A l c sz xs) (k:Nat) (hk:k<=l):SlV M (slA A k c sz) (l-k) (c-k) sz (xs.drop (k*sz)):=by
 obtain⟨h1,h2,h3,h4⟩:=h
 refine⟨by rw[List.length_drop,h1,Nat.sub_mul],by omega,by omega,λh0=>?_⟩
 obtain⟨b,o,rfl,ha⟩:=h4 (by omega)
 refine⟨b,o+k*sz,?_,?_⟩
 ·unfold slA
  rw[if_neg (by omega)]
  simp[add_lit]
 ·intro j v hj
  rw[List.getElem?_drop]at hj
  have:=ha _ _ hj
  rw[<-Nat.add_assoc]at this
  exact this
theorem SlV.first {M:Mem} {A:Option Addr} {l c sz:Nat} {xs:List Value} (h:SlV M A l c sz xs) (k:Nat) (hk:k<=l):SlV M A k c sz (xs.take (k*sz)):=by
 obtain⟨h1,h2,h3,h4⟩:=h
 have hle:k*sz<=l*sz:=Nat.mul_le_mul_right _ hk
 refine⟨by rw[List.length_take,h1];omega,by omega,by omega,λh0=>?_⟩
 obtain⟨b,o,rfl,ha⟩:=h4 (by omega)
 refine⟨b,o,rfl,λj v hj=>ha j v ?_⟩
 rw[List.getElem?_take]at hj
 split at hj
 ·exact hj
 ·cases hj
end
section
variable {α β:Type} {R:α->β->Prop}
theorem All2.get:∀{as1:List α} {bs:List β},All2 R as1 bs->∀{i:Nat} {a:α},as1[i]?=some a->∃b,bs[i]?=some b/\R a b
 |[],_,_,i,a,h=>by simp at h
 |_::_,_,⟨b,bs,h1,h2,h3⟩,0,a,h=>by simp at h;subst h;subst h1;exact⟨b,rfl,h2⟩
 |_::_,_,⟨b,bs,h1,h2,h3⟩,i+1,a,h=>by
  subst h1
  obtain⟨c,hc,hr⟩:=h3.get (by simpa using h)
  exact⟨c,by simpa using hc,hr⟩
theorem All2.get' {as1:List α} {bs:List β} (h:All2 R as1 bs) {i:Nat} {a:α} {b:β} (ha:as1[i]?=some a) (hb:bs[i]?=some b):R a b:=by
 obtain⟨c,hc,hr⟩:=h.get ha
 rw[hb]at hc;cases hc;exact hr
theorem All2.of:∀{as1:List α} {bs:List β},bs.length=as1.length->(∀(i:Nat) a b,as1[i]?=some a->bs[i]?=some b->R a b)->All2 R as1 bs
 |[],bs,hl,_=>List.eq_nil_of_length_eq_zero (by simpa using hl)
 |a::as1,[],hl,_=>by simp at hl
 |a::as1,b::bs,hl,h=>⟨b,bs,rfl,h 0 a b rfl rfl,All2.of (by simpa using hl) λi x y hx hy=>h (i+1) x y (by simpa using hx) (by simpa using hy)⟩
theorem All2.drop {as1:List α} {bs:List β} (h:All2 R as1 bs) (k:Nat):All2 R (as1.drop k) (bs.drop k):=
 All2.of (by simp[h.length]) λi a b ha hb=>h.get' (i:=k+i) (by simpa using ha) (by simpa using hb)
theorem All2.take {as1:List α} {bs:List β} (h:All2 R as1 bs) (k:Nat):All2 R (as1.take k) (bs.take k):=
 All2.of (by simp[h.length]) λi a b ha hb=>by
  rw[List.getElem?_take]at ha hb
  split at ha
  ·rename_i hk;rw[if_pos hk]at hb;exact h.get' ha hb
  ·cases ha
theorem All2.snoc {as1:List α} {bs:List β} (h:All2 R as1 bs) {a:α} {b:β} (hr:R a b):All2 R (as1++[a]) (bs++[b]):=h.append ⟨b,[],rfl,hr,rfl⟩
theorem All2.choose {R:α->β->Prop}:∀(bs:List β),(∀b∈bs,∃a,R a b)->∃as1,All2 R as1 bs
 |[],_=>⟨[],rfl⟩
 |b::bs,h=>by
  obtain⟨a,ha⟩:=h b (by simp)
  obtain⟨as1,has⟩:=All2.choose bs λx hx=>h x (by simp[hx])
  exact⟨a::as1,b,bs,rfl,ha,has⟩
end
theorem getI {α:Type} {l:List α} {i:Int} (h0:0<=i) (h1:i<(l.length:Int)):∃x,l[i.toNat]?=some x:=⟨l[i.toNat]'(by omega),List.getElem?_eq_getElem _⟩
theorem getN {α:Type} {l:List α} {i:Nat} (h1:i<l.length):∃x,l[i]?=some x:=⟨l[i]'(by omega),List.getElem?_eq_getElem _⟩
theorem drop_get {α:Type} {l:List α} {i:Nat} {x:α} (h:l[i]?=some x):l.drop i=x::l.drop (i+1):=by
 obtain⟨hl,hx⟩:=List.getElem?_eq_some_iff.1 h
 rw[List.drop_eq_getElem_cons hl,hx]
theorem take_get {α:Type} {l:List α} {i:Nat} {x:α} (h:l[i]?=some x):l.take (i+1)=l.take i++[x]:=by
 obtain⟨hl,hx⟩:=List.getElem?_eq_some_iff.1 h
 rw[List.take_succ_eq_append_getElem hl,hx]
structure Sl3 where
 a:Option Addr
 l:Nat
 c:Nat
section
variable {P:Program} {ops:Array Oper} {Q:Exit->Act->World->Prop} {n:Nat} {E:World} {bw:List Nat} {M:Mem} {w:World} {a:Act} {env:Env} {bs:List Bx} {rs:List Rw} {rest:List Oper} {o:Oper}
theorem sP (v:Value) {d:Nat} (hs:Sx n E bw M w a env bs rs) (h:∀a',Sx n E bw M w a' ((d,v)::env) bs rs->wpList P ops Q rest a' w)
  (hg:o.guard=none:=by rfl) (hd:o.dst=some d:=by rfl) (hdn:d<n:=by decide) (hk:okOp env o=true:=by rfl) (hr:∀w,(execOp (evT env) o).run P w= .ok (.value v) w:=by intro _;kernel_rfl):wpList P ops Q (o::rest) a w:=
 stepY v hs hg hd hdn (Yl.pure hk hr) h
theorem sY (v:Value) {d:Nat} (hs:Sx n E bw M w a env bs rs) (hy:Yl P env M bs rs o v) (h:∀a',Sx n E bw M w a' ((d,v)::env) bs rs->wpList P ops Q rest a' w)
  (hg:o.guard=none:=by rfl) (hd:o.dst=some d:=by rfl) (hdn:d<n:=by decide):wpList P ops Q (o::rest) a w:=
 stepY v hs hg hd hdn hy h
theorem sNo {j t d:Nat} {b c:Bool} (hs:Sx n E bw M w a env bs rs) (h:∀a',Sx n E bw M w a' ((d,undef)::env) bs rs->wpList P ops Q rest a' w) (hg:o.guard=some (j,b):=by rfl) (ht:(ops[j]?).bind (·.dst)=some t:=by rfl) (hl:lk env t=some (.bool c):=by rfl) (hne:(c==b)=false:=by rfl)
  (hd:o.dst=some d:=by rfl) (hdn:d<n:=by decide):wpList P ops Q (o::rest) a w:=step_no hs hg ht hl hne hd hdn h
theorem sNu {j t d:Nat} {b:Bool} (hs:Sx n E bw M w a env bs rs) (h:∀a',Sx n E bw M w a' ((d,undef)::env) bs rs->wpList P ops Q rest a' w) (hg:o.guard=some (j,b):=by rfl) (ht:(ops[j]?).bind (·.dst)=some t:=by rfl) (hl:lk env t=some undef:=by rfl)
  (hd:o.dst=some d:=by rfl) (hdn:d<n:=by decide):wpList P ops Q (o::rest) a w:=step_nou hs hg ht hl hd hdn h
theorem sYe {j t:Nat} {b:Bool} (hs:Sx n E bw M w a env bs rs) (h:wpList P ops Q ({o with guard:=none}::rest) a w) (hg:o.guard=some (j,b):=by rfl) (ht:(ops[j]?).bind (·.dst)=some t:=by rfl) (hl:lk env t=some (.bool b):=by rfl):wpList P ops Q (o::rest) a w:=step_yes hs hg ht hl h
end
section
variable {P:Program} {ops:Array Oper} {Q:Exit->Act->World->Prop} {M0:Mem} {bs0:List Bx} {rs0:List Rw} {keep:List Bool} {n:Nat} {E:World} {bw:List Nat} {M:Mem} {w:World} {a:Act} {env:Env} {bs:List Bx} {rs:List Rw} {o:Oper} {fuel:Nat} {listed:Array Bool}
theorem dP (v:Value) (i:Nat) (A:List Nat) {d:Nat} (hs:Sx n E bw M w a env bs rs) (hQ:QZ Q) (hw:Region.wanted o (yielded ops a.tmps)=true) (h:∀a',Sx n E bw M w a' ((d,v)::env) bs rs->WpD P ops Q (Cx M0 bs0 rs0) keep fuel (listed.setIfInBounds i true) a' w)
  (ho:ops[i]?=some o:=by rfl) (hd:o.dst=some d:=by rfl) (hdn:d<n:=by decide) (hsel:Region.noSelect ops=true:=by kernel_rfl) (hr:(Region.ready .any ops listed).contains i=true:=by kernel_rfl) (hf:freeB ops keep listed i A true=true:=by kernel_rfl)
  (hk:okOp env o=true:=by rfl) (hy:∀w,(execOp (evT env) o).run P w= .ok (.value v) w:=by intro _;kernel_rfl):WpD P ops Q (Cx M0 bs0 rs0) keep (fuel+1) listed a w:=
 stepDP v i A hs hQ ho hw hd hdn hsel hr hf (Yl.pure hk hy) h
theorem dN (i:Nat) (A:List Nat) {d:Nat} (hs:Sx n E bw M w a env bs rs) (hQ:QZ Q) (hw:Region.wanted o (yielded ops a.tmps)=false) (h:∀a',Sx n E bw M w a' ((d,undef)::env) bs rs->WpD P ops Q (Cx M0 bs0 rs0) keep fuel (listed.setIfInBounds i true) a' w)
  (ho:ops[i]?=some o:=by rfl) (hd:o.dst=some d:=by rfl) (hdn:d<n:=by decide) (hsel:Region.noSelect ops=true:=by kernel_rfl) (hr:(Region.ready .any ops listed).contains i=true:=by kernel_rfl) (hf:freeB ops keep listed i A true=true:=by kernel_rfl):WpD P ops Q (Cx M0 bs0 rs0) keep (fuel+1) listed a w:=
 stepDN i A hs hQ ho hw hd hdn hsel hr hf h
end
section
variable {P:Program} {ops:Array Oper} {Q:Exit->Act->World->Prop} {n:Nat} {E:World} {bw:List Nat} {M:Mem} {w:World} {a:Act} {env:Env} {bs:List Bx} {rs:List Rw} {rest:List Oper}
abbrev pt (b k:Nat):Value:=.pointer (some ⟨b,k,none⟩)
abbrev iv (x:Int):Value:=.int .i64 x
theorem Yl.lB (vs:List Value) (g:Bool) (i:Nat) {d:Option Tmp} {t ty:TypeId} {x:Operand} {pos:String} {af:Array Edge} {gd:Option (Nat×Bool)} {b k:Nat} {cs:List Value} {bt:TypeId} (hi:bs[i]?=some ⟨b,bt,cs⟩:=by rfl) (hk:known env x=true:=by rfl) (hx:evT env x= .pointer (some ⟨b,k,none⟩):=by rfl)
  (ht:tyOk P t g vs.length=true:=by kernel_rfl) (hvs:(cs.drop k).take vs.length=vs:=by rfl):Yl P env M bs rs ⟨d,.load t x,ty,pos,af,gd⟩ (ofCells g vs):=Yl.loadB g i hi hk hx ht hvs
theorem stB (i:Nat) (vs:List Value) (bs':List Bx) {t ty:TypeId} {p x:Operand} {pos:String} {af:Array Edge} {b k:Nat} {bt:TypeId} {cs:List Value} {v:Value} (hs:Sx n E bw M w a env bs rs)
  (h:∀a' w',Sx n E bw M w' a' env bs' rs->wpList P ops Q rest a' w') (hi:bs[i]?=some ⟨b,bt,cs⟩:=by rfl) (hkp:known env p=true:=by rfl) (hkx:known env x=true:=by rfl)
  (hp:evT env p= .pointer (some ⟨b,k,none⟩):=by rfl) (hx:evT env x=v:=by rfl) (hc:v.cells=vs.toArray:=by rfl) (hn:(P.info? t).map (·.size)=some vs.length:=by kernel_rfl) (hfit:k+vs.length<=cs.length:=by exact Nat.le_of_ble_eq_true rfl) (h1:vs.all (·.oneCell')=true:=by rfl)
  (hb:bs.set i ⟨b,bt,putAt cs k vs⟩=bs':=by rfl):wpList P ops Q (⟨none,.store t p x,ty,pos,af,none⟩::rest) a w:=
 stepStoreB i hs hi hkp hkx hp hx hc hn hfit h1 λa' w' hs'=>h a' w' (hs'.chbx hb)
theorem lvE (K:Value->Prop) {fn:Func} {M0:Mem} {v:Value} (hs:Sx n E [] M w a env bs rs) (hr:(results fn a.tmps).run P w= .ok v w) (hM:∀b o,M b=some o->M0 b=some o\/E.heap.size<=b) (hK:K v):
  a.defers=[]/\∃v,(results fn a.tmps).run P w= .ok v w/\Below E.heap.size E w/\K v:=leaveE (K:=λv _=>K v) hs hr hM λ_ _=>hK
end
theorem bsS {n:Nat} {E:World} {bw:List Nat} {M:Mem} {w:World} {a:Act} {env:Env} {bs:List Bx} {rs:List Rw} {d:Nat} {b:Bool} {p A B G:Prop} (hp:b=true↔p) (hs:Sx n E bw M w a ((d,.bool b)::env) bs rs) (hS:(p->A)/\(¬p->B)) (h1:Sx n E bw M w a ((d,.bool true)::env) bs rs->A->G) (h2:Sx n E bw M w a ((d,.bool false)::env) bs rs->B->G):G:=
 bsplit b hp (λhb hc=>h1 (hs.bt hb) (hS.1 hc)) (λhb hc=>h2 (hs.bf hb) (hS.2 hc))
theorem Wp.cS {P:Program} {N:Act->World->Prop} {X:List (Nat×(Act->World->Prop))} {R:Act->World->Prop} {Z:List PanicEntry->Act->World->Prop} {a:Act} {w:World} {n:Nat} {E:World} {bw:List Nat} {M:Mem} {env:Env} {bs:List Bx} {rs:List Rw} {c:Operand} {x y:Code} {b:Bool} {p A B:Prop} (hs:Sx n E bw M w a env bs rs)
  (hp:b=true↔p) (hS:(p->A)/\(¬p->B)) (h1:A->Wp P x N X R Z a w) (h2:B->Wp P y N X R Z a w) (hk:known env c=true:=by rfl) (hc:evT env c= .bool b:=by rfl):Wp P (.cond c x y) N X R Z a w:=
 Wp.cond hs hk hc hp (λhc=>h1 (hS.1 hc)) (λhc=>h2 (hS.2 hc))
section
variable {P:Program} {ops:Array Oper} {Q:Exit->Act->World->Prop} {M0:Mem} {bs0:List Bx} {rs0:List Rw} {keep:List Bool} {w:World} {a:Act} {o:Oper} {fuel:Nat} {listed:Array Bool}
theorem sE (i:Nat)
  (h:wpList P #[] (λe a' w'=>match e with
   | .normal=>(keep.getD i false=true->Cx M0 bs0 rs0 w->Cx M0 bs0 rs0 w')/\WpD P ops Q (Cx M0 bs0 rs0) keep fuel (listed.setIfInBounds i true) a' w'
   | .panic c=>Q (.panic c) a' w'
   |_=>False) [{o with guard:=none}] a w) (ho:ops[i]?=some o:=by rfl) (hw:Region.wanted o (yielded ops a.tmps)=true:=by exact wanted_none rfl) (hr:Region.ready .any ops listed=[i]:=by kernel_rfl):WpD P ops Q (Cx M0 bs0 rs0) keep (fuel+1) listed a w:=
 stepDE i ho hw hr #[] h
end
section
variable {P:Program} {ops:Array Oper} {Q:Exit->Act->World->Prop} {n:Nat} {E:World} {bw:List Nat} {M:Mem} {w:World} {a:Act} {env:Env} {bs:List Bx} {rs:List Rw} {rest:List Oper}
theorem Yl.wr {o:Oper} {z:Int} (hI:InI z) (hk:okOp env o=true:=by rfl) (hr:∀w,(execOp (evT env) o).run P w= .ok (.value (Value.int .i64 (IntKind.wrap .i64 z))) w:=by intro _;kernel_rfl):Yl P env M bs rs o (.int .i64 z):=
 Yl.eq (Yl.pure hk hr) (congrArg (Value.int .i64) (wrap_in hI))
theorem Yl.lV (vs:List Value) (g:Bool) {d:Option Tmp} {t ty:TypeId} {x:Operand} {pos:String} {af:Array Edge} {gd:Option (Nat×Bool)} {b k:Nat} (h:At M b k vs) (hk:known env x=true:=by rfl) (hx:evT env x= .pointer (some ⟨b,k,none⟩):=by rfl)
  (ht:tyOk P t g vs.length=true:=by kernel_rfl):Yl P env M bs rs ⟨d,.load t x,ty,pos,af,gd⟩ (ofCells g vs):=Yl.loadV g hk hx ht h
theorem Yl.iS (e sz:Nat) {d:Option Tmp} {t ty:TypeId} {x i:Operand} {pos:String} {af:Array Edge} {gd:Option (Nat×Bool)} {b k l c:Nat} {ik:IntKind} {n:Int} {ad:Option Addr} (had:ad=some ⟨b,k,none⟩) (h0:0<=n) (hl:n<l) (hkx:known env x=true:=by rfl) (hki:known env i=true:=by rfl)
  (hx:evT env x= .slice ad l c:=by rfl) (hi:evT env i= .int ik n:=by rfl) (hu:P.underlying t=some (.slice e):=by kernel_rfl) (hn:(P.info? e).map (·.size)=some sz:=by kernel_rfl):
  Yl P env M bs rs ⟨d,.indexAddr t x i,ty,pos,af,gd⟩ (.pointer (some ⟨b,k+n.toNat*sz,none⟩)):=Yl.indexS hkx hki hx hi hu hn had h0 hl
theorem cP (args:List Value) {d f:Nat} {ty:TypeId} {c:Call} {pos:String} {af:Array Edge} {fn:Func} {K:Value->Prop} {first caps:Array Value} (hs:Sx n E bw M w a env bs rs) (hf:P.funcs[f]?=some fn) (hc:CallE P f args.toArray M λv _=>K v)
  (h:∀a' w' v,K v->Sx n E bw M w' a' ((d,v)::env) bs rs->wpList P ops Q rest a' w') (hk:okOp env ⟨some d,.call c,ty,pos,af,none⟩=true:=by rfl) (hcal:∃x,c.callee= .value x/\evT env x= .func (.func f) first caps:=by exact⟨_,rfl,rfl⟩) (hargs:first.toList++c.args.toList.map (evT env)++caps.toList=args:=by rfl)
  (hbody:fn.body.isNone=false:=by rfl) (hname:(fn.name== "runtime.NumGoroutine")=false:=by kernel_rfl) (hdn:d<n:=by decide):wpList P ops Q (⟨some d,.call c,ty,pos,af,none⟩::rest) a w:=stepCallP args hs hk hcal hargs hf hbody hname hdn hc h
theorem cE (args:List Value) {d f:Nat} {ty:TypeId} {c:Call} {pos:String} {af:Array Edge} {fn:Func} {K:Value->Mem->Prop} {first caps:Array Value} (hs:Sx n E bw M w a env bs rs) (hf:P.funcs[f]?=some fn) (hc:CallE P f args.toArray M K)
  (h:∀a' w' M' v,M.le M'->(∀b o,M' b=some o->M b=some o\/E.heap.size<=b)->K v M'->Sx n E bw M' w' a' ((d,v)::env) bs rs->wpList P ops Q rest a' w') (hk:okOp env ⟨some d,.call c,ty,pos,af,none⟩=true:=by rfl) (hcal:∃x,c.callee= .value x/\evT env x= .func (.func f) first caps:=by exact⟨_,rfl,rfl⟩)
  (hargs:first.toList++c.args.toList.map (evT env)++caps.toList=args:=by rfl) (hbody:fn.body.isNone=false:=by rfl) (hname:(fn.name== "runtime.NumGoroutine")=false:=by kernel_rfl) (hdn:d<n:=by decide):wpList P ops Q (⟨some d,.call c,ty,pos,af,none⟩::rest) a w:=stepCallE args hs hk hcal hargs hf hbody hname hdn hc h
end
section
variable {P:Program} {ops ops1:Array Oper} {Q:Exit->Act->World->Prop} {M0:Mem} {bs0:List Bx} {rs0:List Rw} {keep:List Bool} {n j:Nat} {E:World} {bw:List Nat} {M:Mem} {w:World} {a:Act} {env:Env} {bs:List Bx} {rs:List Rw} {o:Oper} {fuel:Nat} {listed:Array Bool}
theorem wN (h:WpD P ops Q (Cx M0 bs0 rs0) keep fuel listed a w):wpList P ops1 (λe a' w'=>match e with
   | .normal=>(keep.getD j false=true->Cx M0 bs0 rs0 w->Cx M0 bs0 rs0 w')/\WpD P ops Q (Cx M0 bs0 rs0) keep fuel listed a' w'
   | .panic c=>Q (.panic c) a' w'
   |_=>False) [] a w:=wpList_nil ⟨λ_ h=>h,h⟩
theorem wF {w0:World} (h:WpD P ops Q (Cx M0 bs0 rs0) keep fuel listed a w) (hk:keep.getD j false=false:=by decide):wpList P ops1 (λe a' w'=>match e with
   | .normal=>(keep.getD j false=true->Cx M0 bs0 rs0 w0->Cx M0 bs0 rs0 w')/\WpD P ops Q (Cx M0 bs0 rs0) keep fuel listed a' w'
   | .panic c=>Q (.panic c) a' w'
   |_=>False) [] a w:=wpList_nil ⟨λh=>(by rw[hk]at h;cases h),h⟩
theorem nE (i:Nat) (h:wpList P #[] (λe a' w'=>match e with
   | .normal=>(keep.getD i false=true->Cx M0 bs0 rs0 w->Cx M0 bs0 rs0 w')/\WpD P ops Q (Cx M0 bs0 rs0) keep fuel (listed.setIfInBounds i true) a' w'
   | .panic c=>Q (.panic c) a' w'
   |_=>False) [{o with guard:=none}] a w) (ho:ops[i]?=some o:=by rfl) (hw:Region.wanted o (yielded ops a.tmps)=true:=by exact wanted_none rfl) (hr:Region.ready .any ops listed=[i]:=by kernel_rfl):wpList P ops1 (λe a' w'=>match e with
   | .normal=>(keep.getD j false=true->Cx M0 bs0 rs0 w->Cx M0 bs0 rs0 w')/\WpD P ops Q (Cx M0 bs0 rs0) keep (fuel+1) listed a' w'
   | .panic c=>Q (.panic c) a' w'
   |_=>False) [] a w:=wN (sE i h ho hw hr)
theorem dD (h:Q .normal a w) (hr:Region.ready .any ops listed=[]:=by kernel_rfl):WpD P ops Q (Cx M0 bs0 rs0) keep fuel listed a w:=WpD.done hr h fuel
theorem dCy (v:Value) (i:Nat) (A:List Nat) {d j t:Nat} {b:Bool} (hs:Sx n E bw M w a env bs rs) (hC:Cx M0 bs0 rs0 w) (ho:ops[i]?=some o) (hy:Yl P env M0 bs0 rs0 o v) (h:∀a',Sx n E bw M w a' ((d,v)::env) bs rs->WpD P ops Q (Cx M0 bs0 rs0) keep fuel (listed.setIfInBounds i true) a' w)
  (hQ:QZ Q:=by exact QZ.no) (hg:o.guard=some (j,b):=by rfl) (ht:(ops[j]?).bind (·.dst)=some t:=by rfl) (hl:lk env t=some (.bool b):=by rfl) (hd:o.dst=some d:=by rfl) (hdn:d<n:=by decide) (hsel:Region.noSelect ops=true:=by kernel_rfl) (hr:(Region.ready .any ops listed).contains i=true:=by kernel_rfl) (hf:freeB ops keep listed i A false=true:=by kernel_rfl):WpD P ops Q (Cx M0 bs0 rs0) keep (fuel+1) listed a w:=
 stepDY v i A hs hC hQ ho (wanted_yes hs hg ht hl) hd hdn hsel hr hf hy h
theorem dA (v:Value) (i:Nat) (A:List Nat) {d:Nat} (hs:Sx n E bw M w a env bs rs) (h:∀a',Sx n E bw M w a' ((d,v)::env) bs rs->WpD P ops Q (Cx M0 bs0 rs0) keep fuel (listed.setIfInBounds i true) a' w)
  (hQ:QZ Q:=by exact QZ.no) (ho:ops[i]?=some o:=by rfl) (hg:o.guard=none:=by rfl) (hd:o.dst=some d:=by rfl) (hdn:d<n:=by decide) (hsel:Region.noSelect ops=true:=by kernel_rfl) (hr:(Region.ready .any ops listed).contains i=true:=by kernel_rfl) (hf:freeB ops keep listed i A true=true:=by kernel_rfl)
  (hk:okOp env o=true:=by rfl) (hy:∀w,(execOp (evT env) o).run P w= .ok (.value v) w:=by intro _;kernel_rfl):WpD P ops Q (Cx M0 bs0 rs0) keep (fuel+1) listed a w:=
 stepDP v i A hs hQ ho (wanted_none hg) hd hdn hsel hr hf (Yl.pure hk hy) h
theorem dF (v:Value) (i:Nat) (A:List Nat) {d:Nat} (hs:Sx n E bw M w a env bs rs) (ho:ops[i]?=some o) (hy:Yl P env (λ_=>Option.none) [] [] o v) (h:∀a',Sx n E bw M w a' ((d,v)::env) bs rs->WpD P ops Q (Cx M0 bs0 rs0) keep fuel (listed.setIfInBounds i true) a' w)
  (hQ:QZ Q:=by exact QZ.no) (hg:o.guard=none:=by rfl) (hd:o.dst=some d:=by rfl) (hdn:d<n:=by decide) (hsel:Region.noSelect ops=true:=by kernel_rfl) (hr:(Region.ready .any ops listed).contains i=true:=by kernel_rfl) (hf:freeB ops keep listed i A true=true:=by kernel_rfl):WpD P ops Q (Cx M0 bs0 rs0) keep (fuel+1) listed a w:=
 stepDP v i A hs hQ ho (wanted_none hg) hd hdn hsel hr hf hy h
theorem dC (v:Value) (i:Nat) (A:List Nat) {d:Nat} (hs:Sx n E bw M w a env bs rs) (hC:Cx M0 bs0 rs0 w) (ho:ops[i]?=some o) (hy:Yl P env M0 bs0 rs0 o v) (h:∀a',Sx n E bw M w a' ((d,v)::env) bs rs->WpD P ops Q (Cx M0 bs0 rs0) keep fuel (listed.setIfInBounds i true) a' w)
  (hQ:QZ Q:=by exact QZ.no) (hg:o.guard=none:=by rfl) (hd:o.dst=some d:=by rfl) (hdn:d<n:=by decide) (hsel:Region.noSelect ops=true:=by kernel_rfl) (hr:(Region.ready .any ops listed).contains i=true:=by kernel_rfl) (hf:freeB ops keep listed i A false=true:=by kernel_rfl):WpD P ops Q (Cx M0 bs0 rs0) keep (fuel+1) listed a w:=
 stepDY v i A hs hC hQ ho (wanted_none hg) hd hdn hsel hr hf hy h
end
end Go.Gx

namespace Go.Gx
open Go.RowKit
def idxB (s:List UInt8) (c:Int):Int:=match s.findIdx? (·==c.toNat.toUInt8)with
 |some i=>i
 |none=> -1
theorem find_same {p q:Nat->Bool}:∀{l:List Nat},(∀i∈l,p i=q i)->l.find? p=l.find? q
 |[],_=>rfl
 |a::r,h=>by rw[List.find?_cons,List.find?_cons,h a (by simp),find_same λi hi=>h i (by simp[hi])]
theorem find_range (l:List UInt8) (c:UInt8):(List.range l.length).find? (λi=>l.getD i 0==c)=l.findIdx? (·==c):=by
 cases h:l.findIdx? (·==c)with
 |none=>
  rw[List.findIdx?_eq_none_iff]at h
  rw[List.find?_eq_none]
  intro i hi
  have hl:=List.mem_range.1 hi
  have:=h l[i] (List.getElem_mem hl)
  simpa[List.getD,List.getElem?_eq_getElem hl]using this
 |some i=>
  rw[List.findIdx?_eq_some_iff_getElem]at h
  obtain⟨hl,hi,hlt⟩:=h
  rw[List.find?_range_eq_some]
  refine⟨by simpa[List.getD,List.getElem?_eq_getElem hl]using hi,List.mem_range.2 hl,λj hj=>?_⟩
  have:=hlt j hj
  simpa[List.getD,List.getElem?_eq_getElem (Nat.lt_trans hj hl)]using this
theorem firstIdx_is (l:List UInt8) (c:Int):firstIdx (mkS l) c.toNat.toUInt8=idxB l c:=by
 unfold firstIdx idxB
 have e:(List.range (mkS l).size).find? (λi=>(mkS l)[i]! ==c.toNat.toUInt8)=(List.range l.length).find? (λi=>l.getD i 0==c.toNat.toUInt8):=by
  have hsz:(mkS l).size=l.length:=rfl
  rw[hsz]
  refine find_same λi hi=>?_
  have hl:=List.mem_range.1 hi
  have h1:(mkS l)[i]! =l[i]:=getElem!_pos (mkS l) i hl
  rw[h1]
  simp[List.getD,List.getElem?_eq_getElem hl]
 rw[e,find_range]
 cases l.findIdx? (·==c.toNat.toUInt8)<;>rfl
theorem idxB_cases (s:List UInt8) (c:UInt8):(idxB s c.toNat= -1/\∀(i:Nat) x,s[i]?=some x->x≠c)\/∃i:Nat,idxB s c.toNat=i/\s[i]?=some c/\∀(j:Nat) x,j<i->s[j]?=some x->x≠c:=by
 have hc:(c.toNat:Int).toNat.toUInt8=c:=by simp
 unfold idxB
 rw[hc]
 cases h:s.findIdx? (·==c)with
 |none=>
  left
  rw[List.findIdx?_eq_none_iff]at h
  refine⟨rfl,λi x hx=>?_⟩
  have:=h x (List.mem_of_getElem? hx)
  simpa using this
 |some i=>
  right
  rw[List.findIdx?_eq_some_iff_getElem]at h
  obtain⟨hl,hi,hlt⟩:=h
  refine⟨i,rfl,by rw[List.getElem?_eq_getElem hl];simpa using hi,λj x hj hx=>?_⟩
  have:=hlt j hj
  obtain⟨_,rfl⟩:=List.getElem?_eq_some_iff.1 hx
  simpa using this
section
variable {P:Program} {env:Env} {M:Mem} {bs:List Bx} {rs:List Rw} {d:Option Tmp} {ty:TypeId} {pos:String} {af:Array Edge} {gd:Option (Nat×Bool)}
theorem Yl.ext {f:Nat} {c:Call} {fn:Func} {e:Array Value->Sem Value} {v:Value} (args:List Value) (hk:okOp env ⟨d,.call c,ty,pos,af,gd⟩=true) (hcal:∃x,c.callee= .value x/\evT env x= .func (.func f) #[] #[]) (hargs:c.args.toList.map (evT env)=args)
  (hf:P.funcs[f]?=some fn) (hbody:fn.body.isNone=true) (hname:(fn.name== "runtime.NumGoroutine")=false) (hn:(Extern.findNext fn).isNone=true) (he:Extern.find fn=some e) (hr:∀w,(e args.toArray).run P w= .ok v w):Yl P env M bs rs ⟨d,.call c,ty,pos,af,gd⟩ v:=by
 refine⟨hk,λw _=>?_⟩
 obtain⟨x,hcal,hx⟩:=hcal
 have ha:c.args.map (evT env)=args.toArray:=by rw[<-hargs];apply Array.ext';simp
 have hname':¬fn.name= "runtime.NumGoroutine":=beq_eq_false_iff_ne.1 hname
 have hbody':fn.body=none:=by simpa using hbody
 have hn':Extern.findNext fn=none:=by simpa using hn
 simp[execOp,resolve,hcal,hx,Deferred.ofValue,invoke,callFunc,hf,hbody',hname',hn',he,ha,hr]
theorem Yl.idxByte {f:Nat} {c:Call} {fn:Func} {l:List UInt8} {z:Int} (hk:okOp env ⟨d,.call c,ty,pos,af,gd⟩=true) (hcal:∃x,c.callee= .value x/\evT env x= .func (.func f) #[] #[]) (hargs:c.args.toList.map (evT env)=[.string (mkS l),.int .u8 z])
  (hf:P.funcs[f]?=some fn) (hbody:fn.body.isNone=true) (hname:(fn.name== "runtime.NumGoroutine")=false) (hn:(Extern.findNext fn).isNone=true) (he:Extern.find fn=some Extern.BytealgIndexByte.indexByte):Yl P env M bs rs ⟨d,.call c,ty,pos,af,gd⟩ (.int .i64 (idxB l z)):=
 Yl.ext _ hk hcal hargs hf hbody hname hn he λw=>by rw[<-firstIdx_is];exact run_indexByte_string _ _ _
end
end Go.Gx

namespace Go.Gx
open Go.RowKit
section
variable {P:Program} {ops:Array Oper} {Q:Exit->Act->World->Prop} {n:Nat} {E:World} {bw:List Nat} {M:Mem} {w:World} {a:Act} {env:Env} {bs:List Bx} {rs:List Rw} {rest:List Oper}
theorem On.hm (h:On M w):M.le (HM w):=λb o hb=>h b o hb
theorem Sx.peek (hs:Sx n E bw M w a env bs rs) (i:Nat) {A:Option Addr} {l c e size:Nat} {xs:List Value} {ow:Bool} (hi:rs[i]?=some ⟨.slice A l c,e,size,l,xs,ow⟩):SlV (HM w) A l c size xs:=by
 obtain⟨g1,_⟩:=hs.rw _ (List.mem_of_getElem? hi)
 obtain⟨ad,cap,he,hc1,hc2,h2⟩:=ownsRow_form g1
 simp only[Value.slice.injEq]at he
 obtain⟨rfl,_,rfl⟩:=he
 refine⟨g1.1,hc1,hc2,λh0=>?_⟩
 rcases h2 with⟨_,h3,_⟩|⟨g,rfl⟩
 ·simp only at h3;omega
 ·refine⟨g,0,rfl,λj v hj=>HM.cell ?_⟩
  have:=g1.cells (g:=g) rfl j v hj
  rw[add_lit]at this
  exact this
theorem stepCallPr {d f:Nat} {ty:TypeId} {c:Call} {pos:String} {af:Array Edge} {fn:Func} {K:Value->Prop} {first caps:Array Value} (args:List Value) (hs:Sx n E bw M w a env bs rs)
  (hk:okOp env ⟨some d,.call c,ty,pos,af,none⟩=true) (hcal:∃x,c.callee= .value x/\evT env x= .func (.func f) first caps) (hargs:first.toList++c.args.toList.map (evT env)++caps.toList=args) (hf:P.funcs[f]?=some fn) (hbody:fn.body.isNone=false) (hname:(fn.name== "runtime.NumGoroutine")=false) (hdn:d<n)
  (hc:CallE P f args.toArray (HM w) λv _=>K v)
  (h:∀a' w' v,K v->Sx n E bw M w' a' ((d,v)::env) bs rs->wpList P ops Q rest a' w'):wpList P ops Q (⟨some d,.call c,ty,pos,af,none⟩::rest) a w:=by
 refine stepK (Z:=λ_ _=>False) (d:=d) hs (λ_ _ h=>h.elim) rfl hk rfl hdn ?_
 unfold OpW
 rw[run_call args hcal hargs hf hbody hname]
 refine(hc w (HM.on w)).mono λe w' ⟨v,he,hb,hK⟩=>?_
 subst he
 intro a' hA
 exact h a' w' v hK ((hs.later hb (hs.on.later hb) (λ_ _=>rfl)).act hA)
end
end Go.Gx

namespace Go.Gx
open Go.RowKit Go.ChangeShapes
mutual
def dBulk {H:Type}:DataW H->Nat
 | .lit (.string bytes)=>bytes.length+1
 | .lit _=>1
 | .nil=>1
 | .ptr d=>dBulk d+1
 | .slice elems spare=>dBulks elems+dBulks spare+1
 | .agg parts=>dBulks parts+1
 | .iface _ d=>dBulk d+1
 | .map entries=>dBulkEs entries+1
 | .held _=>1
def dBulks {H:Type}:List (DataW H)->Nat
 |[]=>0
 |d::r=>dBulk d+dBulks r
def dBulkEs {H:Type}:List (Lit×DataW H)->Nat
 |[]=>0
 |x::r=>dBulkE x+dBulkEs r
def dBulkE {H:Type}:Lit×DataW H->Nat
 |(.string bytes,d)=>bytes.length+dBulk d+1
 |(_,d)=>dBulk d+1
end
theorem dBulk_pos {H:Type} (d:DataW H):1<=dBulk d:=by
 cases d with
 |lit l=>cases l<;>simp[dBulk]
 |nil=>simp[dBulk]
 |ptr d=>simp[dBulk]
 |slice elems spare=>simp[dBulk]
 |agg parts=>simp[dBulk]
 |iface t d=>simp[dBulk]
 |map entries=>simp[dBulk]
 |held h=>simp[dBulk]
section
variable {H:Type} {enc:TypeId×Value->H} {P:Program} {w:World}
def LeafB (enc:TypeId×Value->H) (P:Program) (w:World) (fuel B:Nat):Leaf->Value->Prop
 | .int k,v=>1<=B/\∃z,v= .int k z/\(Lit.int k z).wf=true
 | .bool,v=>1<=B/\∃b,v= .bool b
 | .str,v=>∃l,v= .string (mkS l)/\l.length<=maxLen/\l.length+1<=B
 | .ptr t e,v=>P.underlying t=some (.pointer e)/\∃n x,n<=fuel/\dBulk x.1<=B/\DataW.trod enc P w 0 (λ_=>true) true n t [v]=some x
 | .sl t e,v=>P.underlying t=some (.slice e)/\∃n x,n<=fuel/\dBulk x.1<=B/\DataW.trod enc P w 0 (λ_=>true) true n t [v]=some x
theorem LeafB.mono {a b B C:Nat} (h:a<=b) (hB:B<=C) (l:Leaf) (v:Value) (k:LeafB enc P w a B l v):LeafB enc P w b C l v:=by
 cases l with
 |ptr t e=>obtain⟨h0,n,x,h1,h2,h3⟩:=k;exact⟨h0,n,x,Nat.le_trans h1 h,Nat.le_trans h2 hB,h3⟩
 |sl t e=>obtain⟨h0,n,x,h1,h2,h3⟩:=k;exact⟨h0,n,x,Nat.le_trans h1 h,Nat.le_trans h2 hB,h3⟩
 |int k'=>exact⟨Nat.le_trans k.1 hB,k.2⟩
 |bool=>exact⟨Nat.le_trans k.1 hB,k.2⟩
 |str=>obtain⟨l,h1,h2,h3⟩:=k;exact⟨l,h1,h2,Nat.le_trans h3 hB⟩
def LvB (enc:TypeId×Value->H) (P:Program) (w:World) (fuel:Nat):Nat->List Leaf->List Value->Prop
 |_,[],cs=>cs=[]
 |B,l::ls,cs=>∃b c v vs,b+c<=B/\cs=v::vs/\LeafB enc P w fuel b l v/\LvB enc P w fuel c ls vs
theorem LvB.mono {a b:Nat} (h:a<=b):∀{ls:List Leaf} {B C:Nat} {cs:List Value},B<=C->LvB enc P w a B ls cs->LvB enc P w b C ls cs
 |[],_,_,_,_,k=>k
 |_::_,_,_,_,hB,⟨x,y,v,vs,h1,h2,h3,h4⟩=>⟨x,y,v,vs,Nat.le_trans h1 hB,h2,h3.mono h (Nat.le_refl _) _ _,h4.mono h (Nat.le_refl _)⟩
theorem LvB.append {n:Nat}:∀{ls ls':List Leaf} {B C:Nat} {cs cs':List Value},LvB enc P w n B ls cs->LvB enc P w n C ls' cs'->LvB enc P w n (B+C) (ls++ls') (cs++cs')
 |[],_,_,_,_,_,h,k=>by cases h;exact k.mono (Nat.le_refl _) (Nat.le_add_left _ _)
 |_::_,_,_,_,_,_,⟨x,y,v,vs,h1,h2,h3,h4⟩,k=>by subst h2;exact⟨x,_,v,_,by omega,rfl,h3,h4.append k⟩
theorem LvB.length {n:Nat}:∀{ls:List Leaf} {B:Nat} {cs:List Value},LvB enc P w n B ls cs->cs.length=ls.length
 |[],_,_,h=>by cases h;rfl
 |_::_,_,_,⟨_,_,_,_,_,h2,_,h4⟩=>by subst h2;simp[h4.length]
theorem trod_leavesB:∀(n fuel:Nat) (t:TypeId) (cs:List Value) (x:DataW H×List MemPlace) (ls:List Leaf),leaves P n t=some ls->DataW.trod enc P w 0 (λ_=>true) true fuel t cs=some x->LvB enc P w fuel (dBulk x.1) ls cs
 |0,_,_,_,_,_,h,_=>by cases h
 |n+1,fuel,t,cs,x,ls,h,hx=>by
  unfold leaves at h
  split at h
  ·rename_i hu
   simp only[Option.some.injEq]at h;subst h
   obtain⟨b,rfl,_⟩:=DataW.trod_bool hu hx
   exact⟨dBulk x.1,0,_,_,by omega,rfl,⟨dBulk_pos _,b,rfl⟩,rfl⟩
  ·rename_i k hu
   simp only[Option.some.injEq]at h;subst h
   obtain⟨z,rfl,_,hw⟩:=DataW.trod_int hu hx
   exact⟨dBulk x.1,0,_,_,by omega,rfl,⟨dBulk_pos _,z,rfl,hw⟩,rfl⟩
  ·rename_i hu
   simp only[Option.some.injEq]at h;subst h
   obtain⟨s,rfl,hxe,hl⟩:=DataW.trod_string hu hx
   subst hxe
   exact⟨s.data.toList.length+1,0,_,_,by simp[dBulk],rfl,⟨s.data.toList,by rw[<-mkS_eta],by simpa using hl,Nat.le_refl _⟩,rfl⟩
  ·rename_i e hu
   simp only[Option.some.injEq]at h;subst h
   have:∃v,cs=[v]:=by
    rcases DataW.trod_pointer hu hx with⟨rfl,_⟩|⟨a,cs',y,m,_,rfl,_⟩<;>exact⟨_,rfl⟩
   obtain⟨v,rfl⟩:=this
   exact⟨dBulk x.1,0,v,[],by omega,rfl,⟨hu,fuel,x,Nat.le_refl _,Nat.le_refl _,hx⟩,rfl⟩
  ·rename_i e hu
   simp only[Option.some.injEq]at h;subst h
   have:∃v,cs=[v]:=by
    rcases DataW.trod_slice hu hx with⟨rfl,_⟩|⟨a,len,cap,elems,rest,m,_,rfl,_⟩<;>exact⟨_,rfl⟩
   obtain⟨v,rfl⟩:=this
   exact⟨dBulk x.1,0,v,[],by omega,rfl,⟨hu,fuel,x,Nat.le_refl _,Nat.le_refl _,hx⟩,rfl⟩
  ·rename_i fs hu
   simp only[Option.bind_eq_some_iff]at h
   obtain⟨l,hl,h⟩:=h
   split at h
   ·rename_i hlen
    simp only[Option.some.injEq]at h;subst h
    obtain⟨xs,m,rfl,rfl,hcl,hxl,hf⟩:=DataW.trod_struct hu hx
    have key:∀(gs:List Field) (o:Nat) (l':List Leaf) (ys:List (DataW H×List MemPlace)),catF P (leaves P n) o gs=some l'->(∀(i:Nat) (f:Field),gs[i]?=some f->DataW.trod enc P w 0 (λ_=>true) true m f.type ((cs.drop f.offset).take (P.cellsOf f.type))=ys[i]?)->gs.length=ys.length->o+l'.length=cs.length->LvB enc P w (m+1) (dBulks (ys.map (·.1))) l' (cs.drop o):=by
     intro gs
     induction gs with
     |nil=>
      intro o l' ys h _ _ ho
      simp only[catF,Option.some.injEq]at h;subst h
      simp only[List.length_nil,Nat.add_zero]at ho
      exact List.drop_of_length_le (by omega)
     |cons f r ih=>
      intro o l' ys h hall hyl ho
      simp only[catF]at h
      split at h
      ·rename_i hoff
       simp only[Option.bind_eq_some_iff]at h
       obtain⟨a,ha,h⟩:=h
       split at h
       ·rename_i hal
        simp only[Option.map_eq_some_iff]at h
        obtain⟨l2,h2,rfl⟩:=h
        cases ys with
        |nil=>simp at hyl
        |cons y ys=>
         have hy:=hall 0 f rfl
         have r1:=(trod_leavesB n m f.type _ y a ha hy).mono (b:=m+1) (by omega) (Nat.le_refl _)
         rw[hoff,<-hal]at r1
         simp only[List.length_append]at ho
         have r2:=ih (o+a.length) l2 ys h2 (λi g hg=>hall (i+1) g (by simpa using hg)) (by simpa using hyl) (by omega)
         have e:cs.drop o=(cs.drop o).take a.length++cs.drop (o+a.length):=by
          rw[<-List.drop_drop];exact(List.take_append_drop _ _).symm
         rw[e]
         simp only[List.map_cons,dBulks]
         exact r1.append r2
       ·cases h
      ·cases h
    have:=key fs.toList 0 l xs hl (λi f hi=>hf i f (by simpa using hi)) (by simpa using hxl.symm) (by omega)
    rw[List.drop_zero]at this
    exact this.mono (Nat.le_refl _) (by simp only[dBulk];omega)
   ·cases h
  ·rename_i k e hu
   simp only[Option.bind_eq_some_iff]at h
   obtain⟨a,ha,h⟩:=h
   split at h
   ·rename_i hc
    simp only[Option.some.injEq]at h;subst h
    obtain⟨xs,m,rfl,rfl,hcl,hxl,hf⟩:=DataW.trod_array hu hx
    have key:∀(j i:Nat) (ys:List (DataW H×List MemPlace)),i+j=k->xs.drop i=ys->LvB enc P w (m+1) (dBulks (ys.map (·.1))) (List.replicate j a).flatten (cs.drop (i*a.length)):=by
     intro j
     induction j with
     |zero=>
      intro i ys hi _
      simp only[List.replicate_zero,List.flatten_nil]
      have:i=k:=by omega
      subst this
      exact List.drop_of_length_le (by omega)
     |succ j ih=>
      intro i ys hi hys
      simp only[List.replicate_succ,List.flatten_cons]
      have hlt:i<xs.length:=by omega
      have r1:=(trod_leavesB n m e _ xs[i] a ha ((hf i (by omega)).trans (List.getElem?_eq_getElem hlt))).mono (b:=m+1) (by omega) (Nat.le_refl _)
      rw[<-hc.1]at r1
      have r2:=ih (i+1) _ (by omega) rfl
      have e':cs.drop (i*a.length)=(cs.drop (i*a.length)).take a.length++cs.drop ((i+1)*a.length):=by
       rw[Nat.succ_mul,<-List.drop_drop];exact(List.take_append_drop _ _).symm
      rw[e',<-hys,List.drop_eq_getElem_cons hlt]
      simp only[List.map_cons,dBulks]
      exact r1.append r2
    have:=key k 0 xs (by omega) rfl
    rw[Nat.zero_mul,List.drop_zero]at this
    exact this.mono (Nat.le_refl _) (by simp only[dBulk];omega)
   ·cases h
  ·cases h
theorem open_slB {fuel B:Nat} {t e:TypeId} {v:Value} {ls:List Leaf} (m:Nat) (sz:Nat) (hls:leaves P m e=some ls) (hsz:P.cellsOf e=sz) (hl:ls.length=sz) (h0:0<sz) (h:LeafB enc P w fuel B (.sl t e) v):
  ∃A l c xss bs,v= .slice A l c/\SlV (HM w) A l c sz (List.flatten xss)/\xss.length=l/\l<=maxLen/\All2 (λcs b=>∃n,n<fuel/\LvB enc P w n b ls cs) xss bs/\bs.sum+1<=B:=by
 obtain⟨ht,n,x,hn,hB,hx⟩:=h
 rcases DataW.trod_slice ht hx with⟨hc,hxe⟩|⟨a,len,cap,elems,rest,n',rfl,hc,hxe,_,hlc,hcm,hel,hels,_⟩
 ·simp only[List.cons.injEq,and_true]at hc
  subst hc
  subst hxe
  exact⟨none,0,0,[],[],rfl,⟨by simp,Nat.le_refl _,by simp,λh=>by omega⟩,rfl,by simp,rfl,by simpa[dBulk]using hB⟩
 ·simp only[List.cons.injEq,and_true]at hc
  subst hc
  subst hxe
  have hex:∀i,(hi:i<len)->∃cs,w.cells? 0 (a.add (i*sz)) sz=some cs/\LvB enc P w n' (dBulk (elems[i]'(by omega)).1) ls cs:=by
   intro i hi
   have h1:=hels i hi
   rw[List.getElem?_eq_getElem (by omega),hsz]at h1
   simp only[Option.bind_eq_some_iff]at h1
   obtain⟨cs,h2,h3⟩:=h1
   exact⟨cs,h2,trod_leavesB m n' e cs _ ls hls h3⟩
  let f:Nat->List Value:=λi=>((w.cells? 0 (a.add (i*sz)) sz).getD [])
  have hf:∀i,(hi:i<len)->w.cells? 0 (a.add (i*sz)) sz=some (f i)/\(f i).length=sz/\LvB enc P w n' (dBulk (elems[i]'(by omega)).1) ls (f i):=by
   intro i hi
   obtain⟨cs,h2,h3⟩:=hex i hi
   have:f i=cs:=by simp[f,h2]
   rw[this]
   exact⟨h2,by rw[h3.length,hl],h3⟩
  have hflat:∀k,k<=len->(((List.range k).map f).flatten).length=k*sz:=by
   intro k
   induction k with
   |zero=>simp
   |succ k ih=>
    intro hk
    rw[List.range_succ,List.map_append,List.flatten_append,List.length_append,ih (by omega)]
    simp[(hf k (by omega)).2.1,Nat.succ_mul]
  have hget:∀k,k<=len->∀j v,(((List.range k).map f).flatten)[j]?=some v->∃i r,i<k/\r<sz/\j=i*sz+r/\(f i)[r]?=some v:=by
   intro k
   induction k with
   |zero=>intro _ j v hj;simp at hj
   |succ k ih=>
    intro hk j v hj
    rw[List.range_succ,List.map_append,List.flatten_append,List.getElem?_append,hflat k (by omega)]at hj
    split at hj
    ·obtain⟨i,r,h1,h2,h3,h4⟩:=ih (by omega) j v hj
     exact⟨i,r,by omega,h2,h3,h4⟩
    ·rename_i hge
     simp only[List.map_cons,List.map_nil,List.flatten_cons,List.flatten_nil,List.append_nil]at hj
     have:=(List.getElem?_eq_some_iff.1 hj).1
     rw[(hf k (by omega)).2.1]at this
     exact⟨k,j-k*sz,by omega,this,by omega,hj⟩
  have hsum:∀l:List (DataW H×List MemPlace),(l.map λx=>dBulk x.1).sum=dBulks (l.map (·.1)):=by
   intro l
   induction l with
   |nil=>rfl
   |cons x r ih=>simp only[List.map_cons,List.sum_cons,dBulks,ih]
  refine⟨some a,len,cap,(List.range len).map f,elems.map λx=>dBulk x.1,rfl,⟨hflat len (Nat.le_refl _),hlc,hcm,λhpos=>?_⟩,by simp,by omega,?_,?_⟩
  ·have hs0:=(cells_at (hf 0 hpos).1 h0).1
   rw[Nat.zero_mul,Addr.add,if_pos rfl]at hs0
   refine⟨a.block,a.off,by rw[<-hs0],λj v hj=>?_⟩
   obtain⟨i,r,h1,h2,rfl,h4⟩:=hget len (Nat.le_refl _) j v hj
   have h5:=(cells_at (hf i h1).1 h0).2 r v h4
   rw[hs0,add_lit]at h5
   rw[<-Nat.add_assoc]
   exact h5
  ·refine All2.of (by simp[hel]) λi cs b hc hb=>?_
   simp only[List.getElem?_map,Option.map_eq_some_iff]at hc hb
   obtain⟨j,hj,rfl⟩:=hc
   obtain⟨y,hy,rfl⟩:=hb
   obtain⟨hjl,rfl⟩:=List.getElem?_eq_some_iff.1 hj
   simp only[List.length_range]at hjl
   simp only[List.getElem_range]at*
   obtain⟨_,rfl⟩:=List.getElem?_eq_some_iff.1 hy
   exact⟨n',by omega,(hf i hjl).2.2⟩
  ·rw[hsum]
   simp only[dBulk]at hB
   omega
theorem typedB {α:Type} {f:α->List Value} {p:Nat->α->Prop}:∀(xss:List (List Value)) (bs:List Nat),All2 (λcs b=>∃e,cs=f e/\p b e) xss bs->∃es:List α,xss=es.map f/\All2 (λe b=>p b e) es bs
 |[],_,h=>by cases h;exact⟨[],rfl,rfl⟩
 |cs::r,_,⟨b,bs,h1,⟨e,he,hp⟩,h3⟩=>by
  subst h1;subst he
  obtain⟨es,rfl,hes⟩:=typedB r bs h3
  exact⟨e::es,rfl,b,bs,rfl,hp,hes⟩
theorem All2.left {α β:Type} {R:α->β->Prop}:∀{as1:List α} {bs:List β},All2 R as1 bs->∀a∈as1,∃b,R a b
 |[],_,_,a,h=>by cases h
 |x::_,_,⟨b,bs,h1,h2,h3⟩,a,h=>by
  rcases List.mem_cons.1 h with rfl|h
  ·exact⟨b,h2⟩
  ·exact h3.left a h
theorem LeafB.slice {fuel B:Nat} {t e:TypeId} {v:Value} (h:LeafB enc P w fuel B (.sl t e) v):∃A l c,v= .slice A l c/\LeafB enc P w fuel B (.sl t e) (.slice A l c):=by
 obtain⟨ht,n,x,hn,hB,hx⟩:=id h
 rcases DataW.trod_slice ht hx with⟨hc,_⟩|⟨a,len,cap,elems,rest,m,_,hc,_⟩
 ·simp only[List.cons.injEq,and_true]at hc;subst hc;exact⟨_,_,_,rfl,h⟩
 ·simp only[List.cons.injEq,and_true]at hc;subst hc;exact⟨_,_,_,rfl,h⟩
theorem LeafB.pointer {fuel B:Nat} {t e:TypeId} {v:Value} (h:LeafB enc P w fuel B (.ptr t e) v):∃p,v= .pointer p/\LeafB enc P w fuel B (.ptr t e) (.pointer p):=by
 obtain⟨ht,n,x,hn,hB,hx⟩:=id h
 rcases DataW.trod_pointer ht hx with⟨hc,_⟩|⟨a,cs',y,m,_,hc,_⟩
 ·simp only[List.cons.injEq,and_true]at hc;subst hc;exact⟨_,rfl,h⟩
 ·simp only[List.cons.injEq,and_true]at hc;subst hc;exact⟨_,rfl,h⟩
theorem argAggB {r:Reach} {b0:Nat} {t:TypeId} {fs:Array Field} {ls:List Leaf} {v:Value} {d:DataW H} {ps:List MemPlace} (m:Nat) (ht:P.underlying t=some (.struct fs)) (hls:leaves P m t=some ls) (hval:Value.okWide P w r b0 t v) (hd:DataW.Trod enc P w 0 (λ_=>true) true t v d ps):
  ∃cs fuel,v= .agg cs.toArray/\LvB enc P w fuel (dBulk d) ls cs:=by
 obtain⟨cs,rfl,_⟩:=WideShapes.okWide_struct ht hval
 obtain⟨fuel,hf⟩:=hd
 exact⟨cs.toList,fuel,rfl,trod_leavesB m fuel t _ _ ls hls (by simpa[Value.cells]using hf)⟩
end
end Go.Gx

namespace Go.Gx
open Go.RowKit
def Mem.put (M:Mem) (b o:Nat) (vs:List Value):Mem:=λx=>if x=b then(match M b with
 |some (.cells c t f)=>some (.cells (putAt c.toList o vs).toArray t f)
 |r=>r) else M x
def Mem.add (M:Mem) (b:Nat) (o:Obj):Mem:=λx=>if x=b then some o else M x
section
variable {P:Program} {ops:Array Oper} {Q:Exit->Act->World->Prop} {n:Nat} {E:World} {M M0:Mem} {L:Nat->Prop} {w:World} {a:Act} {env:Env} {bs:List Bx} {rs:List Rw} {rest:List Oper}
end
section
variable {P:Program} {env:Env} {M:Mem} {bs:List Bx} {rs:List Rw} {d:Option Tmp} {ty:TypeId} {pos:String} {af:Array Edge} {gd:Option (Nat×Bool)}
end
end Go.Gx

namespace Go.Gx
open Go.RowKit Go.Maps Go.WideMaps
section
variable {P:Program} {ops:Array Oper} {Q:Exit->Act->World->Prop} {n:Nat} {E:World} {M M0:Mem} {L:Nat->Prop} {w:World} {a:Act} {env:Env} {bs:List Bx} {rs:List Rw} {rest:List Oper}
variable {d:Option Tmp} {ty:TypeId} {pos:String} {af:Array Edge} {gd:Option (Nat×Bool)}
end
section
variable {P:Program} {fn:Func} {n:Nat} {E:World} {bw:List Nat} {M:Mem} {w:World} {a:Act} {env:Env} {bs:List Bx} {rs:List Rw}
end
end Go.Gx

namespace Go.Gx
open Go.RowKit
section
variable {P:Program} {N J:Act->World->Prop} {X:List (Nat×(Act->World->Prop))} {R:Act->World->Prop} {Z:List PanicEntry->Act->World->Prop} {a:Act} {w:World} {ops:Array Oper} {Q:Exit->Act->World->Prop}
theorem wn (h:Q .normal a w):wpList P ops Q [] a w:=h
theorem qs {x y:Code} (h:Wp P x (λa w=>Wp P y N X R Z a w) X R Z a w):Wp P (.seq x y) N X R Z a w:=Wp.seq h
theorem qg {id:Nat} {l:List Oper} (h:wpList P l.toArray (QQ N X R Z) l a w):Wp P (.region id l.toArray false) N X R Z a w:=Wp.region h
theorem qr {id:Nat} {l:List Oper} {y:Code} (h:wpList P l.toArray (QQ (λa w=>Wp P y N X R Z a w) X R Z) l a w):Wp P (.seq (.region id l.toArray false) y) N X R Z a w:=Wp.seq (Wp.region h)
theorem qk (h:N a w):Wp P .skip N X R Z a w:=Wp.skip h
theorem qt (h:R a w):Wp P .ret N X R Z a w:=Wp.ret h
theorem qb {id:Nat} {c:Code} (h:Wp P c N ((id,N)::X) R Z a w):Wp P (.block id c) N X R Z a w:=Wp.block h
theorem qx {id:Nat} {K:Act->World->Prop} (hx:lkX X id=some K) (h:K a w):Wp P (.exit id) N X R Z a w:=Wp.exit hx h
end
theorem SubE.of {env:Env}:∀{env':Env},(env'.map λp=>lk env p.1)=(env'.map λp=>some p.2)->SubE env env'
 |[],_=>trivial
 |p::r,h=>by
  simp only[List.map_cons,List.cons.injEq]at h
  exact⟨h.1,SubE.of h.2⟩
section
variable {P:Program} {ops:Array Oper} {Q:Exit->Act->World->Prop} {n:Nat} {E:World} {bw:List Nat} {M M0:Mem} {w:World} {a:Act} {env env':Env} {bs bs':List Bx} {rs rs':List Rw} {rest:List Oper} {o o1 o2 o3 o4 o5 o6:Oper}
theorem Sx.q (hs:Sx n E bw M w a env bs rs) (he:(env'.map λp=>lk env p.1)=(env'.map λp=>some p.2):=by rfl):Sx n E bw M w a env' bs rs:=hs.wk (SubE.of he)
theorem Sx.qq (hs:Sx n E bw M w a env bs rs) (hb:bs'.Sublist bs) (hr:rs'.Sublist rs) (he:(env'.map λp=>lk env p.1)=(env'.map λp=>some p.2):=by rfl):Sx n E bw M w a env' bs' rs':=hs.weak hb hr (SubE.of he)
structure Pq (P:Program) (n:Nat) (env:Env) (o:Oper) (d:Nat) (v:Value):Prop where
 g1:o.guard=none
 d1:o.dst=some d
 n1:d<n
 k1:okOp env o=true
 r1:∀w,(execOp (evT env) o).run P w= .ok (.value v) w
theorem Pq.s {d:Nat} {v:Value} (q:Pq P n env o d v) (hs:Sx n E bw M w a env bs rs) (h:∀a',Sx n E bw M w a' ((d,v)::env) bs rs->wpList P ops Q rest a' w):wpList P ops Q (o::rest) a w:=sP v hs h q.g1 q.d1 q.n1 q.k1 q.r1
theorem sP2 (v1 v2:Value) {d1 d2:Nat} (hs:Sx n E bw M w a env bs rs) (h:∀a',Sx n E bw M w a' ((d2,v2)::(d1,v1)::env) bs rs->wpList P ops Q rest a' w)
  (q1:Pq P n env o1 d1 v1:=by exact⟨rfl,rfl,by decide,rfl,by intro _;kernel_rfl⟩) (q2:Pq P n ((d1,v1)::env) o2 d2 v2:=by exact⟨rfl,rfl,by decide,rfl,by intro _;kernel_rfl⟩):wpList P ops Q (o1::o2::rest) a w:=
 q1.s hs λ_ hs=>q2.s hs h
theorem sP3 (v1 v2 v3:Value) {d1 d2 d3:Nat} (hs:Sx n E bw M w a env bs rs) (h:∀a',Sx n E bw M w a' ((d3,v3)::(d2,v2)::(d1,v1)::env) bs rs->wpList P ops Q rest a' w)
  (q1:Pq P n env o1 d1 v1:=by exact⟨rfl,rfl,by decide,rfl,by intro _;kernel_rfl⟩) (q2:Pq P n ((d1,v1)::env) o2 d2 v2:=by exact⟨rfl,rfl,by decide,rfl,by intro _;kernel_rfl⟩)
  (q3:Pq P n ((d2,v2)::(d1,v1)::env) o3 d3 v3:=by exact⟨rfl,rfl,by decide,rfl,by intro _;kernel_rfl⟩):wpList P ops Q (o1::o2::o3::rest) a w:=
 q1.s hs λ_ hs=>q2.s hs λ_ hs=>q3.s hs h
theorem sP4 (v1 v2 v3 v4:Value) {d1 d2 d3 d4:Nat} (hs:Sx n E bw M w a env bs rs) (h:∀a',Sx n E bw M w a' ((d4,v4)::(d3,v3)::(d2,v2)::(d1,v1)::env) bs rs->wpList P ops Q rest a' w)
  (q1:Pq P n env o1 d1 v1:=by exact⟨rfl,rfl,by decide,rfl,by intro _;kernel_rfl⟩) (q2:Pq P n ((d1,v1)::env) o2 d2 v2:=by exact⟨rfl,rfl,by decide,rfl,by intro _;kernel_rfl⟩)
  (q3:Pq P n ((d2,v2)::(d1,v1)::env) o3 d3 v3:=by exact⟨rfl,rfl,by decide,rfl,by intro _;kernel_rfl⟩) (q4:Pq P n ((d3,v3)::(d2,v2)::(d1,v1)::env) o4 d4 v4:=by exact⟨rfl,rfl,by decide,rfl,by intro _;kernel_rfl⟩):wpList P ops Q (o1::o2::o3::o4::rest) a w:=
 q1.s hs λ_ hs=>q2.s hs λ_ hs=>q3.s hs λ_ hs=>q4.s hs h
theorem ye (v:Value) {j t d:Nat} {b:Bool} (hs:Sx n E bw M w a env bs rs) (h:∀a',Sx n E bw M w a' ((d,v)::env) bs rs->wpList P ops Q rest a' w) (hg:o.guard=some (j,b):=by rfl) (ht:(ops[j]?).bind (·.dst)=some t:=by rfl) (hl:lk env t=some (.bool b):=by rfl)
  (q:Pq P n env {o with guard:=none} d v:=by exact⟨rfl,rfl,by decide,rfl,by intro _;kernel_rfl⟩):wpList P ops Q (o::rest) a w:=sYe hs (q.s hs h) hg ht hl
theorem sB (vs:List Value) (g:Bool) (i:Nat) {d:Nat} {t ty:TypeId} {x:Operand} {pos:String} {af:Array Edge} {b k:Nat} {cs:List Value} {bt:TypeId} (hs:Sx n E bw M w a env bs rs) (h:∀a',Sx n E bw M w a' ((d,ofCells g vs)::env) bs rs->wpList P ops Q rest a' w)
  (hi:bs[i]?=some ⟨b,bt,cs⟩:=by rfl) (hk:known env x=true:=by rfl) (hx:evT env x= .pointer (some ⟨b,k,none⟩):=by rfl) (ht:tyOk P t g vs.length=true:=by kernel_rfl) (hvs:(cs.drop k).take vs.length=vs:=by rfl) (hdn:d<n:=by decide):wpList P ops Q (⟨some d,.load t x,ty,pos,af,none⟩::rest) a w:=
 sY (ofCells g vs) hs (Yl.lB vs g i hi hk hx ht hvs) h rfl rfl hdn
theorem sB1 (v:Value) (i:Nat) {d:Nat} {t ty:TypeId} {x:Operand} {pos:String} {af:Array Edge} {b k:Nat} {cs:List Value} {bt:TypeId} (hs:Sx n E bw M w a env bs rs) (h:∀a',Sx n E bw M w a' ((d,v)::env) bs rs->wpList P ops Q rest a' w)
  (hi:bs[i]?=some ⟨b,bt,cs⟩:=by rfl) (hk:known env x=true:=by rfl) (hx:evT env x= .pointer (some ⟨b,k,none⟩):=by rfl) (ht:tyOk P t false 1=true:=by kernel_rfl) (hvs:(cs.drop k).take 1=[v]:=by rfl) (hdn:d<n:=by decide):wpList P ops Q (⟨some d,.load t x,ty,pos,af,none⟩::rest) a w:=
 sY v hs (Yl.lB [v] false i hi hk hx ht hvs) h rfl rfl hdn
theorem sV1 (v:Value) {d:Nat} {t ty:TypeId} {x:Operand} {pos:String} {af:Array Edge} {b k:Nat} (hat:At M b k [v]) (hs:Sx n E bw M w a env bs rs) (h:∀a',Sx n E bw M w a' ((d,v)::env) bs rs->wpList P ops Q rest a' w)
  (hk:known env x=true:=by rfl) (hx:evT env x= .pointer (some ⟨b,k,none⟩):=by rfl) (ht:tyOk P t false 1=true:=by kernel_rfl) (hdn:d<n:=by decide):wpList P ops Q (⟨some d,.load t x,ty,pos,af,none⟩::rest) a w:=
 sY v hs (Yl.lV [v] false hat hk hx ht) h rfl rfl hdn
theorem sI (e sz:Nat) {d:Nat} {t ty:TypeId} {x i:Operand} {pos:String} {af:Array Edge} {b k l c:Nat} {ik:IntKind} {z:Int} {ad:Option Addr} (had:ad=some ⟨b,k,none⟩) (h0:0<=z) (hl:z<l) (hs:Sx n E bw M w a env bs rs)
  (h:∀a',Sx n E bw M w a' ((d,.pointer (some ⟨b,k+z.toNat*sz,none⟩))::env) bs rs->wpList P ops Q rest a' w) (hkx:known env x=true:=by rfl) (hki:known env i=true:=by rfl) (hx:evT env x= .slice ad l c:=by rfl) (hi:evT env i= .int ik z:=by rfl)
  (hu:P.underlying t=some (.slice e):=by kernel_rfl) (hn:(P.info? e).map (·.size)=some sz:=by kernel_rfl) (hdn:d<n:=by decide):wpList P ops Q (⟨some d,.indexAddr t x i,ty,pos,af,none⟩::rest) a w:=
 sY _ hs (Yl.iS e sz had h0 hl hkx hki hx hi hu hn) h rfl rfl hdn
theorem rT {K:Value->Prop} {fn:Func} {v:Value} {t:Nat} (hs:Sx n E [] M w a env bs rs) (hM:MX M M0 E) (hK:K v) (hr:fn.results= #[.tmp t]:=by rfl) (hv:lk env t=some v:=by rfl):
  a.defers=[]/\∃v,(results fn a.tmps).run P w= .ok v w/\Below E.heap.size E w/\K v:=lvE K hs (resT hs hr hv) hM.2 hK
theorem rTT {K:Value->Prop} {fn:Func} {v x:Value} {t u:Nat} (hs:Sx n E [] M w a env bs rs) (hM:MX M M0 E) (hK:K (.tuple #[v,x])) (hr:fn.results= #[.tmp t,.tmp u]:=by rfl) (hv:lk env t=some v:=by rfl) (hx:lk env u=some x:=by rfl):
  a.defers=[]/\∃v,(results fn a.tmps).run P w= .ok v w/\Below E.heap.size E w/\K v:=lvE K hs (resTT hs hr hv hx) hM.2 hK
theorem cM (args:List Value) {d f:Nat} {ty:TypeId} {c:Call} {pos:String} {af:Array Edge} {fn:Func} {K:Value->Mem->Prop} {first caps:Array Value} (hs:Sx n E bw M w a env bs rs) (hM:MX M M0 E) (hf:P.funcs[f]?=some fn) (hc:CallE P f args.toArray M K)
  (h:∀a' w' M' v,MX M' M0 E->M.le M'->K v M'->Sx n E bw M' w' a' ((d,v)::env) bs rs->wpList P ops Q rest a' w') (hk:okOp env ⟨some d,.call c,ty,pos,af,none⟩=true:=by rfl) (hcal:∃x,c.callee= .value x/\evT env x= .func (.func f) first caps:=by exact⟨_,rfl,rfl⟩)
  (hargs:first.toList++c.args.toList.map (evT env)++caps.toList=args:=by rfl) (hbody:fn.body.isNone=false:=by rfl) (hname:(fn.name== "runtime.NumGoroutine")=false:=by kernel_rfl) (hdn:d<n:=by decide):wpList P ops Q (⟨some d,.call c,ty,pos,af,none⟩::rest) a w:=
 cE args hs hf hc (λa' w' M' v h1 h2 h3 h4=>h a' w' M' v (hM.next h1 h2) h1 h3 h4) hk hcal hargs hbody hname hdn
end
section
variable {P:Program} {ops:Array Oper} {Q:Exit->Act->World->Prop} {M0:Mem} {bs0:List Bx} {rs0:List Rw} {keep:List Bool} {n:Nat} {E:World} {bw:List Nat} {M:Mem} {w:World} {a:Act} {env:Env} {bs:List Bx} {rs:List Rw} {o:Oper} {fuel:Nat} {listed:Array Bool}
theorem dNo (i:Nat) (A:List Nat) {d j t:Nat} {b c:Bool} (hs:Sx n E bw M w a env bs rs) (h:∀a',Sx n E bw M w a' ((d,undef)::env) bs rs->WpD P ops Q (Cx M0 bs0 rs0) keep fuel (listed.setIfInBounds i true) a' w)
  (hQ:QZ Q:=by exact QZ.no) (ho:ops[i]?=some o:=by rfl) (hg:o.guard=some (j,b):=by rfl) (ht:(ops[j]?).bind (·.dst)=some t:=by rfl) (hl:lk env t=some (.bool c):=by rfl) (hne:(c==b)=false:=by rfl) (hd:o.dst=some d:=by rfl) (hdn:d<n:=by decide)
  (hsel:Region.noSelect ops=true:=by kernel_rfl) (hr:(Region.ready .any ops listed).contains i=true:=by kernel_rfl) (hf:freeB ops keep listed i A true=true:=by kernel_rfl):WpD P ops Q (Cx M0 bs0 rs0) keep (fuel+1) listed a w:=
 dN i A hs hQ (wanted_no hs hg ht hl hne) h ho hd hdn hsel hr hf
theorem dPy (v:Value) (i:Nat) (A:List Nat) {d j t:Nat} {b:Bool} (hs:Sx n E bw M w a env bs rs) (h:∀a',Sx n E bw M w a' ((d,v)::env) bs rs->WpD P ops Q (Cx M0 bs0 rs0) keep fuel (listed.setIfInBounds i true) a' w)
  (hQ:QZ Q:=by exact QZ.no) (ho:ops[i]?=some o:=by rfl) (hg:o.guard=some (j,b):=by rfl) (ht:(ops[j]?).bind (·.dst)=some t:=by rfl) (hl:lk env t=some (.bool b):=by rfl) (hd:o.dst=some d:=by rfl) (hdn:d<n:=by decide)
  (hsel:Region.noSelect ops=true:=by kernel_rfl) (hr:(Region.ready .any ops listed).contains i=true:=by kernel_rfl) (hf:freeB ops keep listed i A true=true:=by kernel_rfl) (hk:okOp env o=true:=by rfl) (hy:∀w,(execOp (evT env) o).run P w= .ok (.value v) w:=by intro _;kernel_rfl):WpD P ops Q (Cx M0 bs0 rs0) keep (fuel+1) listed a w:=
 dP v i A hs hQ (wanted_yes hs hg ht hl) h ho hd hdn hsel hr hf hk hy
end
section
variable {P:Program} {f:FuncId} {fn:Func} {c:Code} {M:Mem} {K:Value->Mem->Prop} {L:Nat->Prop}
abbrev EndE (P:Program) (fn:Func) (M:Mem) (K:Value->Mem->Prop) (w:World) (a':Act) (w':World):Prop:=a'.defers=[]/\∃v,(results fn a'.tmps).run P w'= .ok v w'/\Below w.heap.size w w'/\K v (grow M w w')
theorem eE0 (hf:P.funcs[f]?=some fn) (n:Nat) (h:∀w a,MX M M w->Sx n w [] M w a [] [] []->Wp P c (EndE P fn M K w) [] (EndE P fn M K w) (λ_ _ _=>False) a w) (hb:fn.body=some c:=by rfl) (hn:fn.ntmps=n:=by rfl) (hl:0<=n:=by exact Nat.le_of_ble_eq_true rfl):CallE P f #[] M K:=
 enterE (l:=[]) hf hb n hn hl λw a hs=>h w a (MX.refl M w) hs
theorem eE1 {a0:Value} (hf:P.funcs[f]?=some fn) (n:Nat) (h:∀w a,MX M M w->Sx n w [] M w a [(0,a0)] [] []->Wp P c (EndE P fn M K w) [] (EndE P fn M K w) (λ_ _ _=>False) a w) (hb:fn.body=some c:=by rfl) (hn:fn.ntmps=n:=by rfl) (hl:1<=n:=by exact Nat.le_of_ble_eq_true rfl):CallE P f #[a0] M K:=
 enterE (l:=[a0]) hf hb n hn hl λw a hs=>h w a (MX.refl M w) hs
theorem eE2 {a0 a1:Value} (hf:P.funcs[f]?=some fn) (n:Nat) (h:∀w a,MX M M w->Sx n w [] M w a [(0,a0),(1,a1)] [] []->Wp P c (EndE P fn M K w) [] (EndE P fn M K w) (λ_ _ _=>False) a w) (hb:fn.body=some c:=by rfl) (hn:fn.ntmps=n:=by rfl) (hl:2<=n:=by exact Nat.le_of_ble_eq_true rfl):CallE P f #[a0,a1] M K:=
 enterE (l:=[a0,a1]) hf hb n hn hl λw a hs=>h w a (MX.refl M w) hs
theorem eE3 {a0 a1 a2:Value} (hf:P.funcs[f]?=some fn) (n:Nat) (h:∀w a,MX M M w->Sx n w [] M w a [(0,a0),(1,a1),(2,a2)] [] []->Wp P c (EndE P fn M K w) [] (EndE P fn M K w) (λ_ _ _=>False) a w) (hb:fn.body=some c:=by rfl) (hn:fn.ntmps=n:=by rfl) (hl:3<=n:=by exact Nat.le_of_ble_eq_true rfl):CallE P f #[a0,a1,a2] M K:=
 enterE (l:=[a0,a1,a2]) hf hb n hn hl λw a hs=>h w a (MX.refl M w) hs
end
end Go.Gx

namespace Go.Gx
open Go.RowKit Go.Maps Go.WideMaps
section
variable {P:Program} {ops:Array Oper} {Q:Exit->Act->World->Prop} {n:Nat} {E:World} {M M0:Mem} {L:Nat->Prop} {w:World} {a:Act} {env:Env} {bs:List Bx} {rs:List Rw} {rest:List Oper}
variable {d:Option Tmp} {ty:TypeId} {pos:String} {af:Array Edge} {gd:Option (Nat×Bool)}
end
section
variable {P:Program} {ops:Array Oper} {Q:Exit->Act->World->Prop} {n:Nat} {E:World} {bw:List Nat} {M:Mem} {w:World} {a:Act} {env:Env} {bs:List Bx} {rs:List Rw} {rest:List Oper} {o:Oper}
end
end Go.Gx

namespace Go.Gx
open Go.RowKit
section
variable {P:Program} {ops:Array Oper} {Q:Exit->Act->World->Prop} {n:Nat} {E:World} {M M0:Mem} {L:Nat->Prop} {w:World} {a:Act} {env:Env} {bs:List Bx} {rs:List Rw} {rest:List Oper}
end
section
variable {P:Program} {ops:Array Oper} {Q:Exit->Act->World->Prop} {n:Nat} {E:World} {M M0:Mem} {L:Nat->Prop} {w:World} {a:Act} {env:Env} {bs:List Bx} {rs:List Rw} {rest:List Oper}
end
end Go.Gx

namespace Go.Gx
open Go.RowKit
section
variable {P:Program} {ops:Array Oper} {Q:Exit->Act->World->Prop} {n:Nat} {E:World} {bw:List Nat} {M:Mem} {w:World} {a:Act} {env:Env} {bs:List Bx} {rs:List Rw} {rest:List Oper}
end
end Go.Gx

namespace Go.Gx
open Go.RowKit
section
variable {P:Program} {env:Env} {M:Mem} {bs:List Bx} {rs:List Rw} {d:Option Tmp} {ty:TypeId} {pos:String} {af:Array Edge} {gd:Option (Nat×Bool)}
end
section
variable {P:Program} {ops:Array Oper} {Q:Exit->Act->World->Prop} {n:Nat} {E:World} {M M0:Mem} {L:Nat->Prop} {w:World} {a:Act} {env:Env} {bs:List Bx} {rs:List Rw} {rest:List Oper}
end
end Go.Gx

namespace Go.Proofs.YtjecddabdlapbaaDoor.core
open Go.Gx Go.RowKit Go.ChangeShapes Go.WideShapes Go.ChangeAt
set_option linter.unusedVariables false
structure X_api_Set where
 w0:Int
 w1:Int
 w2:Int
 w3:Int
def X_api_Set.cells (x:X_api_Set):List Value:=[(.int .u64 x.w0),(.int .u64 x.w1),(.int .u64 x.w2),(.int .u64 x.w3)]
def X_api_Set.val (x:X_api_Set):Value:=.agg x.cells.toArray
def S_set_Range (low1:Int) (high2:Int) (M:Mem) (K:Value->Prop):Prop:=
 (∃(I11:Int->List Int->Prop) (mu12:Int->List Int->Nat),I11 (if low1>0 then low1 else 0) [0,0,0,0]/\∀(b9:Int) (zs10:List Int),(I11 b9 zs10->((b9<=(if high2<255 then high2 else 255)->((0:Int)<=bShr .i64 b9 6/\bShr .i64 b9 6<(4:Int)/\(∃x13:Int,zs10[0+(bShr .i64 b9 6).toNat*1]?=some x13/\((0:Int)<=bAnd .i64 b9 63/\((0:Int)<=bShr .i64 b9 6/\bShr .i64 b9 6<(4:Int)/\(0+(bShr .i64 b9 6).toNat*1<(zs10).length/\(InI (b9+1)/\I11 (b9+1) ((zs10).set (0+(bShr .i64 b9 6).toNat*1) (bOr .u64 x13 (bShl .u64 1 (bAnd .i64 b9 63))))/\mu12 (b9+1) ((zs10).set (0+(bShr .i64 b9 6).toNat*1) (bOr .u64 x13 (bShl .u64 1 (bAnd .i64 b9 63))))<mu12 b9 zs10)))))))/\(¬(b9<=(if high2<255 then high2 else 255))->(∃z14 z15 z16 z17:Int,zs10=[z14,z15,z16,z17]/\((zs10).length=4/\(∃z18 z19 z20 z21:Int,[z14,z15,z16,z17]=[z18,z19,z20,z21]/\K (X_api_Set.mk z18 z19 z20 z21).val)))))))
set_option maxRecDepth 100000 in
theorem s_set_Range (low1:Int) (high2:Int) (M:Mem) (K:Value->Prop) (hS:S_set_Range low1 high2 M K):CallE Tryd.prog 14 #[(Value.int .i64 low1),(Value.int .i64 high2)] M (λv _=>K v):=by
 refine eE2 Tryd.func14 24 λE a hMM hs=>?_;unfold S_set_Range at hS;refine qr (stepAlloc [(.int .u64 0),(.int .u64 0),(.int .u64 0),(.int .u64 0)] hs (by kernel_rfl) (by decide) (λ_ _ b3 hEb3 hs=>?_));replace hs:=hs.chbx (bs':=[⟨b3,24,(List.map (Value.int .u64) [0,0,0,0])⟩]) rfl;refine wn (qs (qr (sP3 (iv low1) (iv (if low1>0 then low1 else 0)) (iv (if low1>0 then low1 else 0)) hs λ_ hs=>?_)));refine wn (qb ?_);obtain⟨I11,mu12,hI0,hst⟩:=hS;refine Wp.loop (σ:=(Int)×(List Int)) (λ(b9,zs10) a w=>Sx 24 E [] M w a [(1,(iv high2)),(4,(pt b3 0)),(5,(iv b9))] [⟨b3,24,(List.map (Value.int .u64) zs10)⟩] []/\I11 b9 zs10) (λ(b9,zs10)=>mu12 b9 zs10) ((if low1>0 then low1 else 0),[0,0,0,0]) ⟨hs.q,hI0⟩ (λs a w hI=>?_);obtain⟨b9,zs10⟩:=s;obtain⟨hs,hI⟩:=hI;have hS:=hst b9 zs10 hI;clear hst hI0 hI;refine qs (qr (sP4 (iv b9) (iv high2) (iv (if high2<255 then high2 else 255)) (.bool (decide (b9<=(if high2<255 then high2 else 255)))) hs λ_ hs=>?_))
 refine wn (Wp.cS hs decide_eq_true_iff hS (λhS=>?_) (λhS=>?_))
 ·refine qk (qs (qb (Wp.regionD [true,true,true,true,true,true,true,true,true,false] hs (by kernel_rfl) rfl [⟨b3,24,(List.map (Value.int .u64) zs10)⟩] (λ_ h=>h) [] (λ_ h=>h) (λ_ hs hC=>?_))));have hL:=Mem.le.refl M;refine dA (iv b9) 0 [1,2,3,7,8,9] hs λ_ hs=>?_;refine dA (iv (bShr .i64 b9 6)) 1 [2,3,7,8,9] hs λ_ hs=>?_;obtain⟨h0,hl,hS⟩:=hS;refine dF (.pointer (some ⟨b3,0+(bShr .i64 b9 6).toNat*1,none⟩)) 2 [3,7,8,9] hs rfl (Yl.indexA (e:=22) (sz:=1) rfl rfl rfl rfl (by kernel_rfl) (by kernel_rfl) h0 hl) λ_ hs=>?_;obtain⟨x13,hz,hS⟩:=hS;refine dC (.int .u64 x13) 3 [7,8,9] hs hC rfl (Yl.loadBD 0 rfl rfl rfl (by kernel_rfl) hz) λ_ hs=>?_;refine sE 4 ?_;refine sP (iv b9) hs λ_ hs=>?_;refine nE 5 ?_;refine sP (iv (bAnd .i64 b9 63)) hs λ_ hs=>?_;refine nE 6 ?_;obtain⟨h0,hS⟩:=hS;refine sY (.int .u64 (bShl .u64 1 (bAnd .i64 b9 63))) hs (Yl.shl rfl rfl rfl rfl h0) λ_ hs=>?_;refine nE 7 ?_;refine sP (.int .u64 (bOr .u64 x13 (bShl .u64 1 (bAnd .i64 b9 63)))) hs λ_ hs=>?_;refine nE 8 ?_;obtain⟨h0,hl,hS⟩:=hS;refine sY (.pointer (some ⟨b3,0+(bShr .i64 b9 6).toNat*1,none⟩)) hs (Yl.indexA (e:=22) (sz:=1) rfl rfl rfl rfl (by kernel_rfl) (by kernel_rfl) h0 hl) λ_ hs=>?_;refine nE 9 ?_;obtain⟨hlt,hS⟩:=hS;refine stepStoreBD 0 (zs:=zs10) hs rfl rfl rfl rfl rfl (by kernel_rfl) hlt (λ_ _ hs=>?_)
  replace hs:=hs.chbx (bs':=[⟨b3,24,(List.map (Value.int .u64) ((zs10).set (0+(bShr .i64 b9 6).toNat*1) (bOr .u64 x13 (bShl .u64 1 (bAnd .i64 b9 63)))))⟩]) rfl;refine wF ?_;refine dD ?_;refine qg (sP (iv b9) hs λ_ hs=>?_);obtain⟨hI,hS⟩:=hS;refine sY (iv (b9+1)) hs (Yl.wr hI) λ_ hs=>?_;refine sP (iv (b9+1)) hs λ_ hs=>?_;exact wn (⟨(b9+1,(zs10).set (0+(bShr .i64 b9 6).toNat*1) (bOr .u64 x13 (bShl .u64 1 (bAnd .i64 b9 63)))),⟨hs.q,hS.1⟩,hS.2⟩)
 ·refine qx rfl (qr ?_);obtain⟨z14,z15,z16,z17,hz,hS⟩:=hS;refine sY (X_api_Set.mk z14 z15 z16 z17).val hs (Yl.loadBA 0 rfl rfl rfl rfl (by kernel_rfl) hz) λ_ hs=>?_;obtain⟨hlt,hS⟩:=hS;refine stepStoreBA 0 (zs:=zs10) (ys:=[z14,z15,z16,z17]) hs rfl rfl rfl rfl rfl (by kernel_rfl) hlt (λ_ _ hs=>?_);replace hs:=hs.chbx (bs':=[⟨b3,24,(List.map (Value.int .u64) [z14,z15,z16,z17])⟩]) rfl;refine wn (qt ?_);obtain⟨z18,z19,z20,z21,hz,hS⟩:=hS;replace hs:=hs.chbx (bs':=[⟨b3,24,[(.int .u64 z18),(.int .u64 z19),(.int .u64 z20),(.int .u64 z21)]⟩]) (by first|rw[hz];rfl|rfl);exact lvE K hs (resC (vs:=[(.int .u64 z18),(.int .u64 z19),(.int .u64 z20),(.int .u64 z21)]) true 0 hs rfl rfl rfl (by kernel_rfl) rfl) hMM.2 hS
def S_set_Has (s1:X_api_Set) (b2:Int) (M:Mem) (K:Value->Prop):Prop:=
 ((0:Int)<=bShr .u8 b2 6/\bShr .u8 b2 6<(4:Int)/\(∃x4:Int,[s1.w0,s1.w1,s1.w2,s1.w3][0+(bShr .u8 b2 6).toNat*1]?=some x4/\((0:Int)<=bAnd .u8 b2 63/\K (Value.bool ((bAnd .u64 (bShr .u64 x4 (bAnd .u8 b2 63)) 1:Int)==(1:Int))))))
set_option maxRecDepth 100000 in
theorem s_set_Has (s1:X_api_Set) (b2:Int) (M:Mem) (K:Value->Prop) (hS:S_set_Has s1 b2 M K):CallE Tryd.prog 17 #[s1.val,(Value.int .u8 b2)] M (λv _=>K v):=by
 refine eE2 Tryd.func17 14 λE a hMM hs=>?_;unfold S_set_Has at hS;refine qr (stepBox s1.cells hs rfl rfl rfl (by decide) (λ_ _ b3 hEb3 hs=>?_));replace hs:=hs.chbx (bs':=[⟨b3,24,(List.map (Value.int .u64) [s1.w0,s1.w1,s1.w2,s1.w3])⟩]) rfl;refine sP (.bool false) hs λ_ hs=>?_;refine wn (qr (sP2 (.int .u8 b2) (.int .u8 (bShr .u8 b2 6)) hs λ_ hs=>?_));obtain⟨h0,hl,hS⟩:=hS;refine sY (.pointer (some ⟨b3,0+(bShr .u8 b2 6).toNat*1,none⟩)) hs (Yl.indexA (e:=22) (sz:=1) rfl rfl rfl rfl (by kernel_rfl) (by kernel_rfl) h0 hl) λ_ hs=>?_;obtain⟨x4,hz,hS⟩:=hS;refine sY (.int .u64 x4) hs (Yl.loadBD 0 rfl rfl rfl (by kernel_rfl) hz) λ_ hs=>?_;refine sP2 (.int .u8 b2) (.int .u8 (bAnd .u8 b2 63)) hs λ_ hs=>?_;obtain⟨h0,hS⟩:=hS;refine sY (.int .u64 (bShr .u64 x4 (bAnd .u8 b2 63))) hs (Yl.shr rfl rfl rfl rfl h0) λ_ hs=>?_;refine sP3 (.int .u64 (bAnd .u64 (bShr .u64 x4 (bAnd .u8 b2 63)) 1)) (.bool ((bAnd .u64 (bShr .u64 x4 (bAnd .u8 b2 63)) 1:Int)==(1:Int))) (.bool ((bAnd .u64 (bShr .u64 x4 (bAnd .u8 b2 63)) 1:Int)==(1:Int))) hs λ_ hs=>?_;exact wn (qt (rT hs hMM hS))
def S_chaffref_Has (s1:X_api_Set) (b2:Int) (M:Mem) (K:Value->Prop):Prop:=
 (InI (b2.tdiv 64)/\((0:Int)<=b2.tdiv 64/\b2.tdiv 64<(4:Int)/\(∃x4:Int,[s1.w0,s1.w1,s1.w2,s1.w3][0+(b2.tdiv 64).toNat*1]?=some x4/\((0:Int)<=b2.tmod 64/\K (Value.bool (((bShr .u64 x4 (b2.tmod 64)).tmod 2:Int)==(1:Int)))))))
set_option maxRecDepth 100000 in
theorem s_chaffref_Has (s1:X_api_Set) (b2:Int) (M:Mem) (K:Value->Prop) (hS:S_chaffref_Has s1 b2 M K):CallE Tryd.prog 13 #[s1.val,(Value.int .i64 b2)] M (λv _=>K v):=by
 refine eE2 Tryd.func13 14 λE a hMM hs=>?_;unfold S_chaffref_Has at hS;refine qr (stepBox s1.cells hs rfl rfl rfl (by decide) (λ_ _ b3 hEb3 hs=>?_));replace hs:=hs.chbx (bs':=[⟨b3,24,(List.map (Value.int .u64) [s1.w0,s1.w1,s1.w2,s1.w3])⟩]) rfl;refine sP (.bool false) hs λ_ hs=>?_;refine wn (qr (sP (iv b2) hs λ_ hs=>?_));obtain⟨hI,hS⟩:=hS;refine sY (iv (b2.tdiv 64)) hs (Yl.wr hI) λ_ hs=>?_;obtain⟨h0,hl,hS⟩:=hS;refine sY (.pointer (some ⟨b3,0+(b2.tdiv 64).toNat*1,none⟩)) hs (Yl.indexA (e:=22) (sz:=1) rfl rfl rfl rfl (by kernel_rfl) (by kernel_rfl) h0 hl) λ_ hs=>?_;obtain⟨x4,hz,hS⟩:=hS;refine sY (.int .u64 x4) hs (Yl.loadBD 0 rfl rfl rfl (by kernel_rfl) hz) λ_ hs=>?_;refine sP2 (iv b2) (iv (b2.tmod 64)) hs λ_ hs=>?_;obtain⟨h0,hS⟩:=hS;refine sY (.int .u64 (bShr .u64 x4 (b2.tmod 64))) hs (Yl.shr rfl rfl rfl rfl h0) λ_ hs=>?_;refine sP3 (.int .u64 ((bShr .u64 x4 (b2.tmod 64)).tmod 2)) (.bool (((bShr .u64 x4 (b2.tmod 64)).tmod 2:Int)==(1:Int))) (.bool (((bShr .u64 x4 (b2.tmod 64)).tmod 2:Int)==(1:Int))) hs λ_ hs=>?_;exact wn (qt (rT hs hMM hS))
def S_chaffref_Where_J1 (x12:Int) (zs13:List Int) (I14:Int->List Int->Prop) (mu15:Int->List Int->Nat) (zs18:List Int) (K:Value->Prop):Prop:=
 (InI (x12+1)/\I14 (x12+1) zs18/\mu15 (x12+1) zs18<mu15 x12 zs13)
def S_chaffref_Where (is1:Value) (M:Mem) (K:Value->Prop):Prop:=
 (∃(I14:Int->List Int->Prop) (mu15:Int->List Int->Nat),I14 0 [0,0,0,0]/\∀(x12:Int) (zs13:List Int),(I14 x12 zs13->((x12<256->(CallF Tryd.prog is1 [(.int .i64 x12)] M (λv _=>∃(x16:Bool),v=(Value.bool x16)/\((x16=true->(InI (x12.tdiv 64)/\((0:Int)<=x12.tdiv 64/\x12.tdiv 64<(4:Int)/\(∃x17:Int,zs13[0+(x12.tdiv 64).toNat*1]?=some x17/\((0:Int)<=x12.tmod 64/\((0:Int)<=x12.tdiv 64/\x12.tdiv 64<(4:Int)/\(0+(x12.tdiv 64).toNat*1<(zs13).length/\(S_chaffref_Where_J1 x12 zs13 I14 mu15 ((zs13).set (0+(x12.tdiv 64).toNat*1) (IntKind.wrap .u64 (x17+(bShl .u64 1 (x12.tmod 64))))) K))))))))/\(¬(x16=true)->(S_chaffref_Where_J1 x12 zs13 I14 mu15 zs13 K))))))/\(¬(x12<256)->(∃z19 z20 z21 z22:Int,zs13=[z19,z20,z21,z22]/\((zs13).length=4/\(∃z23 z24 z25 z26:Int,[z19,z20,z21,z22]=[z23,z24,z25,z26]/\K (X_api_Set.mk z23 z24 z25 z26).val)))))))
set_option maxRecDepth 100000 in
theorem s_chaffref_Where (is1:Value) (M:Mem) (K:Value->Prop) (hS:S_chaffref_Where is1 M K):CallE Tryd.prog 15 #[is1] M (λv _=>K v):=by
 refine eE1 Tryd.func15 21 λE a hMM hs=>?_;unfold S_chaffref_Where at hS;refine qr (stepAlloc [(.int .u64 0),(.int .u64 0),(.int .u64 0),(.int .u64 0)] hs (by kernel_rfl) (by decide) (λ_ _ b2 hEb2 hs=>?_));replace hs:=hs.chbx (bs':=[⟨b2,24,(List.map (Value.int .u64) [0,0,0,0])⟩]) rfl;refine wn (qs (qr (sP (iv 0) hs λ_ hs=>?_)));refine wn (qb ?_);obtain⟨I14,mu15,hI0,hst⟩:=hS;refine Wp.loop (σ:=(Int)×(List Int)) (λ(x12,zs13) a w=>Sx 21 E [] M w a [(0,is1),(2,(pt b2 0)),(4,(iv x12))] [⟨b2,24,(List.map (Value.int .u64) zs13)⟩] []/\I14 x12 zs13) (λ(x12,zs13)=>mu15 x12 zs13) (0,[0,0,0,0]) ⟨hs.q,hI0⟩ (λs a w hI=>?_);obtain⟨x12,zs13⟩:=s;obtain⟨hs,hI⟩:=hI;have hS:=hst x12 zs13 hI;clear hst hI0 hI;refine qr (sP (.bool (decide (x12<256))) hs λ_ hs=>?_);refine wn (qs (Wp.cS hs decide_eq_true_iff hS (λhS=>?_) (λhS=>?_)))
 ·refine qk (Wp.join (λa w=>∃(zs18:List Int),Sx 21 E [] M w a [(0,is1),(2,(pt b2 0)),(4,(iv x12))] [⟨b2,24,(List.map (Value.int .u64) zs18)⟩] []/\(S_chaffref_Where_J1 x12 zs13 I14 mu15 zs18 K)) ?_ ?_)
  ·refine qb (qr (sP2 (iv x12) (iv x12) hs λ_ hs=>?_));refine wn (qr (sP2 is1 (iv x12) hs λ_ hs=>?_));refine stepCallG [(iv x12)] hs rfl ⟨_,rfl,rfl⟩ rfl (by decide) hS (λ_ _ v hS hs=>?_);obtain⟨x16,rfl,hS⟩:=hS;refine wn (Wp.cS hs Iff.rfl hS (λhS=>?_) (λhS=>?_))
   ·refine Wp.regionD [true,true,true,true,true,true,true,true,true,false] hs (by kernel_rfl) rfl [⟨b2,24,(List.map (Value.int .u64) zs13)⟩] (λ_ h=>h) [] (λ_ h=>h) (λ_ hs hC=>?_);have hL:=Mem.le.refl M;refine dA (iv x12) 0 [1,2,3,7,8,9] hs λ_ hs=>?_;obtain⟨hI,hS⟩:=hS;refine dF (iv (x12.tdiv 64)) 1 [2,3,7,8,9] hs rfl (Yl.wr hI) λ_ hs=>?_;obtain⟨h0,hl,hS⟩:=hS;refine dF (.pointer (some ⟨b2,0+(x12.tdiv 64).toNat*1,none⟩)) 2 [3,7,8,9] hs rfl (Yl.indexA (e:=22) (sz:=1) rfl rfl rfl rfl (by kernel_rfl) (by kernel_rfl) h0 hl) λ_ hs=>?_;obtain⟨x17,hz,hS⟩:=hS;refine dC (.int .u64 x17) 3 [7,8,9] hs hC rfl (Yl.loadBD 0 rfl rfl rfl (by kernel_rfl) hz) λ_ hs=>?_;refine sE 4 ?_;refine sP (iv x12) hs λ_ hs=>?_;refine nE 5 ?_;refine sP (iv (x12.tmod 64)) hs λ_ hs=>?_;refine nE 6 ?_;obtain⟨h0,hS⟩:=hS;refine sY (.int .u64 (bShl .u64 1 (x12.tmod 64))) hs (Yl.shl rfl rfl rfl rfl h0) λ_ hs=>?_;refine nE 7 ?_;refine sP (.int .u64 (IntKind.wrap .u64 (x17+(bShl .u64 1 (x12.tmod 64))))) hs λ_ hs=>?_;refine nE 8 ?_;obtain⟨h0,hl,hS⟩:=hS;refine sY (.pointer (some ⟨b2,0+(x12.tdiv 64).toNat*1,none⟩)) hs (Yl.indexA (e:=22) (sz:=1) rfl rfl rfl rfl (by kernel_rfl) (by kernel_rfl) h0 hl) λ_ hs=>?_;refine nE 9 ?_;obtain⟨hlt,hS⟩:=hS;refine stepStoreBD 0 (zs:=zs13) hs rfl rfl rfl rfl rfl (by kernel_rfl) hlt (λ_ _ hs=>?_)
    replace hs:=hs.chbx (bs':=[⟨b2,24,(List.map (Value.int .u64) ((zs13).set (0+(x12.tdiv 64).toNat*1) (IntKind.wrap .u64 (x17+(bShl .u64 1 (x12.tmod 64))))))⟩]) rfl;refine wF ?_;refine dD ?_;exact⟨((zs13).set (0+(x12.tdiv 64).toNat*1) (IntKind.wrap .u64 (x17+(bShl .u64 1 (x12.tmod 64))))),hs.q,hS⟩
   ·exact qk (⟨zs13,hs.q,hS⟩)
  ·intro a w hJ;obtain⟨zs18,hs,hS⟩:=hJ;unfold S_chaffref_Where_J1 at hS;refine qg ?_;obtain⟨hI,hS⟩:=hS;refine sY (iv (x12+1)) hs (Yl.wr hI) λ_ hs=>?_;refine sP (iv (x12+1)) hs λ_ hs=>?_;exact wn (⟨(x12+1,zs18),⟨hs.q,hS.1⟩,hS.2⟩)
 ·refine qx rfl (qr ?_);obtain⟨z19,z20,z21,z22,hz,hS⟩:=hS;refine sY (X_api_Set.mk z19 z20 z21 z22).val hs (Yl.loadBA 0 rfl rfl rfl rfl (by kernel_rfl) hz) λ_ hs=>?_;obtain⟨hlt,hS⟩:=hS;refine stepStoreBA 0 (zs:=zs13) (ys:=[z19,z20,z21,z22]) hs rfl rfl rfl rfl rfl (by kernel_rfl) hlt (λ_ _ hs=>?_);replace hs:=hs.chbx (bs':=[⟨b2,24,(List.map (Value.int .u64) [z19,z20,z21,z22])⟩]) rfl;refine wn (qt ?_);obtain⟨z23,z24,z25,z26,hz,hS⟩:=hS;replace hs:=hs.chbx (bs':=[⟨b2,24,[(.int .u64 z23),(.int .u64 z24),(.int .u64 z25),(.int .u64 z26)]⟩]) (by first|rw[hz];rfl|rfl);exact lvE K hs (resC (vs:=[(.int .u64 z23),(.int .u64 z24),(.int .u64 z25),(.int .u64 z26)]) true 0 hs rfl rfl rfl (by kernel_rfl) rfl) hMM.2 hS
def S_math_bits_TrailingZeros64 (x1:Int) (M:Mem) (K:Value->Prop):Prop:=
 (((x1:Int)=0->K (Value.int .i64 64))/\(¬((x1:Int)=0)->((0:Int)<=bShr .u64 (IntKind.wrap .u64 ((bAnd .u64 x1 (IntKind.wrap .u64 (0-x1)))*285870213051353865)) 58/\bShr .u64 (IntKind.wrap .u64 ((bAnd .u64 x1 (IntKind.wrap .u64 (0-x1)))*285870213051353865)) 58<(64:Int)/\(∃(x2:Int),At M 0 (0+(bShr .u64 (IntKind.wrap .u64 ((bAnd .u64 x1 (IntKind.wrap .u64 (0-x1)))*285870213051353865)) 58).toNat*1) [(.int .u8 x2)]/\K (Value.int .i64 (IntKind.wrap .i64 x2))))))
set_option maxRecDepth 100000 in
theorem s_math_bits_TrailingZeros64 (x1:Int) (M:Mem) (K:Value->Prop) (hS:S_math_bits_TrailingZeros64 x1 M K):CallE Tryd.prog 52 #[(Value.int .u64 x1)] M (λv _=>K v):=by
 refine eE1 Tryd.func52 14 λE a hMM hs=>?_;unfold S_math_bits_TrailingZeros64 at hS;refine qr (sP (iv 0) hs λ_ hs=>?_);refine wn (qs (qr (sP2 (.int .u64 x1) (.bool ((x1:Int)==(0:Int))) hs λ_ hs=>?_)));refine wn (Wp.cS hs beq_iff_eq hS (λhS=>?_) (λhS=>?_))
 ·refine qr (sP (iv 64) hs λ_ hs=>?_);exact wn (qt (rT hs hMM hS))
 ·refine qk (qr (sP4 (.int .u64 x1) (.int .u64 x1) (.int .u64 (IntKind.wrap .u64 (0-x1))) (.int .u64 (bAnd .u64 x1 (IntKind.wrap .u64 (0-x1)))) hs λ_ hs=>?_));refine sP2 (.int .u64 (IntKind.wrap .u64 ((bAnd .u64 x1 (IntKind.wrap .u64 (0-x1)))*285870213051353865))) (.int .u64 (bShr .u64 (IntKind.wrap .u64 ((bAnd .u64 x1 (IntKind.wrap .u64 (0-x1)))*285870213051353865)) 58)) hs λ_ hs=>?_;obtain⟨h0,hl,hS⟩:=hS;refine sY (.pointer (some ⟨0,0+(bShr .u64 (IntKind.wrap .u64 ((bAnd .u64 x1 (IntKind.wrap .u64 (0-x1)))*285870213051353865)) 58).toNat*1,none⟩)) hs (Yl.indexA (e:=5) (sz:=1) rfl rfl rfl rfl (by kernel_rfl) (by kernel_rfl) h0 hl) λ_ hs=>?_;obtain⟨x2,hat,hS⟩:=hS;refine sV1 (.int .u8 x2) hat hs λ_ hs=>?_;refine sP2 (iv (IntKind.wrap .i64 x2)) (iv (IntKind.wrap .i64 x2)) hs λ_ hs=>?_;exact wn (qt (rT hs hMM hS))
def S_set_First_J1 (M:Mem) (i_8:Int) (I9:Int->Prop) (mu10:Int->Nat) (w12:Int) (K:Value->Prop):Prop:=
 (((w12:Int)≠0->(CallE Tryd.prog 52 #[(.int .u64 w12)] M (λv _=>∃(x13:Int),v=(Value.int .i64 x13)/\(InI ((bShl .i64 i_8 6)+x13)/\K (Value.int .i64 ((bShl .i64 i_8 6)+x13))))))/\(¬((w12:Int)≠0)->(InI (i_8+1)/\I9 (i_8+1)/\mu10 (i_8+1)<mu10 i_8)))
def S_set_First (s1:X_api_Set) (from2:Int) (M:Mem) (K:Value->Prop):Prop:=
 (∃(I9:Int->Prop) (mu10:Int->Nat),I9 (bShr .i64 (if from2>0 then from2 else 0) 6)/\∀(i_8:Int),(I9 i_8->((i_8<4->((0:Int)<=i_8/\i_8<(4:Int)/\(∃x11:Int,[s1.w0,s1.w1,s1.w2,s1.w3][0+i_8.toNat*1]?=some x11/\(((i_8:Int)=bShr .i64 (if from2>0 then from2 else 0) 6->((0:Int)<=bAnd .i64 (if from2>0 then from2 else 0) 63/\((0:Int)<=bAnd .i64 (if from2>0 then from2 else 0) 63/\(S_set_First_J1 M i_8 I9 mu10 (bShl .u64 (bShr .u64 x11 (bAnd .i64 (if from2>0 then from2 else 0) 63)) (bAnd .i64 (if from2>0 then from2 else 0) 63)) K))))/\(¬((i_8:Int)=bShr .i64 (if from2>0 then from2 else 0) 6)->(S_set_First_J1 M i_8 I9 mu10 x11 K))))))/\(¬(i_8<4)->K (Value.int .i64 (-1))))))
set_option maxRecDepth 100000 in
theorem s_set_First (s1:X_api_Set) (from2:Int) (M:Mem) (K:Value->Prop) (hS:S_set_First s1 from2 M K):CallE Tryd.prog 20 #[s1.val,(Value.int .i64 from2)] M (λv _=>K v):=by
 refine eE2 Tryd.func20 36 λE a hMM hs=>?_;unfold S_set_First at hS;refine qr (stepBox s1.cells hs rfl rfl rfl (by decide) (λ_ _ b3 hEb3 hs=>?_));replace hs:=hs.chbx (bs':=[⟨b3,24,(List.map (Value.int .u64) [s1.w0,s1.w1,s1.w2,s1.w3])⟩]) rfl;refine sP (iv 0) hs λ_ hs=>?_;refine wn (qr (sP3 (iv from2) (iv (if from2>0 then from2 else 0)) (iv (if from2>0 then from2 else 0)) hs λ_ hs=>?_));refine wn (qs (qr (sP3 (iv (if from2>0 then from2 else 0)) (iv (bShr .i64 (if from2>0 then from2 else 0) 6)) (iv (bShr .i64 (if from2>0 then from2 else 0) 6)) hs λ_ hs=>?_)));refine wn (qb ?_);obtain⟨I9,mu10,hI0,hst⟩:=hS;refine Wp.loop (σ:=(Int)) (λi_8 a w=>Sx 36 E [] M w a [(1,(iv (if from2>0 then from2 else 0))),(2,(pt b3 0)),(5,(iv i_8))] [⟨b3,24,(List.map (Value.int .u64) [s1.w0,s1.w1,s1.w2,s1.w3])⟩] []/\I9 i_8) (λi_8=>mu10 i_8) (bShr .i64 (if from2>0 then from2 else 0) 6) ⟨hs.q,hI0⟩ (λi_8 a w hI=>?_);obtain⟨hs,hI⟩:=hI;have hS:=hst i_8 hI;clear hst hI0 hI
 refine qs (qr (sP2 (iv i_8) (.bool (decide (i_8<4))) hs λ_ hs=>?_));refine wn (Wp.cS hs decide_eq_true_iff hS (λhS=>?_) (λhS=>?_))
 ·refine qk (qs (qb (qr (sP (iv i_8) hs λ_ hs=>?_))));obtain⟨h0,hl,hS⟩:=hS;refine sY (.pointer (some ⟨b3,0+i_8.toNat*1,none⟩)) hs (Yl.indexA (e:=22) (sz:=1) rfl rfl rfl rfl (by kernel_rfl) (by kernel_rfl) h0 hl) λ_ hs=>?_;obtain⟨x11,hz,hS⟩:=hS;refine sY (.int .u64 x11) hs (Yl.loadBD 0 rfl rfl rfl (by kernel_rfl) hz) λ_ hs=>?_;refine sP (.int .u64 x11) hs λ_ hs=>?_;refine wn (Wp.join (λa w=>∃(w12:Int),Sx 36 E [] M w a [(1,(iv (if from2>0 then from2 else 0))),(2,(pt b3 0)),(5,(iv i_8)),(6,(.int .u64 w12))] [⟨b3,24,(List.map (Value.int .u64) [s1.w0,s1.w1,s1.w2,s1.w3])⟩] []/\(S_set_First_J1 M i_8 I9 mu10 w12 K)) ?_ ?_)
  ·refine qr (sP4 (iv i_8) (iv (if from2>0 then from2 else 0)) (iv (bShr .i64 (if from2>0 then from2 else 0) 6)) (.bool ((i_8:Int)==(bShr .i64 (if from2>0 then from2 else 0) 6:Int))) hs λ_ hs=>?_);refine wn (Wp.cS hs beq_iff_eq hS (λhS=>?_) (λhS=>?_))
   ·refine qg (sP3 (.int .u64 x11) (iv (if from2>0 then from2 else 0)) (iv (bAnd .i64 (if from2>0 then from2 else 0) 63)) hs λ_ hs=>?_);obtain⟨h0,hS⟩:=hS;refine sY (.int .u64 (bShr .u64 x11 (bAnd .i64 (if from2>0 then from2 else 0) 63))) hs (Yl.shr rfl rfl rfl rfl h0) λ_ hs=>?_;refine sP2 (iv (if from2>0 then from2 else 0)) (iv (bAnd .i64 (if from2>0 then from2 else 0) 63)) hs λ_ hs=>?_;obtain⟨h0,hS⟩:=hS;refine sY (.int .u64 (bShl .u64 (bShr .u64 x11 (bAnd .i64 (if from2>0 then from2 else 0) 63)) (bAnd .i64 (if from2>0 then from2 else 0) 63))) hs (Yl.shl rfl rfl rfl rfl h0) λ_ hs=>?_;refine sP (.int .u64 (bShl .u64 (bShr .u64 x11 (bAnd .i64 (if from2>0 then from2 else 0) 63)) (bAnd .i64 (if from2>0 then from2 else 0) 63))) hs λ_ hs=>?_;exact wn (⟨(bShl .u64 (bShr .u64 x11 (bAnd .i64 (if from2>0 then from2 else 0) 63)) (bAnd .i64 (if from2>0 then from2 else 0) 63)),hs.q,hS⟩)
   ·exact qk (⟨x11,hs.q,hS⟩)
  ·intro a w hJ;obtain⟨w12,hs,hS⟩:=hJ;unfold S_set_First_J1 at hS;refine qr (sP2 (.int .u64 w12) (.bool ((w12:Int) != (0:Int))) hs λ_ hs=>?_);refine wn (Wp.cS hs bne_iff_ne hS (λhS=>?_) (λhS=>?_))
   ·refine qr (sP3 (iv i_8) (iv (bShl .i64 i_8 6)) (.int .u64 w12) hs λ_ hs=>?_);refine cP [(.int .u64 w12)] hs Tryd.func52 hS λ_ _ v hS hs=>?_;obtain⟨x13,rfl,hS⟩:=hS;obtain⟨hI,hS⟩:=hS;refine sY (iv ((bShl .i64 i_8 6)+x13)) hs (Yl.wr hI) λ_ hs=>?_;refine sP (iv ((bShl .i64 i_8 6)+x13)) hs λ_ hs=>?_;exact wn (qt (rT hs hMM hS))
   ·refine qk (qg (sP (iv i_8) hs λ_ hs=>?_));obtain⟨hI,hS⟩:=hS;refine sY (iv (i_8+1)) hs (Yl.wr hI) λ_ hs=>?_;refine sP (iv (i_8+1)) hs λ_ hs=>?_;exact wn (⟨(i_8+1),⟨hs.q,hS.1⟩,hS.2⟩)
 ·refine qx rfl (qr (sP (iv (-1)) hs λ_ hs=>?_));exact wn (qt (rT hs hMM hS))
end Go.Proofs.YtjecddabdlapbaaDoor.core

