/- Contracts and what they hang on, of several parts. No condition. -/
import Derived.WalkKit
import Derived.WalkSpells
import Derived.WalkLawsBesides
import Derived.Deep.Quiet
import Derived.OrdersHeld
import Derived.Laws.StructEq
import Derived.Maps.AppendAt
import Derived.Laws.MakeOwn
import Derived.Laws.IdiomStrings
import Derived.ProofKit
import Derived.OpenShut
import Derived.ShutString
import Derived.ChangeOld
import Derived.Carry
import Derived.Laws.Externs
import Derived.Lib.Bytealg
import Derived.SizedLaws
import Derived.JoinedCond
import Derived.Deep.CondSized
import Derived.Maps.Keyed
import Derived.DeepKeys3
import Derived.ChangeMaps4
import Derived.Lib.OthersKept
import GoSem.Extern.BytealgCount
import Derived.Test.YtjecddabdlapbaaDoorRows
import Derived.Deep.DeepHandedRow
import Derived.Lib.LaidTab
import Derived.Stop.LaidErr
import Derived.Lay
import Derived.LaidMore
import Derived.Stop.Joined
namespace Go.Gx
open Go.RowKit
abbrev Env:=List (Nat×Value)
def lk:Env->Nat->Option Value
 |[],_=>none
 |(k,v)::r,x=>match Nat.beq k x with
  |true=>some v
  |false=>lk r x
theorem lk_cons (k:Nat) (v:Value) (r:Env) (x:Nat):lk ((k,v)::r) x=if k=x then some v else lk r x:=by
 show(match Nat.beq k x with|true=>some v|false=>lk r x)=_
 by_cases h:k=x
 ·subst h;simp
 ·have:Nat.beq k x=false:=by
   cases hb:Nat.beq k x
   ·rfl
   ·exact absurd (Nat.eq_of_beq_eq_true hb) h
  simp[this,h]
structure Ag (n:Nat) (a:Act) (env:Env):Prop where
 df:a.defers=[]
 sz:a.tmps.size=n
 at_:∀x v,lk env x=some v->a.tmps.getD x undef=v
theorem Ag.put {n:Nat} {a:Act} {env:Env} (h:Ag n a env) {d:Nat} (hd:d<n) (v:Value):Ag n (a.put (some d) v) ((d,v)::env):=by
 refine⟨h.df,by simp[Act.put,h.sz],λx u hx=>?_⟩
 rw[lk_cons]at hx
 by_cases hk:d=x
 ·subst hk
  simp only[if_true,Option.some.injEq]at hx
  subst hx
  simp[Act.put,h.sz,hd]
 ·rw[if_neg hk]at hx
  have:=h.at_ x u hx
  simp only[Act.put,Array.getD_eq_getD_getElem?,Array.getElem?_setIfInBounds_ne hk]at this ⊢
  exact this
theorem Ag.sub {n:Nat} {a:Act} {env:Env} (h:Ag n a env) (env':Env) (hs:∀p∈env',lk env p.1=some p.2):Ag n a env':=by
 refine⟨h.df,h.sz,λx v hx=>h.at_ x v ?_⟩
 clear h
 induction env' with
 |nil=>cases hx
 |cons p r ih=>
  obtain⟨k,u⟩:=p
  rw[lk_cons]at hx
  by_cases hk:k=x
  ·subst hk
   simp only[if_true,Option.some.injEq]at hx
   subst hx
   exact hs (k,u) (by simp)
  ·rw[if_neg hk]at hx
   exact ih (λq hq=>hs q (List.mem_cons_of_mem _ hq)) hx
def evT (env:Env):Operand->Value
 | .tmp t=>(lk env t).getD undef
 | .const v=>v
 | .global g=>.pointer (some ⟨g,0,none⟩)
 | .func f=>.func (.func f) #[] #[]
def known (env:Env):Operand->Bool
 | .tmp t=>(lk env t).isSome
 |_=>true
theorem Ag.eval {n:Nat} {a:Act} {env:Env} (h:Ag n a env) {x:Operand} (hk:known env x=true):a.eval x=evT env x:=by
 cases x with
 |tmp t=>
  simp only[known]at hk
  obtain⟨v,hv⟩:=Option.isSome_iff_exists.1 hk
  simp[Act.eval,evT,hv,h.at_ t v hv]
 |_=>rfl
def notSel:Op->Bool
 | .select .. =>false
 |_=>true
def okOp (env:Env) (o:Oper):Bool:=notSel o.op&&o.op.operands.toList.all (known env)
theorem Ag.exec {n:Nat} {a:Act} {env:Env} (h:Ag n a env) {o:Oper} (hk:okOp env o=true):execOp a.eval o=execOp (evT env) o:=by
 simp only[okOp,Bool.and_eq_true]at hk
 refine execOp_congr o (λcs b e=>?_) λx hx=>h.eval ?_
 ·rw[e]at hk;simp[notSel]at hk
 ·have:=List.all_eq_true.1 hk.2 x (by simpa using hx)
  exact this
structure Bx where
 b:Nat
 t:TypeId
 cs:List Value
def BxAt (w:World) (x:Bx):Prop:=w.heap[x.b]?=some (.cells x.cs.toArray x.t (0,0))
structure Rw where
 v:Value
 e:TypeId
 size:Nat
 n:Nat
 xs:List Value
 own:Bool
abbrev Mem:=Nat->Option Obj
def Mem.le (M M':Mem):Prop:=∀b o,M b=some o->M' b=some o
def On (M:Mem) (w:World):Prop:=∀b o,M b=some o->w.heap[b]?=some o
theorem Mem.le.refl (M:Mem):M.le M:=λ_ _ h=>h
theorem Mem.le.trans {A B C:Mem} (h:A.le B) (k:B.le C):A.le C:=λb o q=>k b o (h b o q)
theorem On.lt {M:Mem} {w:World} (h:On M w) {b:Nat} {o:Obj} (hb:M b=some o):b<w.heap.size:=(Array.getElem?_eq_some_iff.1 (h b o hb)).1
theorem On.noneAt {M:Mem} {w:World} (h:On M w) {b:Nat} (hb:w.heap.size<=b):M b=none:=by
 cases hm:M b with
 |none=>rfl
 |some o=>have:=h.lt hm;omega
structure Pres (E:World) (bw:List Nat) (w:World):Prop where
 os:w.os=E.os
 tape:w.tape=E.tape
 output:w.output=E.output
 size:E.heap.size<=w.heap.size
 block:∀k,k<E.heap.size->k∉bw->w.heap[k]?=E.heap[k]?
theorem Pres.refl (E:World) (bw:List Nat):Pres E bw E:=⟨rfl,rfl,rfl,Nat.le_refl _,λ_ _ _=>rfl⟩
theorem Pres.below {E w:World} (h:Pres E [] w):Below E.heap.size E w:=⟨h.os,h.tape,h.output,h.size,λk hk=>h.block k hk (by simp)⟩
structure Cx (M:Mem) (bs:List Bx) (rs:List Rw) (w:World):Prop where
 on:On M w
 bx:∀x∈bs,BxAt w x
 rw:∀r∈rs,∃base,w.ownsRow base r.e r.size r.v r.n r.xs
structure Nd (bs:List Bx) (rs:List Rw):Prop where
 b:(bs.map (·.b)).Nodup
 x:∀x∈bs,∀r∈rs,r.v.ownBlock≠some x.b
 r:rs.Pairwise λr s=>∀g,r.v.ownBlock=some g->s.v.ownBlock≠some g
theorem Nd.sub {bs bs':List Bx} {rs rs':List Rw} (h:Nd bs rs) (hb:bs'.Sublist bs) (hr:rs'.Sublist rs):Nd bs' rs':=
 ⟨h.b.sublist (hb.map _),λx hx r hr'=>h.x x (hb.subset hx) r (hr.subset hr'),h.r.sublist hr⟩
structure Sx (n:Nat) (E:World) (bw:List Nat) (M:Mem) (w:World) (a:Act) (env:Env) (bs:List Bx) (rs:List Rw):Prop where
 ag:Ag n a env
 on:On M w
 pr:Pres E bw w
 bx:∀x∈bs,BxAt w x/\M x.b=none/\(E.heap.size<=x.b\/x.b∈bw)
 rw:∀r∈rs,w.ownsRow 0 r.e r.size r.v r.n r.xs/\∀g,r.v.ownBlock=some g->M g=none/\(E.heap.size<=g\/(r.own=false/\g∈bw))
 nd:Nd bs rs
theorem BxAt.lt {w:World} {x:Bx} (h:BxAt w x):x.b<w.heap.size:=by
 unfold BxAt at h
 rcases Nat.lt_or_ge x.b w.heap.size with h'|h'
 ·exact h'
 ·rw[Array.getElem?_eq_none h']at h;cases h
theorem BxAt.cell {w:World} {x:Bx} (h:BxAt w x) (i:Nat):w.cell? ⟨x.b,i,none⟩=x.cs[i]?:=by
 rw[cell_of_row w x.b i x.cs.toArray x.t (0,0) h];simp
theorem Sx.cx {n:Nat} {E:World} {bw:List Nat} {M:Mem} {w:World} {a:Act} {env:Env} {bs:List Bx} {rs:List Rw} (h:Sx n E bw M w a env bs rs):Cx M bs rs w:=
 ⟨h.on,λx hx=>(h.bx x hx).1,λr hr=>⟨_,(h.rw r hr).1⟩⟩
theorem Sx.act {n:Nat} {E:World} {bw:List Nat} {M:Mem} {w:World} {a a':Act} {env env':Env} {bs:List Bx} {rs:List Rw} (h:Sx n E bw M w a env bs rs) (hA:Ag n a' env'):Sx n E bw M w a' env' bs rs:=
 ⟨hA,h.on,h.pr,h.bx,h.rw,h.nd⟩
theorem Sx.sub {n:Nat} {E:World} {bw:List Nat} {M:Mem} {w:World} {a:Act} {env:Env} {bs:List Bx} {rs:List Rw} (h:Sx n E bw M w a env bs rs) (env':Env) (hs:∀p∈env',lk env p.1=some p.2):Sx n E bw M w a env' bs rs:=
 h.act (h.ag.sub env' hs)
def Yl (P:Program) (env:Env) (M:Mem) (bs:List Bx) (rs:List Rw) (o:Oper) (v:Value):Prop:=
 okOp env o=true/\∀w,Cx M bs rs w->(execOp (evT env) o).run P w= .ok (.value v) w
theorem Yl.pure {P:Program} {env:Env} {M:Mem} {bs:List Bx} {rs:List Rw} {o:Oper} {v:Value} (hk:okOp env o=true)
  (h:∀w,(execOp (evT env) o).run P w= .ok (.value v) w):Yl P env M bs rs o v:=⟨hk,λw _=>h w⟩
theorem Yl.eq {P:Program} {env:Env} {M:Mem} {bs:List Bx} {rs:List Rw} {o:Oper} {v v':Value} (h:Yl P env M bs rs o v) (e:v=v'):Yl P env M bs rs o v':=e▸h
def lkX:List (Nat×(Act->World->Prop))->Nat->Option (Act->World->Prop)
 |[],_=>none
 |(k,v)::r,x=>match Nat.beq k x with
  |true=>some v
  |false=>lkX r x
def QQ (N:Act->World->Prop) (X:List (Nat×(Act->World->Prop))) (R:Act->World->Prop) (Z:List PanicEntry->Act->World->Prop):Exit->Act->World->Prop
 | .normal,a,w=>N a w
 | .exit id,a,w=>match lkX X id with
  |some K=>K a w
  |none=>False
 | .ret,a,w=>R a w
 | .panic c,a,w=>Z c a w
 |_,_,_=>False
def Wp (P:Program) (c:Code) (N:Act->World->Prop) (X:List (Nat×(Act->World->Prop))) (R:Act->World->Prop) (Z:List PanicEntry->Act->World->Prop) (a:Act) (w:World):Prop:=
 Code.wp P c (QQ N X R Z) a w
section
variable {P:Program} {N J:Act->World->Prop} {X:List (Nat×(Act->World->Prop))} {R:Act->World->Prop} {Z:List PanicEntry->Act->World->Prop} {a:Act} {w:World}
theorem Wp.mono {c:Code} {N':Act->World->Prop} (hN:∀a w,N a w->N' a w) (h:Wp P c N X R Z a w):Wp P c N' X R Z a w:=
 Code.wp_mono (λe a w q=>by cases e<;>first|exact hN _ _ q|exact q) h
theorem Wp.seq {x y:Code} (h:Wp P x (λa w=>Wp P y N X R Z a w) X R Z a w):Wp P (.seq x y) N X R Z a w:=
 wp_seq (Code.wp_mono (λe a w q=>by cases e<;>exact q) h)
theorem Wp.join {x y:Code} (J:Act->World->Prop) (h:Wp P x J X R Z a w) (hJ:∀a w,J a w->Wp P y N X R Z a w):Wp P (.seq x y) N X R Z a w:=
 Wp.seq (Wp.mono hJ h)
theorem Wp.skip (h:N a w):Wp P .skip N X R Z a w:=wp_skip h
theorem Wp.ret (h:R a w):Wp P .ret N X R Z a w:=wp_ret h
theorem Wp.exit {id:Nat} {K:Act->World->Prop} (hx:lkX X id=some K) (h:K a w):Wp P (.exit id) N X R Z a w:=
 wp_exit (by unfold QQ;simp only[hx];exact h)
theorem Wp.block {id:Nat} {c:Code} (h:Wp P c N ((id,N)::X) R Z a w):Wp P (.block id c) N X R Z a w:=by
 refine wp_block (Code.wp_mono (λe a w q=>?_) h)
 cases e with
 |exit i=>
  simp only[QQ,lkX,Exit.inBlock]at q ⊢
  by_cases hi:i=id
  ·subst hi
   have:Nat.beq i i=true:=by simp
   simp only[this]at q
   simpa using q
  ·have:Nat.beq id i=false:=by
    cases hb:Nat.beq id i
    ·rfl
    ·exact absurd (Nat.eq_of_beq_eq_true hb).symm hi
   simp only[this]at q
   simp only[hi,if_false]
   exact q
 |_=>exact q
theorem Wp.loop {σ:Type} {c:Code} (I:σ->Act->World->Prop) (μ:σ->Nat) (s0:σ) (h0:I s0 a w)
  (round:∀s a w,I s a w->Wp P c (λa' w'=>∃s',I s' a' w'/\μ s'<μ s) X R Z a w):Wp P (.loop c) N X R Z a w:=by
 classical
 have least:∀m (a:Act) (w:World),(∃s,I s a w/\μ s=m)->∃s,I s a w/\∀s',I s' a w->μ s<=μ s':=by
  intro m
  induction m using Nat.strongRecOn with
  |_ m ih=>
   intro a w ⟨s,hs,hm⟩
   by_cases hx:∃s',I s' a w/\μ s'<m
   ·obtain⟨s',h1,h2⟩:=hx
    exact ih _ h2 a w ⟨s',h1,rfl⟩
   ·exact⟨s,hs,λs' h'=>by
     rcases Nat.lt_or_ge (μ s') m with h2|h2
     ·exact absurd ⟨s',h',h2⟩ hx
     ·omega⟩
 let M:Act->World->Nat:=λa w=>if h:∃s,I s a w then μ (Classical.choose (least _ a w ⟨_,(Classical.choose_spec h),rfl⟩)) else 0
 have hM:∀s a w,I s a w->M a w<=μ s:=by
  intro s a w hs
  have h:∃s,I s a w:=⟨s,hs⟩
  simp only[M,dif_pos h]
  exact(Classical.choose_spec (least _ a w ⟨_,(Classical.choose_spec h),rfl⟩)).2 s hs
 refine wp_loop (λa w=>∃s,I s a w) M ⟨s0,h0⟩ (λa w hI=>?_)
 have hc:=Classical.choose_spec (least _ a w ⟨_,(Classical.choose_spec hI),rfl⟩)
 have he:M a w=μ (Classical.choose (least _ a w ⟨_,(Classical.choose_spec hI),rfl⟩)):=by simp only[M,dif_pos hI]
 refine Code.wp_mono (λe a' w' q=>?_) (round _ a w hc.1)
 cases e with
 |normal=>
  obtain⟨s',h1,h2⟩:=q
  refine⟨⟨s',h1⟩,?_⟩
  rw[he]
  exact Nat.lt_of_le_of_lt (hM s' a' w' h1) h2
 |_=>exact q
theorem Wp.cond {n:Nat} {E:World} {bw:List Nat} {M:Mem} {env:Env} {bs:List Bx} {rs:List Rw} (hs:Sx n E bw M w a env bs rs) {c:Operand} {x y:Code} {b:Bool} {p:Prop}
  (hk:known env c=true) (hc:evT env c= .bool b) (hp:b=true↔p) (h1:p->Wp P x N X R Z a w) (h2:¬p->Wp P y N X R Z a w):Wp P (.cond c x y) N X R Z a w:=by
 refine wp_cond_split (t:=b) ((hs.ag.eval hk).trans hc) (λe=>h1 (hp.1 e)) (λe=>h2 λq=>?_)
 have:=hp.2 q
 rw[e]at this
 cases this
end
def OpW (P:Program) (ρ:Operand->Value) (o:Oper) (w:World) (K:Value->World->Prop) (Z:List PanicEntry->World->Prop):Prop:=
 match (execOp ρ o).run P w with
 | .ok (.value v) w'=>K v w'
 | .ok .skip w'=>K undef w'
 | .ok (.enter f args) w'=>Calls P f args w' λ
  | .returned v,w''=>K v w''
  | .panicked c,w''=>Z c w''
  | .outgrown,_=>False
 | .halt (.panic v) w'=>Z [{v,recovered:=false}] w'
 |_=>False
theorem OpW.upon {P:Program} {o:Oper} {a:Act} {w:World} {next:Act->World->Prop} {Q:Exit->Act->World->Prop} {Z:List PanicEntry->World->Prop}
  (hZ:∀c w,Z c w->Q (.panic c) a w)
  (h:OpW P a.eval o w (λv w'=>next (a.put o.dst v) w') Z):o.wp P a w next Q:=by
 unfold OpW at h
 unfold Oper.wp
 generalize (execOp a.eval o).run P w=r at*
 cases r with
 |ok n w'=>
  cases n<;>simp only[Oper.upon]at h ⊢<;>try exact h
  case enter f args=>
   refine Calls.mono h λe w'' he=>?_
   cases e with
   |returned v=>exact he
   |panicked c=>exact hZ _ _ he
   |outgrown=>exact he.elim
 |halt x w'=>cases x<;>simp only[Oper.upon]at h ⊢<;>first|exact hZ _ _ h|exact h
section
variable {P:Program} {ops:Array Oper} {Q:Exit->Act->World->Prop} {n:Nat} {E:World} {bw:List Nat} {M:Mem} {w:World} {a:Act} {env:Env} {bs:List Bx} {rs:List Rw} {rest:List Oper} {o:Oper}
theorem stepY (v:Value) {d:Nat} (hs:Sx n E bw M w a env bs rs) (hg:o.guard=none) (hd:o.dst=some d) (hdn:d<n) (hy:Yl P env M bs rs o v)
  (h:∀a',Sx n E bw M w a' ((d,v)::env) bs rs->wpList P ops Q rest a' w):wpList P ops Q (o::rest) a w:=by
 refine wpList_plain hg λK hK=>?_
 have he:(execOp a.eval o).run P w= .ok (.value v) w:=by rw[hs.ag.exec hy.1];exact hy.2 w hs.cx
 unfold Oper.wp
 rw[he]
 refine hK _ _ ?_
 rw[hd]
 exact h _ (hs.act (hs.ag.put hdn v))
theorem yielded_of {j t:Nat} {b:Bool} (hs:Sx n E bw M w a env bs rs) (ht:(ops[j]?).bind (·.dst)=some t) (hl:lk env t=some (.bool b)):yielded ops a.tmps j=some b:=by
 have hlt:t<a.tmps.size:=by
  rcases Nat.lt_or_ge t a.tmps.size with h'|h'
  ·exact h'
  ·have:=hs.ag.at_ t _ hl
   simp[Array.getElem?_eq_none h',undef]at this
 have hat:a.tmps[t]?=some (.bool b):=by
  have:=hs.ag.at_ t _ hl
  simp only[Array.getD_eq_getD_getElem?,Array.getElem?_eq_getElem hlt,Option.getD_some]at this ⊢
  rw[this]
 simp[yielded,ht,hat]
theorem step_yes {j t:Nat} {b:Bool} (hs:Sx n E bw M w a env bs rs) (hg:o.guard=some (j,b)) (ht:(ops[j]?).bind (·.dst)=some t) (hl:lk env t=some (.bool b))
  (h:wpList P ops Q ({o with guard:=none}::rest) a w):wpList P ops Q (o::rest) a w:=by
 have hw:Region.wanted o (yielded ops a.tmps)=true:=by simp[Region.wanted,hg,yielded_of hs ht hl]
 unfold wpList at h ⊢
 rw[if_pos (by simp[Region.wanted])]at h
 rw[if_pos hw]
 exact h
theorem step_no {j t d:Nat} {b c:Bool} (hs:Sx n E bw M w a env bs rs) (hg:o.guard=some (j,b)) (ht:(ops[j]?).bind (·.dst)=some t) (hl:lk env t=some (.bool c)) (hne:(c==b)=false)
  (hd:o.dst=some d) (hdn:d<n) (h:∀a',Sx n E bw M w a' ((d,undef)::env) bs rs->wpList P ops Q rest a' w):wpList P ops Q (o::rest) a w:=by
 have hw:Region.wanted o (yielded ops a.tmps)=false:=by
  simp[Region.wanted,hg,yielded_of hs ht hl]
  simpa using hne
 unfold wpList
 rw[if_neg (by simp[hw]),hd]
 exact h _ (hs.act (hs.ag.put hdn undef))
theorem step_nou {j t d:Nat} {b:Bool} (hs:Sx n E bw M w a env bs rs) (hg:o.guard=some (j,b)) (ht:(ops[j]?).bind (·.dst)=some t) (hl:lk env t=some undef)
  (hd:o.dst=some d) (hdn:d<n) (h:∀a',Sx n E bw M w a' ((d,undef)::env) bs rs->wpList P ops Q rest a' w):wpList P ops Q (o::rest) a w:=by
 have hy:yielded ops a.tmps j=none:=by
  have:=hs.ag.at_ t _ hl
  simp only[Array.getD_eq_getD_getElem?]at this
  cases hc:a.tmps[t]? with
  |none=>simp[yielded,ht,hc]
  |some u=>rw[hc]at this;simp only[Option.getD_some]at this;subst this;simp[yielded,ht,hc,undef]
 have hw:Region.wanted o (yielded ops a.tmps)=false:=by simp[Region.wanted,hg,hy]
 unfold wpList
 rw[if_neg (by simp[hw]),hd]
 exact h _ (hs.act (hs.ag.put hdn undef))
theorem Sx.bt {d:Nat} {b:Bool} (hs:Sx n E bw M w a ((d,.bool b)::env) bs rs) (h:b=true):Sx n E bw M w a ((d,.bool true)::env) bs rs:=h▸hs
theorem Sx.bf {d:Nat} {b:Bool} (hs:Sx n E bw M w a ((d,.bool b)::env) bs rs) (h:b=false):Sx n E bw M w a ((d,.bool false)::env) bs rs:=h▸hs
end
theorem bsplit {G:Prop} (b:Bool) {p:Prop} (hp:b=true↔p) (h1:b=true->p->G) (h2:b=false->¬p->G):G:=by
 cases hb:b
 ·exact h2 hb λq=>by rw[hp.2 q]at hb;cases hb
 ·exact h1 hb (hp.1 hb)
section
variable {P:Program} {N:Act->World->Prop} {X:List (Nat×(Act->World->Prop))} {R:Act->World->Prop} {Z:List PanicEntry->Act->World->Prop} {a:Act} {w:World}
theorem Wp.region {id:Nat} {l:List Oper} (h:wpList P l.toArray (QQ N X R Z) l a w):Wp P (.region id l.toArray false) N X R Z a w:=wp_region_lit h
end
def argEnv:List Value->Nat->Env
 |[],_=>[]
 |v::r,i=>(i,v)::argEnv r (i+1)
theorem lk_argEnv (l:List Value):∀(i x:Nat) (v:Value),lk (argEnv l i) x=some v->i<=x/\l[x-i]?=some v:=by
 induction l with
 |nil=>intro i x v h;cases h
 |cons u r ih=>
  intro i x v h
  rw[argEnv,lk_cons]at h
  by_cases hx:i=x
  ·subst hx;simpa using h
  ·rw[if_neg hx]at h
   obtain⟨h1,h2⟩:=ih (i+1) x v h
   refine⟨by omega,?_⟩
   obtain⟨k,rfl⟩:∃k,x=i+1+k:=⟨x-(i+1),by omega⟩
   rw[show i+1+k-i=k+1 by omega]
   rw[show i+1+k-(i+1)=k by omega]at h2
   simpa using h2
theorem enter {P:Program} {f:FuncId} {fn:Func} {c:Code} {l:List Value} {w:World} {Rf:Ending->World->Prop} {M:Mem}
  (hf:P.funcs[f]?=some fn) (hb:fn.body=some c) (n:Nat) (hn:fn.ntmps=n) (hl:l.length<=n) (hon:On M w) (lent:List Bx)
  (hlent:∀x∈lent,BxAt w x/\M x.b=none) (hnd:(lent.map (·.b)).Nodup)
  (h:∀a,Sx n w (lent.map (·.b)) M w a (argEnv l 0) lent []->Wp P c (λa w=>bodyPost P fn Rf .normal a w) [] (λa w=>bodyPost P fn Rf .ret a w) (λch a w=>bodyPost P fn Rf (.panic ch) a w) a w):
  Calls P f l.toArray w Rf:=by
 refine calls_of_wp hf hb ?_
 refine Code.wp_mono (λe a w q=>?_) (h _ ⟨⟨rfl,?_,λx v hx=>?_⟩,hon,Pres.refl _ _,λx hx=>⟨(hlent x hx).1,(hlent x hx).2,.inr (List.mem_map.2 ⟨x,hx,rfl⟩)⟩,(λr hr=>by cases hr),⟨hnd,(λ_ _ r hr=>by cases hr),List.Pairwise.nil⟩⟩)
 ·cases e<;>first|exact q|exact False.elim q
 ·simp[hn];omega
 ·obtain⟨_,h2⟩:=lk_argEnv l 0 x v hx
  simp only[Nat.sub_zero]at h2
  have hx':x<l.length:=by
   rcases Nat.lt_or_ge x l.length with h'|h'
   ·exact h'
   ·rw[List.getElem?_eq_none h']at h2;cases h2
  simp only[Array.getD_eq_getD_getElem?]
  rw[Array.getElem?_append_left (by simpa using hx')]
  simp[h2]
def grow (M:Mem) (w w':World):Mem:=λb=>if w.heap.size<=b then w'.heap[b]? else M b
theorem grow_le {M:Mem} {w w':World} (h:On M w):M.le (grow M w w'):=by
 intro b o hb
 have:=h.lt hb
 unfold grow
 rw[if_neg (by omega)]
 exact hb
def CallE (P:Program) (f:FuncId) (args:Array Value) (M:Mem) (K:Value->Mem->Prop):Prop:=
 ∀w,On M w->Calls P f args w λe w'=>∃v,e= .returned v/\Below w.heap.size w w'/\K v (grow M w w')
theorem CallE.mono {P:Program} {f:FuncId} {args:Array Value} {M:Mem} {K K':Value->Mem->Prop} (h:CallE P f args M K) (hK:∀v M',M.le M'->K v M'->K' v M'):CallE P f args M K':=
 λw hw=>(h w hw).mono λ_ _ ⟨v,h1,h2,h3⟩=>⟨v,h1,h2,hK v _ (grow_le hw) h3⟩
theorem enterE {P:Program} {f:FuncId} {fn:Func} {c:Code} {l:List Value} {M:Mem} {K:Value->Mem->Prop}
  (hf:P.funcs[f]?=some fn) (hb:fn.body=some c) (n:Nat) (hn:fn.ntmps=n) (hl:l.length<=n)
  (h:∀w a,Sx n w [] M w a (argEnv l 0) [] []->Wp P c (λa' w'=>a'.defers=[]/\∃v,(results fn a'.tmps).run P w'= .ok v w'/\Below w.heap.size w w'/\K v (grow M w w')) []
   (λa' w'=>a'.defers=[]/\∃v,(results fn a'.tmps).run P w'= .ok v w'/\Below w.heap.size w w'/\K v (grow M w w')) (λ_ _ _=>False) a w):
  CallE P f l.toArray M K:=by
 intro w hw
 refine enter (Rf:=λe w'=>∃v,e= .returned v/\Below w.heap.size w w'/\K v (grow M w w')) hf hb n hn hl hw [] (by simp) (by simp) (λa hs=>?_)
 refine Code.wp_mono (λe a' w' q=>?_) (h w a (by simpa using hs))
 cases e with
 |normal=>obtain⟨h1,v,h2,h3,h4⟩:=q;exact⟨h1,v,h2,v,rfl,h3,h4⟩
 |ret=>obtain⟨h1,v,h2,h3,h4⟩:=q;exact⟨h1,v,h2,v,rfl,h3,h4⟩
 |_=>exact q.elim
theorem leaveE {P:Program} {fn:Func} {n:Nat} {E:World} {M0 M:Mem} {w:World} {a:Act} {env:Env} {bs:List Bx} {rs:List Rw} {K:Value->Mem->Prop} {v:Value}
  (hs:Sx n E [] M w a env bs rs) (hr:(results fn a.tmps).run P w= .ok v w) (hM:∀b o,M b=some o->M0 b=some o\/E.heap.size<=b) (hK:∀M',M.le M'->K v M'):
  a.defers=[]/\∃v,(results fn a.tmps).run P w= .ok v w/\Below E.heap.size E w/\K v (grow M0 E w):=by
 refine⟨hs.ag.df,v,hr,hs.pr.below,hK _ λb o hb=>?_⟩
 unfold grow
 by_cases hk:E.heap.size<=b
 ·rw[if_pos hk];exact hs.on b o hb
 ·rw[if_neg hk]
  rcases hM b o hb with h|h
  ·exact h
  ·omega
theorem resT {P:Program} {fn:Func} {n:Nat} {E:World} {bw:List Nat} {M:Mem} {w:World} {a:Act} {env:Env} {bs:List Bx} {rs:List Rw} {t:Nat} {v:Value} (hs:Sx n E bw M w a env bs rs) (hr:fn.results= #[.tmp t]) (hv:lk env t=some v):
  (results fn a.tmps).run P w= .ok v w:=by rw[results_tmp hr,hs.ag.at_ t v hv]
theorem resTT {P:Program} {fn:Func} {n:Nat} {E:World} {bw:List Nat} {M:Mem} {w:World} {a:Act} {env:Env} {bs:List Bx} {rs:List Rw} {t u:Nat} {v x:Value} (hs:Sx n E bw M w a env bs rs) (hr:fn.results= #[.tmp t,.tmp u]) (hv:lk env t=some v) (hx:lk env u=some x):
  (results fn a.tmps).run P w= .ok (.tuple #[v,x]) w:=by rw[results_tmp2 hr,hs.ag.at_ t v hv,hs.ag.at_ u x hx]
theorem add_lit (b o n:Nat):(⟨b,o,none⟩:Addr).add n=⟨b,o+n,none⟩:=by unfold Addr.add;split<;>simp_all
theorem run_load_one {P:Program} {w:World} {a:Addr} {v:Value} {t:TypeId} {d:TypeDesc} (hu:P.underlying t=some d) (hd:(match d with| .struct _| .array _ _=>true|_=>false)=false)
  (h:w.cell? a=some v):(loadVar t a).run P w= .ok v w:=by
 cases d<;>simp at hd<;>simp[loadVar,isAgg,run_underlying hu,h,go_sem]
theorem run_load_agg {P:Program} {w:World} {a:Addr} {vs:List Value} {t:TypeId} {d:TypeDesc} {n:Nat} (hu:P.underlying t=some d) (hd:(match d with| .struct _| .array _ _=>true|_=>false)=true)
  (hn:(P.info? t).map (·.size)=some n) (hl:vs.length=n) (h:∀j v,vs[j]?=some v->w.cell? (a.add j)=some v):(loadVar t a).run P w= .ok (.agg vs.toArray) w:=by
 subst hl
 have hls:=run_loadCells_list (P:=P) w a vs h
 cases hi:P.info? t with
 |none=>simp[hi]at hn
 |some i=>
  simp[hi]at hn
  rw[<-hn]at hls
  cases d<;>simp at hd<;>simp[loadVar,isAgg,run_underlying hu,sizeOf,typeInfo,hi,hls]
def isAggD:Option TypeDesc->Bool
 |some (.struct _)|some (.array _ _)=>true
 |_=>false
def Mem.cell (M:Mem) (b i:Nat):Option Value:=match M b with
 |some (.cells c _ _)=>c[i]?
 |_=>none
theorem On.cell {M:Mem} {w:World} (h:On M w) {b i:Nat} {v:Value} (hc:M.cell b i=some v):w.cell? ⟨b,i,none⟩=some v:=by
 unfold Mem.cell at hc
 split at hc
 ·rename_i c e f hm
  rw[cell_of_row w b i c e f (h _ _ hm)]
  exact hc
 ·cases hc
theorem Mem.le.cell {M M':Mem} (h:M.le M') {b i:Nat} {v:Value} (hc:M.cell b i=some v):M'.cell b i=some v:=by
 unfold Mem.cell at hc ⊢
 split at hc
 ·rename_i c e f hm
  rw[h _ _ hm]
  exact hc
 ·cases hc
def At (M:Mem) (b o:Nat) (vs:List Value):Prop:=∀j v,vs[j]?=some v->M.cell b (o+j)=some v
theorem At.le {M M':Mem} {b o:Nat} {vs:List Value} (h:At M b o vs) (hl:M.le M'):At M' b o vs:=λj v hj=>hl.cell (h j v hj)
theorem At.part {M:Mem} {b o:Nat} {vs:List Value} (h:At M b o vs) (k:Nat) (us:List Value) (hk:(vs.drop k).take us.length=us):At M b (o+k) us:=by
 intro j u hj
 rw[Nat.add_assoc]
 refine h _ _ ?_
 have hjl:j<us.length:=(List.getElem?_eq_some_iff.1 hj).1
 rw[<-hk,List.getElem?_take,if_pos hjl,List.getElem?_drop]at hj
 exact hj
def ofCells (agg:Bool) (vs:List Value):Value:=
 match agg,vs with
 |false,[v]=>v
 |_,vs=>.agg vs.toArray
theorem run_load_at {P:Program} {w:World} {b o:Nat} {vs:List Value} {t:TypeId} {g:Bool} (hg:isAggD (P.underlying t)=g) (hsome:(P.underlying t).isSome=true)
  (hn:(P.info? t).map (·.size)=some vs.length) (h1:g=false->vs.length=1) (h:∀j v,vs[j]?=some v->w.cell? ⟨b,o+j,none⟩=some v):(loadVar t ⟨b,o,none⟩).run P w= .ok (ofCells g vs) w:=by
 cases hu:P.underlying t with
 |none=>simp[hu]at hsome
 |some d=>
  rw[hu]at hg
  cases g with
  |true=>
   rw[run_load_agg (d:=d) hu (by cases d<;>simp_all [isAggD]) hn rfl (λj v hj=>by rw[add_lit];exact h j v hj)]
   cases vs with
   |nil=>rfl
   |cons v r=>rfl
  |false=>
   obtain⟨v,rfl⟩:∃v,vs=[v]:=List.length_eq_one_iff.1 (h1 rfl)
   exact run_load_one (d:=d) hu (by cases d<;>simp_all [isAggD]) (h 0 v rfl)
def tyOk (P:Program) (t:TypeId) (g:Bool) (k:Nat):Bool:=isAggD (P.underlying t)==g&&(P.underlying t).isSome&&((P.info? t).map (·.size))==some k&&(g||k==1)
theorem tyOk_spec {P:Program} {t:TypeId} {g:Bool} {k:Nat} (h:tyOk P t g k=true):isAggD (P.underlying t)=g/\(P.underlying t).isSome=true/\(P.info? t).map (·.size)=some k/\(g=false->k=1):=by
 simp only[tyOk,Bool.and_eq_true,beq_iff_eq,Bool.or_eq_true]at h
 obtain⟨⟨⟨h1,h2⟩,h3⟩,h4⟩:=h
 exact⟨h1,h2,h3,λe=>h4.elim (λh4=>by rw[e]at h4;cases h4) λh4=>h4⟩
section
variable {P:Program} {env:Env} {M:Mem} {bs:List Bx} {rs:List Rw} {o:Oper}
theorem Yl.loadV {d:Option Tmp} {t ty:TypeId} {x:Operand} {pos:String} {af:Array Edge} {gd:Option (Nat×Bool)} {b k:Nat} {vs:List Value} (g:Bool) (hk:known env x=true) (hx:evT env x= .pointer (some ⟨b,k,none⟩))
  (ht:tyOk P t g vs.length=true) (h:At M b k vs):
  Yl P env M bs rs ⟨d,.load t x,ty,pos,af,gd⟩ (ofCells g vs):=by
 obtain⟨h1,h2,h3,h4⟩:=tyOk_spec ht
 refine⟨by simp[okOp,notSel,Op.operands,hk],λw hc=>?_⟩
 have:=run_load_at (P:=P) h1 h2 h3 h4 (λj v hj=>hc.on.cell (h j v hj))
 simp[execOp,Instr.loadAt,hx,Instr.sureAddr,this]
theorem Yl.loadB {d:Option Tmp} {t ty:TypeId} {x:Operand} {pos:String} {af:Array Edge} {gd:Option (Nat×Bool)} {b k:Nat} {cs vs:List Value} (g:Bool) (i:Nat) {bt:TypeId} (hi:bs[i]?=some ⟨b,bt,cs⟩) (hk:known env x=true) (hx:evT env x= .pointer (some ⟨b,k,none⟩))
  (ht:tyOk P t g vs.length=true) (hvs:(cs.drop k).take vs.length=vs):
  Yl P env M bs rs ⟨d,.load t x,ty,pos,af,gd⟩ (ofCells g vs):=by
 obtain⟨h1,h2,h3,h4⟩:=tyOk_spec ht
 refine⟨by simp[okOp,notSel,Op.operands,hk],λw hc=>?_⟩
 have hb:=hc.bx _ (List.mem_of_getElem? hi)
 have hat:∀j v,vs[j]?=some v->w.cell? ⟨b,k+j,none⟩=some v:=by
  intro j v hj
  rw[hb.cell]
  show cs[k+j]?=some v
  have hjl:j<vs.length:=(List.getElem?_eq_some_iff.1 hj).1
  rw[<-hvs,List.getElem?_take,if_pos hjl,List.getElem?_drop]at hj
  exact hj
 have:=run_load_at (P:=P) h1 h2 h3 h4 hat
 simp[execOp,Instr.loadAt,hx,Instr.sureAddr,this]
theorem Yl.indexS {d:Option Tmp} {t e ty:TypeId} {x i:Operand} {pos:String} {af:Array Edge} {gd:Option (Nat×Bool)} {b k l c sz:Nat} {ik:IntKind} {n:Int} {ad:Option Addr} (hkx:known env x=true) (hki:known env i=true)
  (hx:evT env x= .slice ad l c) (hi:evT env i= .int ik n) (hu:P.underlying t=some (.slice e)) (hn:(P.info? e).map (·.size)=some sz) (had:ad=some ⟨b,k,none⟩) (h0:0<=n) (hl:n<l):
  Yl P env M bs rs ⟨d,.indexAddr t x i,ty,pos,af,gd⟩ (.pointer (some ⟨b,k+n.toNat*sz,none⟩)):=by
 subst had
 refine⟨by simp[okOp,notSel,Op.operands,hkx,hki],λw _=>?_⟩
 cases hi':P.info? e with
 |none=>simp[hi']at hn
 |some ti=>
  simp[hi']at hn
  simp[execOp,Instr.indexAt,hx,hi,asIntOf,run_underlying hu,sizeOf,typeInfo,hi',h0,hl,go_sem,hn,add_lit]
end
section
variable {P:Program} {ops:Array Oper} {Q:Exit->Act->World->Prop} {n:Nat} {E:World} {bw:List Nat} {M:Mem} {w:World} {a:Act} {env:Env} {bs:List Bx} {rs:List Rw} {rest:List Oper} {o:Oper} {Z:List PanicEntry->World->Prop}
theorem stepK {d:Nat} (hs:Sx n E bw M w a env bs rs) (hZ:∀c w,Z c w->Q (.panic c) a w) (hg:o.guard=none) (hk:okOp env o=true) (hd:o.dst=some d) (hdn:d<n)
  (h:OpW P (evT env) o w (λv w'=>∀a',Ag n a' ((d,v)::env)->wpList P ops Q rest a' w') Z):wpList P ops Q (o::rest) a w:=by
 refine wpList_plain hg λK hK=>?_
 refine OpW.upon (Z:=Z) hZ ?_
 unfold OpW at h ⊢
 rw[hs.ag.exec hk]
 have key:∀v w',(∀a',Ag n a' ((d,v)::env)->wpList P ops Q rest a' w')->K (a.put o.dst v) w':=by
  intro v w' hh
  exact hK _ _ (hh _ (by rw[hd];exact hs.ag.put hdn v))
 generalize (execOp (evT env) o).run P w=r at*
 cases r with
 |ok x w'=>
  cases x<;>simp only at h ⊢<;>try exact key _ _ h
  case enter f args=>
   refine Calls.mono h λe w'' he=>?_
   cases e with
   |returned v=>exact key _ _ he
   |panicked c=>exact he
   |outgrown=>exact he
  all_goals exact h
 |halt x w'=>cases x<;>simp only at h ⊢<;>exact h
theorem stepK0 (hs:Sx n E bw M w a env bs rs) (hZ:∀c w,Z c w->Q (.panic c) a w) (hg:o.guard=none) (hk:okOp env o=true) (hd:o.dst=none)
  (h:OpW P (evT env) o w (λ_ w'=>∀a',Ag n a' env->wpList P ops Q rest a' w') Z):wpList P ops Q (o::rest) a w:=by
 refine wpList_plain hg λK hK=>?_
 refine OpW.upon (Z:=Z) hZ ?_
 unfold OpW at h ⊢
 rw[hs.ag.exec hk]
 have key:∀(v:Value) w',(∀a',Ag n a' env->wpList P ops Q rest a' w')->K (a.put o.dst v) w':=by
  intro v w' hh
  exact hK _ _ (hh _ (by rw[hd];exact hs.ag))
 generalize (execOp (evT env) o).run P w=r at*
 cases r with
 |ok x w'=>
  cases x<;>simp only at h ⊢<;>try exact key _ _ h
  case enter f args=>
   refine Calls.mono h λe w'' he=>?_
   cases e with
   |returned v=>exact key v _ he
   |panicked c=>exact he
   |outgrown=>exact he
  all_goals exact h
 |halt x w'=>cases x<;>simp only at h ⊢<;>exact h
theorem OpW.of_run {ρ:Operand->Value} {w':World} {v:Value} {K:Value->World->Prop}
  (h:(execOp ρ o).run P w= .ok (.value v) w') (hK:K v w'):OpW P ρ o w K Z:=by unfold OpW;rw[h];exact hK
theorem OpW.of_skip {ρ:Operand->Value} {w':World} {K:Value->World->Prop}
  (h:(execOp ρ o).run P w= .ok .skip w') (hK:K undef w'):OpW P ρ o w K Z:=by unfold OpW;rw[h];exact hK
theorem Sx.later {w':World} {M':Mem} (hs:Sx n E bw M w a env bs rs) (hb:Below w.heap.size w w') (hon:On M' w') (hM:∀b,b<w.heap.size->M' b=M b):Sx n E bw M' w' a env bs rs:=by
 refine⟨hs.ag,hon,?_,λx hx=>?_,λr hr=>?_,hs.nd⟩
 ·obtain⟨h1,h2,h3,h4,h5⟩:=hs.pr
  exact⟨hb.os.trans h1,hb.tape.trans h2,hb.output.trans h3,Nat.le_trans h4 hb.size,λk hk hn=>(hb.block k (by omega)).trans (h5 k hk hn)⟩
 ·obtain⟨h1,h2,h3⟩:=hs.bx x hx
  exact⟨(hb.block _ h1.lt).trans h1,(hM _ h1.lt).trans h2,h3⟩
 ·obtain⟨h1,h2⟩:=hs.rw r hr
  refine⟨?_,λg hg=>⟨(hM g (h1.lt g hg).2).trans (h2 g hg).1,(h2 g hg).2⟩⟩
  refine⟨h1.1,?_⟩
  rcases h1.2 with hn|⟨g,cap,cur,hv,hbg,hgg,r3⟩
  ·exact .inl hn
  ·exact .inr ⟨g,cap,cur,hv,hbg,(hb.block g (Array.getElem?_eq_some_iff.1 hgg).1).trans hgg,r3⟩
theorem On.later {w':World} (h:On M w) (hb:Below w.heap.size w w'):On M w':=λb o q=>(hb.block b (h.lt q)).trans (h b o q)
theorem Sx.new (hs:Sx n E bw M w a env bs rs) (cs:List Value) (t:TypeId) {a':Act} {env':Env} (hA:Ag n a' env'):Sx n E bw M (w.alloc (.cells cs.toArray t)) a' env' (⟨w.heap.size,t,cs⟩::bs) rs:=by
 have hb:Below w.heap.size w (w.alloc (.cells cs.toArray t)):=(Below.refl _ w).alloc (Nat.le_refl _) _
 have h1:=(hs.later hb (hs.on.later hb) (λ_ _=>rfl)).act hA
 refine⟨hA,h1.on,h1.pr,λx hx=>?_,h1.rw,?_⟩
 ·rcases List.mem_cons.1 hx with rfl|hx
  ·exact⟨heap_alloc_new w _,hs.on.noneAt (Nat.le_refl _),.inl hs.pr.size⟩
  ·exact h1.bx x hx
 ·refine⟨?_,λx hx r hr=>?_,hs.nd.r⟩
  ·rw[List.map_cons,List.nodup_cons]
   refine⟨λhm=>?_,hs.nd.b⟩
   obtain⟨x,hx,he⟩:=List.mem_map.1 hm
   have:=(hs.bx x hx).1.lt
   simp only at he
   omega
  ·rcases List.mem_cons.1 hx with rfl|hx
   ·intro e
    have:=((hs.rw r hr).1.lt _ e).2
    simp only at this
    omega
   ·exact hs.nd.x x hx r hr
theorem stepBox (cs:List Value) {d:Nat} {t ty:TypeId} {x:Operand} {pos:String} {af:Array Edge} {v:Value} (hs:Sx n E bw M w a env bs rs) (hk:known env x=true) (hx:evT env x=v) (hc:v.cells=cs.toArray) (hdn:d<n)
  (h:∀a' w' b,E.heap.size<=b->Sx n E bw M w' a' ((d,.pointer (some ⟨b,0,none⟩))::env) (⟨b,t,cs⟩::bs) rs->wpList P ops Q rest a' w'):wpList P ops Q (⟨some d,.box t x,ty,pos,af,none⟩::rest) a w:=by
 refine stepK (Z:=λ_ _=>False) (d:=d) hs (λ_ _ h=>h.elim) rfl (by simp[okOp,notSel,Op.operands,hk]) rfl hdn ?_
 refine OpW.of_run (w':=w.alloc (.cells cs.toArray t)) (v:=.pointer (some ⟨w.heap.size,0,none⟩)) ?_ ?_
 ·simp[execOp,Instr.box,newVar,newRow,hx,hc]
 ·intro a' hA
  exact h a' _ _ hs.pr.size (hs.new cs t hA)
theorem stepAlloc (cs:List Value) {d:Nat} {t ty:TypeId} {pos:String} {af:Array Edge} (hs:Sx n E bw M w a env bs rs) (hz:((P.info? t).bind (·.zero)).map (·.cells)=some cs.toArray) (hdn:d<n)
  (h:∀a' w' b,E.heap.size<=b->Sx n E bw M w' a' ((d,.pointer (some ⟨b,0,none⟩))::env) (⟨b,t,cs⟩::bs) rs->wpList P ops Q rest a' w'):wpList P ops Q (⟨some d,.alloc t,ty,pos,af,none⟩::rest) a w:=by
 refine stepK (Z:=λ_ _=>False) (d:=d) hs (λ_ _ h=>h.elim) rfl (by simp[okOp,notSel,Op.operands]) rfl hdn ?_
 refine OpW.of_run (w':=w.alloc (.cells cs.toArray t)) (v:=.pointer (some ⟨w.heap.size,0,none⟩)) ?_ ?_
 ·cases hi:P.info? t with
  |none=>simp[hi]at hz
  |some i=>
   cases hz0:i.zero with
   |none=>simp[hi,hz0]at hz
   |some z=>
    simp[hi,hz0]at hz
    simp[execOp,Instr.alloc,newVar,newRow,zeroValue,typeInfo,hi,hz0,hz]
 ·intro a' hA
  exact h a' _ _ hs.pr.size (hs.new cs t hA)
def putAt (cs:List Value) (k:Nat) (vs:List Value):List Value:=cs.take k++vs++cs.drop (k+vs.length)
theorem Sx.set (hs:Sx n E bw M w a env bs rs) (i:Nat) {x:Bx} (hi:bs[i]?=some x) (cs:List Value) {a':Act} {env':Env} (hA:Ag n a' env'):Sx n E bw M (w.setRow x.b cs.toArray) a' env' (bs.set i ⟨x.b,x.t,cs⟩) rs:=by
 have hmap:(bs.set i ⟨x.b,x.t,cs⟩).map (·.b)=bs.map (·.b):=by
  rw[List.map_set]
  apply List.ext_getElem?
  intro j
  rw[List.getElem?_set]
  by_cases hij:i=j
  ·subst hij
   obtain⟨hlt,hx⟩:=List.getElem?_eq_some_iff.1 hi
   simp[hlt,hx]
  ·simp[hij]
 obtain⟨hx1,hx2,hx3⟩:=hs.bx x (List.mem_of_getElem? hi)
 have hother:∀k,k≠x.b->(w.setRow x.b cs.toArray).heap[k]?=w.heap[k]?:=by
  intro k hk
  simp only[World.setRow,Array.getElem?_modify]
  rw[if_neg (by omega)]
 have hnd1:(bs.map (·.b)).Nodup:=hs.nd.b
 refine⟨hA,λb o hb=>?_,?_,λy hy=>?_,λr hr=>?_,?_⟩
 ·rw[hother b (by rintro rfl;rw[hx2]at hb;cases hb)];exact hs.on b o hb
 ·obtain⟨h1,h2,h3,h4,h5⟩:=hs.pr
  refine⟨h1,h2,h3,by simpa[World.setRow]using h4,λk hk hn=>?_⟩
  rw[hother k (by
   rintro rfl
   rcases hx3 with h|h
   ·omega
   ·exact hn h)]
  exact h5 k hk hn
 ·obtain⟨j,hj⟩:=List.mem_iff_getElem?.1 hy
  rw[List.getElem?_set]at hj
  by_cases hij:i=j
  ·subst hij
   rw[if_pos rfl]at hj
   have hlt:i<bs.length:=(List.getElem?_eq_some_iff.1 hi).1
   rw[if_pos hlt]at hj
   simp only[Option.some.injEq]at hj
   subst hj
   exact⟨setRow_heap w x.b x.cs.toArray cs.toArray x.t (0,0) hx1,hx2,hx3⟩
  ·rw[if_neg hij]at hj
   have hne:y.b≠x.b:=by
    intro e
    have h1:(bs.map (·.b))[i]?=some x.b:=by simp[hi]
    have h2:(bs.map (·.b))[j]?=some x.b:=by simp[hj,e]
    have hl1:i<(bs.map (·.b)).length:=(List.getElem?_eq_some_iff.1 h1).1
    exact hij ((List.getElem?_inj hl1 hnd1).1 (h1.trans h2.symm))
   obtain⟨g1,g2,g3⟩:=hs.bx y (List.mem_of_getElem? hj)
   exact⟨(hother _ hne).trans g1,g2,g3⟩
 ·obtain⟨g1,g2⟩:=hs.rw r hr
  refine⟨⟨g1.1,?_⟩,g2⟩
  rcases g1.2 with hn|⟨g,cap,cur,hv,hbg,hgg,r3⟩
  ·exact .inl hn
  ·refine .inr ⟨g,cap,cur,hv,hbg,?_,r3⟩
   rw[hother g ?_];exact hgg
   rintro rfl
   exact hs.nd.x x (List.mem_of_getElem? hi) r hr (by rw[hv];rfl)
 ·refine⟨by rw[hmap];exact hs.nd.b,λy hy r hr=>?_,hs.nd.r⟩
  have hy':y.b∈bs.map (·.b):=by rw[<-hmap];exact List.mem_map.2 ⟨y,hy,rfl⟩
  obtain⟨z,hz,he⟩:=List.mem_map.1 hy'
  rw[<-he]
  exact hs.nd.x z hz r hr
theorem stepStoreB (i:Nat) {t ty:TypeId} {p x:Operand} {pos:String} {af:Array Edge} {b k:Nat} {bt:TypeId} {cs vs:List Value} {v:Value} (hs:Sx n E bw M w a env bs rs) (hi:bs[i]?=some ⟨b,bt,cs⟩) (hkp:known env p=true) (hkx:known env x=true)
  (hp:evT env p= .pointer (some ⟨b,k,none⟩)) (hx:evT env x=v) (hc:v.cells=vs.toArray) (hn:(P.info? t).map (·.size)=some vs.length) (hfit:k+vs.length<=cs.length) (h1:vs.all (·.oneCell')=true)
  (h:∀a' w',Sx n E bw M w' a' env (bs.set i ⟨b,bt,putAt cs k vs⟩) rs->wpList P ops Q rest a' w'):wpList P ops Q (⟨none,.store t p x,ty,pos,af,none⟩::rest) a w:=by
 refine stepK0 (Z:=λ_ _=>False) hs (λ_ _ h=>h.elim) rfl (by simp[okOp,notSel,Op.operands,hkp,hkx]) rfl ?_
 have hb:=(hs.bx _ (List.mem_of_getElem? hi)).1
 have hst:=run_storeCells_at P b k bt vs 0 cs.toArray w hb (by simpa using hfit) (λu hu=>List.all_eq_true.1 h1 u hu)
 refine OpW.of_skip (w':=w.setRow b (putAt cs k vs).toArray) ?_ ?_
 ·cases hin:P.info? t with
  |none=>simp[hin]at hn
  |some ti=>
   simp[hin]at hn
   have e:(cs.toArray.toList.take (k+0)++vs++cs.toArray.toList.drop (k+0+vs.length)).toArray=(putAt cs k vs).toArray:=by simp[putAt]
   rw[e]at hst
   simp[execOp,Instr.storeAt,hp,hx,Instr.sureAddr,storeVar,hc,sizeOf,typeInfo,hin,hn,hst]
 ·intro a' hA
  exact h a' _ (hs.set i hi _ hA)
theorem run_call {d:Option Tmp} {f:Nat} {ty:TypeId} {c:Call} {pos:String} {af:Array Edge} {gd:Option (Nat×Bool)} {fn:Func} {first caps:Array Value} (args:List Value)
  (hcal:∃x,c.callee= .value x/\evT env x= .func (.func f) first caps) (hargs:first.toList++c.args.toList.map (evT env)++caps.toList=args) (hf:P.funcs[f]?=some fn) (hbody:fn.body.isNone=false) (hname:(fn.name== "runtime.NumGoroutine")=false):
  (execOp (evT env) ⟨d,.call c,ty,pos,af,gd⟩).run P w= .ok (.enter f args.toArray) w:=by
 obtain⟨x,hcal,hx⟩:=hcal
 have ha:first++c.args.map (evT env)++caps=args.toArray:=by rw[<-hargs];apply Array.ext';simp
 have hname':¬fn.name= "runtime.NumGoroutine":=beq_eq_false_iff_ne.1 hname
 have hbody':¬fn.body=none:=by intro e;rw[e]at hbody;cases hbody
 simp[execOp,resolve,hcal,hx,Deferred.ofValue,invoke,callFunc,hf,hbody',hname',<-ha]
theorem stepCallP {d f:Nat} {ty:TypeId} {c:Call} {pos:String} {af:Array Edge} {fn:Func} {K:Value->Prop} {first caps:Array Value} (args:List Value) (hs:Sx n E bw M w a env bs rs)
  (hk:okOp env ⟨some d,.call c,ty,pos,af,none⟩=true) (hcal:∃x,c.callee= .value x/\evT env x= .func (.func f) first caps) (hargs:first.toList++c.args.toList.map (evT env)++caps.toList=args) (hf:P.funcs[f]?=some fn) (hbody:fn.body.isNone=false) (hname:(fn.name== "runtime.NumGoroutine")=false) (hdn:d<n)
  (hc:CallE P f args.toArray M λv _=>K v)
  (h:∀a' w' v,K v->Sx n E bw M w' a' ((d,v)::env) bs rs->wpList P ops Q rest a' w'):wpList P ops Q (⟨some d,.call c,ty,pos,af,none⟩::rest) a w:=by
 refine stepK (Z:=λ_ _=>False) (d:=d) hs (λ_ _ h=>h.elim) rfl hk rfl hdn ?_
 unfold OpW
 rw[run_call args hcal hargs hf hbody hname]
 refine(hc w hs.on).mono λe w' ⟨v,he,hb,hK⟩=>?_
 subst he
 intro a' hA
 exact h a' w' v hK ((hs.later hb (hs.on.later hb) (λ_ _=>rfl)).act hA)
end
def InI (x:Int):Prop:= -9223372036854775808<=x/\x<=9223372036854775807
theorem wrap_in {x:Int} (h:InI x):IntKind.i64.wrap x=x:=by
 exact IntWalk.i64_in x h
def SubE (env:Env):Env->Prop
 |[]=>True
 |p::r=>lk env p.1=some p.2/\SubE env r
theorem SubE.mem {env:Env}:∀{env':Env},SubE env env'->∀p∈env',lk env p.1=some p.2
 |[],_,p,h=>by cases h
 |q::r,h,p,hp=>by
  rcases List.mem_cons.1 hp with rfl|hp
  ·exact h.1
  ·exact SubE.mem h.2 p hp
section
variable {n:Nat} {E:World} {bw:List Nat} {M:Mem} {w:World} {a:Act} {env env':Env} {bs bs':List Bx} {rs rs':List Rw}
theorem Sx.weak (hs:Sx n E bw M w a env bs rs) (hb:bs'.Sublist bs) (hr:rs'.Sublist rs) (he:SubE env env'):Sx n E bw M w a env' bs' rs':=
 ⟨hs.ag.sub env' he.mem,hs.on,hs.pr,λx hx=>hs.bx x (hb.subset hx),λr hx=>hs.rw r (hr.subset hx),
  hs.nd.sub hb hr⟩
theorem Sx.wk (hs:Sx n E bw M w a env bs rs) (he:SubE env env'):Sx n E bw M w a env' bs rs:=hs.weak (List.Sublist.refl _) (List.Sublist.refl _) he
theorem Sx.chbx (hs:Sx n E bw M w a env bs rs) (h:bs=bs'):Sx n E bw M w a env bs' rs:=h▸hs
end
def MM (M' M:Mem) (E:World):Prop:=∀b o,M' b=some o->M b=some o\/E.heap.size<=b
theorem MM.next {M'' M' M:Mem} {E:World} (h:MM M' M E) (k:∀b o,M'' b=some o->M' b=some o\/E.heap.size<=b):MM M'' M E:=
 λb o q=>(k b o q).elim (h b o) .inr
def MX (M' M:Mem) (E:World):Prop:=M.le M'/\MM M' M E
theorem MX.refl (M:Mem) (E:World):MX M M E:=⟨Mem.le.refl M,λ_ _ h=>.inl h⟩
theorem MX.next {M'' M' M:Mem} {E:World} (h:MX M' M E) (hl:M'.le M'') (k:∀b o,M'' b=some o->M' b=some o\/E.heap.size<=b):MX M'' M E:=⟨h.1.trans hl,h.2.next k⟩
def mkS (l:List UInt8):ByteArray:=⟨⟨l⟩⟩
theorem mkS_toList (l:List UInt8):(mkS l).toList=l:=by
 rw[ByteArray.toList_eq];rfl
theorem mkS_beq {a b:List UInt8}:((mkS a).toList==(mkS b).toList)=true↔a=b:=by rw[mkS_toList,mkS_toList];exact beq_iff_eq
theorem mkS_bne {a b:List UInt8}:(!((mkS a).toList==(mkS b).toList))=true↔a≠b:=by rw[mkS_toList,mkS_toList];simp
def bAnd (k:IntKind) (x y:Int):Int:=k.wrap (BitVec.ofInt k.bits x&&& BitVec.ofInt k.bits y).toNat
def bShr (k:IntKind) (x y:Int):Int:=x.fdiv (2 ^ (min y.toNat k.bits))
section
variable {P:Program} {fn:Func} {n:Nat} {E:World} {bw:List Nat} {M:Mem} {w:World} {a:Act} {env:Env} {bs:List Bx} {rs:List Rw}
end
end Go.Gx

namespace Go.Gx
open Go.RowKit
def WpD (P:Program) (ops:Array Oper) (Q:Exit->Act->World->Prop) (C:World->Prop) (keep:List Bool):Nat->Array Bool->Act->World->Prop
 |0,listed,a,w=>Region.ready .any ops listed=[]/\Q .normal a w
 |fuel+1,listed,a,w=>
  (Region.ready .any ops listed=[]->Q .normal a w)/\
  ∀i∈Region.ready .any ops listed,wpOp P ops Q i (λa' w'=>(keep.getD i false=true->C w->C w')/\WpD P ops Q C keep fuel (listed.setIfInBounds i true) a' w') a w
section
variable {P:Program} {ops:Array Oper} {Q:Exit->Act->World->Prop} {C:World->Prop} {keep:List Bool}
theorem wpAny_of_WpD:∀(fuel:Nat) (listed:Array Bool) (a:Act) (w:World),WpD P ops Q C keep fuel listed a w->wpAny P .any ops Q fuel listed a w
 |0,_,_,_,h=>h
 |fuel+1,_,_,_,h=>⟨h.1,λi hi=>wpOp_mono (λa' w' h'=>wpAny_of_WpD fuel _ a' w' h'.2) (h.2 i hi)⟩
def freeB (ops:Array Oper) (keep:List Bool) (listed:Array Bool) (i:Nat) (A:List Nat) (pure:Bool):Bool:=
 match ops[i]? with
 |none=>false
 |some oi=>(A.all λj=> !listed.getD j true&&j != i&&(match ops[j]? with
   |none=>false
   |some oj=>oj.after.toList.any λe=>Region.binds .any e&&(e.on==i||A.contains e.on)))&&
  (List.range ops.size).all λj=>j==i||listed.getD j true||A.contains j||(match ops[j]? with
   |none=>true
   |some oj=>oi.apart ops oj&&(keep.getD j false||pure))
def HangA (ops:Array Oper) (listed:Array Bool) (i:Nat) (A:List Nat):Prop:=
 ∀j∈A,listed.getD j true=false/\j≠i/\∃oj e,ops[j]?=some oj/\e∈oj.after/\Region.binds .any e=true/\(e.on=i\/e.on∈A)
theorem freeB_spec {listed:Array Bool} {i:Nat} {oi:Oper} {A:List Nat} {pure:Bool} (hi:ops[i]?=some oi) (h:freeB ops keep listed i A pure=true):
  HangA ops listed i A/\∀j oj,ops[j]?=some oj->j≠i->listed.getD j true=false->j∉A->oi.apart ops oj=true/\(keep.getD j false=true\/pure=true):=by
 unfold freeB at h
 rw[hi]at h
 simp only[Bool.and_eq_true]at h
 obtain⟨hA,hB⟩:=h
 refine⟨λj hj=>?_,λj oj hj hne hl hno=>?_⟩
 ·have h1:=List.all_eq_true.1 hA j hj
  simp only[Bool.and_eq_true,bne_iff_ne,Bool.not_eq_true']at h1
  obtain⟨⟨h1,h2⟩,h3⟩:=h1
  refine⟨h1,h2,?_⟩
  split at h3
  ·cases h3
  ·rename_i oj hoj
   obtain⟨e,he,h4⟩:=List.any_eq_true.1 h3
   simp only[Bool.and_eq_true,Bool.or_eq_true,beq_iff_eq,List.contains_iff_mem]at h4
   exact⟨oj,e,hoj,by simpa using he,h4.1,h4.2⟩
 ·have hjlt:j<ops.size:=(Array.getElem?_eq_some_iff.1 hj).1
  have h1:=List.all_eq_true.1 hB j (List.mem_range.2 hjlt)
  have hno':A.contains j=false:=by simpa using hno
  simp only[hj,Bool.or_eq_true,beq_iff_eq,hl,hno',Bool.and_eq_true]at h1
  rcases h1 with((h1|h1)|h1)|h1
  ·exact absurd h1 hne
  ·cases h1
  ·cases h1
  ·exact h1
theorem WpD.first {i:Nat} {oi:Oper} {v:Value} {A:List Nat} {C1:World->Prop} (hC1:∀w,C1 w->(∀w,C1 w)\/C w) (hC2:∀w,C w->C1 w) (hi:ops[i]?=some oi) (hsel:∀(j:Nat) (o:Oper) cs b,ops[j]?=some o->o.op≠.select cs b)
  (hQ:∀c a w,Q (.panic c) (a.put oi.dst v) w->Q (.panic c) a w):
  ∀(fuel:Nat) (listed:Array Bool) (a:Act) (w:World),HangA ops listed i A->
   (∀j oj,ops[j]?=some oj->j≠i->listed.getD j true=false->j∉A->oi.apart ops oj=true/\(keep.getD j false=true\/∀w,C1 w))->
   i∈Region.ready .any ops listed->YieldsIf P ops C1 oi v a->C1 w->
   WpD P ops Q C keep fuel (listed.setIfInBounds i true) (a.put oi.dst v) w->WpD P ops Q C keep (fuel+1) listed a w:=by
 intro fuel
 induction fuel with
 |zero=>
  intro listed a w _ _ hr hy hS H
  refine⟨λh=>(by rw[h]at hr;cases hr),λj hj=>?_⟩
  by_cases hji:j=i
  ·subst hji;exact hy.wpOp hi hS ⟨λ_ h=>h,H⟩
  ·have:=ready_mono hj hji
   rw[H.1]at this
   cases this
 |succ fuel ih=>
  intro listed a w hang hfree hr hy hS H
  refine⟨λh=>(by rw[h]at hr;cases hr),λj hj=>?_⟩
  by_cases hji:j=i
  ·subst hji;exact hy.wpOp hi hS ⟨λ_ h=>h,H⟩
  ·have h1:=H.2 j (ready_mono hj hji)
   obtain⟨hjun,oj,hoj,hall⟩:=mem_ready.1 hj
   have hun:listed.getD i true=false:=(mem_ready.1 hr).1
   have hjA:j∉A:=λhjA=>by
    obtain⟨_,_,oj',e,hoj',he,hbd,hon⟩:=hang j hjA
    rw[hoj]at hoj'
    cases hoj'
    have h1:=hall e he hbd
    have h0:listed.getD e.on true=false:=by
     rcases hon with rfl|hon
     ·exact hun
     ·exact(hang _ hon).1
    rcases Nat.lt_or_ge e.on listed.size with h'|h'
    ·simp[h']at h0 h1;rw[h0]at h1;cases h1
    ·simp[Array.getElem?_eq_none h']at h1
   have hfj:=hfree j oj hoj hji hjun hjA
   have h2:=wpOp_putIf hoj hfj.1 (λcs b=>hsel i oi cs b hi) (λcs b=>hsel j oj cs b hoj) hQ hy h1
   refine wpOp_mono (λa' w' h3=>⟨h3.2.1,ih (listed.setIfInBounds j true) a' w' (λk hk=>?_) (λk ok hk hki hun hno=>?_) (ready_mono hr (Ne.symm hji)) h3.1 (by
    rcases hfj.2 with hk|hall
    ·rcases hC1 w hS with hall|hc
     ·exact hall w'
     ·exact hC2 _ (h3.2.1 hk hc)
    ·exact hall w') ?_⟩) h2
   ·obtain⟨g1,g2,g3⟩:=hang k hk
    refine⟨?_,g2,g3⟩
    rw[getD_set_ne true (by rintro rfl;exact hjA hk)];exact g1
   ·refine hfree k ok hk hki ?_ hno
    by_cases hjk:j=k
    ·subst hjk;exact hjun
    ·rw[getD_set_ne true hjk]at hun;exact hun
   ·rw[Array.setIfInBounds_comm _ _ hji]
    exact h3.2.2
end
section
variable {P:Program} {ops:Array Oper} {Q:Exit->Act->World->Prop} {M0:Mem} {bs0:List Bx} {rs0:List Rw} {keep:List Bool} {n:Nat} {E:World} {bw:List Nat} {M:Mem} {w:World} {a:Act} {env:Env} {bs:List Bx} {rs:List Rw} {o:Oper} {fuel:Nat} {listed:Array Bool}
def QZ (Q:Exit->Act->World->Prop):Prop:=∀c (a:Act) d v w,Q (.panic c) (a.put d v) w->Q (.panic c) a w
theorem QZ.qq {N:Act->World->Prop} {X:List (Nat×(Act->World->Prop))} {R:Act->World->Prop} {fn:Func} {Rf:Ending->World->Prop}:
  QZ (QQ N X R (λch a w=>bodyPost P fn Rf (.panic ch) a w)):=by
 intro c a d v w h
 simp only[QQ,bodyPost]at h ⊢
 cases d<;>exact h
theorem QZ.no {N:Act->World->Prop} {X:List (Nat×(Act->World->Prop))} {R:Act->World->Prop}:QZ (QQ N X R (λ_ _ _=>False)):=λ_ _ _ _ _ h=>h
theorem wanted_none (hg:o.guard=none):Region.wanted o (yielded ops a.tmps)=true:=by simp[Region.wanted,hg]
theorem Sx.cxle {M0:Mem} {bs0:List Bx} {rs0:List Rw} (hs:Sx n E bw M w a env bs rs) (hl:M0.le M) (hb:bs0.Sublist bs) (hr:rs0.Sublist rs):Cx M0 bs0 rs0 w:=
 ⟨λb o h=>hs.on b o (hl b o h),λx hx=>(hs.bx x (hb.subset hx)).1,λr hx=>⟨_,(hs.rw r (hr.subset hx)).1⟩⟩
theorem stepDY (v:Value) (i:Nat) (A:List Nat) {d:Nat} (hs:Sx n E bw M w a env bs rs) (hC:Cx M0 bs0 rs0 w) (hQ:QZ Q) (ho:ops[i]?=some o) (hw:Region.wanted o (yielded ops a.tmps)=true) (hd:o.dst=some d) (hdn:d<n)
  (hsel:Region.noSelect ops=true) (hr:(Region.ready .any ops listed).contains i=true) (hf:freeB ops keep listed i A false=true) (hy:Yl P env M0 bs0 rs0 o v)
  (h:∀a',Sx n E bw M w a' ((d,v)::env) bs rs->WpD P ops Q (Cx M0 bs0 rs0) keep fuel (listed.setIfInBounds i true) a' w):WpD P ops Q (Cx M0 bs0 rs0) keep (fuel+1) listed a w:=by
 refine WpD.first (v:=v) (C1:=Cx M0 bs0 rs0) (λ_ h=>.inr h) (λ_ h=>h) ho (Region.noSelect_spec hsel) (λc a w h=>hQ c a _ _ w h) fuel listed a w (freeB_spec ho hf).1 (λj oj h1 h2 h3 h4=>?_) (by simpa using hr) (.inl ⟨hw,λw' hc=>?_⟩) hC ?_
 ·obtain⟨g1,g2⟩:=(freeB_spec ho hf).2 j oj h1 h2 h3 h4
  exact⟨g1,.inl (by simpa using g2)⟩
 ·rw[hs.ag.exec hy.1];exact hy.2 w' hc
 ·rw[hd];exact h _ (hs.act (hs.ag.put hdn v))
theorem Cx.none (w:World):Cx (λ_=>Option.none) [] [] w:=⟨(λ_ _ h=>by cases h),(λ_ h=>by cases h),(λ_ h=>by cases h)⟩
theorem stepDP (v:Value) (i:Nat) (A:List Nat) {d:Nat} (hs:Sx n E bw M w a env bs rs) (hQ:QZ Q) (ho:ops[i]?=some o) (hw:Region.wanted o (yielded ops a.tmps)=true) (hd:o.dst=some d) (hdn:d<n)
  (hsel:Region.noSelect ops=true) (hr:(Region.ready .any ops listed).contains i=true) (hf:freeB ops keep listed i A true=true) (hy:Yl P env (λ_=>Option.none) [] [] o v)
  (h:∀a',Sx n E bw M w a' ((d,v)::env) bs rs->WpD P ops Q (Cx M0 bs0 rs0) keep fuel (listed.setIfInBounds i true) a' w):WpD P ops Q (Cx M0 bs0 rs0) keep (fuel+1) listed a w:=by
 refine WpD.first (v:=v) (C1:=λ_=>True) (λ_ _=>.inl λ_=>trivial) (λ_ _=>trivial) ho (Region.noSelect_spec hsel) (λc a w h=>hQ c a _ _ w h) fuel listed a w (freeB_spec ho hf).1 (λj oj h1 h2 h3 h4=>⟨((freeB_spec ho hf).2 j oj h1 h2 h3 h4).1,.inr λ_=>trivial⟩) (by simpa using hr) (.inl ⟨hw,λw' _=>?_⟩) trivial ?_
 ·rw[hs.ag.exec hy.1];exact hy.2 w' (Cx.none w')
 ·rw[hd];exact h _ (hs.act (hs.ag.put hdn v))
theorem stepDN (i:Nat) (A:List Nat) {d:Nat} (hs:Sx n E bw M w a env bs rs) (hQ:QZ Q) (ho:ops[i]?=some o) (hw:Region.wanted o (yielded ops a.tmps)=false) (hd:o.dst=some d) (hdn:d<n)
  (hsel:Region.noSelect ops=true) (hr:(Region.ready .any ops listed).contains i=true) (hf:freeB ops keep listed i A true=true)
  (h:∀a',Sx n E bw M w a' ((d,undef)::env) bs rs->WpD P ops Q (Cx M0 bs0 rs0) keep fuel (listed.setIfInBounds i true) a' w):WpD P ops Q (Cx M0 bs0 rs0) keep (fuel+1) listed a w:=by
 refine WpD.first (v:=undef) (C1:=λ_=>True) (λ_ _=>.inl λ_=>trivial) (λ_ _=>trivial) ho (Region.noSelect_spec hsel) (λc a w h=>hQ c a _ _ w h) fuel listed a w (freeB_spec ho hf).1 (λj oj h1 h2 h3 h4=>⟨((freeB_spec ho hf).2 j oj h1 h2 h3 h4).1,.inr λ_=>trivial⟩) (by simpa using hr) (.inr ⟨hw,rfl⟩) trivial ?_
 rw[hd];exact h _ (hs.act (hs.ag.put hdn undef))
theorem stepDE (i:Nat) (ho:ops[i]?=some o) (hw:Region.wanted o (yielded ops a.tmps)=true) (hr:Region.ready .any ops listed=[i]) (ops1:Array Oper)
  (h:wpList P ops1 (λe a' w'=>match e with
   | .normal=>(keep.getD i false=true->Cx M0 bs0 rs0 w->Cx M0 bs0 rs0 w')/\WpD P ops Q (Cx M0 bs0 rs0) keep fuel (listed.setIfInBounds i true) a' w'
   | .panic c=>Q (.panic c) a' w'
   |_=>False) [{o with guard:=none}] a w):WpD P ops Q (Cx M0 bs0 rs0) keep (fuel+1) listed a w:=by
 refine⟨λh0=>(by rw[hr]at h0;cases h0),λj hj=>?_⟩
 rw[hr,List.mem_singleton]at hj
 subst hj
 unfold wpOp
 simp only[ho,hw,if_true]
 left
 unfold wpList at h
 rw[if_pos (by simp[Region.wanted])]at h
 rcases h with h|⟨_,a0,w0,h0⟩
 ·unfold Oper.wp at h ⊢
  have he:execOp a.eval {o with guard:=none}=execOp a.eval o:=rfl
  rw[he]at h
  generalize (execOp a.eval o).run P w=r at*
  cases r with
  |ok x w'=>
   cases x<;>simp only[Oper.upon,wpList]at h ⊢<;>try exact h
   case enter f args=>
    refine Calls.mono h λe w'' he=>?_
    cases e with
    |returned v=>exact he
    |panicked c=>exact he
    |outgrown=>obtain⟨a0,w0,h0⟩:=he;exact h0.elim
  |halt x w'=>cases x<;>simp only[Oper.upon]at h ⊢<;>exact h
 ·exact h0.elim
def One (P:Program) (ops:Array Oper) (Q:Exit->Act->World->Prop) (C:World->Prop) (keep:List Bool) (fuel:Nat) (listed:Array Bool) (a:Act) (w:World) (i:Nat):Prop:=
 wpOp P ops Q i (λa' w'=>(keep.getD i false=true->C w->C w')/\WpD P ops Q C keep fuel (listed.setIfInBounds i true) a' w') a w
def AllOne (p:Nat->Prop):List Nat->Prop
 |[]=>True
 |i::l=>p i/\AllOne p l
theorem AllOne.mem {p:Nat->Prop}:∀{l:List Nat},AllOne p l->∀i∈l,p i
 |_::_,h,i,hi=>by
  rcases List.mem_cons.1 hi with rfl|hi
  ·exact h.1
  ·exact h.2.mem i hi
theorem WpD.ors {l:List Nat} (hr:Region.ready .any ops listed=l) (h:AllOne (One P ops Q (Cx M0 bs0 rs0) keep fuel listed a w) l) (hl:l≠[]:=by decide):WpD P ops Q (Cx M0 bs0 rs0) keep (fuel+1) listed a w:=
 ⟨λh0=>absurd (hr.symm.trans h0) hl,λj hj=>h.mem j (by rw[hr]at hj;exact hj)⟩
theorem stepOne (i:Nat) (ho:ops[i]?=some o) (hw:Region.wanted o (yielded ops a.tmps)=true) (ops1:Array Oper)
  (h:wpList P ops1 (λe a' w'=>match e with
   | .normal=>(keep.getD i false=true->Cx M0 bs0 rs0 w->Cx M0 bs0 rs0 w')/\WpD P ops Q (Cx M0 bs0 rs0) keep fuel (listed.setIfInBounds i true) a' w'
   | .panic c=>Q (.panic c) a' w'
   |_=>False) [{o with guard:=none}] a w):One P ops Q (Cx M0 bs0 rs0) keep fuel listed a w i:=by
 unfold One wpOp
 simp only[ho,hw,if_true]
 left
 unfold wpList at h
 rw[if_pos (by simp[Region.wanted])]at h
 rcases h with h|⟨_,a0,w0,h0⟩
 ·unfold Oper.wp at h ⊢
  have he:execOp a.eval {o with guard:=none}=execOp a.eval o:=rfl
  rw[he]at h
  generalize (execOp a.eval o).run P w=r at*
  cases r with
  |ok x w'=>
   cases x<;>simp only[Oper.upon,wpList]at h ⊢<;>try exact h
   case enter f args=>
    refine Calls.mono h λe w'' he=>?_
    cases e with
    |returned v=>exact he
    |panicked c=>exact he
    |outgrown=>obtain⟨a0,w0,h0⟩:=he;exact h0.elim
  |halt x w'=>cases x<;>simp only[Oper.upon]at h ⊢<;>exact h
 ·exact h0.elim
theorem WpD.done (hr:Region.ready .any ops listed=[]) (h:Q .normal a w):∀fuel,WpD P ops Q (Cx M0 bs0 rs0) keep fuel listed a w
 |0=>⟨hr,h⟩
 |_+1=>⟨λ_=>h,by rw[hr];simp⟩
end
theorem Sx.drew {n:Nat} {E:World} {bw:List Nat} {M:Mem} {w:World} {a:Act} {env:Env} {bs:List Bx} {rs:List Rw} (hs:Sx n E bw M w a env bs rs):Sx n E bw M w.drew a env bs rs:=
 hs.later ⟨rfl,rfl,rfl,Nat.le_refl _,λ_ _=>rfl⟩ hs.on (λ_ _=>rfl)
theorem Wp.regionD {P:Program} {N:Act->World->Prop} {X:List (Nat×(Act->World->Prop))} {R:Act->World->Prop} {Z:List PanicEntry->Act->World->Prop} {a:Act} {w:World} {n:Nat} {E:World} {bw:List Nat} {M:Mem} {env:Env} {bs:List Bx} {rs:List Rw}
  {id k:Nat} {l:List Oper} (keep:List Bool) (hs:Sx n E bw M w a env bs rs) (hm:P.follows .mixedOrders=true) (hk:l.length=k) (bs0:List Bx) (hbs:∀x∈bs0,x∈bs) (rs0:List Rw) (hrs:∀x∈rs0,x∈rs)
  (h:∀w,Sx n E bw M w a env bs rs->Cx M bs0 rs0 w->WpD P l.toArray (QQ N X R Z) (Cx M bs0 rs0) keep k (Array.replicate k false) a w):Wp P (.region id l.toArray true) N X R Z a w:=by
 subst hk
 exact wp_region_any hm (by simpa using wpAny_of_WpD _ _ _ _ (h w.drew hs.drew ⟨hs.drew.cx.on,λx hx=>hs.drew.cx.bx x (hbs x hx),λx hx=>hs.drew.cx.rw x (hrs x hx)⟩))
end Go.Gx

namespace Go.Gx
open Go.RowKit
section
variable {P:Program} {env:Env} {M:Mem} {bs:List Bx} {rs:List Rw} {d:Option Tmp} {ty:TypeId} {pos:String} {af:Array Edge} {gd:Option (Nat×Bool)}
theorem mkS_size (l:List UInt8):(mkS l).size=l.length:=rfl
theorem mkS_getElem? (l:List UInt8) (i:Nat):(mkS l)[i]?=l[i]?:=by
 by_cases h:i<l.length
 ·rw[List.getElem?_eq_getElem h,getElem?_pos (mkS l) i h];rfl
 ·rw[List.getElem?_eq_none (by omega),getElem?_neg (mkS l) i h]
theorem mkS_eta (s:ByteArray):s=mkS s.data.toList:=by cases s;rfl
theorem Yl.indexStr {t:TypeId} {x i:Operand} {l:List UInt8} {k:IntKind} {n:Int} {c:UInt8} (hkx:known env x=true) (hki:known env i=true) (hx:evT env x= .string (mkS l)) (hi:evT env i= .int k n)
  (hu:P.underlying t=some .string) (h0:0<=n) (hc:l[n.toNat]?=some c):Yl P env M bs rs ⟨d,.index t x i,ty,pos,af,gd⟩ (.int .u8 (c.toNat:Int)):=by
 refine⟨by simp[okOp,notSel,Op.operands,hkx,hki],λw _=>?_⟩
 have:=mkS_getElem? l n.toNat
 rw[hc]at this
 simp[execOp,Instr.index,hx,hi,asIntOf,run_underlying hu,h0,this]
theorem mkS_extract (l:List UInt8) (a b:Nat):(mkS l).extract a b=mkS ((l.take b).drop a):=by
 rw[mkS_eta ((mkS l).extract a b)]
 congr 1
 simp[ByteArray.data_extract,mkS,List.extract,List.take_drop]
 rw[List.drop_take,List.drop_take,show a+(b-a)-a=b-a by omega]
theorem run_sliceBound {k:IntKind} {n:Int} {y:Nat} {code:BoundsCode} (w:World) (h0:0<=n) (h1:n<=y):(Instr.sliceBound (.int k n) y code).run P w= .ok n.toNat w:=by
 simp[Instr.sliceBound,asIntOf,h0,h1]
theorem Yl.sliceStrLH {t:TypeId} {x lo hi:Operand} {l:List UInt8} {k k':IntKind} {a b:Int} (hkx:known env x=true) (hka:known env lo=true) (hkb:known env hi=true) (hx:evT env x= .string (mkS l)) (ha:evT env lo= .int k a) (hb:evT env hi= .int k' b)
  (hu:P.underlying t=some .string) (h0:0<=a) (h1:a<=b) (h2:b<=(l.length:Int)):Yl P env M bs rs ⟨d,.slice t x (some lo) (some hi) none,ty,pos,af,gd⟩ (.string (mkS ((l.take b.toNat).drop a.toNat))):=by
 refine⟨by simp[okOp,notSel,Op.operands,hkx,hka,hkb],λw _=>?_⟩
 have e1:=run_sliceBound (P:=P) (k:=k') (n:=b) (y:=l.length) (code:=.sliceAlen) w (by omega) h2
 have e2:=run_sliceBound (P:=P) (k:=k) (n:=a) (y:=b.toNat) (code:=.sliceB) w h0 (by omega)
 simp[execOp,Instr.sliceAt,Instr.slice,Instr.sliceBounds,hx,ha,hb,run_underlying hu,mkS_size,e1,e2,mkS_extract]
theorem Yl.sliceStrL {t:TypeId} {x lo:Operand} {l:List UInt8} {k:IntKind} {a:Int} (hkx:known env x=true) (hka:known env lo=true) (hx:evT env x= .string (mkS l)) (ha:evT env lo= .int k a)
  (hu:P.underlying t=some .string) (h0:0<=a) (h1:a<=(l.length:Int)) (_h2:((l.length:Nat):Int)<=((l.length:Nat):Int)):Yl P env M bs rs ⟨d,.slice t x (some lo) none none,ty,pos,af,gd⟩ (.string (mkS ((l.take ((l.length:Nat):Int).toNat).drop a.toNat))):=by
 refine⟨by simp[okOp,notSel,Op.operands,hkx,hka],λw _=>?_⟩
 have e2:=run_sliceBound (P:=P) (k:=k) (n:=a) (y:=l.length) (code:=.sliceB) w h0 h1
 simp[execOp,Instr.sliceAt,Instr.slice,Instr.sliceBounds,hx,ha,run_underlying hu,mkS_size,e2,mkS_extract]
theorem mkS_append (a b:List UInt8):mkS a++mkS b=mkS (a++b):=ByteArray.mk_append_mk a b
theorem Yl.concat {t u:TypeId} {x y:Operand} {a b:List UInt8} (hkx:known env x=true) (hky:known env y=true) (hx:evT env x= .string (mkS a)) (hy:evT env y= .string (mkS b)) (hl:a.length+b.length<=9223372036854775807):
  Yl P env M bs rs ⟨d,.binOp .add t x y u,ty,pos,af,gd⟩ (.string (mkS (a++b))):=by
 refine⟨by simp[okOp,notSel,Op.operands,hkx,hky],λw _=>?_⟩
 have:=run_string_add_sum (P:=P) (w:=w) (mkS a) (mkS b) hl
 simp[execOp,eqGuard,hx,hy,binOp,this,mkS_append]
def slA (a:Option Addr) (lo c size:Nat):Option Addr:=if c=lo then a else a.map (·.add (lo*size))
end
end Go.Gx

namespace Go.Gx
open Go.RowKit
section
variable {P:Program}
end
section
variable {P:Program} {env:Env} {M:Mem} {bs:List Bx} {rs:List Rw} {d:Option Tmp} {ty:TypeId} {pos:String} {af:Array Edge} {gd:Option (Nat×Bool)}
end
end Go.Gx

namespace Go.Gx
open Go.RowKit
def SlV (M:Mem) (a:Option Addr) (l c size:Nat) (xs:List Value):Prop:=
 xs.length=l*size/\l<=c/\c<=maxLen/\(0<l->∃b o,a=some ⟨b,o,none⟩/\At M b o xs)
theorem SlV.le {M M':Mem} {a:Option Addr} {l c size:Nat} {xs:List Value} (h:SlV M a l c size xs) (hl:M.le M'):SlV M' a l c size xs:=
 ⟨h.1,h.2.1,h.2.2.1,λh0=>by obtain⟨b,o,e,ha⟩:=h.2.2.2 h0;exact⟨b,o,e,ha.le hl⟩⟩
section
variable {P:Program} {ops:Array Oper} {Q:Exit->Act->World->Prop} {n:Nat} {E:World} {bw:List Nat} {M:Mem} {w:World} {a:Act} {env:Env} {bs:List Bx} {rs:List Rw} {rest:List Oper}
theorem ownsRow_form {base:Nat} {e size n:Nat} {v:Value} {xs:List Value} (h:w.ownsRow base e size v n xs):
  ∃ad cap,v= .slice ad n cap/\n<=cap/\cap<=maxLen/\(ad=none/\n=0/\cap=0\/∃g,ad=some ⟨g,0,none⟩):=by
 rcases h.2 with⟨rfl,rfl⟩|⟨g,cap,cur,rfl,_,_,h1,h2,_,_⟩
 ·exact⟨none,0,rfl,Nat.le_refl _,Nat.zero_le _,.inl ⟨rfl,rfl,rfl⟩⟩
 ·exact⟨_,cap,rfl,h1,h2,.inr ⟨g,rfl⟩⟩
theorem Sx.newrow (hs:Sx n E bw M w a env bs rs) (cs:List Value) (e size k:Nat) (hl:cs.length=k*size) (hm:k<=maxLen) {a':Act} {env':Env} (hA:Ag n a' env'):
  Sx n E bw M (w.alloc (.cells cs.toArray e)) a' env' bs (⟨.slice (some ⟨w.heap.size,0,none⟩) k k,e,size,k,cs,true⟩::rs):=by
 have hb:Below w.heap.size w (w.alloc (.cells cs.toArray e)):=(Below.refl _ w).alloc (Nat.le_refl _) _
 have h1:=(hs.later hb (hs.on.later hb) (λ_ _=>rfl)).act hA
 refine⟨hA,h1.on,h1.pr,h1.bx,λr hr=>?_,hs.nd.b,λx hx r hr=>?_,List.Pairwise.cons (λs hs' g hg=>?_) hs.nd.r⟩
 ·rcases List.mem_cons.1 hr with rfl|hr
  ·refine⟨⟨hl,.inr ⟨w.heap.size,k,cs.toArray,rfl,Nat.zero_le _,heap_alloc_new w _,Nat.le_refl _,hm,by simpa using hl,by simp[<-hl]⟩⟩,λg hg=>?_⟩
   simp only[Value.ownBlock,Option.some.injEq]at hg
   subst hg
   exact⟨hs.on.noneAt (Nat.le_refl _),.inl hs.pr.size⟩
  ·exact h1.rw r hr
 ·rcases List.mem_cons.1 hr with rfl|hr
  ·simp only[Value.ownBlock,ne_eq,Option.some.injEq]
   have:=(hs.bx x hx).1.lt
   omega
  ·exact hs.nd.x x hx r hr
 ·simp only[Value.ownBlock,Option.some.injEq]at hg
  subst hg
  intro e'
  have:=((hs.rw s hs').1.lt _ e').2
  omega
theorem stepMake (cs:List Value) (e size k:Nat) {d:Nat} {o:Oper} (hs:Sx n E bw M w a env bs rs) (hk:okOp env o=true) (hg:o.guard=none) (hd:o.dst=some d)
  (hrun:∀w,(execOp (evT env) o).run P w= .ok (.value (.slice (some ⟨w.heap.size,0,none⟩) k k)) (w.alloc (.cells cs.toArray e))) (hl:cs.length=k*size) (hm:k<=maxLen) (hdn:d<n)
  (h:∀a' w' v,Sx n E bw M w' a' ((d,v)::env) bs (⟨v,e,size,k,cs,true⟩::rs)->wpList P ops Q rest a' w'):wpList P ops Q (o::rest) a w:=by
 refine stepK (Z:=λ_ _=>False) (d:=d) hs (λ_ _ h=>h.elim) hg hk hd hdn ?_
 refine OpW.of_run (hrun w) ?_
 intro a' hA
 exact h a' _ _ (hs.newrow cs e size k hl hm hA)
end
section
variable {P:Program} {env:Env} {M:Mem} {bs:List Bx} {rs:List Rw} {d:Option Tmp} {ty:TypeId} {pos:String} {af:Array Edge} {gd:Option (Nat×Bool)}
end
end Go.Gx

namespace Go.Gx
open Go.RowKit
theorem ownBlock_lt {w:World} {e size n:Nat} {v:Value} {xs:List Value} (h:w.ownsRow 0 e size v n xs) {g:Nat} (hg:v.ownBlock=some g):g<w.heap.size:=(h.lt g hg).2
theorem ownsRow_keep {w w':World} {e size n:Nat} {v:Value} {xs:List Value} (h:w.ownsRow 0 e size v n xs) (hk:∀g,v.ownBlock=some g->w'.heap[g]?=w.heap[g]?):w'.ownsRow 0 e size v n xs:=by
 refine⟨h.1,?_⟩
 rcases h.2 with hn|⟨g,cap,cur,hv,hb,hg,r3⟩
 ·exact .inl hn
 ·exact .inr ⟨g,cap,cur,hv,hb,(hk g (by rw[hv];rfl)).trans hg,r3⟩
section
variable {P:Program} {ops:Array Oper} {Q:Exit->Act->World->Prop} {n:Nat} {E:World} {bw:List Nat} {M:Mem} {w:World} {a:Act} {env:Env} {rest:List Oper}
end
section
variable {n:Nat} {E:World} {bw:List Nat} {M:Mem} {w:World} {a:Act} {env:Env} {bs:List Bx} {rs:List Rw}
end
section
variable {P:Program} {ops:Array Oper} {Q:Exit->Act->World->Prop} {n:Nat} {E:World} {bw:List Nat} {M:Mem} {w:World} {a:Act} {env:Env} {bs:List Bx} {rs:List Rw} {rest:List Oper}
end
end Go.Gx

namespace Go.Gx
open Go.RowKit
def bytesV (l:List UInt8):List Value:=l.map λc=>Value.int .u8 (c.toNat:Int)
section
variable {P:Program} {ops:Array Oper} {Q:Exit->Act->World->Prop} {n:Nat} {E:World} {bw:List Nat} {M:Mem} {w:World} {a:Act} {env:Env} {bs:List Bx} {rs:List Rw} {rest:List Oper}
end
section
variable {P:Program} {env:Env} {M:Mem} {bs:List Bx} {rs:List Rw} {d:Option Tmp} {ty:TypeId} {pos:String} {af:Array Edge} {gd:Option (Nat×Bool)}
theorem run_bytes_str {w:World} {src dst e:TypeId} {A:Option Addr} {c:Nat} {l:List UInt8} (hs:P.underlying src=some (.slice e)) (he:P.underlying e=some (.int .u8)) (hd:P.underlying dst=some .string)
  (hA:A=none->l=[]) (hc:∀ad,A=some ad->∀j v,(bytesV l)[j]?=some v->w.cell? (ad.add j)=some v):(convert src dst (.slice A l.length c)).run P w= .ok (.string (mkS l)) w:=by
 cases A with
 |none=>
  have:=hA rfl
  subst this
  rw[run_convert_bytes_string w src dst e none _ c hs he hd]
  rfl
 |some ad=>
  exact run_convert_bytes_back w src dst e ad c l hs he hd λj hj=>hc ad rfl j _ (by simp[bytesV,hj])
theorem Yl.bytesV {src dst e:TypeId} {x:Operand} {A:Option Addr} {k c:Nat} {l:List UInt8} (hk:known env x=true) (hx:evT env x= .slice A k c) (hs:P.underlying src=some (.slice e)) (he:P.underlying e=some (.int .u8)) (hd:P.underlying dst=some .string)
  (h:SlV M A k c 1 (bytesV l)) (hl:l.length=k):Yl P env M bs rs ⟨d,.convert src dst x,ty,pos,af,gd⟩ (.string (mkS l)):=by
 subst hl
 refine⟨by simp[okOp,notSel,Op.operands,hk],λw hc=>?_⟩
 rcases Nat.eq_zero_or_pos l.length with h0|h0
 ·have hl:l=[]:=List.eq_nil_of_length_eq_zero h0
  subst hl
  have:=run_bytes_str (P:=P) (w:=w) (A:=A) (c:=c) (l:=[]) hs he hd (λ_=>rfl) (λad _ j v hj=>by simp[Gx.bytesV]at hj)
  simp only[execOp,hx,Sem.run_bind,this,Result.andThen_ok];rfl
 ·obtain⟨b,o,rfl,hat⟩:=h.2.2.2 h0
  have:=run_bytes_str (P:=P) (w:=w) (A:=some ⟨b,o,none⟩) (c:=c) (l:=l) hs he hd (λh=>by cases h) (λad had j v hj=>by cases had;rw[add_lit];exact hc.on.cell (hat j v hj))
  simp only[execOp,hx,Sem.run_bind,this,Result.andThen_ok];rfl
theorem Yl.bytesR (i:Nat) {src dst e':TypeId} {x:Operand} {v:Value} {e k:Nat} {ow:Bool} {l:List UInt8} (hi:rs[i]?=some ⟨v,e,1,k,Gx.bytesV l,ow⟩) (hk:known env x=true) (hx:evT env x=v) (hs:P.underlying src=some (.slice e')) (he:P.underlying e'=some (.int .u8)) (hd:P.underlying dst=some .string):
  Yl P env M bs rs ⟨d,.convert src dst x,ty,pos,af,gd⟩ (.string (mkS l)):=by
 refine⟨by simp[okOp,notSel,Op.operands,hk],λw hc=>?_⟩
 obtain⟨base,g1⟩:=hc.rw _ (List.mem_of_getElem? hi)
 simp only at g1
 obtain⟨ad,cap,he',_,_,hf⟩:=ownsRow_form g1
 subst he'
 have hkl:l.length=k:=by have:=g1.1;simp[Gx.bytesV]at this;exact this
 subst hkl
 have:(convert src dst (.slice ad l.length cap)).run P w= .ok (.string (mkS l)) w:=by
  refine run_bytes_str hs he hd (λhn=>?_) (λa' ha j v hj=>?_)
  ·rcases hf with⟨_,h0,_⟩|⟨g,hg⟩
   ·exact List.eq_nil_of_length_eq_zero h0
   ·rw[hn]at hg;cases hg
  ·rcases hf with⟨hn,_,_⟩|⟨g,hg⟩
   ·rw[hn]at ha;cases ha
   ·rw[hg]at ha;cases ha
    subst hg
    exact g1.cells (g:=g) rfl j v hj
 simp only[execOp,hx,Sem.run_bind,this,Result.andThen_ok];rfl
end
section
variable {P:Program} {ops:Array Oper} {Q:Exit->Act->World->Prop} {n:Nat} {E:World} {bw:List Nat} {M:Mem} {w:World} {a:Act} {env:Env} {bs:List Bx} {rs:List Rw} {rest:List Oper}
end
end Go.Gx

namespace Go.Gx
open Go.RowKit Go.ChangeShapes
def HM (w:World):Mem:=λb=>w.heap[b]?
theorem HM.on (w:World):On (HM w) w:=λ_ _ h=>h
theorem HM.cell {w:World} {b i:Nat} {v:Value} (h:w.cell? ⟨b,i,none⟩=some v):(HM w).cell b i=some v:=by
 unfold World.cell? at h
 unfold Mem.cell HM
 simp only at h ⊢
 split at h
 ·rename_i hq
  rw[hq]
  simpa using h
 ·cases h
theorem cell_spot {w:World} {a:Addr} {v:Value} (h:w.cell? a=some v):a=⟨a.block,a.off,none⟩:=by
 unfold World.cell? at h
 split at h
 ·split at h
  ·cases h
  ·rename_i hs
   obtain⟨b,o,s⟩:=a
   cases s<;>simp_all
 ·cases h
def All2 {α β:Type} (R:α->β->Prop):List α->List β->Prop
 |[],cs=>cs=[]
 |a::as1,cs=>∃b bs,cs=b::bs/\R a b/\All2 R as1 bs
theorem All2.append {α β:Type} {R:α->β->Prop}:∀{as1 as':List α} {bs bs':List β},All2 R as1 bs->All2 R as' bs'->All2 R (as1++as') (bs++bs')
 |[],_,_,_,h,k=>by cases h;exact k
 |_::_,_,_,_,⟨b,bs,h1,h2,h3⟩,k=>by subst h1;exact⟨b,_,rfl,h2,h3.append k⟩
theorem All2.length {α β:Type} {R:α->β->Prop}:∀{as1:List α} {bs:List β},All2 R as1 bs->bs.length=as1.length
 |[],_,h=>by cases h;rfl
 |_::_,_,⟨_,_,h1,_,h3⟩=>by subst h1;simp[h3.length]
theorem All2.mono {α β:Type} {R R':α->β->Prop} (hR:∀a b,R a b->R' a b):∀{as1:List α} {bs:List β},All2 R as1 bs->All2 R' as1 bs
 |[],_,h=>h
 |_::_,_,⟨b,bs,h1,h2,h3⟩=>⟨b,bs,h1,hR _ _ h2,h3.mono hR⟩
inductive Leaf
 |int (k:IntKind)
 |bool
 |str
 |ptr (t e:TypeId)
 |sl (t e:TypeId)
def catF (P:Program) (g:TypeId->Option (List Leaf)):Nat->List Field->Option (List Leaf)
 |_,[]=>some []
 |o,f::r=>if f.offset=o then(g f.type).bind λm=>if m.length=P.cellsOf f.type then(catF P g (o+m.length) r).map (m++·) else none else none
def leaves (P:Program):Nat->TypeId->Option (List Leaf)
 |0,_=>none
 |n+1,t=>match P.underlying t with
  |some .bool=>some [.bool]
  |some (.int k)=>some [.int k]
  |some .string=>some [.str]
  |some (.pointer e)=>some [.ptr t e]
  |some (.slice e)=>some [.sl t e]
  |some (.struct fs)=>(catF P (leaves P n) 0 fs.toList).bind λl=>if l.length=P.cellsOf t then some l else none
  |some (.array k e)=>(leaves P n e).bind λm=>if m.length=P.cellsOf e/\k*m.length=P.cellsOf t then some (List.replicate k m).flatten else none
  |_=>none
section
variable {H:Type} {enc:TypeId×Value->H} {P:Program} {w:World}
theorem cells_at {a:Addr} {n:Nat} {cs:List Value} (h:w.cells? 0 a n=some cs) (hn:0<n):a=⟨a.block,a.off,none⟩/\∀j v,cs[j]?=some v->(HM w).cell a.block (a.off+j)=some v:=by
 obtain⟨_,hl,hc⟩:=World.cells?_some h
 have h0:=hc 0 hn
 have hs:a=⟨a.block,a.off,none⟩:=by
  rw[Addr.add,if_pos rfl,List.getElem?_eq_getElem (by omega)]at h0
  exact cell_spot h0
 refine⟨hs,λj v hj=>HM.cell ?_⟩
 have:=hc j (by have:=(List.getElem?_eq_some_iff.1 hj).1;omega)
 rw[hj,hs,add_lit]at this
 exact this
theorem trodAll_below (hl:laidOutB P=true) {W W':World} (hb:Below W.heap.size W W'):∀{ts:List TypeId} {vs:List Value} {ds:List (DataW H)} {ps:List MemPlace},(ts.all λt=>P.readableRec t&&decide (t<P.types.size))=true->
  DataW.TrodAll enc P W 0 (λ_=>true) true ts vs ds ps->DataW.TrodAll enc P W' 0 (λb=>decide (b<W.heap.size)) true ts vs ds ps
 |[],_,_,_,_,h=>by
  obtain⟨rfl,rfl,rfl⟩:=trodAll_nil h
  exact trodAll_mk0
 |t::ts,_,_,_,hr,h=>by
  simp only[List.all_cons,Bool.and_eq_true,decide_eq_true_eq]at hr
  obtain⟨v,vs,d,ds,p,q,rfl,rfl,rfl,h1,h2⟩:=trodAll_cons h
  have hlt:∀x∈p,x.block<W.heap.size:=by
   obtain⟨m,hm⟩:=h1
   exact DataW.trod_lt m _ _ _ hm
  exact trodAll_cons_mk (Below.trod hl hr.1.1 hr.1.2 h1 hb hlt) (trodAll_below hl hb (by simpa using hr.2) h2)
end
theorem flat_part {α:Type} {f:α->List Value} {sz:Nat}:∀(es:List α) (_:∀e∈es,(f e).length=sz) (i:Nat) (e:α),es[i]?=some e->(((es.map f).flatten).drop (i*sz)).take (f e).length=f e
 |[],_,i,e,h=>by simp at h
 |a::r,hf,0,e,h=>by
  simp only[List.getElem?_cons_zero,Option.some.injEq]at h;subst h
  simp
 |a::r,hf,i+1,e,h=>by
  simp only[List.getElem?_cons_succ]at h
  have ha:=hf a (by simp)
  have:=flat_part r (λe he=>hf e (by simp[he])) i e h
  simp only[List.map_cons,List.flatten_cons]
  rw[Nat.succ_mul,List.drop_append,List.drop_of_length_le (by omega),List.nil_append,ha,Nat.add_sub_cancel]
  exact this
theorem SlV.elem {α:Type} {f:α->List Value} {M:Mem} {A:Option Addr} {l c sz:Nat} {es:List α} (h:SlV M A l c sz ((es.map f).flatten)) (hl:es.length=l) (hf:∀e∈es,(f e).length=sz) {i:Nat} {e:α} (he:es[i]?=some e):
  ∃b o,A=some ⟨b,o,none⟩/\At M b (o+i*sz) (f e):=by
 have hi:i<es.length:=(List.getElem?_eq_some_iff.1 he).1
 obtain⟨b,o,ha,hat⟩:=h.2.2.2 (by omega)
 exact⟨b,o,ha,hat.part (i*sz) (f e) (flat_part es hf i e he)⟩
end Go.Gx

namespace Go.Gx
open Go.RowKit
def cl {α:Type} (f:α->List Value) (xs:List α):List Value:=(xs.map f).flatten
section
variable {α:Type} {f:α->List Value}
theorem cl_cons (x:α) (xs:List α):cl f (x::xs)=f x++cl f xs:=by simp[cl]
theorem cl_length {sz:Nat} (hf:∀x,(f x).length=sz):∀xs:List α,(cl f xs).length=xs.length*sz
 |[]=>by simp[cl]
 |x::r=>by rw[cl_cons,List.length_append,hf,cl_length hf r,List.length_cons,Nat.succ_mul];omega
theorem SlV.at {M:Mem} {A:Option Addr} {l c sz:Nat} {xs:List α} (h:SlV M A l c sz (cl f xs)) (hf:∀x,(f x).length=sz) (hl:xs.length=l) {i:Nat} {x:α} (hx:xs[i]?=some x):∃b o,A=some ⟨b,o,none⟩/\At M b (o+i*sz) (f x):=
 SlV.elem h hl (λx _=>hf x) hx
theorem SlV.len {M:Mem} {A:Option Addr} {l c sz:Nat} {xs:List α} (h:SlV M A l c sz (cl f xs)) (hf:∀x,(f x).length=sz) (h0:0<sz):xs.length=l:=by
 have:=h.1
 rw[cl_length hf]at this
 exact Nat.eq_of_mul_eq_mul_right h0 this
theorem SlV.max {M:Mem} {A:Option Addr} {l c sz:Nat} {xs:List Value} (h:SlV M A l c sz xs):l<=9223372036854775807:=by
 have h1:=h.2.1
 have h2:=h.2.2.1
 unfold maxLen at h2
 omega
theorem SlV.rest {M:Mem} {A:Option Addr} {l c sz:Nat} {xs:List Value} (h:SlV M A l c sz xs) (k:Nat) (hk:k<=l):SlV M (slA A k c sz) (l-k) (c-k) sz (xs.drop (k*sz)):=by
 obtain⟨h1,h2,h3,h4⟩:=h
 refine⟨by rw[List.length_drop,h1,Nat.sub_mul],by omega,by omega,λh0=>?_⟩
 obtain⟨b,o,rfl,ha⟩:=h4 (by omega)
 refine⟨b,o+k*sz,?_,?_⟩
 ·unfold slA
  rw[if_neg (by omega)]
  simp[add_lit]
 ·intro j v hj
  rw[List.getElem?_drop]at hj
  have:=ha _ _ hj
  rw[<-Nat.add_assoc]at this
  exact this
theorem SlV.first {M:Mem} {A:Option Addr} {l c sz:Nat} {xs:List Value} (h:SlV M A l c sz xs) (k:Nat) (hk:k<=l):SlV M A k c sz (xs.take (k*sz)):=by
 obtain⟨h1,h2,h3,h4⟩:=h
 have hle:k*sz<=l*sz:=Nat.mul_le_mul_right _ hk
 refine⟨by rw[List.length_take,h1];omega,by omega,by omega,λh0=>?_⟩
 obtain⟨b,o,rfl,ha⟩:=h4 (by omega)
 refine⟨b,o,rfl,λj v hj=>ha j v ?_⟩
 rw[List.getElem?_take]at hj
 split at hj
 ·exact hj
 ·cases hj
end
section
variable {α β:Type} {R:α->β->Prop}
theorem All2.get:∀{as1:List α} {bs:List β},All2 R as1 bs->∀{i:Nat} {a:α},as1[i]?=some a->∃b,bs[i]?=some b/\R a b
 |[],_,_,i,a,h=>by simp at h
 |_::_,_,⟨b,bs,h1,h2,h3⟩,0,a,h=>by simp at h;subst h;subst h1;exact⟨b,rfl,h2⟩
 |_::_,_,⟨b,bs,h1,h2,h3⟩,i+1,a,h=>by
  subst h1
  obtain⟨c,hc,hr⟩:=h3.get (by simpa using h)
  exact⟨c,by simpa using hc,hr⟩
theorem All2.get' {as1:List α} {bs:List β} (h:All2 R as1 bs) {i:Nat} {a:α} {b:β} (ha:as1[i]?=some a) (hb:bs[i]?=some b):R a b:=by
 obtain⟨c,hc,hr⟩:=h.get ha
 rw[hb]at hc;cases hc;exact hr
theorem All2.of:∀{as1:List α} {bs:List β},bs.length=as1.length->(∀(i:Nat) a b,as1[i]?=some a->bs[i]?=some b->R a b)->All2 R as1 bs
 |[],bs,hl,_=>List.eq_nil_of_length_eq_zero (by simpa using hl)
 |a::as1,[],hl,_=>by simp at hl
 |a::as1,b::bs,hl,h=>⟨b,bs,rfl,h 0 a b rfl rfl,All2.of (by simpa using hl) λi x y hx hy=>h (i+1) x y (by simpa using hx) (by simpa using hy)⟩
theorem All2.drop {as1:List α} {bs:List β} (h:All2 R as1 bs) (k:Nat):All2 R (as1.drop k) (bs.drop k):=
 All2.of (by simp[h.length]) λi a b ha hb=>h.get' (i:=k+i) (by simpa using ha) (by simpa using hb)
theorem All2.take {as1:List α} {bs:List β} (h:All2 R as1 bs) (k:Nat):All2 R (as1.take k) (bs.take k):=
 All2.of (by simp[h.length]) λi a b ha hb=>by
  rw[List.getElem?_take]at ha hb
  split at ha
  ·rename_i hk;rw[if_pos hk]at hb;exact h.get' ha hb
  ·cases ha
theorem All2.choose {R:α->β->Prop}:∀(bs:List β),(∀b∈bs,∃a,R a b)->∃as1,All2 R as1 bs
 |[],_=>⟨[],rfl⟩
 |b::bs,h=>by
  obtain⟨a,ha⟩:=h b (by simp)
  obtain⟨as1,has⟩:=All2.choose bs λx hx=>h x (by simp[hx])
  exact⟨a::as1,b,bs,rfl,ha,has⟩
end
theorem getI {α:Type} {l:List α} {i:Int} (h0:0<=i) (h1:i<(l.length:Int)):∃x,l[i.toNat]?=some x:=⟨l[i.toNat]'(by omega),List.getElem?_eq_getElem _⟩
theorem take_get {α:Type} {l:List α} {i:Nat} {x:α} (h:l[i]?=some x):l.take (i+1)=l.take i++[x]:=by
 obtain⟨hl,hx⟩:=List.getElem?_eq_some_iff.1 h
 rw[List.take_succ_eq_append_getElem hl,hx]
structure Sl3 where
 a:Option Addr
 l:Nat
 c:Nat
section
variable {P:Program} {ops:Array Oper} {Q:Exit->Act->World->Prop} {n:Nat} {E:World} {bw:List Nat} {M:Mem} {w:World} {a:Act} {env:Env} {bs:List Bx} {rs:List Rw} {rest:List Oper} {o:Oper}
theorem sP (v:Value) {d:Nat} (hs:Sx n E bw M w a env bs rs) (h:∀a',Sx n E bw M w a' ((d,v)::env) bs rs->wpList P ops Q rest a' w)
  (hg:o.guard=none:=by rfl) (hd:o.dst=some d:=by rfl) (hdn:d<n:=by decide) (hk:okOp env o=true:=by rfl) (hr:∀w,(execOp (evT env) o).run P w= .ok (.value v) w:=by intro _;kernel_rfl):wpList P ops Q (o::rest) a w:=
 stepY v hs hg hd hdn (Yl.pure hk hr) h
theorem sY (v:Value) {d:Nat} (hs:Sx n E bw M w a env bs rs) (hy:Yl P env M bs rs o v) (h:∀a',Sx n E bw M w a' ((d,v)::env) bs rs->wpList P ops Q rest a' w)
  (hg:o.guard=none:=by rfl) (hd:o.dst=some d:=by rfl) (hdn:d<n:=by decide):wpList P ops Q (o::rest) a w:=
 stepY v hs hg hd hdn hy h
theorem sNo {j t d:Nat} {b c:Bool} (hs:Sx n E bw M w a env bs rs) (h:∀a',Sx n E bw M w a' ((d,undef)::env) bs rs->wpList P ops Q rest a' w) (hg:o.guard=some (j,b):=by rfl) (ht:(ops[j]?).bind (·.dst)=some t:=by rfl) (hl:lk env t=some (.bool c):=by rfl) (hne:(c==b)=false:=by rfl)
  (hd:o.dst=some d:=by rfl) (hdn:d<n:=by decide):wpList P ops Q (o::rest) a w:=step_no hs hg ht hl hne hd hdn h
theorem sNu {j t d:Nat} {b:Bool} (hs:Sx n E bw M w a env bs rs) (h:∀a',Sx n E bw M w a' ((d,undef)::env) bs rs->wpList P ops Q rest a' w) (hg:o.guard=some (j,b):=by rfl) (ht:(ops[j]?).bind (·.dst)=some t:=by rfl) (hl:lk env t=some undef:=by rfl)
  (hd:o.dst=some d:=by rfl) (hdn:d<n:=by decide):wpList P ops Q (o::rest) a w:=step_nou hs hg ht hl hd hdn h
theorem sYe {j t:Nat} {b:Bool} (hs:Sx n E bw M w a env bs rs) (h:wpList P ops Q ({o with guard:=none}::rest) a w) (hg:o.guard=some (j,b):=by rfl) (ht:(ops[j]?).bind (·.dst)=some t:=by rfl) (hl:lk env t=some (.bool b):=by rfl):wpList P ops Q (o::rest) a w:=step_yes hs hg ht hl h
end
section
variable {P:Program} {ops:Array Oper} {Q:Exit->Act->World->Prop} {M0:Mem} {bs0:List Bx} {rs0:List Rw} {keep:List Bool} {n:Nat} {E:World} {bw:List Nat} {M:Mem} {w:World} {a:Act} {env:Env} {bs:List Bx} {rs:List Rw} {o:Oper} {fuel:Nat} {listed:Array Bool}
theorem dP (v:Value) (i:Nat) (A:List Nat) {d:Nat} (hs:Sx n E bw M w a env bs rs) (hQ:QZ Q) (hw:Region.wanted o (yielded ops a.tmps)=true) (h:∀a',Sx n E bw M w a' ((d,v)::env) bs rs->WpD P ops Q (Cx M0 bs0 rs0) keep fuel (listed.setIfInBounds i true) a' w)
  (ho:ops[i]?=some o:=by rfl) (hd:o.dst=some d:=by rfl) (hdn:d<n:=by decide) (hsel:Region.noSelect ops=true:=by kernel_rfl) (hr:(Region.ready .any ops listed).contains i=true:=by kernel_rfl) (hf:freeB ops keep listed i A true=true:=by kernel_rfl)
  (hk:okOp env o=true:=by rfl) (hy:∀w,(execOp (evT env) o).run P w= .ok (.value v) w:=by intro _;kernel_rfl):WpD P ops Q (Cx M0 bs0 rs0) keep (fuel+1) listed a w:=
 stepDP v i A hs hQ ho hw hd hdn hsel hr hf (Yl.pure hk hy) h
theorem dN (i:Nat) (A:List Nat) {d:Nat} (hs:Sx n E bw M w a env bs rs) (hQ:QZ Q) (hw:Region.wanted o (yielded ops a.tmps)=false) (h:∀a',Sx n E bw M w a' ((d,undef)::env) bs rs->WpD P ops Q (Cx M0 bs0 rs0) keep fuel (listed.setIfInBounds i true) a' w)
  (ho:ops[i]?=some o:=by rfl) (hd:o.dst=some d:=by rfl) (hdn:d<n:=by decide) (hsel:Region.noSelect ops=true:=by kernel_rfl) (hr:(Region.ready .any ops listed).contains i=true:=by kernel_rfl) (hf:freeB ops keep listed i A true=true:=by kernel_rfl):WpD P ops Q (Cx M0 bs0 rs0) keep (fuel+1) listed a w:=
 stepDN i A hs hQ ho hw hd hdn hsel hr hf h
end
section
variable {P:Program} {ops:Array Oper} {Q:Exit->Act->World->Prop} {n:Nat} {E:World} {bw:List Nat} {M:Mem} {w:World} {a:Act} {env:Env} {bs:List Bx} {rs:List Rw} {rest:List Oper}
abbrev pt (b k:Nat):Value:=.pointer (some ⟨b,k,none⟩)
abbrev iv (x:Int):Value:=.int .i64 x
theorem Yl.lB (vs:List Value) (g:Bool) (i:Nat) {d:Option Tmp} {t ty:TypeId} {x:Operand} {pos:String} {af:Array Edge} {gd:Option (Nat×Bool)} {b k:Nat} {cs:List Value} {bt:TypeId} (hi:bs[i]?=some ⟨b,bt,cs⟩:=by rfl) (hk:known env x=true:=by rfl) (hx:evT env x= .pointer (some ⟨b,k,none⟩):=by rfl)
  (ht:tyOk P t g vs.length=true:=by kernel_rfl) (hvs:(cs.drop k).take vs.length=vs:=by rfl):Yl P env M bs rs ⟨d,.load t x,ty,pos,af,gd⟩ (ofCells g vs):=Yl.loadB g i hi hk hx ht hvs
theorem stB (i:Nat) (vs:List Value) (bs':List Bx) {t ty:TypeId} {p x:Operand} {pos:String} {af:Array Edge} {b k:Nat} {bt:TypeId} {cs:List Value} {v:Value} (hs:Sx n E bw M w a env bs rs)
  (h:∀a' w',Sx n E bw M w' a' env bs' rs->wpList P ops Q rest a' w') (hi:bs[i]?=some ⟨b,bt,cs⟩:=by rfl) (hkp:known env p=true:=by rfl) (hkx:known env x=true:=by rfl)
  (hp:evT env p= .pointer (some ⟨b,k,none⟩):=by rfl) (hx:evT env x=v:=by rfl) (hc:v.cells=vs.toArray:=by rfl) (hn:(P.info? t).map (·.size)=some vs.length:=by kernel_rfl) (hfit:k+vs.length<=cs.length:=by exact Nat.le_of_ble_eq_true rfl) (h1:vs.all (·.oneCell')=true:=by rfl)
  (hb:bs.set i ⟨b,bt,putAt cs k vs⟩=bs':=by rfl):wpList P ops Q (⟨none,.store t p x,ty,pos,af,none⟩::rest) a w:=
 stepStoreB i hs hi hkp hkx hp hx hc hn hfit h1 λa' w' hs'=>h a' w' (hs'.chbx hb)
theorem lvE (K:Value->Prop) {fn:Func} {M0:Mem} {v:Value} (hs:Sx n E [] M w a env bs rs) (hr:(results fn a.tmps).run P w= .ok v w) (hM:∀b o,M b=some o->M0 b=some o\/E.heap.size<=b) (hK:K v):
  a.defers=[]/\∃v,(results fn a.tmps).run P w= .ok v w/\Below E.heap.size E w/\K v:=leaveE (K:=λv _=>K v) hs hr hM λ_ _=>hK
end
theorem bsS {n:Nat} {E:World} {bw:List Nat} {M:Mem} {w:World} {a:Act} {env:Env} {bs:List Bx} {rs:List Rw} {d:Nat} {b:Bool} {p A B G:Prop} (hp:b=true↔p) (hs:Sx n E bw M w a ((d,.bool b)::env) bs rs) (hS:(p->A)/\(¬p->B)) (h1:Sx n E bw M w a ((d,.bool true)::env) bs rs->A->G) (h2:Sx n E bw M w a ((d,.bool false)::env) bs rs->B->G):G:=
 bsplit b hp (λhb hc=>h1 (hs.bt hb) (hS.1 hc)) (λhb hc=>h2 (hs.bf hb) (hS.2 hc))
theorem Wp.cS {P:Program} {N:Act->World->Prop} {X:List (Nat×(Act->World->Prop))} {R:Act->World->Prop} {Z:List PanicEntry->Act->World->Prop} {a:Act} {w:World} {n:Nat} {E:World} {bw:List Nat} {M:Mem} {env:Env} {bs:List Bx} {rs:List Rw} {c:Operand} {x y:Code} {b:Bool} {p A B:Prop} (hs:Sx n E bw M w a env bs rs)
  (hp:b=true↔p) (hS:(p->A)/\(¬p->B)) (h1:A->Wp P x N X R Z a w) (h2:B->Wp P y N X R Z a w) (hk:known env c=true:=by rfl) (hc:evT env c= .bool b:=by rfl):Wp P (.cond c x y) N X R Z a w:=
 Wp.cond hs hk hc hp (λhc=>h1 (hS.1 hc)) (λhc=>h2 (hS.2 hc))
section
variable {P:Program} {ops:Array Oper} {Q:Exit->Act->World->Prop} {M0:Mem} {bs0:List Bx} {rs0:List Rw} {keep:List Bool} {w:World} {a:Act} {o:Oper} {fuel:Nat} {listed:Array Bool}
theorem sE (i:Nat)
  (h:wpList P #[] (λe a' w'=>match e with
   | .normal=>(keep.getD i false=true->Cx M0 bs0 rs0 w->Cx M0 bs0 rs0 w')/\WpD P ops Q (Cx M0 bs0 rs0) keep fuel (listed.setIfInBounds i true) a' w'
   | .panic c=>Q (.panic c) a' w'
   |_=>False) [{o with guard:=none}] a w) (ho:ops[i]?=some o:=by rfl) (hw:Region.wanted o (yielded ops a.tmps)=true:=by exact wanted_none rfl) (hr:Region.ready .any ops listed=[i]:=by kernel_rfl):WpD P ops Q (Cx M0 bs0 rs0) keep (fuel+1) listed a w:=
 stepDE i ho hw hr #[] h
end
section
variable {P:Program} {ops:Array Oper} {Q:Exit->Act->World->Prop} {n:Nat} {E:World} {bw:List Nat} {M:Mem} {w:World} {a:Act} {env:Env} {bs:List Bx} {rs:List Rw} {rest:List Oper}
theorem Yl.wr {o:Oper} {z:Int} (hI:InI z) (hk:okOp env o=true:=by rfl) (hr:∀w,(execOp (evT env) o).run P w= .ok (.value (Value.int .i64 (IntKind.wrap .i64 z))) w:=by intro _;kernel_rfl):Yl P env M bs rs o (.int .i64 z):=
 Yl.eq (Yl.pure hk hr) (congrArg (Value.int .i64) (wrap_in hI))
theorem Yl.lV (vs:List Value) (g:Bool) {d:Option Tmp} {t ty:TypeId} {x:Operand} {pos:String} {af:Array Edge} {gd:Option (Nat×Bool)} {b k:Nat} (h:At M b k vs) (hk:known env x=true:=by rfl) (hx:evT env x= .pointer (some ⟨b,k,none⟩):=by rfl)
  (ht:tyOk P t g vs.length=true:=by kernel_rfl):Yl P env M bs rs ⟨d,.load t x,ty,pos,af,gd⟩ (ofCells g vs):=Yl.loadV g hk hx ht h
theorem Yl.iS (e sz:Nat) {d:Option Tmp} {t ty:TypeId} {x i:Operand} {pos:String} {af:Array Edge} {gd:Option (Nat×Bool)} {b k l c:Nat} {ik:IntKind} {n:Int} {ad:Option Addr} (had:ad=some ⟨b,k,none⟩) (h0:0<=n) (hl:n<l) (hkx:known env x=true:=by rfl) (hki:known env i=true:=by rfl)
  (hx:evT env x= .slice ad l c:=by rfl) (hi:evT env i= .int ik n:=by rfl) (hu:P.underlying t=some (.slice e):=by kernel_rfl) (hn:(P.info? e).map (·.size)=some sz:=by kernel_rfl):
  Yl P env M bs rs ⟨d,.indexAddr t x i,ty,pos,af,gd⟩ (.pointer (some ⟨b,k+n.toNat*sz,none⟩)):=Yl.indexS hkx hki hx hi hu hn had h0 hl
theorem cP (args:List Value) {d f:Nat} {ty:TypeId} {c:Call} {pos:String} {af:Array Edge} {fn:Func} {K:Value->Prop} {first caps:Array Value} (hs:Sx n E bw M w a env bs rs) (hf:P.funcs[f]?=some fn) (hc:CallE P f args.toArray M λv _=>K v)
  (h:∀a' w' v,K v->Sx n E bw M w' a' ((d,v)::env) bs rs->wpList P ops Q rest a' w') (hk:okOp env ⟨some d,.call c,ty,pos,af,none⟩=true:=by rfl) (hcal:∃x,c.callee= .value x/\evT env x= .func (.func f) first caps:=by exact⟨_,rfl,rfl⟩) (hargs:first.toList++c.args.toList.map (evT env)++caps.toList=args:=by rfl)
  (hbody:fn.body.isNone=false:=by rfl) (hname:(fn.name== "runtime.NumGoroutine")=false:=by kernel_rfl) (hdn:d<n:=by decide):wpList P ops Q (⟨some d,.call c,ty,pos,af,none⟩::rest) a w:=stepCallP args hs hk hcal hargs hf hbody hname hdn hc h
end
section
variable {P:Program} {ops ops1:Array Oper} {Q:Exit->Act->World->Prop} {M0:Mem} {bs0:List Bx} {rs0:List Rw} {keep:List Bool} {n j:Nat} {E:World} {bw:List Nat} {M:Mem} {w:World} {a:Act} {env:Env} {bs:List Bx} {rs:List Rw} {o:Oper} {fuel:Nat} {listed:Array Bool}
theorem wN (h:WpD P ops Q (Cx M0 bs0 rs0) keep fuel listed a w):wpList P ops1 (λe a' w'=>match e with
   | .normal=>(keep.getD j false=true->Cx M0 bs0 rs0 w->Cx M0 bs0 rs0 w')/\WpD P ops Q (Cx M0 bs0 rs0) keep fuel listed a' w'
   | .panic c=>Q (.panic c) a' w'
   |_=>False) [] a w:=wpList_nil ⟨λ_ h=>h,h⟩
theorem nE (i:Nat) (h:wpList P #[] (λe a' w'=>match e with
   | .normal=>(keep.getD i false=true->Cx M0 bs0 rs0 w->Cx M0 bs0 rs0 w')/\WpD P ops Q (Cx M0 bs0 rs0) keep fuel (listed.setIfInBounds i true) a' w'
   | .panic c=>Q (.panic c) a' w'
   |_=>False) [{o with guard:=none}] a w) (ho:ops[i]?=some o:=by rfl) (hw:Region.wanted o (yielded ops a.tmps)=true:=by exact wanted_none rfl) (hr:Region.ready .any ops listed=[i]:=by kernel_rfl):wpList P ops1 (λe a' w'=>match e with
   | .normal=>(keep.getD j false=true->Cx M0 bs0 rs0 w->Cx M0 bs0 rs0 w')/\WpD P ops Q (Cx M0 bs0 rs0) keep (fuel+1) listed a' w'
   | .panic c=>Q (.panic c) a' w'
   |_=>False) [] a w:=wN (sE i h ho hw hr)
theorem dD (h:Q .normal a w) (hr:Region.ready .any ops listed=[]:=by kernel_rfl):WpD P ops Q (Cx M0 bs0 rs0) keep fuel listed a w:=WpD.done hr h fuel
theorem dA (v:Value) (i:Nat) (A:List Nat) {d:Nat} (hs:Sx n E bw M w a env bs rs) (h:∀a',Sx n E bw M w a' ((d,v)::env) bs rs->WpD P ops Q (Cx M0 bs0 rs0) keep fuel (listed.setIfInBounds i true) a' w)
  (hQ:QZ Q:=by exact QZ.no) (ho:ops[i]?=some o:=by rfl) (hg:o.guard=none:=by rfl) (hd:o.dst=some d:=by rfl) (hdn:d<n:=by decide) (hsel:Region.noSelect ops=true:=by kernel_rfl) (hr:(Region.ready .any ops listed).contains i=true:=by kernel_rfl) (hf:freeB ops keep listed i A true=true:=by kernel_rfl)
  (hk:okOp env o=true:=by rfl) (hy:∀w,(execOp (evT env) o).run P w= .ok (.value v) w:=by intro _;kernel_rfl):WpD P ops Q (Cx M0 bs0 rs0) keep (fuel+1) listed a w:=
 stepDP v i A hs hQ ho (wanted_none hg) hd hdn hsel hr hf (Yl.pure hk hy) h
theorem dF (v:Value) (i:Nat) (A:List Nat) {d:Nat} (hs:Sx n E bw M w a env bs rs) (ho:ops[i]?=some o) (hy:Yl P env (λ_=>Option.none) [] [] o v) (h:∀a',Sx n E bw M w a' ((d,v)::env) bs rs->WpD P ops Q (Cx M0 bs0 rs0) keep fuel (listed.setIfInBounds i true) a' w)
  (hQ:QZ Q:=by exact QZ.no) (hg:o.guard=none:=by rfl) (hd:o.dst=some d:=by rfl) (hdn:d<n:=by decide) (hsel:Region.noSelect ops=true:=by kernel_rfl) (hr:(Region.ready .any ops listed).contains i=true:=by kernel_rfl) (hf:freeB ops keep listed i A true=true:=by kernel_rfl):WpD P ops Q (Cx M0 bs0 rs0) keep (fuel+1) listed a w:=
 stepDP v i A hs hQ ho (wanted_none hg) hd hdn hsel hr hf hy h
end
end Go.Gx

namespace Go.Gx
open Go.RowKit
def idxB (s:List UInt8) (c:Int):Int:=match s.findIdx? (·==c.toNat.toUInt8)with
 |some i=>i
 |none=> -1
theorem find_same {p q:Nat->Bool}:∀{l:List Nat},(∀i∈l,p i=q i)->l.find? p=l.find? q
 |[],_=>rfl
 |a::r,h=>by rw[List.find?_cons,List.find?_cons,h a (by simp),find_same λi hi=>h i (by simp[hi])]
theorem find_range (l:List UInt8) (c:UInt8):(List.range l.length).find? (λi=>l.getD i 0==c)=l.findIdx? (·==c):=by
 cases h:l.findIdx? (·==c)with
 |none=>
  rw[List.findIdx?_eq_none_iff]at h
  rw[List.find?_eq_none]
  intro i hi
  have hl:=List.mem_range.1 hi
  have:=h l[i] (List.getElem_mem hl)
  simpa[List.getD,List.getElem?_eq_getElem hl]using this
 |some i=>
  rw[List.findIdx?_eq_some_iff_getElem]at h
  obtain⟨hl,hi,hlt⟩:=h
  rw[List.find?_range_eq_some]
  refine⟨by simpa[List.getD,List.getElem?_eq_getElem hl]using hi,List.mem_range.2 hl,λj hj=>?_⟩
  have:=hlt j hj
  simpa[List.getD,List.getElem?_eq_getElem (Nat.lt_trans hj hl)]using this
theorem firstIdx_is (l:List UInt8) (c:Int):firstIdx (mkS l) c.toNat.toUInt8=idxB l c:=by
 unfold firstIdx idxB
 have e:(List.range (mkS l).size).find? (λi=>(mkS l)[i]! ==c.toNat.toUInt8)=(List.range l.length).find? (λi=>l.getD i 0==c.toNat.toUInt8):=by
  have hsz:(mkS l).size=l.length:=rfl
  rw[hsz]
  refine find_same λi hi=>?_
  have hl:=List.mem_range.1 hi
  have h1:(mkS l)[i]! =l[i]:=getElem!_pos (mkS l) i hl
  rw[h1]
  simp[List.getD,List.getElem?_eq_getElem hl]
 rw[e,find_range]
 cases l.findIdx? (·==c.toNat.toUInt8)<;>rfl
theorem idxB_cases (s:List UInt8) (c:UInt8):(idxB s c.toNat= -1/\∀(i:Nat) x,s[i]?=some x->x≠c)\/∃i:Nat,idxB s c.toNat=i/\s[i]?=some c/\∀(j:Nat) x,j<i->s[j]?=some x->x≠c:=by
 have hc:(c.toNat:Int).toNat.toUInt8=c:=by simp
 unfold idxB
 rw[hc]
 cases h:s.findIdx? (·==c)with
 |none=>
  left
  rw[List.findIdx?_eq_none_iff]at h
  refine⟨rfl,λi x hx=>?_⟩
  have:=h x (List.mem_of_getElem? hx)
  simpa using this
 |some i=>
  right
  rw[List.findIdx?_eq_some_iff_getElem]at h
  obtain⟨hl,hi,hlt⟩:=h
  refine⟨i,rfl,by rw[List.getElem?_eq_getElem hl];simpa using hi,λj x hj hx=>?_⟩
  have:=hlt j hj
  obtain⟨_,rfl⟩:=List.getElem?_eq_some_iff.1 hx
  simpa using this
section
variable {P:Program} {env:Env} {M:Mem} {bs:List Bx} {rs:List Rw} {d:Option Tmp} {ty:TypeId} {pos:String} {af:Array Edge} {gd:Option (Nat×Bool)}
theorem Yl.ext {f:Nat} {c:Call} {fn:Func} {e:Array Value->Sem Value} {v:Value} (args:List Value) (hk:okOp env ⟨d,.call c,ty,pos,af,gd⟩=true) (hcal:∃x,c.callee= .value x/\evT env x= .func (.func f) #[] #[]) (hargs:c.args.toList.map (evT env)=args)
  (hf:P.funcs[f]?=some fn) (hbody:fn.body.isNone=true) (hname:(fn.name== "runtime.NumGoroutine")=false) (hn:(Extern.findNext fn).isNone=true) (he:Extern.find fn=some e) (hr:∀w,(e args.toArray).run P w= .ok v w):Yl P env M bs rs ⟨d,.call c,ty,pos,af,gd⟩ v:=by
 refine⟨hk,λw _=>?_⟩
 obtain⟨x,hcal,hx⟩:=hcal
 have ha:c.args.map (evT env)=args.toArray:=by rw[<-hargs];apply Array.ext';simp
 have hname':¬fn.name= "runtime.NumGoroutine":=beq_eq_false_iff_ne.1 hname
 have hbody':fn.body=none:=by simpa using hbody
 have hn':Extern.findNext fn=none:=by simpa using hn
 simp[execOp,resolve,hcal,hx,Deferred.ofValue,invoke,callFunc,hf,hbody',hname',hn',he,ha,hr]
theorem Yl.idxByte {f:Nat} {c:Call} {fn:Func} {l:List UInt8} {z:Int} (hk:okOp env ⟨d,.call c,ty,pos,af,gd⟩=true) (hcal:∃x,c.callee= .value x/\evT env x= .func (.func f) #[] #[]) (hargs:c.args.toList.map (evT env)=[.string (mkS l),.int .u8 z])
  (hf:P.funcs[f]?=some fn) (hbody:fn.body.isNone=true) (hname:(fn.name== "runtime.NumGoroutine")=false) (hn:(Extern.findNext fn).isNone=true) (he:Extern.find fn=some Extern.BytealgIndexByte.indexByte):Yl P env M bs rs ⟨d,.call c,ty,pos,af,gd⟩ (.int .i64 (idxB l z)):=
 Yl.ext _ hk hcal hargs hf hbody hname hn he λw=>by rw[<-firstIdx_is];exact run_indexByte_string _ _ _
end
end Go.Gx

namespace Go.Gx
open Go.RowKit
section
variable {P:Program} {ops:Array Oper} {Q:Exit->Act->World->Prop} {n:Nat} {E:World} {bw:List Nat} {M:Mem} {w:World} {a:Act} {env:Env} {bs:List Bx} {rs:List Rw} {rest:List Oper}
theorem On.hm (h:On M w):M.le (HM w):=λb o hb=>h b o hb
end
end Go.Gx

namespace Go.Gx
open Go.RowKit Go.ChangeShapes
mutual
def dBulk {H:Type}:DataW H->Nat
 | .lit (.string bytes)=>bytes.length+1
 | .lit _=>1
 | .nil=>1
 | .ptr d=>dBulk d+1
 | .slice elems spare=>dBulks elems+dBulks spare+1
 | .agg parts=>dBulks parts+1
 | .iface _ d=>dBulk d+1
 | .map entries=>dBulkEs entries+1
 | .held _=>1
def dBulks {H:Type}:List (DataW H)->Nat
 |[]=>0
 |d::r=>dBulk d+dBulks r
def dBulkEs {H:Type}:List (Lit×DataW H)->Nat
 |[]=>0
 |x::r=>dBulkE x+dBulkEs r
def dBulkE {H:Type}:Lit×DataW H->Nat
 |(.string bytes,d)=>bytes.length+dBulk d+1
 |(_,d)=>dBulk d+1
end
theorem dBulk_pos {H:Type} (d:DataW H):1<=dBulk d:=by
 cases d with
 |lit l=>cases l<;>simp[dBulk]
 |nil=>simp[dBulk]
 |ptr d=>simp[dBulk]
 |slice elems spare=>simp[dBulk]
 |agg parts=>simp[dBulk]
 |iface t d=>simp[dBulk]
 |map entries=>simp[dBulk]
 |held h=>simp[dBulk]
section
variable {H:Type} {enc:TypeId×Value->H} {P:Program} {w:World}
def LeafB (enc:TypeId×Value->H) (P:Program) (w:World) (fuel B:Nat):Leaf->Value->Prop
 | .int k,v=>1<=B/\∃z,v= .int k z/\(Lit.int k z).wf=true
 | .bool,v=>1<=B/\∃b,v= .bool b
 | .str,v=>∃l,v= .string (mkS l)/\l.length<=maxLen/\l.length+1<=B
 | .ptr t e,v=>P.underlying t=some (.pointer e)/\∃n x,n<=fuel/\dBulk x.1<=B/\DataW.trod enc P w 0 (λ_=>true) true n t [v]=some x
 | .sl t e,v=>P.underlying t=some (.slice e)/\∃n x,n<=fuel/\dBulk x.1<=B/\DataW.trod enc P w 0 (λ_=>true) true n t [v]=some x
theorem LeafB.mono {a b B C:Nat} (h:a<=b) (hB:B<=C) (l:Leaf) (v:Value) (k:LeafB enc P w a B l v):LeafB enc P w b C l v:=by
 cases l with
 |ptr t e=>obtain⟨h0,n,x,h1,h2,h3⟩:=k;exact⟨h0,n,x,Nat.le_trans h1 h,Nat.le_trans h2 hB,h3⟩
 |sl t e=>obtain⟨h0,n,x,h1,h2,h3⟩:=k;exact⟨h0,n,x,Nat.le_trans h1 h,Nat.le_trans h2 hB,h3⟩
 |int k'=>exact⟨Nat.le_trans k.1 hB,k.2⟩
 |bool=>exact⟨Nat.le_trans k.1 hB,k.2⟩
 |str=>obtain⟨l,h1,h2,h3⟩:=k;exact⟨l,h1,h2,Nat.le_trans h3 hB⟩
def LvB (enc:TypeId×Value->H) (P:Program) (w:World) (fuel:Nat):Nat->List Leaf->List Value->Prop
 |_,[],cs=>cs=[]
 |B,l::ls,cs=>∃b c v vs,b+c<=B/\cs=v::vs/\LeafB enc P w fuel b l v/\LvB enc P w fuel c ls vs
theorem LvB.mono {a b:Nat} (h:a<=b):∀{ls:List Leaf} {B C:Nat} {cs:List Value},B<=C->LvB enc P w a B ls cs->LvB enc P w b C ls cs
 |[],_,_,_,_,k=>k
 |_::_,_,_,_,hB,⟨x,y,v,vs,h1,h2,h3,h4⟩=>⟨x,y,v,vs,Nat.le_trans h1 hB,h2,h3.mono h (Nat.le_refl _) _ _,h4.mono h (Nat.le_refl _)⟩
theorem LvB.append {n:Nat}:∀{ls ls':List Leaf} {B C:Nat} {cs cs':List Value},LvB enc P w n B ls cs->LvB enc P w n C ls' cs'->LvB enc P w n (B+C) (ls++ls') (cs++cs')
 |[],_,_,_,_,_,h,k=>by cases h;exact k.mono (Nat.le_refl _) (Nat.le_add_left _ _)
 |_::_,_,_,_,_,_,⟨x,y,v,vs,h1,h2,h3,h4⟩,k=>by subst h2;exact⟨x,_,v,_,by omega,rfl,h3,h4.append k⟩
theorem LvB.length {n:Nat}:∀{ls:List Leaf} {B:Nat} {cs:List Value},LvB enc P w n B ls cs->cs.length=ls.length
 |[],_,_,h=>by cases h;rfl
 |_::_,_,_,⟨_,_,_,_,_,h2,_,h4⟩=>by subst h2;simp[h4.length]
theorem trod_leavesB:∀(n fuel:Nat) (t:TypeId) (cs:List Value) (x:DataW H×List MemPlace) (ls:List Leaf),leaves P n t=some ls->DataW.trod enc P w 0 (λ_=>true) true fuel t cs=some x->LvB enc P w fuel (dBulk x.1) ls cs
 |0,_,_,_,_,_,h,_=>by cases h
 |n+1,fuel,t,cs,x,ls,h,hx=>by
  unfold leaves at h
  split at h
  ·rename_i hu
   simp only[Option.some.injEq]at h;subst h
   obtain⟨b,rfl,_⟩:=DataW.trod_bool hu hx
   exact⟨dBulk x.1,0,_,_,by omega,rfl,⟨dBulk_pos _,b,rfl⟩,rfl⟩
  ·rename_i k hu
   simp only[Option.some.injEq]at h;subst h
   obtain⟨z,rfl,_,hw⟩:=DataW.trod_int hu hx
   exact⟨dBulk x.1,0,_,_,by omega,rfl,⟨dBulk_pos _,z,rfl,hw⟩,rfl⟩
  ·rename_i hu
   simp only[Option.some.injEq]at h;subst h
   obtain⟨s,rfl,hxe,hl⟩:=DataW.trod_string hu hx
   subst hxe
   exact⟨s.data.toList.length+1,0,_,_,by simp[dBulk],rfl,⟨s.data.toList,by rw[<-mkS_eta],by simpa using hl,Nat.le_refl _⟩,rfl⟩
  ·rename_i e hu
   simp only[Option.some.injEq]at h;subst h
   have:∃v,cs=[v]:=by
    rcases DataW.trod_pointer hu hx with⟨rfl,_⟩|⟨a,cs',y,m,_,rfl,_⟩<;>exact⟨_,rfl⟩
   obtain⟨v,rfl⟩:=this
   exact⟨dBulk x.1,0,v,[],by omega,rfl,⟨hu,fuel,x,Nat.le_refl _,Nat.le_refl _,hx⟩,rfl⟩
  ·rename_i e hu
   simp only[Option.some.injEq]at h;subst h
   have:∃v,cs=[v]:=by
    rcases DataW.trod_slice hu hx with⟨rfl,_⟩|⟨a,len,cap,elems,rest,m,_,rfl,_⟩<;>exact⟨_,rfl⟩
   obtain⟨v,rfl⟩:=this
   exact⟨dBulk x.1,0,v,[],by omega,rfl,⟨hu,fuel,x,Nat.le_refl _,Nat.le_refl _,hx⟩,rfl⟩
  ·rename_i fs hu
   simp only[Option.bind_eq_some_iff]at h
   obtain⟨l,hl,h⟩:=h
   split at h
   ·rename_i hlen
    simp only[Option.some.injEq]at h;subst h
    obtain⟨xs,m,rfl,rfl,hcl,hxl,hf⟩:=DataW.trod_struct hu hx
    have key:∀(gs:List Field) (o:Nat) (l':List Leaf) (ys:List (DataW H×List MemPlace)),catF P (leaves P n) o gs=some l'->(∀(i:Nat) (f:Field),gs[i]?=some f->DataW.trod enc P w 0 (λ_=>true) true m f.type ((cs.drop f.offset).take (P.cellsOf f.type))=ys[i]?)->gs.length=ys.length->o+l'.length=cs.length->LvB enc P w (m+1) (dBulks (ys.map (·.1))) l' (cs.drop o):=by
     intro gs
     induction gs with
     |nil=>
      intro o l' ys h _ _ ho
      simp only[catF,Option.some.injEq]at h;subst h
      simp only[List.length_nil,Nat.add_zero]at ho
      exact List.drop_of_length_le (by omega)
     |cons f r ih=>
      intro o l' ys h hall hyl ho
      simp only[catF]at h
      split at h
      ·rename_i hoff
       simp only[Option.bind_eq_some_iff]at h
       obtain⟨a,ha,h⟩:=h
       split at h
       ·rename_i hal
        simp only[Option.map_eq_some_iff]at h
        obtain⟨l2,h2,rfl⟩:=h
        cases ys with
        |nil=>simp at hyl
        |cons y ys=>
         have hy:=hall 0 f rfl
         have r1:=(trod_leavesB n m f.type _ y a ha hy).mono (b:=m+1) (by omega) (Nat.le_refl _)
         rw[hoff,<-hal]at r1
         simp only[List.length_append]at ho
         have r2:=ih (o+a.length) l2 ys h2 (λi g hg=>hall (i+1) g (by simpa using hg)) (by simpa using hyl) (by omega)
         have e:cs.drop o=(cs.drop o).take a.length++cs.drop (o+a.length):=by
          rw[<-List.drop_drop];exact(List.take_append_drop _ _).symm
         rw[e]
         simp only[List.map_cons,dBulks]
         exact r1.append r2
       ·cases h
      ·cases h
    have:=key fs.toList 0 l xs hl (λi f hi=>hf i f (by simpa using hi)) (by simpa using hxl.symm) (by omega)
    rw[List.drop_zero]at this
    exact this.mono (Nat.le_refl _) (by simp only[dBulk];omega)
   ·cases h
  ·rename_i k e hu
   simp only[Option.bind_eq_some_iff]at h
   obtain⟨a,ha,h⟩:=h
   split at h
   ·rename_i hc
    simp only[Option.some.injEq]at h;subst h
    obtain⟨xs,m,rfl,rfl,hcl,hxl,hf⟩:=DataW.trod_array hu hx
    have key:∀(j i:Nat) (ys:List (DataW H×List MemPlace)),i+j=k->xs.drop i=ys->LvB enc P w (m+1) (dBulks (ys.map (·.1))) (List.replicate j a).flatten (cs.drop (i*a.length)):=by
     intro j
     induction j with
     |zero=>
      intro i ys hi _
      simp only[List.replicate_zero,List.flatten_nil]
      have:i=k:=by omega
      subst this
      exact List.drop_of_length_le (by omega)
     |succ j ih=>
      intro i ys hi hys
      simp only[List.replicate_succ,List.flatten_cons]
      have hlt:i<xs.length:=by omega
      have r1:=(trod_leavesB n m e _ xs[i] a ha ((hf i (by omega)).trans (List.getElem?_eq_getElem hlt))).mono (b:=m+1) (by omega) (Nat.le_refl _)
      rw[<-hc.1]at r1
      have r2:=ih (i+1) _ (by omega) rfl
      have e':cs.drop (i*a.length)=(cs.drop (i*a.length)).take a.length++cs.drop ((i+1)*a.length):=by
       rw[Nat.succ_mul,<-List.drop_drop];exact(List.take_append_drop _ _).symm
      rw[e',<-hys,List.drop_eq_getElem_cons hlt]
      simp only[List.map_cons,dBulks]
      exact r1.append r2
    have:=key k 0 xs (by omega) rfl
    rw[Nat.zero_mul,List.drop_zero]at this
    exact this.mono (Nat.le_refl _) (by simp only[dBulk];omega)
   ·cases h
  ·cases h
theorem open_slB {fuel B:Nat} {t e:TypeId} {v:Value} {ls:List Leaf} (m:Nat) (sz:Nat) (hls:leaves P m e=some ls) (hsz:P.cellsOf e=sz) (hl:ls.length=sz) (h0:0<sz) (h:LeafB enc P w fuel B (.sl t e) v):
  ∃A l c xss bs,v= .slice A l c/\SlV (HM w) A l c sz (List.flatten xss)/\xss.length=l/\l<=maxLen/\All2 (λcs b=>∃n,n<fuel/\LvB enc P w n b ls cs) xss bs/\bs.sum+1<=B:=by
 obtain⟨ht,n,x,hn,hB,hx⟩:=h
 rcases DataW.trod_slice ht hx with⟨hc,hxe⟩|⟨a,len,cap,elems,rest,n',rfl,hc,hxe,_,hlc,hcm,hel,hels,_⟩
 ·simp only[List.cons.injEq,and_true]at hc
  subst hc
  subst hxe
  exact⟨none,0,0,[],[],rfl,⟨by simp,Nat.le_refl _,by simp,λh=>by omega⟩,rfl,by simp,rfl,by simpa[dBulk]using hB⟩
 ·simp only[List.cons.injEq,and_true]at hc
  subst hc
  subst hxe
  have hex:∀i,(hi:i<len)->∃cs,w.cells? 0 (a.add (i*sz)) sz=some cs/\LvB enc P w n' (dBulk (elems[i]'(by omega)).1) ls cs:=by
   intro i hi
   have h1:=hels i hi
   rw[List.getElem?_eq_getElem (by omega),hsz]at h1
   simp only[Option.bind_eq_some_iff]at h1
   obtain⟨cs,h2,h3⟩:=h1
   exact⟨cs,h2,trod_leavesB m n' e cs _ ls hls h3⟩
  let f:Nat->List Value:=λi=>((w.cells? 0 (a.add (i*sz)) sz).getD [])
  have hf:∀i,(hi:i<len)->w.cells? 0 (a.add (i*sz)) sz=some (f i)/\(f i).length=sz/\LvB enc P w n' (dBulk (elems[i]'(by omega)).1) ls (f i):=by
   intro i hi
   obtain⟨cs,h2,h3⟩:=hex i hi
   have:f i=cs:=by simp[f,h2]
   rw[this]
   exact⟨h2,by rw[h3.length,hl],h3⟩
  have hflat:∀k,k<=len->(((List.range k).map f).flatten).length=k*sz:=by
   intro k
   induction k with
   |zero=>simp
   |succ k ih=>
    intro hk
    rw[List.range_succ,List.map_append,List.flatten_append,List.length_append,ih (by omega)]
    simp[(hf k (by omega)).2.1,Nat.succ_mul]
  have hget:∀k,k<=len->∀j v,(((List.range k).map f).flatten)[j]?=some v->∃i r,i<k/\r<sz/\j=i*sz+r/\(f i)[r]?=some v:=by
   intro k
   induction k with
   |zero=>intro _ j v hj;simp at hj
   |succ k ih=>
    intro hk j v hj
    rw[List.range_succ,List.map_append,List.flatten_append,List.getElem?_append,hflat k (by omega)]at hj
    split at hj
    ·obtain⟨i,r,h1,h2,h3,h4⟩:=ih (by omega) j v hj
     exact⟨i,r,by omega,h2,h3,h4⟩
    ·rename_i hge
     simp only[List.map_cons,List.map_nil,List.flatten_cons,List.flatten_nil,List.append_nil]at hj
     have:=(List.getElem?_eq_some_iff.1 hj).1
     rw[(hf k (by omega)).2.1]at this
     exact⟨k,j-k*sz,by omega,this,by omega,hj⟩
  have hsum:∀l:List (DataW H×List MemPlace),(l.map λx=>dBulk x.1).sum=dBulks (l.map (·.1)):=by
   intro l
   induction l with
   |nil=>rfl
   |cons x r ih=>simp only[List.map_cons,List.sum_cons,dBulks,ih]
  refine⟨some a,len,cap,(List.range len).map f,elems.map λx=>dBulk x.1,rfl,⟨hflat len (Nat.le_refl _),hlc,hcm,λhpos=>?_⟩,by simp,by omega,?_,?_⟩
  ·have hs0:=(cells_at (hf 0 hpos).1 h0).1
   rw[Nat.zero_mul,Addr.add,if_pos rfl]at hs0
   refine⟨a.block,a.off,by rw[<-hs0],λj v hj=>?_⟩
   obtain⟨i,r,h1,h2,rfl,h4⟩:=hget len (Nat.le_refl _) j v hj
   have h5:=(cells_at (hf i h1).1 h0).2 r v h4
   rw[hs0,add_lit]at h5
   rw[<-Nat.add_assoc]
   exact h5
  ·refine All2.of (by simp[hel]) λi cs b hc hb=>?_
   simp only[List.getElem?_map,Option.map_eq_some_iff]at hc hb
   obtain⟨j,hj,rfl⟩:=hc
   obtain⟨y,hy,rfl⟩:=hb
   obtain⟨hjl,rfl⟩:=List.getElem?_eq_some_iff.1 hj
   simp only[List.length_range]at hjl
   simp only[List.getElem_range]at*
   obtain⟨_,rfl⟩:=List.getElem?_eq_some_iff.1 hy
   exact⟨n',by omega,(hf i hjl).2.2⟩
  ·rw[hsum]
   simp only[dBulk]at hB
   omega
theorem typedB {α:Type} {f:α->List Value} {p:Nat->α->Prop}:∀(xss:List (List Value)) (bs:List Nat),All2 (λcs b=>∃e,cs=f e/\p b e) xss bs->∃es:List α,xss=es.map f/\All2 (λe b=>p b e) es bs
 |[],_,h=>by cases h;exact⟨[],rfl,rfl⟩
 |cs::r,_,⟨b,bs,h1,⟨e,he,hp⟩,h3⟩=>by
  subst h1;subst he
  obtain⟨es,rfl,hes⟩:=typedB r bs h3
  exact⟨e::es,rfl,b,bs,rfl,hp,hes⟩
theorem All2.left {α β:Type} {R:α->β->Prop}:∀{as1:List α} {bs:List β},All2 R as1 bs->∀a∈as1,∃b,R a b
 |[],_,_,a,h=>by cases h
 |x::_,_,⟨b,bs,h1,h2,h3⟩,a,h=>by
  rcases List.mem_cons.1 h with rfl|h
  ·exact⟨b,h2⟩
  ·exact h3.left a h
theorem LeafB.slice {fuel B:Nat} {t e:TypeId} {v:Value} (h:LeafB enc P w fuel B (.sl t e) v):∃A l c,v= .slice A l c/\LeafB enc P w fuel B (.sl t e) (.slice A l c):=by
 obtain⟨ht,n,x,hn,hB,hx⟩:=id h
 rcases DataW.trod_slice ht hx with⟨hc,_⟩|⟨a,len,cap,elems,rest,m,_,hc,_⟩
 ·simp only[List.cons.injEq,and_true]at hc;subst hc;exact⟨_,_,_,rfl,h⟩
 ·simp only[List.cons.injEq,and_true]at hc;subst hc;exact⟨_,_,_,rfl,h⟩
theorem LeafB.pointer {fuel B:Nat} {t e:TypeId} {v:Value} (h:LeafB enc P w fuel B (.ptr t e) v):∃p,v= .pointer p/\LeafB enc P w fuel B (.ptr t e) (.pointer p):=by
 obtain⟨ht,n,x,hn,hB,hx⟩:=id h
 rcases DataW.trod_pointer ht hx with⟨hc,_⟩|⟨a,cs',y,m,_,hc,_⟩
 ·simp only[List.cons.injEq,and_true]at hc;subst hc;exact⟨_,rfl,h⟩
 ·simp only[List.cons.injEq,and_true]at hc;subst hc;exact⟨_,rfl,h⟩
theorem argSlB {r:Reach} {b0:Nat} {t e:TypeId} {v:Value} {d:DataW H} {ps:List MemPlace} (ht:P.underlying t=some (.slice e)) (hval:Value.okWide P w r b0 t v) (hd:DataW.Trod enc P w 0 (λ_=>true) true t v d ps):
  ∃A l c fuel,v= .slice A l c/\LeafB enc P w fuel (dBulk d) (.sl t e) (.slice A l c):=by
 obtain⟨A,l,c,rfl⟩:=WideShapes.okWide_slice ht hval
 obtain⟨fuel,hf⟩:=hd
 exact⟨A,l,c,fuel,rfl,ht,fuel,_,Nat.le_refl _,Nat.le_refl _,by simpa[Value.cells]using hf⟩
end
end Go.Gx

namespace Go.Gx
open Go.RowKit
def Mem.put (M:Mem) (b o:Nat) (vs:List Value):Mem:=λx=>if x=b then(match M b with
 |some (.cells c t f)=>some (.cells (putAt c.toList o vs).toArray t f)
 |r=>r) else M x
def Mem.add (M:Mem) (b:Nat) (o:Obj):Mem:=λx=>if x=b then some o else M x
theorem Mem.put_ne {M:Mem} {b o x:Nat} {vs:List Value} (h:x≠b):M.put b o vs x=M x:=by unfold Mem.put;rw[if_neg h]
theorem Mem.add_ne {M:Mem} {b x:Nat} {o:Obj} (h:x≠b):M.add b o x=M x:=by unfold Mem.add;rw[if_neg h]
theorem Mem.add_eq {M:Mem} {b:Nat} {o:Obj}:M.add b o b=some o:=by unfold Mem.add;rw[if_pos rfl]
theorem Mem.add_le {M:Mem} {b:Nat} {o:Obj} (h:M b=none):M.le (M.add b o):=λx q hx=>by
 rw[Mem.add_ne (by rintro rfl;rw[h]at hx;cases hx)];exact hx
theorem Mem.put_some {M:Mem} {b o x:Nat} {vs:List Value}:(M.put b o vs x).isSome=(M x).isSome:=by
 by_cases h:x=b
 ·subst h
  unfold Mem.put
  rw[if_pos rfl]
  split<;>simp_all
 ·rw[Mem.put_ne h]
structure WX (M M0:Mem) (E:World):Prop where
 old:∀b o,M b=some o->(M0 b).isSome=true\/E.heap.size<=b
 dom:∀b,(M0 b).isSome=true->(M b).isSome=true
theorem WX.refl (M:Mem) (E:World):WX M M E:=⟨λb o h=>.inl (by rw[h];rfl),λ_ h=>h⟩
theorem WX.next {M'' M' M:Mem} {E:World} (h:WX M' M E) (hl:M'.le M'') (k:∀b o,M'' b=some o->M' b=some o\/E.heap.size<=b):WX M'' M E:=
 ⟨λb o hb=>(k b o hb).elim (λh'=>h.old b o h') .inr,λb hb=>by
  obtain⟨o,ho⟩:=Option.isSome_iff_exists.1 (h.dom b hb)
  rw[hl b o ho];rfl⟩
theorem WX.put {M M0:Mem} {E:World} (h:WX M M0 E) (b o:Nat) (vs:List Value):WX (M.put b o vs) M0 E:=
 ⟨λx q hx=>by
  have:(M x).isSome=true:=by rw[<-Mem.put_some (b:=b) (o:=o) (vs:=vs),hx];rfl
  obtain⟨r,hr⟩:=Option.isSome_iff_exists.1 this
  exact h.old x r hr,λx hx=>by rw[Mem.put_some];exact h.dom x hx⟩
noncomputable def bwW (E:World) (M0:Mem) (L:Nat->Prop):List Nat:=(List.range E.heap.size).filter λk=> @decide (L k/\(M0 k).isSome=true) (Classical.propDecidable _)
theorem mem_bwW {E:World} {M0:Mem} {L:Nat->Prop} {k:Nat}:k∈bwW E M0 L↔k<E.heap.size/\L k/\(M0 k).isSome=true:=by
 unfold bwW
 rw[List.mem_filter,List.mem_range]
 simp
def growW (M:Mem) (w w':World):Mem:=λb=>if w.heap.size<=b\/(M b).isSome=true then w'.heap[b]? else none
structure LeW (M:Mem) (L:Nat->Prop) (M':Mem):Prop where
 keep:∀b o,M b=some o->¬L b->M' b=some o
 dom:∀b,(M b).isSome=true->(M' b).isSome=true
def CallW (P:Program) (f:FuncId) (args:Array Value) (M:Mem) (L:Nat->Prop) (K:Value->Mem->Prop):Prop:=
 ∀w,On M w->Calls P f args w λe w'=>∃v,e= .returned v/\Pres w (bwW w M L) w'/\K v (growW M w w')
theorem growW_le {M:Mem} {L:Nat->Prop} {w w':World} (hon:On M w) (hp:Pres w (bwW w M L) w'):LeW M L (growW M w w'):=by
 refine⟨λb o hb hL=>?_,λb hb=>?_⟩
 ·unfold growW
  rw[if_pos (.inr (by rw[hb];rfl)),hp.block b (hon.lt hb) (λh=>hL (mem_bwW.1 h).2.1)]
  exact hon b o hb
 ·obtain⟨o,ho⟩:=Option.isSome_iff_exists.1 hb
  have:=hon.lt ho
  have hs:=hp.size
  unfold growW
  rw[if_pos (.inr hb),Array.getElem?_eq_getElem (by omega)]
  rfl
theorem Pres.wider {E w:World} {M:Mem} {L L':Nat->Prop} (h:Pres E (bwW E M L) w) (hl:∀b,L b->L' b):Pres E (bwW E M L') w:=
 ⟨h.os,h.tape,h.output,h.size,λk hk hn=>h.block k hk λhm=>hn (by obtain⟨h1,h2,h3⟩:=mem_bwW.1 hm;exact mem_bwW.2 ⟨h1,hl k h2,h3⟩)⟩
theorem CallW.mono {P:Program} {f:FuncId} {args:Array Value} {M:Mem} {L L':Nat->Prop} {K K':Value->Mem->Prop} (h:CallW P f args M L K) (hl:∀b,L b->L' b) (hK:∀v M',LeW M L M'->K v M'->K' v M'):CallW P f args M L' K':=
 λw hw=>(h w hw).mono λ_ _ ⟨v,h1,h2,h3⟩=>⟨v,h1,h2.wider hl,hK v _ (growW_le hw h2) h3⟩
theorem grow_same {M:Mem} {w w':World} (hon:On M w) (hb:Below w.heap.size w w'):grow M w w'=growW M w w':=by
 funext b
 unfold grow growW
 by_cases h:w.heap.size<=b
 ·rw[if_pos h,if_pos (.inl h)]
 ·rw[if_neg h]
  cases hm:M b with
  |none=>rw[if_neg (by simp;omega)]
  |some o=>rw[if_pos (.inr rfl),hb.block b (by omega)];exact(hon b o hm).symm
theorem CallE.toW {P:Program} {f:FuncId} {args:Array Value} {M:Mem} {L:Nat->Prop} {K:Value->Mem->Prop} (h:CallE P f args M K):CallW P f args M L K:=
 λw hw=>(h w hw).mono λ_ _ ⟨v,h1,h2,h3⟩=>⟨v,h1,⟨h2.os,h2.tape,h2.output,h2.size,λk hk _=>h2.block k hk⟩,by rw[<-grow_same hw h2];exact h3⟩
section
variable {P:Program} {ops:Array Oper} {Q:Exit->Act->World->Prop} {n:Nat} {E:World} {M M0:Mem} {L:Nat->Prop} {w:World} {a:Act} {env:Env} {bs:List Bx} {rs:List Rw} {rest:List Oper}
theorem WX.grow {w':World} (hs:Sx n E (bwW E M0 L) M w a env bs rs) (hM:WX M M0 E) {L':Nat->Prop} (hp:Pres w (bwW w M L') w'):WX (growW M w w') M0 E:=by
 have hsz:=hs.pr.size
 refine⟨λb o hb=>?_,λb hb=>(growW_le hs.on hp).dom b (hM.dom b hb)⟩
 unfold growW at hb
 split at hb
 ·rename_i h
  rcases h with h|h
  ·exact .inr (by omega)
  ·obtain⟨q,hq⟩:=Option.isSome_iff_exists.1 h
   exact hM.old b q hq
 ·cases hb
end
section
variable {P:Program} {env:Env} {M:Mem} {bs:List Bx} {rs:List Rw} {d:Option Tmp} {ty:TypeId} {pos:String} {af:Array Edge} {gd:Option (Nat×Bool)}
end
end Go.Gx

namespace Go.Gx
open Go.RowKit Go.Maps Go.WideMaps
def pk (a b:Int):Value:=.agg #[.int .i64 a,.int .i64 b]
theorem pk_inj {a b c d:Int} (h:pk a b=pk c d):a=c/\b=d:=by
 simp only[pk,Value.agg.injEq,Array.mk.injEq,List.cons.injEq,Value.int.injEq,and_true,true_and]at h
 exact h
structure KeyP (P:Program) (k:TypeId):Prop where
 keyed:Keyed P k
 of:∀a b:Int,InI a->InI b->∃l,keyOf P k (pk a b)=some l
theorem wf_in {a:Int} (h:InI a):(Lit.int .i64 a).wf=true:=by
 have h1:=h.1
 have h2:=h.2
 show(decide (IntKind.i64.min<=a)&&decide (a<=IntKind.i64.max))=true
 rw[Bool.and_eq_true,decide_eq_true_eq,decide_eq_true_eq]
 exact⟨h1,h2⟩
theorem keyLits_int {P:Program} {e:TypeId} (he:P.underlying e=some (.int .i64)) {z:Int} (hz:InI z) (d:Nat):P.keyLits (d+1) e [.int .i64 z]=some [.int .i64 z]:=by
 rw[Program.keyLits.eq_def]
 simp only[he]
 rw[if_pos ⟨trivial,wf_in hz⟩]
theorem KeyP.array {P:Program} {k e:TypeId} (m:Nat) (hm:m+1<=10000) (hk:P.keyTypeAt m k=true) (ht:P.tiled m k=true) (hu:P.underlying k=some (.array 2 e)) (he:P.underlying e=some (.int .i64)) (hc:P.cellsOf k=2) (hce:P.cellsOf e=1) (hkt:P.keyType k=true) (hn:P.types.size=P.types.size-1+1):KeyP P k:=by
 refine⟨Keyed.of_law (deep_law hm hk ht (by rw[hu])),λa b ha hb=>?_⟩
 have hf:(pk a b).formed P k=true:=by simp[pk,Value.formed,hu,hc]
 have h1:∀z,InI z->P.keyLits P.types.size e [.int .i64 z]=some [.int .i64 z]:=λz hz=>by
  rw[hn];exact keyLits_int he hz _
 refine⟨.string (keyBytes [.int .i64 a,.int .i64 b]),?_⟩
 unfold keyOf
 simp only[hu,hkt,hf,Bool.and_self,if_true]
 have:(pk a b).cells.toList=[.int .i64 a,.int .i64 b]:=rfl
 rw[this,Program.keyLits.eq_def]
 simp only[hu,List.length_cons,List.length_nil,hc,if_true,hce]
 have hr:List.range 2=[0,1]:=rfl
 rw[hr]
 simp[List.mapM_cons,h1 a ha,h1 b hb]
def MapF (M:Mem) (r:Nat) (f:Int->Int->Option Value):Prop:=
 ∃es clk,M r=some (.map es clk)/\(∀e∈es.toList,∃a b,e.key=pk a b/\InI a/\InI b/\f a b=some e.val)/\(∀a b v,f a b=some v->∃e∈es.toList,e.key=pk a b)/\∀(i j:Nat) e e',es[i]?=some e->es[j]?=some e'->e.key=e'.key->i=j
theorem MapF.le {M M':Mem} {r:Nat} {f:Int->Int->Option Value} (h:MapF M r f) (k:M.le M'):MapF M' r f:=by
 obtain⟨es,clk,h1,h2⟩:=h
 exact⟨es,clk,k _ _ h1,h2⟩
theorem MapF.new (M:Mem) (r:Nat):MapF (M.add r (.map #[] 0)) r λ_ _=>none:=
 ⟨#[],0,Mem.add_eq,λe h=>by simp at h,(λa b v h=>by cases h),λi j e e' h=>by simp at h⟩
section
variable {P:Program} {ops:Array Oper} {Q:Exit->Act->World->Prop} {n:Nat} {E:World} {M M0:Mem} {L:Nat->Prop} {w:World} {a:Act} {env:Env} {bs:List Bx} {rs:List Rw} {rest:List Oper}
variable {d:Option Tmp} {ty:TypeId} {pos:String} {af:Array Edge} {gd:Option (Nat×Bool)}
theorem map_find {k:TypeId} (K:KeyP P k) {f:Int->Int->Option Value} {es:Array MapEntry} (h1:∀e∈es.toList,∃a b,e.key=pk a b/\InI a/\InI b/\f a b=some e.val) (h2:∀a b v,f a b=some v->∃e∈es.toList,e.key=pk a b) {x y:Int} (hx:InI x) (hy:InI y) (w:World):
  ((Instr.findKey k (pk x y) es.toList).run P w= .ok none w/\f x y=none/\∀e∈es.toList,e.key≠pk x y)\/∃j e,(Instr.findKey k (pk x y) es.toList).run P w= .ok (some (j,e.val)) w/\es.toList[j]?=some e/\e.key=pk x y/\f x y=some e.val:=by
 obtain⟨l,hl⟩:=K.of x y hx hy
 rcases K.keyed.find w hl es.toList (λe he=>by obtain⟨a,b,hk,ha,hb,_⟩:=h1 e he;rw[hk];exact K.of a b ha hb)with⟨g1,g2⟩|⟨j,e,g1,g2,g3⟩
 ·refine .inl ⟨g1,?_,g2⟩
  cases hf:f x y with
  |none=>rfl
  |some v=>obtain⟨e,he,hk⟩:=h2 x y v hf;exact absurd hk (g2 e he)
 ·obtain⟨a,b,hk,_,_,hf⟩:=h1 e (List.mem_of_getElem? g2)
  obtain⟨rfl,rfl⟩:=pk_inj (hk.symm.trans g3)
  exact .inr ⟨j,e,g1,g2,g3,hf⟩
theorem Yl.lookup {t k e:TypeId} {m i:Operand} {r:Nat} {f:Int->Int->Option Value} {x y:Int} {z v:Value} (hkm:known env m=true) (hki:known env i=true) (hm:evT env m= .map (some r)) (hi:evT env i=pk x y) (ht:P.underlying t=some (.map k e)) (K:KeyP P k)
  (hz:∃zi,P.info? e=some zi/\zi.zero=some z) (hf:MapF M r f) (hx:InI x) (hy:InI y) (hv:(f x y).getD z=v):Yl P env M bs rs ⟨d,.lookup t m i false,ty,pos,af,gd⟩ v:=by
 refine⟨by simp[okOp,notSel,Op.operands,hkm,hki],λw hw=>?_⟩
 obtain⟨es,clk,h0,h1,h2,h3⟩:=hf
 have hb:=hw.1 r _ h0
 obtain⟨l,hl⟩:=K.of x y hx hy
 obtain⟨zi,hz1,hz2⟩:=hz
 have hzr:(zeroValue e).run P w= .ok z w:=by simp[zeroValue,typeInfo,hz1,hz2]
 rcases map_find K h1 h2 hx hy w with⟨g1,g2,_⟩|⟨j,en,g1,_,_,g4⟩
 ·rw[g2]at hv
  simp[execOp,hm,hi,Instr.lookup,run_underlying ht,MapKept.run_getObj_map hb,K.keyed.check w _ hl,g1,hzr,Result.andThen]
  exact hv
 ·rw[g4]at hv
  simp[execOp,hm,hi,Instr.lookup,run_underlying ht,MapKept.run_getObj_map hb,K.keyed.check w _ hl,g1,Result.andThen]
  exact hv
theorem Sx.mapW (hs:Sx n E (bwW E M0 L) M w a env bs rs) (hM:WX M M0 E) {r:Nat} {es:Array MapEntry} {clk:Nat} {o:Obj} (hc:M r=some (.map es clk)) (hw:L r\/M0 r=none) {a':Act} {env':Env} (hA:Ag n a' env'):
  Sx n E (bwW E M0 L) (M.add r o) (ChangeMaps.setBlock w r o) a' env' bs rs:=by
 have hb:=hs.on r _ hc
 have hlt:r<w.heap.size:=hs.on.lt hc
 have hother:∀x,x≠r->(ChangeMaps.setBlock w r o).heap[x]?=w.heap[x]?:=by
  intro x hx
  simp only[ChangeMaps.setBlock,Array.getElem?_setIfInBounds]
  rw[if_neg (by omega)]
 refine⟨hA,λx q hx=>?_,?_,λx hx=>?_,λr' hr=>?_,hs.nd⟩
 ·by_cases hxb:x=r
  ·subst hxb
   rw[Mem.add_eq]at hx
   rw[<-hx]
   simp[ChangeMaps.setBlock,hlt]
  ·rw[Mem.add_ne hxb]at hx
   rw[hother x hxb];exact hs.on x q hx
 ·obtain⟨h1,h2,h3,h4,h5⟩:=hs.pr
  refine⟨h1,h2,h3,by simpa[ChangeMaps.setBlock]using h4,λx hx hn=>?_⟩
  rw[hother x (by
   rintro rfl
   rcases hM.old _ _ hc with h|h
   ·refine hn (mem_bwW.2 ⟨hx,?_,h⟩)
    rcases hw with h'|h'
    ·exact h'
    ·rw[h']at h;cases h
   ·omega)]
  exact h5 x hx hn
 ·obtain⟨h1,h2,h3⟩:=hs.bx x hx
  have hne:x.b≠r:=by rintro rfl;rw[h2]at hc;cases hc
  exact⟨(hother _ hne).trans h1,by rw[Mem.add_ne hne];exact h2,h3⟩
 ·obtain⟨h1,h2⟩:=hs.rw r' hr
  have hne:∀g,r'.v.ownBlock=some g->g≠r:=λg hg=>by rintro rfl;rw[(h2 g hg).1]at hc;cases hc
  exact⟨ownsRow_keep h1 λg hg=>hother g (hne g hg),λg hg=>⟨by rw[Mem.add_ne (hne g hg)];exact(h2 g hg).1,(h2 g hg).2⟩⟩
theorem WX.set (h:WX M M0 E) {r:Nat} {o:Obj} (hr:(M r).isSome=true):WX (M.add r o) M0 E:=
 ⟨λx q hx=>by
  by_cases hxr:x=r
  ·subst hxr
   obtain⟨q',hq'⟩:=Option.isSome_iff_exists.1 hr
   exact h.old x q' hq'
  ·rw[Mem.add_ne hxr]at hx;exact h.old x q hx,λx hx=>by
  by_cases hxr:x=r
  ·subst hxr;rw[Mem.add_eq];rfl
  ·rw[Mem.add_ne hxr];exact h.dom x hx⟩
theorem stepMapNew {d:Nat} {t ty:TypeId} {pos:String} {af:Array Edge} (hs:Sx n E (bwW E M0 L) M w a env bs rs) (hM:WX M M0 E) (hdn:d<n)
  (h:∀a' w' M2 r,M r=none->M2=M.add r (.map #[] 0)->M0 r=none->WX M2 M0 E->Sx n E (bwW E M0 L) M2 w' a' ((d,.map (some r))::env) bs rs->wpList P ops Q rest a' w'):wpList P ops Q (⟨some d,.makeMap t none,ty,pos,af,none⟩::rest) a w:=by
 refine stepK (Z:=λ_ _=>False) (d:=d) hs (λ_ _ h=>h.elim) rfl (by simp[okOp,notSel,Op.operands]) rfl hdn ?_
 have hnone:M w.heap.size=none:=hs.on.noneAt (Nat.le_refl _)
 have hMnone:M0 w.heap.size=none:=by
  cases h0:M0 w.heap.size with
  |none=>rfl
  |some o=>
   obtain⟨o',ho'⟩:=Option.isSome_iff_exists.1 (hM.dom _ (by rw[h0];rfl))
   rw[hnone]at ho';cases ho'
 refine OpW.of_run (w':=w.alloc (.map #[] 0)) (v:=.map (some w.heap.size)) ?_ ?_
 ·simp[execOp,Instr.makeMap,newObj,Sem.run]
 ·intro a' hA
  have hsz:(w.alloc (.map #[] 0)).heap.size=w.heap.size+1:=by unfold World.alloc;exact Array.size_push _
  have hother:∀x,x<w.heap.size->(w.alloc (.map #[] 0)).heap[x]?=w.heap[x]?:=λx hx=>by
   simp only[World.alloc,Array.getElem?_push]
   rw[if_neg (by omega)]
  refine h a' _ _ _ hnone rfl hMnone (hM.next (Mem.add_le hnone) λx o hx=>?_) ⟨hA,λx o hx=>?_,?_,λx hx=>?_,λr hr=>?_,hs.nd⟩
  ·by_cases e:x=w.heap.size
   ·exact .inr (e▸hs.pr.size)
   ·rw[Mem.add_ne e]at hx;exact .inl hx
  ·by_cases e:x=w.heap.size
   ·subst e
    rw[Mem.add_eq]at hx
    rw[<-hx];exact heap_alloc_new w _
   ·rw[Mem.add_ne e]at hx
    rw[hother x (hs.on.lt hx)];exact hs.on x o hx
  ·obtain⟨h1,h2,h3,h4,h5⟩:=hs.pr
   refine⟨h1,h2,h3,Nat.le_trans h4 (Nat.le_trans (Nat.le_succ _) (Nat.le_of_eq hsz.symm)),λx hx hn=>?_⟩
   rw[hother x (by omega)];exact h5 x hx hn
  ·obtain⟨h1,h2,h3⟩:=hs.bx x hx
   have hne:x.b≠w.heap.size:=by have:=h1.lt;omega
   exact⟨(hother _ h1.lt).trans h1,by rw[Mem.add_ne hne];exact h2,h3⟩
  ·obtain⟨h1,h2⟩:=hs.rw r hr
   have hlt:∀g,r.v.ownBlock=some g->g<w.heap.size:=λg hg=>ownBlock_lt h1 hg
   exact⟨ownsRow_keep h1 λg hg=>hother g (hlt g hg),λg hg=>⟨by rw[Mem.add_ne (by have:=hlt g hg;omega)];exact(h2 g hg).1,(h2 g hg).2⟩⟩
end
section
variable {P:Program} {fn:Func} {n:Nat} {E:World} {bw:List Nat} {M:Mem} {w:World} {a:Act} {env:Env} {bs:List Bx} {rs:List Rw}
end
end Go.Gx

namespace Go.Gx
open Go.RowKit
section
variable {P:Program} {N J:Act->World->Prop} {X:List (Nat×(Act->World->Prop))} {R:Act->World->Prop} {Z:List PanicEntry->Act->World->Prop} {a:Act} {w:World} {ops:Array Oper} {Q:Exit->Act->World->Prop}
theorem wn (h:Q .normal a w):wpList P ops Q [] a w:=h
theorem qs {x y:Code} (h:Wp P x (λa w=>Wp P y N X R Z a w) X R Z a w):Wp P (.seq x y) N X R Z a w:=Wp.seq h
theorem qg {id:Nat} {l:List Oper} (h:wpList P l.toArray (QQ N X R Z) l a w):Wp P (.region id l.toArray false) N X R Z a w:=Wp.region h
theorem qr {id:Nat} {l:List Oper} {y:Code} (h:wpList P l.toArray (QQ (λa w=>Wp P y N X R Z a w) X R Z) l a w):Wp P (.seq (.region id l.toArray false) y) N X R Z a w:=Wp.seq (Wp.region h)
theorem qk (h:N a w):Wp P .skip N X R Z a w:=Wp.skip h
theorem qt (h:R a w):Wp P .ret N X R Z a w:=Wp.ret h
theorem qb {id:Nat} {c:Code} (h:Wp P c N ((id,N)::X) R Z a w):Wp P (.block id c) N X R Z a w:=Wp.block h
theorem qx {id:Nat} {K:Act->World->Prop} (hx:lkX X id=some K) (h:K a w):Wp P (.exit id) N X R Z a w:=Wp.exit hx h
end
theorem SubE.of {env:Env}:∀{env':Env},(env'.map λp=>lk env p.1)=(env'.map λp=>some p.2)->SubE env env'
 |[],_=>trivial
 |p::r,h=>by
  simp only[List.map_cons,List.cons.injEq]at h
  exact⟨h.1,SubE.of h.2⟩
section
variable {P:Program} {ops:Array Oper} {Q:Exit->Act->World->Prop} {n:Nat} {E:World} {bw:List Nat} {M M0:Mem} {w:World} {a:Act} {env env':Env} {bs bs':List Bx} {rs rs':List Rw} {rest:List Oper} {o o1 o2 o3 o4 o5 o6:Oper}
theorem Sx.q (hs:Sx n E bw M w a env bs rs) (he:(env'.map λp=>lk env p.1)=(env'.map λp=>some p.2):=by rfl):Sx n E bw M w a env' bs rs:=hs.wk (SubE.of he)
theorem Sx.qq (hs:Sx n E bw M w a env bs rs) (hb:bs'.Sublist bs) (hr:rs'.Sublist rs) (he:(env'.map λp=>lk env p.1)=(env'.map λp=>some p.2):=by rfl):Sx n E bw M w a env' bs' rs':=hs.weak hb hr (SubE.of he)
structure Pq (P:Program) (n:Nat) (env:Env) (o:Oper) (d:Nat) (v:Value):Prop where
 g1:o.guard=none
 d1:o.dst=some d
 n1:d<n
 k1:okOp env o=true
 r1:∀w,(execOp (evT env) o).run P w= .ok (.value v) w
theorem Pq.s {d:Nat} {v:Value} (q:Pq P n env o d v) (hs:Sx n E bw M w a env bs rs) (h:∀a',Sx n E bw M w a' ((d,v)::env) bs rs->wpList P ops Q rest a' w):wpList P ops Q (o::rest) a w:=sP v hs h q.g1 q.d1 q.n1 q.k1 q.r1
theorem sP2 (v1 v2:Value) {d1 d2:Nat} (hs:Sx n E bw M w a env bs rs) (h:∀a',Sx n E bw M w a' ((d2,v2)::(d1,v1)::env) bs rs->wpList P ops Q rest a' w)
  (q1:Pq P n env o1 d1 v1:=by exact⟨rfl,rfl,by decide,rfl,by intro _;kernel_rfl⟩) (q2:Pq P n ((d1,v1)::env) o2 d2 v2:=by exact⟨rfl,rfl,by decide,rfl,by intro _;kernel_rfl⟩):wpList P ops Q (o1::o2::rest) a w:=
 q1.s hs λ_ hs=>q2.s hs h
theorem sP3 (v1 v2 v3:Value) {d1 d2 d3:Nat} (hs:Sx n E bw M w a env bs rs) (h:∀a',Sx n E bw M w a' ((d3,v3)::(d2,v2)::(d1,v1)::env) bs rs->wpList P ops Q rest a' w)
  (q1:Pq P n env o1 d1 v1:=by exact⟨rfl,rfl,by decide,rfl,by intro _;kernel_rfl⟩) (q2:Pq P n ((d1,v1)::env) o2 d2 v2:=by exact⟨rfl,rfl,by decide,rfl,by intro _;kernel_rfl⟩)
  (q3:Pq P n ((d2,v2)::(d1,v1)::env) o3 d3 v3:=by exact⟨rfl,rfl,by decide,rfl,by intro _;kernel_rfl⟩):wpList P ops Q (o1::o2::o3::rest) a w:=
 q1.s hs λ_ hs=>q2.s hs λ_ hs=>q3.s hs h
theorem sP4 (v1 v2 v3 v4:Value) {d1 d2 d3 d4:Nat} (hs:Sx n E bw M w a env bs rs) (h:∀a',Sx n E bw M w a' ((d4,v4)::(d3,v3)::(d2,v2)::(d1,v1)::env) bs rs->wpList P ops Q rest a' w)
  (q1:Pq P n env o1 d1 v1:=by exact⟨rfl,rfl,by decide,rfl,by intro _;kernel_rfl⟩) (q2:Pq P n ((d1,v1)::env) o2 d2 v2:=by exact⟨rfl,rfl,by decide,rfl,by intro _;kernel_rfl⟩)
  (q3:Pq P n ((d2,v2)::(d1,v1)::env) o3 d3 v3:=by exact⟨rfl,rfl,by decide,rfl,by intro _;kernel_rfl⟩) (q4:Pq P n ((d3,v3)::(d2,v2)::(d1,v1)::env) o4 d4 v4:=by exact⟨rfl,rfl,by decide,rfl,by intro _;kernel_rfl⟩):wpList P ops Q (o1::o2::o3::o4::rest) a w:=
 q1.s hs λ_ hs=>q2.s hs λ_ hs=>q3.s hs λ_ hs=>q4.s hs h
theorem ye (v:Value) {j t d:Nat} {b:Bool} (hs:Sx n E bw M w a env bs rs) (h:∀a',Sx n E bw M w a' ((d,v)::env) bs rs->wpList P ops Q rest a' w) (hg:o.guard=some (j,b):=by rfl) (ht:(ops[j]?).bind (·.dst)=some t:=by rfl) (hl:lk env t=some (.bool b):=by rfl)
  (q:Pq P n env {o with guard:=none} d v:=by exact⟨rfl,rfl,by decide,rfl,by intro _;kernel_rfl⟩):wpList P ops Q (o::rest) a w:=sYe hs (q.s hs h) hg ht hl
theorem sB1 (v:Value) (i:Nat) {d:Nat} {t ty:TypeId} {x:Operand} {pos:String} {af:Array Edge} {b k:Nat} {cs:List Value} {bt:TypeId} (hs:Sx n E bw M w a env bs rs) (h:∀a',Sx n E bw M w a' ((d,v)::env) bs rs->wpList P ops Q rest a' w)
  (hi:bs[i]?=some ⟨b,bt,cs⟩:=by rfl) (hk:known env x=true:=by rfl) (hx:evT env x= .pointer (some ⟨b,k,none⟩):=by rfl) (ht:tyOk P t false 1=true:=by kernel_rfl) (hvs:(cs.drop k).take 1=[v]:=by rfl) (hdn:d<n:=by decide):wpList P ops Q (⟨some d,.load t x,ty,pos,af,none⟩::rest) a w:=
 sY v hs (Yl.lB [v] false i hi hk hx ht hvs) h rfl rfl hdn
theorem sV1 (v:Value) {d:Nat} {t ty:TypeId} {x:Operand} {pos:String} {af:Array Edge} {b k:Nat} (hat:At M b k [v]) (hs:Sx n E bw M w a env bs rs) (h:∀a',Sx n E bw M w a' ((d,v)::env) bs rs->wpList P ops Q rest a' w)
  (hk:known env x=true:=by rfl) (hx:evT env x= .pointer (some ⟨b,k,none⟩):=by rfl) (ht:tyOk P t false 1=true:=by kernel_rfl) (hdn:d<n:=by decide):wpList P ops Q (⟨some d,.load t x,ty,pos,af,none⟩::rest) a w:=
 sY v hs (Yl.lV [v] false hat hk hx ht) h rfl rfl hdn
theorem sI (e sz:Nat) {d:Nat} {t ty:TypeId} {x i:Operand} {pos:String} {af:Array Edge} {b k l c:Nat} {ik:IntKind} {z:Int} {ad:Option Addr} (had:ad=some ⟨b,k,none⟩) (h0:0<=z) (hl:z<l) (hs:Sx n E bw M w a env bs rs)
  (h:∀a',Sx n E bw M w a' ((d,.pointer (some ⟨b,k+z.toNat*sz,none⟩))::env) bs rs->wpList P ops Q rest a' w) (hkx:known env x=true:=by rfl) (hki:known env i=true:=by rfl) (hx:evT env x= .slice ad l c:=by rfl) (hi:evT env i= .int ik z:=by rfl)
  (hu:P.underlying t=some (.slice e):=by kernel_rfl) (hn:(P.info? e).map (·.size)=some sz:=by kernel_rfl) (hdn:d<n:=by decide):wpList P ops Q (⟨some d,.indexAddr t x i,ty,pos,af,none⟩::rest) a w:=
 sY _ hs (Yl.iS e sz had h0 hl hkx hki hx hi hu hn) h rfl rfl hdn
theorem rT {K:Value->Prop} {fn:Func} {v:Value} {t:Nat} (hs:Sx n E [] M w a env bs rs) (hM:MX M M0 E) (hK:K v) (hr:fn.results= #[.tmp t]:=by rfl) (hv:lk env t=some v:=by rfl):
  a.defers=[]/\∃v,(results fn a.tmps).run P w= .ok v w/\Below E.heap.size E w/\K v:=lvE K hs (resT hs hr hv) hM.2 hK
theorem rTT {K:Value->Prop} {fn:Func} {v x:Value} {t u:Nat} (hs:Sx n E [] M w a env bs rs) (hM:MX M M0 E) (hK:K (.tuple #[v,x])) (hr:fn.results= #[.tmp t,.tmp u]:=by rfl) (hv:lk env t=some v:=by rfl) (hx:lk env u=some x:=by rfl):
  a.defers=[]/\∃v,(results fn a.tmps).run P w= .ok v w/\Below E.heap.size E w/\K v:=lvE K hs (resTT hs hr hv hx) hM.2 hK
end
section
variable {P:Program} {ops:Array Oper} {Q:Exit->Act->World->Prop} {M0:Mem} {bs0:List Bx} {rs0:List Rw} {keep:List Bool} {n:Nat} {E:World} {bw:List Nat} {M:Mem} {w:World} {a:Act} {env:Env} {bs:List Bx} {rs:List Rw} {o:Oper} {fuel:Nat} {listed:Array Bool}
end
section
variable {P:Program} {f:FuncId} {fn:Func} {c:Code} {M:Mem} {K:Value->Mem->Prop} {L:Nat->Prop}
abbrev EndE (P:Program) (fn:Func) (M:Mem) (K:Value->Mem->Prop) (w:World) (a':Act) (w':World):Prop:=a'.defers=[]/\∃v,(results fn a'.tmps).run P w'= .ok v w'/\Below w.heap.size w w'/\K v (grow M w w')
theorem eE1 {a0:Value} (hf:P.funcs[f]?=some fn) (n:Nat) (h:∀w a,MX M M w->Sx n w [] M w a [(0,a0)] [] []->Wp P c (EndE P fn M K w) [] (EndE P fn M K w) (λ_ _ _=>False) a w) (hb:fn.body=some c:=by rfl) (hn:fn.ntmps=n:=by rfl) (hl:1<=n:=by exact Nat.le_of_ble_eq_true rfl):CallE P f #[a0] M K:=
 enterE (l:=[a0]) hf hb n hn hl λw a hs=>h w a (MX.refl M w) hs
theorem eE2 {a0 a1:Value} (hf:P.funcs[f]?=some fn) (n:Nat) (h:∀w a,MX M M w->Sx n w [] M w a [(0,a0),(1,a1)] [] []->Wp P c (EndE P fn M K w) [] (EndE P fn M K w) (λ_ _ _=>False) a w) (hb:fn.body=some c:=by rfl) (hn:fn.ntmps=n:=by rfl) (hl:2<=n:=by exact Nat.le_of_ble_eq_true rfl):CallE P f #[a0,a1] M K:=
 enterE (l:=[a0,a1]) hf hb n hn hl λw a hs=>h w a (MX.refl M w) hs
theorem eE3 {a0 a1 a2:Value} (hf:P.funcs[f]?=some fn) (n:Nat) (h:∀w a,MX M M w->Sx n w [] M w a [(0,a0),(1,a1),(2,a2)] [] []->Wp P c (EndE P fn M K w) [] (EndE P fn M K w) (λ_ _ _=>False) a w) (hb:fn.body=some c:=by rfl) (hn:fn.ntmps=n:=by rfl) (hl:3<=n:=by exact Nat.le_of_ble_eq_true rfl):CallE P f #[a0,a1,a2] M K:=
 enterE (l:=[a0,a1,a2]) hf hb n hn hl λw a hs=>h w a (MX.refl M w) hs
end
end Go.Gx

namespace Go.Gx
open Go.RowKit Go.Maps Go.WideMaps
structure KeyQ (P:Program) (k:TypeId) (D:Value->Prop):Prop where
 keyed:Keyed P k
 of:∀v,D v->∃l,keyOf P k v=some l
abbrev DI (v:Value):Prop:=∃z,v= .int .i64 z/\InI z
abbrev DB (v:Value):Prop:=∃z,v= .bool z
theorem KeyQ.int {P:Program} {k:TypeId} (hk:P.underlying k=some (.int .i64)):KeyQ P k DI:=⟨int_keyed hk,λv ⟨z,e,hz⟩=>by subst e;exact⟨_,keyOf_int_mk hk (wf_in hz)⟩⟩
theorem KeyQ.bool {P:Program} {k:TypeId} (hk:P.underlying k=some .bool):KeyQ P k DB:=⟨bool_keyed hk,λv ⟨z,e⟩=>by subst e;exact⟨_,keyOf_bool_mk hk z⟩⟩
def MapA (M:Mem) (r:Nat) (l:List (Value×Value)):Prop:=∃es clk,M r=some (.map es clk)/\es.toList.map (λe=>(e.key,e.val))=l
def MapU (M:Mem) (r:Nat) (M':Mem):Prop:=(∀b,b≠r->M' b=M b)/\(M r).isSome=true
theorem MapA.new (M:Mem) (r:Nat):MapA (M.add r (.map #[] 0)) r []:=⟨#[],0,Mem.add_eq,rfl⟩
theorem MapU.le {M0 M M':Mem} {r:Nat} (h:MapU M r M') (hr:M0 r=none) (hl:M0.le M):M0.le M':=λb o hb=>by
 have:b≠r:=by rintro rfl;rw[hr]at hb;cases hb
 rw[h.1 b this];exact hl b o hb
def kvL {κ α:Type} (fk:κ->Value) (fv:α->Value) (l:List (κ×α)):List (Value×Value):=l.map λp=>(fk p.1,fv p.2)
def lm {κ α:Type} [DecidableEq κ]:List (κ×α)->α->κ->α
 |[],z,_=>z
 |p::l,z,x=>if p.1=x then p.2 else lm l z x
def kI (z:Int):Value:=.int .i64 z
def kS (s:List UInt8):Value:=.string (mkS s)
theorem kI_inj {a b:Int} (h:kI a=kI b):a=b:=by unfold kI at h;injection h
section
variable {P:Program} {ops:Array Oper} {Q:Exit->Act->World->Prop} {n:Nat} {E:World} {M M0:Mem} {L:Nat->Prop} {w:World} {a:Act} {env:Env} {bs:List Bx} {rs:List Rw} {rest:List Oper}
variable {d:Option Tmp} {ty:TypeId} {pos:String} {af:Array Edge} {gd:Option (Nat×Bool)}
theorem Yl.lookA {κ α:Type} [DecidableEq κ] {D:Value->Prop} (fk:κ->Value) (fv:α->Value) {t k e:TypeId} {m i:Operand} {r:Nat} {l:List (κ×α)} {x:κ} {z:α} (hinj:∀a b,fk a=fk b->a=b) (hkm:known env m=true) (hki:known env i=true) (hm:evT env m= .map (some r)) (hi:evT env i=fk x) (ht:P.underlying t=some (.map k e)) (K:KeyQ P k D)
  (hz:∃zi,P.info? e=some zi/\zi.zero=some (fv z)) (hf:MapA M r (kvL fk fv l)) (hD:∀p∈l,D (fk p.1)) (hnd:l.Pairwise λp q=>p.1≠q.1) (hx:D (fk x)):Yl P env M bs rs ⟨d,.lookup t m i false,ty,pos,af,gd⟩ (fv (lm l z x)):=by
 refine⟨by simp[okOp,notSel,Op.operands,hkm,hki],λw hw=>?_⟩
 obtain⟨es,clk,h0,h1⟩:=hf
 have hb:=hw.1 r _ h0
 obtain⟨lx,hl⟩:=K.of _ hx
 obtain⟨zi,hz1,hz2⟩:=hz
 have hzr:(zeroValue e).run P w= .ok (fv z) w:=by simp[zeroValue,typeInfo,hz1,hz2]
 have hks:∀en∈es.toList,∃p∈l,en.key=fk p.1/\en.val=fv p.2:=λen hen=>by
  have:(en.key,en.val)∈kvL fk fv l:=by rw[<-h1];exact List.mem_map.2 ⟨en,hen,rfl⟩
  obtain⟨p,hp,e⟩:=List.mem_map.1 this
  simp only[Prod.mk.injEq]at e
  exact⟨p,hp,e.1.symm,e.2.symm⟩
 have miss:∀l':List (κ×α),(∀p∈l',fk p.1≠fk x)->lm l' z x=z:=by
  intro l'
  induction l' with
  |nil=>intro _;rfl
  |cons p l' ih=>intro h;rw[lm,if_neg (λe=>h p (by simp) (by rw[e]))];exact ih λq hq=>h q (by simp[hq])
 have hit:∀l':List (κ×α),(l'.Pairwise λp q=>p.1≠q.1)->∀p∈l',p.1=x->lm l' z x=p.2:=by
  intro l'
  induction l' with
  |nil=>intro _ p hp;cases hp
  |cons q l' ih=>
   intro hpw p hp hpx
   obtain⟨h1,h2⟩:=List.pairwise_cons.1 hpw
   rcases List.mem_cons.1 hp with rfl|hp
   ·rw[lm,if_pos hpx]
   ·rw[lm,if_neg (λe=>h1 p hp (e.trans hpx.symm))];exact ih h2 p hp hpx
 have gn:∀j:Nat,(l[j]?).map (λp=>(fk p.1,fv p.2))=(es.toList[j]?).map (λe=>(e.key,e.val)):=λj=>by rw[<-List.getElem?_map,<-List.getElem?_map,h1];rfl
 rcases K.keyed.find w hl es.toList (λen hen=>by obtain⟨p,hp,e1,_⟩:=hks en hen;rw[e1];exact K.of _ (hD p hp))with⟨g1,g2⟩|⟨j,en,g1,g2,g3⟩
 ·have hz':lm l z x=z:=miss l λp hp he=>by
   have:(fk p.1,fv p.2)∈es.toList.map (λe=>(e.key,e.val)):=by rw[h1];exact List.mem_map.2 ⟨p,hp,rfl⟩
   obtain⟨en,hen,e⟩:=List.mem_map.1 this
   simp only[Prod.mk.injEq]at e
   exact g2 en hen (e.1.trans he)
  simp[execOp,hm,hi,Instr.lookup,run_underlying ht,MapKept.run_getObj_map hb,K.keyed.check w _ hl,g1,hzr,Result.andThen,hz']
 ·have hgj:=gn j
  rw[g2]at hgj
  cases hp:l[j]? with
  |none=>rw[hp]at hgj;cases hgj
  |some p=>
   rw[hp]at hgj
   simp only[Option.map_some,Option.some.injEq,Prod.mk.injEq]at hgj
   have hpx:p.1=x:=hinj _ _ (hgj.1.trans g3)
   have hv:=hit l hnd p (List.mem_of_getElem? hp) hpx
   simp[execOp,hm,hi,Instr.lookup,run_underlying ht,MapKept.run_getObj_map hb,K.keyed.check w _ hl,g1,Result.andThen,hv,hgj.2]
theorem stepMapAdd {D:Value->Prop} {t k e ty:TypeId} {m i x:Operand} {pos:String} {af:Array Edge} {r:Nat} {l:List (Value×Value)} {y v:Value} (hs:Sx n E (bwW E M0 L) M w a env bs rs) (hM:WX M M0 E) (hkm:known env m=true) (hki:known env i=true) (hkx:known env x=true)
  (hm:evT env m= .map (some r)) (hi:evT env i=y) (hx:evT env x=v) (ht:P.underlying t=some (.map k e)) (K:KeyQ P k D) (hf:MapA M r l) (hD:∀p∈l,D p.1) (hy:D y) (hne:∀p∈l,p.1≠y) (hw:L r\/M0 r=none)
  (h:∀a' w' M2,MapU M r M2->MapA M2 r (l++[(y,v)])->WX M2 M0 E->Sx n E (bwW E M0 L) M2 w' a' env bs rs->wpList P ops Q rest a' w'):wpList P ops Q (⟨none,.insert t m i x,ty,pos,af,none⟩::rest) a w:=by
 refine stepK0 (Z:=λ_ _=>False) hs (λ_ _ h=>h.elim) rfl (by simp[okOp,notSel,Op.operands,hkm,hki,hkx]) rfl ?_
 obtain⟨es,clk,h0,h1⟩:=hf
 have hb:=hs.on r _ h0
 obtain⟨ly,hl⟩:=K.of y hy
 have hks:∀en∈es.toList,∃p∈l,en.key=p.1:=λen hen=>by
  have:(en.key,en.val)∈l:=by rw[<-h1];exact List.mem_map.2 ⟨en,hen,rfl⟩
  exact⟨_,this,rfl⟩
 rcases K.keyed.find w hl es.toList (λen hen=>by obtain⟨p,hp,e1⟩:=hks en hen;rw[e1];exact K.of _ (hD p hp))with⟨g1,g2⟩|⟨j,en,g1,g2,g3⟩
 ·have hset:(Instr.mapUpdate t (.map (some r)) y v).run P w= .ok () (ChangeMaps.setBlock w r (.map (es.push ⟨y,v,clk⟩) (clk+1))):=by
   simp[Instr.mapUpdate,run_underlying ht,MapKept.run_getObj_map hb,K.keyed.check w false hl,g1,MapKept.run_setObj_map _ hb,Result.andThen,ChangeMaps.setBlock]
  refine OpW.of_skip (w':=ChangeMaps.setBlock w r (.map (es.push ⟨y,v,clk⟩) (clk+1))) ?_ ?_
  ·simp[execOp,hm,hi,hx,hset]
  ·intro a' hA
   exact h a' _ _ ⟨λb hb=>Mem.add_ne hb,by rw[h0];rfl⟩ ⟨es.push ⟨y,v,clk⟩,clk+1,Mem.add_eq,by rw[Array.toList_push,List.map_append,h1];rfl⟩ (hM.set (by rw[h0];rfl)) (hs.mapW hM h0 hw hA)
 ·obtain⟨p,hp,e1⟩:=hks en (List.mem_of_getElem? g2)
  exact absurd (e1.symm.trans g3) (hne p hp)
def inB (z:Int):Bool:=decide (-9223372036854775808<=z)&&decide (z<=9223372036854775807)
theorem inB_in {z:Int} (h:inB z=true):InI z:=by
 unfold inB at h
 rw[Bool.and_eq_true,decide_eq_true_eq,decide_eq_true_eq]at h
 exact h
theorem kvL_snoc {κ α:Type} (fk:κ->Value) (fv:α->Value) (l:List (κ×α)) (y:κ) (u:α):kvL fk fv l++[(fk y,fv u)]=kvL fk fv (l++[(y,u)]):=by unfold kvL;rw[List.map_append];rfl
theorem pw_of {κ α:Type} [DecidableEq κ] {l:List (κ×α)} (h:decide (l.map (·.1)).Nodup=true):l.Pairwise λp q=>p.1≠q.1:=List.pairwise_map.1 (of_decide_eq_true h)
theorem stepMapI {α:Type} (fv:α->Value) (k e:TypeId) (l:List (Int×α)) (z:Int) (u:α) {t ty:TypeId} {m i x:Operand} {pos:String} {af:Array Edge} {r:Nat} (hs:Sx n E (bwW E M0 L) M w a env bs rs) (hM:WX M M0 E) (hf:MapA M r (kvL kI fv l)) (hw:M0 r=none)
  (h:∀a' w' M2,MapU M r M2->MapA M2 r (kvL kI fv (l++[(z,u)]))->WX M2 M0 E->Sx n E (bwW E M0 L) M2 w' a' env bs rs->wpList P ops Q rest a' w') (hkm:known env m=true:=by rfl) (hki:known env i=true:=by rfl) (hkx:known env x=true:=by rfl)
  (hm:evT env m= .map (some r):=by rfl) (hi:evT env i=kI z:=by rfl) (hx:evT env x=fv u:=by rfl) (ht:P.underlying t=some (.map k e):=by kernel_rfl) (hk:P.underlying k=some (.int .i64):=by kernel_rfl) (hD:(l.all λp=>inB p.1)=true:=by rfl) (hy:inB z=true:=by rfl) (hne:(l.all λp=>p.1 != z)=true:=by rfl):
  wpList P ops Q (⟨none,.insert t m i x,ty,pos,af,none⟩::rest) a w:=by
 refine stepMapAdd hs hM hkm hki hkx hm hi hx ht (KeyQ.int hk) hf (λp hp=>?_) ⟨z,rfl,inB_in hy⟩ (λp hp=>?_) (.inr hw) (λa' w' M2 h1 h2 h3 h4=>h a' w' M2 h1 (by rw[<-kvL_snoc];exact h2) h3 h4)
 ·obtain⟨q,hq,rfl⟩:=List.mem_map.1 hp
  exact⟨q.1,rfl,inB_in (List.all_eq_true.1 hD q hq)⟩
 ·obtain⟨q,hq,rfl⟩:=List.mem_map.1 hp
  intro e
  have:=List.all_eq_true.1 hne q hq
  rw[kI_inj e]at this
  simp at this
theorem Yl.lookI {α:Type} (fv:α->Value) (k e:TypeId) (l:List (Int×α)) (z:α) (x:Int) {t:TypeId} {m i:Operand} {r:Nat} (hx:InI x) (hf:MapA M r (kvL kI fv l)) (hkm:known env m=true:=by rfl) (hki:known env i=true:=by rfl) (hm:evT env m= .map (some r):=by rfl) (hi:evT env i=kI x:=by rfl)
  (ht:P.underlying t=some (.map k e):=by kernel_rfl) (hk:P.underlying k=some (.int .i64):=by kernel_rfl) (hz:∃zi,P.info? e=some zi/\zi.zero=some (fv z):=by exact⟨_,rfl,rfl⟩) (hD:(l.all λp=>inB p.1)=true:=by rfl) (hnd:decide (l.map (·.1)).Nodup=true:=by rfl):
  Yl P env M bs rs ⟨d,.lookup t m i false,ty,pos,af,gd⟩ (fv (lm l z x)):=
 Yl.lookA kI fv (λ_ _=>kI_inj) hkm hki hm hi ht (KeyQ.int hk) hz hf (λp hp=>⟨p.1,rfl,inB_in (List.all_eq_true.1 hD p hp)⟩) (pw_of hnd) ⟨x,rfl,hx⟩
end
section
variable {P:Program} {ops:Array Oper} {Q:Exit->Act->World->Prop} {n:Nat} {E:World} {bw:List Nat} {M:Mem} {w:World} {a:Act} {env:Env} {bs:List Bx} {rs:List Rw} {rest:List Oper} {o:Oper}
end
end Go.Gx

namespace Go.Gx
open Go.RowKit
section
variable {P:Program} {ops:Array Oper} {Q:Exit->Act->World->Prop} {n:Nat} {E:World} {M M0:Mem} {L:Nat->Prop} {w:World} {a:Act} {env:Env} {bs:List Bx} {rs:List Rw} {rest:List Oper}
end
section
variable {P:Program} {ops:Array Oper} {Q:Exit->Act->World->Prop} {n:Nat} {E:World} {M M0:Mem} {L:Nat->Prop} {w:World} {a:Act} {env:Env} {bs:List Bx} {rs:List Rw} {rest:List Oper}
end
end Go.Gx

namespace Go.Gx
open Go.RowKit
section
variable {P:Program} {ops:Array Oper} {Q:Exit->Act->World->Prop} {n:Nat} {E:World} {bw:List Nat} {M:Mem} {w:World} {a:Act} {env:Env} {bs:List Bx} {rs:List Rw} {rest:List Oper}
end
end Go.Gx

namespace Go.Gx
open Go.RowKit
section
variable {P:Program} {env:Env} {M:Mem} {bs:List Bx} {rs:List Rw} {d:Option Tmp} {ty:TypeId} {pos:String} {af:Array Edge} {gd:Option (Nat×Bool)}
end
section
variable {P:Program} {ops:Array Oper} {Q:Exit->Act->World->Prop} {n:Nat} {E:World} {M M0:Mem} {L:Nat->Prop} {w:World} {a:Act} {env:Env} {bs:List Bx} {rs:List Rw} {rest:List Oper}
end
end Go.Gx

namespace Go.Proofs.YtjecddabdlapbaaDoor.core
open Go.Gx Go.RowKit Go.ChangeShapes Go.WideShapes Go.ChangeAt
set_option linter.unusedVariables false
def S_internal_stringslite_IndexByte (s1:List UInt8) (c2:Int) (M:Mem) (K:Value->Prop):Prop:=
 K (Value.int .i64 (idxB s1 c2))
set_option maxRecDepth 100000 in
theorem s_internal_stringslite_IndexByte (s1:List UInt8) (c2:Int) (M:Mem) (K:Value->Prop) (hS:S_internal_stringslite_IndexByte s1 c2 M K):CallE Tryd.prog 99 #[(Value.string (mkS s1)),(Value.int .u8 c2)] M (λv _=>K v):=by
 refine eE2 Tryd.func99 8 λE a hMM hs=>?_;unfold S_internal_stringslite_IndexByte at hS;refine qr (sP (iv 0) hs λ_ hs=>?_);refine wn (qr (sP2 (.string (mkS s1)) (.int .u8 c2) hs λ_ hs=>?_));refine sY (iv (idxB s1 c2)) hs (Yl.idxByte rfl ⟨_,rfl,rfl⟩ rfl Tryd.func129 rfl (by kernel_rfl) (by kernel_rfl) (by kernel_rfl)) λ_ hs=>?_;refine sP (iv (idxB s1 c2)) hs λ_ hs=>?_;exact wn (qt (rT hs hMM hS))
def S_strings_IndexByte (s1:List UInt8) (c2:Int) (M:Mem) (K:Value->Prop):Prop:=
 (CallE Tryd.prog 99 #[(.string (mkS s1)),(.int .u8 c2)] M (λv _=>∃(x3:Int),v=(Value.int .i64 x3)/\K (Value.int .i64 x3)))
set_option maxRecDepth 100000 in
theorem s_strings_IndexByte (s1:List UInt8) (c2:Int) (M:Mem) (K:Value->Prop) (hS:S_strings_IndexByte s1 c2 M K):CallE Tryd.prog 57 #[(Value.string (mkS s1)),(Value.int .u8 c2)] M (λv _=>K v):=by
 refine eE2 Tryd.func57 8 λE a hMM hs=>?_;unfold S_strings_IndexByte at hS;refine qr (sP (iv 0) hs λ_ hs=>?_);refine wn (qr (sP2 (.string (mkS s1)) (.int .u8 c2) hs λ_ hs=>?_));refine cP [(.string (mkS s1)),(.int .u8 c2)] hs Tryd.func99 hS λ_ _ v hS hs=>?_;obtain⟨x3,rfl,hS⟩:=hS;refine sP (iv x3) hs λ_ hs=>?_;exact wn (qt (rT hs hMM hS))
def S_internal_stringslite_Index_J6 (s1:List UInt8) (substr2:List UInt8) (M:Mem) (i25:Int) (fails26:Int) (I27:Int->Int->Prop) (mu28:Int->Int->Nat) (i31:Int) (x39:Bool) (K:Value->Prop):Prop:=
 ((x39=true->((0:Int)<=i31+1/\(i31+1:Int)<=((s1.length:Nat):Int)/\((s1.length:Nat):Int)<=((s1.length:Nat):Int)/\(CallE Tryd.prog 145 #[(.string (mkS ((s1.take ((s1.length:Nat):Int).toNat).drop (i31+1).toNat))),(.string (mkS substr2))] M (λv _=>∃(x40:Int),v=(Value.int .i64 x40)/\((x40<0->K (Value.int .i64 (-1)))/\(¬(x40<0)->(InI ((i31+1)+x40)/\K (Value.int .i64 ((i31+1)+x40)))))))))/\(¬(x39=true)->I27 (i31+1) (fails26+1)/\mu28 (i31+1) (fails26+1)<mu28 i25 fails26))
def S_internal_stringslite_Index_J5 (s1:List UInt8) (substr2:List UInt8) (M:Mem) (i25:Int) (fails26:Int) (I27:Int->Int->Prop) (mu28:Int->Int->Nat) (i31:Int) (x36:Bool) (K:Value->Prop):Prop:=
 ((x36=true->((0:Int)<=i31+1/\(i31+1:Int)<=((s1.length:Nat):Int)/\((s1.length:Nat):Int)<=((s1.length:Nat):Int)/\False))/\(¬(x36=true)->(∃(x38:Int),At M 1 0 [(.int .i64 x38)]/\((((substr2.length:Nat):Int)>x38->(InI (4+(bShr .i64 (i31+1) 4))/\((fails26+1>=4+(bShr .i64 (i31+1) 4)->(S_internal_stringslite_Index_J6 s1 substr2 M i25 fails26 I27 mu28 i31 (decide (i31+1<(((s1.length:Nat):Int)-((substr2.length:Nat):Int))+1)) K))/\(¬(fails26+1>=4+(bShr .i64 (i31+1) 4))->(S_internal_stringslite_Index_J6 s1 substr2 M i25 fails26 I27 mu28 i31 false K)))))/\(¬(((substr2.length:Nat):Int)>x38)->(S_internal_stringslite_Index_J6 s1 substr2 M i25 fails26 I27 mu28 i31 false K))))))
def S_internal_stringslite_Index_J4 (s1:List UInt8) (substr2:List UInt8) (M:Mem) (i25:Int) (fails26:Int) (I27:Int->Int->Prop) (mu28:Int->Int->Nat) (i31:Int) (x33:Bool) (K:Value->Prop):Prop:=
 ((x33=true->K (Value.int .i64 i31))/\(¬(x33=true)->(InI (i31+1)/\(InI (fails26+1)/\(∃(x34:Int),At M 1 0 [(.int .i64 x34)]/\((((substr2.length:Nat):Int)<=x34->(CallE Tryd.prog 144 #[(.int .i64 (i31+1))] M (λv _=>∃(x35:Int),v=(Value.int .i64 x35)/\(S_internal_stringslite_Index_J5 s1 substr2 M i25 fails26 I27 mu28 i31 (decide (fails26+1>x35)) K))))/\(¬(((substr2.length:Nat):Int)<=x34)->(S_internal_stringslite_Index_J5 s1 substr2 M i25 fails26 I27 mu28 i31 false K))))))))
def S_internal_stringslite_Index_J3 (s1:List UInt8) (substr2:List UInt8) (M:Mem) (c10:UInt8) (i25:Int) (fails26:Int) (I27:Int->Int->Prop) (mu28:Int->Int->Nat) (i31:Int) (K:Value->Prop):Prop:=
 (InI (i31+1)/\(∃c32:UInt8,(0:Int)<=i31+1/\s1[(i31+1).toNat]?=some c32/\(((c32.toNat:Int)=(c10.toNat:Int)->(InI (i31+((substr2.length:Nat):Int))/\((0:Int)<=i31/\(i31:Int)<=i31+((substr2.length:Nat):Int)/\(i31+((substr2.length:Nat):Int):Int)<=((s1.length:Nat):Int)/\(S_internal_stringslite_Index_J4 s1 substr2 M i25 fails26 I27 mu28 i31 ((mkS ((s1.take (i31+((substr2.length:Nat):Int)).toNat).drop i31.toNat)).toList==(mkS substr2).toList) K))))/\(¬((c32.toNat:Int)=(c10.toNat:Int))->(S_internal_stringslite_Index_J4 s1 substr2 M i25 fails26 I27 mu28 i31 false K)))))
def S_internal_stringslite_Index_J2 (s1:List UInt8) (substr2:List UInt8) (M:Mem) (x7:Bool) (K:Value->Prop):Prop:=
 ((x7=true->False)/\(¬(x7=true)->(∃c9:UInt8,(0:Int)<=0/\substr2[(0:Int).toNat]?=some c9/\(∃c10:UInt8,(0:Int)<=1/\substr2[(1:Int).toNat]?=some c10/\(InI (((s1.length:Nat):Int)-((substr2.length:Nat):Int))/\(InI ((((s1.length:Nat):Int)-((substr2.length:Nat):Int))+1)/\(∃(I27:Int->Int->Prop) (mu28:Int->Int->Nat),I27 0 0/\∀(i25:Int) (fails26:Int),(I27 i25 fails26->((i25<(((s1.length:Nat):Int)-((substr2.length:Nat):Int))+1->(∃c29:UInt8,(0:Int)<=i25/\s1[i25.toNat]?=some c29/\(((c29.toNat:Int)≠(c9.toNat:Int)->(InI (i25+1)/\((0:Int)<=i25+1/\(i25+1:Int)<=(((s1.length:Nat):Int)-((substr2.length:Nat):Int))+1/\((((s1.length:Nat):Int)-((substr2.length:Nat):Int))+1:Int)<=((s1.length:Nat):Int)/\(CallE Tryd.prog 99 #[(.string (mkS ((s1.take ((((s1.length:Nat):Int)-((substr2.length:Nat):Int))+1).toNat).drop (i25+1).toNat))),(.int .u8 (c9.toNat:Int))] M (λv _=>∃(x30:Int),v=(Value.int .i64 x30)/\((x30<0->K (Value.int .i64 (-1)))/\(¬(x30<0)->(InI (x30+1)/\(InI (i25+(x30+1))/\(S_internal_stringslite_Index_J3 s1 substr2 M c10 i25 fails26 I27 mu28 (i25+(x30+1)) K))))))))))/\(¬((c29.toNat:Int)≠(c9.toNat:Int))->(S_internal_stringslite_Index_J3 s1 substr2 M c10 i25 fails26 I27 mu28 i25 K)))))/\(¬(i25<(((s1.length:Nat):Int)-((substr2.length:Nat):Int))+1)->K (Value.int .i64 (-1))))))))))))
def S_internal_stringslite_Index_J1 (s1:List UInt8) (substr2:List UInt8) (M:Mem) (x3:Bool) (K:Value->Prop):Prop:=
 ((x3=true->K (Value.int .i64 0))/\(¬(x3=true)->((((substr2.length:Nat):Int)=1->(∃c4:UInt8,(0:Int)<=0/\substr2[(0:Int).toNat]?=some c4/\(CallE Tryd.prog 99 #[(.string (mkS s1)),(.int .u8 (c4.toNat:Int))] M (λv _=>∃(x5:Int),v=(Value.int .i64 x5)/\K (Value.int .i64 x5)))))/\(¬(((substr2.length:Nat):Int)=1)->((((substr2.length:Nat):Int)>=((s1.length:Nat):Int)->K (Value.int .i64 (-1)))/\(¬(((substr2.length:Nat):Int)>=((s1.length:Nat):Int))->(∃(x6:Int),At M 1 0 [(.int .i64 x6)]/\((((substr2.length:Nat):Int)<=x6->(S_internal_stringslite_Index_J2 s1 substr2 M (decide (((s1.length:Nat):Int)<=64)) K))/\(¬(((substr2.length:Nat):Int)<=x6)->(S_internal_stringslite_Index_J2 s1 substr2 M false K))))))))))
def S_internal_stringslite_Index (s1:List UInt8) (substr2:List UInt8) (M:Mem) (K:Value->Prop):Prop:=
 ((((substr2.length:Nat):Int)=0->(S_internal_stringslite_Index_J1 s1 substr2 M true K))/\(¬(((substr2.length:Nat):Int)=0)->(S_internal_stringslite_Index_J1 s1 substr2 M ((mkS substr2).toList==(mkS s1).toList) K)))
set_option maxRecDepth 100000 in
theorem s_internal_stringslite_Index (s1:List UInt8) (substr2:List UInt8) (M:Mem) (K:Value->Prop) (hS:S_internal_stringslite_Index s1 substr2 M K):CallE Tryd.prog 127 #[(Value.string (mkS s1)),(Value.string (mkS substr2))] M (λv _=>K v):=by
 refine eE2 Tryd.func127 143 λE a hMM hs=>?_;unfold S_internal_stringslite_Index at hS;refine qr (sP (iv 0) hs λ_ hs=>?_);refine wn (qr (sP3 (.string (mkS substr2)) (iv (substr2.length:Int)) (iv (substr2.length:Int)) hs λ_ hs=>?_));refine wn (qs (qb (Wp.join (λa w=>∃(x3:Bool),Sx 143 E [] M w a [(0,(.string (mkS s1))),(1,(.string (mkS substr2))),(5,(iv (substr2.length:Int))),(16,(.bool x3))] [] []/\(S_internal_stringslite_Index_J1 s1 substr2 M x3 K)) ?_ ?_)))
 ·refine qg (sP3 (iv (substr2.length:Int)) (.bool ((substr2.length:Int)==(0:Int))) (.bool ((substr2.length:Int)==(0:Int))) hs λ_ hs=>?_);refine bsS beq_iff_eq hs hS (λhs hS=>?_) (λhs hS=>?_)
  ·repeat (first|refine sNo hs λ_ hs=>?_|refine sNu hs λ_ hs=>?_)
   refine sP2 (.bool true) (.bool true) hs λ_ hs=>?_;exact wn (⟨true,hs.q,hS⟩)
  ·refine ye (.string (mkS substr2)) hs λ_ hs=>?_;refine ye (.string (mkS s1)) hs λ_ hs=>?_;refine ye (.bool ((mkS substr2).toList==(mkS s1).toList)) hs λ_ hs=>?_;refine sP2 (.bool ((mkS substr2).toList==(mkS s1).toList)) (.bool ((mkS substr2).toList==(mkS s1).toList)) hs λ_ hs=>?_;exact wn (⟨((mkS substr2).toList==(mkS s1).toList),hs.q,hS⟩)
 ·intro a w hJ;obtain⟨x3,hs,hS⟩:=hJ;unfold S_internal_stringslite_Index_J1 at hS;refine Wp.cS hs Iff.rfl hS (λhS=>?_) (λhS=>?_)
  ·refine qr (sP (iv 0) hs λ_ hs=>?_);exact wn (qt (rT hs hMM hS))
  ·refine qr (sP3 (iv (substr2.length:Int)) (.bool ((substr2.length:Int)==(1:Int))) (.bool ((substr2.length:Int)==(1:Int))) hs λ_ hs=>?_);refine wn (Wp.cS hs beq_iff_eq hS (λhS=>?_) (λhS=>?_))
   ·refine qr (sP2 (.string (mkS s1)) (.string (mkS substr2)) hs λ_ hs=>?_);obtain⟨c4,h0,hi,hS⟩:=hS;refine sY (.int .u8 (c4.toNat:Int)) hs (Yl.indexStr rfl rfl rfl rfl (by kernel_rfl) h0 hi) λ_ hs=>?_;refine cP [(.string (mkS s1)),(.int .u8 (c4.toNat:Int))] hs Tryd.func99 hS λ_ _ v hS hs=>?_;obtain⟨x5,rfl,hS⟩:=hS;refine sP (iv x5) hs λ_ hs=>?_;exact wn (qt (rT hs hMM hS))
   ·refine qr (sP4 (iv (substr2.length:Int)) (.string (mkS s1)) (iv (s1.length:Int)) (.bool (decide ((substr2.length:Int)>=(s1.length:Int)))) hs λ_ hs=>?_);refine sP (.bool (decide ((substr2.length:Int)>=(s1.length:Int)))) hs λ_ hs=>?_;refine wn (Wp.cS hs decide_eq_true_iff hS (λhS=>?_) (λhS=>?_))
    ·refine qr (sP (iv (-1)) hs λ_ hs=>?_);exact wn (qt (rT hs hMM hS))
    ·refine Wp.join (λa w=>∃(x7:Bool),Sx 143 E [] M w a [(0,(.string (mkS s1))),(1,(.string (mkS substr2))),(5,(iv (substr2.length:Int))),(36,(.bool x7))] [] []/\(S_internal_stringslite_Index_J2 s1 substr2 M x7 K)) ?_ ?_
     ·refine qg (sP (iv (substr2.length:Int)) hs λ_ hs=>?_);obtain⟨x6,hat,hS⟩:=hS;refine sV1 (iv x6) hat hs λ_ hs=>?_;refine sP2 (.bool (decide ((substr2.length:Int)<=x6))) (.bool (decide ((substr2.length:Int)<=x6))) hs λ_ hs=>?_;refine bsS decide_eq_true_iff hs hS (λhs hS=>?_) (λhs hS=>?_)
      ·refine ye (.string (mkS s1)) hs λ_ hs=>?_;refine ye (iv (s1.length:Int)) hs λ_ hs=>?_;refine ye (.bool (decide ((s1.length:Int)<=64))) hs λ_ hs=>?_;refine sP2 (.bool (decide ((s1.length:Int)<=64))) (.bool (decide ((s1.length:Int)<=64))) hs λ_ hs=>?_;exact wn (⟨(decide ((s1.length:Int)<=64)),hs.q,hS⟩)
      ·repeat (first|refine sNo hs λ_ hs=>?_|refine sNu hs λ_ hs=>?_)
       refine sP2 (.bool false) (.bool false) hs λ_ hs=>?_;exact wn (⟨false,hs.q,hS⟩)
     ·intro a w hJ;obtain⟨x7,hs,hS⟩:=hJ;unfold S_internal_stringslite_Index_J2 at hS;refine Wp.cS hs Iff.rfl hS (λhS=>?_) (λhS=>?_)
      ·refine qr (sP2 (.string (mkS s1)) (.string (mkS substr2)) hs λ_ hs=>?_);exact hS.elim
      ·refine qk (qr (sP (.string (mkS substr2)) hs λ_ hs=>?_));obtain⟨c9,h0,hi,hS⟩:=hS;refine sY (.int .u8 (c9.toNat:Int)) hs (Yl.indexStr rfl rfl rfl rfl (by kernel_rfl) h0 hi) λ_ hs=>?_;refine sP (.int .u8 (c9.toNat:Int)) hs λ_ hs=>?_;refine wn (qr (sP (.string (mkS substr2)) hs λ_ hs=>?_));obtain⟨c10,h0,hi,hS⟩:=hS;refine sY (.int .u8 (c10.toNat:Int)) hs (Yl.indexStr rfl rfl rfl rfl (by kernel_rfl) h0 hi) λ_ hs=>?_;refine sP (.int .u8 (c10.toNat:Int)) hs λ_ hs=>?_;refine wn (qr (sP (iv 0) hs λ_ hs=>?_));refine wn (qr (sP3 (.string (mkS s1)) (iv (s1.length:Int)) (iv (substr2.length:Int)) hs λ_ hs=>?_));obtain⟨hI,hS⟩:=hS;refine sY (iv ((s1.length:Int)-(substr2.length:Int))) hs (Yl.wr hI) λ_ hs=>?_;obtain⟨hI,hS⟩:=hS;refine sY (iv (((s1.length:Int)-(substr2.length:Int))+1)) hs (Yl.wr hI) λ_ hs=>?_;refine sP (iv (((s1.length:Int)-(substr2.length:Int))+1)) hs λ_ hs=>?_;refine wn (qr (sP (iv 0) hs λ_ hs=>?_));refine wn (qs (qb ?_));obtain⟨I27,mu28,hI0,hst⟩:=hS
       refine Wp.loop (σ:=(Int)×(Int)) (λ(i25,fails26) a w=>Sx 143 E [] M w a [(0,(.string (mkS s1))),(1,(.string (mkS substr2))),(5,(iv (substr2.length:Int))),(6,(.int .u8 (c9.toNat:Int))),(7,(.int .u8 (c10.toNat:Int))),(8,(iv i25)),(9,(iv (((s1.length:Int)-(substr2.length:Int))+1))),(10,(iv fails26))] [] []/\I27 i25 fails26) (λ(i25,fails26)=>mu28 i25 fails26) (0,0) ⟨hs.q,hI0⟩ (λs a w hI=>?_);obtain⟨i25,fails26⟩:=s;obtain⟨hs,hI⟩:=hI;have hS:=hst i25 fails26 hI;clear hst hI0 hI;refine qs (qr (sP3 (iv i25) (iv (((s1.length:Int)-(substr2.length:Int))+1)) (.bool (decide (i25<((s1.length:Int)-(substr2.length:Int))+1))) hs λ_ hs=>?_));refine wn (Wp.cS hs decide_eq_true_iff hS (λhS=>?_) (λhS=>?_))
       ·refine qk (qb (Wp.join (λa w=>∃(i31:Int),Sx 143 E [] M w a [(0,(.string (mkS s1))),(1,(.string (mkS substr2))),(5,(iv (substr2.length:Int))),(6,(.int .u8 (c9.toNat:Int))),(7,(.int .u8 (c10.toNat:Int))),(8,(iv i31)),(9,(iv (((s1.length:Int)-(substr2.length:Int))+1))),(10,(iv fails26))] [] []/\(S_internal_stringslite_Index_J3 s1 substr2 M c10 i25 fails26 I27 mu28 i31 K)) ?_ ?_))
        ·refine qr (sP2 (.string (mkS s1)) (iv i25) hs λ_ hs=>?_);obtain⟨c29,h0,hi,hS⟩:=hS;refine sY (.int .u8 (c29.toNat:Int)) hs (Yl.indexStr rfl rfl rfl rfl (by kernel_rfl) h0 hi) λ_ hs=>?_;refine sP2 (.int .u8 (c9.toNat:Int)) (.bool ((c29.toNat:Int) != (c9.toNat:Int))) hs λ_ hs=>?_;refine wn (Wp.cS hs bne_iff_ne hS (λhS=>?_) (λhS=>?_))
         ·refine qr (sP2 (.string (mkS s1)) (iv i25) hs λ_ hs=>?_);obtain⟨hI,hS⟩:=hS;refine sY (iv (i25+1)) hs (Yl.wr hI) λ_ hs=>?_;refine sP (iv (((s1.length:Int)-(substr2.length:Int))+1)) hs λ_ hs=>?_;obtain⟨h0,h1,h2,hS⟩:=hS;refine sY (.string (mkS ((s1.take (((s1.length:Int)-(substr2.length:Int))+1).toNat).drop (i25+1).toNat))) hs (Yl.sliceStrLH rfl rfl rfl rfl rfl rfl (by kernel_rfl) h0 h1 h2) λ_ hs=>?_;refine sP (.int .u8 (c9.toNat:Int)) hs λ_ hs=>?_;refine cP [(.string (mkS ((s1.take (((s1.length:Int)-(substr2.length:Int))+1).toNat).drop (i25+1).toNat))),(.int .u8 (c9.toNat:Int))] hs Tryd.func99 hS λ_ _ v hS hs=>?_;obtain⟨x30,rfl,hS⟩:=hS;refine sP (iv x30) hs λ_ hs=>?_;refine wn (qs (qr (sP2 (iv x30) (.bool (decide (x30<0))) hs λ_ hs=>?_)));refine wn (Wp.cS hs decide_eq_true_iff hS (λhS=>?_) (λhS=>?_))
          ·refine qr (sP (iv (-1)) hs λ_ hs=>?_);exact wn (qt (rT hs hMM hS))
          ·refine qk (qg (sP2 (iv i25) (iv x30) hs λ_ hs=>?_));obtain⟨hI,hS⟩:=hS;refine sY (iv (x30+1)) hs (Yl.wr hI) λ_ hs=>?_;obtain⟨hI,hS⟩:=hS;refine sY (iv (i25+(x30+1))) hs (Yl.wr hI) λ_ hs=>?_;refine sP (iv (i25+(x30+1))) hs λ_ hs=>?_;exact wn (⟨(i25+(x30+1)),hs.q,hS⟩)
         ·exact qk (⟨i25,hs.q,hS⟩)
        ·intro a w hJ;obtain⟨i31,hs,hS⟩:=hJ;unfold S_internal_stringslite_Index_J3 at hS;refine qs (Wp.join (λa w=>∃(x33:Bool),Sx 143 E [] M w a [(0,(.string (mkS s1))),(1,(.string (mkS substr2))),(5,(iv (substr2.length:Int))),(6,(.int .u8 (c9.toNat:Int))),(7,(.int .u8 (c10.toNat:Int))),(8,(iv i31)),(9,(iv (((s1.length:Int)-(substr2.length:Int))+1))),(10,(iv fails26)),(93,(.bool x33))] [] []/\(S_internal_stringslite_Index_J4 s1 substr2 M i25 fails26 I27 mu28 i31 x33 K)) ?_ ?_)
         ·refine qg (sP2 (.string (mkS s1)) (iv i31) hs λ_ hs=>?_);obtain⟨hI,hS⟩:=hS;refine sY (iv (i31+1)) hs (Yl.wr hI) λ_ hs=>?_;obtain⟨c32,h0,hi,hS⟩:=hS;refine sY (.int .u8 (c32.toNat:Int)) hs (Yl.indexStr rfl rfl rfl rfl (by kernel_rfl) h0 hi) λ_ hs=>?_;refine sP3 (.int .u8 (c10.toNat:Int)) (.bool ((c32.toNat:Int)==(c10.toNat:Int))) (.bool ((c32.toNat:Int)==(c10.toNat:Int))) hs λ_ hs=>?_;refine bsS beq_iff_eq hs hS (λhs hS=>?_) (λhs hS=>?_)
          ·refine ye (.string (mkS s1)) hs λ_ hs=>?_;refine ye (iv i31) hs λ_ hs=>?_;refine ye (iv i31) hs λ_ hs=>?_;refine ye (iv (substr2.length:Int)) hs λ_ hs=>?_;refine sYe hs ?_;obtain⟨hI,hS⟩:=hS;refine sY (iv (i31+(substr2.length:Int))) hs (Yl.wr hI) λ_ hs=>?_;refine sYe hs ?_;obtain⟨h0,h1,h2,hS⟩:=hS;refine sY (.string (mkS ((s1.take (i31+(substr2.length:Int)).toNat).drop i31.toNat))) hs (Yl.sliceStrLH rfl rfl rfl rfl rfl rfl (by kernel_rfl) h0 h1 h2) λ_ hs=>?_;refine ye (.string (mkS substr2)) hs λ_ hs=>?_;refine ye (.bool ((mkS ((s1.take (i31+(substr2.length:Int)).toNat).drop i31.toNat)).toList==(mkS substr2).toList)) hs λ_ hs=>?_;refine sP (.bool ((mkS ((s1.take (i31+(substr2.length:Int)).toNat).drop i31.toNat)).toList==(mkS substr2).toList)) hs λ_ hs=>?_;exact wn (⟨((mkS ((s1.take (i31+(substr2.length:Int)).toNat).drop i31.toNat)).toList==(mkS substr2).toList),hs.q,hS⟩)
          ·repeat (first|refine sNo hs λ_ hs=>?_|refine sNu hs λ_ hs=>?_)
           refine sP (.bool false) hs λ_ hs=>?_;exact wn (⟨false,hs.q,hS⟩)
         ·intro a w hJ;obtain⟨x33,hs,hS⟩:=hJ;unfold S_internal_stringslite_Index_J4 at hS;refine Wp.cS hs Iff.rfl hS (λhS=>?_) (λhS=>?_)
          ·refine qr (sP2 (iv i31) (iv i31) hs λ_ hs=>?_);exact wn (qt (rT hs hMM hS))
          ·refine qk (qr (sP (iv i31) hs λ_ hs=>?_));obtain⟨hI,hS⟩:=hS;refine sY (iv (i31+1)) hs (Yl.wr hI) λ_ hs=>?_;refine sP (iv (i31+1)) hs λ_ hs=>?_;refine wn (qr (sP (iv fails26) hs λ_ hs=>?_));obtain⟨hI,hS⟩:=hS;refine sY (iv (fails26+1)) hs (Yl.wr hI) λ_ hs=>?_;refine sP (iv (fails26+1)) hs λ_ hs=>?_;refine wn (Wp.join (λa w=>∃(x36:Bool),Sx 143 E [] M w a [(0,(.string (mkS s1))),(1,(.string (mkS substr2))),(5,(iv (substr2.length:Int))),(6,(.int .u8 (c9.toNat:Int))),(7,(.int .u8 (c10.toNat:Int))),(8,(iv (i31+1))),(9,(iv (((s1.length:Int)-(substr2.length:Int))+1))),(10,(iv (fails26+1))),(107,(.bool x36))] [] []/\(S_internal_stringslite_Index_J5 s1 substr2 M i25 fails26 I27 mu28 i31 x36 K)) ?_ ?_)
           ·refine qg (sP (iv (substr2.length:Int)) hs λ_ hs=>?_);obtain⟨x34,hat,hS⟩:=hS;refine sV1 (iv x34) hat hs λ_ hs=>?_;refine sP2 (.bool (decide ((substr2.length:Int)<=x34))) (.bool (decide ((substr2.length:Int)<=x34))) hs λ_ hs=>?_;refine bsS decide_eq_true_iff hs hS (λhs hS=>?_) (λhs hS=>?_)
            ·refine ye (iv (fails26+1)) hs λ_ hs=>?_;refine ye (iv (i31+1)) hs λ_ hs=>?_;refine sYe hs (stepCallP [(iv (i31+1))] hs rfl ⟨_,rfl,rfl⟩ rfl Tryd.func144 rfl (by kernel_rfl) (by decide) hS (λ_ _ v hS hs=>?_));obtain⟨x35,rfl,hS⟩:=hS;refine ye (.bool (decide (fails26+1>x35))) hs λ_ hs=>?_;refine sP (.bool (decide (fails26+1>x35))) hs λ_ hs=>?_;exact wn (⟨(decide (fails26+1>x35)),hs.q,hS⟩)
            ·repeat (first|refine sNo hs λ_ hs=>?_|refine sNu hs λ_ hs=>?_)
             refine sP (.bool false) hs λ_ hs=>?_;exact wn (⟨false,hs.q,hS⟩)
           ·intro a w hJ;obtain⟨x36,hs,hS⟩:=hJ;unfold S_internal_stringslite_Index_J5 at hS;refine Wp.cS hs Iff.rfl hS (λhS=>?_) (λhS=>?_)
            ·refine qr (sP2 (.string (mkS s1)) (iv (i31+1)) hs λ_ hs=>?_);obtain⟨h0,h1,h2,hS⟩:=hS;refine sY (.string (mkS ((s1.take (s1.length:Int).toNat).drop (i31+1).toNat))) hs (Yl.sliceStrL rfl rfl rfl rfl (by kernel_rfl) h0 h1 h2) λ_ hs=>?_;refine sP (.string (mkS substr2)) hs λ_ hs=>?_;exact hS.elim
            ·refine Wp.join (λa w=>∃(x39:Bool),Sx 143 E [] M w a [(0,(.string (mkS s1))),(1,(.string (mkS substr2))),(5,(iv (substr2.length:Int))),(6,(.int .u8 (c9.toNat:Int))),(7,(.int .u8 (c10.toNat:Int))),(8,(iv (i31+1))),(9,(iv (((s1.length:Int)-(substr2.length:Int))+1))),(10,(iv (fails26+1))),(132,(.bool x39))] [] []/\(S_internal_stringslite_Index_J6 s1 substr2 M i25 fails26 I27 mu28 i31 x39 K)) ?_ ?_
             ·refine qg (sP (iv (substr2.length:Int)) hs λ_ hs=>?_);obtain⟨x38,hat,hS⟩:=hS;refine sV1 (iv x38) hat hs λ_ hs=>?_;refine sP2 (.bool (decide ((substr2.length:Int)>x38))) (.bool (decide ((substr2.length:Int)>x38))) hs λ_ hs=>?_;refine bsS decide_eq_true_iff hs hS (λhs hS=>?_) (λhs hS=>?_)
              ·refine ye (iv (fails26+1)) hs λ_ hs=>?_;refine ye (iv (i31+1)) hs λ_ hs=>?_;refine ye (iv (bShr .i64 (i31+1) 4)) hs λ_ hs=>?_;refine sYe hs ?_;obtain⟨hI,hS⟩:=hS;refine sY (iv (4+(bShr .i64 (i31+1) 4))) hs (Yl.wr hI) λ_ hs=>?_;refine ye (.bool (decide (fails26+1>=4+(bShr .i64 (i31+1) 4)))) hs λ_ hs=>?_;refine sP2 (.bool (decide (fails26+1>=4+(bShr .i64 (i31+1) 4)))) (.bool (decide (fails26+1>=4+(bShr .i64 (i31+1) 4)))) hs λ_ hs=>?_;refine bsS decide_eq_true_iff hs hS (λhs hS=>?_) (λhs hS=>?_)
               ·refine ye (iv (i31+1)) hs λ_ hs=>?_;refine ye (iv (((s1.length:Int)-(substr2.length:Int))+1)) hs λ_ hs=>?_;refine ye (.bool (decide (i31+1<((s1.length:Int)-(substr2.length:Int))+1))) hs λ_ hs=>?_;refine sP (.bool (decide (i31+1<((s1.length:Int)-(substr2.length:Int))+1))) hs λ_ hs=>?_;exact wn (⟨(decide (i31+1<((s1.length:Int)-(substr2.length:Int))+1)),hs.q,hS⟩)
               ·repeat (first|refine sNo hs λ_ hs=>?_|refine sNu hs λ_ hs=>?_)
                refine sP (.bool false) hs λ_ hs=>?_;exact wn (⟨false,hs.q,hS⟩)
              ·repeat (first|refine sNo hs λ_ hs=>?_|refine sNu hs λ_ hs=>?_)
               refine sP2 (.bool false) (.bool false) hs λ_ hs=>?_;repeat (first|refine sNo hs λ_ hs=>?_|refine sNu hs λ_ hs=>?_)
               refine sP (.bool false) hs λ_ hs=>?_;exact wn (⟨false,hs.q,hS⟩)
             ·intro a w hJ;obtain⟨x39,hs,hS⟩:=hJ;unfold S_internal_stringslite_Index_J6 at hS;refine Wp.cS hs Iff.rfl hS (λhS=>?_) (λhS=>?_)
              ·refine qr (sP2 (.string (mkS s1)) (iv (i31+1)) hs λ_ hs=>?_);obtain⟨h0,h1,h2,hS⟩:=hS;refine sY (.string (mkS ((s1.take (s1.length:Int).toNat).drop (i31+1).toNat))) hs (Yl.sliceStrL rfl rfl rfl rfl (by kernel_rfl) h0 h1 h2) λ_ hs=>?_;refine sP (.string (mkS substr2)) hs λ_ hs=>?_;refine cP [(.string (mkS ((s1.take (s1.length:Int).toNat).drop (i31+1).toNat))),(.string (mkS substr2))] hs Tryd.func145 hS λ_ _ v hS hs=>?_;obtain⟨x40,rfl,hS⟩:=hS;refine sP (iv x40) hs λ_ hs=>?_;refine wn (qs (qr (sP2 (iv x40) (.bool (decide (x40<0))) hs λ_ hs=>?_)));refine wn (Wp.cS hs decide_eq_true_iff hS (λhS=>?_) (λhS=>?_))
               ·refine qr (sP (iv (-1)) hs λ_ hs=>?_);exact wn (qt (rT hs hMM hS))
               ·refine qk (qr (sP2 (iv (i31+1)) (iv x40) hs λ_ hs=>?_));obtain⟨hI,hS⟩:=hS;refine sY (iv ((i31+1)+x40)) hs (Yl.wr hI) λ_ hs=>?_;refine sP (iv ((i31+1)+x40)) hs λ_ hs=>?_;exact wn (qt (rT hs hMM hS))
              ·exact qk (⟨(i31+1,fails26+1),⟨hs.q,hS.1⟩,hS.2⟩)
       ·refine qx rfl (qr (sP (iv (-1)) hs λ_ hs=>?_));exact wn (qt (rT hs hMM hS))
def S_strings_Index (s1:List UInt8) (substr2:List UInt8) (M:Mem) (K:Value->Prop):Prop:=
 (CallE Tryd.prog 127 #[(.string (mkS s1)),(.string (mkS substr2))] M (λv _=>∃(x3:Int),v=(Value.int .i64 x3)/\K (Value.int .i64 x3)))
set_option maxRecDepth 100000 in
theorem s_strings_Index (s1:List UInt8) (substr2:List UInt8) (M:Mem) (K:Value->Prop) (hS:S_strings_Index s1 substr2 M K):CallE Tryd.prog 96 #[(Value.string (mkS s1)),(Value.string (mkS substr2))] M (λv _=>K v):=by
 refine eE2 Tryd.func96 8 λE a hMM hs=>?_;unfold S_strings_Index at hS;refine qr (sP (iv 0) hs λ_ hs=>?_);refine wn (qr (sP2 (.string (mkS s1)) (.string (mkS substr2)) hs λ_ hs=>?_));refine cP [(.string (mkS s1)),(.string (mkS substr2))] hs Tryd.func127 hS λ_ _ v hS hs=>?_;obtain⟨x3,rfl,hS⟩:=hS;refine sP (iv x3) hs λ_ hs=>?_;exact wn (qt (rT hs hMM hS))
def S_strings_Contains (s1:List UInt8) (substr2:List UInt8) (M:Mem) (K:Value->Prop):Prop:=
 (CallE Tryd.prog 96 #[(.string (mkS s1)),(.string (mkS substr2))] M (λv _=>∃(x3:Int),v=(Value.int .i64 x3)/\K (Value.bool (decide (x3>=0)))))
set_option maxRecDepth 100000 in
theorem s_strings_Contains (s1:List UInt8) (substr2:List UInt8) (M:Mem) (K:Value->Prop) (hS:S_strings_Contains s1 substr2 M K):CallE Tryd.prog 105 #[(Value.string (mkS s1)),(Value.string (mkS substr2))] M (λv _=>K v):=by
 refine eE2 Tryd.func105 9 λE a hMM hs=>?_;unfold S_strings_Contains at hS;refine qr (sP (.bool false) hs λ_ hs=>?_);refine wn (qr (sP2 (.string (mkS s1)) (.string (mkS substr2)) hs λ_ hs=>?_));refine cP [(.string (mkS s1)),(.string (mkS substr2))] hs Tryd.func96 hS λ_ _ v hS hs=>?_;obtain⟨x3,rfl,hS⟩:=hS;refine sP2 (.bool (decide (x3>=0))) (.bool (decide (x3>=0))) hs λ_ hs=>?_;exact wn (qt (rT hs hMM hS))
end Go.Proofs.YtjecddabdlapbaaDoor.core

namespace Go.Proofs.YtjecddabdlapbaaDoor.core
open Go.Gx Go.RowKit Go.ChangeShapes Go.WideShapes Go.ChangeAt
set_option linter.unusedVariables false
def S_quote_one_J1 (b1:Int) (signs2:List UInt8) (M:Mem) (x3:Bool) (K:Value->Prop):Prop:=
 ((x3=true->((0:Int)<=bShr .u8 b1 4/\(bShr .u8 b1 4:Int)<=IntKind.wrap .u8 ((bShr .u8 b1 4)+1)/\(IntKind.wrap .u8 ((bShr .u8 b1 4)+1):Int)<=((([48,49,50,51,52,53,54,55,56,57,97,98,99,100,101,102]:List UInt8).length:Nat):Int)/\(([92,120]:List UInt8).length+((([48,49,50,51,52,53,54,55,56,57,97,98,99,100,101,102]:List UInt8).take (IntKind.wrap .u8 ((bShr .u8 b1 4)+1)).toNat).drop (bShr .u8 b1 4).toNat).length<=9223372036854775807/\((0:Int)<=bAnd .u8 b1 15/\(bAnd .u8 b1 15:Int)<=IntKind.wrap .u8 ((bAnd .u8 b1 15)+1)/\(IntKind.wrap .u8 ((bAnd .u8 b1 15)+1):Int)<=((([48,49,50,51,52,53,54,55,56,57,97,98,99,100,101,102]:List UInt8).length:Nat):Int)/\((([92,120]:List UInt8)++(([48,49,50,51,52,53,54,55,56,57,97,98,99,100,101,102]:List UInt8).take (IntKind.wrap .u8 ((bShr .u8 b1 4)+1)).toNat).drop (bShr .u8 b1 4).toNat).length+((([48,49,50,51,52,53,54,55,56,57,97,98,99,100,101,102]:List UInt8).take (IntKind.wrap .u8 ((bAnd .u8 b1 15)+1)).toNat).drop (bAnd .u8 b1 15).toNat).length<=9223372036854775807/\K (Value.string (mkS (([92,120]:List UInt8)++(([48,49,50,51,52,53,54,55,56,57,97,98,99,100,101,102]:List UInt8).take (IntKind.wrap .u8 ((bShr .u8 b1 4)+1)).toNat).drop (bShr .u8 b1 4).toNat++(([48,49,50,51,52,53,54,55,56,57,97,98,99,100,101,102]:List UInt8).take (IntKind.wrap .u8 ((bAnd .u8 b1 15)+1)).toNat).drop (bAnd .u8 b1 15).toNat))))))))/\(¬(x3=true)->(CallE Tryd.prog 57 #[(.string (mkS signs2)),(.int .u8 b1)] M (λv _=>∃(x4:Int),v=(Value.int .i64 x4)/\((x4>=0->(∃(x6:List UInt8),[(.int .u8 b1)]=bytesV x6/\(([92]:List UInt8).length+x6.length<=9223372036854775807/\K (Value.string (mkS (([92]:List UInt8)++x6))))))/\(¬(x4>=0)->(∃(x8:List UInt8),[(.int .u8 b1)]=bytesV x8/\K (Value.string (mkS x8)))))))))
def S_quote_one (b1:Int) (signs2:List UInt8) (M:Mem) (K:Value->Prop):Prop:=
 (((b1:Int)=10->K (Value.string (mkS ([92,110]:List UInt8))))/\(¬((b1:Int)=10)->(((b1:Int)=9->K (Value.string (mkS ([92,116]:List UInt8))))/\(¬((b1:Int)=9)->((b1<=32->(((b1:Int)≠32->(S_quote_one_J1 b1 signs2 M true K))/\(¬((b1:Int)≠32)->((signs2≠([39,92]:List UInt8)->(S_quote_one_J1 b1 signs2 M true K))/\(¬(signs2≠([39,92]:List UInt8))->(S_quote_one_J1 b1 signs2 M (decide (b1>=127)) K))))))/\(¬(b1<=32)->(S_quote_one_J1 b1 signs2 M (decide (b1>=127)) K)))))))
set_option maxRecDepth 100000 in
theorem s_quote_one (b1:Int) (signs2:List UInt8) (M:Mem) (K:Value->Prop) (hS:S_quote_one b1 signs2 M K):CallE Tryd.prog 67 #[(Value.int .u8 b1),(Value.string (mkS signs2))] M (λv _=>K v):=by
 refine eE2 Tryd.func67 52 λE a hMM hs=>?_;unfold S_quote_one at hS;refine qr (sP (.string (mkS ([]:List UInt8))) hs λ_ hs=>?_);refine wn (qs (qb (qr (sP3 (.int .u8 b1) (.bool ((b1:Int)==(10:Int))) (.bool ((b1:Int)==(10:Int))) hs λ_ hs=>?_))));refine wn (Wp.cS hs beq_iff_eq hS (λhS=>?_) (λhS=>?_))
 ·refine qr (sP (.string (mkS ([92,110]:List UInt8))) hs λ_ hs=>?_);exact wn (qt (rT hs hMM hS))
 ·refine qr (sP3 (.int .u8 b1) (.bool ((b1:Int)==(9:Int))) (.bool ((b1:Int)==(9:Int))) hs λ_ hs=>?_);refine wn (Wp.cS hs beq_iff_eq hS (λhS=>?_) (λhS=>?_))
  ·refine qr (sP (.string (mkS ([92,116]:List UInt8))) hs λ_ hs=>?_);exact wn (qt (rT hs hMM hS))
  ·refine Wp.join (λa w=>∃(x3:Bool),Sx 52 E [] M w a [(0,(.int .u8 b1)),(1,(.string (mkS signs2))),(11,(.bool x3))] [] []/\(S_quote_one_J1 b1 signs2 M x3 K)) ?_ ?_
   ·refine qg (sP3 (.int .u8 b1) (.bool (decide (b1<=32))) (.bool (decide (b1<=32))) hs λ_ hs=>?_);refine bsS decide_eq_true_iff hs hS (λhs hS=>?_) (λhs hS=>?_)
    ·refine ye (.int .u8 b1) hs λ_ hs=>?_;refine ye (.bool ((b1:Int) != (32:Int))) hs λ_ hs=>?_;refine ye (.bool ((b1:Int) != (32:Int))) hs λ_ hs=>?_;refine bsS bne_iff_ne hs hS (λhs hS=>?_) (λhs hS=>?_)
     ·refine sNo hs λ_ hs=>?_;refine sNo hs λ_ hs=>?_;refine ye (.bool true) hs λ_ hs=>?_;refine sP2 (.bool true) (.bool true) hs λ_ hs=>?_;refine sNo hs λ_ hs=>?_;refine sNo hs λ_ hs=>?_;refine sP2 (.bool true) (.bool true) hs λ_ hs=>?_;exact wn (⟨true,hs.q,hS⟩)
     ·refine ye (.string (mkS signs2)) hs λ_ hs=>?_;refine ye (.bool (!((mkS signs2).toList==(mkS ([39,92]:List UInt8)).toList))) hs λ_ hs=>?_;refine ye (.bool (!((mkS signs2).toList==(mkS ([39,92]:List UInt8)).toList))) hs λ_ hs=>?_;refine sP2 (.bool (!((mkS signs2).toList==(mkS ([39,92]:List UInt8)).toList))) (.bool (!((mkS signs2).toList==(mkS ([39,92]:List UInt8)).toList))) hs λ_ hs=>?_;refine bsS mkS_bne hs hS (λhs hS=>?_) (λhs hS=>?_)
      ·refine sNo hs λ_ hs=>?_;refine sNo hs λ_ hs=>?_;refine sP2 (.bool true) (.bool true) hs λ_ hs=>?_;exact wn (⟨true,hs.q,hS⟩)
      ·refine ye (.int .u8 b1) hs λ_ hs=>?_;refine ye (.bool (decide (b1>=127))) hs λ_ hs=>?_;refine sP2 (.bool (decide (b1>=127))) (.bool (decide (b1>=127))) hs λ_ hs=>?_;exact wn (⟨(decide (b1>=127)),hs.q,hS⟩)
    ·repeat (first|refine sNo hs λ_ hs=>?_|refine sNu hs λ_ hs=>?_)
     refine sP2 (.bool false) (.bool false) hs λ_ hs=>?_;refine ye (.int .u8 b1) hs λ_ hs=>?_;refine ye (.bool (decide (b1>=127))) hs λ_ hs=>?_;refine sP2 (.bool (decide (b1>=127))) (.bool (decide (b1>=127))) hs λ_ hs=>?_;exact wn (⟨(decide (b1>=127)),hs.q,hS⟩)
   ·intro a w hJ;obtain⟨x3,hs,hS⟩:=hJ;unfold S_quote_one_J1 at hS;refine Wp.cS hs Iff.rfl hS (λhS=>?_) (λhS=>?_)
    ·refine qs (Wp.regionD [true,true,true,true,true,true,true,true,true,true,true,true,true,true,true] hs (by kernel_rfl) rfl [] (λ_ h=>h) [] (λ_ h=>h) (λ_ hs hC=>?_));have hL:=Mem.le.refl M;refine dA (Value.int .u8 b1) 0 [1,5,6,13,14] hs λ_ hs=>?_;refine dA (Value.int .u8 (bShr .u8 b1 4)) 1 [5,6,13,14] hs λ_ hs=>?_;refine dA (Value.int .u8 b1) 2 [3,4,5,6,13,14] hs λ_ hs=>?_;refine dA (Value.int .u8 (bShr .u8 b1 4)) 3 [4,5,6,13,14] hs λ_ hs=>?_;refine dA (Value.int .u8 (IntKind.wrap .u8 ((bShr .u8 b1 4)+1))) 4 [5,6,13,14] hs λ_ hs=>?_;obtain⟨h0,h1,h2,hS⟩:=hS;refine dF (.string (mkS ((([48,49,50,51,52,53,54,55,56,57,97,98,99,100,101,102]:List UInt8).take (IntKind.wrap .u8 ((bShr .u8 b1 4)+1)).toNat).drop (bShr .u8 b1 4).toNat))) 5 [6,13,14] hs rfl (Yl.sliceStrLH rfl rfl rfl rfl rfl rfl (by kernel_rfl) h0 h1 h2) λ_ hs=>?_;obtain⟨hl,hS⟩:=hS;refine dF (.string (mkS (([92,120]:List UInt8)++(([48,49,50,51,52,53,54,55,56,57,97,98,99,100,101,102]:List UInt8).take (IntKind.wrap .u8 ((bShr .u8 b1 4)+1)).toNat).drop (bShr .u8 b1 4).toNat))) 6 [13,14] hs rfl (Yl.concat rfl rfl rfl rfl hl) λ_ hs=>?_;refine dA (Value.int .u8 b1) 7 [8,12,13,14] hs λ_ hs=>?_;refine dA (Value.int .u8 (bAnd .u8 b1 15)) 8 [12,13,14] hs λ_ hs=>?_;refine sE 9 ?_;refine sP (.int .u8 b1) hs λ_ hs=>?_;refine nE 10 ?_
     refine sP (.int .u8 (bAnd .u8 b1 15)) hs λ_ hs=>?_;refine nE 11 ?_;refine sP (.int .u8 (IntKind.wrap .u8 ((bAnd .u8 b1 15)+1))) hs λ_ hs=>?_;refine nE 12 ?_;obtain⟨h0,h1,h2,hS⟩:=hS;refine sY (.string (mkS ((([48,49,50,51,52,53,54,55,56,57,97,98,99,100,101,102]:List UInt8).take (IntKind.wrap .u8 ((bAnd .u8 b1 15)+1)).toNat).drop (bAnd .u8 b1 15).toNat))) hs (Yl.sliceStrLH rfl rfl rfl rfl rfl rfl (by kernel_rfl) h0 h1 h2) λ_ hs=>?_;refine nE 13 ?_;obtain⟨hl,hS⟩:=hS;refine sY (.string (mkS (([92,120]:List UInt8)++(([48,49,50,51,52,53,54,55,56,57,97,98,99,100,101,102]:List UInt8).take (IntKind.wrap .u8 ((bShr .u8 b1 4)+1)).toNat).drop (bShr .u8 b1 4).toNat++(([48,49,50,51,52,53,54,55,56,57,97,98,99,100,101,102]:List UInt8).take (IntKind.wrap .u8 ((bAnd .u8 b1 15)+1)).toNat).drop (bAnd .u8 b1 15).toNat))) hs (Yl.concat rfl rfl rfl rfl hl) λ_ hs=>?_;refine nE 14 ?_;refine sP (.string (mkS (([92,120]:List UInt8)++(([48,49,50,51,52,53,54,55,56,57,97,98,99,100,101,102]:List UInt8).take (IntKind.wrap .u8 ((bShr .u8 b1 4)+1)).toNat).drop (bShr .u8 b1 4).toNat++(([48,49,50,51,52,53,54,55,56,57,97,98,99,100,101,102]:List UInt8).take (IntKind.wrap .u8 ((bAnd .u8 b1 15)+1)).toNat).drop (bAnd .u8 b1 15).toNat))) hs λ_ hs=>?_;refine wN ?_;refine dD ?_;exact qt (rT hs hMM hS)
    ·refine qr (sP2 (.string (mkS signs2)) (.int .u8 b1) hs λ_ hs=>?_);refine cP [(.string (mkS signs2)),(.int .u8 b1)] hs Tryd.func57 hS λ_ _ v hS hs=>?_;obtain⟨x4,rfl,hS⟩:=hS;refine sP2 (.bool (decide (x4>=0))) (.bool (decide (x4>=0))) hs λ_ hs=>?_;refine wn (Wp.cS hs decide_eq_true_iff hS (λhS=>?_) (λhS=>?_))
     ·refine qr (sP (.int .u8 b1) hs λ_ hs=>?_);refine stepMake [(.int .u8 b1)] 5 1 1 hs rfl rfl rfl (λ_=>by kernel_rfl) rfl (by unfold maxLen;decide) (by decide) (λ_ _ rv5 hs=>?_);obtain⟨x6,hb,hS⟩:=hS;refine sY (.string (mkS x6)) hs (Yl.bytesR (l:=x6) (e':=5) 0 (by rw[<-hb];rfl) rfl rfl (by kernel_rfl) (by kernel_rfl) (by kernel_rfl)) λ_ hs=>?_;obtain⟨hl,hS⟩:=hS;refine sY (.string (mkS (([92]:List UInt8)++x6))) hs (Yl.concat rfl rfl rfl rfl hl) λ_ hs=>?_;refine sP (.string (mkS (([92]:List UInt8)++x6))) hs λ_ hs=>?_;exact wn (qt (rT hs hMM hS))
     ·refine qk (qr (sP (.int .u8 b1) hs λ_ hs=>?_));refine stepMake [(.int .u8 b1)] 5 1 1 hs rfl rfl rfl (λ_=>by kernel_rfl) rfl (by unfold maxLen;decide) (by decide) (λ_ _ rv7 hs=>?_);obtain⟨x8,hb,hS⟩:=hS;refine sY (.string (mkS x8)) hs (Yl.bytesR (l:=x8) (e':=5) 0 (by rw[<-hb];rfl) rfl rfl (by kernel_rfl) (by kernel_rfl) (by kernel_rfl)) λ_ hs=>?_;refine sP (.string (mkS x8)) hs λ_ hs=>?_;exact wn (qt (rT hs hMM hS))
def S_chaffref_digit (n1:Int) (M:Mem) (K:Value->Prop):Prop:=
 (InI (n1+1)/\((0:Int)<=n1/\(n1:Int)<=n1+1/\(n1+1:Int)<=((([48,49,50,51,52,53,54,55,56,57,97,98,99,100,101,102]:List UInt8).length:Nat):Int)/\K (Value.string (mkS ((([48,49,50,51,52,53,54,55,56,57,97,98,99,100,101,102]:List UInt8).take (n1+1).toNat).drop n1.toNat)))))
set_option maxRecDepth 100000 in
theorem s_chaffref_digit (n1:Int) (M:Mem) (K:Value->Prop) (hS:S_chaffref_digit n1 M K):CallE Tryd.prog 89 #[(Value.int .i64 n1)] M (λv _=>K v):=by
 refine eE1 Tryd.func89 7 λE a hMM hs=>?_;unfold S_chaffref_digit at hS;refine qr (sP (.string (mkS ([]:List UInt8))) hs λ_ hs=>?_);refine wn (qr (sP2 (iv n1) (iv n1) hs λ_ hs=>?_));obtain⟨hI,hS⟩:=hS;refine sY (iv (n1+1)) hs (Yl.wr hI) λ_ hs=>?_;obtain⟨h0,h1,h2,hS⟩:=hS;refine sY (.string (mkS ((([48,49,50,51,52,53,54,55,56,57,97,98,99,100,101,102]:List UInt8).take (n1+1).toNat).drop n1.toNat))) hs (Yl.sliceStrLH rfl rfl rfl rfl rfl rfl (by kernel_rfl) h0 h1 h2) λ_ hs=>?_;refine sP (.string (mkS ((([48,49,50,51,52,53,54,55,56,57,97,98,99,100,101,102]:List UInt8).take (n1+1).toNat).drop n1.toNat))) hs λ_ hs=>?_;exact wn (qt (rT hs hMM hS))
def S_chaffref_shown_J1 (b1:Int) (signs2:List UInt8) (M:Mem) (x4:Bool) (K:Value->Prop):Prop:=
 ((x4=true->(InI (b1.tdiv 16)/\(CallE Tryd.prog 89 #[(.int .i64 (b1.tdiv 16))] M (λv _=>∃(x5:List UInt8),v=(Value.string (mkS x5))/\(([92,120]:List UInt8).length+x5.length<=9223372036854775807/\(CallE Tryd.prog 89 #[(.int .i64 (b1.tmod 16))] M (λv _=>∃(x6:List UInt8),v=(Value.string (mkS x6))/\((([92,120]:List UInt8)++x5).length+x6.length<=9223372036854775807/\K (Value.string (mkS (([92,120]:List UInt8)++x5++x6)))))))))))/\(¬(x4=true)->(∃(x8:List UInt8),[(.int .u8 (IntKind.wrap .u8 b1))]=bytesV x8/\(CallE Tryd.prog 105 #[(.string (mkS signs2)),(.string (mkS x8))] M (λv _=>∃(x9:Bool),v=(Value.bool x9)/\((x9=true->(∃(x11:List UInt8),[(.int .u8 (IntKind.wrap .u8 b1))]=bytesV x11/\(([92]:List UInt8).length+x11.length<=9223372036854775807/\K (Value.string (mkS (([92]:List UInt8)++x11))))))/\(¬(x9=true)->(∃(x13:List UInt8),[(.int .u8 (IntKind.wrap .u8 b1))]=bytesV x13/\K (Value.string (mkS x13))))))))))
def S_chaffref_shown (b1:Int) (signs2:List UInt8) (low3:Int) (M:Mem) (K:Value->Prop):Prop:=
 (((b1:Int)=10->K (Value.string (mkS ([92,110]:List UInt8))))/\(¬((b1:Int)=10)->(((b1:Int)=9->K (Value.string (mkS ([92,116]:List UInt8))))/\(¬((b1:Int)=9)->((b1<low3->(S_chaffref_shown_J1 b1 signs2 M true K))/\(¬(b1<low3)->(S_chaffref_shown_J1 b1 signs2 M (decide (b1>126)) K)))))))
set_option maxRecDepth 100000 in
theorem s_chaffref_shown (b1:Int) (signs2:List UInt8) (low3:Int) (M:Mem) (K:Value->Prop) (hS:S_chaffref_shown b1 signs2 low3 M K):CallE Tryd.prog 69 #[(Value.int .i64 b1),(Value.string (mkS signs2)),(Value.int .i64 low3)] M (λv _=>K v):=by
 refine eE3 Tryd.func69 45 λE a hMM hs=>?_;unfold S_chaffref_shown at hS;refine qr (sP (.string (mkS ([]:List UInt8))) hs λ_ hs=>?_);refine wn (qs (qb (qr (sP3 (iv b1) (.bool ((b1:Int)==(10:Int))) (.bool ((b1:Int)==(10:Int))) hs λ_ hs=>?_))));refine wn (Wp.cS hs beq_iff_eq hS (λhS=>?_) (λhS=>?_))
 ·refine qr (sP (.string (mkS ([92,110]:List UInt8))) hs λ_ hs=>?_);exact wn (qt (rT hs hMM hS))
 ·refine qr (sP3 (iv b1) (.bool ((b1:Int)==(9:Int))) (.bool ((b1:Int)==(9:Int))) hs λ_ hs=>?_);refine wn (Wp.cS hs beq_iff_eq hS (λhS=>?_) (λhS=>?_))
  ·refine qr (sP (.string (mkS ([92,116]:List UInt8))) hs λ_ hs=>?_);exact wn (qt (rT hs hMM hS))
  ·refine Wp.join (λa w=>∃(x4:Bool),Sx 45 E [] M w a [(0,(iv b1)),(1,(.string (mkS signs2))),(13,(.bool x4))] [] []/\(S_chaffref_shown_J1 b1 signs2 M x4 K)) ?_ ?_
   ·refine qg (sP4 (iv b1) (iv low3) (.bool (decide (b1<low3))) (.bool (decide (b1<low3))) hs λ_ hs=>?_);refine bsS decide_eq_true_iff hs hS (λhs hS=>?_) (λhs hS=>?_)
    ·refine sNo hs λ_ hs=>?_;refine sNo hs λ_ hs=>?_;refine sP2 (.bool true) (.bool true) hs λ_ hs=>?_;exact wn (⟨true,hs.q,hS⟩)
    ·refine ye (iv b1) hs λ_ hs=>?_;refine ye (.bool (decide (b1>126))) hs λ_ hs=>?_;refine sP2 (.bool (decide (b1>126))) (.bool (decide (b1>126))) hs λ_ hs=>?_;exact wn (⟨(decide (b1>126)),hs.q,hS⟩)
   ·intro a w hJ;obtain⟨x4,hs,hS⟩:=hJ;unfold S_chaffref_shown_J1 at hS;refine Wp.cS hs Iff.rfl hS (λhS=>?_) (λhS=>?_)
    ·refine qr (sP (iv b1) hs λ_ hs=>?_);obtain⟨hI,hS⟩:=hS;refine sY (iv (b1.tdiv 16)) hs (Yl.wr hI) λ_ hs=>?_;refine cP [(iv (b1.tdiv 16))] hs Tryd.func89 hS λ_ _ v hS hs=>?_;obtain⟨x5,rfl,hS⟩:=hS;obtain⟨hl,hS⟩:=hS;refine sY (.string (mkS (([92,120]:List UInt8)++x5))) hs (Yl.concat rfl rfl rfl rfl hl) λ_ hs=>?_;refine sP2 (iv b1) (iv (b1.tmod 16)) hs λ_ hs=>?_;refine cP [(iv (b1.tmod 16))] hs Tryd.func89 hS λ_ _ v hS hs=>?_;obtain⟨x6,rfl,hS⟩:=hS;obtain⟨hl,hS⟩:=hS;refine sY (.string (mkS (([92,120]:List UInt8)++x5++x6))) hs (Yl.concat rfl rfl rfl rfl hl) λ_ hs=>?_;refine sP (.string (mkS (([92,120]:List UInt8)++x5++x6))) hs λ_ hs=>?_;exact wn (qt (rT hs hMM hS))
    ·refine qr (sP3 (.string (mkS signs2)) (iv b1) (.int .u8 (IntKind.wrap .u8 b1)) hs λ_ hs=>?_);refine stepMake [(.int .u8 (IntKind.wrap .u8 b1))] 5 1 1 hs rfl rfl rfl (λ_=>by kernel_rfl) rfl (by unfold maxLen;decide) (by decide) (λ_ _ rv7 hs=>?_);obtain⟨x8,hb,hS⟩:=hS;refine sY (.string (mkS x8)) hs (Yl.bytesR (l:=x8) (e':=5) 0 (by rw[<-hb];rfl) rfl rfl (by kernel_rfl) (by kernel_rfl) (by kernel_rfl)) λ_ hs=>?_;refine cP [(.string (mkS signs2)),(.string (mkS x8))] hs Tryd.func105 hS λ_ _ v hS hs=>?_;obtain⟨x9,rfl,hS⟩:=hS;refine sP (.bool x9) hs λ_ hs=>?_;refine wn (Wp.cS hs Iff.rfl hS (λhS=>?_) (λhS=>?_))
     ·refine qr (sP2 (iv b1) (.int .u8 (IntKind.wrap .u8 b1)) hs λ_ hs=>?_);refine stepMake [(.int .u8 (IntKind.wrap .u8 b1))] 5 1 1 hs rfl rfl rfl (λ_=>by kernel_rfl) rfl (by unfold maxLen;decide) (by decide) (λ_ _ rv10 hs=>?_);obtain⟨x11,hb,hS⟩:=hS;refine sY (.string (mkS x11)) hs (Yl.bytesR (l:=x11) (e':=5) 0 (by rw[<-hb];rfl) rfl rfl (by kernel_rfl) (by kernel_rfl) (by kernel_rfl)) λ_ hs=>?_;obtain⟨hl,hS⟩:=hS;refine sY (.string (mkS (([92]:List UInt8)++x11))) hs (Yl.concat rfl rfl rfl rfl hl) λ_ hs=>?_;refine sP (.string (mkS (([92]:List UInt8)++x11))) hs λ_ hs=>?_;exact wn (qt (rT hs hMM hS))
     ·refine qk (qr (sP2 (iv b1) (.int .u8 (IntKind.wrap .u8 b1)) hs λ_ hs=>?_));refine stepMake [(.int .u8 (IntKind.wrap .u8 b1))] 5 1 1 hs rfl rfl rfl (λ_=>by kernel_rfl) rfl (by unfold maxLen;decide) (by decide) (λ_ _ rv12 hs=>?_);obtain⟨x13,hb,hS⟩:=hS;refine sY (.string (mkS x13)) hs (Yl.bytesR (l:=x13) (e':=5) 0 (by rw[<-hb];rfl) rfl rfl (by kernel_rfl) (by kernel_rfl) (by kernel_rfl)) λ_ hs=>?_;refine sP (.string (mkS x13)) hs λ_ hs=>?_;exact wn (qt (rT hs hMM hS))
end Go.Proofs.YtjecddabdlapbaaDoor.core

namespace Go.Proofs.YtjecddabdlapbaaDoor.core
open Go.Gx Go.RowKit Go.ChangeShapes Go.WideShapes Go.ChangeAt
set_option linter.unusedVariables false
def S_quote_Dec (n1:Int) (M:Mem) (K:Value->Prop):Prop:=
 (CallE Tryd.prog 88 #[(.int .i64 n1)] M (λv _=>∃(x2:List UInt8),v=(Value.string (mkS x2))/\K (Value.string (mkS x2))))
set_option maxRecDepth 100000 in
theorem s_quote_Dec (n1:Int) (M:Mem) (K:Value->Prop) (hS:S_quote_Dec n1 M K):CallE Tryd.prog 46 #[(Value.int .i64 n1)] M (λv _=>K v):=by
 refine eE1 Tryd.func46 5 λE a hMM hs=>?_;unfold S_quote_Dec at hS;refine qr (sP (.string (mkS ([]:List UInt8))) hs λ_ hs=>?_);refine wn (qr (sP (iv n1) hs λ_ hs=>?_));refine cP [(iv n1)] hs Tryd.func88 hS λ_ _ v hS hs=>?_;obtain⟨x2,rfl,hS⟩:=hS;refine sP (.string (mkS x2)) hs λ_ hs=>?_;exact wn (qt (rT hs hMM hS))
def S_chaffref_Dec_J1 (M:Mem) (n6:Int) (out7:List UInt8) (I8:Int->List UInt8->Prop) (mu9:Int->List UInt8->Nat) (d10:Int) (K:Value->Prop):Prop:=
 (CallE Tryd.prog 89 #[(.int .i64 d10)] M (λv _=>∃(x11:List UInt8),v=(Value.string (mkS x11))/\(x11.length+out7.length<=9223372036854775807/\(InI (n6.tdiv 10)/\I8 (n6.tdiv 10) (x11++out7)/\mu9 (n6.tdiv 10) (x11++out7)<mu9 n6 out7))))
def S_chaffref_Dec (n1:Int) (M:Mem) (K:Value->Prop):Prop:=
 (((n1:Int)=0->K (Value.string (mkS ([48]:List UInt8))))/\(¬((n1:Int)=0)->(∃(I8:Int->List UInt8->Prop) (mu9:Int->List UInt8->Nat),I8 n1 ([]:List UInt8)/\∀(n6:Int) (out7:List UInt8),(I8 n6 out7->(((n6:Int)≠0->((n6.tmod 10<0->(InI (0-(n6.tmod 10))/\(S_chaffref_Dec_J1 M n6 out7 I8 mu9 (0-(n6.tmod 10)) K)))/\(¬(n6.tmod 10<0)->(S_chaffref_Dec_J1 M n6 out7 I8 mu9 (n6.tmod 10) K))))/\(¬((n6:Int)≠0)->((n1<0->(([45]:List UInt8).length+out7.length<=9223372036854775807/\K (Value.string (mkS (([45]:List UInt8)++out7)))))/\(¬(n1<0)->K (Value.string (mkS out7))))))))))
set_option maxRecDepth 100000 in
theorem s_chaffref_Dec (n1:Int) (M:Mem) (K:Value->Prop) (hS:S_chaffref_Dec n1 M K):CallE Tryd.prog 47 #[(Value.int .i64 n1)] M (λv _=>K v):=by
 refine eE1 Tryd.func47 28 λE a hMM hs=>?_;unfold S_chaffref_Dec at hS;refine qr (sP (.string (mkS ([]:List UInt8))) hs λ_ hs=>?_);refine wn (qs (qr (sP2 (iv n1) (.bool ((n1:Int)==(0:Int))) hs λ_ hs=>?_)));refine wn (Wp.cS hs beq_iff_eq hS (λhS=>?_) (λhS=>?_))
 ·refine qr (sP (.string (mkS ([48]:List UInt8))) hs λ_ hs=>?_);exact wn (qt (rT hs hMM hS))
 ·refine qk (qr (sP4 (iv n1) (.bool (decide (n1<0))) (.string (mkS ([]:List UInt8))) (.bool (decide (n1<0))) hs λ_ hs=>?_));refine wn (qs (qb ?_));obtain⟨I8,mu9,hI0,hst⟩:=hS;refine Wp.loop (σ:=(Int)×(List UInt8)) (λ(n6,out7) a w=>Sx 28 E [] M w a [(0,(iv n6)),(3,(.string (mkS out7))),(4,(.bool (decide (n1<0))))] [] []/\I8 n6 out7) (λ(n6,out7)=>mu9 n6 out7) (n1,([]:List UInt8)) ⟨hs.q,hI0⟩ (λs a w hI=>?_);obtain⟨n6,out7⟩:=s;obtain⟨hs,hI⟩:=hI;have hS:=hst n6 out7 hI;clear hst hI0 hI;refine qs (qr (sP2 (iv n6) (.bool ((n6:Int) != (0:Int))) hs λ_ hs=>?_));refine wn (Wp.cS hs bne_iff_ne hS (λhS=>?_) (λhS=>?_))
  ·refine qk (qb (qr (sP3 (iv n6) (iv (n6.tmod 10)) (iv (n6.tmod 10)) hs λ_ hs=>?_)));refine wn (Wp.join (λa w=>∃(d10:Int),Sx 28 E [] M w a [(0,(iv n6)),(3,(.string (mkS out7))),(4,(.bool (decide (n1<0)))),(5,(iv d10))] [] []/\(S_chaffref_Dec_J1 M n6 out7 I8 mu9 d10 K)) ?_ ?_)
   ·refine qr (sP2 (iv (n6.tmod 10)) (.bool (decide (n6.tmod 10<0))) hs λ_ hs=>?_);refine wn (Wp.cS hs decide_eq_true_iff hS (λhS=>?_) (λhS=>?_))
    ·refine qg (sP (iv (n6.tmod 10)) hs λ_ hs=>?_);obtain⟨hI,hS⟩:=hS;refine sY (iv (0-(n6.tmod 10))) hs (Yl.wr hI) λ_ hs=>?_;refine sP (iv (0-(n6.tmod 10))) hs λ_ hs=>?_;exact wn (⟨(0-(n6.tmod 10)),hs.q,hS⟩)
    ·exact qk (⟨(n6.tmod 10),hs.q,hS⟩)
   ·intro a w hJ;obtain⟨d10,hs,hS⟩:=hJ;unfold S_chaffref_Dec_J1 at hS;refine qr (sP (iv d10) hs λ_ hs=>?_);refine cP [(iv d10)] hs Tryd.func89 hS λ_ _ v hS hs=>?_;obtain⟨x11,rfl,hS⟩:=hS;refine sP (.string (mkS out7)) hs λ_ hs=>?_;obtain⟨hl,hS⟩:=hS;refine sY (.string (mkS (x11++out7))) hs (Yl.concat rfl rfl rfl rfl hl) λ_ hs=>?_;refine sP (.string (mkS (x11++out7))) hs λ_ hs=>?_;refine wn (qg (sP (iv n6) hs λ_ hs=>?_));obtain⟨hI,hS⟩:=hS;refine sY (iv (n6.tdiv 10)) hs (Yl.wr hI) λ_ hs=>?_;refine sP (iv (n6.tdiv 10)) hs λ_ hs=>?_;exact wn (⟨(n6.tdiv 10,x11++out7),⟨hs.q,hS.1⟩,hS.2⟩)
  ·refine qx rfl (qs (qr (sP (.bool (decide (n1<0))) hs λ_ hs=>?_)));refine wn (Wp.cS hs decide_eq_true_iff hS (λhS=>?_) (λhS=>?_))
   ·refine qg (sP (.string (mkS out7)) hs λ_ hs=>?_);obtain⟨hl,hS⟩:=hS;refine sY (.string (mkS (([45]:List UInt8)++out7))) hs (Yl.concat rfl rfl rfl rfl hl) λ_ hs=>?_;refine sP (.string (mkS (([45]:List UInt8)++out7))) hs λ_ hs=>?_;refine wn (qr (sP2 (.string (mkS (([45]:List UInt8)++out7))) (.string (mkS (([45]:List UInt8)++out7))) hs λ_ hs=>?_));exact wn (qt (rT hs hMM hS))
   ·refine qk (qr (sP2 (.string (mkS out7)) (.string (mkS out7)) hs λ_ hs=>?_));exact wn (qt (rT hs hMM hS))
end Go.Proofs.YtjecddabdlapbaaDoor.core

namespace Go.Proofs.YtjecddabdlapbaaDoor.core
open Go.Gx Go.RowKit Go.ChangeShapes Go.WideShapes Go.ChangeAt
set_option linter.unusedVariables false
def S_quote_Lit (s1:List UInt8) (M:Mem) (K:Value->Prop):Prop:=
 (∃(I8:List UInt8->Int->Prop) (mu9:List UInt8->Int->Nat),I8 ([39]:List UInt8) 0/\∀(out6:List UInt8) (x7:Int),(I8 out6 x7->((x7<((s1.length:Nat):Int)->(∃c10:UInt8,(0:Int)<=x7/\s1[x7.toNat]?=some c10/\(CallE Tryd.prog 67 #[(.int .u8 (c10.toNat:Int)),(.string (mkS ([39,92]:List UInt8)))] M (λv _=>∃(x11:List UInt8),v=(Value.string (mkS x11))/\(out6.length+x11.length<=9223372036854775807/\(InI (x7+1)/\I8 (out6++x11) (x7+1)/\mu9 (out6++x11) (x7+1)<mu9 out6 x7))))))/\(¬(x7<((s1.length:Nat):Int))->(out6.length+([39]:List UInt8).length<=9223372036854775807/\K (Value.string (mkS (out6++([39]:List UInt8)))))))))
set_option maxRecDepth 100000 in
theorem s_quote_Lit (s1:List UInt8) (M:Mem) (K:Value->Prop) (hS:S_quote_Lit s1 M K):CallE Tryd.prog 80 #[(Value.string (mkS s1))] M (λv _=>K v):=by
 refine eE1 Tryd.func80 19 λE a hMM hs=>?_;unfold S_quote_Lit at hS;refine qr (sP (.string (mkS ([]:List UInt8))) hs λ_ hs=>?_);refine wn (qr (sP (.string (mkS ([39]:List UInt8))) hs λ_ hs=>?_));refine wn (qs (qr (sP3 (.string (mkS s1)) (iv (s1.length:Int)) (iv 0) hs λ_ hs=>?_)));refine wn (qb ?_);obtain⟨I8,mu9,hI0,hst⟩:=hS;refine Wp.loop (σ:=(List UInt8)×(Int)) (λ(out6,x7) a w=>Sx 19 E [] M w a [(0,(.string (mkS s1))),(3,(.string (mkS out6))),(6,(iv (s1.length:Int))),(7,(iv x7))] [] []/\I8 out6 x7) (λ(out6,x7)=>mu9 out6 x7) (([39]:List UInt8),0) ⟨hs.q,hI0⟩ (λs a w hI=>?_);obtain⟨out6,x7⟩:=s;obtain⟨hs,hI⟩:=hI;have hS:=hst out6 x7 hI;clear hst hI0 hI;refine qr (sP (.bool (decide (x7<(s1.length:Int)))) hs λ_ hs=>?_);refine wn (qs (Wp.cS hs decide_eq_true_iff hS (λhS=>?_) (λhS=>?_)))
 ·refine qk (qs (qb (qr (sP2 (iv x7) (iv x7) hs λ_ hs=>?_))));refine wn (qg (sP3 (.string (mkS out6)) (.string (mkS s1)) (iv x7) hs λ_ hs=>?_));obtain⟨c10,h0,hi,hS⟩:=hS;refine sY (.int .u8 (c10.toNat:Int)) hs (Yl.indexStr rfl rfl rfl rfl (by kernel_rfl) h0 hi) λ_ hs=>?_;refine cP [(.int .u8 (c10.toNat:Int)),(.string (mkS ([39,92]:List UInt8)))] hs Tryd.func67 hS λ_ _ v hS hs=>?_;obtain⟨x11,rfl,hS⟩:=hS;obtain⟨hl,hS⟩:=hS;refine sY (.string (mkS (out6++x11))) hs (Yl.concat rfl rfl rfl rfl hl) λ_ hs=>?_;refine sP (.string (mkS (out6++x11))) hs λ_ hs=>?_;refine wn (qg ?_);obtain⟨hI,hS⟩:=hS;refine sY (iv (x7+1)) hs (Yl.wr hI) λ_ hs=>?_;refine sP (iv (x7+1)) hs λ_ hs=>?_;exact wn (⟨(out6++x11,x7+1),⟨hs.q,hS.1⟩,hS.2⟩)
 ·refine qx rfl (qr (sP (.string (mkS out6)) hs λ_ hs=>?_));obtain⟨hl,hS⟩:=hS;refine sY (.string (mkS (out6++([39]:List UInt8)))) hs (Yl.concat rfl rfl rfl rfl hl) λ_ hs=>?_;refine sP (.string (mkS (out6++([39]:List UInt8)))) hs λ_ hs=>?_;exact wn (qt (rT hs hMM hS))
def S_chaffref_Lit (s1:List UInt8) (M:Mem) (K:Value->Prop):Prop:=
 (∃(I8:List UInt8->Int->Prop) (mu9:List UInt8->Int->Nat),I8 ([39]:List UInt8) 0/\∀(out6:List UInt8) (x7:Int),(I8 out6 x7->((x7<((s1.length:Nat):Int)->(∃c10:UInt8,(0:Int)<=x7/\s1[x7.toNat]?=some c10/\(CallE Tryd.prog 69 #[(.int .i64 (IntKind.wrap .i64 (c10.toNat:Int))),(.string (mkS ([39,92]:List UInt8))),(.int .i64 32)] M (λv _=>∃(x11:List UInt8),v=(Value.string (mkS x11))/\(out6.length+x11.length<=9223372036854775807/\(InI (x7+1)/\I8 (out6++x11) (x7+1)/\mu9 (out6++x11) (x7+1)<mu9 out6 x7))))))/\(¬(x7<((s1.length:Nat):Int))->(out6.length+([39]:List UInt8).length<=9223372036854775807/\K (Value.string (mkS (out6++([39]:List UInt8)))))))))
set_option maxRecDepth 100000 in
theorem s_chaffref_Lit (s1:List UInt8) (M:Mem) (K:Value->Prop) (hS:S_chaffref_Lit s1 M K):CallE Tryd.prog 79 #[(Value.string (mkS s1))] M (λv _=>K v):=by
 refine eE1 Tryd.func79 20 λE a hMM hs=>?_;unfold S_chaffref_Lit at hS;refine qr (sP (.string (mkS ([]:List UInt8))) hs λ_ hs=>?_);refine wn (qr (sP (.string (mkS ([39]:List UInt8))) hs λ_ hs=>?_));refine wn (qs (qr (sP3 (.string (mkS s1)) (iv (s1.length:Int)) (iv 0) hs λ_ hs=>?_)));refine wn (qb ?_);obtain⟨I8,mu9,hI0,hst⟩:=hS;refine Wp.loop (σ:=(List UInt8)×(Int)) (λ(out6,x7) a w=>Sx 20 E [] M w a [(0,(.string (mkS s1))),(3,(.string (mkS out6))),(6,(iv (s1.length:Int))),(7,(iv x7))] [] []/\I8 out6 x7) (λ(out6,x7)=>mu9 out6 x7) (([39]:List UInt8),0) ⟨hs.q,hI0⟩ (λs a w hI=>?_);obtain⟨out6,x7⟩:=s;obtain⟨hs,hI⟩:=hI;have hS:=hst out6 x7 hI;clear hst hI0 hI;refine qr (sP (.bool (decide (x7<(s1.length:Int)))) hs λ_ hs=>?_);refine wn (qs (Wp.cS hs decide_eq_true_iff hS (λhS=>?_) (λhS=>?_)))
 ·refine qk (qs (qb (qr (sP2 (iv x7) (iv x7) hs λ_ hs=>?_))));refine wn (qg (sP3 (.string (mkS out6)) (.string (mkS s1)) (iv x7) hs λ_ hs=>?_));obtain⟨c10,h0,hi,hS⟩:=hS;refine sY (.int .u8 (c10.toNat:Int)) hs (Yl.indexStr rfl rfl rfl rfl (by kernel_rfl) h0 hi) λ_ hs=>?_;refine sP (iv (IntKind.wrap .i64 (c10.toNat:Int))) hs λ_ hs=>?_;refine cP [(iv (IntKind.wrap .i64 (c10.toNat:Int))),(.string (mkS ([39,92]:List UInt8))),(iv 32)] hs Tryd.func69 hS λ_ _ v hS hs=>?_;obtain⟨x11,rfl,hS⟩:=hS;obtain⟨hl,hS⟩:=hS;refine sY (.string (mkS (out6++x11))) hs (Yl.concat rfl rfl rfl rfl hl) λ_ hs=>?_;refine sP (.string (mkS (out6++x11))) hs λ_ hs=>?_;refine wn (qg ?_);obtain⟨hI,hS⟩:=hS;refine sY (iv (x7+1)) hs (Yl.wr hI) λ_ hs=>?_;refine sP (iv (x7+1)) hs λ_ hs=>?_;exact wn (⟨(out6++x11,x7+1),⟨hs.q,hS.1⟩,hS.2⟩)
 ·refine qx rfl (qr (sP (.string (mkS out6)) hs λ_ hs=>?_));obtain⟨hl,hS⟩:=hS;refine sY (.string (mkS (out6++([39]:List UInt8)))) hs (Yl.concat rfl rfl rfl rfl hl) λ_ hs=>?_;refine sP (.string (mkS (out6++([39]:List UInt8)))) hs λ_ hs=>?_;exact wn (qt (rT hs hMM hS))
end Go.Proofs.YtjecddabdlapbaaDoor.core

namespace Go.Proofs.YtjecddabdlapbaaDoor.core
open Go.Gx Go.RowKit Go.ChangeShapes Go.WideShapes Go.ChangeAt
set_option linter.unusedVariables false
end Go.Proofs.YtjecddabdlapbaaDoor.core

namespace Go.Proofs.YtjecddabdlapbaaDoor.core
open Go.Gx Go.RowKit Go.ChangeShapes Go.WideShapes Go.ChangeAt
set_option linter.unusedVariables false
structure X_api_Case where
 Kind:Int
 N:Int
 Text:List UInt8
def X_api_Case.cells (x:X_api_Case):List Value:=[(.int .i64 x.Kind),(.int .i64 x.N),(.string (mkS x.Text))]
def X_api_Case.val (x:X_api_Case):Value:=.agg x.cells.toArray
def S_book_fit_J2 (x4:Bool) (K:Value->Prop):Prop:=
 ((x4=true->K (Value.int .i64 1))/\(¬(x4=true)->K (Value.int .i64 0)))
def S_book_fit_J1 (c1:X_api_Case) (x3:Bool) (K:Value->Prop):Prop:=
 ((x3=true->(((c1.N:Int)≠0->K (Value.int .i64 1))/\(¬((c1.N:Int)≠0)->K (Value.int .i64 0))))/\(¬(x3=true)->(((c1.Kind:Int)=4->((c1.N<0->(S_book_fit_J2 true K))/\(¬(c1.N<0)->(S_book_fit_J2 (decide (c1.N>((c1.Text.length:Nat):Int))) K))))/\(¬((c1.Kind:Int)=4)->K (Value.int .i64 1)))))
def S_book_fit (c1:X_api_Case) (M:Mem) (K:Value->Prop):Prop:=
 ((((c1.Text.length:Nat):Int)>60->K (Value.int .i64 2))/\(¬(((c1.Text.length:Nat):Int)>60)->(((c1.Kind:Int)=1->(S_book_fit_J1 c1 ((c1.Kind:Int)==(1:Int)) K))/\(¬((c1.Kind:Int)=1)->(S_book_fit_J1 c1 ((c1.Kind:Int)==(2:Int)) K)))))
set_option maxRecDepth 100000 in
theorem s_book_fit (c1:X_api_Case) (M:Mem) (K:Value->Prop) (hS:S_book_fit c1 M K):CallE Tryd.prog 82 #[c1.val] M (λv _=>K v):=by
 refine eE1 Tryd.func82 28 λE a hMM hs=>?_;unfold S_book_fit at hS;refine qr (stepBox c1.cells hs rfl rfl rfl (by decide) (λ_ _ b2 hEb2 hs=>?_));refine sP (iv 0) hs λ_ hs=>?_;refine wn (qs (qr (sP (pt b2 2) hs λ_ hs=>?_)));refine sB1 (.string (mkS c1.Text)) 0 hs λ_ hs=>?_;refine sP2 (iv (c1.Text.length:Int)) (.bool (decide ((c1.Text.length:Int)>60))) hs λ_ hs=>?_;refine wn (Wp.cS hs decide_eq_true_iff hS (λhS=>?_) (λhS=>?_))
 ·refine qr (sP (iv 2) hs λ_ hs=>?_);exact wn (qt (rT hs hMM hS))
 ·refine qk (qs (qr (sP (pt b2 0) hs λ_ hs=>?_)));refine sB1 (iv c1.Kind) 0 hs λ_ hs=>?_;refine wn (qb (Wp.join (λa w=>∃(x3:Bool),Sx 28 E [] M w a [(1,(pt b2 0)),(8,(iv c1.Kind)),(9,(.bool x3))] [⟨b2,81,c1.cells⟩] []/\(S_book_fit_J1 c1 x3 K)) ?_ ?_))
  ·refine qr (sP2 (.bool ((c1.Kind:Int)==(1:Int))) (.bool ((c1.Kind:Int)==(1:Int))) hs λ_ hs=>?_);refine wn (Wp.cS hs beq_iff_eq hS (λhS=>?_) (λhS=>?_))
   ·exact qk (⟨((c1.Kind:Int)==(1:Int)),hs.q,hS⟩)
   ·refine qg (sP2 (.bool ((c1.Kind:Int)==(2:Int))) (.bool ((c1.Kind:Int)==(2:Int))) hs λ_ hs=>?_);exact wn (⟨((c1.Kind:Int)==(2:Int)),hs.q,hS⟩)
  ·intro a w hJ;obtain⟨x3,hs,hS⟩:=hJ;unfold S_book_fit_J1 at hS;refine Wp.cS hs Iff.rfl hS (λhS=>?_) (λhS=>?_)
   ·refine qr (sP (pt b2 1) hs λ_ hs=>?_);refine sB1 (iv c1.N) 0 hs λ_ hs=>?_;refine sP (.bool ((c1.N:Int) != (0:Int))) hs λ_ hs=>?_;refine wn (Wp.cS hs bne_iff_ne hS (λhS=>?_) (λhS=>?_))
    ·refine qr (sP (iv 1) hs λ_ hs=>?_);exact wn (qt (rT hs hMM hS))
    ·refine qk (qr (sP (iv 0) hs λ_ hs=>?_));exact wn (qt (rT hs hMM hS))
   ·refine qr (sP2 (.bool ((c1.Kind:Int)==(4:Int))) (.bool ((c1.Kind:Int)==(4:Int))) hs λ_ hs=>?_);refine wn (Wp.cS hs beq_iff_eq hS (λhS=>?_) (λhS=>?_))
    ·refine Wp.join (λa w=>∃(x4:Bool),Sx 28 E [] M w a [(27,(.bool x4))] [⟨b2,81,c1.cells⟩] []/\(S_book_fit_J2 x4 K)) ?_ ?_
     ·refine qg (sP (pt b2 1) hs λ_ hs=>?_);refine sB1 (iv c1.N) 0 hs λ_ hs=>?_;refine sP2 (.bool (decide (c1.N<0))) (.bool (decide (c1.N<0))) hs λ_ hs=>?_;refine bsS decide_eq_true_iff hs hS (λhs hS=>?_) (λhs hS=>?_)
      ·repeat (first|refine sNo hs λ_ hs=>?_|refine sNu hs λ_ hs=>?_)
       refine sP (.bool true) hs λ_ hs=>?_;exact wn (⟨true,hs.q,hS⟩)
      ·refine ye (pt b2 1) hs λ_ hs=>?_;refine sYe hs (sB1 (iv c1.N) 0 hs λ_ hs=>?_);refine ye (pt b2 2) hs λ_ hs=>?_;refine sYe hs (sB1 (.string (mkS c1.Text)) 0 hs λ_ hs=>?_);refine ye (iv (c1.Text.length:Int)) hs λ_ hs=>?_;refine ye (.bool (decide (c1.N>(c1.Text.length:Int)))) hs λ_ hs=>?_;refine sP (.bool (decide (c1.N>(c1.Text.length:Int)))) hs λ_ hs=>?_;exact wn (⟨(decide (c1.N>(c1.Text.length:Int))),hs.q,hS⟩)
     ·intro a w hJ;obtain⟨x4,hs,hS⟩:=hJ;unfold S_book_fit_J2 at hS;refine Wp.cS hs Iff.rfl hS (λhS=>?_) (λhS=>?_)
      ·refine qr (sP (iv 1) hs λ_ hs=>?_);exact wn (qt (rT hs hMM hS))
      ·refine qk (qr (sP (iv 0) hs λ_ hs=>?_));exact wn (qt (rT hs hMM hS))
    ·refine qr (sP (iv 1) hs λ_ hs=>?_);exact wn (qt (rT hs hMM hS))
def S_chaffref_Case_J2 (x4:Bool) (K:Value->Prop):Prop:=
 ((x4=true->K (Value.int .i64 0))/\(¬(x4=true)->K (Value.int .i64 1)))
def S_chaffref_Case_J1 (c1:X_api_Case) (x3:Bool) (K:Value->Prop):Prop:=
 ((x3=true->K (Value.int .i64 0))/\(¬(x3=true)->(((c1.Kind:Int)=1->(S_chaffref_Case_J2 ((c1.N:Int)==(0:Int)) K))/\(¬((c1.Kind:Int)=1)->(((c1.Kind:Int)=2->(S_chaffref_Case_J2 ((c1.N:Int)==(0:Int)) K))/\(¬((c1.Kind:Int)=2)->(S_chaffref_Case_J2 false K)))))))
def S_chaffref_Case (c1:X_api_Case) (M:Mem) (K:Value->Prop):Prop:=
 ((((c1.Text.length:Nat):Int)>60->K (Value.int .i64 2))/\(¬(((c1.Text.length:Nat):Int)>60)->(((c1.Kind:Int)=4->((c1.N>=0->(S_chaffref_Case_J1 c1 (decide (c1.N<=((c1.Text.length:Nat):Int))) K))/\(¬(c1.N>=0)->(S_chaffref_Case_J1 c1 false K))))/\(¬((c1.Kind:Int)=4)->(S_chaffref_Case_J1 c1 false K)))))
set_option maxRecDepth 100000 in
theorem s_chaffref_Case (c1:X_api_Case) (M:Mem) (K:Value->Prop) (hS:S_chaffref_Case c1 M K):CallE Tryd.prog 81 #[c1.val] M (λv _=>K v):=by
 refine eE1 Tryd.func81 39 λE a hMM hs=>?_;unfold S_chaffref_Case at hS;refine qr (stepBox c1.cells hs rfl rfl rfl (by decide) (λ_ _ b2 hEb2 hs=>?_));refine sP (iv 0) hs λ_ hs=>?_;refine wn (qs (qb (qr (sP (pt b2 2) hs λ_ hs=>?_))));refine sB1 (.string (mkS c1.Text)) 0 hs λ_ hs=>?_;refine sP3 (iv (c1.Text.length:Int)) (.bool (decide ((c1.Text.length:Int)>60))) (.bool (decide ((c1.Text.length:Int)>60))) hs λ_ hs=>?_;refine wn (Wp.cS hs decide_eq_true_iff hS (λhS=>?_) (λhS=>?_))
 ·refine qr (sP (iv 2) hs λ_ hs=>?_);exact wn (qt (rT hs hMM hS))
 ·refine Wp.join (λa w=>∃(x3:Bool),Sx 39 E [] M w a [(1,(pt b2 0)),(8,(.bool x3))] [⟨b2,81,c1.cells⟩] []/\(S_chaffref_Case_J1 c1 x3 K)) ?_ ?_
  ·refine qg (sP (pt b2 0) hs λ_ hs=>?_);refine sB1 (iv c1.Kind) 0 hs λ_ hs=>?_;refine sP2 (.bool ((c1.Kind:Int)==(4:Int))) (.bool ((c1.Kind:Int)==(4:Int))) hs λ_ hs=>?_;refine bsS beq_iff_eq hs hS (λhs hS=>?_) (λhs hS=>?_)
   ·refine ye (pt b2 1) hs λ_ hs=>?_;refine sYe hs (sB1 (iv c1.N) 0 hs λ_ hs=>?_);refine ye (.bool (decide (c1.N>=0))) hs λ_ hs=>?_;refine sP2 (.bool (decide (c1.N>=0))) (.bool (decide (c1.N>=0))) hs λ_ hs=>?_;refine bsS decide_eq_true_iff hs hS (λhs hS=>?_) (λhs hS=>?_)
    ·refine ye (pt b2 1) hs λ_ hs=>?_;refine sYe hs (sB1 (iv c1.N) 0 hs λ_ hs=>?_);refine ye (pt b2 2) hs λ_ hs=>?_;refine sYe hs (sB1 (.string (mkS c1.Text)) 0 hs λ_ hs=>?_);refine ye (iv (c1.Text.length:Int)) hs λ_ hs=>?_;refine ye (.bool (decide (c1.N<=(c1.Text.length:Int)))) hs λ_ hs=>?_;refine sP2 (.bool (decide (c1.N<=(c1.Text.length:Int)))) (.bool (decide (c1.N<=(c1.Text.length:Int)))) hs λ_ hs=>?_;exact wn (⟨(decide (c1.N<=(c1.Text.length:Int))),hs.q,hS⟩)
    ·repeat (first|refine sNo hs λ_ hs=>?_|refine sNu hs λ_ hs=>?_)
     refine sP2 (.bool false) (.bool false) hs λ_ hs=>?_;exact wn (⟨false,hs.q,hS⟩)
   ·repeat (first|refine sNo hs λ_ hs=>?_|refine sNu hs λ_ hs=>?_)
    refine sP2 (.bool false) (.bool false) hs λ_ hs=>?_;repeat (first|refine sNo hs λ_ hs=>?_|refine sNu hs λ_ hs=>?_)
    refine sP2 (.bool false) (.bool false) hs λ_ hs=>?_;exact wn (⟨false,hs.q,hS⟩)
  ·intro a w hJ;obtain⟨x3,hs,hS⟩:=hJ;unfold S_chaffref_Case_J1 at hS;refine Wp.cS hs Iff.rfl hS (λhS=>?_) (λhS=>?_)
   ·refine qr (sP (iv 0) hs λ_ hs=>?_);exact wn (qt (rT hs hMM hS))
   ·refine Wp.join (λa w=>∃(x4:Bool),Sx 39 E [] M w a [(25,(.bool x4))] [⟨b2,81,c1.cells⟩] []/\(S_chaffref_Case_J2 x4 K)) ?_ ?_
    ·refine qg (sP (pt b2 0) hs λ_ hs=>?_);refine sB1 (iv c1.Kind) 0 hs λ_ hs=>?_;refine sP2 (.bool ((c1.Kind:Int)==(1:Int))) (.bool ((c1.Kind:Int)==(1:Int))) hs λ_ hs=>?_;refine bsS beq_iff_eq hs hS (λhs hS=>?_) (λhs hS=>?_)
     ·repeat (first|refine sNo hs λ_ hs=>?_|refine sNu hs λ_ hs=>?_)
      refine sP2 (.bool true) (.bool true) hs λ_ hs=>?_;refine ye (pt b2 1) hs λ_ hs=>?_;refine sYe hs (sB1 (iv c1.N) 0 hs λ_ hs=>?_);refine ye (.bool ((c1.N:Int)==(0:Int))) hs λ_ hs=>?_;refine sP2 (.bool ((c1.N:Int)==(0:Int))) (.bool ((c1.N:Int)==(0:Int))) hs λ_ hs=>?_;exact wn (⟨((c1.N:Int)==(0:Int)),hs.q,hS⟩)
     ·refine ye (pt b2 0) hs λ_ hs=>?_;refine sYe hs (sB1 (iv c1.Kind) 0 hs λ_ hs=>?_);refine ye (.bool ((c1.Kind:Int)==(2:Int))) hs λ_ hs=>?_;refine sP2 (.bool ((c1.Kind:Int)==(2:Int))) (.bool ((c1.Kind:Int)==(2:Int))) hs λ_ hs=>?_;refine bsS beq_iff_eq hs hS (λhs hS=>?_) (λhs hS=>?_)
      ·refine ye (pt b2 1) hs λ_ hs=>?_;refine sYe hs (sB1 (iv c1.N) 0 hs λ_ hs=>?_);refine ye (.bool ((c1.N:Int)==(0:Int))) hs λ_ hs=>?_;refine sP2 (.bool ((c1.N:Int)==(0:Int))) (.bool ((c1.N:Int)==(0:Int))) hs λ_ hs=>?_;exact wn (⟨((c1.N:Int)==(0:Int)),hs.q,hS⟩)
      ·repeat (first|refine sNo hs λ_ hs=>?_|refine sNu hs λ_ hs=>?_)
       refine sP2 (.bool false) (.bool false) hs λ_ hs=>?_;exact wn (⟨false,hs.q,hS⟩)
    ·intro a w hJ;obtain⟨x4,hs,hS⟩:=hJ;unfold S_chaffref_Case_J2 at hS;refine Wp.cS hs Iff.rfl hS (λhS=>?_) (λhS=>?_)
     ·refine qr (sP (iv 0) hs λ_ hs=>?_);exact wn (qt (rT hs hMM hS))
     ·refine qk (qr (sP (iv 1) hs λ_ hs=>?_));exact wn (qt (rT hs hMM hS))
end Go.Proofs.YtjecddabdlapbaaDoor.core

namespace Go.Proofs.YtjecddabdlapbaaDoor.core
open Go.Gx Go.RowKit Go.ChangeShapes Go.WideShapes Go.ChangeAt
set_option linter.unusedVariables false
def S_book_Check (la1:Option Addr) (ll2:Nat) (lc3:Nat) (M:Mem) (K:Value->Prop):Prop:=
 ((((ll2:Nat):Int)>40->K (Value.int .i64 2))/\(¬(((ll2:Nat):Int)>40)->(∃(I11:Int->Prop) (mu12:Int->Nat),I11 0/\∀(x10:Int),(I11 x10->((x10<((ll2:Nat):Int)->(∃(b13 o14:Nat),la1=some ⟨b13,o14,none⟩/\(0:Int)<=x10/\x10<((ll2:Nat):Int)/\(∃(x15:X_api_Case),At M b13 (o14+x10.toNat*3) x15.cells/\(CallE Tryd.prog 82 #[x15.val] M (λv _=>∃(x17:Int),v=(Value.int .i64 x17)/\(((x17:Int)≠0->K (Value.int .i64 x17))/\(¬((x17:Int)≠0)->(InI (x10+1)/\I11 (x10+1)/\mu12 (x10+1)<mu12 x10))))))))/\(¬(x10<((ll2:Nat):Int))->K (Value.int .i64 0)))))))
set_option maxRecDepth 100000 in
theorem s_book_Check (la1:Option Addr) (ll2:Nat) (lc3:Nat) (M:Mem) (K:Value->Prop) (hS:S_book_Check la1 ll2 lc3 M K):CallE Tryd.prog 39 #[(Value.slice la1 ll2 lc3)] M (λv _=>K v):=by
 refine eE1 Tryd.func39 21 λE a hMM hs=>?_;unfold S_book_Check at hS;refine qr (sP (iv 0) hs λ_ hs=>?_);refine wn (qs (qr (sP3 (.slice la1 ll2 lc3) (iv (ll2:Int)) (.bool (decide ((ll2:Int)>40))) hs λ_ hs=>?_)));refine wn (Wp.cS hs decide_eq_true_iff hS (λhS=>?_) (λhS=>?_))
 ·refine qr (sP (iv 2) hs λ_ hs=>?_);exact wn (qt (rT hs hMM hS))
 ·refine qk (qs (qr (sP3 (.slice la1 ll2 lc3) (iv (ll2:Int)) (iv 0) hs λ_ hs=>?_)));refine wn (qb ?_);obtain⟨I11,mu12,hI0,hst⟩:=hS;refine Wp.loop (σ:=(Int)) (λx10 a w=>Sx 21 E [] M w a [(9,(.slice la1 ll2 lc3)),(10,(iv (ll2:Int))),(11,(iv x10))] [] []/\I11 x10) (λx10=>mu12 x10) (0) ⟨hs.q,hI0⟩ (λx10 a w hI=>?_);obtain⟨hs,hI⟩:=hI;have hS:=hst x10 hI;clear hst hI0 hI;refine qr (sP (.bool (decide (x10<(ll2:Int)))) hs λ_ hs=>?_);refine wn (qs (Wp.cS hs decide_eq_true_iff hS (λhS=>?_) (λhS=>?_)))
  ·refine qk (qs (qb (qr ?_)));obtain⟨b13,o14,ha,h0,hl,hS⟩:=hS;refine sI 81 3 ha h0 hl hs λ_ hs=>?_;obtain⟨x15,hat,hS⟩:=hS;refine sY x15.val hs (Yl.lV x15.cells true hat) λ_ hs=>?_;refine stepAlloc [(iv 0),(iv 0),(.string (mkS []))] hs (by kernel_rfl) (by decide) (λ_ _ b16 hEb16 hs=>?_);refine stB 0 x15.cells [⟨b16,81,x15.cells⟩] hs λ_ _ hs=>?_;refine wn (qr (sY x15.val hs (Yl.lB x15.cells true 0) λ_ hs=>?_));refine cP [x15.val] hs Tryd.func82 hS λ_ _ v hS hs=>?_;obtain⟨x17,rfl,hS⟩:=hS;refine sP (iv x17) hs λ_ hs=>?_;refine wn (qr (sP2 (iv x17) (.bool ((x17:Int) != (0:Int))) hs λ_ hs=>?_));refine wn (Wp.cS hs bne_iff_ne hS (λhS=>?_) (λhS=>?_))
   ·refine qr (sP2 (iv x17) (iv x17) hs λ_ hs=>?_);exact wn (qt (rT hs hMM hS))
   ·refine qk (qg ?_);obtain⟨hI,hS⟩:=hS;refine sY (iv (x10+1)) hs (Yl.wr hI) λ_ hs=>?_;refine sP (iv (x10+1)) hs λ_ hs=>?_;exact wn (⟨(x10+1),⟨(hs.qq (.cons _ List.Sublist.slnil) (List.Sublist.refl _)),hS.1⟩,hS.2⟩)
  ·refine qx rfl (qr (sP (iv 0) hs λ_ hs=>?_));exact wn (qt (rT hs hMM hS))
def S_book_Print_J1 (M:Mem) (out14:List UInt8) (x15:Int) (I16:List UInt8->Int->Prop) (mu17:List UInt8->Int->Nat) (x20:X_api_Case) (out23:List UInt8) (K:Value->Prop):Prop:=
 (CallE Tryd.prog 80 #[(.string (mkS x20.Text))] M (λv _=>∃(x24:List UInt8),v=(Value.string (mkS x24))/\(x24.length+([10]:List UInt8).length<=9223372036854775807/\(out23.length+(x24++([10]:List UInt8)).length<=9223372036854775807/\(InI (x15+1)/\I16 (out23++(x24++([10]:List UInt8))) (x15+1)/\mu17 (out23++(x24++([10]:List UInt8))) (x15+1)<mu17 out14 x15)))))
def S_book_Print (la1:Option Addr) (ll2:Nat) (lc3:Nat) (M:Mem) (K:Value->Prop):Prop:=
 (CallE Tryd.prog 39 #[(.slice la1 ll2 lc3)] M (λv _=>∃(x4:Int),v=(Value.int .i64 x4)/\(((x4:Int)≠0->K (Value.tuple #[(.string (mkS ([]:List UInt8))),(.int .i64 x4)]))/\(¬((x4:Int)≠0)->(∃(I16:List UInt8->Int->Prop) (mu17:List UInt8->Int->Nat),I16 ([]:List UInt8) 0/\∀(out14:List UInt8) (x15:Int),(I16 out14 x15->((x15<((ll2:Nat):Int)->(∃(b18 o19:Nat),la1=some ⟨b18,o19,none⟩/\(0:Int)<=x15/\x15<((ll2:Nat):Int)/\(∃(x20:X_api_Case),At M b18 (o19+x15.toNat*3) x20.cells/\(((x20.Kind:Int)=1->(out14.length+([97,99,99,101,112,116,32]:List UInt8).length<=9223372036854775807/\(S_book_Print_J1 M out14 x15 I16 mu17 x20 (out14++([97,99,99,101,112,116,32]:List UInt8)) K)))/\(¬((x20.Kind:Int)=1)->(((x20.Kind:Int)=2->(out14.length+([114,101,106,101,99,116,32]:List UInt8).length<=9223372036854775807/\(S_book_Print_J1 M out14 x15 I16 mu17 x20 (out14++([114,101,106,101,99,116,32]:List UInt8)) K)))/\(¬((x20.Kind:Int)=2)->(CallE Tryd.prog 46 #[(.int .i64 x20.N)] M (λv _=>∃(x22:List UInt8),v=(Value.string (mkS x22))/\(([112,114,101,102,105,120,32]:List UInt8).length+x22.length<=9223372036854775807/\((([112,114,101,102,105,120,32]:List UInt8)++x22).length+([32]:List UInt8).length<=9223372036854775807/\(out14.length+(([112,114,101,102,105,120,32]:List UInt8)++x22++([32]:List UInt8)).length<=9223372036854775807/\(S_book_Print_J1 M out14 x15 I16 mu17 x20 (out14++(([112,114,101,102,105,120,32]:List UInt8)++x22++([32]:List UInt8))) K)))))))))))))/\(¬(x15<((ll2:Nat):Int))->K (Value.tuple #[(.string (mkS out14)),(.int .i64 0)])))))))))
set_option maxRecDepth 100000 in
theorem s_book_Print (la1:Option Addr) (ll2:Nat) (lc3:Nat) (M:Mem) (K:Value->Prop) (hS:S_book_Print la1 ll2 lc3 M K):CallE Tryd.prog 37 #[(Value.slice la1 ll2 lc3)] M (λv _=>K v):=by
 refine eE1 Tryd.func37 44 λE a hMM hs=>?_;unfold S_book_Print at hS;refine qr (sP2 (.string (mkS ([]:List UInt8))) (iv 0) hs λ_ hs=>?_);refine wn (qs (qr (sP (.slice la1 ll2 lc3) hs λ_ hs=>?_)));refine cP [(.slice la1 ll2 lc3)] hs Tryd.func39 hS λ_ _ v hS hs=>?_;obtain⟨x4,rfl,hS⟩:=hS;refine sP (iv x4) hs λ_ hs=>?_;refine wn (qr (sP2 (iv x4) (.bool ((x4:Int) != (0:Int))) hs λ_ hs=>?_));refine wn (Wp.cS hs bne_iff_ne hS (λhS=>?_) (λhS=>?_))
 ·refine qr (sP3 (iv x4) (.string (mkS ([]:List UInt8))) (iv x4) hs λ_ hs=>?_);exact wn (qt (rTT hs hMM hS))
 ·refine qk (qr (sP (.string (mkS ([]:List UInt8))) hs λ_ hs=>?_));refine wn (qs (qr (sP3 (.slice la1 ll2 lc3) (iv (ll2:Int)) (iv 0) hs λ_ hs=>?_)));refine wn (qb ?_);obtain⟨I16,mu17,hI0,hst⟩:=hS;refine Wp.loop (σ:=(List UInt8)×(Int)) (λ(out14,x15) a w=>Sx 44 E [] M w a [(5,(.string (mkS out14))),(13,(.slice la1 ll2 lc3)),(14,(iv (ll2:Int))),(15,(iv x15))] [] []/\I16 out14 x15) (λ(out14,x15)=>mu17 out14 x15) (([]:List UInt8),0) ⟨hs.q,hI0⟩ (λs a w hI=>?_);obtain⟨out14,x15⟩:=s;obtain⟨hs,hI⟩:=hI;have hS:=hst out14 x15 hI;clear hst hI0 hI;refine qr (sP (.bool (decide (x15<(ll2:Int)))) hs λ_ hs=>?_);refine wn (qs (Wp.cS hs decide_eq_true_iff hS (λhS=>?_) (λhS=>?_)))
  ·refine qk (qs (qb (qr ?_)));obtain⟨b18,o19,ha,h0,hl,hS⟩:=hS;refine sI 81 3 ha h0 hl hs λ_ hs=>?_;obtain⟨x20,hat,hS⟩:=hS;refine sY x20.val hs (Yl.lV x20.cells true hat) λ_ hs=>?_;refine stepAlloc [(iv 0),(iv 0),(.string (mkS []))] hs (by kernel_rfl) (by decide) (λ_ _ b21 hEb21 hs=>?_);refine stB 0 x20.cells [⟨b21,81,x20.cells⟩] hs λ_ _ hs=>?_;refine wn (Wp.join (λa w=>∃(out23:List UInt8),Sx 44 E [] M w a [(5,(.string (mkS out23))),(7,(pt b21 0)),(13,(.slice la1 ll2 lc3)),(14,(iv (ll2:Int))),(15,(iv x15))] [⟨b21,81,x20.cells⟩] []/\(S_book_Print_J1 M out14 x15 I16 mu17 x20 out23 K)) ?_ ?_)
   ·refine qr (sP (pt b21 0) hs λ_ hs=>?_);refine sB1 (iv x20.Kind) 0 hs λ_ hs=>?_;refine wn (qb (qr (sP2 (.bool ((x20.Kind:Int)==(1:Int))) (.bool ((x20.Kind:Int)==(1:Int))) hs λ_ hs=>?_)));refine wn (Wp.cS hs beq_iff_eq hS (λhS=>?_) (λhS=>?_))
    ·refine qg (sP (.string (mkS out14)) hs λ_ hs=>?_);obtain⟨hl,hS⟩:=hS;refine sY (.string (mkS (out14++([97,99,99,101,112,116,32]:List UInt8)))) hs (Yl.concat rfl rfl rfl rfl hl) λ_ hs=>?_;refine sP (.string (mkS (out14++([97,99,99,101,112,116,32]:List UInt8)))) hs λ_ hs=>?_;exact wn (⟨(out14++([97,99,99,101,112,116,32]:List UInt8)),hs.q,hS⟩)
    ·refine qr (sP2 (.bool ((x20.Kind:Int)==(2:Int))) (.bool ((x20.Kind:Int)==(2:Int))) hs λ_ hs=>?_);refine wn (Wp.cS hs beq_iff_eq hS (λhS=>?_) (λhS=>?_))
     ·refine qg (sP (.string (mkS out14)) hs λ_ hs=>?_);obtain⟨hl,hS⟩:=hS;refine sY (.string (mkS (out14++([114,101,106,101,99,116,32]:List UInt8)))) hs (Yl.concat rfl rfl rfl rfl hl) λ_ hs=>?_;refine sP (.string (mkS (out14++([114,101,106,101,99,116,32]:List UInt8)))) hs λ_ hs=>?_;exact wn (⟨(out14++([114,101,106,101,99,116,32]:List UInt8)),hs.q,hS⟩)
     ·refine qg (sP2 (.string (mkS out14)) (pt b21 1) hs λ_ hs=>?_);refine sB1 (iv x20.N) 0 hs λ_ hs=>?_;refine cP [(iv x20.N)] hs Tryd.func46 hS λ_ _ v hS hs=>?_;obtain⟨x22,rfl,hS⟩:=hS;obtain⟨hl,hS⟩:=hS;refine sY (.string (mkS (([112,114,101,102,105,120,32]:List UInt8)++x22))) hs (Yl.concat rfl rfl rfl rfl hl) λ_ hs=>?_;obtain⟨hl,hS⟩:=hS;refine sY (.string (mkS (([112,114,101,102,105,120,32]:List UInt8)++x22++([32]:List UInt8)))) hs (Yl.concat rfl rfl rfl rfl hl) λ_ hs=>?_;obtain⟨hl,hS⟩:=hS;refine sY (.string (mkS (out14++(([112,114,101,102,105,120,32]:List UInt8)++x22++([32]:List UInt8))))) hs (Yl.concat rfl rfl rfl rfl hl) λ_ hs=>?_;refine sP (.string (mkS (out14++(([112,114,101,102,105,120,32]:List UInt8)++x22++([32]:List UInt8))))) hs λ_ hs=>?_;exact wn (⟨(out14++(([112,114,101,102,105,120,32]:List UInt8)++x22++([32]:List UInt8))),hs.q,hS⟩)
   ·intro a w hJ;obtain⟨out23,hs,hS⟩:=hJ;unfold S_book_Print_J1 at hS;refine qg (sP2 (.string (mkS out23)) (pt b21 2) hs λ_ hs=>?_);refine sB1 (.string (mkS x20.Text)) 0 hs λ_ hs=>?_;refine cP [(.string (mkS x20.Text))] hs Tryd.func80 hS λ_ _ v hS hs=>?_;obtain⟨x24,rfl,hS⟩:=hS;obtain⟨hl,hS⟩:=hS;refine sY (.string (mkS (x24++([10]:List UInt8)))) hs (Yl.concat rfl rfl rfl rfl hl) λ_ hs=>?_;obtain⟨hl,hS⟩:=hS;refine sY (.string (mkS (out23++(x24++([10]:List UInt8))))) hs (Yl.concat rfl rfl rfl rfl hl) λ_ hs=>?_;refine sP (.string (mkS (out23++(x24++([10]:List UInt8))))) hs λ_ hs=>?_;refine wn (qg ?_);obtain⟨hI,hS⟩:=hS;refine sY (iv (x15+1)) hs (Yl.wr hI) λ_ hs=>?_;refine sP (iv (x15+1)) hs λ_ hs=>?_;exact wn (⟨(out23++(x24++([10]:List UInt8)),x15+1),⟨(hs.qq (.cons _ List.Sublist.slnil) (List.Sublist.refl _)),hS.1⟩,hS.2⟩)
  ·refine qx rfl (qr (sP (.string (mkS out14)) hs λ_ hs=>?_));refine sP2 (.string (mkS out14)) (iv 0) hs λ_ hs=>?_;exact wn (qt (rTT hs hMM hS))
def S_chaffref_Cases (la1:Option Addr) (ll2:Nat) (lc3:Nat) (M:Mem) (K:Value->Prop):Prop:=
 ((((ll2:Nat):Int)>40->K (Value.int .i64 2))/\(¬(((ll2:Nat):Int)>40)->(∃(I11:Int->Prop) (mu12:Int->Nat),I11 0/\∀(x10:Int),(I11 x10->((x10<((ll2:Nat):Int)->(∃(b13 o14:Nat),la1=some ⟨b13,o14,none⟩/\(0:Int)<=x10/\x10<((ll2:Nat):Int)/\(∃(x15:X_api_Case),At M b13 (o14+x10.toNat*3) x15.cells/\(CallE Tryd.prog 81 #[x15.val] M (λv _=>∃(x17:Int),v=(Value.int .i64 x17)/\(((x17:Int)≠0->K (Value.int .i64 x17))/\(¬((x17:Int)≠0)->(InI (x10+1)/\I11 (x10+1)/\mu12 (x10+1)<mu12 x10))))))))/\(¬(x10<((ll2:Nat):Int))->K (Value.int .i64 0)))))))
set_option maxRecDepth 100000 in
theorem s_chaffref_Cases (la1:Option Addr) (ll2:Nat) (lc3:Nat) (M:Mem) (K:Value->Prop) (hS:S_chaffref_Cases la1 ll2 lc3 M K):CallE Tryd.prog 38 #[(Value.slice la1 ll2 lc3)] M (λv _=>K v):=by
 refine eE1 Tryd.func38 21 λE a hMM hs=>?_;unfold S_chaffref_Cases at hS;refine qr (sP (iv 0) hs λ_ hs=>?_);refine wn (qs (qr (sP3 (.slice la1 ll2 lc3) (iv (ll2:Int)) (.bool (decide ((ll2:Int)>40))) hs λ_ hs=>?_)));refine wn (Wp.cS hs decide_eq_true_iff hS (λhS=>?_) (λhS=>?_))
 ·refine qr (sP (iv 2) hs λ_ hs=>?_);exact wn (qt (rT hs hMM hS))
 ·refine qk (qs (qr (sP3 (.slice la1 ll2 lc3) (iv (ll2:Int)) (iv 0) hs λ_ hs=>?_)));refine wn (qb ?_);obtain⟨I11,mu12,hI0,hst⟩:=hS;refine Wp.loop (σ:=(Int)) (λx10 a w=>Sx 21 E [] M w a [(9,(.slice la1 ll2 lc3)),(10,(iv (ll2:Int))),(11,(iv x10))] [] []/\I11 x10) (λx10=>mu12 x10) (0) ⟨hs.q,hI0⟩ (λx10 a w hI=>?_);obtain⟨hs,hI⟩:=hI;have hS:=hst x10 hI;clear hst hI0 hI;refine qr (sP (.bool (decide (x10<(ll2:Int)))) hs λ_ hs=>?_);refine wn (qs (Wp.cS hs decide_eq_true_iff hS (λhS=>?_) (λhS=>?_)))
  ·refine qk (qs (qb (qr ?_)));obtain⟨b13,o14,ha,h0,hl,hS⟩:=hS;refine sI 81 3 ha h0 hl hs λ_ hs=>?_;obtain⟨x15,hat,hS⟩:=hS;refine sY x15.val hs (Yl.lV x15.cells true hat) λ_ hs=>?_;refine stepAlloc [(iv 0),(iv 0),(.string (mkS []))] hs (by kernel_rfl) (by decide) (λ_ _ b16 hEb16 hs=>?_);refine stB 0 x15.cells [⟨b16,81,x15.cells⟩] hs λ_ _ hs=>?_;refine wn (qr (sY x15.val hs (Yl.lB x15.cells true 0) λ_ hs=>?_));refine cP [x15.val] hs Tryd.func81 hS λ_ _ v hS hs=>?_;obtain⟨x17,rfl,hS⟩:=hS;refine sP (iv x17) hs λ_ hs=>?_;refine wn (qr (sP2 (iv x17) (.bool ((x17:Int) != (0:Int))) hs λ_ hs=>?_));refine wn (Wp.cS hs bne_iff_ne hS (λhS=>?_) (λhS=>?_))
   ·refine qr (sP2 (iv x17) (iv x17) hs λ_ hs=>?_);exact wn (qt (rT hs hMM hS))
   ·refine qk (qg ?_);obtain⟨hI,hS⟩:=hS;refine sY (iv (x10+1)) hs (Yl.wr hI) λ_ hs=>?_;refine sP (iv (x10+1)) hs λ_ hs=>?_;exact wn (⟨(x10+1),⟨(hs.qq (.cons _ List.Sublist.slnil) (List.Sublist.refl _)),hS.1⟩,hS.2⟩)
  ·refine qx rfl (qr (sP (iv 0) hs λ_ hs=>?_));exact wn (qt (rT hs hMM hS))
end Go.Proofs.YtjecddabdlapbaaDoor.core

namespace Go.Proofs.YtjecddabdlapbaaDoor.core
open Go.Gx Go.RowKit Go.ChangeShapes Go.WideShapes Go.ChangeAt
set_option linter.unusedVariables false
def S_chafflaw_BookPrints (la1:Option Addr) (ll2:Nat) (lc3:Nat) (M:Mem) (K:Value->Prop):Prop:=
 (CallE Tryd.prog 37 #[(.slice la1 ll2 lc3)] M (λv _=>∃(x4:List UInt8) (x5:Int),v=(Value.tuple #[(.string (mkS x4)),(.int .i64 x5)])/\(CallE Tryd.prog 38 #[(.slice la1 ll2 lc3)] M (λv _=>∃(x6:Int),v=(Value.int .i64 x6)/\(CallE Tryd.prog 39 #[(.slice la1 ll2 lc3)] M (λv _=>∃(x7:Int),v=(Value.int .i64 x7)/\(((x7:Int)≠x6->K (Value.bool false))/\(¬((x7:Int)≠x6)->(((x6:Int)≠0->(((x5:Int)=x6->K (Value.bool ((mkS x4).toList==(mkS ([]:List UInt8)).toList)))/\(¬((x5:Int)=x6)->K (Value.bool false))))/\(¬((x6:Int)≠0)->(((x5:Int)=0->(CallE Tryd.prog 40 #[(.slice la1 ll2 lc3)] M (λv _=>∃(x8:List UInt8),v=(Value.string (mkS x8))/\K (Value.bool ((mkS x4).toList==(mkS x8).toList)))))/\(¬((x5:Int)=0)->K (Value.bool false)))))))))))))
set_option maxRecDepth 100000 in
theorem s_chafflaw_BookPrints (la1:Option Addr) (ll2:Nat) (lc3:Nat) (M:Mem) (K:Value->Prop) (hS:S_chafflaw_BookPrints la1 ll2 lc3 M K):CallE Tryd.prog 9 #[(Value.slice la1 ll2 lc3)] M (λv _=>K v):=by
 refine eE1 Tryd.func9 34 λE a hMM hs=>?_;unfold S_chafflaw_BookPrints at hS;refine qr (sP (.bool false) hs λ_ hs=>?_);refine wn (qr (sP (.slice la1 ll2 lc3) hs λ_ hs=>?_));refine cP [(.slice la1 ll2 lc3)] hs Tryd.func37 hS λ_ _ v hS hs=>?_;obtain⟨x4,x5,rfl,hS⟩:=hS;refine sP4 (Value.tuple #[(.string (mkS x4)),(iv x5)]) (.string (mkS x4)) (iv x5) (.string (mkS x4)) hs λ_ hs=>?_;refine sP (iv x5) hs λ_ hs=>?_;refine wn (qr (sP (.slice la1 ll2 lc3) hs λ_ hs=>?_));refine cP [(.slice la1 ll2 lc3)] hs Tryd.func38 hS λ_ _ v hS hs=>?_;obtain⟨x6,rfl,hS⟩:=hS;refine sP (iv x6) hs λ_ hs=>?_;refine wn (qs (qr (sP (.slice la1 ll2 lc3) hs λ_ hs=>?_)));refine cP [(.slice la1 ll2 lc3)] hs Tryd.func39 hS λ_ _ v hS hs=>?_;obtain⟨x7,rfl,hS⟩:=hS;refine sP2 (iv x6) (.bool ((x7:Int) != (x6:Int))) hs λ_ hs=>?_;refine wn (Wp.cS hs bne_iff_ne hS (λhS=>?_) (λhS=>?_))
 ·refine qr (sP (.bool false) hs λ_ hs=>?_);exact wn (qt (rT hs hMM hS))
 ·refine qk (qs (qr (sP2 (iv x6) (.bool ((x6:Int) != (0:Int))) hs λ_ hs=>?_)));refine wn (Wp.cS hs bne_iff_ne hS (λhS=>?_) (λhS=>?_))
  ·refine qr (sP4 (iv x5) (iv x6) (.bool ((x5:Int)==(x6:Int))) (.bool ((x5:Int)==(x6:Int))) hs λ_ hs=>?_);refine bsS beq_iff_eq hs hS (λhs hS=>?_) (λhs hS=>?_)
   ·refine ye (.string (mkS x4)) hs λ_ hs=>?_;refine ye (.bool ((mkS x4).toList==(mkS ([]:List UInt8)).toList)) hs λ_ hs=>?_;refine sP2 (.bool ((mkS x4).toList==(mkS ([]:List UInt8)).toList)) (.bool ((mkS x4).toList==(mkS ([]:List UInt8)).toList)) hs λ_ hs=>?_;exact wn (qt (rT hs hMM hS))
   ·refine sNo hs λ_ hs=>?_;refine sNo hs λ_ hs=>?_;refine sP2 (.bool false) (.bool false) hs λ_ hs=>?_;exact wn (qt (rT hs hMM hS))
  ·refine qk (qr (sP3 (iv x5) (.bool ((x5:Int)==(0:Int))) (.bool ((x5:Int)==(0:Int))) hs λ_ hs=>?_));refine bsS beq_iff_eq hs hS (λhs hS=>?_) (λhs hS=>?_)
   ·refine ye (.string (mkS x4)) hs λ_ hs=>?_;refine ye (.slice la1 ll2 lc3) hs λ_ hs=>?_;refine sYe hs (stepCallP [(.slice la1 ll2 lc3)] hs rfl ⟨_,rfl,rfl⟩ rfl Tryd.func40 rfl (by kernel_rfl) (by decide) hS (λ_ _ v hS hs=>?_));obtain⟨x8,rfl,hS⟩:=hS;refine ye (.bool ((mkS x4).toList==(mkS x8).toList)) hs λ_ hs=>?_;refine sP2 (.bool ((mkS x4).toList==(mkS x8).toList)) (.bool ((mkS x4).toList==(mkS x8).toList)) hs λ_ hs=>?_;exact wn (qt (rT hs hMM hS))
   ·repeat (first|refine sNo hs λ_ hs=>?_|refine sNu hs λ_ hs=>?_)
    refine sP2 (.bool false) (.bool false) hs λ_ hs=>?_;exact wn (qt (rT hs hMM hS))
end Go.Proofs.YtjecddabdlapbaaDoor.core

namespace Go.Proofs.YtjecddabdlapbaaDoor.core
open Go.Gx Go.RowKit Go.ChangeShapes Go.WideShapes Go.ChangeAt
set_option linter.unusedVariables false
end Go.Proofs.YtjecddabdlapbaaDoor.core

namespace Go.Gx
open Go.RowKit Go.ChangeShapes Go.WideShapes Go.ChangeAt
theorem witness_row_shaped {H:Type} {enc:TypeId×Value->H} {C:Checked} {os:Os} {f:FuncId} {fn:Func} {s:OpenSpec} {conds:List PathCond} {apart:Bool} {laid:List (String×DataW Unit)} (w0:World) (args:Array Value) (hos:w0.os=os)
  (hsh:(w0.forCall (λ_ _=>0) ⟨#[],args,[]⟩).Shaped C.prog) (hok:Input.okWideB C.prog (w0.forCall (λ_ _=>0) ⟨#[],args,[]⟩) f ⟨#[],args,[]⟩=true)
  (hrow:s.preRow enc C.prog fn conds apart laid (w0.forCall (λ_ _=>0) ⟨#[],args,[]⟩).memory args):
  ∃(w:World) (tape:Tape) (i:Input),w.os=os/\(w.forCall tape i).Shaped C.prog/\i.vars=[]/\Input.okWide C.prog (w.forCall tape i) .any w.heap.size f i/\
   s.preRow enc C.prog fn conds apart laid (w.forCall tape i).memory i.args/\({}:Assume).holds C.prog (lone (Frame.enter C.prog f i.args .normal) [] (w.forCall tape i)):=
 ⟨w0,λ_ _=>0,⟨#[],args,[]⟩,hos,hsh,(Input.okWide_of_okWideB (base:=0) hok).1,(Input.okWide_of_okWideB hok).2,hrow,by
  simp only[Assume.holds]
  exact⟨by simp,by simp,λ_=>Modest.zero,by simp,by simp⟩⟩
end Go.Gx

