/- Contracts and what they hang on, of several parts. No condition. -/
import Derived.WalkKit
import Derived.WalkSpells
import Derived.WalkLawsBesides
import Derived.Deep.Quiet
import Derived.OrdersHeld
import Derived.Laws.StructEq
import Derived.Maps.AppendAt
import Derived.Laws.MakeOwn
import Derived.Laws.IdiomStrings
import Derived.ProofKit
import Derived.OpenShut
import Derived.ShutString
import Derived.ChangeOld
import Derived.Carry
import Derived.Laws.Externs
import Derived.Lib.Bytealg
import Derived.SizedLaws
import Derived.JoinedCond
import Derived.Deep.CondSized
import Derived.Maps.Keyed
import Derived.DeepKeys3
import Derived.ChangeMaps4
import Derived.Lib.OthersKept
import Derived.Lib.AppendStr
import GoSem.Extern.BytealgCount
import Derived.Test.YtjecddabdlapbaaDoorRows
import Derived.Lib.AppendZeros
import Derived.Deep.DeepHandedRow
import Derived.Lib.LaidTab
import Derived.Stop.LaidErr
import Derived.Lay
import Derived.LaidMore
import Derived.Stop.Joined
namespace Go.Gx
open Go.RowKit
abbrev Env:=List (Nat×Value)
def lk:Env->Nat->Option Value
 |[],_=>none
 |(k,v)::r,x=>match Nat.beq k x with
  |true=>some v
  |false=>lk r x
theorem lk_cons (k:Nat) (v:Value) (r:Env) (x:Nat):lk ((k,v)::r) x=if k=x then some v else lk r x:=by
 show(match Nat.beq k x with|true=>some v|false=>lk r x)=_
 by_cases h:k=x
 ·subst h;simp
 ·have:Nat.beq k x=false:=by
   cases hb:Nat.beq k x
   ·rfl
   ·exact absurd (Nat.eq_of_beq_eq_true hb) h
  simp[this,h]
structure Ag (n:Nat) (a:Act) (env:Env):Prop where
 df:a.defers=[]
 sz:a.tmps.size=n
 at_:∀x v,lk env x=some v->a.tmps.getD x undef=v
theorem Ag.put {n:Nat} {a:Act} {env:Env} (h:Ag n a env) {d:Nat} (hd:d<n) (v:Value):Ag n (a.put (some d) v) ((d,v)::env):=by
 refine⟨h.df,by simp[Act.put,h.sz],λx u hx=>?_⟩
 rw[lk_cons]at hx
 by_cases hk:d=x
 ·subst hk
  simp only[if_true,Option.some.injEq]at hx
  subst hx
  simp[Act.put,h.sz,hd]
 ·rw[if_neg hk]at hx
  have:=h.at_ x u hx
  simp only[Act.put,Array.getD_eq_getD_getElem?,Array.getElem?_setIfInBounds_ne hk]at this ⊢
  exact this
theorem Ag.sub {n:Nat} {a:Act} {env:Env} (h:Ag n a env) (env':Env) (hs:∀p∈env',lk env p.1=some p.2):Ag n a env':=by
 refine⟨h.df,h.sz,λx v hx=>h.at_ x v ?_⟩
 clear h
 induction env' with
 |nil=>cases hx
 |cons p r ih=>
  obtain⟨k,u⟩:=p
  rw[lk_cons]at hx
  by_cases hk:k=x
  ·subst hk
   simp only[if_true,Option.some.injEq]at hx
   subst hx
   exact hs (k,u) (by simp)
  ·rw[if_neg hk]at hx
   exact ih (λq hq=>hs q (List.mem_cons_of_mem _ hq)) hx
def evT (env:Env):Operand->Value
 | .tmp t=>(lk env t).getD undef
 | .const v=>v
 | .global g=>.pointer (some ⟨g,0,none⟩)
 | .func f=>.func (.func f) #[] #[]
def known (env:Env):Operand->Bool
 | .tmp t=>(lk env t).isSome
 |_=>true
theorem Ag.eval {n:Nat} {a:Act} {env:Env} (h:Ag n a env) {x:Operand} (hk:known env x=true):a.eval x=evT env x:=by
 cases x with
 |tmp t=>
  simp only[known]at hk
  obtain⟨v,hv⟩:=Option.isSome_iff_exists.1 hk
  simp[Act.eval,evT,hv,h.at_ t v hv]
 |_=>rfl
def notSel:Op->Bool
 | .select .. =>false
 |_=>true
def okOp (env:Env) (o:Oper):Bool:=notSel o.op&&o.op.operands.toList.all (known env)
theorem Ag.exec {n:Nat} {a:Act} {env:Env} (h:Ag n a env) {o:Oper} (hk:okOp env o=true):execOp a.eval o=execOp (evT env) o:=by
 simp only[okOp,Bool.and_eq_true]at hk
 refine execOp_congr o (λcs b e=>?_) λx hx=>h.eval ?_
 ·rw[e]at hk;simp[notSel]at hk
 ·have:=List.all_eq_true.1 hk.2 x (by simpa using hx)
  exact this
structure Bx where
 b:Nat
 t:TypeId
 cs:List Value
def BxAt (w:World) (x:Bx):Prop:=w.heap[x.b]?=some (.cells x.cs.toArray x.t (0,0))
structure Rw where
 v:Value
 e:TypeId
 size:Nat
 n:Nat
 xs:List Value
 own:Bool
abbrev Mem:=Nat->Option Obj
def Mem.le (M M':Mem):Prop:=∀b o,M b=some o->M' b=some o
def On (M:Mem) (w:World):Prop:=∀b o,M b=some o->w.heap[b]?=some o
theorem Mem.le.refl (M:Mem):M.le M:=λ_ _ h=>h
theorem Mem.le.trans {A B C:Mem} (h:A.le B) (k:B.le C):A.le C:=λb o q=>k b o (h b o q)
theorem On.lt {M:Mem} {w:World} (h:On M w) {b:Nat} {o:Obj} (hb:M b=some o):b<w.heap.size:=(Array.getElem?_eq_some_iff.1 (h b o hb)).1
theorem On.noneAt {M:Mem} {w:World} (h:On M w) {b:Nat} (hb:w.heap.size<=b):M b=none:=by
 cases hm:M b with
 |none=>rfl
 |some o=>have:=h.lt hm;omega
structure Pres (E:World) (bw:List Nat) (w:World):Prop where
 os:w.os=E.os
 tape:w.tape=E.tape
 output:w.output=E.output
 size:E.heap.size<=w.heap.size
 block:∀k,k<E.heap.size->k∉bw->w.heap[k]?=E.heap[k]?
theorem Pres.refl (E:World) (bw:List Nat):Pres E bw E:=⟨rfl,rfl,rfl,Nat.le_refl _,λ_ _ _=>rfl⟩
theorem Pres.below {E w:World} (h:Pres E [] w):Below E.heap.size E w:=⟨h.os,h.tape,h.output,h.size,λk hk=>h.block k hk (by simp)⟩
structure Cx (M:Mem) (bs:List Bx) (rs:List Rw) (w:World):Prop where
 on:On M w
 bx:∀x∈bs,BxAt w x
 rw:∀r∈rs,∃base,w.ownsRow base r.e r.size r.v r.n r.xs
structure Nd (bs:List Bx) (rs:List Rw):Prop where
 b:(bs.map (·.b)).Nodup
 x:∀x∈bs,∀r∈rs,r.v.ownBlock≠some x.b
 r:rs.Pairwise λr s=>∀g,r.v.ownBlock=some g->s.v.ownBlock≠some g
theorem Nd.sub {bs bs':List Bx} {rs rs':List Rw} (h:Nd bs rs) (hb:bs'.Sublist bs) (hr:rs'.Sublist rs):Nd bs' rs':=
 ⟨h.b.sublist (hb.map _),λx hx r hr'=>h.x x (hb.subset hx) r (hr.subset hr'),h.r.sublist hr⟩
structure Sx (n:Nat) (E:World) (bw:List Nat) (M:Mem) (w:World) (a:Act) (env:Env) (bs:List Bx) (rs:List Rw):Prop where
 ag:Ag n a env
 on:On M w
 pr:Pres E bw w
 bx:∀x∈bs,BxAt w x/\M x.b=none/\(E.heap.size<=x.b\/x.b∈bw)
 rw:∀r∈rs,w.ownsRow 0 r.e r.size r.v r.n r.xs/\∀g,r.v.ownBlock=some g->M g=none/\(E.heap.size<=g\/(r.own=false/\g∈bw))
 nd:Nd bs rs
theorem BxAt.lt {w:World} {x:Bx} (h:BxAt w x):x.b<w.heap.size:=by
 unfold BxAt at h
 rcases Nat.lt_or_ge x.b w.heap.size with h'|h'
 ·exact h'
 ·rw[Array.getElem?_eq_none h']at h;cases h
theorem BxAt.cell {w:World} {x:Bx} (h:BxAt w x) (i:Nat):w.cell? ⟨x.b,i,none⟩=x.cs[i]?:=by
 rw[cell_of_row w x.b i x.cs.toArray x.t (0,0) h];simp
theorem Sx.cx {n:Nat} {E:World} {bw:List Nat} {M:Mem} {w:World} {a:Act} {env:Env} {bs:List Bx} {rs:List Rw} (h:Sx n E bw M w a env bs rs):Cx M bs rs w:=
 ⟨h.on,λx hx=>(h.bx x hx).1,λr hr=>⟨_,(h.rw r hr).1⟩⟩
theorem Sx.act {n:Nat} {E:World} {bw:List Nat} {M:Mem} {w:World} {a a':Act} {env env':Env} {bs:List Bx} {rs:List Rw} (h:Sx n E bw M w a env bs rs) (hA:Ag n a' env'):Sx n E bw M w a' env' bs rs:=
 ⟨hA,h.on,h.pr,h.bx,h.rw,h.nd⟩
theorem Sx.sub {n:Nat} {E:World} {bw:List Nat} {M:Mem} {w:World} {a:Act} {env:Env} {bs:List Bx} {rs:List Rw} (h:Sx n E bw M w a env bs rs) (env':Env) (hs:∀p∈env',lk env p.1=some p.2):Sx n E bw M w a env' bs rs:=
 h.act (h.ag.sub env' hs)
def Yl (P:Program) (env:Env) (M:Mem) (bs:List Bx) (rs:List Rw) (o:Oper) (v:Value):Prop:=
 okOp env o=true/\∀w,Cx M bs rs w->(execOp (evT env) o).run P w= .ok (.value v) w
theorem Yl.pure {P:Program} {env:Env} {M:Mem} {bs:List Bx} {rs:List Rw} {o:Oper} {v:Value} (hk:okOp env o=true)
  (h:∀w,(execOp (evT env) o).run P w= .ok (.value v) w):Yl P env M bs rs o v:=⟨hk,λw _=>h w⟩
theorem Yl.eq {P:Program} {env:Env} {M:Mem} {bs:List Bx} {rs:List Rw} {o:Oper} {v v':Value} (h:Yl P env M bs rs o v) (e:v=v'):Yl P env M bs rs o v':=e▸h
def lkX:List (Nat×(Act->World->Prop))->Nat->Option (Act->World->Prop)
 |[],_=>none
 |(k,v)::r,x=>match Nat.beq k x with
  |true=>some v
  |false=>lkX r x
def QQ (N:Act->World->Prop) (X:List (Nat×(Act->World->Prop))) (R:Act->World->Prop) (Z:List PanicEntry->Act->World->Prop):Exit->Act->World->Prop
 | .normal,a,w=>N a w
 | .exit id,a,w=>match lkX X id with
  |some K=>K a w
  |none=>False
 | .ret,a,w=>R a w
 | .panic c,a,w=>Z c a w
 |_,_,_=>False
def Wp (P:Program) (c:Code) (N:Act->World->Prop) (X:List (Nat×(Act->World->Prop))) (R:Act->World->Prop) (Z:List PanicEntry->Act->World->Prop) (a:Act) (w:World):Prop:=
 Code.wp P c (QQ N X R Z) a w
section
variable {P:Program} {N J:Act->World->Prop} {X:List (Nat×(Act->World->Prop))} {R:Act->World->Prop} {Z:List PanicEntry->Act->World->Prop} {a:Act} {w:World}
theorem Wp.mono {c:Code} {N':Act->World->Prop} (hN:∀a w,N a w->N' a w) (h:Wp P c N X R Z a w):Wp P c N' X R Z a w:=
 Code.wp_mono (λe a w q=>by cases e<;>first|exact hN _ _ q|exact q) h
theorem Wp.seq {x y:Code} (h:Wp P x (λa w=>Wp P y N X R Z a w) X R Z a w):Wp P (.seq x y) N X R Z a w:=
 wp_seq (Code.wp_mono (λe a w q=>by cases e<;>exact q) h)
theorem Wp.join {x y:Code} (J:Act->World->Prop) (h:Wp P x J X R Z a w) (hJ:∀a w,J a w->Wp P y N X R Z a w):Wp P (.seq x y) N X R Z a w:=
 Wp.seq (Wp.mono hJ h)
theorem Wp.skip (h:N a w):Wp P .skip N X R Z a w:=wp_skip h
theorem Wp.ret (h:R a w):Wp P .ret N X R Z a w:=wp_ret h
theorem Wp.exit {id:Nat} {K:Act->World->Prop} (hx:lkX X id=some K) (h:K a w):Wp P (.exit id) N X R Z a w:=
 wp_exit (by unfold QQ;simp only[hx];exact h)
theorem Wp.block {id:Nat} {c:Code} (h:Wp P c N ((id,N)::X) R Z a w):Wp P (.block id c) N X R Z a w:=by
 refine wp_block (Code.wp_mono (λe a w q=>?_) h)
 cases e with
 |exit i=>
  simp only[QQ,lkX,Exit.inBlock]at q ⊢
  by_cases hi:i=id
  ·subst hi
   have:Nat.beq i i=true:=by simp
   simp only[this]at q
   simpa using q
  ·have:Nat.beq id i=false:=by
    cases hb:Nat.beq id i
    ·rfl
    ·exact absurd (Nat.eq_of_beq_eq_true hb).symm hi
   simp only[this]at q
   simp only[hi,if_false]
   exact q
 |_=>exact q
theorem Wp.loop {σ:Type} {c:Code} (I:σ->Act->World->Prop) (μ:σ->Nat) (s0:σ) (h0:I s0 a w)
  (round:∀s a w,I s a w->Wp P c (λa' w'=>∃s',I s' a' w'/\μ s'<μ s) X R Z a w):Wp P (.loop c) N X R Z a w:=by
 classical
 have least:∀m (a:Act) (w:World),(∃s,I s a w/\μ s=m)->∃s,I s a w/\∀s',I s' a w->μ s<=μ s':=by
  intro m
  induction m using Nat.strongRecOn with
  |_ m ih=>
   intro a w ⟨s,hs,hm⟩
   by_cases hx:∃s',I s' a w/\μ s'<m
   ·obtain⟨s',h1,h2⟩:=hx
    exact ih _ h2 a w ⟨s',h1,rfl⟩
   ·exact⟨s,hs,λs' h'=>by
     rcases Nat.lt_or_ge (μ s') m with h2|h2
     ·exact absurd ⟨s',h',h2⟩ hx
     ·omega⟩
 let M:Act->World->Nat:=λa w=>if h:∃s,I s a w then μ (Classical.choose (least _ a w ⟨_,(Classical.choose_spec h),rfl⟩)) else 0
 have hM:∀s a w,I s a w->M a w<=μ s:=by
  intro s a w hs
  have h:∃s,I s a w:=⟨s,hs⟩
  simp only[M,dif_pos h]
  exact(Classical.choose_spec (least _ a w ⟨_,(Classical.choose_spec h),rfl⟩)).2 s hs
 refine wp_loop (λa w=>∃s,I s a w) M ⟨s0,h0⟩ (λa w hI=>?_)
 have hc:=Classical.choose_spec (least _ a w ⟨_,(Classical.choose_spec hI),rfl⟩)
 have he:M a w=μ (Classical.choose (least _ a w ⟨_,(Classical.choose_spec hI),rfl⟩)):=by simp only[M,dif_pos hI]
 refine Code.wp_mono (λe a' w' q=>?_) (round _ a w hc.1)
 cases e with
 |normal=>
  obtain⟨s',h1,h2⟩:=q
  refine⟨⟨s',h1⟩,?_⟩
  rw[he]
  exact Nat.lt_of_le_of_lt (hM s' a' w' h1) h2
 |_=>exact q
theorem Wp.cond {n:Nat} {E:World} {bw:List Nat} {M:Mem} {env:Env} {bs:List Bx} {rs:List Rw} (hs:Sx n E bw M w a env bs rs) {c:Operand} {x y:Code} {b:Bool} {p:Prop}
  (hk:known env c=true) (hc:evT env c= .bool b) (hp:b=true↔p) (h1:p->Wp P x N X R Z a w) (h2:¬p->Wp P y N X R Z a w):Wp P (.cond c x y) N X R Z a w:=by
 refine wp_cond_split (t:=b) ((hs.ag.eval hk).trans hc) (λe=>h1 (hp.1 e)) (λe=>h2 λq=>?_)
 have:=hp.2 q
 rw[e]at this
 cases this
end
def OpW (P:Program) (ρ:Operand->Value) (o:Oper) (w:World) (K:Value->World->Prop) (Z:List PanicEntry->World->Prop):Prop:=
 match (execOp ρ o).run P w with
 | .ok (.value v) w'=>K v w'
 | .ok .skip w'=>K undef w'
 | .ok (.enter f args) w'=>Calls P f args w' λ
  | .returned v,w''=>K v w''
  | .panicked c,w''=>Z c w''
  | .outgrown,_=>False
 | .halt (.panic v) w'=>Z [{v,recovered:=false}] w'
 |_=>False
theorem OpW.upon {P:Program} {o:Oper} {a:Act} {w:World} {next:Act->World->Prop} {Q:Exit->Act->World->Prop} {Z:List PanicEntry->World->Prop}
  (hZ:∀c w,Z c w->Q (.panic c) a w)
  (h:OpW P a.eval o w (λv w'=>next (a.put o.dst v) w') Z):o.wp P a w next Q:=by
 unfold OpW at h
 unfold Oper.wp
 generalize (execOp a.eval o).run P w=r at*
 cases r with
 |ok n w'=>
  cases n<;>simp only[Oper.upon]at h ⊢<;>try exact h
  case enter f args=>
   refine Calls.mono h λe w'' he=>?_
   cases e with
   |returned v=>exact he
   |panicked c=>exact hZ _ _ he
   |outgrown=>exact he.elim
 |halt x w'=>cases x<;>simp only[Oper.upon]at h ⊢<;>first|exact hZ _ _ h|exact h
section
variable {P:Program} {ops:Array Oper} {Q:Exit->Act->World->Prop} {n:Nat} {E:World} {bw:List Nat} {M:Mem} {w:World} {a:Act} {env:Env} {bs:List Bx} {rs:List Rw} {rest:List Oper} {o:Oper}
theorem stepY (v:Value) {d:Nat} (hs:Sx n E bw M w a env bs rs) (hg:o.guard=none) (hd:o.dst=some d) (hdn:d<n) (hy:Yl P env M bs rs o v)
  (h:∀a',Sx n E bw M w a' ((d,v)::env) bs rs->wpList P ops Q rest a' w):wpList P ops Q (o::rest) a w:=by
 refine wpList_plain hg λK hK=>?_
 have he:(execOp a.eval o).run P w= .ok (.value v) w:=by rw[hs.ag.exec hy.1];exact hy.2 w hs.cx
 unfold Oper.wp
 rw[he]
 refine hK _ _ ?_
 rw[hd]
 exact h _ (hs.act (hs.ag.put hdn v))
theorem yielded_of {j t:Nat} {b:Bool} (hs:Sx n E bw M w a env bs rs) (ht:(ops[j]?).bind (·.dst)=some t) (hl:lk env t=some (.bool b)):yielded ops a.tmps j=some b:=by
 have hlt:t<a.tmps.size:=by
  rcases Nat.lt_or_ge t a.tmps.size with h'|h'
  ·exact h'
  ·have:=hs.ag.at_ t _ hl
   simp[Array.getElem?_eq_none h',undef]at this
 have hat:a.tmps[t]?=some (.bool b):=by
  have:=hs.ag.at_ t _ hl
  simp only[Array.getD_eq_getD_getElem?,Array.getElem?_eq_getElem hlt,Option.getD_some]at this ⊢
  rw[this]
 simp[yielded,ht,hat]
theorem Sx.bt {d:Nat} {b:Bool} (hs:Sx n E bw M w a ((d,.bool b)::env) bs rs) (h:b=true):Sx n E bw M w a ((d,.bool true)::env) bs rs:=h▸hs
theorem Sx.bf {d:Nat} {b:Bool} (hs:Sx n E bw M w a ((d,.bool b)::env) bs rs) (h:b=false):Sx n E bw M w a ((d,.bool false)::env) bs rs:=h▸hs
end
theorem bsplit {G:Prop} (b:Bool) {p:Prop} (hp:b=true↔p) (h1:b=true->p->G) (h2:b=false->¬p->G):G:=by
 cases hb:b
 ·exact h2 hb λq=>by rw[hp.2 q]at hb;cases hb
 ·exact h1 hb (hp.1 hb)
section
variable {P:Program} {N:Act->World->Prop} {X:List (Nat×(Act->World->Prop))} {R:Act->World->Prop} {Z:List PanicEntry->Act->World->Prop} {a:Act} {w:World}
theorem Wp.region {id:Nat} {l:List Oper} (h:wpList P l.toArray (QQ N X R Z) l a w):Wp P (.region id l.toArray false) N X R Z a w:=wp_region_lit h
end
def argEnv:List Value->Nat->Env
 |[],_=>[]
 |v::r,i=>(i,v)::argEnv r (i+1)
theorem lk_argEnv (l:List Value):∀(i x:Nat) (v:Value),lk (argEnv l i) x=some v->i<=x/\l[x-i]?=some v:=by
 induction l with
 |nil=>intro i x v h;cases h
 |cons u r ih=>
  intro i x v h
  rw[argEnv,lk_cons]at h
  by_cases hx:i=x
  ·subst hx;simpa using h
  ·rw[if_neg hx]at h
   obtain⟨h1,h2⟩:=ih (i+1) x v h
   refine⟨by omega,?_⟩
   obtain⟨k,rfl⟩:∃k,x=i+1+k:=⟨x-(i+1),by omega⟩
   rw[show i+1+k-i=k+1 by omega]
   rw[show i+1+k-(i+1)=k by omega]at h2
   simpa using h2
theorem enter {P:Program} {f:FuncId} {fn:Func} {c:Code} {l:List Value} {w:World} {Rf:Ending->World->Prop} {M:Mem}
  (hf:P.funcs[f]?=some fn) (hb:fn.body=some c) (n:Nat) (hn:fn.ntmps=n) (hl:l.length<=n) (hon:On M w) (lent:List Bx)
  (hlent:∀x∈lent,BxAt w x/\M x.b=none) (hnd:(lent.map (·.b)).Nodup)
  (h:∀a,Sx n w (lent.map (·.b)) M w a (argEnv l 0) lent []->Wp P c (λa w=>bodyPost P fn Rf .normal a w) [] (λa w=>bodyPost P fn Rf .ret a w) (λch a w=>bodyPost P fn Rf (.panic ch) a w) a w):
  Calls P f l.toArray w Rf:=by
 refine calls_of_wp hf hb ?_
 refine Code.wp_mono (λe a w q=>?_) (h _ ⟨⟨rfl,?_,λx v hx=>?_⟩,hon,Pres.refl _ _,λx hx=>⟨(hlent x hx).1,(hlent x hx).2,.inr (List.mem_map.2 ⟨x,hx,rfl⟩)⟩,(λr hr=>by cases hr),⟨hnd,(λ_ _ r hr=>by cases hr),List.Pairwise.nil⟩⟩)
 ·cases e<;>first|exact q|exact False.elim q
 ·simp[hn];omega
 ·obtain⟨_,h2⟩:=lk_argEnv l 0 x v hx
  simp only[Nat.sub_zero]at h2
  have hx':x<l.length:=by
   rcases Nat.lt_or_ge x l.length with h'|h'
   ·exact h'
   ·rw[List.getElem?_eq_none h']at h2;cases h2
  simp only[Array.getD_eq_getD_getElem?]
  rw[Array.getElem?_append_left (by simpa using hx')]
  simp[h2]
def grow (M:Mem) (w w':World):Mem:=λb=>if w.heap.size<=b then w'.heap[b]? else M b
theorem grow_le {M:Mem} {w w':World} (h:On M w):M.le (grow M w w'):=by
 intro b o hb
 have:=h.lt hb
 unfold grow
 rw[if_neg (by omega)]
 exact hb
def CallE (P:Program) (f:FuncId) (args:Array Value) (M:Mem) (K:Value->Mem->Prop):Prop:=
 ∀w,On M w->Calls P f args w λe w'=>∃v,e= .returned v/\Below w.heap.size w w'/\K v (grow M w w')
theorem CallE.mono {P:Program} {f:FuncId} {args:Array Value} {M:Mem} {K K':Value->Mem->Prop} (h:CallE P f args M K) (hK:∀v M',M.le M'->K v M'->K' v M'):CallE P f args M K':=
 λw hw=>(h w hw).mono λ_ _ ⟨v,h1,h2,h3⟩=>⟨v,h1,h2,hK v _ (grow_le hw) h3⟩
theorem enterE {P:Program} {f:FuncId} {fn:Func} {c:Code} {l:List Value} {M:Mem} {K:Value->Mem->Prop}
  (hf:P.funcs[f]?=some fn) (hb:fn.body=some c) (n:Nat) (hn:fn.ntmps=n) (hl:l.length<=n)
  (h:∀w a,Sx n w [] M w a (argEnv l 0) [] []->Wp P c (λa' w'=>a'.defers=[]/\∃v,(results fn a'.tmps).run P w'= .ok v w'/\Below w.heap.size w w'/\K v (grow M w w')) []
   (λa' w'=>a'.defers=[]/\∃v,(results fn a'.tmps).run P w'= .ok v w'/\Below w.heap.size w w'/\K v (grow M w w')) (λ_ _ _=>False) a w):
  CallE P f l.toArray M K:=by
 intro w hw
 refine enter (Rf:=λe w'=>∃v,e= .returned v/\Below w.heap.size w w'/\K v (grow M w w')) hf hb n hn hl hw [] (by simp) (by simp) (λa hs=>?_)
 refine Code.wp_mono (λe a' w' q=>?_) (h w a (by simpa using hs))
 cases e with
 |normal=>obtain⟨h1,v,h2,h3,h4⟩:=q;exact⟨h1,v,h2,v,rfl,h3,h4⟩
 |ret=>obtain⟨h1,v,h2,h3,h4⟩:=q;exact⟨h1,v,h2,v,rfl,h3,h4⟩
 |_=>exact q.elim
theorem leaveE {P:Program} {fn:Func} {n:Nat} {E:World} {M0 M:Mem} {w:World} {a:Act} {env:Env} {bs:List Bx} {rs:List Rw} {K:Value->Mem->Prop} {v:Value}
  (hs:Sx n E [] M w a env bs rs) (hr:(results fn a.tmps).run P w= .ok v w) (hM:∀b o,M b=some o->M0 b=some o\/E.heap.size<=b) (hK:∀M',M.le M'->K v M'):
  a.defers=[]/\∃v,(results fn a.tmps).run P w= .ok v w/\Below E.heap.size E w/\K v (grow M0 E w):=by
 refine⟨hs.ag.df,v,hr,hs.pr.below,hK _ λb o hb=>?_⟩
 unfold grow
 by_cases hk:E.heap.size<=b
 ·rw[if_pos hk];exact hs.on b o hb
 ·rw[if_neg hk]
  rcases hM b o hb with h|h
  ·exact h
  ·omega
theorem resT {P:Program} {fn:Func} {n:Nat} {E:World} {bw:List Nat} {M:Mem} {w:World} {a:Act} {env:Env} {bs:List Bx} {rs:List Rw} {t:Nat} {v:Value} (hs:Sx n E bw M w a env bs rs) (hr:fn.results= #[.tmp t]) (hv:lk env t=some v):
  (results fn a.tmps).run P w= .ok v w:=by rw[results_tmp hr,hs.ag.at_ t v hv]
theorem res {P:Program} {fn:Func} {n:Nat} {E:World} {bw:List Nat} {M:Mem} {w:World} {a:Act} {env:Env} {bs:List Bx} {rs:List Rw} (_hs:Sx n E bw M w a env bs rs) (hr:fn.results= #[]):
  (results fn a.tmps).run P w= .ok (.tuple #[]) w:=results_none hr _ _ _
theorem resTT {P:Program} {fn:Func} {n:Nat} {E:World} {bw:List Nat} {M:Mem} {w:World} {a:Act} {env:Env} {bs:List Bx} {rs:List Rw} {t u:Nat} {v x:Value} (hs:Sx n E bw M w a env bs rs) (hr:fn.results= #[.tmp t,.tmp u]) (hv:lk env t=some v) (hx:lk env u=some x):
  (results fn a.tmps).run P w= .ok (.tuple #[v,x]) w:=by rw[results_tmp2 hr,hs.ag.at_ t v hv,hs.ag.at_ u x hx]
theorem add_lit (b o n:Nat):(⟨b,o,none⟩:Addr).add n=⟨b,o+n,none⟩:=by unfold Addr.add;split<;>simp_all
theorem run_load_one {P:Program} {w:World} {a:Addr} {v:Value} {t:TypeId} {d:TypeDesc} (hu:P.underlying t=some d) (hd:(match d with| .struct _| .array _ _=>true|_=>false)=false)
  (h:w.cell? a=some v):(loadVar t a).run P w= .ok v w:=by
 cases d<;>simp at hd<;>simp[loadVar,isAgg,run_underlying hu,h,go_sem]
theorem run_load_agg {P:Program} {w:World} {a:Addr} {vs:List Value} {t:TypeId} {d:TypeDesc} {n:Nat} (hu:P.underlying t=some d) (hd:(match d with| .struct _| .array _ _=>true|_=>false)=true)
  (hn:(P.info? t).map (·.size)=some n) (hl:vs.length=n) (h:∀j v,vs[j]?=some v->w.cell? (a.add j)=some v):(loadVar t a).run P w= .ok (.agg vs.toArray) w:=by
 subst hl
 have hls:=run_loadCells_list (P:=P) w a vs h
 cases hi:P.info? t with
 |none=>simp[hi]at hn
 |some i=>
  simp[hi]at hn
  rw[<-hn]at hls
  cases d<;>simp at hd<;>simp[loadVar,isAgg,run_underlying hu,sizeOf,typeInfo,hi,hls]
def isAggD:Option TypeDesc->Bool
 |some (.struct _)|some (.array _ _)=>true
 |_=>false
def Mem.cell (M:Mem) (b i:Nat):Option Value:=match M b with
 |some (.cells c _ _)=>c[i]?
 |_=>none
theorem On.cell {M:Mem} {w:World} (h:On M w) {b i:Nat} {v:Value} (hc:M.cell b i=some v):w.cell? ⟨b,i,none⟩=some v:=by
 unfold Mem.cell at hc
 split at hc
 ·rename_i c e f hm
  rw[cell_of_row w b i c e f (h _ _ hm)]
  exact hc
 ·cases hc
theorem Mem.le.cell {M M':Mem} (h:M.le M') {b i:Nat} {v:Value} (hc:M.cell b i=some v):M'.cell b i=some v:=by
 unfold Mem.cell at hc ⊢
 split at hc
 ·rename_i c e f hm
  rw[h _ _ hm]
  exact hc
 ·cases hc
def At (M:Mem) (b o:Nat) (vs:List Value):Prop:=∀j v,vs[j]?=some v->M.cell b (o+j)=some v
theorem At.le {M M':Mem} {b o:Nat} {vs:List Value} (h:At M b o vs) (hl:M.le M'):At M' b o vs:=λj v hj=>hl.cell (h j v hj)
theorem At.part {M:Mem} {b o:Nat} {vs:List Value} (h:At M b o vs) (k:Nat) (us:List Value) (hk:(vs.drop k).take us.length=us):At M b (o+k) us:=by
 intro j u hj
 rw[Nat.add_assoc]
 refine h _ _ ?_
 have hjl:j<us.length:=(List.getElem?_eq_some_iff.1 hj).1
 rw[<-hk,List.getElem?_take,if_pos hjl,List.getElem?_drop]at hj
 exact hj
def ofCells (agg:Bool) (vs:List Value):Value:=
 match agg,vs with
 |false,[v]=>v
 |_,vs=>.agg vs.toArray
theorem run_load_at {P:Program} {w:World} {b o:Nat} {vs:List Value} {t:TypeId} {g:Bool} (hg:isAggD (P.underlying t)=g) (hsome:(P.underlying t).isSome=true)
  (hn:(P.info? t).map (·.size)=some vs.length) (h1:g=false->vs.length=1) (h:∀j v,vs[j]?=some v->w.cell? ⟨b,o+j,none⟩=some v):(loadVar t ⟨b,o,none⟩).run P w= .ok (ofCells g vs) w:=by
 cases hu:P.underlying t with
 |none=>simp[hu]at hsome
 |some d=>
  rw[hu]at hg
  cases g with
  |true=>
   rw[run_load_agg (d:=d) hu (by cases d<;>simp_all [isAggD]) hn rfl (λj v hj=>by rw[add_lit];exact h j v hj)]
   cases vs with
   |nil=>rfl
   |cons v r=>rfl
  |false=>
   obtain⟨v,rfl⟩:∃v,vs=[v]:=List.length_eq_one_iff.1 (h1 rfl)
   exact run_load_one (d:=d) hu (by cases d<;>simp_all [isAggD]) (h 0 v rfl)
def tyOk (P:Program) (t:TypeId) (g:Bool) (k:Nat):Bool:=isAggD (P.underlying t)==g&&(P.underlying t).isSome&&((P.info? t).map (·.size))==some k&&(g||k==1)
theorem tyOk_spec {P:Program} {t:TypeId} {g:Bool} {k:Nat} (h:tyOk P t g k=true):isAggD (P.underlying t)=g/\(P.underlying t).isSome=true/\(P.info? t).map (·.size)=some k/\(g=false->k=1):=by
 simp only[tyOk,Bool.and_eq_true,beq_iff_eq,Bool.or_eq_true]at h
 obtain⟨⟨⟨h1,h2⟩,h3⟩,h4⟩:=h
 exact⟨h1,h2,h3,λe=>h4.elim (λh4=>by rw[e]at h4;cases h4) λh4=>h4⟩
section
variable {P:Program} {env:Env} {M:Mem} {bs:List Bx} {rs:List Rw} {o:Oper}
theorem Yl.loadV {d:Option Tmp} {t ty:TypeId} {x:Operand} {pos:String} {af:Array Edge} {gd:Option (Nat×Bool)} {b k:Nat} {vs:List Value} (g:Bool) (hk:known env x=true) (hx:evT env x= .pointer (some ⟨b,k,none⟩))
  (ht:tyOk P t g vs.length=true) (h:At M b k vs):
  Yl P env M bs rs ⟨d,.load t x,ty,pos,af,gd⟩ (ofCells g vs):=by
 obtain⟨h1,h2,h3,h4⟩:=tyOk_spec ht
 refine⟨by simp[okOp,notSel,Op.operands,hk],λw hc=>?_⟩
 have:=run_load_at (P:=P) h1 h2 h3 h4 (λj v hj=>hc.on.cell (h j v hj))
 simp[execOp,Instr.loadAt,hx,Instr.sureAddr,this]
theorem Yl.loadB {d:Option Tmp} {t ty:TypeId} {x:Operand} {pos:String} {af:Array Edge} {gd:Option (Nat×Bool)} {b k:Nat} {cs vs:List Value} (g:Bool) (i:Nat) {bt:TypeId} (hi:bs[i]?=some ⟨b,bt,cs⟩) (hk:known env x=true) (hx:evT env x= .pointer (some ⟨b,k,none⟩))
  (ht:tyOk P t g vs.length=true) (hvs:(cs.drop k).take vs.length=vs):
  Yl P env M bs rs ⟨d,.load t x,ty,pos,af,gd⟩ (ofCells g vs):=by
 obtain⟨h1,h2,h3,h4⟩:=tyOk_spec ht
 refine⟨by simp[okOp,notSel,Op.operands,hk],λw hc=>?_⟩
 have hb:=hc.bx _ (List.mem_of_getElem? hi)
 have hat:∀j v,vs[j]?=some v->w.cell? ⟨b,k+j,none⟩=some v:=by
  intro j v hj
  rw[hb.cell]
  show cs[k+j]?=some v
  have hjl:j<vs.length:=(List.getElem?_eq_some_iff.1 hj).1
  rw[<-hvs,List.getElem?_take,if_pos hjl,List.getElem?_drop]at hj
  exact hj
 have:=run_load_at (P:=P) h1 h2 h3 h4 hat
 simp[execOp,Instr.loadAt,hx,Instr.sureAddr,this]
theorem Yl.indexS {d:Option Tmp} {t e ty:TypeId} {x i:Operand} {pos:String} {af:Array Edge} {gd:Option (Nat×Bool)} {b k l c sz:Nat} {ik:IntKind} {n:Int} {ad:Option Addr} (hkx:known env x=true) (hki:known env i=true)
  (hx:evT env x= .slice ad l c) (hi:evT env i= .int ik n) (hu:P.underlying t=some (.slice e)) (hn:(P.info? e).map (·.size)=some sz) (had:ad=some ⟨b,k,none⟩) (h0:0<=n) (hl:n<l):
  Yl P env M bs rs ⟨d,.indexAddr t x i,ty,pos,af,gd⟩ (.pointer (some ⟨b,k+n.toNat*sz,none⟩)):=by
 subst had
 refine⟨by simp[okOp,notSel,Op.operands,hkx,hki],λw _=>?_⟩
 cases hi':P.info? e with
 |none=>simp[hi']at hn
 |some ti=>
  simp[hi']at hn
  simp[execOp,Instr.indexAt,hx,hi,asIntOf,run_underlying hu,sizeOf,typeInfo,hi',h0,hl,go_sem,hn,add_lit]
end
section
variable {P:Program} {ops:Array Oper} {Q:Exit->Act->World->Prop} {n:Nat} {E:World} {bw:List Nat} {M:Mem} {w:World} {a:Act} {env:Env} {bs:List Bx} {rs:List Rw} {rest:List Oper} {o:Oper} {Z:List PanicEntry->World->Prop}
theorem stepK {d:Nat} (hs:Sx n E bw M w a env bs rs) (hZ:∀c w,Z c w->Q (.panic c) a w) (hg:o.guard=none) (hk:okOp env o=true) (hd:o.dst=some d) (hdn:d<n)
  (h:OpW P (evT env) o w (λv w'=>∀a',Ag n a' ((d,v)::env)->wpList P ops Q rest a' w') Z):wpList P ops Q (o::rest) a w:=by
 refine wpList_plain hg λK hK=>?_
 refine OpW.upon (Z:=Z) hZ ?_
 unfold OpW at h ⊢
 rw[hs.ag.exec hk]
 have key:∀v w',(∀a',Ag n a' ((d,v)::env)->wpList P ops Q rest a' w')->K (a.put o.dst v) w':=by
  intro v w' hh
  exact hK _ _ (hh _ (by rw[hd];exact hs.ag.put hdn v))
 generalize (execOp (evT env) o).run P w=r at*
 cases r with
 |ok x w'=>
  cases x<;>simp only at h ⊢<;>try exact key _ _ h
  case enter f args=>
   refine Calls.mono h λe w'' he=>?_
   cases e with
   |returned v=>exact key _ _ he
   |panicked c=>exact he
   |outgrown=>exact he
  all_goals exact h
 |halt x w'=>cases x<;>simp only at h ⊢<;>exact h
theorem stepK0 (hs:Sx n E bw M w a env bs rs) (hZ:∀c w,Z c w->Q (.panic c) a w) (hg:o.guard=none) (hk:okOp env o=true) (hd:o.dst=none)
  (h:OpW P (evT env) o w (λ_ w'=>∀a',Ag n a' env->wpList P ops Q rest a' w') Z):wpList P ops Q (o::rest) a w:=by
 refine wpList_plain hg λK hK=>?_
 refine OpW.upon (Z:=Z) hZ ?_
 unfold OpW at h ⊢
 rw[hs.ag.exec hk]
 have key:∀(v:Value) w',(∀a',Ag n a' env->wpList P ops Q rest a' w')->K (a.put o.dst v) w':=by
  intro v w' hh
  exact hK _ _ (hh _ (by rw[hd];exact hs.ag))
 generalize (execOp (evT env) o).run P w=r at*
 cases r with
 |ok x w'=>
  cases x<;>simp only at h ⊢<;>try exact key _ _ h
  case enter f args=>
   refine Calls.mono h λe w'' he=>?_
   cases e with
   |returned v=>exact key v _ he
   |panicked c=>exact he
   |outgrown=>exact he
  all_goals exact h
 |halt x w'=>cases x<;>simp only at h ⊢<;>exact h
theorem OpW.of_run {ρ:Operand->Value} {w':World} {v:Value} {K:Value->World->Prop}
  (h:(execOp ρ o).run P w= .ok (.value v) w') (hK:K v w'):OpW P ρ o w K Z:=by unfold OpW;rw[h];exact hK
theorem OpW.of_skip {ρ:Operand->Value} {w':World} {K:Value->World->Prop}
  (h:(execOp ρ o).run P w= .ok .skip w') (hK:K undef w'):OpW P ρ o w K Z:=by unfold OpW;rw[h];exact hK
theorem Sx.later {w':World} {M':Mem} (hs:Sx n E bw M w a env bs rs) (hb:Below w.heap.size w w') (hon:On M' w') (hM:∀b,b<w.heap.size->M' b=M b):Sx n E bw M' w' a env bs rs:=by
 refine⟨hs.ag,hon,?_,λx hx=>?_,λr hr=>?_,hs.nd⟩
 ·obtain⟨h1,h2,h3,h4,h5⟩:=hs.pr
  exact⟨hb.os.trans h1,hb.tape.trans h2,hb.output.trans h3,Nat.le_trans h4 hb.size,λk hk hn=>(hb.block k (by omega)).trans (h5 k hk hn)⟩
 ·obtain⟨h1,h2,h3⟩:=hs.bx x hx
  exact⟨(hb.block _ h1.lt).trans h1,(hM _ h1.lt).trans h2,h3⟩
 ·obtain⟨h1,h2⟩:=hs.rw r hr
  refine⟨?_,λg hg=>⟨(hM g (h1.lt g hg).2).trans (h2 g hg).1,(h2 g hg).2⟩⟩
  refine⟨h1.1,?_⟩
  rcases h1.2 with hn|⟨g,cap,cur,hv,hbg,hgg,r3⟩
  ·exact .inl hn
  ·exact .inr ⟨g,cap,cur,hv,hbg,(hb.block g (Array.getElem?_eq_some_iff.1 hgg).1).trans hgg,r3⟩
theorem On.later {w':World} (h:On M w) (hb:Below w.heap.size w w'):On M w':=λb o q=>(hb.block b (h.lt q)).trans (h b o q)
theorem Sx.new (hs:Sx n E bw M w a env bs rs) (cs:List Value) (t:TypeId) {a':Act} {env':Env} (hA:Ag n a' env'):Sx n E bw M (w.alloc (.cells cs.toArray t)) a' env' (⟨w.heap.size,t,cs⟩::bs) rs:=by
 have hb:Below w.heap.size w (w.alloc (.cells cs.toArray t)):=(Below.refl _ w).alloc (Nat.le_refl _) _
 have h1:=(hs.later hb (hs.on.later hb) (λ_ _=>rfl)).act hA
 refine⟨hA,h1.on,h1.pr,λx hx=>?_,h1.rw,?_⟩
 ·rcases List.mem_cons.1 hx with rfl|hx
  ·exact⟨heap_alloc_new w _,hs.on.noneAt (Nat.le_refl _),.inl hs.pr.size⟩
  ·exact h1.bx x hx
 ·refine⟨?_,λx hx r hr=>?_,hs.nd.r⟩
  ·rw[List.map_cons,List.nodup_cons]
   refine⟨λhm=>?_,hs.nd.b⟩
   obtain⟨x,hx,he⟩:=List.mem_map.1 hm
   have:=(hs.bx x hx).1.lt
   simp only at he
   omega
  ·rcases List.mem_cons.1 hx with rfl|hx
   ·intro e
    have:=((hs.rw r hr).1.lt _ e).2
    simp only at this
    omega
   ·exact hs.nd.x x hx r hr
theorem stepBox (cs:List Value) {d:Nat} {t ty:TypeId} {x:Operand} {pos:String} {af:Array Edge} {v:Value} (hs:Sx n E bw M w a env bs rs) (hk:known env x=true) (hx:evT env x=v) (hc:v.cells=cs.toArray) (hdn:d<n)
  (h:∀a' w' b,E.heap.size<=b->Sx n E bw M w' a' ((d,.pointer (some ⟨b,0,none⟩))::env) (⟨b,t,cs⟩::bs) rs->wpList P ops Q rest a' w'):wpList P ops Q (⟨some d,.box t x,ty,pos,af,none⟩::rest) a w:=by
 refine stepK (Z:=λ_ _=>False) (d:=d) hs (λ_ _ h=>h.elim) rfl (by simp[okOp,notSel,Op.operands,hk]) rfl hdn ?_
 refine OpW.of_run (w':=w.alloc (.cells cs.toArray t)) (v:=.pointer (some ⟨w.heap.size,0,none⟩)) ?_ ?_
 ·simp[execOp,Instr.box,newVar,newRow,hx,hc]
 ·intro a' hA
  exact h a' _ _ hs.pr.size (hs.new cs t hA)
theorem stepAlloc (cs:List Value) {d:Nat} {t ty:TypeId} {pos:String} {af:Array Edge} (hs:Sx n E bw M w a env bs rs) (hz:((P.info? t).bind (·.zero)).map (·.cells)=some cs.toArray) (hdn:d<n)
  (h:∀a' w' b,E.heap.size<=b->Sx n E bw M w' a' ((d,.pointer (some ⟨b,0,none⟩))::env) (⟨b,t,cs⟩::bs) rs->wpList P ops Q rest a' w'):wpList P ops Q (⟨some d,.alloc t,ty,pos,af,none⟩::rest) a w:=by
 refine stepK (Z:=λ_ _=>False) (d:=d) hs (λ_ _ h=>h.elim) rfl (by simp[okOp,notSel,Op.operands]) rfl hdn ?_
 refine OpW.of_run (w':=w.alloc (.cells cs.toArray t)) (v:=.pointer (some ⟨w.heap.size,0,none⟩)) ?_ ?_
 ·cases hi:P.info? t with
  |none=>simp[hi]at hz
  |some i=>
   cases hz0:i.zero with
   |none=>simp[hi,hz0]at hz
   |some z=>
    simp[hi,hz0]at hz
    simp[execOp,Instr.alloc,newVar,newRow,zeroValue,typeInfo,hi,hz0,hz]
 ·intro a' hA
  exact h a' _ _ hs.pr.size (hs.new cs t hA)
def putAt (cs:List Value) (k:Nat) (vs:List Value):List Value:=cs.take k++vs++cs.drop (k+vs.length)
theorem Sx.set (hs:Sx n E bw M w a env bs rs) (i:Nat) {x:Bx} (hi:bs[i]?=some x) (cs:List Value) {a':Act} {env':Env} (hA:Ag n a' env'):Sx n E bw M (w.setRow x.b cs.toArray) a' env' (bs.set i ⟨x.b,x.t,cs⟩) rs:=by
 have hmap:(bs.set i ⟨x.b,x.t,cs⟩).map (·.b)=bs.map (·.b):=by
  rw[List.map_set]
  apply List.ext_getElem?
  intro j
  rw[List.getElem?_set]
  by_cases hij:i=j
  ·subst hij
   obtain⟨hlt,hx⟩:=List.getElem?_eq_some_iff.1 hi
   simp[hlt,hx]
  ·simp[hij]
 obtain⟨hx1,hx2,hx3⟩:=hs.bx x (List.mem_of_getElem? hi)
 have hother:∀k,k≠x.b->(w.setRow x.b cs.toArray).heap[k]?=w.heap[k]?:=by
  intro k hk
  simp only[World.setRow,Array.getElem?_modify]
  rw[if_neg (by omega)]
 have hnd1:(bs.map (·.b)).Nodup:=hs.nd.b
 refine⟨hA,λb o hb=>?_,?_,λy hy=>?_,λr hr=>?_,?_⟩
 ·rw[hother b (by rintro rfl;rw[hx2]at hb;cases hb)];exact hs.on b o hb
 ·obtain⟨h1,h2,h3,h4,h5⟩:=hs.pr
  refine⟨h1,h2,h3,by simpa[World.setRow]using h4,λk hk hn=>?_⟩
  rw[hother k (by
   rintro rfl
   rcases hx3 with h|h
   ·omega
   ·exact hn h)]
  exact h5 k hk hn
 ·obtain⟨j,hj⟩:=List.mem_iff_getElem?.1 hy
  rw[List.getElem?_set]at hj
  by_cases hij:i=j
  ·subst hij
   rw[if_pos rfl]at hj
   have hlt:i<bs.length:=(List.getElem?_eq_some_iff.1 hi).1
   rw[if_pos hlt]at hj
   simp only[Option.some.injEq]at hj
   subst hj
   exact⟨setRow_heap w x.b x.cs.toArray cs.toArray x.t (0,0) hx1,hx2,hx3⟩
  ·rw[if_neg hij]at hj
   have hne:y.b≠x.b:=by
    intro e
    have h1:(bs.map (·.b))[i]?=some x.b:=by simp[hi]
    have h2:(bs.map (·.b))[j]?=some x.b:=by simp[hj,e]
    have hl1:i<(bs.map (·.b)).length:=(List.getElem?_eq_some_iff.1 h1).1
    exact hij ((List.getElem?_inj hl1 hnd1).1 (h1.trans h2.symm))
   obtain⟨g1,g2,g3⟩:=hs.bx y (List.mem_of_getElem? hj)
   exact⟨(hother _ hne).trans g1,g2,g3⟩
 ·obtain⟨g1,g2⟩:=hs.rw r hr
  refine⟨⟨g1.1,?_⟩,g2⟩
  rcases g1.2 with hn|⟨g,cap,cur,hv,hbg,hgg,r3⟩
  ·exact .inl hn
  ·refine .inr ⟨g,cap,cur,hv,hbg,?_,r3⟩
   rw[hother g ?_];exact hgg
   rintro rfl
   exact hs.nd.x x (List.mem_of_getElem? hi) r hr (by rw[hv];rfl)
 ·refine⟨by rw[hmap];exact hs.nd.b,λy hy r hr=>?_,hs.nd.r⟩
  have hy':y.b∈bs.map (·.b):=by rw[<-hmap];exact List.mem_map.2 ⟨y,hy,rfl⟩
  obtain⟨z,hz,he⟩:=List.mem_map.1 hy'
  rw[<-he]
  exact hs.nd.x z hz r hr
theorem stepStoreB (i:Nat) {t ty:TypeId} {p x:Operand} {pos:String} {af:Array Edge} {b k:Nat} {bt:TypeId} {cs vs:List Value} {v:Value} (hs:Sx n E bw M w a env bs rs) (hi:bs[i]?=some ⟨b,bt,cs⟩) (hkp:known env p=true) (hkx:known env x=true)
  (hp:evT env p= .pointer (some ⟨b,k,none⟩)) (hx:evT env x=v) (hc:v.cells=vs.toArray) (hn:(P.info? t).map (·.size)=some vs.length) (hfit:k+vs.length<=cs.length) (h1:vs.all (·.oneCell')=true)
  (h:∀a' w',Sx n E bw M w' a' env (bs.set i ⟨b,bt,putAt cs k vs⟩) rs->wpList P ops Q rest a' w'):wpList P ops Q (⟨none,.store t p x,ty,pos,af,none⟩::rest) a w:=by
 refine stepK0 (Z:=λ_ _=>False) hs (λ_ _ h=>h.elim) rfl (by simp[okOp,notSel,Op.operands,hkp,hkx]) rfl ?_
 have hb:=(hs.bx _ (List.mem_of_getElem? hi)).1
 have hst:=run_storeCells_at P b k bt vs 0 cs.toArray w hb (by simpa using hfit) (λu hu=>List.all_eq_true.1 h1 u hu)
 refine OpW.of_skip (w':=w.setRow b (putAt cs k vs).toArray) ?_ ?_
 ·cases hin:P.info? t with
  |none=>simp[hin]at hn
  |some ti=>
   simp[hin]at hn
   have e:(cs.toArray.toList.take (k+0)++vs++cs.toArray.toList.drop (k+0+vs.length)).toArray=(putAt cs k vs).toArray:=by simp[putAt]
   rw[e]at hst
   simp[execOp,Instr.storeAt,hp,hx,Instr.sureAddr,storeVar,hc,sizeOf,typeInfo,hin,hn,hst]
 ·intro a' hA
  exact h a' _ (hs.set i hi _ hA)
theorem run_call {d:Option Tmp} {f:Nat} {ty:TypeId} {c:Call} {pos:String} {af:Array Edge} {gd:Option (Nat×Bool)} {fn:Func} {first caps:Array Value} (args:List Value)
  (hcal:∃x,c.callee= .value x/\evT env x= .func (.func f) first caps) (hargs:first.toList++c.args.toList.map (evT env)++caps.toList=args) (hf:P.funcs[f]?=some fn) (hbody:fn.body.isNone=false) (hname:(fn.name== "runtime.NumGoroutine")=false):
  (execOp (evT env) ⟨d,.call c,ty,pos,af,gd⟩).run P w= .ok (.enter f args.toArray) w:=by
 obtain⟨x,hcal,hx⟩:=hcal
 have ha:first++c.args.map (evT env)++caps=args.toArray:=by rw[<-hargs];apply Array.ext';simp
 have hname':¬fn.name= "runtime.NumGoroutine":=beq_eq_false_iff_ne.1 hname
 have hbody':¬fn.body=none:=by intro e;rw[e]at hbody;cases hbody
 simp[execOp,resolve,hcal,hx,Deferred.ofValue,invoke,callFunc,hf,hbody',hname',<-ha]
theorem stepCallP {d f:Nat} {ty:TypeId} {c:Call} {pos:String} {af:Array Edge} {fn:Func} {K:Value->Prop} {first caps:Array Value} (args:List Value) (hs:Sx n E bw M w a env bs rs)
  (hk:okOp env ⟨some d,.call c,ty,pos,af,none⟩=true) (hcal:∃x,c.callee= .value x/\evT env x= .func (.func f) first caps) (hargs:first.toList++c.args.toList.map (evT env)++caps.toList=args) (hf:P.funcs[f]?=some fn) (hbody:fn.body.isNone=false) (hname:(fn.name== "runtime.NumGoroutine")=false) (hdn:d<n)
  (hc:CallE P f args.toArray M λv _=>K v)
  (h:∀a' w' v,K v->Sx n E bw M w' a' ((d,v)::env) bs rs->wpList P ops Q rest a' w'):wpList P ops Q (⟨some d,.call c,ty,pos,af,none⟩::rest) a w:=by
 refine stepK (Z:=λ_ _=>False) (d:=d) hs (λ_ _ h=>h.elim) rfl hk rfl hdn ?_
 unfold OpW
 rw[run_call args hcal hargs hf hbody hname]
 refine(hc w hs.on).mono λe w' ⟨v,he,hb,hK⟩=>?_
 subst he
 intro a' hA
 exact h a' w' v hK ((hs.later hb (hs.on.later hb) (λ_ _=>rfl)).act hA)
end
def InI (x:Int):Prop:= -9223372036854775808<=x/\x<=9223372036854775807
theorem wrap_in {x:Int} (h:InI x):IntKind.i64.wrap x=x:=by
 exact IntWalk.i64_in x h
def SubE (env:Env):Env->Prop
 |[]=>True
 |p::r=>lk env p.1=some p.2/\SubE env r
theorem SubE.mem {env:Env}:∀{env':Env},SubE env env'->∀p∈env',lk env p.1=some p.2
 |[],_,p,h=>by cases h
 |q::r,h,p,hp=>by
  rcases List.mem_cons.1 hp with rfl|hp
  ·exact h.1
  ·exact SubE.mem h.2 p hp
section
variable {n:Nat} {E:World} {bw:List Nat} {M:Mem} {w:World} {a:Act} {env env':Env} {bs bs':List Bx} {rs rs':List Rw}
theorem Sx.weak (hs:Sx n E bw M w a env bs rs) (hb:bs'.Sublist bs) (hr:rs'.Sublist rs) (he:SubE env env'):Sx n E bw M w a env' bs' rs':=
 ⟨hs.ag.sub env' he.mem,hs.on,hs.pr,λx hx=>hs.bx x (hb.subset hx),λr hx=>hs.rw r (hr.subset hx),
  hs.nd.sub hb hr⟩
theorem Sx.wk (hs:Sx n E bw M w a env bs rs) (he:SubE env env'):Sx n E bw M w a env' bs rs:=hs.weak (List.Sublist.refl _) (List.Sublist.refl _) he
theorem Sx.chbx (hs:Sx n E bw M w a env bs rs) (h:bs=bs'):Sx n E bw M w a env bs' rs:=h▸hs
theorem Sx.nilrow (hs:Sx n E bw M w a env bs rs) (e size:Nat):Sx n E bw M w a env bs (⟨.slice none 0 0,e,size,0,[],true⟩::rs):=
 ⟨hs.ag,hs.on,hs.pr,hs.bx,λr hr=>by
  rcases List.mem_cons.1 hr with rfl|hr
  ·exact⟨World.ownsRow_nil _ _ _ _,λg hg=>by cases hg⟩
  ·exact hs.rw r hr,hs.nd.b,λx hx r hr=>by
  rcases List.mem_cons.1 hr with rfl|hr
  ·intro e;cases e
  ·exact hs.nd.x x hx r hr,List.Pairwise.cons (λ_ _ _ h=>by cases h) hs.nd.r⟩
end
def MM (M' M:Mem) (E:World):Prop:=∀b o,M' b=some o->M b=some o\/E.heap.size<=b
theorem MM.next {M'' M' M:Mem} {E:World} (h:MM M' M E) (k:∀b o,M'' b=some o->M' b=some o\/E.heap.size<=b):MM M'' M E:=
 λb o q=>(k b o q).elim (h b o) .inr
def MX (M' M:Mem) (E:World):Prop:=M.le M'/\MM M' M E
theorem MX.refl (M:Mem) (E:World):MX M M E:=⟨Mem.le.refl M,λ_ _ h=>.inl h⟩
theorem MX.next {M'' M' M:Mem} {E:World} (h:MX M' M E) (hl:M'.le M'') (k:∀b o,M'' b=some o->M' b=some o\/E.heap.size<=b):MX M'' M E:=⟨h.1.trans hl,h.2.next k⟩
def mkS (l:List UInt8):ByteArray:=⟨⟨l⟩⟩
section
variable {P:Program} {fn:Func} {n:Nat} {E:World} {bw:List Nat} {M:Mem} {w:World} {a:Act} {env:Env} {bs:List Bx} {rs:List Rw}
end
end Go.Gx

namespace Go.Gx
open Go.RowKit
def WpD (P:Program) (ops:Array Oper) (Q:Exit->Act->World->Prop) (C:World->Prop) (keep:List Bool):Nat->Array Bool->Act->World->Prop
 |0,listed,a,w=>Region.ready .any ops listed=[]/\Q .normal a w
 |fuel+1,listed,a,w=>
  (Region.ready .any ops listed=[]->Q .normal a w)/\
  ∀i∈Region.ready .any ops listed,wpOp P ops Q i (λa' w'=>(keep.getD i false=true->C w->C w')/\WpD P ops Q C keep fuel (listed.setIfInBounds i true) a' w') a w
section
variable {P:Program} {ops:Array Oper} {Q:Exit->Act->World->Prop} {C:World->Prop} {keep:List Bool}
theorem wpAny_of_WpD:∀(fuel:Nat) (listed:Array Bool) (a:Act) (w:World),WpD P ops Q C keep fuel listed a w->wpAny P .any ops Q fuel listed a w
 |0,_,_,_,h=>h
 |fuel+1,_,_,_,h=>⟨h.1,λi hi=>wpOp_mono (λa' w' h'=>wpAny_of_WpD fuel _ a' w' h'.2) (h.2 i hi)⟩
def freeB (ops:Array Oper) (keep:List Bool) (listed:Array Bool) (i:Nat) (A:List Nat) (pure:Bool):Bool:=
 match ops[i]? with
 |none=>false
 |some oi=>(A.all λj=> !listed.getD j true&&j != i&&(match ops[j]? with
   |none=>false
   |some oj=>oj.after.toList.any λe=>Region.binds .any e&&(e.on==i||A.contains e.on)))&&
  (List.range ops.size).all λj=>j==i||listed.getD j true||A.contains j||(match ops[j]? with
   |none=>true
   |some oj=>oi.apart ops oj&&(keep.getD j false||pure))
def HangA (ops:Array Oper) (listed:Array Bool) (i:Nat) (A:List Nat):Prop:=
 ∀j∈A,listed.getD j true=false/\j≠i/\∃oj e,ops[j]?=some oj/\e∈oj.after/\Region.binds .any e=true/\(e.on=i\/e.on∈A)
theorem freeB_spec {listed:Array Bool} {i:Nat} {oi:Oper} {A:List Nat} {pure:Bool} (hi:ops[i]?=some oi) (h:freeB ops keep listed i A pure=true):
  HangA ops listed i A/\∀j oj,ops[j]?=some oj->j≠i->listed.getD j true=false->j∉A->oi.apart ops oj=true/\(keep.getD j false=true\/pure=true):=by
 unfold freeB at h
 rw[hi]at h
 simp only[Bool.and_eq_true]at h
 obtain⟨hA,hB⟩:=h
 refine⟨λj hj=>?_,λj oj hj hne hl hno=>?_⟩
 ·have h1:=List.all_eq_true.1 hA j hj
  simp only[Bool.and_eq_true,bne_iff_ne,Bool.not_eq_true']at h1
  obtain⟨⟨h1,h2⟩,h3⟩:=h1
  refine⟨h1,h2,?_⟩
  split at h3
  ·cases h3
  ·rename_i oj hoj
   obtain⟨e,he,h4⟩:=List.any_eq_true.1 h3
   simp only[Bool.and_eq_true,Bool.or_eq_true,beq_iff_eq,List.contains_iff_mem]at h4
   exact⟨oj,e,hoj,by simpa using he,h4.1,h4.2⟩
 ·have hjlt:j<ops.size:=(Array.getElem?_eq_some_iff.1 hj).1
  have h1:=List.all_eq_true.1 hB j (List.mem_range.2 hjlt)
  have hno':A.contains j=false:=by simpa using hno
  simp only[hj,Bool.or_eq_true,beq_iff_eq,hl,hno',Bool.and_eq_true]at h1
  rcases h1 with((h1|h1)|h1)|h1
  ·exact absurd h1 hne
  ·cases h1
  ·cases h1
  ·exact h1
theorem WpD.first {i:Nat} {oi:Oper} {v:Value} {A:List Nat} {C1:World->Prop} (hC1:∀w,C1 w->(∀w,C1 w)\/C w) (hC2:∀w,C w->C1 w) (hi:ops[i]?=some oi) (hsel:∀(j:Nat) (o:Oper) cs b,ops[j]?=some o->o.op≠.select cs b)
  (hQ:∀c a w,Q (.panic c) (a.put oi.dst v) w->Q (.panic c) a w):
  ∀(fuel:Nat) (listed:Array Bool) (a:Act) (w:World),HangA ops listed i A->
   (∀j oj,ops[j]?=some oj->j≠i->listed.getD j true=false->j∉A->oi.apart ops oj=true/\(keep.getD j false=true\/∀w,C1 w))->
   i∈Region.ready .any ops listed->YieldsIf P ops C1 oi v a->C1 w->
   WpD P ops Q C keep fuel (listed.setIfInBounds i true) (a.put oi.dst v) w->WpD P ops Q C keep (fuel+1) listed a w:=by
 intro fuel
 induction fuel with
 |zero=>
  intro listed a w _ _ hr hy hS H
  refine⟨λh=>(by rw[h]at hr;cases hr),λj hj=>?_⟩
  by_cases hji:j=i
  ·subst hji;exact hy.wpOp hi hS ⟨λ_ h=>h,H⟩
  ·have:=ready_mono hj hji
   rw[H.1]at this
   cases this
 |succ fuel ih=>
  intro listed a w hang hfree hr hy hS H
  refine⟨λh=>(by rw[h]at hr;cases hr),λj hj=>?_⟩
  by_cases hji:j=i
  ·subst hji;exact hy.wpOp hi hS ⟨λ_ h=>h,H⟩
  ·have h1:=H.2 j (ready_mono hj hji)
   obtain⟨hjun,oj,hoj,hall⟩:=mem_ready.1 hj
   have hun:listed.getD i true=false:=(mem_ready.1 hr).1
   have hjA:j∉A:=λhjA=>by
    obtain⟨_,_,oj',e,hoj',he,hbd,hon⟩:=hang j hjA
    rw[hoj]at hoj'
    cases hoj'
    have h1:=hall e he hbd
    have h0:listed.getD e.on true=false:=by
     rcases hon with rfl|hon
     ·exact hun
     ·exact(hang _ hon).1
    rcases Nat.lt_or_ge e.on listed.size with h'|h'
    ·simp[h']at h0 h1;rw[h0]at h1;cases h1
    ·simp[Array.getElem?_eq_none h']at h1
   have hfj:=hfree j oj hoj hji hjun hjA
   have h2:=wpOp_putIf hoj hfj.1 (λcs b=>hsel i oi cs b hi) (λcs b=>hsel j oj cs b hoj) hQ hy h1
   refine wpOp_mono (λa' w' h3=>⟨h3.2.1,ih (listed.setIfInBounds j true) a' w' (λk hk=>?_) (λk ok hk hki hun hno=>?_) (ready_mono hr (Ne.symm hji)) h3.1 (by
    rcases hfj.2 with hk|hall
    ·rcases hC1 w hS with hall|hc
     ·exact hall w'
     ·exact hC2 _ (h3.2.1 hk hc)
    ·exact hall w') ?_⟩) h2
   ·obtain⟨g1,g2,g3⟩:=hang k hk
    refine⟨?_,g2,g3⟩
    rw[getD_set_ne true (by rintro rfl;exact hjA hk)];exact g1
   ·refine hfree k ok hk hki ?_ hno
    by_cases hjk:j=k
    ·subst hjk;exact hjun
    ·rw[getD_set_ne true hjk]at hun;exact hun
   ·rw[Array.setIfInBounds_comm _ _ hji]
    exact h3.2.2
end
section
variable {P:Program} {ops:Array Oper} {Q:Exit->Act->World->Prop} {M0:Mem} {bs0:List Bx} {rs0:List Rw} {keep:List Bool} {n:Nat} {E:World} {bw:List Nat} {M:Mem} {w:World} {a:Act} {env:Env} {bs:List Bx} {rs:List Rw} {o:Oper} {fuel:Nat} {listed:Array Bool}
def QZ (Q:Exit->Act->World->Prop):Prop:=∀c (a:Act) d v w,Q (.panic c) (a.put d v) w->Q (.panic c) a w
theorem QZ.qq {N:Act->World->Prop} {X:List (Nat×(Act->World->Prop))} {R:Act->World->Prop} {fn:Func} {Rf:Ending->World->Prop}:
  QZ (QQ N X R (λch a w=>bodyPost P fn Rf (.panic ch) a w)):=by
 intro c a d v w h
 simp only[QQ,bodyPost]at h ⊢
 cases d<;>exact h
theorem QZ.no {N:Act->World->Prop} {X:List (Nat×(Act->World->Prop))} {R:Act->World->Prop}:QZ (QQ N X R (λ_ _ _=>False)):=λ_ _ _ _ _ h=>h
theorem wanted_none (hg:o.guard=none):Region.wanted o (yielded ops a.tmps)=true:=by simp[Region.wanted,hg]
theorem wanted_yes {j t:Nat} {b:Bool} (hs:Sx n E bw M w a env bs rs) (hg:o.guard=some (j,b)) (ht:(ops[j]?).bind (·.dst)=some t) (hl:lk env t=some (.bool b)):Region.wanted o (yielded ops a.tmps)=true:=by
 simp[Region.wanted,hg,yielded_of hs ht hl]
theorem wanted_no {j t:Nat} {b c:Bool} (hs:Sx n E bw M w a env bs rs) (hg:o.guard=some (j,b)) (ht:(ops[j]?).bind (·.dst)=some t) (hl:lk env t=some (.bool c)) (hne:(c==b)=false):Region.wanted o (yielded ops a.tmps)=false:=by
 simp[Region.wanted,hg,yielded_of hs ht hl]
 simpa using hne
theorem Sx.cxle {M0:Mem} {bs0:List Bx} {rs0:List Rw} (hs:Sx n E bw M w a env bs rs) (hl:M0.le M) (hb:bs0.Sublist bs) (hr:rs0.Sublist rs):Cx M0 bs0 rs0 w:=
 ⟨λb o h=>hs.on b o (hl b o h),λx hx=>(hs.bx x (hb.subset hx)).1,λr hx=>⟨_,(hs.rw r (hr.subset hx)).1⟩⟩
theorem stepDY (v:Value) (i:Nat) (A:List Nat) {d:Nat} (hs:Sx n E bw M w a env bs rs) (hC:Cx M0 bs0 rs0 w) (hQ:QZ Q) (ho:ops[i]?=some o) (hw:Region.wanted o (yielded ops a.tmps)=true) (hd:o.dst=some d) (hdn:d<n)
  (hsel:Region.noSelect ops=true) (hr:(Region.ready .any ops listed).contains i=true) (hf:freeB ops keep listed i A false=true) (hy:Yl P env M0 bs0 rs0 o v)
  (h:∀a',Sx n E bw M w a' ((d,v)::env) bs rs->WpD P ops Q (Cx M0 bs0 rs0) keep fuel (listed.setIfInBounds i true) a' w):WpD P ops Q (Cx M0 bs0 rs0) keep (fuel+1) listed a w:=by
 refine WpD.first (v:=v) (C1:=Cx M0 bs0 rs0) (λ_ h=>.inr h) (λ_ h=>h) ho (Region.noSelect_spec hsel) (λc a w h=>hQ c a _ _ w h) fuel listed a w (freeB_spec ho hf).1 (λj oj h1 h2 h3 h4=>?_) (by simpa using hr) (.inl ⟨hw,λw' hc=>?_⟩) hC ?_
 ·obtain⟨g1,g2⟩:=(freeB_spec ho hf).2 j oj h1 h2 h3 h4
  exact⟨g1,.inl (by simpa using g2)⟩
 ·rw[hs.ag.exec hy.1];exact hy.2 w' hc
 ·rw[hd];exact h _ (hs.act (hs.ag.put hdn v))
theorem Cx.none (w:World):Cx (λ_=>Option.none) [] [] w:=⟨(λ_ _ h=>by cases h),(λ_ h=>by cases h),(λ_ h=>by cases h)⟩
theorem stepDP (v:Value) (i:Nat) (A:List Nat) {d:Nat} (hs:Sx n E bw M w a env bs rs) (hQ:QZ Q) (ho:ops[i]?=some o) (hw:Region.wanted o (yielded ops a.tmps)=true) (hd:o.dst=some d) (hdn:d<n)
  (hsel:Region.noSelect ops=true) (hr:(Region.ready .any ops listed).contains i=true) (hf:freeB ops keep listed i A true=true) (hy:Yl P env (λ_=>Option.none) [] [] o v)
  (h:∀a',Sx n E bw M w a' ((d,v)::env) bs rs->WpD P ops Q (Cx M0 bs0 rs0) keep fuel (listed.setIfInBounds i true) a' w):WpD P ops Q (Cx M0 bs0 rs0) keep (fuel+1) listed a w:=by
 refine WpD.first (v:=v) (C1:=λ_=>True) (λ_ _=>.inl λ_=>trivial) (λ_ _=>trivial) ho (Region.noSelect_spec hsel) (λc a w h=>hQ c a _ _ w h) fuel listed a w (freeB_spec ho hf).1 (λj oj h1 h2 h3 h4=>⟨((freeB_spec ho hf).2 j oj h1 h2 h3 h4).1,.inr λ_=>trivial⟩) (by simpa using hr) (.inl ⟨hw,λw' _=>?_⟩) trivial ?_
 ·rw[hs.ag.exec hy.1];exact hy.2 w' (Cx.none w')
 ·rw[hd];exact h _ (hs.act (hs.ag.put hdn v))
theorem stepDN (i:Nat) (A:List Nat) {d:Nat} (hs:Sx n E bw M w a env bs rs) (hQ:QZ Q) (ho:ops[i]?=some o) (hw:Region.wanted o (yielded ops a.tmps)=false) (hd:o.dst=some d) (hdn:d<n)
  (hsel:Region.noSelect ops=true) (hr:(Region.ready .any ops listed).contains i=true) (hf:freeB ops keep listed i A true=true)
  (h:∀a',Sx n E bw M w a' ((d,undef)::env) bs rs->WpD P ops Q (Cx M0 bs0 rs0) keep fuel (listed.setIfInBounds i true) a' w):WpD P ops Q (Cx M0 bs0 rs0) keep (fuel+1) listed a w:=by
 refine WpD.first (v:=undef) (C1:=λ_=>True) (λ_ _=>.inl λ_=>trivial) (λ_ _=>trivial) ho (Region.noSelect_spec hsel) (λc a w h=>hQ c a _ _ w h) fuel listed a w (freeB_spec ho hf).1 (λj oj h1 h2 h3 h4=>⟨((freeB_spec ho hf).2 j oj h1 h2 h3 h4).1,.inr λ_=>trivial⟩) (by simpa using hr) (.inr ⟨hw,rfl⟩) trivial ?_
 rw[hd];exact h _ (hs.act (hs.ag.put hdn undef))
theorem stepDE (i:Nat) (ho:ops[i]?=some o) (hw:Region.wanted o (yielded ops a.tmps)=true) (hr:Region.ready .any ops listed=[i]) (ops1:Array Oper)
  (h:wpList P ops1 (λe a' w'=>match e with
   | .normal=>(keep.getD i false=true->Cx M0 bs0 rs0 w->Cx M0 bs0 rs0 w')/\WpD P ops Q (Cx M0 bs0 rs0) keep fuel (listed.setIfInBounds i true) a' w'
   | .panic c=>Q (.panic c) a' w'
   |_=>False) [{o with guard:=none}] a w):WpD P ops Q (Cx M0 bs0 rs0) keep (fuel+1) listed a w:=by
 refine⟨λh0=>(by rw[hr]at h0;cases h0),λj hj=>?_⟩
 rw[hr,List.mem_singleton]at hj
 subst hj
 unfold wpOp
 simp only[ho,hw,if_true]
 left
 unfold wpList at h
 rw[if_pos (by simp[Region.wanted])]at h
 rcases h with h|⟨_,a0,w0,h0⟩
 ·unfold Oper.wp at h ⊢
  have he:execOp a.eval {o with guard:=none}=execOp a.eval o:=rfl
  rw[he]at h
  generalize (execOp a.eval o).run P w=r at*
  cases r with
  |ok x w'=>
   cases x<;>simp only[Oper.upon,wpList]at h ⊢<;>try exact h
   case enter f args=>
    refine Calls.mono h λe w'' he=>?_
    cases e with
    |returned v=>exact he
    |panicked c=>exact he
    |outgrown=>obtain⟨a0,w0,h0⟩:=he;exact h0.elim
  |halt x w'=>cases x<;>simp only[Oper.upon]at h ⊢<;>exact h
 ·exact h0.elim
theorem WpD.done (hr:Region.ready .any ops listed=[]) (h:Q .normal a w):∀fuel,WpD P ops Q (Cx M0 bs0 rs0) keep fuel listed a w
 |0=>⟨hr,h⟩
 |_+1=>⟨λ_=>h,by rw[hr];simp⟩
end
theorem Sx.drew {n:Nat} {E:World} {bw:List Nat} {M:Mem} {w:World} {a:Act} {env:Env} {bs:List Bx} {rs:List Rw} (hs:Sx n E bw M w a env bs rs):Sx n E bw M w.drew a env bs rs:=
 hs.later ⟨rfl,rfl,rfl,Nat.le_refl _,λ_ _=>rfl⟩ hs.on (λ_ _=>rfl)
theorem Wp.regionD {P:Program} {N:Act->World->Prop} {X:List (Nat×(Act->World->Prop))} {R:Act->World->Prop} {Z:List PanicEntry->Act->World->Prop} {a:Act} {w:World} {n:Nat} {E:World} {bw:List Nat} {M:Mem} {env:Env} {bs:List Bx} {rs:List Rw}
  {id k:Nat} {l:List Oper} (keep:List Bool) (hs:Sx n E bw M w a env bs rs) (hm:P.follows .mixedOrders=true) (hk:l.length=k) (bs0:List Bx) (hbs:∀x∈bs0,x∈bs) (rs0:List Rw) (hrs:∀x∈rs0,x∈rs)
  (h:∀w,Sx n E bw M w a env bs rs->Cx M bs0 rs0 w->WpD P l.toArray (QQ N X R Z) (Cx M bs0 rs0) keep k (Array.replicate k false) a w):Wp P (.region id l.toArray true) N X R Z a w:=by
 subst hk
 exact wp_region_any hm (by simpa using wpAny_of_WpD _ _ _ _ (h w.drew hs.drew ⟨hs.drew.cx.on,λx hx=>hs.drew.cx.bx x (hbs x hx),λx hx=>hs.drew.cx.rw x (hrs x hx)⟩))
end Go.Gx

namespace Go.Gx
open Go.RowKit
section
variable {P:Program} {env:Env} {M:Mem} {bs:List Bx} {rs:List Rw} {d:Option Tmp} {ty:TypeId} {pos:String} {af:Array Edge} {gd:Option (Nat×Bool)}
theorem mkS_size (l:List UInt8):(mkS l).size=l.length:=rfl
theorem mkS_eta (s:ByteArray):s=mkS s.data.toList:=by cases s;rfl
theorem mkS_extract (l:List UInt8) (a b:Nat):(mkS l).extract a b=mkS ((l.take b).drop a):=by
 rw[mkS_eta ((mkS l).extract a b)]
 congr 1
 simp[ByteArray.data_extract,mkS,List.extract,List.take_drop]
 rw[List.drop_take,List.drop_take,show a+(b-a)-a=b-a by omega]
theorem run_sliceBound {k:IntKind} {n:Int} {y:Nat} {code:BoundsCode} (w:World) (h0:0<=n) (h1:n<=y):(Instr.sliceBound (.int k n) y code).run P w= .ok n.toNat w:=by
 simp[Instr.sliceBound,asIntOf,h0,h1]
theorem Yl.sliceStrLH {t:TypeId} {x lo hi:Operand} {l:List UInt8} {k k':IntKind} {a b:Int} (hkx:known env x=true) (hka:known env lo=true) (hkb:known env hi=true) (hx:evT env x= .string (mkS l)) (ha:evT env lo= .int k a) (hb:evT env hi= .int k' b)
  (hu:P.underlying t=some .string) (h0:0<=a) (h1:a<=b) (h2:b<=(l.length:Int)):Yl P env M bs rs ⟨d,.slice t x (some lo) (some hi) none,ty,pos,af,gd⟩ (.string (mkS ((l.take b.toNat).drop a.toNat))):=by
 refine⟨by simp[okOp,notSel,Op.operands,hkx,hka,hkb],λw _=>?_⟩
 have e1:=run_sliceBound (P:=P) (k:=k') (n:=b) (y:=l.length) (code:=.sliceAlen) w (by omega) h2
 have e2:=run_sliceBound (P:=P) (k:=k) (n:=a) (y:=b.toNat) (code:=.sliceB) w h0 (by omega)
 simp[execOp,Instr.sliceAt,Instr.slice,Instr.sliceBounds,hx,ha,hb,run_underlying hu,mkS_size,e1,e2,mkS_extract]
theorem mkS_append (a b:List UInt8):mkS a++mkS b=mkS (a++b):=ByteArray.mk_append_mk a b
theorem Yl.concat {t u:TypeId} {x y:Operand} {a b:List UInt8} (hkx:known env x=true) (hky:known env y=true) (hx:evT env x= .string (mkS a)) (hy:evT env y= .string (mkS b)) (hl:a.length+b.length<=9223372036854775807):
  Yl P env M bs rs ⟨d,.binOp .add t x y u,ty,pos,af,gd⟩ (.string (mkS (a++b))):=by
 refine⟨by simp[okOp,notSel,Op.operands,hkx,hky],λw _=>?_⟩
 have:=run_string_add_sum (P:=P) (w:=w) (mkS a) (mkS b) hl
 simp[execOp,eqGuard,hx,hy,binOp,this,mkS_append]
def cellsEq (xs ys:List Int):Bool:=xs==ys
def slA (a:Option Addr) (lo c size:Nat):Option Addr:=if c=lo then a else a.map (·.add (lo*size))
theorem Yl.sliceSH {t e:TypeId} {sz l c:Nat} {ad:Option Addr} {x hi:Operand} {k':IntKind} {b:Int} (hkx:known env x=true) (hkb:known env hi=true) (hx:evT env x= .slice ad l c) (hb:evT env hi= .int k' b)
  (hu:P.underlying t=some (.slice e)) (hn:(P.info? e).map (·.size)=some sz) (h1:0<=b) (h2:b<=(c:Int)):Yl P env M bs rs ⟨d,.slice t x none (some hi) none,ty,pos,af,gd⟩ (.slice ad b.toNat c):=by
 refine⟨by simp[okOp,notSel,Op.operands,hkx,hkb],λw _=>?_⟩
 have e1:=run_sliceBound (P:=P) (k:=k') (n:=b) (y:=c) (code:=.sliceAcap) w (by omega) h2
 cases hi':P.info? e with
 |none=>simp[hi']at hn
 |some ti=>
  have:(Option.map (λx:Addr=>x.add 0) ad)=ad:=by cases ad<;>simp[Addr.add]
  simp[execOp,Instr.sliceAt,Instr.slice,Instr.sliceBounds,hx,hb,run_underlying hu,e1,sizeOf,typeInfo,hi',this]
end
end Go.Gx

namespace Go.Gx
open Go.RowKit
section
variable {P:Program}
end
section
variable {P:Program} {env:Env} {M:Mem} {bs:List Bx} {rs:List Rw} {d:Option Tmp} {ty:TypeId} {pos:String} {af:Array Edge} {gd:Option (Nat×Bool)}
end
end Go.Gx

namespace Go.Gx
open Go.RowKit
def SlV (M:Mem) (a:Option Addr) (l c size:Nat) (xs:List Value):Prop:=
 xs.length=l*size/\l<=c/\c<=maxLen/\(0<l->∃b o,a=some ⟨b,o,none⟩/\At M b o xs)
theorem SlV.le {M M':Mem} {a:Option Addr} {l c size:Nat} {xs:List Value} (h:SlV M a l c size xs) (hl:M.le M'):SlV M' a l c size xs:=
 ⟨h.1,h.2.1,h.2.2.1,λh0=>by obtain⟨b,o,e,ha⟩:=h.2.2.2 h0;exact⟨b,o,e,ha.le hl⟩⟩
def Cs (xs:List Value) (k:Nat) (vs:List Value):Prop:=(xs.drop k).take vs.length=vs
section
variable {P:Program} {ops:Array Oper} {Q:Exit->Act->World->Prop} {n:Nat} {E:World} {bw:List Nat} {M:Mem} {w:World} {a:Act} {env:Env} {bs:List Bx} {rs:List Rw} {rest:List Oper}
theorem ownsRow_form {base:Nat} {e size n:Nat} {v:Value} {xs:List Value} (h:w.ownsRow base e size v n xs):
  ∃ad cap,v= .slice ad n cap/\n<=cap/\cap<=maxLen/\(ad=none/\n=0/\cap=0\/∃g,ad=some ⟨g,0,none⟩):=by
 rcases h.2 with⟨rfl,rfl⟩|⟨g,cap,cur,rfl,_,_,h1,h2,_,_⟩
 ·exact⟨none,0,rfl,Nat.le_refl _,Nat.zero_le _,.inl ⟨rfl,rfl,rfl⟩⟩
 ·exact⟨_,cap,rfl,h1,h2,.inr ⟨g,rfl⟩⟩
theorem Sx.rowform (hs:Sx n E bw M w a env bs rs) (i:Nat) {r:Rw} (hi:rs[i]?=some r):∃ad cap,r.v= .slice ad r.n cap/\r.n<=cap/\r.xs.length=r.n*r.size:=by
 obtain⟨h1,_⟩:=hs.rw r (List.mem_of_getElem? hi)
 obtain⟨ad,cap,e,h2,_,_⟩:=ownsRow_form h1
 exact⟨ad,cap,e,h2,h1.1⟩
theorem Sx.chrs {rs':List Rw} (hs:Sx n E bw M w a env bs rs) (h:rs=rs'):Sx n E bw M w a env bs rs':=h▸hs
theorem lenb {k bytes:Nat} (h:k*bytes<=140737488355328) (h0:0<bytes):k<=maxLen:=by
 have:k*1<=k*bytes:=Nat.mul_le_mul_left k h0
 unfold maxLen
 omega
theorem Sx.rowblk (hs:Sx n E bw M w a env bs rs) (i:Nat) {e size k cap:Nat} {ad:Option Addr} {xs:List Value} {ow:Bool} (hi:rs[i]?=some ⟨.slice ad k cap,e,size,k,xs,ow⟩) (h0:0<k):∃g,ad=some ⟨g,0,none⟩:=by
 obtain⟨h1,_⟩:=hs.rw _ (List.mem_of_getElem? hi)
 obtain⟨ad',cap',he,_,_,h2⟩:=ownsRow_form h1
 simp only[Value.slice.injEq]at he
 obtain⟨rfl,_,rfl⟩:=he
 rcases h2 with⟨_,h3,_⟩|h2
 ·simp only at h3;omega
 ·exact h2
theorem Sx.newrow (hs:Sx n E bw M w a env bs rs) (cs:List Value) (e size k:Nat) (hl:cs.length=k*size) (hm:k<=maxLen) {a':Act} {env':Env} (hA:Ag n a' env'):
  Sx n E bw M (w.alloc (.cells cs.toArray e)) a' env' bs (⟨.slice (some ⟨w.heap.size,0,none⟩) k k,e,size,k,cs,true⟩::rs):=by
 have hb:Below w.heap.size w (w.alloc (.cells cs.toArray e)):=(Below.refl _ w).alloc (Nat.le_refl _) _
 have h1:=(hs.later hb (hs.on.later hb) (λ_ _=>rfl)).act hA
 refine⟨hA,h1.on,h1.pr,h1.bx,λr hr=>?_,hs.nd.b,λx hx r hr=>?_,List.Pairwise.cons (λs hs' g hg=>?_) hs.nd.r⟩
 ·rcases List.mem_cons.1 hr with rfl|hr
  ·refine⟨⟨hl,.inr ⟨w.heap.size,k,cs.toArray,rfl,Nat.zero_le _,heap_alloc_new w _,Nat.le_refl _,hm,by simpa using hl,by simp[<-hl]⟩⟩,λg hg=>?_⟩
   simp only[Value.ownBlock,Option.some.injEq]at hg
   subst hg
   exact⟨hs.on.noneAt (Nat.le_refl _),.inl hs.pr.size⟩
  ·exact h1.rw r hr
 ·rcases List.mem_cons.1 hr with rfl|hr
  ·simp only[Value.ownBlock,ne_eq,Option.some.injEq]
   have:=(hs.bx x hx).1.lt
   omega
  ·exact hs.nd.x x hx r hr
 ·simp only[Value.ownBlock,Option.some.injEq]at hg
  subst hg
  intro e'
  have:=((hs.rw s hs').1.lt _ e').2
  omega
theorem stepMake (cs:List Value) (e size k:Nat) {d:Nat} {o:Oper} (hs:Sx n E bw M w a env bs rs) (hk:okOp env o=true) (hg:o.guard=none) (hd:o.dst=some d)
  (hrun:∀w,(execOp (evT env) o).run P w= .ok (.value (.slice (some ⟨w.heap.size,0,none⟩) k k)) (w.alloc (.cells cs.toArray e))) (hl:cs.length=k*size) (hm:k<=maxLen) (hdn:d<n)
  (h:∀a' w' v,Sx n E bw M w' a' ((d,v)::env) bs (⟨v,e,size,k,cs,true⟩::rs)->wpList P ops Q rest a' w'):wpList P ops Q (o::rest) a w:=by
 refine stepK (Z:=λ_ _=>False) (d:=d) hs (λ_ _ h=>h.elim) hg hk hd hdn ?_
 refine OpW.of_run (hrun w) ?_
 intro a' hA
 exact h a' _ _ (hs.newrow cs e size k hl hm hA)
theorem Sx.rowset {w':World} (hs:Sx n E bw M w a env bs rs) (i:Nat) {r r':Rw} (hi:rs[i]?=some r) (hg:w.grownBy w' r.v.ownBlock)
  (hfl:r'.own=r.own) (hown:w'.ownsRow 0 r'.e r'.size r'.v r'.n r'.xs) (hblk:r'.v.ownBlock=r.v.ownBlock\/r'.v.ownBlock=none\/r'.v.ownBlock=some w.heap.size) {a':Act} {env':Env} (hA:Ag n a' env'):
  Sx n E bw M w' a' env' bs (rs.set i r'):=by
 have hr:=hs.rw r (List.mem_of_getElem? hi)
 have hne:∀k,k<w.heap.size->r.v.ownBlock≠some k->w'.heap[k]?=w.heap[k]?:=λk hk h=>hg.block k hk (λe=>h e.symm)
 have hlt:∀g,r'.v.ownBlock=some g->(r.v.ownBlock=some g\/g=w.heap.size):=λg hg'=>by
  rcases hblk with h|h|h
  ·exact .inl (h▸hg')
  ·rw[h]at hg';cases hg'
  ·rw[h]at hg';exact .inr (by simpa using hg'.symm)
 have hiL:i<rs.length:=(List.getElem?_eq_some_iff.1 hi).1
 have hmem:∀s∈rs.set i r',s=r'\/∃j,rs[j]?=some s/\i≠j:=by
  intro s hs'
  obtain⟨j,hj⟩:=List.mem_iff_getElem?.1 hs'
  rw[List.getElem?_set]at hj
  by_cases hij:i=j
  ·subst hij
   rw[if_pos rfl,if_pos hiL]at hj
   simp only[Option.some.injEq]at hj
   exact .inl hj.symm
  ·rw[if_neg hij]at hj;exact .inr ⟨j,hj,hij⟩
 have hpw:∀j s,rs[j]?=some s->i≠j->∀g,r.v.ownBlock=some g->s.v.ownBlock≠some g:=by
  intro j s hj hij g hg1 hg2
  obtain⟨hjl,hj'⟩:=List.getElem?_eq_some_iff.1 hj
  obtain⟨_,hi'⟩:=List.getElem?_eq_some_iff.1 hi
  have hp:=List.pairwise_iff_getElem.1 hs.nd.r
  rcases Nat.lt_or_ge i j with h|h
  ·have:=hp i j hiL hjl h g
   rw[hi',hj']at this
   exact this hg1 hg2
  ·have:=hp j i hjl hiL (by omega) g
   rw[hi',hj']at this
   exact this hg2 hg1
 have hkp:∀j s,rs[j]?=some s->i≠j->s.v.ownBlock=none\/s.v.ownBlock≠r.v.ownBlock:=by
  intro j s hj hij
  cases hb:s.v.ownBlock with
  |none=>exact .inl rfl
  |some g=>exact .inr λe=>hpw j s hj hij g e.symm hb
 refine⟨hA,λb o hb=>?_,?_,λx hx=>?_,λs hs'=>?_,hs.nd.b,λx hx s hs'=>?_,?_⟩
 ·rw[hne b (hs.on.lt hb) (λe=>by rw[(hr.2 b e).1]at hb;cases hb)];exact hs.on b o hb
 ·obtain⟨h1,h2,h3,h4,h5⟩:=hs.pr
  refine⟨hg.os.trans h1,hg.tape.trans h2,hg.output.trans h3,Nat.le_trans h4 hg.size,λk hk hn=>?_⟩
  rw[hne k (by omega) (λe=>by
   rcases(hr.2 k e).2 with h|h
   ·omega
   ·exact hn h.2)]
  exact h5 k hk hn
 ·obtain⟨g1,g2,g3⟩:=hs.bx x hx
  exact⟨(hne _ g1.lt (hs.nd.x x hx r (List.mem_of_getElem? hi))).trans g1,g2,g3⟩
 ·rcases hmem s hs' with rfl|⟨j,hj,hij⟩
  ·refine⟨hown,λg hg'=>?_⟩
   rcases hlt g hg' with h|rfl
   ·rw[hfl];exact hr.2 g h
   ·exact⟨hs.on.noneAt (Nat.le_refl _),.inl hs.pr.size⟩
  ·obtain⟨g1,g2⟩:=hs.rw s (List.mem_of_getElem? hj)
   exact⟨g1.kept hg (hkp j s hj hij),g2⟩
 ·rcases hmem s hs' with rfl|⟨j,hj,hij⟩
  ·intro e
   rcases hlt _ e with h|h
   ·exact hs.nd.x x hx r (List.mem_of_getElem? hi) h
   ·have:=(hs.bx x hx).1.lt
    omega
  ·exact hs.nd.x x hx s (List.mem_of_getElem? hj)
 ·refine List.pairwise_iff_getElem.2 λp q hp hq hpq g hg1=>?_
  simp only[List.length_set]at hp hq
  rw[List.getElem_set]at hg1 ⊢
  have old:∀j (hj:j<rs.length),i≠j->∀g,r'.v.ownBlock=some g->rs[j].v.ownBlock≠some g:=by
   intro j hj hij g h1 h2
   rcases hlt g h1 with h|rfl
   ·exact hpw j rs[j] (List.getElem?_eq_getElem hj) hij g h h2
   ·have:=((hs.rw rs[j] (List.getElem_mem hj)).1.lt _ h2).2
    omega
  by_cases hip:i=p
  ·rw[if_pos hip]at hg1
   rw[if_neg (by omega)]
   exact old q hq (by omega) g hg1
  ·rw[if_neg hip]at hg1
   by_cases hiq:i=q
   ·rw[if_pos hiq]
    exact λh=>old p hp hip g h hg1
   ·rw[if_neg hiq]
    exact List.pairwise_iff_getElem.1 hs.nd.r p q hp hq hpq g hg1
def Src (w:World) (A:Option Addr) (m size:Nat) (news:List Value):Prop:=
 news.length=m*size/\(∀u∈news,u.oneCell'=true)/\(0<m->∃ad,A=some ad/\∀j u,news[j]?=some u->w.cell? (ad.add j)=some u)
theorem run_append_src {base:Nat} {t ty e:TypeId} {size bytes:Nat} (ht:P.underlying t=some (.slice e)) (hi:(P.info? e).map (λi=>(i.size,i.bytes,i.zero.map (·.cells.size)))=some (size,bytes,some size)) (hsz:0<size)
  {v:Value} {n:Nat} {xs:List Value} (hown:w.ownsRow base e size v n xs) {A:Option Addr} {m c:Nat} {news:List Value} (hr:Src w A m size news)
  (h63:n+m<=maxLen) (hbytes:(n+m)*bytes<=140737488355328) (hbase:base<=w.heap.size):
  ∃v' w',(Builtin.append_ #[t,t] ty #[v,.slice A m c]).run P w= .ok v' w'/\w'.ownsRow base e size v' (n+m) (xs++news)/\w.grownBy w' v.ownBlock/\
   (v'.ownBlock=v.ownBlock\/v'.ownBlock=none\/v'.ownBlock=some w.heap.size):=by
 cases hinf:P.info? e with
 |none=>simp[hinf]at hi
 |some i=>
  simp only[hinf,Option.map_some,Option.some.injEq,Prod.mk.injEq]at hi
  obtain⟨h1,h2,h3⟩:=hi
  cases hz:i.zero with
  |none=>simp[hz]at h3
  |some z=>
   simp only[hz,Option.map_some,Option.some.injEq]at h3
   rcases A with _|ad
   ·have hm:m=0:=by
     rcases Nat.eq_zero_or_pos m with h0|h0
     ·exact h0
     ·obtain⟨ad,h,_⟩:=hr.2.2 h0;cases h
    subst hm
    have hn:news=[]:=List.eq_nil_of_length_eq_zero (by simpa using hr.1)
    subst hn
    refine⟨v,w,?_,by simpa using hown,World.grownBy.refl w _,.inl rfl⟩
    rcases hown.2 with⟨rfl,rfl⟩|⟨g,cap,cur,rfl,_,_,hnc,_⟩
    ·simp[Builtin.append_,run_underlying ht,sizeOf,typeInfo,hinf,Builtin.lenOf,Builtin.firstCells]
    ·simp[Builtin.append_,run_underlying ht,sizeOf,typeInfo,hinf,Builtin.lenOf,Builtin.firstCells,hnc,storeCells]
   ·have hcells:∀j u,news[j]?=some u->w.cell? (ad.add j)=some u:=by
     intro j u hu
     rcases Nat.eq_zero_or_pos m with h0|h0
     ·subst h0
      have hn:news=[]:=List.eq_nil_of_length_eq_zero (by simpa using hr.1)
      subst hn
      simp at hu
     ·obtain⟨ad',h,hc⟩:=hr.2.2 h0
      injection h with h
      subst h
      exact hc j u hu
    obtain⟨v',w',hrun,g2,g3,_,g5⟩:=run_append_own_at (P:=P) w base t ty e i z size bytes ht hinf hz h1 h2 h3 hsz v n xs hown ad m c news hr.1 hcells hr.2.1 h63 hbytes hbase
    exact⟨v',w',hrun,g2,g3,g5.imp id .inr⟩
theorem run_call_append {d:Option Tmp} {ty:TypeId} {x y:Operand} {t:TypeId} {pos:String} {af:Array Edge} {gd:Option (Nat×Bool)} {vx vy:Value} (hx:evT env x=vx) (hy:evT env y=vy):
  (execOp (evT env) ⟨d,.call {callee:=.builtin .append,args:= #[x,y],argTypes:= #[t,t]},ty,pos,af,gd⟩).run P w=((Builtin.append_ #[t,t] ty #[vx,vy]).run P w).andThen λv w'=>.ok (.value v) w':=by
 simp[execOp,resolve,invoke,builtin,hx,hy]
theorem stepAppend (i:Nat) {d:Nat} {ty:TypeId} {x y:Operand} {t e:TypeId} {size bytes:Nat} {pos:String} {af:Array Edge} {v:Value} {k:Nat} {xs:List Value} {A:Option Addr} {m c:Nat} {ow:Bool} (news:List Value)
  (hs:Sx n E bw M w a env bs rs) (hi:rs[i]?=some ⟨v,e,size,k,xs,ow⟩) (hkx:known env x=true) (hky:known env y=true) (hx:evT env x=v) (hy:evT env y= .slice A m c)
  (ht:P.underlying t=some (.slice e)) (hinf:(P.info? e).map (λi=>(i.size,i.bytes,i.zero.map (·.cells.size)))=some (size,bytes,some size)) (hsz:0<size) (hdn:d<n)
  (hr:Src w A m size news) (h63:k+m<=maxLen) (hbytes:(k+m)*bytes<=140737488355328)
  (h:∀a' w' v',Sx n E bw M w' a' ((d,v')::env) bs (rs.set i ⟨v',e,size,k+m,xs++news,ow⟩)->wpList P ops Q rest a' w'):
  wpList P ops Q (⟨some d,.call {callee:=.builtin .append,args:= #[x,y],argTypes:= #[t,t]},ty,pos,af,none⟩::rest) a w:=by
 refine stepK (Z:=λ_ _=>False) (d:=d) hs (λ_ _ h=>h.elim) rfl (by simp[okOp,notSel,Op.operands,Call.operands,hkx,hky]) rfl hdn ?_
 obtain⟨v',w',hrun,h1,h2,h3⟩:=run_append_src (P:=P) (ty:=ty) (c:=c) ht hinf hsz (hs.rw _ (List.mem_of_getElem? hi)).1 hr h63 hbytes (Nat.zero_le _)
 refine OpW.of_run (w':=w') (v:=v') (by rw[run_call_append hx hy,hrun];rfl) ?_
 intro a' hA
 exact h a' w' v' (hs.rowset (r':=⟨v',e,size,k+m,xs++news,ow⟩) i hi h2 rfl h1 h3 hA)
theorem Sx.srcRow (hs:Sx n E bw M w a env bs rs) (j:Nat) {A:Option Addr} {m c:Nat} {e size:Nat} {news:List Value} {ow:Bool} (hj:rs[j]?=some ⟨.slice A m c,e,size,m,news,ow⟩) (h1:news.all (·.oneCell')=true):Src w A m size news:=by
 obtain⟨g1,_⟩:=hs.rw _ (List.mem_of_getElem? hj)
 refine⟨g1.1,λu hu=>List.all_eq_true.1 h1 u hu,λh0=>?_⟩
 obtain⟨ad,cap,he,_,_,h2⟩:=ownsRow_form g1
 simp only[Value.slice.injEq]at he
 obtain⟨rfl,_,rfl⟩:=he
 rcases h2 with⟨_,h3,_⟩|⟨g,rfl⟩
 ·simp only at h3;omega
 ·exact⟨_,rfl,λj u hu=>g1.cells (g:=g) rfl j u hu⟩
theorem Sx.srcV (hs:Sx n E bw M w a env bs rs) {A:Option Addr} {m c size:Nat} {news:List Value} (h:SlV M A m c size news) (h1:∀u∈news,u.oneCell'=true):Src w A m size news:=by
 refine⟨h.1,h1,λh0=>?_⟩
 obtain⟨b,o,rfl,ha⟩:=h.2.2.2 h0
 exact⟨_,rfl,λj u hu=>by rw[add_lit];exact hs.on.cell (ha j u hu)⟩
theorem Sx.release (hs:Sx n E bw M w a env bs rs) (i:Nat) {A:Option Addr} {l c:Nat} {e size:Nat} {xs:List Value} (hi:rs[i]?=some ⟨.slice A l c,e,size,l,xs,true⟩) (rs':List Rw) (hrs:rs.eraseIdx i=rs'):
  ∃M',M.le M'/\SlV M' A l c size xs/\(∀b o,M' b=some o->M b=some o\/E.heap.size<=b)/\Sx n E bw M' w a env bs rs':=by
 subst hrs
 obtain⟨g1,g2⟩:=hs.rw _ (List.mem_of_getElem? hi)
 have hiL:i<rs.length:=(List.getElem?_eq_some_iff.1 hi).1
 have hsub:(rs.eraseIdx i).Sublist rs:=List.eraseIdx_sublist rs i
 obtain⟨ad,cap,he,hc1,hc2,h2⟩:=ownsRow_form g1
 simp only[Value.slice.injEq]at he
 obtain⟨rfl,_,rfl⟩:=he
 rcases h2 with⟨rfl,h3,h4⟩|⟨g,rfl⟩
 ·simp only at h3 h4
  refine⟨M,Mem.le.refl M,⟨g1.1,hc1,hc2,λh0=>by omega⟩,λ_ _ h=>.inl h,hs.ag,hs.on,hs.pr,hs.bx,λr hr=>hs.rw r (hsub.subset hr),hs.nd.sub (List.Sublist.refl _) hsub⟩
 ·have hg:=(g2 g rfl).1
  have hbg:E.heap.size<=g:=by
   rcases(g2 g rfl).2 with h|h
   ·exact h
   ·cases h.1
  obtain⟨_,hlt⟩:=g1.lt g rfl
  rcases g1.2 with⟨h0,_⟩|⟨g',cap',cur,hv,_,hcell,_,_,_,htake⟩
  ·cases h0
  ·simp only[Value.slice.injEq,Option.some.injEq,Addr.mk.injEq,and_true]at hv
   obtain⟨rfl,_,rfl⟩:=hv
   refine⟨λb=>if b=g then w.heap[g]? else M b,λb o hb=>?_,⟨g1.1,hc1,hc2,λ_=>⟨g,0,rfl,λj v hj=>?_⟩⟩,λb o hb=>?_,hs.ag,λb o hb=>?_,hs.pr,λx hx=>?_,λr hr=>?_,hs.nd.sub (List.Sublist.refl _) hsub⟩
   ·show(if b=g then w.heap[g]? else M b)=some o
    rw[if_neg (by rintro rfl;rw[hg]at hb;cases hb)];exact hb
   ·unfold Mem.cell
    simp only[if_true,hcell]
    change List.take (l*size) cur.toList=xs at htake
    rw[<-htake,List.getElem?_take]at hj
    split at hj
    ·simpa using hj
    ·cases hj
   ·change (if b=g then w.heap[g]? else M b)=some o at hb
    by_cases hbg':b=g
    ·exact .inr (hbg'▸hbg)
    ·rw[if_neg hbg']at hb;exact .inl hb
   ·change (if b=g then w.heap[g]? else M b)=some o at hb
    by_cases hbg':b=g
    ·rw[if_pos hbg']at hb;rw[hbg'];exact hb
    ·rw[if_neg hbg']at hb;exact hs.on b o hb
   ·obtain⟨k1,k2,k3⟩:=hs.bx x hx
    refine⟨k1,?_,k3⟩
    show(if x.b=g then w.heap[g]? else M x.b)=none
    rw[if_neg (λe=>hs.nd.x x hx _ (List.mem_of_getElem? hi) (by rw[e];rfl))];exact k2
   ·obtain⟨k1,k2⟩:=hs.rw r (hsub.subset hr)
    refine⟨k1,λg' hg'=>⟨?_,(k2 g' hg').2⟩⟩
    show(if g'=g then w.heap[g]? else M g')=none
    rw[if_neg ?_]
    ·exact(k2 g' hg').1
    ·rintro rfl
     obtain⟨j,hj⟩:=List.mem_iff_getElem?.1 hr
     rw[List.getElem?_eraseIdx]at hj
     have hp:=List.pairwise_iff_getElem.1 hs.nd.r
     obtain⟨_,hi'⟩:=List.getElem?_eq_some_iff.1 hi
     by_cases hji:j<i
     ·rw[if_pos hji]at hj
      obtain⟨hjl,hj'⟩:=List.getElem?_eq_some_iff.1 hj
      have:=hp j i hjl hiL hji g'
      rw[hj',hi']at this
      exact this hg' rfl
     ·rw[if_neg hji]at hj
      obtain⟨hjl,hj'⟩:=List.getElem?_eq_some_iff.1 hj
      have:=hp i (j+1) hiL hjl (by omega) g'
      rw[hj',hi']at this
      exact this rfl hg'
end
section
variable {P:Program} {env:Env} {M:Mem} {bs:List Bx} {rs:List Rw} {d:Option Tmp} {ty:TypeId} {pos:String} {af:Array Edge} {gd:Option (Nat×Bool)}
theorem Yl.lenR (i:Nat) {x:Operand} {t e':TypeId} {v:Value} {e size k:Nat} {xs:List Value} {ow:Bool} (hi:rs[i]?=some ⟨v,e,size,k,xs,ow⟩) (hk:known env x=true) (hx:evT env x=v) (ht:P.underlying t=some (.slice e')):
  Yl P env M bs rs ⟨d,.call {callee:=.builtin .len,args:= #[x],argTypes:= #[t]},ty,pos,af,gd⟩ (.int .i64 ((k:Nat):Int)):=by
 refine⟨by simp[okOp,notSel,Op.operands,Call.operands,hk],λw hc=>?_⟩
 obtain⟨base,g1⟩:=hc.rw _ (List.mem_of_getElem? hi)
 obtain⟨ad,cap,he,_⟩:=ownsRow_form g1
 simp only at he
 subst he
 simp[execOp,resolve,invoke,builtin,hx,Builtin.len_,run_underlying ht,goInt]
theorem Yl.loadR (i:Nat) {t:TypeId} {x:Operand} {g k n cap e size:Nat} {ad:Option Addr} {xs vs:List Value} {ow:Bool} (ag:Bool) (hi:rs[i]?=some ⟨.slice ad n cap,e,size,n,xs,ow⟩) (had:ad=some ⟨g,0,none⟩) (hk:known env x=true) (hx:evT env x= .pointer (some ⟨g,k,none⟩))
  (ht:tyOk P t ag vs.length=true) (h:Cs xs k vs):Yl P env M bs rs ⟨d,.load t x,ty,pos,af,gd⟩ (ofCells ag vs):=by
 subst had
 obtain⟨h1,h2,h3,h4⟩:=tyOk_spec ht
 refine⟨by simp[okOp,notSel,Op.operands,hk],λw hc=>?_⟩
 obtain⟨base,g1⟩:=hc.rw _ (List.mem_of_getElem? hi)
 have:=run_load_at (P:=P) (b:=g) (o:=k) h1 h2 h3 h4 (λj v hj=>by
  have hjl:j<vs.length:=(List.getElem?_eq_some_iff.1 hj).1
  rw[<-h,List.getElem?_take,if_pos hjl,List.getElem?_drop]at hj
  have:=g1.cells (g:=g) rfl (k+j) v hj
  rw[add_lit,Nat.zero_add]at this
  exact this)
 simp[execOp,Instr.loadAt,hx,Instr.sureAddr,this]
end
end Go.Gx

namespace Go.Gx
open Go.RowKit
structure Sy (E:World) (bw:List Nat) (M:Mem) (w:World) (bs:List Bx) (rs:List Rw):Prop where
 on:On M w
 pr:Pres E bw w
 bx:∀x∈bs,BxAt w x/\M x.b=none/\(E.heap.size<=x.b\/x.b∈bw)
 rw:∀r∈rs,w.ownsRow 0 r.e r.size r.v r.n r.xs/\∀g,r.v.ownBlock=some g->M g=none/\(E.heap.size<=g\/(r.own=false/\g∈bw))
 nd:Nd bs rs
theorem Sy.sx {n:Nat} {E:World} {bw:List Nat} {M:Mem} {w:World} {a:Act} {env:Env} {bs:List Bx} {rs:List Rw} (h:Sy E bw M w bs rs) (hA:Ag n a env):Sx n E bw M w a env bs rs:=⟨hA,h.on,h.pr,h.bx,h.rw,h.nd⟩
def blk (lb:List Bx) (lr:List Rw):List Nat:=lb.map (·.b)++lr.filterMap (·.v.ownBlock)
def CallL (P:Program) (f:FuncId) (args:Array Value) (M:Mem) (lb:List Bx) (lr:List Rw) (K:Value->List Bx->List Rw->Mem->Prop):Prop:=
 ∀w,Sy w (blk lb lr) M w lb lr->Calls P f args w λe w'=>∃v lb' lr' M',e= .returned v/\M.le M'/\MM M' M w/\Sy w (blk lb lr) M' w' lb' lr'/\lb'.map (·.b)=lb.map (·.b)/\K v lb' lr' M'
theorem CallL.mono {P:Program} {f:FuncId} {args:Array Value} {M:Mem} {lb:List Bx} {lr:List Rw} {K K':Value->List Bx->List Rw->Mem->Prop} (h:CallL P f args M lb lr K) (hK:∀v lb' lr' M',M.le M'->K v lb' lr' M'->K' v lb' lr' M'):CallL P f args M lb lr K':=
 λw hw=>(h w hw).mono λ_ _ ⟨v,lb',lr',M',h1,h2,h3,h4,h5,h6⟩=>⟨v,lb',lr',M',h1,h2,h3,h4,h5,hK v _ _ _ h2 h6⟩
def flag (b:Bool) (l:List Rw):List Rw:=l.map λr=>{r with own:=b}
theorem enterL {P:Program} {f:FuncId} {fn:Func} {c:Code} {l:List Value} {M:Mem} {lb:List Bx} {lr:List Rw} {K:Value->List Bx->List Rw->Mem->Prop}
  (hf:P.funcs[f]?=some fn) (hb:fn.body=some c) (n:Nat) (hn:fn.ntmps=n) (hl:l.length<=n)
  (h:∀w a,Sx n w (blk lb lr) M w a (argEnv l 0) lb lr->Wp P c
   (λa' w'=>a'.defers=[]/\∃v,(results fn a'.tmps).run P w'= .ok v w'/\∃lb' lr' M',M.le M'/\MM M' M w/\Sy w (blk lb lr) M' w' lb' lr'/\lb'.map (·.b)=lb.map (·.b)/\K v lb' lr' M') []
   (λa' w'=>a'.defers=[]/\∃v,(results fn a'.tmps).run P w'= .ok v w'/\∃lb' lr' M',M.le M'/\MM M' M w/\Sy w (blk lb lr) M' w' lb' lr'/\lb'.map (·.b)=lb.map (·.b)/\K v lb' lr' M') (λ_ _ _=>False) a w):
  CallL P f l.toArray M lb lr K:=by
 intro w hw
 refine calls_of_wp hf hb ?_
 refine Code.wp_mono (λe a' w' q=>?_) (h w _ (hw.sx ⟨rfl,?_,λx v hx=>?_⟩))
 ·cases e with
  |normal=>obtain⟨h1,v,h2,lb',lr',M',h3⟩:=q;exact⟨h1,v,h2,v,lb',lr',M',rfl,h3⟩
  |ret=>obtain⟨h1,v,h2,lb',lr',M',h3⟩:=q;exact⟨h1,v,h2,v,lb',lr',M',rfl,h3⟩
  |_=>exact q.elim
 ·simp[hn];omega
 ·obtain⟨_,h2⟩:=lk_argEnv l 0 x v hx
  simp only[Nat.sub_zero]at h2
  have hx':x<l.length:=by
   rcases Nat.lt_or_ge x l.length with h'|h'
   ·exact h'
   ·rw[List.getElem?_eq_none h']at h2;cases h2
  simp only[Array.getD_eq_getD_getElem?]
  rw[Array.getElem?_append_left (by simpa using hx')]
  simp[h2]
theorem leaveL {P:Program} {fn:Func} {n:Nat} {E:World} {lb:List Bx} {lr:List Rw} {M0 M:Mem} {w:World} {a:Act} {env:Env} {bs:List Bx} {rs:List Rw} {K:Value->List Bx->List Rw->Mem->Prop} {v:Value}
  (hs:Sx n E (blk lb lr) M w a env bs rs) (hr:(results fn a.tmps).run P w= .ok v w) (hL:M0.le M) (hM:MM M M0 E) (lb':List Bx) (lr':List Rw) (hb:lb'.Sublist bs) (hrr:lr'.Sublist rs) (he:lb'.map (·.b)=lb.map (·.b)) (hK:K v lb' lr' M):
  a.defers=[]/\∃v,(results fn a.tmps).run P w= .ok v w/\∃lb' lr' M',M0.le M'/\MM M' M0 E/\Sy E (blk lb lr) M' w lb' lr'/\lb'.map (·.b)=lb.map (·.b)/\K v lb' lr' M':=
 ⟨hs.ag.df,v,hr,lb',lr',M,hL,hM,⟨hs.on,hs.pr,λx hx=>hs.bx x (hb.subset hx),λr hx=>hs.rw r (hrr.subset hx),hs.nd.sub hb hrr⟩,he,hK⟩
theorem ownBlock_lt {w:World} {e size n:Nat} {v:Value} {xs:List Value} (h:w.ownsRow 0 e size v n xs) {g:Nat} (hg:v.ownBlock=some g):g<w.heap.size:=(h.lt g hg).2
theorem ownsRow_keep {w w':World} {e size n:Nat} {v:Value} {xs:List Value} (h:w.ownsRow 0 e size v n xs) (hk:∀g,v.ownBlock=some g->w'.heap[g]?=w.heap[g]?):w'.ownsRow 0 e size v n xs:=by
 refine⟨h.1,?_⟩
 rcases h.2 with hn|⟨g,cap,cur,hv,hb,hg,r3⟩
 ·exact .inl hn
 ·exact .inr ⟨g,cap,cur,hv,hb,(hk g (by rw[hv];rfl)).trans hg,r3⟩
section
variable {P:Program} {ops:Array Oper} {Q:Exit->Act->World->Prop} {n:Nat} {E:World} {bw:List Nat} {M:Mem} {w:World} {a:Act} {env:Env} {rest:List Oper}
theorem mem_blk {lb:List Bx} {lr:List Rw} {k:Nat}:k∈blk lb lr↔(∃x∈lb,x.b=k)\/∃r∈lr,r.v.ownBlock=some k:=by
 unfold blk
 simp only[List.mem_append,List.mem_map,List.mem_filterMap]
theorem Sx.back {bs:List Bx} {rs:List Rw} {lb lb':List Bx} {lr lr':List Rw} {fl:Bool} {M':Mem} {w':World} {a':Act} {env':Env} (hs:Sx n E bw M w a env (lb++bs) (flag fl lr++rs)) (_hle:M.le M') (hMM:MM M' M w) (hy:Sy w (blk lb lr) M' w' lb' lr') (hbe:lb'.map (·.b)=lb.map (·.b)) (hA:Ag n a' env'):
  Sx n E bw M' w' a' env' (lb'++bs) (flag fl lr'++rs):=by
 have hlbE:∀x∈lb,E.heap.size<=x.b\/x.b∈bw:=λx hx=>(hs.bx x (List.mem_append_left _ hx)).2.2
 have hlrE:∀r∈lr,∀g,r.v.ownBlock=some g->E.heap.size<=g\/(fl=false/\g∈bw):=λr hr g hg=>((hs.rw {r with own:=fl} (List.mem_append_left _ (List.mem_map.2 ⟨r,hr,rfl⟩))).2 g hg).2
 have hsz:=hs.pr.size
 have hbsN:∀x∈bs,x.b∉blk lb lr:=by
  intro x hx hm
  rcases mem_blk.1 hm with⟨y,hy,e⟩|⟨r,hr,e⟩
  ·have:=hs.nd.b
   rw[List.map_append,List.nodup_append]at this
   exact this.2.2 y.b (List.mem_map.2 ⟨y,hy,rfl⟩) x.b (List.mem_map.2 ⟨x,hx,rfl⟩) e
  ·exact hs.nd.x x (List.mem_append_right _ hx) {r with own:=fl} (List.mem_append_left _ (List.mem_map.2 ⟨r,hr,rfl⟩)) e
 have hrsN:∀r∈rs,∀g,r.v.ownBlock=some g->g∉blk lb lr:=by
  intro r hr g hg hm
  rcases mem_blk.1 hm with⟨y,hy,e⟩|⟨q,hq,e⟩
  ·subst e;exact hs.nd.x y (List.mem_append_left _ hy) r (List.mem_append_right _ hr) hg
  ·have:=List.pairwise_append.1 hs.nd.r
   exact this.2.2 {q with own:=fl} (List.mem_map.2 ⟨q,hq,rfl⟩) r hr g e hg
 have hlb':∀x∈lb',∃y∈lb,y.b=x.b:=by
  intro x hx
  have:x.b∈lb.map (·.b):=by rw[<-hbe];exact List.mem_map.2 ⟨x,hx,rfl⟩
  obtain⟨y,hy,e⟩:=List.mem_map.1 this
  exact⟨y,hy,e⟩
 have hlr':∀r∈lr',∀g,r.v.ownBlock=some g->w.heap.size<=g\/g∈blk lb lr:=λr hr g hg=>((hy.rw r hr).2 g hg).2.imp id (·.2)
 refine⟨hA,hy.on,?_,λx hx=>?_,λr hr=>?_,?_,λx hx r hr=>?_,?_⟩
 ·obtain⟨p1,p2,p3,p4,p5⟩:=hs.pr
  obtain⟨q1,q2,q3,q4,q5⟩:=hy.pr
  refine⟨q1.trans p1,q2.trans p2,q3.trans p3,Nat.le_trans p4 q4,λk hk hn=>?_⟩
  rw[q5 k (by omega) (λhm=>?_)]
  ·exact p5 k hk hn
  ·rcases mem_blk.1 hm with⟨y,hy,e⟩|⟨q,hq,e⟩
   ·subst e
    rcases hlbE y hy with h|h
    ·omega
    ·exact hn h
   ·rcases hlrE q hq k e with h|h
    ·omega
    ·exact hn h.2
 ·rcases List.mem_append.1 hx with hx|hx
  ·obtain⟨h1,h2,_⟩:=hy.bx x hx
   obtain⟨y,hyl,e⟩:=hlb' x hx
   exact⟨h1,h2,e▸hlbE y hyl⟩
  ·obtain⟨h1,h2,h3⟩:=hs.bx x (List.mem_append_right _ hx)
   refine⟨(hy.pr.block _ h1.lt (hbsN x hx)).trans h1,?_,h3⟩
   cases hm:M' x.b with
   |none=>rfl
   |some o=>
    rcases hMM _ _ hm with h|h
    ·rw[h2]at h;cases h
    ·have:=h1.lt;omega
 ·rcases List.mem_append.1 hr with hr|hr
  ·obtain⟨q,hq,rfl⟩:=List.mem_map.1 hr
   obtain⟨h1,h2⟩:=hy.rw q hq
   refine⟨h1,λg hg=>⟨(h2 g hg).1,?_⟩⟩
   rcases hlr' q hq g hg with h|h
   ·left;omega
   ·rcases mem_blk.1 h with⟨y,hyl,e⟩|⟨q',hq',e⟩
    ·exfalso
     have:y.b∈lb'.map (·.b):=by rw[hbe];exact List.mem_map.2 ⟨y,hyl,rfl⟩
     obtain⟨z,hz,ez⟩:=List.mem_map.1 this
     exact hy.nd.x z hz q hq (by rw[ez,e];exact hg)
    ·exact hlrE q' hq' g e
  ·obtain⟨h1,h2⟩:=hs.rw r (List.mem_append_right _ hr)
   refine⟨ownsRow_keep h1 λg hg=>hy.pr.block g (ownBlock_lt h1 hg) (hrsN r hr g hg),λg hg=>⟨?_,(h2 g hg).2⟩⟩
   cases hm:M' g with
   |none=>rfl
   |some o=>
    rcases hMM _ _ hm with h|h
    ·rw[(h2 g hg).1]at h;cases h
    ·have:=ownBlock_lt h1 hg;omega
 ·have:=hs.nd.b
  rw[List.map_append]at this ⊢
  rw[hbe]
  exact this
 ·rcases List.mem_append.1 hx with hx|hx<;>rcases List.mem_append.1 hr with hr|hr
  ·obtain⟨q,hq,rfl⟩:=List.mem_map.1 hr
   exact hy.nd.x x hx q hq
  ·obtain⟨y,hyl,e⟩:=hlb' x hx
   rw[<-e]
   exact hs.nd.x y (List.mem_append_left _ hyl) r (List.mem_append_right _ hr)
  ·obtain⟨q,hq,rfl⟩:=List.mem_map.1 hr
   intro hg
   have hxl:=(hs.bx x (List.mem_append_right _ hx)).1.lt
   rcases hlr' q hq _ hg with h|h
   ·omega
   ·exact hbsN x hx h
  ·exact hs.nd.x x (List.mem_append_right _ hx) r (List.mem_append_right _ hr)
 ·refine List.pairwise_append.2 ⟨?_,(List.pairwise_append.1 hs.nd.r).2.1,?_⟩
  ·exact List.pairwise_map.2 hy.nd.r
  ·intro r hr s hs' g hg hg'
   obtain⟨q,hq,rfl⟩:=List.mem_map.1 hr
   have hsl:=ownBlock_lt (hs.rw s (List.mem_append_right _ hs')).1 hg'
   rcases hlr' q hq g hg with h|h
   ·omega
   ·exact hrsN s hs' g hg' h
theorem Sx.lend {bs:List Bx} {rs:List Rw} {lb:List Bx} {lr:List Rw} {fl:Bool} (hs:Sx n E bw M w a env (lb++bs) (flag fl lr++rs)) (hf:lr=flag false lr):Sy w (blk lb lr) M w lb lr:=by
 refine⟨hs.on,Pres.refl _ _,λx hx=>?_,λr hr=>?_,?_,λx hx r hr=>?_,?_⟩
 ·obtain⟨h1,h2,_⟩:=hs.bx x (List.mem_append_left _ hx)
  exact⟨h1,h2,.inr (mem_blk.2 (.inl ⟨x,hx,rfl⟩))⟩
 ·obtain⟨h1,h2⟩:=hs.rw {r with own:=fl} (List.mem_append_left _ (List.mem_map.2 ⟨r,hr,rfl⟩))
  refine⟨h1,λg hg=>⟨(h2 g hg).1,.inr ⟨?_,mem_blk.2 (.inr ⟨r,hr,hg⟩)⟩⟩⟩
  rw[hf]at hr
  obtain⟨q,_,rfl⟩:=List.mem_map.1 hr
  rfl
 ·have:=hs.nd.b
  rw[List.map_append,List.nodup_append]at this
  exact this.1
 ·exact hs.nd.x x (List.mem_append_left _ hx) {r with own:=fl} (List.mem_append_left _ (List.mem_map.2 ⟨r,hr,rfl⟩))
 ·have:=(List.pairwise_append.1 hs.nd.r).1
  exact List.pairwise_map.1 this
theorem stepCallL {d f:Nat} {ty:TypeId} {c:Call} {pos:String} {af:Array Edge} {fn:Func} {K:Value->List Bx->List Rw->Mem->Prop} {first caps:Array Value} {bs0:List Bx} {rs0:List Rw} (args:List Value) (lb bs:List Bx) (lr rs:List Rw) (fl:Bool) (hs:Sx n E bw M w a env bs0 rs0)
  (hbs:bs0=lb++bs) (hrs:rs0=flag fl lr++rs) (hfl:lr=flag false lr)
  (hk:okOp env ⟨some d,.call c,ty,pos,af,none⟩=true) (hcal:∃x,c.callee= .value x/\evT env x= .func (.func f) first caps) (hargs:first.toList++c.args.toList.map (evT env)++caps.toList=args) (hf:P.funcs[f]?=some fn) (hbody:fn.body.isNone=false) (hname:(fn.name== "runtime.NumGoroutine")=false) (hdn:d<n)
  (hc:CallL P f args.toArray M lb lr K)
  (h:∀a' w' M' v lb' lr',M.le M'->(∀b o,M' b=some o->M b=some o\/E.heap.size<=b)->K v lb' lr' M'->Sx n E bw M' w' a' ((d,v)::env) (lb'++bs) (flag fl lr'++rs)->wpList P ops Q rest a' w'):wpList P ops Q (⟨some d,.call c,ty,pos,af,none⟩::rest) a w:=by
 subst hbs
 subst hrs
 refine stepK (Z:=λ_ _=>False) (d:=d) hs (λ_ _ h=>h.elim) rfl hk rfl hdn ?_
 unfold OpW
 rw[run_call args hcal hargs hf hbody hname]
 refine(hc w (hs.lend hfl)).mono λe w' ⟨v,lb',lr',M',he,hle,hMM,hy,hbe,hK⟩=>?_
 subst he
 intro a' hA
 refine h a' w' M' v lb' lr' hle (λb o hb=>(hMM b o hb).imp id λh=>Nat.le_trans hs.pr.size h) hK (hs.back hle hMM hy hbe hA)
end
section
variable {n:Nat} {E:World} {bw:List Nat} {M:Mem} {w:World} {a:Act} {env:Env} {bs:List Bx} {rs:List Rw}
theorem Nd.perm {bs bs':List Bx} {rs rs':List Rw} (h:Nd bs rs) (hb:bs.Perm bs') (hr:rs.Perm rs'):Nd bs' rs':=
 ⟨(hb.map _).nodup_iff.1 h.b,λx hx r hr'=>h.x x (hb.mem_iff.2 hx) r (hr.mem_iff.2 hr'),(List.Perm.pairwise_iff (λh g hg hg'=>h g hg' hg) hr).1 h.r⟩
theorem Sx.perm {bs':List Bx} {rs':List Rw} (h:Sx n E bw M w a env bs rs) (hb:bs.Perm bs') (hr:rs.Perm rs'):Sx n E bw M w a env bs' rs':=
 ⟨h.ag,h.on,h.pr,λx hx=>h.bx x (hb.mem_iff.2 hx),λr hx=>h.rw r (hr.mem_iff.2 hx),h.nd.perm hb hr⟩
theorem perm_front {α:Type}:∀(l:List α) (i:Nat) (x:α),l[i]?=some x->l.Perm (x::l.eraseIdx i)
 |[],i,x,h=>by simp at h
 |y::r,0,x,h=>by simp at h;subst h;exact List.Perm.refl _
 |y::r,i+1,x,h=>by
  simp only[List.getElem?_cons_succ]at h
  simp only[List.eraseIdx_cons_succ]
  exact(List.Perm.cons y (perm_front r i x h)).trans (List.Perm.swap x y _)
theorem Sx.bfront (h:Sx n E bw M w a env bs rs) (i:Nat) {x:Bx} (hi:bs[i]?=some x) {l:List Bx} (hl:bs.eraseIdx i=l):Sx n E bw M w a env (x::l) rs:=by
 subst hl;exact h.perm (perm_front bs i x hi) (List.Perm.refl _)
theorem Sx.rfront (h:Sx n E bw M w a env bs rs) (i:Nat) {x:Rw} (hi:rs[i]?=some x) {l:List Rw} (hl:rs.eraseIdx i=l):Sx n E bw M w a env bs (x::l):=by
 subst hl;exact h.perm (List.Perm.refl _) (perm_front rs i x hi)
theorem perm_back {α:Type}:∀(l:List α) (i:Nat) (x:α),i<=l.length->(x::l).Perm (l.insertIdx i x)
 |l,0,x,_=>by simp
 |[],i+1,x,h=>by simp at h
 |y::r,i+1,x,h=>by
  rw[List.insertIdx_succ_cons]
  exact(List.Perm.swap y x r).trans (List.Perm.cons y (perm_back r i x (by simpa using h)))
theorem insert_le {α:Type} {l l':List α} {i:Nat} {x:α} (h:l.insertIdx i x=l') (hl:l'.length=l.length+1):i<=l.length:=by
 rcases Nat.lt_or_ge l.length i with h'|h'
 ·rw[List.insertIdx_of_length_lt h']at h
  subst h;omega
 ·exact h'
theorem Sx.bback {x:Bx} {l:List Bx} (h:Sx n E bw M w a env (x::l) rs) (i:Nat) {l':List Bx} (hl:l.insertIdx i x=l') (hn:l'.length=l.length+1:=by rfl):Sx n E bw M w a env l' rs:=by
 have:=insert_le hl hn
 subst hl;exact h.perm (perm_back l i x this) (List.Perm.refl _)
theorem Sx.rback {x:Rw} {l:List Rw} (h:Sx n E bw M w a env bs (x::l)) (i:Nat) {l':List Rw} (hl:l.insertIdx i x=l') (hn:l'.length=l.length+1:=by rfl):Sx n E bw M w a env bs l':=by
 have:=insert_le hl hn
 subst hl;exact h.perm (List.Perm.refl _) (perm_back l i x this)
end
section
variable {P:Program} {ops:Array Oper} {Q:Exit->Act->World->Prop} {n:Nat} {E:World} {bw:List Nat} {M:Mem} {w:World} {a:Act} {env:Env} {bs:List Bx} {rs:List Rw} {rest:List Oper}
end
end Go.Gx

namespace Go.Gx
open Go.RowKit
def repl (n:Nat) (zs:List Value):List Value:=(List.replicate n zs).flatten
theorem repl_length (n:Nat) (zs:List Value):(repl n zs).length=n*zs.length:=by simp[repl]
section
variable {P:Program} {ops:Array Oper} {Q:Exit->Act->World->Prop} {n:Nat} {E:World} {bw:List Nat} {M:Mem} {w:World} {a:Act} {env:Env} {bs:List Bx} {rs:List Rw} {rest:List Oper}
theorem Sx.rowput (hs:Sx n E bw M w a env bs rs) (i:Nat) {r r':Rw} (hi:rs[i]?=some r) (hfl:r'.own=r.own) (hown:w.ownsRow 0 r'.e r'.size r'.v r'.n r'.xs) (hblk:r'.v.ownBlock=r.v.ownBlock):Sx n E bw M w a env bs (rs.set i r'):=
 hs.rowset i hi (World.grownBy.refl w _) hfl hown (.inl hblk) hs.ag
theorem stepCut (i:Nat) {d:Nat} {t e ty:TypeId} {x y:Operand} {pos:String} {af:Array Edge} {size k cap:Nat} {ad:Option Addr} {xs:List Value} {ow:Bool} {ik:IntKind} {c:Int} (hs:Sx n E bw M w a env bs rs) (hi:rs[i]?=some ⟨.slice ad k cap,e,size,k,xs,ow⟩)
  (hkx:known env x=true) (hky:known env y=true) (hx:evT env x= .slice ad k cap) (hy:evT env y= .int ik c) (ht:P.underlying t=some (.slice e)) (hn:(P.info? e).map (·.size)=some size) (hdn:d<n)
  (h0:0<=c) (hc:c<=(k:Int))
  (h:∀a' w' v,Sx n E bw M w' a' ((d,v)::env) bs (rs.set i ⟨v,e,size,c.toNat,xs.take (c.toNat*size),ow⟩)->wpList P ops Q rest a' w'):wpList P ops Q (⟨some d,.slice t x none (some y) none,ty,pos,af,none⟩::rest) a w:=by
 obtain⟨h1,h2⟩:=hs.rw _ (List.mem_of_getElem? hi)
 simp only at h1 h2
 have hkc:k<=cap:=by
  obtain⟨_,_,he,h3,_⟩:=ownsRow_form h1
  cases he
  exact h3
 have hyl:=Yl.sliceSH (P:=P) (env:=env) (M:=M) (bs:=bs) (rs:=rs) (d:=some d) (ty:=ty) (pos:=pos) (af:=af) (gd:=none) (b:=c) hkx hky hx hy ht hn h0 (by omega)
 refine stepY _ hs rfl rfl hdn hyl λa' hs'=>?_
 refine h a' w _ (hs'.rowput i hi rfl ?_ ?_)
 ·have hle:c.toNat*size<=k*size:=Nat.mul_le_mul_right _ (by omega)
  refine⟨by show(xs.take (c.toNat*size)).length=c.toNat*size;rw[List.length_take,h1.1];omega,?_⟩
  rcases h1.2 with⟨hv,hk0⟩|⟨g,cap',cur,hv,hb,hg,h3,h4,h5,h6⟩
  ·left
   cases hv
   simp only at hk0
   have hz:c.toNat=0:=by omega
   exact⟨by simp only[hz],hz⟩
  ·right
   cases hv
   refine⟨g,cap,cur,rfl,hb,hg,by simp only;omega,h4,h5,?_⟩
   simp only
   rw[<-h6,List.take_take,Nat.min_eq_left hle]
 ·cases ad<;>rfl
end
section
variable {P:Program} {env:Env} {M:Mem} {bs:List Bx} {rs:List Rw} {d:Option Tmp} {ty:TypeId} {pos:String} {af:Array Edge} {gd:Option (Nat×Bool)}
end
section
variable {P:Program} {ops:Array Oper} {Q:Exit->Act->World->Prop} {n:Nat} {E:World} {bw:List Nat} {M:Mem} {w:World} {a:Act} {env:Env} {bs:List Bx} {rs:List Rw} {rest:List Oper}
end
end Go.Gx

namespace Go.Gx
open Go.RowKit Go.ChangeShapes
def HM (w:World):Mem:=λb=>w.heap[b]?
theorem HM.on (w:World):On (HM w) w:=λ_ _ h=>h
theorem HM.cell {w:World} {b i:Nat} {v:Value} (h:w.cell? ⟨b,i,none⟩=some v):(HM w).cell b i=some v:=by
 unfold World.cell? at h
 unfold Mem.cell HM
 simp only at h ⊢
 split at h
 ·rename_i hq
  rw[hq]
  simpa using h
 ·cases h
theorem cell_spot {w:World} {a:Addr} {v:Value} (h:w.cell? a=some v):a=⟨a.block,a.off,none⟩:=by
 unfold World.cell? at h
 split at h
 ·split at h
  ·cases h
  ·rename_i hs
   obtain⟨b,o,s⟩:=a
   cases s<;>simp_all
 ·cases h
def All2 {α β:Type} (R:α->β->Prop):List α->List β->Prop
 |[],cs=>cs=[]
 |a::as1,cs=>∃b bs,cs=b::bs/\R a b/\All2 R as1 bs
theorem All2.append {α β:Type} {R:α->β->Prop}:∀{as1 as':List α} {bs bs':List β},All2 R as1 bs->All2 R as' bs'->All2 R (as1++as') (bs++bs')
 |[],_,_,_,h,k=>by cases h;exact k
 |_::_,_,_,_,⟨b,bs,h1,h2,h3⟩,k=>by subst h1;exact⟨b,_,rfl,h2,h3.append k⟩
theorem All2.length {α β:Type} {R:α->β->Prop}:∀{as1:List α} {bs:List β},All2 R as1 bs->bs.length=as1.length
 |[],_,h=>by cases h;rfl
 |_::_,_,⟨_,_,h1,_,h3⟩=>by subst h1;simp[h3.length]
theorem All2.mono {α β:Type} {R R':α->β->Prop} (hR:∀a b,R a b->R' a b):∀{as1:List α} {bs:List β},All2 R as1 bs->All2 R' as1 bs
 |[],_,h=>h
 |_::_,_,⟨b,bs,h1,h2,h3⟩=>⟨b,bs,h1,hR _ _ h2,h3.mono hR⟩
inductive Leaf
 |int (k:IntKind)
 |bool
 |str
 |ptr (t e:TypeId)
 |sl (t e:TypeId)
def catF (P:Program) (g:TypeId->Option (List Leaf)):Nat->List Field->Option (List Leaf)
 |_,[]=>some []
 |o,f::r=>if f.offset=o then(g f.type).bind λm=>if m.length=P.cellsOf f.type then(catF P g (o+m.length) r).map (m++·) else none else none
def leaves (P:Program):Nat->TypeId->Option (List Leaf)
 |0,_=>none
 |n+1,t=>match P.underlying t with
  |some .bool=>some [.bool]
  |some (.int k)=>some [.int k]
  |some .string=>some [.str]
  |some (.pointer e)=>some [.ptr t e]
  |some (.slice e)=>some [.sl t e]
  |some (.struct fs)=>(catF P (leaves P n) 0 fs.toList).bind λl=>if l.length=P.cellsOf t then some l else none
  |some (.array k e)=>(leaves P n e).bind λm=>if m.length=P.cellsOf e/\k*m.length=P.cellsOf t then some (List.replicate k m).flatten else none
  |_=>none
section
variable {H:Type} {enc:TypeId×Value->H} {P:Program} {w:World}
theorem cells_at {a:Addr} {n:Nat} {cs:List Value} (h:w.cells? 0 a n=some cs) (hn:0<n):a=⟨a.block,a.off,none⟩/\∀j v,cs[j]?=some v->(HM w).cell a.block (a.off+j)=some v:=by
 obtain⟨_,hl,hc⟩:=World.cells?_some h
 have h0:=hc 0 hn
 have hs:a=⟨a.block,a.off,none⟩:=by
  rw[Addr.add,if_pos rfl,List.getElem?_eq_getElem (by omega)]at h0
  exact cell_spot h0
 refine⟨hs,λj v hj=>HM.cell ?_⟩
 have:=hc j (by have:=(List.getElem?_eq_some_iff.1 hj).1;omega)
 rw[hj,hs,add_lit]at this
 exact this
theorem trodAll_below (hl:laidOutB P=true) {W W':World} (hb:Below W.heap.size W W'):∀{ts:List TypeId} {vs:List Value} {ds:List (DataW H)} {ps:List MemPlace},(ts.all λt=>P.readableRec t&&decide (t<P.types.size))=true->
  DataW.TrodAll enc P W 0 (λ_=>true) true ts vs ds ps->DataW.TrodAll enc P W' 0 (λb=>decide (b<W.heap.size)) true ts vs ds ps
 |[],_,_,_,_,h=>by
  obtain⟨rfl,rfl,rfl⟩:=trodAll_nil h
  exact trodAll_mk0
 |t::ts,_,_,_,hr,h=>by
  simp only[List.all_cons,Bool.and_eq_true,decide_eq_true_eq]at hr
  obtain⟨v,vs,d,ds,p,q,rfl,rfl,rfl,h1,h2⟩:=trodAll_cons h
  have hlt:∀x∈p,x.block<W.heap.size:=by
   obtain⟨m,hm⟩:=h1
   exact DataW.trod_lt m _ _ _ hm
  exact trodAll_cons_mk (Below.trod hl hr.1.1 hr.1.2 h1 hb hlt) (trodAll_below hl hb (by simpa using hr.2) h2)
end
theorem flat_part {α:Type} {f:α->List Value} {sz:Nat}:∀(es:List α) (_:∀e∈es,(f e).length=sz) (i:Nat) (e:α),es[i]?=some e->(((es.map f).flatten).drop (i*sz)).take (f e).length=f e
 |[],_,i,e,h=>by simp at h
 |a::r,hf,0,e,h=>by
  simp only[List.getElem?_cons_zero,Option.some.injEq]at h;subst h
  simp
 |a::r,hf,i+1,e,h=>by
  simp only[List.getElem?_cons_succ]at h
  have ha:=hf a (by simp)
  have:=flat_part r (λe he=>hf e (by simp[he])) i e h
  simp only[List.map_cons,List.flatten_cons]
  rw[Nat.succ_mul,List.drop_append,List.drop_of_length_le (by omega),List.nil_append,ha,Nat.add_sub_cancel]
  exact this
theorem SlV.elem {α:Type} {f:α->List Value} {M:Mem} {A:Option Addr} {l c sz:Nat} {es:List α} (h:SlV M A l c sz ((es.map f).flatten)) (hl:es.length=l) (hf:∀e∈es,(f e).length=sz) {i:Nat} {e:α} (he:es[i]?=some e):
  ∃b o,A=some ⟨b,o,none⟩/\At M b (o+i*sz) (f e):=by
 have hi:i<es.length:=(List.getElem?_eq_some_iff.1 he).1
 obtain⟨b,o,ha,hat⟩:=h.2.2.2 (by omega)
 exact⟨b,o,ha,hat.part (i*sz) (f e) (flat_part es hf i e he)⟩
end Go.Gx

namespace Go.Gx
open Go.RowKit
def cl {α:Type} (f:α->List Value) (xs:List α):List Value:=(xs.map f).flatten
section
variable {α:Type} {f:α->List Value}
theorem cl_one (x:α):cl f [x]=f x:=by simp[cl]
theorem cl_cons (x:α) (xs:List α):cl f (x::xs)=f x++cl f xs:=by simp[cl]
theorem cl_length {sz:Nat} (hf:∀x,(f x).length=sz):∀xs:List α,(cl f xs).length=xs.length*sz
 |[]=>by simp[cl]
 |x::r=>by rw[cl_cons,List.length_append,hf,cl_length hf r,List.length_cons,Nat.succ_mul];omega
theorem SlV.at {M:Mem} {A:Option Addr} {l c sz:Nat} {xs:List α} (h:SlV M A l c sz (cl f xs)) (hf:∀x,(f x).length=sz) (hl:xs.length=l) {i:Nat} {x:α} (hx:xs[i]?=some x):∃b o,A=some ⟨b,o,none⟩/\At M b (o+i*sz) (f x):=
 SlV.elem h hl (λx _=>hf x) hx
theorem SlV.len {M:Mem} {A:Option Addr} {l c sz:Nat} {xs:List α} (h:SlV M A l c sz (cl f xs)) (hf:∀x,(f x).length=sz) (h0:0<sz):xs.length=l:=by
 have:=h.1
 rw[cl_length hf]at this
 exact Nat.eq_of_mul_eq_mul_right h0 this
theorem SlV.max {M:Mem} {A:Option Addr} {l c sz:Nat} {xs:List Value} (h:SlV M A l c sz xs):l<=9223372036854775807:=by
 have h1:=h.2.1
 have h2:=h.2.2.1
 unfold maxLen at h2
 omega
theorem SlV.rest {M:Mem} {A:Option Addr} {l c sz:Nat} {xs:List Value} (h:SlV M A l c sz xs) (k:Nat) (hk:k<=l):SlV M (slA A k c sz) (l-k) (c-k) sz (xs.drop (k*sz)):=by
 obtain⟨h1,h2,h3,h4⟩:=h
 refine⟨by rw[List.length_drop,h1,Nat.sub_mul],by omega,by omega,λh0=>?_⟩
 obtain⟨b,o,rfl,ha⟩:=h4 (by omega)
 refine⟨b,o+k*sz,?_,?_⟩
 ·unfold slA
  rw[if_neg (by omega)]
  simp[add_lit]
 ·intro j v hj
  rw[List.getElem?_drop]at hj
  have:=ha _ _ hj
  rw[<-Nat.add_assoc]at this
  exact this
theorem SlV.first {M:Mem} {A:Option Addr} {l c sz:Nat} {xs:List Value} (h:SlV M A l c sz xs) (k:Nat) (hk:k<=l):SlV M A k c sz (xs.take (k*sz)):=by
 obtain⟨h1,h2,h3,h4⟩:=h
 have hle:k*sz<=l*sz:=Nat.mul_le_mul_right _ hk
 refine⟨by rw[List.length_take,h1];omega,by omega,by omega,λh0=>?_⟩
 obtain⟨b,o,rfl,ha⟩:=h4 (by omega)
 refine⟨b,o,rfl,λj v hj=>ha j v ?_⟩
 rw[List.getElem?_take]at hj
 split at hj
 ·exact hj
 ·cases hj
end
section
variable {α β:Type} {R:α->β->Prop}
theorem All2.get:∀{as1:List α} {bs:List β},All2 R as1 bs->∀{i:Nat} {a:α},as1[i]?=some a->∃b,bs[i]?=some b/\R a b
 |[],_,_,i,a,h=>by simp at h
 |_::_,_,⟨b,bs,h1,h2,h3⟩,0,a,h=>by simp at h;subst h;subst h1;exact⟨b,rfl,h2⟩
 |_::_,_,⟨b,bs,h1,h2,h3⟩,i+1,a,h=>by
  subst h1
  obtain⟨c,hc,hr⟩:=h3.get (by simpa using h)
  exact⟨c,by simpa using hc,hr⟩
theorem All2.get' {as1:List α} {bs:List β} (h:All2 R as1 bs) {i:Nat} {a:α} {b:β} (ha:as1[i]?=some a) (hb:bs[i]?=some b):R a b:=by
 obtain⟨c,hc,hr⟩:=h.get ha
 rw[hb]at hc;cases hc;exact hr
theorem All2.of:∀{as1:List α} {bs:List β},bs.length=as1.length->(∀(i:Nat) a b,as1[i]?=some a->bs[i]?=some b->R a b)->All2 R as1 bs
 |[],bs,hl,_=>List.eq_nil_of_length_eq_zero (by simpa using hl)
 |a::as1,[],hl,_=>by simp at hl
 |a::as1,b::bs,hl,h=>⟨b,bs,rfl,h 0 a b rfl rfl,All2.of (by simpa using hl) λi x y hx hy=>h (i+1) x y (by simpa using hx) (by simpa using hy)⟩
theorem All2.drop {as1:List α} {bs:List β} (h:All2 R as1 bs) (k:Nat):All2 R (as1.drop k) (bs.drop k):=
 All2.of (by simp[h.length]) λi a b ha hb=>h.get' (i:=k+i) (by simpa using ha) (by simpa using hb)
theorem All2.take {as1:List α} {bs:List β} (h:All2 R as1 bs) (k:Nat):All2 R (as1.take k) (bs.take k):=
 All2.of (by simp[h.length]) λi a b ha hb=>by
  rw[List.getElem?_take]at ha hb
  split at ha
  ·rename_i hk;rw[if_pos hk]at hb;exact h.get' ha hb
  ·cases ha
theorem All2.choose {R:α->β->Prop}:∀(bs:List β),(∀b∈bs,∃a,R a b)->∃as1,All2 R as1 bs
 |[],_=>⟨[],rfl⟩
 |b::bs,h=>by
  obtain⟨a,ha⟩:=h b (by simp)
  obtain⟨as1,has⟩:=All2.choose bs λx hx=>h x (by simp[hx])
  exact⟨a::as1,b,bs,rfl,ha,has⟩
end
structure Sl3 where
 a:Option Addr
 l:Nat
 c:Nat
section
variable {P:Program} {ops:Array Oper} {Q:Exit->Act->World->Prop} {n:Nat} {E:World} {bw:List Nat} {M:Mem} {w:World} {a:Act} {env:Env} {bs:List Bx} {rs:List Rw} {rest:List Oper} {o:Oper}
theorem sP (v:Value) {d:Nat} (hs:Sx n E bw M w a env bs rs) (h:∀a',Sx n E bw M w a' ((d,v)::env) bs rs->wpList P ops Q rest a' w)
  (hg:o.guard=none:=by rfl) (hd:o.dst=some d:=by rfl) (hdn:d<n:=by decide) (hk:okOp env o=true:=by rfl) (hr:∀w,(execOp (evT env) o).run P w= .ok (.value v) w:=by intro _;kernel_rfl):wpList P ops Q (o::rest) a w:=
 stepY v hs hg hd hdn (Yl.pure hk hr) h
theorem sY (v:Value) {d:Nat} (hs:Sx n E bw M w a env bs rs) (hy:Yl P env M bs rs o v) (h:∀a',Sx n E bw M w a' ((d,v)::env) bs rs->wpList P ops Q rest a' w)
  (hg:o.guard=none:=by rfl) (hd:o.dst=some d:=by rfl) (hdn:d<n:=by decide):wpList P ops Q (o::rest) a w:=
 stepY v hs hg hd hdn hy h
end
section
variable {P:Program} {ops:Array Oper} {Q:Exit->Act->World->Prop} {M0:Mem} {bs0:List Bx} {rs0:List Rw} {keep:List Bool} {n:Nat} {E:World} {bw:List Nat} {M:Mem} {w:World} {a:Act} {env:Env} {bs:List Bx} {rs:List Rw} {o:Oper} {fuel:Nat} {listed:Array Bool}
theorem dP (v:Value) (i:Nat) (A:List Nat) {d:Nat} (hs:Sx n E bw M w a env bs rs) (hQ:QZ Q) (hw:Region.wanted o (yielded ops a.tmps)=true) (h:∀a',Sx n E bw M w a' ((d,v)::env) bs rs->WpD P ops Q (Cx M0 bs0 rs0) keep fuel (listed.setIfInBounds i true) a' w)
  (ho:ops[i]?=some o:=by rfl) (hd:o.dst=some d:=by rfl) (hdn:d<n:=by decide) (hsel:Region.noSelect ops=true:=by kernel_rfl) (hr:(Region.ready .any ops listed).contains i=true:=by kernel_rfl) (hf:freeB ops keep listed i A true=true:=by kernel_rfl)
  (hk:okOp env o=true:=by rfl) (hy:∀w,(execOp (evT env) o).run P w= .ok (.value v) w:=by intro _;kernel_rfl):WpD P ops Q (Cx M0 bs0 rs0) keep (fuel+1) listed a w:=
 stepDP v i A hs hQ ho hw hd hdn hsel hr hf (Yl.pure hk hy) h
theorem dN (i:Nat) (A:List Nat) {d:Nat} (hs:Sx n E bw M w a env bs rs) (hQ:QZ Q) (hw:Region.wanted o (yielded ops a.tmps)=false) (h:∀a',Sx n E bw M w a' ((d,undef)::env) bs rs->WpD P ops Q (Cx M0 bs0 rs0) keep fuel (listed.setIfInBounds i true) a' w)
  (ho:ops[i]?=some o:=by rfl) (hd:o.dst=some d:=by rfl) (hdn:d<n:=by decide) (hsel:Region.noSelect ops=true:=by kernel_rfl) (hr:(Region.ready .any ops listed).contains i=true:=by kernel_rfl) (hf:freeB ops keep listed i A true=true:=by kernel_rfl):WpD P ops Q (Cx M0 bs0 rs0) keep (fuel+1) listed a w:=
 stepDN i A hs hQ ho hw hd hdn hsel hr hf h
end
section
variable {P:Program} {ops:Array Oper} {Q:Exit->Act->World->Prop} {n:Nat} {E:World} {bw:List Nat} {M:Mem} {w:World} {a:Act} {env:Env} {bs:List Bx} {rs:List Rw} {rest:List Oper}
abbrev pt (b k:Nat):Value:=.pointer (some ⟨b,k,none⟩)
abbrev iv (x:Int):Value:=.int .i64 x
theorem Yl.lB (vs:List Value) (g:Bool) (i:Nat) {d:Option Tmp} {t ty:TypeId} {x:Operand} {pos:String} {af:Array Edge} {gd:Option (Nat×Bool)} {b k:Nat} {cs:List Value} {bt:TypeId} (hi:bs[i]?=some ⟨b,bt,cs⟩:=by rfl) (hk:known env x=true:=by rfl) (hx:evT env x= .pointer (some ⟨b,k,none⟩):=by rfl)
  (ht:tyOk P t g vs.length=true:=by kernel_rfl) (hvs:(cs.drop k).take vs.length=vs:=by rfl):Yl P env M bs rs ⟨d,.load t x,ty,pos,af,gd⟩ (ofCells g vs):=Yl.loadB g i hi hk hx ht hvs
theorem stB (i:Nat) (vs:List Value) (bs':List Bx) {t ty:TypeId} {p x:Operand} {pos:String} {af:Array Edge} {b k:Nat} {bt:TypeId} {cs:List Value} {v:Value} (hs:Sx n E bw M w a env bs rs)
  (h:∀a' w',Sx n E bw M w' a' env bs' rs->wpList P ops Q rest a' w') (hi:bs[i]?=some ⟨b,bt,cs⟩:=by rfl) (hkp:known env p=true:=by rfl) (hkx:known env x=true:=by rfl)
  (hp:evT env p= .pointer (some ⟨b,k,none⟩):=by rfl) (hx:evT env x=v:=by rfl) (hc:v.cells=vs.toArray:=by rfl) (hn:(P.info? t).map (·.size)=some vs.length:=by kernel_rfl) (hfit:k+vs.length<=cs.length:=by exact Nat.le_of_ble_eq_true rfl) (h1:vs.all (·.oneCell')=true:=by rfl)
  (hb:bs.set i ⟨b,bt,putAt cs k vs⟩=bs':=by rfl):wpList P ops Q (⟨none,.store t p x,ty,pos,af,none⟩::rest) a w:=
 stepStoreB i hs hi hkp hkx hp hx hc hn hfit h1 λa' w' hs'=>h a' w' (hs'.chbx hb)
theorem lvE (K:Value->Prop) {fn:Func} {M0:Mem} {v:Value} (hs:Sx n E [] M w a env bs rs) (hr:(results fn a.tmps).run P w= .ok v w) (hM:∀b o,M b=some o->M0 b=some o\/E.heap.size<=b) (hK:K v):
  a.defers=[]/\∃v,(results fn a.tmps).run P w= .ok v w/\Below E.heap.size E w/\K v:=leaveE (K:=λv _=>K v) hs hr hM λ_ _=>hK
end
theorem bsS {n:Nat} {E:World} {bw:List Nat} {M:Mem} {w:World} {a:Act} {env:Env} {bs:List Bx} {rs:List Rw} {d:Nat} {b:Bool} {p A B G:Prop} (hp:b=true↔p) (hs:Sx n E bw M w a ((d,.bool b)::env) bs rs) (hS:(p->A)/\(¬p->B)) (h1:Sx n E bw M w a ((d,.bool true)::env) bs rs->A->G) (h2:Sx n E bw M w a ((d,.bool false)::env) bs rs->B->G):G:=
 bsplit b hp (λhb hc=>h1 (hs.bt hb) (hS.1 hc)) (λhb hc=>h2 (hs.bf hb) (hS.2 hc))
theorem Wp.cS {P:Program} {N:Act->World->Prop} {X:List (Nat×(Act->World->Prop))} {R:Act->World->Prop} {Z:List PanicEntry->Act->World->Prop} {a:Act} {w:World} {n:Nat} {E:World} {bw:List Nat} {M:Mem} {env:Env} {bs:List Bx} {rs:List Rw} {c:Operand} {x y:Code} {b:Bool} {p A B:Prop} (hs:Sx n E bw M w a env bs rs)
  (hp:b=true↔p) (hS:(p->A)/\(¬p->B)) (h1:A->Wp P x N X R Z a w) (h2:B->Wp P y N X R Z a w) (hk:known env c=true:=by rfl) (hc:evT env c= .bool b:=by rfl):Wp P (.cond c x y) N X R Z a w:=
 Wp.cond hs hk hc hp (λhc=>h1 (hS.1 hc)) (λhc=>h2 (hS.2 hc))
section
variable {P:Program} {ops:Array Oper} {Q:Exit->Act->World->Prop} {M0:Mem} {bs0:List Bx} {rs0:List Rw} {keep:List Bool} {w:World} {a:Act} {o:Oper} {fuel:Nat} {listed:Array Bool}
theorem sE (i:Nat)
  (h:wpList P #[] (λe a' w'=>match e with
   | .normal=>(keep.getD i false=true->Cx M0 bs0 rs0 w->Cx M0 bs0 rs0 w')/\WpD P ops Q (Cx M0 bs0 rs0) keep fuel (listed.setIfInBounds i true) a' w'
   | .panic c=>Q (.panic c) a' w'
   |_=>False) [{o with guard:=none}] a w) (ho:ops[i]?=some o:=by rfl) (hw:Region.wanted o (yielded ops a.tmps)=true:=by exact wanted_none rfl) (hr:Region.ready .any ops listed=[i]:=by kernel_rfl):WpD P ops Q (Cx M0 bs0 rs0) keep (fuel+1) listed a w:=
 stepDE i ho hw hr #[] h
end
section
variable {P:Program} {ops:Array Oper} {Q:Exit->Act->World->Prop} {n:Nat} {E:World} {bw:List Nat} {M:Mem} {w:World} {a:Act} {env:Env} {bs:List Bx} {rs:List Rw} {rest:List Oper}
theorem Yl.wr {o:Oper} {z:Int} (hI:InI z) (hk:okOp env o=true:=by rfl) (hr:∀w,(execOp (evT env) o).run P w= .ok (.value (Value.int .i64 (IntKind.wrap .i64 z))) w:=by intro _;kernel_rfl):Yl P env M bs rs o (.int .i64 z):=
 Yl.eq (Yl.pure hk hr) (congrArg (Value.int .i64) (wrap_in hI))
theorem Yl.lV (vs:List Value) (g:Bool) {d:Option Tmp} {t ty:TypeId} {x:Operand} {pos:String} {af:Array Edge} {gd:Option (Nat×Bool)} {b k:Nat} (h:At M b k vs) (hk:known env x=true:=by rfl) (hx:evT env x= .pointer (some ⟨b,k,none⟩):=by rfl)
  (ht:tyOk P t g vs.length=true:=by kernel_rfl):Yl P env M bs rs ⟨d,.load t x,ty,pos,af,gd⟩ (ofCells g vs):=Yl.loadV g hk hx ht h
theorem Yl.iS (e sz:Nat) {d:Option Tmp} {t ty:TypeId} {x i:Operand} {pos:String} {af:Array Edge} {gd:Option (Nat×Bool)} {b k l c:Nat} {ik:IntKind} {n:Int} {ad:Option Addr} (had:ad=some ⟨b,k,none⟩) (h0:0<=n) (hl:n<l) (hkx:known env x=true:=by rfl) (hki:known env i=true:=by rfl)
  (hx:evT env x= .slice ad l c:=by rfl) (hi:evT env i= .int ik n:=by rfl) (hu:P.underlying t=some (.slice e):=by kernel_rfl) (hn:(P.info? e).map (·.size)=some sz:=by kernel_rfl):
  Yl P env M bs rs ⟨d,.indexAddr t x i,ty,pos,af,gd⟩ (.pointer (some ⟨b,k+n.toNat*sz,none⟩)):=Yl.indexS hkx hki hx hi hu hn had h0 hl
theorem cP (args:List Value) {d f:Nat} {ty:TypeId} {c:Call} {pos:String} {af:Array Edge} {fn:Func} {K:Value->Prop} {first caps:Array Value} (hs:Sx n E bw M w a env bs rs) (hf:P.funcs[f]?=some fn) (hc:CallE P f args.toArray M λv _=>K v)
  (h:∀a' w' v,K v->Sx n E bw M w' a' ((d,v)::env) bs rs->wpList P ops Q rest a' w') (hk:okOp env ⟨some d,.call c,ty,pos,af,none⟩=true:=by rfl) (hcal:∃x,c.callee= .value x/\evT env x= .func (.func f) first caps:=by exact⟨_,rfl,rfl⟩) (hargs:first.toList++c.args.toList.map (evT env)++caps.toList=args:=by rfl)
  (hbody:fn.body.isNone=false:=by rfl) (hname:(fn.name== "runtime.NumGoroutine")=false:=by kernel_rfl) (hdn:d<n:=by decide):wpList P ops Q (⟨some d,.call c,ty,pos,af,none⟩::rest) a w:=stepCallP args hs hk hcal hargs hf hbody hname hdn hc h
end
section
variable {P:Program} {ops ops1:Array Oper} {Q:Exit->Act->World->Prop} {M0:Mem} {bs0:List Bx} {rs0:List Rw} {keep:List Bool} {n j:Nat} {E:World} {bw:List Nat} {M:Mem} {w:World} {a:Act} {env:Env} {bs:List Bx} {rs:List Rw} {o:Oper} {fuel:Nat} {listed:Array Bool}
theorem wN (h:WpD P ops Q (Cx M0 bs0 rs0) keep fuel listed a w):wpList P ops1 (λe a' w'=>match e with
   | .normal=>(keep.getD j false=true->Cx M0 bs0 rs0 w->Cx M0 bs0 rs0 w')/\WpD P ops Q (Cx M0 bs0 rs0) keep fuel listed a' w'
   | .panic c=>Q (.panic c) a' w'
   |_=>False) [] a w:=wpList_nil ⟨λ_ h=>h,h⟩
theorem nE (i:Nat) (h:wpList P #[] (λe a' w'=>match e with
   | .normal=>(keep.getD i false=true->Cx M0 bs0 rs0 w->Cx M0 bs0 rs0 w')/\WpD P ops Q (Cx M0 bs0 rs0) keep fuel (listed.setIfInBounds i true) a' w'
   | .panic c=>Q (.panic c) a' w'
   |_=>False) [{o with guard:=none}] a w) (ho:ops[i]?=some o:=by rfl) (hw:Region.wanted o (yielded ops a.tmps)=true:=by exact wanted_none rfl) (hr:Region.ready .any ops listed=[i]:=by kernel_rfl):wpList P ops1 (λe a' w'=>match e with
   | .normal=>(keep.getD j false=true->Cx M0 bs0 rs0 w->Cx M0 bs0 rs0 w')/\WpD P ops Q (Cx M0 bs0 rs0) keep (fuel+1) listed a' w'
   | .panic c=>Q (.panic c) a' w'
   |_=>False) [] a w:=wN (sE i h ho hw hr)
theorem sEy {i j t:Nat} {b:Bool} (hs:Sx n E bw M w a env bs rs) (h:wpList P #[] (λe a' w'=>match e with
   | .normal=>(keep.getD i false=true->Cx M0 bs0 rs0 w->Cx M0 bs0 rs0 w')/\WpD P ops Q (Cx M0 bs0 rs0) keep fuel (listed.setIfInBounds i true) a' w'
   | .panic c=>Q (.panic c) a' w'
   |_=>False) [{o with guard:=none}] a w) (hr:Region.ready .any ops listed=[i]:=by kernel_rfl) (ho:ops[i]?=some o:=by rfl) (hg:o.guard=some (j,b):=by rfl) (ht:(ops[j]?).bind (·.dst)=some t:=by rfl) (hl:lk env t=some (.bool b):=by rfl):WpD P ops Q (Cx M0 bs0 rs0) keep (fuel+1) listed a w:=
 stepDE i ho (wanted_yes hs hg ht hl) hr #[] h
theorem dD (h:Q .normal a w) (hr:Region.ready .any ops listed=[]:=by kernel_rfl):WpD P ops Q (Cx M0 bs0 rs0) keep fuel listed a w:=WpD.done hr h fuel
theorem dCy (v:Value) (i:Nat) (A:List Nat) {d j t:Nat} {b:Bool} (hs:Sx n E bw M w a env bs rs) (hC:Cx M0 bs0 rs0 w) (ho:ops[i]?=some o) (hy:Yl P env M0 bs0 rs0 o v) (h:∀a',Sx n E bw M w a' ((d,v)::env) bs rs->WpD P ops Q (Cx M0 bs0 rs0) keep fuel (listed.setIfInBounds i true) a' w)
  (hQ:QZ Q:=by exact QZ.no) (hg:o.guard=some (j,b):=by rfl) (ht:(ops[j]?).bind (·.dst)=some t:=by rfl) (hl:lk env t=some (.bool b):=by rfl) (hd:o.dst=some d:=by rfl) (hdn:d<n:=by decide) (hsel:Region.noSelect ops=true:=by kernel_rfl) (hr:(Region.ready .any ops listed).contains i=true:=by kernel_rfl) (hf:freeB ops keep listed i A false=true:=by kernel_rfl):WpD P ops Q (Cx M0 bs0 rs0) keep (fuel+1) listed a w:=
 stepDY v i A hs hC hQ ho (wanted_yes hs hg ht hl) hd hdn hsel hr hf hy h
theorem dA (v:Value) (i:Nat) (A:List Nat) {d:Nat} (hs:Sx n E bw M w a env bs rs) (h:∀a',Sx n E bw M w a' ((d,v)::env) bs rs->WpD P ops Q (Cx M0 bs0 rs0) keep fuel (listed.setIfInBounds i true) a' w)
  (hQ:QZ Q:=by exact QZ.no) (ho:ops[i]?=some o:=by rfl) (hg:o.guard=none:=by rfl) (hd:o.dst=some d:=by rfl) (hdn:d<n:=by decide) (hsel:Region.noSelect ops=true:=by kernel_rfl) (hr:(Region.ready .any ops listed).contains i=true:=by kernel_rfl) (hf:freeB ops keep listed i A true=true:=by kernel_rfl)
  (hk:okOp env o=true:=by rfl) (hy:∀w,(execOp (evT env) o).run P w= .ok (.value v) w:=by intro _;kernel_rfl):WpD P ops Q (Cx M0 bs0 rs0) keep (fuel+1) listed a w:=
 stepDP v i A hs hQ ho (wanted_none hg) hd hdn hsel hr hf (Yl.pure hk hy) h
theorem dF (v:Value) (i:Nat) (A:List Nat) {d:Nat} (hs:Sx n E bw M w a env bs rs) (ho:ops[i]?=some o) (hy:Yl P env (λ_=>Option.none) [] [] o v) (h:∀a',Sx n E bw M w a' ((d,v)::env) bs rs->WpD P ops Q (Cx M0 bs0 rs0) keep fuel (listed.setIfInBounds i true) a' w)
  (hQ:QZ Q:=by exact QZ.no) (hg:o.guard=none:=by rfl) (hd:o.dst=some d:=by rfl) (hdn:d<n:=by decide) (hsel:Region.noSelect ops=true:=by kernel_rfl) (hr:(Region.ready .any ops listed).contains i=true:=by kernel_rfl) (hf:freeB ops keep listed i A true=true:=by kernel_rfl):WpD P ops Q (Cx M0 bs0 rs0) keep (fuel+1) listed a w:=
 stepDP v i A hs hQ ho (wanted_none hg) hd hdn hsel hr hf hy h
theorem dC (v:Value) (i:Nat) (A:List Nat) {d:Nat} (hs:Sx n E bw M w a env bs rs) (hC:Cx M0 bs0 rs0 w) (ho:ops[i]?=some o) (hy:Yl P env M0 bs0 rs0 o v) (h:∀a',Sx n E bw M w a' ((d,v)::env) bs rs->WpD P ops Q (Cx M0 bs0 rs0) keep fuel (listed.setIfInBounds i true) a' w)
  (hQ:QZ Q:=by exact QZ.no) (hg:o.guard=none:=by rfl) (hd:o.dst=some d:=by rfl) (hdn:d<n:=by decide) (hsel:Region.noSelect ops=true:=by kernel_rfl) (hr:(Region.ready .any ops listed).contains i=true:=by kernel_rfl) (hf:freeB ops keep listed i A false=true:=by kernel_rfl):WpD P ops Q (Cx M0 bs0 rs0) keep (fuel+1) listed a w:=
 stepDY v i A hs hC hQ ho (wanted_none hg) hd hdn hsel hr hf hy h
end
end Go.Gx

namespace Go.Gx
open Go.RowKit
section
variable {P:Program} {env:Env} {M:Mem} {bs:List Bx} {rs:List Rw} {d:Option Tmp} {ty:TypeId} {pos:String} {af:Array Edge} {gd:Option (Nat×Bool)}
end
end Go.Gx

namespace Go.Gx
open Go.RowKit
section
variable {P:Program} {ops:Array Oper} {Q:Exit->Act->World->Prop} {n:Nat} {E:World} {bw:List Nat} {M:Mem} {w:World} {a:Act} {env:Env} {bs:List Bx} {rs:List Rw} {rest:List Oper}
theorem Sx.down {M1:Mem} (h:Sx n E bw M1 w a env bs rs) (hle:M.le M1):Sx n E bw M w a env bs rs:=by
 have hno:∀b,M1 b=none->M b=none:=λb hb=>by
  cases hm:M b with
  |none=>rfl
  |some o=>rw[hle b o hm]at hb;cases hb
 exact⟨h.ag,λb o hb=>h.on b o (hle b o hb),h.pr,λx hx=>⟨(h.bx x hx).1,hno _ (h.bx x hx).2.1,(h.bx x hx).2.2⟩,λr hr=>⟨(h.rw r hr).1,λg hg=>⟨hno _ ((h.rw r hr).2 g hg).1,((h.rw r hr).2 g hg).2⟩⟩,h.nd⟩
theorem On.hm (h:On M w):M.le (HM w):=λb o hb=>h b o hb
theorem Sx.srcRowA (hs:Sx n E bw M w a env bs rs) (j:Nat) {A:Option Addr} {m c:Nat} {e size:Nat} {news:List Value} {ow:Bool} (hj:rs[j]?=some ⟨.slice A m c,e,size,m,news,ow⟩) (h1:∀u∈news,u.oneCell'=true):Src w A m size news:=
 hs.srcRow j hj (List.all_eq_true.2 h1)
theorem Sx.peek (hs:Sx n E bw M w a env bs rs) (i:Nat) {A:Option Addr} {l c e size:Nat} {xs:List Value} {ow:Bool} (hi:rs[i]?=some ⟨.slice A l c,e,size,l,xs,ow⟩):SlV (HM w) A l c size xs:=by
 obtain⟨g1,_⟩:=hs.rw _ (List.mem_of_getElem? hi)
 obtain⟨ad,cap,he,hc1,hc2,h2⟩:=ownsRow_form g1
 simp only[Value.slice.injEq]at he
 obtain⟨rfl,_,rfl⟩:=he
 refine⟨g1.1,hc1,hc2,λh0=>?_⟩
 rcases h2 with⟨_,h3,_⟩|⟨g,rfl⟩
 ·simp only at h3;omega
 ·refine⟨g,0,rfl,λj v hj=>HM.cell ?_⟩
  have:=g1.cells (g:=g) rfl j v hj
  rw[add_lit]at this
  exact this
theorem stepCallPr {d f:Nat} {ty:TypeId} {c:Call} {pos:String} {af:Array Edge} {fn:Func} {K:Value->Prop} {first caps:Array Value} (args:List Value) (hs:Sx n E bw M w a env bs rs)
  (hk:okOp env ⟨some d,.call c,ty,pos,af,none⟩=true) (hcal:∃x,c.callee= .value x/\evT env x= .func (.func f) first caps) (hargs:first.toList++c.args.toList.map (evT env)++caps.toList=args) (hf:P.funcs[f]?=some fn) (hbody:fn.body.isNone=false) (hname:(fn.name== "runtime.NumGoroutine")=false) (hdn:d<n)
  (hc:CallE P f args.toArray (HM w) λv _=>K v)
  (h:∀a' w' v,K v->Sx n E bw M w' a' ((d,v)::env) bs rs->wpList P ops Q rest a' w'):wpList P ops Q (⟨some d,.call c,ty,pos,af,none⟩::rest) a w:=by
 refine stepK (Z:=λ_ _=>False) (d:=d) hs (λ_ _ h=>h.elim) rfl hk rfl hdn ?_
 unfold OpW
 rw[run_call args hcal hargs hf hbody hname]
 refine(hc w (HM.on w)).mono λe w' ⟨v,he,hb,hK⟩=>?_
 subst he
 intro a' hA
 exact h a' w' v hK ((hs.later hb (hs.on.later hb) (λ_ _=>rfl)).act hA)
theorem stepCallO {d f:Nat} {ty:TypeId} {c:Call} {pos:String} {af:Array Edge} {fn:Func} {K:Value->List Bx->List Rw->Mem->Prop} {first caps:Array Value} {bs0:List Bx} {rs0:List Rw} (args:List Value) (lb bs:List Bx) (lr rs:List Rw) (fl:Bool) (hs:Sx n E bw M w a env bs0 rs0)
  (hbs:bs0=lb++bs) (hrs:rs0=flag fl lr++rs) (hfl:lr=flag false lr)
  (hk:okOp env ⟨some d,.call c,ty,pos,af,none⟩=true) (hcal:∃x,c.callee= .value x/\evT env x= .func (.func f) first caps) (hargs:first.toList++c.args.toList.map (evT env)++caps.toList=args) (hf:P.funcs[f]?=some fn) (hbody:fn.body.isNone=false) (hname:(fn.name== "runtime.NumGoroutine")=false) (hdn:d<n)
  (hc:CallL P f args.toArray M lb lr K)
  (h:∀a' w' M' v lb' lr',K v lb' lr' M'->Sx n E bw M w' a' ((d,v)::env) (lb'++bs) (flag fl lr'++rs)->wpList P ops Q rest a' w'):wpList P ops Q (⟨some d,.call c,ty,pos,af,none⟩::rest) a w:=
 stepCallL args lb bs lr rs fl hs hbs hrs hfl hk hcal hargs hf hbody hname hdn hc λa' w' M' v lb' lr' hle _ hK hs'=>h a' w' M' v lb' lr' hK (hs'.down hle)
theorem stepCallR {d f:Nat} {ty:TypeId} {c:Call} {pos:String} {af:Array Edge} {fn:Func} {K:Value->List Bx->List Rw->Mem->Prop} {first caps:Array Value} (args:List Value) (hs:Sx n E bw M w a env bs rs)
  (hk:okOp env ⟨some d,.call c,ty,pos,af,none⟩=true) (hcal:∃x,c.callee= .value x/\evT env x= .func (.func f) first caps) (hargs:first.toList++c.args.toList.map (evT env)++caps.toList=args) (hf:P.funcs[f]?=some fn) (hbody:fn.body.isNone=false) (hname:(fn.name== "runtime.NumGoroutine")=false) (hdn:d<n)
  (hc:CallL P f args.toArray (HM w) [] [] K)
  (h:∀a' w' M' v lb' lr',K v lb' lr' M'->Sx n E bw M w' a' ((d,v)::env) (lb'++bs) (flag true lr'++rs)->wpList P ops Q rest a' w'):wpList P ops Q (⟨some d,.call c,ty,pos,af,none⟩::rest) a w:=by
 refine stepK (Z:=λ_ _=>False) (d:=d) hs (λ_ _ h=>h.elim) rfl hk rfl hdn ?_
 unfold OpW
 rw[run_call args hcal hargs hf hbody hname]
 have hy0:Sy w (blk [] []) (HM w) w [] []:=⟨HM.on w,Pres.refl _ _,λx hx=>(by cases hx),λr hr=>(by cases hr),⟨List.nodup_nil,(λx hx=>by cases hx),List.Pairwise.nil⟩⟩
 refine(hc w hy0).mono λe w' ⟨v,lb',lr',M',he,hle,hMM,hy,hbe,hK⟩=>?_
 subst he
 intro a' hA
 have hkeep:∀k,k<w.heap.size->w'.heap[k]?=w.heap[k]?:=λk hk=>hy.pr.block k hk (by simp[blk])
 have hM0:∀b,w.heap.size<=b->M b=none:=λb hb=>hs.on.noneAt hb
 let M2:Mem:=λb=>if b<w.heap.size then M b else M' b
 have hlt2:∀b,b<w.heap.size->M2 b=M b:=λb hb=>by simp only[M2,if_pos hb]
 have hge2:∀b,¬b<w.heap.size->M2 b=M' b:=λb hb=>by simp only[M2,if_neg hb]
 have hle2:M.le M2:=λb o hb=>by rw[hlt2 b (hs.on.lt hb)];exact hb
 have hMM2:MM M2 M w:=λb o hb=>by
  by_cases hlt:b<w.heap.size
  ·rw[hlt2 b hlt]at hb;exact .inl hb
  ·exact .inr (by omega)
 have hbw:blk ([]:List Bx) ([]:List Rw)=[]:=rfl
 have hnew:∀k,(w.heap.size<=k\/k∈blk ([]:List Bx) ([]:List Rw))->¬k<w.heap.size:=λk hk=>by
  rw[hbw]at hk
  rcases hk with hk|hk
  ·omega
  ·cases hk
 have hy2:Sy w (blk [] []) M2 w' lb' lr':=by
  refine⟨λb o hb=>?_,hy.pr,λx hx=>?_,λr hr=>?_,hy.nd⟩
  ·by_cases hlt:b<w.heap.size
   ·rw[hlt2 b hlt]at hb;exact(hkeep b hlt).trans (hs.on b o hb)
   ·rw[hge2 b hlt]at hb;exact hy.on b o hb
  ·obtain⟨h1,h2,h3⟩:=hy.bx x hx
   exact⟨h1,(hge2 _ (hnew _ h3)).trans h2,h3⟩
  ·obtain⟨h1,h2⟩:=hy.rw r hr
   refine⟨h1,λg hg=>⟨(hge2 _ (hnew _ ((h2 g hg).2.imp id (·.2)))).trans (h2 g hg).1,(h2 g hg).2⟩⟩
 have:=Sx.back (lb:=[]) (lr:=[]) (fl:=true) hs hle2 hMM2 hy2 hbe hA
 exact h a' w' M' v lb' lr' hK (this.down hle2)
end
end Go.Gx

namespace Go.Gx
open Go.RowKit Go.ChangeShapes
mutual
def dBulk {H:Type}:DataW H->Nat
 | .lit (.string bytes)=>bytes.length+1
 | .lit _=>1
 | .nil=>1
 | .ptr d=>dBulk d+1
 | .slice elems spare=>dBulks elems+dBulks spare+1
 | .agg parts=>dBulks parts+1
 | .iface _ d=>dBulk d+1
 | .map entries=>dBulkEs entries+1
 | .held _=>1
def dBulks {H:Type}:List (DataW H)->Nat
 |[]=>0
 |d::r=>dBulk d+dBulks r
def dBulkEs {H:Type}:List (Lit×DataW H)->Nat
 |[]=>0
 |x::r=>dBulkE x+dBulkEs r
def dBulkE {H:Type}:Lit×DataW H->Nat
 |(.string bytes,d)=>bytes.length+dBulk d+1
 |(_,d)=>dBulk d+1
end
theorem dBulk_pos {H:Type} (d:DataW H):1<=dBulk d:=by
 cases d with
 |lit l=>cases l<;>simp[dBulk]
 |nil=>simp[dBulk]
 |ptr d=>simp[dBulk]
 |slice elems spare=>simp[dBulk]
 |agg parts=>simp[dBulk]
 |iface t d=>simp[dBulk]
 |map entries=>simp[dBulk]
 |held h=>simp[dBulk]
section
variable {H:Type} {enc:TypeId×Value->H} {P:Program} {w:World}
def LeafB (enc:TypeId×Value->H) (P:Program) (w:World) (fuel B:Nat):Leaf->Value->Prop
 | .int k,v=>1<=B/\∃z,v= .int k z/\(Lit.int k z).wf=true
 | .bool,v=>1<=B/\∃b,v= .bool b
 | .str,v=>∃l,v= .string (mkS l)/\l.length<=maxLen/\l.length+1<=B
 | .ptr t e,v=>P.underlying t=some (.pointer e)/\∃n x,n<=fuel/\dBulk x.1<=B/\DataW.trod enc P w 0 (λ_=>true) true n t [v]=some x
 | .sl t e,v=>P.underlying t=some (.slice e)/\∃n x,n<=fuel/\dBulk x.1<=B/\DataW.trod enc P w 0 (λ_=>true) true n t [v]=some x
theorem LeafB.mono {a b B C:Nat} (h:a<=b) (hB:B<=C) (l:Leaf) (v:Value) (k:LeafB enc P w a B l v):LeafB enc P w b C l v:=by
 cases l with
 |ptr t e=>obtain⟨h0,n,x,h1,h2,h3⟩:=k;exact⟨h0,n,x,Nat.le_trans h1 h,Nat.le_trans h2 hB,h3⟩
 |sl t e=>obtain⟨h0,n,x,h1,h2,h3⟩:=k;exact⟨h0,n,x,Nat.le_trans h1 h,Nat.le_trans h2 hB,h3⟩
 |int k'=>exact⟨Nat.le_trans k.1 hB,k.2⟩
 |bool=>exact⟨Nat.le_trans k.1 hB,k.2⟩
 |str=>obtain⟨l,h1,h2,h3⟩:=k;exact⟨l,h1,h2,Nat.le_trans h3 hB⟩
def LvB (enc:TypeId×Value->H) (P:Program) (w:World) (fuel:Nat):Nat->List Leaf->List Value->Prop
 |_,[],cs=>cs=[]
 |B,l::ls,cs=>∃b c v vs,b+c<=B/\cs=v::vs/\LeafB enc P w fuel b l v/\LvB enc P w fuel c ls vs
theorem LvB.mono {a b:Nat} (h:a<=b):∀{ls:List Leaf} {B C:Nat} {cs:List Value},B<=C->LvB enc P w a B ls cs->LvB enc P w b C ls cs
 |[],_,_,_,_,k=>k
 |_::_,_,_,_,hB,⟨x,y,v,vs,h1,h2,h3,h4⟩=>⟨x,y,v,vs,Nat.le_trans h1 hB,h2,h3.mono h (Nat.le_refl _) _ _,h4.mono h (Nat.le_refl _)⟩
theorem LvB.append {n:Nat}:∀{ls ls':List Leaf} {B C:Nat} {cs cs':List Value},LvB enc P w n B ls cs->LvB enc P w n C ls' cs'->LvB enc P w n (B+C) (ls++ls') (cs++cs')
 |[],_,_,_,_,_,h,k=>by cases h;exact k.mono (Nat.le_refl _) (Nat.le_add_left _ _)
 |_::_,_,_,_,_,_,⟨x,y,v,vs,h1,h2,h3,h4⟩,k=>by subst h2;exact⟨x,_,v,_,by omega,rfl,h3,h4.append k⟩
theorem LvB.length {n:Nat}:∀{ls:List Leaf} {B:Nat} {cs:List Value},LvB enc P w n B ls cs->cs.length=ls.length
 |[],_,_,h=>by cases h;rfl
 |_::_,_,_,⟨_,_,_,_,_,h2,_,h4⟩=>by subst h2;simp[h4.length]
theorem trod_leavesB:∀(n fuel:Nat) (t:TypeId) (cs:List Value) (x:DataW H×List MemPlace) (ls:List Leaf),leaves P n t=some ls->DataW.trod enc P w 0 (λ_=>true) true fuel t cs=some x->LvB enc P w fuel (dBulk x.1) ls cs
 |0,_,_,_,_,_,h,_=>by cases h
 |n+1,fuel,t,cs,x,ls,h,hx=>by
  unfold leaves at h
  split at h
  ·rename_i hu
   simp only[Option.some.injEq]at h;subst h
   obtain⟨b,rfl,_⟩:=DataW.trod_bool hu hx
   exact⟨dBulk x.1,0,_,_,by omega,rfl,⟨dBulk_pos _,b,rfl⟩,rfl⟩
  ·rename_i k hu
   simp only[Option.some.injEq]at h;subst h
   obtain⟨z,rfl,_,hw⟩:=DataW.trod_int hu hx
   exact⟨dBulk x.1,0,_,_,by omega,rfl,⟨dBulk_pos _,z,rfl,hw⟩,rfl⟩
  ·rename_i hu
   simp only[Option.some.injEq]at h;subst h
   obtain⟨s,rfl,hxe,hl⟩:=DataW.trod_string hu hx
   subst hxe
   exact⟨s.data.toList.length+1,0,_,_,by simp[dBulk],rfl,⟨s.data.toList,by rw[<-mkS_eta],by simpa using hl,Nat.le_refl _⟩,rfl⟩
  ·rename_i e hu
   simp only[Option.some.injEq]at h;subst h
   have:∃v,cs=[v]:=by
    rcases DataW.trod_pointer hu hx with⟨rfl,_⟩|⟨a,cs',y,m,_,rfl,_⟩<;>exact⟨_,rfl⟩
   obtain⟨v,rfl⟩:=this
   exact⟨dBulk x.1,0,v,[],by omega,rfl,⟨hu,fuel,x,Nat.le_refl _,Nat.le_refl _,hx⟩,rfl⟩
  ·rename_i e hu
   simp only[Option.some.injEq]at h;subst h
   have:∃v,cs=[v]:=by
    rcases DataW.trod_slice hu hx with⟨rfl,_⟩|⟨a,len,cap,elems,rest,m,_,rfl,_⟩<;>exact⟨_,rfl⟩
   obtain⟨v,rfl⟩:=this
   exact⟨dBulk x.1,0,v,[],by omega,rfl,⟨hu,fuel,x,Nat.le_refl _,Nat.le_refl _,hx⟩,rfl⟩
  ·rename_i fs hu
   simp only[Option.bind_eq_some_iff]at h
   obtain⟨l,hl,h⟩:=h
   split at h
   ·rename_i hlen
    simp only[Option.some.injEq]at h;subst h
    obtain⟨xs,m,rfl,rfl,hcl,hxl,hf⟩:=DataW.trod_struct hu hx
    have key:∀(gs:List Field) (o:Nat) (l':List Leaf) (ys:List (DataW H×List MemPlace)),catF P (leaves P n) o gs=some l'->(∀(i:Nat) (f:Field),gs[i]?=some f->DataW.trod enc P w 0 (λ_=>true) true m f.type ((cs.drop f.offset).take (P.cellsOf f.type))=ys[i]?)->gs.length=ys.length->o+l'.length=cs.length->LvB enc P w (m+1) (dBulks (ys.map (·.1))) l' (cs.drop o):=by
     intro gs
     induction gs with
     |nil=>
      intro o l' ys h _ _ ho
      simp only[catF,Option.some.injEq]at h;subst h
      simp only[List.length_nil,Nat.add_zero]at ho
      exact List.drop_of_length_le (by omega)
     |cons f r ih=>
      intro o l' ys h hall hyl ho
      simp only[catF]at h
      split at h
      ·rename_i hoff
       simp only[Option.bind_eq_some_iff]at h
       obtain⟨a,ha,h⟩:=h
       split at h
       ·rename_i hal
        simp only[Option.map_eq_some_iff]at h
        obtain⟨l2,h2,rfl⟩:=h
        cases ys with
        |nil=>simp at hyl
        |cons y ys=>
         have hy:=hall 0 f rfl
         have r1:=(trod_leavesB n m f.type _ y a ha hy).mono (b:=m+1) (by omega) (Nat.le_refl _)
         rw[hoff,<-hal]at r1
         simp only[List.length_append]at ho
         have r2:=ih (o+a.length) l2 ys h2 (λi g hg=>hall (i+1) g (by simpa using hg)) (by simpa using hyl) (by omega)
         have e:cs.drop o=(cs.drop o).take a.length++cs.drop (o+a.length):=by
          rw[<-List.drop_drop];exact(List.take_append_drop _ _).symm
         rw[e]
         simp only[List.map_cons,dBulks]
         exact r1.append r2
       ·cases h
      ·cases h
    have:=key fs.toList 0 l xs hl (λi f hi=>hf i f (by simpa using hi)) (by simpa using hxl.symm) (by omega)
    rw[List.drop_zero]at this
    exact this.mono (Nat.le_refl _) (by simp only[dBulk];omega)
   ·cases h
  ·rename_i k e hu
   simp only[Option.bind_eq_some_iff]at h
   obtain⟨a,ha,h⟩:=h
   split at h
   ·rename_i hc
    simp only[Option.some.injEq]at h;subst h
    obtain⟨xs,m,rfl,rfl,hcl,hxl,hf⟩:=DataW.trod_array hu hx
    have key:∀(j i:Nat) (ys:List (DataW H×List MemPlace)),i+j=k->xs.drop i=ys->LvB enc P w (m+1) (dBulks (ys.map (·.1))) (List.replicate j a).flatten (cs.drop (i*a.length)):=by
     intro j
     induction j with
     |zero=>
      intro i ys hi _
      simp only[List.replicate_zero,List.flatten_nil]
      have:i=k:=by omega
      subst this
      exact List.drop_of_length_le (by omega)
     |succ j ih=>
      intro i ys hi hys
      simp only[List.replicate_succ,List.flatten_cons]
      have hlt:i<xs.length:=by omega
      have r1:=(trod_leavesB n m e _ xs[i] a ha ((hf i (by omega)).trans (List.getElem?_eq_getElem hlt))).mono (b:=m+1) (by omega) (Nat.le_refl _)
      rw[<-hc.1]at r1
      have r2:=ih (i+1) _ (by omega) rfl
      have e':cs.drop (i*a.length)=(cs.drop (i*a.length)).take a.length++cs.drop ((i+1)*a.length):=by
       rw[Nat.succ_mul,<-List.drop_drop];exact(List.take_append_drop _ _).symm
      rw[e',<-hys,List.drop_eq_getElem_cons hlt]
      simp only[List.map_cons,dBulks]
      exact r1.append r2
    have:=key k 0 xs (by omega) rfl
    rw[Nat.zero_mul,List.drop_zero]at this
    exact this.mono (Nat.le_refl _) (by simp only[dBulk];omega)
   ·cases h
  ·cases h
theorem open_slB {fuel B:Nat} {t e:TypeId} {v:Value} {ls:List Leaf} (m:Nat) (sz:Nat) (hls:leaves P m e=some ls) (hsz:P.cellsOf e=sz) (hl:ls.length=sz) (h0:0<sz) (h:LeafB enc P w fuel B (.sl t e) v):
  ∃A l c xss bs,v= .slice A l c/\SlV (HM w) A l c sz (List.flatten xss)/\xss.length=l/\l<=maxLen/\All2 (λcs b=>∃n,n<fuel/\LvB enc P w n b ls cs) xss bs/\bs.sum+1<=B:=by
 obtain⟨ht,n,x,hn,hB,hx⟩:=h
 rcases DataW.trod_slice ht hx with⟨hc,hxe⟩|⟨a,len,cap,elems,rest,n',rfl,hc,hxe,_,hlc,hcm,hel,hels,_⟩
 ·simp only[List.cons.injEq,and_true]at hc
  subst hc
  subst hxe
  exact⟨none,0,0,[],[],rfl,⟨by simp,Nat.le_refl _,by simp,λh=>by omega⟩,rfl,by simp,rfl,by simpa[dBulk]using hB⟩
 ·simp only[List.cons.injEq,and_true]at hc
  subst hc
  subst hxe
  have hex:∀i,(hi:i<len)->∃cs,w.cells? 0 (a.add (i*sz)) sz=some cs/\LvB enc P w n' (dBulk (elems[i]'(by omega)).1) ls cs:=by
   intro i hi
   have h1:=hels i hi
   rw[List.getElem?_eq_getElem (by omega),hsz]at h1
   simp only[Option.bind_eq_some_iff]at h1
   obtain⟨cs,h2,h3⟩:=h1
   exact⟨cs,h2,trod_leavesB m n' e cs _ ls hls h3⟩
  let f:Nat->List Value:=λi=>((w.cells? 0 (a.add (i*sz)) sz).getD [])
  have hf:∀i,(hi:i<len)->w.cells? 0 (a.add (i*sz)) sz=some (f i)/\(f i).length=sz/\LvB enc P w n' (dBulk (elems[i]'(by omega)).1) ls (f i):=by
   intro i hi
   obtain⟨cs,h2,h3⟩:=hex i hi
   have:f i=cs:=by simp[f,h2]
   rw[this]
   exact⟨h2,by rw[h3.length,hl],h3⟩
  have hflat:∀k,k<=len->(((List.range k).map f).flatten).length=k*sz:=by
   intro k
   induction k with
   |zero=>simp
   |succ k ih=>
    intro hk
    rw[List.range_succ,List.map_append,List.flatten_append,List.length_append,ih (by omega)]
    simp[(hf k (by omega)).2.1,Nat.succ_mul]
  have hget:∀k,k<=len->∀j v,(((List.range k).map f).flatten)[j]?=some v->∃i r,i<k/\r<sz/\j=i*sz+r/\(f i)[r]?=some v:=by
   intro k
   induction k with
   |zero=>intro _ j v hj;simp at hj
   |succ k ih=>
    intro hk j v hj
    rw[List.range_succ,List.map_append,List.flatten_append,List.getElem?_append,hflat k (by omega)]at hj
    split at hj
    ·obtain⟨i,r,h1,h2,h3,h4⟩:=ih (by omega) j v hj
     exact⟨i,r,by omega,h2,h3,h4⟩
    ·rename_i hge
     simp only[List.map_cons,List.map_nil,List.flatten_cons,List.flatten_nil,List.append_nil]at hj
     have:=(List.getElem?_eq_some_iff.1 hj).1
     rw[(hf k (by omega)).2.1]at this
     exact⟨k,j-k*sz,by omega,this,by omega,hj⟩
  have hsum:∀l:List (DataW H×List MemPlace),(l.map λx=>dBulk x.1).sum=dBulks (l.map (·.1)):=by
   intro l
   induction l with
   |nil=>rfl
   |cons x r ih=>simp only[List.map_cons,List.sum_cons,dBulks,ih]
  refine⟨some a,len,cap,(List.range len).map f,elems.map λx=>dBulk x.1,rfl,⟨hflat len (Nat.le_refl _),hlc,hcm,λhpos=>?_⟩,by simp,by omega,?_,?_⟩
  ·have hs0:=(cells_at (hf 0 hpos).1 h0).1
   rw[Nat.zero_mul,Addr.add,if_pos rfl]at hs0
   refine⟨a.block,a.off,by rw[<-hs0],λj v hj=>?_⟩
   obtain⟨i,r,h1,h2,rfl,h4⟩:=hget len (Nat.le_refl _) j v hj
   have h5:=(cells_at (hf i h1).1 h0).2 r v h4
   rw[hs0,add_lit]at h5
   rw[<-Nat.add_assoc]
   exact h5
  ·refine All2.of (by simp[hel]) λi cs b hc hb=>?_
   simp only[List.getElem?_map,Option.map_eq_some_iff]at hc hb
   obtain⟨j,hj,rfl⟩:=hc
   obtain⟨y,hy,rfl⟩:=hb
   obtain⟨hjl,rfl⟩:=List.getElem?_eq_some_iff.1 hj
   simp only[List.length_range]at hjl
   simp only[List.getElem_range]at*
   obtain⟨_,rfl⟩:=List.getElem?_eq_some_iff.1 hy
   exact⟨n',by omega,(hf i hjl).2.2⟩
  ·rw[hsum]
   simp only[dBulk]at hB
   omega
theorem typedB {α:Type} {f:α->List Value} {p:Nat->α->Prop}:∀(xss:List (List Value)) (bs:List Nat),All2 (λcs b=>∃e,cs=f e/\p b e) xss bs->∃es:List α,xss=es.map f/\All2 (λe b=>p b e) es bs
 |[],_,h=>by cases h;exact⟨[],rfl,rfl⟩
 |cs::r,_,⟨b,bs,h1,⟨e,he,hp⟩,h3⟩=>by
  subst h1;subst he
  obtain⟨es,rfl,hes⟩:=typedB r bs h3
  exact⟨e::es,rfl,b,bs,rfl,hp,hes⟩
theorem All2.left {α β:Type} {R:α->β->Prop}:∀{as1:List α} {bs:List β},All2 R as1 bs->∀a∈as1,∃b,R a b
 |[],_,_,a,h=>by cases h
 |x::_,_,⟨b,bs,h1,h2,h3⟩,a,h=>by
  rcases List.mem_cons.1 h with rfl|h
  ·exact⟨b,h2⟩
  ·exact h3.left a h
theorem LeafB.slice {fuel B:Nat} {t e:TypeId} {v:Value} (h:LeafB enc P w fuel B (.sl t e) v):∃A l c,v= .slice A l c/\LeafB enc P w fuel B (.sl t e) (.slice A l c):=by
 obtain⟨ht,n,x,hn,hB,hx⟩:=id h
 rcases DataW.trod_slice ht hx with⟨hc,_⟩|⟨a,len,cap,elems,rest,m,_,hc,_⟩
 ·simp only[List.cons.injEq,and_true]at hc;subst hc;exact⟨_,_,_,rfl,h⟩
 ·simp only[List.cons.injEq,and_true]at hc;subst hc;exact⟨_,_,_,rfl,h⟩
theorem LeafB.pointer {fuel B:Nat} {t e:TypeId} {v:Value} (h:LeafB enc P w fuel B (.ptr t e) v):∃p,v= .pointer p/\LeafB enc P w fuel B (.ptr t e) (.pointer p):=by
 obtain⟨ht,n,x,hn,hB,hx⟩:=id h
 rcases DataW.trod_pointer ht hx with⟨hc,_⟩|⟨a,cs',y,m,_,hc,_⟩
 ·simp only[List.cons.injEq,and_true]at hc;subst hc;exact⟨_,rfl,h⟩
 ·simp only[List.cons.injEq,and_true]at hc;subst hc;exact⟨_,rfl,h⟩
theorem argAggB {r:Reach} {b0:Nat} {t:TypeId} {fs:Array Field} {ls:List Leaf} {v:Value} {d:DataW H} {ps:List MemPlace} (m:Nat) (ht:P.underlying t=some (.struct fs)) (hls:leaves P m t=some ls) (hval:Value.okWide P w r b0 t v) (hd:DataW.Trod enc P w 0 (λ_=>true) true t v d ps):
  ∃cs fuel,v= .agg cs.toArray/\LvB enc P w fuel (dBulk d) ls cs:=by
 obtain⟨cs,rfl,_⟩:=WideShapes.okWide_struct ht hval
 obtain⟨fuel,hf⟩:=hd
 exact⟨cs.toList,fuel,rfl,trod_leavesB m fuel t _ _ ls hls (by simpa[Value.cells]using hf)⟩
end
end Go.Gx

namespace Go.Gx
open Go.RowKit
def Mem.put (M:Mem) (b o:Nat) (vs:List Value):Mem:=λx=>if x=b then(match M b with
 |some (.cells c t f)=>some (.cells (putAt c.toList o vs).toArray t f)
 |r=>r) else M x
def Mem.add (M:Mem) (b:Nat) (o:Obj):Mem:=λx=>if x=b then some o else M x
section
variable {P:Program} {ops:Array Oper} {Q:Exit->Act->World->Prop} {n:Nat} {E:World} {M M0:Mem} {L:Nat->Prop} {w:World} {a:Act} {env:Env} {bs:List Bx} {rs:List Rw} {rest:List Oper}
end
section
variable {P:Program} {env:Env} {M:Mem} {bs:List Bx} {rs:List Rw} {d:Option Tmp} {ty:TypeId} {pos:String} {af:Array Edge} {gd:Option (Nat×Bool)}
end
end Go.Gx

namespace Go.Gx
open Go.RowKit Go.Maps Go.WideMaps
section
variable {P:Program} {ops:Array Oper} {Q:Exit->Act->World->Prop} {n:Nat} {E:World} {M M0:Mem} {L:Nat->Prop} {w:World} {a:Act} {env:Env} {bs:List Bx} {rs:List Rw} {rest:List Oper}
variable {d:Option Tmp} {ty:TypeId} {pos:String} {af:Array Edge} {gd:Option (Nat×Bool)}
end
section
variable {P:Program} {fn:Func} {n:Nat} {E:World} {bw:List Nat} {M:Mem} {w:World} {a:Act} {env:Env} {bs:List Bx} {rs:List Rw}
end
end Go.Gx

namespace Go.Gx
open Go.RowKit
section
variable {P:Program} {N J:Act->World->Prop} {X:List (Nat×(Act->World->Prop))} {R:Act->World->Prop} {Z:List PanicEntry->Act->World->Prop} {a:Act} {w:World} {ops:Array Oper} {Q:Exit->Act->World->Prop}
theorem wn (h:Q .normal a w):wpList P ops Q [] a w:=h
theorem qs {x y:Code} (h:Wp P x (λa w=>Wp P y N X R Z a w) X R Z a w):Wp P (.seq x y) N X R Z a w:=Wp.seq h
theorem qg {id:Nat} {l:List Oper} (h:wpList P l.toArray (QQ N X R Z) l a w):Wp P (.region id l.toArray false) N X R Z a w:=Wp.region h
theorem qr {id:Nat} {l:List Oper} {y:Code} (h:wpList P l.toArray (QQ (λa w=>Wp P y N X R Z a w) X R Z) l a w):Wp P (.seq (.region id l.toArray false) y) N X R Z a w:=Wp.seq (Wp.region h)
theorem qk (h:N a w):Wp P .skip N X R Z a w:=Wp.skip h
theorem qt (h:R a w):Wp P .ret N X R Z a w:=Wp.ret h
theorem qb {id:Nat} {c:Code} (h:Wp P c N ((id,N)::X) R Z a w):Wp P (.block id c) N X R Z a w:=Wp.block h
theorem qx {id:Nat} {K:Act->World->Prop} (hx:lkX X id=some K) (h:K a w):Wp P (.exit id) N X R Z a w:=Wp.exit hx h
end
theorem SubE.of {env:Env}:∀{env':Env},(env'.map λp=>lk env p.1)=(env'.map λp=>some p.2)->SubE env env'
 |[],_=>trivial
 |p::r,h=>by
  simp only[List.map_cons,List.cons.injEq]at h
  exact⟨h.1,SubE.of h.2⟩
section
variable {P:Program} {ops:Array Oper} {Q:Exit->Act->World->Prop} {n:Nat} {E:World} {bw:List Nat} {M M0:Mem} {w:World} {a:Act} {env env':Env} {bs bs':List Bx} {rs rs':List Rw} {rest:List Oper} {o o1 o2 o3 o4 o5 o6:Oper}
theorem Sx.q (hs:Sx n E bw M w a env bs rs) (he:(env'.map λp=>lk env p.1)=(env'.map λp=>some p.2):=by rfl):Sx n E bw M w a env' bs rs:=hs.wk (SubE.of he)
theorem Sx.qq (hs:Sx n E bw M w a env bs rs) (hb:bs'.Sublist bs) (hr:rs'.Sublist rs) (he:(env'.map λp=>lk env p.1)=(env'.map λp=>some p.2):=by rfl):Sx n E bw M w a env' bs' rs':=hs.weak hb hr (SubE.of he)
structure Pq (P:Program) (n:Nat) (env:Env) (o:Oper) (d:Nat) (v:Value):Prop where
 g1:o.guard=none
 d1:o.dst=some d
 n1:d<n
 k1:okOp env o=true
 r1:∀w,(execOp (evT env) o).run P w= .ok (.value v) w
theorem Pq.s {d:Nat} {v:Value} (q:Pq P n env o d v) (hs:Sx n E bw M w a env bs rs) (h:∀a',Sx n E bw M w a' ((d,v)::env) bs rs->wpList P ops Q rest a' w):wpList P ops Q (o::rest) a w:=sP v hs h q.g1 q.d1 q.n1 q.k1 q.r1
theorem sP2 (v1 v2:Value) {d1 d2:Nat} (hs:Sx n E bw M w a env bs rs) (h:∀a',Sx n E bw M w a' ((d2,v2)::(d1,v1)::env) bs rs->wpList P ops Q rest a' w)
  (q1:Pq P n env o1 d1 v1:=by exact⟨rfl,rfl,by decide,rfl,by intro _;kernel_rfl⟩) (q2:Pq P n ((d1,v1)::env) o2 d2 v2:=by exact⟨rfl,rfl,by decide,rfl,by intro _;kernel_rfl⟩):wpList P ops Q (o1::o2::rest) a w:=
 q1.s hs λ_ hs=>q2.s hs h
theorem sP3 (v1 v2 v3:Value) {d1 d2 d3:Nat} (hs:Sx n E bw M w a env bs rs) (h:∀a',Sx n E bw M w a' ((d3,v3)::(d2,v2)::(d1,v1)::env) bs rs->wpList P ops Q rest a' w)
  (q1:Pq P n env o1 d1 v1:=by exact⟨rfl,rfl,by decide,rfl,by intro _;kernel_rfl⟩) (q2:Pq P n ((d1,v1)::env) o2 d2 v2:=by exact⟨rfl,rfl,by decide,rfl,by intro _;kernel_rfl⟩)
  (q3:Pq P n ((d2,v2)::(d1,v1)::env) o3 d3 v3:=by exact⟨rfl,rfl,by decide,rfl,by intro _;kernel_rfl⟩):wpList P ops Q (o1::o2::o3::rest) a w:=
 q1.s hs λ_ hs=>q2.s hs λ_ hs=>q3.s hs h
theorem sP4 (v1 v2 v3 v4:Value) {d1 d2 d3 d4:Nat} (hs:Sx n E bw M w a env bs rs) (h:∀a',Sx n E bw M w a' ((d4,v4)::(d3,v3)::(d2,v2)::(d1,v1)::env) bs rs->wpList P ops Q rest a' w)
  (q1:Pq P n env o1 d1 v1:=by exact⟨rfl,rfl,by decide,rfl,by intro _;kernel_rfl⟩) (q2:Pq P n ((d1,v1)::env) o2 d2 v2:=by exact⟨rfl,rfl,by decide,rfl,by intro _;kernel_rfl⟩)
  (q3:Pq P n ((d2,v2)::(d1,v1)::env) o3 d3 v3:=by exact⟨rfl,rfl,by decide,rfl,by intro _;kernel_rfl⟩) (q4:Pq P n ((d3,v3)::(d2,v2)::(d1,v1)::env) o4 d4 v4:=by exact⟨rfl,rfl,by decide,rfl,by intro _;kernel_rfl⟩):wpList P ops Q (o1::o2::o3::o4::rest) a w:=
 q1.s hs λ_ hs=>q2.s hs λ_ hs=>q3.s hs λ_ hs=>q4.s hs h
theorem sB1 (v:Value) (i:Nat) {d:Nat} {t ty:TypeId} {x:Operand} {pos:String} {af:Array Edge} {b k:Nat} {cs:List Value} {bt:TypeId} (hs:Sx n E bw M w a env bs rs) (h:∀a',Sx n E bw M w a' ((d,v)::env) bs rs->wpList P ops Q rest a' w)
  (hi:bs[i]?=some ⟨b,bt,cs⟩:=by rfl) (hk:known env x=true:=by rfl) (hx:evT env x= .pointer (some ⟨b,k,none⟩):=by rfl) (ht:tyOk P t false 1=true:=by kernel_rfl) (hvs:(cs.drop k).take 1=[v]:=by rfl) (hdn:d<n:=by decide):wpList P ops Q (⟨some d,.load t x,ty,pos,af,none⟩::rest) a w:=
 sY v hs (Yl.lB [v] false i hi hk hx ht hvs) h rfl rfl hdn
theorem sV1 (v:Value) {d:Nat} {t ty:TypeId} {x:Operand} {pos:String} {af:Array Edge} {b k:Nat} (hat:At M b k [v]) (hs:Sx n E bw M w a env bs rs) (h:∀a',Sx n E bw M w a' ((d,v)::env) bs rs->wpList P ops Q rest a' w)
  (hk:known env x=true:=by rfl) (hx:evT env x= .pointer (some ⟨b,k,none⟩):=by rfl) (ht:tyOk P t false 1=true:=by kernel_rfl) (hdn:d<n:=by decide):wpList P ops Q (⟨some d,.load t x,ty,pos,af,none⟩::rest) a w:=
 sY v hs (Yl.lV [v] false hat hk hx ht) h rfl rfl hdn
theorem sI (e sz:Nat) {d:Nat} {t ty:TypeId} {x i:Operand} {pos:String} {af:Array Edge} {b k l c:Nat} {ik:IntKind} {z:Int} {ad:Option Addr} (had:ad=some ⟨b,k,none⟩) (h0:0<=z) (hl:z<l) (hs:Sx n E bw M w a env bs rs)
  (h:∀a',Sx n E bw M w a' ((d,.pointer (some ⟨b,k+z.toNat*sz,none⟩))::env) bs rs->wpList P ops Q rest a' w) (hkx:known env x=true:=by rfl) (hki:known env i=true:=by rfl) (hx:evT env x= .slice ad l c:=by rfl) (hi:evT env i= .int ik z:=by rfl)
  (hu:P.underlying t=some (.slice e):=by kernel_rfl) (hn:(P.info? e).map (·.size)=some sz:=by kernel_rfl) (hdn:d<n:=by decide):wpList P ops Q (⟨some d,.indexAddr t x i,ty,pos,af,none⟩::rest) a w:=
 sY _ hs (Yl.iS e sz had h0 hl hkx hki hx hi hu hn) h rfl rfl hdn
theorem rT {K:Value->Prop} {fn:Func} {v:Value} {t:Nat} (hs:Sx n E [] M w a env bs rs) (hM:MX M M0 E) (hK:K v) (hr:fn.results= #[.tmp t]:=by rfl) (hv:lk env t=some v:=by rfl):
  a.defers=[]/\∃v,(results fn a.tmps).run P w= .ok v w/\Below E.heap.size E w/\K v:=lvE K hs (resT hs hr hv) hM.2 hK
end
section
variable {P:Program} {ops:Array Oper} {Q:Exit->Act->World->Prop} {M0:Mem} {bs0:List Bx} {rs0:List Rw} {keep:List Bool} {n:Nat} {E:World} {bw:List Nat} {M:Mem} {w:World} {a:Act} {env:Env} {bs:List Bx} {rs:List Rw} {o:Oper} {fuel:Nat} {listed:Array Bool}
theorem dNo (i:Nat) (A:List Nat) {d j t:Nat} {b c:Bool} (hs:Sx n E bw M w a env bs rs) (h:∀a',Sx n E bw M w a' ((d,undef)::env) bs rs->WpD P ops Q (Cx M0 bs0 rs0) keep fuel (listed.setIfInBounds i true) a' w)
  (hQ:QZ Q:=by exact QZ.no) (ho:ops[i]?=some o:=by rfl) (hg:o.guard=some (j,b):=by rfl) (ht:(ops[j]?).bind (·.dst)=some t:=by rfl) (hl:lk env t=some (.bool c):=by rfl) (hne:(c==b)=false:=by rfl) (hd:o.dst=some d:=by rfl) (hdn:d<n:=by decide)
  (hsel:Region.noSelect ops=true:=by kernel_rfl) (hr:(Region.ready .any ops listed).contains i=true:=by kernel_rfl) (hf:freeB ops keep listed i A true=true:=by kernel_rfl):WpD P ops Q (Cx M0 bs0 rs0) keep (fuel+1) listed a w:=
 dN i A hs hQ (wanted_no hs hg ht hl hne) h ho hd hdn hsel hr hf
end
section
variable {P:Program} {f:FuncId} {fn:Func} {c:Code} {M:Mem} {K:Value->Mem->Prop} {L:Nat->Prop}
abbrev EndE (P:Program) (fn:Func) (M:Mem) (K:Value->Mem->Prop) (w:World) (a':Act) (w':World):Prop:=a'.defers=[]/\∃v,(results fn a'.tmps).run P w'= .ok v w'/\Below w.heap.size w w'/\K v (grow M w w')
theorem eE1 {a0:Value} (hf:P.funcs[f]?=some fn) (n:Nat) (h:∀w a,MX M M w->Sx n w [] M w a [(0,a0)] [] []->Wp P c (EndE P fn M K w) [] (EndE P fn M K w) (λ_ _ _=>False) a w) (hb:fn.body=some c:=by rfl) (hn:fn.ntmps=n:=by rfl) (hl:1<=n:=by exact Nat.le_of_ble_eq_true rfl):CallE P f #[a0] M K:=
 enterE (l:=[a0]) hf hb n hn hl λw a hs=>h w a (MX.refl M w) hs
end
end Go.Gx

namespace Go.Gx
open Go.RowKit Go.Maps Go.WideMaps
section
variable {P:Program} {ops:Array Oper} {Q:Exit->Act->World->Prop} {n:Nat} {E:World} {M M0:Mem} {L:Nat->Prop} {w:World} {a:Act} {env:Env} {bs:List Bx} {rs:List Rw} {rest:List Oper}
variable {d:Option Tmp} {ty:TypeId} {pos:String} {af:Array Edge} {gd:Option (Nat×Bool)}
end
section
variable {P:Program} {ops:Array Oper} {Q:Exit->Act->World->Prop} {n:Nat} {E:World} {bw:List Nat} {M:Mem} {w:World} {a:Act} {env:Env} {bs:List Bx} {rs:List Rw} {rest:List Oper} {o:Oper}
end
end Go.Gx

namespace Go.Gx
open Go.RowKit
theorem run_storeM (P:Program) (g o:Nat) (t:TypeId) (f:Nat×Nat):∀(vs:List Value) (i:Nat) (cur:Array Value) (w:World),w.heap[g]?=some (.cells cur t f)->(f=(0,0)\/cur.size<=f.1)->o+i+vs.length<=cur.size->(∀v∈vs,v.oneCell'=true)->
  (storeCells ⟨g,o,none⟩ vs i).run P w= .ok () (w.setRow g (cur.toList.take (o+i)++vs++cur.toList.drop (o+i+vs.length)).toArray)
 |[],i,cur,w,hg,_,_,_=>by
  have e:(cur.toList.take (o+i)++[]++cur.toList.drop (o+i+([]:List Value).length)).toArray=cur:=by simp
  rw[e,setRow_self w g cur t f hg]
  rfl
 |v::rest,i,cur,w,hg,hf,hl,h1=>by
  have hi:o+i<cur.size:=by simp at hl;omega
  have hst:(store ((⟨g,o,none⟩:Addr).add i) v).run P w= .ok () (w.setRow g (cur.setIfInBounds (o+i) v)):=by
   have hadd:(⟨g,o,none⟩:Addr).add i=⟨g,o+i,none⟩:=by unfold Addr.add;split<;>simp_all
   have hfro:w.frozen? ⟨g,o+i,none⟩=false:=by
    obtain⟨lo,hi'⟩:=f
    rcases hf with h|h
    ·cases h;simp[World.frozen?,hg]
    ·simp only at h
     simp only[World.frozen?,hg,Bool.and_eq_false_iff,decide_eq_false_iff_not]
     exact .inl (by omega)
   have hcell:w.cell? ⟨g,o+i,none⟩=some cur[o+i]:=by simp[World.cell?,hg,hi]
   rw[hadd,run_store P w _ v _ (h1 v (by simp)),hcell]
   simp[hfro,setCell_eq_setRow w g (o+i) cur t f v hg]
  have ih:=run_storeM P g o t f rest (i+1) (cur.setIfInBounds (o+i) v) (w.setRow g (cur.setIfInBounds (o+i) v)) (setRow_heap w g cur _ t _ hg) (by simpa using hf) (by simp at hl ⊢;omega) (λx hx=>h1 x (by simp[hx]))
  simp only[storeCells,Sem.run_bind,hst,Result.andThen_ok,ih,setRow_setRow]
  congr 3
  have e:=list_seg_step cur.toList (o+i) v rest (by simp at hl ⊢;omega)
  simpa[Array.toList_setIfInBounds,Nat.add_assoc]using e
section
variable {P:Program} {ops:Array Oper} {Q:Exit->Act->World->Prop} {n:Nat} {E:World} {M M0:Mem} {L:Nat->Prop} {w:World} {a:Act} {env:Env} {bs:List Bx} {rs:List Rw} {rest:List Oper}
end
section
variable {P:Program} {ops:Array Oper} {Q:Exit->Act->World->Prop} {n:Nat} {E:World} {M M0:Mem} {L:Nat->Prop} {w:World} {a:Act} {env:Env} {bs:List Bx} {rs:List Rw} {rest:List Oper}
end
end Go.Gx

namespace Go.Gx
open Go.RowKit
theorem run_appendT {P:Program} {w:World} {t ty e:TypeId} {size bytes:Nat} (ht:P.underlying t=some (.slice e)) (hi:(P.info? e).map (λi=>(i.size,i.bytes,i.zero.map (·.cells.size)))=some (size,bytes,some size))
  {g n cap:Nat} {cur:Array Value} (hg:w.heap[g]?=some (.cells cur e (0,0))) (hcs:cur.size=cap*size) {ad:Addr} {m c:Nat} {news:List Value} (hr:Src w (some ad) m size news) (hroom:n+m<=cap):
  (Builtin.append_ #[t,t] ty #[.slice (some ⟨g,0,none⟩) n cap,.slice (some ad) m c]).run P w= .ok (.slice (some ⟨g,0,none⟩) (n+m) cap) (w.setRow g (cur.toList.take (n*size)++news++cur.toList.drop (n*size+news.length)).toArray):=by
 cases hinf:P.info? e with
 |none=>simp[hinf]at hi
 |some i=>
  simp only[hinf,Option.map_some,Option.some.injEq,Prod.mk.injEq]at hi
  obtain⟨rfl,rfl,h3⟩:=hi
  obtain⟨hl,h1,hA⟩:=hr
  have hnews:∀j u,news[j]?=some u->w.cell? (ad.add j)=some u:=λj u hu=>by
   rcases Nat.eq_zero_or_pos m with h0|h0
   ·subst h0
    have hn:news=[]:=List.eq_nil_of_length_eq_zero (by simpa using hl)
    subst hn
    simp at hu
   ·obtain⟨ad',e,hc⟩:=hA h0
    cases e
    exact hc j u hu
  have hfit:n*i.size+news.length<=cur.size:=by rw[hl,hcs,<-Nat.add_mul];exact Nat.mul_le_mul_right _ hroom
  have hfc:=run_firstCells_some (P:=P) w i.size m ad m c news hl hnews
  have hst:=run_storeM P g (n*i.size) e (0,0) news 0 cur w hg (.inl rfl) (by simpa using hfit) h1
  simp only[Nat.add_zero]at hst
  simp[Builtin.append_,run_underlying ht,sizeOf,typeInfo,hinf,Builtin.lenOf,hroom,hfc,Addr.add_lit,hst]
section
variable {P:Program} {ops:Array Oper} {Q:Exit->Act->World->Prop} {n:Nat} {E:World} {bw:List Nat} {M:Mem} {w:World} {a:Act} {env:Env} {bs:List Bx} {rs:List Rw} {rest:List Oper}
theorem grown_set (w:World) (g:Nat) (cs:Array Value) (l c:Nat):w.grownBy (w.setRow g cs) (Value.slice (some ⟨g,0,none⟩) l c).ownBlock:=by
 refine⟨rfl,rfl,rfl,by simp[World.setRow],λq _ hne=>?_⟩
 simp only[World.setRow,Array.getElem?_modify]
 rw[if_neg]
 rintro rfl
 exact hne rfl
theorem Sx.srcTail (hs:Sx n E bw M w a env bs rs) (i:Nat) {g k cap e size j:Nat} {xs:List Value} {ow:Bool} (hi:rs[i]?=some ⟨.slice (some ⟨g,0,none⟩) k cap,e,size,k,xs,ow⟩) (hj:j<=k) (h1:∀u∈xs,u.oneCell'=true):Src w (some ⟨g,j*size,none⟩) (k-j) size (xs.drop (j*size)):=by
 obtain⟨g1,_⟩:=hs.rw _ (List.mem_of_getElem? hi)
 have hx:=g1.1
 simp only at hx
 refine⟨by rw[List.length_drop,hx,Nat.sub_mul],λu hu=>h1 u (List.mem_of_mem_drop hu),λ_=>⟨_,rfl,λq u hu=>?_⟩⟩
 rcases g1.2 with⟨hv,_⟩|⟨g',cap',cur,hv,_,hg,_,_,h5,h6⟩
 ·cases hv
 ·cases hv
  simp only at h6
  rw[List.getElem?_drop,<-h6,List.getElem?_take]at hu
  split at hu
  ·have e:(⟨g,j*size,none⟩:Addr).add q=⟨g,j*size+q,none⟩:=by unfold Addr.add;split<;>simp_all
   rw[e]
   simp only[World.cell?,hg]
   simpa using hu
  ·cases hu
theorem stepAppendT (i:Nat) {d:Nat} {ty:TypeId} {x y:Operand} {t e:TypeId} {size bytes:Nat} {pos:String} {af:Array Edge} {g k0 k cap:Nat} {xs:List Value} {ad:Addr} {m c:Nat} {ow:Bool} (news:List Value)
  (hs:Sx n E bw M w a env bs rs) (hi:rs[i]?=some ⟨.slice (some ⟨g,0,none⟩) k cap,e,size,k,xs,ow⟩) (hkx:known env x=true) (hky:known env y=true) (hx:evT env x= .slice (some ⟨g,0,none⟩) k0 cap) (hy:evT env y= .slice (some ad) m c)
  (ht:P.underlying t=some (.slice e)) (hinf:(P.info? e).map (λi=>(i.size,i.bytes,i.zero.map (·.cells.size)))=some (size,bytes,some size)) (hdn:d<n)
  (hr:Src w (some ad) m size news) (hk0:k0<=k) (hroom:k0+m<=cap)
  (h:∀a' w',Sx n E bw M w' a' ((d,.slice (some ⟨g,0,none⟩) (k0+m) cap)::env) bs (rs.set i ⟨.slice (some ⟨g,0,none⟩) (k0+m) cap,e,size,k0+m,xs.take (k0*size)++news,ow⟩)->wpList P ops Q rest a' w'):
  wpList P ops Q (⟨some d,.call {callee:=.builtin .append,args:= #[x,y],argTypes:= #[t,t]},ty,pos,af,none⟩::rest) a w:=by
 refine stepK (Z:=λ_ _=>False) (d:=d) hs (λ_ _ h=>h.elim) rfl (by simp[okOp,notSel,Op.operands,Call.operands,hkx,hky]) rfl hdn ?_
 obtain⟨g1,_⟩:=hs.rw _ (List.mem_of_getElem? hi)
 have hxl:=g1.1
 simp only at hxl
 rcases g1.2 with⟨hv,_⟩|⟨g',cap',cur,hv,hb,hg,h3,h4,h5,h6⟩
 ·cases hv
 ·cases hv
  simp only at h3 h6
  have hrun:=run_appendT (P:=P) (ty:=ty) (c:=c) ht hinf (n:=k0) hg h5 hr hroom
  refine OpW.of_run (w':=_) (v:=.slice (some ⟨g,0,none⟩) (k0+m) cap) (by rw[run_call_append hx hy,hrun];rfl) ?_
  intro a' hA
  have hle:(k0+m)*size<=cap*size:=Nat.mul_le_mul_right _ hroom
  have hle0:k0*size<=k*size:=Nat.mul_le_mul_right _ hk0
  have hcl:cur.toList.length=cap*size:=by simpa using h5
  have hnl:=hr.1
  rw[Nat.add_mul]at hle
  have htk:(cur.toList.take (k0*size))=xs.take (k0*size):=by rw[<-h6,List.take_take,Nat.min_eq_left hle0]
  have hxk:(xs.take (k0*size)).length=k0*size:=by rw[List.length_take];omega
  refine h a' _ (hs.rowset (r':=⟨.slice (some ⟨g,0,none⟩) (k0+m) cap,e,size,k0+m,xs.take (k0*size)++news,ow⟩) i hi (grown_set w g _ _ _) rfl ⟨?_,.inr ⟨g,cap,_,rfl,Nat.zero_le _,setRow_heap w g cur _ e (0,0) hg,hroom,h4,?_,?_⟩⟩ (.inl rfl) hA)
  ·simp only
   rw[List.length_append,hxk,hnl,Nat.add_mul]
  ·simp only[List.size_toArray,List.length_append,List.length_take,List.length_drop,hcl]
   omega
  ·simp only
   rw[htk,List.take_append_of_le_length (by rw[List.length_append,hxk,hnl,Nat.add_mul];exact Nat.le_refl _)]
   exact List.take_of_length_le (by rw[List.length_append,hxk,hnl,Nat.add_mul];exact Nat.le_refl _)
theorem slA_some (ad:Addr) (lo c size:Nat):∃ad',slA (some ad) lo c size=some ad':=by
 unfold slA
 split
 ·exact⟨_,rfl⟩
 ·exact⟨_,rfl⟩
theorem slA_at {g p c size:Nat} (h:p<c):slA (some ⟨g,0,none⟩) p c size=some ⟨g,p*size,none⟩:=by
 unfold slA
 rw[if_neg (by omega)]
 show some ((⟨g,0,none⟩:Addr).add (p*size))=_
 have e:(⟨g,0,none⟩:Addr).add (p*size)=⟨g,0+p*size,none⟩:=by unfold Addr.add;split<;>simp_all
 rw[e,Nat.zero_add]
theorem stepDrop (i:Nat) {d:Nat} {ty:TypeId} {x y:Operand} {t e:TypeId} {size bytes:Nat} {pos:String} {af:Array Edge} {g k0 j k cap:Nat} {ad:Option Addr} {xs:List Value} {ow:Bool}
  (hs:Sx n E bw M w a env bs rs) (hi:rs[i]?=some ⟨.slice ad k cap,e,size,k,xs,ow⟩) (had:ad=some ⟨g,0,none⟩) (hkx:known env x=true) (hky:known env y=true) (hx:evT env x= .slice ad k0 cap) (hy:evT env y= .slice (slA ad j cap size) (k-j) (cap-j))
  (ht:P.underlying t=some (.slice e)) (hinf:(P.info? e).map (λi=>(i.size,i.bytes,i.zero.map (·.cells.size)))=some (size,bytes,some size)) (hdn:d<n) (hk0:k0<=j) (hj:j<=k) (h1:∀u∈xs,u.oneCell'=true)
  (h:∀a' w',Sx n E bw M w' a' ((d,.slice ad (k0+(k-j)) cap)::env) bs (rs.set i ⟨.slice ad (k0+(k-j)) cap,e,size,k0+(k-j),xs.take (k0*size)++xs.drop (j*size),ow⟩)->wpList P ops Q rest a' w'):
  wpList P ops Q (⟨some d,.call {callee:=.builtin .append,args:= #[x,y],argTypes:= #[t,t]},ty,pos,af,none⟩::rest) a w:=by
 subst had
 have hkc:k<=cap:=by
  obtain⟨_,_,he,h3,_⟩:=ownsRow_form (hs.rw _ (List.mem_of_getElem? hi)).1
  cases he
  exact h3
 obtain⟨ad',hA⟩:=slA_some ⟨g,0,none⟩ j cap size
 rw[hA]at hy
 have hr:=hs.srcTail i hi hj h1
 refine stepAppendT i (xs.drop (j*size)) hs hi hkx hky hx hy ht hinf hdn ?_ (by omega) (by omega) h
 by_cases hc:j<cap
 ·rw[slA_at hc]at hA
  cases hA
  exact hr
 ·have h0:k-j=0:=by omega
  refine⟨hr.1,hr.2.1,λh=>by omega⟩
end
end Go.Gx

namespace Go.Gx
open Go.RowKit
section
variable {P:Program} {env:Env} {M:Mem} {bs:List Bx} {rs:List Rw} {d:Option Tmp} {ty:TypeId} {pos:String} {af:Array Edge} {gd:Option (Nat×Bool)}
end
section
variable {P:Program} {ops:Array Oper} {Q:Exit->Act->World->Prop} {n:Nat} {E:World} {M M0:Mem} {L:Nat->Prop} {w:World} {a:Act} {env:Env} {bs:List Bx} {rs:List Rw} {rest:List Oper}
end
section
variable {P:Program} {ops:Array Oper} {Q:Exit->Act->World->Prop} {n:Nat} {E:World} {bw:List Nat} {M:Mem} {w:World} {a:Act} {env:Env} {bs:List Bx} {rs:List Rw} {rest:List Oper}
theorem run_append_str {t u ty e:TypeId} (ht:P.underlying t=some (.slice e)) (hu:P.underlying u=some .string) (hinf:(P.info? e).map (λi=>(i.size,i.bytes,i.zero))=some (1,1,some (.int .u8 0)))
  {v:Value} {k:Nat} {xs:List Value} (hown:w.ownsRow 0 e 1 v k xs) (l:List UInt8) (hb:k+l.length<=140737488355328):
  ∃v' w',(Builtin.append_ #[t,u] ty #[v,.string (mkS l)]).run P w= .ok v' w'/\w'.ownsRow 0 e 1 v' (k+l.length) (xs++Lib.strCells (mkS l))/\w.grownBy w' v.ownBlock/\
   (v'.ownBlock=v.ownBlock\/v'.ownBlock=none\/v'.ownBlock=some w.heap.size):=by
 cases hi:P.info? e with
 |none=>simp[hi]at hinf
 |some i=>
  simp only[hi,Option.map_some,Option.some.injEq,Prod.mk.injEq]at hinf
  obtain⟨h1,h2,h3⟩:=hinf
  have hz:(mkS l).size=l.length:=mkS_size l
  obtain⟨v',w',hrun,g1,g2,g3⟩:=Lib.run_append_own_string (P:=P) w 0 t u ty e i ht hu hi h3 h1 h2 v k xs hown (mkS l) (by unfold maxLen;omega) (by omega) (Nat.zero_le _)
  rw[hz]at g1
  refine⟨v',w',hrun,g1,g2,?_⟩
  have hxl:xs.length=k:=by simpa using hown.1
  rcases hown.2 with⟨rfl,rfl⟩|⟨g,cap,cur,rfl,hbg,hg,hnc,hcm,hcs,htake⟩
  ·by_cases hm:(mkS l).size=0
   ·exact .inr (.inl (by rw[g3.2 ⟨rfl,hm⟩];rfl))
   ·have hr:=run_append_nil_string (P:=P) w t u ty e i (.int .u8 0) ht hu hi h3 (mkS l) (by omega) (by omega) (by rw[h2];omega)
    rw[hrun]at hr
    injection hr with hv _
    exact .inr (.inr (by rw[hv];rfl))
  ·by_cases hroom:k+(mkS l).size<=cap
   ·have hr:=Lib.run_append_room_string (P:=P) w t u ty e i ht hu hi h1 g k cap cur hg (mkS l) hroom (by omega)
    rw[hrun]at hr
    injection hr with hv _
    exact .inl (by rw[hv];rfl)
   ·have holds:∀j u,xs[j]?=some u->w.cell? ((⟨g,0,none⟩:Addr).add j)=some u:=hown.cells (g:=g) rfl
    have hr:=Lib.run_append_grow_string (P:=P) w t u ty e i (.int .u8 0) ht hu hi h3 ⟨g,0,none⟩ k cap xs (by rw[h1];simpa using hxl) holds (mkS l) (by omega) (by omega) (by rw[h2];exact growslice_fits (by omega) (by omega))
    rw[hrun]at hr
    injection hr with hv _
    exact .inr (.inr (by rw[hv];rfl))
theorem stepAppendS (i:Nat) {d:Nat} {ty:TypeId} {x y:Operand} {t u e:TypeId} {pos:String} {af:Array Edge} {v:Value} {k:Nat} {xs:List Value} {l:List UInt8} {ow:Bool}
  (hs:Sx n E bw M w a env bs rs) (hi:rs[i]?=some ⟨v,e,1,k,xs,ow⟩) (hkx:known env x=true) (hky:known env y=true) (hx:evT env x=v) (hy:evT env y= .string (mkS l))
  (ht:P.underlying t=some (.slice e)) (hu:P.underlying u=some .string) (hinf:(P.info? e).map (λi=>(i.size,i.bytes,i.zero))=some (1,1,some (.int .u8 0))) (hdn:d<n) (hb:k+l.length<=140737488355328)
  (h:∀a' w' v',Sx n E bw M w' a' ((d,v')::env) bs (rs.set i ⟨v',e,1,k+l.length,xs++Lib.strCells (mkS l),ow⟩)->wpList P ops Q rest a' w'):
  wpList P ops Q (⟨some d,.call {callee:=.builtin .append,args:= #[x,y],argTypes:= #[t,u]},ty,pos,af,none⟩::rest) a w:=by
 refine stepK (Z:=λ_ _=>False) (d:=d) hs (λ_ _ h=>h.elim) rfl (by simp[okOp,notSel,Op.operands,Call.operands,hkx,hky]) rfl hdn ?_
 obtain⟨v',w',hrun,h1,h2,h3⟩:=run_append_str (P:=P) (ty:=ty) ht hu hinf (hs.rw _ (List.mem_of_getElem? hi)).1 l hb
 refine OpW.of_run (w':=w') (v:=v') (by simp[execOp,resolve,invoke,builtin,hx,hy,hrun,Result.andThen]) ?_
 intro a' hA
 exact h a' w' v' (hs.rowset (r':=⟨v',e,1,k+l.length,xs++Lib.strCells (mkS l),ow⟩) i hi h2 rfl h1 h3 hA)
end
end Go.Gx

namespace Go.Proofs.YtjecddabdlapbaaDoor.core
open Go.Gx Go.RowKit Go.ChangeShapes Go.WideShapes Go.ChangeAt
set_option linter.unusedVariables false
structure X_api_Set where
 w0:Int
 w1:Int
 w2:Int
 w3:Int
def X_api_Set.cells (x:X_api_Set):List Value:=[(.int .u64 x.w0),(.int .u64 x.w1),(.int .u64 x.w2),(.int .u64 x.w3)]
def X_api_Set.val (x:X_api_Set):Value:=.agg x.cells.toArray
end Go.Proofs.YtjecddabdlapbaaDoor.core

namespace Go.Proofs.YtjecddabdlapbaaDoor.core
open Go.Gx Go.RowKit Go.ChangeShapes Go.WideShapes Go.ChangeAt
set_option linter.unusedVariables false
/- not served: expr.Refs: live rangeFunc -/
end Go.Proofs.YtjecddabdlapbaaDoor.core

namespace Go.Proofs.YtjecddabdlapbaaDoor.core
open Go.Gx Go.RowKit Go.ChangeShapes Go.WideShapes Go.ChangeAt
set_option linter.unusedVariables false
end Go.Proofs.YtjecddabdlapbaaDoor.core

namespace Go.Proofs.YtjecddabdlapbaaDoor.core
open Go.Gx Go.RowKit Go.ChangeShapes Go.WideShapes Go.ChangeAt
set_option linter.unusedVariables false
def S_chaffref_digit (n1:Int) (M:Mem) (K:Value->Prop):Prop:=
 (InI (n1+1)/\((0:Int)<=n1/\(n1:Int)<=n1+1/\(n1+1:Int)<=((([48,49,50,51,52,53,54,55,56,57,97,98,99,100,101,102]:List UInt8).length:Nat):Int)/\K (Value.string (mkS ((([48,49,50,51,52,53,54,55,56,57,97,98,99,100,101,102]:List UInt8).take (n1+1).toNat).drop n1.toNat)))))
set_option maxRecDepth 100000 in
theorem s_chaffref_digit (n1:Int) (M:Mem) (K:Value->Prop) (hS:S_chaffref_digit n1 M K):CallE Tryd.prog 89 #[(Value.int .i64 n1)] M (λv _=>K v):=by
 refine eE1 Tryd.func89 7 λE a hMM hs=>?_;unfold S_chaffref_digit at hS;refine qr (sP (.string (mkS ([]:List UInt8))) hs λ_ hs=>?_);refine wn (qr (sP2 (iv n1) (iv n1) hs λ_ hs=>?_));obtain⟨hI,hS⟩:=hS;refine sY (iv (n1+1)) hs (Yl.wr hI) λ_ hs=>?_;obtain⟨h0,h1,h2,hS⟩:=hS;refine sY (.string (mkS ((([48,49,50,51,52,53,54,55,56,57,97,98,99,100,101,102]:List UInt8).take (n1+1).toNat).drop n1.toNat))) hs (Yl.sliceStrLH rfl rfl rfl rfl rfl rfl (by kernel_rfl) h0 h1 h2) λ_ hs=>?_;refine sP (.string (mkS ((([48,49,50,51,52,53,54,55,56,57,97,98,99,100,101,102]:List UInt8).take (n1+1).toNat).drop n1.toNat))) hs λ_ hs=>?_;exact wn (qt (rT hs hMM hS))
end Go.Proofs.YtjecddabdlapbaaDoor.core

namespace Go.Proofs.YtjecddabdlapbaaDoor.core
open Go.Gx Go.RowKit Go.ChangeShapes Go.WideShapes Go.ChangeAt
set_option linter.unusedVariables false
end Go.Proofs.YtjecddabdlapbaaDoor.core

namespace Go.Proofs.YtjecddabdlapbaaDoor.core
open Go.Gx Go.RowKit Go.ChangeShapes Go.WideShapes Go.ChangeAt
set_option linter.unusedVariables false
end Go.Proofs.YtjecddabdlapbaaDoor.core

namespace Go.Proofs.YtjecddabdlapbaaDoor.core
open Go.Gx Go.RowKit Go.ChangeShapes Go.WideShapes Go.ChangeAt
set_option linter.unusedVariables false
end Go.Proofs.YtjecddabdlapbaaDoor.core

namespace Go.Proofs.YtjecddabdlapbaaDoor.core
open Go.Gx Go.RowKit Go.ChangeShapes Go.WideShapes Go.ChangeAt
set_option linter.unusedVariables false
def S_chaffref_Dec_J1 (M:Mem) (n6:Int) (out7:List UInt8) (I8:Int->List UInt8->Prop) (mu9:Int->List UInt8->Nat) (d10:Int) (K:Value->Prop):Prop:=
 (CallE Tryd.prog 89 #[(.int .i64 d10)] M (λv _=>∃(x11:List UInt8),v=(Value.string (mkS x11))/\(x11.length+out7.length<=9223372036854775807/\(InI (n6.tdiv 10)/\I8 (n6.tdiv 10) (x11++out7)/\mu9 (n6.tdiv 10) (x11++out7)<mu9 n6 out7))))
def S_chaffref_Dec (n1:Int) (M:Mem) (K:Value->Prop):Prop:=
 (((n1:Int)=0->K (Value.string (mkS ([48]:List UInt8))))/\(¬((n1:Int)=0)->(∃(I8:Int->List UInt8->Prop) (mu9:Int->List UInt8->Nat),I8 n1 ([]:List UInt8)/\∀(n6:Int) (out7:List UInt8),(I8 n6 out7->(((n6:Int)≠0->((n6.tmod 10<0->(InI (0-(n6.tmod 10))/\(S_chaffref_Dec_J1 M n6 out7 I8 mu9 (0-(n6.tmod 10)) K)))/\(¬(n6.tmod 10<0)->(S_chaffref_Dec_J1 M n6 out7 I8 mu9 (n6.tmod 10) K))))/\(¬((n6:Int)≠0)->((n1<0->(([45]:List UInt8).length+out7.length<=9223372036854775807/\K (Value.string (mkS (([45]:List UInt8)++out7)))))/\(¬(n1<0)->K (Value.string (mkS out7))))))))))
set_option maxRecDepth 100000 in
theorem s_chaffref_Dec (n1:Int) (M:Mem) (K:Value->Prop) (hS:S_chaffref_Dec n1 M K):CallE Tryd.prog 47 #[(Value.int .i64 n1)] M (λv _=>K v):=by
 refine eE1 Tryd.func47 28 λE a hMM hs=>?_;unfold S_chaffref_Dec at hS;refine qr (sP (.string (mkS ([]:List UInt8))) hs λ_ hs=>?_);refine wn (qs (qr (sP2 (iv n1) (.bool ((n1:Int)==(0:Int))) hs λ_ hs=>?_)));refine wn (Wp.cS hs beq_iff_eq hS (λhS=>?_) (λhS=>?_))
 ·refine qr (sP (.string (mkS ([48]:List UInt8))) hs λ_ hs=>?_);exact wn (qt (rT hs hMM hS))
 ·refine qk (qr (sP4 (iv n1) (.bool (decide (n1<0))) (.string (mkS ([]:List UInt8))) (.bool (decide (n1<0))) hs λ_ hs=>?_));refine wn (qs (qb ?_));obtain⟨I8,mu9,hI0,hst⟩:=hS;refine Wp.loop (σ:=(Int)×(List UInt8)) (λ(n6,out7) a w=>Sx 28 E [] M w a [(0,(iv n6)),(3,(.string (mkS out7))),(4,(.bool (decide (n1<0))))] [] []/\I8 n6 out7) (λ(n6,out7)=>mu9 n6 out7) (n1,([]:List UInt8)) ⟨hs.q,hI0⟩ (λs a w hI=>?_);obtain⟨n6,out7⟩:=s;obtain⟨hs,hI⟩:=hI;have hS:=hst n6 out7 hI;clear hst hI0 hI;refine qs (qr (sP2 (iv n6) (.bool ((n6:Int) != (0:Int))) hs λ_ hs=>?_));refine wn (Wp.cS hs bne_iff_ne hS (λhS=>?_) (λhS=>?_))
  ·refine qk (qb (qr (sP3 (iv n6) (iv (n6.tmod 10)) (iv (n6.tmod 10)) hs λ_ hs=>?_)));refine wn (Wp.join (λa w=>∃(d10:Int),Sx 28 E [] M w a [(0,(iv n6)),(3,(.string (mkS out7))),(4,(.bool (decide (n1<0)))),(5,(iv d10))] [] []/\(S_chaffref_Dec_J1 M n6 out7 I8 mu9 d10 K)) ?_ ?_)
   ·refine qr (sP2 (iv (n6.tmod 10)) (.bool (decide (n6.tmod 10<0))) hs λ_ hs=>?_);refine wn (Wp.cS hs decide_eq_true_iff hS (λhS=>?_) (λhS=>?_))
    ·refine qg (sP (iv (n6.tmod 10)) hs λ_ hs=>?_);obtain⟨hI,hS⟩:=hS;refine sY (iv (0-(n6.tmod 10))) hs (Yl.wr hI) λ_ hs=>?_;refine sP (iv (0-(n6.tmod 10))) hs λ_ hs=>?_;exact wn (⟨(0-(n6.tmod 10)),hs.q,hS⟩)
    ·exact qk (⟨(n6.tmod 10),hs.q,hS⟩)
   ·intro a w hJ;obtain⟨d10,hs,hS⟩:=hJ;unfold S_chaffref_Dec_J1 at hS;refine qr (sP (iv d10) hs λ_ hs=>?_);refine cP [(iv d10)] hs Tryd.func89 hS λ_ _ v hS hs=>?_;obtain⟨x11,rfl,hS⟩:=hS;refine sP (.string (mkS out7)) hs λ_ hs=>?_;obtain⟨hl,hS⟩:=hS;refine sY (.string (mkS (x11++out7))) hs (Yl.concat rfl rfl rfl rfl hl) λ_ hs=>?_;refine sP (.string (mkS (x11++out7))) hs λ_ hs=>?_;refine wn (qg (sP (iv n6) hs λ_ hs=>?_));obtain⟨hI,hS⟩:=hS;refine sY (iv (n6.tdiv 10)) hs (Yl.wr hI) λ_ hs=>?_;refine sP (iv (n6.tdiv 10)) hs λ_ hs=>?_;exact wn (⟨(n6.tdiv 10,x11++out7),⟨hs.q,hS.1⟩,hS.2⟩)
  ·refine qx rfl (qs (qr (sP (.bool (decide (n1<0))) hs λ_ hs=>?_)));refine wn (Wp.cS hs decide_eq_true_iff hS (λhS=>?_) (λhS=>?_))
   ·refine qg (sP (.string (mkS out7)) hs λ_ hs=>?_);obtain⟨hl,hS⟩:=hS;refine sY (.string (mkS (([45]:List UInt8)++out7))) hs (Yl.concat rfl rfl rfl rfl hl) λ_ hs=>?_;refine sP (.string (mkS (([45]:List UInt8)++out7))) hs λ_ hs=>?_;refine wn (qr (sP2 (.string (mkS (([45]:List UInt8)++out7))) (.string (mkS (([45]:List UInt8)++out7))) hs λ_ hs=>?_));exact wn (qt (rT hs hMM hS))
   ·refine qk (qr (sP2 (.string (mkS out7)) (.string (mkS out7)) hs λ_ hs=>?_));exact wn (qt (rT hs hMM hS))
end Go.Proofs.YtjecddabdlapbaaDoor.core

namespace Go.Proofs.YtjecddabdlapbaaDoor.core
open Go.Gx Go.RowKit Go.ChangeShapes Go.WideShapes Go.ChangeAt
set_option linter.unusedVariables false
structure X_api_Tree where
 Rule:Int
 From:Int
 To:Int
 Kids_a:Option Addr
 Kids_l:Nat
 Kids_c:Nat
def X_api_Tree.cells (x:X_api_Tree):List Value:=[(.int .i64 x.Rule),(.int .i64 x.From),(.int .i64 x.To),(.slice x.Kids_a x.Kids_l x.Kids_c)]
def X_api_Tree.val (x:X_api_Tree):Value:=.agg x.cells.toArray
def S_tree_Count (t1:X_api_Tree) (M:Mem) (K:Value->Prop):Prop:=
 (∃(I12:Int->Int->Prop) (mu13:Int->Int->Nat),I12 1 0/\∀(n10:Int) (x11:Int),(I12 n10 x11->((x11<((t1.Kids_l:Nat):Int)->(∃(b14 o15:Nat),t1.Kids_a=some ⟨b14,o15,none⟩/\(0:Int)<=x11/\x11<((t1.Kids_l:Nat):Int)/\(∃(x16:X_api_Tree),At M b14 (o15+x11.toNat*4) x16.cells/\(CallE Tryd.prog 30 #[x16.val] M (λv _=>∃(x18:Int),v=(Value.int .i64 x18)/\(InI (n10+x18)/\(InI (x11+1)/\I12 (n10+x18) (x11+1)/\mu13 (n10+x18) (x11+1)<mu13 n10 x11)))))))/\(¬(x11<((t1.Kids_l:Nat):Int))->K (Value.int .i64 n10)))))
set_option maxRecDepth 100000 in
theorem s_tree_Count (t1:X_api_Tree) (M:Mem) (K:Value->Prop) (hS:S_tree_Count t1 M K):CallE Tryd.prog 30 #[t1.val] M (λv _=>K v):=by
 refine eE1 Tryd.func30 19 λE a hMM hs=>?_;unfold S_tree_Count at hS;refine qr (stepBox t1.cells hs rfl rfl rfl (by decide) (λ_ _ b2 hEb2 hs=>?_));refine sP (iv 0) hs λ_ hs=>?_;refine wn (qr (sP (iv 1) hs λ_ hs=>?_));refine wn (qs (qr (sP (pt b2 3) hs λ_ hs=>?_)));refine sB1 (.slice t1.Kids_a t1.Kids_l t1.Kids_c) 0 hs λ_ hs=>?_;refine sP2 (iv (t1.Kids_l:Int)) (iv 0) hs λ_ hs=>?_;refine wn (qb ?_);obtain⟨I12,mu13,hI0,hst⟩:=hS;refine Wp.loop (σ:=(Int)×(Int)) (λ(n10,x11) a w=>Sx 19 E [] M w a [(3,(iv n10)),(7,(.slice t1.Kids_a t1.Kids_l t1.Kids_c)),(8,(iv (t1.Kids_l:Int))),(9,(iv x11))] [⟨b2,48,t1.cells⟩] []/\I12 n10 x11) (λ(n10,x11)=>mu13 n10 x11) (1,0) ⟨hs.q,hI0⟩ (λs a w hI=>?_);obtain⟨n10,x11⟩:=s;obtain⟨hs,hI⟩:=hI;have hS:=hst n10 x11 hI;clear hst hI0 hI;refine qr (sP (.bool (decide (x11<(t1.Kids_l:Int)))) hs λ_ hs=>?_);refine wn (qs (Wp.cS hs decide_eq_true_iff hS (λhS=>?_) (λhS=>?_)))
 ·refine qk (qs (qb (qr ?_)));obtain⟨b14,o15,ha,h0,hl,hS⟩:=hS;refine sI 48 4 ha h0 hl hs λ_ hs=>?_;obtain⟨x16,hat,hS⟩:=hS;refine sY x16.val hs (Yl.lV x16.cells true hat) λ_ hs=>?_;refine stepAlloc [(iv 0),(iv 0),(iv 0),(.slice none 0 0)] hs (by kernel_rfl) (by decide) (λ_ _ b17 hEb17 hs=>?_);refine stB 0 x16.cells [⟨b17,48,x16.cells⟩,⟨b2,48,t1.cells⟩] hs λ_ _ hs=>?_;refine wn (qg (sP (iv n10) hs λ_ hs=>?_));refine sY x16.val hs (Yl.lB x16.cells true 0) λ_ hs=>?_;refine cP [x16.val] hs Tryd.func30 hS λ_ _ v hS hs=>?_;obtain⟨x18,rfl,hS⟩:=hS;obtain⟨hI,hS⟩:=hS;refine sY (iv (n10+x18)) hs (Yl.wr hI) λ_ hs=>?_;refine sP (iv (n10+x18)) hs λ_ hs=>?_;refine wn (qg ?_);obtain⟨hI,hS⟩:=hS;refine sY (iv (x11+1)) hs (Yl.wr hI) λ_ hs=>?_;refine sP (iv (x11+1)) hs λ_ hs=>?_;exact wn (⟨(n10+x18,x11+1),⟨(hs.qq (.cons _ (.cons_cons _ List.Sublist.slnil)) (List.Sublist.refl _)),hS.1⟩,hS.2⟩)
 ·refine qx rfl (qr (sP (iv n10) hs λ_ hs=>?_));refine sP (iv n10) hs λ_ hs=>?_;exact wn (qt (rT hs hMM hS))
def S_chaffref_TreeText (t1:X_api_Tree) (M:Mem) (K:Value->Prop):Prop:=
 (CallE Tryd.prog 47 #[(.int .i64 t1.Rule)] M (λv _=>∃(x3:List UInt8),v=(Value.string (mkS x3))/\(x3.length+([58]:List UInt8).length<=9223372036854775807/\(CallE Tryd.prog 47 #[(.int .i64 t1.From)] M (λv _=>∃(x4:List UInt8),v=(Value.string (mkS x4))/\((x3++([58]:List UInt8)).length+x4.length<=9223372036854775807/\((x3++([58]:List UInt8)++x4).length+([45]:List UInt8).length<=9223372036854775807/\(CallE Tryd.prog 47 #[(.int .i64 t1.To)] M (λv _=>∃(x5:List UInt8),v=(Value.string (mkS x5))/\((x3++([58]:List UInt8)++x4++([45]:List UInt8)).length+x5.length<=9223372036854775807/\((((t1.Kids_l:Nat):Int)=0->K (Value.string (mkS (x3++([58]:List UInt8)++x4++([45]:List UInt8)++x5))))/\(¬(((t1.Kids_l:Nat):Int)=0)->(∃(I33:Int->Nat->List Value->Prop) (mu34:Int->Nat->List Value->Nat),I33 0 0 []/\∀(x29:Int) (rn31:Nat) (rx32:List Value),(I33 x29 rn31 rx32->((x29<((t1.Kids_l:Nat):Int)->(∃(b35 o36:Nat),t1.Kids_a=some ⟨b35,o36,none⟩/\(0:Int)<=x29/\x29<((t1.Kids_l:Nat):Int)/\(∃(x37:X_api_Tree),At M b35 (o36+x29.toNat*4) x37.cells/\(CallE Tryd.prog 33 #[x37.val] M (λv _=>∃(x39:List UInt8),v=(Value.string (mkS x39))/\((rn31+1)*16<=140737488355328/\(InI (x29+1)/\I33 (x29+1) (rn31+1) (rx32++[(.string (mkS x39))])/\mu34 (x29+1) (rn31+1) (rx32++[(.string (mkS x39))])<mu34 x29 rn31 rx32)))))))/\(¬(x29<((t1.Kids_l:Nat):Int))->((x3++([58]:List UInt8)++x4++([45]:List UInt8)++x5).length+([40]:List UInt8).length<=9223372036854775807/\(∀(M47:Mem) (ad45:Option Addr) (cap46:Nat),M.le M47->SlV M47 ad45 rn31 cap46 1 rx32->(CallE Tryd.prog 73 #[(.slice ad45 rn31 cap46),(.string (mkS ([32]:List UInt8)))] M47 (λv _=>∃(x44:List UInt8),v=(Value.string (mkS x44))/\((x3++([58]:List UInt8)++x4++([45]:List UInt8)++x5++([40]:List UInt8)).length+x44.length<=9223372036854775807/\((x3++([58]:List UInt8)++x4++([45]:List UInt8)++x5++([40]:List UInt8)++x44).length+([41]:List UInt8).length<=9223372036854775807/\K (Value.string (mkS (x3++([58]:List UInt8)++x4++([45]:List UInt8)++x5++([40]:List UInt8)++x44++([41]:List UInt8))))))))))))))))))))))))))
set_option maxRecDepth 100000 in
theorem s_chaffref_TreeText (t1:X_api_Tree) (M:Mem) (K:Value->Prop) (hS:S_chaffref_TreeText t1 M K):CallE Tryd.prog 33 #[t1.val] M (λv _=>K v):=by
 refine eE1 Tryd.func33 44 λE a hMM hs=>?_;unfold S_chaffref_TreeText at hS;refine qr (stepBox t1.cells hs rfl rfl rfl (by decide) (λ_ _ b2 hEb2 hs=>?_));refine sP (.string (mkS ([]:List UInt8))) hs λ_ hs=>?_;refine wn (qs (Wp.regionD [true,true,true,true,true,true,true,true,true,true,true,true,true,true] hs (by kernel_rfl) rfl [⟨b2,48,t1.cells⟩] (λ_ h=>h) [] (λ_ h=>h) (λ_ hs hC=>?_)));have hL:=Mem.le.refl M;refine dA (pt b2 0) 0 [1,2,3,6,7,8,11,12,13] hs λ_ hs=>?_;refine dC (iv t1.Rule) 1 [2,3,6,7,8,11,12,13] hs hC rfl (Yl.lB [(iv t1.Rule)] false 0) λ_ hs=>?_;refine dA (pt b2 1) 4 [5,6,7,8,11,12,13] hs λ_ hs=>?_;refine dC (iv t1.From) 5 [6,7,8,11,12,13] hs hC rfl (Yl.lB [(iv t1.From)] false 0) λ_ hs=>?_;refine dA (pt b2 2) 9 [10,11,12,13] hs λ_ hs=>?_;refine dC (iv t1.To) 10 [11,12,13] hs hC rfl (Yl.lB [(iv t1.To)] false 0) λ_ hs=>?_;refine sE 2 ?_;refine cP [(iv t1.Rule)] hs Tryd.func47 hS λ_ _ v hS hs=>?_;obtain⟨x3,rfl,hS⟩:=hS;refine wn (⟨λ_ _=>hs.cxle hL (List.Sublist.refl _) (List.Sublist.refl _),?_⟩);have hC:=hs.cxle hL (List.Sublist.refl _) (List.Sublist.refl _);obtain⟨hl,hS⟩:=hS
 refine dF (.string (mkS (x3++([58]:List UInt8)))) 3 [7,8,12,13] hs rfl (Yl.concat rfl rfl rfl rfl hl) λ_ hs=>?_;refine sE 6 ?_;refine cP [(iv t1.From)] hs Tryd.func47 hS λ_ _ v hS hs=>?_;obtain⟨x4,rfl,hS⟩:=hS;refine wn (⟨λ_ _=>hs.cxle hL (List.Sublist.refl _) (List.Sublist.refl _),?_⟩);have hC:=hs.cxle hL (List.Sublist.refl _) (List.Sublist.refl _);obtain⟨hl,hS⟩:=hS;refine dF (.string (mkS (x3++([58]:List UInt8)++x4))) 7 [8,12,13] hs rfl (Yl.concat rfl rfl rfl rfl hl) λ_ hs=>?_;obtain⟨hl,hS⟩:=hS;refine dF (.string (mkS (x3++([58]:List UInt8)++x4++([45]:List UInt8)))) 8 [12,13] hs rfl (Yl.concat rfl rfl rfl rfl hl) λ_ hs=>?_;refine sE 11 ?_;refine cP [(iv t1.To)] hs Tryd.func47 hS λ_ _ v hS hs=>?_;obtain⟨x5,rfl,hS⟩:=hS;refine wn (⟨λ_ _=>hs.cxle hL (List.Sublist.refl _) (List.Sublist.refl _),?_⟩);have hC:=hs.cxle hL (List.Sublist.refl _) (List.Sublist.refl _);refine sE 12 ?_;obtain⟨hl,hS⟩:=hS;refine sY (.string (mkS (x3++([58]:List UInt8)++x4++([45]:List UInt8)++x5))) hs (Yl.concat rfl rfl rfl rfl hl) λ_ hs=>?_;refine nE 13 ?_;refine sP (.string (mkS (x3++([58]:List UInt8)++x4++([45]:List UInt8)++x5))) hs λ_ hs=>?_;refine wN ?_;refine dD ?_;refine qs (qr (sP (pt b2 3) hs λ_ hs=>?_))
 refine sB1 (.slice t1.Kids_a t1.Kids_l t1.Kids_c) 0 hs λ_ hs=>?_;refine sP2 (iv (t1.Kids_l:Int)) (.bool ((t1.Kids_l:Int)==(0:Int))) hs λ_ hs=>?_;refine wn (Wp.cS hs beq_iff_eq hS (λhS=>?_) (λhS=>?_))
 ·refine qr (sP2 (.string (mkS (x3++([58]:List UInt8)++x4++([45]:List UInt8)++x5))) (.string (mkS (x3++([58]:List UInt8)++x4++([45]:List UInt8)++x5))) hs λ_ hs=>?_);exact wn (qt (rT hs hMM hS))
 ·refine qk (qr (sP (.slice none 0 0) hs λ_ hs=>?_));have hs:=hs.nilrow 9 1;refine wn (qs (qr (sP (pt b2 3) hs λ_ hs=>?_)));refine sB1 (.slice t1.Kids_a t1.Kids_l t1.Kids_c) 0 hs λ_ hs=>?_;refine sP2 (iv (t1.Kids_l:Int)) (iv 0) hs λ_ hs=>?_;refine wn (qb ?_);obtain⟨I33,mu34,hI0,hst⟩:=hS;refine Wp.loop (σ:=(Int)×(Nat)×(List Value)×(Value)) (λ(x29,rn31,rx32,rv30) a w=>Sx 44 E [] M w a [(3,(.string (mkS (x3++([58]:List UInt8)++x4++([45]:List UInt8)++x5)))),(4,rv30),(26,(.slice t1.Kids_a t1.Kids_l t1.Kids_c)),(27,(iv (t1.Kids_l:Int))),(28,(iv x29))] [⟨b2,48,t1.cells⟩] [⟨rv30,9,1,rn31,rx32,true⟩]/\I33 x29 rn31 rx32) (λ(x29,rn31,rx32,rv30)=>mu34 x29 rn31 rx32) (0,0,[],(.slice none 0 0)) ⟨hs.q,hI0⟩ (λs a w hI=>?_);obtain⟨x29,rn31,rx32,rv30⟩:=s;obtain⟨hs,hI⟩:=hI;have hS:=hst x29 rn31 rx32 hI;clear hst hI0 hI;refine qr (sP (.bool (decide (x29<(t1.Kids_l:Int)))) hs λ_ hs=>?_);refine wn (qs (Wp.cS hs decide_eq_true_iff hS (λhS=>?_) (λhS=>?_)))
  ·refine qk (qs (qb (qr ?_)));obtain⟨b35,o36,ha,h0,hl,hS⟩:=hS;refine sI 48 4 ha h0 hl hs λ_ hs=>?_;obtain⟨x37,hat,hS⟩:=hS;refine sY x37.val hs (Yl.lV x37.cells true hat) λ_ hs=>?_;refine stepAlloc [(iv 0),(iv 0),(iv 0),(.slice none 0 0)] hs (by kernel_rfl) (by decide) (λ_ _ b38 hEb38 hs=>?_);refine stB 0 x37.cells [⟨b38,48,x37.cells⟩,⟨b2,48,t1.cells⟩] hs λ_ _ hs=>?_;refine wn (qg (sP rv30 hs λ_ hs=>?_));refine sY x37.val hs (Yl.lB x37.cells true 0) λ_ hs=>?_;refine cP [x37.val] hs Tryd.func33 hS λ_ _ v hS hs=>?_;obtain⟨x39,rfl,hS⟩:=hS;refine stepMake [(.string (mkS x39))] 9 1 1 hs rfl rfl rfl (λ_=>by kernel_rfl) rfl (by unfold maxLen;decide) (by decide) (λ_ _ rv40 hs=>?_);obtain⟨ad41,cap42,hv,hcp,hxl⟩:=hs.rowform 0 rfl
   dsimp only at hv hcp hxl
   subst hv;obtain⟨hB,hS⟩:=hS;refine stepAppend 1 [(.string (mkS x39))] hs rfl rfl rfl rfl rfl (by kernel_rfl) (by kernel_rfl) (by decide) (by decide) (hs.srcRow 0 rfl rfl) (lenb hB (by decide)) hB (λ_ _ rv43 hs=>?_);replace hs:=hs.chrs (rs':=[⟨(Value.slice ad41 1 cap42),9,1,1,[(.string (mkS x39))],true⟩,⟨rv43,9,1,(rn31+1),(rx32++[(.string (mkS x39))]),true⟩]) rfl;refine sP rv43 hs λ_ hs=>?_;refine wn (qg ?_);obtain⟨hI,hS⟩:=hS;refine sY (iv (x29+1)) hs (Yl.wr hI) λ_ hs=>?_;refine sP (iv (x29+1)) hs λ_ hs=>?_;exact wn (⟨(x29+1,(rn31+1),(rx32++[(.string (mkS x39))]),rv43),⟨(hs.qq (.cons _ (.cons_cons _ List.Sublist.slnil)) (.cons _ (.cons_cons _ List.Sublist.slnil))),hS.1⟩,hS.2⟩)
  ·refine qx rfl (qr (sP (.string (mkS (x3++([58]:List UInt8)++x4++([45]:List UInt8)++x5))) hs λ_ hs=>?_));obtain⟨hl,hS⟩:=hS;refine sY (.string (mkS (x3++([58]:List UInt8)++x4++([45]:List UInt8)++x5++([40]:List UInt8)))) hs (Yl.concat rfl rfl rfl rfl hl) λ_ hs=>?_;refine sP rv30 hs λ_ hs=>?_;obtain⟨ad45,cap46,hv,hcp,hxl⟩:=hs.rowform 0 rfl
   dsimp only at hv hcp hxl
   subst hv;have hS:=hS _ ad45 cap46 hs.on.hm (hs.peek 0 rfl);refine stepCallPr [(.slice ad45 rn31 cap46),(.string (mkS ([32]:List UInt8)))] hs rfl ⟨_,rfl,rfl⟩ rfl Tryd.func73 rfl (by kernel_rfl) (by decide) hS (λ_ _ v hS hs=>?_);obtain⟨x44,rfl,hS⟩:=hS;obtain⟨hl,hS⟩:=hS;refine sY (.string (mkS (x3++([58]:List UInt8)++x4++([45]:List UInt8)++x5++([40]:List UInt8)++x44))) hs (Yl.concat rfl rfl rfl rfl hl) λ_ hs=>?_;obtain⟨hl,hS⟩:=hS;refine sY (.string (mkS (x3++([58]:List UInt8)++x4++([45]:List UInt8)++x5++([40]:List UInt8)++x44++([41]:List UInt8)))) hs (Yl.concat rfl rfl rfl rfl hl) λ_ hs=>?_;refine sP (.string (mkS (x3++([58]:List UInt8)++x4++([45]:List UInt8)++x5++([40]:List UInt8)++x44++([41]:List UInt8)))) hs λ_ hs=>?_;exact wn (qt (rT hs hMM hS))
end Go.Proofs.YtjecddabdlapbaaDoor.core

namespace Go.Gx
open Go.RowKit
section
variable {P:Program} {ops:Array Oper} {Q:Exit->Act->World->Prop} {n:Nat} {E:World} {bw:List Nat} {M:Mem} {w:World} {a:Act} {env:Env} {bs:List Bx} {rs:List Rw} {rest:List Oper}
theorem zeroCells_repl (z:Array Value) (n:Nat):(Builtin.zeroCells z n).toList=repl n z.toList:=by
 unfold repl
 by_cases hz:z.size=0
 ·have e:z= #[]:=Array.eq_empty_of_size_eq_zero hz
  subst e
  simp[Builtin.zeroCells]
 apply List.ext_getElem
 ·simp[Builtin.zeroCells]
 ·intro i h1 h2
  have hlt:i<n*z.size:=by simpa[Builtin.zeroCells]using h1
  have key:∀(m j:Nat) (h:j<((List.replicate m z.toList).flatten).length),((List.replicate m z.toList).flatten)[j]=z[j % z.size]'(Nat.mod_lt _ (by omega)):=by
   intro m
   induction m with
   |zero=>intro j h;simp at h
   |succ m ih=>
    intro j h
    simp only[List.replicate_succ,List.flatten_cons]
    by_cases hj:j<z.toList.length
    ·rw[List.getElem_append_left hj]
     have:j % z.size=j:=Nat.mod_eq_of_lt (by simpa using hj)
     simp[this]
    ·have hj2:z.toList.length<=j:=Nat.le_of_not_lt hj
     rw[List.getElem_append_right hj2,ih]
     have this:(j-z.size) % z.size=j % z.size:=by
      have hz2:z.toList.length=z.size:=by simp
      rw[hz2]at hj2
      conv=>rhs;rw[show j=(j-z.size)+z.size by omega,Nat.add_mod_right]
     simp only[Array.length_toList,this]
  rw[key]
  have hm:i % z.size<z.size:=Nat.mod_lt _ (by omega)
  simp[Builtin.zeroCells]
  exact getElem!_pos z (i % z.size) hm
theorem stepAppendZ (i:Nat) {d:Nat} {ty:TypeId} {x y:Operand} {t tn e:TypeId} {size bytes:Nat} {pos:String} {af:Array Edge} {ow:Bool} {q kn:IntKind} {z:Int} (zc:List Value)
  (hs:Sx n E bw M w a env bs rs) (hi:rs[i]?=some ⟨.slice none 0 0,e,size,0,[],ow⟩) (hkx:known env x=true) (hky:known env y=true) (hx:evT env x= .slice none 0 0) (hy:evT env y= .int q z)
  (ht:P.underlying t=some (.slice e)) (htn:P.underlying tn=some (.int kn)) (hinf:(P.info? e).map (λi=>(i.size,i.bytes,i.zero.map (·.cells)))=some (size,bytes,some zc.toArray)) (hsz:zc.length=size) (hsz0:0<size) (hdn:d<n)
  (hz0:0<z) (h63:z.toNat<=maxLen) (hbytes:z.toNat*bytes<=140737488355328)
  (h:∀a' w' v',Sx n E bw M w' a' ((d,v')::env) bs (rs.set i ⟨v',e,size,z.toNat,repl z.toNat zc,ow⟩)->wpList P ops Q rest a' w'):
  wpList P ops Q (⟨some d,.call {callee:=.builtin .append,args:= #[x,y],argTypes:= #[t,tn]},ty,pos,af,none⟩::rest) a w:=by
 refine stepK (Z:=λ_ _=>False) (d:=d) hs (λ_ _ h=>h.elim) rfl (by simp[okOp,notSel,Op.operands,Call.operands,hkx,hky]) rfl hdn ?_
 cases hp:P.info? e with
 |none=>simp[hp]at hinf
 |some ti=>
  simp only[hp,Option.map_some,Option.some.injEq,Prod.mk.injEq]at hinf
  obtain⟨e1,e2,e3⟩:=hinf
  cases hzz:ti.zero with
  |none=>simp[hzz]at e3
  |some zv=>
   simp only[hzz,Option.map_some,Option.some.injEq]at e3
   have hzn:((z.toNat:Nat):Int)=z:=by omega
   have h63':((z.toNat:Nat):Int)<=9223372036854775807:=by unfold maxLen at h63;omega
   have hrun:=Lib.run_append_nil_zeros (P:=P) w t tn ty e ti zv q kn ht htn hp hzz z.toNat (by omega) (by omega) h63' (by rw[e2];omega)
   rw[hzn]at hrun
   let ob:Obj:=.cells (Builtin.zeroCells zv.cells z.toNat++Builtin.zeroCells zv.cells (grownCap w z.toNat 0 e-z.toNat)) e
   refine OpW.of_run (w':=w.drew.alloc ob) (v:=.slice (some ⟨w.heap.size,0,none⟩) z.toNat (grownCap w z.toNat 0 e)) (by simp only[execOp,resolve,invoke,builtin,Sem.run_bind,Sem.run_pure,Result.andThen_ok,List.map_toArray,List.map_cons,List.map_nil,hx,hy,hrun];try rfl) ?_
   intro a' hA
   have hge:=grownCap_ge w z.toNat 0 e
   have hcm:=grownCap_le_maxLen w z.toNat 0 e h63
   have hzs:zv.cells.size=size:=by rw[e3];simpa using hsz
   have hzl:zv.cells.toList=zc:=by rw[e3]
   have hgb:w.grownBy (w.drew.alloc ob) (Value.slice none 0 0).ownBlock:=⟨rfl,rfl,rfl,by simp,λk hk _=>heap_alloc_old w.drew _ hk⟩
   have hown:(w.drew.alloc ob).ownsRow 0 e size (.slice (some ⟨w.heap.size,0,none⟩) z.toNat (grownCap w z.toNat 0 e)) z.toNat (repl z.toNat zc):=by
    refine⟨by rw[repl_length,hsz],.inr ⟨w.heap.size,_,_,rfl,Nat.zero_le _,heap_alloc_new w.drew _,hge,hcm,?_,?_⟩⟩
    ·simp only[Array.size_append,size_zeroCells,hzs,<-Nat.add_mul]
     congr 1
     omega
    ·rw[Array.toList_append,zeroCells_repl,hzl]
     have hl:(repl z.toNat zc).length=z.toNat*size:=by rw[repl_length,hsz]
     rw[List.take_append_of_le_length (by omega),List.take_of_length_le (by omega)]
   exact h a' _ _ (hs.rowset (r':=⟨.slice (some ⟨w.heap.size,0,none⟩) z.toNat (grownCap w z.toNat 0 e),e,size,z.toNat,repl z.toNat zc,ow⟩) i hi hgb rfl hown (.inr (.inr rfl)) hA)
end
end Go.Gx

namespace Go.Proofs.YtjecddabdlapbaaDoor.core
open Go.Gx Go.RowKit Go.ChangeShapes Go.WideShapes Go.ChangeAt
set_option linter.unusedVariables false
structure X_api_Event where
 Kind:Int
 Rule:Int
 At:Int
def X_api_Event.cells (x:X_api_Event):List Value:=[(.int .i64 x.Kind),(.int .i64 x.Rule),(.int .i64 x.At)]
def X_api_Event.val (x:X_api_Event):Value:=.agg x.cells.toArray
def C_slices_Grow_Event (n1:Int) (M:Mem) (K:Nat->List Value->Prop):Prop:=CallL Tryd.prog 107 #[(.slice none 0 0),(.int .i64 n1)] M [] [] (λv lb' lr' M'=>∃(rn3:Nat) (rx4:List Value) (rv2:Value),v=rv2/\lb'=[]/\lr'=[⟨rv2,109,3,rn3,rx4,true⟩]/\K rn3 rx4)
def C_slices_Concat_Event (slicesa1:Option Addr) (slicesl2:Nat) (slicesc3:Nat) (M:Mem) (K:Nat->List Value->Prop):Prop:=CallL Tryd.prog 70 #[(.slice slicesa1 slicesl2 slicesc3)] M [] [] (λv lb' lr' M'=>∃(rn5:Nat) (rx6:List Value) (rv4:Value),v=rv4/\lb'=[]/\lr'=[⟨rv4,109,3,rn5,rx6,true⟩]/\K rn5 rx6)
def C_chaffref_Events (t1:X_api_Tree) (M:Mem) (K:Nat->List Value->Prop):Prop:=CallL Tryd.prog 31 #[t1.val] M [] [] (λv lb' lr' M'=>∃(rn3:Nat) (rx4:List Value) (rv2:Value),v=rv2/\lb'=[]/\lr'=[⟨rv2,109,3,rn3,rx4,true⟩]/\K rn3 rx4)
def S_slices_Grow_Event (n1:Int) (M:Mem) (K:Nat->List Value->Prop):Prop:=
 ((n1<0->False)/\(¬(n1<0)->(InI (0-((0:Nat):Int))/\(InI (n1-(0-((0:Nat):Int)))/\((n1-(0-((0:Nat):Int))>0->(0<n1-(0-((0:Nat):Int))/\(n1-(0-((0:Nat):Int))).toNat*24<=140737488355328/\((0:Int)<=((0:Nat):Int)/\((0:Nat):Int)<=(((n1-(0-((0:Nat):Int))).toNat:Nat):Int)/\K (((0:Nat):Int).toNat) (List.take (((0:Nat):Int).toNat*3) (repl (n1-(0-((0:Nat):Int))).toNat [(.int .i64 0),(.int .i64 0),(.int .i64 0)])))))/\(¬(n1-(0-((0:Nat):Int))>0)->K 0 []))))))
set_option maxRecDepth 100000 in
theorem s_slices_Grow_Event (n1:Int) (M:Mem) (K:Nat->List Value->Prop) (hS:S_slices_Grow_Event n1 M K):C_slices_Grow_Event n1 M K:=by
 unfold C_slices_Grow_Event;refine enterL Tryd.func107 rfl 27 rfl (Nat.le_of_ble_eq_true rfl) (λE a hs=>?_);unfold S_slices_Grow_Event at hS;have hMM:=MX.refl M E;change Sx 27 E (blk [] []) M E a [(0,(.slice none 0 0)),(1,(iv n1))] [] []at hs;refine qr (sP (.slice none 0 0) hs λ_ hs=>?_);refine wn (qs (qr (sP2 (iv n1) (.bool (decide (n1<0))) hs λ_ hs=>?_)));refine wn (Wp.cS hs decide_eq_true_iff hS (λhS=>?_) (λhS=>?_))
 ·refine qg (sP (Value.iface 9 (Value.string (mkS ([99,97,110,110,111,116,32,98,101,32,110,101,103,97,116,105,118,101]:List UInt8)))) hs λ_ hs=>?_);exact hS.elim
 ·refine qk (qs (qr (sP4 (iv n1) (.slice none 0 0) (iv 0) (.slice none 0 0) hs λ_ hs=>?_)));refine sP (iv (0:Int)) hs λ_ hs=>?_;obtain⟨hI,hS⟩:=hS;refine sY (iv (0-(0:Int))) hs (Yl.wr hI) λ_ hs=>?_;obtain⟨hI,hS⟩:=hS;refine sY (iv (n1-(0-(0:Int)))) hs (Yl.wr hI) λ_ hs=>?_;refine sP (iv (n1-(0-(0:Int)))) hs λ_ hs=>?_;refine wn (qr (sP2 (iv (n1-(0-(0:Int)))) (.bool (decide (n1-(0-(0:Int))>0))) hs λ_ hs=>?_));refine wn (Wp.cS hs decide_eq_true_iff hS (λhS=>?_) (λhS=>?_))
  ·refine qg (sP4 (.slice none 0 0) (.slice none 0 0) (iv 0) (.slice none 0 0) hs λ_ hs=>?_);refine sP (iv (n1-(0-(0:Int)))) hs λ_ hs=>?_;have hs:=hs.nilrow 109 3;obtain⟨h0,hB,hS⟩:=hS;refine stepAppendZ (kn:=.i64) 0 [(iv 0),(iv 0),(iv 0)] hs rfl rfl rfl rfl rfl (by kernel_rfl) (by kernel_rfl) (by kernel_rfl) rfl (by decide) (by decide) h0 (lenb hB (by decide)) hB (λ_ _ rv5 hs=>?_);replace hs:=hs.chrs (rs':=[⟨rv5,109,3,((n1-(0-(0:Int))).toNat),(repl (n1-(0-(0:Int))).toNat [(iv 0),(iv 0),(iv 0)]),true⟩]) rfl;refine sP2 (.slice none 0 0) (iv (0:Int)) hs λ_ hs=>?_;obtain⟨ad6,cap7,hv,hcp,hxl⟩:=hs.rowform 0 rfl
   dsimp only at hv hcp hxl
   subst hv;obtain⟨h0,h1,hS⟩:=hS;refine stepCut 0 hs rfl rfl rfl rfl rfl (by kernel_rfl) (by kernel_rfl) (by decide) h0 h1 (λ_ _ rv8 hs=>?_);replace hs:=hs.chrs (rs':=[⟨rv8,109,3,((0:Int).toNat),(List.take ((0:Int).toNat*3) (repl (n1-(0-(0:Int))).toNat [(iv 0),(iv 0),(iv 0)])),true⟩]) rfl;refine sP rv8 hs λ_ hs=>?_;refine wn (qr (sP2 rv8 rv8 hs λ_ hs=>?_));exact wn (qt (leaveL hs (resT hs rfl rfl) hMM.1 hMM.2 [] [⟨rv8,109,3,((0:Int).toNat),(List.take ((0:Int).toNat*3) (repl (n1-(0-(0:Int))).toNat [(iv 0),(iv 0),(iv 0)])),true⟩] (List.Sublist.refl _) (List.Sublist.refl _) rfl ⟨(0:Int).toNat,(List.take ((0:Int).toNat*3) (repl (n1-(0-(0:Int))).toNat [(iv 0),(iv 0),(iv 0)])),rv8,rfl,rfl,rfl,hS⟩))
  ·refine qk (qr (sP2 (.slice none 0 0) (.slice none 0 0) hs λ_ hs=>?_));refine wn (qt ?_);have hs:=hs.nilrow 109 3;exact leaveL hs (resT hs rfl rfl) hMM.1 hMM.2 [] [⟨(Value.slice none 0 0),109,3,0,[],true⟩] (List.Sublist.refl _) (List.Sublist.refl _) rfl ⟨0,[],(.slice none 0 0),rfl,rfl,rfl,hS⟩
def S_slices_Concat_Event (slicesa1:Option Addr) (slicesl2:Nat) (slicesc3:Nat) (M:Mem) (K:Nat->List Value->Prop):Prop:=
 (∃(I16:Int->Int->Prop) (mu17:Int->Int->Nat),I16 0 0/\∀(size14:Int) (x15:Int),(I16 size14 x15->((x15<((slicesl2:Nat):Int)->(∃(b18 o19:Nat),slicesa1=some ⟨b18,o19,none⟩/\(0:Int)<=x15/\x15<((slicesl2:Nat):Int)/\(∃(xa20:Option Addr) (xl21:Nat) (xc22:Nat),At M b18 (o19+x15.toNat*1) [(.slice xa20 xl21 xc22)]/\(InI (size14+((xl21:Nat):Int))/\((size14+((xl21:Nat):Int)<0->False)/\(¬(size14+((xl21:Nat):Int)<0)->(InI (x15+1)/\I16 (size14+((xl21:Nat):Int)) (x15+1)/\mu17 (size14+((xl21:Nat):Int)) (x15+1)<mu17 size14 x15)))))))/\(¬(x15<((slicesl2:Nat):Int))->(C_slices_Grow_Event size14 M (λrn25 rx26=>(∃(I50:Int->Nat->List Value->Prop) (mu51:Int->Nat->List Value->Nat),I50 0 rn25 rx26/\∀(x46:Int) (rn48:Nat) (rx49:List Value),(I50 x46 rn48 rx49->((x46<((slicesl2:Nat):Int)->(∃(b52 o53:Nat),slicesa1=some ⟨b52,o53,none⟩/\(0:Int)<=x46/\x46<((slicesl2:Nat):Int)/\(∃(xa54:Option Addr) (xl55:Nat) (xc56:Nat),At M b52 (o53+x46.toNat*1) [(.slice xa54 xl55 xc56)]/\(∃(news57:List Value),SlV M xa54 xl55 xc56 3 news57/\(∀u∈news57,u.oneCell'=true)/\(rn48+xl55)*24<=140737488355328/\(InI (x46+1)/\I50 (x46+1) (rn48+xl55) (rx49++news57)/\mu51 (x46+1) (rn48+xl55) (rx49++news57)<mu51 x46 rn48 rx49)))))/\(¬(x46<((slicesl2:Nat):Int))->K rn48 rx49))))))))))
set_option maxRecDepth 100000 in
theorem s_slices_Concat_Event (slicesa1:Option Addr) (slicesl2:Nat) (slicesc3:Nat) (M:Mem) (K:Nat->List Value->Prop) (hS:S_slices_Concat_Event slicesa1 slicesl2 slicesc3 M K):C_slices_Concat_Event slicesa1 slicesl2 slicesc3 M K:=by
 unfold C_slices_Concat_Event;refine enterL Tryd.func70 rfl 36 rfl (Nat.le_of_ble_eq_true rfl) (λE a hs=>?_);unfold S_slices_Concat_Event at hS;have hMM:=MX.refl M E;change Sx 36 E (blk [] []) M E a [(0,(.slice slicesa1 slicesl2 slicesc3))] [] []at hs;refine qr (sP (.slice none 0 0) hs λ_ hs=>?_);refine wn (qr (sP (iv 0) hs λ_ hs=>?_));refine wn (qs (qr (sP3 (.slice slicesa1 slicesl2 slicesc3) (iv (slicesl2:Int)) (iv 0) hs λ_ hs=>?_)));refine wn (qb ?_);obtain⟨I16,mu17,hI0,hst⟩:=hS;refine Wp.loop (σ:=(Int)×(Int)) (λ(size14,x15) a w=>Sx 36 E (blk [] []) M w a [(0,(.slice slicesa1 slicesl2 slicesc3)),(3,(iv size14)),(9,(.slice slicesa1 slicesl2 slicesc3)),(10,(iv (slicesl2:Int))),(11,(iv x15))] [] []/\I16 size14 x15) (λ(size14,x15)=>mu17 size14 x15) (0,0) ⟨hs.q,hI0⟩ (λs a w hI=>?_);obtain⟨size14,x15⟩:=s;obtain⟨hs,hI⟩:=hI;have hS:=hst size14 x15 hI;clear hst hI0 hI;refine qr (sP (.bool (decide (x15<(slicesl2:Int)))) hs λ_ hs=>?_);refine wn (qs (Wp.cS hs decide_eq_true_iff hS (λhS=>?_) (λhS=>?_)))
 ·refine qk (qs (qb (qr ?_)));obtain⟨b18,o19,ha,h0,hl,hS⟩:=hS;refine sI 50 1 ha h0 hl hs λ_ hs=>?_;obtain⟨xa20,xl21,xc22,hat,hS⟩:=hS;refine sV1 (.slice xa20 xl21 xc22) hat hs λ_ hs=>?_;refine sP (.slice xa20 xl21 xc22) hs λ_ hs=>?_;refine wn (qr (sP3 (iv size14) (.slice xa20 xl21 xc22) (iv (xl21:Int)) hs λ_ hs=>?_));obtain⟨hI,hS⟩:=hS;refine sY (iv (size14+(xl21:Int))) hs (Yl.wr hI) λ_ hs=>?_;refine sP (iv (size14+(xl21:Int))) hs λ_ hs=>?_;refine wn (qr (sP2 (iv (size14+(xl21:Int))) (.bool (decide (size14+(xl21:Int)<0))) hs λ_ hs=>?_));refine wn (Wp.cS hs decide_eq_true_iff hS (λhS=>?_) (λhS=>?_))
  ·refine qg (sP (Value.iface 9 (Value.string (mkS ([108,101,110,32,111,117,116,32,111,102,32,114,97,110,103,101]:List UInt8)))) hs λ_ hs=>?_);exact hS.elim
  ·refine qk (qg ?_);obtain⟨hI,hS⟩:=hS;refine sY (iv (x15+1)) hs (Yl.wr hI) λ_ hs=>?_;refine sP (iv (x15+1)) hs λ_ hs=>?_;exact wn (⟨(size14+(xl21:Int),x15+1),⟨hs.q,hS.1⟩,hS.2⟩)
 ·refine qx rfl (qr (sP (iv size14) hs λ_ hs=>?_));refine stepCallO [(.slice none 0 0),(iv size14)] [] [] [] [] true hs rfl rfl rfl rfl ⟨_,rfl,rfl⟩ rfl Tryd.func107 rfl (by kernel_rfl) (by decide) (hS) (λ_ _ _ v lb lr hS hs=>?_);obtain⟨rn25,rx26,rv24,hv,hlb,hlr,hS⟩:=hS;replace hv:=hv.symm;subst hv hlb hlr;replace hs:=hs.chbx (bs':=[]) rfl;replace hs:=hs.chrs (rs':=[⟨rv24,109,3,rn25,rx26,true⟩]) rfl;refine sP rv24 hs λ_ hs=>?_;refine wn (qs (qr (sP3 (.slice slicesa1 slicesl2 slicesc3) (iv (slicesl2:Int)) (iv 0) hs λ_ hs=>?_)));refine wn (qb ?_);obtain⟨I50,mu51,hI0,hst⟩:=hS;refine Wp.loop (σ:=(Int)×(Nat)×(List Value)×(Value)) (λ(x46,rn48,rx49,rv47) a w=>Sx 36 E (blk [] []) M w a [(6,rv47),(25,(.slice slicesa1 slicesl2 slicesc3)),(26,(iv (slicesl2:Int))),(27,(iv x46))] [] [⟨rv47,109,3,rn48,rx49,true⟩]/\I50 x46 rn48 rx49) (λ(x46,rn48,rx49,rv47)=>mu51 x46 rn48 rx49) (0,rn25,rx26,rv24) ⟨hs.q,hI0⟩ (λs a w hI=>?_);obtain⟨x46,rn48,rx49,rv47⟩:=s;obtain⟨hs,hI⟩:=hI;have hS:=hst x46 rn48 rx49 hI;clear hst hI0 hI;refine qr (sP (.bool (decide (x46<(slicesl2:Int)))) hs λ_ hs=>?_)
  refine wn (qs (Wp.cS hs decide_eq_true_iff hS (λhS=>?_) (λhS=>?_)))
  ·refine qk (qs (qb (qr ?_)));obtain⟨b52,o53,ha,h0,hl,hS⟩:=hS;refine sI 50 1 ha h0 hl hs λ_ hs=>?_;obtain⟨xa54,xl55,xc56,hat,hS⟩:=hS;refine sV1 (.slice xa54 xl55 xc56) hat hs λ_ hs=>?_;refine sP (.slice xa54 xl55 xc56) hs λ_ hs=>?_;refine wn (qg (sP2 rv47 (.slice xa54 xl55 xc56) hs λ_ hs=>?_));obtain⟨news57,hsl,ho,hS⟩:=hS;obtain⟨hB,hS⟩:=hS;refine stepAppend 0 news57 hs rfl rfl rfl rfl rfl (by kernel_rfl) (by kernel_rfl) (by decide) (by decide) (hs.srcV hsl ho) (lenb hB (by decide)) hB (λ_ _ rv58 hs=>?_);replace hs:=hs.chrs (rs':=[⟨rv58,109,3,(rn48+xl55),(rx49++news57),true⟩]) rfl;refine sP rv58 hs λ_ hs=>?_;refine wn (qg ?_);obtain⟨hI,hS⟩:=hS;refine sY (iv (x46+1)) hs (Yl.wr hI) λ_ hs=>?_;refine sP (iv (x46+1)) hs λ_ hs=>?_;exact wn (⟨(x46+1,(rn48+xl55),(rx49++news57),rv58),⟨hs.q,hS.1⟩,hS.2⟩)
  ·refine qx rfl (qr (sP rv47 hs λ_ hs=>?_));refine sP rv47 hs λ_ hs=>?_;exact wn (qt (leaveL hs (resT hs rfl rfl) hMM.1 hMM.2 [] [⟨rv47,109,3,rn48,rx49,true⟩] (List.Sublist.refl _) (List.Sublist.refl _) rfl ⟨rn48,rx49,rv47,rfl,rfl,rfl,hS⟩))
def S_chaffref_Events (t1:X_api_Tree) (M:Mem) (K:Nat->List Value->Prop):Prop:=
 (∃(I37:Int->Nat->List Value->Prop) (mu38:Int->Nat->List Value->Nat),I37 0 0 []/\∀(x33:Int) (rn35:Nat) (rx36:List Value),(I37 x33 rn35 rx36->((x33<((t1.Kids_l:Nat):Int)->(∃(b39 o40:Nat),t1.Kids_a=some ⟨b39,o40,none⟩/\(0:Int)<=x33/\x33<((t1.Kids_l:Nat):Int)/\(∃(x41:X_api_Tree),At M b39 (o40+x33.toNat*4) x41.cells/\(C_chaffref_Events x41 M (λrn45 rx46=>((∀u∈rx46,u.oneCell'=true)/\(rn35+rn45)*24<=140737488355328/\(InI (x33+1)/\I37 (x33+1) (rn35+rn45) (rx36++rx46)/\mu38 (x33+1) (rn35+rn45) (rx36++rx46)<mu38 x33 rn35 rx36)))))))/\(¬(x33<((t1.Kids_l:Nat):Int))->(∀(M54:Mem) (ad52:Option Addr) (cap53:Nat),M.le M54->SlV M54 ad52 1 cap53 3 ((X_api_Event.mk 1 t1.Rule t1.From).cells)->(∀(M57:Mem) (ad55:Option Addr) (cap56:Nat),M54.le M57->SlV M57 ad55 rn35 cap56 3 rx36->(∀(M60:Mem) (ad58:Option Addr) (cap59:Nat),M57.le M60->SlV M60 ad58 1 cap59 3 ((X_api_Event.mk 2 t1.Rule t1.To).cells)->(∀(M64:Mem) (ad62:Option Addr) (cap63:Nat),M60.le M64->SlV M64 ad62 3 cap63 1 [(.slice ad52 1 cap53),(.slice ad55 rn35 cap56),(.slice ad58 1 cap59)]->(C_slices_Concat_Event ad62 3 cap63 M64 (λrn67 rx68=>K rn67 rx68))))))))))
set_option maxRecDepth 100000 in
theorem s_chaffref_Events (t1:X_api_Tree) (M:Mem) (K:Nat->List Value->Prop) (hS:S_chaffref_Events t1 M K):C_chaffref_Events t1 M K:=by
 unfold C_chaffref_Events;refine enterL Tryd.func31 rfl 33 rfl (Nat.le_of_ble_eq_true rfl) (λE a hs=>?_);unfold S_chaffref_Events at hS;have hMM:=MX.refl M E;change Sx 33 E (blk [] []) M E a [(0,t1.val)] [] []at hs;refine qr (stepBox t1.cells hs rfl rfl rfl (by decide) (λ_ _ b5 hEb5 hs=>?_));refine sP (.slice none 0 0) hs λ_ hs=>?_;refine wn (qr (sP (.slice none 0 0) hs λ_ hs=>?_));have hs:=hs.nilrow 109 3;refine wn (qs (qr (sP (pt b5 3) hs λ_ hs=>?_)));refine sB1 (.slice t1.Kids_a t1.Kids_l t1.Kids_c) 0 hs λ_ hs=>?_;refine sP2 (iv (t1.Kids_l:Int)) (iv 0) hs λ_ hs=>?_;refine wn (qb ?_);obtain⟨I37,mu38,hI0,hst⟩:=hS;refine Wp.loop (σ:=(Int)×(Nat)×(List Value)×(Value)) (λ(x33,rn35,rx36,rv34) a w=>Sx 33 E (blk [] []) M w a [(1,(pt b5 0)),(3,rv34),(7,(.slice t1.Kids_a t1.Kids_l t1.Kids_c)),(8,(iv (t1.Kids_l:Int))),(9,(iv x33))] [⟨b5,48,t1.cells⟩] [⟨rv34,109,3,rn35,rx36,true⟩]/\I37 x33 rn35 rx36) (λ(x33,rn35,rx36,rv34)=>mu38 x33 rn35 rx36) (0,0,[],(.slice none 0 0)) ⟨hs.q,hI0⟩ (λs a w hI=>?_);obtain⟨x33,rn35,rx36,rv34⟩:=s;obtain⟨hs,hI⟩:=hI;have hS:=hst x33 rn35 rx36 hI;clear hst hI0 hI
 refine qr (sP (.bool (decide (x33<(t1.Kids_l:Int)))) hs λ_ hs=>?_);refine wn (qs (Wp.cS hs decide_eq_true_iff hS (λhS=>?_) (λhS=>?_)))
 ·refine qk (qs (qb (qr ?_)));obtain⟨b39,o40,ha,h0,hl,hS⟩:=hS;refine sI 48 4 ha h0 hl hs λ_ hs=>?_;obtain⟨x41,hat,hS⟩:=hS;refine sY x41.val hs (Yl.lV x41.cells true hat) λ_ hs=>?_;refine stepAlloc [(iv 0),(iv 0),(iv 0),(.slice none 0 0)] hs (by kernel_rfl) (by decide) (λ_ _ b42 hEb42 hs=>?_);refine stB 0 x41.cells [⟨b42,48,x41.cells⟩,⟨b5,48,t1.cells⟩] hs λ_ _ hs=>?_;refine wn (qg (sP rv34 hs λ_ hs=>?_));refine sY x41.val hs (Yl.lB x41.cells true 0) λ_ hs=>?_;refine stepCallO [x41.val] [] [⟨b42,48,x41.cells⟩,⟨b5,48,t1.cells⟩] [] [⟨rv34,109,3,rn35,rx36,true⟩] true hs rfl rfl rfl rfl ⟨_,rfl,rfl⟩ rfl Tryd.func31 rfl (by kernel_rfl) (by decide) (hS) (λ_ _ _ v lb lr hS hs=>?_);obtain⟨rn45,rx46,rv44,hv,hlb,hlr,hS⟩:=hS;replace hv:=hv.symm;subst hv hlb hlr;replace hs:=hs.chbx (bs':=[⟨b42,48,x41.cells⟩,⟨b5,48,t1.cells⟩]) rfl;replace hs:=hs.chrs (rs':=[⟨rv44,109,3,rn45,rx46,true⟩,⟨rv34,109,3,rn35,rx36,true⟩]) rfl;obtain⟨ad47,cap48,hv,hcp,hxl⟩:=hs.rowform 0 rfl
  dsimp only at hv hcp hxl
  subst hv;obtain⟨ho,hS⟩:=hS;obtain⟨hB,hS⟩:=hS;refine stepAppend 1 rx46 hs rfl rfl rfl rfl rfl (by kernel_rfl) (by kernel_rfl) (by decide) (by decide) (hs.srcRowA 0 rfl ho) (lenb hB (by decide)) hB (λ_ _ rv49 hs=>?_);replace hs:=hs.chrs (rs':=[⟨(Value.slice ad47 rn45 cap48),109,3,rn45,rx46,true⟩,⟨rv49,109,3,(rn35+rn45),(rx36++rx46),true⟩]) rfl;refine sP rv49 hs λ_ hs=>?_;refine wn (qg ?_);obtain⟨hI,hS⟩:=hS;refine sY (iv (x33+1)) hs (Yl.wr hI) λ_ hs=>?_;refine sP (iv (x33+1)) hs λ_ hs=>?_;exact wn (⟨(x33+1,(rn35+rn45),(rx36++rx46),rv49),⟨(hs.qq (.cons _ (.cons_cons _ List.Sublist.slnil)) (.cons _ (.cons_cons _ List.Sublist.slnil))),hS.1⟩,hS.2⟩)
 ·refine qx rfl (qr (sP (pt b5 0) hs λ_ hs=>?_));refine sB1 (iv t1.Rule) 0 hs λ_ hs=>?_;refine sP (pt b5 1) hs λ_ hs=>?_;refine sB1 (iv t1.From) 0 hs λ_ hs=>?_;refine sP (X_api_Event.mk 1 t1.Rule t1.From).val hs λ_ hs=>?_;refine stepMake ((X_api_Event.mk 1 t1.Rule t1.From).cells) 109 3 1 hs rfl rfl rfl (λ_=>by kernel_rfl) rfl (by unfold maxLen;decide) (by decide) (λ_ _ rv50 hs=>?_);refine sP2 rv34 (pt b5 0) hs λ_ hs=>?_;refine sB1 (iv t1.Rule) 0 hs λ_ hs=>?_;refine sP (pt b5 2) hs λ_ hs=>?_;refine sB1 (iv t1.To) 0 hs λ_ hs=>?_;refine sP (X_api_Event.mk 2 t1.Rule t1.To).val hs λ_ hs=>?_;refine stepMake ((X_api_Event.mk 2 t1.Rule t1.To).cells) 109 3 1 hs rfl rfl rfl (λ_=>by kernel_rfl) rfl (by unfold maxLen;decide) (by decide) (λ_ _ rv51 hs=>?_);obtain⟨ad52,cap53,hv,hcp,hxl⟩:=hs.rowform 1 rfl
  dsimp only at hv hcp hxl
  subst hv;obtain⟨M54,hle,hsl,hnew,hs⟩:=hs.release 1 rfl [⟨rv51,109,3,1,(X_api_Event.mk 2 t1.Rule t1.To).cells,true⟩,⟨rv34,109,3,rn35,rx36,true⟩] rfl;have hMM:=hMM.next hle hnew;have hS:=hS M54 ad52 cap53 hle hsl;obtain⟨ad55,cap56,hv,hcp,hxl⟩:=hs.rowform 1 rfl
  dsimp only at hv hcp hxl
  subst hv;obtain⟨M57,hle,hsl,hnew,hs⟩:=hs.release 1 rfl [⟨rv51,109,3,1,(X_api_Event.mk 2 t1.Rule t1.To).cells,true⟩] rfl;have hMM:=hMM.next hle hnew;have hS:=hS M57 ad55 cap56 hle hsl;obtain⟨ad58,cap59,hv,hcp,hxl⟩:=hs.rowform 0 rfl
  dsimp only at hv hcp hxl
  subst hv;obtain⟨M60,hle,hsl,hnew,hs⟩:=hs.release 0 rfl [] rfl;have hMM:=hMM.next hle hnew;have hS:=hS M60 ad58 cap59 hle hsl;refine stepMake [(.slice ad52 1 cap53),(.slice ad55 rn35 cap56),(.slice ad58 1 cap59)] 50 1 3 hs rfl rfl rfl (λ_=>by kernel_rfl) rfl (by unfold maxLen;decide) (by decide) (λ_ _ rv61 hs=>?_);obtain⟨ad62,cap63,hv,hcp,hxl⟩:=hs.rowform 0 rfl
  dsimp only at hv hcp hxl
  subst hv;have hS:=hS _ ad62 cap63 hs.on.hm (hs.peek 0 rfl);refine stepCallR [(.slice ad62 3 cap63)] hs rfl ⟨_,rfl,rfl⟩ rfl Tryd.func70 rfl (by kernel_rfl) (by decide) hS (λ_ _ _ v lb lr hS hs=>?_);obtain⟨rn67,rx68,rv66,hv,hlb,hlr,hS⟩:=hS;replace hv:=hv.symm;subst hv hlb hlr;replace hs:=hs.chbx (bs':=[⟨b5,48,t1.cells⟩]) rfl;replace hs:=hs.chrs (rs':=[⟨rv66,109,3,rn67,rx68,true⟩,⟨(Value.slice ad62 3 cap63),50,1,3,[(.slice ad52 1 cap53),(.slice ad55 rn35 cap56),(.slice ad58 1 cap59)],true⟩]) rfl;refine sP rv66 hs λ_ hs=>?_;exact wn (qt (leaveL hs (resT hs rfl rfl) hMM.1 hMM.2 [] [⟨rv66,109,3,rn67,rx68,true⟩] (.cons _ List.Sublist.slnil) (.cons_cons _ (.cons _ List.Sublist.slnil)) rfl ⟨rn67,rx68,rv66,rfl,rfl,rfl,hS⟩))
end Go.Proofs.YtjecddabdlapbaaDoor.core

namespace Go.Proofs.YtjecddabdlapbaaDoor.core
open Go.Gx Go.RowKit Go.ChangeShapes Go.WideShapes Go.ChangeAt
set_option linter.unusedVariables false
def S_chafflaw_TreeTexts (t1:X_api_Tree) (M:Mem) (K:Value->Prop):Prop:=
 (CallE Tryd.prog 30 #[t1.val] M (λv _=>∃(x3:Int),v=(Value.int .i64 x3)/\(C_chaffref_Events t1 M (λrn6 rx7=>(InI (((rn6:Nat):Int).tdiv 2)/\(((x3:Int)=((rn6:Nat):Int).tdiv 2->(CallE Tryd.prog 32 #[t1.val] M (λv _=>∃(x8:List UInt8),v=(Value.string (mkS x8))/\(CallE Tryd.prog 33 #[t1.val] M (λv _=>∃(x9:List UInt8),v=(Value.string (mkS x9))/\K (Value.bool ((mkS x8).toList==(mkS x9).toList)))))))/\(¬((x3:Int)=((rn6:Nat):Int).tdiv 2)->K (Value.bool false))))))))
set_option maxRecDepth 100000 in
theorem s_chafflaw_TreeTexts (t1:X_api_Tree) (M:Mem) (K:Value->Prop) (hS:S_chafflaw_TreeTexts t1 M K):CallE Tryd.prog 7 #[t1.val] M (λv _=>K v):=by
 refine eE1 Tryd.func7 17 λE a hMM hs=>?_;unfold S_chafflaw_TreeTexts at hS;refine qr (stepBox t1.cells hs rfl rfl rfl (by decide) (λ_ _ b2 hEb2 hs=>?_));refine sP (.bool false) hs λ_ hs=>?_;refine wn (qs (Wp.regionD [true,true,true,true,true,true,true,true,true,true,true,true,true,true,true] hs (by kernel_rfl) rfl [⟨b2,48,t1.cells⟩] (λ_ h=>h) [] (λ_ h=>h) (λ_ hs hC=>?_)));have hL:=Mem.le.refl M;refine dC t1.val 0 [1,3,4,5,6,7,8,9,10,11,12,13,14] hs hC rfl (Yl.lB t1.cells true 0) λ_ hs=>?_;refine dC t1.val 2 [3,4,5,6,7,8,9,10,11,12,13,14] hs hC rfl (Yl.lB t1.cells true 0) λ_ hs=>?_;refine sE 1 ?_;refine cP [t1.val] hs Tryd.func30 hS λ_ _ v hS hs=>?_;obtain⟨x3,rfl,hS⟩:=hS;refine wn (⟨λ_ _=>hs.cxle hL (List.Sublist.refl _) (List.Sublist.refl _),?_⟩);have hC:=hs.cxle hL (List.Sublist.refl _) (List.Sublist.refl _);refine sE 3 ?_;refine stepCallO [t1.val] [] [⟨b2,48,t1.cells⟩] [] [] true hs rfl rfl rfl rfl ⟨_,rfl,rfl⟩ rfl Tryd.func31 rfl (by kernel_rfl) (by decide) (hS) (λ_ _ _ v lb lr hS hs=>?_);obtain⟨rn6,rx7,rv5,hv,hlb,hlr,hS⟩:=hS;replace hv:=hv.symm;subst hv hlb hlr;replace hs:=hs.chbx (bs':=[⟨b2,48,t1.cells⟩]) rfl;replace hs:=hs.chrs (rs':=[⟨rv5,109,3,rn6,rx7,true⟩]) rfl
 refine wn (⟨λ_ _=>hs.cxle hL (List.Sublist.refl _) (.cons _ List.Sublist.slnil),?_⟩);have hC:=hs.cxle hL (List.Sublist.refl _) (.cons _ List.Sublist.slnil);refine sE 4 ?_;refine sY (iv (rn6:Int)) hs (Yl.lenR (e':=109) 0 rfl rfl rfl (by kernel_rfl)) λ_ hs=>?_;refine nE 5 ?_;obtain⟨hI,hS⟩:=hS;refine sY (iv ((rn6:Int).tdiv 2)) hs (Yl.wr hI) λ_ hs=>?_;refine nE 6 ?_;refine sP (.bool ((x3:Int)==((rn6:Int).tdiv 2:Int))) hs λ_ hs=>?_;refine nE 7 ?_;refine sP (.bool ((x3:Int)==((rn6:Int).tdiv 2:Int))) hs λ_ hs=>?_;refine wN ?_;refine bsS beq_iff_eq hs hS (λhs hS=>?_) (λhs hS=>?_)
 ·refine dCy t1.val 8 [9,11,12,13,14] hs hC rfl (Yl.lB t1.cells true 0) λ_ hs=>?_;refine dCy t1.val 10 [11,12,13,14] hs hC rfl (Yl.lB t1.cells true 0) λ_ hs=>?_;refine sEy (i:=9) hs ?_;refine cP [t1.val] hs Tryd.func32 hS λ_ _ v hS hs=>?_;obtain⟨x8,rfl,hS⟩:=hS;refine wn (⟨λ_ _=>hs.cxle hL (List.Sublist.refl _) (.cons _ List.Sublist.slnil),?_⟩);have hC:=hs.cxle hL (List.Sublist.refl _) (.cons _ List.Sublist.slnil);refine sEy (i:=11) hs ?_;refine cP [t1.val] hs Tryd.func33 hS λ_ _ v hS hs=>?_;obtain⟨x9,rfl,hS⟩:=hS;refine wn (⟨λ_ _=>hs.cxle hL (List.Sublist.refl _) (.cons _ List.Sublist.slnil),?_⟩);have hC:=hs.cxle hL (List.Sublist.refl _) (.cons _ List.Sublist.slnil);refine sEy (i:=12) hs ?_;refine sP (.bool ((mkS x8).toList==(mkS x9).toList)) hs λ_ hs=>?_;refine nE 13 ?_;refine sP (.bool ((mkS x8).toList==(mkS x9).toList)) hs λ_ hs=>?_;refine nE 14 ?_;refine sP (.bool ((mkS x8).toList==(mkS x9).toList)) hs λ_ hs=>?_;refine wN ?_;refine dD ?_;exact qt (rT hs hMM hS)
 ·refine dNo 8 [9,11,12,13,14] hs λ_ hs=>?_;refine dNo 10 [11,12,13,14] hs λ_ hs=>?_;refine dNo 9 [11,12,13,14] hs λ_ hs=>?_;refine dNo 11 [12,13,14] hs λ_ hs=>?_;refine dNo 12 [13,14] hs λ_ hs=>?_;refine sE 13 ?_;refine sP (.bool false) hs λ_ hs=>?_;refine nE 14 ?_;refine sP (.bool false) hs λ_ hs=>?_;refine wN ?_;refine dD ?_;exact qt (rT hs hMM hS)
end Go.Proofs.YtjecddabdlapbaaDoor.core

namespace Go.Gx
open Go.RowKit Go.ChangeShapes Go.WideShapes Go.ChangeAt
theorem witness_row_shaped {H:Type} {enc:TypeId×Value->H} {C:Checked} {os:Os} {f:FuncId} {fn:Func} {s:OpenSpec} {conds:List PathCond} {apart:Bool} {laid:List (String×DataW Unit)} (w0:World) (args:Array Value) (hos:w0.os=os)
  (hsh:(w0.forCall (λ_ _=>0) ⟨#[],args,[]⟩).Shaped C.prog) (hok:Input.okWideB C.prog (w0.forCall (λ_ _=>0) ⟨#[],args,[]⟩) f ⟨#[],args,[]⟩=true)
  (hrow:s.preRow enc C.prog fn conds apart laid (w0.forCall (λ_ _=>0) ⟨#[],args,[]⟩).memory args):
  ∃(w:World) (tape:Tape) (i:Input),w.os=os/\(w.forCall tape i).Shaped C.prog/\i.vars=[]/\Input.okWide C.prog (w.forCall tape i) .any w.heap.size f i/\
   s.preRow enc C.prog fn conds apart laid (w.forCall tape i).memory i.args/\({}:Assume).holds C.prog (lone (Frame.enter C.prog f i.args .normal) [] (w.forCall tape i)):=
 ⟨w0,λ_ _=>0,⟨#[],args,[]⟩,hos,hsh,(Input.okWide_of_okWideB (base:=0) hok).1,(Input.okWide_of_okWideB hok).2,hrow,by
  simp only[Assume.holds]
  exact⟨by simp,by simp,λ_=>Modest.zero,by simp,by simp⟩⟩
end Go.Gx

