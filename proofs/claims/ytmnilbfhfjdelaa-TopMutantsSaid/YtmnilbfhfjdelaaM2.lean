/- Contracts and what they hang on, of several parts. No condition. -/
import Derived.Test.YtmnilbfhfjdelaaM1
import Derived.Test.YtmnilbfhfjdelaaRows
namespace Go.Gx
open Go.RowKit
theorem run_appendT {P:Program} {w:World} {t ty e:TypeId} {size bytes:Nat} (ht:P.underlying t=some (.slice e)) (hi:(P.info? e).map (λi=>(i.size,i.bytes,i.zero.map (·.cells.size)))=some (size,bytes,some size))
  {g n cap:Nat} {cur:Array Value} (hg:w.heap[g]?=some (.cells cur e (0,0))) (hcs:cur.size=cap*size) {ad:Addr} {m c:Nat} {news:List Value} (hr:Src w (some ad) m size news) (hroom:n+m<=cap):
  (Builtin.append_ #[t,t] ty #[.slice (some ⟨g,0,none⟩) n cap,.slice (some ad) m c]).run P w= .ok (.slice (some ⟨g,0,none⟩) (n+m) cap) (w.setRow g (cur.toList.take (n*size)++news++cur.toList.drop (n*size+news.length)).toArray):=by
 cases hinf:P.info? e with
 |none=>simp[hinf]at hi
 |some i=>
  simp only[hinf,Option.map_some,Option.some.injEq,Prod.mk.injEq]at hi
  obtain⟨rfl,rfl,h3⟩:=hi
  obtain⟨hl,h1,hA⟩:=hr
  have hnews:∀j u,news[j]?=some u->w.cell? (ad.add j)=some u:=λj u hu=>by
   rcases Nat.eq_zero_or_pos m with h0|h0
   ·subst h0
    have hn:news=[]:=List.eq_nil_of_length_eq_zero (by simpa using hl)
    subst hn
    simp at hu
   ·obtain⟨ad',e,hc⟩:=hA h0
    cases e
    exact hc j u hu
  have hfit:n*i.size+news.length<=cur.size:=by rw[hl,hcs,<-Nat.add_mul];exact Nat.mul_le_mul_right _ hroom
  have hfc:=run_firstCells_some (P:=P) w i.size m ad m c news hl hnews
  have hst:=run_storeM P g (n*i.size) e (0,0) news 0 cur w hg (.inl rfl) (by simpa using hfit) h1
  simp only[Nat.add_zero]at hst
  simp[Builtin.append_,run_underlying ht,sizeOf,typeInfo,hinf,Builtin.lenOf,hroom,hfc,Addr.add_lit,hst]
section
variable {P:Program} {ops:Array Oper} {Q:Exit->Act->World->Prop} {n:Nat} {E:World} {bw:List Nat} {M:Mem} {w:World} {a:Act} {env:Env} {bs:List Bx} {rs:List Rw} {rest:List Oper}
theorem grown_set (w:World) (g:Nat) (cs:Array Value) (l c:Nat):w.grownBy (w.setRow g cs) (Value.slice (some ⟨g,0,none⟩) l c).ownBlock:=by
 refine⟨rfl,rfl,rfl,by simp[World.setRow],λq _ hne=>?_⟩
 simp only[World.setRow,Array.getElem?_modify]
 rw[if_neg]
 rintro rfl
 exact hne rfl
theorem Sx.srcTail (hs:Sx n E bw M w a env bs rs) (i:Nat) {g k cap e size j:Nat} {xs:List Value} {ow:Bool} (hi:rs[i]?=some ⟨.slice (some ⟨g,0,none⟩) k cap,e,size,k,xs,ow⟩) (hj:j<=k) (h1:∀u∈xs,u.oneCell'=true):Src w (some ⟨g,j*size,none⟩) (k-j) size (xs.drop (j*size)):=by
 obtain⟨g1,_⟩:=hs.rw _ (List.mem_of_getElem? hi)
 have hx:=g1.1
 simp only at hx
 refine⟨by rw[List.length_drop,hx,Nat.sub_mul],λu hu=>h1 u (List.mem_of_mem_drop hu),λ_=>⟨_,rfl,λq u hu=>?_⟩⟩
 rcases g1.2 with⟨hv,_⟩|⟨g',cap',cur,hv,_,hg,_,_,h5,h6⟩
 ·cases hv
 ·cases hv
  simp only at h6
  rw[List.getElem?_drop,<-h6,List.getElem?_take]at hu
  split at hu
  ·have e:(⟨g,j*size,none⟩:Addr).add q=⟨g,j*size+q,none⟩:=by unfold Addr.add;split<;>simp_all
   rw[e]
   simp only[World.cell?,hg]
   simpa using hu
  ·cases hu
theorem stepAppendT (i:Nat) {d:Nat} {ty:TypeId} {x y:Operand} {t e:TypeId} {size bytes:Nat} {pos:String} {af:Array Edge} {g k0 k cap:Nat} {xs:List Value} {ad:Addr} {m c:Nat} {ow:Bool} (news:List Value)
  (hs:Sx n E bw M w a env bs rs) (hi:rs[i]?=some ⟨.slice (some ⟨g,0,none⟩) k cap,e,size,k,xs,ow⟩) (hkx:known env x=true) (hky:known env y=true) (hx:evT env x= .slice (some ⟨g,0,none⟩) k0 cap) (hy:evT env y= .slice (some ad) m c)
  (ht:P.underlying t=some (.slice e)) (hinf:(P.info? e).map (λi=>(i.size,i.bytes,i.zero.map (·.cells.size)))=some (size,bytes,some size)) (hdn:d<n)
  (hr:Src w (some ad) m size news) (hk0:k0<=k) (hroom:k0+m<=cap)
  (h:∀a' w',Sx n E bw M w' a' ((d,.slice (some ⟨g,0,none⟩) (k0+m) cap)::env) bs (rs.set i ⟨.slice (some ⟨g,0,none⟩) (k0+m) cap,e,size,k0+m,xs.take (k0*size)++news,ow⟩)->wpList P ops Q rest a' w'):
  wpList P ops Q (⟨some d,.call {callee:=.builtin .append,args:= #[x,y],argTypes:= #[t,t]},ty,pos,af,none⟩::rest) a w:=by
 refine stepK (Z:=λ_ _=>False) (d:=d) hs (λ_ _ h=>h.elim) rfl (by simp[okOp,notSel,Op.operands,Call.operands,hkx,hky]) rfl hdn ?_
 obtain⟨g1,_⟩:=hs.rw _ (List.mem_of_getElem? hi)
 have hxl:=g1.1
 simp only at hxl
 rcases g1.2 with⟨hv,_⟩|⟨g',cap',cur,hv,hb,hg,h3,h4,h5,h6⟩
 ·cases hv
 ·cases hv
  simp only at h3 h6
  have hrun:=run_appendT (P:=P) (ty:=ty) (c:=c) ht hinf (n:=k0) hg h5 hr hroom
  refine OpW.of_run (w':=_) (v:=.slice (some ⟨g,0,none⟩) (k0+m) cap) (by rw[run_call_append hx hy,hrun];rfl) ?_
  intro a' hA
  have hle:(k0+m)*size<=cap*size:=Nat.mul_le_mul_right _ hroom
  have hle0:k0*size<=k*size:=Nat.mul_le_mul_right _ hk0
  have hcl:cur.toList.length=cap*size:=by simpa using h5
  have hnl:=hr.1
  rw[Nat.add_mul]at hle
  have htk:(cur.toList.take (k0*size))=xs.take (k0*size):=by rw[<-h6,List.take_take,Nat.min_eq_left hle0]
  have hxk:(xs.take (k0*size)).length=k0*size:=by rw[List.length_take];omega
  refine h a' _ (hs.rowset (r':=⟨.slice (some ⟨g,0,none⟩) (k0+m) cap,e,size,k0+m,xs.take (k0*size)++news,ow⟩) i hi (grown_set w g _ _ _) rfl ⟨?_,.inr ⟨g,cap,_,rfl,Nat.zero_le _,setRow_heap w g cur _ e (0,0) hg,hroom,h4,?_,?_⟩⟩ (.inl rfl) hA)
  ·simp only
   rw[List.length_append,hxk,hnl,Nat.add_mul]
  ·simp only[List.size_toArray,List.length_append,List.length_take,List.length_drop,hcl]
   omega
  ·simp only
   rw[htk,List.take_append_of_le_length (by rw[List.length_append,hxk,hnl,Nat.add_mul];exact Nat.le_refl _)]
   exact List.take_of_length_le (by rw[List.length_append,hxk,hnl,Nat.add_mul];exact Nat.le_refl _)
theorem zeroCells_len (z:Array Value) (l:Nat):(Builtin.zeroCells z l).toList.length=l*z.size:=by simp[Builtin.zeroCells]
theorem zeroCells_one {z:Array Value} (l:Nat) (h:∀u∈z.toList,u.oneCell'=true):∀u∈(Builtin.zeroCells z l).toList,u.oneCell'=true:=by
 intro u hu
 simp only[Builtin.zeroCells,Array.toList_map,List.mem_map,Array.mem_toList_iff,Array.mem_range]at hu
 obtain⟨i,hi,rfl⟩:=hu
 have hs:0<z.size:=by
  rcases Nat.eq_zero_or_pos z.size with h0|h0
  ·rw[h0]at hi;omega
  ·exact h0
 rw[getElem!_pos z _ (Nat.mod_lt i hs)]
 exact h _ (by simp)
theorem set_same {α:Type} {l:List α} {i:Nat} {x:α} (h:l[i]?=some x):l.set i x=l:=by
 apply List.ext_getElem?
 intro j
 by_cases e:i=j
 ·subst e
  rw[List.getElem?_set_self (List.getElem?_eq_some_iff.1 h).1,h]
 ·rw[List.getElem?_set_ne e]
theorem stepClearT (i:Nat) {t e ty:TypeId} {x:Operand} {pos:String} {af:Array Edge} {g k p l c cap size:Nat} {xs:List Value} {ow:Bool} (z:Value) (hs:Sx n E bw M w a env bs rs) (hi:rs[i]?=some ⟨.slice (some ⟨g,0,none⟩) k cap,e,size,k,xs,ow⟩) (hkx:known env x=true) (hx:evT env x= .slice (some ⟨g,p*size,none⟩) l c)
  (ht:P.underlying t=some (.slice e)) (hz:(P.info? e).bind (·.zero)=some z) (hzs:z.cells.size=size) (h1:∀u∈z.cells.toList,u.oneCell'=true) (hkp:k<=p) (hfit:p+l<=cap) (hl:0<l)
  (h:∀a' w',Sx n E bw M w' a' env bs rs->wpList P ops Q rest a' w'):
  wpList P ops Q (⟨none,.call {callee:=.builtin .clear,args:= #[x],argTypes:= #[t]},ty,pos,af,none⟩::rest) a w:=by
 refine stepK0 (Z:=λ_ _=>False) hs (λ_ _ h=>h.elim) rfl (by simp[okOp,notSel,Op.operands,Call.operands,hkx]) rfl ?_
 obtain⟨g1,_⟩:=hs.rw _ (List.mem_of_getElem? hi)
 have hxl:=g1.1
 simp only at hxl
 rcases g1.2 with⟨hv,_⟩|⟨g',cap',cur,hv,hb,hg,h3,h4,h5,h6⟩
 ·cases hv
 ·cases hv
  simp only at h3 h6
  have hZ:=zeroCells_len z.cells l
  have hZ1:=zeroCells_one l h1
  generalize hZd:(Builtin.zeroCells z.cells l).toList=Z at hZ hZ1
  rw[hzs]at hZ
  have hle:(p+l)*size<=cap*size:=Nat.mul_le_mul_right _ hfit
  have hle0:k*size<=p*size:=Nat.mul_le_mul_right _ hkp
  rw[Nat.add_mul]at hle
  have hcl:cur.toList.length=cap*size:=by simpa using h5
  have hst:=run_storeM P g (p*size) e (0,0) Z 0 cur w hg (.inl rfl) (by rw[hZ,h5];omega) hZ1
  have e1:(cur.toList.take (p*size+0)++Z++cur.toList.drop (p*size+0+Z.length)).toArray=(putAt cur.toList (p*size) Z).toArray:=by simp[putAt]
  rw[e1]at hst
  refine OpW.of_run (v:=.tuple #[]) (w':=w.setRow g (putAt cur.toList (p*size) Z).toArray) ?_ λa' hA=>?_
  ·obtain⟨m,rfl⟩:∃m,l=m+1:=⟨l-1,by omega⟩
   cases hin:P.info? e with
   |none=>simp[hin]at hz
   |some ti=>
    simp[hin]at hz
    simp[execOp,resolve,invoke,builtin,hx,Builtin.clear_,run_underlying ht,zeroValue,typeInfo,hin,hz,hZd,hst,Result.andThen]
  ·have:=hs.rowset (w':=w.setRow g (putAt cur.toList (p*size) Z).toArray) (r':=⟨.slice (some ⟨g,0,none⟩) k cap,e,size,k,xs,ow⟩) i hi (grown_set w g _ _ _) rfl ⟨hxl,.inr ⟨g,cap,_,rfl,Nat.zero_le _,setRow_heap w g cur _ e (0,0) hg,h3,h4,?_,?_⟩⟩ (.inl rfl) hA
   ·rw[set_same hi]at this
    exact h a' _ this
   ·simp only[List.size_toArray,putAt,List.length_append,List.length_take,List.length_drop,hcl]
    omega
   ·simp only
    rw[<-h6]
    unfold putAt
    rw[List.append_assoc,List.take_append_of_le_length (by rw[List.length_take];omega),List.take_take,Nat.min_eq_left hle0]
theorem Yl.slice3 {d:Option Tmp} {pos:String} {af:Array Edge} {gd:Option (Nat×Bool)} {ty t e:TypeId} {sz l c:Nat} {ad:Option Addr} {x lo hi mx:Operand} {k k' k'':IntKind} {i j m:Int} (hkx:known env x=true) (hka:known env lo=true) (hkb:known env hi=true) (hkm:known env mx=true) (hx:evT env x= .slice ad l c) (ha:evT env lo= .int k i) (hb:evT env hi= .int k' j) (hm:evT env mx= .int k'' m)
  (hu:P.underlying t=some (.slice e)) (hn:(P.info? e).map (·.size)=some sz) (h0:0<=i) (h1:i<=j) (h2:j<=m) (h3:m<=(c:Int)):Yl P env M bs rs ⟨d,.slice t x (some lo) (some hi) (some mx),ty,pos,af,gd⟩ (.slice (slA ad i.toNat m.toNat sz) (j.toNat-i.toNat) (m.toNat-i.toNat)):=by
 refine⟨by simp[okOp,notSel,Op.operands,hkx,hka,hkb,hkm],λw _=>?_⟩
 have e0:=run_sliceBound (P:=P) (k:=k'') (n:=m) (y:=c) (code:=.slice3Acap) w (by omega) h3
 have e1:=run_sliceBound (P:=P) (k:=k') (n:=j) (y:=m.toNat) (code:=.slice3B) w (by omega) (by omega)
 have e2:=run_sliceBound (P:=P) (k:=k) (n:=i) (y:=j.toNat) (code:=.slice3C) w h0 (by omega)
 cases hi':P.info? e with
 |none=>simp[hi']at hn
 |some ti=>
  simp[hi']at hn
  simp[execOp,Instr.sliceAt,Instr.slice,Instr.sliceBounds,hx,ha,hb,hm,run_underlying hu,e0,e1,e2,sizeOf,typeInfo,hi',hn,slA]
theorem slA_some (ad:Addr) (lo c size:Nat):∃ad',slA (some ad) lo c size=some ad':=by
 unfold slA
 split
 ·exact⟨_,rfl⟩
 ·exact⟨_,rfl⟩
theorem slA_at {g p c size:Nat} (h:p<c):slA (some ⟨g,0,none⟩) p c size=some ⟨g,p*size,none⟩:=by
 unfold slA
 rw[if_neg (by omega)]
 show some ((⟨g,0,none⟩:Addr).add (p*size))=_
 have e:(⟨g,0,none⟩:Addr).add (p*size)=⟨g,0+p*size,none⟩:=by unfold Addr.add;split<;>simp_all
 rw[e,Nat.zero_add]
theorem stepDrop (i:Nat) {d:Nat} {ty:TypeId} {x y:Operand} {t e:TypeId} {size bytes:Nat} {pos:String} {af:Array Edge} {g k0 j k cap:Nat} {ad:Option Addr} {xs:List Value} {ow:Bool}
  (hs:Sx n E bw M w a env bs rs) (hi:rs[i]?=some ⟨.slice ad k cap,e,size,k,xs,ow⟩) (had:ad=some ⟨g,0,none⟩) (hkx:known env x=true) (hky:known env y=true) (hx:evT env x= .slice ad k0 cap) (hy:evT env y= .slice (slA ad j cap size) (k-j) (cap-j))
  (ht:P.underlying t=some (.slice e)) (hinf:(P.info? e).map (λi=>(i.size,i.bytes,i.zero.map (·.cells.size)))=some (size,bytes,some size)) (hdn:d<n) (hk0:k0<=j) (hj:j<=k) (h1:∀u∈xs,u.oneCell'=true)
  (h:∀a' w',Sx n E bw M w' a' ((d,.slice ad (k0+(k-j)) cap)::env) bs (rs.set i ⟨.slice ad (k0+(k-j)) cap,e,size,k0+(k-j),xs.take (k0*size)++xs.drop (j*size),ow⟩)->wpList P ops Q rest a' w'):
  wpList P ops Q (⟨some d,.call {callee:=.builtin .append,args:= #[x,y],argTypes:= #[t,t]},ty,pos,af,none⟩::rest) a w:=by
 subst had
 have hkc:k<=cap:=by
  obtain⟨_,_,he,h3,_⟩:=ownsRow_form (hs.rw _ (List.mem_of_getElem? hi)).1
  cases he
  exact h3
 obtain⟨ad',hA⟩:=slA_some ⟨g,0,none⟩ j cap size
 rw[hA]at hy
 have hr:=hs.srcTail i hi hj h1
 refine stepAppendT i (xs.drop (j*size)) hs hi hkx hky hx hy ht hinf hdn ?_ (by omega) (by omega) h
 by_cases hc:j<cap
 ·rw[slA_at hc]at hA
  cases hA
  exact hr
 ·have h0:k-j=0:=by omega
  refine⟨hr.1,hr.2.1,λh=>by omega⟩
theorem stepBehind (i:Nat) {t e ty:TypeId} {x:Operand} {pos:String} {af:Array Edge} {g k l c cap size:Nat} {ad:Option Addr} {xs:List Value} {ow:Bool} (z:Value) (hs:Sx n E bw M w a env bs rs) (hi:rs[i]?=some ⟨.slice ad k cap,e,size,k,xs,ow⟩) (had:ad=some ⟨g,0,none⟩) (hkx:known env x=true) (hx:evT env x= .slice (slA ad k cap size) l c)
  (ht:P.underlying t=some (.slice e)) (hz:(P.info? e).bind (·.zero)=some z) (hzs:z.cells.size=size) (h1:∀u∈z.cells.toList,u.oneCell'=true) (hfit:k+l<=cap) (hl:0<l)
  (h:∀a' w',Sx n E bw M w' a' env bs rs->wpList P ops Q rest a' w'):
  wpList P ops Q (⟨none,.call {callee:=.builtin .clear,args:= #[x],argTypes:= #[t]},ty,pos,af,none⟩::rest) a w:=by
 subst had
 rw[slA_at (by omega)]at hx
 exact stepClearT i z hs hi hkx hx ht hz hzs h1 (Nat.le_refl _) hfit hl h
end
end Go.Gx

namespace Go.Proofs.Ytmnilbfhfjdelaa.core
open Go.Gx Go.RowKit Go.ChangeShapes Go.WideShapes Go.ChangeAt
set_option linter.unusedVariables false
structure X_api_Set where
 w0:Int
 w1:Int
 w2:Int
 w3:Int
def X_api_Set.cells (x:X_api_Set):List Value:=[(.int .u64 x.w0),(.int .u64 x.w1),(.int .u64 x.w2),(.int .u64 x.w3)]
def X_api_Set.val (x:X_api_Set):Value:=.agg x.cells.toArray
structure X_api_Expr where
 Kind:Int
 Set:X_api_Set
 Text:List UInt8
 Kids_a:Option Addr
 Kids_l:Nat
 Kids_c:Nat
def X_api_Expr.cells (x:X_api_Expr):List Value:=[(.int .i64 x.Kind),(.int .u64 x.Set.w0),(.int .u64 x.Set.w1),(.int .u64 x.Set.w2),(.int .u64 x.Set.w3),(.string (mkS x.Text)),(.slice x.Kids_a x.Kids_l x.Kids_c)]
def X_api_Expr.val (x:X_api_Expr):Value:=.agg x.cells.toArray
structure X_api_Rule where
 Name:List UInt8
 Body:X_api_Expr
def X_api_Rule.cells (x:X_api_Rule):List Value:=[(.string (mkS x.Name)),(.int .i64 x.Body.Kind),(.int .u64 x.Body.Set.w0),(.int .u64 x.Body.Set.w1),(.int .u64 x.Body.Set.w2),(.int .u64 x.Body.Set.w3),(.string (mkS x.Body.Text)),(.slice x.Body.Kids_a x.Body.Kids_l x.Body.Kids_c)]
def X_api_Rule.val (x:X_api_Rule):Value:=.agg x.cells.toArray
def C_expr_looker_look (e3:X_api_Expr) (deep4:Int) (l2:Int) (M:Mem) (K:Value->Int->Mem->Prop):Prop:=∀(b1:Nat),CallL Try.prog 134 #[(.pointer (some ⟨b1,0,none⟩)),e3.val,(.int .i64 deep4)] M [⟨b1,206,[(.int .i64 l2)]⟩] [] (λv lb' lr' M'=>∃(c5:Int),lb'=[⟨b1,206,[(.int .i64 c5)]⟩]/\lr'=[]/\K v c5 M')
def S_expr_Name_J3 (x10:Int) (I11:Int->Prop) (mu12:Int->Nat) (x18:Bool) (K:Value->Prop):Prop:=
 ((x18=true->K (Value.bool false))/\(¬(x18=true)->(InI (x10+1)/\I11 (x10+1)/\mu12 (x10+1)<mu12 x10)))
def S_expr_Name_J2 (s1:List UInt8) (x10:Int) (I11:Int->Prop) (mu12:Int->Nat) (letter15:Bool) (K:Value->Prop):Prop:=
 ((¬(letter15=true)->(((x10:Int)=0->(S_expr_Name_J3 x10 I11 mu12 true K))/\(¬((x10:Int)=0)->(∃c16:UInt8,(0:Int)<=x10/\s1[x10.toNat]?=some c16/\(((c16.toNat:Int)<48->(S_expr_Name_J3 x10 I11 mu12 true K))/\(¬((c16.toNat:Int)<48)->(∃c17:UInt8,(0:Int)<=x10/\s1[x10.toNat]?=some c17/\(S_expr_Name_J3 x10 I11 mu12 (decide ((c17.toNat:Int)>57)) K))))))))/\(¬(¬(letter15=true))->(S_expr_Name_J3 x10 I11 mu12 false K)))
def S_expr_Name_J1 (s1:List UInt8) (x2:Bool) (K:Value->Prop):Prop:=
 ((x2=true->K (Value.bool false))/\(¬(x2=true)->(∃(I11:Int->Prop) (mu12:Int->Nat),I11 0/\∀(x10:Int),(I11 x10->((x10<((s1.length:Nat):Int)->(∃c13:UInt8,(0:Int)<=x10/\s1[x10.toNat]?=some c13/\((bOr .u8 (c13.toNat:Int) 32>=97->(∃c14:UInt8,(0:Int)<=x10/\s1[x10.toNat]?=some c14/\(S_expr_Name_J2 s1 x10 I11 mu12 (decide (bOr .u8 (c14.toNat:Int) 32<=122)) K)))/\(¬(bOr .u8 (c13.toNat:Int) 32>=97)->(S_expr_Name_J2 s1 x10 I11 mu12 false K)))))/\(¬(x10<((s1.length:Nat):Int))->K (Value.bool true)))))))
def S_expr_Name (s1:List UInt8) (M:Mem) (K:Value->Prop):Prop:=
 ((s1=([]:List UInt8)->(S_expr_Name_J1 s1 true K))/\(¬(s1=([]:List UInt8))->(S_expr_Name_J1 s1 (decide (((s1.length:Nat):Int)>8)) K)))
set_option maxRecDepth 100000 in
theorem s_expr_Name (s1:List UInt8) (M:Mem) (K:Value->Prop) (hS:S_expr_Name s1 M K):CallE Try.prog 117 #[(Value.string (mkS s1))] M (λv _=>K v):=by
 refine eE1 Try.func117 48 λE a hMM hs=>?_;unfold S_expr_Name at hS;refine qr (sP (.bool false) hs λ_ hs=>?_);refine wn (qs (Wp.join (λa w=>∃(x2:Bool),Sx 48 E [] M w a [(0,(.string (mkS s1))),(11,(.bool x2))] [] []/\(S_expr_Name_J1 s1 x2 K)) ?_ ?_))
 ·refine qg (sP3 (.string (mkS s1)) (.bool ((mkS s1).toList==(mkS ([]:List UInt8)).toList)) (.bool ((mkS s1).toList==(mkS ([]:List UInt8)).toList)) hs λ_ hs=>?_);refine bsS mkS_beq hs hS (λhs hS=>?_) (λhs hS=>?_)
  ·repeat (first|refine sNo hs λ_ hs=>?_|refine sNu hs λ_ hs=>?_)
   refine sP (.bool true) hs λ_ hs=>?_;exact wn (⟨true,hs.q,hS⟩)
  ·refine ye (.string (mkS s1)) hs λ_ hs=>?_;refine ye (iv (s1.length:Int)) hs λ_ hs=>?_;refine ye (.bool (decide ((s1.length:Int)>8))) hs λ_ hs=>?_;refine sP (.bool (decide ((s1.length:Int)>8))) hs λ_ hs=>?_;exact wn (⟨(decide ((s1.length:Int)>8)),hs.q,hS⟩)
 ·intro a w hJ;obtain⟨x2,hs,hS⟩:=hJ;unfold S_expr_Name_J1 at hS;refine Wp.cS hs Iff.rfl hS (λhS=>?_) (λhS=>?_)
  ·refine qr (sP (.bool false) hs λ_ hs=>?_);exact wn (qt (rT hs hMM hS))
  ·refine qk (qs (qr (sP3 (.string (mkS s1)) (iv (s1.length:Int)) (iv 0) hs λ_ hs=>?_)));refine wn (qb ?_);obtain⟨I11,mu12,hI0,hst⟩:=hS;refine Wp.loop (σ:=(Int)) (λx10 a w=>Sx 48 E [] M w a [(0,(.string (mkS s1))),(13,(iv (s1.length:Int))),(14,(iv x10))] [] []/\I11 x10) (λx10=>mu12 x10) (0) ⟨hs.q,hI0⟩ (λx10 a w hI=>?_);obtain⟨hs,hI⟩:=hI;have hS:=hst x10 hI;clear hst hI0 hI;refine qr (sP (.bool (decide (x10<(s1.length:Int)))) hs λ_ hs=>?_);refine wn (qs (Wp.cS hs decide_eq_true_iff hS (λhS=>?_) (λhS=>?_)))
   ·refine qk (qs (qb (qr (sP2 (iv x10) (iv x10) hs λ_ hs=>?_))));refine wn (Wp.join (λa w=>∃(letter15:Bool),Sx 48 E [] M w a [(0,(.string (mkS s1))),(3,(iv x10)),(4,(.bool letter15)),(13,(iv (s1.length:Int))),(14,(iv x10))] [] []/\(S_expr_Name_J2 s1 x10 I11 mu12 letter15 K)) ?_ ?_)
    ·refine qg (sP2 (.string (mkS s1)) (iv x10) hs λ_ hs=>?_);obtain⟨c13,h0,hi,hS⟩:=hS;refine sY (.int .u8 (c13.toNat:Int)) hs (Yl.indexStr rfl rfl rfl rfl (by kernel_rfl) h0 hi) λ_ hs=>?_;refine sP3 (.int .u8 (bOr .u8 (c13.toNat:Int) 32)) (.bool (decide (bOr .u8 (c13.toNat:Int) 32>=97))) (.bool (decide (bOr .u8 (c13.toNat:Int) 32>=97))) hs λ_ hs=>?_;refine bsS decide_eq_true_iff hs hS (λhs hS=>?_) (λhs hS=>?_)
     ·refine ye (.string (mkS s1)) hs λ_ hs=>?_;refine ye (iv x10) hs λ_ hs=>?_;refine sYe hs ?_;obtain⟨c14,h0,hi,hS⟩:=hS;refine sY (.int .u8 (c14.toNat:Int)) hs (Yl.indexStr rfl rfl rfl rfl (by kernel_rfl) h0 hi) λ_ hs=>?_;refine ye (.int .u8 (bOr .u8 (c14.toNat:Int) 32)) hs λ_ hs=>?_;refine ye (.bool (decide (bOr .u8 (c14.toNat:Int) 32<=122))) hs λ_ hs=>?_;refine sP2 (.bool (decide (bOr .u8 (c14.toNat:Int) 32<=122))) (.bool (decide (bOr .u8 (c14.toNat:Int) 32<=122))) hs λ_ hs=>?_;exact wn (⟨(decide (bOr .u8 (c14.toNat:Int) 32<=122)),hs.q,hS⟩)
     ·repeat (first|refine sNo hs λ_ hs=>?_|refine sNu hs λ_ hs=>?_)
      refine sP2 (.bool false) (.bool false) hs λ_ hs=>?_;exact wn (⟨false,hs.q,hS⟩)
    ·intro a w hJ;obtain⟨letter15,hs,hS⟩:=hJ;unfold S_expr_Name_J2 at hS;refine Wp.join (λa w=>∃(x18:Bool),Sx 48 E [] M w a [(0,(.string (mkS s1))),(13,(iv (s1.length:Int))),(14,(iv x10)),(46,(.bool x18))] [] []/\(S_expr_Name_J3 x10 I11 mu12 x18 K)) ?_ ?_
     ·refine qg (sP3 (.bool letter15) (.bool (!letter15)) (.bool (!letter15)) hs λ_ hs=>?_);refine bsS (bnot_iff Iff.rfl) hs hS (λhs hS=>?_) (λhs hS=>?_)
      ·refine ye (iv x10) hs λ_ hs=>?_;refine ye (.bool ((x10:Int)==(0:Int))) hs λ_ hs=>?_;refine ye (.bool ((x10:Int)==(0:Int))) hs λ_ hs=>?_;refine bsS beq_iff_eq hs hS (λhs hS=>?_) (λhs hS=>?_)
       ·repeat (first|refine sNo hs λ_ hs=>?_|refine sNu hs λ_ hs=>?_)
        refine ye (.bool true) hs λ_ hs=>?_;refine ye (.bool true) hs λ_ hs=>?_;repeat (first|refine sNo hs λ_ hs=>?_|refine sNu hs λ_ hs=>?_)
        refine ye (.bool true) hs λ_ hs=>?_;refine sP (.bool true) hs λ_ hs=>?_;exact wn (⟨true,hs.q,hS⟩)
       ·refine ye (.string (mkS s1)) hs λ_ hs=>?_;refine ye (iv x10) hs λ_ hs=>?_;refine sYe hs ?_;obtain⟨c16,h0,hi,hS⟩:=hS;refine sY (.int .u8 (c16.toNat:Int)) hs (Yl.indexStr rfl rfl rfl rfl (by kernel_rfl) h0 hi) λ_ hs=>?_;refine ye (.bool (decide ((c16.toNat:Int)<48))) hs λ_ hs=>?_;refine ye (.bool (decide ((c16.toNat:Int)<48))) hs λ_ hs=>?_;refine ye (.bool (decide ((c16.toNat:Int)<48))) hs λ_ hs=>?_;refine bsS decide_eq_true_iff hs hS (λhs hS=>?_) (λhs hS=>?_)
        ·repeat (first|refine sNo hs λ_ hs=>?_|refine sNu hs λ_ hs=>?_)
         refine ye (.bool true) hs λ_ hs=>?_;refine sP (.bool true) hs λ_ hs=>?_;exact wn (⟨true,hs.q,hS⟩)
        ·refine ye (.string (mkS s1)) hs λ_ hs=>?_;refine ye (iv x10) hs λ_ hs=>?_;refine sYe hs ?_;obtain⟨c17,h0,hi,hS⟩:=hS;refine sY (.int .u8 (c17.toNat:Int)) hs (Yl.indexStr rfl rfl rfl rfl (by kernel_rfl) h0 hi) λ_ hs=>?_;refine ye (.bool (decide ((c17.toNat:Int)>57))) hs λ_ hs=>?_;refine ye (.bool (decide ((c17.toNat:Int)>57))) hs λ_ hs=>?_;refine sP (.bool (decide ((c17.toNat:Int)>57))) hs λ_ hs=>?_;exact wn (⟨(decide ((c17.toNat:Int)>57)),hs.q,hS⟩)
      ·repeat (first|refine sNo hs λ_ hs=>?_|refine sNu hs λ_ hs=>?_)
       refine sP (.bool false) hs λ_ hs=>?_;exact wn (⟨false,hs.q,hS⟩)
     ·intro a w hJ;obtain⟨x18,hs,hS⟩:=hJ;unfold S_expr_Name_J3 at hS;refine Wp.cS hs Iff.rfl hS (λhS=>?_) (λhS=>?_)
      ·refine qr (sP (.bool false) hs λ_ hs=>?_);exact wn (qt (rT hs hMM hS))
      ·refine qk (qg ?_);obtain⟨hI,hS⟩:=hS;refine sY (iv (x10+1)) hs (Yl.wr hI) λ_ hs=>?_;refine sP (iv (x10+1)) hs λ_ hs=>?_;exact wn (⟨(x10+1),⟨hs.q,hS.1⟩,hS.2⟩)
   ·refine qx rfl (qr (sP (.bool true) hs λ_ hs=>?_));exact wn (qt (rT hs hMM hS))
def S_gram_Find (ga1:Option Addr) (gl2:Nat) (gc3:Nat) (name4:List UInt8) (M:Mem) (K:Value->Prop):Prop:=
 (∃(I12:Int->Prop) (mu13:Int->Nat),I12 0/\∀(x11:Int),(I12 x11->((x11<((gl2:Nat):Int)->(∃(b14 o15:Nat),ga1=some ⟨b14,o15,none⟩/\(0:Int)<=x11/\x11<((gl2:Nat):Int)/\(∃(x16:X_api_Rule),At M b14 (o15+x11.toNat*8) x16.cells/\((x16.Name=name4->K (Value.int .i64 x11))/\(¬(x16.Name=name4)->(InI (x11+1)/\I12 (x11+1)/\mu13 (x11+1)<mu13 x11))))))/\(¬(x11<((gl2:Nat):Int))->K (Value.int .i64 (-1))))))
set_option maxRecDepth 100000 in
theorem s_gram_Find (ga1:Option Addr) (gl2:Nat) (gc3:Nat) (name4:List UInt8) (M:Mem) (K:Value->Prop) (hS:S_gram_Find ga1 gl2 gc3 name4 M K):CallE Try.prog 118 #[(Value.agg #[(Value.slice ga1 gl2 gc3)]),(Value.string (mkS name4))] M (λv _=>K v):=by
 refine eE2 Try.func118 21 λE a hMM hs=>?_;unfold S_gram_Find at hS;refine qr (stepBox [(.slice ga1 gl2 gc3)] hs rfl rfl rfl (by decide) (λ_ _ b5 hEb5 hs=>?_));refine sP (iv 0) hs λ_ hs=>?_;refine wn (qs (qr (sP (pt b5 0) hs λ_ hs=>?_)));refine sB1 (.slice ga1 gl2 gc3) 0 hs λ_ hs=>?_;refine sP2 (iv (gl2:Int)) (iv 0) hs λ_ hs=>?_;refine wn (qb ?_);obtain⟨I12,mu13,hI0,hst⟩:=hS;refine Wp.loop (σ:=(Int)) (λx11 a w=>Sx 21 E [] M w a [(1,(.string (mkS name4))),(8,(.slice ga1 gl2 gc3)),(9,(iv (gl2:Int))),(10,(iv x11))] [⟨b5,38,[(.slice ga1 gl2 gc3)]⟩] []/\I12 x11) (λx11=>mu13 x11) (0) ⟨hs.q,hI0⟩ (λx11 a w hI=>?_);obtain⟨hs,hI⟩:=hI;have hS:=hst x11 hI;clear hst hI0 hI;refine qr (sP (.bool (decide (x11<(gl2:Int)))) hs λ_ hs=>?_);refine wn (qs (Wp.cS hs decide_eq_true_iff hS (λhS=>?_) (λhS=>?_)))
 ·refine qk (qs (qb (qr (sP (iv x11) hs λ_ hs=>?_))));obtain⟨b14,o15,ha,h0,hl,hS⟩:=hS;refine sI 119 8 ha h0 hl hs λ_ hs=>?_;obtain⟨x16,hat,hS⟩:=hS;refine sY x16.val hs (Yl.lV x16.cells true hat) λ_ hs=>?_;refine stepAlloc [(.string (mkS [])),(iv 0),(.int .u64 0),(.int .u64 0),(.int .u64 0),(.int .u64 0),(.string (mkS [])),(.slice none 0 0)] hs (by kernel_rfl) (by decide) (λ_ _ b17 hEb17 hs=>?_);refine sP (iv x11) hs λ_ hs=>?_;refine stB 0 x16.cells [⟨b17,119,x16.cells⟩,⟨b5,38,[(.slice ga1 gl2 gc3)]⟩] hs λ_ _ hs=>?_;refine wn (qr (sP (pt b17 0) hs λ_ hs=>?_));refine sB1 (.string (mkS x16.Name)) 0 hs λ_ hs=>?_;refine sP2 (.string (mkS name4)) (.bool ((mkS x16.Name).toList==(mkS name4).toList)) hs λ_ hs=>?_;refine wn (Wp.cS hs mkS_beq hS (λhS=>?_) (λhS=>?_))
  ·refine qr (sP2 (iv x11) (iv x11) hs λ_ hs=>?_);exact wn (qt (rT hs hMM hS))
  ·refine qk (qg ?_);obtain⟨hI,hS⟩:=hS;refine sY (iv (x11+1)) hs (Yl.wr hI) λ_ hs=>?_;refine sP (iv (x11+1)) hs λ_ hs=>?_;exact wn (⟨(x11+1),⟨(hs.qq (.cons _ (.cons_cons _ List.Sublist.slnil)) (List.Sublist.refl _)),hS.1⟩,hS.2⟩)
 ·refine qx rfl (qr (sP (iv (-1)) hs λ_ hs=>?_));exact wn (qt (rT hs hMM hS))
def S_expr_fit_J6 (e1:X_api_Expr) (low8:Int) (high9:Int) (x10:Bool) (K:Value->Prop):Prop:=
 ((x10=true->K (Value.bool false))/\(¬(x10=true)->((((e1.Kids_l:Nat):Int)>=low8->K (Value.bool (decide (((e1.Kids_l:Nat):Int)<=high9))))/\(¬(((e1.Kids_l:Nat):Int)>=low8)->K (Value.bool false)))))
def S_expr_fit_J5 (e1:X_api_Expr) (low8:Int) (high9:Int) (K:Value->Prop):Prop:=
 (((e1.Kind:Int)≠3->(((e1.Kind:Int)≠4->((e1.Text≠([]:List UInt8)->(S_expr_fit_J6 e1 low8 high9 true K))/\(¬(e1.Text≠([]:List UInt8))->(((e1.Kind:Int)≠2->(S_expr_fit_J6 e1 low8 high9 (!(cellsEq [e1.Set.w0,e1.Set.w1,e1.Set.w2,e1.Set.w3] [0,0,0,0])) K))/\(¬((e1.Kind:Int)≠2)->(S_expr_fit_J6 e1 low8 high9 false K))))))/\(¬((e1.Kind:Int)≠4)->(((e1.Kind:Int)≠2->(S_expr_fit_J6 e1 low8 high9 (!(cellsEq [e1.Set.w0,e1.Set.w1,e1.Set.w2,e1.Set.w3] [0,0,0,0])) K))/\(¬((e1.Kind:Int)≠2)->(S_expr_fit_J6 e1 low8 high9 false K))))))/\(¬((e1.Kind:Int)≠3)->(((e1.Kind:Int)≠2->(S_expr_fit_J6 e1 low8 high9 (!(cellsEq [e1.Set.w0,e1.Set.w1,e1.Set.w2,e1.Set.w3] [0,0,0,0])) K))/\(¬((e1.Kind:Int)≠2)->(S_expr_fit_J6 e1 low8 high9 false K)))))
def S_expr_fit_J2 (e1:X_api_Expr) (x4:Bool) (K:Value->Prop):Prop:=
 ((x4=true->K (Value.bool false))/\(¬(x4=true)->(S_expr_fit_J5 e1 0 0 K)))
def S_expr_fit_J4 (e1:X_api_Expr) (x7:Bool) (K:Value->Prop):Prop:=
 ((x7=true->(S_expr_fit_J5 e1 1 1 K))/\(¬(x7=true)->K (Value.bool false)))
def S_expr_fit_J3 (e1:X_api_Expr) (x6:Bool) (K:Value->Prop):Prop:=
 ((x6=true->(S_expr_fit_J5 e1 2 8 K))/\(¬(x6=true)->(((e1.Kind:Int)=7->(S_expr_fit_J4 e1 ((e1.Kind:Int)==(7:Int)) K))/\(¬((e1.Kind:Int)=7)->(((e1.Kind:Int)=8->(S_expr_fit_J4 e1 ((e1.Kind:Int)==(8:Int)) K))/\(¬((e1.Kind:Int)=8)->(((e1.Kind:Int)=9->(S_expr_fit_J4 e1 ((e1.Kind:Int)==(9:Int)) K))/\(¬((e1.Kind:Int)=9)->(((e1.Kind:Int)=10->(S_expr_fit_J4 e1 ((e1.Kind:Int)==(10:Int)) K))/\(¬((e1.Kind:Int)=10)->(S_expr_fit_J4 e1 ((e1.Kind:Int)==(11:Int)) K)))))))))))
def S_expr_fit_J1 (e1:X_api_Expr) (M:Mem) (x3:Bool) (K:Value->Prop):Prop:=
 ((x3=true->(S_expr_fit_J5 e1 0 0 K))/\(¬(x3=true)->(((e1.Kind:Int)=3->((e1.Text=([]:List UInt8)->(S_expr_fit_J2 e1 true K))/\(¬(e1.Text=([]:List UInt8))->(S_expr_fit_J2 e1 (decide (((e1.Text.length:Nat):Int)>12)) K))))/\(¬((e1.Kind:Int)=3)->(((e1.Kind:Int)=4->(CallE Try.prog 117 #[(.string (mkS e1.Text))] M (λv _=>∃(x5:Bool),v=(Value.bool x5)/\((¬(x5=true)->K (Value.bool false))/\(¬(¬(x5=true))->(S_expr_fit_J5 e1 0 0 K))))))/\(¬((e1.Kind:Int)=4)->(((e1.Kind:Int)=5->(S_expr_fit_J3 e1 ((e1.Kind:Int)==(5:Int)) K))/\(¬((e1.Kind:Int)=5)->(S_expr_fit_J3 e1 ((e1.Kind:Int)==(6:Int)) K)))))))))
def S_expr_fit (e1:X_api_Expr) (M:Mem) (K:Value->Prop):Prop:=
 (((e1.Kind:Int)=1->(S_expr_fit_J1 e1 M ((e1.Kind:Int)==(1:Int)) K))/\(¬((e1.Kind:Int)=1)->(S_expr_fit_J1 e1 M ((e1.Kind:Int)==(2:Int)) K)))
set_option maxRecDepth 100000 in
theorem s_expr_fit (e1:X_api_Expr) (M:Mem) (K:Value->Prop) (hS:S_expr_fit e1 M K):CallE Try.prog 160 #[e1.val] M (λv _=>K v):=by
 refine eE1 Try.func160 72 λE a hMM hs=>?_;unfold S_expr_fit at hS;refine qr (stepBox e1.cells hs rfl rfl rfl (by decide) (λ_ _ b2 hEb2 hs=>?_));refine sP (.bool false) hs λ_ hs=>?_;refine wn (qr (sP2 (iv 0) (iv 0) hs λ_ hs=>?_));refine wn (Wp.join (λa w=>∃(low8:Int) (high9:Int),Sx 72 E [] M w a [(1,(pt b2 0)),(3,(iv low8)),(4,(iv high9))] [⟨b2,117,e1.cells⟩] []/\(S_expr_fit_J5 e1 low8 high9 K)) ?_ ?_)
 ·refine qr (sP (pt b2 0) hs λ_ hs=>?_);refine sB1 (iv e1.Kind) 0 hs λ_ hs=>?_;refine wn (qb (Wp.join (λa w=>∃(x3:Bool),Sx 72 E [] M w a [(1,(pt b2 0)),(3,(iv 0)),(4,(iv 0)),(6,(iv e1.Kind)),(7,(.bool x3))] [⟨b2,117,e1.cells⟩] []/\(S_expr_fit_J1 e1 M x3 K)) ?_ ?_))
  ·refine qr (sP2 (.bool ((e1.Kind:Int)==(1:Int))) (.bool ((e1.Kind:Int)==(1:Int))) hs λ_ hs=>?_);refine wn (Wp.cS hs beq_iff_eq hS (λhS=>?_) (λhS=>?_))
   ·exact qk (⟨((e1.Kind:Int)==(1:Int)),hs.q,hS⟩)
   ·refine qg (sP2 (.bool ((e1.Kind:Int)==(2:Int))) (.bool ((e1.Kind:Int)==(2:Int))) hs λ_ hs=>?_);exact wn (⟨((e1.Kind:Int)==(2:Int)),hs.q,hS⟩)
  ·intro a w hJ;obtain⟨x3,hs,hS⟩:=hJ;unfold S_expr_fit_J1 at hS;refine Wp.cS hs Iff.rfl hS (λhS=>?_) (λhS=>?_)
   ·exact qk (⟨0,0,hs.q,hS⟩)
   ·refine qr (sP2 (.bool ((e1.Kind:Int)==(3:Int))) (.bool ((e1.Kind:Int)==(3:Int))) hs λ_ hs=>?_);refine wn (Wp.cS hs beq_iff_eq hS (λhS=>?_) (λhS=>?_))
    ·refine Wp.join (λa w=>∃(x4:Bool),Sx 72 E [] M w a [(1,(pt b2 0)),(3,(iv 0)),(4,(iv 0)),(20,(.bool x4))] [⟨b2,117,e1.cells⟩] []/\(S_expr_fit_J2 e1 x4 K)) ?_ ?_
     ·refine qg (sP (pt b2 5) hs λ_ hs=>?_);refine sB1 (.string (mkS e1.Text)) 0 hs λ_ hs=>?_;refine sP2 (.bool ((mkS e1.Text).toList==(mkS ([]:List UInt8)).toList)) (.bool ((mkS e1.Text).toList==(mkS ([]:List UInt8)).toList)) hs λ_ hs=>?_;refine bsS mkS_beq hs hS (λhs hS=>?_) (λhs hS=>?_)
      ·repeat (first|refine sNo hs λ_ hs=>?_|refine sNu hs λ_ hs=>?_)
       refine sP (.bool true) hs λ_ hs=>?_;exact wn (⟨true,hs.q,hS⟩)
      ·refine ye (pt b2 5) hs λ_ hs=>?_;refine sYe hs (sB1 (.string (mkS e1.Text)) 0 hs λ_ hs=>?_);refine ye (iv (e1.Text.length:Int)) hs λ_ hs=>?_;refine ye (.bool (decide ((e1.Text.length:Int)>12))) hs λ_ hs=>?_;refine sP (.bool (decide ((e1.Text.length:Int)>12))) hs λ_ hs=>?_;exact wn (⟨(decide ((e1.Text.length:Int)>12)),hs.q,hS⟩)
     ·intro a w hJ;obtain⟨x4,hs,hS⟩:=hJ;unfold S_expr_fit_J2 at hS;refine Wp.cS hs Iff.rfl hS (λhS=>?_) (λhS=>?_)
      ·refine qr (sP (.bool false) hs λ_ hs=>?_);exact wn (qt (rT hs hMM hS))
      ·exact qk (⟨0,0,hs.q,hS⟩)
    ·refine qr (sP2 (.bool ((e1.Kind:Int)==(4:Int))) (.bool ((e1.Kind:Int)==(4:Int))) hs λ_ hs=>?_);refine wn (Wp.cS hs beq_iff_eq hS (λhS=>?_) (λhS=>?_))
     ·refine qr (sP (pt b2 5) hs λ_ hs=>?_);refine sB1 (.string (mkS e1.Text)) 0 hs λ_ hs=>?_;refine cP [(.string (mkS e1.Text))] hs Try.func117 hS λ_ _ v hS hs=>?_;obtain⟨x5,rfl,hS⟩:=hS;refine sP (.bool (!x5)) hs λ_ hs=>?_;refine wn (Wp.cS hs (bnot_iff Iff.rfl) hS (λhS=>?_) (λhS=>?_))
      ·refine qr (sP (.bool false) hs λ_ hs=>?_);exact wn (qt (rT hs hMM hS))
      ·exact qk (⟨0,0,hs.q,hS⟩)
     ·refine Wp.join (λa w=>∃(x6:Bool),Sx 72 E [] M w a [(1,(pt b2 0)),(6,(iv e1.Kind)),(27,(.bool x6))] [⟨b2,117,e1.cells⟩] []/\(S_expr_fit_J3 e1 x6 K)) ?_ ?_
      ·refine qr (sP2 (.bool ((e1.Kind:Int)==(5:Int))) (.bool ((e1.Kind:Int)==(5:Int))) hs λ_ hs=>?_);refine wn (Wp.cS hs beq_iff_eq hS (λhS=>?_) (λhS=>?_))
       ·exact qk (⟨((e1.Kind:Int)==(5:Int)),hs.q,hS⟩)
       ·refine qg (sP2 (.bool ((e1.Kind:Int)==(6:Int))) (.bool ((e1.Kind:Int)==(6:Int))) hs λ_ hs=>?_);exact wn (⟨((e1.Kind:Int)==(6:Int)),hs.q,hS⟩)
      ·intro a w hJ;obtain⟨x6,hs,hS⟩:=hJ;unfold S_expr_fit_J3 at hS;refine Wp.cS hs Iff.rfl hS (λhS=>?_) (λhS=>?_)
       ·refine qg (sP2 (iv 2) (iv 8) hs λ_ hs=>?_);exact wn (⟨2,8,hs.q,hS⟩)
       ·refine Wp.join (λa w=>∃(x7:Bool),Sx 72 E [] M w a [(1,(pt b2 0)),(30,(.bool x7))] [⟨b2,117,e1.cells⟩] []/\(S_expr_fit_J4 e1 x7 K)) ?_ ?_
        ·refine qr (sP2 (.bool ((e1.Kind:Int)==(7:Int))) (.bool ((e1.Kind:Int)==(7:Int))) hs λ_ hs=>?_);refine wn (Wp.cS hs beq_iff_eq hS (λhS=>?_) (λhS=>?_))
         ·exact qk (⟨((e1.Kind:Int)==(7:Int)),hs.q,hS⟩)
         ·refine qr (sP2 (.bool ((e1.Kind:Int)==(8:Int))) (.bool ((e1.Kind:Int)==(8:Int))) hs λ_ hs=>?_);refine wn (Wp.cS hs beq_iff_eq hS (λhS=>?_) (λhS=>?_))
          ·exact qk (⟨((e1.Kind:Int)==(8:Int)),hs.q,hS⟩)
          ·refine qr (sP2 (.bool ((e1.Kind:Int)==(9:Int))) (.bool ((e1.Kind:Int)==(9:Int))) hs λ_ hs=>?_);refine wn (Wp.cS hs beq_iff_eq hS (λhS=>?_) (λhS=>?_))
           ·exact qk (⟨((e1.Kind:Int)==(9:Int)),hs.q,hS⟩)
           ·refine qr (sP2 (.bool ((e1.Kind:Int)==(10:Int))) (.bool ((e1.Kind:Int)==(10:Int))) hs λ_ hs=>?_);refine wn (Wp.cS hs beq_iff_eq hS (λhS=>?_) (λhS=>?_))
            ·exact qk (⟨((e1.Kind:Int)==(10:Int)),hs.q,hS⟩)
            ·refine qg (sP2 (.bool ((e1.Kind:Int)==(11:Int))) (.bool ((e1.Kind:Int)==(11:Int))) hs λ_ hs=>?_);exact wn (⟨((e1.Kind:Int)==(11:Int)),hs.q,hS⟩)
        ·intro a w hJ;obtain⟨x7,hs,hS⟩:=hJ;unfold S_expr_fit_J4 at hS;refine Wp.cS hs Iff.rfl hS (λhS=>?_) (λhS=>?_)
         ·refine qg (sP2 (iv 1) (iv 1) hs λ_ hs=>?_);exact wn (⟨1,1,hs.q,hS⟩)
         ·refine qr (sP (.bool false) hs λ_ hs=>?_);exact wn (qt (rT hs hMM hS))
 ·intro a w hJ;obtain⟨low8,high9,hs,hS⟩:=hJ;unfold S_expr_fit_J5 at hS;refine qs (Wp.join (λa w=>∃(x10:Bool),Sx 72 E [] M w a [(1,(pt b2 0)),(3,(iv low8)),(4,(iv high9)),(59,(.bool x10))] [⟨b2,117,e1.cells⟩] []/\(S_expr_fit_J6 e1 low8 high9 x10 K)) ?_ ?_)
  ·refine qg (sP (pt b2 0) hs λ_ hs=>?_);refine sB1 (iv e1.Kind) 0 hs λ_ hs=>?_;refine sP2 (.bool ((e1.Kind:Int) != (3:Int))) (.bool ((e1.Kind:Int) != (3:Int))) hs λ_ hs=>?_;refine bsS bne_iff_ne hs hS (λhs hS=>?_) (λhs hS=>?_)
   ·refine ye (pt b2 0) hs λ_ hs=>?_;refine sYe hs (sB1 (iv e1.Kind) 0 hs λ_ hs=>?_);refine ye (.bool ((e1.Kind:Int) != (4:Int))) hs λ_ hs=>?_;refine sP2 (.bool ((e1.Kind:Int) != (4:Int))) (.bool ((e1.Kind:Int) != (4:Int))) hs λ_ hs=>?_;refine bsS bne_iff_ne hs hS (λhs hS=>?_) (λhs hS=>?_)
    ·refine ye (pt b2 5) hs λ_ hs=>?_;refine sYe hs (sB1 (.string (mkS e1.Text)) 0 hs λ_ hs=>?_);refine ye (.bool (!((mkS e1.Text).toList==(mkS ([]:List UInt8)).toList))) hs λ_ hs=>?_;refine sP2 (.bool (!((mkS e1.Text).toList==(mkS ([]:List UInt8)).toList))) (.bool (!((mkS e1.Text).toList==(mkS ([]:List UInt8)).toList))) hs λ_ hs=>?_;refine bsS mkS_bne hs hS (λhs hS=>?_) (λhs hS=>?_)
     ·repeat (first|refine sNo hs λ_ hs=>?_|refine sNu hs λ_ hs=>?_)
      refine sP (.bool true) hs λ_ hs=>?_;exact wn (⟨true,hs.q,hS⟩)
     ·refine ye (pt b2 0) hs λ_ hs=>?_;refine sYe hs (sB1 (iv e1.Kind) 0 hs λ_ hs=>?_);refine ye (.bool ((e1.Kind:Int) != (2:Int))) hs λ_ hs=>?_;refine ye (.bool ((e1.Kind:Int) != (2:Int))) hs λ_ hs=>?_;refine bsS bne_iff_ne hs hS (λhs hS=>?_) (λhs hS=>?_)
      ·refine ye (pt b2 1) hs λ_ hs=>?_;refine sYe hs (sY e1.Set.val hs (Yl.lB e1.Set.cells true 0) λ_ hs=>?_);refine ye (X_api_Set.mk 0 0 0 0).val hs λ_ hs=>?_;refine sYe hs (sY (.bool (!(cellsEq [e1.Set.w0,e1.Set.w1,e1.Set.w2,e1.Set.w3] [0,0,0,0]))) hs (Yl.neqA (n:=4) (e:=112) (k:=.u64) (xs:=[e1.Set.w0,e1.Set.w1,e1.Set.w2,e1.Set.w3]) (ys:=[0,0,0,0]) rfl (by kernel_rfl) (by kernel_rfl) (by kernel_rfl) (by kernel_rfl) rfl rfl rfl rfl rfl rfl) λ_ hs=>?_);refine ye (.bool (!(cellsEq [e1.Set.w0,e1.Set.w1,e1.Set.w2,e1.Set.w3] [0,0,0,0]))) hs λ_ hs=>?_;refine sP (.bool (!(cellsEq [e1.Set.w0,e1.Set.w1,e1.Set.w2,e1.Set.w3] [0,0,0,0]))) hs λ_ hs=>?_;exact wn (⟨(!(cellsEq [e1.Set.w0,e1.Set.w1,e1.Set.w2,e1.Set.w3] [0,0,0,0])),hs.q,hS⟩)
      ·repeat (first|refine sNo hs λ_ hs=>?_|refine sNu hs λ_ hs=>?_)
       refine ye (.bool false) hs λ_ hs=>?_;refine sP (.bool false) hs λ_ hs=>?_;exact wn (⟨false,hs.q,hS⟩)
    ·repeat (first|refine sNo hs λ_ hs=>?_|refine sNu hs λ_ hs=>?_)
     refine sP2 (.bool false) (.bool false) hs λ_ hs=>?_;refine ye (pt b2 0) hs λ_ hs=>?_;refine sYe hs (sB1 (iv e1.Kind) 0 hs λ_ hs=>?_);refine ye (.bool ((e1.Kind:Int) != (2:Int))) hs λ_ hs=>?_;refine ye (.bool ((e1.Kind:Int) != (2:Int))) hs λ_ hs=>?_;refine bsS bne_iff_ne hs hS (λhs hS=>?_) (λhs hS=>?_)
     ·refine ye (pt b2 1) hs λ_ hs=>?_;refine sYe hs (sY e1.Set.val hs (Yl.lB e1.Set.cells true 0) λ_ hs=>?_);refine ye (X_api_Set.mk 0 0 0 0).val hs λ_ hs=>?_;refine sYe hs (sY (.bool (!(cellsEq [e1.Set.w0,e1.Set.w1,e1.Set.w2,e1.Set.w3] [0,0,0,0]))) hs (Yl.neqA (n:=4) (e:=112) (k:=.u64) (xs:=[e1.Set.w0,e1.Set.w1,e1.Set.w2,e1.Set.w3]) (ys:=[0,0,0,0]) rfl (by kernel_rfl) (by kernel_rfl) (by kernel_rfl) (by kernel_rfl) rfl rfl rfl rfl rfl rfl) λ_ hs=>?_);refine ye (.bool (!(cellsEq [e1.Set.w0,e1.Set.w1,e1.Set.w2,e1.Set.w3] [0,0,0,0]))) hs λ_ hs=>?_;refine sP (.bool (!(cellsEq [e1.Set.w0,e1.Set.w1,e1.Set.w2,e1.Set.w3] [0,0,0,0]))) hs λ_ hs=>?_;exact wn (⟨(!(cellsEq [e1.Set.w0,e1.Set.w1,e1.Set.w2,e1.Set.w3] [0,0,0,0])),hs.q,hS⟩)
     ·repeat (first|refine sNo hs λ_ hs=>?_|refine sNu hs λ_ hs=>?_)
      refine ye (.bool false) hs λ_ hs=>?_;refine sP (.bool false) hs λ_ hs=>?_;exact wn (⟨false,hs.q,hS⟩)
   ·repeat (first|refine sNo hs λ_ hs=>?_|refine sNu hs λ_ hs=>?_)
    refine sP2 (.bool false) (.bool false) hs λ_ hs=>?_;repeat (first|refine sNo hs λ_ hs=>?_|refine sNu hs λ_ hs=>?_)
    refine sP2 (.bool false) (.bool false) hs λ_ hs=>?_;refine ye (pt b2 0) hs λ_ hs=>?_;refine sYe hs (sB1 (iv e1.Kind) 0 hs λ_ hs=>?_);refine ye (.bool ((e1.Kind:Int) != (2:Int))) hs λ_ hs=>?_;refine ye (.bool ((e1.Kind:Int) != (2:Int))) hs λ_ hs=>?_;refine bsS bne_iff_ne hs hS (λhs hS=>?_) (λhs hS=>?_)
    ·refine ye (pt b2 1) hs λ_ hs=>?_;refine sYe hs (sY e1.Set.val hs (Yl.lB e1.Set.cells true 0) λ_ hs=>?_);refine ye (X_api_Set.mk 0 0 0 0).val hs λ_ hs=>?_;refine sYe hs (sY (.bool (!(cellsEq [e1.Set.w0,e1.Set.w1,e1.Set.w2,e1.Set.w3] [0,0,0,0]))) hs (Yl.neqA (n:=4) (e:=112) (k:=.u64) (xs:=[e1.Set.w0,e1.Set.w1,e1.Set.w2,e1.Set.w3]) (ys:=[0,0,0,0]) rfl (by kernel_rfl) (by kernel_rfl) (by kernel_rfl) (by kernel_rfl) rfl rfl rfl rfl rfl rfl) λ_ hs=>?_);refine ye (.bool (!(cellsEq [e1.Set.w0,e1.Set.w1,e1.Set.w2,e1.Set.w3] [0,0,0,0]))) hs λ_ hs=>?_;refine sP (.bool (!(cellsEq [e1.Set.w0,e1.Set.w1,e1.Set.w2,e1.Set.w3] [0,0,0,0]))) hs λ_ hs=>?_;exact wn (⟨(!(cellsEq [e1.Set.w0,e1.Set.w1,e1.Set.w2,e1.Set.w3] [0,0,0,0])),hs.q,hS⟩)
    ·repeat (first|refine sNo hs λ_ hs=>?_|refine sNu hs λ_ hs=>?_)
     refine ye (.bool false) hs λ_ hs=>?_;refine sP (.bool false) hs λ_ hs=>?_;exact wn (⟨false,hs.q,hS⟩)
  ·intro a w hJ;obtain⟨x10,hs,hS⟩:=hJ;unfold S_expr_fit_J6 at hS;refine Wp.cS hs Iff.rfl hS (λhS=>?_) (λhS=>?_)
   ·refine qr (sP (.bool false) hs λ_ hs=>?_);exact wn (qt (rT hs hMM hS))
   ·refine qk (qr (sP (pt b2 6) hs λ_ hs=>?_));refine sB1 (.slice e1.Kids_a e1.Kids_l e1.Kids_c) 0 hs λ_ hs=>?_;refine sP4 (iv (e1.Kids_l:Int)) (iv low8) (.bool (decide ((e1.Kids_l:Int)>=low8))) (.bool (decide ((e1.Kids_l:Int)>=low8))) hs λ_ hs=>?_;refine bsS decide_eq_true_iff hs hS (λhs hS=>?_) (λhs hS=>?_)
    ·refine ye (pt b2 6) hs λ_ hs=>?_;refine sYe hs (sB1 (.slice e1.Kids_a e1.Kids_l e1.Kids_c) 0 hs λ_ hs=>?_);refine ye (iv (e1.Kids_l:Int)) hs λ_ hs=>?_;refine ye (iv high9) hs λ_ hs=>?_;refine ye (.bool (decide ((e1.Kids_l:Int)<=high9))) hs λ_ hs=>?_;refine sP2 (.bool (decide ((e1.Kids_l:Int)<=high9))) (.bool (decide ((e1.Kids_l:Int)<=high9))) hs λ_ hs=>?_;exact wn (qt (rT hs hMM hS))
    ·repeat (first|refine sNo hs λ_ hs=>?_|refine sNu hs λ_ hs=>?_)
     refine sP2 (.bool false) (.bool false) hs λ_ hs=>?_;exact wn (qt (rT hs hMM hS))
def S_expr_looker_look (e3:X_api_Expr) (deep4:Int) (l2:Int) (M:Mem) (K:Value->Int->Mem->Prop):Prop:=
 (InI (l2+1)/\((l2+1>60->K (Value.int .i64 2) (l2+1) M)/\(¬(l2+1>60)->((deep4>12->K (Value.int .i64 5) (l2+1) M)/\(¬(deep4>12)->(CallE Try.prog 160 #[e3.val] M (λv _=>∃(x8:Bool),v=(Value.bool x8)/\((¬(x8=true)->K (Value.int .i64 3) (l2+1) M)/\(¬(¬(x8=true))->(∃(I30:Int->Int->Mem->Prop) (mu31:Int->Int->Nat),I30 0 (l2+1) M/\∀(x27:Int) (c28:Int) (M29:Mem),(I30 x27 c28 M29->((x27<((e3.Kids_l:Nat):Int)->(∃(b32 o33:Nat),e3.Kids_a=some ⟨b32,o33,none⟩/\(0:Int)<=x27/\x27<((e3.Kids_l:Nat):Int)/\(∃(x34:X_api_Expr),At M29 b32 (o33+x27.toNat*7) x34.cells/\(InI (deep4+1)/\(C_expr_looker_look x34 (deep4+1) c28 M29 (λv c38 M37=>∃(x36:Int),v=(Value.int .i64 x36)/\(((x36:Int)≠0->K (Value.int .i64 x36) c38 M37)/\(¬((x36:Int)≠0)->(InI (x27+1)/\I30 (x27+1) c38 M37/\mu31 (x27+1) c38<mu31 x27 c28)))))))))/\(¬(x27<((e3.Kids_l:Nat):Int))->K (Value.int .i64 0) c28 M29)))))))))))))
set_option maxRecDepth 100000 in
theorem s_expr_looker_look (e3:X_api_Expr) (deep4:Int) (l2:Int) (M:Mem) (K:Value->Int->Mem->Prop) (hS:S_expr_looker_look e3 deep4 l2 M K):C_expr_looker_look e3 deep4 l2 M K:=by
 intro b1;refine enterL Try.func134 rfl 46 rfl (Nat.le_of_ble_eq_true rfl) (λE a hs=>?_);unfold S_expr_looker_look at hS;have hMM:=MX.refl M E;change Sx 46 E (blk [⟨b1,206,[(iv l2)]⟩] []) M E a [(0,(pt b1 0)),(1,e3.val),(2,(iv deep4))] [⟨b1,206,[(iv l2)]⟩] []at hs;refine qr (stepBox e3.cells hs rfl rfl rfl (by decide) (λ_ _ b7 hEb7 hs=>?_));refine sP (iv 0) hs λ_ hs=>?_;refine wn (qr (sP3 (pt b1 0) (pt b1 0) (pt b1 0) hs λ_ hs=>?_));refine sB1 (iv l2) 1 hs λ_ hs=>?_;obtain⟨hI,hS⟩:=hS;refine sY (iv (l2+1)) hs (Yl.wr hI) λ_ hs=>?_;refine sP2 (pt b1 0) (pt b1 0) hs λ_ hs=>?_;refine stB 1 [(iv (l2+1))] [⟨b7,117,e3.cells⟩,⟨b1,206,[(iv (l2+1))]⟩] hs λ_ _ hs=>?_;refine wn (qs (qb (qr (sP3 (pt b1 0) (pt b1 0) (pt b1 0) hs λ_ hs=>?_))));refine sB1 (iv (l2+1)) 1 hs λ_ hs=>?_;refine sP2 (.bool (decide (l2+1>60))) (.bool (decide (l2+1>60))) hs λ_ hs=>?_;refine wn (Wp.cS hs decide_eq_true_iff hS (λhS=>?_) (λhS=>?_))
 ·refine qr (sP (iv 2) hs λ_ hs=>?_);refine wn (qt ?_);replace hs:=hs.bfront 1 rfl rfl;exact leaveL hs (resT hs rfl rfl) hMM.1 hMM.2 [⟨b1,206,[(iv (l2+1))]⟩] [] (.cons_cons _ (.cons _ List.Sublist.slnil)) (List.Sublist.refl _) rfl ⟨l2+1,rfl,rfl,hS⟩
 ·refine qr (sP3 (iv deep4) (.bool (decide (deep4>12))) (.bool (decide (deep4>12))) hs λ_ hs=>?_);refine wn (Wp.cS hs decide_eq_true_iff hS (λhS=>?_) (λhS=>?_))
  ·refine qr (sP (iv 5) hs λ_ hs=>?_);refine wn (qt ?_);replace hs:=hs.bfront 1 rfl rfl;exact leaveL hs (resT hs rfl rfl) hMM.1 hMM.2 [⟨b1,206,[(iv (l2+1))]⟩] [] (.cons_cons _ (.cons _ List.Sublist.slnil)) (List.Sublist.refl _) rfl ⟨l2+1,rfl,rfl,hS⟩
  ·refine qr (sY e3.val hs (Yl.lB e3.cells true 0) λ_ hs=>?_);refine cP [e3.val] hs Try.func160 hS λ_ _ v hS hs=>?_;obtain⟨x8,rfl,hS⟩:=hS;refine sP2 (.bool (!x8)) (.bool (!x8)) hs λ_ hs=>?_;refine wn (Wp.cS hs (bnot_iff Iff.rfl) hS (λhS=>?_) (λhS=>?_))
   ·refine qr (sP (iv 3) hs λ_ hs=>?_);refine wn (qt ?_);replace hs:=hs.bfront 1 rfl rfl;exact leaveL hs (resT hs rfl rfl) hMM.1 hMM.2 [⟨b1,206,[(iv (l2+1))]⟩] [] (.cons_cons _ (.cons _ List.Sublist.slnil)) (List.Sublist.refl _) rfl ⟨l2+1,rfl,rfl,hS⟩
   ·refine qk (qs (qr (sP (pt b7 6) hs λ_ hs=>?_)));refine sB1 (.slice e3.Kids_a e3.Kids_l e3.Kids_c) 0 hs λ_ hs=>?_;refine sP2 (iv (e3.Kids_l:Int)) (iv 0) hs λ_ hs=>?_;refine wn (qb ?_);obtain⟨I30,mu31,hI0,hst⟩:=hS;refine Wp.loop (σ:=(Int)×(Int)×(Mem)) (λ(x27,c28,M29) a w=>MX M29 M E/\Sx 46 E (blk [⟨b1,206,[(iv l2)]⟩] []) M29 w a [(0,(pt b1 0)),(2,(iv deep4)),(31,(.slice e3.Kids_a e3.Kids_l e3.Kids_c)),(32,(iv (e3.Kids_l:Int))),(33,(iv x27))] [⟨b7,117,e3.cells⟩,⟨b1,206,[(iv c28)]⟩] []/\I30 x27 c28 M29) (λ(x27,c28,M29)=>mu31 x27 c28) (0,l2+1,M) ⟨hMM,hs.q,hI0⟩ (λs a w hI=>?_);obtain⟨x27,c28,M29⟩:=s;obtain⟨hMM,hs,hI⟩:=hI;have hS:=hst x27 c28 M29 hI;clear hst hI0 hI;refine qr (sP (.bool (decide (x27<(e3.Kids_l:Int)))) hs λ_ hs=>?_);refine wn (qs (Wp.cS hs decide_eq_true_iff hS (λhS=>?_) (λhS=>?_)))
    ·refine qk (qs (qb (qr ?_)));obtain⟨b32,o33,ha,h0,hl,hS⟩:=hS;refine sI 117 7 ha h0 hl hs λ_ hs=>?_;obtain⟨x34,hat,hS⟩:=hS;refine sY x34.val hs (Yl.lV x34.cells true hat) λ_ hs=>?_;refine stepAlloc [(iv 0),(.int .u64 0),(.int .u64 0),(.int .u64 0),(.int .u64 0),(.string (mkS [])),(.slice none 0 0)] hs (by kernel_rfl) (by decide) (λ_ _ b35 hEb35 hs=>?_);have hs:=hs.nilrow 117 7;refine stB 0 x34.cells [⟨b35,117,x34.cells⟩,⟨b7,117,e3.cells⟩,⟨b1,206,[(iv c28)]⟩] hs λ_ _ hs=>?_;refine wn (qr (sP (pt b1 0) hs λ_ hs=>?_));refine sY x34.val hs (Yl.lB x34.cells true 0) λ_ hs=>?_;refine sP (iv deep4) hs λ_ hs=>?_;obtain⟨hI,hS⟩:=hS;refine sY (iv (deep4+1)) hs (Yl.wr hI) λ_ hs=>?_;replace hs:=hs.bfront 2 rfl rfl;refine stepCallL [(pt b1 0),x34.val,(iv (deep4+1))] [⟨b1,206,[(iv c28)]⟩] [⟨b35,117,x34.cells⟩,⟨b7,117,e3.cells⟩] [] [⟨(Value.slice none 0 0),117,7,0,[],true⟩] true hs rfl rfl rfl rfl ⟨_,rfl,rfl⟩ rfl Try.func134 rfl (by kernel_rfl) (by decide) (hS _) (λ_ _ M37 v lb lr hle hnew hS hs=>?_);have hMM:=hMM.next hle hnew;obtain⟨c38,hlb,hlr,hS⟩:=hS;subst hlb hlr;obtain⟨x36,rfl,hS⟩:=hS;replace hs:=hs.chbx (bs':=[⟨b1,206,[(iv c38)]⟩,⟨b35,117,x34.cells⟩,⟨b7,117,e3.cells⟩]) rfl
     replace hs:=hs.chrs (rs':=[⟨(Value.slice none 0 0),117,7,0,[],true⟩]) rfl;replace hs:=hs.bback 2 (l':=[⟨b35,117,x34.cells⟩,⟨b7,117,e3.cells⟩,⟨b1,206,[(iv c38)]⟩]) rfl;refine sP (iv x36) hs λ_ hs=>?_;refine wn (qr (sP2 (iv x36) (.bool ((x36:Int) != (0:Int))) hs λ_ hs=>?_));refine wn (Wp.cS hs bne_iff_ne hS (λhS=>?_) (λhS=>?_))
     ·refine qr (sP2 (iv x36) (iv x36) hs λ_ hs=>?_);refine wn (qt ?_);replace hs:=hs.bfront 2 rfl rfl;exact leaveL hs (resT hs rfl rfl) hMM.1 hMM.2 [⟨b1,206,[(iv c38)]⟩] [] (.cons_cons _ (.cons _ (.cons _ List.Sublist.slnil))) (.cons _ List.Sublist.slnil) rfl ⟨c38,rfl,rfl,hS⟩
     ·refine qk (qg ?_);obtain⟨hI,hS⟩:=hS;refine sY (iv (x27+1)) hs (Yl.wr hI) λ_ hs=>?_;refine sP (iv (x27+1)) hs λ_ hs=>?_;exact wn (⟨(x27+1,c38,M37),⟨hMM,(hs.qq (.cons _ (.cons_cons _ (.cons_cons _ List.Sublist.slnil))) (.cons _ List.Sublist.slnil)),hS.1⟩,hS.2⟩)
    ·refine qx rfl (qr (sP (iv 0) hs λ_ hs=>?_));refine wn (qt ?_);replace hs:=hs.bfront 1 rfl rfl;exact leaveL hs (resT hs rfl rfl) hMM.1 hMM.2 [⟨b1,206,[(iv c28)]⟩] [] (.cons_cons _ (.cons _ List.Sublist.slnil)) (List.Sublist.refl _) rfl ⟨c28,rfl,rfl,hS⟩
def S_expr_Size (e1:X_api_Expr) (M:Mem) (K:Value->Prop):Prop:=
 (C_expr_looker_look e1 1 0 M (λv c6 M5=>∃(x4:Int),v=(Value.int .i64 x4)/\(((x4:Int)≠0->K (Value.tuple #[(.int .i64 0),(.int .i64 x4)]))/\(¬((x4:Int)≠0)->K (Value.tuple #[(.int .i64 c6),(.int .i64 0)])))))
set_option maxRecDepth 100000 in
theorem s_expr_Size (e1:X_api_Expr) (M:Mem) (K:Value->Prop) (hS:S_expr_Size e1 M K):CallE Try.prog 119 #[e1.val] M (λv _=>K v):=by
 refine eE1 Try.func119 13 λE a hMM hs=>?_;unfold S_expr_Size at hS;refine qr (stepBox e1.cells hs rfl rfl rfl (by decide) (λ_ _ b2 hEb2 hs=>?_));refine sP2 (iv 0) (iv 0) hs λ_ hs=>?_;refine wn (qr (stepAlloc [(iv 0)] hs (by kernel_rfl) (by decide) (λ_ _ b3 hEb3 hs=>?_)));refine wn (qs (qr (sY e1.val hs (Yl.lB e1.cells true 1) λ_ hs=>?_)));refine stepCallL [(pt b3 0),e1.val,(iv 1)] [⟨b3,206,[(iv 0)]⟩] [⟨b2,117,e1.cells⟩] [] [] true hs rfl rfl rfl rfl ⟨_,rfl,rfl⟩ rfl Try.func134 rfl (by kernel_rfl) (by decide) (hS _) (λ_ _ M5 v lb lr hle hnew hS hs=>?_);have hMM:=hMM.next hle hnew;obtain⟨c6,hlb,hlr,hS⟩:=hS;subst hlb hlr;obtain⟨x4,rfl,hS⟩:=hS;replace hs:=hs.chbx (bs':=[⟨b3,206,[(iv c6)]⟩,⟨b2,117,e1.cells⟩]) rfl;replace hs:=hs.chrs (rs':=[]) rfl;refine sP (iv x4) hs λ_ hs=>?_;refine wn (qr (sP2 (iv x4) (.bool ((x4:Int) != (0:Int))) hs λ_ hs=>?_));refine wn (Wp.cS hs bne_iff_ne hS (λhS=>?_) (λhS=>?_))
 ·refine qr (sP3 (iv x4) (iv 0) (iv x4) hs λ_ hs=>?_);exact wn (qt (rTT hs hMM hS))
 ·refine qk (qr (sP (pt b3 0) hs λ_ hs=>?_));refine sB1 (iv c6) 0 hs λ_ hs=>?_;refine sP2 (iv c6) (iv 0) hs λ_ hs=>?_;exact wn (qt (rTT hs hMM hS))
def S_expr_Check (e1:X_api_Expr) (M:Mem) (K:Value->Prop):Prop:=
 (C_expr_looker_look e1 1 0 M (λv c6 M5=>∃(x4:Int),v=(Value.int .i64 x4)/\K (Value.int .i64 x4)))
set_option maxRecDepth 100000 in
theorem s_expr_Check (e1:X_api_Expr) (M:Mem) (K:Value->Prop) (hS:S_expr_Check e1 M K):CallE Try.prog 135 #[e1.val] M (λv _=>K v):=by
 refine eE1 Try.func135 6 λE a hMM hs=>?_;unfold S_expr_Check at hS;refine qr (stepBox e1.cells hs rfl rfl rfl (by decide) (λ_ _ b2 hEb2 hs=>?_));refine sP (iv 0) hs λ_ hs=>?_;refine wn (qr (stepAlloc [(iv 0)] hs (by kernel_rfl) (by decide) (λ_ _ b3 hEb3 hs=>?_)));refine wn (qr (sY e1.val hs (Yl.lB e1.cells true 1) λ_ hs=>?_));refine stepCallL [(pt b3 0),e1.val,(iv 1)] [⟨b3,206,[(iv 0)]⟩] [⟨b2,117,e1.cells⟩] [] [] true hs rfl rfl rfl rfl ⟨_,rfl,rfl⟩ rfl Try.func134 rfl (by kernel_rfl) (by decide) (hS _) (λ_ _ M5 v lb lr hle hnew hS hs=>?_);have hMM:=hMM.next hle hnew;obtain⟨c6,hlb,hlr,hS⟩:=hS;subst hlb hlr;obtain⟨x4,rfl,hS⟩:=hS;replace hs:=hs.chbx (bs':=[⟨b3,206,[(iv c6)]⟩,⟨b2,117,e1.cells⟩]) rfl;replace hs:=hs.chrs (rs':=[]) rfl;refine sP (iv x4) hs λ_ hs=>?_;exact wn (qt (rT hs hMM hS))
/- not served: expr.Refs: live rangeFunc -/
def S_gram_Check (ga1:Option Addr) (gl2:Nat) (gc3:Nat) (M:Mem) (K:Value->Prop):Prop:=
 ((((gl2:Nat):Int)=0->K (Value.int .i64 1))/\(¬(((gl2:Nat):Int)=0)->((((gl2:Nat):Int)>10->K (Value.int .i64 2))/\(¬(((gl2:Nat):Int)>10)->(∃(I17:Int->Int->Prop) (mu18:Int->Int->Nat),I17 0 0/\∀(all15:Int) (x16:Int),(I17 all15 x16->((x16<((gl2:Nat):Int)->(∃(b19 o20:Nat),ga1=some ⟨b19,o20,none⟩/\(0:Int)<=x16/\x16<((gl2:Nat):Int)/\(∃(x21:X_api_Rule),At M b19 (o20+x16.toNat*8) x21.cells/\(CallE Try.prog 117 #[(.string (mkS x21.Name))] M (λv _=>∃(x23:Bool),v=(Value.bool x23)/\((¬(x23=true)->K (Value.int .i64 6))/\(¬(¬(x23=true))->(CallE Try.prog 118 #[(.agg #[(.slice ga1 gl2 gc3)]),(.string (mkS x21.Name))] M (λv _=>∃(x24:Int),v=(Value.int .i64 x24)/\(((x24:Int)≠x16->K (Value.int .i64 7))/\(¬((x24:Int)≠x16)->(CallE Try.prog 119 #[x21.Body.val] M (λv _=>∃(x25:Int) (x26:Int),v=(Value.tuple #[(.int .i64 x25),(.int .i64 x26)])/\(((x26:Int)≠0->K (Value.int .i64 x26))/\(¬((x26:Int)≠0)->(InI (all15+x25)/\(InI (x16+1)/\I17 (all15+x25) (x16+1)/\mu18 (all15+x25) (x16+1)<mu18 all15 x16)))))))))))))))))/\(¬(x16<((gl2:Nat):Int))->((all15>120->K (Value.int .i64 2))/\(¬(all15>120)->(∃(I74:Int->Mem->Prop) (mu75:Int->Nat),I74 0 M/\∀(x72:Int) (M73:Mem),(I74 x72 M73->((x72<((gl2:Nat):Int)->(∃(b76 o77:Nat),ga1=some ⟨b76,o77,none⟩/\(0:Int)<=x72/\x72<((gl2:Nat):Int)/\(∃(x78:X_api_Rule),At M73 b76 (o77+x72.toNat*8) x78.cells/\(CallE Try.prog 120 #[x78.Body.val] M73 (λv M84=>∃(xa80:Option Addr) (xl81:Nat) (xc82:Nat) (x83:Int),v=(Value.tuple #[(.slice xa80 xl81 xc82),(.int .i64 x83)])/\(∃(I91:Int->Prop) (mu92:Int->Nat),I91 0/\∀(x90:Int),(I91 x90->((x90<((xl81:Nat):Int)->(∃(b93 o94:Nat),xa80=some ⟨b93,o94,none⟩/\(0:Int)<=x90/\x90<((xl81:Nat):Int)/\(∃(x95:List UInt8),At M84 b93 (o94+x90.toNat*1) [(.string (mkS x95))]/\(CallE Try.prog 118 #[(.agg #[(.slice ga1 gl2 gc3)]),(.string (mkS x95))] M84 (λv _=>∃(x96:Int),v=(Value.int .i64 x96)/\((x96<0->K (Value.int .i64 6))/\(¬(x96<0)->(InI (x90+1)/\I91 (x90+1)/\mu92 (x90+1)<mu92 x90))))))))/\(¬(x90<((xl81:Nat):Int))->(InI (x72+1)/\I74 (x72+1) M84/\mu75 (x72+1)<mu75 x72))))))))))/\(¬(x72<((gl2:Nat):Int))->K (Value.int .i64 0)))))))))))))))
set_option maxRecDepth 100000 in
theorem s_gram_Check (ga1:Option Addr) (gl2:Nat) (gc3:Nat) (M:Mem) (K:Value->Prop) (hS:S_gram_Check ga1 gl2 gc3 M K):CallE Try.prog 89 #[(Value.agg #[(Value.slice ga1 gl2 gc3)])] M (λv _=>K v):=by
 refine eE1 Try.func89 80 λE a hMM hs=>?_;unfold S_gram_Check at hS;refine qr (stepBox [(.slice ga1 gl2 gc3)] hs rfl rfl rfl (by decide) (λ_ _ b4 hEb4 hs=>?_));refine sP (iv 0) hs λ_ hs=>?_;refine wn (qs (qr (sP (pt b4 0) hs λ_ hs=>?_)));refine sB1 (.slice ga1 gl2 gc3) 0 hs λ_ hs=>?_;refine sP2 (iv (gl2:Int)) (.bool ((gl2:Int)==(0:Int))) hs λ_ hs=>?_;refine wn (Wp.cS hs beq_iff_eq hS (λhS=>?_) (λhS=>?_))
 ·refine qr (sP (iv 1) hs λ_ hs=>?_);exact wn (qt (rT hs hMM hS))
 ·refine qk (qs (qr (sP (pt b4 0) hs λ_ hs=>?_)));refine sB1 (.slice ga1 gl2 gc3) 0 hs λ_ hs=>?_;refine sP2 (iv (gl2:Int)) (.bool (decide ((gl2:Int)>10))) hs λ_ hs=>?_;refine wn (Wp.cS hs decide_eq_true_iff hS (λhS=>?_) (λhS=>?_))
  ·refine qr (sP (iv 2) hs λ_ hs=>?_);exact wn (qt (rT hs hMM hS))
  ·refine qk (qr (sP (iv 0) hs λ_ hs=>?_));refine wn (qs (qr (sP (pt b4 0) hs λ_ hs=>?_)));refine sB1 (.slice ga1 gl2 gc3) 0 hs λ_ hs=>?_;refine sP2 (iv (gl2:Int)) (iv 0) hs λ_ hs=>?_;refine wn (qb ?_);obtain⟨I17,mu18,hI0,hst⟩:=hS;refine Wp.loop (σ:=(Int)×(Int)) (λ(all15,x16) a w=>Sx 80 E [] M w a [(1,(pt b4 0)),(3,(iv all15)),(23,(.slice ga1 gl2 gc3)),(24,(iv (gl2:Int))),(25,(iv x16))] [⟨b4,38,[(.slice ga1 gl2 gc3)]⟩] []/\I17 all15 x16) (λ(all15,x16)=>mu18 all15 x16) (0,0) ⟨hs.q,hI0⟩ (λs a w hI=>?_);obtain⟨all15,x16⟩:=s;obtain⟨hs,hI⟩:=hI;have hS:=hst all15 x16 hI;clear hst hI0 hI;refine qr (sP (.bool (decide (x16<(gl2:Int)))) hs λ_ hs=>?_);refine wn (qs (Wp.cS hs decide_eq_true_iff hS (λhS=>?_) (λhS=>?_)))
   ·refine qk (qs (qb (qr (sP (iv x16) hs λ_ hs=>?_))));obtain⟨b19,o20,ha,h0,hl,hS⟩:=hS;refine sI 119 8 ha h0 hl hs λ_ hs=>?_;obtain⟨x21,hat,hS⟩:=hS;refine sY x21.val hs (Yl.lV x21.cells true hat) λ_ hs=>?_;refine stepAlloc [(.string (mkS [])),(iv 0),(.int .u64 0),(.int .u64 0),(.int .u64 0),(.int .u64 0),(.string (mkS [])),(.slice none 0 0)] hs (by kernel_rfl) (by decide) (λ_ _ b22 hEb22 hs=>?_);refine sP (iv x16) hs λ_ hs=>?_;refine stB 0 x21.cells [⟨b22,119,x21.cells⟩,⟨b4,38,[(.slice ga1 gl2 gc3)]⟩] hs λ_ _ hs=>?_;refine wn (qs (qr (sP (pt b22 0) hs λ_ hs=>?_)));refine sB1 (.string (mkS x21.Name)) 0 hs λ_ hs=>?_;refine cP [(.string (mkS x21.Name))] hs Try.func117 hS λ_ _ v hS hs=>?_;obtain⟨x23,rfl,hS⟩:=hS;refine sP (.bool (!x23)) hs λ_ hs=>?_;refine wn (Wp.cS hs (bnot_iff Iff.rfl) hS (λhS=>?_) (λhS=>?_))
    ·refine qr (sP (iv 6) hs λ_ hs=>?_);exact wn (qt (rT hs hMM hS))
    ·refine qk (qs (qr (sB [(.slice ga1 gl2 gc3)] true 1 hs λ_ hs=>?_)));refine sP (pt b22 0) hs λ_ hs=>?_;refine sB1 (.string (mkS x21.Name)) 0 hs λ_ hs=>?_;refine cP [(.agg #[(.slice ga1 gl2 gc3)]),(.string (mkS x21.Name))] hs Try.func118 hS λ_ _ v hS hs=>?_;obtain⟨x24,rfl,hS⟩:=hS;refine sP2 (iv x16) (.bool ((x24:Int) != (x16:Int))) hs λ_ hs=>?_;refine wn (Wp.cS hs bne_iff_ne hS (λhS=>?_) (λhS=>?_))
     ·refine qr (sP (iv 7) hs λ_ hs=>?_);exact wn (qt (rT hs hMM hS))
     ·refine qk (qr (sP (pt b22 1) hs λ_ hs=>?_));refine sY x21.Body.val hs (Yl.lB x21.Body.cells true 0) λ_ hs=>?_;refine cP [x21.Body.val] hs Try.func119 hS λ_ _ v hS hs=>?_;obtain⟨x25,x26,rfl,hS⟩:=hS;refine sP4 (Value.tuple #[(iv x25),(iv x26)]) (iv x25) (iv x26) (iv x25) hs λ_ hs=>?_;refine sP (iv x26) hs λ_ hs=>?_;refine wn (qs (qr (sP2 (iv x26) (.bool ((x26:Int) != (0:Int))) hs λ_ hs=>?_)));refine wn (Wp.cS hs bne_iff_ne hS (λhS=>?_) (λhS=>?_))
      ·refine qr (sP2 (iv x26) (iv x26) hs λ_ hs=>?_);exact wn (qt (rT hs hMM hS))
      ·refine qk (qg (sP2 (iv all15) (iv x25) hs λ_ hs=>?_));obtain⟨hI,hS⟩:=hS;refine sY (iv (all15+x25)) hs (Yl.wr hI) λ_ hs=>?_;refine sP (iv (all15+x25)) hs λ_ hs=>?_;refine wn (qg ?_);obtain⟨hI,hS⟩:=hS;refine sY (iv (x16+1)) hs (Yl.wr hI) λ_ hs=>?_;refine sP (iv (x16+1)) hs λ_ hs=>?_;exact wn (⟨(all15+x25,x16+1),⟨(hs.qq (.cons _ (.cons_cons _ List.Sublist.slnil)) (List.Sublist.refl _)),hS.1⟩,hS.2⟩)
   ·refine qx rfl (qs (qr (sP (iv all15) hs λ_ hs=>?_)));refine sP (.bool (decide (all15>120))) hs λ_ hs=>?_;refine wn (Wp.cS hs decide_eq_true_iff hS (λhS=>?_) (λhS=>?_))
    ·refine qr (sP (iv 2) hs λ_ hs=>?_);exact wn (qt (rT hs hMM hS))
    ·refine qk (qs (qr (sP (pt b4 0) hs λ_ hs=>?_)));refine sB1 (.slice ga1 gl2 gc3) 0 hs λ_ hs=>?_;refine sP2 (iv (gl2:Int)) (iv 0) hs λ_ hs=>?_;refine wn (qb ?_);obtain⟨I74,mu75,hI0,hst⟩:=hS;refine Wp.loop (σ:=(Int)×(Mem)) (λ(x72,M73) a w=>MX M73 M E/\Sx 80 E [] M73 w a [(1,(pt b4 0)),(56,(.slice ga1 gl2 gc3)),(57,(iv (gl2:Int))),(58,(iv x72))] [⟨b4,38,[(.slice ga1 gl2 gc3)]⟩] []/\I74 x72 M73) (λ(x72,M73)=>mu75 x72) (0,M) ⟨hMM,hs.q,hI0⟩ (λs a w hI=>?_);obtain⟨x72,M73⟩:=s;obtain⟨hMM,hs,hI⟩:=hI;have hS:=hst x72 M73 hI;clear hst hI0 hI;refine qr (sP (.bool (decide (x72<(gl2:Int)))) hs λ_ hs=>?_);refine wn (qs (Wp.cS hs decide_eq_true_iff hS (λhS=>?_) (λhS=>?_)))
     ·refine qk (qs (qb (qr ?_)));obtain⟨b76,o77,ha,h0,hl,hS⟩:=hS;refine sI 119 8 ha h0 hl hs λ_ hs=>?_;obtain⟨x78,hat,hS⟩:=hS;refine sY x78.val hs (Yl.lV x78.cells true hat) λ_ hs=>?_;refine stepAlloc [(.string (mkS [])),(iv 0),(.int .u64 0),(.int .u64 0),(.int .u64 0),(.int .u64 0),(.string (mkS [])),(.slice none 0 0)] hs (by kernel_rfl) (by decide) (λ_ _ b79 hEb79 hs=>?_);refine stB 0 x78.cells [⟨b79,119,x78.cells⟩,⟨b4,38,[(.slice ga1 gl2 gc3)]⟩] hs λ_ _ hs=>?_;refine wn (qr (sP (pt b79 1) hs λ_ hs=>?_));refine sY x78.Body.val hs (Yl.lB x78.Body.cells true 0) λ_ hs=>?_;refine cM [x78.Body.val] hs hMM Try.func120 hS λ_ _ M84 v hMM hle hS hs=>?_;obtain⟨xa80,xl81,xc82,x83,rfl,hS⟩:=hS;refine sP4 (Value.tuple #[(.slice xa80 xl81 xc82),(iv x83)]) (.slice xa80 xl81 xc82) (iv x83) (.slice xa80 xl81 xc82) hs λ_ hs=>?_;refine sP (iv x83) hs λ_ hs=>?_;refine wn (qr (sP3 (.slice xa80 xl81 xc82) (iv (xl81:Int)) (iv 0) hs λ_ hs=>?_));refine wn (qb ?_);obtain⟨I91,mu92,hI0,hst⟩:=hS
      refine Wp.loop (σ:=(Int)) (λx90 a w=>Sx 80 E [] M84 w a [(1,(pt b4 0)),(56,(.slice ga1 gl2 gc3)),(57,(iv (gl2:Int))),(58,(iv x72)),(68,(.slice xa80 xl81 xc82)),(69,(iv (xl81:Int))),(70,(iv x90))] [⟨b79,119,x78.cells⟩,⟨b4,38,[(.slice ga1 gl2 gc3)]⟩] []/\I91 x90) (λx90=>mu92 x90) (0) ⟨hs.q,hI0⟩ (λx90 a w hI=>?_);obtain⟨hs,hI⟩:=hI;have hS:=hst x90 hI;clear hst hI0 hI;refine qr (sP (.bool (decide (x90<(xl81:Int)))) hs λ_ hs=>?_);refine wn (qs (Wp.cS hs decide_eq_true_iff hS (λhS=>?_) (λhS=>?_)))
      ·refine qk (qs (qb (qr ?_)));obtain⟨b93,o94,ha,h0,hl,hS⟩:=hS;refine sI 9 1 ha h0 hl hs λ_ hs=>?_;obtain⟨x95,hat,hS⟩:=hS;refine sV1 (.string (mkS x95)) hat hs λ_ hs=>?_;refine sP (.string (mkS x95)) hs λ_ hs=>?_;refine wn (qr (sB [(.slice ga1 gl2 gc3)] true 1 hs λ_ hs=>?_));refine sP (.string (mkS x95)) hs λ_ hs=>?_;refine cP [(.agg #[(.slice ga1 gl2 gc3)]),(.string (mkS x95))] hs Try.func118 hS λ_ _ v hS hs=>?_;obtain⟨x96,rfl,hS⟩:=hS;refine sP (.bool (decide (x96<0))) hs λ_ hs=>?_;refine wn (Wp.cS hs decide_eq_true_iff hS (λhS=>?_) (λhS=>?_))
       ·refine qr (sP (iv 6) hs λ_ hs=>?_);exact wn (qt (rT hs hMM hS))
       ·refine qk (qg ?_);obtain⟨hI,hS⟩:=hS;refine sY (iv (x90+1)) hs (Yl.wr hI) λ_ hs=>?_;refine sP (iv (x90+1)) hs λ_ hs=>?_;exact wn (⟨(x90+1),⟨hs.q,hS.1⟩,hS.2⟩)
      ·refine qx rfl (qg ?_);obtain⟨hI,hS⟩:=hS;refine sY (iv (x72+1)) hs (Yl.wr hI) λ_ hs=>?_;refine sP (iv (x72+1)) hs λ_ hs=>?_;exact wn (⟨(x72+1,M84),⟨hMM,(hs.qq (.cons _ (.cons_cons _ List.Sublist.slnil)) (List.Sublist.refl _)),hS.1⟩,hS.2⟩)
     ·refine qx rfl (qr (sP (iv 0) hs λ_ hs=>?_));exact wn (qt (rT hs hMM hS))
def S_slices_Index_string (sa1:Option Addr) (sl2:Nat) (sc3:Nat) (v4:List UInt8) (M:Mem) (K:Value->Prop):Prop:=
 (∃(I10:Int->Prop) (mu11:Int->Nat),I10 0/\∀(x9:Int),(I10 x9->((x9<((sl2:Nat):Int)->(∃(b12 o13:Nat),sa1=some ⟨b12,o13,none⟩/\(0:Int)<=x9/\x9<((sl2:Nat):Int)/\(∃(x14:List UInt8),At M b12 (o13+x9.toNat*1) [(.string (mkS x14))]/\((v4=x14->K (Value.int .i64 x9))/\(¬(v4=x14)->(InI (x9+1)/\I10 (x9+1)/\mu11 (x9+1)<mu11 x9))))))/\(¬(x9<((sl2:Nat):Int))->K (Value.int .i64 (-1))))))
set_option maxRecDepth 100000 in
theorem s_slices_Index_string (sa1:Option Addr) (sl2:Nat) (sc3:Nat) (v4:List UInt8) (M:Mem) (K:Value->Prop) (hS:S_slices_Index_string sa1 sl2 sc3 v4 M K):CallE Try.prog 52 #[(Value.slice sa1 sl2 sc3),(Value.string (mkS v4))] M (λv _=>K v):=by
 refine eE2 Try.func52 19 λE a hMM hs=>?_;unfold S_slices_Index_string at hS;refine qr (sP (iv 0) hs λ_ hs=>?_);refine wn (qs (qr (sP3 (.slice sa1 sl2 sc3) (iv (sl2:Int)) (iv 0) hs λ_ hs=>?_)));refine wn (qb ?_);obtain⟨I10,mu11,hI0,hst⟩:=hS;refine Wp.loop (σ:=(Int)) (λx9 a w=>Sx 19 E [] M w a [(0,(.slice sa1 sl2 sc3)),(1,(.string (mkS v4))),(7,(iv (sl2:Int))),(8,(iv x9))] [] []/\I10 x9) (λx9=>mu11 x9) (0) ⟨hs.q,hI0⟩ (λx9 a w hI=>?_);obtain⟨hs,hI⟩:=hI;have hS:=hst x9 hI;clear hst hI0 hI;refine qr (sP (.bool (decide (x9<(sl2:Int)))) hs λ_ hs=>?_);refine wn (qs (Wp.cS hs decide_eq_true_iff hS (λhS=>?_) (λhS=>?_)))
 ·refine qk (qs (qb (qr (sP2 (iv x9) (iv x9) hs λ_ hs=>?_))));refine wn (qr (sP3 (.string (mkS v4)) (.slice sa1 sl2 sc3) (iv x9) hs λ_ hs=>?_));obtain⟨b12,o13,ha,h0,hl,hS⟩:=hS;refine sI 9 1 ha h0 hl hs λ_ hs=>?_;obtain⟨x14,hat,hS⟩:=hS;refine sV1 (.string (mkS x14)) hat hs λ_ hs=>?_;refine sP (.bool ((mkS v4).toList==(mkS x14).toList)) hs λ_ hs=>?_;refine wn (Wp.cS hs mkS_beq hS (λhS=>?_) (λhS=>?_))
  ·refine qr (sP2 (iv x9) (iv x9) hs λ_ hs=>?_);exact wn (qt (rT hs hMM hS))
  ·refine qk (qg ?_);obtain⟨hI,hS⟩:=hS;refine sY (iv (x9+1)) hs (Yl.wr hI) λ_ hs=>?_;refine sP (iv (x9+1)) hs λ_ hs=>?_;exact wn (⟨(x9+1),⟨hs.q,hS.1⟩,hS.2⟩)
 ·refine qx rfl (qr (sP (iv (-1)) hs λ_ hs=>?_));exact wn (qt (rT hs hMM hS))
end Go.Proofs.Ytmnilbfhfjdelaa.core

