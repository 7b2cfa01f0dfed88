/- Contracts and what they hang on, of several parts. No condition. -/
import Derived.Test.YtfpmiahbncnecaaM4
import Derived.Test.YtfpmiahbncnecaaCoreX
import Derived.Test.YtfpmiahbncnecaaM2
import Derived.Test.YtfpmiahbncnecaaM1
import Derived.Test.YtfpmiahbncnecaaRReadG
import Derived.Tactics
import Derived.Tactics2
import Derived.Defers
import Derived.Recover
import Derived.Laws.Pointers
import Derived.Test.YtfpmiahbncnecaaM3
namespace Go.Proofs.Ytfpmiahbncnecaa.core
open Go.Gx Go.RowKit Go.ChangeShapes Go.WideShapes Go.ChangeAt
set_option linter.unusedVariables false
def RdM (M:Mem) (b:Nat) (x:X_read_Reader):Prop:=M b=some (.cells x.cells.toArray 80 (0,0))
structure RdTo (b:Nat) (M M':Mem) (x:X_read_Reader):Prop where
 le:∀k o,k≠b->M k=some o->M' k=some o
 me:RdM M' b x
theorem RdM.le {M M':Mem} {b:Nat} {x:X_read_Reader} (h:RdM M b x) (hl:M.le M'):RdM M' b x:=hl _ _ h
theorem RdTo.le' {b:Nat} {M M' M'':Mem} {x:X_read_Reader} (h:RdTo b M M' x) (hl:M'.le M''):RdTo b M M'' x:=⟨λk o hk hm=>hl _ _ (h.le k o hk hm),h.me.le hl⟩
theorem RdTo.then {b:Nat} {M M' M'':Mem} {x y:X_read_Reader} (h:RdTo b M M' x) (k:RdTo b M' M'' y):RdTo b M M'' y:=⟨λi o hi hm=>k.le i o hi (h.le i o hi hm),k.me⟩
theorem RdM.at {M:Mem} {b:Nat} {x:X_read_Reader} (h:RdM M b x) (k:Nat) (vs:List Value) (hv:(x.cells.drop k).take vs.length=vs):At M b k vs:=by
 intro j v hj
 have hl:j<vs.length:=(List.getElem?_eq_some_iff.1 hj).1
 unfold Mem.cell
 rw[h]
 simp only[List.getElem?_toArray]
 rw[<-hv,List.getElem?_take,if_pos hl,List.getElem?_drop]at hj
 exact hj
def nmB (c:UInt8):Bool:=letB c||digB c
theorem rletter_is (c:UInt8) (M:Mem) (K:Value->Prop) (h:K (.bool (nmB c))):S_read_letter (c.toNat:Int) M K:=by
 have hl:=let32 c
 have key:∀b,b=nmB c->K (.bool b):=λb e=>e▸h
 have a2:decide ((c.toNat:Int)<=57)=decide (c.toNat<=57):=by
  by_cases g:c.toNat<=57
  ·rw[decide_eq_true g,decide_eq_true (by omega)]
  ·rw[decide_eq_false g,decide_eq_false (by omega)]
 unfold S_read_letter
 refine⟨λh1=>⟨λh2=>key _ ?_,λh2=>⟨λh3=>key _ ?_,λh3=>key _ ?_⟩⟩,λh1=>⟨λh3=>key _ ?_,λh3=>key _ ?_⟩⟩
 ·rw[decide_eq_true h1,decide_eq_true h2]at hl
  unfold nmB;rw[<-hl];rfl
 ·rw[decide_eq_true h1,decide_eq_false h2]at hl
  unfold nmB digB;rw[<-hl,decide_eq_true (show 48<=c.toNat by omega),a2];simp
 ·rw[decide_eq_true h1,decide_eq_false h2]at hl
  unfold nmB digB;rw[<-hl,decide_eq_false (show ¬48<=c.toNat by omega)];simp
 ·rw[decide_eq_false h1]at hl
  unfold nmB digB;rw[<-hl,decide_eq_true (show 48<=c.toNat by omega),a2];simp
 ·rw[decide_eq_false h1]at hl
  unfold nmB digB;rw[<-hl,decide_eq_false (show ¬48<=c.toNat by omega)];simp
theorem RdM.put {M:Mem} {b:Nat} {x:X_read_Reader} (h:RdM M b x) (k:Nat) (vs:List Value) (y:X_read_Reader) (hy:putAt x.cells k vs=y.cells):RdTo b M (M.put b k vs) y:=by
 refine⟨λi o hi hm=>by rw[Mem.put_ne hi];exact hm,?_⟩
 unfold RdM
 rw[Mem.put_eq h,hy]
theorem RdM.has {M:Mem} {b:Nat} {x:X_read_Reader} (h:RdM M b x) (o k:Nat) (hk:o+k<=13):Has M b o k:=⟨_,_,h,hk⟩
def putNode (x:X_read_Reader) (e:X_api_Expr):X_read_Reader:=⟨x.text,x.heads,⟨x.Now.At,x.Now.To,true,e,x.Now.Sign⟩⟩
theorem node_is {M:Mem} {L:Nat->Prop} {b:Nat} {x:X_read_Reader} (h:RdM M b x) (hw:Wr L M b) (e:X_api_Expr) (K:Value->Mem->Prop) (hK:∀M',RdTo b M M' (putNode x e)->K (.tuple #[]) M'):S_read_Reader_node (some ⟨b,0,none⟩) e M L K:=by
 refine⟨b,0,rfl,h.has _ _ (by omega),hw,λM6 hM6=>?_⟩
 have h6:RdTo b M M6 ⟨x.text,x.heads,⟨x.Now.At,x.Now.To,true,x.Now.Expr,x.Now.Sign⟩⟩:=by rw[hM6];exact h.put _ _ _ rfl
 refine⟨b,0,rfl,h6.me.has _ _ (by omega),hw,λM9 hM9=>?_⟩
 have h9:RdTo b M6 M9 (putNode x e):=by rw[hM9];exact h6.me.put _ _ _ rfl
 exact λM' hle=>hK M' ((h6.then h9).le' hle)
end Go.Proofs.Ytfpmiahbncnecaa.core

namespace Go.Proofs.Ytfpmiahbncnecaa.core
open Go.Gx Go.RowKit Go.ChangeShapes Go.WideShapes Go.ChangeAt
set_option linter.unusedVariables false
abbrev hexL:List UInt8:=[48,49,50,51,52,53,54,55,56,57,97,98,99,100,101,102]
def hexV (c:UInt8):Int:=idxB hexL c.toNat
theorem hexV_lt (c:UInt8):hexV c<=15:=by
 unfold hexV
 rcases idxB_cases hexL c with⟨h,_⟩|⟨i,h,hi,_⟩
 ·rw[h];omega
 ·have:=(List.getElem?_eq_some_iff.1 hi).1
  simp at this
  rw[h];omega
theorem hexV_ge (c:UInt8): -1<=hexV c:=by
 unfold hexV
 rcases idxB_cases hexL c with⟨h,_⟩|⟨i,h,hi,_⟩<;>rw[h]<;>omega
theorem hex_add:∀a:Nat,a<16->∀b:Nat,b<16->IntKind.wrap .u8 (bOr .i64 (bShl .i64 (a:Int) 4) (b:Int))=((16*a+b:Nat):Int):=by decide+kernel
def saidP (signs:List UInt8) (s:List UInt8):Int×Int:=
 match s with
 |[]=>(0,0)
 |c::r=>if c.toNat=10 then(0,0) else if c.toNat≠92 then(c.toNat,1) else match r with
  |[]=>(0,0)
  |d::t=>if d.toNat=110 then(10,2) else if d.toNat=116 then(9,2) else if d∈signs then(d.toNat,2) else if d.toNat=120 then(match t with
   |a::b::_=>if hexV a>=0/\hexV b>=0 then(16*hexV a+hexV b,4) else(0,0)
   |_=>(0,0)) else(0,0)
theorem saidP_cons (signs:List UInt8) (c:UInt8) (r:List UInt8):saidP signs (c::r)=if c.toNat=10 then((0,0):Int×Int) else if c.toNat≠92 then((c.toNat:Int),1) else match r with
  |[]=>(0,0)
  |d::t=>if d.toNat=110 then(10,2) else if d.toNat=116 then(9,2) else if d∈signs then(d.toNat,2) else if d.toNat=120 then(match t with
   |a::b::_=>if hexV a>=0/\hexV b>=0 then(16*hexV a+hexV b,4) else(0,0)
   |_=>(0,0)) else(0,0):=rfl
theorem saidP_two (signs:List UInt8) (c d:UInt8) (t:List UInt8) (h:c.toNat=92):saidP signs (c::d::t)=if d.toNat=110 then((10,2):Int×Int) else if d.toNat=116 then(9,2) else if d∈signs then((d.toNat:Int),2) else if d.toNat=120 then(match t with
   |a::b::_=>if hexV a>=0/\hexV b>=0 then(16*hexV a+hexV b,4) else(0,0)
   |_=>(0,0)) else(0,0):=by
 have:=saidP_cons signs c (d::t)
 rw[if_neg (show ¬c.toNat=10 by omega),if_neg (show ¬c.toNat≠92 by omega)]at this
 exact this
theorem saidP_ok (signs s:List UInt8):0<=(saidP signs s).1/\(saidP signs s).1<256/\0<=(saidP signs s).2/\(saidP signs s).2<=s.length/\(saidP signs s).2<=4:=by
 unfold saidP
 split
 ·simp
 ·rename_i c r
  have hc:=c.toNat_lt
  split
  ·simp;omega
  split
  ·simp only[List.length_cons];omega
  split
  ·simp only[List.length_cons,List.length_nil];omega
  ·rename_i d t
   have hd:=d.toNat_lt
   split
   ·simp only[List.length_cons];omega
   split
   ·simp only[List.length_cons];omega
   split
   ·simp only[List.length_cons];omega
   split
   ·split
    ·rename_i a b _
     have:=hexV_lt a
     have:=hexV_lt b
     split
     ·simp only[List.length_cons];omega
     ·simp only[List.length_cons];omega
    ·simp only[List.length_cons];omega
   ·simp only[List.length_cons];omega
theorem qnext_is (s signs:List UInt8) (hne:s≠[]) (hs:(120:UInt8)∉signs) (M:Mem) (K:Value->Prop) (h:K (.tuple #[.int .u8 (saidP signs s).1,.int .i64 (saidP signs s).2])):S_quote_next s signs M K:=by
 have key:∀p:Int×Int,p=saidP signs s->K (.tuple #[.int .u8 p.1,.int .i64 p.2]):=λp e=>e▸h
 obtain⟨c,r,rfl⟩:=List.exists_cons_of_ne_nil hne
 unfold S_quote_next
 refine⟨c,by omega,rfl,λn92=>⟨c,by omega,rfl,λh10=>key (0,0) ?_,λn10=>⟨c,by omega,rfl,key (c.toNat,1) ?_⟩⟩,λh92=>⟨λhl=>key (0,0) ?_,λhl=>?_⟩⟩
 ·rw[saidP_cons,if_pos (by omega)]
 ·rw[saidP_cons,if_neg (by omega),if_pos (by omega)]
 ·have:r=[]:=by cases r with
   |nil=>rfl
   |cons _ _=>simp only[List.length_cons]at hl;omega
  subst this
  rw[saidP_cons]
  simp only[if_neg (show ¬c.toNat=10 by omega),if_neg (show ¬c.toNat≠92 by omega)]
 obtain⟨d,t,rfl⟩:∃d t,r=d::t:=by
  cases r with
  |nil=>simp only[List.length_cons,List.length_nil]at hl;omega
  |cons d t=>exact⟨d,t,rfl⟩
 have hP:=saidP_two signs c d t (by omega)
 refine⟨d,by omega,rfl,λq=>key (10,2) ?_,λn110=>⟨λq=>key (9,2) ?_,λn116=>?_⟩⟩
 ·rw[hP,if_pos (by omega)]
 ·rw[hP,if_neg (by omega),if_pos (by omega)]
 rw[if_neg (by omega),if_neg (by omega)]at hP
 have hm:=idxB_mem signs d
 refine s_strings_IndexByte _ _ _ _ (indexByte_is signs d _ _ ⟨_,rfl,λhi=>key (d.toNat,2) ?_,λhi=>?_⟩)
 ·rw[decide_eq_true hi]at hm
  rw[hP,if_pos (of_decide_eq_true hm.symm)]
 rw[decide_eq_false hi]at hm
 rw[if_neg (of_decide_eq_false hm.symm)]at hP
 have j1:∀b:Bool,b=decide (d.toNat=120/\2<=t.length)->S_quote_next_J1 (c::d::t) M b K:=by
  intro b hb
  refine⟨λe=>?_,λe=>key (0,0) ?_⟩
  ·obtain⟨h120,h2⟩:d.toNat=120/\2<=t.length:=by rw[e]at hb;exact of_decide_eq_true hb.symm
   obtain⟨x,y,u,rfl⟩:∃x y u,t=x::y::u:=by
    match t,h2 with
    |x::y::u,_=>exact⟨x,y,u,rfl⟩
   rw[if_pos h120]at hP
   simp only at hP
   refine⟨x,by omega,rfl,y,by omega,rfl,s_strings_IndexByte _ _ _ _ (indexByte_is hexL x _ _ ⟨_,rfl,s_strings_IndexByte _ _ _ _ (indexByte_is hexL y _ _ ⟨_,rfl,?_⟩)⟩)⟩
   have hx1:=hexV_lt x
   have hy1:=hexV_lt y
   have j2:∀b:Bool,b=decide (hexV x>=0/\hexV y>=0)->S_quote_next_J2 (hexV x) (hexV y) b K:=by
    intro b hb
    refine⟨λe=>?_,λe=>key (0,0) ?_⟩
    ·have hq:hexV x>=0/\hexV y>=0:=by rw[e]at hb;exact of_decide_eq_true hb.symm
     rw[if_pos hq]at hP
     have:=hex_add (hexV x).toNat (by omega) (hexV y).toNat (by omega)
     rw[show(((hexV x).toNat:Nat):Int)=hexV x by omega,show(((hexV y).toNat:Nat):Int)=hexV y by omega]at this
     rw[this]
     have e2:((16*(hexV x).toNat+(hexV y).toNat:Nat):Int)=16*hexV x+hexV y:=by omega
     rw[e2]
     exact key (16*hexV x+hexV y,4) hP.symm
    ·have hq:¬(hexV x>=0/\hexV y>=0):=λq=>e (by rw[hb];exact decide_eq_true q)
     rw[if_neg hq]at hP;exact hP.symm
   refine⟨λh1=>j2 _ ?_,λh1=>j2 _ ?_⟩
   ·have h1:hexV x>=0:=h1
    have e3:idxB hexL y.toNat=hexV y:=rfl
    rw[e3,Bool.eq_iff_iff];simp;omega
   ·rw[eq_comm,decide_eq_false_iff_not];exact λq=>h1 q.1
  ·have hq:¬(d.toNat=120/\2<=t.length):=λq=>e (by rw[hb];exact decide_eq_true q)
   by_cases h120:d.toNat=120
   ·rw[if_pos h120]at hP
    rcases t with _|⟨x,_|⟨y,u⟩⟩
    ·exact hP.symm
    ·exact hP.symm
    ·exact absurd ⟨h120,by simp⟩ hq
   ·rw[if_neg h120]at hP;exact hP.symm
 refine⟨λq=>j1 _ (by rw[Bool.eq_iff_iff];simp;omega),λq=>j1 _ (by rw[eq_comm,decide_eq_false_iff_not];omega)⟩
theorem value_is (c:UInt8) (M:Mem) (K:Value->Prop) (h:K (.int .i64 (hexV c))):S_chaffref_value (c.toNat:Int) M K:=
 ⟨[c],rfl,s_strings_Index _ _ _ _ (index1_is hexL c _ _ λz _ hz=>⟨_,rfl,by rw[hz];exact h⟩)⟩
theorem wrapB (b:UInt8):IntKind.wrap .u8 (b.toNat:Int)=(b.toNat:Int):=by
 have:=b.toNat_lt
 simp only[IntKind.wrap,IntKind.bits,IntKind.signed,Bool.false_and,Bool.false_eq_true,if_false]
 omega
theorem wrapI (b:UInt8):IntKind.wrap .i64 (b.toNat:Int)=(b.toNat:Int):=wrap_in (by have:=b.toNat_lt;unfold InI;omega)
theorem said_is (s signs:List UInt8) (hs:(120:UInt8)∉signs/\(110:UInt8)∉signs/\(116:UInt8)∉signs) (ha:∀c∈signs,c.toNat<128) (M:Mem) (K:Value->Prop) (h:K (.tuple #[.int .i64 (saidP signs s).1,.int .i64 (saidP signs s).2])):S_chaffref_said s signs M K:=by
 have key:∀p:Int×Int,p=saidP signs s->K (.tuple #[.int .i64 p.1,.int .i64 p.2]):=λp e=>e▸h
 have j1:∀b:Bool,(b=true->saidP signs s=(0,0))->(b=false->∃c r,s=c::r/\c.toNat≠10)->S_chaffref_said_J1 s signs M b K:=by
  intro b h1 h2
  refine⟨λe=>key (0,0) (h1 e).symm,λe=>?_⟩
  obtain⟨c,r,rfl,n10⟩:=h2 (by simpa using e)
  refine⟨c,by omega,rfl,λn92=>⟨c,by omega,rfl,?_⟩,λh92=>⟨λhl=>key (0,0) ?_,λhl=>?_⟩⟩
  ·rw[wrapI]
   refine key (c.toNat,1) ?_
   rw[saidP_cons,if_neg n10,if_pos (by omega)]
  ·have:r=[]:=by cases r with
    |nil=>rfl
    |cons _ _=>simp only[List.length_cons]at hl;omega
   subst this
   rw[saidP_cons]
   simp only[if_neg n10,if_neg (show ¬c.toNat≠92 by omega)]
  obtain⟨d,t,rfl⟩:∃d t,r=d::t:=by
   cases r with
   |nil=>simp only[List.length_cons,List.length_nil]at hl;omega
   |cons d t=>exact⟨d,t,rfl⟩
  have hP:=saidP_two signs c d t (by omega)
  refine⟨d,by omega,rfl,λq=>key (10,2) ?_,λn110=>⟨d,by omega,rfl,λq=>key (9,2) ?_,λn116=>⟨d,by omega,rfl,λq=>?_,λn120=>?_⟩⟩⟩
  ·rw[hP,if_pos (by omega)]
  ·rw[hP,if_neg (by omega),if_pos (by omega)]
  ·have hd:d=120:=UInt8.toNat_inj.1 (by show d.toNat=120;omega)
   have hnm:d∉signs:=by rw[hd];exact hs.1
   rw[if_neg (by omega),if_neg (by omega),if_neg hnm,if_pos (by omega)]at hP
   have j2t:saidP signs (c::d::t)=(0,0)->S_chaffref_said_J2 (c::d::t) M true K:=λe=>⟨λ_=>key (0,0) e.symm,λh=>absurd rfl h⟩
   refine⟨λhl2=>j2t ?_,λhl2=>?_⟩
   ·rcases t with _|⟨x,_|⟨y,u⟩⟩
    ·exact hP
    ·exact hP
    ·simp only[List.length_cons]at hl2;omega
   obtain⟨x,y,u,rfl⟩:∃x y u,t=x::y::u:=by
    rcases t with _|⟨x,_|⟨y,u⟩⟩
    ·simp only[List.length_cons,List.length_nil]at hl2;omega
    ·simp only[List.length_cons,List.length_nil]at hl2;omega
    ·exact⟨x,y,u,rfl⟩
   simp only at hP
   have hx1:=hexV_lt x
   have hy1:=hexV_lt y
   have hx2:=hexV_ge x
   have hy2:=hexV_ge y
   refine⟨x,by omega,rfl,s_chaffref_value _ _ _ (value_is x _ _ ⟨_,rfl,λhx=>j2t ?_,λhx=>⟨y,by omega,rfl,s_chaffref_value _ _ _ (value_is y _ _ ⟨_,rfl,?_⟩)⟩⟩)⟩
   ·rw[hP,if_neg (by omega)]
   ·refine⟨λe=>?_,λe=>⟨x,by omega,rfl,y,by omega,rfl,s_chaffref_value _ _ _ (value_is x _ _ ⟨_,rfl,by unfold InI;omega,s_chaffref_value _ _ _ (value_is y _ _ ⟨_,rfl,by unfold InI;omega,key (16*hexV x+hexV y,4) ?_⟩)⟩)⟩⟩
    ·have:hexV y<0:=of_decide_eq_true e
     refine key (0,0) ?_
     rw[hP,if_neg (by omega)]
    ·have:¬hexV y<0:=λq=>e (decide_eq_true q)
     rw[hP,if_pos (by omega)]
  ·rw[if_neg (by omega),if_neg (by omega),if_neg (show ¬d.toNat=120 by omega)]at hP
   have ecut:(((c::d::t).take (2:Int).toNat).drop (1:Int).toNat)=[d]:=rfl
   rw[ecut]
   refine⟨by omega,by omega,by simp only[List.length_cons];omega,s_strings_Contains _ _ _ _ (contains1_is signs d _ _ ⟨_,rfl,λhi=>⟨d,by omega,rfl,?_⟩,λhi=>?_⟩)⟩
   ·have hm:d∈signs:=of_decide_eq_true hi
    have:=ha d hm
    refine⟨λ_=>⟨d,by omega,rfl,?_⟩,λh=>absurd (decide_eq_true (by omega)) h⟩
    rw[wrapI]
    exact key (d.toNat,2) (by rw[hP,if_pos hm])
   ·have hi:decide (d∈signs)=false:=by simpa using hi
    refine⟨λh=>(by cases h),λ_=>key (0,0) ?_⟩
    rw[hP,if_neg (of_decide_eq_false hi)]
 refine⟨λe=>j1 _ (λ_=>by subst e;rfl) (λh=>by cases h),λhne=>?_⟩
 obtain⟨c,r,rfl⟩:=List.exists_cons_of_ne_nil hne
 refine⟨c,by omega,rfl,j1 _ (λhb=>?_) (λhb=>⟨c,r,rfl,?_⟩)⟩
 ·have:(c.toNat:Int)=10:=by simpa using hb
  rw[saidP_cons,if_pos (by omega)]
 ·have:¬(c.toNat:Int)=10:=by simpa using hb
  omega
end Go.Proofs.Ytfpmiahbncnecaa.core

namespace Go.Proofs.Ytfpmiahbncnecaa.core
open Go.Gx Go.RowKit Go.ChangeShapes Go.WideShapes Go.ChangeAt
set_option linter.unusedVariables false
end Go.Proofs.Ytfpmiahbncnecaa.core

namespace Go.Proofs.Ytfpmiahbncnecaa.core
open Go.Gx Go.RowKit Go.ChangeShapes Go.WideShapes Go.ChangeAt
set_option linter.unusedVariables false
def unlG (q:UInt8) (r:List UInt8) (i:Int) (out:List UInt8):List UInt8×Int×Int:=
 match r with
 |[]=>([],0,4)
 |c::t=>if c=q then(out,i+1,0) else if (saidP [39,34,92] (c::t)).2=0 then([],0,4)
  else unlG q ((c::t).drop ((saidP [39,34,92] (c::t)).2.toNat-1+1)) (i+(saidP [39,34,92] (c::t)).2) (out++[(saidP [39,34,92] (c::t)).1.toNat.toUInt8])
termination_by r.length
decreasing_by simp only[List.length_drop,List.length_cons];omega
def unlitP (s:List UInt8):List UInt8×Int×Int:=
 match s with
 |[]=>([],0,4)
 |q::r=>if q.toNat≠39/\q.toNat≠34 then([],0,4) else unlG q r 1 []
theorem unlitP_cons (q:UInt8) (r:List UInt8):unlitP (q::r)=if q.toNat≠39/\q.toNat≠34 then(([]:List UInt8),(0:Int),(4:Int)) else unlG q r 1 []:=rfl
theorem said_perm (s:List UInt8):saidP [92,39,34] s=saidP [39,34,92] s:=by
 unfold saidP
 have:∀d:UInt8,(d∈[92,39,34])=(d∈[39,34,92]):=λd=>by simp only[List.mem_cons,List.not_mem_nil,or_false];exact propext ⟨λh=>by rcases h with h|h|h<;>simp[h],λh=>by rcases h with h|h|h<;>simp[h]⟩
 split
 ·rfl
 ·split
  ·rfl
  ·split
   ·rfl
   ·split
    ·rfl
    ·simp only[this]
def outT (r:List UInt8×Int×Int):Value:=.tuple #[.string (mkS r.1),.int .i64 r.2.1,.int .i64 r.2.2]
theorem take_allL (s:List UInt8):s.take ((s.length:Nat):Int).toNat=s:=by rw[Int.toNat_natCast,List.take_length]
theorem qunlit_is (s:List UInt8) (hl:s.length<=140737488355328) (M:Mem) (K:Value->Prop) (h:K (outT (unlitP s))):S_quote_Unlit s M K:=by
 have j1:∀b:Bool,(b=true->unlitP s=([],0,4))->(b=false->∃q r,s=q::r/\¬(q.toNat≠39/\q.toNat≠34))->S_quote_Unlit_J1 s M b K:=by
  intro b h1 h2
  refine⟨λe=>by rw[h1 e]at h;exact h,λe=>?_⟩
  obtain⟨q,r,rfl,hq⟩:=h2 (by simpa using e)
  have hU:unlitP (q::r)=unlG q r 1 []:=by rw[unlitP_cons,if_neg hq]
  rw[hU]at h
  have hl0:(q::r).length=r.length+1:=rfl
  refine⟨λi n rx=>∃out:List UInt8,1<=i/\i<=(q::r).length/\n=out.length/\rx=bytesV out/\(out.length:Int)<=i/\unlG q ((q::r).drop i.toNat) i out=unlG q r 1 [],λi _ _=>(q::r).length-i.toNat,⟨[],by omega,by omega,rfl,rfl,by simp,rfl⟩,?_⟩
  rintro i n rx ⟨out,h0,hi,rfl,rfl,hol,hrun⟩
  refine⟨λhlt=>?_,λhge=>?_⟩
  ·obtain⟨c,hc⟩:=getI (l:=q::r) (by omega) hlt
   rw[drop_get hc,unlG]at hrun
   refine⟨c,by omega,hc,q,by omega,rfl,λe=>⟨out,rfl,by unfold InI;omega,?_⟩,λhne=>⟨by omega,by omega,by omega,?_⟩⟩
   ·rw[if_pos (UInt8.toNat_inj.1 (by omega))]at hrun
    rw[<-hrun]at h;exact h
   ·have hne':¬c=q:=λe=>hne (by rw[e])
    rw[if_neg hne']at hrun
    rw[take_allL]
    have hdr:=drop_get hc
    have hok:=saidP_ok [39,34,92] ((q::r).drop i.toNat)
    rw[List.length_drop]at hok
    rw[<-hdr]at hrun
    refine s_quote_next _ _ _ _ (qnext_is _ [39,34,92] (by rw[hdr];simp) (by decide) _ _ ⟨_,_,rfl,λhz=>?_,λhz=>⟨by omega,by unfold InI;omega,⟨out++[(saidP [39,34,92] ((q::r).drop i.toNat)).1.toNat.toUInt8],by omega,by omega,by simp,?_,?_,?_⟩,by dsimp only;omega⟩⟩)
    ·rw[if_pos hz]at hrun
     rw[<-hrun]at h;exact h
    ·have hb:(((saidP [39,34,92] ((q::r).drop i.toNat)).1.toNat.toUInt8.toNat:Nat):Int)=(saidP [39,34,92] ((q::r).drop i.toNat)).1:=by
      rw[Nat.toUInt8,UInt8.toNat_ofNat']
      omega
     show bytesV out++[Value.int .u8 _]=bytesV (out++[_])
     unfold bytesV
     rw[List.map_append,List.map_singleton,hb]
    ·simp only[List.length_append,List.length_cons,List.length_nil];omega
    ·rw[if_neg hz]at hrun
     rw[List.drop_drop]at hrun
     rw[<-hrun]
     congr 2
     omega
  ·have:i.toNat=(q::r).length:=by omega
   rw[this,List.drop_length,unlG]at hrun
   rw[<-hrun]at h;exact h
 refine⟨λe=>j1 _ (λ_=>by subst e;rfl) (λh=>by cases h),λhne=>?_⟩
 obtain⟨q,r,rfl⟩:=List.exists_cons_of_ne_nil hne
 refine⟨q,by omega,rfl,λn39=>⟨q,by omega,rfl,j1 _ (λhb=>?_) (λhb=>⟨q,r,rfl,?_⟩)⟩,λh39=>j1 _ (λh=>by cases h) (λ_=>⟨q,r,rfl,by omega⟩)⟩
 ·have:¬(q.toNat:Int)=34:=by simpa using hb
  rw[unlitP_cons,if_pos ⟨by omega,by omega⟩]
 ·have:(q.toNat:Int)=34:=by simpa using hb
  omega
theorem runlit_is (s:List UInt8) (hl:s.length<=140737488355328) (M:Mem) (K:Value->Prop) (h:K (outT (unlitP s))):S_chaffref_Unlit s M K:=by
 have j1:∀b:Bool,(b=true->unlitP s=([],0,4))->(b=false->∃q r,s=q::r/\¬(q.toNat≠39/\q.toNat≠34))->S_chaffref_Unlit_J1 s M b K:=by
  intro b h1 h2
  refine⟨λe=>by rw[h1 e]at h;exact h,λe=>?_⟩
  obtain⟨q,r,rfl,hq⟩:=h2 (by simpa using e)
  have hU:unlitP (q::r)=unlG q r 1 []:=by rw[unlitP_cons,if_neg hq]
  rw[hU]at h
  have hl0:(q::r).length=r.length+1:=rfl
  let I:List UInt8->Int->Prop:=λout i=>1<=i/\i<=(q::r).length/\(out.length:Int)<=i/\unlG q ((q::r).drop i.toNat) i out=unlG q r 1 []
  let mu:List UInt8->Int->Nat:=λ_ i=>(q::r).length-i.toNat
  refine⟨I,mu,⟨by omega,by omega,by simp,rfl⟩,?_⟩
  rintro out i ⟨h0,hi,hol,hrun⟩
  have j2:∀b:Bool,(b=true->∃c,(q::r)[i.toNat]?=some c/\c≠q)->(b=false->(q::r).length<=i.toNat\/(q::r)[i.toNat]?=some q)->S_chaffref_Unlit_J2 (q::r) M out i I mu b K:=by
   intro b g1 g2
   refine⟨λe=>?_,λe=>⟨λhge=>?_,λhlt=>⟨by unfold InI;omega,?_⟩⟩⟩
   ·obtain⟨c,hc,hne⟩:=g1 e
    have hlt:=(List.getElem?_eq_some_iff.1 hc).1
    have hdr:=drop_get hc
    rw[hdr,unlG,if_neg hne,<-hdr]at hrun
    have hok:=saidP_ok [39,34,92] ((q::r).drop i.toNat)
    rw[List.length_drop]at hok
    rw[take_allL]
    refine⟨by omega,by omega,by omega,s_chaffref_said _ _ _ _ (said_is _ [92,39,34] (by decide) (by decide) _ _ ?_)⟩
    rw[said_perm]
    refine⟨_,_,rfl,λhz=>?_,λhz=>⟨[(saidP [39,34,92] ((q::r).drop i.toNat)).1.toNat.toUInt8],?_,by simp only[List.length_cons,List.length_nil];omega,by unfold InI;omega,⟨by omega,by omega,by simp only[List.length_append,List.length_cons,List.length_nil];omega,?_⟩,by show(q::r).length-_<(q::r).length-_;omega⟩⟩
    ·rw[if_pos hz]at hrun
     rw[<-hrun]at h;exact h
    ·have hb:(((saidP [39,34,92] ((q::r).drop i.toNat)).1.toNat.toUInt8.toNat:Nat):Int)=(saidP [39,34,92] ((q::r).drop i.toNat)).1:=by
      rw[Nat.toUInt8,UInt8.toNat_ofNat']
      omega
     have hw:=wrapB (saidP [39,34,92] ((q::r).drop i.toNat)).1.toNat.toUInt8
     rw[hb]at hw
     rw[hw,bytesV,List.map_singleton,hb]
    ·rw[if_neg hz,List.drop_drop]at hrun
     rw[<-hrun]
     congr 2
     omega
   ·have:i.toNat=(q::r).length:=by omega
    rw[this,List.drop_length,unlG]at hrun
    rw[<-hrun]at h;exact h
   ·rcases g2 (by simpa using e)with hge|hc
    ·omega
    ·rw[drop_get hc,unlG,if_pos rfl]at hrun
     rw[<-hrun]at h;exact h
  refine⟨λhlt=>?_,λhge=>j2 _ (λh=>by cases h) (λ_=>.inl (by omega))⟩
  obtain⟨c,hc⟩:=getI (l:=q::r) (by omega) hlt
  refine⟨c,by omega,hc,q,by omega,rfl,j2 _ (λhb=>⟨c,hc,λe=>?_⟩) (λhb=>.inr ?_)⟩
  ·rw[e]at hb;simp at hb
  ·have:(c.toNat:Int)=q.toNat:=by simpa using hb
   rw[hc];congr 1;exact UInt8.toNat_inj.1 (by omega)
 refine⟨λe=>j1 _ (λ_=>by subst e;rfl) (λh=>by cases h),λhne=>?_⟩
 obtain⟨q,r,rfl⟩:=List.exists_cons_of_ne_nil hne
 refine⟨q,by omega,rfl,λn39=>⟨q,by omega,rfl,j1 _ (λhb=>?_) (λhb=>⟨q,r,rfl,?_⟩)⟩,λh39=>j1 _ (λh=>by cases h) (λ_=>⟨q,r,rfl,by omega⟩)⟩
 ·have:¬(q.toNat:Int)=34:=by simpa using hb
  rw[unlitP_cons,if_pos ⟨by omega,by omega⟩]
 ·have:(q.toNat:Int)=34:=by simpa using hb
  omega
end Go.Proofs.Ytfpmiahbncnecaa.core

namespace Go.Proofs.Ytfpmiahbncnecaa.core
open Go.Gx Go.RowKit Go.ChangeShapes Go.WideShapes Go.ChangeAt
set_option linter.unusedVariables false
theorem wrapU (n:Nat) (h:n<2 ^ 64):IntKind.wrap .u64 (n:Int)=n:=by
 simp only[IntKind.wrap,IntKind.bits,IntKind.signed,Bool.false_and,Bool.false_eq_true,if_false]
 omega
theorem bvU (n:Nat) (h:n<2 ^ 64):(BitVec.ofInt 64 (n:Int)).toNat=n:=by
 rw[BitVec.ofInt_natCast,BitVec.toNat_ofNat,Nat.mod_eq_of_lt h]
theorem bOrU (a b:Nat) (ha:a<2 ^ 64) (hb:b<2 ^ 64):bOr .u64 a b=((a|||b:Nat):Int):=by
 show IntKind.wrap .u64 ((BitVec.ofInt 64 (a:Int)|||BitVec.ofInt 64 (b:Int)).toNat:Int)=_
 rw[BitVec.toNat_or,bvU a ha,bvU b hb,wrapU _ (Nat.or_lt_two_pow ha hb)]
theorem bNotU (a:Nat) (ha:a<2 ^ 64):bNot .u64 a=(((2 ^ 64-1) ^^^ a:Nat):Int):=by
 show IntKind.wrap .u64 ((BitVec.ofInt 64 (18446744073709551615:Int) ^^^ BitVec.ofInt 64 (a:Int)).toNat:Int)=_
 have h1:(BitVec.ofInt 64 (18446744073709551615:Int)).toNat=2 ^ 64-1:=by decide
 rw[BitVec.toNat_xor,bvU a ha,h1,wrapU _ (Nat.xor_lt_two_pow (by decide) ha)]
theorem bShlU (k:Nat) (hk:k<64):bShl .u64 1 k=((2 ^ k:Nat):Int):=by
 show IntKind.wrap .u64 (1*2 ^ (min (k:Int).toNat 64))=_
 have:min (k:Int).toNat 64=k:=by omega
 rw[this,Int.one_mul]
 have h2:(2 ^ k:Nat)<2 ^ 64:=Nat.pow_lt_pow_right (by decide) hk
 have:=wrapU (2 ^ k) h2
 rw[Int.natCast_pow]at this ⊢
 exact this
def Uw (p:Nat->Bool) (w:Nat):Nat->Nat
 |0=>0
 |j+1=>Uw p w j+(if p (64*w+j)=true then 2 ^ j else 0)
theorem Uw_lt (p:Nat->Bool) (w:Nat):∀j,Uw p w j<2 ^ j
 |0=>by simp[Uw]
 |j+1=>by
  have:=Uw_lt p w j
  simp only[Uw,Nat.pow_succ]
  split<;>omega
theorem Uw_bit (p:Nat->Bool) (w:Nat) (k:Nat):∀j,(Uw p w j).testBit k=(decide (k<j)&&p (64*w+k))
 |0=>by simp[Uw]
 |j+1=>by
  have ih:=Uw_bit p w k j
  have hlt:=Uw_lt p w j
  simp only[Uw]
  split
  ·rename_i hp
   have e:Uw p w j+2 ^ j=2 ^ j*1|||Uw p w j:=by
    rw[<-Nat.two_pow_add_eq_or_of_lt hlt 1];omega
   rw[e,Nat.mul_one,Nat.testBit_or,Nat.testBit_two_pow,ih]
   by_cases hk:j=k
   ·subst hk;simp[hp]
   ·have:(decide (k<j+1))=decide (k<j):=by congr 1;simp;omega
    rw[this];simp[hk]
  ·rename_i hp
   rw[Nat.add_zero,ih]
   by_cases hk:j=k
   ·subst hk;simp[hp]
   ·have:(decide (k<j+1))=decide (k<j):=by congr 1;simp;omega
    rw[this]
def hasW (s:List Nat) (b:Nat):Bool:=(s.getD (b / 64) 0).testBit (b % 64)
theorem word_ext {x y:Nat} (hx:x<2 ^ 64) (hy:y<2 ^ 64) (h:∀k,k<64->x.testBit k=y.testBit k):x=y:=by
 refine Nat.eq_of_testBit_eq λk=>?_
 by_cases hk:k<64
 ·exact h k hk
 ·have:2 ^ 64<=2 ^ k:=Nat.pow_le_pow_right (by decide) (by omega)
  rw[Nat.testBit_lt_two_pow (by omega),Nat.testBit_lt_two_pow (by omega)]
theorem word_is {x:Nat} (p:Nat->Bool) (w:Nat) (hx:x<2 ^ 64) (h:∀k,k<64->x.testBit k=p (64*w+k)):x=Uw p w 64:=
 word_ext hx (Uw_lt p w 64) λk hk=>by rw[h k hk,Uw_bit];simp[hk]
theorem hasW_at (s:List Nat) (w k:Nat) (hk:k<64):hasW s (64*w+k)=(s.getD w 0).testBit k:=by
 unfold hasW
 rw[show(64*w+k) / 64=w by omega,show(64*w+k) % 64=k by omega]
def Us (p:Nat->Bool):X_api_Set:=⟨(Uw p 0 64:Nat),(Uw p 1 64:Nat),(Uw p 2 64:Nat),(Uw p 3 64:Nat)⟩
def bitS (s:X_api_Set) (b:Nat):Bool:=hasW [s.w0.toNat,s.w1.toNat,s.w2.toNat,s.w3.toNat] b
theorem nat_of {z:Int} (h:(Lit.int .u64 z).wf=true):∃n:Nat,z=n/\n<2 ^ 64:=by
 simp only[Lit.wf,IntKind.min,IntKind.max,Bool.and_eq_true]at h
 refine⟨z.toNat,?_,?_⟩<;>simp[IntKind.bits,IntKind.signed]at h<;>omega
theorem of_nat {n:Nat} (h:n<2 ^ 64):(Lit.int .u64 (n:Int)).wf=true:=by
 simp only[Lit.wf,IntKind.min,IntKind.max,Bool.and_eq_true]
 simp[IntKind.bits,IntKind.signed];omega
theorem Us_wf (p:Nat->Bool):wfS (Us p):=⟨of_nat (Uw_lt p 0 64),of_nat (Uw_lt p 1 64),of_nat (Uw_lt p 2 64),of_nat (Uw_lt p 3 64)⟩
theorem bit_Us {p:Nat->Bool} {b:Nat} (hb:b<256):bitS (Us p) b=p b:=by
 have key:∀w k:Nat,w<4->k<64->hasW [Uw p 0 64,Uw p 1 64,Uw p 2 64,Uw p 3 64] (64*w+k)=p (64*w+k):=by
  intro w k hw hk
  rw[hasW_at _ w k hk]
  have:[Uw p 0 64,Uw p 1 64,Uw p 2 64,Uw p 3 64].getD w 0=Uw p w 64:=by
   match w,hw with
   |0,_=>rfl
   |1,_=>rfl
   |2,_=>rfl
   |3,_=>rfl
  rw[this,Uw_bit];simp[hk]
 have:=key (b / 64) (b % 64) (by omega) (by omega)
 rw[show 64*(b / 64)+b % 64=b by omega]at this
 exact this
theorem Us_congr {p q:Nat->Bool} (h:∀b,b<256->p b=q b):Us p=Us q:=by
 have key:∀(w:Nat),w<4->∀j,j<=64->Uw p w j=Uw q w j:=by
  intro w hw j
  induction j with
  |zero=>intro _;rfl
  |succ j ih=>intro hj;rw[Uw,Uw,ih (by omega),h (64*w+j) (by omega)]
 unfold Us
 rw[key 0 (by omega) 64 (by omega),key 1 (by omega) 64 (by omega),key 2 (by omega) 64 (by omega),key 3 (by omega) 64 (by omega)]
theorem where_is (fv:Value) (M:Mem) (p:Nat->Bool) (hp:∀x:Nat,x<256->CallF Try.prog fv [.int .i64 x] M (λv _=>v= .bool (p x))) (K:Value->Prop)
  (h:K (Us p).val):S_chaffref_Where fv M K:=by
 unfold S_chaffref_Where
 let Z:Nat->List Int:=λb=>[(Uw p 0 (min b 64):Nat),(Uw p 1 (min (b-64) 64):Nat),(Uw p 2 (min (b-128) 64):Nat),(Uw p 3 (min (b-192) 64):Nat)]
 refine⟨λb zs=>∃n:Nat,b=n/\n<=256/\zs=Z n,λb _=>256-b.toNat,⟨0,rfl,by omega,rfl⟩,λb zs ⟨n,hb,hn,hz⟩=>?_⟩
 subst hb
 subst hz
 refine⟨λhlt=>?_,λhge=>?_⟩
 ·have hlt':n<256:=by omega
  refine(hp n hlt').mono λv _ _ hv=>⟨p n,hv,λhpn=>?_,λhpn=>?_⟩
  ·have e1:(n:Int).tdiv 64=((n / 64:Nat):Int):=by rw[Int.tdiv_eq_ediv_of_nonneg (by omega)];omega
   have e2:(n:Int).tmod 64=((n % 64:Nat):Int):=by rw[Int.tmod_eq_emod_of_nonneg (by omega)];omega
   rw[e1,e2]
   have hq:n / 64<4:=by omega
   have ei:(0+(((n / 64:Nat):Int)).toNat*1)=n / 64:=by omega
   rw[ei]
   have hr:n % 64<64:=by omega
   have hU:=Uw_lt p (n / 64) (n % 64)
   have hpow:2 ^ (n % 64)<2 ^ 64:=Nat.pow_lt_pow_right (by decide) hr
   have hpow2:2 ^ (n % 64)*2<=2 ^ 64:=by rw[<-Nat.pow_succ];exact Nat.pow_le_pow_right (by decide) (by omega)
   have hget:(Z n)[n / 64]?=some ((Uw p (n / 64) (n % 64):Nat):Int):=by
    show[((Uw p 0 (min n 64):Nat):Int),(Uw p 1 (min (n-64) 64):Nat),(Uw p 2 (min (n-128) 64):Nat),(Uw p 3 (min (n-192) 64):Nat)][n / 64]?=_
    match h:n / 64,hq with
    |0,_=>rw[show min n 64=n % 64 by omega];rfl
    |1,_=>rw[show min (n-64) 64=n % 64 by omega];rfl
    |2,_=>rw[show min (n-128) 64=n % 64 by omega];rfl
    |3,_=>rw[show min (n-192) 64=n % 64 by omega];rfl
   refine⟨by unfold InI;omega,by omega,by omega,_,hget,by omega,by omega,by omega,by show n / 64<4;exact hq,?_⟩
   rw[bShlU _ hr]
   have hw:IntKind.wrap .u64 (((Uw p (n / 64) (n % 64):Nat):Int)+((2 ^ (n % 64):Nat):Int))=((Uw p (n / 64) (n % 64+1):Nat):Int):=by
    rw[<-Int.natCast_add,wrapU _ (by omega)]
    have:p (64*(n / 64)+n % 64)=true:=by rw[show 64*(n / 64)+n % 64=n by omega];exact hpn
    simp only[Uw,this,if_true]
   rw[hw]
   have hset:(Z n).set (n / 64) ((Uw p (n / 64) (n % 64+1):Nat):Int)=Z (n+1):=by
    show[((Uw p 0 (min n 64):Nat):Int),(Uw p 1 (min (n-64) 64):Nat),(Uw p 2 (min (n-128) 64):Nat),(Uw p 3 (min (n-192) 64):Nat)].set (n / 64) _=[((Uw p 0 (min (n+1) 64):Nat):Int),(Uw p 1 (min (n+1-64) 64):Nat),(Uw p 2 (min (n+1-128) 64):Nat),(Uw p 3 (min (n+1-192) 64):Nat)]
    match h:n / 64,hq with
    |0,_=>rw[show min (n+1) 64=n % 64+1 by omega,show min (n+1-64) 64=min (n-64) 64 by omega,show min (n+1-128) 64=min (n-128) 64 by omega,show min (n+1-192) 64=min (n-192) 64 by omega];rfl
    |1,_=>rw[show min (n+1-64) 64=n % 64+1 by omega,show min (n+1) 64=min n 64 by omega,show min (n+1-128) 64=min (n-128) 64 by omega,show min (n+1-192) 64=min (n-192) 64 by omega];rfl
    |2,_=>rw[show min (n+1-128) 64=n % 64+1 by omega,show min (n+1) 64=min n 64 by omega,show min (n+1-64) 64=min (n-64) 64 by omega,show min (n+1-192) 64=min (n-192) 64 by omega];rfl
    |3,_=>rw[show min (n+1-192) 64=n % 64+1 by omega,show min (n+1) 64=min n 64 by omega,show min (n+1-64) 64=min (n-64) 64 by omega,show min (n+1-128) 64=min (n-128) 64 by omega];rfl
   rw[hset]
   exact⟨by unfold InI;omega,⟨n+1,by omega,by omega,rfl⟩,by dsimp only;omega⟩
  ·have hpn':p n=false:=by simpa using hpn
   have hsame:∀w:Nat,Uw p w (min (n+1-64*w) 64)=Uw p w (min (n-64*w) 64):=by
    intro w
    by_cases h1:64*w<=n/\n<64*w+64
    ·rw[show min (n+1-64*w) 64=min (n-64*w) 64+1 by omega]
     simp only[Uw]
     rw[show 64*w+min (n-64*w) 64=n by omega,hpn']
     simp
    ·rw[show min (n+1-64*w) 64=min (n-64*w) 64 by omega]
   have hZ:Z n=Z (n+1):=by
    have h0:=hsame 0
    have h1:=hsame 1
    have h2:=hsame 2
    have h3:=hsame 3
    simp only[Nat.mul_zero,Nat.sub_zero,Nat.mul_one]at h0 h1 h2 h3
    show[((Uw p 0 (min n 64):Nat):Int),(Uw p 1 (min (n-64) 64):Nat),(Uw p 2 (min (n-128) 64):Nat),(Uw p 3 (min (n-192) 64):Nat)]=[((Uw p 0 (min (n+1) 64):Nat):Int),(Uw p 1 (min (n+1-64) 64):Nat),(Uw p 2 (min (n+1-128) 64):Nat),(Uw p 3 (min (n+1-192) 64):Nat)]
    rw[h0,h1,show min (n+1-128) 64=min (n+1-64*2) 64 by omega,h2,show min (n+1-192) 64=min (n+1-64*3) 64 by omega,h3]
   unfold S_chaffref_Where_J1
   exact⟨by unfold InI;omega,⟨n+1,by omega,by omega,hZ⟩,by dsimp only;omega⟩
 ·have hn:n=256:=by omega
  subst hn
  exact⟨_,_,_,_,rfl,rfl,_,_,_,_,rfl,h⟩
theorem join_is {s t:X_api_Set} (hs:wfS s) (ht:wfS t) {M:Mem} (K:Value->Prop) (hK:K (Us λb=>bitS s b||bitS t b).val):S_set_Join s t M K:=by
 unfold S_set_Join
 refine s_set_both _ _ _ _ _ ?_
 obtain⟨a,b,c,d⟩:=s
 obtain⟨a',b',c',d'⟩:=t
 obtain⟨h0,h1,h2,h3⟩:=hs
 obtain⟨k0,k1,k2,k3⟩:=ht
 obtain⟨a,rfl,ha⟩:=nat_of h0
 obtain⟨b,rfl,hb⟩:=nat_of h1
 obtain⟨c,rfl,hc⟩:=nat_of h2
 obtain⟨d,rfl,hd⟩:=nat_of h3
 obtain⟨a',rfl,ha'⟩:=nat_of k0
 obtain⟨b',rfl,hb'⟩:=nat_of k1
 obtain⟨c',rfl,hc'⟩:=nat_of k2
 obtain⟨d',rfl,hd'⟩:=nat_of k3
 have hw:∀(w x y:Nat),[a,b,c,d].getD w 0=x->[a',b',c',d'].getD w 0=y->x<2 ^ 64->y<2 ^ 64->(x|||y)=Uw (λq=>bitS ⟨a,b,c,d⟩ q||bitS ⟨a',b',c',d'⟩ q) w 64:=by
  intro w x y hx hy hxl hyl
  refine word_is _ w (Nat.or_lt_two_pow hxl hyl) λk hk=>?_
  rw[Nat.testBit_or,<-hx,<-hy]
  rw[<-hasW_at [a,b,c,d] w k hk,<-hasW_at [a',b',c',d'] w k hk];rfl
 have hfin:(⟨((a|||a':Nat):Int),((b|||b':Nat):Int),((c|||c':Nat):Int),((d|||d':Nat):Int)⟩:X_api_Set)=Us λq=>bitS ⟨a,b,c,d⟩ q||bitS ⟨a',b',c',d'⟩ q:=by
  unfold Us
  rw[hw 0 a a' rfl rfl ha ha',hw 1 b b' rfl rfl hb hb',hw 2 c c' rfl rfl hc hc',hw 3 d d' rfl rfl hd hd']
 rw[<-hfin]at hK
 have call:∀(x y:Nat) (K:Value->Prop),x<2 ^ 64->y<2 ^ 64->K (.int .u64 ((x|||y:Nat):Int))->CallF Try.prog (Value.func (.func 91) #[] #[]) [.int .u64 (x:Int),.int .u64 (y:Int)] M (λv _=>K v):=λx y K hx hy hK=>
  f_set_Join_1 _ _ _ _ (by unfold S_set_Join_1;rw[bOrU x y hx hy];exact hK)
 unfold S_set_both
 refine⟨λi zs=>(i=0/\zs=[(a:Int),b,c,d])\/(i=1/\zs=[((a|||a':Nat):Int),b,c,d])\/(i=2/\zs=[((a|||a':Nat):Int),((b|||b':Nat):Int),c,d])\/(i=3/\zs=[((a|||a':Nat):Int),((b|||b':Nat):Int),((c|||c':Nat):Int),d])\/(i=4/\zs=[((a|||a':Nat):Int),((b|||b':Nat):Int),((c|||c':Nat):Int),((d|||d':Nat):Int)]),λi _=>4-i.toNat,.inl ⟨rfl,rfl⟩,λi zs hI=>?_⟩
 rcases hI with⟨rfl,rfl⟩|⟨rfl,rfl⟩|⟨rfl,rfl⟩|⟨rfl,rfl⟩|⟨rfl,rfl⟩
 ·exact⟨λ_=>⟨by omega,by omega,_,rfl,by omega,by omega,_,rfl,call _ _ _ ha ha' ⟨_,rfl,by omega,by omega,by simp,by unfold InI;omega,.inr (.inl ⟨rfl,rfl⟩),by dsimp only;decide⟩⟩,λh=>absurd h (by decide)⟩
 ·exact⟨λ_=>⟨by omega,by omega,_,rfl,by omega,by omega,_,rfl,call _ _ _ hb hb' ⟨_,rfl,by omega,by omega,by simp,by unfold InI;omega,.inr (.inr (.inl ⟨rfl,rfl⟩)),by dsimp only;decide⟩⟩,λh=>absurd h (by decide)⟩
 ·exact⟨λ_=>⟨by omega,by omega,_,rfl,by omega,by omega,_,rfl,call _ _ _ hc hc' ⟨_,rfl,by omega,by omega,by simp,by unfold InI;omega,.inr (.inr (.inr (.inl ⟨rfl,rfl⟩))),by dsimp only;decide⟩⟩,λh=>absurd h (by decide)⟩
 ·exact⟨λ_=>⟨by omega,by omega,_,rfl,by omega,by omega,_,rfl,call _ _ _ hd hd' ⟨_,rfl,by omega,by omega,by simp,by unfold InI;omega,.inr (.inr (.inr (.inr ⟨rfl,rfl⟩))),by dsimp only;decide⟩⟩,λh=>absurd h (by decide)⟩
 ·exact⟨λh=>absurd h (by decide),λ_=>⟨_,_,_,_,rfl,rfl,_,_,_,_,rfl,_,rfl,hK⟩⟩
theorem Uw_congr {p q:Nat->Bool} {w:Nat} (h:∀k,k<64->p (64*w+k)=q (64*w+k)):Uw p w 64=Uw q w 64:=by
 have key:∀j,j<=64->Uw p w j=Uw q w j:=by
  intro j
  induction j with
  |zero=>intro _;rfl
  |succ j ih=>intro hj;rw[Uw,Uw,ih (by omega),h j (by omega)]
 exact key 64 (by omega)
def U4 (p:Nat->Bool):List Int:=[(Uw p 0 64:Nat),(Uw p 1 64:Nat),(Uw p 2 64:Nat),(Uw p 3 64:Nat)]
theorem U4_get (p:Nat->Bool) {w:Nat} (hw:w<4):(U4 p)[w]?=some ((Uw p w 64:Nat):Int):=by
 match w,hw with
 |0,_=>rfl
 |1,_=>rfl
 |2,_=>rfl
 |3,_=>rfl
theorem U4_set {p q:Nat->Bool} {w:Nat} (hw:w<4) (h:∀x,x<256->x / 64≠w->p x=q x):(U4 p).set w ((Uw q w 64:Nat):Int)=U4 q:=by
 have key:∀v,v<4->v≠w->Uw p v 64=Uw q v 64:=λv hv hne=>Uw_congr λk hk=>h _ (by omega) (by omega)
 match w,hw with
 |0,_=>show[_,_,_,_]=[_,_,_,_];rw[key 1 (by omega) (by omega),key 2 (by omega) (by omega),key 3 (by omega) (by omega)]
 |1,_=>show[_,_,_,_]=[_,_,_,_];rw[key 0 (by omega) (by omega),key 2 (by omega) (by omega),key 3 (by omega) (by omega)]
 |2,_=>show[_,_,_,_]=[_,_,_,_];rw[key 0 (by omega) (by omega),key 1 (by omega) (by omega),key 3 (by omega) (by omega)]
 |3,_=>show[_,_,_,_]=[_,_,_,_];rw[key 0 (by omega) (by omega),key 1 (by omega) (by omega),key 2 (by omega) (by omega)]
theorem i64_shift:∀n:Nat,n<256->bShr .i64 (n:Int) 6=((n / 64:Nat):Int)/\bAnd .i64 (n:Int) 63=((n % 64:Nat):Int):=by decide+kernel
def inR (low high:Int) (x:Nat):Bool:=decide (low<=x/\(x:Int)<=high)
theorem range_is (low high:Int) {M:Mem} (K:Value->Prop) (hK:K (Us (inR low high)).val):S_set_Range low high M K:=by
 unfold S_set_Range
 have hz:∀p:Nat->Bool,(∀x,x<256->p x=false)->U4 p=[0,0,0,0]:=λp hp=>by
  have key:∀w,w<4->Uw p w 64=0:=λw hw=>by
   have h1:Uw p w 64=Uw (λ_=>false) w 64:=Uw_congr λk hk=>hp _ (by omega)
   have h2:∀j,Uw (λ_=>false) w j=0:=by
    intro j
    induction j with
    |zero=>rfl
    |succ j ih=>rw[Uw,ih];simp
   rw[h1,h2]
  unfold U4
  rw[key 0 (by omega),key 1 (by omega),key 2 (by omega),key 3 (by omega)];rfl
 let pb:Int->Nat->Bool:=λb x=>decide (low<=x/\(x:Int)<b)
 refine⟨λb zs=>(if low>0 then low else 0)<=b/\(b=(if low>0 then low else 0)\/b<=(if high<255 then high else 255)+1)/\zs=U4 (pb b),λb _=>(256-b).toNat,⟨Int.le_refl _,.inl rfl,(hz _ λx _=>?_).symm⟩,λb zs ⟨h0,h1,h2⟩=>⟨λhlt=>?_,λhge=>?_⟩⟩
 ·simp only[pb,decide_eq_false_iff_not];split<;>omega
 ·subst h2
  have hb0:0<=b:=by split at h0<;>omega
  have hb1:b<=255:=by split at hlt<;>omega
  have hb2:low<=b:=by split at h0<;>omega
  obtain⟨n,rfl⟩:=Int.eq_ofNat_of_zero_le hb0
  have hn:n<256:=by omega
  obtain⟨e1,e2⟩:=i64_shift n hn
  rw[e1,e2]
  have hidx:0+(((n / 64:Nat):Int)).toNat*1=n / 64:=by omega
  rw[hidx]
  have hw4:n / 64<4:=by omega
  refine⟨by omega,by omega,_,U4_get _ hw4,by omega,by omega,by omega,by show n / 64<4;exact hw4,by unfold InI;omega,⟨?_,?_,?_⟩,by dsimp only;omega⟩
  ·split at h0<;>(split<;>omega)
  ·right;split at hlt<;>(split<;>omega)
  ·rw[bShlU _ (by omega),bOrU _ _ (Uw_lt _ _ _) (Nat.pow_lt_pow_right (by decide) (by omega))]
   have hword:(Uw (pb (n:Int)) (n / 64) 64|||2 ^ (n % 64))=Uw (pb ((n:Int)+1)) (n / 64) 64:=by
    refine word_is _ _ (Nat.or_lt_two_pow (Uw_lt _ _ _) (Nat.pow_lt_pow_right (by decide) (by omega))) λk hk=>?_
    rw[Nat.testBit_or,Uw_bit,Nat.testBit_two_pow]
    simp only[pb,hk,decide_true,Bool.true_and]
    rw[Bool.eq_iff_iff]
    simp only[Bool.or_eq_true,decide_eq_true_eq]
    omega
   rw[hword]
   exact U4_set hw4 λx hx hne=>by simp only[pb];rw[decide_eq_decide];omega
 ·subst h2
  refine⟨_,_,_,_,rfl,rfl,_,_,_,_,rfl,?_⟩
  have:Us (pb b)=Us (inR low high):=Us_congr λx hx=>by
   simp only[pb,inR];rw[decide_eq_decide]
   split at h0<;>split at h1<;>omega
  rw[<-this]at hK;exact hK
end Go.Proofs.Ytfpmiahbncnecaa.core

namespace Go.Proofs.Ytfpmiahbncnecaa.core
open Go.Gx Go.RowKit Go.ChangeShapes Go.WideShapes Go.ChangeAt
set_option linter.unusedVariables false
abbrev clSg:List UInt8:=[91,93,45,94,92]
theorem not_is {s:X_api_Set} (hs:wfS s) {M:Mem} (K:Value->Prop) (hK:K (Us λb=> !bitS s b).val):S_set_Not s M K:=by
 unfold S_set_Not
 refine s_set_both _ _ _ _ _ ?_
 obtain⟨a,b,c,d⟩:=s
 obtain⟨h0,h1,h2,h3⟩:=hs
 obtain⟨a,rfl,ha⟩:=nat_of h0
 obtain⟨b,rfl,hb⟩:=nat_of h1
 obtain⟨c,rfl,hc⟩:=nat_of h2
 obtain⟨d,rfl,hd⟩:=nat_of h3
 have hx64:∀x,x<2 ^ 64->(2 ^ 64-1) ^^^ x<2 ^ 64:=λx hx=>Nat.xor_lt_two_pow (by decide) hx
 have hw:∀(w x:Nat),[a,b,c,d].getD w 0=x->x<2 ^ 64->((2 ^ 64-1) ^^^ x)=Uw (λq=> !bitS ⟨a,b,c,d⟩ q) w 64:=by
  intro w x hx hxl
  refine word_is _ w (hx64 x hxl) λk hk=>?_
  rw[Nat.testBit_xor,Nat.testBit_two_pow_sub_one,<-hx,<-hasW_at [a,b,c,d] w k hk]
  simp only[hk,decide_true,Bool.true_xor];rfl
 have hfin:(⟨(((2 ^ 64-1) ^^^ a:Nat):Int),(((2 ^ 64-1) ^^^ b:Nat):Int),(((2 ^ 64-1) ^^^ c:Nat):Int),(((2 ^ 64-1) ^^^ d:Nat):Int)⟩:X_api_Set)=Us λq=> !bitS ⟨a,b,c,d⟩ q:=by
  unfold Us
  rw[hw 0 a rfl ha,hw 1 b rfl hb,hw 2 c rfl hc,hw 3 d rfl hd]
 rw[<-hfin]at hK
 have call:∀(x y:Nat) (K:Value->Prop),x<2 ^ 64->K (.int .u64 (((2 ^ 64-1) ^^^ x:Nat):Int))->CallF Try.prog (Value.func (.func 90) #[] #[]) [.int .u64 (x:Int),.int .u64 (y:Int)] M (λv _=>K v):=λx y K hx hK=>
  f_set_Not_1 _ _ _ _ (by unfold S_set_Not_1;rw[bNotU x hx];exact hK)
 unfold S_set_both
 generalize e0:(2 ^ 64-1) ^^^ a=a' at*
 generalize e1:(2 ^ 64-1) ^^^ b=b' at*
 generalize e2:(2 ^ 64-1) ^^^ c=c' at*
 generalize e3:(2 ^ 64-1) ^^^ d=d' at*
 refine⟨λi zs=>(i=0/\zs=[(a:Int),b,c,d])\/(i=1/\zs=[(a':Int),b,c,d])\/(i=2/\zs=[(a':Int),(b':Int),c,d])\/(i=3/\zs=[(a':Int),(b':Int),(c':Int),d])\/(i=4/\zs=[(a':Int),(b':Int),(c':Int),(d':Int)]),λi _=>4-i.toNat,.inl ⟨rfl,rfl⟩,λi zs hI=>?_⟩
 rcases hI with⟨rfl,rfl⟩|⟨rfl,rfl⟩|⟨rfl,rfl⟩|⟨rfl,rfl⟩|⟨rfl,rfl⟩
 ·exact⟨λ_=>⟨by omega,by omega,_,rfl,by omega,by omega,_,rfl,call _ _ _ ha (by rw[e0];exact⟨_,rfl,by omega,by omega,by simp,by unfold InI;omega,.inr (.inl ⟨rfl,rfl⟩),by dsimp only;decide⟩)⟩,λh=>absurd h (by decide)⟩
 ·exact⟨λ_=>⟨by omega,by omega,_,rfl,by omega,by omega,_,rfl,call _ _ _ hb (by rw[e1];exact⟨_,rfl,by omega,by omega,by simp,by unfold InI;omega,.inr (.inr (.inl ⟨rfl,rfl⟩)),by dsimp only;decide⟩)⟩,λh=>absurd h (by decide)⟩
 ·exact⟨λ_=>⟨by omega,by omega,_,rfl,by omega,by omega,_,rfl,call _ _ _ hc (by rw[e2];exact⟨_,rfl,by omega,by omega,by simp,by unfold InI;omega,.inr (.inr (.inr (.inl ⟨rfl,rfl⟩))),by dsimp only;decide⟩)⟩,λh=>absurd h (by decide)⟩
 ·exact⟨λ_=>⟨by omega,by omega,_,rfl,by omega,by omega,_,rfl,call _ _ _ hd (by rw[e3];exact⟨_,rfl,by omega,by omega,by simp,by unfold InI;omega,.inr (.inr (.inr (.inr ⟨rfl,rfl⟩))),by dsimp only;decide⟩)⟩,λh=>absurd h (by decide)⟩
 ·exact⟨λh=>absurd h (by decide),λ_=>⟨_,_,_,_,rfl,rfl,_,_,_,_,rfl,_,rfl,hK⟩⟩
end Go.Proofs.Ytfpmiahbncnecaa.core

namespace Go.Proofs.Ytfpmiahbncnecaa.core
open Go.Gx Go.RowKit Go.ChangeShapes Go.WideShapes Go.ChangeAt
set_option linter.unusedVariables false
def dash (r:List UInt8) (k:Nat):Bool:=decide (r[k]?=some 45)&&match r[k+1]? with
 |some c=>decide (c≠93)
 |none=>false
theorem dash_is {s:List UInt8} {j n:Nat} {d e:UInt8} (hd:s[j+n]?=some d) (he:s[j+n+1]?=some e):dash (s.drop j) n=(decide (d.toNat=45)&&decide (e.toNat≠93)):=by
 unfold dash
 rw[List.getElem?_drop,List.getElem?_drop,<-Nat.add_assoc,hd,he]
 have h1:(some d=some (45:UInt8))↔d.toNat=45:=⟨λh=>by cases h;rfl,λh=>by rw[UInt8.toNat_inj.1 (show d.toNat=(45:UInt8).toNat from h)]⟩
 have h2:(e≠(93:UInt8))↔e.toNat≠93:=⟨λh g=>h (UInt8.toNat_inj.1 (show e.toNat=(93:UInt8).toNat from g)),λh g=>h (by rw[g];rfl)⟩
 rw[decide_eq_decide.2 h1]
 show(_&&decide (e≠93))=_
 rw[decide_eq_decide.2 h2]
theorem dash_no {s:List UInt8} {j n:Nat} (h:s.length<=j+n+1):dash (s.drop j) n=false:=by
 unfold dash
 rw[List.getElem?_drop,List.getElem?_drop,List.getElem?_eq_none (i:=j+(n+1)) (by omega)];simp
def spanP (r:List UInt8):Option (Int×Int×Int):=
 if (saidP clSg r).2=0 then none else if dash r (saidP clSg r).2.toNat=true then
  (if (saidP clSg (r.drop ((saidP clSg r).2.toNat+1))).2=0\/(saidP clSg (r.drop ((saidP clSg r).2.toNat+1))).1<(saidP clSg r).1 then none
   else some ((saidP clSg r).1,(saidP clSg (r.drop ((saidP clSg r).2.toNat+1))).1,(saidP clSg r).2+(1+(saidP clSg (r.drop ((saidP clSg r).2.toNat+1))).2)))
 else some ((saidP clSg r).1,(saidP clSg r).1,(saidP clSg r).2)
def spansG (s:List UInt8) (i:Nat) (acc:List (Int×Int)):Option (List (Int×Int)×Nat):=
 if h:i<s.length then if s[i]=93 then some (acc,i+1) else match spanP (s.drop i)with
  |none=>none
  |some (l,h,n)=>spansG s (i+(n.toNat-1)+1) (acc++[(l,h)])
 else none
termination_by s.length-i
decreasing_by omega
theorem spansG_out {s:List UInt8} {i:Nat} {acc:List (Int×Int)} (h:¬i<s.length):spansG s i acc=none:=by rw[spansG,dif_neg h]
theorem spansG_end {s:List UInt8} {i:Nat} {acc:List (Int×Int)} {c:UInt8} (h:s[i]?=some c) (hc:c.toNat=93):spansG s i acc=some (acc,i+1):=by
 obtain⟨hi,rfl⟩:=List.getElem?_eq_some_iff.1 h
 rw[spansG,dif_pos hi,if_pos (UInt8.toNat_inj.1 hc)]
theorem spansG_in {s:List UInt8} {i:Nat} {acc:List (Int×Int)} {c:UInt8} (h:s[i]?=some c) (hc:c.toNat≠93):spansG s i acc=match spanP (s.drop i)with
  |none=>none
  |some (l,h,n)=>spansG s (i+(n.toNat-1)+1) (acc++[(l,h)]):=by
 obtain⟨hi,rfl⟩:=List.getElem?_eq_some_iff.1 h
 rw[spansG,dif_pos hi,if_neg (λe=>hc (by rw[e];rfl))]
def inS (acc:List (Int×Int)) (b:Nat):Bool:=acc.any λp=>decide (p.1<=b/\(b:Int)<=p.2)
def unclR (not:Bool):Option (List (Int×Int)×Nat)->X_api_Set×Int×Int
 |none=>(⟨0,0,0,0⟩,0,4)
 |some (acc,e)=>(Us λb=>inS acc b != not,(e:Int),0)
def unclP (s:List UInt8):X_api_Set×Int×Int:=
 if s[0]?=some 91 then if s[1]?=some 94 then unclR true (spansG s 2 []) else unclR false (spansG s 1 []) else(⟨0,0,0,0⟩,0,4)
def outS (r:X_api_Set×Int×Int):Value:=.tuple #[r.1.val,.int .i64 r.2.1,.int .i64 r.2.2]
theorem Us_none {p:Nat->Bool} (hp:∀x,x<256->p x=false):Us p=⟨0,0,0,0⟩:=by
 have key:∀w,w<4->Uw p w 64=0:=λw hw=>by
  have h1:Uw p w 64=Uw (λ_=>false) w 64:=Uw_congr λk hk=>hp _ (by omega)
  have h2:∀j,Uw (λ_=>false) w j=0:=by
   intro j
   induction j with
   |zero=>rfl
   |succ j ih=>rw[Uw,ih];simp
  rw[h1,h2]
 unfold Us
 rw[key 0 (by omega),key 1 (by omega),key 2 (by omega),key 3 (by omega)];rfl
theorem take_all (s:List UInt8):s.take ((s.length:Nat):Int).toNat=s:=by rw[Int.toNat_natCast,List.take_length]
theorem byte_val {s:List UInt8} {i:Nat} {c d:UInt8} (h:s[i]?=some c) (hd:c.toNat=d.toNat):s[i]?=some d:=by rw[h,UInt8.toNat_inj.1 hd]
theorem quncl_loop {s:List UInt8} (hs:s.length<=1048576) {i0:Nat} (hi0:i0<=s.length) (not:Bool) {M:Mem} (K:Value->Prop) (hK:K (outS (unclR not (spansG s i0 [])))):S_quote_Unclass_J3 s M (i0:Int) not K:=by
 unfold S_quote_Unclass_J3
 refine⟨λi c0 c1 c2 c3=>∃(j:Nat) (acc:List (Int×Int)),i=j/\j<=s.length/\(⟨c0,c1,c2,c3⟩:X_api_Set)=Us (inS acc)/\spansG s j acc=spansG s i0 [],λi _ _ _ _=>(s.length-i).toNat,⟨i0,[],rfl,hi0,(Us_none λx _=>rfl).symm,rfl⟩,λi c0 c1 c2 c3 ⟨j,acc,hi,hj,hU,hrun⟩=>?_⟩
 subst hi
 have bad:spansG s i0 []=none->S_quote_Unclass_J8 K:=λh=>by
  unfold S_quote_Unclass_J8
  rw[h]at hK;exact hK
 refine⟨λhlt=>?_,λhge=>bad (by rw[<-hrun,spansG_out (by omega)])⟩
 obtain⟨c,hc⟩:=getN (l:=s) (i:=j) (by omega)
 refine⟨c,by omega,by simpa using hc,λh93=>?_,λh93=>?_⟩
 ·rw[spansG_end hc (by omega)]at hrun
  rw[<-hrun]at hK
  have fin:∀x:X_api_Set,x=(Us λb=>inS acc b != not)->S_quote_Unclass_J4 (j:Int) x.w0 x.w1 x.w2 x.w3 K:=λx hx=>by
   unfold S_quote_Unclass_J4
   refine⟨by unfold InI;omega,?_⟩
   subst hx
   exact hK
  refine⟨λhn=>?_,λhn=>?_⟩
  ·refine s_set_Not _ _ _ ?_
   rw[hU]
   refine not_is (Us_wf _) _ ⟨_,rfl,fin _ (Us_congr λb hb=>?_)⟩
   rw[bit_Us hb,hn];simp
  ·have:=fin ⟨c0,c1,c2,c3⟩ (by rw[hU];exact Us_congr λb hb=>by simp[hn])
   exact this
 ·rw[spansG_in hc (by omega)]at hrun
  rw[take_all,show(j:Int).toNat=j from rfl]
  have hdr:=drop_get hc
  have hne:s.drop j≠[]:=by rw[hdr];simp
  have hok:=saidP_ok clSg (s.drop j)
  rw[List.length_drop]at hok
  refine⟨by omega,by omega,by omega,s_quote_next _ _ _ _ (qnext_is _ clSg hne (by decide) _ _ ⟨_,_,rfl,λhz=>bad ?_,λhz=>⟨by unfold InI;omega,by unfold InI;omega,?_⟩⟩)⟩
  ·rw[<-hrun,spanP,if_pos hz]
  obtain⟨n,hn⟩:∃n:Nat,(saidP clSg (s.drop j)).2=n:=⟨(saidP clSg (s.drop j)).2.toNat,by omega⟩
  unfold spanP at hrun
  rw[hn]at hok hrun hz ⊢
  rw[if_neg hz]at hrun
  generalize hlow:(saidP clSg (s.drop j)).1=low at*
  have step:∀(k:Nat) (high:Int),high<256->0<=high->j<k->k<=s.length->spansG s k (acc++[(low,high)])=spansG s i0 []->S_quote_Unclass_J7 M (j:Int) c0 c1 c2 c3 (λi c0 c1 c2 c3=>∃(j:Nat) (acc:List (Int×Int)),i=j/\j<=s.length/\(⟨c0,c1,c2,c3⟩:X_api_Set)=Us (inS acc)/\spansG s j acc=spansG s i0 []) (λi _ _ _ _=>(s.length-i).toNat) low (k:Int) high K:=λk high h1 h2 h3 h4 h5=>by
   unfold S_quote_Unclass_J7
   rw[wrap_in (show InI low by unfold InI;omega),wrap_in (show InI high by unfold InI;omega),hU]
   refine s_set_Range _ _ _ _ (range_is _ _ _ ⟨_,rfl,s_set_Join _ _ _ _ (join_is (Us_wf _) (Us_wf _) _ ⟨_,rfl,⟨k,acc++[(low,high)],rfl,h4,Us_congr λb hb=>?_,h5⟩,by dsimp only;omega⟩)⟩)
   rw[bit_Us hb,bit_Us hb]
   simp[inS,inR]
  have plain:dash (s.drop j) n=false->S_quote_Unclass_J5 s M (j:Int) c0 c1 c2 c3 (λi c0 c1 c2 c3=>∃(j:Nat) (acc:List (Int×Int)),i=j/\j<=s.length/\(⟨c0,c1,c2,c3⟩:X_api_Set)=Us (inS acc)/\spansG s j acc=spansG s i0 []) (λi _ _ _ _=>(s.length-i).toNat) low (n:Int) false K:=λh=>by
   unfold S_quote_Unclass_J5
   refine⟨λh=>by simp at h,λ_=>?_⟩
   rw[show(n:Int).toNat=n from rfl,h]at hrun
   simp only[Bool.false_eq_true,if_false]at hrun
   rw[show(j:Int)+(n:Int)=((j+n:Nat):Int) by omega]
   refine step _ _ (by omega) (by omega) (by omega) (by omega) ?_
   rw[<-hrun]
   congr 1
   show j+n=j+((n:Int).toNat-1)+1
   omega
  refine⟨λhl=>?_,λhl=>plain (dash_no (by omega))⟩
  obtain⟨d,hd⟩:=getN (l:=s) (i:=j+n) (by omega)
  obtain⟨e,he⟩:=getN (l:=s) (i:=j+n+1) (by omega)
  have hda:=dash_is hd he
  have t1:((j:Int)+(n:Int)).toNat=j+n:=by omega
  have t2:((j:Int)+(n:Int)+1).toNat=j+n+1:=by omega
  rw[t1,t2]
  refine⟨d,by omega,hd,λh45=>⟨by unfold InI;omega,e,by omega,he,?_⟩,λh45=>plain (by rw[hda];simp;omega)⟩
  by_cases h93:e.toNat=93
  ·rw[show((e.toNat:Int) != (93:Int))=false by simp;omega]
   exact plain (by rw[hda];simp[h93])
  ·rw[show((e.toNat:Int) != (93:Int))=true by simp;omega]
   have hdt:dash (s.drop j) n=true:=by rw[hda];simp[h93];omega
   rw[show(n:Int).toNat=n from rfl,hdt,if_pos rfl,List.drop_drop]at hrun
   have hdr2:=drop_get he
   have hne2:s.drop (j+n+1)≠[]:=by rw[hdr2];simp
   have hok2:=saidP_ok clSg (s.drop (j+n+1))
   rw[List.length_drop]at hok2
   rw[show j+(n+1)=j+n+1 by omega]at hrun
   unfold S_quote_Unclass_J5
   rw[take_all,t2]
   refine⟨λ_=>⟨by unfold InI;omega,by omega,by omega,by omega,s_quote_next _ _ _ _ (qnext_is _ clSg hne2 (by decide) _ _ ⟨_,_,rfl,?_⟩)⟩,λh=>absurd rfl h⟩
   have bad2:(saidP clSg (s.drop (j+n+1))).2=0\/(saidP clSg (s.drop (j+n+1))).1<low->∀x y,S_quote_Unclass_J6 M (j:Int) c0 c1 c2 c3 (λi c0 c1 c2 c3=>∃(j:Nat) (acc:List (Int×Int)),i=j/\j<=s.length/\(⟨c0,c1,c2,c3⟩:X_api_Set)=Us (inS acc)/\spansG s j acc=spansG s i0 []) (λi _ _ _ _=>(s.length-i).toNat) low (n:Int) x y true K:=λh x y=>by
    unfold S_quote_Unclass_J6
    refine⟨λ_=>bad ?_,λh=>absurd rfl h⟩
    rw[<-hrun,if_pos h]
   refine⟨λh0=>bad2 (.inl h0) _ _,λh0=>?_⟩
   by_cases hlt2:(saidP clSg (s.drop (j+n+1))).1<low
   ·rw[show decide ((saidP clSg (s.drop (j+n+1))).1<low)=true by simp[hlt2]];exact bad2 (.inr hlt2) _ _
   rw[show decide ((saidP clSg (s.drop (j+n+1))).1<low)=false by simp;omega]
   rw[if_neg (by omega)]at hrun
   obtain⟨m,hm⟩:∃m:Nat,(saidP clSg (s.drop (j+n+1))).2=m:=⟨(saidP clSg (s.drop (j+n+1))).2.toNat,by omega⟩
   rw[hm]at hrun hok2 h0 ⊢
   unfold S_quote_Unclass_J6
   refine⟨λh=>by simp at h,λ_=>⟨by unfold InI;omega,by unfold InI;omega,?_⟩⟩
   rw[show(j:Int)+(n:Int)+(1+(m:Int))=((j+n+(1+m):Nat):Int) by omega]
   refine step _ _ (by omega) (by omega) (by omega) (by omega) ?_
   rw[<-hrun]
   show _=spansG s (j+(((n:Int)+(1+(m:Int))).toNat-1)+1) _
   congr 1
   omega
theorem beq94 {d:UInt8} (h:((d.toNat:Int)==(94:Int))=true):d.toNat=(94:UInt8).toNat:=by
 have:=beq_iff_eq.1 h
 show d.toNat=94
 omega
theorem quncl_is {s:List UInt8} (hs:s.length<=1048576) {M:Mem} (K:Value->Prop) (hK:K (outS (unclP s))):S_quote_Unclass s M K:=by
 have bad:s[0]?≠some 91->S_quote_Unclass_J1 s M true K:=λh=>by
  unfold S_quote_Unclass_J1
  refine⟨λ_=>?_,λh=>absurd rfl h⟩
  unfold unclP at hK
  rw[if_neg h]at hK;exact hK
 unfold S_quote_Unclass
 refine⟨λh=>bad (by rw[h];simp),λhne=>?_⟩
 obtain⟨c,r,rfl⟩:=List.exists_cons_of_ne_nil hne
 refine⟨c,by omega,rfl,?_⟩
 by_cases h91:c.toNat=91
 ·rw[show((c.toNat:Int) != (91:Int))=false by simp;omega]
  have h0:(c::r)[0]?=some 91:=byte_val rfl h91
  unfold unclP at hK
  rw[if_pos h0]at hK
  unfold S_quote_Unclass_J1
  have two:∀b:Bool,(b=true->(c::r)[1]?=some 94/\2<=(c::r).length)->(b=false->(c::r)[1]?≠some 94)->S_quote_Unclass_J2 (c::r) M b K:=λb h1 h2=>by
   unfold S_quote_Unclass_J2
   refine⟨λh=>?_,λh=>?_⟩
   ·obtain⟨g1,g2⟩:=h1 h
    rw[if_pos g1]at hK
    exact quncl_loop hs g2 true K hK
   ·rw[if_neg (h2 (by simpa using h))]at hK
    exact quncl_loop hs (by simp) false K hK
  refine⟨λh=>by simp at h,λ_=>⟨λhl=>?_,λhl=>two false (λh=>by cases h) λ_ h=>?_⟩⟩
  ·obtain⟨d,hd⟩:=getN (l:=c::r) (i:=1) (by omega)
   refine⟨d,by omega,hd,two _ (λh=>⟨byte_val hd (beq94 h),by omega⟩) λh h2=>?_⟩
   rw[hd]at h2
   cases h2
   simp at h
  ·have:=(List.getElem?_eq_some_iff.1 h).1
   omega
 ·rw[show((c.toNat:Int) != (91:Int))=true by simp;omega]
  refine bad λh=>h91 ?_
  cases h;rfl
end Go.Proofs.Ytfpmiahbncnecaa.core

namespace Go.Proofs.Ytfpmiahbncnecaa.core
open Go.Gx Go.RowKit Go.ChangeShapes Go.WideShapes Go.ChangeAt
set_option linter.unusedVariables false
inductive Lx where
 |bad
 |node (n:Nat) (k:Int) (st:X_api_Set) (tx:List UInt8)
 |sign (n:Nat) (c:Nat)
def zS:X_api_Set:=⟨0,0,0,0⟩
def zE:X_api_Expr:=⟨0,⟨0,0,0,0⟩,[],none,0,0⟩
def allS:X_api_Set:=Us λ_=>true
def nameN:List UInt8->Nat
 |[]=>0
 |c::r=>if nmB c=true then 1+nameN r else 0
theorem nameN_len:∀l:List UInt8,nameN l<=l.length
 |[]=>by simp[nameN]
 |c::r=>by
  have:=nameN_len r
  rw[nameN,List.length_cons];split<;>omega
def signsL:List UInt8:=[40,41,47,38,33,63,42,43]
def lexL:List UInt8->Lx
 |[]=>.bad
 |c::r=>
  if c.toNat=39\/c.toNat=34 then
   (if (unlitP (c::r)).2.2≠0 then .bad else if (unlitP (c::r)).1=[] then .node (unlitP (c::r)).2.1.toNat 1 zS [] else .node (unlitP (c::r)).2.1.toNat 3 zS (unlitP (c::r)).1)
  else if c.toNat=91 then(if (unclP (c::r)).2.2≠0 then .bad else .node (unclP (c::r)).2.1.toNat 2 (unclP (c::r)).1 [])
  else if c.toNat=46 then .node 1 2 allS []
  else if c∈signsL then .sign 1 c.toNat
  else if c.toNat=60/\(c::r).take 2=[60,45] then .sign 2 60
  else if letB c=true then .node (1+nameN r) 4 zS ((c::r).take (1+nameN r)) else .bad
def tokAt (s:List UInt8) (i:Nat):Option X_read_Token:=
 if goOn s i=s.length then some ⟨(goOn s i:Nat),(goOn s i:Nat),false,zE,0⟩ else match lexL (s.drop (goOn s i))with
  | .bad=>none
  | .node n k st tx=>some ⟨(goOn s i:Nat),(goOn s i+n:Nat),true,⟨k,st,tx,none,0,0⟩,0⟩
  | .sign n c=>some ⟨(goOn s i:Nat),(goOn s i+n:Nat),false,zE,(c:Nat)⟩
theorem next_J8 {M M51:Mem} {L:Nat->Prop} {b:Nat} {y:X_read_Reader} (h:RdTo b M M51 y) (hw:Wr L M b) (j n:Nat) (hj:j+n<=10000) (K:PK) (hK:∀M',RdTo b M M' ⟨y.text,y.heads,⟨y.Now.At,(j+n:Nat),y.Now.Node,y.Now.Expr,y.Now.Sign⟩⟩->K (.tuple #[]) M'):S_read_Reader_next_J8 (some ⟨b,0,none⟩) M L j n M51 K:=by
 refine⟨by unfold InI;omega,b,0,rfl,h.me.has _ _ (by omega),hw,λM5 hM5 M' hle=>hK M' ?_⟩
 have h5:RdTo b M51 M5 ⟨y.text,y.heads,⟨y.Now.At,(j+n:Nat),y.Now.Node,y.Now.Expr,y.Now.Sign⟩⟩:=by rw[hM5];exact h.me.put _ _ _ rfl
 exact(h.then h5).le' hle
end Go.Proofs.Ytfpmiahbncnecaa.core

namespace Go.Proofs.Ytfpmiahbncnecaa.core
open Go.Gx Go.RowKit Go.ChangeShapes Go.WideShapes Go.ChangeAt
set_option linter.unusedVariables false
theorem unlG_len (q:UInt8):∀(n:Nat) (r:List UInt8),r.length<n->∀(i:Int) (out:List UInt8),0<=i->0<=(unlG q r i out).2.1/\(unlG q r i out).2.1<=i+r.length
 |0,_,h,_,_,_=>absurd h (Nat.not_lt_zero _)
 |n+1,r,h,i,out,hi=>by
  unfold unlG
  split
  ·dsimp only;omega
  ·rename_i c t
   split
   ·simp;omega
   ·split
    ·simp;omega
    ·rename_i hk
     obtain⟨_,_,h0,hl,_⟩:=saidP_ok [39,34,92] (c::t)
     have hd:((c::t).drop ((saidP [39,34,92] (c::t)).2.toNat-1+1)).length=(c::t).length-((saidP [39,34,92] (c::t)).2.toNat-1+1):=List.length_drop ..
     generalize saidP [39,34,92] (c::t)=z at*
     have ih:=unlG_len q n ((c::t).drop (z.2.toNat-1+1)) (by rw[hd];simp only[List.length_cons]at h ⊢;omega) (i+z.2) (out++[z.1.toNat.toUInt8]) (by omega)
     rw[hd]at ih
     omega
theorem unlitP_len (s:List UInt8):(unlitP s).2.1<=s.length:=by
 unfold unlitP
 split
 ·simp
 ·split
  ·simp;omega
  ·rename_i q r _
   have:=(unlG_len q _ r (Nat.lt_succ_self _) 1 [] (by omega)).2
   simp only[List.length_cons];omega
theorem prefix_is (s p:List UInt8) {M:Mem} (K:Value->Prop) (hK:K (.bool (decide (s.take p.length=p)))):S_strings_HasPrefix s p M K:=by
 refine s_internal_stringslite_HasPrefix _ _ _ _ ⟨λh=>⟨by omega,by omega,by omega,⟨_,rfl,?_⟩⟩,λh=>⟨_,rfl,?_⟩⟩
 ·have e:(s.take ((p.length:Nat):Int).toNat).drop (0:Int).toNat=s.take p.length:=by simp
  rw[e]
  by_cases q:s.take p.length=p
  ·rw[decide_eq_true q]at hK;rw[mkS_beq.2 q];exact hK
  ·rw[decide_eq_false q]at hK
   rw[show((mkS (s.take p.length)).toList==(mkS p).toList)=false from Bool.eq_false_iff.2 λg=>q (mkS_beq.1 g)];exact hK
 ·have q:¬s.take p.length=p:=λg=>by
   have:=congrArg List.length g
   rw[List.length_take]at this;omega
  rw[decide_eq_false q]at hK;exact hK
theorem unlitP_pos (s:List UInt8):0<=(unlitP s).2.1:=by
 unfold unlitP
 split
 ·simp
 ·split
  ·simp
  ·rename_i q r _
   exact(unlG_len q _ r (Nat.lt_succ_self _) 1 [] (by omega)).1
theorem spansG_len {s:List UInt8}:∀(n i:Nat) (acc a:List (Int×Int)) (e:Nat),s.length-i<n->spansG s i acc=some (a,e)->i<e/\e<=s.length
 |0,_,_,_,_,h,_=>absurd h (Nat.not_lt_zero _)
 |n+1,i,acc,a,e,h,he=>by
  rw[spansG]at he
  split at he
  ·rename_i hi
   split at he
   ·cases he;omega
   ·split at he
    ·cases he
    ·have:=spansG_len n _ _ a e (by omega) he
     omega
  ·cases he
theorem unclP_len (s:List UInt8):0<=(unclP s).2.1/\(unclP s).2.1<=s.length:=by
 have key:∀(b:Bool) (i:Nat),0<=(unclR b (spansG s i [])).2.1/\(unclR b (spansG s i [])).2.1<=s.length:=λb i=>by
  cases h:spansG s i []with
  |none=>simp[unclR]
  |some p=>
   obtain⟨a,e⟩:=p
   have:=spansG_len _ i [] a e (Nat.lt_succ_self _) h
   simp only[unclR];omega
 unfold unclP
 split
 ·split
  ·exact key _ _
  ·exact key _ _
 ·simp
end Go.Proofs.Ytfpmiahbncnecaa.core

namespace Go.Proofs.Ytfpmiahbncnecaa.core
open Go.Gx Go.RowKit Go.ChangeShapes Go.WideShapes Go.ChangeAt
set_option linter.unusedVariables false
theorem next_is {s:List UInt8} (hs:s.length<=2000) {M:Mem} {L:Nat->Prop} {b:Nat} {hb:Bool} {t0:X_read_Token} (h:RdM M b ⟨s,hb,t0⟩) (hw:Wr L M b) {i:Nat} (hi:i<=s.length) (K:PK)
  (hK:∀tk,tokAt s i=some tk->∀M',RdTo b M M' ⟨s,hb,tk⟩->K (.tuple #[]) M') (hP:tokAt s i=none->K.p (faultP (goOn s i:Nat))):S_read_Reader_next (some ⟨b,0,none⟩) i M L K:=by
 obtain⟨g1,g2⟩:=goOn_le hi
 refine s_read_Reader_skip _ _ _ _ _ (skip_is hs (h.at 0 _ rfl) hi _ λM4 h4=>⟨_,rfl,b,0,rfl,(h.le h4).has _ _ (by omega),hw,λM7 hM7=>?_⟩)
 have h7:RdTo b M4 M7 ⟨s,hb,⟨(goOn s i:Nat),(goOn s i:Nat),false,zE,0⟩⟩:=by rw[hM7];exact(h.le h4).put _ _ _ rfl
 have h7':RdTo b M M7 ⟨s,hb,⟨(goOn s i:Nat),(goOn s i:Nat),false,zE,0⟩⟩:=⟨λk o hk hm=>h7.le k o hk (h4 _ _ hm),h7.me⟩
 clear hM7
 refine⟨b,0,rfl,s,h7.me.at 0 _ rfl,λhe M' hle=>hK _ (by unfold tokAt;rw[if_pos (by omega)]) M' (h7'.le' hle),λhe=>?_⟩
 have hjl:¬goOn s i=s.length:=λe=>he (by rw[e])
 have e0:(s.take ((s.length:Nat):Int).toNat).drop ((goOn s i:Nat):Int).toNat=s.drop (goOn s i):=by rw[Int.toNat_natCast,Int.toNat_natCast,List.take_length]
 obtain⟨c,hc⟩:∃c,s[goOn s i]?=some c:=⟨s[goOn s i]'(by omega),List.getElem?_eq_getElem _⟩
 have hd:=drop_at hc
 have hdl:(s.drop (goOn s i)).length=s.length-goOn s i:=List.length_drop ..
 have tk:∀l,lexL (s.drop (goOn s i))=l->tokAt s i=(match l with
  | .bad=>none
  | .node n k st tx=>some ⟨(goOn s i:Nat),(goOn s i+n:Nat),true,⟨k,st,tx,none,0,0⟩,0⟩
  | .sign n q=>some ⟨(goOn s i:Nat),(goOn s i+n:Nat),false,zE,(q:Nat)⟩):=λl hl=>by
  unfold tokAt
  (rw[if_neg hjl,hl])<;>cases l<;>rfl
 have thr:lexL (s.drop (goOn s i))= .bad->∀K',CallP Try.prog 66 #[.int .i64 (goOn s i:Nat)] M7 (Wr L M) K' (thrK K):=λhl K'=>bad_is _ _ _ _ _ (hP (tk _ hl))
 have nodeK:∀(n:Nat) k st tx,lexL (s.drop (goOn s i))= .node n k st tx->goOn s i+n<=10000->∀M'',RdTo b M M'' ⟨s,hb,⟨(goOn s i:Nat),(goOn s i:Nat),true,⟨k,st,tx,none,0,0⟩,0⟩⟩->S_read_Reader_next_J8 (some ⟨b,0,none⟩) M L (goOn s i:Nat) (n:Nat) M'' K:=λn k st tx hl hn M'' hto=>next_J8 hto hw _ _ hn _ λM' h'=>hK _ (tk _ hl) M' h'
 have signK:∀(n q:Nat),lexL (s.drop (goOn s i))= .sign n q->goOn s i+n<=10000->∀M'',RdTo b M M'' ⟨s,hb,⟨(goOn s i:Nat),(goOn s i:Nat),false,zE,(q:Nat)⟩⟩->S_read_Reader_next_J8 (some ⟨b,0,none⟩) M L (goOn s i:Nat) (n:Nat) M'' K:=λn q hl hn M'' hto=>next_J8 hto hw _ _ hn _ λM' h'=>hK _ (tk _ hl) M' h'
 have wr7:∀M'' y,RdTo b M M'' y->Wr (Wr L M) M'' b:=λ_ _ _=>.inl hw
 refine⟨b,0,rfl,s,h7.me.at 0 _ rfl,by omega,by omega,by omega,c,by omega,by rw[e0,hd];rfl,?_⟩
 have j1:∀v:Bool,(v=true↔c.toNat=39\/c.toNat=34)->S_read_Reader_next_J1 (some ⟨b,0,none⟩) M L (goOn s i:Nat) M7 s c v K:=λv hv=>by
  unfold S_read_Reader_next_J1
  rw[e0]
  refine⟨λht=>?_,λht=>?_⟩
  ·have hq:=hv.1 ht
   have ul:=unlitP_len (s.drop (goOn s i))
   have up:=unlitP_pos (s.drop (goOn s i))
   refine s_quote_Unlit _ _ _ (qunlit_is _ (by omega) _ _ ⟨_,_,_,rfl,λhbad=>?_,λhok=>?_⟩)
   ·exact thr (by rw[hd,lexL,if_pos hq,if_pos (by rw[<-hd];exact hbad)]) _
   ·have hok:(unlitP (s.drop (goOn s i))).2.2=0:=Classical.not_not.1 hok
    obtain⟨n,hn⟩:=Int.eq_ofNat_of_zero_le up
    have hl0:lexL (s.drop (goOn s i))=if (unlitP (s.drop (goOn s i))).1=[] then .node n 1 zS [] else .node n 3 zS (unlitP (s.drop (goOn s i))).1:=by
     conv=>lhs;rw[hd]
     rw[lexL,if_pos hq,<-hd,if_neg (λg=>g hok),hn];rfl
    refine s_read_Reader_node _ _ _ _ _ (node_is h7.me (wr7 _ _ h7') _ _ λM8 h8=>⟨rfl,λh0=>?_,λh0=>?_⟩)
    ·refine s_read_Reader_node _ _ _ _ _ (node_is h8.me (wr7 _ _ (h7'.then h8)) _ _ λM9 h9=>⟨rfl,?_⟩)
     rw[if_pos h0]at hl0
     rw[hn]
     exact nodeK n 1 zS [] hl0 (by omega) M9 ((h7'.then h8).then h9)
    ·rw[if_neg h0]at hl0
     rw[hn]
     exact nodeK n 3 zS _ hl0 (by omega) M8 (h7'.then h8)
  ·have hq:¬(c.toNat=39\/c.toNat=34):=λg=>ht (hv.2 g)
   have hlx:lexL (s.drop (goOn s i))=(if c.toNat=91 then(if (unclP (s.drop (goOn s i))).2.2≠0 then .bad else .node (unclP (s.drop (goOn s i))).2.1.toNat 2 (unclP (s.drop (goOn s i))).1 []) else if c.toNat=46 then .node 1 2 allS [] else if c∈signsL then .sign 1 c.toNat else if c.toNat=60/\(s.drop (goOn s i)).take 2=[60,45] then .sign 2 60 else if letB c=true then .node (1+nameN (s.drop (goOn s i+1))) 4 zS ((s.drop (goOn s i)).take (1+nameN (s.drop (goOn s i+1)))) else .bad):=by
    conv=>lhs;rw[hd]
    rw[lexL,if_neg hq,<-hd]
   refine⟨λh91=>?_,λh91=>⟨λh46=>?_,λh46=>?_⟩⟩
   ·have h91:c.toNat=91:=by omega
    rw[if_pos h91]at hlx
    obtain⟨up,ul⟩:=unclP_len (s.drop (goOn s i))
    obtain⟨n,hn⟩:=Int.eq_ofNat_of_zero_le up
    refine s_quote_Unclass _ _ _ (quncl_is (by omega) _ ⟨_,_,_,rfl,λhbad=>thr (by rw[hlx,if_pos hbad]) _,λhok=>?_⟩)
    rw[if_neg hok]at hlx
    refine s_read_Reader_node _ _ _ _ _ (node_is h7.me (wr7 _ _ h7') _ _ λM8 h8=>⟨rfl,?_⟩)
    rw[hn]at hlx ⊢
    exact nodeK n 2 _ [] hlx (by omega) M8 (h7'.then h8)
   ·have h46:c.toNat=46:=by omega
    rw[if_neg (by omega),if_pos h46]at hlx
    refine s_set_Range _ _ _ _ (range_is _ _ _ ⟨_,rfl,?_⟩)
    rw[show Us (inR 0 255)=allS from Us_congr λb hb=>by unfold inR;simp;omega]
    refine s_read_Reader_node _ _ _ _ _ (node_is h7.me (wr7 _ _ h7') _ _ λM8 h8=>⟨rfl,?_⟩)
    exact nodeK 1 2 _ [] hlx (by omega) M8 (h7'.then h8)
   ·rw[if_neg (by omega),if_neg (by omega)]at hlx
    refine s_strings_IndexByte _ _ _ _ (indexByte_is _ c _ _ ⟨_,rfl,?_⟩)
    have hmem:=idxB_mem signsL c
    refine⟨λhge=>?_,λhlt=>?_⟩
    ·have hin:c∈signsL:=of_decide_eq_true (hmem▸decide_eq_true hge)
     rw[if_pos hin]at hlx
     refine⟨b,0,rfl,h7.me.has _ _ (by omega),hw,λM8 hM8=>?_⟩
     have h8:RdTo b M7 M8 ⟨s,hb,⟨(goOn s i:Nat),(goOn s i:Nat),false,zE,(c.toNat:Nat)⟩⟩:=by rw[hM8];exact h7.me.put _ _ _ rfl
     exact signK 1 _ hlx (by omega) M8 (h7'.then h8)
    ·have hin:c∉signsL:=λhin=>hlt (of_decide_eq_true (hmem.trans (decide_eq_true hin)))
     rw[if_neg hin]at hlx
     have j4f:¬(c.toNat=60/\(s.drop (goOn s i)).take 2=[60,45])->S_read_Reader_next_J4 (some ⟨b,0,none⟩) M L (goOn s i:Nat) M7 s c false K:=λhna=>by
      rw[if_neg hna]at hlx
      unfold S_read_Reader_next_J4
      rw[e0]
      refine⟨λe=>by simp at e,λ_=>?_⟩
      have fin_:∀k:Nat,k<=(s.drop (goOn s i+1)).length->k=nameN (s.drop (goOn s i+1))->∀(I:Int->Prop) (mu:Int->Nat),S_read_Reader_next_J5 (some ⟨b,0,none⟩) M L (goOn s i:Nat) M7 s c ((1+k:Nat):Int) I mu false K:=λk hkl hk I mu=>by
       rw[List.length_drop]at hkl
       refine⟨λe=>by simp at e,λ_=>s_read_letter _ _ _ (rletter_is c _ _ ⟨_,rfl,?_⟩)⟩
       have bad_:letB c=false->S_read_Reader_next_J6 (some ⟨b,0,none⟩) M L (goOn s i:Nat) M7 s ((1+k:Nat):Int) true K:=λhl=>⟨λ_=>thr (by rw[hlx,if_neg (by rw[hl];simp)]) _,λe=>absurd rfl e⟩
       have good_:letB c=true->S_read_Reader_next_J6 (some ⟨b,0,none⟩) M L (goOn s i:Nat) M7 s ((1+k:Nat):Int) false K:=λhl=>by
        refine⟨λe=>by simp at e,λ_=>?_⟩
        unfold S_read_Reader_next_J7
        rw[e0]
        refine⟨by omega,by omega,by rw[hdl];omega,s_read_Reader_node _ _ _ _ _ (node_is h7.me (wr7 _ _ h7') _ _ λM8 h8=>⟨rfl,?_⟩)⟩
        rw[if_pos hl,<-hk]at hlx
        exact nodeK (1+k) 4 _ _ hlx (by omega) M8 (h7'.then h8)
       refine⟨λhn=>bad_ ?_,λhn=>⟨λh48=>?_,λh48=>?_⟩⟩
       ·have:nmB c=false:=by simpa using hn
        unfold nmB at this
        rw[Bool.or_eq_false_iff]at this;exact this.1
       ·by_cases h57:(c.toNat:Int)<=57
        ·rw[decide_eq_true h57]
         refine bad_ ?_
         unfold letB;simp;omega
        ·rw[decide_eq_false h57]
         have:nmB c=true:=by simpa using hn
         refine good_ ?_
         unfold nmB digB at this;simp at this
         rcases this with h|h
         ·exact h
         ·omega
       ·have:nmB c=true:=by simpa using hn
        refine good_ ?_
        unfold nmB digB at this;simp at this
        rcases this with h|h
        ·exact h
        ·omega
      refine⟨λx=>∃k:Nat,x=((1+k:Nat):Int)/\k<=(s.drop (goOn s i+1)).length/\nameN (s.drop (goOn s i+1))=k+nameN ((s.drop (goOn s i+1)).drop k),λx=>5000-x.toNat,⟨0,rfl,by omega,by simp⟩,λx ⟨k,hx,hk,hn⟩=>?_⟩
      subst hx
      have hrl:(s.drop (goOn s i+1)).length=s.length-(goOn s i+1):=List.length_drop ..
      refine⟨λhlt=>?_,λhge=>?_⟩
      ·rw[hdl]at hlt
       obtain⟨d,hdd⟩:∃d,(s.drop (goOn s i+1))[k]?=some d:=⟨(s.drop (goOn s i+1))[k]'(by omega),List.getElem?_eq_getElem _⟩
       refine⟨d,by omega,?_,s_read_letter _ _ _ (rletter_is d _ _ ⟨_,rfl,?_⟩)⟩
       ·rw[Int.toNat_natCast,hd,Nat.add_comm 1 k,List.getElem?_cons_succ];exact hdd
       ·cases hnd:nmB d with
        |true=>
         refine⟨λ_=>⟨by unfold InI;omega,⟨k+1,by omega,by omega,?_⟩,by dsimp only;omega⟩,λe=>absurd rfl e⟩
         rw[hn,drop_at hdd,nameN,if_pos hnd];omega
        |false=>
         refine fin_ k hk ?_ _ _
         rw[hn,drop_at hdd,nameN,if_neg (by rw[hnd];simp)];rfl
      ·rw[hdl]at hge
       refine fin_ k hk ?_ _ _
       rw[hn,List.drop_of_length_le (by omega),nameN];rfl
     refine⟨λh60=>?_,λh60=>j4f (λg=>h60 (by omega))⟩
     have h60:c.toNat=60:=by omega
     refine s_strings_HasPrefix _ _ _ _ (prefix_is _ _ _ ⟨_,rfl,?_⟩)
     by_cases ht2:(s.drop (goOn s i)).take 2=[60,45]
     ·rw[show decide ((s.drop (goOn s i)).take ([60,45]:List UInt8).length=[60,45])=true from decide_eq_true ht2]
      rw[if_pos ⟨h60,ht2⟩]at hlx
      refine⟨λ_=>⟨b,0,rfl,h7.me.has _ _ (by omega),hw,λM8 hM8=>?_⟩,λe=>absurd rfl e⟩
      have h8:RdTo b M7 M8 ⟨s,hb,⟨(goOn s i:Nat),(goOn s i:Nat),false,zE,(60:Nat)⟩⟩:=by rw[hM8];exact h7.me.put _ _ _ rfl
      exact signK 2 60 hlx (by omega) M8 (h7'.then h8)
     ·rw[show decide ((s.drop (goOn s i)).take ([60,45]:List UInt8).length=[60,45])=false from decide_eq_false ht2]
      exact j4f (λg=>ht2 g.2)
 refine⟨λh39=>j1 true ⟨λ_=>by omega,λ_=>rfl⟩,λh39=>j1 _ ⟨λe=>by simp at e;omega,λe=>by simp;omega⟩⟩
end Go.Proofs.Ytfpmiahbncnecaa.core

namespace Go.Proofs.Ytfpmiahbncnecaa.core
open Go.Gx Go.RowKit Go.ChangeShapes Go.WideShapes Go.ChangeAt
set_option linter.unusedVariables false
theorem go_is {s:List UInt8} (hs:s.length<=2000) {M:Mem} {L:Nat->Prop} {b:Nat} {hb:Bool} {t0:X_read_Token} (h:RdM M b ⟨s,hb,t0⟩) (hw:Wr L M b) {e:Nat} (ht:t0.To=(e:Nat)) (he:e<=s.length) (K:PK)
  (hK:∀tk,tokAt s e=some tk->∀M',RdTo b M M' ⟨s,hb,tk⟩->K (.tuple #[]) M') (hP:tokAt s e=none->K.p (faultP (goOn s e:Nat))):S_read_Reader_Go (some ⟨b,0,none⟩) M L K:=by
 refine⟨b,0,rfl,(e:Nat),h.at 3 _ (by rw[<-ht];rfl),s_read_Reader_next _ _ _ _ ⟨λv M5=>v= .tuple #[]/\∀M',M5.le M'->K (.tuple #[]) M',K.p⟩ (next_is hs h (.inl hw) he _ (λtk htk M' hto=>⟨rfl,λM'' hle=>hK tk htk M'' (hto.le' hle)⟩) hP)⟩
theorem over_is {M:Mem} {L:Nat->Prop} {b:Nat} {x:X_read_Reader} (h:RdM M b x) (K:Value->Mem->Prop) (hK:∀M',M.le M'->K (.bool (!x.Now.Node&&x.Now.Sign==0)) M'):S_read_Reader_Over (some ⟨b,0,none⟩) M L K:=by
 refine⟨b,0,rfl,x.Now.Node,h.at 4 _ rfl,λhn=>⟨b,0,rfl,x.Now.Sign,h.at 12 _ rfl,λM' hle=>?_⟩,λhn M' hle=>?_⟩
 ·have:=hK M' hle
  rw[show x.Now.Node=false by simpa using hn]at this
  exact this
 ·have:=hK M' hle
  rw[show x.Now.Node=true by simpa using hn]at this
  exact this
end Go.Proofs.Ytfpmiahbncnecaa.core

namespace Go.Proofs.Ytfpmiahbncnecaa.core
open Go.Gx Go.RowKit Go.ChangeShapes Go.WideShapes Go.ChangeAt
set_option linter.unusedVariables false
def tkR (k:Int) (j:Nat) (e:X_api_Expr) (nm:List UInt8):X_chaffref_token:=⟨k,(j:Nat),e,nm⟩
def arrB (s:List UInt8) (j:Nat):Bool:=decide ((s.drop j).take 2=[60,45])
def toksF (s:List UInt8) (hb:Bool):Nat->Nat->List X_chaffref_token
 |0,_=>[]
 |f+1,i=>if goOn s i=s.length then[tkR 101 (goOn s i) zE []] else match lexL (s.drop (goOn s i))with
  | .bad=>[tkR 33 (goOn s i) zE []]
  | .node n k st tx=>if k=4/\hb=true/\arrB s (goOn s (goOn s i+n))=true then tkR 104 (goOn s i) ⟨k,st,tx,none,0,0⟩ tx::toksF s hb f (goOn s (goOn s i+n)+2)
   else tkR 110 (goOn s i) ⟨k,st,tx,none,0,0⟩ (if k=4 then tx else[])::toksF s hb f (goOn s i+n)
  | .sign n c=>tkR (if c=33 then 126 else(c:Int)) (goOn s i) zE []::toksF s hb f (goOn s i+n)
theorem Xk_len (x:X_chaffref_token):x.cells.length=10:=rfl
theorem ckl_put (l:List X_chaffref_token) (x:X_chaffref_token):cl X_chaffref_token.cells l++x.cells=cl X_chaffref_token.cells (l++[x]):=by simp[cl]
theorem lex_len {t:List UInt8}:(∀n k st tx,lexL t= .node n k st tx->n<=t.length)/\(∀n c,lexL t= .sign n c->n<=t.length):=by
 have ul:=unlitP_len t
 have up:=unclP_len t
 refine⟨λn k st tx h=>?_,λn c h=>?_⟩
 ·unfold lexL at h
  split at h
  ·cases h
  ·rename_i c r
   have hn:=nameN_len r
   repeat' split at h
   all_goals first
    |(cases h;done)
    |(cases h;simp only[List.length_cons]at ul up ⊢;omega)
 ·unfold lexL at h
  split at h
  ·cases h
  ·rename_i c r
   repeat' split at h
   all_goals first
    |(cases h;done)
    |(rename_i hc;cases h;have:=congrArg List.length hc.2;rw[List.length_take]at this;simp only[List.length_cons,List.length_nil]at this ⊢;omega)
    |(cases h;simp only[List.length_cons]at ul up ⊢;omega)
end Go.Proofs.Ytfpmiahbncnecaa.core

namespace Go.Proofs.Ytfpmiahbncnecaa.core
open Go.Gx Go.RowKit Go.ChangeShapes Go.WideShapes Go.ChangeAt
set_option linter.unusedVariables false
theorem unlG_pos (q:UInt8):∀(n:Nat) (r:List UInt8),r.length<n->∀(i:Int) (out:List UInt8),(unlG q r i out).2.2=0->i<(unlG q r i out).2.1
 |0,_,h,_,_=>absurd h (Nat.not_lt_zero _)
 |n+1,r,h,i,out=>by
  unfold unlG
  split
  ·intro e;cases e
  ·rename_i c t
   split
   ·intro _;simp;omega
   ·split
    ·intro e;cases e
    ·rename_i hk
     obtain⟨_,_,h0,hl,_⟩:=saidP_ok [39,34,92] (c::t)
     have hd:((c::t).drop ((saidP [39,34,92] (c::t)).2.toNat-1+1)).length=(c::t).length-((saidP [39,34,92] (c::t)).2.toNat-1+1):=List.length_drop ..
     generalize saidP [39,34,92] (c::t)=z at*
     intro e
     have ih:=unlG_pos q n ((c::t).drop (z.2.toNat-1+1)) (by rw[hd];simp only[List.length_cons]at h ⊢;omega) (i+z.2) (out++[z.1.toNat.toUInt8]) e
     omega
theorem unlitP_one {s:List UInt8} (h:(unlitP s).2.2=0):1<(unlitP s).2.1:=by
 unfold unlitP at h ⊢
 split at h
 ·cases h
 ·split at h
  ·cases h
  ·rename_i q r hq
   rw[if_neg hq]
   exact unlG_pos q _ r (Nat.lt_succ_self _) 1 [] h
theorem unclP_one {s:List UInt8} (h:(unclP s).2.2=0):1<(unclP s).2.1:=by
 have key:∀(b:Bool) (i:Nat),1<=i->(unclR b (spansG s i [])).2.2=0->1<(unclR b (spansG s i [])).2.1:=λb i hi=>by
  cases hp:spansG s i []with
  |none=>intro e;cases e
  |some p=>
   obtain⟨a,e⟩:=p
   have:=spansG_len _ i [] a e (Nat.lt_succ_self _) hp
   intro _
   simp only[unclR];omega
 unfold unclP at h ⊢
 split at h
 ·rename_i h0
  rw[if_pos h0]
  split at h
  ·rename_i h1;rw[if_pos h1];exact key _ _ (by omega) h
  ·rename_i h1;rw[if_neg h1];exact key _ _ (by omega) h
 ·cases h
theorem lex_pos {t:List UInt8}:(∀n k st tx,lexL t= .node n k st tx->1<=n)/\(∀n c,lexL t= .sign n c->1<=n):=by
 have ul:= @unlitP_one t
 have up:= @unclP_one t
 refine⟨λn k st tx h=>?_,λn c h=>?_⟩
 ·unfold lexL at h
  split at h
  ·cases h
  ·repeat' split at h
   all_goals first
    |(cases h;done)
    |(rename_i hz _;cases h;have:=ul (Classical.not_not.1 hz);omega)
    |(rename_i hz;cases h;have:=up (Classical.not_not.1 hz);omega)
    |(cases h;omega)
 ·unfold lexL at h
  split at h
  ·cases h
  ·repeat' split at h
   all_goals first
    |(cases h;done)
    |(cases h;omega)
end Go.Proofs.Ytfpmiahbncnecaa.core

namespace Go.Proofs.Ytfpmiahbncnecaa.core
open Go.Gx Go.RowKit Go.ChangeShapes Go.WideShapes Go.ChangeAt
set_option linter.unusedVariables false
def pC (p:Int×Int):List Value:=[.int .i64 p.1,.int .i64 p.2]
theorem pC2:∀p,(pC p).length=2:=λ_=>rfl
theorem has_span {acc:List (Int×Int)} {M:Mem} {A:Option Addr} {c:Nat} (hsl:SlV M A acc.length c 2 (cl pC acc)) (b:Nat) {b4:Nat} (hb:At M b4 0 [.int .i64 (b:Int)]) {K:Value->Prop} (hK:K (.bool (inS acc b))):S_slices_ContainsFunc_2_int A acc.length c (.func (.func 60) #[] #[.pointer (some ⟨b4,0,none⟩)]) M K:=by
 unfold S_slices_ContainsFunc_2_int
 have hm:=hsl.max
 refine s_slices_IndexFunc_2_int _ _ _ _ _ _ ?_
 unfold S_slices_IndexFunc_2_int
 refine⟨λx=>∃k:Nat,x=k/\k<=acc.length/\∀(i:Nat) p,i<k->acc[i]?=some p->¬(p.1<=b/\(b:Int)<=p.2),λx=>(acc.length-x).toNat,⟨0,rfl,Nat.zero_le _,λi p h=>by omega⟩,λx ⟨k,hx,hk,hno⟩=>?_⟩
 subst hx
 refine⟨λhlt=>?_,λhge=>⟨_,rfl,?_⟩⟩
 ·obtain⟨p,hp⟩:=getN (l:=acc) (i:=k) (by omega)
  obtain⟨b0,o,ha,hat⟩:=hsl.at pC2 rfl hp
  have fin:∀v:Bool,v=decide (p.1<=b/\(b:Int)<=p.2)->(v=true->K (.bool (decide ((k:Int)>=0))))/\(¬v=true->(InI ((k:Int)+1)/\(∃k2:Nat,(k:Int)+1=k2/\k2<=acc.length/\∀(i:Nat) p,i<k2->acc[i]?=some p->¬(p.1<=b/\(b:Int)<=p.2))/\(acc.length-((k:Int)+1)).toNat<(acc.length-(k:Int)).toNat)):=λv hv=>by
   refine⟨λh=>?_,λh=>⟨by unfold InI;omega,⟨k+1,by omega,by omega,λi q g1 g2=>?_⟩,by omega⟩⟩
   ·have:inS acc b=true:=by
     unfold inS
     rw[List.any_eq_true]
     exact⟨p,List.mem_of_getElem? hp,by rw[<-hv];exact h⟩
    rw[this]at hK
    simpa using hK
   ·by_cases hi:i=k
    ·subst hi
     rw[hp]at g2
     cases g2
     intro g
     exact h (by rw[hv];simpa using g)
    ·exact hno i q (by omega) g2
  refine⟨b0,o,ha,by omega,by omega,⟨p.1,p.2⟩,hat,f_chaffref_Unclass_2_1 _ _ _ _ ⟨_,hb,λh1=>⟨_,hb,_,rfl,?_⟩,λh1=>⟨_,rfl,?_⟩⟩⟩
  ·obtain⟨f1,f2⟩:=fin (decide ((b:Int)<=p.2)) (by rw[decide_eq_decide];exact⟨λh=>⟨h1,h⟩,λh=>h.2⟩)
   exact⟨λh=>⟨_,rfl,f1 h⟩,λh=>f2 h⟩
  ·obtain⟨f1,f2⟩:=fin false (by rw[Bool.false_eq,decide_eq_false_iff_not];exact λh=>h1 h.1)
   exact⟨λh=>⟨_,rfl,f1 h⟩,λh=>f2 h⟩
 ·have:inS acc b=false:=by
   unfold inS
   rw[List.any_eq_false]
   intro p hp
   obtain⟨i,hi⟩:=List.mem_iff_getElem?.1 hp
   have:=hno i p (by have:=(List.getElem?_eq_some_iff.1 hi).1;omega) hi
   simpa using this
  rw[this]at hK
  exact hK
theorem runcl_loop {s:List UInt8} (hs:s.length<=1048576) {i0:Nat} (hi0:i0<=s.length) (not:Bool) {M:Mem} (K:Value->Prop) (hK:K (outS (unclR not (spansG s i0 [])))):S_chaffref_Unclass_J3 s M not (i0:Int) K:=by
 unfold S_chaffref_Unclass_J3
 refine⟨λi n rx=>∃(j:Nat) (acc:List (Int×Int)),i=j/\j<=s.length/\n=acc.length/\rx=cl pC acc/\acc.length<=j/\spansG s j acc=spansG s i0 [],λi _ _=>(s.length-i).toNat,⟨i0,[],rfl,hi0,rfl,rfl,Nat.zero_le _,rfl⟩,λi n rx ⟨j,acc,hi,hj,hn,hrx,hal,hrun⟩=>?_⟩
 subst hi;subst hn;subst hrx
 have bad:spansG s i0 []=none->CallE Try.prog 56 #[] M (λv _=>∃(x97:X_api_Set) (x98:Int) (x99:Int),v=(Value.tuple #[x97.val,(Value.int .i64 x98),(Value.int .i64 x99)])/\K (Value.tuple #[x97.val,(Value.int .i64 x98),(Value.int .i64 x99)])):=λh=>by
  refine s_chaffref_Unclass_1 _ _ ⟨_,_,_,rfl,?_⟩
  rw[h]at hK;exact hK
 have stop:s.length<=j\/(∃c,s[j]?=some c/\c.toNat=93)->S_chaffref_Unclass_J4 s M not (j:Int) acc.length (cl pC acc) (λi n rx=>∃(j:Nat) (acc:List (Int×Int)),i=j/\j<=s.length/\n=acc.length/\rx=cl pC acc/\acc.length<=j/\spansG s j acc=spansG s i0 []) (λi _ _=>(s.length-i).toNat) false K:=λh=>by
  unfold S_chaffref_Unclass_J4
  refine⟨λh=>by simp at h,λ_=>⟨λhge=>bad (by rw[<-hrun,spansG_out (by omega)]),λhlt=>?_⟩⟩
  obtain⟨c,hc,h93⟩:∃c,s[j]?=some c/\c.toNat=93:=by
   rcases h with h|h
   ·omega
   ·exact h
  rw[spansG_end hc h93]at hrun
  rw[<-hrun]at hK
  intro M2 ad cap _ hsl M3 b13 hle3 hat3 M4 b10 hle4 hat4
  refine s_chaffref_Where _ _ _ (where_is _ _ (λb=>inS acc b != not) (λb hb=>?_) _ ⟨_,rfl,by unfold InI;omega,hK⟩)
  refine f_chaffref_Unclass_2 _ _ _ _ _ ⟨_,_,_,hat3.le hle4,_,hat4,λM5 b4 hle5 hat5=>?_⟩
  refine s_slices_ContainsFunc_2_int _ _ _ _ _ _ (has_span (((hsl.le hle3).le hle4).le hle5) b hat5 ⟨_,rfl,?_⟩)
  rfl
 refine⟨λhlt=>?_,λhge=>stop (.inl (by omega))⟩
 obtain⟨c,hc⟩:=getN (l:=s) (i:=j) (by omega)
 refine⟨c,by omega,by simpa using hc,?_⟩
 by_cases h93:c.toNat=93
 ·rw[show((c.toNat:Int) != (93:Int))=false by simp;omega];exact stop (.inr ⟨c,hc,h93⟩)
 rw[show((c.toNat:Int) != (93:Int))=true by simp;omega]
 rw[spansG_in hc (by omega)]at hrun
 unfold S_chaffref_Unclass_J4
 rw[take_all,show(j:Int).toNat=j from rfl]
 have hok:=saidP_ok clSg (s.drop j)
 rw[List.length_drop]at hok
 refine⟨λ_=>⟨by omega,by omega,by omega,s_chaffref_said _ _ _ _ (said_is _ clSg (by decide) (by decide) _ _ ⟨_,_,rfl,λhz=>bad ?_,λhz=>⟨by unfold InI;omega,by unfold InI;omega,?_⟩⟩)⟩,λh=>absurd rfl h⟩
 ·rw[<-hrun,spanP,if_pos hz]
 obtain⟨n,hn⟩:∃n:Nat,(saidP clSg (s.drop j)).2=n:=⟨(saidP clSg (s.drop j)).2.toNat,by omega⟩
 unfold spanP at hrun
 rw[hn]at hok hrun hz ⊢
 rw[if_neg hz]at hrun
 generalize hlow:(saidP clSg (s.drop j)).1=low at*
 have step:∀(k:Nat) (high:Int),j<k->k<=s.length->spansG s k (acc++[(low,high)])=spansG s i0 []->S_chaffref_Unclass_J7 (j:Int) acc.length (cl pC acc) (λi n rx=>∃(j:Nat) (acc:List (Int×Int)),i=j/\j<=s.length/\n=acc.length/\rx=cl pC acc/\acc.length<=j/\spansG s j acc=spansG s i0 []) (λi _ _=>(s.length-i).toNat) low (k:Int) high K:=λk high h3 h4 h5=>by
  unfold S_chaffref_Unclass_J7
  exact⟨by omega,⟨k,acc++[(low,high)],rfl,h4,by simp,by rw[<-cl_snoc];rfl,by simp;omega,h5⟩,by dsimp only;omega⟩
 have plain:dash (s.drop j) n=false->S_chaffref_Unclass_J5 s M (j:Int) acc.length (cl pC acc) (λi n rx=>∃(j:Nat) (acc:List (Int×Int)),i=j/\j<=s.length/\n=acc.length/\rx=cl pC acc/\acc.length<=j/\spansG s j acc=spansG s i0 []) (λi _ _=>(s.length-i).toNat) low (n:Int) false K:=λh=>by
  unfold S_chaffref_Unclass_J5
  refine⟨λh=>by simp at h,λ_=>?_⟩
  rw[show(n:Int).toNat=n from rfl,h]at hrun
  simp only[Bool.false_eq_true,if_false]at hrun
  rw[show(j:Int)+(n:Int)=((j+n:Nat):Int) by omega]
  refine step _ _ (by omega) (by omega) ?_
  rw[<-hrun]
  congr 1
  show j+n=j+((n:Int).toNat-1)+1
  omega
 refine⟨λhl=>?_,λhl=>plain (dash_no (by omega))⟩
 obtain⟨d,hd⟩:=getN (l:=s) (i:=j+n) (by omega)
 obtain⟨e,he⟩:=getN (l:=s) (i:=j+n+1) (by omega)
 have hda:=dash_is hd he
 have t1:((j:Int)+(n:Int)).toNat=j+n:=by omega
 have t2:((j:Int)+(n:Int)+1).toNat=j+n+1:=by omega
 rw[t1,t2]
 refine⟨d,by omega,hd,λh45=>⟨by unfold InI;omega,e,by omega,he,?_⟩,λh45=>plain (by rw[hda];simp;omega)⟩
 by_cases h93:e.toNat=93
 ·rw[show((e.toNat:Int) != (93:Int))=false by simp;omega]
  exact plain (by rw[hda];simp[h93])
 ·rw[show((e.toNat:Int) != (93:Int))=true by simp;omega]
  have hdt:dash (s.drop j) n=true:=by rw[hda];simp[h93];omega
  rw[show(n:Int).toNat=n from rfl,hdt,if_pos rfl,List.drop_drop]at hrun
  have hok2:=saidP_ok clSg (s.drop (j+n+1))
  rw[List.length_drop]at hok2
  rw[show j+(n+1)=j+n+1 by omega]at hrun
  unfold S_chaffref_Unclass_J5
  rw[take_all,t2]
  refine⟨λ_=>⟨by unfold InI;omega,by omega,by omega,by omega,s_chaffref_said _ _ _ _ (said_is _ clSg (by decide) (by decide) _ _ ⟨_,_,rfl,?_⟩)⟩,λh=>absurd rfl h⟩
  have bad2:(saidP clSg (s.drop (j+n+1))).2=0\/(saidP clSg (s.drop (j+n+1))).1<low->∀x y,S_chaffref_Unclass_J6 M (j:Int) acc.length (cl pC acc) (λi n rx=>∃(j:Nat) (acc:List (Int×Int)),i=j/\j<=s.length/\n=acc.length/\rx=cl pC acc/\acc.length<=j/\spansG s j acc=spansG s i0 []) (λi _ _=>(s.length-i).toNat) low (n:Int) x y true K:=λh x y=>by
   unfold S_chaffref_Unclass_J6
   refine⟨λ_=>bad ?_,λh=>absurd rfl h⟩
   rw[<-hrun,if_pos h]
  refine⟨λh0=>bad2 (.inl h0) _ _,λh0=>?_⟩
  by_cases hlt2:(saidP clSg (s.drop (j+n+1))).1<low
  ·rw[show decide ((saidP clSg (s.drop (j+n+1))).1<low)=true by simp[hlt2]];exact bad2 (.inr hlt2) _ _
  rw[show decide ((saidP clSg (s.drop (j+n+1))).1<low)=false by simp;omega]
  rw[if_neg (by omega)]at hrun
  obtain⟨m,hm⟩:∃m:Nat,(saidP clSg (s.drop (j+n+1))).2=m:=⟨(saidP clSg (s.drop (j+n+1))).2.toNat,by omega⟩
  rw[hm]at hrun hok2 h0 ⊢
  unfold S_chaffref_Unclass_J6
  refine⟨λh=>by simp at h,λ_=>⟨by unfold InI;omega,by unfold InI;omega,?_⟩⟩
  rw[show(j:Int)+(n:Int)+((m:Int)+1)=((j+n+(1+m):Nat):Int) by omega]
  refine step _ _ (by omega) (by omega) ?_
  rw[<-hrun]
  show _=spansG s (j+(((n:Int)+(1+(m:Int))).toNat-1)+1) _
  congr 1
  omega
theorem runcl_is {s:List UInt8} (hs:s.length<=1048576) {M:Mem} (K:Value->Prop) (hK:K (outS (unclP s))):S_chaffref_Unclass s M K:=by
 have bad:s[0]?≠some 91->S_chaffref_Unclass_J1 s M true K:=λh=>by
  unfold S_chaffref_Unclass_J1
  refine⟨λ_=>s_chaffref_Unclass_1 _ _ ⟨_,_,_,rfl,?_⟩,λh=>absurd rfl h⟩
  unfold unclP at hK
  rw[if_neg h]at hK;exact hK
 unfold S_chaffref_Unclass
 refine⟨λh=>bad (by rw[h];simp),λhne=>?_⟩
 obtain⟨c,r,rfl⟩:=List.exists_cons_of_ne_nil hne
 refine⟨c,by omega,rfl,?_⟩
 by_cases h91:c.toNat=91
 ·rw[show((c.toNat:Int) != (91:Int))=false by simp;omega]
  have h0:(c::r)[0]?=some 91:=byte_val rfl h91
  unfold unclP at hK
  rw[if_pos h0]at hK
  unfold S_chaffref_Unclass_J1
  have two:∀b:Bool,(b=true->(c::r)[1]?=some 94/\2<=(c::r).length)->(b=false->(c::r)[1]?≠some 94)->S_chaffref_Unclass_J2 (c::r) M b K:=λb h1 h2=>by
   unfold S_chaffref_Unclass_J2
   refine⟨λh=>?_,λh=>?_⟩
   ·obtain⟨g1,g2⟩:=h1 h
    rw[if_pos g1]at hK
    rw[h]
    exact runcl_loop hs g2 true K hK
   ·have h:b=false:=by simpa using h
    rw[if_neg (h2 h)]at hK
    rw[h]
    exact runcl_loop hs (by simp) false K hK
  refine⟨λh=>by simp at h,λ_=>⟨λhl=>?_,λhl=>two false (λh=>by cases h) λ_ h=>?_⟩⟩
  ·obtain⟨d,hd⟩:=getN (l:=c::r) (i:=1) (by omega)
   refine⟨d,by omega,hd,two _ (λh=>⟨byte_val hd (beq94 h),by omega⟩) λh h2=>?_⟩
   rw[hd]at h2
   cases h2
   simp at h
  ·have:=(List.getElem?_eq_some_iff.1 h).1
   omega
 ·rw[show((c.toNat:Int) != (91:Int))=true by simp;omega]
  refine bad λh=>h91 ?_
  cases h;rfl
end Go.Proofs.Ytfpmiahbncnecaa.core

namespace Go.Proofs.Ytfpmiahbncnecaa.core
open Go.Gx Go.RowKit Go.ChangeShapes Go.WideShapes Go.ChangeAt
set_option linter.unusedVariables false
theorem arr_le {s:List UInt8} {j:Nat} (h:arrB s j=true):j+2<=s.length:=by
 have:=congrArg List.length (of_decide_eq_true h)
 rw[List.length_take,List.length_drop]at this
 simp only[List.length_cons,List.length_nil]at this
 omega
theorem rfull_is {M:Mem} (K:Value->Prop) (hK:K allS.val):S_chaffref_Full M K:=
 s_chaffref_Where _ _ _ (where_is _ _ (λ_=>true) (λx _=>f_chaffref_Full_1 _ _ _ rfl) _ ⟨_,rfl,hK⟩)
theorem tokens_is {s:List UInt8} (hs:s.length<=2000) (hb:Bool) {M:Mem} (K:Value->Mem->Prop) (hK:∀M' A c,M.le M'->SlV M' A (toksF s hb 2001 0).length c 10 (cl X_chaffref_token.cells (toksF s hb 2001 0))->K (.slice A (toksF s hb 2001 0).length c) M'):S_chaffref_tokens s hb M K:=by
 obtain⟨T,hTd⟩:∃T,T=toksF s hb 2001 0:=⟨_,rfl⟩
 rw[<-hTd]at hK
 let I0:Int->Nat->List Value->Prop:=λi rn rx=>∃(j f:Nat) (acc:List X_chaffref_token),i=j/\j<=s.length/\s.length<j+f/\T=acc++toksF s hb f j/\rn=acc.length/\rx=cl X_chaffref_token.cells acc/\acc.length<=j
 let m0:Int->Nat->List Value->Nat:=λi _ _=>s.length+1-i.toNat
 refine⟨I0,m0,⟨0,2001,[],rfl,by omega,by omega,hTd,rfl,rfl,by simp⟩,λi rn rx ⟨j,f,acc,hi,hj,hf,hT,hrn,hrx,ha⟩=>?_⟩
 subst hi hrn hrx
 obtain⟨f,rfl⟩:∃f',f=f'+1:=⟨f-1,by omega⟩
 obtain⟨g1,g2⟩:=goOn_le hj
 have hT0:=hT
 rw[toksF]at hT
 have last:∀tk:X_chaffref_token,T=acc++[tk]->∀(M1:Mem) (ad:Option Addr) (cap:Nat),M.le M1->SlV M1 ad (acc.length+1) cap 10 (cl X_chaffref_token.cells acc++tk.cells)->∀M',M1.le M'->K (.slice ad (acc.length+1) cap) M':=λtk ht M1 ad cap hle hsl M' hle'=>by
  have:=hK M' ad cap (hle.trans hle')
  rw[ht,List.length_append,List.length_singleton,<-ckl_put]at this
  exact this (hsl.le hle')
 have more:∀(e:Nat) (n k ek:Int) (st:X_api_Set) (tx nm:List UInt8),goOn s j<e->e<=s.length->(goOn s j:Nat)+n=(e:Int)->T=acc++(⟨k,(goOn s j:Nat),⟨ek,st,tx,none,0,0⟩,nm⟩::toksF s hb f e)->
   S_chaffref_tokens_J4 j acc.length (cl X_chaffref_token.cells acc) I0 m0 (goOn s j:Nat) n k ek st.w0 st.w1 st.w2 st.w3 tx nm K:=λe n k ek st tx nm h1 h2 h3 h4=>by
  unfold S_chaffref_tokens_J4
  rw[h3]
  refine⟨by omega,by unfold InI;omega,⟨e,f,acc++[⟨k,(goOn s j:Nat),⟨ek,st,tx,none,0,0⟩,nm⟩],rfl,h2,by omega,by rw[h4,List.append_assoc];rfl,by simp,(ckl_put _ _),by simp;omega⟩,by dsimp only[m0];omega⟩
 refine s_chaffref_blank _ _ _ _ (blank_is hs hj _ ⟨_,rfl,λhe=>?_,λhe=>?_⟩)
 ·have hjl:goOn s j=s.length:=by omega
  rw[if_pos hjl]at hT
  exact⟨by omega,last _ hT⟩
 ·have hjl:¬goOn s j=s.length:=λe=>he (by rw[e])
  rw[if_neg hjl]at hT
  obtain⟨c,hc⟩:∃c,s[goOn s j]?=some c:=⟨s[goOn s j]'(by omega),List.getElem?_eq_getElem _⟩
  have hd:=drop_at hc
  have e0:(s.take ((s.length:Nat):Int).toNat).drop ((goOn s j:Nat):Int).toNat=s.drop (goOn s j):=by rw[Int.toNat_natCast,Int.toNat_natCast,List.take_length]
  have hdl:(s.drop (goOn s j)).length=s.length-goOn s j:=List.length_drop ..
  have llen:= @lex_len (s.drop (goOn s j))
  have lpos:= @lex_pos (s.drop (goOn s j))
  have badK:lexL (s.drop (goOn s j))= .bad->(acc.length+1)*112<=140737488355328/\∀(M1:Mem) (ad:Option Addr) (cap:Nat),M.le M1->SlV M1 ad (acc.length+1) cap 10 (cl X_chaffref_token.cells acc++(X_chaffref_token.mk 33 (goOn s j:Nat) (X_api_Expr.mk 0 (X_api_Set.mk 0 0 0 0) [] none 0 0) []).cells)->∀M',M1.le M'->K (.slice ad (acc.length+1) cap) M':=λhl=>by
   rw[hl]at hT
   exact⟨by omega,last _ hT⟩
  have nodeK:∀(n:Nat) (m k:Int) (st:X_api_Set) (tx:List UInt8),k≠4->m=n->lexL (s.drop (goOn s j))= .node n k st tx->S_chaffref_tokens_J4 j acc.length (cl X_chaffref_token.cells acc) I0 m0 (goOn s j:Nat) m 110 k st.w0 st.w1 st.w2 st.w3 tx [] K:=λn m k st tx hk hm hl=>by
   rw[hl]at hT
   simp only[if_neg hk,if_neg (λg:k=4/\_=>hk g.1)]at hT
   have:=llen.1 _ _ _ _ hl
   have:=lpos.1 _ _ _ _ hl
   exact more (goOn s j+n) m 110 k st tx [] (by omega) (by omega) (by omega) hT
  have signK:∀(n q:Nat) (k:Int),k=(if q=33 then 126 else(q:Int))->lexL (s.drop (goOn s j))= .sign n q->S_chaffref_tokens_J4 j acc.length (cl X_chaffref_token.cells acc) I0 m0 (goOn s j:Nat) n k 0 0 0 0 0 [] [] K:=λn q k hk hl=>by
   rw[hl]at hT
   have:=llen.2 _ _ hl
   have:=lpos.2 _ _ hl
   subst hk
   exact more (goOn s j+n) n _ 0 ⟨0,0,0,0⟩ [] [] (by omega) (by omega) (by omega) hT
  have j1:∀v:Bool,(v=true↔c.toNat=39\/c.toNat=34)->S_chaffref_tokens_J1 s hb M j acc.length (cl X_chaffref_token.cells acc) I0 m0 (goOn s j:Nat) v K:=λv hv=>by
   unfold S_chaffref_tokens_J1
   rw[e0]
   refine⟨λht=>⟨by omega,by omega,by omega,?_⟩,λht=>?_⟩
   ·have hq:=hv.1 ht
    have ul:=unlitP_len (s.drop (goOn s j))
    have up:=unlitP_pos (s.drop (goOn s j))
    refine s_chaffref_Unlit _ _ _ (runlit_is _ (by omega) _ _ ⟨_,_,_,rfl,λhbad=>?_,λhok=>?_⟩)
    ·exact badK (by rw[hd,lexL,if_pos hq,if_pos (by rw[<-hd];exact hbad)])
    ·have hok:(unlitP (s.drop (goOn s j))).2.2=0:=Classical.not_not.1 hok
     obtain⟨n,hn⟩:=Int.eq_ofNat_of_zero_le up
     have hl0:lexL (s.drop (goOn s j))=if (unlitP (s.drop (goOn s j))).1=[] then .node n 1 zS [] else .node n 3 zS (unlitP (s.drop (goOn s j))).1:=by
      conv=>lhs;rw[hd]
      rw[lexL,if_pos hq,<-hd,if_neg (λg=>g hok),hn];rfl
     refine⟨λh0=>?_,λh0=>?_⟩
     ·rw[if_pos h0]at hl0
      exact nodeK n _ 1 ⟨0,0,0,0⟩ [] (by decide) hn hl0
     ·rw[if_neg h0]at hl0
      exact nodeK n _ 3 ⟨0,0,0,0⟩ _ (by decide) hn hl0
   ·have hq:¬(c.toNat=39\/c.toNat=34):=λg=>ht (hv.2 g)
    have hlx:lexL (s.drop (goOn s j))=(if c.toNat=91 then(if (unclP (s.drop (goOn s j))).2.2≠0 then .bad else .node (unclP (s.drop (goOn s j))).2.1.toNat 2 (unclP (s.drop (goOn s j))).1 []) else if c.toNat=46 then .node 1 2 allS []
      else if c∈signsL then .sign 1 c.toNat else if c.toNat=60/\(s.drop (goOn s j)).take 2=[60,45] then .sign 2 60 else if letB c=true then .node (1+nameN (s.drop (goOn s j+1))) 4 zS ((s.drop (goOn s j)).take (1+nameN (s.drop (goOn s j+1)))) else .bad):=by
     conv=>lhs;rw[hd]
     rw[lexL,if_neg hq,<-hd]
    refine⟨c,by omega,by simpa using hc,λh91=>⟨by omega,by omega,by omega,?_⟩,λh91=>⟨c,by omega,by simpa using hc,λh46=>?_,λh46=>?_⟩⟩
    ·have h91:c.toNat=91:=by omega
     rw[if_pos h91]at hlx
     obtain⟨up,ul⟩:=unclP_len (s.drop (goOn s j))
     obtain⟨n,hn⟩:=Int.eq_ofNat_of_zero_le up
     refine s_chaffref_Unclass _ _ _ (runcl_is (by omega) _ ⟨_,_,_,rfl,λhbad=>badK (by rw[hlx,if_pos hbad]),λhok=>?_⟩)
     rw[if_neg hok]at hlx
     exact nodeK _ _ 2 _ [] (by decide) (by rw[Int.toNat_of_nonneg up]) hlx
    ·have h46:c.toNat=46:=by omega
     rw[if_neg (by omega),if_pos h46]at hlx
     exact s_chaffref_Full _ _ (rfull_is _ ⟨_,rfl,nodeK 1 _ 2 allS [] (by decide) rfl hlx⟩)
    ·rw[if_neg (by omega),if_neg (by omega)]at hlx
     refine⟨c,by omega,by simpa using hc,s_chaffref_letter _ _ _ (letter_is c _ _ ⟨_,rfl,λhl=>?_,λhl=>⟨by omega,by omega,by omega,?_⟩⟩)⟩
     ·have nsig:c∉signsL:=λhin=>by
       have:∀c∈signsL,letB c=false:=by decide
       rw[this c hin]at hl;cases hl
      have n60:¬(c.toNat=60/\(s.drop (goOn s j)).take 2=[60,45]):=λg=>by
       unfold letB at hl;simp at hl;omega
      rw[if_neg nsig,if_neg n60,if_pos hl]at hlx
      have hrl:(s.drop (goOn s j+1)).length=s.length-(goOn s j+1):=List.length_drop ..
      let I1:Int->Prop:=λx=>∃k:Nat,x=((1+k:Nat):Int)/\k<=(s.drop (goOn s j+1)).length/\nameN (s.drop (goOn s j+1))=k+nameN ((s.drop (goOn s j+1)).drop k)
      let m1:Int->Nat:=λx=>5000-x.toNat
      have fin_:∀k:Nat,k<=(s.drop (goOn s j+1)).length->k=nameN (s.drop (goOn s j+1))->S_chaffref_tokens_J2 s hb M j acc.length (cl X_chaffref_token.cells acc) I0 m0 (goOn s j:Nat) ((1+k:Nat):Int) I1 m1 false K:=λk hkl hk=>by
       rw[hrl]at hkl
       rw[<-hk]at hlx
       have e1:((goOn s j:Nat):Int)+((1+k:Nat):Int)=((goOn s j+(1+k):Nat):Int):=by omega
       have hgl:goOn s j+(1+k)<=s.length:=by omega
       obtain⟨g3,g4⟩:=goOn_le hgl
       have e2:(s.take ((goOn s j:Nat)+((1+k:Nat):Int)).toNat).drop ((goOn s j:Nat):Int).toNat=(s.drop (goOn s j)).take (1+k):=by
        rw[e1,Int.toNat_natCast,Int.toNat_natCast,List.drop_take]
        congr 1;omega
       rw[hlx]at hT
       have j3:∀v:Bool,(v=true↔hb=true/\arrB s (goOn s (goOn s j+(1+k)))=true)->S_chaffref_tokens_J3 s j acc.length (cl X_chaffref_token.cells acc) I0 m0 (goOn s j:Nat) ((1+k:Nat):Int) (goOn s (goOn s j+(1+k)):Nat) v K:=λv hv=>by
        unfold S_chaffref_tokens_J3
        rw[e2]
        refine⟨λhv1=>?_,λhv1=>?_⟩
        ·have ha2:=arr_le (hv.1 hv1).2
         dsimp only at hT
         rw[if_pos (show(4:Int)=4/\hb=true/\arrB s (goOn s (goOn s j+(1+k)))=true from⟨rfl,hv.1 hv1⟩)]at hT
         exact⟨by unfold InI;omega,by unfold InI;omega,more (goOn s (goOn s j+(1+k))+2) _ 104 4 ⟨0,0,0,0⟩ _ _ (by omega) (by omega) (by omega) hT⟩
        ·dsimp only at hT
         rw[if_neg (show ¬((4:Int)=4/\hb=true/\arrB s (goOn s (goOn s j+(1+k)))=true) from λg=>hv1 (hv.2 g.2)),if_pos rfl]at hT
         exact more (goOn s j+(1+k)) _ 110 4 ⟨0,0,0,0⟩ _ _ (by omega) (by omega) (by omega) hT
       unfold S_chaffref_tokens_J2
       refine⟨λe=>by simp at e,λ_=>⟨by unfold InI;omega,by omega,by omega,by omega,by unfold InI;omega,?_⟩⟩
       rw[e1]
       refine s_chaffref_blank _ _ _ _ (blank_is hs hgl _ ⟨_,rfl,λhh=>⟨by omega,by omega,by omega,?_⟩,λhh=>j3 false ⟨λe=>by simp at e,λg=>absurd g.1 hh⟩⟩)
       rw[show(s.take ((s.length:Nat):Int).toNat).drop ((goOn s (goOn s j+(1+k)):Nat):Int).toNat=s.drop (goOn s (goOn s j+(1+k))) by rw[Int.toNat_natCast,Int.toNat_natCast,List.take_length]]
       refine s_strings_HasPrefix _ _ _ _ (prefix_is _ _ _ ⟨_,rfl,j3 _ ⟨λe=>⟨hh,e⟩,λg=>g.2⟩⟩)
      refine⟨I1,m1,⟨0,rfl,by omega,by simp⟩,λx ⟨k,hx,hk,hn⟩=>?_⟩
      subst hx
      rw[hrl]at hk
      have e1:((goOn s j:Nat):Int)+((1+k:Nat):Int)=((goOn s j+(1+k):Nat):Int):=by omega
      rw[e1]
      refine⟨by unfold InI;omega,λhlt=>?_,λhge=>fin_ k (by omega) (by rw[hn,List.drop_of_length_le (by omega),nameN];rfl)⟩
      obtain⟨d,hdd⟩:∃d,(s.drop (goOn s j+1))[k]?=some d:=⟨(s.drop (goOn s j+1))[k]'(by omega),List.getElem?_eq_getElem _⟩
      have hdd':s[((goOn s j+(1+k):Nat):Int).toNat]?=some d:=by
       rw[Int.toNat_natCast,<-hdd,List.getElem?_drop];congr 1;omega
      have on_:nmB d=true->S_chaffref_tokens_J2 s hb M j acc.length (cl X_chaffref_token.cells acc) I0 m0 (goOn s j:Nat) ((1+k:Nat):Int) I1 m1 true K:=λhnd=>⟨λ_=>⟨by unfold InI;omega,⟨k+1,by omega,by omega,by rw[hn,drop_at hdd,nameN,if_pos hnd];omega⟩,by dsimp only[m1];omega⟩,λe=>absurd rfl e⟩
      refine⟨by unfold InI;omega,d,by omega,hdd',s_chaffref_letter _ _ _ (letter_is d _ _ ⟨_,rfl,λhl=>on_ (by unfold nmB;rw[hl];rfl),λhl=>⟨by unfold InI;omega,d,by omega,hdd',s_chaffref_digits _ _ _ (digits_is d _ _ ⟨_,rfl,?_⟩)⟩⟩)⟩
      cases hg:digB d with
      |true=>exact on_ (by unfold nmB;rw[hg];simp)
      |false=>
       refine fin_ k (by omega) ?_
       have:nmB d=false:=by unfold nmB;rw[hg];simpa using hl
       rw[hn,drop_at hdd,nameN,if_neg (by rw[this];simp)];rfl
     ·refine s_strings_HasPrefix _ _ _ _ (prefix_is _ _ _ ⟨_,rfl,?_⟩)
      by_cases ht2:(s.drop (goOn s j)).take 2=[60,45]
      ·rw[show decide ((s.drop (goOn s j)).take ([60,45]:List UInt8).length=[60,45])=true from decide_eq_true ht2]
       have h60:c=60:=by rw[hd,List.take_succ_cons]at ht2;exact(List.cons.inj ht2).1
       have nsig:c∉signsL:=by rw[h60];decide
       rw[if_neg nsig,if_pos ⟨by rw[h60];rfl,ht2⟩]at hlx
       exact⟨λ_=>signK 2 60 60 rfl hlx,λe=>absurd rfl e⟩
      ·rw[show decide ((s.drop (goOn s j)).take ([60,45]:List UInt8).length=[60,45])=false from decide_eq_false ht2]
       refine⟨λe=>by simp at e,λ_=>⟨c,by omega,by simpa using hc,s_strings_IndexByte _ _ _ _ (indexByte_is _ c _ _ ⟨_,rfl,?_⟩)⟩⟩
       have hmem:=idxB_mem signsL c
       refine⟨λhge=>⟨c,by omega,by simpa using hc,?_⟩,λhlt=>badK ?_⟩
       ·have hin:c∈signsL:=of_decide_eq_true (hmem▸decide_eq_true hge)
        rw[if_pos hin]at hlx
        exact⟨λh33=>signK 1 _ 126 (by rw[if_pos (by omega)]) hlx,λh33=>signK 1 _ _ (by rw[if_neg (by omega)]) hlx⟩
       ·have hin:c∉signsL:=λhin=>hlt (of_decide_eq_true (hmem.trans (decide_eq_true hin)))
        rw[hlx,if_neg hin,if_neg (λg=>ht2 g.2),if_neg hl]
  refine⟨c,by omega,by simpa using hc,λh39=>j1 true ⟨λ_=>.inl (by omega),λ_=>rfl⟩,λh39=>⟨c,by omega,by simpa using hc,j1 _ ⟨λe=>by simp at e;omega,λe=>by simp;omega⟩⟩⟩
end Go.Proofs.Ytfpmiahbncnecaa.core

namespace Go.Proofs.Ytfpmiahbncnecaa.core
open Go.Gx Go.RowKit Go.ChangeShapes Go.WideShapes Go.ChangeAt
set_option linter.unusedVariables false
inductive Tg where|alt|seq|pre|post|pri
def exOf (x:X_api_Expr):Ex:=.mk x.Kind x.Set x.Text []
def one (k:Int) (es:List Ex):Ex:=.mk k ⟨0,0,0,0⟩ [] es
def gath (k:Int):List Ex->Ex
 |[e]=>e
 |es=>one k es
def beg (k:Int):Prop:=k=110\/k=40\/k=38\/k=126
instance (k:Int):Decidable (beg k):=by unfold beg;exact inferInstance
inductive Ps (kd:Nat->Int) (ex:Nat->Ex):Tg->List Ex->Nat->Option Ex->Nat->Prop where
 |altNo {acc:List Ex} {k n:Nat}:Ps kd ex .seq [] k none n->Ps kd ex .alt acc k none n
 |altOn {acc:List Ex} {k n m:Nat} {e:Ex} {r:Option Ex}:Ps kd ex .seq [] k (some e) n->kd n=47->Ps kd ex .alt (acc++[e]) (n+1) r m->Ps kd ex .alt acc k r m
 |altEnd {acc:List Ex} {k n:Nat} {e:Ex}:Ps kd ex .seq [] k (some e) n->kd n≠47->Ps kd ex .alt acc k (some (gath 6 (acc++[e]))) n
 |seqNo {acc:List Ex} {k n:Nat}:Ps kd ex .pre [] k none n->Ps kd ex .seq acc k none n
 |seqOn {acc:List Ex} {k n m:Nat} {e:Ex} {r:Option Ex}:Ps kd ex .pre [] k (some e) n->beg (kd n)->Ps kd ex .seq (acc++[e]) n r m->Ps kd ex .seq acc k r m
 |seqEnd {acc:List Ex} {k n:Nat} {e:Ex}:Ps kd ex .pre [] k (some e) n->¬beg (kd n)->Ps kd ex .seq acc k (some (gath 5 (acc++[e]))) n
 |preSign {k n:Nat} {r:Option Ex} (c:Int):kd k=38/\c=10\/kd k=126/\c=11->Ps kd ex .pre [] (k+1) r n->Ps kd ex .pre [] k (r.map λe=>one c [e]) n
 |preNo {k n:Nat}:kd k≠38->kd k≠126->Ps kd ex .pri [] k none n->Ps kd ex .pre [] k none n
 |prePost {k n m:Nat} {e:Ex} {r:Option Ex}:kd k≠38->kd k≠126->Ps kd ex .pri [] k (some e) n->Ps kd ex .post [e] n r m->Ps kd ex .pre [] k r m
 |postOn {k n:Nat} {e:Ex} {r:Option Ex} (c:Int):kd k=42/\c=7\/kd k=43/\c=8\/kd k=63/\c=9->Ps kd ex .post [one c [e]] (k+1) r n->Ps kd ex .post [e] k r n
 |postEnd {k:Nat} {e:Ex}:kd k≠42->kd k≠43->kd k≠63->Ps kd ex .post [e] k (some e) k
 |priNode {k:Nat}:kd k=110->Ps kd ex .pri [] k (some (ex k)) (k+1)
 |priEmpty {k:Nat}:kd k=40->kd (k+1)=41->Ps kd ex .pri [] k (some (one 1 [])) (k+2)
 |priNo {k n:Nat}:kd k=40->kd (k+1)≠41->Ps kd ex .alt [] (k+1) none n->Ps kd ex .pri [] k none n
 |priClose {k n:Nat} {e:Ex}:kd k=40->kd (k+1)≠41->Ps kd ex .alt [] (k+1) (some e) n->kd n=41->Ps kd ex .pri [] k (some e) (n+1)
 |priOpen {k n:Nat} {e:Ex}:kd k=40->kd (k+1)≠41->Ps kd ex .alt [] (k+1) (some e) n->kd n≠41->Ps kd ex .pri [] k none n
 |priBad {k:Nat}:kd k≠110->kd k≠40->Ps kd ex .pri [] k none k
def isPost:Tg->Bool| .post=>true|_=>false
def EndsAt (kd:Nat->Int) (len:Nat):Prop:=∀k,k<len->kd k≠101->kd k≠33->k+1<len
theorem Ps.bound {kd:Nat->Int} {ex:Nat->Ex} {len:Nat} (hE:EndsAt kd len) {t:Tg} {acc:List Ex} {k n:Nat} {r:Option Ex} (h:Ps kd ex t acc k r n):k<len->k<=n/\n<len/\(r.isSome=true->isPost t=false->k<n):=by
 induction h with
 |altNo _ ih=>intro hk;have:=ih hk;exact⟨this.1,this.2.1,λe=>by cases e⟩
 |altOn _ h47 _ ih1 ih2=>intro hk;have h1:=ih1 hk;have h2:=ih2 (hE _ h1.2.1 (by omega) (by omega));exact⟨by omega,h2.2.1,λ_ _=>by omega⟩
 |altEnd _ _ ih=>intro hk;have:=ih hk;exact⟨this.1,this.2.1,λ_ _=>this.2.2 rfl rfl⟩
 |seqNo _ ih=>intro hk;have:=ih hk;exact⟨this.1,this.2.1,λe=>by cases e⟩
 |seqOn _ _ _ ih1 ih2=>intro hk;have h1:=ih1 hk;have h2:=ih2 h1.2.1;have:=h1.2.2 rfl rfl;exact⟨by omega,h2.2.1,λ_ _=>by omega⟩
 |seqEnd _ _ ih=>intro hk;have:=ih hk;exact⟨this.1,this.2.1,λ_ _=>this.2.2 rfl rfl⟩
 |preSign c hc _ ih=>intro hk;have:=ih (hE _ hk (by omega) (by omega));exact⟨by omega,this.2.1,λ_ _=>by omega⟩
 |preNo _ _ _ ih=>intro hk;have:=ih hk;exact⟨this.1,this.2.1,λe=>by cases e⟩
 |prePost _ _ _ _ ih1 ih2=>intro hk;have h1:=ih1 hk;have h2:=ih2 h1.2.1;have:=h1.2.2 rfl rfl;exact⟨by omega,h2.2.1,λ_ _=>by omega⟩
 |postOn c hc _ ih=>intro hk;have:=ih (hE _ hk (by omega) (by omega));exact⟨by omega,this.2.1,λ_ e=>by cases e⟩
 |postEnd=>intro hk;exact⟨Nat.le_refl _,hk,λ_ e=>by cases e⟩
 |priNode h=>intro hk;have:=hE _ hk (by omega) (by omega);exact⟨by omega,by omega,λ_ _=>by omega⟩
 |priEmpty h h1=>intro hk;have:=hE _ hk (by omega) (by omega);have:=hE _ this (by omega) (by omega);exact⟨by omega,by omega,λ_ _=>by omega⟩
 |priNo h _ _ ih=>intro hk;have:=hE _ hk (by omega) (by omega);have:=ih this;exact⟨by omega,this.2.1,λe=>by cases e⟩
 |priClose h _ _ h41 ih=>intro hk;have:=hE _ hk (by omega) (by omega);have:=ih this;have:=hE _ this.2.1 (by omega) (by omega);exact⟨by omega,by omega,λ_ _=>by omega⟩
 |priOpen h _ _ _ ih=>intro hk;have:=hE _ hk (by omega) (by omega);have:=ih this;exact⟨by omega,this.2.1,λe=>by cases e⟩
 |priBad=>intro hk;exact⟨Nat.le_refl _,hk,λe=>by cases e⟩
theorem ps_ex {kd:Nat->Int} {ex:Nat->Ex} {len:Nat} (hE:EndsAt kd len):∀(m k:Nat),k<len->len-k<=m->
  (∃r n,Ps kd ex .pri [] k r n)/\(∃r n,Ps kd ex .pre [] k r n)/\(∀acc,∃r n,Ps kd ex .seq acc k r n)/\(∀acc,∃r n,Ps kd ex .alt acc k r n)/\(∀e,∃r n,Ps kd ex .post [e] k r n)
 |0,k,hk,hm=>by omega
 |m+1,k,hk,hm=>by
  have ih:∀k',k<k'->k'<len->_:=λk' h1 h2=>ps_ex (ex:=ex) hE m k' h2 (by omega)
  have hpost:∀e,∃r n,Ps kd ex .post [e] k r n:=λe=>by
   have on_:∀c:Int,kd k=42/\c=7\/kd k=43/\c=8\/kd k=63/\c=9->∃r n,Ps kd ex .post [e] k r n:=λc hc=>by
    obtain⟨r,n,h⟩:=(ih (k+1) (by omega) (hE _ hk (by omega) (by omega))).2.2.2.2 (one c [e])
    exact⟨r,n,.postOn c hc h⟩
   by_cases h1:kd k=42
   ·exact on_ 7 (.inl ⟨h1,rfl⟩)
   ·by_cases h2:kd k=43
    ·exact on_ 8 (.inr (.inl ⟨h2,rfl⟩))
    ·by_cases h3:kd k=63
     ·exact on_ 9 (.inr (.inr ⟨h3,rfl⟩))
     ·exact⟨_,_,.postEnd h1 h2 h3⟩
  have hpri:∃r n,Ps kd ex .pri [] k r n:=by
   by_cases h1:kd k=110
   ·exact⟨_,_,.priNode h1⟩
   ·by_cases h2:kd k=40
    ·have hk1:=hE _ hk (by omega) (by omega)
     by_cases h3:kd (k+1)=41
     ·exact⟨_,_,.priEmpty h2 h3⟩
     ·obtain⟨r,n,h⟩:=(ih (k+1) (by omega) hk1).2.2.2.1 []
      cases r with
      |none=>exact⟨_,_,.priNo h2 h3 h⟩
      |some e=>
       by_cases h4:kd n=41
       ·exact⟨_,_,.priClose h2 h3 h h4⟩
       ·exact⟨_,_,.priOpen h2 h3 h h4⟩
    ·exact⟨_,_,.priBad h1 h2⟩
  have hpre:∃r n,Ps kd ex .pre [] k r n:=by
   have on_:∀c:Int,kd k=38/\c=10\/kd k=126/\c=11->∃r n,Ps kd ex .pre [] k r n:=λc hc=>by
    obtain⟨r,n,h⟩:=(ih (k+1) (by omega) (hE _ hk (by omega) (by omega))).2.1
    exact⟨_,n,.preSign c hc h⟩
   by_cases h1:kd k=38
   ·exact on_ 10 (.inl ⟨h1,rfl⟩)
   ·by_cases h2:kd k=126
    ·exact on_ 11 (.inr ⟨h2,rfl⟩)
    ·obtain⟨r,n,h⟩:=hpri
     cases r with
     |none=>exact⟨_,_,.preNo h1 h2 h⟩
     |some e=>
      obtain⟨b1,b2,b3⟩:=h.bound hE hk
      obtain⟨r',m',h'⟩:=(ih n (b3 rfl rfl) b2).2.2.2.2 e
      exact⟨_,_,.prePost h1 h2 h h'⟩
  have hseq:∀acc,∃r n,Ps kd ex .seq acc k r n:=λacc=>by
   obtain⟨r,n,h⟩:=hpre
   cases r with
   |none=>exact⟨_,_,.seqNo h⟩
   |some e=>
    obtain⟨b1,b2,b3⟩:=h.bound hE hk
    by_cases hb:beg (kd n)
    ·obtain⟨r',m',h'⟩:=(ih n (b3 rfl rfl) b2).2.2.1 (acc++[e])
     exact⟨_,_,.seqOn h hb h'⟩
    ·exact⟨_,_,.seqEnd h hb⟩
  refine⟨hpri,hpre,hseq,λacc=>?_,hpost⟩
  obtain⟨r,n,h⟩:=hseq []
  cases r with
  |none=>exact⟨_,_,.altNo h⟩
  |some e=>
   obtain⟨b1,b2,b3⟩:=h.bound hE hk
   by_cases hb:kd n=47
   ·have hn1:=hE _ b2 (by omega) (by omega)
    obtain⟨r',m',h'⟩:=(ih (n+1) (by omega) hn1).2.2.2.1 (acc++[e])
    exact⟨_,_,.altOn h hb h'⟩
   ·exact⟨_,_,.altEnd h hb⟩
theorem Ps.seqI {kd:Nat->Int} {ex:Nat->Ex} {acc:List Ex} {k n:Nat} {r:Option Ex} (h:Ps kd ex .seq acc k r n):∃r' n',Ps kd ex .pre [] k r' n'/\(r'=none->r=none/\n=n')/\
  ∀e,r'=some e->(beg (kd n')->Ps kd ex .seq (acc++[e]) n' r n)/\(¬beg (kd n')->n=n'/\r=some (gath 5 (acc++[e]))):=by
 cases h with
 |seqNo h'=>exact⟨_,_,h',λ_=>⟨rfl,rfl⟩,λe he=>by cases he⟩
 |seqOn h' hb hr=>exact⟨_,_,h',(λe=>by cases e),λe he=>by cases he;exact⟨λ_=>hr,λg=>absurd hb g⟩⟩
 |seqEnd h' hb=>exact⟨_,_,h',(λe=>by cases e),λe he=>by cases he;exact⟨λg=>absurd g hb,λ_=>⟨rfl,rfl⟩⟩⟩
theorem Ps.altI {kd:Nat->Int} {ex:Nat->Ex} {acc:List Ex} {k n:Nat} {r:Option Ex} (h:Ps kd ex .alt acc k r n):∃r' n',Ps kd ex .seq [] k r' n'/\(r'=none->r=none/\n=n')/\
  ∀e,r'=some e->(kd n'=47->Ps kd ex .alt (acc++[e]) (n'+1) r n)/\(kd n'≠47->n=n'/\r=some (gath 6 (acc++[e]))):=by
 cases h with
 |altNo h'=>exact⟨_,_,h',λ_=>⟨rfl,rfl⟩,λe he=>by cases he⟩
 |altOn h' hb hr=>exact⟨_,_,h',(λe=>by cases e),λe he=>by cases he;exact⟨λ_=>hr,λg=>absurd hb g⟩⟩
 |altEnd h' hb=>exact⟨_,_,h',(λe=>by cases e),λe he=>by cases he;exact⟨λg=>absurd g hb,λ_=>⟨rfl,rfl⟩⟩⟩
end Go.Proofs.Ytfpmiahbncnecaa.core

namespace Go.Proofs.Ytfpmiahbncnecaa.core
open Go.Gx Go.RowKit Go.ChangeShapes Go.WideShapes Go.ChangeAt
set_option linter.unusedVariables false
def kdT (T:List X_chaffref_token) (k:Nat):Int:=(T[k]?.map (·.kind)).getD 0
def exT (T:List X_chaffref_token) (k:Nat):Ex:=exOf ((T[k]?.map (·.expr)).getD zE)
structure TkOk (t:X_chaffref_token):Prop where
 ex:∀M,ExR M (exOf t.expr) t.expr
 byte:∃c:UInt8,t.kind=(c.toNat:Int)
 nm:t.name.length<=maxLen
def RAns (M:Mem) (K:Value->Mem->Prop) (r:Option Ex) (n:Nat):Prop:=∀M' (x:X_api_Expr),M.le M'->(∀e,r=some e->ExR M' e x)->K (.tuple #[x.val,.int .i64 (n:Nat),.bool r.isSome]) M'
theorem RAns.le {M M':Mem} {K:Value->Mem->Prop} {r:Option Ex} {n:Nat} (h:RAns M K r n) (hl:M.le M'):RAns M' K r n:=λM'' x h1 h2=>h M'' x (hl.trans h1) h2
structure RowT (M:Mem) (A:Option Addr) (c:Nat) (T:List X_chaffref_token):Prop where
 sl:SlV M A T.length c 10 (cl X_chaffref_token.cells T)
 ok:∀t∈T,TkOk t
 len:T.length<=3000
 en:EndsAt (kdT T) T.length
theorem RowT.le {M M':Mem} {A:Option Addr} {c:Nat} {T:List X_chaffref_token} (h:RowT M A c T) (hl:M.le M'):RowT M' A c T:=⟨h.sl.le hl,h.ok,h.len,h.en⟩
theorem RowT.at {M:Mem} {A:Option Addr} {c:Nat} {T:List X_chaffref_token} (h:RowT M A c T) {k:Nat} {i:Int} (hi:i=k) (hk:k<T.length):∃t b o,T[k]?=some t/\A=some ⟨b,o,none⟩/\At M b (o+i.toNat*10) t.cells:=by
 have ht:T[k]?=some T[k]:=List.getElem?_eq_getElem hk
 obtain⟨b,o,ha,hat⟩:=h.sl.at Xk_len rfl ht
 subst hi
 exact⟨_,b,o,ht,ha,hat⟩
theorem RowT.kd {M:Mem} {A:Option Addr} {c:Nat} {T:List X_chaffref_token} (h:RowT M A c T) {k:Nat} {i:Int} (hi:i=k) (hk:k<T.length) {Q:Int->Prop} (hQ:Q (kdT T k)):
  ∃b o:Nat,A=some ⟨b,o,none⟩/\(0:Int)<=i/\i<((T.length:Nat):Int)/\∃x:Int,At M b (o+i.toNat*10) [.int .u8 x]/\Q x:=by
 obtain⟨t,b,o,ht,ha,hat⟩:=h.at hi hk
 refine⟨b,o,ha,by omega,by omega,t.kind,hat.part 0 [.int .u8 t.kind] rfl,?_⟩
 unfold kdT at hQ
 rw[ht]at hQ;exact hQ
theorem RowT.ex {M:Mem} {A:Option Addr} {c:Nat} {T:List X_chaffref_token} (h:RowT M A c T) {k:Nat} {i:Int} (hi:i=k) (hk:k<T.length) {Q:X_api_Expr->Prop} (hQ:∀x,(∀M,ExR M (exT T k) x)->Q x):
  ∃b o:Nat,A=some ⟨b,o,none⟩/\(0:Int)<=i/\i<((T.length:Nat):Int)/\∃x:X_api_Expr,At M b (o+i.toNat*10+2) x.cells/\Q x:=by
 obtain⟨t,b,o,ht,ha,hat⟩:=h.at hi hk
 refine⟨b,o,ha,by omega,by omega,t.expr,hat.part 2 t.expr.cells rfl,hQ _ λM=>?_⟩
 unfold exT
 rw[ht];exact(h.ok t (List.mem_of_getElem? ht)).ex M
theorem RowT.byte {M:Mem} {A:Option Addr} {c:Nat} {T:List X_chaffref_token} (h:RowT M A c T) {k:Nat} (hk:k<T.length):∃d:UInt8,kdT T k=(d.toNat:Int):=by
 have ht:T[k]?=some T[k]:=List.getElem?_eq_getElem hk
 obtain⟨d,hd⟩:=(h.ok _ (List.mem_of_getElem? ht)).byte
 refine⟨d,?_⟩
 unfold kdT
 rw[ht];exact hd
theorem RowT.idx {M M':Mem} {A:Option Addr} {c:Nat} {T:List X_chaffref_token} (h:RowT M A c T) {k:Nat} (hk:k<T.length) (l:List UInt8) (K:Value->Prop) (hK:K (.int .i64 (idxB l (kdT T k).toNat))):CallE Try.prog 35 #[.string (mkS l),.int .u8 (kdT T k)] M' (λv _=>K v):=by
 obtain⟨d,hd⟩:=h.byte hk
 rw[hd]at hK ⊢
 exact s_strings_IndexByte _ _ _ _ (indexByte_is l d _ _ hK)
theorem idx3 (d:UInt8):idxB [42,43,63] d.toNat=if d.toNat=42 then 0 else if d.toNat=43 then 1 else if d.toNat=63 then 2 else -1:=by
 have k:∀n:Nat,n<256->idxB [42,43,63] n=if n=42 then(0:Int) else if n=43 then 1 else if n=63 then 2 else -1:=by decide+kernel
 exact k _ d.toNat_lt
theorem idx4 (d:UInt8):(idxB [110,40,38,126] d.toNat<0)↔¬beg (d.toNat:Int):=by
 have k:∀n:Nat,n<256->decide (idxB [110,40,38,126] n<0)= !(decide (n=110)||decide (n=40)||decide (n=38)||decide (n=126)):=by decide+kernel
 have:=k _ d.toNat_lt
 rw[Bool.eq_iff_iff]at this
 simp only[decide_eq_true_eq,Bool.not_eq_true',Bool.or_eq_false_iff,decide_eq_false_iff_not]at this
 rw[this];unfold beg;omega
theorem wf_small {k:Int} (h:0<=k/\k<=100):(Lit.int .i64 k).wf=true:=by
 simp[Lit.wf,IntKind.min,IntKind.max,IntKind.signed,IntKind.bits];omega
theorem zS_wf:wfS ⟨0,0,0,0⟩:=⟨rfl,rfl,rfl,rfl⟩
theorem ExR.one {M:Mem} {k:Int} (hk:0<=k/\k<=100) {es:List Ex} {xs:List X_api_Expr} {A:Option Addr} {c:Nat} (hl:SlV M A es.length c 7 (cl X_api_Expr.cells xs)) (h2:All2 (ExR M) es xs):ExR M (one k es) ⟨k,⟨0,0,0,0⟩,[],A,es.length,c⟩:=
 .mk (wf_small hk) zS_wf (by decide) hl h2.length λi e x he hx=>h2.get' he hx
theorem gath_more (k:Int) {es:List Ex} (h:es.length≠1):gath k es=one k es:=by
 unfold gath
 split
 ·simp at h
 ·rfl
theorem gathered_is {M:Mem} {k:Int} (hk:0<=k/\k<=100) {es:List Ex} {xs:List X_api_Expr} {A:Option Addr} {n c:Nat} (hn:n=es.length) (h0:0<n) (hl:SlV M A n c 7 (cl X_api_Expr.cells xs)) (h2:All2 (ExR M) es xs) (K:Value->Mem->Prop) (hK:∀M' (x:X_api_Expr),M.le M'->ExR M' (gath k es) x->K x.val M'):S_chaffref_gathered k A n c M K:=by
 subst hn
 refine⟨λh1=>?_,λh1 M' hle=>hK M' ⟨k,⟨0,0,0,0⟩,[],A,es.length,c⟩ hle ?_⟩
 ·obtain⟨e,rfl⟩:∃e,es=[e]:=by
   match es,h1 with
   |[e],_=>exact⟨e,rfl⟩
   |[],h=>simp at h
   |_::_::_,h=>simp at h;omega
  obtain⟨x,_,rfl,hx,hr⟩:=h2
  cases hr
  obtain⟨b,o,ha,hat⟩:=hl.at Xe_len rfl (i:=0) rfl
  exact⟨b,o,ha,by omega,by omega,x,hat,λM' hle=>hK M' x hle (hx.le hle)⟩
 ·rw[gath_more k (by omega)]
  exact(ExR.one hk hl h2).le hle
theorem alls_le {M M':Mem} {es:List Ex} {xs:List X_api_Expr} (h:All2 (ExR M) es xs) (hl:M.le M'):All2 (ExR M') es xs:=h.mono λ_ _ q=>q.le hl
theorem rparse_is {A:Option Addr} {c:Nat} {T:List X_chaffref_token}:∀(m k:Nat),k<T.length->T.length-k<=m->∀(M:Mem),RowT M A c T->∀(i:Int),i=k->
  (∀r n,Ps (kdT T) (exT T) .pri [] k r n->∀K,RAns M K r n->S_chaffref_primary A T.length c i M K)/\
  (∀r n,Ps (kdT T) (exT T) .pre [] k r n->∀K,RAns M K r n->S_chaffref_prefix A T.length c i M K)/\
  (∀r n,Ps (kdT T) (exT T) .seq [] k r n->∀K,RAns M K r n->S_chaffref_sequence A T.length c i M K)/\
  (∀r n,Ps (kdT T) (exT T) .alt [] k r n->∀K,RAns M K r n->S_chaffref_alternative A T.length c i M K)
 |0,k,hk,hm,_,_,_,_=>by omega
 |m+1,k,hk,hm,M0,hT0,i0,hi0=>by
  have ih:∀k',k<k'->k'<T.length->∀M,RowT M A c T->∀i:Int,i=k'->_:=λk' h1 h2=>rparse_is (A:=A) (c:=c) m k' h2 (by omega)
  have hlen:=hT0.len
  have hE:=hT0.en
  have pri:∀M,RowT M A c T->∀i:Int,i=k->∀r n,Ps (kdT T) (exT T) .pri [] k r n->∀K,RAns M K r n->S_chaffref_primary A T.length c i M K:=λM hT i hi r n h K hK=>by
   have inI1:InI (i+1):=by unfold InI;omega
   have inI2:InI (i+2):=by unfold InI;omega
   refine hT.kd hi hk ⟨λh110=>hT.ex hi hk λx hx=>⟨inI1,λM' hle=>?_⟩,λh110=>⟨λh40=>⟨inI1,?_⟩,λh40 M' hle=>?_⟩⟩
   ·cases h with
    |priNode _=>have:=hK M' x hle (λe he=>by cases he;exact hx M');rw[show i+1=((k+1:Nat):Int) by omega];exact this
    |_=>first|omega|contradiction
   ·have hk1:=hE k hk (by omega) (by omega)
    refine hT.kd (k:=k+1) (by omega) hk1 ⟨λh41=>⟨inI2,λM' hle=>?_⟩,λh41=>⟨inI1,?_⟩⟩
    ·cases h with
     |priEmpty _ _=>have:=hK M' ⟨1,⟨0,0,0,0⟩,[],none,0,0⟩ hle (λe he=>by cases he;exact ExR.mk (wf_small (by omega)) zS_wf (by decide) (xs:=[]) ⟨rfl,Nat.le_refl _,by decide,λg=>by simp at g⟩ rfl (λj e x he=>by simp at he));rw[show i+2=((k+2:Nat):Int) by omega];exact this
     |_=>first|omega|contradiction
    ·have no:∀(x x15:X_api_Expr) (M':Mem) (j:Nat),r=none->n=j->M.le M'->S_chaffref_primary_J1 x15 (j:Nat) M' true K:=λx x15 M' j hr hn hle=>⟨λ_ M'' hle'=>by subst hr hn;exact hK M'' ⟨0,⟨0,0,0,0⟩,[],none,0,0⟩ (hle.trans hle') (λe he=>by cases he),λg=>absurd rfl g⟩
     have alt:=λr' n' (h':Ps (kdT T) (exT T) .alt [] (k+1) r' n') K'=>(ih (k+1) (by omega) hk1 M hT (i+1) (by omega)).2.2.2 r' n' h' K'
     cases h with
     |priNo _ _ h'=>exact s_chaffref_alternative _ _ _ _ _ _ (alt _ _ h' _ λM' x hle hx=>⟨x,_,_,rfl,λ_=>no x x M' _ rfl rfl hle,λg=>by simp at g⟩)
     |priClose _ _ h' hn41=>
      rename_i n' e
      obtain⟨b1,b2,b3⟩:=h'.bound hE hk1
      refine s_chaffref_alternative _ _ _ _ _ _ (alt _ _ h' _ λM' x hle hx=>⟨x,_,_,rfl,λg=>absurd rfl g,λ_=>(hT.le hle).kd rfl b2 ⟨λg=>?_,λg=>⟨by unfold InI;omega,λM'' hle'=>?_⟩⟩⟩)
      ·simp[hn41]at g
      ·exact hK M'' x (hle.trans hle') (λe he=>by cases he;exact(hx _ rfl).le hle')
     |priOpen _ _ h' hn41=>
      rename_i n' e
      obtain⟨b1,b2,b3⟩:=h'.bound hE hk1
      refine s_chaffref_alternative _ _ _ _ _ _ (alt _ _ h' _ λM' x hle hx=>⟨x,_,_,rfl,λg=>absurd rfl g,λ_=>(hT.le hle).kd rfl b2 ?_⟩)
      rw[show(kdT T n != (41:Int))=true by simpa using hn41]
      exact no x x M' n rfl rfl hle
     |_=>first|omega|contradiction
   ·cases h with
    |priBad _ _=>have:=hK M' ⟨0,⟨0,0,0,0⟩,[],none,0,0⟩ hle (λe he=>by cases he);rw[hi];exact this
    |_=>first|omega|contradiction
  have pre:∀M,RowT M A c T->∀i:Int,i=k->∀r n,Ps (kdT T) (exT T) .pre [] k r n->∀K,RAns M K r n->S_chaffref_prefix A T.length c i M K:=λM hT i hi r n h K hK=>by
   have inI1:InI (i+1):=by unfold InI;omega
   have j1:∀v:Bool,(v=true↔kdT T k=38\/kdT T k=126)->S_chaffref_prefix_J1 A T.length c i M v K:=λv hv=>by
    refine⟨λht=>⟨inI1,?_⟩,λht=>?_⟩
    ·have hk1:=hE k hk (by have:=hv.1 ht;omega) (by have:=hv.1 ht;omega)
     cases h with
     |preSign cc hcc h'=>
      rename_i r'
      refine s_chaffref_prefix _ _ _ _ _ _ ((ih (k+1) (by omega) hk1 M hT (i+1) (by omega)).2.1 _ _ h' _ λM' x hle hx=>⟨x,_,_,rfl,(hT.le hle).kd hi hk ?_⟩)
      have fin_:S_chaffref_prefix_J2 x (n:Nat) r'.isSome M' cc K:=λM2 ad cap hle2 hsl M'' hle'=>by
       have:=hK M'' ⟨cc,⟨0,0,0,0⟩,[],ad,1,cap⟩ ((hle.trans hle2).trans hle') (λe he=>by
        cases r' with
        |none=>cases he
        |some e'=>cases he;exact(ExR.one (es:=[e']) (xs:=[x]) (by omega) (by rw[cl_one];exact hsl) ⟨x,[],rfl,(hx _ rfl).le hle2,rfl⟩).le hle')
       rw[show(r'.map λe=>one cc [e]).isSome=r'.isSome by cases r'<;>rfl]at this
       exact this
      exact⟨λg=>by rw[show(11:Int)=cc by omega];exact fin_,λg=>by rw[show(10:Int)=cc by omega];exact fin_⟩
     |preNo g1 g2 _=>have:=hv.1 ht;omega
     |prePost g1 g2 _ _=>have:=hv.1 ht;omega
    ·cases h with
     |preSign cc hcc h'=>exact absurd (hv.2 (by omega)) ht
     |preNo g1 g2 h'=>
      refine s_chaffref_primary _ _ _ _ _ _ (pri M hT i hi _ _ h' _ λM' x hle hx=>⟨x,_,_,rfl,λj _ _ _ _ _ _ _ _ _ M2=>j=(n:Nat)/\M'.le M2,λ_ _ _ _ _ _ _ _ _ _=>0,⟨rfl,Mem.le.refl _⟩,λj c1 c2 c3 c4 c5 c6 ca cn cc M2 ⟨hj,hle2⟩=>⟨λg=>by simp at g,λ_ M'' hle'=>?_⟩⟩)
      subst hj
      exact hK M'' ⟨c1,⟨c2,c3,c4,c5⟩,c6,ca,cn,cc⟩ ((hle.trans hle2).trans hle') (λe he=>by cases he)
     |prePost g1 g2 h' hp=>
      rename_i n' e'
      obtain⟨b1,b2,b3⟩:=h'.bound hE hk
      refine s_chaffref_primary _ _ _ _ _ _ (pri M hT i hi _ _ h' _ λM' x hle hx=>⟨x,_,_,rfl,λj c1 c2 c3 c4 c5 c6 ca cn cc M2=>∃(k2:Nat) (e:Ex),j=k2/\k2<T.length/\Ps (kdT T) (exT T) .post [e] k2 r n/\ExR M2 e ⟨c1,⟨c2,c3,c4,c5⟩,c6,ca,cn,cc⟩/\M.le M2,λj _ _ _ _ _ _ _ _ _=>T.length-j.toNat,⟨n',e',rfl,b2,hp,hx _ rfl,hle⟩,λj c1 c2 c3 c4 c5 c6 ca cn cc M2 ⟨k2,e,hj,hk2,hps,hex,hle2⟩=>⟨λ_=>(hT.le hle2).kd hj hk2 ?_,λg=>absurd rfl g⟩⟩)
      subst hj
      refine hT.idx hk2 _ _ ⟨_,rfl,?_⟩
      obtain⟨d,hd⟩:=hT.byte hk2
      have h3:=idx3 d
      rw[show d.toNat=(kdT T k2).toNat by omega]at h3
      have h3:idxB [42,43,63] (kdT T k2).toNat=if kdT T k2=42 then 0 else if kdT T k2=43 then 1 else if kdT T k2=63 then 2 else -1:=by
       rw[h3,hd]
       simp only[Int.toNat_natCast]
       (repeat' split)<;>omega
      refine⟨λhneg=>?_,λhpos=>?_⟩
      ·cases hps with
       |postOn cc2 hc2 _=>exfalso;rw[h3]at hneg;rcases hc2 with⟨q,_⟩|⟨q,_⟩|⟨q,_⟩<;>simp[q]at hneg
       |postEnd q1 q2 q3=>exact λM'' hle'=>hK M'' ⟨c1,⟨c2,c3,c4,c5⟩,c6,ca,cn,cc⟩ (hle2.trans hle') (λe he=>by cases he;exact hex.le hle')
      ·cases hps with
       |postOn cc2 hc2 hps'=>
        have hx7:7+idxB [42,43,63] (kdT T k2).toNat=cc2:=by rw[h3];rcases hc2 with⟨q,q'⟩|⟨q,q'⟩|⟨q,q'⟩<;>simp[q,q']
        have hk3:=hE k2 hk2 (by omega) (by omega)
        refine⟨by unfold InI;omega,λM3 ad cap hle3 hsl=>⟨by unfold InI;omega,⟨k2+1,_,rfl,hk3,hps',?_,hle2.trans hle3⟩,by dsimp only;omega⟩⟩
        rw[hx7]
        exact ExR.one (es:=[e]) (xs:=[_]) (by omega) (by rw[cl_one];exact hsl) ⟨_,[],rfl,hex.le hle3,rfl⟩
       |postEnd q1 q2 q3=>exact absurd (by rw[h3,if_neg (by omega),if_neg (by omega),if_neg (by omega)];decide) hpos
   refine hT.kd hi hk ⟨λh38=>j1 true ⟨λ_=>.inl h38,λ_=>rfl⟩,λh38=>hT.kd hi hk (j1 _ ⟨λe=>.inr (by simpa using e),λe=>by simp;omega⟩)⟩
  have preAll:∀k',k<=k'->k'<T.length->∀M,RowT M A c T->∀i:Int,i=k'->∀r n,Ps (kdT T) (exT T) .pre [] k' r n->∀K,RAns M K r n->S_chaffref_prefix A T.length c i M K:=λk' h1 h2 M hT i hi=>by
   by_cases e:k'=k
   ·subst e;exact pre M hT i hi
   ·exact(ih k' (by omega) h2 M hT i hi).2.1
  have seq:∀M,RowT M A c T->∀i:Int,i=k->∀r n,Ps (kdT T) (exT T) .seq [] k r n->∀K,RAns M K r n->S_chaffref_sequence A T.length c i M K:=λM hT i hi r n h K hK=>by
   refine⟨λj rn rx M2=>∃(k2:Nat) (acc:List Ex) (xs:List X_api_Expr),j=k2/\k<=k2/\k2<T.length/\acc.length<=k2/\rn=acc.length/\rx=cl X_api_Expr.cells xs/\All2 (ExR M2) acc xs/\Ps (kdT T) (exT T) .seq acc k2 r n/\M.le M2,λj _ _=>T.length-j.toNat,⟨k,[],[],hi,Nat.le_refl _,hk,by simp,rfl,rfl,rfl,h,Mem.le.refl _⟩,λj rn rx M2 ⟨k2,acc,xs,hj,hk2,hkl,ha,hrn,hrx,h2,hps,hle2⟩=>?_⟩
   subst hj hrn hrx
   obtain⟨r',n',h',hno,hso⟩:=hps.seqI
   obtain⟨b1,b2,b3⟩:=h'.bound hE hkl
   refine s_chaffref_prefix _ _ _ _ _ _ (preAll k2 hk2 hkl M2 (hT.le hle2) _ rfl r' n' h' _ λM' x hle hx=>⟨x,_,_,rfl,λg=>?_,λg=>⟨by omega,(hT.le (hle2.trans hle)).kd rfl b2 ((hT.le (hle2.trans hle)).idx b2 _ _ ⟨_,rfl,?_⟩)⟩⟩)
   ·obtain⟨rfl,rfl⟩:=hno (by cases r' with|none=>rfl|some e=>exact absurd rfl g)
    exact λM'' hle'=>hK M'' x ((hle2.trans hle).trans hle') (λe he=>by cases he)
   ·obtain⟨e,rfl⟩:∃e,r'=some e:=by
     cases r' with
     |none=>exact absurd (by simp) g
     |some e=>exact⟨e,rfl⟩
    obtain⟨hon,hend⟩:=hso e rfl
    have b3:=b3 rfl rfl
    obtain⟨d,hd⟩:=hT.byte b2
    have h4:=idx4 d
    rw[show(d.toNat:Int)=((kdT T n').toNat:Int) by omega,show((kdT T n').toNat:Int)=kdT T n' by omega]at h4
    rw[show((kdT T n').toNat:Int)=kdT T n' by omega]
    refine⟨λhneg M3 ad cap hle3 hsl=>?_,λhpos=>⟨⟨n',acc++[e],xs++[x],rfl,by omega,b2,by simp;omega,by simp,(cl_snoc _ _),(alls_le h2 hle).snoc (hx _ rfl),hon ?_,hle2.trans hle⟩,by dsimp only;omega⟩⟩
    ·obtain⟨rfl,rfl⟩:=hend (h4.1 hneg)
     refine s_chaffref_gathered _ _ _ _ _ _ (gathered_is (by omega) (es:=acc++[e]) (xs:=xs++[x]) (by simp) (by omega) (by rw[<-cl_snoc];exact hsl) ((alls_le h2 (hle.trans hle3)).snoc ((hx _ rfl).le hle3)) _ λM4 y hle4 hy=>⟨y,rfl,λM5 hle5=>?_⟩)
     exact hK M5 y ((((hle2.trans hle).trans hle3).trans hle4).trans hle5) (λe he=>by cases he;exact hy.le hle5)
    ·exact Classical.byContradiction λg=>hpos (h4.2 g)
  refine⟨pri M0 hT0 i0 hi0,pre M0 hT0 i0 hi0,seq M0 hT0 i0 hi0,λr n h K hK=>?_⟩
  have seqAll:∀k',k<=k'->k'<T.length->∀M,RowT M A c T->∀i:Int,i=k'->∀r n,Ps (kdT T) (exT T) .seq [] k' r n->∀K,RAns M K r n->S_chaffref_sequence A T.length c i M K:=λk' h1 h2 M hT i hi=>by
   by_cases e:k'=k
   ·subst e;exact seq M hT i hi
   ·exact(ih k' (by omega) h2 M hT i hi).2.2.1
  refine⟨λj rn rx M2=>∃(k2:Nat) (acc:List Ex) (xs:List X_api_Expr),j=k2/\k<=k2/\k2<T.length/\acc.length<=k2/\rn=acc.length/\rx=cl X_api_Expr.cells xs/\All2 (ExR M2) acc xs/\Ps (kdT T) (exT T) .alt acc k2 r n/\M0.le M2,λj _ _=>T.length-j.toNat,⟨k,[],[],hi0,Nat.le_refl _,hk,by simp,rfl,rfl,rfl,h,Mem.le.refl _⟩,λj rn rx M2 ⟨k2,acc,xs,hj,hk2,hkl,ha,hrn,hrx,h2,hps,hle2⟩=>?_⟩
  subst hj hrn hrx
  obtain⟨r',n',h',hno,hso⟩:=hps.altI
  obtain⟨b1,b2,b3⟩:=h'.bound hE hkl
  refine s_chaffref_sequence _ _ _ _ _ _ (seqAll k2 hk2 hkl M2 (hT0.le hle2) _ rfl r' n' h' _ λM' x hle hx=>⟨x,_,_,rfl,λg=>?_,λg=>⟨by omega,(hT0.le (hle2.trans hle)).kd rfl b2 ?_⟩⟩)
  ·obtain⟨rfl,rfl⟩:=hno (by cases r' with|none=>rfl|some e=>exact absurd rfl g)
   exact λM'' hle'=>hK M'' x ((hle2.trans hle).trans hle') (λe he=>by cases he)
  ·obtain⟨e,rfl⟩:∃e,r'=some e:=by
    cases r' with
    |none=>exact absurd (by simp) g
    |some e=>exact⟨e,rfl⟩
   obtain⟨hon,hend⟩:=hso e rfl
   have b3:=b3 rfl rfl
   refine⟨λhneg M3 ad cap hle3 hsl=>?_,λhpos=>?_⟩
   ·obtain⟨rfl,rfl⟩:=hend hneg
    refine s_chaffref_gathered _ _ _ _ _ _ (gathered_is (by omega) (es:=acc++[e]) (xs:=xs++[x]) (by simp) (by omega) (by rw[<-cl_snoc];exact hsl) ((alls_le h2 (hle.trans hle3)).snoc ((hx _ rfl).le hle3)) _ λM4 y hle4 hy=>⟨y,rfl,λM5 hle5=>?_⟩)
    exact hK M5 y ((((hle2.trans hle).trans hle3).trans hle4).trans hle5) (λe he=>by cases he;exact hy.le hle5)
   ·have h47:kdT T n'=47:=Classical.not_not.1 hpos
    have hn1:=hE n' b2 (by omega) (by omega)
    exact⟨by unfold InI;omega,⟨n'+1,acc++[e],xs++[x],rfl,by omega,hn1,by simp;omega,by simp,(cl_snoc _ _),(alls_le h2 hle).snoc (hx _ rfl),hon h47,hle2.trans hle⟩,by dsimp only;omega⟩
end Go.Proofs.Ytfpmiahbncnecaa.core

namespace Go.Proofs.Ytfpmiahbncnecaa.core
open Go.Gx Go.RowKit Go.ChangeShapes Go.WideShapes Go.ChangeAt
set_option linter.unusedVariables false
def atT (T:List X_chaffref_token) (k:Nat):Int:=(T[k]?.map (·.f_at)).getD 0
def nmT (T:List X_chaffref_token) (k:Nat):List UInt8:=(T[k]?.map (·.name)).getD []
def Stands (s:List UInt8) (hb:Bool) (T:List X_chaffref_token) (k i:Nat):Prop:=∃f,T.drop k=toksF s hb f i/\i<=s.length/\s.length<i+f
theorem stands_next {s:List UInt8} {hb:Bool} {T:List X_chaffref_token} {k i f:Nat} {t:X_chaffref_token} (h:T.drop k=t::toksF s hb f i) (hi:i<=s.length) (hf:s.length<i+f):T[k]?=some t/\Stands s hb T (k+1) i:=by
 refine⟨?_,f,?_,hi,hf⟩
 ·have:(T.drop k)[0]?=some t:=by rw[h];rfl
  simpa using this
 ·rw[<-List.drop_drop,h];rfl
theorem stands_at {T:List X_chaffref_token} {k:Nat} {t:X_chaffref_token} (h:T[k]?=some t):kdT T k=t.kind/\exT T k=exOf t.expr/\atT T k=t.f_at/\nmT T k=t.name:=by
 unfold kdT exT atT nmT
 rw[h];exact⟨rfl,rfl,rfl,rfl⟩
def signK:List Nat:=[40,41,47,38,33,63,42,43,60]
theorem signK_ne {c:Nat} (h:c∈signK):(if c=33 then 126 else(c:Int))≠33/\(if c=33 then 126 else(c:Int))≠101/\(if c=33 then 126 else(c:Int))≠104/\(if c=33 then 126 else(c:Int))≠110:=by
 unfold signK at h
 simp only[List.mem_cons,List.not_mem_nil,or_false]at h
 rcases h with rfl|rfl|rfl|rfl|rfl|rfl|rfl|rfl|rfl<;>decide
theorem lex_sign {t:List UInt8} {n c:Nat} (h:lexL t= .sign n c):c∈signK:=by
 have key:∀d:UInt8,d∈signsL->d.toNat∈signK:=by decide
 unfold lexL at h
 split at h
 ·cases h
 ·rename_i c r
  repeat' split at h
  all_goals first
   |(cases h;done)
   |(rename_i hc;cases h;exact key _ hc)
   |(cases h;decide)
inductive Here (s:List UInt8) (hb:Bool) (T:List X_chaffref_token) (k i:Nat):Prop where
 |en:kdT T k=101->tokAt s i=some ⟨(goOn s i:Nat),(goOn s i:Nat),false,zE,0⟩->Here s hb T k i
 |bad:kdT T k=33->tokAt s i=none->Here s hb T k i
 |node (n:Nat) (kk:Int) (st:X_api_Set) (tx:List UInt8):kdT T k=110->tokAt s i=some ⟨(goOn s i:Nat),(goOn s i+n:Nat),true,⟨kk,st,tx,none,0,0⟩,0⟩->exT T k=exOf ⟨kk,st,tx,none,0,0⟩->goOn s i+n<=s.length->¬(kk=4/\hb=true/\arrB s (goOn s (goOn s i+n))=true)->Stands s hb T (k+1) (goOn s i+n)->Here s hb T k i
 |head (n:Nat) (st:X_api_Set) (tx:List UInt8):kdT T k=104->tokAt s i=some ⟨(goOn s i:Nat),(goOn s i+n:Nat),true,⟨4,st,tx,none,0,0⟩,0⟩->nmT T k=tx->goOn s i+n<=s.length->hb=true->arrB s (goOn s (goOn s i+n))=true->Stands s hb T (k+1) (goOn s (goOn s i+n)+2)->Here s hb T k i
 |sign (n c:Nat):kdT T k=(if c=33 then 126 else(c:Int))->tokAt s i=some ⟨(goOn s i:Nat),(goOn s i+n:Nat),false,zE,(c:Nat)⟩->c∈signK->goOn s i+n<=s.length->Stands s hb T (k+1) (goOn s i+n)->Here s hb T k i
theorem Stands.here {s:List UInt8} {hb:Bool} {T:List X_chaffref_token} {k i:Nat} (h:Stands s hb T k i):k<T.length/\atT T k=(goOn s i:Nat)/\Here s hb T k i:=by
 obtain⟨f,hd,hi,hf⟩:=h
 obtain⟨f,rfl⟩:∃f',f=f'+1:=⟨f-1,by omega⟩
 obtain⟨g1,g2⟩:=goOn_le hi
 have lt:∀t,T[k]?=some t->k<T.length:=λt ht=>(List.getElem?_eq_some_iff.1 ht).1
 have llen:= @lex_len (s.drop (goOn s i))
 have lpos:= @lex_pos (s.drop (goOn s i))
 have hdl:(s.drop (goOn s i)).length=s.length-goOn s i:=List.length_drop ..
 rw[toksF]at hd
 split at hd
 ·rename_i he
  have ht:T[k]?=some (tkR 101 (goOn s i) zE []):=by
   have:(T.drop k)[0]?=some (tkR 101 (goOn s i) zE []):=by rw[hd];rfl
   simpa using this
  obtain⟨h1,h2,h3,h4⟩:=stands_at ht
  exact⟨lt _ ht,h3,.en h1 (by unfold tokAt;rw[if_pos he])⟩
 ·rename_i he
  cases hl:lexL (s.drop (goOn s i))with
  |bad=>
   rw[hl]at hd
   have ht:T[k]?=some (tkR 33 (goOn s i) zE []):=by
    have:(T.drop k)[0]?=some (tkR 33 (goOn s i) zE []):=by rw[hd];rfl
    simpa using this
   obtain⟨h1,h2,h3,h4⟩:=stands_at ht
   exact⟨lt _ ht,h3,.bad h1 (by unfold tokAt;rw[if_neg he,hl])⟩
  |node n kk st tx=>
   rw[hl]at hd
   dsimp only at hd
   have b1:=llen.1 _ _ _ _ hl
   have b2:=lpos.1 _ _ _ _ hl
   have b3:goOn s i+n<=s.length:=by omega
   have ta:tokAt s i=some ⟨(goOn s i:Nat),(goOn s i+n:Nat),true,⟨kk,st,tx,none,0,0⟩,0⟩:=by unfold tokAt;rw[if_neg he,hl]
   obtain⟨g3,g4⟩:=goOn_le b3
   split at hd
   ·rename_i hh
    have:=arr_le hh.2.2
    obtain⟨ht,hst⟩:=stands_next hd (by omega) (by omega)
    obtain⟨h1,h2,h3,h4⟩:=stands_at ht
    obtain⟨rfl,q1,q2⟩:=hh
    exact⟨lt _ ht,h3,.head n st tx h1 ta h4 b3 q1 q2 hst⟩
   ·rename_i hh
    obtain⟨ht,hst⟩:=stands_next hd b3 (by omega)
    obtain⟨h1,h2,h3,h4⟩:=stands_at ht
    exact⟨lt _ ht,h3,.node n kk st tx h1 ta h2 b3 hh hst⟩
  |sign n c=>
   rw[hl]at hd
   dsimp only at hd
   have b1:=llen.2 _ _ hl
   have b2:=lpos.2 _ _ hl
   have b3:goOn s i+n<=s.length:=by omega
   obtain⟨ht,hst⟩:=stands_next hd b3 (by omega)
   obtain⟨h1,h2,h3,h4⟩:=stands_at ht
   exact⟨lt _ ht,h3,.sign n c h1 (by unfold tokAt;rw[if_neg he,hl]) (lex_sign hl) b3 hst⟩
def RdAt (s:List UInt8) (hb:Bool) (T:List X_chaffref_token) (b:Nat) (M:Mem) (k:Nat):Prop:=∃i tk,Stands s hb T k i/\i<=s.length/\tokAt s i=some tk/\RdM M b ⟨s,hb,tk⟩
theorem RdAt.le {s:List UInt8} {hb:Bool} {T:List X_chaffref_token} {b:Nat} {M M':Mem} {k:Nat} (h:RdAt s hb T b M k) (hl:M.le M'):RdAt s hb T b M' k:=by
 obtain⟨i,tk,h1,h2,h3,h4⟩:=h
 exact⟨i,tk,h1,h2,h3,h4.le hl⟩
inductive Tok (s:List UInt8) (hb:Bool) (T:List X_chaffref_token) (k:Nat) (tk:X_read_Token):Prop where
 |en:kdT T k=101->tk.Node=false->tk.Sign=0->Tok s hb T k tk
 |node (e:Nat):kdT T k=110->tk.Node=true->tk.Sign=0->(exT T k=exOf tk.Expr/\tk.Expr=⟨tk.Expr.Kind,tk.Expr.Set,tk.Expr.Text,none,0,0⟩)->tk.To=(e:Nat)->e<=s.length->¬(tk.Expr.Kind=4/\hb=true/\arrB s (goOn s e)=true)->Stands s hb T (k+1) e->Tok s hb T k tk
 |head (e:Nat):kdT T k=104->tk.Node=true->tk.Sign=0->tk.Expr.Kind=4->nmT T k=tk.Expr.Text->tk.To=(e:Nat)->e<=s.length->hb=true->arrB s (goOn s e)=true->Stands s hb T (k+1) (goOn s e+2)->Tok s hb T k tk
 |sign (e:Nat) (c:Nat):kdT T k=(if c=33 then 126 else(c:Int))->tk.Node=false->tk.Sign=(c:Nat)->c∈signK->tk.To=(e:Nat)->e<=s.length->Stands s hb T (k+1) e->Tok s hb T k tk
theorem tokAt_at {s:List UInt8} {i:Nat} {tk:X_read_Token} (h:tokAt s i=some tk):tk.At=(goOn s i:Nat):=by
 unfold tokAt at h
 split at h
 ·cases h;rfl
 ·split at h
  ·cases h
  ·cases h;rfl
  ·cases h;rfl
theorem RdAt.tok {s:List UInt8} {hb:Bool} {T:List X_chaffref_token} {b:Nat} {M:Mem} {k:Nat} (h:RdAt s hb T b M k):∃tk,RdM M b ⟨s,hb,tk⟩/\k<T.length/\tk.At=atT T k/\Tok s hb T k tk:=by
 obtain⟨i,tk,h1,h2,h3,h4⟩:=h
 obtain⟨hl,ha,hh⟩:=h1.here
 refine⟨tk,h4,hl,?_,?_⟩
 ·rw[ha];exact tokAt_at h3
 ·cases hh with
  |en q1 q2=>rw[q2]at h3;cases h3;exact .en q1 rfl rfl
  |bad q1 q2=>rw[q2]at h3;cases h3
  |node n kk st tx q1 q2 q3 q4 q5 q6=>rw[q2]at h3;cases h3;exact .node _ q1 rfl rfl ⟨q3,rfl⟩ rfl q4 q5 q6
  |head n st tx q1 q2 q3 q4 q5 q6 q7=>rw[q2]at h3;cases h3;exact .head _ q1 rfl rfl rfl q3 rfl q4 q5 q6 q7
  |sign n c q1 q2 q3 q4 q5=>rw[q2]at h3;cases h3;exact .sign _ c q1 rfl rfl q3 rfl q4 q5
def Kep (b:Nat) (M M':Mem):Prop:=∀k o,k≠b->M k=some o->M' k=some o
theorem Kep.refl (b:Nat) (M:Mem):Kep b M M:=λ_ _ _ h=>h
theorem Kep.trans {b:Nat} {M M' M'':Mem} (h:Kep b M M') (k:Kep b M' M''):Kep b M M'':=λi o hi hm=>k i o hi (h i o hi hm)
theorem Kep.of {b:Nat} {M M':Mem} (h:M.le M'):Kep b M M':=λi o _ hm=>h i o hm
def veil (b:Nat) (M:Mem):Mem:=λk=>if k=b then none else M k
theorem Kep.veil {b:Nat} {M M':Mem} (h:Kep b M M'):(veil b M).le (veil b M'):=λk o hk=>by
 unfold core.veil at hk ⊢
 split
 ·rename_i e;rw[if_pos e]at hk;cases hk
 ·rename_i e;rw[if_neg e]at hk;exact h k o e hk
theorem veil_le (b:Nat) (M:Mem):(veil b M).le M:=λk o hk=>by
 unfold veil at hk
 split at hk
 ·cases hk
 ·exact hk
theorem newRow_veil {M M2:Mem} {e size n cap b:Nat} {ad:Option Addr} {xs:List Value} (h:NewRow M M2 e size ad n cap xs) (hb:M b≠none):NewRow (veil b M) (veil b M2) e size ad n cap xs:=by
 obtain⟨h1,h2,h3,⟨h4,h5,h6,rfl⟩|⟨g,cur,rfl,hg,hc,ht,rfl⟩⟩:=h
 ·exact⟨h1,h2,h3,.inl ⟨h4,h5,h6,rfl⟩⟩
 ·have hgb:g≠b:=λe=>hb (by rw[<-e];exact hg)
  refine⟨h1,h2,h3,.inr ⟨g,cur,rfl,by unfold core.veil;rw[if_neg hgb];exact hg,hc,ht,?_⟩⟩
  funext k
  unfold core.veil Mem.add
  by_cases e1:k=b
  ·rw[if_pos e1,if_neg (λe:k=g=>hgb (e.symm.trans e1))];dsimp only;rw[if_pos e1]
  ·rw[if_neg e1]
   by_cases e2:k=g
   ·rw[if_pos e2,if_pos e2]
   ·rw[if_neg e2,if_neg e2];dsimp only;rw[if_neg e1]
theorem RdAt.has {s:List UInt8} {hb:Bool} {T:List X_chaffref_token} {b:Nat} {M:Mem} {k:Nat} (h:RdAt s hb T b M k):M b≠none:=by
 obtain⟨tk,hr,_⟩:=h.tok
 unfold RdM at hr
 rw[hr];simp
section
variable {s:List UInt8} {hb:Bool} {T:List X_chaffref_token} {b:Nat} {M:Mem} {L:Nat->Prop} {k:Nat}
theorem names_at (hs:s.length<=2000) (h:RdAt s hb T b M k) (K:Value->Mem->Prop) (hK:∀M',M.le M'->K (.bool (decide (kdT T k=104))) M'):S_read_Reader_Names (some ⟨b,0,none⟩) M L K:=by
 obtain⟨tk,hr,hk,ha,ht⟩:=h.tok
 have j1t:kdT T k≠104->S_read_Reader_Names_J1 (some ⟨b,0,none⟩) M L true K:=λhn=>⟨λ_ M' hle=>by rw[decide_eq_false hn]at hK;exact hK M' hle,λe=>absurd rfl e⟩
 refine⟨b,0,rfl,hb,hr.at 1 _ rfl,λhnb=>j1t ?_,λhbt=>⟨b,0,rfl,tk.Node,hr.at 4 _ rfl,λhn=>j1t ?_,λhn=>⟨b,0,rfl,tk.Expr.Kind,hr.at 5 _ rfl,?_⟩⟩⟩
 ·cases ht with
  |head e q1 q2 q3 q4 q5 q6 q7 q8=>exact absurd q8 hnb
  |en q1=>omega
  |node e q1=>omega
  |sign e c q1 q2 q3 q4=>rw[q1];exact(signK_ne q4).2.2.1
 ·cases ht with
  |head e q1 q2=>exact absurd q2 hn
  |en q1=>omega
  |node e q1 q2=>exact absurd q2 hn
  |sign e c q1 q2 q3 q4=>rw[q1];exact(signK_ne q4).2.2.1
 ·have nd:tk.Node=true:=by simpa using hn
  have hbt:hb=true:=by simpa using hbt
  have j1:∀e:Nat,tk.To=(e:Nat)->e<=s.length->arrB s (goOn s e)=decide (kdT T k=104)->S_read_Reader_Names_J1 (some ⟨b,0,none⟩) M L false K:=λe hto he har=>by
   obtain⟨g1,g2⟩:=goOn_le he
   have e0:(s.take ((s.length:Nat):Int).toNat).drop ((goOn s e:Nat):Int).toNat=s.drop (goOn s e):=by rw[Int.toNat_natCast,Int.toNat_natCast,List.take_length]
   have hat:At M b 3 [(.int .i64 ((e:Nat):Int))]:=hr.at 3 _ (by rw[<-hto];rfl)
   have fin_:∀M',M.le M'->CallE Try.prog 34 #[(.string (mkS ((s.take ((s.length:Nat):Int).toNat).drop ((goOn s e:Nat):Int).toNat))),(.string (mkS ([60,45]:List UInt8)))] M' (λv _=>∃(x20:Bool),v=(Value.bool x20)/\(∀M'',M'.le M''->K (Value.bool x20) M'')):=λM' hle=>by
    rw[e0]
    refine s_strings_HasPrefix _ _ _ _ (prefix_is _ _ _ ⟨_,rfl,λM'' hle'=>?_⟩)
    have:=hK M'' (hle.trans hle')
    rw[<-har]at this;exact this
   refine⟨λe=>by simp at e,λ_=>⟨b,0,rfl,b,0,rfl,(e:Nat),hat,⟨s,hr.at 0 _ rfl,?_⟩,?_⟩⟩
   ·exact s_read_Reader_skip _ _ _ _ _ (skip_is hs (hr.at 0 _ rfl) he _ λM4 h4=>⟨_,rfl,by omega,by omega,by omega,fin_ M4 h4⟩)
   ·exact s_read_Reader_skip _ _ _ _ _ (skip_is hs (hr.at 0 _ rfl) he _ λM4 h4=>⟨_,rfl,s,(hr.le h4).at 0 _ rfl,by omega,by omega,by omega,fin_ M4 h4⟩)
  cases ht with
  |en q1 q2=>rw[q2]at nd;cases nd
  |sign e c q1 q2 q3 q4=>rw[q2]at nd;cases nd
  |head e q1 q2 q3 q4 q5 q6 q7 q8 q9=>
   rw[q4]
   exact j1 e q6 q7 (by rw[q9,q1];rfl)
  |node e q1 q2 q3 q4 q5 q6 q7=>
   by_cases h4:tk.Expr.Kind=4
   ·rw[h4]
    refine j1 e q5 q6 ?_
    rw[q1]
    cases hq:arrB s (goOn s e)with
    |true=>exact absurd ⟨h4,hbt,hq⟩ q7
    |false=>rfl
   ·rw[show(tk.Expr.Kind != (4:Int))=true by simpa using h4]
    exact j1t (by omega)
theorem begins_at (hs:s.length<=2000) (h:RdAt s hb T b M k) (K:Value->Mem->Prop) (hK:∀M',M.le M'->K (.bool (decide (beg (kdT T k)))) M'):S_read_Reader_begins (some ⟨b,0,none⟩) M L K:=by
 obtain⟨tk,hr,hk,ha,ht⟩:=h.tok
 have sg:∀M',M.le M'->tk.Node=false\/kdT T k=104->∀z:Bool,z=(tk.Sign==40||tk.Sign==38||tk.Sign==33)->z=decide (beg (kdT T k)):=λM' _ hn z hz=>by
  rw[hz]
  cases ht with
  |en q1 q2 q3=>rw[q1,q3];rfl
  |node e q1 q2=>exact absurd hn (by rw[q1,q2];simp)
  |head e q1 q2 q3=>rw[q1,q3];rfl
  |sign e c q1 q2 q3 q4=>
   rw[q1,q3]
   unfold signK at q4
   simp only[List.mem_cons,List.not_mem_nil,or_false]at q4
   rcases q4 with rfl|rfl|rfl|rfl|rfl|rfl|rfl|rfl|rfl<;>decide
 have out:∀(z:Bool) M',M.le M'->tk.Node=false\/kdT T k=104->z=(tk.Sign==40||tk.Sign==38||tk.Sign==33)->K (.bool z) M':=λz M' hle hn hz=>by
  rw[sg M' hle hn z hz];exact hK M' hle
 have signs:∀M1,M.le M1->tk.Node=false\/kdT T k=104->(∃(b16 o17:Nat),(some ⟨b,0,none⟩:Option Addr)=some ⟨b16,o17,none⟩/\(∃(x18:Int),At M1 b16 (o17+2+10) [(.int .u8 x18)]/\(((x18:Int)=40->(∀M',M1.le M'->K (Value.bool true) M'))/\(¬((x18:Int)=40)->(∃(b19 o20:Nat),(some ⟨b,0,none⟩:Option Addr)=some ⟨b19,o20,none⟩/\(∃(x21:Int),At M1 b19 (o20+2+10) [(.int .u8 x21)]/\(((x21:Int)=38->(∀M',M1.le M'->K (Value.bool true) M'))/\(¬((x21:Int)=38)->(∃(b22 o23:Nat),(some ⟨b,0,none⟩:Option Addr)=some ⟨b22,o23,none⟩/\(∃(x24:Int),At M1 b22 (o23+2+10) [(.int .u8 x24)]/\(∀M',M1.le M'->K (Value.bool ((x24:Int)==(33:Int))) M'))))))))))):=λM1 h1 hn=>by
  refine⟨b,0,rfl,tk.Sign,(hr.le h1).at 12 _ rfl,λq1 M' hle=>out _ M' (h1.trans hle) hn (by rw[q1];rfl),λq1=>⟨b,0,rfl,tk.Sign,(hr.le h1).at 12 _ rfl,λq2 M' hle=>out _ M' (h1.trans hle) hn (by rw[q2];rfl),λq2=>⟨b,0,rfl,tk.Sign,(hr.le h1).at 12 _ rfl,λM' hle=>out _ M' (h1.trans hle) hn ?_⟩⟩⟩
  rw[show(tk.Sign==40)=false by simpa using q1,show(tk.Sign==38)=false by simpa using q2];rfl
 refine⟨b,0,rfl,tk.Node,hr.at 4 _ rfl,λhn=>s_read_Reader_Names _ _ _ _ (names_at hs h _ λM6 h6=>⟨_,rfl,λg M' hle=>?_,λg=>signs M6 h6 (.inr (by simpa using g))⟩),λhn=>signs M (Mem.le.refl _) (.inl (by simpa using hn))⟩
 have g:kdT T k≠104:=by simpa using g
 have:=hK M' (h6.trans hle)
 cases ht with
 |en q1 q2=>rw[q2]at hn;cases hn
 |node e q1 q2=>rw[q1]at this;exact this
 |head e q1=>exact absurd q1 g
 |sign e c q1 q2=>rw[q2]at hn;cases hn
theorem go_at (hs:s.length<=2000) (h:RdAt s hb T b M k) (hw:Wr L M b) (h1:kdT T k≠101) (h2:kdT T k≠104) (K:PK)
  (hK:kdT T (k+1)≠33->∀M',Kep b M M'->RdAt s hb T b M' (k+1)->K (.tuple #[]) M') (hP:kdT T (k+1)=33->K.p (faultP (atT T (k+1)))):S_read_Reader_Go (some ⟨b,0,none⟩) M L K:=by
 obtain⟨tk,hr,hk,ha,ht⟩:=h.tok
 have on_:∀e:Nat,tk.To=(e:Nat)->e<=s.length->Stands s hb T (k+1) e->S_read_Reader_Go (some ⟨b,0,none⟩) M L K:=λe hto he hst=>by
  obtain⟨_,ha',hh⟩:=hst.here
  refine go_is hs hr hw hto he K (λtk' htk M' hM'=>hK (λh33=>?_) M' hM'.le ⟨e,tk',hst,he,htk,hM'.me⟩) (λhno=>?_)
  ·cases hh with
   |bad _ q2=>rw[q2]at htk;cases htk
   |en q1=>omega
   |node n kk st tx q1=>omega
   |head n st tx q1=>omega
   |sign n c q1 _ q3=>rw[q1]at h33;exact(signK_ne q3).1 h33
  ·rw[<-ha']
   refine hP ?_
   cases hh with
   |bad q1 _=>exact q1
   |en _ q2=>rw[q2]at hno;cases hno
   |node n kk st tx _ q2=>rw[q2]at hno;cases hno
   |head n st tx _ q2=>rw[q2]at hno;cases hno
   |sign n c _ q2=>rw[q2]at hno;cases hno
 cases ht with
 |en q1=>exact absurd q1 h1
 |head e q1=>exact absurd q1 h2
 |node e q1 q2 q3 q4 q5 q6 q7 q8=>exact on_ e q5 q6 q8
 |sign e c q1 q2 q3 q4 q5 q6 q7=>exact on_ e q5 q6 q7
end
end Go.Proofs.Ytfpmiahbncnecaa.core

namespace Go.Proofs.Ytfpmiahbncnecaa.core
open Go.Gx Go.RowKit Go.ChangeShapes Go.WideShapes Go.ChangeAt
set_option linter.unusedVariables false
theorem ps_bad {kd:Nat->Int} {ex:Nat->Ex} {t:Tg} {acc:List Ex} {k n:Nat} {r:Option Ex} (h:Ps kd ex t acc k r n):kd k=33->isPost t=false->r=none/\n=k:=by
 induction h with
 |altNo _ ih=>intro h _;exact⟨rfl,(ih h rfl).2⟩
 |altOn _ _ _ ih _=>intro h _;cases(ih h rfl).1
 |altEnd _ _ ih=>intro h _;cases(ih h rfl).1
 |seqNo _ ih=>intro h _;exact⟨rfl,(ih h rfl).2⟩
 |seqOn _ _ _ ih _=>intro h _;cases(ih h rfl).1
 |seqEnd _ _ ih=>intro h _;cases(ih h rfl).1
 |preSign c hc _ _=>intro h _;omega
 |preNo _ _ _ ih=>intro h _;exact⟨rfl,(ih h rfl).2⟩
 |prePost _ _ _ _ ih _=>intro h _;cases(ih h rfl).1
 |postOn=>intro _ e;cases e
 |postEnd=>intro _ e;cases e
 |priNode=>intro h _;omega
 |priEmpty=>intro h _;omega
 |priNo=>intro h _;omega
 |priClose=>intro h _;omega
 |priOpen=>intro h _;omega
 |priBad=>intro _ _;exact⟨rfl,rfl⟩
theorem Tok.sg {s:List UInt8} {hb:Bool} {T:List X_chaffref_token} {k:Nat} {tk:X_read_Token} (h:Tok s hb T k tk):(∀c∈([40,41,47,38,63,42,43]:List Int),tk.Sign=c↔kdT T k=c)/\(tk.Sign=33↔kdT T k=126)/\kdT T k≠33/\(tk.Node=true↔kdT T k=110\/kdT T k=104):=by
 cases h with
 |en q1 q2 q3=>rw[q1,q2,q3];decide
 |node e q1 q2 q3=>rw[q1,q2,q3];decide
 |head e q1 q2 q3=>rw[q1,q2,q3];decide
 |sign e c q1 q2 q3 q4=>
  rw[q1,q2,q3]
  unfold signK at q4
  simp only[List.mem_cons,List.not_mem_nil,or_false]at q4
  rcases q4 with rfl|rfl|rfl|rfl|rfl|rfl|rfl|rfl|rfl<;>decide
theorem ExR.bare {M M':Mem} {kk:Int} {st:X_api_Set} {tx:List UInt8} {y:X_api_Expr} (h:ExR M (.mk kk st tx []) y):ExR M' (.mk kk st tx []) ⟨kk,st,tx,none,0,0⟩:=by
 cases h with
 |mk hk hs ht hv hl hks=>exact .mk hk hs ht (xs:=[]) ⟨rfl,Nat.le_refl _,by decide,λg=>by simp at g⟩ rfl (λj e x he=>by simp at he)
def CAns (s:List UInt8) (hb:Bool) (T:List X_chaffref_token) (b:Nat) (M:Mem) (K:Value->Mem->Prop) (P:List PanicEntry->Prop) (r:Option Ex) (n:Nat):Prop:=
 (∀e,r=some e->kdT T n≠33->∀M' (x:X_api_Expr),Kep b M M'->RdAt s hb T b M' n->ExR (veil b M') e x->K x.val M')/\(r=none\/kdT T n=33->P (faultP (atT T n)))
section
variable {s:List UInt8} {hb:Bool} {T:List X_chaffref_token} {b:Nat}
theorem call_go (hs:s.length<=2000) {M:Mem} {L:Nat->Prop} {k:Nat} (h:RdAt s hb T b M k) (hw:Wr L M b) (h1:kdT T k≠101) (h2:kdT T k≠104) {K:Value->Mem->Prop} {P:List PanicEntry->Prop}
  (hK:kdT T (k+1)≠33->∀M',Kep b M M'->RdAt s hb T b M' (k+1)->K (.tuple #[]) M') (hP:kdT T (k+1)=33->P (faultP (atT T (k+1)))):CallP Try.prog 43 #[.pointer (some ⟨b,0,none⟩)] M L K P:=
 s_read_Reader_Go _ _ _ ⟨K,P⟩ (go_at hs h hw h1 h2 ⟨K,P⟩ hK hP)
theorem cparse_is (hs:s.length<=2000) (hok:∀t∈T,TkOk t) (hlen:T.length<=3000) (hE:EndsAt (kdT T) T.length):∀(m k:Nat),k<T.length->T.length-k<=m->∀(M:Mem) (L:Nat->Prop),RdAt s hb T b M k->Wr L M b->
  (∀r n,Ps (kdT T) (exT T) .pri [] k r n->∀K P,CAns s hb T b M K P r n->CallP Try.prog 87 #[.pointer (some ⟨b,0,none⟩)] M L K P)/\
  (∀r n,Ps (kdT T) (exT T) .pre [] k r n->∀K P,CAns s hb T b M K P r n->CallP Try.prog 74 #[.pointer (some ⟨b,0,none⟩)] M L K P)/\
  (∀r n,Ps (kdT T) (exT T) .seq [] k r n->∀K P,CAns s hb T b M K P r n->CallP Try.prog 53 #[.pointer (some ⟨b,0,none⟩)] M L K P)/\
  (∀r n,Ps (kdT T) (exT T) .alt [] k r n->∀K P,CAns s hb T b M K P r n->CallP Try.prog 25 #[.pointer (some ⟨b,0,none⟩)] M L K P)
 |0,k,hk,hm,_,_,_,_=>by omega
 |m+1,k,hk,hm,M0,L0,hR0,hw0=>by
  have ih:∀k',k<k'->k'<T.length->∀M L,RdAt s hb T b M k'->Wr L M b->_:=λk' h1 h2=>cparse_is hs hok hlen hE m k' h2 (by omega)
  have pri:∀M L,RdAt s hb T b M k->Wr L M b->∀r n,Ps (kdT T) (exT T) .pri [] k r n->∀K P,CAns s hb T b M K P r n->CallP Try.prog 87 #[.pointer (some ⟨b,0,none⟩)] M L K P:=λM L hR hw r n h K P hK=>by
   refine s_read_Reader_primary _ _ _ ⟨K,P⟩ ?_
   have j1t:kdT T k≠110->kdT T k≠40->∀M',M.le M'->S_read_Reader_primary_J1 (some ⟨b,0,none⟩) M L true M' ⟨K,P⟩:=λg1 g2 M' hle=>by
    obtain⟨tk,hr,_,ha,_⟩:=(hR.le hle).tok
    have hnk:r=none/\n=k:=by
     cases h with
     |priBad=>exact⟨rfl,rfl⟩
     |_=>first|omega|contradiction
    exact⟨λ_=>⟨b,0,rfl,_,hr.at 2 _ rfl,bad_is _ _ _ _ _ (by rw[ha,<-hnk.2];exact hK.2 (.inl hnk.1))⟩,λe=>absurd rfl e⟩
   refine s_read_Reader_begins _ _ _ _ (begins_at hs hR _ λM4 h4=>⟨_,rfl,λg=>?_,λg=>?_⟩)
   ·have g:¬beg (kdT T k):=by simpa using g
    unfold beg at g
    exact j1t (by omega) (by omega) M4 h4
   ·have g:beg (kdT T k):=by simpa using g
    have hR4:=hR.le h4
    obtain⟨tk,hr,_,ha,ht⟩:=hR4.tok
    obtain⟨sg,sg33,n33,snd⟩:=ht.sg
    refine⟨b,0,rfl,tk.Sign,hr.at 12 _ rfl,λh38=>j1t (by have:=(sg 38 (by decide)).1 h38;omega) (by have:=(sg 38 (by decide)).1 h38;omega) M4 h4,λh38=>⟨b,0,rfl,tk.Sign,hr.at 12 _ rfl,?_⟩⟩
    by_cases h33:tk.Sign=33
    ·rw[h33]
     exact j1t (by have:=sg33.1 h33;omega) (by have:=sg33.1 h33;omega) M4 h4
    ·rw[show(tk.Sign==(33:Int))=false by simpa using h33]
     have g38:kdT T k≠38:=λe=>h38 ((sg 38 (by decide)).2 e)
     have g126:kdT T k≠126:=λe=>h33 (sg33.2 e)
     have hkk:kdT T k=110\/kdT T k=40:=by unfold beg at g;omega
     have hk1:=hE k hk (by omega) (by omega)
     refine⟨λe=>by simp at e,λ_=>⟨b,0,rfl,tk.Node,hr.at 4 _ rfl,λhn=>?_,λhn=>?_⟩⟩
     ·have h110:kdT T k=110:=by have:=snd.1 hn;omega
      have hex:∀M',ExR M' (exT T k) tk.Expr:=λM'=>by
       cases ht with
       |node e q1 q2 q3 q4=>
        have htk:T[k]?=some T[k]:=List.getElem?_eq_getElem hk
        have h1:=(hok _ (List.mem_of_getElem? htk)).ex M'
        rw[<-(stands_at htk).2.1]at h1
        rw[q4.1]at h1 ⊢
        rw[q4.2]
        exact ExR.bare h1
       |en q1=>omega
       |head e q1=>omega
       |sign e c q1 _ _ q4=>rw[q1]at h110;exact absurd h110 (signK_ne q4).2.2.2
      have hrn:r=some (exT T k)/\n=k+1:=by
       cases h with
       |priNode=>exact⟨rfl,rfl⟩
       |_=>first|omega|contradiction
      obtain⟨rfl,rfl⟩:=hrn
      exact⟨b,0,rfl,tk.Expr,hr.at 5 _ rfl,call_go hs hR4 (.inl hw) (by omega) (by omega) (λg33 M' hkp hR'=>⟨rfl,λM'' hle=>hK.1 _ rfl g33 M'' tk.Expr (((Kep.of h4).trans hkp).trans (Kep.of hle)) (hR'.le hle) (hex _)⟩) (λg33=>hK.2 (.inr g33))⟩
     ·have h40:kdT T k=40:=by
       rcases hkk with h|h
       ·exact absurd (snd.2 (.inl h)) hn
       ·exact h
      refine call_go hs hR4 (.inl hw) (by omega) (by omega) (λg33 M5 hkp5 hR5=>⟨rfl,?_⟩) (λg33=>?_)
      ·obtain⟨tk5,hr5,_,ha5,ht5⟩:=hR5.tok
       have sg5:=ht5.sg.1
       refine⟨b,0,rfl,tk5.Sign,hr5.at 12 _ rfl,λh41=>?_,λh41=>?_⟩
       ·have h41:=(sg5 41 (by decide)).1 h41
        have hrn:r=some (one 1 [])/\n=k+2:=by
         cases h with
         |priEmpty=>exact⟨rfl,rfl⟩
         |_=>first|omega|contradiction
        obtain⟨rfl,rfl⟩:=hrn
        refine call_go hs hR5 (.inl hw) (by omega) (by omega) (λg M6 hkp6 hR6=>⟨rfl,λM' hle=>?_⟩) (λg=>hK.2 (.inr g))
        exact hK.1 _ rfl g M' ⟨1,⟨0,0,0,0⟩,[],none,0,0⟩ ((((Kep.of h4).trans hkp5).trans hkp6).trans (Kep.of hle)) (hR6.le hle) (.mk (wf_small (by omega)) zS_wf (by decide) (xs:=[]) ⟨rfl,Nat.le_refl _,by decide,λg=>by simp at g⟩ rfl (λj e x he=>by simp at he))
       ·have h41:kdT T (k+1)≠41:=λe=>h41 ((sg5 41 (by decide)).2 e)
        have alt:=λr' n' (h':Ps (kdT T) (exT T) .alt [] (k+1) r' n') K' P'=>(ih (k+1) (by omega) hk1 M5 (Wr L M) hR5 (.inl hw)).2.2.2 r' n' h' K' P'
        have thr:∀x n',n=n'->r=none->∀M6,RdAt s hb T b M6 n'->kdT T n'≠41->∃(b34 o35:Nat),(some ⟨b,0,none⟩:Option Addr)=some ⟨b34,o35,none⟩/\∃(x36:Int),At M6 b34 (o35+2+10) [(.int .u8 x36)]/\(((x36:Int)≠41->(∃(b37 o38:Nat),(some ⟨b,0,none⟩:Option Addr)=some ⟨b37,o38,none⟩/\(∃(x39:Int),At M6 b37 (o38+2) [(.int .i64 x39)]/\(CallP Try.prog 66 #[(.int .i64 x39)] M6 (Wr L M) (λv M40=>v=(Value.tuple #[])/\(S_read_Reader_primary_J3 (some ⟨b,0,none⟩) M L x M40 ⟨K,P⟩)) (thrK ⟨K,P⟩)))))/\(¬((x36:Int)≠41)->(S_read_Reader_primary_J3 (some ⟨b,0,none⟩) M L x M6 ⟨K,P⟩))):=λx n' hn hr M6 hR6 hne=>by
         obtain⟨tk6,hr6,_,ha6,ht6⟩:=hR6.tok
         exact⟨b,0,rfl,tk6.Sign,hr6.at 12 _ rfl,λ_=>⟨b,0,rfl,_,hr6.at 2 _ rfl,bad_is _ _ _ _ _ (by rw[ha6,<-hn];exact hK.2 (.inl hr))⟩,λg=>absurd ((ht6.sg.1 41 (by decide)).1 (Classical.not_not.1 g)) hne⟩
        cases h with
        |priNo _ _ h'=>exact alt _ _ h' _ _ ⟨λe he=>(by cases he),λ_=>hK.2 (.inl rfl)⟩
        |priClose _ _ h' hn41=>
         rename_i n' e
         obtain⟨b1,b2,b3⟩:=h'.bound hE hk1
         refine alt _ _ h' _ _ ⟨λe' he' hn33 M6 x hkp6 hR6 hx=>⟨x,rfl,?_⟩,λhh=>?_⟩
         ·obtain⟨tk6,hr6,_,ha6,ht6⟩:=hR6.tok
          refine⟨b,0,rfl,tk6.Sign,hr6.at 12 _ rfl,λg=>absurd ((ht6.sg.1 41 (by decide)).2 hn41) g,λ_=>?_⟩
          refine call_go hs hR6 (.inl hw) (by omega) (by omega) (λg M7 hkp7 hR7=>⟨rfl,λM' hle=>?_⟩) (λg=>hK.2 (.inr g))
          exact hK.1 e' he' g M' x (((((Kep.of h4).trans hkp5).trans hkp6).trans hkp7).trans (Kep.of hle)) (hR7.le hle) (hx.le ((hkp7.trans (Kep.of hle)).veil))
         ·rcases hh with hh|hh
          ·cases hh
          ·omega
        |priOpen _ _ h' hn41=>
         rename_i e
         exact alt _ _ h' _ _ ⟨λe' he' hn33 M6 x hkp6 hR6 hx=>⟨x,rfl,thr x n rfl rfl M6 hR6 hn41⟩,λ_=>hK.2 (.inl rfl)⟩
        |_=>first|omega|contradiction
      ·have hrn:r=none/\n=k+1:=by
        cases h with
        |priNo _ _ h'=>exact⟨rfl,(ps_bad h' g33 rfl).2⟩
        |priClose _ _ h'=>have:=(ps_bad h' g33 rfl).1;cases this
        |priOpen _ _ h'=>have:=(ps_bad h' g33 rfl).1;cases this
        |_=>first|omega|contradiction
       rw[<-hrn.2]
       exact hK.2 (.inl hrn.1)
  have pre:∀M L,RdAt s hb T b M k->Wr L M b->∀r n,Ps (kdT T) (exT T) .pre [] k r n->∀K P,CAns s hb T b M K P r n->CallP Try.prog 74 #[.pointer (some ⟨b,0,none⟩)] M L K P:=λM L hR hw r n h K P hK=>by
   refine s_read_Reader_prefix _ _ _ ⟨K,P⟩ ?_
   obtain⟨tk,hr,_,ha,ht⟩:=hR.tok
   obtain⟨sg,sg33,n33,snd⟩:=ht.sg
   have signed:∀c:Int,kdT T k=38/\c=10\/kdT T k=126/\c=11->CallP Try.prog 43 #[(.pointer (some ⟨b,0,none⟩))] M (Wr L M) (λv M6=>v=(Value.tuple #[])/\(CallP Try.prog 74 #[(.pointer (some ⟨b,0,none⟩))] M6 (Wr L M) (λv M8=>∃(x7:X_api_Expr),v=x7.val/\(∀(M12:Mem) (ad10:Option Addr) (cap11:Nat),NewRow M8 M12 27 7 ad10 1 cap11 x7.cells->(∀M',M12.le M'->K (X_api_Expr.mk c (X_api_Set.mk 0 0 0 0) [] ad10 1 cap11).val M'))) P)) P:=λc hc=>by
    have hk1:=hE k hk (by omega) (by omega)
    cases h with
    |preSign c' hc' h'=>
     rename_i r'
     have:c'=c:=by omega
     subst this
     refine call_go hs hR (.inl hw) (by omega) (by omega) (λg33 M6 hkp6 hR6=>⟨rfl,?_⟩) (λg33=>?_)
     ·refine(ih (k+1) (by omega) hk1 M6 (Wr L M) hR6 (.inl hw)).2.1 _ _ h' _ _ ⟨λe he hn33 M8 x hkp8 hR8 hx=>⟨x,rfl,λM12 ad cap hnr M' hle=>?_⟩,λhh=>hK.2 (hh.imp (λg=>by rw[g];rfl) id)⟩
      subst he
      have hv:=newRow_veil hnr hR8.has
      exact hK.1 _ rfl hn33 M' ⟨c',⟨0,0,0,0⟩,[],ad,1,cap⟩ ((hkp6.trans hkp8).trans (Kep.of (hnr.le.trans hle))) (hR8.le (hnr.le.trans hle)) ((ExR.one (es:=[e]) (xs:=[x]) (by omega) (by rw[cl_one];exact hv.slv) ⟨x,[],rfl,hx.le hv.le,rfl⟩).le (Kep.of hle).veil)
     ·obtain⟨q1,q2⟩:=ps_bad h' g33 rfl
      rw[<-q2]
      exact hK.2 (.inl (by rw[q1];rfl))
    |preNo g1 g2 _=>omega
    |prePost g1 g2 _ _=>omega
   refine⟨b,0,rfl,tk.Sign,hr.at 12 _ rfl,λh38=>signed 10 (.inl ⟨(sg 38 (by decide)).1 h38,rfl⟩),λh38=>⟨λh33=>signed 11 (.inr ⟨sg33.1 h33,rfl⟩),λh33=>?_⟩⟩
   have g38:kdT T k≠38:=λe=>h38 ((sg 38 (by decide)).2 e)
   have g126:kdT T k≠126:=λe=>h33 (sg33.2 e)
   cases h with
   |preSign c' hc' h'=>omega
   |preNo g1 g2 h'=>exact pri M (Wr L M) hR (.inl hw) _ _ h' _ _ ⟨λe he=>(by cases he),λ_=>hK.2 (.inl rfl)⟩
   |prePost g1 g2 h' hp=>
    rename_i n' e'
    obtain⟨b1,b2,b3⟩:=h'.bound hE hk
    refine pri M (Wr L M) hR (.inl hw) _ _ h' _ _ ⟨λe he hn33 M21 x hkp21 hR21 hx=>⟨x,rfl,Nat×Ex,λg c1 c2 c3 c4 c5 c6 ca cn cc M2=>g.1<T.length/\Ps (kdT T) (exT T) .post [g.2] g.1 r n/\RdAt s hb T b M2 g.1/\ExR (veil b M2) g.2 ⟨c1,⟨c2,c3,c4,c5⟩,c6,ca,cn,cc⟩/\Kep b M M2,λg _ _ _ _ _ _ _ _ _=>T.length-g.1,(n',e'),⟨b2,hp,hR21,by cases he;exact hx,hkp21⟩,λg c1 c2 c3 c4 c5 c6 ca cn cc M2 ⟨hk2,hps,hR2,hex,hkp2⟩=>?_⟩,λhh=>?_⟩
    ·obtain⟨k2,e2⟩:=g
     dsimp only at hk2 hps hR2 hex
     obtain⟨tk2,hr2,_,ha2,ht2⟩:=hR2.tok
     have sg2:=ht2.sg.1
     have step:∀c:Int,kdT T k2=42/\c=7\/kdT T k2=43/\c=8\/kdT T k2=63/\c=9->S_read_Reader_prefix_J1 (some ⟨b,0,none⟩) M L c1 c2 c3 c4 c5 c6 ca cn cc M2 (Nat×Ex) (k2,e2) (λg c1 c2 c3 c4 c5 c6 ca cn cc M2=>g.1<T.length/\Ps (kdT T) (exT T) .post [g.2] g.1 r n/\RdAt s hb T b M2 g.1/\ExR (veil b M2) g.2 ⟨c1,⟨c2,c3,c4,c5⟩,c6,ca,cn,cc⟩/\Kep b M M2) (λg _ _ _ _ _ _ _ _ _=>T.length-g.1) c ⟨K,P⟩:=λc hc=>by
      cases hps with
      |postOn c' hc' hps'=>
       have:c'=c:=by omega
       subst this
       have hk3:=hE k2 hk2 (by omega) (by omega)
       refine call_go hs hR2 (.inl hw) (by omega) (by omega) (λg33 M6 hkp6 hR6=>⟨rfl,λM12 ad cap hnr=>?_⟩) (λg33=>?_)
       ·have hv:=newRow_veil hnr hR6.has
        exact⟨(k2+1,one c' [e2]),⟨hk3,hps',hR6.le hnr.le,ExR.one (es:=[e2]) (xs:=[_]) (by omega) (by rw[cl_one];exact hv.slv) ⟨_,[],rfl,(hex.le hkp6.veil).le hv.le,rfl⟩,(hkp2.trans hkp6).trans (Kep.of hnr.le)⟩,by dsimp only;omega⟩
       ·cases hps' with
        |postOn c' hc' _=>omega
        |postEnd=>exact hK.2 (.inr g33)
      |postEnd q1 q2 q3=>omega
     refine⟨b,0,rfl,tk2.Sign,hr2.at 12 _ rfl,λh63=>step 9 (.inr (.inr ⟨(sg2 63 (by decide)).1 h63,rfl⟩)),λh63=>⟨λh42=>step 7 (.inl ⟨(sg2 42 (by decide)).1 h42,rfl⟩),λh42=>⟨λh43=>step 8 (.inr (.inl ⟨(sg2 43 (by decide)).1 h43,rfl⟩)),λh43 M' hle=>?_⟩⟩⟩
     have q1:kdT T k2≠63:=λe=>h63 ((sg2 63 (by decide)).2 e)
     have q2:kdT T k2≠42:=λe=>h42 ((sg2 42 (by decide)).2 e)
     have q3:kdT T k2≠43:=λe=>h43 ((sg2 43 (by decide)).2 e)
     cases hps with
     |postOn c' hc' _=>omega
     |postEnd _ _ _=>exact hK.1 _ rfl ht2.sg.2.2.1 M' ⟨c1,⟨c2,c3,c4,c5⟩,c6,ca,cn,cc⟩ (hkp2.trans (Kep.of hle)) (hR2.le hle) (hex.le (Kep.of hle).veil)
    ·rcases hh with hh|hh
     ·cases hh
     ·cases hp with
      |postOn c' hc' _=>omega
      |postEnd=>exact hK.2 (.inr hh)
  have preAll:∀k',k<=k'->k'<T.length->∀M L,RdAt s hb T b M k'->Wr L M b->∀r n,Ps (kdT T) (exT T) .pre [] k' r n->∀K P,CAns s hb T b M K P r n->CallP Try.prog 74 #[.pointer (some ⟨b,0,none⟩)] M L K P:=λk' h1 h2 M L hR hw=>by
   by_cases e:k'=k
   ·subst e;exact pre M L hR hw
   ·exact(ih k' (by omega) h2 M L hR hw).2.1
  have seq:∀M L,RdAt s hb T b M k->Wr L M b->∀r n,Ps (kdT T) (exT T) .seq [] k r n->∀K P,CAns s hb T b M K P r n->CallP Try.prog 53 #[.pointer (some ⟨b,0,none⟩)] M L K P:=λM L hR hw r n h K P hK=>by
   refine s_read_Reader_seq _ _ _ ⟨K,P⟩ ?_
   obtain⟨r',n',h',hno,hso⟩:=h.seqI
   obtain⟨b1,b2,b3⟩:=h'.bound hE hk
   let I:Nat×List Ex->Nat->List Value->Mem->Prop:=λg rn rx M2=>∃xs:List X_api_Expr,k<g.1/\g.1<T.length/\0<g.2.length/\g.2.length<=g.1/\rn=g.2.length/\rx=cl X_api_Expr.cells xs/\All2 (ExR (veil b M2)) g.2 xs/\RdAt s hb T b M2 g.1/\(beg (kdT T g.1)->Ps (kdT T) (exT T) .seq g.2 g.1 r n)/\(¬beg (kdT T g.1)->n=g.1/\r=some (gath 5 g.2))/\Kep b M M2
   let mu:Nat×List Ex->Nat->List Value->Nat:=λg _ _=>T.length-g.1
   have nb33:∀j,kdT T j=33->¬beg (kdT T j):=λj e g=>by unfold beg at g;omega
   refine pre M (Wr L M) hR (.inl hw) _ _ h' _ _ ⟨λe he hn33 M4 x hkp4 hR4 hx=>⟨x,rfl,Nat×List Ex,I,mu,(n',[e]),?_,λg rn rx M2 ⟨xs,hk2,hkl,h0,hal,hrn,hrx,h2,hR2,hon,hend,hkp2⟩=>?_⟩,λhh=>?_⟩
   ·subst he
    obtain⟨hon,hend⟩:=hso e rfl
    have:=b3 rfl rfl
    exact⟨[x],this,b2,by simp,by simp;omega,rfl,(cl_one x).symm,⟨x,[],rfl,hx,rfl⟩,hR4,hon,hend,hkp4⟩
   ·obtain⟨k2,acc⟩:=g
    dsimp only at hk2 hkl h0 hal hrn h2 hR2 hon hend
    subst hrn hrx
    refine s_read_Reader_begins _ _ _ _ (begins_at hs hR2 _ λM36 h36=>⟨_,rfl,λhbt=>?_,λhbf=>?_⟩)
    ·have hbt:beg (kdT T k2):=by simpa using hbt
     obtain⟨r2,n2,h2',hno2,hso2⟩:=(hon hbt).seqI
     obtain⟨c1,c2,c3⟩:=h2'.bound hE hkl
     refine preAll k2 (by omega) hkl M36 (Wr L M) (hR2.le h36) (.inl hw) _ _ h2' _ _ ⟨λe he hn33 M38 y hkp38 hR38 hy=>⟨y,rfl,by omega,(n2,acc++[e]),?_,?_⟩,λhh=>?_⟩
     ·subst he
      obtain⟨hon2,hend2⟩:=hso2 e rfl
      have:=c3 rfl rfl
      exact⟨xs++[y],by omega,c2,by simp,by simp;omega,by simp,cl_snoc _ _,(alls_le h2 ((Kep.of h36).trans hkp38).veil).snoc hy,hR38,hon2,hend2,(hkp2.trans (Kep.of h36)).trans hkp38⟩
     ·subst he
      have:=c3 rfl rfl
      dsimp only[mu];omega
     ·cases r2 with
      |none=>obtain⟨q1,q2⟩:=hno2 rfl;rw[<-q2];exact hK.2 (.inl q1)
      |some e2=>
       rcases hh with hh|hh
       ·cases hh
       ·obtain⟨q1,_⟩:=(hso2 e2 rfl).2 (nb33 _ hh);rw[<-q1]at hh ⊢;exact hK.2 (.inr hh)
    ·have hbf:¬beg (kdT T k2):=by simpa using hbf
     obtain⟨rfl,rfl⟩:=hend hbf
     have n33:kdT T n≠33:=by obtain⟨tk2,_,_,_,ht2⟩:=hR2.tok;exact ht2.sg.2.2.1
     refine⟨λh1=>⟨by omega,by omega,?_⟩,λh1 M50 ad cap hnr M' hle=>?_⟩
     ·obtain⟨e,rfl⟩:∃e,acc=[e]:=by
       match acc,h1 with
       |[e],_=>exact⟨e,rfl⟩
       |[],h=>simp at h
       |_::_::_,h=>simp at h;omega
      obtain⟨x,_,rfl,hx,hr⟩:=h2
      cases hr
      exact⟨x,cl_Cs Xe_len (i:=0) rfl,λM' hle=>hK.1 _ rfl n33 M' x (hkp2.trans (Kep.of (h36.trans hle))) (hR2.le (h36.trans hle)) (hx.le (Kep.of (h36.trans hle)).veil)⟩
     ·have hR36:=hR2.le h36
      have hv:=newRow_veil hnr hR36.has
      refine hK.1 _ rfl n33 M' ⟨5,⟨0,0,0,0⟩,[],ad,acc.length,cap⟩ (hkp2.trans (Kep.of ((h36.trans hnr.le).trans hle))) (hR36.le (hnr.le.trans hle)) ?_
      rw[gath_more 5 (by omega)]
      exact(ExR.one (by omega) hv.slv (alls_le h2 ((Kep.of h36).veil.trans hv.le))).le (Kep.of hle).veil
   ·cases r' with
    |none=>obtain⟨q1,q2⟩:=hno rfl;rw[<-q2];exact hK.2 (.inl q1)
    |some e2=>
     rcases hh with hh|hh
     ·cases hh
     ·obtain⟨q1,_⟩:=(hso e2 rfl).2 (nb33 _ hh);rw[<-q1]at hh ⊢;exact hK.2 (.inr hh)
  refine⟨pri M0 L0 hR0 hw0,pre M0 L0 hR0 hw0,seq M0 L0 hR0 hw0,λr n h K P hK=>?_⟩
  have seqAll:∀k',k<=k'->k'<T.length->∀M L,RdAt s hb T b M k'->Wr L M b->∀r n,Ps (kdT T) (exT T) .seq [] k' r n->∀K P,CAns s hb T b M K P r n->CallP Try.prog 53 #[.pointer (some ⟨b,0,none⟩)] M L K P:=λk' h1 h2 M L hR hw=>by
   by_cases e:k'=k
   ·subst e;exact seq M L hR hw
   ·exact(ih k' (by omega) h2 M L hR hw).2.2.1
  refine s_read_Reader_Alt _ _ _ ⟨K,P⟩ ?_
  obtain⟨r',n',h',hno,hso⟩:=h.altI
  obtain⟨b1,b2,b3⟩:=h'.bound hE hk
  let I:Nat×List Ex->Nat->List Value->Mem->Prop:=λg rn rx M2=>∃xs:List X_api_Expr,k<g.1/\g.1<T.length/\0<g.2.length/\g.2.length<=g.1/\rn=g.2.length/\rx=cl X_api_Expr.cells xs/\All2 (ExR (veil b M2)) g.2 xs/\RdAt s hb T b M2 g.1/\(kdT T g.1=47->Ps (kdT T) (exT T) .alt g.2 (g.1+1) r n)/\(kdT T g.1≠47->n=g.1/\r=some (gath 6 g.2))/\Kep b M0 M2
  let mu:Nat×List Ex->Nat->List Value->Nat:=λg _ _=>T.length-g.1
  have nb33:∀j,kdT T j=33->kdT T j≠47:=λj e g=>by omega
  refine seq M0 (Wr L0 M0) hR0 (.inl hw0) _ _ h' _ _ ⟨λe he hn33 M4 x hkp4 hR4 hx=>⟨x,rfl,Nat×List Ex,I,mu,(n',[e]),?_,λg rn rx M2 ⟨xs,hk2,hkl,h0,hal,hrn,hrx,h2,hR2,hon,hend,hkp2⟩=>?_⟩,λhh=>?_⟩
  ·subst he
   obtain⟨hon,hend⟩:=hso e rfl
   have:=b3 rfl rfl
   exact⟨[x],this,b2,by simp,by simp;omega,rfl,(cl_one x).symm,⟨x,[],rfl,hx,rfl⟩,hR4,hon,hend,hkp4⟩
  ·obtain⟨k2,acc⟩:=g
   dsimp only at hk2 hkl h0 hal hrn h2 hR2 hon hend
   subst hrn hrx
   obtain⟨tk2,hr2,_,_,ht2⟩:=hR2.tok
   have sg2:=ht2.sg.1 47 (by decide)
   have n33:=ht2.sg.2.2.1
   refine⟨b,0,rfl,tk2.Sign,hr2.at 12 _ rfl,λh47=>?_,λh47=>?_⟩
   ·have h47:=sg2.1 h47
    have hps2:=hon h47
    have hk3:=hE k2 hkl (by omega) (by omega)
    refine call_go hs hR2 (.inl hw0) (by omega) (by omega) (λg33 M42 hkp42 hR42=>⟨rfl,?_⟩) (λg33=>?_)
    ·obtain⟨r2,n2,h2',hno2,hso2⟩:=hps2.altI
     obtain⟨c1,c2,c3⟩:=h2'.bound hE hk3
     refine seqAll (k2+1) (by omega) hk3 M42 (Wr L0 M0) hR42 (.inl hw0) _ _ h2' _ _ ⟨λe he hn33 M44 y hkp44 hR44 hy=>⟨y,rfl,by omega,(n2,acc++[e]),?_,?_⟩,λhh=>?_⟩
     ·subst he
      obtain⟨hon2,hend2⟩:=hso2 e rfl
      have:=c3 rfl rfl
      exact⟨xs++[y],by omega,c2,by simp,by simp;omega,by simp,cl_snoc _ _,(alls_le h2 (hkp42.trans hkp44).veil).snoc hy,hR44,hon2,hend2,(hkp2.trans hkp42).trans hkp44⟩
     ·subst he
      have:=c3 rfl rfl
      dsimp only[mu];omega
     ·cases r2 with
      |none=>obtain⟨q1,q2⟩:=hno2 rfl;rw[<-q2];exact hK.2 (.inl q1)
      |some e2=>
       rcases hh with hh|hh
       ·cases hh
       ·obtain⟨q1,_⟩:=(hso2 e2 rfl).2 (nb33 _ hh);rw[<-q1]at hh ⊢;exact hK.2 (.inr hh)
    ·obtain⟨q1,q2⟩:=ps_bad hps2 g33 rfl
     rw[<-q2]
     exact hK.2 (.inl q1)
   ·have h47:kdT T k2≠47:=λe=>h47 (sg2.2 e)
    obtain⟨rfl,rfl⟩:=hend h47
    refine⟨λh1=>⟨by omega,by omega,?_⟩,λh1 M50 ad cap hnr M' hle=>?_⟩
    ·obtain⟨e,rfl⟩:∃e,acc=[e]:=by
      match acc,h1 with
      |[e],_=>exact⟨e,rfl⟩
      |[],h=>simp at h
      |_::_::_,h=>simp at h;omega
     obtain⟨x,_,rfl,hx,hr⟩:=h2
     cases hr
     exact⟨x,cl_Cs Xe_len (i:=0) rfl,λM' hle=>hK.1 _ rfl n33 M' x (hkp2.trans (Kep.of hle)) (hR2.le hle) (hx.le (Kep.of hle).veil)⟩
    ·have hv:=newRow_veil hnr hR2.has
     refine hK.1 _ rfl n33 M' ⟨6,⟨0,0,0,0⟩,[],ad,acc.length,cap⟩ (hkp2.trans (Kep.of (hnr.le.trans hle))) (hR2.le (hnr.le.trans hle)) ?_
     rw[gath_more 6 (by omega)]
     exact(ExR.one (by omega) hv.slv (alls_le h2 hv.le)).le (Kep.of hle).veil
  ·cases r' with
   |none=>obtain⟨q1,q2⟩:=hno rfl;rw[<-q2];exact hK.2 (.inl q1)
   |some e2=>
    rcases hh with hh|hh
    ·cases hh
    ·obtain⟨q1,_⟩:=(hso e2 rfl).2 (nb33 _ hh);rw[<-q1]at hh ⊢;exact hK.2 (.inr hh)
end
end Go.Proofs.Ytfpmiahbncnecaa.core

namespace Go.Proofs.Ytfpmiahbncnecaa.core
open Go.Gx Go.RowKit Go.ChangeShapes Go.WideShapes Go.ChangeAt
set_option linter.unusedVariables false
theorem unlG_out (q:UInt8):∀(n:Nat) (r:List UInt8),r.length<n->∀(i:Int) (out:List UInt8),(unlG q r i out).1.length<=out.length+r.length
 |0,_,h,_,_=>absurd h (Nat.not_lt_zero _)
 |n+1,r,h,i,out=>by
  unfold unlG
  split
  ·simp
  ·rename_i c t
   split
   ·simp
   ·split
    ·simp
    ·rename_i hk
     obtain⟨_,_,h0,hl,_⟩:=saidP_ok [39,34,92] (c::t)
     have hd:((c::t).drop ((saidP [39,34,92] (c::t)).2.toNat-1+1)).length=(c::t).length-((saidP [39,34,92] (c::t)).2.toNat-1+1):=List.length_drop ..
     generalize saidP [39,34,92] (c::t)=z at*
     have ih:=unlG_out q n ((c::t).drop (z.2.toNat-1+1)) (by rw[hd];simp only[List.length_cons]at h ⊢;omega) (i+z.2) (out++[z.1.toNat.toUInt8])
     rw[hd,List.length_append]at ih
     simp only[List.length_cons,List.length_nil]at ih ⊢
     omega
theorem unlitP_out (s:List UInt8):(unlitP s).1.length<=s.length:=by
 unfold unlitP
 split
 ·simp
 ·split
  ·simp
  ·refine Nat.le_trans (unlG_out _ _ _ (Nat.lt_succ_self _) _ _) ?_
   simp
theorem unclP_wf (s:List UInt8):wfS (unclP s).1:=by
 have key:∀b o,wfS (unclR b o).1:=λb o=>by
  cases o with
  |none=>exact zS_wf
  |some p=>exact Us_wf _
 unfold unclP
 split
 ·split<;>exact key _ _
 ·exact zS_wf
theorem lex_wf {t:List UInt8} {n:Nat} {k:Int} {st:X_api_Set} {tx:List UInt8} (h:lexL t= .node n k st tx):(1<=k/\k<=4)/\wfS st/\tx.length<=t.length:=by
 have ul:=unlitP_out t
 have up:=unclP_wf t
 unfold lexL at h
 split at h
 ·cases h
 ·repeat' split at h
  all_goals first
   |(cases h;done)
   |(cases h;refine⟨by omega,?_,?_⟩<;>first|exact zS_wf|exact up|exact Us_wf _|exact ul|(simp only[List.length_take];omega)|simp)
theorem toks_ok {s:List UInt8} (hs:s.length<=2000) (hb:Bool):∀(f i:Nat),∀t∈toksF s hb f i,TkOk t
 |0,_,t,h=>by cases h
 |f+1,i,t,h=>by
  have bare:∀(k:Int) (st:X_api_Set) (tx:List UInt8),0<=k/\k<=100->wfS st->tx.length<=2000->∀M,ExR M (exOf ⟨k,st,tx,none,0,0⟩) ⟨k,st,tx,none,0,0⟩:=λk st tx hk hst htx M=>.mk (wf_small hk) hst (by show tx.length<=maxLen;unfold maxLen;omega) (xs:=[]) ⟨rfl,Nat.le_refl _,by decide,λg=>by simp at g⟩ rfl (λj e x he=>by simp at he)
  have zer:∀M,ExR M (exOf zE) zE:=bare 0 _ _ (by omega) zS_wf (by simp)
  rw[toksF]at h
  split at h
  ·rw[List.mem_singleton]at h;subst h;exact⟨zer,⟨101,rfl⟩,by show([]:List UInt8).length<=maxLen;decide⟩
  ·cases hl:lexL (s.drop (goOn s i))with
   |bad=>rw[hl]at h;rw[List.mem_singleton]at h;subst h;exact⟨zer,⟨33,rfl⟩,by show([]:List UInt8).length<=maxLen;decide⟩
   |node n k st tx=>
    rw[hl]at h
    obtain⟨h1,h2,h3⟩:=lex_wf hl
    rw[List.length_drop]at h3
    have nmle:(if k=4 then tx else[]).length<=maxLen:=by
     split
     ·unfold maxLen;omega
     ·decide
    dsimp only at h
    split at h
    ·rcases List.mem_cons.1 h with rfl|h
     ·exact⟨bare _ _ _ (by omega) h2 (by omega),⟨104,rfl⟩,by show tx.length<=maxLen;unfold maxLen;omega⟩
     ·exact toks_ok hs hb f _ t h
    ·rcases List.mem_cons.1 h with rfl|h
     ·exact⟨bare _ _ _ (by omega) h2 (by omega),⟨110,rfl⟩,nmle⟩
     ·exact toks_ok hs hb f _ t h
   |sign n c=>
    rw[hl]at h
    dsimp only at h
    rcases List.mem_cons.1 h with rfl|h
    ·refine⟨zer,?_,by show([]:List UInt8).length<=maxLen;decide⟩
     have:=lex_sign hl
     unfold signK at this
     simp only[List.mem_cons,List.not_mem_nil,or_false]at this
     rcases this with rfl|rfl|rfl|rfl|rfl|rfl|rfl|rfl|rfl<;>first|exact⟨40,rfl⟩|exact⟨41,rfl⟩|exact⟨47,rfl⟩|exact⟨38,rfl⟩|exact⟨126,rfl⟩|exact⟨63,rfl⟩|exact⟨42,rfl⟩|exact⟨43,rfl⟩|exact⟨60,rfl⟩
    ·exact toks_ok hs hb f _ t h
theorem toks_len (s:List UInt8) (hb:Bool):∀(f i:Nat),(toksF s hb f i).length<=f
 |0,_=>by simp[toksF]
 |f+1,i=>by
  have ih:=toks_len s hb f
  rw[toksF]
  split
  ·simp
  ·split
   ·simp
   ·split
    ·have:=ih (goOn s (goOn s i+‹Nat›)+2);simp only[List.length_cons];omega
    ·have:=ih (goOn s i+‹Nat›);simp only[List.length_cons];omega
   ·rename_i n c _;have:=ih (goOn s i+n);simp only[List.length_cons];omega
theorem Stands.on {s:List UInt8} {hb:Bool} {T:List X_chaffref_token} {k i:Nat} (h:Stands s hb T k i) (h1:k+1<T.length):∃i',Stands s hb T (k+1) i':=by
 obtain⟨f,hd,hi,hf⟩:=id h
 have hlen:=congrArg List.length hd
 rw[List.length_drop]at hlen
 obtain⟨_,_,hh⟩:=h.here
 obtain⟨f,rfl⟩:∃f',f=f'+1:=⟨f-1,by omega⟩
 cases hh with
 |node n kk st tx q1 q2 q3 q4 q5 q6=>exact⟨_,q6⟩
 |head n st tx q1 q2 q3 q4 q5 q6 q7=>exact⟨_,q7⟩
 |sign n c q1 q2 q3 q4 q5=>exact⟨_,q5⟩
 |en q1 q2=>
  rw[toksF]at hlen
  split at hlen
  ·simp at hlen;omega
  ·rename_i he
   unfold tokAt at q2
   rw[if_neg he]at q2
   cases hl:lexL (s.drop (goOn s i))with
   |bad=>rw[hl]at hlen;simp at hlen;omega
   |node n k st tx=>rw[hl]at q2;simp at q2
   |sign n c=>
    have:=(lex_sign hl)
    rw[hl]at q2;simp at q2;rw[q2.2]at this;simp[signK]at this
 |bad q1 q2=>
  rw[toksF]at hlen
  split at hlen
  ·simp at hlen;omega
  ·rename_i he
   unfold tokAt at q2
   rw[if_neg he]at q2
   cases hl:lexL (s.drop (goOn s i))with
   |bad=>rw[hl]at hlen;simp at hlen;omega
   |node n k st tx=>rw[hl]at q2;cases q2
   |sign n c=>rw[hl]at q2;cases q2
theorem stands_zero (s:List UInt8) (hb:Bool) (hs:s.length<=2000):Stands s hb (toksF s hb 2001 0) 0 0:=⟨2001,rfl,by omega,by omega⟩
theorem stands_all {s:List UInt8} {hb:Bool} {T:List X_chaffref_token} (h0:Stands s hb T 0 0):∀k,k<T.length->∃i,Stands s hb T k i
 |0,_=>⟨0,h0⟩
 |k+1,h=>by
  obtain⟨i,hi⟩:=stands_all h0 k (by omega)
  exact hi.on h
theorem toks_ends {s:List UInt8} (hs:s.length<=2000) (hb:Bool):EndsAt (kdT (toksF s hb 2001 0)) (toksF s hb 2001 0).length:=λk hk h1 h2=>by
 obtain⟨i,hi⟩:=stands_all (stands_zero s hb hs) k hk
 obtain⟨_,_,hh⟩:=hi.here
 cases hh with
 |en q1=>exact absurd q1 h1
 |bad q1=>exact absurd q1 h2
 |node n kk st tx q1 q2 q3 q4 q5 q6=>exact q6.here.1
 |head n st tx q1 q2 q3 q4 q5 q6 q7=>exact q7.here.1
 |sign n c q1 q2 q3 q4 q5=>exact q5.here.1
theorem toks_row {s:List UInt8} (hs:s.length<=2000) (hb:Bool) {M:Mem} {A:Option Addr} {c:Nat} (h:SlV M A (toksF s hb 2001 0).length c 10 (cl X_chaffref_token.cells (toksF s hb 2001 0))):RowT M A c (toksF s hb 2001 0):=
 ⟨h,toks_ok hs hb 2001 0,Nat.le_trans (toks_len s hb 2001 0) (by omega),toks_ends hs hb⟩
theorem new_at {s:List UInt8} (hs:s.length<=2000) (hb:Bool) {M:Mem} {L:Nat->Prop} {K:Value->Mem->Prop} {P:List PanicEntry->Prop}
  (hK:kdT (toksF s hb 2001 0) 0≠33->∀(b:Nat) M',M b=none->M.le M'->RdAt s hb (toksF s hb 2001 0) b M' 0->K (.pointer (some ⟨b,0,none⟩)) M') (hP:kdT (toksF s hb 2001 0) 0=33->P (faultP (atT (toksF s hb 2001 0) 0))):CallP Try.prog 24 #[.string (mkS s),.bool hb] M L K P:=by
 refine s_read_New _ _ _ _ ⟨K,P⟩ (λb M4 hb4 hM4=>?_)
 have h4:RdM M4 b ⟨s,hb,⟨0,0,false,zE,0⟩⟩:=by unfold RdM;rw[hM4,Mem.add_eq];rfl
 have hst:=stands_zero s hb hs
 obtain⟨_,ha,hh⟩:=hst.here
 refine s_read_Reader_next _ _ _ _ ⟨_,P⟩ (next_is (i:=0) hs h4 (.inl (.inr hb4)) (by omega) _ (λtk htk M' hto=>⟨rfl,λM'' hle=>?_⟩) (λhno=>?_))
 ·refine hK (λh33=>?_) b M'' hb4 (λk o hk=>hle _ _ (hto.le k o (λe=>by rw[e,hb4]at hk;cases hk) (by rw[hM4];exact Mem.add_le hb4 _ _ hk))) ⟨0,tk,hst,by omega,htk,hto.me.le hle⟩
  cases hh with
  |bad _ q2=>rw[q2]at htk;cases htk
  |en q1=>omega
  |node n kk st tx q1=>omega
  |head n st tx q1=>omega
  |sign n c q1 _ q3=>rw[q1]at h33;exact(signK_ne q3).1 h33
 ·have hp:=hP (by
   cases hh with
   |bad q1 _=>exact q1
   |en _ q2=>rw[q2]at hno;cases hno
   |node n kk st tx _ q2=>rw[q2]at hno;cases hno
   |head n st tx _ q2=>rw[q2]at hno;cases hno
   |sign n c _ q2=>rw[q2]at hno;cases hno)
  rw[ha]at hp
  exact hp
end Go.Proofs.Ytfpmiahbncnecaa.core

namespace Go.Proofs.Ytfpmiahbncnecaa.core
open Go.Gx Go.RowKit Go.ChangeShapes Go.WideShapes Go.ChangeAt
set_option linter.unusedVariables false
theorem catch_nil (p q:Addr) (w:World):Calls Try.prog 23 #[.nilIface,.pointer (some p),.pointer (some q)] w λe w'=>e= .returned (.tuple #[])/\w'=w:=by
 go_enter Try.func23,Try.ntmps23
 go_wp2
 exact bodyPost_ret (results_none rfl _ _ _) rfl ⟨rfl,rfl⟩
set_option maxRecDepth 100000 in
theorem catch_one (p q:Nat) (i:Int) (x y:Value) (tp tq:TypeId) (w:World) (hp:w.heap[p]?=some (.cells #[x] tp (0,0))) (hq:w.heap[q]?=some (.cells #[y] tq (0,0))) (hpq:p≠q):
  Calls Try.prog 23 #[.iface 89 (.agg #[.int .i64 i]),.pointer (some ⟨p,0,none⟩),.pointer (some ⟨q,0,none⟩)] w λe w'=>e= .returned (.tuple #[])/\w'=((w.setCell ⟨p,0,none⟩ (.int .i64 i)).setCell ⟨q,0,none⟩ (.int .i64 4)).alloc (.cells #[.int .i64 i] 89):=by
 have hta:∀(v:Value) (t:TypeId) (w:World),(Instr.typeAssert (.iface 89 v) t 89 true).run Try.prog w= .ok (.tuple #[v,.bool true]) w:=λ_ _ _=>by kernel_rfl
 have lp:p<w.heap.size:=(Array.getElem?_eq_some_iff.1 hp).1
 have lq:q<w.heap.size:=(Array.getElem?_eq_some_iff.1 hq).1
 have c1:=cell_of_row _ p 0 _ _ _ hp
 have f1:=frozen_of_row _ p 0 _ _ hp
 have c2:=cell_of_row _ q 0 _ _ _ hq
 have f2:=frozen_of_row _ q 0 _ _ hq
 have e0:(#[x]:Array Value)[0]?=some x:=rfl
 have e1:(#[y]:Array Value)[0]?=some y:=rfl
 rw[e0]at c1
 rw[e1]at c2
 have hqp:¬q=p:=λe=>hpq e.symm
 clear hp hq e0 e1
 go_enter Try.func23,Try.ntmps23
 go_wp2
 exact bodyPost_end (results_none rfl _ _ _) rfl ⟨rfl,rfl⟩
theorem rcl_idle (p q:Addr) (w:World):CallsD Try.prog 40 #[.pointer (some p),.pointer (some q)] .returning w λe u' w'=>e= .returned (.tuple #[])/\u'= .returning/\w'=w:=by
 refine callsD_of_wpS Try.func40 rfl λc₀ cs hu=>?_
 apply wpS_region
 simp[wpOpsS,go_sem,recoverD,hu,Try.ntmps40]
 refine(catch_nil p q w).mono ?_
 rintro e w' ⟨rfl,rfl⟩
 refine⟨rfl,.returning,by cases c₀;simp_all,.tuple #[],results_none rfl _ _ _,rfl,rfl,rfl⟩
theorem rcl_one (p q:Nat) (i:Int) (x y:Value) (tp tq:TypeId) (w:World) (hp:w.heap[p]?=some (.cells #[x] tp (0,0))) (hq:w.heap[q]?=some (.cells #[y] tq (0,0))) (hpq:p≠q):
  CallsD Try.prog 40 #[.pointer (some ⟨p,0,none⟩),.pointer (some ⟨q,0,none⟩)] (.panicking (faultP i)) w λe u' w'=>e= .returned (.tuple #[])/\u'= .panicking [{v:=.iface 89 (.agg #[.int .i64 i]),recovered:=true}]/\w'=((w.setCell ⟨p,0,none⟩ (.int .i64 i)).setCell ⟨q,0,none⟩ (.int .i64 4)).alloc (.cells #[.int .i64 i] 89):=by
 unfold faultP
 refine callsD_of_wpS Try.func40 rfl λc₀ cs hu=>?_
 apply wpS_region
 simp[wpOpsS,go_sem,recoverD,hu,Try.ntmps40]
 refine(catch_one p q i x y tp tq w hp hq hpq).mono ?_
 rintro e w' ⟨rfl,rfl⟩
 refine⟨rfl,_,rfl,.tuple #[],results_none rfl _ _ _,rfl,rfl,rfl⟩
end Go.Proofs.Ytfpmiahbncnecaa.core

namespace Go.Proofs.Ytfpmiahbncnecaa.core
open Go.Gx Go.RowKit Go.ChangeShapes Go.WideShapes Go.ChangeAt
set_option linter.unusedVariables false
theorem end_at {s:List UInt8} {hb:Bool} {T:List X_chaffref_token} {b:Nat} {M:Mem} {k:Nat} (h:RdAt s hb T b M k) {L:Nat->Prop} {K:Value->Mem->Prop} (hK:∀M',M.le M'->K (.bool (decide (kdT T k=101))) M'):CallW Try.prog 44 #[.pointer (some ⟨b,0,none⟩)] M L K:=by
 obtain⟨tk,hr,_,ha,ht⟩:=h.tok
 refine s_read_Reader_Over _ _ _ _ (over_is hr _ λM' hle=>?_)
 have:=hK M' hle
 rw[show(!tk.Node&&tk.Sign==0)=decide (kdT T k=101) from ?_]
 ·exact this
 ·cases ht with
  |en q1 q2 q3=>rw[q1,q2,q3];decide
  |node e q1 q2=>rw[q1,q2];rfl
  |head e q1 q2=>rw[q1,q2];rfl
  |sign e c q1 q2 q3 q4=>
   rw[q1,q2,q3]
   unfold signK at q4
   simp only[List.mem_cons,List.not_mem_nil,or_false]at q4
   rcases q4 with rfl|rfl|rfl|rfl|rfl|rfl|rfl|rfl|rfl<;>decide
theorem call_bad {s:List UInt8} {hb:Bool} {T:List X_chaffref_token} {b:Nat} {M:Mem} {k:Nat} (h:RdAt s hb T b M k) {L:Nat->Prop} {K:Value->Mem->Prop} {P:List PanicEntry->Prop} (hP:P (faultP (atT T k))):CallP Try.prog 42 #[.pointer (some ⟨b,0,none⟩)] M L K P:=by
 obtain⟨tk,hr,_,ha,ht⟩:=h.tok
 refine s_read_Reader_Bad _ _ _ ⟨K,P⟩ ⟨b,0,rfl,tk.At,hr.at 2 _ rfl,bad_is _ _ _ _ _ ?_⟩
 rw[ha];exact hP
theorem BxAt.heap {w:World} {b:Nat} {t:TypeId} {x:Value} (h:BxAt w ⟨b,t,[x]⟩):w.heap[b]?=some (.cells #[x] t (0,0)):=h
theorem caught_sx {I:Dfs} {n:Nat} {E:World} {M0 M:Mem} {L:Nat->Prop} {w:World} {a:Act} {env:Env} {rs:List Rw} {b0 b1 b2 t0 t1 t2:Nat} {cs0:List Value} {x1 x2:Value} {u1 u2:Value} {o:Array Value} {t:TypeId}
  (hs: @Sx I n E (bwW E M0 L) M w a env [⟨b2,t2,[x2]⟩,⟨b1,t1,[x1]⟩,⟨b0,t0,cs0⟩] rs): @Sx I n E (bwW E M0 L) M (((w.setCell ⟨b1,0,none⟩ u1).setCell ⟨b2,0,none⟩ u2).alloc (.cells o t)) a env [⟨b2,t2,[u2]⟩,⟨b1,t1,[u1]⟩,⟨b0,t0,cs0⟩] rs:=by
 have h1:=hs.cell1 (v:=u1) 1 rfl
 have h2:=h1.cell1 (v:=u2) 0 rfl
 have hb:Below ((w.setCell ⟨b1,0,none⟩ u1).setCell ⟨b2,0,none⟩ u2).heap.size _ (((w.setCell ⟨b1,0,none⟩ u1).setCell ⟨b2,0,none⟩ u2).alloc (.cells o t)):=(Below.refl _ _).alloc (Nat.le_refl _) _
 exact h2.later hb (h2.on.later hb) (λ_ _=>rfl)
end Go.Proofs.Ytfpmiahbncnecaa.core

namespace Go.Proofs.Ytfpmiahbncnecaa.core
open Go.Gx Go.RowKit Go.ChangeShapes Go.WideShapes Go.ChangeAt
set_option linter.unusedVariables false
theorem cellsEq_self (l:List Int):cellsEq l l=true:=by unfold cellsEq;simp
theorem same_is:∀(m:Nat) (e:Ex),SizeOf.sizeOf e<m->∀(a b:X_api_Expr) (M:Mem),ExR M e a->ExR M e b->S_chaffref_Same a b M (λv=>v= .bool true)
 |0,_,h,_,_,_,_,_=>absurd h (Nat.not_lt_zero _)
 |m+1,e,hm,a,b,M,ha,hb=>by
  obtain⟨xs,h⟩:=ha.open
  obtain⟨ys,g⟩:=hb.open
  have hl:a.Kids_l=b.Kids_l:=h.len.trans g.len.symm
  refine⟨λ_=>⟨λ_=>⟨λ_=>?_,λq=>absurd (h.text.trans g.text.symm) q⟩,λq=>absurd (by rw[h.set.trans g.set.symm];exact cellsEq_self _) q⟩,λq=>absurd (h.kind.trans g.kind.symm) q⟩
  refine s_slices_EqualFunc_Expr _ _ _ _ _ _ _ _ _ ⟨λq=>absurd (by rw[hl]) q,λ_=>⟨λx=>0<=x/\x<=a.Kids_l,λx=>a.Kids_l-x.toNat,⟨by omega,by omega⟩,λx ⟨x0,x1⟩=>⟨λhlt=>?_,λ_=>⟨_,rfl,rfl⟩⟩⟩⟩
  have hk:x.toNat<e.kids.length:=by have:=h.len;omega
  have hkk:e.kids[x.toNat]?=some e.kids[x.toNat]:=List.getElem?_eq_getElem hk
  obtain⟨b1,o1,y1,p1,p2,p3,_⟩:=h.kid hkk
  obtain⟨b2,o2,y2,q1,q2,q3,_⟩:=g.kid hkk
  have hlt':=Ex.kid_lt (List.mem_of_getElem? hkk)
  have hmax:=h.sl.max
  refine⟨b1,o1,p1,x0,hlt,y1,p2,b2,o2,q1,x0,by omega,y2,q2,(f_chaffref_Same _ _ _ _ (same_is m _ (by omega) y1 y2 M p3 q3)).mono λv _ _ hv=>⟨true,hv,λz=>absurd rfl z,λ_=>⟨by unfold InI;omega,⟨by omega,by omega⟩,by dsimp only;omega⟩⟩⟩
end Go.Proofs.Ytfpmiahbncnecaa.core

namespace Go.Proofs.Ytfpmiahbncnecaa.core
open Go.Gx Go.RowKit Go.ChangeShapes Go.WideShapes Go.ChangeAt
set_option linter.unusedVariables false
inductive Rl (kd:Nat->Int) (ex:Nat->Ex) (nm:Nat->List UInt8):List Ru->Nat->Option (List Ru)->Nat->Prop where
 |bad {acc:List Ru} {k:Nat}:kd k≠104->Rl kd ex nm acc k none k
 |no {acc:List Ru} {k n:Nat}:kd k=104->Ps kd ex .alt [] (k+1) none n->Rl kd ex nm acc k none n
 |en {acc:List Ru} {k n:Nat} {e:Ex}:kd k=104->Ps kd ex .alt [] (k+1) (some e) n->kd n=101->Rl kd ex nm acc k (some (acc++[⟨nm k,e⟩])) n
 |on {acc:List Ru} {k n m:Nat} {e:Ex} {r:Option (List Ru)}:kd k=104->Ps kd ex .alt [] (k+1) (some e) n->kd n≠101->Rl kd ex nm (acc++[⟨nm k,e⟩]) n r m->Rl kd ex nm acc k r m
theorem Rl.bound {kd:Nat->Int} {ex:Nat->Ex} {nm:Nat->List UInt8} {len:Nat} (hE:EndsAt kd len) {acc:List Ru} {k n:Nat} {r:Option (List Ru)} (h:Rl kd ex nm acc k r n):k<len->n<len:=by
 induction h with
 |bad _=>exact id
 |no h1 h2=>intro hk;exact(h2.bound hE (hE _ hk (by omega) (by omega))).2.1
 |en h1 h2 _=>intro hk;exact(h2.bound hE (hE _ hk (by omega) (by omega))).2.1
 |on h1 h2 _ _ ih=>intro hk;exact ih (h2.bound hE (hE _ hk (by omega) (by omega))).2.1
theorem rl_ex {kd:Nat->Int} {ex:Nat->Ex} {nm:Nat->List UInt8} {len:Nat} (hE:EndsAt kd len):∀(m k:Nat) (acc:List Ru),k<len->len-k<=m->∃r n,Rl kd ex nm acc k r n
 |0,k,_,hk,hm=>by omega
 |m+1,k,acc,hk,hm=>by
  by_cases h1:kd k=104
  ·have hk1:=hE _ hk (by omega) (by omega)
   obtain⟨r,n,h⟩:=(ps_ex (ex:=ex) hE _ (k+1) hk1 (Nat.le_refl _)).2.2.2.1 []
   obtain⟨b1,b2,b3⟩:=h.bound hE hk1
   cases r with
   |none=>exact⟨_,_,.no h1 h⟩
   |some e=>
    by_cases h2:kd n=101
    ·exact⟨_,_,.en h1 h h2⟩
    ·obtain⟨r',n',h'⟩:=rl_ex (ex:=ex) (nm:=nm) hE m n (acc++[⟨nm k,e⟩]) b2 (by omega)
     exact⟨_,_,.on h1 h h2 h'⟩
  ·exact⟨_,_,.bad h1⟩
theorem Rl.inv {kd:Nat->Int} {ex:Nat->Ex} {nm:Nat->List UInt8} {acc:List Ru} {k n:Nat} {r:Option (List Ru)} (h:Rl kd ex nm acc k r n):(kd k≠104->r=none/\n=k)/\(kd k=104->∃r' n',Ps kd ex .alt [] (k+1) r' n'/\(r'=none->r=none/\n=n')/\
  ∀e,r'=some e->(kd n'=101->r=some (acc++[⟨nm k,e⟩])/\n=n')/\(kd n'≠101->Rl kd ex nm (acc++[⟨nm k,e⟩]) n' r n)):=by
 cases h with
 |bad h1=>exact⟨λ_=>⟨rfl,rfl⟩,λg=>absurd g h1⟩
 |no h1 h2=>exact⟨λg=>absurd h1 g,λ_=>⟨_,_,h2,λ_=>⟨rfl,rfl⟩,λe he=>by cases he⟩⟩
 |en h1 h2 h3=>exact⟨λg=>absurd h1 g,λ_=>⟨_,_,h2,(λhe=>by cases he),λe he=>by cases he;exact⟨λ_=>⟨rfl,rfl⟩,λg=>absurd h3 g⟩⟩⟩
 |on h1 h2 h3 h4=>exact⟨λg=>absurd h1 g,λ_=>⟨_,_,h2,(λhe=>by cases he),λe he=>by cases he;exact⟨λg=>absurd g h3,λ_=>h4⟩⟩⟩
theorem arr_lex {s:List UInt8} {i:Nat} (h:arrB s (goOn s i)=true):tokAt s i=some ⟨(goOn s i:Nat),(goOn s i+2:Nat),false,zE,60⟩:=by
 have hl:=arr_le h
 have ht:=of_decide_eq_true h
 unfold tokAt
 rw[if_neg (by omega)]
 obtain⟨c,hc⟩:∃c,s[goOn s i]?=some c:=⟨s[goOn s i]'(by omega),List.getElem?_eq_getElem _⟩
 have hd:=drop_at hc
 have h60:c=60:=by rw[hd,List.take_succ_cons]at ht;exact(List.cons.inj ht).1
 have:lexL (s.drop (goOn s i))= .sign 2 60:=by
  rw[hd]at ht ⊢
  subst h60
  rw[lexL,if_neg (by decide),if_neg (by decide),if_neg (by decide),if_neg (by decide),if_pos ⟨rfl,ht⟩]
 rw[this];rfl
section
variable {s:List UInt8} {T:List X_chaffref_token} {b:Nat}
theorem name_at {hb:Bool} (hs:s.length<=2000) {M:Mem} {L:Nat->Prop} {k:Nat} (h:RdAt s hb T b M k) (hw:Wr L M b) (h1:kdT T k=104) {K:Value->Mem->Prop} {P:List PanicEntry->Prop}
  (hK:∀M' (j:Nat),Kep b M M'->j<=s.length->Stands s hb T (k+1) j->(∃tk:X_read_Token,tk.To=(j:Nat)/\RdM M' b ⟨s,hb,tk⟩)->K (.tuple #[]) M'):CallP Try.prog 43 #[.pointer (some ⟨b,0,none⟩)] M L K P:=by
 obtain⟨tk,hr,hk,ha,ht⟩:=h.tok
 cases ht with
 |en q1=>omega
 |node e q1=>omega
 |sign e c q1 _ _ q4=>rw[q1]at h1;exact absurd h1 (signK_ne q4).2.2.1
 |head e q1 q2 q3 q4 q5 q6 q7 q8 q9 q10=>
  have hl:=arr_le q9
  refine s_read_Reader_Go _ _ _ ⟨K,P⟩ (go_is hs hr hw q6 q7 _ (λtk' htk M' hM'=>?_) (λhno=>?_))
  ·rw[arr_lex q9]at htk
   cases htk
   exact hK M' (goOn s e+2) hM'.le hl q10 ⟨_,rfl,hM'.me⟩
  ·rw[arr_lex q9]at hno;cases hno
theorem arrow_at {hb:Bool} (hs:s.length<=2000) {M:Mem} {L:Nat->Prop} {k j:Nat} (hw:Wr L M b) (hj:j<=s.length) (hst:Stands s hb T k j) {tk:X_read_Token} (hto:tk.To=(j:Nat)) (hr:RdM M b ⟨s,hb,tk⟩) {K:Value->Mem->Prop} {P:List PanicEntry->Prop}
  (hK:kdT T k≠33->∀M',Kep b M M'->RdAt s hb T b M' k->K (.tuple #[]) M') (hP:kdT T k=33->P (faultP (atT T k))):CallP Try.prog 43 #[.pointer (some ⟨b,0,none⟩)] M L K P:=by
 obtain⟨_,ha',hh⟩:=hst.here
 refine s_read_Reader_Go _ _ _ ⟨K,P⟩ (go_is hs hr hw hto hj _ (λtk' htk M' hM'=>hK (λh33=>?_) M' hM'.le ⟨j,tk',hst,hj,htk,hM'.me⟩) (λhno=>?_))
 ·cases hh with
  |bad _ q2=>rw[q2]at htk;cases htk
  |en q1=>omega
  |node n kk st tx q1=>omega
  |head n st tx q1=>omega
  |sign n c q1 _ q3=>rw[q1]at h33;exact(signK_ne q3).1 h33
 ·have hp:=hP (by
   cases hh with
   |bad q1 _=>exact q1
   |en _ q2=>rw[q2]at hno;cases hno
   |node n kk st tx _ q2=>rw[q2]at hno;cases hno
   |head n st tx _ q2=>rw[q2]at hno;cases hno
   |sign n c _ q2=>rw[q2]at hno;cases hno)
  rw[ha']at hp
  exact hp
end
theorem rus_le {M M':Mem} {rs:List Ru} {xs:List X_api_Rule} (h:All2 (RuR M) rs xs) (hl:M.le M'):All2 (RuR M') rs xs:=h.mono λ_ _ q=>q.le hl
theorem nm_len {T:List X_chaffref_token} (hok:∀t∈T,TkOk t) (k:Nat):(nmT T k).length<=maxLen:=by
 unfold nmT
 cases h:T[k]? with
 |none=>exact Nat.zero_le _
 |some t=>exact(hok t (List.mem_of_getElem? h)).nm
theorem rules_is {s:List UInt8} (hs:s.length<=2000) {M:Mem} {r:Option (List Ru)} {n:Nat} (hp:Rl (kdT (toksF s true 2001 0)) (exT (toksF s true 2001 0)) (nmT (toksF s true 2001 0)) [] 0 r n) (K:Value->Mem->Prop)
  (h1:∀rs,r=some rs->∀M' A c,M.le M'->GrR M' rs A rs.length c->K (.tuple #[.agg #[.slice A rs.length c],.int .i64 0,.int .i64 0]) M')
  (h2:r=none->∀M' A (l:Nat) c,K (.tuple #[.agg #[.slice A l c],.int .i64 (atT (toksF s true 2001 0) n),.int .i64 4]) M'):CallE Try.prog 17 #[.string (mkS s)] M K:=by
 have hE:=toks_ends hs true
 have hst:=stands_zero s true hs
 have hok:=toks_ok hs true 2001 0
 have hlen:(toksF s true 2001 0).length<=3000:=Nat.le_trans (toks_len s true 2001 0) (by omega)
 generalize hT:toksF s true 2001 0=T at*
 have h0:=hst.here.1
 refine(s_gram_rules s M (λ_=>False) ⟨K,λch=>∃i:Int,ch=faultP i/\∀M' A (l:Nat) c,K (.tuple #[.agg #[.slice A l c],.int .i64 i,.int .i64 4]) M'⟩ ?_ ?_ rcl_idle).toE
 ·refine new_at hs true (λh33 b M6 hb hle hR=>⟨_,rfl,?_⟩) (λh33=>?_)
  ·rw[hT]at h33 hR
   have hw:∀M',Wr (Wr (λ_=>False) M) M' b:=λM'=>.inl (.inr hb)
   let I:Nat×List Ru->Nat->List Value->Mem->Prop:=λg rn rx M2=>∃xs:List X_api_Rule,g.1<T.length/\g.2.length<=g.1/\rn=g.2.length/\rx=cl X_api_Rule.cells xs/\All2 (RuR (veil b M2)) g.2 xs/\RdAt s true T b M2 g.1/\Rl (kdT T) (exT T) (nmT T) g.2 g.1 r n/\M.le M2
   let mu:Nat×List Ru->Nat->List Value->Nat:=λg _ _=>T.length-g.1
   have keep:∀{M1 M2:Mem},Kep b M1 M2->M.le M1->M.le M2:=λ{M1 M2} hk hl k o hm=>hk k o (λe=>by rw[e,hb]at hm;cases hm) (hl _ _ hm)
   refine⟨Nat×List Ru,I,mu,(0,[]),⟨[],h0,Nat.le_refl _,rfl,rfl,rfl,hR,hp,hle⟩,λg rn rx M2 ⟨xs,hkl,hal,hrn,hrx,h2',hR2,hrl,hle2⟩=>?_⟩
   obtain⟨k2,acc⟩:=g
   dsimp only at hkl hal hrn h2' hR2 hrl
   subst hrn hrx
   obtain⟨inv1,inv2⟩:=hrl.inv
   refine s_read_Reader_Names _ _ _ _ (names_at hs hR2 _ λM71 h71=>⟨_,rfl,λhn=>call_bad (hR2.le h71) ?_,λhn=>?_⟩)
   ·obtain⟨q1,q2⟩:=inv1 (by simpa using hn)
    rw[<-q2]
    exact⟨_,rfl,h2 q1⟩
   ·have h104:kdT T k2=104:=by simpa using hn
    have hk3:=hE _ hkl (by omega) (by omega)
    have hR71:=hR2.le h71
    obtain⟨tk,hr,_,ha,ht⟩:=hR71.tok
    have hnm:nmT T k2=tk.Expr.Text:=by
     cases ht with
     |head e q1 q2 q3 q4 q5=>exact q5
     |en q1=>omega
     |node e q1=>omega
     |sign e c q1 _ _ q4=>rw[q1]at h104;exact absurd h104 (signK_ne q4).2.2.1
    refine⟨b,0,rfl,tk.Expr.Text,hr.at 10 _ rfl,name_at hs hR71 (hw _) h104 λM77 j hkp77 hj hst77 ⟨tk',hto,hr77⟩=>⟨rfl,arrow_at hs (hw _) hj hst77 hto hr77 (λg33 M78 hkp78 hR78=>⟨rfl,?_⟩) (λg33=>?_)⟩⟩
    ·obtain⟨r',n',h',hno,hso⟩:=inv2 h104
     obtain⟨b1,b2,b3⟩:=h'.bound hE hk3
     refine(cparse_is hs hok hlen hE _ (k2+1) hk3 (Nat.le_refl _) M78 (Wr (λ_=>False) M) hR78 (hw _)).2.2.2 r' n' h' _ _ ⟨λe he hn33 M80 x hkp80 hR80 hx=>⟨x,rfl,by omega,?_⟩,λhh=>?_⟩
     ·subst he
      obtain⟨s1,s2⟩:=hso e rfl
      have b3:=b3 rfl rfl
      have hkp:Kep b M2 M80:=(((Kep.of h71).trans hkp77).trans hkp78).trans hkp80
      have hnew:RuR (veil b M80) ⟨nmT T k2,e⟩ ⟨tk.Expr.Text,x⟩:=⟨hnm.symm,nm_len hok k2,hx⟩
      unfold S_gram_rules_J2
      refine end_at hR80 λM92 h92=>⟨_,rfl,λhend M95 ad cap hnr M' hle'=>?_,λhend=>⟨(n',acc++[⟨nmT T k2,e⟩]),⟨xs++[⟨tk.Expr.Text,x⟩],b2,by simp;omega,by simp,cl_snoc _ _,?_,hR80.le h92,s2 (by simpa using hend),(keep hkp hle2).trans h92⟩,by dsimp only[mu];omega⟩⟩
      ·obtain⟨q1,q2⟩:=s1 (by simpa using hend)
       have hv:=newRow_veil hnr (hR80.le h92).has
       have:=h1 _ q1 M' ad cap ((keep hkp hle2).trans ((h92.trans hnr.le).trans hle')) ?_
       ·rw[List.length_append]at this;exact this
       ·refine GrR.le (M:=veil b M95) ⟨xs++[⟨tk.Expr.Text,x⟩],?_,(rus_le h2' (hkp.trans (Kep.of (h92.trans hnr.le))).veil).snoc (hnew.le (Kep.of (h92.trans hnr.le)).veil),by simp⟩ ((veil_le b M95).trans hle')
        rw[<-cl_snoc,List.length_append]
        exact hv.slv
      ·exact(rus_le h2' (hkp.trans (Kep.of h92)).veil).snoc (hnew.le (Kep.of h92).veil)
     ·cases r' with
      |none=>
       obtain⟨q1,q2⟩:=hno rfl
       rw[<-q2];exact⟨_,rfl,h2 q1⟩
      |some e=>
       rcases hh with hh|hh
       ·cases hh
       ·have hrl':=(hso e rfl).2 (by omega)
        obtain⟨q1,q2⟩:=hrl'.inv.1 (by omega)
        rw[<-q2];exact⟨_,rfl,h2 q1⟩
    ·obtain⟨r',n',h',hno,hso⟩:=inv2 h104
     obtain⟨p1,p2⟩:=ps_bad h' g33 rfl
     obtain⟨q1,q2⟩:=hno p1
     rw[<-p2,<-q2];exact⟨_,rfl,h2 q1⟩
  ·rw[hT]at h33
   obtain⟨q1,q2⟩:=hp.inv.1 (by omega)
   rw[hT,<-q2]
   exact⟨_,rfl,h2 q1⟩
 ·rintro E I ch a w M' env rs b0 b1 b2 cs0 x1 x2 ⟨i,rfl,hK⟩ hM hs' hI e0 e1 e2 ⟨q,rw0,hq,rfl⟩
  have hb1:=BxAt.heap (hs'.bx _ (List.mem_of_getElem? (i:=1) rfl)).1
  have hb2:=BxAt.heap (hs'.bx _ (List.mem_of_getElem? (i:=0) rfl)).1
  have hne:b1≠b2:=by
   have:=hs'.nd.b
   simp at this
   exact λe=>this.1.1 e.symm
  have hsl:∃A l c,rw0.v= .slice A l c:=by
   obtain⟨g1,_⟩:=hs'.rw rw0 (List.mem_of_getElem? hq)
   rcases g1.2 with⟨hv,_⟩|⟨g,cap,cur,hv,_⟩
   ·exact⟨_,_,_,hv⟩
   ·exact⟨_,_,_,hv⟩
  obtain⟨A,l,c,hv⟩:=hsl
  refine catchD (t:=89) (u:=.agg #[.int .i64 i]) hs' hI (invoke_fn Try.func40 rfl (by kernel_rfl)) ((rcl_one b1 b2 i x1 x2 _ _ w hb1 hb2 hne).mono ?_)
  rintro e u' w' ⟨rfl,rfl,rfl⟩
  have hs2:=caught_sx (u1:=.int .i64 i) (u2:=.int .i64 4) (o:= #[.int .i64 i]) (t:=89) hs'
  refine⟨rfl,rfl,M',_,_,_,hM,hs2,resCCC true hs2 rfl e0 e1 e2 (by kernel_rfl) (by kernel_rfl) (by kernel_rfl),λM'' _=>?_⟩
  have:=hK M'' A l c
  rw[<-hv]at this
  exact this
end Go.Proofs.Ytfpmiahbncnecaa.core

namespace Go.Proofs.Ytfpmiahbncnecaa.core
open Go.Gx Go.RowKit Go.ChangeShapes Go.WideShapes Go.ChangeAt
set_option linter.unusedVariables false
def ReadP (s:List UInt8) (rs:List Ru) (n x:Int):Prop:=
 (2000<s.length/\rs=[]/\n=0/\x=2)\/(s.length<=2000/\∃r k,Rl (kdT (toksF s true 2001 0)) (exT (toksF s true 2001 0)) (nmT (toksF s true 2001 0)) [] 0 r k/\
  ((r=none/\rs=[]/\n=atT (toksF s true 2001 0) k/\x=4)\/∃rs',r=some rs'/\((gramErr rs'≠0/\rs=[]/\n=0/\x=gramErr rs')\/(gramErr rs'=0/\rs=rs'/\n=0/\x=0))))
theorem read_ex (s:List UInt8):∃rs n x,ReadP s rs n x:=by
 by_cases h:2000<s.length
 ·exact⟨_,_,_,.inl ⟨h,rfl,rfl,rfl⟩⟩
 ·have hs:s.length<=2000:=by omega
  obtain⟨r,k,hp⟩:=rl_ex (ex:=exT (toksF s true 2001 0)) (nm:=nmT (toksF s true 2001 0)) (toks_ends hs true) _ 0 [] (stands_zero s true hs).here.1 (Nat.le_refl _)
  cases r with
  |none=>exact⟨_,_,_,.inr ⟨hs,_,k,hp,.inl ⟨rfl,rfl,rfl,rfl⟩⟩⟩
  |some rs=>
   by_cases h2:gramErr rs=0
   ·exact⟨_,_,_,.inr ⟨hs,_,k,hp,.inr ⟨rs,rfl,.inr ⟨h2,rfl,rfl,rfl⟩⟩⟩⟩
   ·exact⟨_,_,_,.inr ⟨hs,_,k,hp,.inr ⟨rs,rfl,.inl ⟨h2,rfl,rfl,rfl⟩⟩⟩⟩
theorem gr_nil (M:Mem):GrR M [] none 0 0:=⟨[],⟨rfl,Nat.le_refl _,by decide,λg=>by simp at g⟩,rfl,rfl⟩
theorem cread_all {s:List UInt8} {rs:List Ru} {n x:Int} (h:ReadP s rs n x) {M:Mem} (K:Value->Mem->Prop) (hK:∀M' A c,M.le M'->GrR M' rs A rs.length c->K (.tuple #[.agg #[.slice A rs.length c],.int .i64 n,.int .i64 x]) M'):S_gram_Read s M K:=by
 rcases h with⟨hl,rfl,rfl,rfl⟩|⟨hs,r,k,hp,h⟩
 ·exact⟨λ_ M3 h3 _ M' hle=>hK M' none 0 (h3.trans hle) (gr_nil M'),λg=>absurd (by omega) g⟩
 ·refine⟨λg=>by omega,λ_=>?_⟩
  have nul:∀M1 (m z:Int),M.le M1->rs=[]->n=m->x=z->∀M2,M1.le M2->SlV M2 none 0 0 8 []->∀M',M2.le M'->K (.tuple #[.agg #[.slice none 0 0],.int .i64 m,.int .i64 z]) M':=λM1 m z h1 he hn hx M2 h2 _ M' hle=>by
   subst he hn hx
   exact hK M' none 0 ((h1.trans h2).trans hle) (gr_nil M')
  refine(rules_is (M:=M) hs hp (λv M'=>M.le M'->_) (λrs' he' M' A c hle hg _=>?_) (λhn M' A l c hle=>?_)).mono (λv M' hle hv=>hv hle)
  ·refine⟨A,_,c,_,_,rfl,λg=>absurd rfl g,λ_=>s_gram_Check _ _ _ _ _ (gcheck_is hg _ ⟨_,rfl,λh0=>?_,λh0=>?_⟩)⟩
   ·rcases h with⟨g,_⟩|⟨e2,g1,⟨g3,g4,g5,g6⟩|⟨g3,_⟩⟩
    ·rw[he']at g;cases g
    ·have:e2=rs':=by rw[he']at g1;cases g1;rfl
     subst this
     exact nul M' 0 _ hle g4 g5 g6
    ·have:e2=rs':=by rw[he']at g1;cases g1;rfl
     subst this
     exact absurd g3 h0
   ·intro M'' hle'
    have h0:gramErr rs'=0:=Classical.not_not.1 h0
    rcases h with⟨g,_⟩|⟨e2,g1,⟨g3,_⟩|⟨g3,g4,g5,g6⟩⟩
    ·rw[he']at g;cases g
    ·have:e2=rs':=by rw[he']at g1;cases g1;rfl
     subst this
     exact absurd h0 g3
    ·have:e2=rs':=by rw[he']at g1;cases g1;rfl
     subst this
     subst g4 g5 g6
     exact hK M'' A c (hle.trans hle') (hg.le hle')
  ·rcases h with⟨_,g1,g2,g3⟩|⟨e2,g1,_⟩
   ·exact⟨A,l,c,_,_,rfl,λ_=>nul M' _ _ hle g1 g2 g3,λg=>absurd (by decide) g⟩
   ·rw[hn]at g1;cases g1
theorem rread_all {s:List UInt8} {rs:List Ru} {n x:Int} (h:ReadP s rs n x) {M:Mem} (K:Value->Mem->Prop) (hK:∀M' A c,M.le M'->GrR M' rs A rs.length c->K (.tuple #[.agg #[.slice A rs.length c],.int .i64 n,.int .i64 x]) M'):S_chaffref_Read s M K:=by
 rcases h with⟨hl,rfl,rfl,rfl⟩|⟨hs,r,k,hp,h⟩
 ·exact⟨λ_ M3 h3 _ M' hle=>hK M' none 0 (h3.trans hle) (gr_nil M'),λg=>absurd (by omega) g⟩
 ·refine⟨λg=>by omega,λ_=>?_⟩
  refine s_chaffref_tokens _ _ _ _ (tokens_is hs true _ λM7 A c h7 hsl=>⟨A,_,c,rfl,?_⟩)
  have hT:=toks_row hs true hsl
  have h0:=(stands_zero s true hs).here.1
  have hok:=toks_ok hs true 2001 0
  generalize toksF s true 2001 0=T at*
  have hlen:=hT.len
  have hE:=hT.en
  let I:Int->Nat->List Value->Mem->Prop:=λi rn rx M2=>∃(k2:Nat) (acc:List Ru) (xs:List X_api_Rule),i=k2/\k2<T.length/\acc.length<=k2/\rn=acc.length/\rx=cl X_api_Rule.cells xs/\All2 (RuR M2) acc xs/\(k2=0\/kdT T k2≠101->Rl (kdT T) (exT T) (nmT T) acc k2 r k)/\(k2≠0->kdT T k2=101->r=some acc/\k=k2)/\M7.le M2
  let mu:Int->Nat->List Value->Nat:=λi _ _=>T.length-i.toNat
  have nul:∀M1 (m z:Int),M.le M1->rs=[]->n=m->x=z->∀M2,M1.le M2->SlV M2 none 0 0 8 []->∀M',M2.le M'->K (.tuple #[.agg #[.slice none 0 0],.int .i64 m,.int .i64 z]) M':=λM1 m z h1 he hn hx M2 h2 _ M' hle=>by
   subst he hn hx
   exact hK M' none 0 ((h1.trans h2).trans hle) (gr_nil M')
  refine⟨I,mu,⟨0,[],[],rfl,h0,Nat.le_refl _,rfl,rfl,rfl,λ_=>hp,λg=>absurd rfl g,Mem.le.refl _⟩,λi rn rx M2 ⟨k2,acc,xs,hi,hkl,hal,hrn,hrx,h2,hrl,hend,hle2⟩=>?_⟩
  subst hi hrn hrx
  have hT2:=hT.le hle2
  have fault:∀(M3:Mem) (j:Nat),M7.le M3->j<T.length->r=none->k=j->∃(b o:Nat),A=some ⟨b,o,none⟩/\(0:Int)<=(j:Nat)/\((j:Nat):Int)<((T.length:Nat):Int)/\∃(x85:Int),At M3 b (o+((j:Nat):Int).toNat*10+1) [(.int .i64 x85)]/\(∀(M86:Mem),M3.le M86->SlV M86 none 0 0 8 []->(∀M',M86.le M'->K (Value.tuple #[(.agg #[(.slice none 0 0)]),(.int .i64 x85),(.int .i64 4)]) M')):=λM3 j h3 hj hr hk=>by
   obtain⟨t,b,o,ht,ha,hat⟩:=(hT.le h3).at (i:=(j:Nat)) rfl hj
   refine⟨b,o,ha,by omega,by omega,t.f_at,hat.part 1 [.int .i64 t.f_at] rfl,?_⟩
   rcases h with⟨_,g1,g2,g3⟩|⟨e2,g1,_⟩
   ·rw[hk,(stands_at ht).2.2.1]at g2
    exact nul M3 _ _ (h7.trans h3) g1 g2 g3
   ·rw[hr]at g1;cases g1
  have j1:∀v:Bool,(v=true↔k2=0\/kdT T k2≠101)->S_chaffref_Read_J1 A T.length c (k2:Nat) acc.length (cl X_api_Rule.cells xs) M2 I mu v K:=λv hv=>by
   refine⟨λht=>?_,λht M109 ad cap h109 hsl9=>?_⟩
   ·have hrl:=hrl (hv.1 ht)
    obtain⟨inv1,inv2⟩:=hrl.inv
    refine hT2.kd rfl hkl ⟨λhn=>?_,λhn=>?_⟩
    ·obtain⟨q1,q2⟩:=inv1 hn
     exact fault M2 k2 hle2 hkl q1 q2
    ·have h104:kdT T k2=104:=Classical.not_not.1 hn
     have hk3:=hE _ hkl (by omega) (by omega)
     obtain⟨t,b,o,ht',ha,hat⟩:=hT2.at (i:=(k2:Nat)) rfl hkl
     refine⟨b,o,ha,by omega,by omega,t.name,hat.part 9 [.string (mkS t.name)] rfl,by unfold InI;omega,?_⟩
     obtain⟨r',n',h',hno,hso⟩:=inv2 h104
     obtain⟨b1,b2,b3⟩:=h'.bound hE hk3
     refine s_chaffref_alternative _ _ _ _ _ _ ((rparse_is _ (k2+1) hk3 (Nat.le_refl _) M2 hT2 _ (by omega)).2.2.2 r' n' h' _ λM94 y h94 hy=>⟨y,_,_,rfl,λg=>?_,λg=>⟨by omega,?_,?_⟩⟩)
     ·obtain⟨q1,q2⟩:=hno (by cases r' with|none=>rfl|some e=>exact absurd rfl g)
      exact fault M94 n' (hle2.trans h94) b2 q1 q2
     ·obtain⟨e,rfl⟩:∃e,r'=some e:=by
       cases r' with
       |none=>exact absurd (by simp) g
       |some e=>exact⟨e,rfl⟩
      obtain⟨s1,s2⟩:=hso e rfl
      have b3:=b3 rfl rfl
      refine⟨n',acc++[⟨nmT T k2,e⟩],xs++[⟨t.name,y⟩],rfl,b2,by simp;omega,by simp,cl_snoc _ _,(rus_le h2 h94).snoc ⟨(stands_at ht').2.2.2.symm,nm_len hok k2,hy e rfl⟩,λg=>s2 (by omega),λ_ g=>s1 g,hle2.trans h94⟩
     ·have b3:=b3 (by cases r' with|none=>exact absurd (by simp) g|some e=>rfl) rfl
      dsimp only[mu];omega
   ·have hq:k2≠0/\kdT T k2=101:=by
     have:¬(k2=0\/kdT T k2≠101):=λq=>ht (hv.2 q)
     exact⟨λq=>this (.inl q),Classical.not_not.1 λq=>this (.inr q)⟩
    obtain⟨q1,q2⟩:=hend hq.1 hq.2
    have hg:GrR M109 acc ad acc.length cap:=⟨xs,hsl9,rus_le h2 h109,rfl⟩
    refine s_chaffref_Gram _ _ _ _ _ (rgram_is hg _ ⟨_,rfl,λh0=>?_,λh0=>?_⟩)
    ·rcases h with⟨g,_⟩|⟨e2,g1,⟨g3,g4,g5,g6⟩|⟨g3,_⟩⟩
     ·rw[q1]at g;cases g
     ·have:e2=acc:=by rw[q1]at g1;cases g1;rfl
      subst this
      exact nul M109 0 _ ((h7.trans hle2).trans h109) g4 g5 g6
     ·have:e2=acc:=by rw[q1]at g1;cases g1;rfl
      subst this
      exact absurd g3 h0
    ·intro M'' hle'
     have h0:gramErr acc=0:=Classical.not_not.1 h0
     rcases h with⟨g,_⟩|⟨e2,g1,⟨g3,_⟩|⟨g3,g4,g5,g6⟩⟩
     ·rw[q1]at g;cases g
     ·have:e2=acc:=by rw[q1]at g1;cases g1;rfl
      subst this
      exact absurd h0 g3
     ·have:e2=acc:=by rw[q1]at g1;cases g1;rfl
      subst this
      subst g4 g5 g6
      exact hK M'' ad cap (((h7.trans hle2).trans h109).trans hle') (hg.le hle')
  refine⟨λhz=>j1 true ⟨λ_=>.inl (by omega),λ_=>rfl⟩,λhz=>hT2.kd rfl hkl (j1 _ ⟨λe=>.inr (by simpa using e),λe=>?_⟩)⟩
  rcases e with e|e
  ·omega
  ·simpa using e
theorem same_gr {M:Mem} {rs:List Ru} {A A':Option Addr} {l l' c c':Nat} (h:GrR M rs A l c) (g:GrR M rs A' l' c'):S_chaffref_SameGrammar A l c A' l' c' M (λv=>v= .bool true):=by
 have hl:=h.max.1
 have hm:=h.max.2
 have gl:=g.max.1
 refine s_slices_EqualFunc_Rule _ _ _ _ _ _ _ _ _ ⟨λq=>absurd (by rw[hl,gl]) q,λ_=>⟨λx=>0<=x/\x<=l,λx=>l-x.toNat,⟨by omega,by omega⟩,λx ⟨x0,x1⟩=>⟨λhlt=>?_,λ_=>⟨_,rfl,rfl⟩⟩⟩⟩
 obtain⟨r,y1,b1,o1,r1,p1,p2,p3,p4,p5⟩:=h.at x0 hlt
 obtain⟨r2,y2,b2,o2,r2',q1,q2,q3,q4,q5⟩:=g.at (i:=x) x0 (by omega)
 obtain rfl:r=r2:=by rw[r1]at r2';cases r2';rfl
 refine⟨b1,o1,p1,x0,hlt,y1,p2,b2,o2,q1,x0,by omega,y2,q2,(f_chaffref_SameGrammar_1 _ _ _ (λv=>v= .bool true) ⟨λ_=>(s_chaffref_Same _ _ _ _ (same_is _ r.body (Nat.lt_succ_self _) _ _ M p5 q5)).mono λv _ _ hv=>⟨true,hv,rfl⟩,λz=>absurd (p3.trans q3.symm) z⟩).mono λv _ _ hv=>⟨true,hv,λz=>absurd rfl z,λ_=>⟨by unfold InI;omega,⟨by omega,by omega⟩,by dsimp only;omega⟩⟩⟩
end Go.Proofs.Ytfpmiahbncnecaa.core

