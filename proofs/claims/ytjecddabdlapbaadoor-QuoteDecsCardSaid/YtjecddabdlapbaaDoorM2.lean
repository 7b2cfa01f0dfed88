/- Contracts and what they hang on, of several parts. No condition. -/
import Derived.Shelf.LaysM
import Derived.Shelf.Strconv.Itoa3
import Derived.Shelf.LaysC
import Derived.Shelf.Strconv.AtoiAll
import Derived.Shelf.Strconv.ErrVarAll
import Derived.Test.YtjecddabdlapbaaDoorM1
import Derived.Lib.AtoiErrMem
import Derived.Lib.AppendIntMem
import Derived.Lib.LaidU8
import Derived.LaidLaws
import Derived.Test.YtjecddabdlapbaaDoorRows
namespace Go.Proofs.YtjecddabdlapbaaDoor.core
open Go.Gx Go.RowKit Go.ChangeShapes Go.WideShapes Go.ChangeAt
set_option linter.unusedVariables false
open Go.Shelf
def sh_laysM171_ren:Go.Shelf.Ren:=⟨λ|171=>88|243=>122|246=>141|283=>153|284=>154|285=>155|286=>156|129=>161|317=>160|318=>162|319=>163|320=>164|337=>165|338=>52|n=>n,λ|3=>3|9=>9|2=>2|4=>4|171=>188|0=>0|53=>22|37=>85|5=>5|173=>190|212=>200|51=>192|20=>20|213=>201|46=>83|232=>204|233=>136|n=>n,λ|17=>6|18=>7|19=>0|n=>n⟩
theorem sh_laysM171:Go.Proofs.LaysM.n171 Tryd.prog sh_laysM171_ren:={
 mixed:=by kernel_rfl
 f129:=Tryd.func161.trans (congrArg some (by kernel_rfl))
 f171:=Tryd.func88.trans (congrArg some (by kernel_rfl))
 f243:=Tryd.func122.trans (congrArg some (by kernel_rfl))
 f246:=Tryd.func141.trans (congrArg some (by kernel_rfl))
 f283:=Tryd.func153.trans (congrArg some (by kernel_rfl))
 f284:=Tryd.func154.trans (congrArg some (by kernel_rfl))
 f285:=Tryd.func155.trans (congrArg some (by kernel_rfl))
 f286:=Tryd.func156.trans (congrArg some (by kernel_rfl))
 f317:=Tryd.func160.trans (congrArg some (by kernel_rfl))
 f318:=Tryd.func162.trans (congrArg some (by kernel_rfl))
 f319:=Tryd.func163.trans (congrArg some (by kernel_rfl))
 f320:=Tryd.func164.trans (congrArg some (by kernel_rfl))
 f337:=Tryd.func165.trans (congrArg some (by kernel_rfl))
 f338:=Tryd.func52.trans (congrArg some (by kernel_rfl))
 t0:=Tryd.underlying0
 a0:=Tryd.isAgg0
 z0:=Tryd.sizeOf0
 v0:=Tryd.zeroValue0
 t2:=Tryd.underlying2
 a2:=Tryd.isAgg2
 z2:=Tryd.sizeOf2
 v2:=Tryd.zeroValue2
 t3:=Tryd.underlying3
 a3:=Tryd.isAgg3
 z3:=Tryd.sizeOf3
 v3:=Tryd.zeroValue3
 t4:=Tryd.underlying4
 a4:=Tryd.isAgg4
 z4:=Tryd.sizeOf4
 v4:=Tryd.zeroValue4
 t5:=Tryd.underlying5
 a5:=Tryd.isAgg5
 z5:=Tryd.sizeOf5
 v5:=Tryd.zeroValue5
 t9:=Tryd.underlying9
 a9:=Tryd.isAgg9
 z9:=Tryd.sizeOf9
 v9:=Tryd.zeroValue9
 t20:=Tryd.underlying20
 a20:=Tryd.isAgg20
 z20:=Tryd.sizeOf20
 v20:=Tryd.zeroValue20
 t37:=Tryd.underlying85
 a37:=Tryd.isAgg85
 z37:=Tryd.sizeOf85
 v37:=Tryd.zeroValue85
 t46:=Tryd.underlying83
 a46:=Tryd.isAgg83
 z46:=Tryd.sizeOf83
 v46:=Tryd.zeroValue83
 t51:=Tryd.underlying192
 a51:=Tryd.isAgg192
 z51:=Tryd.sizeOf192
 v51:=Tryd.zeroValue192
 t53:=Tryd.underlying22
 a53:=Tryd.isAgg22
 z53:=Tryd.sizeOf22
 v53:=Tryd.zeroValue22
 t171:=Tryd.underlying188
 a171:=Tryd.isAgg188
 z171:=Tryd.sizeOf188
 v171:=Tryd.zeroValue188
 t173:=Tryd.underlying190
 a173:=Tryd.isAgg190
 z173:=Tryd.sizeOf190
 v173:=Tryd.zeroValue190
 t212:=Tryd.underlying200
 a212:=Tryd.isAgg200
 z212:=Tryd.sizeOf200
 v212:=Tryd.zeroValue200
 t213:=Tryd.underlying201
 a213:=Tryd.isAgg201
 z213:=Tryd.sizeOf201
 t232:=Tryd.underlying204
 a232:=Tryd.isAgg204
 z232:=Tryd.sizeOf204
 v232:=Tryd.zeroValue204
 t233:=Tryd.underlying136
 a233:=Tryd.isAgg136
 z233:=Tryd.sizeOf136
 v233:=Tryd.zeroValue136
 g17:=by kernel_rfl
 g18:=by kernel_rfl
 g19:=by kernel_rfl
 i0:=by kernel_rfl
 i2:=by kernel_rfl
 i3:=by kernel_rfl
 i4:=by kernel_rfl
 i5:=by kernel_rfl
 i9:=by kernel_rfl
 i20:=by kernel_rfl
 i37:=by kernel_rfl
 i46:=by kernel_rfl
 i51:=by kernel_rfl
 i53:=by kernel_rfl
 i171:=by kernel_rfl
 i173:=by kernel_rfl
 i212:=by kernel_rfl
 i232:=by kernel_rfl
 i233:=by kernel_rfl
 m17:=by kernel_rfl
 m18:=by kernel_rfl
 m19:=by kernel_rfl}
open Go.RowKit Go.Sort Go.Lib in
theorem sh_strconv_Itoa (n:Int) (h0: -9223372036854775808<=n) (h1:n<=9223372036854775807) (w:World) (htab:Lib.TabIs Tryd.prog w "internal/strconv.uint64pow10" .u64 Lib.pow10Tab):
  Calls Tryd.prog 88 #[.int .i64 n] w λe w'=>e= .returned (.string ⟨(Lib.itoa n).toArray⟩)/\∃k os,w'=grow (w.drewN k) os:=Any.strconv_Itoa sh_laysM171 n h0 h1 w htab
def sh_laysC172_ren:Go.Shelf.Ren:=⟨λ|172=>87|244=>120|245=>121|247=>136|279=>137|280=>138|281=>139|282=>140|287=>150|316=>151|171=>88|205=>152|321=>158|322=>159|243=>122|246=>141|283=>153|284=>154|285=>155|286=>156|129=>161|317=>160|318=>162|319=>163|320=>164|337=>165|338=>52|n=>n,λ|9=>9|3=>3|75=>129|76=>130|4=>4|5=>5|167=>171|37=>85|0=>0|85=>172|2=>2|168=>174|53=>22|175=>183|46=>83|210=>186|127=>146|145=>198|143=>196|21=>21|171=>188|173=>190|212=>200|51=>192|20=>20|213=>201|232=>204|233=>136|80=>114|n=>n,λ|15=>4|16=>5|17=>6|18=>7|19=>0|n=>n⟩
theorem sh_laysC172:Go.Proofs.LaysC.n172 Tryd.prog sh_laysC172_ren:={
 mixed:=by kernel_rfl
 f129:=Tryd.func161.trans (congrArg some (by kernel_rfl))
 f171:=Tryd.func88.trans (congrArg some (by kernel_rfl))
 f172:=Tryd.func87.trans (congrArg some (by kernel_rfl))
 f205:=Tryd.func152.trans (congrArg some (by kernel_rfl))
 f243:=Tryd.func122.trans (congrArg some (by kernel_rfl))
 f244:=Tryd.func120.trans (congrArg some (by kernel_rfl))
 f245:=Tryd.func121.trans (congrArg some (by kernel_rfl))
 f246:=Tryd.func141.trans (congrArg some (by kernel_rfl))
 f247:=Tryd.func136.trans (congrArg some (by kernel_rfl))
 f279:=Tryd.func137.trans (congrArg some (by kernel_rfl))
 f280:=Tryd.func138.trans (congrArg some (by kernel_rfl))
 f281:=Tryd.func139.trans (congrArg some (by kernel_rfl))
 f282:=Tryd.func140.trans (congrArg some (by kernel_rfl))
 f283:=Tryd.func153.trans (congrArg some (by kernel_rfl))
 f284:=Tryd.func154.trans (congrArg some (by kernel_rfl))
 f285:=Tryd.func155.trans (congrArg some (by kernel_rfl))
 f286:=Tryd.func156.trans (congrArg some (by kernel_rfl))
 f287:=Tryd.func150.trans (congrArg some (by kernel_rfl))
 f316:=Tryd.func151.trans (congrArg some (by kernel_rfl))
 f317:=Tryd.func160.trans (congrArg some (by kernel_rfl))
 f318:=Tryd.func162.trans (congrArg some (by kernel_rfl))
 f319:=Tryd.func163.trans (congrArg some (by kernel_rfl))
 f320:=Tryd.func164.trans (congrArg some (by kernel_rfl))
 f321:=Tryd.func158.trans (congrArg some (by kernel_rfl))
 f322:=Tryd.func159.trans (congrArg some (by kernel_rfl))
 f337:=Tryd.func165.trans (congrArg some (by kernel_rfl))
 f338:=Tryd.func52.trans (congrArg some (by kernel_rfl))
 t0:=Tryd.underlying0
 a0:=Tryd.isAgg0
 z0:=Tryd.sizeOf0
 v0:=Tryd.zeroValue0
 t2:=Tryd.underlying2
 a2:=Tryd.isAgg2
 z2:=Tryd.sizeOf2
 v2:=Tryd.zeroValue2
 t3:=Tryd.underlying3
 a3:=Tryd.isAgg3
 z3:=Tryd.sizeOf3
 v3:=Tryd.zeroValue3
 t4:=Tryd.underlying4
 a4:=Tryd.isAgg4
 z4:=Tryd.sizeOf4
 v4:=Tryd.zeroValue4
 t5:=Tryd.underlying5
 a5:=Tryd.isAgg5
 z5:=Tryd.sizeOf5
 v5:=Tryd.zeroValue5
 t9:=Tryd.underlying9
 a9:=Tryd.isAgg9
 z9:=Tryd.sizeOf9
 v9:=Tryd.zeroValue9
 t20:=Tryd.underlying20
 a20:=Tryd.isAgg20
 z20:=Tryd.sizeOf20
 v20:=Tryd.zeroValue20
 t21:=Tryd.underlying21
 a21:=Tryd.isAgg21
 z21:=Tryd.sizeOf21
 v21:=Tryd.zeroValue21
 t37:=Tryd.underlying85
 a37:=Tryd.isAgg85
 z37:=Tryd.sizeOf85
 v37:=Tryd.zeroValue85
 t46:=Tryd.underlying83
 a46:=Tryd.isAgg83
 z46:=Tryd.sizeOf83
 v46:=Tryd.zeroValue83
 t51:=Tryd.underlying192
 a51:=Tryd.isAgg192
 z51:=Tryd.sizeOf192
 v51:=Tryd.zeroValue192
 t53:=Tryd.underlying22
 a53:=Tryd.isAgg22
 z53:=Tryd.sizeOf22
 v53:=Tryd.zeroValue22
 t75:=Tryd.underlying129
 a75:=Tryd.isAgg129
 z75:=Tryd.sizeOf129
 v75:=Tryd.zeroValue129
 t76:=Tryd.underlying130
 a76:=Tryd.isAgg130
 z76:=Tryd.sizeOf130
 v76:=Tryd.zeroValue130
 t85:=Tryd.underlying172
 a85:=Tryd.isAgg172
 z85:=Tryd.sizeOf172
 v85:=Tryd.zeroValue172
 t127:=Tryd.underlying146
 a127:=Tryd.isAgg146
 z127:=Tryd.sizeOf146
 v127:=Tryd.zeroValue146
 t143:=Tryd.underlying196
 a143:=Tryd.isAgg196
 z143:=Tryd.sizeOf196
 v143:=Tryd.zeroValue196
 t145:=Tryd.underlying198
 a145:=Tryd.isAgg198
 z145:=Tryd.sizeOf198
 v145:=Tryd.zeroValue198
 t167:=Tryd.underlying171
 a167:=Tryd.isAgg171
 z167:=Tryd.sizeOf171
 v167:=Tryd.zeroValue171
 t168:=Tryd.underlying174
 a168:=Tryd.isAgg174
 z168:=Tryd.sizeOf174
 v168:=Tryd.zeroValue174
 t171:=Tryd.underlying188
 a171:=Tryd.isAgg188
 z171:=Tryd.sizeOf188
 v171:=Tryd.zeroValue188
 t173:=Tryd.underlying190
 a173:=Tryd.isAgg190
 z173:=Tryd.sizeOf190
 v173:=Tryd.zeroValue190
 t175:=Tryd.underlying183
 a175:=Tryd.isAgg183
 z175:=Tryd.sizeOf183
 v175:=Tryd.zeroValue183
 t210:=Tryd.underlying186
 a210:=Tryd.isAgg186
 z210:=Tryd.sizeOf186
 v210:=Tryd.zeroValue186
 t212:=Tryd.underlying200
 a212:=Tryd.isAgg200
 z212:=Tryd.sizeOf200
 v212:=Tryd.zeroValue200
 t213:=Tryd.underlying201
 a213:=Tryd.isAgg201
 z213:=Tryd.sizeOf201
 t232:=Tryd.underlying204
 a232:=Tryd.isAgg204
 z232:=Tryd.sizeOf204
 v232:=Tryd.zeroValue204
 t233:=Tryd.underlying136
 a233:=Tryd.isAgg136
 z233:=Tryd.sizeOf136
 v233:=Tryd.zeroValue136
 g15:=by kernel_rfl
 g16:=by kernel_rfl
 g17:=by kernel_rfl
 g18:=by kernel_rfl
 g19:=by kernel_rfl
 t80:=Tryd.underlying114
 a80:=Tryd.isAgg114
 z80:=Tryd.sizeOf114
 v80:=Tryd.zeroValue114
 i0:=by kernel_rfl
 i2:=by kernel_rfl
 i3:=by kernel_rfl
 i4:=by kernel_rfl
 i5:=by kernel_rfl
 i9:=by kernel_rfl
 i20:=by kernel_rfl
 i21:=by kernel_rfl
 i37:=by kernel_rfl
 i46:=by kernel_rfl
 i51:=by kernel_rfl
 i53:=by kernel_rfl
 i75:=by kernel_rfl
 i76:=by kernel_rfl
 i80:=by kernel_rfl
 i85:=by kernel_rfl
 i127:=by kernel_rfl
 i143:=by kernel_rfl
 i145:=by kernel_rfl
 i167:=by kernel_rfl
 i168:=by kernel_rfl
 i171:=by kernel_rfl
 i173:=by kernel_rfl
 i175:=by kernel_rfl
 i210:=by kernel_rfl
 i212:=by kernel_rfl
 i232:=by kernel_rfl
 i233:=by kernel_rfl
 m15:=by kernel_rfl
 m16:=by kernel_rfl
 m17:=by kernel_rfl
 m18:=by kernel_rfl
 m19:=by kernel_rfl
 c0:=by kernel_rfl
 c2:=by kernel_rfl
 c3:=by kernel_rfl
 c4:=by kernel_rfl
 c5:=by kernel_rfl
 c9:=by kernel_rfl
 c20:=by kernel_rfl
 c21:=by kernel_rfl
 c37:=by kernel_rfl
 c46:=by kernel_rfl
 c51:=by kernel_rfl
 c53:=by kernel_rfl
 c75:=by kernel_rfl
 c76:=by kernel_rfl
 c80:=by kernel_rfl
 c85:=by kernel_rfl
 c127:=by kernel_rfl
 c143:=by kernel_rfl
 c145:=by kernel_rfl
 c167:=by kernel_rfl
 c168:=by kernel_rfl
 c171:=by kernel_rfl
 c173:=by kernel_rfl
 c175:=by kernel_rfl
 c210:=by kernel_rfl
 c212:=by kernel_rfl
 c213:=by kernel_rfl
 c232:=by kernel_rfl
 c233:=by kernel_rfl}
open Go.RowKit in
theorem sh_strconv_Atoi_ok (s:ByteArray) (hmax:s.size<=9223372036854775806) (v:Int) (h:Lib.atoiAll s.data.toList= .ok v) (w:World):
  Calls Tryd.prog 87 #[.string s] w λe w'=>e= .returned (.tuple #[.int .i64 v,.nilIface])/\(w'=w\/∃t,w'=Lib.bytesWorld w 5 t):=Any.strconv_Atoi_ok sh_laysC172 s hmax v h w
open Go.RowKit in
theorem sh_strconv_Atoi_range_var (s:ByteArray) (hlim:s.size<=281474976710656) (h:Lib.atoiAll s.data.toList= .range) (tp:TypeId) (p:Value) (w:World) (hvar:w.var? Tryd.prog "strconv.ErrRange"=some #[.iface tp p]):
  Calls Tryd.prog 87 #[.string s] w λe w'=>∃N,e= .returned (.tuple #[.int .i64 (Lib.atoiSat s.data.toList),.iface 174 (.pointer (some ⟨N,0,none⟩))])/\w.heap.size<=N/\w'.heap[N]?=some (.cells #[.string ⟨#[65,116,111,105]⟩,.string s,.iface tp p] 186 (0,0))/\Below w.heap.size w w':=Any.strconv_Atoi_range_var sh_laysC172 s hlim h tp p w hvar
end Go.Proofs.YtjecddabdlapbaaDoor.core

namespace Go.Proofs.YtjecddabdlapbaaDoor.core
open Go.Gx Go.RowKit Go.ChangeShapes Go.WideShapes Go.ChangeAt
set_option linter.unusedVariables false
structure NumM (M:Mem):Prop where
 pow:∃e f,M 6=some (.cells (Lib.pow10Tab.map λz=>Value.int .u64 z).toArray e f)
 syn:∃t p e f,M 4=some (.cells #[.iface t p] e f)
 rng:∃t p e f,M 5=some (.cells #[.iface t p] e f)
theorem NumM.le {M M':Mem} (h:NumM M) (hl:M.le M'):NumM M':=
 ⟨let⟨_,_,a⟩:=h.pow;⟨_,_,hl _ _ a⟩,let⟨_,_,_,_,a⟩:=h.syn;⟨_,_,_,_,hl _ _ a⟩,let⟨_,_,_,_,a⟩:=h.rng;⟨_,_,_,_,hl _ _ a⟩⟩
theorem var_on {M:Mem} {w:World} (h:On M w) {name:String} {g:Nat} {cs:Array Value} {e f} (hg:Tryd.prog.globalNamed name=some g) (hm:M g=some (.cells cs e f)):w.var? Tryd.prog name=some cs:=by
 unfold World.var?
 rw[hg]
 simp only[Option.bind_some]
 rw[h _ _ hm]
theorem mkS_toList (l:List UInt8):(mkS l).data.toList=l:=rfl
theorem itoa_is {M:Mem} (hM:NumM M) {n:Int} (h:InI n):CallE Tryd.prog 88 #[.int .i64 n] M (λv M'=>v= .string (mkS (Lib.itoa n))/\NumM M'):=by
 intro w hw
 obtain⟨e,f,hp⟩:=hM.pow
 have hI: -9223372036854775808<=n/\n<=9223372036854775807:=by unfold InI at h;omega
 refine(sh_strconv_Itoa n hI.1 hI.2 w (var_on hw (by kernel_rfl) hp)).mono λx w' ⟨h1,k,os,h2⟩=>⟨_,h1,?_,rfl,hM.le (grow_le hw)⟩
 subst h2
 exact Lib.below_grow _ w (Nat.le_refl _) k os
def AtoiEnd (s:List UInt8) (v:Value):Prop:=∃n:Int,InI n/\((Lib.atoiAll s= .ok n/\v= .tuple #[.int .i64 n,.nilIface])\/((∀m,Lib.atoiAll s≠.ok m)/\∃t u,v= .tuple #[.int .i64 n,.iface t u]))
theorem atoiAll_in {s:List UInt8} {n:Int} (h:Lib.atoiAll s= .ok n):InI n:=by
 unfold Lib.atoiAll at h
 split at h
 ·cases h
 ·dsimp only at h
  split at h
  ·cases h
  ·cases h
  ·split at h
   ·cases h
   ·split at h
    ·cases h
    ·injection h with h
     unfold InI
     split at h<;>omega
theorem atoi_is {M:Mem} (hM:NumM M) {s:List UInt8} (h:s.length<=281474976710656):CallE Tryd.prog 87 #[.string (mkS s)] M (λv M'=>AtoiEnd s v/\NumM M'):=by
 intro w hw
 have hz:(mkS s).size=s.length:=mkS_size s
 cases hs:Lib.atoiAll s with
 |ok n=>
  refine(sh_strconv_Atoi_ok (mkS s) (by omega) n (by rw[mkS_toList];exact hs) w).mono λx w' ⟨h1,h2⟩=>⟨_,h1,?_,⟨n,atoiAll_in hs,.inl ⟨hs,rfl⟩⟩,hM.le (grow_le hw)⟩
  rcases h2 with rfl|⟨t,rfl⟩
  ·exact Below.refl _ _
  ·exact Lib.bytesWorld_below _ _ _
 |_=>
  first
  |(obtain⟨t,p,e,f,hp⟩:=hM.syn
    exact(Any.strconv_Atoi_syntax_var sh_laysC172 (mkS s) (by omega) hs t p w (var_on hw (by kernel_rfl) hp)).mono λx w' ⟨N,h1,_,_,h2⟩=>⟨_,h1,h2,⟨0,by unfold InI;omega,.inr ⟨λm=>(by rw[hs];intro e;cases e),_,_,rfl⟩⟩,hM.le (grow_le hw)⟩)
  |(obtain⟨t,p,e,f,hp⟩:=hM.rng
    exact(sh_strconv_Atoi_range_var (mkS s) (by omega) (by rw[mkS_toList];exact hs) t p w (var_on hw (by kernel_rfl) hp)).mono λx w' ⟨N,h1,_,_,h2⟩=>⟨_,h1,h2,⟨_,(by unfold Lib.atoiSat InI;split<;>omega),.inr ⟨λm=>(by rw[hs];intro e;cases e),_,_,rfl⟩⟩,hM.le (grow_le hw)⟩)
def isDig (c:UInt8):Prop:=48<=c.toNat/\c.toNat<=57
def dv (c:UInt8):Nat:=c.toNat-48
theorem dv_eq (c:UInt8):dv c=c.toNat-48:=rfl
attribute [irreducible] dv
def dval (acc:Nat):List UInt8->Nat
 |[]=>acc
 |c::r=>dval (10*acc+dv c) r
theorem dval_nil (a:Nat):dval a []=a:=rfl
theorem dval_cons (a:Nat) (c:UInt8) (r:List UInt8):dval a (c::r)=dval (10*a+dv c) r:=rfl
theorem dval_app:∀(l:List UInt8) (acc:Nat) (c:UInt8),dval acc (l++[c])=10*dval acc l+dv c
 |[],_,_=>rfl
 |_::r,_,c=>dval_app r _ c
def GoodDec (s:List UInt8):Prop:=s≠[]/\s.length<=9/\(∀c∈s,isDig c)/\(∀c,s[0]?=some c->c.toNat=48->s.length=1)
theorem digOf (u:Nat) (h:u<10):(UInt8.ofNat (48+u)).toNat=48+u:=by
 simp;omega
theorem decDigits_dig (u:Nat):∀c∈Lib.decDigits u,isDig c:=by
 induction u using Nat.strongRecOn with
 |_ u ih=>
  intro c hc
  rw[Lib.decDigits]at hc
  split at hc
  ·simp only[List.mem_singleton]at hc
   subst hc;unfold isDig;rw[digOf _ (by assumption)];omega
  ·rcases List.mem_append.1 hc with hc|hc
   ·exact ih _ (by omega) c hc
   ·simp only[List.mem_singleton]at hc
    subst hc;unfold isDig;rw[digOf _ (by omega)];omega
theorem decDigits_val (u:Nat):dval 0 (Lib.decDigits u)=u:=by
 induction u using Nat.strongRecOn with
 |_ u ih=>
  rw[Lib.decDigits]
  split
  ·rw[<-List.nil_append [UInt8.ofNat (48+u)],dval_app,dv_eq,digOf _ (by assumption),dval_nil];omega
  ·rw[dval_app,ih _ (by omega),dv_eq,digOf _ (by omega)];omega
theorem decDigits_ne (u:Nat):Lib.decDigits u≠[]:=by
 rw[Lib.decDigits];split<;>simp
theorem decDigits_zero (u:Nat):∀c,(Lib.decDigits u)[0]?=some c->c.toNat=48->u=0:=by
 induction u using Nat.strongRecOn with
 |_ u ih=>
  intro c hc h0
  rw[Lib.decDigits]at hc
  split at hc
  ·simp only[List.getElem?_cons_zero,Option.some.injEq]at hc
   subst hc
   rw[digOf _ (by assumption)]at h0;omega
  ·rw[List.getElem?_append_left (List.length_pos_iff.2 (decDigits_ne _))]at hc
   have:=ih (u / 10) (by omega) c hc h0
   omega
theorem decDigits_good {u:Nat} (h:(Lib.decDigits u).length<=9):GoodDec (Lib.decDigits u):=by
 refine⟨decDigits_ne u,h,decDigits_dig u,λc hc h0=>?_⟩
 obtain rfl:=decDigits_zero u c hc h0
 rw[Lib.decDigits];simp
theorem uint8_dig {c:UInt8} (h:isDig c):UInt8.ofNat (48+(c.toNat-48))=c:=by
 unfold isDig at h
 apply UInt8.toNat_inj.1
 rw[digOf _ (by omega)];omega
set_option maxHeartbeats 2000000 in
theorem good_eq:∀(n:Nat) (s:List UInt8),s.length=n->s≠[]->(∀c∈s,isDig c)->(∀c,s[0]?=some c->c.toNat=48->s.length=1)->Lib.decDigits (dval 0 s)=s
 |0,s,h,hne,_,_=>absurd (List.length_eq_zero_iff.1 h) hne
 |n+1,s,h,hne,hd,h0=>by
  obtain⟨l,c,rfl⟩:∃l c,s=l++[c]:=⟨s.dropLast,s.getLast hne,(List.dropLast_concat_getLast hne).symm⟩
  have hc:=hd c (by simp)
  have hc':=hc
  unfold isDig at hc'
  by_cases hl:l=[]
  ·subst hl
   rw[dval_app,dv_eq,dval_nil,Nat.mul_zero,Nat.zero_add,List.nil_append,Lib.decDigits_one (by omega),uint8_dig hc]
  ·have hl1:=List.length_pos_iff.2 hl
   have hz:∀d,l[0]?=some d->d.toNat≠48:=λd hd0 h1=>by
    have:=h0 d (by rw[List.getElem?_append_left hl1];exact hd0) h1
    rw[List.length_append,List.length_singleton]at this;omega
   have ih:=good_eq n l (by simpa using h) hl (λx hx=>hd x (by simp[hx])) (λd h1 h2=>absurd h2 (hz d h1))
   have hpos:dval 0 l≠0:=λe=>by
    rw[e,Lib.decDigits]at ih
    simp at ih
    refine hz (UInt8.ofNat 48) (by rw[<-ih];rfl) ?_
    decide
   rw[dval_app,dv_eq,Lib.decDigits,dif_neg (by omega)]
   rw[show(10*dval 0 l+(c.toNat-48)) / 10=dval 0 l by omega,show(10*dval 0 l+(c.toNat-48)) % 10=c.toNat-48 by omega,ih,uint8_dig hc]
theorem dval_lt:∀(l:List UInt8) (acc:Nat),(∀c∈l,isDig c)->dval acc l<(acc+1)*10 ^ l.length
 |[],acc,_=>by rw[dval_nil];simp
 |c::r,acc,h=>by
  have h1:=dval_lt r (10*acc+dv c) (λx hx=>h x (by simp[hx]))
  have h2:=h c (by simp)
  unfold isDig at h2
  rw[dval_cons,List.length_cons]
  rw[dv_eq]at h1 ⊢
  refine Nat.lt_of_lt_of_le h1 ?_
  rw[Nat.pow_succ,Nat.mul_comm (10 ^ r.length) 10,<-Nat.mul_assoc]
  exact Nat.mul_le_mul_right _ (by omega)
theorem parse_good:∀(l:List UInt8) (acc:Nat),(∀c∈l,isDig c)->(acc+1)*10 ^ l.length<=1000000000000000000->Lib.parseUint10 acc l= .ok (dval acc l)
 |[],acc,_,_=>rfl
 |c::r,acc,h,hb=>by
  have h2:=h c (by simp)
  unfold isDig at h2
  simp only[List.length_cons]at hb
  have hp:1<=10 ^ r.length:=Nat.pos_of_ne_zero (by simp)
  rw[Nat.pow_succ,Nat.mul_comm (10 ^ r.length) 10,<-Nat.mul_assoc]at hb
  have hb2:(acc+1)*10<=1000000000000000000:=Nat.le_trans (Nat.le_mul_of_pos_right _ hp) hb
  unfold Lib.parseUint10
  rw[if_pos h2,if_neg (by omega),if_neg (by omega),Nat.mul_comm acc 10,dval_cons,dv_eq]
  exact parse_good r _ (λx hx=>h x (by simp[hx])) (Nat.le_trans (Nat.mul_le_mul_right _ (by omega)) hb)
theorem good_atoi {s:List UInt8} (h:GoodDec s):Lib.atoiAll s= .ok (dval 0 s:Nat)/\dval 0 s<1000000000:=by
 obtain⟨hne,hl,hd,_⟩:=h
 have hlt:=dval_lt s 0 hd
 have hp:10 ^ s.length<=10 ^ 9:=Nat.pow_le_pow_right (by omega) hl
 have h9:(10:Nat) ^ 9=1000000000:=by decide
 match s,hne,hd,hlt,hp with
 |c::r,_,hd,hlt,hp=>
  have hc:=hd c (by simp)
  unfold isDig at hc
  unfold Lib.atoiAll
  dsimp only
  rw[if_neg (by omega)]
  unfold Lib.parseMag
  rw[if_neg (by simp),parse_good _ 0 hd (by omega)]
  dsimp only
  rw[if_neg (by omega),if_neg (by omega),if_neg (by omega)]
  exact⟨rfl,by omega⟩
def undecV (s:List UInt8) (v:Value):Prop:=(GoodDec s/\v= .tuple #[.int .i64 (dval 0 s:Nat),.int .i64 0])\/(¬GoodDec s/\v= .tuple #[.int .i64 0,.int .i64 3])
theorem undecV.eq {s:List UInt8} {v v':Value} (h:undecV s v) (h':undecV s v'):v=v':=by
 rcases h with⟨a,b⟩|⟨a,b⟩<;>rcases h' with⟨c,d⟩|⟨c,d⟩
 ·rw[b,d]
 ·exact absurd a c
 ·exact absurd c a
 ·rw[b,d]
theorem undec_is {M:Mem} (hM:NumM M) {s:List UInt8} (h:s.length<=281474976710656) (K:Value->Prop) (hK:∀v,undecV s v->K v):S_quote_Undec s M K:=by
 refine(atoi_is hM h).mono λv M' hl ⟨⟨n,hn,hv⟩,hM'⟩=>?_
 have bad:¬GoodDec s->S_quote_Undec_J1 n true K:=λhb=>⟨λ_=>hK _ (.inr ⟨hb,rfl⟩),λh=>absurd rfl h⟩
 rcases hv with⟨h1,rfl⟩|⟨h1,t,u,rfl⟩
 ·refine⟨n,_,rfl,true,.inl ⟨rfl,rfl⟩,λh=>absurd rfl h,λ_=>⟨λh9=>bad λhg=>?_,λh9=>⟨λh0=>bad λhg=>?_,λh0=>?_⟩⟩⟩
  ·have:=hg.2.1;omega
  ·rw[(good_atoi hg).1]at h1;injection h1 with h1;omega
  ·refine(itoa_is hM' hn).mono λv M'' _ ⟨hv,_⟩=>⟨_,hv,?_⟩
   obtain⟨u,rfl⟩:=Int.eq_ofNat_of_zero_le (show 0<=n by omega)
   have hi:Lib.itoa (u:Int)=Lib.decDigits u:=by unfold Lib.itoa;rw[if_neg (by omega)];rfl
   rw[hi]
   by_cases he:Lib.decDigits u=s
   ·have hg:GoodDec s:=he▸decDigits_good (by rw[he];omega)
    have hvl:dval 0 s=u:=by rw[<-he,decDigits_val]
    refine⟨λhh=>?_,λ_=>hK _ (.inl ⟨hg,by rw[hvl]⟩)⟩
    rw[he]at hh;simp at hh
   ·refine⟨λ_=>hK _ (.inr ⟨λhg=>he ?_,rfl⟩),λhh=>?_⟩
    ·have:=(good_atoi hg).1
     rw[h1]at this;injection this with this
     have hu:u=dval 0 s:=by omega
     rw[hu]
     exact good_eq _ s rfl hg.1 hg.2.2.1 hg.2.2.2
    ·exfalso
     exact hh (mkS_bne.2 he)
 ·refine⟨n,_,rfl,false,.inr ⟨_,_,rfl,rfl⟩,λ_=>bad λhg=>h1 _ (good_atoi hg).1,λhh=>?_⟩
  simp at hh
theorem take_put {l:List UInt8} {i:Nat} {c:UInt8} (h:l[i]?=some c):l.take (i+1)=l.take i++[c]:=by
 rw[List.take_add_one,h];rfl
theorem rundec_is {M:Mem} {s:List UInt8} (hlen:s.length<=9223372036854775807) (K:Value->Prop) (hK:∀v,undecV s v->K v):S_chaffref_Undec s M K:=by
 refine⟨λn x=>∃i:Nat,x=i/\i<=s.length/\i<=9/\n=(dval 0 (s.take i):Nat)/\(∀c∈s.take i,isDig c)/\(2<=i->∀c,s[0]?=some c->c.toNat≠48),λ_ x=>s.length-x.toNat,⟨0,rfl,by omega,by omega,rfl,by simp,λh=>by omega⟩,λn x ⟨i,hx,hi,hi9,hn,hd,h0⟩=>⟨λhlt=>?_,λhge=>?_⟩⟩
 ·subst hx
  obtain⟨c,hc⟩:∃c,s[i]?=some c:=⟨s[i]'(by omega),List.getElem?_eq_getElem _⟩
  have hci:s[((i:Nat):Int).toNat]?=some c:=by simpa using hc
  have hcs:c∈s:=List.mem_of_getElem? hc
  have bad:¬GoodDec s->S_chaffref_Undec_J1 s n i (λn x=>∃i:Nat,x=i/\i<=s.length/\i<=9/\n=(dval 0 (s.take i):Nat)/\(∀c∈s.take i,isDig c)/\(2<=i->∀c,s[0]?=some c->c.toNat≠48)) (λ_ x=>s.length-x.toNat) true K:=λhb=>⟨λ_=>hK _ (.inr ⟨hb,rfl⟩),λh=>absurd rfl h⟩
  refine⟨c,by omega,hci,λh1=>bad λhg=>?_,λh1=>⟨c,by omega,hci,λh2=>bad λhg=>?_,λh2=>⟨λh3=>bad λhg=>?_,λh3=>?_⟩⟩⟩
  ·have:=hg.2.2.1 c hcs;unfold isDig at this;omega
  ·have:=hg.2.2.1 c hcs;unfold isDig at this;omega
  ·have:=hg.2.1;omega
  ·have hdc:isDig c:=by unfold isDig;omega
   have good:(1<=i->∀d,s[0]?=some d->d.toNat≠48)->S_chaffref_Undec_J1 s n i (λn x=>∃i:Nat,x=i/\i<=s.length/\i<=9/\n=(dval 0 (s.take i):Nat)/\(∀c∈s.take i,isDig c)/\(2<=i->∀c,s[0]?=some c->c.toNat≠48)) (λ_ x=>s.length-x.toNat) false K:=λhz=>by
    refine⟨λh=>by simp at h,λ_=>?_⟩
    have hb:=dval_lt (s.take i) 0 hd
    have hp:10 ^ (s.take i).length<=10 ^ 9:=Nat.pow_le_pow_right (by omega) (by rw[List.length_take];omega)
    have h9:(10:Nat) ^ 9=1000000000:=by decide
    have hw:IntKind.wrap .i64 (IntKind.wrap .u8 ((c.toNat:Int)-48))=((c.toNat-48:Nat):Int):=by
     have hc2:=c.toNat_lt
     unfold isDig at hdc
     have k:∀n:Nat,n<10->IntKind.wrap .u8 ((n:Nat):Int)=((n:Nat):Int):=by decide
     rw[show(c.toNat:Int)-48=((c.toNat-48:Nat):Int) by omega,k _ (by omega),wrap_in (by unfold InI;omega)]
    unfold isDig at hdc
    refine⟨by unfold InI;omega,c,by omega,hci,?_⟩
    rw[hw]
    refine⟨by unfold InI;omega,by unfold InI;omega,⟨i+1,by omega,by omega,by omega,?_,?_,λh2=>hz (by omega)⟩,by dsimp only;omega⟩
    ·rw[take_put hc,dval_app,dv_eq];omega
    ·rw[take_put hc]
     intro x hx
     rcases List.mem_append.1 hx with hx|hx
     ·exact hd x hx
     ·simp only[List.mem_singleton]at hx;subst hx;exact hdc
   refine⟨λh4=>?_,λh4=>good λh=>by omega⟩
   obtain⟨d,hd0⟩:∃d,s[0]?=some d:=⟨s[0]'(by omega),List.getElem?_eq_getElem _⟩
   refine⟨d,by omega,by simpa using hd0,?_⟩
   by_cases e:d.toNat=48
   ·rw[show((d.toNat:Int)==(48:Int))=true by simp[e]]
    refine bad λhg=>?_
    have:=hg.2.2.2 d hd0 e;omega
   ·rw[show((d.toNat:Int)==(48:Int))=false by simp;omega]
    exact good λ_ d' hd'=>by rw[hd0]at hd';cases hd';exact e
 ·subst hx
  have hil:i=s.length:=by omega
  subst hil
  rw[List.take_length]at hn hd
  refine⟨λhe=>hK _ (.inr ⟨λhg=>hg.1 he,rfl⟩),λhe=>?_⟩
  subst hn
  refine hK _ (.inl ⟨⟨he,hi9,hd,λc hc h48=>?_⟩,rfl⟩)
  have:=List.length_pos_iff.2 he
  by_cases h2:2<=s.length
  ·exact absurd h48 (h0 h2 c hc)
  ·omega
theorem digit_is {M:Mem} {d:Nat} (h:d<10) (K:Value->Prop) (hK:K (.string (mkS [UInt8.ofNat (48+d)]))):S_chaffref_digit d M K:=by
 refine⟨by unfold InI;omega,by omega,by omega,by simp;omega,?_⟩
 have:(((([48,49,50,51,52,53,54,55,56,57,97,98,99,100,101,102]:List UInt8)).take ((d:Int)+1).toNat).drop (d:Int).toNat)=[UInt8.ofNat (48+d)]:=by
  match d,h with
  |0,_=>rfl
  |1,_=>rfl
  |2,_=>rfl
  |3,_=>rfl
  |4,_=>rfl
  |5,_=>rfl
  |6,_=>rfl
  |7,_=>rfl
  |8,_=>rfl
  |9,_=>rfl
  |d+10,h=>omega
 rw[this];exact hK
theorem decDigits_put {u:Nat} (h:u≠0) (out:List UInt8):(if u / 10=0 then[] else Lib.decDigits (u / 10))++([UInt8.ofNat (48+u % 10)]++out)=Lib.decDigits u++out:=by
 conv=>rhs;rw[Lib.decDigits]
 by_cases h10:u<10
 ·rw[dif_pos h10,if_pos (by omega),Nat.mod_eq_of_lt h10];rfl
 ·rw[dif_neg h10,if_neg (by omega),List.append_assoc]
theorem rdec_is {M:Mem} {n:Int} (h:InI n) (K:Value->Prop) (hK:K (.string (mkS (Lib.itoa n)))):S_chaffref_Dec n M K:=by
 refine⟨λh0=>?_,λh0=>?_⟩
 ·subst h0
  rw[show Lib.itoa 0=[48] by unfold Lib.itoa;rw[if_neg (by omega),Lib.decDigits];simp]at hK
  exact hK
 have hlenD:(Lib.decDigits n.natAbs).length<=9223372036854775807-1:=by
  have key:∀(k u:Nat),u<10 ^ (k+1)->(Lib.decDigits u).length<=k+1:=λk=>by
   induction k with
   |zero=>intro u hu;rw[Lib.decDigits,dif_pos (by omega)];simp
   |succ k ih=>
    intro u hu
    rw[Lib.decDigits]
    split
    ·simp
    ·have:=ih (u / 10) (by rw[Nat.pow_succ]at hu;omega)
     simp;omega
  have:=key 19 n.natAbs (by unfold InI at h;have:(10:Nat) ^ 20=100000000000000000000:=(by decide);omega)
  omega
 have hn1:InI n:=h
 refine⟨λx out=>InI x/\(n<0->x<=0)/\(¬n<0->0<=x)/\(if x.natAbs=0 then[] else Lib.decDigits x.natAbs)++out=Lib.decDigits n.natAbs,λx _=>x.natAbs,⟨h,λh=>by omega,λh=>by omega,by rw[if_neg (by omega),List.append_nil]⟩,λx out ⟨hx,hs1,hs2,ho⟩=>⟨λhne=>?_,λhz=>?_⟩⟩
 ·have hx0:x.natAbs≠0:=by omega
  rw[if_neg hx0]at ho
  have hol:(Lib.decDigits x.natAbs).length+out.length<=9223372036854775807-1:=by rw[<-List.length_append,ho];exact hlenD
  have hpos:=List.length_pos_iff.2 (decDigits_ne x.natAbs)
  have hq:(x.tdiv 10).natAbs=x.natAbs / 10:=by rw[Int.natAbs_tdiv];rfl
  have hr:(x.tmod 10).natAbs=x.natAbs % 10:=by rw[Int.natAbs_tmod];rfl
  have hqs:(n<0->x.tdiv 10<=0)/\(¬n<0->0<=x.tdiv 10):=⟨λhn=>by
   obtain⟨y,rfl⟩:∃y:Nat,x= -(y:Int):=⟨x.natAbs,by have:=hs1 hn;omega⟩
   rw[Int.neg_tdiv]
   have:((y:Int).tdiv 10)=((y / 10:Nat):Int):=rfl
   omega,λhn=>by
   obtain⟨y,rfl⟩:∃y:Nat,x=(y:Int):=⟨x.natAbs,by have:=hs2 hn;omega⟩
   have:((y:Int).tdiv 10)=((y / 10:Nat):Int):=rfl
   omega⟩
  have go:∀d:Nat,d=x.natAbs % 10->S_chaffref_Dec_J1 M x out (λx out=>InI x/\(n<0->x<=0)/\(¬n<0->0<=x)/\(if x.natAbs=0 then[] else Lib.decDigits x.natAbs)++out=Lib.decDigits n.natAbs) (λx _=>x.natAbs) d K:=λd hd=>by
   refine s_chaffref_digit _ _ _ (digit_is (by omega) _ ⟨_,rfl,by simp;omega,by unfold InI at hx ⊢;omega,⟨by unfold InI at hx ⊢;omega,hqs.1,hqs.2,?_⟩,by dsimp only;omega⟩)
   rw[hq,hd,decDigits_put hx0];exact ho
  refine⟨λhneg=>⟨by unfold InI;omega,?_⟩,λhneg=>?_⟩
  ·rw[show 0-x.tmod 10=(((x.natAbs % 10:Nat)):Int) by omega];exact go _ rfl
  ·rw[show x.tmod 10=(((x.natAbs % 10:Nat)):Int) by omega];exact go _ rfl
 ·have hx0:x=0:=by omega
  subst hx0
  simp at ho
  subst ho
  refine⟨λhn=>⟨by simp;omega,?_⟩,λhn=>?_⟩
  ·unfold Lib.itoa at hK;rw[if_pos hn]at hK;exact hK
  ·unfold Lib.itoa at hK;rw[if_neg hn,show n.toNat=n.natAbs by omega]at hK;exact hK
end Go.Proofs.YtjecddabdlapbaaDoor.core

namespace Go.Proofs.YtjecddabdlapbaaDoor.core
open Go.Gx Go.RowKit Go.ChangeShapes Go.WideShapes Go.ChangeAt
set_option linter.unusedVariables false
theorem heap_of_var {P:Program} {W:World} {name:String} {g:Nat} {cs:Array Value} (hg:P.globalNamed name=some g) (h:W.var? P name=some cs):∃e f,HM W g=some (.cells cs e f):=by
 unfold World.var? at h
 rw[hg]at h
 simp only[Option.bind_some]at h
 split at h
 ·rename_i c e f hq
  cases h
  exact⟨e,f,hq⟩
 ·cases h
theorem pow_data:(Rows.laid_internal_strconv_uint64pow10:DataW Unit)=Lib.tabData .u64 Lib.pow10Tab:=by kernel_rfl
theorem pow_of {W:World} (h:Lib.VarReads Tryd.prog W "internal/strconv.uint64pow10" Rows.laid_internal_strconv_uint64pow10):∃e f,HM W 6=some (.cells (Lib.pow10Tab.map λz=>Value.int .u64 z).toArray e f):=by
 obtain⟨g,t,cs,fuel,p,hg,hty,hvar,hd⟩:=h
 obtain rfl:=Option.some.inj ((show Tryd.prog.globalNamed "internal/strconv.uint64pow10"=some 6 by kernel_rfl).symm.trans hg)
 obtain rfl:=Option.some.inj ((show(Tryd.prog.globals[6]?).map (·.type)=some 200 by kernel_rfl).symm.trans hty)
 rw[pow_data]at hd
 have hcs:=Lib.cells_of_tab (n:=20) (e:=22) (by kernel_rfl) (by kernel_rfl) (by kernel_rfl) (by kernel_rfl) hd
 obtain⟨e,f,q⟩:=heap_of_var hg hvar
 refine⟨e,f,?_⟩
 rw[q,<-hcs]
theorem iface_some {P:Program} {t:TypeId} (h:(match P.underlying t with|some (.interface _)=>true|_=>false)=true):∃ms,P.underlying t=some (.interface ms):=by
 split at h
 ·rename_i ms hi;exact⟨ms,hi⟩
 ·cases h
theorem ifa_of {W:World} {name nm:String} {g:Nat} {x:DataW Unit} (hg:Tryd.prog.globalNamed name=some g) (ht:(Tryd.prog.globals[g]?).map (·.type)=some 129) (h:Lib.VarReads Tryd.prog W name (.iface nm x)):∃t p e f,HM W g=some (.cells #[.iface t p] e f):=by
 obtain⟨g',t,cs,fuel,p,hg',hty,hvar,hd⟩:=h
 obtain rfl:=Option.some.inj (hg.symm.trans hg')
 obtain rfl:=Option.some.inj (ht.symm.trans hty)
 obtain⟨e,f,q⟩:=heap_of_var hg' hvar
 obtain⟨ms,hi⟩:=iface_some (P:=Tryd.prog) (t:=129) (by kernel_rfl)
 obtain⟨f1,u,v,hc,_⟩:=iface_of_trod hi hd
 refine⟨u,v,e,f,?_⟩
 rw[q]
 exact congrArg (λc=>some (Obj.cells c e f)) (Array.toList_inj.1 hc)
theorem syn_of {W:World} (h:Lib.VarReads Tryd.prog W "strconv.ErrSyntax" Rows.laid_strconv_ErrSyntax):∃t p e f,HM W 4=some (.cells #[.iface t p] e f):=
 ifa_of (by kernel_rfl) (by kernel_rfl) h
theorem rng_of {W:World} (h:Lib.VarReads Tryd.prog W "strconv.ErrRange" Rows.laid_strconv_ErrRange):∃t p e f,HM W 5=some (.cells #[.iface t p] e f):=
 ifa_of (by kernel_rfl) (by kernel_rfl) h
end Go.Proofs.YtjecddabdlapbaaDoor.core

