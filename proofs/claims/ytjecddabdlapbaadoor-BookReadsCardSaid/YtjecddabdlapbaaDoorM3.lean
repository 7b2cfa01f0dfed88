/- Contracts and what they hang on, of several parts. No condition. -/
import Derived.Shelf.LaysM
import Derived.Shelf.Strconv.Itoa3
import Derived.Shelf.LaysC
import Derived.Shelf.Strconv.AtoiAll
import Derived.Shelf.Strconv.ErrVarAll
import Derived.Test.YtjecddabdlapbaaDoorM1
import Derived.Lib.AtoiErrMem
import Derived.Lib.AppendIntMem
import Derived.Lib.RuneCountTail
import Derived.Test.YtjecddabdlapbaaDoorBookRG
import Derived.Test.YtjecddabdlapbaaDoorM2
import Derived.Lib.LaidU8
import Derived.LaidLaws
import Derived.Test.YtjecddabdlapbaaDoorRows
namespace Go.Proofs.YtjecddabdlapbaaDoor.core
open Go.Gx Go.RowKit Go.ChangeShapes Go.WideShapes Go.ChangeAt
set_option linter.unusedVariables false
open Go.Shelf
def sh_laysM171_ren:Go.Shelf.Ren:=⟨λ|171=>88|243=>122|246=>141|283=>153|284=>154|285=>155|286=>156|129=>161|317=>160|318=>162|319=>163|320=>164|337=>165|338=>52|n=>n,λ|3=>3|9=>9|2=>2|4=>4|171=>188|0=>0|53=>22|37=>85|5=>5|173=>190|212=>200|51=>192|20=>20|213=>201|46=>83|232=>204|233=>136|n=>n,λ|17=>6|18=>7|19=>0|n=>n⟩
theorem sh_laysM171:Go.Proofs.LaysM.n171 Tryd.prog sh_laysM171_ren:={
 mixed:=by kernel_rfl
 f129:=Tryd.func161.trans (congrArg some (by kernel_rfl))
 f171:=Tryd.func88.trans (congrArg some (by kernel_rfl))
 f243:=Tryd.func122.trans (congrArg some (by kernel_rfl))
 f246:=Tryd.func141.trans (congrArg some (by kernel_rfl))
 f283:=Tryd.func153.trans (congrArg some (by kernel_rfl))
 f284:=Tryd.func154.trans (congrArg some (by kernel_rfl))
 f285:=Tryd.func155.trans (congrArg some (by kernel_rfl))
 f286:=Tryd.func156.trans (congrArg some (by kernel_rfl))
 f317:=Tryd.func160.trans (congrArg some (by kernel_rfl))
 f318:=Tryd.func162.trans (congrArg some (by kernel_rfl))
 f319:=Tryd.func163.trans (congrArg some (by kernel_rfl))
 f320:=Tryd.func164.trans (congrArg some (by kernel_rfl))
 f337:=Tryd.func165.trans (congrArg some (by kernel_rfl))
 f338:=Tryd.func52.trans (congrArg some (by kernel_rfl))
 t0:=Tryd.underlying0
 a0:=Tryd.isAgg0
 z0:=Tryd.sizeOf0
 v0:=Tryd.zeroValue0
 t2:=Tryd.underlying2
 a2:=Tryd.isAgg2
 z2:=Tryd.sizeOf2
 v2:=Tryd.zeroValue2
 t3:=Tryd.underlying3
 a3:=Tryd.isAgg3
 z3:=Tryd.sizeOf3
 v3:=Tryd.zeroValue3
 t4:=Tryd.underlying4
 a4:=Tryd.isAgg4
 z4:=Tryd.sizeOf4
 v4:=Tryd.zeroValue4
 t5:=Tryd.underlying5
 a5:=Tryd.isAgg5
 z5:=Tryd.sizeOf5
 v5:=Tryd.zeroValue5
 t9:=Tryd.underlying9
 a9:=Tryd.isAgg9
 z9:=Tryd.sizeOf9
 v9:=Tryd.zeroValue9
 t20:=Tryd.underlying20
 a20:=Tryd.isAgg20
 z20:=Tryd.sizeOf20
 v20:=Tryd.zeroValue20
 t37:=Tryd.underlying85
 a37:=Tryd.isAgg85
 z37:=Tryd.sizeOf85
 v37:=Tryd.zeroValue85
 t46:=Tryd.underlying83
 a46:=Tryd.isAgg83
 z46:=Tryd.sizeOf83
 v46:=Tryd.zeroValue83
 t51:=Tryd.underlying192
 a51:=Tryd.isAgg192
 z51:=Tryd.sizeOf192
 v51:=Tryd.zeroValue192
 t53:=Tryd.underlying22
 a53:=Tryd.isAgg22
 z53:=Tryd.sizeOf22
 v53:=Tryd.zeroValue22
 t171:=Tryd.underlying188
 a171:=Tryd.isAgg188
 z171:=Tryd.sizeOf188
 v171:=Tryd.zeroValue188
 t173:=Tryd.underlying190
 a173:=Tryd.isAgg190
 z173:=Tryd.sizeOf190
 v173:=Tryd.zeroValue190
 t212:=Tryd.underlying200
 a212:=Tryd.isAgg200
 z212:=Tryd.sizeOf200
 v212:=Tryd.zeroValue200
 t213:=Tryd.underlying201
 a213:=Tryd.isAgg201
 z213:=Tryd.sizeOf201
 t232:=Tryd.underlying204
 a232:=Tryd.isAgg204
 z232:=Tryd.sizeOf204
 v232:=Tryd.zeroValue204
 t233:=Tryd.underlying136
 a233:=Tryd.isAgg136
 z233:=Tryd.sizeOf136
 v233:=Tryd.zeroValue136
 g17:=by kernel_rfl
 g18:=by kernel_rfl
 g19:=by kernel_rfl
 i0:=by kernel_rfl
 i2:=by kernel_rfl
 i3:=by kernel_rfl
 i4:=by kernel_rfl
 i5:=by kernel_rfl
 i9:=by kernel_rfl
 i20:=by kernel_rfl
 i37:=by kernel_rfl
 i46:=by kernel_rfl
 i51:=by kernel_rfl
 i53:=by kernel_rfl
 i171:=by kernel_rfl
 i173:=by kernel_rfl
 i212:=by kernel_rfl
 i232:=by kernel_rfl
 i233:=by kernel_rfl
 m17:=by kernel_rfl
 m18:=by kernel_rfl
 m19:=by kernel_rfl}
open Go.RowKit Go.Sort Go.Lib in
theorem sh_strconv_Itoa (n:Int) (h0: -9223372036854775808<=n) (h1:n<=9223372036854775807) (w:World) (htab:Lib.TabIs Tryd.prog w "internal/strconv.uint64pow10" .u64 Lib.pow10Tab):
  Calls Tryd.prog 88 #[.int .i64 n] w λe w'=>e= .returned (.string ⟨(Lib.itoa n).toArray⟩)/\∃k os,w'=grow (w.drewN k) os:=Any.strconv_Itoa sh_laysM171 n h0 h1 w htab
def sh_laysC172_ren:Go.Shelf.Ren:=⟨λ|172=>87|244=>120|245=>121|247=>136|279=>137|280=>138|281=>139|282=>140|287=>150|316=>151|171=>88|205=>152|321=>158|322=>159|243=>122|246=>141|283=>153|284=>154|285=>155|286=>156|129=>161|317=>160|318=>162|319=>163|320=>164|337=>165|338=>52|n=>n,λ|9=>9|3=>3|75=>129|76=>130|4=>4|5=>5|167=>171|37=>85|0=>0|85=>172|2=>2|168=>174|53=>22|175=>183|46=>83|210=>186|127=>146|145=>198|143=>196|21=>21|171=>188|173=>190|212=>200|51=>192|20=>20|213=>201|232=>204|233=>136|80=>114|n=>n,λ|15=>4|16=>5|17=>6|18=>7|19=>0|n=>n⟩
theorem sh_laysC172:Go.Proofs.LaysC.n172 Tryd.prog sh_laysC172_ren:={
 mixed:=by kernel_rfl
 f129:=Tryd.func161.trans (congrArg some (by kernel_rfl))
 f171:=Tryd.func88.trans (congrArg some (by kernel_rfl))
 f172:=Tryd.func87.trans (congrArg some (by kernel_rfl))
 f205:=Tryd.func152.trans (congrArg some (by kernel_rfl))
 f243:=Tryd.func122.trans (congrArg some (by kernel_rfl))
 f244:=Tryd.func120.trans (congrArg some (by kernel_rfl))
 f245:=Tryd.func121.trans (congrArg some (by kernel_rfl))
 f246:=Tryd.func141.trans (congrArg some (by kernel_rfl))
 f247:=Tryd.func136.trans (congrArg some (by kernel_rfl))
 f279:=Tryd.func137.trans (congrArg some (by kernel_rfl))
 f280:=Tryd.func138.trans (congrArg some (by kernel_rfl))
 f281:=Tryd.func139.trans (congrArg some (by kernel_rfl))
 f282:=Tryd.func140.trans (congrArg some (by kernel_rfl))
 f283:=Tryd.func153.trans (congrArg some (by kernel_rfl))
 f284:=Tryd.func154.trans (congrArg some (by kernel_rfl))
 f285:=Tryd.func155.trans (congrArg some (by kernel_rfl))
 f286:=Tryd.func156.trans (congrArg some (by kernel_rfl))
 f287:=Tryd.func150.trans (congrArg some (by kernel_rfl))
 f316:=Tryd.func151.trans (congrArg some (by kernel_rfl))
 f317:=Tryd.func160.trans (congrArg some (by kernel_rfl))
 f318:=Tryd.func162.trans (congrArg some (by kernel_rfl))
 f319:=Tryd.func163.trans (congrArg some (by kernel_rfl))
 f320:=Tryd.func164.trans (congrArg some (by kernel_rfl))
 f321:=Tryd.func158.trans (congrArg some (by kernel_rfl))
 f322:=Tryd.func159.trans (congrArg some (by kernel_rfl))
 f337:=Tryd.func165.trans (congrArg some (by kernel_rfl))
 f338:=Tryd.func52.trans (congrArg some (by kernel_rfl))
 t0:=Tryd.underlying0
 a0:=Tryd.isAgg0
 z0:=Tryd.sizeOf0
 v0:=Tryd.zeroValue0
 t2:=Tryd.underlying2
 a2:=Tryd.isAgg2
 z2:=Tryd.sizeOf2
 v2:=Tryd.zeroValue2
 t3:=Tryd.underlying3
 a3:=Tryd.isAgg3
 z3:=Tryd.sizeOf3
 v3:=Tryd.zeroValue3
 t4:=Tryd.underlying4
 a4:=Tryd.isAgg4
 z4:=Tryd.sizeOf4
 v4:=Tryd.zeroValue4
 t5:=Tryd.underlying5
 a5:=Tryd.isAgg5
 z5:=Tryd.sizeOf5
 v5:=Tryd.zeroValue5
 t9:=Tryd.underlying9
 a9:=Tryd.isAgg9
 z9:=Tryd.sizeOf9
 v9:=Tryd.zeroValue9
 t20:=Tryd.underlying20
 a20:=Tryd.isAgg20
 z20:=Tryd.sizeOf20
 v20:=Tryd.zeroValue20
 t21:=Tryd.underlying21
 a21:=Tryd.isAgg21
 z21:=Tryd.sizeOf21
 v21:=Tryd.zeroValue21
 t37:=Tryd.underlying85
 a37:=Tryd.isAgg85
 z37:=Tryd.sizeOf85
 v37:=Tryd.zeroValue85
 t46:=Tryd.underlying83
 a46:=Tryd.isAgg83
 z46:=Tryd.sizeOf83
 v46:=Tryd.zeroValue83
 t51:=Tryd.underlying192
 a51:=Tryd.isAgg192
 z51:=Tryd.sizeOf192
 v51:=Tryd.zeroValue192
 t53:=Tryd.underlying22
 a53:=Tryd.isAgg22
 z53:=Tryd.sizeOf22
 v53:=Tryd.zeroValue22
 t75:=Tryd.underlying129
 a75:=Tryd.isAgg129
 z75:=Tryd.sizeOf129
 v75:=Tryd.zeroValue129
 t76:=Tryd.underlying130
 a76:=Tryd.isAgg130
 z76:=Tryd.sizeOf130
 v76:=Tryd.zeroValue130
 t85:=Tryd.underlying172
 a85:=Tryd.isAgg172
 z85:=Tryd.sizeOf172
 v85:=Tryd.zeroValue172
 t127:=Tryd.underlying146
 a127:=Tryd.isAgg146
 z127:=Tryd.sizeOf146
 v127:=Tryd.zeroValue146
 t143:=Tryd.underlying196
 a143:=Tryd.isAgg196
 z143:=Tryd.sizeOf196
 v143:=Tryd.zeroValue196
 t145:=Tryd.underlying198
 a145:=Tryd.isAgg198
 z145:=Tryd.sizeOf198
 v145:=Tryd.zeroValue198
 t167:=Tryd.underlying171
 a167:=Tryd.isAgg171
 z167:=Tryd.sizeOf171
 v167:=Tryd.zeroValue171
 t168:=Tryd.underlying174
 a168:=Tryd.isAgg174
 z168:=Tryd.sizeOf174
 v168:=Tryd.zeroValue174
 t171:=Tryd.underlying188
 a171:=Tryd.isAgg188
 z171:=Tryd.sizeOf188
 v171:=Tryd.zeroValue188
 t173:=Tryd.underlying190
 a173:=Tryd.isAgg190
 z173:=Tryd.sizeOf190
 v173:=Tryd.zeroValue190
 t175:=Tryd.underlying183
 a175:=Tryd.isAgg183
 z175:=Tryd.sizeOf183
 v175:=Tryd.zeroValue183
 t210:=Tryd.underlying186
 a210:=Tryd.isAgg186
 z210:=Tryd.sizeOf186
 v210:=Tryd.zeroValue186
 t212:=Tryd.underlying200
 a212:=Tryd.isAgg200
 z212:=Tryd.sizeOf200
 v212:=Tryd.zeroValue200
 t213:=Tryd.underlying201
 a213:=Tryd.isAgg201
 z213:=Tryd.sizeOf201
 t232:=Tryd.underlying204
 a232:=Tryd.isAgg204
 z232:=Tryd.sizeOf204
 v232:=Tryd.zeroValue204
 t233:=Tryd.underlying136
 a233:=Tryd.isAgg136
 z233:=Tryd.sizeOf136
 v233:=Tryd.zeroValue136
 g15:=by kernel_rfl
 g16:=by kernel_rfl
 g17:=by kernel_rfl
 g18:=by kernel_rfl
 g19:=by kernel_rfl
 t80:=Tryd.underlying114
 a80:=Tryd.isAgg114
 z80:=Tryd.sizeOf114
 v80:=Tryd.zeroValue114
 i0:=by kernel_rfl
 i2:=by kernel_rfl
 i3:=by kernel_rfl
 i4:=by kernel_rfl
 i5:=by kernel_rfl
 i9:=by kernel_rfl
 i20:=by kernel_rfl
 i21:=by kernel_rfl
 i37:=by kernel_rfl
 i46:=by kernel_rfl
 i51:=by kernel_rfl
 i53:=by kernel_rfl
 i75:=by kernel_rfl
 i76:=by kernel_rfl
 i80:=by kernel_rfl
 i85:=by kernel_rfl
 i127:=by kernel_rfl
 i143:=by kernel_rfl
 i145:=by kernel_rfl
 i167:=by kernel_rfl
 i168:=by kernel_rfl
 i171:=by kernel_rfl
 i173:=by kernel_rfl
 i175:=by kernel_rfl
 i210:=by kernel_rfl
 i212:=by kernel_rfl
 i232:=by kernel_rfl
 i233:=by kernel_rfl
 m15:=by kernel_rfl
 m16:=by kernel_rfl
 m17:=by kernel_rfl
 m18:=by kernel_rfl
 m19:=by kernel_rfl
 c0:=by kernel_rfl
 c2:=by kernel_rfl
 c3:=by kernel_rfl
 c4:=by kernel_rfl
 c5:=by kernel_rfl
 c9:=by kernel_rfl
 c20:=by kernel_rfl
 c21:=by kernel_rfl
 c37:=by kernel_rfl
 c46:=by kernel_rfl
 c51:=by kernel_rfl
 c53:=by kernel_rfl
 c75:=by kernel_rfl
 c76:=by kernel_rfl
 c80:=by kernel_rfl
 c85:=by kernel_rfl
 c127:=by kernel_rfl
 c143:=by kernel_rfl
 c145:=by kernel_rfl
 c167:=by kernel_rfl
 c168:=by kernel_rfl
 c171:=by kernel_rfl
 c173:=by kernel_rfl
 c175:=by kernel_rfl
 c210:=by kernel_rfl
 c212:=by kernel_rfl
 c213:=by kernel_rfl
 c232:=by kernel_rfl
 c233:=by kernel_rfl}
open Go.RowKit in
theorem sh_strconv_Atoi_ok (s:ByteArray) (hmax:s.size<=9223372036854775806) (v:Int) (h:Lib.atoiAll s.data.toList= .ok v) (w:World):
  Calls Tryd.prog 87 #[.string s] w λe w'=>e= .returned (.tuple #[.int .i64 v,.nilIface])/\(w'=w\/∃t,w'=Lib.bytesWorld w 5 t):=Any.strconv_Atoi_ok sh_laysC172 s hmax v h w
open Go.RowKit in
theorem sh_strconv_Atoi_range_var (s:ByteArray) (hlim:s.size<=281474976710656) (h:Lib.atoiAll s.data.toList= .range) (tp:TypeId) (p:Value) (w:World) (hvar:w.var? Tryd.prog "strconv.ErrRange"=some #[.iface tp p]):
  Calls Tryd.prog 87 #[.string s] w λe w'=>∃N,e= .returned (.tuple #[.int .i64 (Lib.atoiSat s.data.toList),.iface 174 (.pointer (some ⟨N,0,none⟩))])/\w.heap.size<=N/\w'.heap[N]?=some (.cells #[.string ⟨#[65,116,111,105]⟩,.string s,.iface tp p] 186 (0,0))/\Below w.heap.size w w':=Any.strconv_Atoi_range_var sh_laysC172 s hlim h tp p w hvar
end Go.Proofs.YtjecddabdlapbaaDoor.core

namespace Go.Proofs.YtjecddabdlapbaaDoor.core
open Go.Gx Go.RowKit Go.ChangeShapes Go.WideShapes Go.ChangeAt
set_option linter.unusedVariables false
structure NumM (M:Mem):Prop where
 pow:∃e f,M 6=some (.cells (Lib.pow10Tab.map λz=>Value.int .u64 z).toArray e f)
 syn:∃t p e f,M 4=some (.cells #[.iface t p] e f)
 rng:∃t p e f,M 5=some (.cells #[.iface t p] e f)
theorem NumM.le {M M':Mem} (h:NumM M) (hl:M.le M'):NumM M':=
 ⟨let⟨_,_,a⟩:=h.pow;⟨_,_,hl _ _ a⟩,let⟨_,_,_,_,a⟩:=h.syn;⟨_,_,_,_,hl _ _ a⟩,let⟨_,_,_,_,a⟩:=h.rng;⟨_,_,_,_,hl _ _ a⟩⟩
theorem var_on {M:Mem} {w:World} (h:On M w) {name:String} {g:Nat} {cs:Array Value} {e f} (hg:Tryd.prog.globalNamed name=some g) (hm:M g=some (.cells cs e f)):w.var? Tryd.prog name=some cs:=by
 unfold World.var?
 rw[hg]
 simp only[Option.bind_some]
 rw[h _ _ hm]
theorem mkS_toList (l:List UInt8):(mkS l).data.toList=l:=rfl
theorem itoa_is {M:Mem} (hM:NumM M) {n:Int} (h:InI n):CallE Tryd.prog 88 #[.int .i64 n] M (λv M'=>v= .string (mkS (Lib.itoa n))/\NumM M'):=by
 intro w hw
 obtain⟨e,f,hp⟩:=hM.pow
 have hI: -9223372036854775808<=n/\n<=9223372036854775807:=by unfold InI at h;omega
 refine(sh_strconv_Itoa n hI.1 hI.2 w (var_on hw (by kernel_rfl) hp)).mono λx w' ⟨h1,k,os,h2⟩=>⟨_,h1,?_,rfl,hM.le (grow_le hw)⟩
 subst h2
 exact Lib.below_grow _ w (Nat.le_refl _) k os
def AtoiEnd (s:List UInt8) (v:Value):Prop:=∃n:Int,InI n/\((Lib.atoiAll s= .ok n/\v= .tuple #[.int .i64 n,.nilIface])\/((∀m,Lib.atoiAll s≠.ok m)/\∃t u,v= .tuple #[.int .i64 n,.iface t u]))
theorem atoiAll_in {s:List UInt8} {n:Int} (h:Lib.atoiAll s= .ok n):InI n:=by
 unfold Lib.atoiAll at h
 split at h
 ·cases h
 ·dsimp only at h
  split at h
  ·cases h
  ·cases h
  ·split at h
   ·cases h
   ·split at h
    ·cases h
    ·injection h with h
     unfold InI
     split at h<;>omega
theorem atoi_is {M:Mem} (hM:NumM M) {s:List UInt8} (h:s.length<=281474976710656):CallE Tryd.prog 87 #[.string (mkS s)] M (λv M'=>AtoiEnd s v/\NumM M'):=by
 intro w hw
 have hz:(mkS s).size=s.length:=mkS_size s
 cases hs:Lib.atoiAll s with
 |ok n=>
  refine(sh_strconv_Atoi_ok (mkS s) (by omega) n (by rw[mkS_toList];exact hs) w).mono λx w' ⟨h1,h2⟩=>⟨_,h1,?_,⟨n,atoiAll_in hs,.inl ⟨hs,rfl⟩⟩,hM.le (grow_le hw)⟩
  rcases h2 with rfl|⟨t,rfl⟩
  ·exact Below.refl _ _
  ·exact Lib.bytesWorld_below _ _ _
 |_=>
  first
  |(obtain⟨t,p,e,f,hp⟩:=hM.syn
    exact(Any.strconv_Atoi_syntax_var sh_laysC172 (mkS s) (by omega) hs t p w (var_on hw (by kernel_rfl) hp)).mono λx w' ⟨N,h1,_,_,h2⟩=>⟨_,h1,h2,⟨0,by unfold InI;omega,.inr ⟨λm=>(by rw[hs];intro e;cases e),_,_,rfl⟩⟩,hM.le (grow_le hw)⟩)
  |(obtain⟨t,p,e,f,hp⟩:=hM.rng
    exact(sh_strconv_Atoi_range_var (mkS s) (by omega) (by rw[mkS_toList];exact hs) t p w (var_on hw (by kernel_rfl) hp)).mono λx w' ⟨N,h1,_,_,h2⟩=>⟨_,h1,h2,⟨_,(by unfold Lib.atoiSat InI;split<;>omega),.inr ⟨λm=>(by rw[hs];intro e;cases e),_,_,rfl⟩⟩,hM.le (grow_le hw)⟩)
def isDig (c:UInt8):Prop:=48<=c.toNat/\c.toNat<=57
def dv (c:UInt8):Nat:=c.toNat-48
theorem dv_eq (c:UInt8):dv c=c.toNat-48:=rfl
attribute [irreducible] dv
def dval (acc:Nat):List UInt8->Nat
 |[]=>acc
 |c::r=>dval (10*acc+dv c) r
theorem dval_nil (a:Nat):dval a []=a:=rfl
theorem dval_cons (a:Nat) (c:UInt8) (r:List UInt8):dval a (c::r)=dval (10*a+dv c) r:=rfl
theorem dval_app:∀(l:List UInt8) (acc:Nat) (c:UInt8),dval acc (l++[c])=10*dval acc l+dv c
 |[],_,_=>rfl
 |_::r,_,c=>dval_app r _ c
def GoodDec (s:List UInt8):Prop:=s≠[]/\s.length<=9/\(∀c∈s,isDig c)/\(∀c,s[0]?=some c->c.toNat=48->s.length=1)
theorem digOf (u:Nat) (h:u<10):(UInt8.ofNat (48+u)).toNat=48+u:=by
 simp;omega
theorem decDigits_dig (u:Nat):∀c∈Lib.decDigits u,isDig c:=by
 induction u using Nat.strongRecOn with
 |_ u ih=>
  intro c hc
  rw[Lib.decDigits]at hc
  split at hc
  ·simp only[List.mem_singleton]at hc
   subst hc;unfold isDig;rw[digOf _ (by assumption)];omega
  ·rcases List.mem_append.1 hc with hc|hc
   ·exact ih _ (by omega) c hc
   ·simp only[List.mem_singleton]at hc
    subst hc;unfold isDig;rw[digOf _ (by omega)];omega
theorem decDigits_val (u:Nat):dval 0 (Lib.decDigits u)=u:=by
 induction u using Nat.strongRecOn with
 |_ u ih=>
  rw[Lib.decDigits]
  split
  ·rw[<-List.nil_append [UInt8.ofNat (48+u)],dval_app,dv_eq,digOf _ (by assumption),dval_nil];omega
  ·rw[dval_app,ih _ (by omega),dv_eq,digOf _ (by omega)];omega
theorem decDigits_ne (u:Nat):Lib.decDigits u≠[]:=by
 rw[Lib.decDigits];split<;>simp
theorem decDigits_zero (u:Nat):∀c,(Lib.decDigits u)[0]?=some c->c.toNat=48->u=0:=by
 induction u using Nat.strongRecOn with
 |_ u ih=>
  intro c hc h0
  rw[Lib.decDigits]at hc
  split at hc
  ·simp only[List.getElem?_cons_zero,Option.some.injEq]at hc
   subst hc
   rw[digOf _ (by assumption)]at h0;omega
  ·rw[List.getElem?_append_left (List.length_pos_iff.2 (decDigits_ne _))]at hc
   have:=ih (u / 10) (by omega) c hc h0
   omega
theorem decDigits_good {u:Nat} (h:(Lib.decDigits u).length<=9):GoodDec (Lib.decDigits u):=by
 refine⟨decDigits_ne u,h,decDigits_dig u,λc hc h0=>?_⟩
 obtain rfl:=decDigits_zero u c hc h0
 rw[Lib.decDigits];simp
theorem uint8_dig {c:UInt8} (h:isDig c):UInt8.ofNat (48+(c.toNat-48))=c:=by
 unfold isDig at h
 apply UInt8.toNat_inj.1
 rw[digOf _ (by omega)];omega
set_option maxHeartbeats 2000000 in
theorem good_eq:∀(n:Nat) (s:List UInt8),s.length=n->s≠[]->(∀c∈s,isDig c)->(∀c,s[0]?=some c->c.toNat=48->s.length=1)->Lib.decDigits (dval 0 s)=s
 |0,s,h,hne,_,_=>absurd (List.length_eq_zero_iff.1 h) hne
 |n+1,s,h,hne,hd,h0=>by
  obtain⟨l,c,rfl⟩:∃l c,s=l++[c]:=⟨s.dropLast,s.getLast hne,(List.dropLast_concat_getLast hne).symm⟩
  have hc:=hd c (by simp)
  have hc':=hc
  unfold isDig at hc'
  by_cases hl:l=[]
  ·subst hl
   rw[dval_app,dv_eq,dval_nil,Nat.mul_zero,Nat.zero_add,List.nil_append,Lib.decDigits_one (by omega),uint8_dig hc]
  ·have hl1:=List.length_pos_iff.2 hl
   have hz:∀d,l[0]?=some d->d.toNat≠48:=λd hd0 h1=>by
    have:=h0 d (by rw[List.getElem?_append_left hl1];exact hd0) h1
    rw[List.length_append,List.length_singleton]at this;omega
   have ih:=good_eq n l (by simpa using h) hl (λx hx=>hd x (by simp[hx])) (λd h1 h2=>absurd h2 (hz d h1))
   have hpos:dval 0 l≠0:=λe=>by
    rw[e,Lib.decDigits]at ih
    simp at ih
    refine hz (UInt8.ofNat 48) (by rw[<-ih];rfl) ?_
    decide
   rw[dval_app,dv_eq,Lib.decDigits,dif_neg (by omega)]
   rw[show(10*dval 0 l+(c.toNat-48)) / 10=dval 0 l by omega,show(10*dval 0 l+(c.toNat-48)) % 10=c.toNat-48 by omega,ih,uint8_dig hc]
theorem dval_lt:∀(l:List UInt8) (acc:Nat),(∀c∈l,isDig c)->dval acc l<(acc+1)*10 ^ l.length
 |[],acc,_=>by rw[dval_nil];simp
 |c::r,acc,h=>by
  have h1:=dval_lt r (10*acc+dv c) (λx hx=>h x (by simp[hx]))
  have h2:=h c (by simp)
  unfold isDig at h2
  rw[dval_cons,List.length_cons]
  rw[dv_eq]at h1 ⊢
  refine Nat.lt_of_lt_of_le h1 ?_
  rw[Nat.pow_succ,Nat.mul_comm (10 ^ r.length) 10,<-Nat.mul_assoc]
  exact Nat.mul_le_mul_right _ (by omega)
theorem parse_good:∀(l:List UInt8) (acc:Nat),(∀c∈l,isDig c)->(acc+1)*10 ^ l.length<=1000000000000000000->Lib.parseUint10 acc l= .ok (dval acc l)
 |[],acc,_,_=>rfl
 |c::r,acc,h,hb=>by
  have h2:=h c (by simp)
  unfold isDig at h2
  simp only[List.length_cons]at hb
  have hp:1<=10 ^ r.length:=Nat.pos_of_ne_zero (by simp)
  rw[Nat.pow_succ,Nat.mul_comm (10 ^ r.length) 10,<-Nat.mul_assoc]at hb
  have hb2:(acc+1)*10<=1000000000000000000:=Nat.le_trans (Nat.le_mul_of_pos_right _ hp) hb
  unfold Lib.parseUint10
  rw[if_pos h2,if_neg (by omega),if_neg (by omega),Nat.mul_comm acc 10,dval_cons,dv_eq]
  exact parse_good r _ (λx hx=>h x (by simp[hx])) (Nat.le_trans (Nat.mul_le_mul_right _ (by omega)) hb)
theorem good_atoi {s:List UInt8} (h:GoodDec s):Lib.atoiAll s= .ok (dval 0 s:Nat)/\dval 0 s<1000000000:=by
 obtain⟨hne,hl,hd,_⟩:=h
 have hlt:=dval_lt s 0 hd
 have hp:10 ^ s.length<=10 ^ 9:=Nat.pow_le_pow_right (by omega) hl
 have h9:(10:Nat) ^ 9=1000000000:=by decide
 match s,hne,hd,hlt,hp with
 |c::r,_,hd,hlt,hp=>
  have hc:=hd c (by simp)
  unfold isDig at hc
  unfold Lib.atoiAll
  dsimp only
  rw[if_neg (by omega)]
  unfold Lib.parseMag
  rw[if_neg (by simp),parse_good _ 0 hd (by omega)]
  dsimp only
  rw[if_neg (by omega),if_neg (by omega),if_neg (by omega)]
  exact⟨rfl,by omega⟩
def undecV (s:List UInt8) (v:Value):Prop:=(GoodDec s/\v= .tuple #[.int .i64 (dval 0 s:Nat),.int .i64 0])\/(¬GoodDec s/\v= .tuple #[.int .i64 0,.int .i64 3])
theorem undecV.eq {s:List UInt8} {v v':Value} (h:undecV s v) (h':undecV s v'):v=v':=by
 rcases h with⟨a,b⟩|⟨a,b⟩<;>rcases h' with⟨c,d⟩|⟨c,d⟩
 ·rw[b,d]
 ·exact absurd a c
 ·exact absurd c a
 ·rw[b,d]
theorem undec_is {M:Mem} (hM:NumM M) {s:List UInt8} (h:s.length<=281474976710656) (K:Value->Prop) (hK:∀v,undecV s v->K v):S_quote_Undec s M K:=by
 refine(atoi_is hM h).mono λv M' hl ⟨⟨n,hn,hv⟩,hM'⟩=>?_
 have bad:¬GoodDec s->S_quote_Undec_J1 n true K:=λhb=>⟨λ_=>hK _ (.inr ⟨hb,rfl⟩),λh=>absurd rfl h⟩
 rcases hv with⟨h1,rfl⟩|⟨h1,t,u,rfl⟩
 ·refine⟨n,_,rfl,true,.inl ⟨rfl,rfl⟩,λh=>absurd rfl h,λ_=>⟨λh9=>bad λhg=>?_,λh9=>⟨λh0=>bad λhg=>?_,λh0=>?_⟩⟩⟩
  ·have:=hg.2.1;omega
  ·rw[(good_atoi hg).1]at h1;injection h1 with h1;omega
  ·refine(itoa_is hM' hn).mono λv M'' _ ⟨hv,_⟩=>⟨_,hv,?_⟩
   obtain⟨u,rfl⟩:=Int.eq_ofNat_of_zero_le (show 0<=n by omega)
   have hi:Lib.itoa (u:Int)=Lib.decDigits u:=by unfold Lib.itoa;rw[if_neg (by omega)];rfl
   rw[hi]
   by_cases he:Lib.decDigits u=s
   ·have hg:GoodDec s:=he▸decDigits_good (by rw[he];omega)
    have hvl:dval 0 s=u:=by rw[<-he,decDigits_val]
    refine⟨λhh=>?_,λ_=>hK _ (.inl ⟨hg,by rw[hvl]⟩)⟩
    rw[he]at hh;simp at hh
   ·refine⟨λ_=>hK _ (.inr ⟨λhg=>he ?_,rfl⟩),λhh=>?_⟩
    ·have:=(good_atoi hg).1
     rw[h1]at this;injection this with this
     have hu:u=dval 0 s:=by omega
     rw[hu]
     exact good_eq _ s rfl hg.1 hg.2.2.1 hg.2.2.2
    ·exfalso
     exact hh (mkS_bne.2 he)
 ·refine⟨n,_,rfl,false,.inr ⟨_,_,rfl,rfl⟩,λ_=>bad λhg=>h1 _ (good_atoi hg).1,λhh=>?_⟩
  simp at hh
theorem take_put {l:List UInt8} {i:Nat} {c:UInt8} (h:l[i]?=some c):l.take (i+1)=l.take i++[c]:=by
 rw[List.take_add_one,h];rfl
theorem rundec_is {M:Mem} {s:List UInt8} (hlen:s.length<=9223372036854775807) (K:Value->Prop) (hK:∀v,undecV s v->K v):S_chaffref_Undec s M K:=by
 refine⟨λn x=>∃i:Nat,x=i/\i<=s.length/\i<=9/\n=(dval 0 (s.take i):Nat)/\(∀c∈s.take i,isDig c)/\(2<=i->∀c,s[0]?=some c->c.toNat≠48),λ_ x=>s.length-x.toNat,⟨0,rfl,by omega,by omega,rfl,by simp,λh=>by omega⟩,λn x ⟨i,hx,hi,hi9,hn,hd,h0⟩=>⟨λhlt=>?_,λhge=>?_⟩⟩
 ·subst hx
  obtain⟨c,hc⟩:∃c,s[i]?=some c:=⟨s[i]'(by omega),List.getElem?_eq_getElem _⟩
  have hci:s[((i:Nat):Int).toNat]?=some c:=by simpa using hc
  have hcs:c∈s:=List.mem_of_getElem? hc
  have bad:¬GoodDec s->S_chaffref_Undec_J1 s n i (λn x=>∃i:Nat,x=i/\i<=s.length/\i<=9/\n=(dval 0 (s.take i):Nat)/\(∀c∈s.take i,isDig c)/\(2<=i->∀c,s[0]?=some c->c.toNat≠48)) (λ_ x=>s.length-x.toNat) true K:=λhb=>⟨λ_=>hK _ (.inr ⟨hb,rfl⟩),λh=>absurd rfl h⟩
  refine⟨c,by omega,hci,λh1=>bad λhg=>?_,λh1=>⟨c,by omega,hci,λh2=>bad λhg=>?_,λh2=>⟨λh3=>bad λhg=>?_,λh3=>?_⟩⟩⟩
  ·have:=hg.2.2.1 c hcs;unfold isDig at this;omega
  ·have:=hg.2.2.1 c hcs;unfold isDig at this;omega
  ·have:=hg.2.1;omega
  ·have hdc:isDig c:=by unfold isDig;omega
   have good:(1<=i->∀d,s[0]?=some d->d.toNat≠48)->S_chaffref_Undec_J1 s n i (λn x=>∃i:Nat,x=i/\i<=s.length/\i<=9/\n=(dval 0 (s.take i):Nat)/\(∀c∈s.take i,isDig c)/\(2<=i->∀c,s[0]?=some c->c.toNat≠48)) (λ_ x=>s.length-x.toNat) false K:=λhz=>by
    refine⟨λh=>by simp at h,λ_=>?_⟩
    have hb:=dval_lt (s.take i) 0 hd
    have hp:10 ^ (s.take i).length<=10 ^ 9:=Nat.pow_le_pow_right (by omega) (by rw[List.length_take];omega)
    have h9:(10:Nat) ^ 9=1000000000:=by decide
    have hw:IntKind.wrap .i64 (IntKind.wrap .u8 ((c.toNat:Int)-48))=((c.toNat-48:Nat):Int):=by
     have hc2:=c.toNat_lt
     unfold isDig at hdc
     have k:∀n:Nat,n<10->IntKind.wrap .u8 ((n:Nat):Int)=((n:Nat):Int):=by decide
     rw[show(c.toNat:Int)-48=((c.toNat-48:Nat):Int) by omega,k _ (by omega),wrap_in (by unfold InI;omega)]
    unfold isDig at hdc
    refine⟨by unfold InI;omega,c,by omega,hci,?_⟩
    rw[hw]
    refine⟨by unfold InI;omega,by unfold InI;omega,⟨i+1,by omega,by omega,by omega,?_,?_,λh2=>hz (by omega)⟩,by dsimp only;omega⟩
    ·rw[take_put hc,dval_app,dv_eq];omega
    ·rw[take_put hc]
     intro x hx
     rcases List.mem_append.1 hx with hx|hx
     ·exact hd x hx
     ·simp only[List.mem_singleton]at hx;subst hx;exact hdc
   refine⟨λh4=>?_,λh4=>good λh=>by omega⟩
   obtain⟨d,hd0⟩:∃d,s[0]?=some d:=⟨s[0]'(by omega),List.getElem?_eq_getElem _⟩
   refine⟨d,by omega,by simpa using hd0,?_⟩
   by_cases e:d.toNat=48
   ·rw[show((d.toNat:Int)==(48:Int))=true by simp[e]]
    refine bad λhg=>?_
    have:=hg.2.2.2 d hd0 e;omega
   ·rw[show((d.toNat:Int)==(48:Int))=false by simp;omega]
    exact good λ_ d' hd'=>by rw[hd0]at hd';cases hd';exact e
 ·subst hx
  have hil:i=s.length:=by omega
  subst hil
  rw[List.take_length]at hn hd
  refine⟨λhe=>hK _ (.inr ⟨λhg=>hg.1 he,rfl⟩),λhe=>?_⟩
  subst hn
  refine hK _ (.inl ⟨⟨he,hi9,hd,λc hc h48=>?_⟩,rfl⟩)
  have:=List.length_pos_iff.2 he
  by_cases h2:2<=s.length
  ·exact absurd h48 (h0 h2 c hc)
  ·omega
end Go.Proofs.YtjecddabdlapbaaDoor.core

namespace Go.Proofs.YtjecddabdlapbaaDoor.core
open Go.Gx Go.RowKit Go.ChangeShapes Go.WideShapes Go.ChangeAt
set_option linter.unusedVariables false
theorem slIndexByte_is (s:List UInt8) (c:UInt8) (M:Mem) (K:Value->Prop) (h:K (.int .i64 (idxB s c.toNat))):S_internal_stringslite_IndexByte s (c.toNat:Int) M K:=h
theorem indexByte_is (s:List UInt8) (c:UInt8) (M:Mem) (K:Value->Prop) (h:K (.int .i64 (idxB s c.toNat))):S_strings_IndexByte s (c.toNat:Int) M K:=
 s_internal_stringslite_IndexByte _ _ _ _ (slIndexByte_is s c _ _ ⟨_,rfl,h⟩)
theorem idxB_mem (s:List UInt8) (c:UInt8):decide (idxB s c.toNat>=0)=decide (c∈s):=by
 rcases idxB_cases s c with⟨h,hn⟩|⟨i,h,hi,_⟩
 ·rw[h]
  have:¬c∈s:=λhm=>by
   obtain⟨j,hj⟩:=List.mem_iff_getElem?.1 hm
   exact hn j c hj rfl
  simp[this]
 ·rw[h]
  have:=List.mem_of_getElem? hi
  simp[this]
theorem slIndex1_is (s:List UInt8) (c:UInt8) (M:Mem) (K:Value->Prop) (h:∀z:Int,decide (z>=0)=decide (c∈s)->(z=idxB s c.toNat)->K (.int .i64 z)):S_internal_stringslite_Index s [c] M K:=by
 have j1:∀b:Bool,b=((mkS [c]).toList==(mkS s).toList)->S_internal_stringslite_Index_J1 s [c] M b K:=by
  intro b hb
  refine⟨λe=>?_,λe=>⟨λ_=>⟨c,by omega,rfl,?_⟩,λh=>absurd rfl h⟩⟩
  ·rw[e]at hb
   have:[c]=s:=mkS_beq.1 hb.symm
   subst this
   refine h 0 (by simp) ?_
   rcases idxB_cases [c] c with⟨_,hn⟩|⟨i,h1,hi,_⟩
   ·exact absurd rfl (hn 0 c rfl)
   ·have:=(List.getElem?_eq_some_iff.1 hi).1
    simp at this
    subst this
    rw[h1];rfl
  ·exact s_internal_stringslite_IndexByte _ _ _ _ (slIndexByte_is s c _ _ ⟨_,rfl,h _ (idxB_mem s c) rfl⟩)
 exact⟨λh=>by simp at h,λ_=>j1 _ rfl⟩
theorem index1_is (s:List UInt8) (c:UInt8) (M:Mem) (K:Value->Prop) (h:∀z:Int,decide (z>=0)=decide (c∈s)->(z=idxB s c.toNat)->K (.int .i64 z)):S_strings_Index s [c] M K:=
 s_internal_stringslite_Index _ _ _ _ (slIndex1_is s c _ _ λz hz hz2=>⟨_,rfl,h z hz hz2⟩)
theorem contains1_is (s:List UInt8) (c:UInt8) (M:Mem) (K:Value->Prop) (h:K (.bool (decide (c∈s)))):S_strings_Contains s [c] M K:=
 s_strings_Index _ _ _ _ (index1_is s c _ _ λz hz _=>⟨_,rfl,by rw[hz];exact h⟩)
end Go.Proofs.YtjecddabdlapbaaDoor.core

namespace Go.Proofs.YtjecddabdlapbaaDoor.core
open Go.Gx Go.RowKit Go.ChangeShapes Go.WideShapes Go.ChangeAt
set_option linter.unusedVariables false
abbrev hexL:List UInt8:=[48,49,50,51,52,53,54,55,56,57,97,98,99,100,101,102]
def hexV (c:UInt8):Int:=idxB hexL c.toNat
theorem hexV_lt (c:UInt8):hexV c<=15:=by
 unfold hexV
 rcases idxB_cases hexL c with⟨h,_⟩|⟨i,h,hi,_⟩
 ·rw[h];omega
 ·have:=(List.getElem?_eq_some_iff.1 hi).1
  simp at this
  rw[h];omega
theorem hexV_ge (c:UInt8): -1<=hexV c:=by
 unfold hexV
 rcases idxB_cases hexL c with⟨h,_⟩|⟨i,h,hi,_⟩<;>rw[h]<;>omega
theorem hex_add:∀a:Nat,a<16->∀b:Nat,b<16->IntKind.wrap .u8 (bOr .i64 (bShl .i64 (a:Int) 4) (b:Int))=((16*a+b:Nat):Int):=by decide+kernel
def saidP (signs:List UInt8) (s:List UInt8):Int×Int:=
 match s with
 |[]=>(0,0)
 |c::r=>if c.toNat=10 then(0,0) else if c.toNat≠92 then(c.toNat,1) else match r with
  |[]=>(0,0)
  |d::t=>if d.toNat=110 then(10,2) else if d.toNat=116 then(9,2) else if d∈signs then(d.toNat,2) else if d.toNat=120 then(match t with
   |a::b::_=>if hexV a>=0/\hexV b>=0 then(16*hexV a+hexV b,4) else(0,0)
   |_=>(0,0)) else(0,0)
theorem saidP_cons (signs:List UInt8) (c:UInt8) (r:List UInt8):saidP signs (c::r)=if c.toNat=10 then((0,0):Int×Int) else if c.toNat≠92 then((c.toNat:Int),1) else match r with
  |[]=>(0,0)
  |d::t=>if d.toNat=110 then(10,2) else if d.toNat=116 then(9,2) else if d∈signs then(d.toNat,2) else if d.toNat=120 then(match t with
   |a::b::_=>if hexV a>=0/\hexV b>=0 then(16*hexV a+hexV b,4) else(0,0)
   |_=>(0,0)) else(0,0):=rfl
theorem saidP_two (signs:List UInt8) (c d:UInt8) (t:List UInt8) (h:c.toNat=92):saidP signs (c::d::t)=if d.toNat=110 then((10,2):Int×Int) else if d.toNat=116 then(9,2) else if d∈signs then((d.toNat:Int),2) else if d.toNat=120 then(match t with
   |a::b::_=>if hexV a>=0/\hexV b>=0 then(16*hexV a+hexV b,4) else(0,0)
   |_=>(0,0)) else(0,0):=by
 have:=saidP_cons signs c (d::t)
 rw[if_neg (show ¬c.toNat=10 by omega),if_neg (show ¬c.toNat≠92 by omega)]at this
 exact this
theorem saidP_ok (signs s:List UInt8):0<=(saidP signs s).1/\(saidP signs s).1<256/\0<=(saidP signs s).2/\(saidP signs s).2<=s.length/\(saidP signs s).2<=4:=by
 unfold saidP
 split
 ·simp
 ·rename_i c r
  have hc:=c.toNat_lt
  split
  ·simp;omega
  split
  ·simp only[List.length_cons];omega
  split
  ·simp only[List.length_cons,List.length_nil];omega
  ·rename_i d t
   have hd:=d.toNat_lt
   split
   ·simp only[List.length_cons];omega
   split
   ·simp only[List.length_cons];omega
   split
   ·simp only[List.length_cons];omega
   split
   ·split
    ·rename_i a b _
     have:=hexV_lt a
     have:=hexV_lt b
     split
     ·simp only[List.length_cons];omega
     ·simp only[List.length_cons];omega
    ·simp only[List.length_cons];omega
   ·simp only[List.length_cons];omega
theorem qnext_is (s signs:List UInt8) (hne:s≠[]) (hs:(120:UInt8)∉signs) (M:Mem) (K:Value->Prop) (h:K (.tuple #[.int .u8 (saidP signs s).1,.int .i64 (saidP signs s).2])):S_quote_next s signs M K:=by
 have key:∀p:Int×Int,p=saidP signs s->K (.tuple #[.int .u8 p.1,.int .i64 p.2]):=λp e=>e▸h
 obtain⟨c,r,rfl⟩:=List.exists_cons_of_ne_nil hne
 unfold S_quote_next
 refine⟨c,by omega,rfl,λn92=>⟨c,by omega,rfl,λh10=>key (0,0) ?_,λn10=>⟨c,by omega,rfl,key (c.toNat,1) ?_⟩⟩,λh92=>⟨λhl=>key (0,0) ?_,λhl=>?_⟩⟩
 ·rw[saidP_cons,if_pos (by omega)]
 ·rw[saidP_cons,if_neg (by omega),if_pos (by omega)]
 ·have:r=[]:=by cases r with
   |nil=>rfl
   |cons _ _=>simp only[List.length_cons]at hl;omega
  subst this
  rw[saidP_cons]
  simp only[if_neg (show ¬c.toNat=10 by omega),if_neg (show ¬c.toNat≠92 by omega)]
 obtain⟨d,t,rfl⟩:∃d t,r=d::t:=by
  cases r with
  |nil=>simp only[List.length_cons,List.length_nil]at hl;omega
  |cons d t=>exact⟨d,t,rfl⟩
 have hP:=saidP_two signs c d t (by omega)
 refine⟨d,by omega,rfl,λq=>key (10,2) ?_,λn110=>⟨λq=>key (9,2) ?_,λn116=>?_⟩⟩
 ·rw[hP,if_pos (by omega)]
 ·rw[hP,if_neg (by omega),if_pos (by omega)]
 rw[if_neg (by omega),if_neg (by omega)]at hP
 have hm:=idxB_mem signs d
 refine s_strings_IndexByte _ _ _ _ (indexByte_is signs d _ _ ⟨_,rfl,λhi=>key (d.toNat,2) ?_,λhi=>?_⟩)
 ·rw[decide_eq_true hi]at hm
  rw[hP,if_pos (of_decide_eq_true hm.symm)]
 rw[decide_eq_false hi]at hm
 rw[if_neg (of_decide_eq_false hm.symm)]at hP
 have j1:∀b:Bool,b=decide (d.toNat=120/\2<=t.length)->S_quote_next_J1 (c::d::t) M b K:=by
  intro b hb
  refine⟨λe=>?_,λe=>key (0,0) ?_⟩
  ·obtain⟨h120,h2⟩:d.toNat=120/\2<=t.length:=by rw[e]at hb;exact of_decide_eq_true hb.symm
   obtain⟨x,y,u,rfl⟩:∃x y u,t=x::y::u:=by
    match t,h2 with
    |x::y::u,_=>exact⟨x,y,u,rfl⟩
   rw[if_pos h120]at hP
   simp only at hP
   refine⟨x,by omega,rfl,y,by omega,rfl,s_strings_IndexByte _ _ _ _ (indexByte_is hexL x _ _ ⟨_,rfl,s_strings_IndexByte _ _ _ _ (indexByte_is hexL y _ _ ⟨_,rfl,?_⟩)⟩)⟩
   have hx1:=hexV_lt x
   have hy1:=hexV_lt y
   have j2:∀b:Bool,b=decide (hexV x>=0/\hexV y>=0)->S_quote_next_J2 (hexV x) (hexV y) b K:=by
    intro b hb
    refine⟨λe=>?_,λe=>key (0,0) ?_⟩
    ·have hq:hexV x>=0/\hexV y>=0:=by rw[e]at hb;exact of_decide_eq_true hb.symm
     rw[if_pos hq]at hP
     have:=hex_add (hexV x).toNat (by omega) (hexV y).toNat (by omega)
     rw[show(((hexV x).toNat:Nat):Int)=hexV x by omega,show(((hexV y).toNat:Nat):Int)=hexV y by omega]at this
     rw[this]
     have e2:((16*(hexV x).toNat+(hexV y).toNat:Nat):Int)=16*hexV x+hexV y:=by omega
     rw[e2]
     exact key (16*hexV x+hexV y,4) hP.symm
    ·have hq:¬(hexV x>=0/\hexV y>=0):=λq=>e (by rw[hb];exact decide_eq_true q)
     rw[if_neg hq]at hP;exact hP.symm
   refine⟨λh1=>j2 _ ?_,λh1=>j2 _ ?_⟩
   ·have h1:hexV x>=0:=h1
    have e3:idxB hexL y.toNat=hexV y:=rfl
    rw[e3,Bool.eq_iff_iff];simp;omega
   ·rw[eq_comm,decide_eq_false_iff_not];exact λq=>h1 q.1
  ·have hq:¬(d.toNat=120/\2<=t.length):=λq=>e (by rw[hb];exact decide_eq_true q)
   by_cases h120:d.toNat=120
   ·rw[if_pos h120]at hP
    rcases t with _|⟨x,_|⟨y,u⟩⟩
    ·exact hP.symm
    ·exact hP.symm
    ·exact absurd ⟨h120,by simp⟩ hq
   ·rw[if_neg h120]at hP;exact hP.symm
 refine⟨λq=>j1 _ (by rw[Bool.eq_iff_iff];simp;omega),λq=>j1 _ (by rw[eq_comm,decide_eq_false_iff_not];omega)⟩
theorem value_is (c:UInt8) (M:Mem) (K:Value->Prop) (h:K (.int .i64 (hexV c))):S_chaffref_value (c.toNat:Int) M K:=
 ⟨[c],rfl,s_strings_Index _ _ _ _ (index1_is hexL c _ _ λz _ hz=>⟨_,rfl,by rw[hz];exact h⟩)⟩
theorem wrapB (b:UInt8):IntKind.wrap .u8 (b.toNat:Int)=(b.toNat:Int):=by
 have:=b.toNat_lt
 simp only[IntKind.wrap,IntKind.bits,IntKind.signed,Bool.false_and,Bool.false_eq_true,if_false]
 omega
theorem wrapI (b:UInt8):IntKind.wrap .i64 (b.toNat:Int)=(b.toNat:Int):=wrap_in (by have:=b.toNat_lt;unfold InI;omega)
theorem said_is (s signs:List UInt8) (hs:(120:UInt8)∉signs/\(110:UInt8)∉signs/\(116:UInt8)∉signs) (ha:∀c∈signs,c.toNat<128) (M:Mem) (K:Value->Prop) (h:K (.tuple #[.int .i64 (saidP signs s).1,.int .i64 (saidP signs s).2])):S_chaffref_said s signs M K:=by
 have key:∀p:Int×Int,p=saidP signs s->K (.tuple #[.int .i64 p.1,.int .i64 p.2]):=λp e=>e▸h
 have j1:∀b:Bool,(b=true->saidP signs s=(0,0))->(b=false->∃c r,s=c::r/\c.toNat≠10)->S_chaffref_said_J1 s signs M b K:=by
  intro b h1 h2
  refine⟨λe=>key (0,0) (h1 e).symm,λe=>?_⟩
  obtain⟨c,r,rfl,n10⟩:=h2 (by simpa using e)
  refine⟨c,by omega,rfl,λn92=>⟨c,by omega,rfl,?_⟩,λh92=>⟨λhl=>key (0,0) ?_,λhl=>?_⟩⟩
  ·rw[wrapI]
   refine key (c.toNat,1) ?_
   rw[saidP_cons,if_neg n10,if_pos (by omega)]
  ·have:r=[]:=by cases r with
    |nil=>rfl
    |cons _ _=>simp only[List.length_cons]at hl;omega
   subst this
   rw[saidP_cons]
   simp only[if_neg n10,if_neg (show ¬c.toNat≠92 by omega)]
  obtain⟨d,t,rfl⟩:∃d t,r=d::t:=by
   cases r with
   |nil=>simp only[List.length_cons,List.length_nil]at hl;omega
   |cons d t=>exact⟨d,t,rfl⟩
  have hP:=saidP_two signs c d t (by omega)
  refine⟨d,by omega,rfl,λq=>key (10,2) ?_,λn110=>⟨d,by omega,rfl,λq=>key (9,2) ?_,λn116=>⟨d,by omega,rfl,λq=>?_,λn120=>?_⟩⟩⟩
  ·rw[hP,if_pos (by omega)]
  ·rw[hP,if_neg (by omega),if_pos (by omega)]
  ·have hd:d=120:=UInt8.toNat_inj.1 (by show d.toNat=120;omega)
   have hnm:d∉signs:=by rw[hd];exact hs.1
   rw[if_neg (by omega),if_neg (by omega),if_neg hnm,if_pos (by omega)]at hP
   have j2t:saidP signs (c::d::t)=(0,0)->S_chaffref_said_J2 (c::d::t) M true K:=λe=>⟨λ_=>key (0,0) e.symm,λh=>absurd rfl h⟩
   refine⟨λhl2=>j2t ?_,λhl2=>?_⟩
   ·rcases t with _|⟨x,_|⟨y,u⟩⟩
    ·exact hP
    ·exact hP
    ·simp only[List.length_cons]at hl2;omega
   obtain⟨x,y,u,rfl⟩:∃x y u,t=x::y::u:=by
    rcases t with _|⟨x,_|⟨y,u⟩⟩
    ·simp only[List.length_cons,List.length_nil]at hl2;omega
    ·simp only[List.length_cons,List.length_nil]at hl2;omega
    ·exact⟨x,y,u,rfl⟩
   simp only at hP
   have hx1:=hexV_lt x
   have hy1:=hexV_lt y
   have hx2:=hexV_ge x
   have hy2:=hexV_ge y
   refine⟨x,by omega,rfl,s_chaffref_value _ _ _ (value_is x _ _ ⟨_,rfl,λhx=>j2t ?_,λhx=>⟨y,by omega,rfl,s_chaffref_value _ _ _ (value_is y _ _ ⟨_,rfl,?_⟩)⟩⟩)⟩
   ·rw[hP,if_neg (by omega)]
   ·refine⟨λe=>?_,λe=>⟨x,by omega,rfl,y,by omega,rfl,s_chaffref_value _ _ _ (value_is x _ _ ⟨_,rfl,by unfold InI;omega,s_chaffref_value _ _ _ (value_is y _ _ ⟨_,rfl,by unfold InI;omega,key (16*hexV x+hexV y,4) ?_⟩)⟩)⟩⟩
    ·have:hexV y<0:=of_decide_eq_true e
     refine key (0,0) ?_
     rw[hP,if_neg (by omega)]
    ·have:¬hexV y<0:=λq=>e (decide_eq_true q)
     rw[hP,if_pos (by omega)]
  ·rw[if_neg (by omega),if_neg (by omega),if_neg (show ¬d.toNat=120 by omega)]at hP
   have ecut:(((c::d::t).take (2:Int).toNat).drop (1:Int).toNat)=[d]:=rfl
   rw[ecut]
   refine⟨by omega,by omega,by simp only[List.length_cons];omega,s_strings_Contains _ _ _ _ (contains1_is signs d _ _ ⟨_,rfl,λhi=>⟨d,by omega,rfl,?_⟩,λhi=>?_⟩)⟩
   ·have hm:d∈signs:=of_decide_eq_true hi
    have:=ha d hm
    refine⟨λ_=>⟨d,by omega,rfl,?_⟩,λh=>absurd (decide_eq_true (by omega)) h⟩
    rw[wrapI]
    exact key (d.toNat,2) (by rw[hP,if_pos hm])
   ·have hi:decide (d∈signs)=false:=by simpa using hi
    refine⟨λh=>(by cases h),λ_=>key (0,0) ?_⟩
    rw[hP,if_neg (of_decide_eq_false hi)]
 refine⟨λe=>j1 _ (λ_=>by subst e;rfl) (λh=>by cases h),λhne=>?_⟩
 obtain⟨c,r,rfl⟩:=List.exists_cons_of_ne_nil hne
 refine⟨c,by omega,rfl,j1 _ (λhb=>?_) (λhb=>⟨c,r,rfl,?_⟩)⟩
 ·have:(c.toNat:Int)=10:=by simpa using hb
  rw[saidP_cons,if_pos (by omega)]
 ·have:¬(c.toNat:Int)=10:=by simpa using hb
  omega
end Go.Proofs.YtjecddabdlapbaaDoor.core

namespace Go.Proofs.YtjecddabdlapbaaDoor.core
open Go.Gx Go.RowKit Go.ChangeShapes Go.WideShapes Go.ChangeAt
set_option linter.unusedVariables false
end Go.Proofs.YtjecddabdlapbaaDoor.core

namespace Go.Proofs.YtjecddabdlapbaaDoor.core
open Go.Gx Go.RowKit Go.ChangeShapes Go.WideShapes Go.ChangeAt
set_option linter.unusedVariables false
def unlG (q:UInt8) (r:List UInt8) (i:Int) (out:List UInt8):List UInt8×Int×Int:=
 match r with
 |[]=>([],0,4)
 |c::t=>if c=q then(out,i+1,0) else if (saidP [39,34,92] (c::t)).2=0 then([],0,4)
  else unlG q ((c::t).drop ((saidP [39,34,92] (c::t)).2.toNat-1+1)) (i+(saidP [39,34,92] (c::t)).2) (out++[(saidP [39,34,92] (c::t)).1.toNat.toUInt8])
termination_by r.length
decreasing_by simp only[List.length_drop,List.length_cons];omega
def unlitP (s:List UInt8):List UInt8×Int×Int:=
 match s with
 |[]=>([],0,4)
 |q::r=>if q.toNat≠39/\q.toNat≠34 then([],0,4) else unlG q r 1 []
theorem unlitP_cons (q:UInt8) (r:List UInt8):unlitP (q::r)=if q.toNat≠39/\q.toNat≠34 then(([]:List UInt8),(0:Int),(4:Int)) else unlG q r 1 []:=rfl
theorem said_perm (s:List UInt8):saidP [92,39,34] s=saidP [39,34,92] s:=by
 unfold saidP
 have:∀d:UInt8,(d∈[92,39,34])=(d∈[39,34,92]):=λd=>by simp only[List.mem_cons,List.not_mem_nil,or_false];exact propext ⟨λh=>by rcases h with h|h|h<;>simp[h],λh=>by rcases h with h|h|h<;>simp[h]⟩
 split
 ·rfl
 ·split
  ·rfl
  ·split
   ·rfl
   ·split
    ·rfl
    ·simp only[this]
def outT (r:List UInt8×Int×Int):Value:=.tuple #[.string (mkS r.1),.int .i64 r.2.1,.int .i64 r.2.2]
theorem take_allL (s:List UInt8):s.take ((s.length:Nat):Int).toNat=s:=by rw[Int.toNat_natCast,List.take_length]
theorem qunlit_is (s:List UInt8) (hl:s.length<=140737488355328) (M:Mem) (K:Value->Prop) (h:K (outT (unlitP s))):S_quote_Unlit s M K:=by
 have j1:∀b:Bool,(b=true->unlitP s=([],0,4))->(b=false->∃q r,s=q::r/\¬(q.toNat≠39/\q.toNat≠34))->S_quote_Unlit_J1 s M b K:=by
  intro b h1 h2
  refine⟨λe=>by rw[h1 e]at h;exact h,λe=>?_⟩
  obtain⟨q,r,rfl,hq⟩:=h2 (by simpa using e)
  have hU:unlitP (q::r)=unlG q r 1 []:=by rw[unlitP_cons,if_neg hq]
  rw[hU]at h
  have hl0:(q::r).length=r.length+1:=rfl
  refine⟨λi n rx=>∃out:List UInt8,1<=i/\i<=(q::r).length/\n=out.length/\rx=bytesV out/\(out.length:Int)<=i/\unlG q ((q::r).drop i.toNat) i out=unlG q r 1 [],λi _ _=>(q::r).length-i.toNat,⟨[],by omega,by omega,rfl,rfl,by simp,rfl⟩,?_⟩
  rintro i n rx ⟨out,h0,hi,rfl,rfl,hol,hrun⟩
  refine⟨λhlt=>?_,λhge=>?_⟩
  ·obtain⟨c,hc⟩:=getI (l:=q::r) (by omega) hlt
   rw[drop_get hc,unlG]at hrun
   refine⟨c,by omega,hc,q,by omega,rfl,λe=>⟨out,rfl,by unfold InI;omega,?_⟩,λhne=>⟨by omega,by omega,by omega,?_⟩⟩
   ·rw[if_pos (UInt8.toNat_inj.1 (by omega))]at hrun
    rw[<-hrun]at h;exact h
   ·have hne':¬c=q:=λe=>hne (by rw[e])
    rw[if_neg hne']at hrun
    rw[take_allL]
    have hdr:=drop_get hc
    have hok:=saidP_ok [39,34,92] ((q::r).drop i.toNat)
    rw[List.length_drop]at hok
    rw[<-hdr]at hrun
    refine s_quote_next _ _ _ _ (qnext_is _ [39,34,92] (by rw[hdr];simp) (by decide) _ _ ⟨_,_,rfl,λhz=>?_,λhz=>⟨by omega,by unfold InI;omega,⟨out++[(saidP [39,34,92] ((q::r).drop i.toNat)).1.toNat.toUInt8],by omega,by omega,by simp,?_,?_,?_⟩,by dsimp only;omega⟩⟩)
    ·rw[if_pos hz]at hrun
     rw[<-hrun]at h;exact h
    ·have hb:(((saidP [39,34,92] ((q::r).drop i.toNat)).1.toNat.toUInt8.toNat:Nat):Int)=(saidP [39,34,92] ((q::r).drop i.toNat)).1:=by
      rw[Nat.toUInt8,UInt8.toNat_ofNat']
      omega
     show bytesV out++[Value.int .u8 _]=bytesV (out++[_])
     unfold bytesV
     rw[List.map_append,List.map_singleton,hb]
    ·simp only[List.length_append,List.length_cons,List.length_nil];omega
    ·rw[if_neg hz]at hrun
     rw[List.drop_drop]at hrun
     rw[<-hrun]
     congr 2
     omega
  ·have:i.toNat=(q::r).length:=by omega
   rw[this,List.drop_length,unlG]at hrun
   rw[<-hrun]at h;exact h
 refine⟨λe=>j1 _ (λ_=>by subst e;rfl) (λh=>by cases h),λhne=>?_⟩
 obtain⟨q,r,rfl⟩:=List.exists_cons_of_ne_nil hne
 refine⟨q,by omega,rfl,λn39=>⟨q,by omega,rfl,j1 _ (λhb=>?_) (λhb=>⟨q,r,rfl,?_⟩)⟩,λh39=>j1 _ (λh=>by cases h) (λ_=>⟨q,r,rfl,by omega⟩)⟩
 ·have:¬(q.toNat:Int)=34:=by simpa using hb
  rw[unlitP_cons,if_pos ⟨by omega,by omega⟩]
 ·have:(q.toNat:Int)=34:=by simpa using hb
  omega
theorem runlit_is (s:List UInt8) (hl:s.length<=140737488355328) (M:Mem) (K:Value->Prop) (h:K (outT (unlitP s))):S_chaffref_Unlit s M K:=by
 have j1:∀b:Bool,(b=true->unlitP s=([],0,4))->(b=false->∃q r,s=q::r/\¬(q.toNat≠39/\q.toNat≠34))->S_chaffref_Unlit_J1 s M b K:=by
  intro b h1 h2
  refine⟨λe=>by rw[h1 e]at h;exact h,λe=>?_⟩
  obtain⟨q,r,rfl,hq⟩:=h2 (by simpa using e)
  have hU:unlitP (q::r)=unlG q r 1 []:=by rw[unlitP_cons,if_neg hq]
  rw[hU]at h
  have hl0:(q::r).length=r.length+1:=rfl
  let I:List UInt8->Int->Prop:=λout i=>1<=i/\i<=(q::r).length/\(out.length:Int)<=i/\unlG q ((q::r).drop i.toNat) i out=unlG q r 1 []
  let mu:List UInt8->Int->Nat:=λ_ i=>(q::r).length-i.toNat
  refine⟨I,mu,⟨by omega,by omega,by simp,rfl⟩,?_⟩
  rintro out i ⟨h0,hi,hol,hrun⟩
  have j2:∀b:Bool,(b=true->∃c,(q::r)[i.toNat]?=some c/\c≠q)->(b=false->(q::r).length<=i.toNat\/(q::r)[i.toNat]?=some q)->S_chaffref_Unlit_J2 (q::r) M out i I mu b K:=by
   intro b g1 g2
   refine⟨λe=>?_,λe=>⟨λhge=>?_,λhlt=>⟨by unfold InI;omega,?_⟩⟩⟩
   ·obtain⟨c,hc,hne⟩:=g1 e
    have hlt:=(List.getElem?_eq_some_iff.1 hc).1
    have hdr:=drop_get hc
    rw[hdr,unlG,if_neg hne,<-hdr]at hrun
    have hok:=saidP_ok [39,34,92] ((q::r).drop i.toNat)
    rw[List.length_drop]at hok
    rw[take_allL]
    refine⟨by omega,by omega,by omega,s_chaffref_said _ _ _ _ (said_is _ [92,39,34] (by decide) (by decide) _ _ ?_)⟩
    rw[said_perm]
    refine⟨_,_,rfl,λhz=>?_,λhz=>⟨[(saidP [39,34,92] ((q::r).drop i.toNat)).1.toNat.toUInt8],?_,by simp only[List.length_cons,List.length_nil];omega,by unfold InI;omega,⟨by omega,by omega,by simp only[List.length_append,List.length_cons,List.length_nil];omega,?_⟩,by show(q::r).length-_<(q::r).length-_;omega⟩⟩
    ·rw[if_pos hz]at hrun
     rw[<-hrun]at h;exact h
    ·have hb:(((saidP [39,34,92] ((q::r).drop i.toNat)).1.toNat.toUInt8.toNat:Nat):Int)=(saidP [39,34,92] ((q::r).drop i.toNat)).1:=by
      rw[Nat.toUInt8,UInt8.toNat_ofNat']
      omega
     have hw:=wrapB (saidP [39,34,92] ((q::r).drop i.toNat)).1.toNat.toUInt8
     rw[hb]at hw
     rw[hw,bytesV,List.map_singleton,hb]
    ·rw[if_neg hz,List.drop_drop]at hrun
     rw[<-hrun]
     congr 2
     omega
   ·have:i.toNat=(q::r).length:=by omega
    rw[this,List.drop_length,unlG]at hrun
    rw[<-hrun]at h;exact h
   ·rcases g2 (by simpa using e)with hge|hc
    ·omega
    ·rw[drop_get hc,unlG,if_pos rfl]at hrun
     rw[<-hrun]at h;exact h
  refine⟨λhlt=>?_,λhge=>j2 _ (λh=>by cases h) (λ_=>.inl (by omega))⟩
  obtain⟨c,hc⟩:=getI (l:=q::r) (by omega) hlt
  refine⟨c,by omega,hc,q,by omega,rfl,j2 _ (λhb=>⟨c,hc,λe=>?_⟩) (λhb=>.inr ?_)⟩
  ·rw[e]at hb;simp at hb
  ·have:(c.toNat:Int)=q.toNat:=by simpa using hb
   rw[hc];congr 1;exact UInt8.toNat_inj.1 (by omega)
 refine⟨λe=>j1 _ (λ_=>by subst e;rfl) (λh=>by cases h),λhne=>?_⟩
 obtain⟨q,r,rfl⟩:=List.exists_cons_of_ne_nil hne
 refine⟨q,by omega,rfl,λn39=>⟨q,by omega,rfl,j1 _ (λhb=>?_) (λhb=>⟨q,r,rfl,?_⟩)⟩,λh39=>j1 _ (λh=>by cases h) (λ_=>⟨q,r,rfl,by omega⟩)⟩
 ·have:¬(q.toNat:Int)=34:=by simpa using hb
  rw[unlitP_cons,if_pos ⟨by omega,by omega⟩]
 ·have:(q.toNat:Int)=34:=by simpa using hb
  omega
end Go.Proofs.YtjecddabdlapbaaDoor.core

namespace Go.Proofs.YtjecddabdlapbaaDoor.core
open Go.Gx Go.RowKit Go.ChangeShapes Go.WideShapes Go.ChangeAt
set_option linter.unusedVariables false
end Go.Proofs.YtjecddabdlapbaaDoor.core

namespace Go.Proofs.YtjecddabdlapbaaDoor.core
open Go.Gx Go.RowKit Go.ChangeShapes Go.WideShapes Go.ChangeAt
set_option linter.unusedVariables false
end Go.Proofs.YtjecddabdlapbaaDoor.core

namespace Go.Proofs.YtjecddabdlapbaaDoor.core
open Go.Gx Go.RowKit Go.ChangeShapes Go.WideShapes Go.ChangeAt
set_option linter.unusedVariables false
theorem take_full {α:Type} (l:List α):l.take ((l.length:Nat):Int).toNat=l:=by simp
theorem split_at {s:List UInt8} {i:Nat} {c:UInt8} (h:s[i]?=some c):s=s.take i++c::s.drop (i+1):=by
 obtain⟨hi,rfl⟩:=List.getElem?_eq_some_iff.1 h
 rw[<-List.drop_eq_getElem_cons hi,List.take_append_drop]
theorem scount_is {s:List UInt8} {M:Mem} (K:Value->Prop) (hK:K (.int .i64 (s.count 10:Nat))):S_strings_Count s [10] M K:=by
 unfold S_strings_Count
 refine⟨λh=>by simp at h,λ_=>⟨λ_=>⟨10,by omega,rfl,hK⟩,λh=>by simp at h⟩⟩
theorem sindex_is {s:List UInt8} {M:Mem} (K:Value->Prop) (hK:K (.int .i64 (idxB s 10))):S_strings_Index s [10] M K:=by
 unfold S_strings_Index
 refine s_internal_stringslite_Index _ _ _ _ ?_
 unfold S_internal_stringslite_Index
 refine⟨λh=>by simp at h,λ_=>?_⟩
 unfold S_internal_stringslite_Index_J1
 refine⟨λh=>⟨_,rfl,?_⟩,λh=>⟨λ_=>⟨10,by omega,rfl,s_internal_stringslite_IndexByte _ _ _ _ ⟨_,rfl,⟨_,rfl,hK⟩⟩⟩,λh=>by simp at h⟩⟩
 have e:[10]=s:=mkS_beq.1 h
 subst e
 exact hK
def splitB (c:UInt8):List UInt8->List (List UInt8)
 |[]=>[[]]
 |b::r=>if b=c then[]::splitB c r else match splitB c r with
  |[]=>[[b]]
  |h::t=>(b::h)::t
theorem splitB_none {c:UInt8}:∀{l:List UInt8},(∀x∈l,x≠c)->splitB c l=[l]
 |[],_=>rfl
 |b::r,h=>by rw[splitB,if_neg (h b (by simp)),splitB_none λx hx=>h x (by simp[hx])]
theorem splitB_app {c:UInt8} {r:List UInt8}:∀{l:List UInt8},(∀x∈l,x≠c)->splitB c (l++c::r)=l::splitB c r
 |[],_=>by rw[List.nil_append,splitB,if_pos rfl]
 |b::l,h=>by rw[List.cons_append,splitB,if_neg (h b (by simp)),splitB_app λx hx=>h x (by simp[hx])]
theorem splitB_len (c:UInt8):∀l:List UInt8,(splitB c l).length=l.count c+1
 |[]=>rfl
 |b::r=>by
  have ih:=splitB_len c r
  rw[splitB]
  split
  ·rename_i h;subst h;simp[ih]
  ·rename_i h
   have e:(b::r).count c=r.count c:=List.count_cons_of_ne h
   rw[e,<-ih]
   cases hs:splitB c r with
   |nil=>rw[hs]at ih;simp at ih
   |cons x t=>simp
theorem splitB_lens (c:UInt8):∀(l:List UInt8),∀x∈splitB c l,x.length<=l.length
 |[],x,hx=>by simp[splitB]at hx;simp[hx]
 |b::r,x,hx=>by
  have ih:=splitB_lens c r
  rw[splitB]at hx
  split at hx
  ·rcases List.mem_cons.1 hx with rfl|hx
   ·simp
   ·have:=ih x hx;simp;omega
  ·cases hs:splitB c r with
   |nil=>rw[hs]at hx;simp at hx;simp[hx]
   |cons h t=>
    rw[hs]at hx ih
    rcases List.mem_cons.1 hx with rfl|hx
    ·have:=ih h (by simp);simp;omega
    ·have:=ih x (by simp[hx]);simp;omega
theorem sC1:∀x:List UInt8,(sC x).length=1:=λ_=>rfl
theorem repl_sC (n:Nat):repl n [Value.string (mkS [])]=cl sC (List.replicate n []):=by
 unfold repl cl
 rw[List.map_replicate]
theorem split_is {s:List UInt8} (hs:s.length<=1048576) {M:Mem} (K:Value->Mem->Prop) (hK:∀M' A c,M.le M'->SlV M' A (splitB 10 s).length c 1 (cl sC (splitB 10 s))->K (.slice A (splitB 10 s).length c) M'):S_strings_Split s [10] M K:=by
 unfold S_strings_Split
 have hlen:=splitB_len 10 s
 have hcnt:s.count 10<=s.length:=List.count_le_length
 refine s_strings_genSplit _ _ _ _ _ _ ?_
 unfold S_strings_genSplit
 refine⟨λh=>by simp at h,λ_=>⟨λh=>by simp at h,λ_=>⟨λ_=>?_,λh=>absurd (by decide) h⟩⟩⟩
 refine s_strings_Count _ _ _ _ (scount_is _ ⟨_,rfl,by unfold InI;omega,?_⟩)
 unfold S_strings_genSplit_J1
 obtain⟨N,hN⟩:∃N:Nat,N=(splitB 10 s).length:=⟨_,rfl⟩
 have hif:(if ((s.length:Nat):Int)+1<((s.count 10:Nat):Int)+1 then((s.length:Nat):Int)+1 else((s.count 10:Nat):Int)+1)=(N:Int):=by split<;>omega
 rw[hif]
 rw[<-hN]at hlen hK
 have hN0:0<N:=by omega
 refine⟨by unfold InI;omega,by omega,by omega,by omega,by unfold InI;omega,?_⟩
 rw[show(N:Int).toNat=N from rfl,repl_sC]
 refine⟨λrest i rn rx=>∃dn:List (List UInt8),splitB 10 s=dn++splitB 10 rest/\i=dn.length/\N=rn/\rx=cl sC (dn++List.replicate (N-dn.length) [])/\rest.length<=s.length,λ_ i _ _=>(N-i).toNat,⟨[],rfl,rfl,rfl,by simp,Nat.le_refl _⟩,λrest i rn rx ⟨dn,hsp,hi,hrn,hrx,hrl⟩=>?_⟩
 subst hi;subst hrn;subst hrx
 have hl2:=congrArg List.length hsp
 rw[List.length_append,splitB_len 10 rest,<-hN]at hl2
 refine⟨λhlt=>?_,λhge=>?_⟩
 ·refine s_strings_Index _ _ _ _ (sindex_is _ ⟨_,rfl,?_⟩)
  rcases idxB_cases rest 10 with⟨hz,hno⟩|⟨m,hz,hm,hno⟩
  ·have h0:splitB 10 rest=[rest]:=splitB_none λx hx=>by
    obtain⟨k,hk⟩:=List.mem_iff_getElem?.1 hx
    exact hno k x hk
   have:=splitB_len 10 rest
   rw[h0]at this
   simp at this
   omega
  ·replace hz:idxB rest 10=(m:Int):=hz
   rw[hz]
   have hml:=(List.getElem?_eq_some_iff.1 hm).1
   have hsa:=split_at hm
   have hno':∀x∈rest.take m,x≠10:=λx hx=>by
    obtain⟨k,hk⟩:=List.mem_iff_getElem?.1 hx
    rw[List.getElem?_take]at hk
    split at hk
    ·exact hno k x (by omega) hk
    ·cases hk
   have hsp2:splitB 10 rest=rest.take m::splitB 10 (rest.drop (m+1)):=by
    rw[<-splitB_app hno',<-hsa]
   refine⟨λh=>by omega,λ_=>⟨by unfold InI;omega,by omega,by omega,by omega,by omega,by omega,by unfold InI;simp;omega,?_⟩⟩
   have e1:(rest.take ((rest.length:Nat):Int).toNat).drop ((m:Int)+(([10]:List UInt8).length:Nat)).toNat=rest.drop (m+1):=by rw[take_full];rfl
   have e2:(rest.take ((m:Int)+0).toNat).drop (0:Int).toNat=rest.take m:=by simp
   have e3:putAt (cl sC (dn++List.replicate (N-dn.length) [])) (0+(dn.length:Int).toNat*1) [Value.string (mkS (rest.take m))]=cl sC ((dn++[rest.take m])++List.replicate (N-(dn++[rest.take m]).length) []):=by
    rw[show(dn.length:Int).toNat=dn.length from rfl,show[Value.string (mkS (rest.take m))]=sC (rest.take m) from rfl,cl_put sC1 _ (by simp;omega)]
    congr 1
    rw[List.set_append_right _ _ (Nat.le_refl _),Nat.sub_self,List.append_assoc]
    congr 1
    obtain⟨q,hq⟩:∃q,N-dn.length=q+1:=⟨N-dn.length-1,by omega⟩
    rw[hq,List.replicate_succ,List.set_cons_zero,List.length_append,List.length_singleton,show N-(dn.length+1)=q by omega];rfl
   rw[e1,e2,e3]
   refine⟨by simp;omega,by simp;omega,by simp,by unfold InI;omega,⟨dn++[rest.take m],by rw[hsp,hsp2,List.append_assoc];rfl,by simp,rfl,rfl,by simp;omega⟩,by dsimp only;omega⟩
 ·have hd:dn.length+1=N:=by omega
  have h0:rest.count 10=0:=by omega
  have hr:splitB 10 rest=[rest]:=splitB_none λx hx e=>by
   subst e
   have:=List.count_pos_iff.2 hx
   omega
  unfold S_strings_genSplit_J2
  refine⟨by omega,by omega,by unfold InI;omega,by omega,by omega,λM3 A c hle hsl=>?_⟩
  have e3:(putAt (cl sC (dn++List.replicate (N-dn.length) [])) (0+(dn.length:Int).toNat*1) [Value.string (mkS rest)])=cl sC (splitB 10 s):=by
   rw[show(dn.length:Int).toNat=dn.length from rfl,show[Value.string (mkS rest)]=sC rest from rfl,cl_put sC1 _ (by simp;omega),hsp,hr]
   congr 1
   rw[List.set_append_right _ _ (Nat.le_refl _),Nat.sub_self,show N-dn.length=1 by omega];rfl
  rw[show((dn.length:Int)+1).toNat=N by omega,e3,List.take_of_length_le (by rw[cl_length sC1];omega)]at hsl
  rw[show((dn.length:Int)+1).toNat=N by omega]
  exact λM4 hle2=>⟨_,_,_,rfl,λM5 hle3=>hK M5 A c (hle.trans (hle2.trans hle3)) ((hsl.le hle2).le hle3)⟩
end Go.Proofs.YtjecddabdlapbaaDoor.core

namespace Go.Proofs.YtjecddabdlapbaaDoor.core
open Go.Gx Go.RowKit Go.ChangeShapes Go.WideShapes Go.ChangeAt
set_option linter.unusedVariables false
def cutB (c:UInt8):List UInt8->List UInt8×List UInt8×Bool
 |[]=>([],[],false)
 |b::r=>if b=c then([],r,true) else(b::(cutB c r).1,(cutB c r).2.1,(cutB c r).2.2)
theorem cutB_none {c:UInt8}:∀{l:List UInt8},(∀x∈l,x≠c)->cutB c l=(l,[],false)
 |[],_=>rfl
 |b::r,h=>by rw[cutB,if_neg (h b (by simp)),cutB_none λx hx=>h x (by simp[hx])]
theorem cutB_app {c:UInt8} {r:List UInt8}:∀{l:List UInt8},(∀x∈l,x≠c)->cutB c (l++c::r)=(l,r,true)
 |[],_=>by rw[List.nil_append,cutB,if_pos rfl]
 |b::l,h=>by rw[List.cons_append,cutB,if_neg (h b (by simp)),cutB_app λx hx=>h x (by simp[hx])]
theorem cutB_cases (c:UInt8) (s:List UInt8):((∀x∈s,x≠c)/\cutB c s=(s,[],false)/\idxB s c.toNat= -1)\/∃l r,s=l++c::r/\(∀x∈l,x≠c)/\cutB c s=(l,r,true)/\idxB s c.toNat=(l.length:Nat):=by
 rcases idxB_cases s c with⟨hz,hno⟩|⟨m,hz,hm,hno⟩
 ·have h0:∀x∈s,x≠c:=λx hx=>by
   obtain⟨k,hk⟩:=List.mem_iff_getElem?.1 hx
   exact hno k x hk
  exact .inl ⟨h0,cutB_none h0,hz⟩
 ·have hsa:=split_at hm
  have hml:=(List.getElem?_eq_some_iff.1 hm).1
  have hno':∀x∈s.take m,x≠c:=λx hx=>by
   obtain⟨k,hk⟩:=List.mem_iff_getElem?.1 hx
   rw[List.getElem?_take]at hk
   split at hk
   ·exact hno k x (by omega) hk
   ·cases hk
  refine .inr ⟨s.take m,s.drop (m+1),hsa,hno',?_,by rw[hz,List.length_take];omega⟩
  have:=cutB_app (r:=s.drop (m+1)) hno'
  rw[<-hsa]at this;exact this
theorem cutB_len (c:UInt8) (s:List UInt8):(cutB c s).1.length<=s.length/\(cutB c s).2.1.length<=s.length/\((cutB c s).2.2=true->(cutB c s).2.1.length<s.length):=by
 rcases cutB_cases c s with⟨_,h,_⟩|⟨l,r,e,_,h,_⟩
 ·rw[h];simp
 ·rw[h,e];simp;omega
theorem cut_is {s:List UInt8} (hs:s.length<=1048576) (c:UInt8) (hI:∀M K,K (.int .i64 (idxB s c.toNat))->S_internal_stringslite_Index s [c] M K) {M:Mem} (K:Value->Prop) (hK:K (.tuple #[.string (mkS (cutB c s).1),.string (mkS (cutB c s).2.1),.bool (cutB c s).2.2])):S_strings_Cut s [c] M K:=by
 refine s_internal_stringslite_Cut _ _ _ _ (s_internal_stringslite_Index _ _ _ _ (hI _ _ ⟨_,rfl,?_⟩))
 rcases cutB_cases c s with⟨_,h,hz⟩|⟨l,r,e,_,h,hz⟩
 ·rw[h]at hK
  rw[hz]
  exact⟨λh=>by omega,λ_=>⟨_,_,_,rfl,hK⟩⟩
 ·rw[h]at hK
  rw[hz]
  have hl:s.length=l.length+r.length+1:=by rw[e];simp;omega
  refine⟨λ_=>⟨by omega,by omega,by omega,by unfold InI;simp;omega,by simp;omega,by simp;omega,by omega,⟨_,_,_,rfl,?_⟩⟩,λh=>by omega⟩
  have e1:(s.take ((l.length:Nat):Int).toNat).drop (0:Int).toNat=l:=by
   rw[e];simp
  have e2:(s.take ((s.length:Nat):Int).toNat).drop (((l.length:Nat):Int)+(([c]:List UInt8).length:Nat)).toNat=r:=by
   rw[take_full,e,show(((l.length:Nat):Int)+(([c]:List UInt8).length:Nat)).toNat=l.length+1 by simp]
   rw[List.drop_append,List.drop_of_length_le (by omega)]
   simp
  rw[e1,e2];exact hK
theorem slIndexC_is (s:List UInt8) (c:UInt8) (M:Mem) (K:Value->Prop) (h:K (.int .i64 (idxB s c.toNat))):S_internal_stringslite_Index s [c] M K:=
 slIndex1_is s c M K λz _ hz=>hz▸h
theorem prefix_is (s p:List UInt8) {M:Mem} (K:Value->Prop) (hK:K (.bool (decide (s.take p.length=p)))):S_strings_HasPrefix s p M K:=by
 refine s_internal_stringslite_HasPrefix _ _ _ _ ⟨λh=>⟨by omega,by omega,by omega,⟨_,rfl,?_⟩⟩,λh=>⟨_,rfl,?_⟩⟩
 ·have e:(s.take ((p.length:Nat):Int).toNat).drop (0:Int).toNat=s.take p.length:=by simp
  rw[e]
  by_cases q:s.take p.length=p
  ·rw[decide_eq_true q]at hK;rw[mkS_beq.2 q];exact hK
  ·rw[decide_eq_false q]at hK
   rw[show((mkS (s.take p.length)).toList==(mkS p).toList)=false from Bool.eq_false_iff.2 λg=>q (mkS_beq.1 g)];exact hK
 ·have q:¬s.take p.length=p:=λg=>by
   have:=congrArg List.length g
   rw[List.length_take]at this;omega
  rw[decide_eq_false q]at hK;exact hK
theorem prefix_cut {s p:List UInt8} (hp:∀x∈p,x≠32) (n:Nat) (hn:n=p.length+1):(s.take n=p++[32]->cutB 32 s=(p,s.drop n,true))/\(¬s.take n=p++[32]->(cutB 32 s).1=p->s=p/\(cutB 32 s).2.1=[]):=by
 subst hn
 refine⟨λh=>?_,λh h1=>?_⟩
 ·have e:s=p++32::s.drop (p.length+1):=by
   conv=>lhs;rw[<-List.take_append_drop (p.length+1) s,h]
   simp
  have:=cutB_app (r:=s.drop (p.length+1)) hp
  rw[<-e]at this;exact this
 ·rcases cutB_cases 32 s with⟨_,g,_⟩|⟨l,r,e,_,g,_⟩
  ·rw[g]at h1 ⊢;exact⟨h1,rfl⟩
  ·rw[g]at h1
   exfalso;apply h
   simp only at h1
   subst h1
   rw[e,List.take_append,List.take_of_length_le (Nat.le_succ _),Nat.add_sub_cancel_left];rfl
def fitP (c:X_api_Case):Int:=if c.Text.length>60 then 2 else if c.Kind=1\/c.Kind=2 then(if c.N≠0 then 1 else 0) else if c.Kind=4 then(if c.N<0\/c.N>c.Text.length then 1 else 0) else 1
theorem bfit_is (c:X_api_Case) {M:Mem} (K:Value->Prop) (hK:K (.int .i64 (fitP c))):S_book_fit c M K:=by
 have key:∀z,z=fitP c->K (.int .i64 z):=λz e=>e▸hK
 unfold S_book_fit S_book_fit_J1 S_book_fit_J2
 refine⟨λh=>key _ ?_,λh=>⟨λh1=>⟨λ_=>⟨λg=>key _ ?_,λg=>key _ ?_⟩,λg=>?_⟩,λh1=>⟨λh2=>⟨λg=>key _ ?_,λg=>key _ ?_⟩,λh2=>⟨λh4=>⟨λg=>⟨λ_=>key _ ?_,λq=>absurd rfl q⟩,λg=>⟨λq=>key _ ?_,λq=>key _ ?_⟩⟩,λh4=>key _ ?_⟩⟩⟩⟩
 ·unfold fitP;rw[if_pos (by omega)]
 ·unfold fitP;rw[if_neg (by omega),if_pos (.inl h1),if_pos g]
 ·unfold fitP;rw[if_neg (by omega),if_pos (.inl h1),if_neg g]
 ·simp at g;omega
 ·have h2:c.Kind=2:=by simpa using h2
  unfold fitP;rw[if_neg (by omega),if_pos (.inr h2),if_pos g]
 ·have h2:c.Kind=2:=by simpa using h2
  unfold fitP;rw[if_neg (by omega),if_pos (.inr h2),if_neg g]
 ·unfold fitP;rw[if_neg (by omega),if_neg (by omega),if_pos h4,if_pos (.inl g)]
 ·have q:c.N>c.Text.length:=by simpa using q
  unfold fitP;rw[if_neg (by omega),if_neg (by omega),if_pos h4,if_pos (.inr q)]
 ·have q:¬c.N>c.Text.length:=by simpa using q
  unfold fitP;rw[if_neg (by omega),if_neg (by omega),if_pos h4,if_neg (by omega)]
 ·have h2:c.Kind≠2:=by simpa using h2
  unfold fitP;rw[if_neg (by omega),if_neg (by omega),if_neg h4]
theorem rcase_is (c:X_api_Case) {M:Mem} (K:Value->Prop) (hK:K (.int .i64 (fitP c))):S_chaffref_Case c M K:=by
 have key:∀z,z=fitP c->K (.int .i64 z):=λz e=>e▸hK
 unfold S_chaffref_Case S_chaffref_Case_J1 S_chaffref_Case_J2
 refine⟨λh=>key _ (by unfold fitP;rw[if_pos (by omega)]),λh=>⟨λh4=>⟨λg=>⟨λq=>key _ ?_,λq=>⟨λh1=>by omega,λh1=>⟨λh2=>by omega,λh2=>⟨λe=>by simp at e,λ_=>key _ ?_⟩⟩⟩⟩,λg=>⟨λq=>by simp at q,λq=>⟨λh1=>by omega,λh1=>⟨λh2=>by omega,λh2=>⟨λe=>by simp at e,λ_=>key _ ?_⟩⟩⟩⟩⟩,λh4=>⟨λq=>by simp at q,λq=>⟨λh1=>⟨λe=>key _ ?_,λe=>key _ ?_⟩,λh1=>⟨λh2=>⟨λe=>key _ ?_,λe=>key _ ?_⟩,λh2=>⟨λe=>by simp at e,λ_=>key _ ?_⟩⟩⟩⟩⟩⟩
 ·have q:c.N<=c.Text.length:=by simpa using q
  unfold fitP;rw[if_neg (by omega),if_neg (by omega),if_pos h4,if_neg (by omega)]
 ·have q:¬c.N<=c.Text.length:=by simpa using q
  unfold fitP;rw[if_neg (by omega),if_neg (by omega),if_pos h4,if_pos (by omega)]
 ·unfold fitP;rw[if_neg (by omega),if_neg (by omega),if_pos h4,if_pos (by omega)]
 ·have e:c.N=0:=by simpa using e
  unfold fitP;rw[if_neg (by omega),if_pos (.inl h1),if_neg (by omega)]
 ·have e:c.N≠0:=by simpa using e
  unfold fitP;rw[if_neg (by omega),if_pos (.inl h1),if_pos e]
 ·have e:c.N=0:=by simpa using e
  unfold fitP;rw[if_neg (by omega),if_pos (.inr h2),if_neg (by omega)]
 ·have e:c.N≠0:=by simpa using e
  unfold fitP;rw[if_neg (by omega),if_pos (.inr h2),if_pos e]
 ·unfold fitP;rw[if_neg (by omega),if_neg (by omega),if_neg h4]
theorem unlG_len (q:UInt8):∀(n:Nat) (r:List UInt8),r.length<n->∀(i:Int) (out:List UInt8),0<=i->0<=(unlG q r i out).2.1/\(unlG q r i out).2.1<=i+r.length
 |0,_,h,_,_,_=>absurd h (Nat.not_lt_zero _)
 |n+1,r,h,i,out,hi=>by
  unfold unlG
  split
  ·dsimp only;omega
  ·rename_i c t
   split
   ·simp;omega
   ·split
    ·simp;omega
    ·rename_i hk
     obtain⟨_,_,h0,hl,_⟩:=saidP_ok [39,34,92] (c::t)
     have hd:((c::t).drop ((saidP [39,34,92] (c::t)).2.toNat-1+1)).length=(c::t).length-((saidP [39,34,92] (c::t)).2.toNat-1+1):=List.length_drop ..
     generalize saidP [39,34,92] (c::t)=z at*
     have ih:=unlG_len q n ((c::t).drop (z.2.toNat-1+1)) (by rw[hd];simp only[List.length_cons]at h ⊢;omega) (i+z.2) (out++[z.1.toNat.toUInt8]) (by omega)
     rw[hd]at ih
     omega
theorem unlitP_len (s:List UInt8):(unlitP s).2.1<=s.length:=by
 unfold unlitP
 split
 ·simp
 ·split
  ·simp;omega
  ·rename_i q r _
   have:=(unlG_len q _ r (Nat.lt_succ_self _) 1 [] (by omega)).2
   simp only[List.length_cons];omega
def restP (k n:Int) (t:List UInt8):X_api_Case×Int:=if (unlitP t).2.2≠0\/(unlitP t).2.1≠t.length then(⟨0,0,[]⟩,4) else(⟨k,n,(unlitP t).1⟩,fitP ⟨k,n,(unlitP t).1⟩)
open Classical in
noncomputable def lineP (s:List UInt8):X_api_Case×Int:=
 if (cutB 32 s).1=[97,99,99,101,112,116] then restP 1 0 (cutB 32 s).2.1
 else if (cutB 32 s).1=[114,101,106,101,99,116] then restP 2 0 (cutB 32 s).2.1
 else if (cutB 32 s).1=[112,114,101,102,105,120] then
  (if GoodDec (cutB 32 (cutB 32 s).2.1).1 then restP 4 (dval 0 (cutB 32 (cutB 32 s).2.1).1:Nat) (cutB 32 (cutB 32 s).2.1).2.1 else(⟨0,0,[]⟩,4))
 else(⟨0,0,[]⟩,4)
def LineV (p:X_api_Case×Int) (v:Value):Prop:=∃c:X_api_Case,v= .tuple #[c.val,.int .i64 p.2]/\(p.2=0->c=p.1)
theorem restP_nil (k n:Int):restP k n []=(⟨0,0,[]⟩,4):=by
 unfold restP;rw[if_pos (.inl (by simp[unlitP]))]
theorem bone_J1 {M:Mem} {t:List UInt8} (ht:t.length<=2000) (k n:Int) (K:Value->Prop) (hK:∀v,LineV (restP k n t) v->K v):S_book_one_J1 M t k n K:=by
 refine s_quote_Unlit _ _ _ (qunlit_is t (by omega) _ _ ⟨_,_,_,rfl,λh=>⟨λ_=>hK _ ?_,λg=>absurd rfl g⟩,λh=>⟨λg=>hK _ ?_,λg=>s_book_fit _ _ _ (bfit_is _ _ ⟨_,rfl,hK _ ?_⟩)⟩⟩)
 ·exact⟨_,by unfold restP;rw[if_pos (.inl h)],λh=>by unfold restP at h;rw[if_pos (.inl (by assumption))]at h;cases h⟩
 ·have g:(unlitP t).2.1≠t.length:=by simpa using g
  exact⟨_,by unfold restP;rw[if_pos (.inr g)],λh=>by unfold restP at h;rw[if_pos (.inr g)]at h;cases h⟩
 ·have g:(unlitP t).2.1=t.length:=by simpa using g
  have hn:¬((unlitP t).2.2≠0\/(unlitP t).2.1≠t.length):=λq=>q.elim (λq=>h q) λq=>q g
  exact⟨_,by unfold restP;rw[if_neg hn],λ_=>by unfold restP;rw[if_neg hn]⟩
theorem rcase_J2 {M:Mem} {t:List UInt8} (ht:t.length<=2000) (k n:Int) (K:Value->Prop) (hK:∀v,LineV (restP k n t) v->K v):S_chaffref_caseOf_J2 M k t n K:=by
 refine s_chaffref_Unlit _ _ _ (runlit_is t (by omega) _ _ ⟨_,_,_,rfl,λh=>⟨λ_=>hK _ ?_,λg=>absurd rfl g⟩,λh=>⟨λg=>hK _ ?_,λg=>s_chaffref_Case _ _ _ (rcase_is _ _ ⟨_,rfl,hK _ ?_⟩)⟩⟩)
 ·exact⟨_,by unfold restP;rw[if_pos (.inl h)],λh=>by unfold restP at h;rw[if_pos (.inl (by assumption))]at h;cases h⟩
 ·have g:(unlitP t).2.1≠t.length:=by have:=of_decide_eq_true g;omega
  exact⟨_,by unfold restP;rw[if_pos (.inr g)],λh=>by unfold restP at h;rw[if_pos (.inr g)]at h;cases h⟩
 ·have g:(unlitP t).2.1=t.length:=by
   have h1:=unlitP_len t
   have h2:¬(unlitP t).2.1<t.length:=λq=>g (decide_eq_true q)
   omega
  have hn:¬((unlitP t).2.2≠0\/(unlitP t).2.1≠t.length):=λq=>q.elim (λq=>h q) λq=>q g
  exact⟨_,by unfold restP;rw[if_neg hn],λ_=>by unfold restP;rw[if_neg hn]⟩
theorem lineBad {s:List UInt8} (h:lineP s=(⟨0,0,[]⟩,4)) (c:X_api_Case):LineV (lineP s) (.tuple #[c.val,.int .i64 4]):=⟨c,by rw[h],λh0=>by rw[h]at h0;cases h0⟩
theorem bone_is {M:Mem} (hM:NumM M) {s:List UInt8} (hs:s.length<=2000) (K:Value->Prop) (hK:∀v,LineV (lineP s) v->K v):S_book_one s M K:=by
 have hl:=cutB_len 32 s
 refine s_strings_Cut _ _ _ _ (cut_is (by omega) 32 (slIndexC_is s 32) _ ⟨_,_,_,rfl,λh1=>?_,λh1=>⟨λh2=>?_,λh2=>⟨λh3=>?_,λh3=>hK _ (lineBad ?_ _)⟩⟩⟩)
 ·refine bone_J1 (by omega) 1 0 _ λv hv=>hK v ?_
  unfold lineP;rw[if_pos h1];exact hv
 ·refine bone_J1 (by omega) 2 0 _ λv hv=>hK v ?_
  unfold lineP;rw[if_neg h1,if_pos h2];exact hv
 ·have hl2:=cutB_len 32 (cutB 32 s).2.1
  refine s_strings_Cut _ _ _ _ (cut_is (by omega) 32 (slIndexC_is _ 32) _ ⟨_,_,_,rfl,s_quote_Undec _ _ _ (undec_is hM (by omega) _ λv hv=>?_)⟩)
  rcases hv with⟨hg,rfl⟩|⟨hg,rfl⟩
  ·refine⟨_,_,rfl,λh=>absurd rfl h,λ_=>bone_J1 (by omega) 4 _ _ λv hv=>hK v ?_⟩
   unfold lineP;rw[if_neg h1,if_neg h2,if_pos h3,if_pos hg];exact hv
  ·refine⟨_,_,rfl,λ_=>hK _ (lineBad ?_ _),λh=>absurd (by decide) h⟩
   unfold lineP;rw[if_neg h1,if_neg h2,if_pos h3,if_neg hg]
 ·unfold lineP;rw[if_neg h1,if_neg h2,if_neg h3]
open Classical in
theorem rcase_J1 {M:Mem} {s:List UInt8} (hs:s.length<=2000) (h7:7<=s.length) (k:Int) (K:Value->Prop)
  (hK:∀v,LineV (if k=4 then(if GoodDec (cutB 32 (s.drop 7)).1 then restP 4 (dval 0 (cutB 32 (s.drop 7)).1:Nat) (cutB 32 (s.drop 7)).2.1 else(⟨0,0,[]⟩,4)) else restP k 0 (s.drop 7)) v->K v):S_chaffref_caseOf_J1 s M k K:=by
 have hd:(s.drop 7).length=s.length-7:=List.length_drop ..
 have e7:(s.take ((s.length:Nat):Int).toNat).drop (7:Int).toNat=s.drop 7:=by rw[take_full];rfl
 unfold S_chaffref_caseOf_J1
 rw[e7]
 refine⟨by omega,by omega,by omega,λh4=>?_,λh4=>?_⟩
 ·subst h4
  rw[if_pos rfl]at hK
  have bad:∀c:X_api_Case,¬GoodDec (cutB 32 (s.drop 7)).1\/(cutB 32 (s.drop 7)).2.1=[]->K (.tuple #[c.val,.int .i64 4]):=λc h=>by
   refine hK _ ⟨c,?_,?_⟩
   ·split
    ·rcases h with h|h
     ·exact absurd (by assumption) h
     ·rw[h,restP_nil]
    ·rfl
   ·intro q
    split at q
    ·rcases h with h|h
     ·exact absurd (by assumption) h
     ·rw[h,restP_nil]at q;cases q
    ·cases q
  refine s_strings_Index _ _ _ _ (index1_is _ 32 _ _ λz _ hz=>⟨_,rfl,?_⟩)
  rcases cutB_cases 32 (s.drop 7)with⟨_,g,gi⟩|⟨l,r,e,_,g,gi⟩
  ·rw[hz,gi]
   exact⟨λ_=>bad _ (.inr (by rw[g])),λh=>by omega⟩
  ·rw[hz,gi]
   have hl:(s.drop 7).length=l.length+r.length+1:=by rw[e];simp;omega
   have e1:((s.drop 7).take ((l.length:Nat):Int).toNat).drop (0:Int).toNat=l:=by rw[e];simp
   have e2:((s.drop 7).take (((s.drop 7).length:Nat):Int).toNat).drop (((l.length:Nat):Int)+1).toNat=r:=by
    rw[take_full,e,show(((l.length:Nat):Int)+1).toNat=l.length+1 by omega,List.drop_append,List.drop_of_length_le (by omega)]
    simp
   rw[e1,e2]
   refine⟨λh=>by omega,λ_=>⟨by omega,by omega,by omega,s_chaffref_Undec _ _ _ (rundec_is (by omega) _ λv hv=>?_)⟩⟩
   rw[g]at hK bad
   rcases hv with⟨hg,rfl⟩|⟨hg,rfl⟩
   ·refine⟨_,_,rfl,λh=>absurd rfl h,λ_=>⟨by unfold InI;omega,by omega,by omega,by omega,rcase_J2 (by omega) 4 _ _ λv hv=>hK v ?_⟩⟩
    rw[if_pos hg];exact hv
   ·exact⟨_,_,rfl,λ_=>bad _ (.inl hg),λh=>absurd (by decide) h⟩
 ·rw[if_neg h4]at hK
  exact rcase_J2 (by omega) k 0 _ hK
theorem caseOf_is {M:Mem} {s:List UInt8} (hs:s.length<=2000) (K:Value->Prop) (hK:∀v,LineV (lineP s) v->K v):S_chaffref_caseOf s M K:=by
 have a32:∀x∈([97,99,99,101,112,116]:List UInt8),x≠32:=by decide
 have r32:∀x∈([114,101,106,101,99,116]:List UInt8),x≠32:=by decide
 have p32:∀x∈([112,114,101,102,105,120]:List UInt8),x≠32:=by decide
 obtain⟨a1,a2⟩:=prefix_cut (s:=s) a32 7 rfl
 obtain⟨r1,r2⟩:=prefix_cut (s:=s) r32 7 rfl
 obtain⟨p1,p2⟩:=prefix_cut (s:=s) p32 7 rfl
 have len7:∀p:List UInt8,p.length=6->s.take 7=p++[32]->7<=s.length:=λp hp h=>by
  have:=congrArg List.length h
  rw[List.length_take,List.length_append,hp]at this
  simp at this;omega
 have nn:([97,99,99,101,112,116]:List UInt8)≠[114,101,106,101,99,116]/\([97,99,99,101,112,116]:List UInt8)≠[112,114,101,102,105,120]/\([114,101,106,101,99,116]:List UInt8)≠[112,114,101,102,105,120]:=by decide
 refine s_strings_HasPrefix _ _ _ _ (prefix_is _ _ _ ⟨_,rfl,λh1=>?_,λh1=>s_strings_HasPrefix _ _ _ _ (prefix_is _ _ _ ⟨_,rfl,λh2=>?_,λh2=>s_strings_HasPrefix _ _ _ _ (prefix_is _ _ _ ⟨_,rfl,λh3=>?_,λh3=>hK _ (lineBad ?_ _)⟩)⟩)⟩)
 ·have h1:=of_decide_eq_true h1
  have g:=a1 h1
  refine rcase_J1 hs (len7 [97,99,99,101,112,116] rfl h1) 1 _ λv hv=>hK v ?_
  unfold lineP;rw[g,if_pos rfl];exact hv
 ·have h2:=of_decide_eq_true h2
  have g:=r1 h2
  refine rcase_J1 hs (len7 [114,101,106,101,99,116] rfl h2) 2 _ λv hv=>hK v ?_
  unfold lineP;rw[g,if_neg (Ne.symm nn.1),if_pos rfl];exact hv
 ·have h3:=of_decide_eq_true h3
  have g:=p1 h3
  refine rcase_J1 hs (len7 [112,114,101,102,105,120] rfl h3) 4 _ λv hv=>hK v ?_
  unfold lineP;rw[g,if_neg (Ne.symm nn.2.1),if_neg (Ne.symm nn.2.2),if_pos rfl]
  rw[if_pos rfl]at hv;exact hv
 ·have h1:¬s.take 7=[97,99,99,101,112,116]++[32]:=λe=>h1 (decide_eq_true e)
  have h2:¬s.take 7=[114,101,106,101,99,116]++[32]:=λe=>h2 (decide_eq_true e)
  have h3:¬s.take 7=[112,114,101,102,105,120]++[32]:=λe=>h3 (decide_eq_true e)
  unfold lineP
  split
  ·rename_i q;rw[(a2 h1 q).2,restP_nil]
  split
  ·rename_i q;rw[(r2 h2 q).2,restP_nil]
  split
  ·rename_i q
   rw[(p2 h3 q).2]
   split
   ·exact restP_nil _ _
   ·rfl
  ·rfl
def skipL (l:List UInt8):Bool:=match l with
 |[]=>true
 |c::_=>decide (c.toNat=35)
open Classical in
noncomputable def readL (i:Int) (acc:List X_api_Case):List (List UInt8)->List X_api_Case×Int×Int
 |[]=>(acc,0,0)
 |l::r=>if skipL l=true then readL (i+1) acc r
  else if (lineP l).2=0/\acc.length=40 then([],i+1,2)
  else if (lineP l).2≠0 then([],i+1,(lineP l).2)
  else readL (i+1) (acc++[(lineP l).1]) r
def BookV (p:List X_api_Case×Int×Int) (v:Value) (M:Mem):Prop:=∃A c,v= .tuple #[.slice A p.1.length c,.int .i64 p.2.1,.int .i64 p.2.2]/\SlV M A p.1.length c 3 (cl X_api_Case.cells p.1)
noncomputable def bookP (s:List UInt8):List X_api_Case×Int×Int:=if s.length>2000 then([],0,2) else readL 0 [] (splitB 10 s)
theorem BookV.nil {M:Mem} {i e:Int} {p:List X_api_Case×Int×Int} (h:p=([],i,e)):BookV p (.tuple #[.slice none 0 0,.int .i64 i,.int .i64 e]) M:=by
 subst h
 exact⟨none,0,rfl,rfl,Nat.le_refl _,by simp[maxLen],λh=>by simp at h⟩
theorem Xc_len (x:X_api_Case):x.cells.length=3:=rfl
theorem cl_put1 {α:Type} (f:α->List Value) (l:List α) (x:α):cl f l++f x=cl f (l++[x]):=by simp[cl]
theorem read_is {M:Mem} (hM:NumM M) {s:List UInt8} (K:Value->Mem->Prop) (hK:∀v M',M.le M'->BookV (bookP s) v M'->K v M'):S_book_Read s M K:=by
 refine⟨λh=>λM' hle=>hK _ _ hle (BookV.nil (by unfold bookP;rw[if_pos (by omega)])),λh=>?_⟩
 have hs:s.length<=2000:=by omega
 have hb:bookP s=readL 0 [] (splitB 10 s):=by unfold bookP;rw[if_neg (by omega)]
 have hlens:=splitB_lens 10 s
 have hcnt:=splitB_len 10 s
 have hc2:s.count 10<=s.length:=List.count_le_length
 refine s_strings_Split _ _ _ _ (split_is (by omega) _ λM5 A c hle hsl=>⟨_,_,_,rfl,?_⟩)
 have hM5:=hM.le hle
 refine⟨λx rn rx=>∃(i:Nat) (acc:List X_api_Case),x=i/\i<=(splitB 10 s).length/\rn=acc.length/\rx=cl X_api_Case.cells acc/\acc.length<=40/\bookP s=readL i acc ((splitB 10 s).drop i),λx _ _=>(splitB 10 s).length-x.toNat,⟨0,[],rfl,by omega,rfl,rfl,by simp,hb⟩,λx rn rx ⟨i,acc,hx,hi,hrn,hrx,ha,hr⟩=>⟨λhlt=>?_,λhge=>?_⟩⟩
 ·subst hx;subst hrn;subst hrx
  obtain⟨l,hl⟩:∃l,(splitB 10 s)[i]?=some l:=⟨(splitB 10 s)[i]'(by omega),List.getElem?_eq_getElem _⟩
  obtain⟨b,o,h1,h2⟩:=hsl.at sC1 rfl hl
  have hll:=hlens l (List.mem_of_getElem? hl)
  have hdr:(splitB 10 s).drop i=l::(splitB 10 s).drop (i+1):=by
   rw[List.drop_eq_getElem_cons (by omega)]
   rw[List.getElem?_eq_getElem (by omega)]at hl
   rw[Option.some.inj hl]
  rw[hdr]at hr
  have next:∀acc':List X_api_Case,acc'.length<=40->bookP s=readL (i+1) acc' ((splitB 10 s).drop (i+1))->S_book_Read_J4 i acc.length (cl X_api_Case.cells acc) (λx rn rx=>∃(i:Nat) (acc:List X_api_Case),x=i/\i<=(splitB 10 s).length/\rn=acc.length/\rx=cl X_api_Case.cells acc/\acc.length<=40/\bookP s=readL i acc ((splitB 10 s).drop i)) (λx _ _=>(splitB 10 s).length-x.toNat) acc'.length (cl X_api_Case.cells acc') K:=λacc' h40 hr'=>
   ⟨by unfold InI;omega,⟨i+1,acc',by omega,by omega,rfl,rfl,h40,hr'⟩,by dsimp only;omega⟩
  have skip:skipL l=true->S_book_Read_J1 M5 i acc.length (cl X_api_Case.cells acc) (λx rn rx=>∃(i:Nat) (acc:List X_api_Case),x=i/\i<=(splitB 10 s).length/\rn=acc.length/\rx=cl X_api_Case.cells acc/\acc.length<=40/\bookP s=readL i acc ((splitB 10 s).drop i)) (λx _ _=>(splitB 10 s).length-x.toNat) l true K:=λhk=>
   ⟨λ_=>next acc ha (by rw[hr,readL,if_pos hk]),λg=>absurd rfl g⟩
  have take:skipL l=false->S_book_Read_J1 M5 i acc.length (cl X_api_Case.cells acc) (λx rn rx=>∃(i:Nat) (acc:List X_api_Case),x=i/\i<=(splitB 10 s).length/\rn=acc.length/\rx=cl X_api_Case.cells acc/\acc.length<=40/\bookP s=readL i acc ((splitB 10 s).drop i)) (λx _ _=>(splitB 10 s).length-x.toNat) l false K:=λhk=>by
   rw[readL,if_neg (by rw[hk];simp)]at hr
   refine⟨λg=>by simp at g,λ_=>s_book_one _ _ _ (bone_is hM5 (by omega) _ λv ⟨c,hv,hc⟩=>⟨c,_,hv,λh0=>?_,λh0=>?_⟩)⟩
   ·refine⟨λg=>?_,λg=>?_⟩
    ·have g:acc.length=40:=by have:=eq_of_beq g;omega
     rw[if_pos ⟨h0,g⟩]at hr
     exact⟨λ_=>⟨by unfold InI;omega,λM' hle'=>hK _ _ (hle.trans hle') (BookV.nil hr)⟩,λq=>absurd (by decide) q⟩
    ·have g:acc.length≠40:=λe=>g (beq_iff_eq.2 (by omega))
     rw[if_neg (λq=>g q.2),if_neg (λq=>q h0)]at hr
     refine⟨λq=>absurd h0 q,λ_=>⟨by omega,?_⟩⟩
     have e:=hc h0
     subst e
     have:=next (acc++[(lineP l).1]) (by simp;omega) hr
     rw[List.length_append,<-cl_put1]at this
     exact this
   ·rw[if_neg (λq=>h0 q.1),if_pos h0]at hr
    exact⟨λg=>by simp at g,λ_=>⟨λ_=>⟨by unfold InI;omega,λM' hle'=>hK _ _ (hle.trans hle') (BookV.nil hr)⟩,λq=>absurd h0 (by simpa using q)⟩⟩
  refine⟨b,o,h1,by omega,hlt,l,h2,λg=>skip (by rw[g];rfl),λg=>?_⟩
  cases l with
  |nil=>exact absurd rfl g
  |cons d t=>
   refine⟨d,by omega,rfl,?_⟩
   by_cases e:d.toNat=35
   ·rw[show((d.toNat:Int)==(35:Int))=true by simp[e]]
    exact skip (by simp[skipL,e])
   ·rw[show((d.toNat:Int)==(35:Int))=false by simp;omega]
    exact take (by simp[skipL,e])
 ·subst hx
  have:i=(splitB 10 s).length:=by omega
  subst this
  rw[List.drop_length,readL]at hr
  subst hrn;subst hrx
  intro M70 ad cap hle2 hsl2 M' hle3
  refine hK _ _ (hle.trans (hle2.trans hle3)) ?_
  rw[hr]
  exact⟨ad,cap,rfl,hsl2.le hle3⟩
end Go.Proofs.YtjecddabdlapbaaDoor.core

namespace Go.Proofs.YtjecddabdlapbaaDoor.core
open Go.Gx Go.RowKit Go.ChangeShapes Go.WideShapes Go.ChangeAt
set_option linter.unusedVariables false
theorem splitB_cut (s:List UInt8):splitB 10 s=(cutB 10 s).1::(if (cutB 10 s).2.2=true then splitB 10 (cutB 10 s).2.1 else[]):=by
 rcases cutB_cases 10 s with⟨h,g,_⟩|⟨l,r,e,h,g,_⟩
 ·rw[g,splitB_none h];rfl
 ·rw[g,e,splitB_app h];rfl
theorem rread_is {M:Mem} {s:List UInt8} (K:Value->Mem->Prop) (hK:∀v M',M.le M'->BookV (bookP s) v M'->K v M'):S_chaffref_ReadBook s M K:=by
 refine⟨λh=>λM' hle=>hK _ _ hle (BookV.nil (by unfold bookP;rw[if_pos (by omega)])),λh=>?_⟩
 have hs:s.length<=2000:=by omega
 have hb:bookP s=readL 0 [] (splitB 10 s):=by unfold bookP;rw[if_neg (by omega)]
 let I:List UInt8->Int->Nat->List Value->Prop:=λs43 n44 rn rx=>∃(i:Nat) (acc:List X_api_Case),n44=i+1/\i+s43.length<=2000/\rn=acc.length/\rx=cl X_api_Case.cells acc/\acc.length<=40/\bookP s=readL i acc (splitB 10 s43)
 refine⟨I,λs43 _ _ _=>s43.length,⟨0,[],rfl,by omega,rfl,rfl,by simp,hb⟩,λs43 n44 rn rx ⟨i,acc,hn,hl,hrn,hrx,ha,hr⟩=>?_⟩
 subst hn;subst hrn;subst hrx
 obtain⟨c1,c2,c3⟩:=cutB_len 10 s43
 refine s_strings_Cut _ _ _ _ (cut_is (by omega) 10 (slIndexC_is s43 10) _ ⟨_,_,_,rfl,?_⟩)
 rw[splitB_cut]at hr
 generalize (cutB 10 s43).1=l at*
 generalize (cutB 10 s43).2.1=r at*
 generalize (cutB 10 s43).2.2=more at*
 have next:∀acc':List X_api_Case,acc'.length<=40->bookP s=readL (i+1) acc' (if more=true then splitB 10 r else[])->S_chaffref_ReadBook_J4 M s43 (i+1) acc.length (cl X_api_Case.cells acc) I (λs43 _ _ _=>s43.length) r more acc'.length (cl X_api_Case.cells acc') K:=λacc' h40 hr'=>by
  refine⟨λhm=>?_,λhm=>?_⟩
  ·rw[if_neg hm,readL]at hr'
   intro M69 ad cap hle2 hsl2 M' hle3
   refine hK _ _ (hle2.trans hle3) ?_
   rw[hr']
   exact⟨ad,cap,rfl,hsl2.le hle3⟩
  ·have hm:more=true:=by simpa using hm
   rw[if_pos hm]at hr'
   have:=c3 hm
   exact⟨by unfold InI;omega,⟨i+1,acc',by omega,by omega,rfl,rfl,h40,hr'⟩,this⟩
 have skip:skipL l=true->S_chaffref_ReadBook_J1 M s43 (i+1) acc.length (cl X_api_Case.cells acc) I (λs43 _ _ _=>s43.length) l r more false K:=λhk=>
  ⟨λg=>by simp at g,λ_=>next acc ha (by rw[hr,readL,if_pos hk])⟩
 have take:skipL l=false->S_chaffref_ReadBook_J1 M s43 (i+1) acc.length (cl X_api_Case.cells acc) I (λs43 _ _ _=>s43.length) l r more true K:=λhk=>by
  rw[readL,if_neg (by rw[hk];simp)]at hr
  refine⟨λ_=>s_chaffref_caseOf _ _ _ (caseOf_is (by omega) _ λv ⟨c,hv,hc⟩=>⟨c,_,hv,λh0=>?_,λh0=>?_⟩),λg=>absurd rfl g⟩
  ·refine⟨λg=>?_,λg=>?_⟩
   ·have g:acc.length=40:=by have:=eq_of_beq g;omega
    rw[if_pos ⟨h0,g⟩]at hr
    exact⟨λ_=>λM' hle'=>hK _ _ hle' (BookV.nil hr),λq=>absurd (by decide) q⟩
   ·have g:acc.length≠40:=λe=>g (beq_iff_eq.2 (by omega))
    rw[if_neg (λq=>g q.2),if_neg (λq=>q h0)]at hr
    refine⟨λq=>absurd h0 q,λ_=>⟨by omega,?_⟩⟩
    have e:=hc h0
    subst e
    have:=next (acc++[(lineP l).1]) (by simp;omega) hr
    rw[List.length_append,<-cl_put1]at this
    exact this
  ·rw[if_neg (λq=>h0 q.1),if_pos h0]at hr
   exact⟨λg=>by simp at g,λ_=>⟨λ_=>λM' hle'=>hK _ _ hle' (BookV.nil hr),λq=>absurd h0 (by simpa using q)⟩⟩
 refine⟨λg=>?_,λg=>?_⟩
 ·cases l with
  |nil=>exact absurd rfl g
  |cons d t=>
   refine⟨d,by omega,rfl,?_⟩
   by_cases e:d.toNat=35
   ·rw[show((d.toNat:Int) != (35:Int))=false by simp[e]]
    exact skip (by simp[skipL,e])
   ·rw[show((d.toNat:Int) != (35:Int))=true by simp;omega]
    exact take (by simp[skipL,e])
 ·have g:l=[]:=by simpa using g
  exact skip (by rw[g];rfl)
theorem cases_equal {A B:Option Addr} {n c c':Nat} {l:List X_api_Case} {M:Mem} (ha:SlV M A n c 3 (cl X_api_Case.cells l)) (hb:SlV M B n c' 3 (cl X_api_Case.cells l)) (hn:n=l.length) (K:Value->Prop) (hK:K (.bool true)):S_slices_Equal_Case A n c B n c' M K:=by
 subst hn
 have hmax:l.length<=maxLen:=Nat.le_trans ha.2.1 ha.2.2.1
 refine⟨λh=>absurd rfl h,λ_=>⟨λx=>∃i:Nat,x=i/\i<=l.length,λx=>l.length-x.toNat,⟨0,rfl,by omega⟩,λx ⟨i,hx,hi⟩=>⟨λhlt=>?_,λ_=>hK⟩⟩⟩
 subst hx
 obtain⟨y,hy⟩:∃y,l[i]?=some y:=⟨l[i]'(by omega),List.getElem?_eq_getElem _⟩
 obtain⟨b,o,h1,h2⟩:=ha.at Xc_len rfl hy
 obtain⟨b',o',h3,h4⟩:=hb.at Xc_len rfl hy
 have:maxLen=9223372036854775807:=rfl
 exact⟨b,o,h1,by omega,hlt,y,h2,b',o',h3,by omega,hlt,y,h4,λq=>absurd ⟨rfl,rfl,rfl⟩ q,λ_=>⟨by unfold InI;omega,⟨i+1,by omega,by omega⟩,by dsimp only;omega⟩⟩
end Go.Proofs.YtjecddabdlapbaaDoor.core

namespace Go.Proofs.YtjecddabdlapbaaDoor.core
open Go.Gx Go.RowKit Go.ChangeShapes Go.WideShapes Go.ChangeAt
set_option linter.unusedVariables false
theorem heap_of_var {P:Program} {W:World} {name:String} {g:Nat} {cs:Array Value} (hg:P.globalNamed name=some g) (h:W.var? P name=some cs):∃e f,HM W g=some (.cells cs e f):=by
 unfold World.var? at h
 rw[hg]at h
 simp only[Option.bind_some]at h
 split at h
 ·rename_i c e f hq
  cases h
  exact⟨e,f,hq⟩
 ·cases h
theorem pow_data:(Rows.laid_internal_strconv_uint64pow10:DataW Unit)=Lib.tabData .u64 Lib.pow10Tab:=by kernel_rfl
theorem pow_of {W:World} (h:Lib.VarReads Tryd.prog W "internal/strconv.uint64pow10" Rows.laid_internal_strconv_uint64pow10):∃e f,HM W 6=some (.cells (Lib.pow10Tab.map λz=>Value.int .u64 z).toArray e f):=by
 obtain⟨g,t,cs,fuel,p,hg,hty,hvar,hd⟩:=h
 obtain rfl:=Option.some.inj ((show Tryd.prog.globalNamed "internal/strconv.uint64pow10"=some 6 by kernel_rfl).symm.trans hg)
 obtain rfl:=Option.some.inj ((show(Tryd.prog.globals[6]?).map (·.type)=some 200 by kernel_rfl).symm.trans hty)
 rw[pow_data]at hd
 have hcs:=Lib.cells_of_tab (n:=20) (e:=22) (by kernel_rfl) (by kernel_rfl) (by kernel_rfl) (by kernel_rfl) hd
 obtain⟨e,f,q⟩:=heap_of_var hg hvar
 refine⟨e,f,?_⟩
 rw[q,<-hcs]
theorem iface_some {P:Program} {t:TypeId} (h:(match P.underlying t with|some (.interface _)=>true|_=>false)=true):∃ms,P.underlying t=some (.interface ms):=by
 split at h
 ·rename_i ms hi;exact⟨ms,hi⟩
 ·cases h
theorem ifa_of {W:World} {name nm:String} {g:Nat} {x:DataW Unit} (hg:Tryd.prog.globalNamed name=some g) (ht:(Tryd.prog.globals[g]?).map (·.type)=some 129) (h:Lib.VarReads Tryd.prog W name (.iface nm x)):∃t p e f,HM W g=some (.cells #[.iface t p] e f):=by
 obtain⟨g',t,cs,fuel,p,hg',hty,hvar,hd⟩:=h
 obtain rfl:=Option.some.inj (hg.symm.trans hg')
 obtain rfl:=Option.some.inj (ht.symm.trans hty)
 obtain⟨e,f,q⟩:=heap_of_var hg' hvar
 obtain⟨ms,hi⟩:=iface_some (P:=Tryd.prog) (t:=129) (by kernel_rfl)
 obtain⟨f1,u,v,hc,_⟩:=iface_of_trod hi hd
 refine⟨u,v,e,f,?_⟩
 rw[q]
 exact congrArg (λc=>some (Obj.cells c e f)) (Array.toList_inj.1 hc)
theorem syn_of {W:World} (h:Lib.VarReads Tryd.prog W "strconv.ErrSyntax" Rows.laid_strconv_ErrSyntax):∃t p e f,HM W 4=some (.cells #[.iface t p] e f):=
 ifa_of (by kernel_rfl) (by kernel_rfl) h
theorem rng_of {W:World} (h:Lib.VarReads Tryd.prog W "strconv.ErrRange" Rows.laid_strconv_ErrRange):∃t p e f,HM W 5=some (.cells #[.iface t p] e f):=
 ifa_of (by kernel_rfl) (by kernel_rfl) h
end Go.Proofs.YtjecddabdlapbaaDoor.core

