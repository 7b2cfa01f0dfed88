/- Contracts and what they hang on, of several parts. No condition. -/
import Derived.Shelf.Strings.OnBuilder
import Derived.Shelf.Strings.BuilderK
import Derived.Shelf.LaysM
import Derived.Shelf.Strconv.Itoa3
import Derived.Shelf.LaysC
import Derived.Shelf.Strconv.AtoiAll
import Derived.Shelf.Strconv.ErrVarAll
import Derived.Shelf.Strings.Search3
import Derived.Shelf.Strings.Prefix
import Derived.Shelf.Strings.Split
import Derived.Shelf.Strings.Repeat
import Derived.Test.YtleaplmdgckmkaaGreatDoorCoreX
import Derived.Test.YtleaplmdgckmkaaGreatDoorDeskG
import Derived.Lib.AtoiErrMem
import Derived.Lib.AppendIntMem
import Derived.Test.YtleaplmdgckmkaaGreatDoorM2
import Derived.Test.YtleaplmdgckmkaaGreatDoorReadG
import Derived.Test.YtleaplmdgckmkaaGreatDoorWfSX
import Derived.Tactics
import Derived.Tactics2
import Derived.Defers
import Derived.Recover
import Derived.Laws.Pointers
import Derived.Test.YtleaplmdgckmkaaGreatDoorM3
namespace Go.Proofs.YtleaplmdgckmkaaGreatDoor.core
open Go.Gx Go.RowKit Go.ChangeShapes Go.WideShapes Go.ChangeAt
set_option linter.unusedVariables false
open Go.Shelf
def qgj:Go.Shelf.Ren:=⟨λ|169=>32|n=>n,λ|70=>71|9=>9|0=>0|72=>74|37=>72|127=>118|3=>3|5=>5|n=>n,λ|n=>n⟩
theorem qoh:Go.Proofs.Lays.n169 Tryz.prog qgj:={
 mixed:=by kernel_rfl
 f169:=Tryz.func32.trans (congrArg some (by kernel_rfl))
 t0:=Tryz.underlying0
 a0:=Tryz.isAgg0
 z0:=Tryz.sizeOf0
 v0:=Tryz.zeroValue0
 t3:=Tryz.underlying3
 a3:=Tryz.isAgg3
 z3:=Tryz.sizeOf3
 v3:=Tryz.zeroValue3
 t9:=Tryz.underlying9
 a9:=Tryz.isAgg9
 z9:=Tryz.sizeOf9
 v9:=Tryz.zeroValue9
 t37:=Tryz.underlying72
 a37:=Tryz.isAgg72
 z37:=Tryz.sizeOf72
 v37:=Tryz.zeroValue72
 t70:=Tryz.underlying71
 a70:=Tryz.isAgg71
 z70:=Tryz.sizeOf71
 v70:=Tryz.zeroValue71
 t72:=Tryz.underlying74
 a72:=Tryz.isAgg74
 z72:=Tryz.sizeOf74
 v72:=Tryz.zeroValue74
 t127:=Tryz.underlying118
 a127:=Tryz.isAgg118
 z127:=Tryz.sizeOf118
 v127:=Tryz.zeroValue118}
theorem qgb:Builder.Extra Tryz.prog qgj:={
 sizeBuilder:=by kernel_rfl
 liesBuilder:=by kernel_rfl
 t5:=Tryz.underlying5
 a5:=Tryz.isAgg5
 z5:=Tryz.sizeOf5
 v5:=Tryz.zeroValue5
 infoByte:=by kernel_rfl
 cellsByte:=by kernel_rfl
 sizeByte:=by kernel_rfl
 neB5:=by decide}
def qgk:Go.Shelf.Ren:=⟨λ|156=>73|165=>35|166=>29|169=>32|240=>55|241=>64|276=>85|277=>106|n=>n,λ|31=>33|9=>9|3=>3|4=>4|0=>0|20=>20|72=>74|76=>77|70=>71|37=>72|75=>76|127=>118|164=>149|5=>5|80=>81|n=>n,λ|n=>n⟩
theorem qjD:Go.Proofs.Lays.n156 Tryz.prog qgk:={
 mixed:=by kernel_rfl
 f156:=Tryz.func73.trans (congrArg some (by kernel_rfl))
 f165:=Tryz.func35.trans (congrArg some (by kernel_rfl))
 f166:=Tryz.func29.trans (congrArg some (by kernel_rfl))
 f169:=Tryz.func32.trans (congrArg some (by kernel_rfl))
 f240:=Tryz.func55.trans (congrArg some (by kernel_rfl))
 f241:=Tryz.func64.trans (congrArg some (by kernel_rfl))
 f276:=Tryz.func85.trans (congrArg some (by kernel_rfl))
 f277:=Tryz.func106.trans (congrArg some (by kernel_rfl))
 t0:=Tryz.underlying0
 a0:=Tryz.isAgg0
 z0:=Tryz.sizeOf0
 v0:=Tryz.zeroValue0
 t3:=Tryz.underlying3
 a3:=Tryz.isAgg3
 z3:=Tryz.sizeOf3
 v3:=Tryz.zeroValue3
 t4:=Tryz.underlying4
 a4:=Tryz.isAgg4
 z4:=Tryz.sizeOf4
 v4:=Tryz.zeroValue4
 t9:=Tryz.underlying9
 a9:=Tryz.isAgg9
 z9:=Tryz.sizeOf9
 v9:=Tryz.zeroValue9
 t20:=Tryz.underlying20
 a20:=Tryz.isAgg20
 z20:=Tryz.sizeOf20
 v20:=Tryz.zeroValue20
 t31:=Tryz.underlying33
 a31:=Tryz.isAgg33
 z31:=Tryz.sizeOf33
 v31:=Tryz.zeroValue33
 t37:=Tryz.underlying72
 a37:=Tryz.isAgg72
 z37:=Tryz.sizeOf72
 v37:=Tryz.zeroValue72
 t70:=Tryz.underlying71
 a70:=Tryz.isAgg71
 z70:=Tryz.sizeOf71
 v70:=Tryz.zeroValue71
 t72:=Tryz.underlying74
 a72:=Tryz.isAgg74
 z72:=Tryz.sizeOf74
 v72:=Tryz.zeroValue74
 t75:=Tryz.underlying76
 a75:=Tryz.isAgg76
 z75:=Tryz.sizeOf76
 v75:=Tryz.zeroValue76
 t76:=Tryz.underlying77
 a76:=Tryz.isAgg77
 z76:=Tryz.sizeOf77
 v76:=Tryz.zeroValue77
 t127:=Tryz.underlying118
 a127:=Tryz.isAgg118
 z127:=Tryz.sizeOf118
 v127:=Tryz.zeroValue118
 t164:=Tryz.underlying149
 a164:=Tryz.isAgg149
 z164:=Tryz.sizeOf149
 v164:=Tryz.zeroValue149}
theorem qdD:Builder.Extra Tryz.prog qgk:={
 sizeBuilder:=by kernel_rfl
 liesBuilder:=by kernel_rfl
 t5:=Tryz.underlying5
 a5:=Tryz.isAgg5
 z5:=Tryz.sizeOf5
 v5:=Tryz.zeroValue5
 infoByte:=by kernel_rfl
 cellsByte:=by kernel_rfl
 sizeByte:=by kernel_rfl
 neB5:=by decide}
open Go.RowKit in
theorem qga (a:Option Addr) (c:Nat) (sep:ByteArray) (w:World):
  Calls Tryz.prog 73 #[.slice a 0 c,.string sep] w λe w'=>e= .returned (.string ⟨#[]⟩)/\w'=w:=Any.strings_Join_none qjD qdD a c sep w
open Go.RowKit in
theorem qiB (bk o c:Nat) (xs:List ByteArray) (sep:ByteArray) (w:World) (hcells:∀(j:Nat) x,xs[j]?=some x->w.cell? ⟨bk,o+j,none⟩=some (.string x)) (hbk:bk<w.heap.size) (hN:xs.length<=140737488355328) (hcap:xs.length<=c) (hlen:(Lib.join (xs.map (·.data.toList)) sep.data.toList).length<=140737488355328):
  Calls Tryz.prog 73 #[.slice (some ⟨bk,o,none⟩) xs.length c,.string sep] w λe w'=>e= .returned (.string ⟨(Lib.join (xs.map (·.data.toList)) sep.data.toList).toArray⟩)/\Below w.heap.size w w':=Any.strings_Join qjD qdD bk o c xs sep w hcells hbk hN hcap hlen
open Go.RowKit in
theorem qeY (B b:Nat) (l:List UInt8) (w:World) (h:Lib.IsBuilderF 74 5 B b (Lib.byteCells l) w) (hBw:B<=w.heap.size):
  Calls Tryz.prog 32 #[.pointer (some ⟨b,0,none⟩)] w λe w'=>e= .returned (.string ⟨l.toArray⟩)/\(Lib.IsBuilderF 74 5 B b (Lib.byteCells l) w'/\Below B w w'/\Lib.OthersKept 5 (some b) w w'):=Any.Builder_String_any_k qoh qgb B b l w h hBw
def qiD:Go.Shelf.Ren:=⟨λ|171=>37|243=>65|246=>107|283=>145|284=>146|285=>147|286=>148|129=>175|317=>174|318=>176|319=>177|320=>178|337=>210|338=>152|n=>n,λ|3=>3|9=>9|2=>2|4=>4|171=>200|0=>0|53=>45|37=>72|5=>5|173=>203|212=>245|51=>119|20=>20|213=>246|46=>82|232=>316|233=>250|n=>n,λ|17=>3|18=>5|19=>4|n=>n⟩
theorem qmd:Go.Proofs.LaysM.n171 Tryz.prog qiD:={
 mixed:=by kernel_rfl
 f129:=Tryz.func175.trans (congrArg some (by kernel_rfl))
 f171:=Tryz.func37.trans (congrArg some (by kernel_rfl))
 f243:=Tryz.func65.trans (congrArg some (by kernel_rfl))
 f246:=Tryz.func107.trans (congrArg some (by kernel_rfl))
 f283:=Tryz.func145.trans (congrArg some (by kernel_rfl))
 f284:=Tryz.func146.trans (congrArg some (by kernel_rfl))
 f285:=Tryz.func147.trans (congrArg some (by kernel_rfl))
 f286:=Tryz.func148.trans (congrArg some (by kernel_rfl))
 f317:=Tryz.func174.trans (congrArg some (by kernel_rfl))
 f318:=Tryz.func176.trans (congrArg some (by kernel_rfl))
 f319:=Tryz.func177.trans (congrArg some (by kernel_rfl))
 f320:=Tryz.func178.trans (congrArg some (by kernel_rfl))
 f337:=Tryz.func210.trans (congrArg some (by kernel_rfl))
 f338:=Tryz.func152.trans (congrArg some (by kernel_rfl))
 t0:=Tryz.underlying0
 a0:=Tryz.isAgg0
 z0:=Tryz.sizeOf0
 v0:=Tryz.zeroValue0
 t2:=Tryz.underlying2
 a2:=Tryz.isAgg2
 z2:=Tryz.sizeOf2
 v2:=Tryz.zeroValue2
 t3:=Tryz.underlying3
 a3:=Tryz.isAgg3
 z3:=Tryz.sizeOf3
 v3:=Tryz.zeroValue3
 t4:=Tryz.underlying4
 a4:=Tryz.isAgg4
 z4:=Tryz.sizeOf4
 v4:=Tryz.zeroValue4
 t5:=Tryz.underlying5
 a5:=Tryz.isAgg5
 z5:=Tryz.sizeOf5
 v5:=Tryz.zeroValue5
 t9:=Tryz.underlying9
 a9:=Tryz.isAgg9
 z9:=Tryz.sizeOf9
 v9:=Tryz.zeroValue9
 t20:=Tryz.underlying20
 a20:=Tryz.isAgg20
 z20:=Tryz.sizeOf20
 v20:=Tryz.zeroValue20
 t37:=Tryz.underlying72
 a37:=Tryz.isAgg72
 z37:=Tryz.sizeOf72
 v37:=Tryz.zeroValue72
 t46:=Tryz.underlying82
 a46:=Tryz.isAgg82
 z46:=Tryz.sizeOf82
 v46:=Tryz.zeroValue82
 t51:=Tryz.underlying119
 a51:=Tryz.isAgg119
 z51:=Tryz.sizeOf119
 v51:=Tryz.zeroValue119
 t53:=Tryz.underlying45
 a53:=Tryz.isAgg45
 z53:=Tryz.sizeOf45
 v53:=Tryz.zeroValue45
 t171:=Tryz.underlying200
 a171:=Tryz.isAgg200
 z171:=Tryz.sizeOf200
 v171:=Tryz.zeroValue200
 t173:=Tryz.underlying203
 a173:=Tryz.isAgg203
 z173:=Tryz.sizeOf203
 v173:=Tryz.zeroValue203
 t212:=Tryz.underlying245
 a212:=Tryz.isAgg245
 z212:=Tryz.sizeOf245
 v212:=Tryz.zeroValue245
 t213:=Tryz.underlying246
 a213:=Tryz.isAgg246
 z213:=Tryz.sizeOf246
 t232:=Tryz.underlying316
 a232:=Tryz.isAgg316
 z232:=Tryz.sizeOf316
 v232:=Tryz.zeroValue316
 t233:=Tryz.underlying250
 a233:=Tryz.isAgg250
 z233:=Tryz.sizeOf250
 v233:=Tryz.zeroValue250
 g17:=by kernel_rfl
 g18:=by kernel_rfl
 g19:=by kernel_rfl
 i0:=by kernel_rfl
 i2:=by kernel_rfl
 i3:=by kernel_rfl
 i4:=by kernel_rfl
 i5:=by kernel_rfl
 i9:=by kernel_rfl
 i20:=by kernel_rfl
 i37:=by kernel_rfl
 i46:=by kernel_rfl
 i51:=by kernel_rfl
 i53:=by kernel_rfl
 i171:=by kernel_rfl
 i173:=by kernel_rfl
 i212:=by kernel_rfl
 i232:=by kernel_rfl
 i233:=by kernel_rfl
 m17:=by kernel_rfl
 m18:=by kernel_rfl
 m19:=by kernel_rfl}
open Go.RowKit Go.Sort Go.Lib in
theorem qiC (n:Int) (h0: -9223372036854775808<=n) (h1:n<=9223372036854775807) (w:World) (htab:Lib.TabIs Tryz.prog w "internal/strconv.uint64pow10" .u64 Lib.pow10Tab):
  Calls Tryz.prog 37 #[.int .i64 n] w λe w'=>e= .returned (.string ⟨(Lib.itoa n).toArray⟩)/\∃k os,w'=grow (w.drewN k) os:=Any.strconv_Itoa qmd n h0 h1 w htab
def qiE:Go.Shelf.Ren:=⟨λ|172=>155|244=>188|245=>189|247=>217|279=>218|280=>219|281=>220|282=>221|287=>243|316=>244|171=>37|205=>245|321=>250|322=>251|243=>65|246=>107|283=>145|284=>146|285=>147|286=>148|129=>175|317=>174|318=>176|319=>177|320=>178|337=>210|338=>152|n=>n,λ|9=>9|3=>3|75=>76|76=>77|4=>4|5=>5|167=>297|37=>72|0=>0|85=>298|2=>2|168=>300|53=>45|175=>320|46=>82|210=>323|127=>118|145=>330|143=>328|21=>21|171=>200|173=>203|212=>245|51=>119|20=>20|213=>246|232=>316|233=>250|80=>81|n=>n,λ|15=>6|16=>7|17=>3|18=>5|19=>4|n=>n⟩
theorem qme:Go.Proofs.LaysC.n172 Tryz.prog qiE:={
 mixed:=by kernel_rfl
 f129:=Tryz.func175.trans (congrArg some (by kernel_rfl))
 f171:=Tryz.func37.trans (congrArg some (by kernel_rfl))
 f172:=Tryz.func155.trans (congrArg some (by kernel_rfl))
 f205:=Tryz.func245.trans (congrArg some (by kernel_rfl))
 f243:=Tryz.func65.trans (congrArg some (by kernel_rfl))
 f244:=Tryz.func188.trans (congrArg some (by kernel_rfl))
 f245:=Tryz.func189.trans (congrArg some (by kernel_rfl))
 f246:=Tryz.func107.trans (congrArg some (by kernel_rfl))
 f247:=Tryz.func217.trans (congrArg some (by kernel_rfl))
 f279:=Tryz.func218.trans (congrArg some (by kernel_rfl))
 f280:=Tryz.func219.trans (congrArg some (by kernel_rfl))
 f281:=Tryz.func220.trans (congrArg some (by kernel_rfl))
 f282:=Tryz.func221.trans (congrArg some (by kernel_rfl))
 f283:=Tryz.func145.trans (congrArg some (by kernel_rfl))
 f284:=Tryz.func146.trans (congrArg some (by kernel_rfl))
 f285:=Tryz.func147.trans (congrArg some (by kernel_rfl))
 f286:=Tryz.func148.trans (congrArg some (by kernel_rfl))
 f287:=Tryz.func243.trans (congrArg some (by kernel_rfl))
 f316:=Tryz.func244.trans (congrArg some (by kernel_rfl))
 f317:=Tryz.func174.trans (congrArg some (by kernel_rfl))
 f318:=Tryz.func176.trans (congrArg some (by kernel_rfl))
 f319:=Tryz.func177.trans (congrArg some (by kernel_rfl))
 f320:=Tryz.func178.trans (congrArg some (by kernel_rfl))
 f321:=Tryz.func250.trans (congrArg some (by kernel_rfl))
 f322:=Tryz.func251.trans (congrArg some (by kernel_rfl))
 f337:=Tryz.func210.trans (congrArg some (by kernel_rfl))
 f338:=Tryz.func152.trans (congrArg some (by kernel_rfl))
 t0:=Tryz.underlying0
 a0:=Tryz.isAgg0
 z0:=Tryz.sizeOf0
 v0:=Tryz.zeroValue0
 t2:=Tryz.underlying2
 a2:=Tryz.isAgg2
 z2:=Tryz.sizeOf2
 v2:=Tryz.zeroValue2
 t3:=Tryz.underlying3
 a3:=Tryz.isAgg3
 z3:=Tryz.sizeOf3
 v3:=Tryz.zeroValue3
 t4:=Tryz.underlying4
 a4:=Tryz.isAgg4
 z4:=Tryz.sizeOf4
 v4:=Tryz.zeroValue4
 t5:=Tryz.underlying5
 a5:=Tryz.isAgg5
 z5:=Tryz.sizeOf5
 v5:=Tryz.zeroValue5
 t9:=Tryz.underlying9
 a9:=Tryz.isAgg9
 z9:=Tryz.sizeOf9
 v9:=Tryz.zeroValue9
 t20:=Tryz.underlying20
 a20:=Tryz.isAgg20
 z20:=Tryz.sizeOf20
 v20:=Tryz.zeroValue20
 t21:=Tryz.underlying21
 a21:=Tryz.isAgg21
 z21:=Tryz.sizeOf21
 v21:=Tryz.zeroValue21
 t37:=Tryz.underlying72
 a37:=Tryz.isAgg72
 z37:=Tryz.sizeOf72
 v37:=Tryz.zeroValue72
 t46:=Tryz.underlying82
 a46:=Tryz.isAgg82
 z46:=Tryz.sizeOf82
 v46:=Tryz.zeroValue82
 t51:=Tryz.underlying119
 a51:=Tryz.isAgg119
 z51:=Tryz.sizeOf119
 v51:=Tryz.zeroValue119
 t53:=Tryz.underlying45
 a53:=Tryz.isAgg45
 z53:=Tryz.sizeOf45
 v53:=Tryz.zeroValue45
 t75:=Tryz.underlying76
 a75:=Tryz.isAgg76
 z75:=Tryz.sizeOf76
 v75:=Tryz.zeroValue76
 t76:=Tryz.underlying77
 a76:=Tryz.isAgg77
 z76:=Tryz.sizeOf77
 v76:=Tryz.zeroValue77
 t85:=Tryz.underlying298
 a85:=Tryz.isAgg298
 z85:=Tryz.sizeOf298
 v85:=Tryz.zeroValue298
 t127:=Tryz.underlying118
 a127:=Tryz.isAgg118
 z127:=Tryz.sizeOf118
 v127:=Tryz.zeroValue118
 t143:=Tryz.underlying328
 a143:=Tryz.isAgg328
 z143:=Tryz.sizeOf328
 v143:=Tryz.zeroValue328
 t145:=Tryz.underlying330
 a145:=Tryz.isAgg330
 z145:=Tryz.sizeOf330
 v145:=Tryz.zeroValue330
 t167:=Tryz.underlying297
 a167:=Tryz.isAgg297
 z167:=Tryz.sizeOf297
 v167:=Tryz.zeroValue297
 t168:=Tryz.underlying300
 a168:=Tryz.isAgg300
 z168:=Tryz.sizeOf300
 v168:=Tryz.zeroValue300
 t171:=Tryz.underlying200
 a171:=Tryz.isAgg200
 z171:=Tryz.sizeOf200
 v171:=Tryz.zeroValue200
 t173:=Tryz.underlying203
 a173:=Tryz.isAgg203
 z173:=Tryz.sizeOf203
 v173:=Tryz.zeroValue203
 t175:=Tryz.underlying320
 a175:=Tryz.isAgg320
 z175:=Tryz.sizeOf320
 v175:=Tryz.zeroValue320
 t210:=Tryz.underlying323
 a210:=Tryz.isAgg323
 z210:=Tryz.sizeOf323
 v210:=Tryz.zeroValue323
 t212:=Tryz.underlying245
 a212:=Tryz.isAgg245
 z212:=Tryz.sizeOf245
 v212:=Tryz.zeroValue245
 t213:=Tryz.underlying246
 a213:=Tryz.isAgg246
 z213:=Tryz.sizeOf246
 t232:=Tryz.underlying316
 a232:=Tryz.isAgg316
 z232:=Tryz.sizeOf316
 v232:=Tryz.zeroValue316
 t233:=Tryz.underlying250
 a233:=Tryz.isAgg250
 z233:=Tryz.sizeOf250
 v233:=Tryz.zeroValue250
 g15:=by kernel_rfl
 g16:=by kernel_rfl
 g17:=by kernel_rfl
 g18:=by kernel_rfl
 g19:=by kernel_rfl
 t80:=Tryz.underlying81
 a80:=Tryz.isAgg81
 z80:=Tryz.sizeOf81
 v80:=Tryz.zeroValue81
 i0:=by kernel_rfl
 i2:=by kernel_rfl
 i3:=by kernel_rfl
 i4:=by kernel_rfl
 i5:=by kernel_rfl
 i9:=by kernel_rfl
 i20:=by kernel_rfl
 i21:=by kernel_rfl
 i37:=by kernel_rfl
 i46:=by kernel_rfl
 i51:=by kernel_rfl
 i53:=by kernel_rfl
 i75:=by kernel_rfl
 i76:=by kernel_rfl
 i80:=by kernel_rfl
 i85:=by kernel_rfl
 i127:=by kernel_rfl
 i143:=by kernel_rfl
 i145:=by kernel_rfl
 i167:=by kernel_rfl
 i168:=by kernel_rfl
 i171:=by kernel_rfl
 i173:=by kernel_rfl
 i175:=by kernel_rfl
 i210:=by kernel_rfl
 i212:=by kernel_rfl
 i232:=by kernel_rfl
 i233:=by kernel_rfl
 m15:=by kernel_rfl
 m16:=by kernel_rfl
 m17:=by kernel_rfl
 m18:=by kernel_rfl
 m19:=by kernel_rfl
 c0:=by kernel_rfl
 c2:=by kernel_rfl
 c3:=by kernel_rfl
 c4:=by kernel_rfl
 c5:=by kernel_rfl
 c9:=by kernel_rfl
 c20:=by kernel_rfl
 c21:=by kernel_rfl
 c37:=by kernel_rfl
 c46:=by kernel_rfl
 c51:=by kernel_rfl
 c53:=by kernel_rfl
 c75:=by kernel_rfl
 c76:=by kernel_rfl
 c80:=by kernel_rfl
 c85:=by kernel_rfl
 c127:=by kernel_rfl
 c143:=by kernel_rfl
 c145:=by kernel_rfl
 c167:=by kernel_rfl
 c168:=by kernel_rfl
 c171:=by kernel_rfl
 c173:=by kernel_rfl
 c175:=by kernel_rfl
 c210:=by kernel_rfl
 c212:=by kernel_rfl
 c213:=by kernel_rfl
 c232:=by kernel_rfl
 c233:=by kernel_rfl}
open Go.RowKit in
theorem qgV (s:ByteArray) (hmax:s.size<=9223372036854775806) (v:Int) (h:Lib.atoiAll s.data.toList= .ok v) (w:World):
  Calls Tryz.prog 155 #[.string s] w λe w'=>e= .returned (.tuple #[.int .i64 v,.nilIface])/\(w'=w\/∃t,w'=Lib.bytesWorld w 5 t):=Any.strconv_Atoi_ok qme s hmax v h w
def qji:Go.Shelf.Ren:=⟨λ|143=>26|219=>51|217=>78|225=>79|224=>80|267=>81|266=>115|314=>116|n=>n,λ|9=>9|3=>3|4=>4|5=>5|46=>82|146=>120|51=>119|n=>n,λ|1=>0|n=>n⟩
theorem qoj:Go.Proofs.Lays.n143 Tryz.prog qji:={
 mixed:=by kernel_rfl
 f143:=Tryz.func26.trans (congrArg some (by kernel_rfl))
 f217:=Tryz.func78.trans (congrArg some (by kernel_rfl))
 f219:=Tryz.func51.trans (congrArg some (by kernel_rfl))
 f224:=Tryz.func80.trans (congrArg some (by kernel_rfl))
 f225:=Tryz.func79.trans (congrArg some (by kernel_rfl))
 f266:=Tryz.func115.trans (congrArg some (by kernel_rfl))
 f267:=Tryz.func81.trans (congrArg some (by kernel_rfl))
 f314:=Tryz.func116.trans (congrArg some (by kernel_rfl))
 t3:=Tryz.underlying3
 a3:=Tryz.isAgg3
 z3:=Tryz.sizeOf3
 v3:=Tryz.zeroValue3
 t4:=Tryz.underlying4
 a4:=Tryz.isAgg4
 z4:=Tryz.sizeOf4
 v4:=Tryz.zeroValue4
 t5:=Tryz.underlying5
 a5:=Tryz.isAgg5
 z5:=Tryz.sizeOf5
 v5:=Tryz.zeroValue5
 t9:=Tryz.underlying9
 a9:=Tryz.isAgg9
 z9:=Tryz.sizeOf9
 v9:=Tryz.zeroValue9
 t46:=Tryz.underlying82
 a46:=Tryz.isAgg82
 z46:=Tryz.sizeOf82
 v46:=Tryz.zeroValue82
 t51:=Tryz.underlying119
 a51:=Tryz.isAgg119
 z51:=Tryz.sizeOf119
 v51:=Tryz.zeroValue119
 t146:=Tryz.underlying120
 a146:=Tryz.isAgg120
 z146:=Tryz.sizeOf120
 v146:=Tryz.zeroValue120
 g1:=by kernel_rfl}
open Go.RowKit Go.Lib in
theorem qia (s sub:ByteArray) (m:Int) (w:World) (hs:s.size<4294967281) (hm:w.cell? ⟨0,0,none⟩=some (.int .i64 m)):
  Calls Tryz.prog 26 #[.string s,.string sub] w λe w'=>e= .returned (.int .i64 (Lib.index s.data.toList sub.data.toList))/\w'=w:=Any.strings_Index qoj s sub m w hs hm
def qjk:Go.Shelf.Ren:=⟨λ|101=>57|208=>86|206=>63|n=>n,λ|9=>9|4=>4|3=>3|n=>n,λ|n=>n⟩
theorem qom:Go.Proofs.Lays.n101 Tryz.prog qjk:={
 mixed:=by kernel_rfl
 f101:=Tryz.func57.trans (congrArg some (by kernel_rfl))
 f206:=Tryz.func63.trans (congrArg some (by kernel_rfl))
 f208:=Tryz.func86.trans (congrArg some (by kernel_rfl))
 t3:=Tryz.underlying3
 a3:=Tryz.isAgg3
 z3:=Tryz.sizeOf3
 v3:=Tryz.zeroValue3
 t4:=Tryz.underlying4
 a4:=Tryz.isAgg4
 z4:=Tryz.sizeOf4
 v4:=Tryz.zeroValue4
 t9:=Tryz.underlying9
 a9:=Tryz.isAgg9
 z9:=Tryz.sizeOf9
 v9:=Tryz.zeroValue9}
open Go.RowKit Go.Lib in
theorem qfB (s p:ByteArray) (w:World):
  Calls Tryz.prog 57 #[.string s,.string p] w λe w'=>e= .returned (.string ⟨(Lib.trimPrefix s.data.toList p.data.toList).toArray⟩)/\w'=w:=Any.strings_TrimPrefix qom s p w
def qjj:Go.Shelf.Ren:=⟨λ|102=>10|209=>28|207=>54|n=>n,λ|9=>9|4=>4|3=>3|n=>n,λ|n=>n⟩
theorem qol:Go.Proofs.Lays.n102 Tryz.prog qjj:={
 mixed:=by kernel_rfl
 f102:=Tryz.func10.trans (congrArg some (by kernel_rfl))
 f207:=Tryz.func54.trans (congrArg some (by kernel_rfl))
 f209:=Tryz.func28.trans (congrArg some (by kernel_rfl))
 t3:=Tryz.underlying3
 a3:=Tryz.isAgg3
 z3:=Tryz.sizeOf3
 v3:=Tryz.zeroValue3
 t4:=Tryz.underlying4
 a4:=Tryz.isAgg4
 z4:=Tryz.sizeOf4
 v4:=Tryz.zeroValue4
 t9:=Tryz.underlying9
 a9:=Tryz.isAgg9
 z9:=Tryz.sizeOf9
 v9:=Tryz.zeroValue9}
open Go.RowKit Go.Lib in
theorem qfA (s p:ByteArray) (w:World) (hs:s.size<=9223372036854775807):
  Calls Tryz.prog 10 #[.string s,.string p] w λe w'=>e= .returned (.string ⟨(Lib.trimSuffix s.data.toList p.data.toList).toArray⟩)/\w'=w:=Any.strings_TrimSuffix qol s p w hs
def qjh:Go.Shelf.Ren:=⟨λ|146=>9|221=>27|268=>52|138=>53|143=>26|195=>82|197=>83|218=>84|219=>51|260=>117|217=>78|225=>79|224=>80|267=>81|266=>115|314=>116|n=>n,λ|9=>9|31=>33|3=>3|4=>4|0=>0|105=>147|21=>21|5=>5|46=>82|119=>206|139=>209|138=>208|146=>120|51=>119|n=>n,λ|1=>0|3=>1|4=>2|n=>n⟩
theorem qoi:Go.Proofs.Lays.n146 Tryz.prog qjh:={
 mixed:=by kernel_rfl
 f138:=Tryz.func53.trans (congrArg some (by kernel_rfl))
 f143:=Tryz.func26.trans (congrArg some (by kernel_rfl))
 f146:=Tryz.func9.trans (congrArg some (by kernel_rfl))
 f195:=Tryz.func82.trans (congrArg some (by kernel_rfl))
 f197:=Tryz.func83.trans (congrArg some (by kernel_rfl))
 f217:=Tryz.func78.trans (congrArg some (by kernel_rfl))
 f218:=Tryz.func84.trans (congrArg some (by kernel_rfl))
 f219:=Tryz.func51.trans (congrArg some (by kernel_rfl))
 f221:=Tryz.func27.trans (congrArg some (by kernel_rfl))
 f224:=Tryz.func80.trans (congrArg some (by kernel_rfl))
 f225:=Tryz.func79.trans (congrArg some (by kernel_rfl))
 f260:=Tryz.func117.trans (congrArg some (by kernel_rfl))
 f266:=Tryz.func115.trans (congrArg some (by kernel_rfl))
 f267:=Tryz.func81.trans (congrArg some (by kernel_rfl))
 f268:=Tryz.func52.trans (congrArg some (by kernel_rfl))
 f314:=Tryz.func116.trans (congrArg some (by kernel_rfl))
 t0:=Tryz.underlying0
 a0:=Tryz.isAgg0
 z0:=Tryz.sizeOf0
 v0:=Tryz.zeroValue0
 t3:=Tryz.underlying3
 a3:=Tryz.isAgg3
 z3:=Tryz.sizeOf3
 v3:=Tryz.zeroValue3
 t4:=Tryz.underlying4
 a4:=Tryz.isAgg4
 z4:=Tryz.sizeOf4
 v4:=Tryz.zeroValue4
 t5:=Tryz.underlying5
 a5:=Tryz.isAgg5
 z5:=Tryz.sizeOf5
 v5:=Tryz.zeroValue5
 t9:=Tryz.underlying9
 a9:=Tryz.isAgg9
 z9:=Tryz.sizeOf9
 v9:=Tryz.zeroValue9
 t21:=Tryz.underlying21
 a21:=Tryz.isAgg21
 z21:=Tryz.sizeOf21
 v21:=Tryz.zeroValue21
 t31:=Tryz.underlying33
 a31:=Tryz.isAgg33
 z31:=Tryz.sizeOf33
 v31:=Tryz.zeroValue33
 t46:=Tryz.underlying82
 a46:=Tryz.isAgg82
 z46:=Tryz.sizeOf82
 v46:=Tryz.zeroValue82
 t51:=Tryz.underlying119
 a51:=Tryz.isAgg119
 z51:=Tryz.sizeOf119
 v51:=Tryz.zeroValue119
 t105:=Tryz.underlying147
 a105:=Tryz.isAgg147
 z105:=Tryz.sizeOf147
 v105:=Tryz.zeroValue147
 t119:=Tryz.underlying206
 a119:=Tryz.isAgg206
 z119:=Tryz.sizeOf206
 t138:=Tryz.underlying208
 a138:=Tryz.isAgg208
 z138:=Tryz.sizeOf208
 v138:=Tryz.zeroValue208
 t139:=Tryz.underlying209
 a139:=Tryz.isAgg209
 z139:=Tryz.sizeOf209
 v139:=Tryz.zeroValue209
 t146:=Tryz.underlying120
 a146:=Tryz.isAgg120
 z146:=Tryz.sizeOf120
 v146:=Tryz.zeroValue120
 g1:=by kernel_rfl
 g3:=by kernel_rfl
 g4:=by kernel_rfl}
open Go.RowKit Go.Lib in
theorem qh9 (s sep:ByteArray) (m:Int) (w:World) (hs:s.size<4294967281) (hm:w.cell? ⟨0,0,none⟩=some (.int .i64 m)) (h1:1<=sep.size):
  Calls Tryz.prog 9 #[.string s,.string sep] w λe w'=>
   e= .returned (.slice (some ⟨w.heap.size,0,none⟩) (Lib.countB s sep+1) (Lib.countB s sep+1))/\w'=w.alloc (.cells ((Lib.splitB sep 0 (Lib.countB s sep) s).map Value.string).toArray 9):=Any.strings_Split qoi (by kernel_rfl) s sep m w hs hm h1
def qgl:Go.Shelf.Ren:=⟨λ|105=>12|212=>33|99=>34|165=>35|166=>29|170=>36|169=>32|263=>61|264=>62|206=>63|240=>55|241=>64|276=>85|277=>106|n=>n,λ|9=>9|3=>3|4=>4|20=>20|0=>0|46=>82|109=>83|5=>5|72=>74|76=>77|51=>119|146=>120|53=>45|148=>122|70=>71|37=>72|75=>76|127=>118|164=>149|80=>81|n=>n,λ|n=>n⟩
theorem qok:Go.Proofs.Lays.n105 Tryz.prog qgl:={
 mixed:=by kernel_rfl
 f99:=Tryz.func34.trans (congrArg some (by kernel_rfl))
 f105:=Tryz.func12.trans (congrArg some (by kernel_rfl))
 f165:=Tryz.func35.trans (congrArg some (by kernel_rfl))
 f166:=Tryz.func29.trans (congrArg some (by kernel_rfl))
 f169:=Tryz.func32.trans (congrArg some (by kernel_rfl))
 f170:=Tryz.func36.trans (congrArg some (by kernel_rfl))
 f206:=Tryz.func63.trans (congrArg some (by kernel_rfl))
 f212:=Tryz.func33.trans (congrArg some (by kernel_rfl))
 f240:=Tryz.func55.trans (congrArg some (by kernel_rfl))
 f241:=Tryz.func64.trans (congrArg some (by kernel_rfl))
 f263:=Tryz.func61.trans (congrArg some (by kernel_rfl))
 f264:=Tryz.func62.trans (congrArg some (by kernel_rfl))
 f276:=Tryz.func85.trans (congrArg some (by kernel_rfl))
 f277:=Tryz.func106.trans (congrArg some (by kernel_rfl))
 t0:=Tryz.underlying0
 a0:=Tryz.isAgg0
 z0:=Tryz.sizeOf0
 v0:=Tryz.zeroValue0
 t3:=Tryz.underlying3
 a3:=Tryz.isAgg3
 z3:=Tryz.sizeOf3
 v3:=Tryz.zeroValue3
 t4:=Tryz.underlying4
 a4:=Tryz.isAgg4
 z4:=Tryz.sizeOf4
 v4:=Tryz.zeroValue4
 t5:=Tryz.underlying5
 a5:=Tryz.isAgg5
 z5:=Tryz.sizeOf5
 v5:=Tryz.zeroValue5
 t9:=Tryz.underlying9
 a9:=Tryz.isAgg9
 z9:=Tryz.sizeOf9
 v9:=Tryz.zeroValue9
 t20:=Tryz.underlying20
 a20:=Tryz.isAgg20
 z20:=Tryz.sizeOf20
 v20:=Tryz.zeroValue20
 t37:=Tryz.underlying72
 a37:=Tryz.isAgg72
 z37:=Tryz.sizeOf72
 v37:=Tryz.zeroValue72
 t46:=Tryz.underlying82
 a46:=Tryz.isAgg82
 z46:=Tryz.sizeOf82
 v46:=Tryz.zeroValue82
 t51:=Tryz.underlying119
 a51:=Tryz.isAgg119
 z51:=Tryz.sizeOf119
 v51:=Tryz.zeroValue119
 t53:=Tryz.underlying45
 a53:=Tryz.isAgg45
 z53:=Tryz.sizeOf45
 v53:=Tryz.zeroValue45
 t70:=Tryz.underlying71
 a70:=Tryz.isAgg71
 z70:=Tryz.sizeOf71
 v70:=Tryz.zeroValue71
 t72:=Tryz.underlying74
 a72:=Tryz.isAgg74
 z72:=Tryz.sizeOf74
 v72:=Tryz.zeroValue74
 t75:=Tryz.underlying76
 a75:=Tryz.isAgg76
 z75:=Tryz.sizeOf76
 v75:=Tryz.zeroValue76
 t76:=Tryz.underlying77
 a76:=Tryz.isAgg77
 z76:=Tryz.sizeOf77
 v76:=Tryz.zeroValue77
 t109:=Tryz.underlying83
 a109:=Tryz.isAgg83
 z109:=Tryz.sizeOf83
 v109:=Tryz.zeroValue83
 t127:=Tryz.underlying118
 a127:=Tryz.isAgg118
 z127:=Tryz.sizeOf118
 v127:=Tryz.zeroValue118
 t146:=Tryz.underlying120
 a146:=Tryz.isAgg120
 z146:=Tryz.sizeOf120
 v146:=Tryz.zeroValue120
 t148:=Tryz.underlying122
 a148:=Tryz.isAgg122
 z148:=Tryz.sizeOf122
 v148:=Tryz.zeroValue122
 t164:=Tryz.underlying149
 a164:=Tryz.isAgg149
 z164:=Tryz.sizeOf149
 v164:=Tryz.zeroValue149}
theorem qgc:Builder.Extra Tryz.prog qgl:={
 sizeBuilder:=by kernel_rfl
 liesBuilder:=by kernel_rfl
 t5:=Tryz.underlying5
 a5:=Tryz.isAgg5
 z5:=Tryz.sizeOf5
 v5:=Tryz.zeroValue5
 infoByte:=by kernel_rfl
 cellsByte:=by kernel_rfl
 sizeByte:=by kernel_rfl
 neB5:=by decide}
open Go.RowKit Go.Lib in
theorem qhv (s:ByteArray) (c:Nat) (w:World) (hc:c<=9223372036854775807) (hlen:s.size*c<=140737488355328):
  Calls Tryz.prog 12 #[.string s,.int .i64 c] w λe w'=>e= .returned (.string ⟨(Lib.repeatL s.data.toList c).toArray⟩)/\Below w.heap.size w w':=Any.strings_Repeat qok qgc s c w hc hlen
end Go.Proofs.YtleaplmdgckmkaaGreatDoor.core
namespace Go.Proofs.YtleaplmdgckmkaaGreatDoor.core
open Go.Gx Go.RowKit Go.ChangeShapes Go.WideShapes Go.ChangeAt
set_option linter.unusedVariables false
def adr (b:Nat) (u:Bool):Option Addr:=if u then some ⟨b,0,none⟩ else none
def qbx (b2:Bool) (rn4:Nat) (rx5:List Value) (M:Mem) (K:Value->Bool->Nat->List Value->Mem->Prop):Prop:=∀(b1:Nat) (rv3:Value),qkJ Tryz.prog 55 #[(Value.pointer (some ⟨b1,0,none⟩))] M [⟨b1,74,[(Value.pointer (adr b1 b2)),rv3]⟩] [⟨rv3,5,1,rn4,rx5,false⟩] (λv lb' lr' M'=>∃(c9:Bool) (rn7:Nat) (rx8:List Value) (rv6:Value),lb'=[⟨b1,74,[(Value.pointer (adr b1 c9)),rv6]⟩]/\lr'=[⟨rv6,5,1,rn7,rx8,false⟩]/\K v c9 rn7 rx8 M')
def qbn (s6:List UInt8) (b2:Bool) (rn4:Nat) (rx5:List Value) (M:Mem) (K:Value->Bool->Nat->List Value->Mem->Prop):Prop:=∀(b1:Nat) (rv3:Value),qkJ Tryz.prog 29 #[(Value.pointer (some ⟨b1,0,none⟩)),(Value.string (mkS s6))] M [⟨b1,74,[(Value.pointer (adr b1 b2)),rv3]⟩] [⟨rv3,5,1,rn4,rx5,false⟩] (λv lb' lr' M'=>∃(c10:Bool) (rn8:Nat) (rx9:List Value) (rv7:Value),lb'=[⟨b1,74,[(Value.pointer (adr b1 c10)),rv7]⟩]/\lr'=[⟨rv7,5,1,rn8,rx9,false⟩]/\K v c10 rn8 rx9 M')
def qby (c6:Int) (b2:Bool) (rn4:Nat) (rx5:List Value) (M:Mem) (K:Value->Bool->Nat->List Value->Mem->Prop):Prop:=∀(b1:Nat) (rv3:Value),qkJ Tryz.prog 31 #[(Value.pointer (some ⟨b1,0,none⟩)),(Value.int .u8 c6)] M [⟨b1,74,[(Value.pointer (adr b1 b2)),rv3]⟩] [⟨rv3,5,1,rn4,rx5,false⟩] (λv lb' lr' M'=>∃(c10:Bool) (rn8:Nat) (rx9:List Value) (rv7:Value),lb'=[⟨b1,74,[(Value.pointer (adr b1 c10)),rv7]⟩]/\lr'=[⟨rv7,5,1,rn8,rx9,false⟩]/\K v c10 rn8 rx9 M')
def qb6 (s6:List UInt8) (b2:Bool) (rn4:Nat) (rx5:List Value) (M:Mem) (K:Value->Bool->Nat->List Value->Mem->Prop):Prop:=
 (qbx b2 rn4 rx5 M (λv c14 rn15 rx16 M13=>v=(Value.tuple #[])/\(rn15+s6.length<=140737488355328/\K (Value.tuple #[(Value.int .i64 ((s6.length:Nat):Int)),Value.nilIface]) c14 (rn15+s6.length) (rx16++Lib.strCells (mkS s6)) M13)))
set_option linter.unusedVariables false in
set_option maxRecDepth 100000 in
theorem qdz (s6:List UInt8) (b2:Bool) (rn4:Nat) (rx5:List Value) (M:Mem) (K:Value->Bool->Nat->List Value->Mem->Prop) (hS:qb6 s6 b2 rn4 rx5 M K):qbn s6 b2 rn4 rx5 M K:=by
 intro b1 rv3
 refine qqc Tryz.func29 rfl 19 rfl (Nat.le_of_ble_eq_true rfl) (λE a hs=>?_)
 unfold qb6 at hS
 have hMM:=MX.refl M E
 change Sx 19 E (blk [⟨b1,74,[(Value.pointer (adr b1 b2)),rv3]⟩] [⟨rv3,5,1,rn4,rx5,false⟩]) M E a [(0,(Value.pointer (some ⟨b1,0,none⟩))),(1,(Value.string (mkS s6)))] [⟨b1,74,[(Value.pointer (adr b1 b2)),rv3]⟩] [⟨rv3,5,1,rn4,rx5,false⟩]at hs
 refine Wp.seq (Wp.region (sP (Value.int .i64 0) hs λ_ hs=>?_))
 refine sP Value.nilIface hs λ_ hs=>?_
 refine wpList_nil (Wp.seq (Wp.region (sP (Value.pointer (some ⟨b1,0,none⟩)) hs λ_ hs=>?_)))
 refine qd0 [(Value.pointer (some ⟨b1,0,none⟩))] [⟨b1,74,[(Value.pointer (adr b1 b2)),rv3]⟩] [] [⟨rv3,5,1,rn4,rx5,false⟩] [] false hs rfl rfl rfl rfl ⟨_,rfl,rfl⟩ rfl Tryz.func55 rfl (by kernel_rfl) (by decide) (hS _ _) (λ_ _ M13 v lb lr hle hnew hS hs=>?_)
 have hMM:=hMM.next hle hnew
 obtain⟨c14,rn15,rx16,rv17,hlb,hlr,hS⟩:=hS
 subst hlb hlr
 obtain⟨hv,hS⟩:=hS
 subst hv
 replace hs:=hs.chbx (bs':=[⟨b1,74,[(Value.pointer (adr b1 c14)),rv17]⟩]) rfl
 replace hs:=hs.chrs (rs':=[⟨rv17,5,1,rn15,rx16,false⟩]) rfl
 refine wpList_nil (Wp.seq (Wp.region (sP (Value.pointer (some ⟨b1,0,none⟩)) hs λ_ hs=>?_)))
 refine sP (Value.pointer (some ⟨b1,0,none⟩)) hs λ_ hs=>?_
 refine sP (Value.pointer (some ⟨b1,0,none⟩)) hs λ_ hs=>?_
 refine sP (Value.pointer (some ⟨b1,1,none⟩)) hs λ_ hs=>?_
 refine sY rv17 hs (Yl.loadB (vs:=[rv17]) false 0 rfl rfl rfl (by kernel_rfl) rfl) λ_ hs=>?_
 refine sP (Value.string (mkS s6)) hs λ_ hs=>?_
 obtain⟨hB,hS⟩:=hS
 refine ql9 0 hs rfl rfl rfl rfl rfl (by kernel_rfl) (by kernel_rfl) (by kernel_rfl) (by decide) hB (λ_ _ rv18 hs=>?_)
 replace hs:=hs.chrs (rs':=[⟨rv18,5,1,(rn15+s6.length),(rx16++Lib.strCells (mkS s6)),false⟩]) rfl
 refine sP (Value.pointer (some ⟨b1,0,none⟩)) hs λ_ hs=>?_
 refine sP (Value.pointer (some ⟨b1,1,none⟩)) hs λ_ hs=>?_
 obtain⟨ad19,cap20,hv,hcp,hxl⟩:=hs.rowform 0 rfl
 dsimp only at hv hcp hxl
 subst hv
 refine qbB 0 (vs:=[(Value.slice ad19 (rn15+s6.length) cap20)]) hs rfl rfl rfl rfl rfl rfl (by kernel_rfl) (Nat.le_of_ble_eq_true rfl) rfl (λ_ _ hs=>?_)
 replace hs:=hs.chbx (bs':=[⟨b1,74,[(Value.pointer (adr b1 c14)),(Value.slice ad19 (rn15+s6.length) cap20)]⟩]) rfl
 refine wpList_nil (Wp.seq (Wp.region (sP (Value.string (mkS s6)) hs λ_ hs=>?_)))
 refine sP (Value.int .i64 ((s6.length:Nat):Int)) hs λ_ hs=>?_
 refine sP (Value.int .i64 ((s6.length:Nat):Int)) hs λ_ hs=>?_
 refine sP Value.nilIface hs λ_ hs=>?_
 exact wpList_nil (Wp.ret (qg7 hs (qe4 hs rfl rfl rfl) hMM.1 hMM.2 [⟨b1,74,[(Value.pointer (adr b1 c14)),(Value.slice ad19 (rn15+s6.length) cap20)]⟩] [⟨(Value.slice ad19 (rn15+s6.length) cap20),5,1,(rn15+s6.length),(rx16++Lib.strCells (mkS s6)),false⟩] (List.Sublist.refl _) (List.Sublist.refl _) rfl ⟨c14,(rn15+s6.length),(rx16++Lib.strCells (mkS s6)),(Value.slice ad19 (rn15+s6.length) cap20),rfl,rfl,hS⟩))
def qcm (c6:Int) (b2:Bool) (rn4:Nat) (rx5:List Value) (M:Mem) (K:Value->Bool->Nat->List Value->Mem->Prop):Prop:=
 (qbx b2 rn4 rx5 M (λv c13 rn14 rx15 M12=>v=(Value.tuple #[])/\((rn14+1)*1<=140737488355328/\K Value.nilIface c13 (rn14+1) (rx15++[(Value.int .u8 c6)]) M12)))
set_option linter.unusedVariables false in
set_option maxRecDepth 100000 in
theorem qd1 (c6:Int) (b2:Bool) (rn4:Nat) (rx5:List Value) (M:Mem) (K:Value->Bool->Nat->List Value->Mem->Prop) (hS:qcm c6 b2 rn4 rx5 M K):qby c6 b2 rn4 rx5 M K:=by
 intro b1 rv3
 refine qqc Tryz.func31 rfl 17 rfl (Nat.le_of_ble_eq_true rfl) (λE a hs=>?_)
 unfold qcm at hS
 have hMM:=MX.refl M E
 change Sx 17 E (blk [⟨b1,74,[(Value.pointer (adr b1 b2)),rv3]⟩] [⟨rv3,5,1,rn4,rx5,false⟩]) M E a [(0,(Value.pointer (some ⟨b1,0,none⟩))),(1,(Value.int .u8 c6))] [⟨b1,74,[(Value.pointer (adr b1 b2)),rv3]⟩] [⟨rv3,5,1,rn4,rx5,false⟩]at hs
 refine Wp.seq (Wp.region (sP Value.nilIface hs λ_ hs=>?_))
 refine wpList_nil (Wp.seq (Wp.region (sP (Value.pointer (some ⟨b1,0,none⟩)) hs λ_ hs=>?_)))
 refine qd0 [(Value.pointer (some ⟨b1,0,none⟩))] [⟨b1,74,[(Value.pointer (adr b1 b2)),rv3]⟩] [] [⟨rv3,5,1,rn4,rx5,false⟩] [] false hs rfl rfl rfl rfl ⟨_,rfl,rfl⟩ rfl Tryz.func55 rfl (by kernel_rfl) (by decide) (hS _ _) (λ_ _ M12 v lb lr hle hnew hS hs=>?_)
 have hMM:=hMM.next hle hnew
 obtain⟨c13,rn14,rx15,rv16,hlb,hlr,hS⟩:=hS
 subst hlb hlr
 obtain⟨hv,hS⟩:=hS
 subst hv
 replace hs:=hs.chbx (bs':=[⟨b1,74,[(Value.pointer (adr b1 c13)),rv16]⟩]) rfl
 replace hs:=hs.chrs (rs':=[⟨rv16,5,1,rn14,rx15,false⟩]) rfl
 refine wpList_nil (Wp.seq (Wp.region (sP (Value.pointer (some ⟨b1,0,none⟩)) hs λ_ hs=>?_)))
 refine sP (Value.pointer (some ⟨b1,0,none⟩)) hs λ_ hs=>?_
 refine sP (Value.pointer (some ⟨b1,0,none⟩)) hs λ_ hs=>?_
 refine sP (Value.pointer (some ⟨b1,1,none⟩)) hs λ_ hs=>?_
 refine sY rv16 hs (Yl.loadB (vs:=[rv16]) false 0 rfl rfl rfl (by kernel_rfl) rfl) λ_ hs=>?_
 refine sP (Value.int .u8 c6) hs λ_ hs=>?_
 refine qbp [(Value.int .u8 c6)] 5 1 1 hs rfl rfl rfl (λ_=>by kernel_rfl) rfl (by unfold maxLen;decide) (by decide) (λ_ _ rv17 hs=>?_)
 obtain⟨ad18,cap19,hv,hcp,hxl⟩:=hs.rowform 0 rfl
 dsimp only at hv hcp hxl
 subst hv
 obtain⟨hB,hS⟩:=hS
 refine qb9 1 [(Value.int .u8 c6)] hs rfl rfl rfl rfl rfl (by kernel_rfl) (by kernel_rfl) (by decide) (by decide) (hs.srcRow 0 rfl rfl) (qoQ hB (by decide)) hB (λ_ _ rv20 hs=>?_)
 replace hs:=hs.chrs (rs':=[⟨(Value.slice ad18 1 cap19),5,1,1,[(Value.int .u8 c6)],true⟩,⟨rv20,5,1,(rn14+1),(rx15++[(Value.int .u8 c6)]),false⟩]) rfl
 refine sP (Value.pointer (some ⟨b1,0,none⟩)) hs λ_ hs=>?_
 refine sP (Value.pointer (some ⟨b1,1,none⟩)) hs λ_ hs=>?_
 obtain⟨ad21,cap22,hv,hcp,hxl⟩:=hs.rowform 1 rfl
 dsimp only at hv hcp hxl
 subst hv
 refine qbB 0 (vs:=[(Value.slice ad21 (rn14+1) cap22)]) hs rfl rfl rfl rfl rfl rfl (by kernel_rfl) (Nat.le_of_ble_eq_true rfl) rfl (λ_ _ hs=>?_)
 replace hs:=hs.chbx (bs':=[⟨b1,74,[(Value.pointer (adr b1 c13)),(Value.slice ad21 (rn14+1) cap22)]⟩]) rfl
 refine wpList_nil (Wp.seq (Wp.region (sP Value.nilIface hs λ_ hs=>?_)))
 refine wpList_nil (Wp.ret ?_)
 replace hs:=hs.rfront 1 rfl rfl
 exact qg7 hs (qct hs rfl rfl) hMM.1 hMM.2 [⟨b1,74,[(Value.pointer (adr b1 c13)),(Value.slice ad21 (rn14+1) cap22)]⟩] [⟨(Value.slice ad21 (rn14+1) cap22),5,1,(rn14+1),(rx15++[(Value.int .u8 c6)]),false⟩] (List.Sublist.refl _) (.cons_cons _ (.cons _ List.Sublist.slnil)) rfl ⟨c13,(rn14+1),(rx15++[(Value.int .u8 c6)]),(Value.slice ad21 (rn14+1) cap22),rfl,rfl,hS⟩
section
variable {P:Program} {ops:Array Oper} {Q:Exit->Act->World->Prop} {n:Nat} {E:World} {M M0:Mem} {L:Nat->Prop} {w:World} {a:Act} {env:Env} {bs:List Bx} {rs:List Rw} {rest:List Oper}
theorem qpf {d f:Nat} {ty:TypeId} {c:Call} {pos:String} {af:Array Edge} {fn:Func} {K:Value->Prop} {first caps:Array Value} (args:List Value) (hs:Sx n E (bwW E M0 L) M w a env bs rs) (hM:WX M M0 E) (hE:On M0 E)
  (hk:qcf env ⟨some d,.call c,ty,pos,af,none⟩=true) (hcal:∃x,c.callee= .value x/\evT env x= .func (.func f) first caps) (hargs:first.toList++c.args.toList.map (evT env)++caps.toList=args) (hf:P.funcs[f]?=some fn) (hbody:fn.body.isNone=false) (hname:(fn.name== "runtime.NumGoroutine")=false) (hdn:d<n)
  (hc:Calls P f args.toArray w λe w'=>∃v,e= .returned v/\K v/\Below E.heap.size w w')
  (h:∀a' w' v Mz,K v->WX Mz M0 E->Sx n E (bwW E M0 L) Mz w' a' ((d,v)::env) [] []->wpList P ops Q rest a' w'):wpList P ops Q (⟨some d,.call c,ty,pos,af,none⟩::rest) a w:=by
 refine qfy (Z:=λ_ _=>False) (d:=d) hs (λ_ _ h=>h.elim) rfl hk rfl hdn ?_
 unfold OpW
 rw[qdJ args hcal hargs hf hbody hname]
 refine hc.mono λe w' ⟨v,he,hK,hb⟩=>?_
 subst he
 refine λa' hA=>h a' w' v (λb=>if b<E.heap.size then M b else none) hK ⟨λb o hq=>?_,λb hq=>?_⟩ ⟨hA,λb o hq=>?_,?_,(λx hx=>(by cases hx)),(λr hr=>(by cases hr)),⟨List.nodup_nil,(λx hx=>(by cases hx)),List.Pairwise.nil⟩⟩
 ·split at hq
  ·exact hM.old b o hq
  ·cases hq
 ·obtain⟨o,ho⟩:=Option.isSome_iff_exists.1 hq
  have hlt:=hE.lt ho
  rw[if_pos hlt]
  exact hM.dom b hq
 ·split at hq
  ·rename_i hlt
   rw[hb.block b hlt]
   exact hs.on b o hq
  ·cases hq
 ·exact⟨hb.os.trans hs.pr.os,hb.tape.trans hs.pr.tape,hb.output.trans hs.pr.output,Nat.le_trans hs.pr.size hb.size,λk hk hn=>(hb.block k hk).trans (hs.pr.block k hk hn)⟩
end
theorem qqP {n:Nat} {E:World} {M:Mem} {w:World} {a:Act} {env:Env} {bs:List Bx} {rv:Value} {rn b:Nat} {bw:List Nat} {u:Bool} {l:List UInt8} (hs:Sx n E bw M w a env (⟨b,74,[(Value.pointer (adr b u)),rv]⟩::bs) [⟨rv,5,1,rn,Lib.byteCells l,true⟩]) (hb:E.heap.size<=b):
  Calls Tryz.prog 32 #[.pointer (some ⟨b,0,none⟩)] w λe w'=>∃v,e= .returned v/\v= .string (mkS l)/\Below E.heap.size w w':=by
 obtain⟨x1,x2,x3⟩:=hs.bx _ (List.mem_cons_self ..)
 obtain⟨r1,r2⟩:=hs.rw _ (List.mem_singleton.2 rfl)
 have hn:(Lib.byteCells l).length=rn:=by simpa using r1.1
 have hown:w.ownsRowF E.heap.size 5 1 rv (Lib.byteCells l).length (Lib.byteCells l):=by
  rw[hn]
  refine World.ownsRowF_of ⟨r1.1,r1.2.imp (λh=>h) λ⟨g,cap,cur,hv,_,hr⟩=>⟨g,cap,cur,hv,?_,hr⟩⟩
  rcases(r2 g (by rw[hv];rfl)).2 with h|h
  ·exact h
  ·cases h.1
 have hne:rv.ownBlock≠some b:=hs.nd.x _ (List.mem_cons_self ..) _ (List.mem_singleton.2 rfl)
 have hB:Lib.IsBuilderF 74 5 E.heap.size b (Lib.byteCells l) w:=by
  cases u
  ·exact .inl ⟨hb,rv,x1,hown,hne⟩
  ·exact .inr ⟨hb,rv,x1,hown,hne⟩
 exact(qeY E.heap.size b l w hB hs.pr.size).mono λe w' ⟨h1,_,h2,_⟩=>⟨_,h1,rfl,h2⟩
def qdR (x224:Int) (rn226:Nat) (rx227:List Value) (I228:Int->Nat->List Value->Prop) (mu229:Int->Nat->List Value->Nat) (rn238:Nat) (rx239:List Value) (K:Value->Mem->Prop):Prop:=
 (InI (x224+1)/\I228 (x224+1) rn238 rx239/\mu229 (x224+1) rn238 rx239<mu229 x224 rn226 rx227)
def qdP (x181:Int) (c182:Bool) (rn184:Nat) (rx185:List Value) (G189:Type) (gh190:G189) (I187:G189->Int->Bool->Nat->List Value->Mem->Prop) (mu188:G189->Int->Bool->Nat->List Value->Nat) (c266:Bool) (rn268:Nat) (rx269:List Value) (M270:Mem) (K:Value->Mem->Prop):Prop:=
 (InI (x181+1)/\∃(gh:G189),I187 gh (x181+1) c266 rn268 rx269 M270/\mu188 gh (x181+1) c266 rn268 rx269<mu188 gh190 x181 c182 rn184 rx185)
def qdQ (M:Mem) (L:Nat->Prop) (b13:Nat) (x181:Int) (c182:Bool) (rn184:Nat) (rx185:List Value) (G189:Type) (gh190:G189) (I187:G189->Int->Bool->Nat->List Value->Mem->Prop) (mu188:G189->Int->Bool->Nat->List Value->Nat) (x194:List UInt8) (M198:Mem) (rn226:Nat) (rx227:List Value) (x246:Bool) (K:Value->Mem->Prop):Prop:=
 ((x246=true->(qdP x181 c182 rn184 rx185 G189 gh190 I187 mu188 c182 rn184 rx185 M198 K))/\(¬(x246=true)->(∀(M250:Mem) (ad248:Option Addr) (cap249:Nat),qb8 M198 M250 9 1 ad248 rn226 cap249 rx227->(qaw Tryz.prog 30 #[(Value.pointer (some ⟨b13,0,none⟩)),(Value.string (mkS x194)),(Value.slice ad248 rn226 cap249)] M250 (Wr L M) (λv M252=>∃(x251:List UInt8),v=(Value.string (mkS x251))/\(qbn x251 c182 rn184 rx185 M252 (λv c256 rn257 rx258 M255=>∃(x253:Int) (x254:Value),v=(Value.tuple #[(Value.int .i64 x253),x254])/\(qby 10 c256 rn257 rx258 M255 (λv c262 rn263 rx264 M261=>∃(x260:Value),v=x260/\(qdP x181 c182 rn184 rx185 G189 gh190 I187 mu188 c262 rn263 rx264 M261 K))))))))))
def qdS (M:Mem) (L:Nat->Prop) (M5:Mem) (linesa9:Option Addr) (linesl10:Nat) (x12:Bool) (K:Value->Mem->Prop):Prop:=
 ((x12=true->(∀M',M5.le M'->K (Value.string (mkS ([101,114,114,111,114,32,50,10]:List UInt8))) M'))/\(¬(x12=true)->(∀(b13:Nat),(∀(M14:Mem),M5 b13=none->M14=M5.add b13 (.cells [(Value.string (mkS [])),(Value.string (mkS [])),(Value.bool false),(Value.bool false),(Value.slice none 0 0),(Value.slice none 0 0)].toArray 70 (0,0))->(∃(G189:Type) (I187:G189->Int->Bool->Nat->List Value->Mem->Prop) (mu188:G189->Int->Bool->Nat->List Value->Nat) (gz191:G189),I187 gz191 0 false 0 [] M14/\∀(gh190:G189) (x181:Int) (c182:Bool) (rn184:Nat) (rx185:List Value) (M186:Mem),(I187 gh190 x181 c182 rn184 rx185 M186->((x181<((linesl10:Nat):Int)->(∃(b192 o193:Nat),linesa9=some ⟨b192,o193,none⟩/\(0:Int)<=x181/\x181<((linesl10:Nat):Int)/\(∃(x194:List UInt8),At M186 b192 (o193+x181.toNat*1) [(Value.string (mkS x194))]/\(qaf Tryz.prog 9 #[(Value.string (mkS x194)),(Value.string (mkS ([32]:List UInt8)))] M186 (λv M198=>∃(xa195:Option Addr) (xl196:Nat) (xc197:Nat),v=(Value.slice xa195 xl196 xc197)/\(∃(I228:Int->Nat->List Value->Prop) (mu229:Int->Nat->List Value->Nat),I228 0 0 []/\∀(x224:Int) (rn226:Nat) (rx227:List Value),(I228 x224 rn226 rx227->((x224<((xl196:Nat):Int)->(∃(b230 o231:Nat),xa195=some ⟨b230,o231,none⟩/\(0:Int)<=x224/\x224<((xl196:Nat):Int)/\(∃(x232:List UInt8),At M198 b230 (o231+x224.toNat*1) [(Value.string (mkS x232))]/\((x232≠([]:List UInt8)->((rn226+1)*16<=140737488355328/\(qdR x224 rn226 rx227 I228 mu229 (rn226+1) (rx227++[(Value.string (mkS x232))]) K)))/\(¬(x232≠([]:List UInt8))->(qdR x224 rn226 rx227 I228 mu229 rn226 rx227 K))))))/\(¬(x224<((xl196:Nat):Int))->((((rn226:Nat):Int)=0->(qdQ M L b13 x181 c182 rn184 rx185 G189 gh190 I187 mu188 x194 M198 rn226 rx227 true K))/\(¬(((rn226:Nat):Int)=0)->((0:Int)<=0/\0<((rn226:Nat):Int)/\(∃(x244:List UInt8),Cs rx227 (0+(0:Int).toNat*1) [(Value.string (mkS x244))]/\(∃c245:UInt8,(0:Int)<=0/\x244[(0:Int).toNat]?=some c245/\(qdQ M L b13 x181 c182 rn184 rx185 G189 gh190 I187 mu188 x194 M198 rn226 rx227 ((c245.toNat:Int)==(35:Int)) K)))))))))))))))/\(¬(x181<((linesl10:Nat):Int))->(∃l:List UInt8,rx185=Lib.byteCells l/\∀M',K (Value.string (mkS l)) M')))))))))
def qdT (text1:List UInt8) (M:Mem) (L:Nat->Prop) (M5:Mem) (linesa9:Option Addr) (linesl10:Nat) (K:Value->Mem->Prop):Prop:=
 ((((text1.length:Nat):Int)>65536->(qdS M L M5 linesa9 linesl10 true K))/\(¬(((text1.length:Nat):Int)>65536)->(qdS M L M5 linesa9 linesl10 (decide (((linesl10:Nat):Int)>100)) K)))
def qdp (text1:List UInt8) (M:Mem) (L:Nat->Prop) (K:Value->Mem->Prop):Prop:=
 (qaf Tryz.prog 9 #[(Value.string (mkS text1)),(Value.string (mkS ([10]:List UInt8)))] M (λv M5=>∃(xa2:Option Addr) (xl3:Nat) (xc4:Nat),v=(Value.slice xa2 xl3 xc4)/\(InI (((xl3:Nat):Int)-1)/\(∃(b6 o7:Nat),xa2=some ⟨b6,o7,none⟩/\(0:Int)<=((xl3:Nat):Int)-1/\((xl3:Nat):Int)-1<((xl3:Nat):Int)/\(∃(x8:List UInt8),At M5 b6 (o7+(((xl3:Nat):Int)-1).toNat*1) [(Value.string (mkS x8))]/\((x8=([]:List UInt8)->(InI (((xl3:Nat):Int)-1)/\((0:Int)<=((xl3:Nat):Int)-1/\(((xl3:Nat):Int)-1:Int)<=((xc4:Nat):Int)/\(qdT text1 M L M5 xa2 ((((xl3:Nat):Int)-1).toNat) K))))/\(¬(x8=([]:List UInt8))->(qdT text1 M L M5 xa2 xl3 K))))))))
set_option linter.unusedVariables false in
set_option maxRecDepth 100000 in
theorem qot (text1:List UInt8) (M:Mem) (L:Nat->Prop) (K:Value->Mem->Prop) (hS:qdp text1 M L K):qaw Tryz.prog 11 #[(Value.string (mkS text1))] M L K:=by
 refine qlK Tryz.func11 rfl 71 rfl (Nat.le_of_ble_eq_true rfl) (λE a hs=>?_)
 unfold qdp at hS
 have hMM:=WX.refl M E
 have hE:=hs.on
 change Sx 71 E (bwW E M L) M E a [(0,(Value.string (mkS text1)))] [] []at hs
 refine Wp.seq (Wp.region (sP (Value.string (mkS ([]:List UInt8))) hs λ_ hs=>?_))
 refine wpList_nil (Wp.seq (Wp.region (sP (Value.string (mkS text1)) hs λ_ hs=>?_)))
 refine qgR [(Value.string (mkS text1)),(Value.string (mkS ([10]:List UInt8)))] hs rfl ⟨_,rfl,rfl⟩ rfl Tryz.func9 rfl (by kernel_rfl) (by decide) hS (λ_ _ M5 v hle hnew hS hs=>?_)
 have hMM:=hMM.next hle hnew
 obtain⟨xa2,xl3,xc4,hv,hS⟩:=hS
 subst hv
 refine sP (Value.slice xa2 xl3 xc4) hs λ_ hs=>?_
 refine wpList_nil (Wp.join (λa w=>∃(linesa9:Option Addr) (linesl10:Nat) (linesc11:Nat),Sx 71 E (bwW E M L) M5 w a [(0,(Value.string (mkS text1))),(3,(Value.slice linesa9 linesl10 linesc11))] [] []/\(qdT text1 M L M5 linesa9 linesl10 K)) ?_ ?_)
 ·refine Wp.seq (Wp.region (sP (Value.slice xa2 xl3 xc4) hs λ_ hs=>?_))
  refine sP (Value.int .i64 ((xl3:Nat):Int)) hs λ_ hs=>?_
  refine sP (Value.int .i64 ((xl3:Nat):Int)) hs λ_ hs=>?_
  refine wpList_nil (Wp.seq (Wp.region (sP (Value.slice xa2 xl3 xc4) hs λ_ hs=>?_)))
  refine sP (Value.int .i64 ((xl3:Nat):Int)) hs λ_ hs=>?_
  obtain⟨hI,hS⟩:=hS
  refine sY (Value.int .i64 (((xl3:Nat):Int)-1)) hs (Yl.eq (Yl.pure (v:=Value.int .i64 (IntKind.wrap .i64 (((xl3:Nat):Int)-1))) rfl (λ_=>by kernel_rfl)) (congrArg (Value.int .i64) (qdX hI))) λ_ hs=>?_
  obtain⟨b6,o7,ha,h0,hl,hS⟩:=hS
  refine sY (Value.pointer (some ⟨b6,o7+(((xl3:Nat):Int)-1).toNat*1,none⟩)) hs (Yl.indexS (e:=9) (sz:=1) rfl rfl rfl rfl (by kernel_rfl) (by kernel_rfl) ha h0 hl) λ_ hs=>?_
  obtain⟨x8,hat,hS⟩:=hS
  refine sY (Value.string (mkS x8)) hs (Yl.loadV (vs:=[(Value.string (mkS x8))]) false rfl rfl (by kernel_rfl) hat) λ_ hs=>?_
  refine sP (Value.bool ((mkS x8).toList==(mkS ([]:List UInt8)).toList)) hs λ_ hs=>?_
  refine wpList_nil (Wp.cond hs rfl rfl qaY (λhc=>?_) (λhc=>?_))
  ·have hS:=hS.1 hc
   refine Wp.region (sP (Value.slice xa2 xl3 xc4) hs λ_ hs=>?_)
   refine sP (Value.int .i64 ((xl3:Nat):Int)) hs λ_ hs=>?_
   obtain⟨hI,hS⟩:=hS
   refine sY (Value.int .i64 (((xl3:Nat):Int)-1)) hs (Yl.eq (Yl.pure (v:=Value.int .i64 (IntKind.wrap .i64 (((xl3:Nat):Int)-1))) rfl (λ_=>by kernel_rfl)) (congrArg (Value.int .i64) (qdX hI))) λ_ hs=>?_
   obtain⟨h1,h2,hS⟩:=hS
   refine sY (Value.slice xa2 ((((xl3:Nat):Int)-1).toNat) xc4) hs (Yl.sliceSH (e:=9) (sz:=1) rfl rfl rfl rfl (by kernel_rfl) (by kernel_rfl) h1 h2) λ_ hs=>?_
   refine sP (Value.slice xa2 ((((xl3:Nat):Int)-1).toNat) xc4) hs λ_ hs=>?_
   exact wpList_nil (⟨xa2,((((xl3:Nat):Int)-1).toNat),xc4,(hs.weak (List.Sublist.refl _) (List.Sublist.refl _) ⟨rfl,rfl,trivial⟩),hS⟩)
  ·have hS:=hS.2 hc
   exact Wp.skip (⟨xa2,xl3,xc4,(hs.weak (List.Sublist.refl _) (List.Sublist.refl _) ⟨rfl,rfl,trivial⟩),hS⟩)
 ·intro a w hJ
  obtain⟨linesa9,linesl10,linesc11,hs,hS⟩:=hJ
  unfold qdT at hS
  refine Wp.seq (Wp.join (λa w=>∃(x12:Bool),Sx 71 E (bwW E M L) M5 w a [(3,(Value.slice linesa9 linesl10 linesc11)),(33,(Value.bool x12))] [] []/\(qdS M L M5 linesa9 linesl10 x12 K)) ?_ ?_)
  ·refine Wp.region (sP (Value.string (mkS text1)) hs λ_ hs=>?_)
   refine sP (Value.int .i64 ((text1.length:Nat):Int)) hs λ_ hs=>?_
   refine sP (Value.bool (decide (((text1.length:Nat):Int)>65536))) hs λ_ hs=>?_
   refine sP (Value.bool (decide (((text1.length:Nat):Int)>65536))) hs λ_ hs=>?_
   refine qqq (decide (((text1.length:Nat):Int)>65536)) decide_eq_true_iff (λhb hc=>?_) (λhb hc=>?_)
   ·have hs:=hs.bt hb
    have hS:=hS.1 hc
    refine sNo hs λ_ hs=>?_
    refine sNo hs λ_ hs=>?_
    refine sNo hs λ_ hs=>?_
    refine sP (Value.bool true) hs λ_ hs=>?_
    exact wpList_nil (⟨true,(hs.weak (List.Sublist.refl _) (List.Sublist.refl _) ⟨rfl,rfl,trivial⟩),hS⟩)
   ·have hs:=hs.bf hb
    have hS:=hS.2 hc
    refine sYe hs (sP (Value.slice linesa9 linesl10 linesc11) hs λ_ hs=>?_)
    refine sYe hs (sP (Value.int .i64 ((linesl10:Nat):Int)) hs λ_ hs=>?_)
    refine sYe hs (sP (Value.bool (decide (((linesl10:Nat):Int)>100))) hs λ_ hs=>?_)
    refine sP (Value.bool (decide (((linesl10:Nat):Int)>100))) hs λ_ hs=>?_
    exact wpList_nil (⟨(decide (((linesl10:Nat):Int)>100)),(hs.weak (List.Sublist.refl _) (List.Sublist.refl _) ⟨rfl,rfl,trivial⟩),hS⟩)
  ·intro a w hJ
   obtain⟨x12,hs,hS⟩:=hJ
   unfold qdS at hS
   refine Wp.cond hs rfl rfl Iff.rfl (λhc=>?_) (λhc=>?_)
   ·have hS:=hS.1 hc
    refine Wp.seq (Wp.region (sP (Value.string (mkS ([101,114,114,111,114,32,50,10]:List UInt8))) hs λ_ hs=>?_))
    exact wpList_nil (Wp.ret (qaj (K:=K) hs (qct hs rfl rfl) hMM hS))
   ·have hS:=hS.2 hc
    refine Wp.skip (Wp.seq (Wp.region (qae [(Value.string (mkS [])),(Value.string (mkS [])),(Value.bool false),(Value.bool false),(Value.slice none 0 0),(Value.slice none 0 0)] hs (by kernel_rfl) (by decide) (λ_ _ b13 hEb13 hs=>?_))))
    have hS:=hS b13
    obtain⟨M14,hM2,hno,hMM,hs⟩:=hs.freezeW hMM 0 rfl hEb13 rfl
    have hS:=hS M14 hno hM2
    refine wpList_nil (Wp.seq (Wp.region (qae [(Value.pointer (adr 0 false)),(Value.slice none 0 0)] hs (by kernel_rfl) (by decide) (λ_ _ b15 hEb15 hs=>?_))))
    have hs:=hs.nilrow 5 1
    refine wpList_nil (Wp.seq (Wp.seq (Wp.region (sP (Value.slice linesa9 linesl10 linesc11) hs λ_ hs=>?_))))
    refine sP (Value.int .i64 ((linesl10:Nat):Int)) hs λ_ hs=>?_
    refine sP (Value.int .i64 0) hs λ_ hs=>?_
    refine wpList_nil (Wp.block ?_)
    obtain⟨G189,I187,mu188,gz191,hI0,hst⟩:=hS
    refine Wp.loop (σ:=G189×(Int)×(Bool)×(Nat)×(List Value)×(Value)×(Mem)) (λs a w=>match s with|(gh190,x181,c182,rn184,rx185,rv183,M186)=>WX M186 M E/\Sx 71 E (bwW E M L) M186 w a [(5,(Value.pointer (some ⟨b13,0,none⟩))),(6,(Value.pointer (some ⟨b15,0,none⟩))),(34,(Value.slice linesa9 linesl10 linesc11)),(35,(Value.int .i64 ((linesl10:Nat):Int))),(36,(Value.int .i64 x181))] [⟨b15,74,[(Value.pointer (adr b15 c182)),rv183]⟩] [⟨rv183,5,1,rn184,rx185,true⟩]/\I187 gh190 x181 c182 rn184 rx185 M186) (λs=>match s with|(gh190,x181,c182,rn184,rx185,rv183,M186)=>mu188 gh190 x181 c182 rn184 rx185) (gz191,0,false,0,[],(Value.slice none 0 0),M14) ⟨hMM,(hs.weak (List.Sublist.refl _) (List.Sublist.refl _) ⟨rfl,rfl,rfl,rfl,rfl,trivial⟩),hI0⟩ (λs a w hI=>?_)
    obtain⟨gh190,x181,c182,rn184,rx185,rv183,M186⟩:=s
    obtain⟨hMM,hs,hI⟩:=hI
    have hS:=hst gh190 x181 c182 rn184 rx185 M186 hI
    clear hst hI0 hI
    refine Wp.seq (Wp.region (sP (Value.bool (decide (x181<((linesl10:Nat):Int)))) hs λ_ hs=>?_))
    refine wpList_nil (Wp.seq (Wp.cond hs rfl rfl decide_eq_true_iff (λhc=>?_) (λhc=>?_)))
    ·have hS:=hS.1 hc
     refine Wp.skip (Wp.join (λa w=>∃(c266:Bool) (rn268:Nat) (rx269:List Value) (rv267:Value) (M270:Mem),WX M270 M E/\Sx 71 E (bwW E M L) M270 w a [(5,(Value.pointer (some ⟨b13,0,none⟩))),(6,(Value.pointer (some ⟨b15,0,none⟩))),(34,(Value.slice linesa9 linesl10 linesc11)),(35,(Value.int .i64 ((linesl10:Nat):Int))),(36,(Value.int .i64 x181))] [⟨b15,74,[(Value.pointer (adr b15 c266)),rv267]⟩] [⟨rv267,5,1,rn268,rx269,true⟩]/\(qdP x181 c182 rn184 rx185 G189 gh190 I187 mu188 c266 rn268 rx269 M270 K)) ?_ ?_)
     ·refine Wp.block (Wp.seq (Wp.region ?_))
      obtain⟨b192,o193,ha,h0,hl,hS⟩:=hS
      refine sY (Value.pointer (some ⟨b192,o193+x181.toNat*1,none⟩)) hs (Yl.indexS (e:=9) (sz:=1) rfl rfl rfl rfl (by kernel_rfl) (by kernel_rfl) ha h0 hl) λ_ hs=>?_
      obtain⟨x194,hat,hS⟩:=hS
      refine sY (Value.string (mkS x194)) hs (Yl.loadV (vs:=[(Value.string (mkS x194))]) false rfl rfl (by kernel_rfl) hat) λ_ hs=>?_
      refine sP (Value.string (mkS x194)) hs λ_ hs=>?_
      refine wpList_nil (Wp.seq (Wp.region (sP (Value.slice none 0 0) hs λ_ hs=>?_)))
      have hs:=hs.nilrow 9 1
      refine wpList_nil (Wp.seq (Wp.seq (Wp.region (sP (Value.string (mkS x194)) hs λ_ hs=>?_))))
      refine qgR [(Value.string (mkS x194)),(Value.string (mkS ([32]:List UInt8)))] hs rfl ⟨_,rfl,rfl⟩ rfl Tryz.func9 rfl (by kernel_rfl) (by decide) hS (λ_ _ M198 v hle hnew hS hs=>?_)
      have hMM:=hMM.next hle hnew
      obtain⟨xa195,xl196,xc197,hv,hS⟩:=hS
      subst hv
      refine sP (Value.int .i64 ((xl196:Nat):Int)) hs λ_ hs=>?_
      refine sP (Value.int .i64 0) hs λ_ hs=>?_
      refine wpList_nil (Wp.block ?_)
      obtain⟨I228,mu229,hI0,hst⟩:=hS
      refine Wp.loop (σ:=(Int)×(Nat)×(List Value)×(Value)) (λs a w=>match s with|(x224,rn226,rx227,rv225)=>Sx 71 E (bwW E M L) M198 w a [(5,(Value.pointer (some ⟨b13,0,none⟩))),(6,(Value.pointer (some ⟨b15,0,none⟩))),(8,(Value.string (mkS x194))),(9,rv225),(34,(Value.slice linesa9 linesl10 linesc11)),(35,(Value.int .i64 ((linesl10:Nat):Int))),(36,(Value.int .i64 x181)),(41,(Value.slice xa195 xl196 xc197)),(42,(Value.int .i64 ((xl196:Nat):Int))),(43,(Value.int .i64 x224))] [⟨b15,74,[(Value.pointer (adr b15 c182)),rv183]⟩] [⟨rv225,9,1,rn226,rx227,true⟩,⟨rv183,5,1,rn184,rx185,true⟩]/\I228 x224 rn226 rx227) (λs=>match s with|(x224,rn226,rx227,rv225)=>mu229 x224 rn226 rx227) (0,0,[],(Value.slice none 0 0)) ⟨(hs.weak (List.Sublist.refl _) (List.Sublist.refl _) ⟨rfl,rfl,rfl,rfl,rfl,rfl,rfl,rfl,rfl,rfl,trivial⟩),hI0⟩ (λs a w hI=>?_)
      obtain⟨x224,rn226,rx227,rv225⟩:=s
      obtain⟨hs,hI⟩:=hI
      have hS:=hst x224 rn226 rx227 hI
      clear hst hI0 hI
      refine Wp.seq (Wp.region (sP (Value.bool (decide (x224<((xl196:Nat):Int)))) hs λ_ hs=>?_))
      refine wpList_nil (Wp.seq (Wp.cond hs rfl rfl decide_eq_true_iff (λhc=>?_) (λhc=>?_)))
      ·have hS:=hS.1 hc
       refine Wp.skip (Wp.join (λa w=>∃(rn238:Nat) (rx239:List Value) (rv237:Value),Sx 71 E (bwW E M L) M198 w a [(5,(Value.pointer (some ⟨b13,0,none⟩))),(6,(Value.pointer (some ⟨b15,0,none⟩))),(8,(Value.string (mkS x194))),(9,rv237),(34,(Value.slice linesa9 linesl10 linesc11)),(35,(Value.int .i64 ((linesl10:Nat):Int))),(36,(Value.int .i64 x181)),(41,(Value.slice xa195 xl196 xc197)),(42,(Value.int .i64 ((xl196:Nat):Int))),(43,(Value.int .i64 x224))] [⟨b15,74,[(Value.pointer (adr b15 c182)),rv183]⟩] [⟨rv237,9,1,rn238,rx239,true⟩,⟨rv183,5,1,rn184,rx185,true⟩]/\(qdR x224 rn226 rx227 I228 mu229 rn238 rx239 K)) ?_ ?_)
       ·refine Wp.block (Wp.seq (Wp.region ?_))
        obtain⟨b230,o231,ha,h0,hl,hS⟩:=hS
        refine sY (Value.pointer (some ⟨b230,o231+x224.toNat*1,none⟩)) hs (Yl.indexS (e:=9) (sz:=1) rfl rfl rfl rfl (by kernel_rfl) (by kernel_rfl) ha h0 hl) λ_ hs=>?_
        obtain⟨x232,hat,hS⟩:=hS
        refine sY (Value.string (mkS x232)) hs (Yl.loadV (vs:=[(Value.string (mkS x232))]) false rfl rfl (by kernel_rfl) hat) λ_ hs=>?_
        refine sP (Value.string (mkS x232)) hs λ_ hs=>?_
        refine wpList_nil (Wp.seq (Wp.region (sP (Value.string (mkS x232)) hs λ_ hs=>?_)))
        refine sP (Value.bool (!((mkS x232).toList==(mkS ([]:List UInt8)).toList))) hs λ_ hs=>?_
        refine wpList_nil (Wp.cond hs rfl rfl qmt (λhc=>?_) (λhc=>?_))
        ·have hS:=hS.1 hc
         refine Wp.region (sP rv225 hs λ_ hs=>?_)
         refine sP (Value.string (mkS x232)) hs λ_ hs=>?_
         refine qbp [(Value.string (mkS x232))] 9 1 1 hs rfl rfl rfl (λ_=>by kernel_rfl) rfl (by unfold maxLen;decide) (by decide) (λ_ _ rv233 hs=>?_)
         obtain⟨ad234,cap235,hv,hcp,hxl⟩:=hs.rowform 0 rfl
         dsimp only at hv hcp hxl
         subst hv
         obtain⟨hB,hS⟩:=hS
         refine qb9 1 [(Value.string (mkS x232))] hs rfl rfl rfl rfl rfl (by kernel_rfl) (by kernel_rfl) (by decide) (by decide) (hs.srcRow 0 rfl rfl) (qoQ hB (by decide)) hB (λ_ _ rv236 hs=>?_)
         replace hs:=hs.chrs (rs':=[⟨(Value.slice ad234 1 cap235),9,1,1,[(Value.string (mkS x232))],true⟩,⟨rv236,9,1,(rn226+1),(rx227++[(Value.string (mkS x232))]),true⟩,⟨rv183,5,1,rn184,rx185,true⟩]) rfl
         refine sP rv236 hs λ_ hs=>?_
         exact wpList_nil (⟨(rn226+1),(rx227++[(Value.string (mkS x232))]),rv236,(hs.weak (List.Sublist.refl _) (.cons _ (.cons_cons _ (.cons_cons _ List.Sublist.slnil))) ⟨rfl,rfl,rfl,rfl,rfl,rfl,rfl,rfl,rfl,rfl,trivial⟩),hS⟩)
        ·have hS:=hS.2 hc
         exact Wp.skip (⟨rn226,rx227,rv225,(hs.weak (List.Sublist.refl _) (List.Sublist.refl _) ⟨rfl,rfl,rfl,rfl,rfl,rfl,rfl,rfl,rfl,rfl,trivial⟩),hS⟩)
       ·intro a w hJ
        obtain⟨rn238,rx239,rv237,hs,hS⟩:=hJ
        unfold qdR at hS
        refine Wp.region ?_
        obtain⟨hI,hS⟩:=hS
        refine sY (Value.int .i64 (x224+1)) hs (Yl.eq (Yl.pure (v:=Value.int .i64 (IntKind.wrap .i64 (x224+1))) rfl (λ_=>by kernel_rfl)) (congrArg (Value.int .i64) (qdX hI))) λ_ hs=>?_
        refine sP (Value.int .i64 (x224+1)) hs λ_ hs=>?_
        exact wpList_nil (⟨(x224+1,rn238,rx239,rv237),⟨(hs.weak (List.Sublist.refl _) (List.Sublist.refl _) ⟨rfl,rfl,rfl,rfl,rfl,rfl,rfl,rfl,rfl,rfl,trivial⟩),hS.1⟩,hS.2⟩)
      ·have hS:=hS.2 hc
       refine Wp.exit rfl (Wp.seq (Wp.join (λa w=>∃(x246:Bool) (rv247:Value),Sx 71 E (bwW E M L) M198 w a [(5,(Value.pointer (some ⟨b13,0,none⟩))),(6,(Value.pointer (some ⟨b15,0,none⟩))),(8,(Value.string (mkS x194))),(9,rv247),(34,(Value.slice linesa9 linesl10 linesc11)),(35,(Value.int .i64 ((linesl10:Nat):Int))),(36,(Value.int .i64 x181)),(63,(Value.bool x246))] [⟨b15,74,[(Value.pointer (adr b15 c182)),rv183]⟩] [⟨rv247,9,1,rn226,rx227,true⟩,⟨rv183,5,1,rn184,rx185,true⟩]/\(qdQ M L b13 x181 c182 rn184 rx185 G189 gh190 I187 mu188 x194 M198 rn226 rx227 x246 K)) ?_ ?_))
       ·refine Wp.region (sP rv225 hs λ_ hs=>?_)
        refine sY (Value.int .i64 ((rn226:Nat):Int)) hs (Yl.lenR (e':=9) 0 rfl rfl rfl (by kernel_rfl)) λ_ hs=>?_
        refine sP (Value.bool (((rn226:Nat):Int)==(0:Int))) hs λ_ hs=>?_
        refine sP (Value.bool (((rn226:Nat):Int)==(0:Int))) hs λ_ hs=>?_
        refine qqq (((rn226:Nat):Int)==(0:Int)) beq_iff_eq (λhb hc=>?_) (λhb hc=>?_)
        ·have hs:=hs.bt hb
         have hS:=hS.1 hc
         refine sNo hs λ_ hs=>?_
         refine sNo hs λ_ hs=>?_
         refine sNo hs λ_ hs=>?_
         refine sNo hs λ_ hs=>?_
         refine sNo hs λ_ hs=>?_
         refine sP (Value.bool true) hs λ_ hs=>?_
         exact wpList_nil (⟨true,rv225,(hs.weak (List.Sublist.refl _) (List.Sublist.refl _) ⟨rfl,rfl,rfl,rfl,rfl,rfl,rfl,rfl,trivial⟩),hS⟩)
        ·have hs:=hs.bf hb
         have hS:=hS.2 hc
         refine sYe hs (sP rv225 hs λ_ hs=>?_)
         refine sYe hs ?_
         obtain⟨ad240,cap241,hv,hcp,hxl⟩:=hs.rowform 0 rfl
         dsimp only at hv hcp hxl
         subst hv
         obtain⟨h0,hl,hS⟩:=hS
         have hix242:(0:Int).toNat<rn226:=by omega
         obtain⟨g243,hg243⟩:=hs.rowblk 0 rfl (by omega)
         refine sY (Value.pointer (some ⟨g243,0+(0:Int).toNat*1,none⟩)) hs (Yl.indexS (e:=9) (sz:=1) rfl rfl rfl rfl (by kernel_rfl) (by kernel_rfl) hg243 h0 hl) λ_ hs=>?_
         refine sYe hs ?_
         obtain⟨x244,hcs,hS⟩:=hS
         refine sY (Value.string (mkS x244)) hs (Yl.loadR (vs:=[(Value.string (mkS x244))]) 0 false rfl hg243 rfl rfl (by kernel_rfl) hcs) λ_ hs=>?_
         refine sYe hs ?_
         obtain⟨c245,h0,hi,hS⟩:=hS
         refine sY (Value.int .u8 (c245.toNat:Int)) hs (Yl.indexStr rfl rfl rfl rfl (by kernel_rfl) h0 hi) λ_ hs=>?_
         refine sYe hs (sP (Value.bool ((c245.toNat:Int)==(35:Int))) hs λ_ hs=>?_)
         refine sP (Value.bool ((c245.toNat:Int)==(35:Int))) hs λ_ hs=>?_
         exact wpList_nil (⟨((c245.toNat:Int)==(35:Int)),(Value.slice ad240 rn226 cap241),(hs.weak (List.Sublist.refl _) (List.Sublist.refl _) ⟨rfl,rfl,rfl,rfl,rfl,rfl,rfl,rfl,trivial⟩),hS⟩)
       ·intro a w hJ
        obtain⟨x246,rv247,hs,hS⟩:=hJ
        unfold qdQ at hS
        refine Wp.cond hs rfl rfl Iff.rfl (λhc=>?_) (λhc=>?_)
        ·have hS:=hS.1 hc
         exact Wp.exit rfl (⟨c182,rn184,rx185,rv183,M198,hMM,(hs.weak (List.Sublist.refl _) (.cons _ (.cons_cons _ List.Sublist.slnil)) ⟨rfl,rfl,rfl,rfl,rfl,trivial⟩),hS⟩)
        ·have hS:=hS.2 hc
         refine Wp.skip (Wp.seq (Wp.region (sP (Value.string (mkS x194)) hs λ_ hs=>?_)))
         refine sP rv247 hs λ_ hs=>?_
         obtain⟨ad248,cap249,hv,hcp,hxl⟩:=hs.rowform 0 rfl
         dsimp only at hv hcp hxl
         subst hv
         obtain⟨M250,hnr,hMM,hs⟩:=hs.releaseW hMM 0 rfl [⟨rv183,5,1,rn184,rx185,true⟩] rfl
         have hS:=hS M250 ad248 cap249 hnr
         refine qgQ [(Value.pointer (some ⟨b13,0,none⟩)),(Value.string (mkS x194)),(Value.slice ad248 rn226 cap249)] hs hMM rfl ⟨_,rfl,rfl⟩ rfl Tryz.func30 rfl (by kernel_rfl) (by decide) hS (λ_ _ M252 v hMM hS hs=>?_)
         obtain⟨x251,hv,hS⟩:=hS
         subst hv
         refine qd0 [(Value.pointer (some ⟨b15,0,none⟩)),(Value.string (mkS x251))] [⟨b15,74,[(Value.pointer (adr b15 c182)),rv183]⟩] [] [⟨rv183,5,1,rn184,rx185,false⟩] [] true hs rfl rfl rfl rfl ⟨_,rfl,rfl⟩ rfl Tryz.func29 rfl (by kernel_rfl) (by decide) (hS _ _) (λ_ _ M255 v lb lr hle hnew hS hs=>?_)
         have hMM:=hMM.next hle hnew
         obtain⟨c256,rn257,rx258,rv259,hlb,hlr,hS⟩:=hS
         subst hlb hlr
         obtain⟨x253,x254,hv,hS⟩:=hS
         subst hv
         replace hs:=hs.chbx (bs':=[⟨b15,74,[(Value.pointer (adr b15 c256)),rv259]⟩]) rfl
         replace hs:=hs.chrs (rs':=[⟨rv259,5,1,rn257,rx258,true⟩]) rfl
         refine wpList_nil (Wp.region (qd0 [(Value.pointer (some ⟨b15,0,none⟩)),(Value.int .u8 10)] [⟨b15,74,[(Value.pointer (adr b15 c256)),rv259]⟩] [] [⟨rv259,5,1,rn257,rx258,false⟩] [] true hs rfl rfl rfl rfl ⟨_,rfl,rfl⟩ rfl Tryz.func31 rfl (by kernel_rfl) (by decide) (hS _ _) (λ_ _ M261 v lb lr hle hnew hS hs=>?_)))
         have hMM:=hMM.next hle hnew
         obtain⟨c262,rn263,rx264,rv265,hlb,hlr,hS⟩:=hS
         subst hlb hlr
         obtain⟨x260,hv,hS⟩:=hS
         subst hv
         replace hs:=hs.chbx (bs':=[⟨b15,74,[(Value.pointer (adr b15 c262)),rv265]⟩]) rfl
         replace hs:=hs.chrs (rs':=[⟨rv265,5,1,rn263,rx264,true⟩]) rfl
         exact wpList_nil (⟨c262,rn263,rx264,rv265,M261,hMM,(hs.weak (List.Sublist.refl _) (List.Sublist.refl _) ⟨rfl,rfl,rfl,rfl,rfl,trivial⟩),hS⟩)
     ·intro a w hJ
      obtain⟨c266,rn268,rx269,rv267,M270,hMM,hs,hS⟩:=hJ
      unfold qdP at hS
      refine Wp.region ?_
      obtain⟨hI,hS⟩:=hS
      refine sY (Value.int .i64 (x181+1)) hs (Yl.eq (Yl.pure (v:=Value.int .i64 (IntKind.wrap .i64 (x181+1))) rfl (λ_=>by kernel_rfl)) (congrArg (Value.int .i64) (qdX hI))) λ_ hs=>?_
      refine sP (Value.int .i64 (x181+1)) hs λ_ hs=>?_
      refine wpList_nil ?_
      obtain⟨gh,hI1,hI2⟩:=hS
      exact⟨(gh,x181+1,c266,rn268,rx269,rv267,M270),⟨hMM,(hs.weak (List.Sublist.refl _) (List.Sublist.refl _) ⟨rfl,rfl,rfl,rfl,rfl,trivial⟩),hI1⟩,hI2⟩
    ·have hS:=hS.2 hc
     obtain⟨l,hl,hQ⟩:=hS
     subst hl
     refine Wp.exit rfl (Wp.seq (Wp.region ?_))
     refine qpf [(Value.pointer (some ⟨b15,0,none⟩))] (K:=λv=>v= .string (mkS l)) hs hMM hE rfl ⟨_,rfl,rfl⟩ rfl Tryz.func32 rfl (by kernel_rfl) (by decide) (qqP hs hEb15) (λ_ _ v Mz hv hMM hs=>?_)
     subst hv
     refine sP (Value.string (mkS l)) hs λ_ hs=>?_
     exact wpList_nil (Wp.ret (qaj (K:=K) hs (qct hs rfl rfl) hMM (λM' _=>hQ M')))
theorem qjV (text1:List UInt8) (M:Mem) (K:Value->Mem->Prop) (hS:qdp text1 M (λ_=>False) K):qaf Tryz.prog 11 #[(Value.string (mkS text1))] M K:=(qot _ _ _ _ hS).toE
end Go.Proofs.YtleaplmdgckmkaaGreatDoor.core
namespace Go.Proofs.YtleaplmdgckmkaaGreatDoor.core
open Go.Gx Go.RowKit Go.ChangeShapes Go.WideShapes Go.ChangeAt
set_option linter.unusedVariables false
set_option maxHeartbeats 1000000 in
set_option maxRecDepth 100000 in
theorem qs3 (b:Nat) (w:World) (h0:w.cell? ⟨b,0,none⟩=some (.pointer (some ⟨b,0,none⟩))):
  Calls Tryz.prog 55 #[.pointer (some ⟨b,0,none⟩)] w λe w'=>e= .returned (.tuple #[])/\w'=w:=by
 obtain⟨j,hj,_⟩:=Option.map_eq_some_iff.1 (show(Tryz.prog.info? 74).map (·.size)=some 2 by kernel_rfl)
 have mixed:Tryz.prog.follows .mixedOrders=true:=by kernel_rfl
 have t72:=Tryz.underlying74;have a72:=Tryz.isAgg74;have z72:=Tryz.sizeOf74;have v72:=Tryz.zeroValue74;have u72:=run_underlying t72
 have t70:=Tryz.underlying71;have a70:=Tryz.isAgg71;have z70:=Tryz.sizeOf71;have v70:=Tryz.zeroValue71;have u70:=run_underlying t70
 have t9:=Tryz.underlying9;have a9:=Tryz.isAgg9;have z9:=Tryz.sizeOf9;have v9:=Tryz.zeroValue9;have u9:=run_underlying t9
 have t4:=Tryz.underlying4;have a4:=Tryz.isAgg4;have z4:=Tryz.sizeOf4;have v4:=Tryz.zeroValue4;have u4:=run_underlying t4
 have t164:=Tryz.underlying149;have a164:=Tryz.isAgg149;have z164:=Tryz.sizeOf149;have v164:=Tryz.zeroValue149;have u164:=run_underlying t164
 go_enter Tryz.func55,Tryz.ntmps55
 go_wp2
 rw[Lib.run_neq_ptr_same w _ t70 hj]
 go_wp2
 go_end0
 exact⟨rfl,rfl⟩
set_option maxHeartbeats 1000000 in
set_option maxRecDepth 100000 in
theorem qrA (b:Nat) (w:World) (h0:w.cell? ⟨b,0,none⟩=some (.pointer none)) (hsh:w.shape? b=some (74,2)) (hfz:w.frozen? ⟨b,0,none⟩=false):
  Calls Tryz.prog 55 #[.pointer (some ⟨b,0,none⟩)] w λe w'=>e= .returned (.tuple #[])/\w'=w.setCell ⟨b,0,none⟩ (.pointer (some ⟨b,0,none⟩)):=by
 obtain⟨j,hj,hjs⟩:=Option.map_eq_some_iff.1 (show(Tryz.prog.info? 74).map (·.size)=some 2 by kernel_rfl)
 have hlies:liesAt Tryz.prog Tryz.prog.depth 74 (2 / Tryz.prog.cellsOf 74) 0 74 1=true:=by kernel_rfl
 have mixed:Tryz.prog.follows .mixedOrders=true:=by kernel_rfl
 have t72:=Tryz.underlying74;have a72:=Tryz.isAgg74;have z72:=Tryz.sizeOf74;have v72:=Tryz.zeroValue74;have u72:=run_underlying t72
 have t70:=Tryz.underlying71;have a70:=Tryz.isAgg71;have z70:=Tryz.sizeOf71;have v70:=Tryz.zeroValue71;have u70:=run_underlying t70
 have t9:=Tryz.underlying9;have a9:=Tryz.isAgg9;have z9:=Tryz.sizeOf9;have v9:=Tryz.zeroValue9;have u9:=run_underlying t9
 have t4:=Tryz.underlying4;have a4:=Tryz.isAgg4;have z4:=Tryz.sizeOf4;have v4:=Tryz.zeroValue4;have u4:=run_underlying t4
 have t164:=Tryz.underlying149;have a164:=Tryz.isAgg149;have z164:=Tryz.sizeOf149;have v164:=Tryz.zeroValue149;have u164:=run_underlying t164
 go_enter Tryz.func55,Tryz.ntmps55
 go_wp2
 rw[Lib.run_to_unsafe w ⟨b,0,none⟩ t70 t164 hj (by rw[hjs];decide) hsh (Nat.zero_lt_succ 1)]
 simp only[Result.andThen]
 rw[Oper.upon_value]
 go_wp2
 rw[run_callFunc_extern Tryz.func85 (by kernel_rfl) (by kernel_rfl) (by kernel_rfl) (e:=Extern.AbiNoEscape.same) (by kernel_rfl)]
 rw[Lib.run_noEscape]
 simp only[Result.andThen]
 rw[Oper.upon_value]
 go_wp2
 rw[Lib.run_from_unsafe w ⟨b,0,none⟩ t164 t70 hj hsh hlies]
 simp only[Result.andThen]
 rw[Oper.upon_value]
 go_wp2
 go_end0
 exact⟨rfl,rfl⟩
theorem qlU (u:Bool) (rn:Nat) (rx:List Value) (M:Mem) (K:Value->Bool->Nat->List Value->Mem->Prop) (hK:K (.tuple #[]) true rn rx M):qbx u rn rx M K:=by
 intro b rv w hy
 have hm:MM M M w:=λ_ _ h=>.inl h
 obtain⟨x1,x2,x3⟩:=hy.bx _ (List.mem_singleton.2 rfl)
 have y1:w.heap[b]?=some (.cells #[Value.pointer (adr b u),rv] 74 (0,0)):=x1
 cases u with
 |true=>
  refine(qs3 b w (by rw[Lib.cell_of_heap x1];rfl)).mono λe w' ⟨h1,h2⟩=>?_
  subst h2
  exact⟨_,_,_,M,h1,Mem.le.refl M,hm,hy,rfl,true,rn,rx,rv,rfl,rfl,hK⟩
 |false=>
  refine(qrA b w (by rw[Lib.cell_of_heap x1];rfl) (by simp[World.shape?,y1]) (Lib.frozen_of_heap x1 0)).mono λe w' ⟨h1,h2⟩=>?_
  subst h2
  have hother:∀k,k≠b->(w.setCell ⟨b,0,none⟩ (.pointer (some ⟨b,0,none⟩))).heap[k]?=w.heap[k]?:=λk hk=>by
   simp only[World.setCell,Array.getElem?_modify]
   rw[if_neg (Ne.symm hk)]
  refine⟨_,[⟨b,74,[(Value.pointer (adr b true)),rv]⟩],[⟨rv,5,1,rn,rx,false⟩],M,h1,Mem.le.refl M,hm,⟨λk o hq=>?_,?_,λx hx=>?_,λr hr=>?_,?_⟩,rfl,true,rn,rx,rv,rfl,rfl,hK⟩
  ·rw[hother k (by rintro rfl;rw[x2]at hq;cases hq)];exact hy.on k o hq
  ·exact⟨hy.pr.os,hy.pr.tape,hy.pr.output,by simp[World.setCell],λk hk hn=>hother k (by rintro rfl;exact hn (by simp[blk]))⟩
  ·obtain rfl:=List.mem_singleton.1 hx
   refine⟨?_,x2,x3⟩
   show(w.setCell ⟨b,0,none⟩ (.pointer (some ⟨b,0,none⟩))).heap[b]?=some (.cells #[Value.pointer (adr b true),rv] 74 (0,0))
   unfold World.setCell
   rw[Array.getElem?_modify,if_pos rfl,y1];rfl
  ·obtain rfl:=List.mem_singleton.1 hr
   obtain⟨r1,r2⟩:=hy.rw _ (List.mem_singleton.2 rfl)
   exact⟨qcR r1 λg hg=>hother g (by rintro rfl;exact hy.nd.x _ (List.mem_singleton.2 rfl) _ (List.mem_singleton.2 rfl) hg),r2⟩
  ·exact⟨by simp,λx hx r hr=>by
    obtain rfl:=List.mem_singleton.1 hx
    obtain rfl:=List.mem_singleton.1 hr
    exact hy.nd.x _ (List.mem_singleton.2 rfl) _ (List.mem_singleton.2 rfl),by simp⟩
theorem qsb (u:Bool) (s:List UInt8) (rn:Nat) (rx:List Value) (M:Mem) (hl:rn+s.length<=140737488355328) (K:Value->Bool->Nat->List Value->Mem->Prop) (hK:K (.tuple #[.int .i64 (s.length:Nat),.nilIface]) true (rn+s.length) (rx++Lib.strCells (mkS s)) M):qbn s u rn rx M K:=
 qdz _ _ _ _ _ _ (qlU u rn rx M _ ⟨rfl,(by omega),hK⟩)
theorem qqI (u:Bool) (c:Int) (rn:Nat) (rx:List Value) (M:Mem) (hl:rn+1<=140737488355328) (K:Value->Bool->Nat->List Value->Mem->Prop) (hK:K .nilIface true (rn+1) (rx++[.int .u8 c]) M):qby c u rn rx M K:=
 qd1 _ _ _ _ _ _ (qlU u rn rx M _ ⟨rfl,(by omega),hK⟩)
end Go.Proofs.YtleaplmdgckmkaaGreatDoor.core
namespace Go.Proofs.YtleaplmdgckmkaaGreatDoor.core
open Go.Gx Go.RowKit Go.ChangeShapes Go.WideShapes Go.ChangeAt
set_option linter.unusedVariables false
def qgf (e a:Int) (b:Bool):Value:=.agg #[.int .i64 e,.int .i64 a,.bool b]
def qhR (e a:Int) (b:Bool):List PanicEntry:=[{v:=.iface 112 (qgf e a b),recovered:=false}]
theorem qsY (e:Int) (M:Mem) (L:Nat->Prop) (K:Value->Mem->Prop) (Kp:List PanicEntry->Prop) (h:Kp (qhR e 0 false)):qal Tryz.prog 87 #[.int .i64 e] M L K Kp:=by
 refine qbX Tryz.func87 rfl 5 rfl (Nat.le_of_ble_eq_true rfl) (λE a hs=>?_) (l:=[.int .i64 e])
 change Sx 5 E (bwW E M L) M E a [(0,.int .i64 e)] [] []at hs
 refine Wp.region (sP (.int .i64 e) hs λ_ hs=>?_)
 refine sP (qgf e 0 false) hs λ_ hs=>?_
 refine sP (.iface 112 (qgf e 0 false)) hs λ_ hs=>?_
 exact qix (bs:=[]) (rs:=[]) hs rfl rfl h
theorem qg5 (at_ e:Int) (M:Mem) (L:Nat->Prop) (K:Value->Mem->Prop) (Kp:List PanicEntry->Prop) (hK:e=0->∀M',M.le M'->K (.tuple #[]) M') (h:e≠0->Kp (qhR e at_ true)):qal Tryz.prog 119 #[.int .i64 at_,.int .i64 e] M L K Kp:=by
 refine qbX Tryz.func119 rfl 10 rfl (Nat.le_of_ble_eq_true rfl) (λE a hs=>?_) (l:=[.int .i64 at_,.int .i64 e])
 have hMM:=WX.refl M E
 change Sx 10 E (bwW E M L) M E a [(0,.int .i64 at_),(1,.int .i64 e)] [] []at hs
 refine Wp.seq (Wp.region (sP (.int .i64 e) hs λ_ hs=>?_))
 refine sP (.bool (!(e==(0:Int)))) hs λ_ hs=>?_
 refine wpList_nil (Wp.cond hs rfl rfl (qaC beq_iff_eq) (λhc=>?_) (λhc=>?_))
 ·refine Wp.region (sP (.int .i64 e) hs λ_ hs=>?_)
  refine sP (.int .i64 at_) hs λ_ hs=>?_
  refine sP (qgf e at_ true) hs λ_ hs=>?_
  refine sP (.iface 112 (qgf e at_ true)) hs λ_ hs=>?_
  exact qix (bs:=[]) (rs:=[]) hs rfl rfl (h hc)
 ·refine Wp.skip ?_
  exact qaj (K:=K) hs (res hs rfl) hMM (hK (Classical.not_not.1 hc))
set_option maxRecDepth 100000 in
theorem qhg (p:Addr) (w:World):CallsD Tryz.prog 56 #[.pointer (some p)] .returning w λe u' w'=>e= .returned (.tuple #[])/\u'= .returning/\w'=w:=by
 refine callsD_of_wpS Tryz.func56 rfl λc₀ cs hu=>?_
 refine wpS_seq ?_
 apply wpS_region
 simp[wpOpsS,go_sem,recoverD,hu,Tryz.ntmps56]
 let N:Act->World->Prop:=λa' w'=>a'.defers=[]/\w'=w
 refine wpS_of_wp (Code.wp_mono (Q:=QQ N [] N (λ_ _ _=>False)) (λe a' w' q=>?_) ?_)
 ·have key:N a' w'->bodyPostS Tryz.prog Tryz.f56 c₀ cs (λe u' w'=>e= .returned (.tuple #[])/\u'= .returning/\w'=w) .normal a' (c₀::cs) w':=by
   rintro⟨h1,rfl⟩
   exact⟨h1,.returning,by cases c₀;simp_all,.tuple #[],results_none rfl _ _ _,rfl,rfl,rfl⟩
  cases e with
  |normal=>exact key q
  |ret=>exact key q
  |_=>exact q.elim
 ·have hs:∀T:Array Value,T.size=27->T.getD 1 undef= .nilIface-> @Sx dfs0 27 w [] (λ_=>none) w ⟨T,[]⟩ [(1,.nilIface)] [] []:=λT hT h1=>
   ⟨⟨rfl,hT,λx v hx=>by
    rw[qhI]at hx
    split at hx
    ·rename_i h;subst h;injection hx with hx;subst hx;exact h1
    ·cases hx⟩,λ_ _ h=>(by cases h),qgg.refl _ _,λ_ h=>(by cases h),λ_ h=>(by cases h),⟨List.nodup_nil,λ_ h=>(by cases h),List.Pairwise.nil⟩⟩
  refine Wp.seq (Wp.region (sP .nilIface (hs _ ?hA ?hB) λ_ hs=>?_))
  case hA=>simp
  case hB=>simp
  refine sY (Value.bool (!true)) hs (Yl.ifNotNil rfl (by kernel_rfl) rfl (.inl ⟨rfl,rfl⟩)) λ_ hs=>?_
  refine wpList_nil (Wp.cond_f hs rfl rfl (Wp.skip ⟨hs.ag.df,rfl⟩))
def qtd (fe fa:Int) (fw:Bool) (M:Mem) (K:List UInt8->Prop):Prop:=
 qaf Tryz.prog 13 #[(Value.int .i64 fe)] M (λv _=>∃(x6:List UInt8),v=(Value.string (mkS x6))/\(([101,114,114,111,114,32]:List UInt8).length+x6.length<=9223372036854775807/\((fw=true->(qaf Tryz.prog 13 #[(Value.int .i64 fa)] M (λv _=>∃(x7:List UInt8),v=(Value.string (mkS x7))/\(([32]:List UInt8).length+x7.length<=9223372036854775807/\((([101,114,114,111,114,32]:List UInt8)++x6).length+(([32]:List UInt8)++x7).length<=9223372036854775807/\K (([101,114,114,111,114,32]:List UInt8)++x6++(([32]:List UInt8)++x7)))))))/\(¬(fw=true)->K (([101,114,114,111,114,32]:List UInt8)++x6)))))
set_option maxRecDepth 100000 in
theorem qsX (b1:Nat) (x0:Value) (fe fa:Int) (fw:Bool) (M:Mem) (K:List UInt8->Prop) (hS:qtd fe fa fw M K) (w:World) (hw:Sy w (blk [⟨b1,9,[x0]⟩] []) M w [⟨b1,9,[x0]⟩] []):
  CallsD Tryz.prog 56 #[.pointer (some ⟨b1,0,none⟩)] (.panicking (qhR fe fa fw)) w λe u' w'=>e= .returned (.tuple #[])/\u'= .panicking [{v:=.iface 112 (qgf fe fa fw),recovered:=true}]/\∃lb' lr' M',M.le M'/\MM M' M w/\Sy w (blk [⟨b1,9,[x0]⟩] []) M' w' lb' lr'/\∃c3,lb'=[⟨b1,9,[(Value.string (mkS c3))]⟩]/\lr'=[]/\K c3:=by
 unfold qhR
 refine callsD_of_wpS Tryz.func56 rfl λc₀ cs hu=>?_
 refine wpS_seq ?_
 apply wpS_region
 simp[wpOpsS,go_sem,recoverD,hu,Tryz.ntmps56]
 let N:Act->World->Prop:=λa' w'=>a'.defers=[]/\∃v,(results Tryz.f56 a'.tmps).run Tryz.prog w'= .ok v w'/\∃lb' lr' M',M.le M'/\MM M' M w/\Sy w (blk [⟨b1,9,[x0]⟩] []) M' w' lb' lr'/\lb'.map (·.b)=[b1]/\(v= .tuple #[]/\∃c3,lb'=[⟨b1,9,[(Value.string (mkS c3))]⟩]/\lr'=[]/\K c3)
 refine wpS_of_wp (Code.wp_mono (Q:=QQ N [] N (λ_ _ _=>False)) (λe a' w' q=>?_) ?_)
 ·have key:N a' w'->bodyPostS Tryz.prog Tryz.f56 c₀ cs (λe u' w'=>e= .returned (.tuple #[])/\u'= .panicking [{v:=.iface 112 (qgf fe fa fw),recovered:=true}]/\∃lb' lr' M',M.le M'/\MM M' M w/\Sy w (blk [⟨b1,9,[x0]⟩] []) M' w' lb' lr'/\∃c3,lb'=[⟨b1,9,[(Value.string (mkS c3))]⟩]/\lr'=[]/\K c3) .normal a' ({c₀ with mode:=.panicking [{v:=.iface 112 (qgf fe fa fw),recovered:=true}]}::cs) w':=by
   rintro⟨h1,v,h2,lb',lr',M',h3,h4,h5,h6,rfl,h7⟩
   exact⟨h1,_,rfl,_,h2,rfl,rfl,lb',lr',M',h3,h4,h5,h7⟩
  cases e with
  |normal=>exact key q
  |ret=>exact key q
  |_=>exact q.elim
 ·have hs:∀T:Array Value,T.size=27->T.getD 0 undef=(Value.pointer (some ⟨b1,0,none⟩))->T.getD 1 undef= .iface 112 (qgf fe fa fw)-> @Sx dfs0 27 w (blk [⟨b1,9,[x0]⟩] []) M w ⟨T,[]⟩ [(1,.iface 112 (qgf fe fa fw)),(0,(Value.pointer (some ⟨b1,0,none⟩)))] [⟨b1,9,[x0]⟩] []:=λT hT h0 h1=>hw.sx
   ⟨rfl,hT,λx v hx=>by
    rw[qhI]at hx
    split at hx
    ·rename_i h;subst h;injection hx with hx;subst hx;exact h1
    ·rw[qhI]at hx
     split at hx
     ·rename_i h;subst h;injection hx with hx;subst hx;exact h0
     ·cases hx⟩
  have hMM:=MX.refl M w
  unfold qtd at hS
  refine Wp.seq (Wp.region (sP (.iface 112 (qgf fe fa fw)) (hs _ ?hA ?hB ?hC) λ_ hs=>?_))
  case hA=>simp
  case hB=>simp
  case hC=>simp
  refine sY (Value.bool (!false)) hs (Yl.ifNotNil rfl (by kernel_rfl) rfl (.inr ⟨_,_,rfl,rfl⟩)) λ_ hs=>?_
  refine wpList_nil (Wp.cond_t hs rfl rfl ?_)
  refine Wp.seq (Wp.region (sP (.iface 112 (qgf fe fa fw)) hs λ_ hs=>?_))
  refine sP (Value.tuple #[(qgf fe fa fw),(Value.bool true)]) hs λ_ hs=>?_
  refine sP (Value.tuple #[(qgf fe fa fw),(Value.bool true)]) hs λ_ hs=>?_
  refine sP (qgf fe fa fw) hs λ_ hs=>?_
  refine sP (Value.bool true) hs λ_ hs=>?_
  refine qae [(Value.int .i64 0),(Value.int .i64 0),(Value.bool false)] hs (by kernel_rfl) (by decide) (λ_ _ b5 hEb5 hs=>?_)
  refine qbB 0 (vs:=[(Value.int .i64 fe),(Value.int .i64 fa),(Value.bool fw)]) hs rfl rfl rfl rfl rfl rfl (by kernel_rfl) (Nat.le_of_ble_eq_true rfl) rfl (λ_ _ hs=>?_)
  replace hs:=hs.chbx (bs':=[⟨b5,112,[(Value.int .i64 fe),(Value.int .i64 fa),(Value.bool fw)]⟩,⟨b1,9,[x0]⟩]) rfl
  refine sP (Value.bool true) hs λ_ hs=>?_
  refine wpList_nil (Wp.seq (Wp.seq (Wp.region (sP (Value.bool true) hs λ_ hs=>?_))))
  refine sP (Value.bool false) hs λ_ hs=>?_
  refine wpList_nil (Wp.cond_f hs rfl rfl ?_)
  refine Wp.skip (Wp.seq (Wp.region (sP (Value.pointer (some ⟨b5,0,none⟩)) hs λ_ hs=>?_)))
  refine sY (Value.int .i64 fe) hs (Yl.loadB (vs:=[(Value.int .i64 fe)]) false 0 rfl rfl rfl (by kernel_rfl) rfl) λ_ hs=>?_
  refine qb2 [(Value.int .i64 fe)] hs rfl ⟨_,rfl,rfl⟩ rfl Tryz.func13 rfl (by kernel_rfl) (by decide) hS (λ_ _ v hS hs=>?_)
  obtain⟨x6,hv,hS⟩:=hS
  subst hv
  obtain⟨hl,hS⟩:=hS
  refine sY (Value.string (mkS (([101,114,114,111,114,32]:List UInt8)++x6))) hs (Yl.concat rfl rfl rfl rfl hl) λ_ hs=>?_
  refine qbB 1 (vs:=[(Value.string (mkS (([101,114,114,111,114,32]:List UInt8)++x6)))]) hs rfl rfl rfl rfl rfl rfl (by kernel_rfl) (Nat.le_of_ble_eq_true rfl) rfl (λ_ _ hs=>?_)
  replace hs:=hs.chbx (bs':=[⟨b5,112,[(Value.int .i64 fe),(Value.int .i64 fa),(Value.bool fw)]⟩,⟨b1,9,[(Value.string (mkS (([101,114,114,111,114,32]:List UInt8)++x6)))]⟩]) rfl
  refine wpList_nil (Wp.seq (Wp.region (sP (Value.pointer (some ⟨b5,2,none⟩)) hs λ_ hs=>?_)))
  refine sY (Value.bool fw) hs (Yl.loadB (vs:=[(Value.bool fw)]) false 0 rfl rfl rfl (by kernel_rfl) rfl) λ_ hs=>?_
  refine wpList_nil (Wp.cond hs rfl rfl Iff.rfl (λhc=>?_) (λhc=>?_))
  ·have hS:=hS.1 hc
   refine Wp.regionD [true,true,true,true,true,true,false] hs (by kernel_rfl) rfl [⟨b5,112,[(Value.int .i64 fe),(Value.int .i64 fa),(Value.bool fw)]⟩,⟨b1,9,[(Value.string (mkS (([101,114,114,111,114,32]:List UInt8)++x6)))]⟩] (λ_ h=>h) [] (λ_ h=>h) (λ_ hs hC=>?_)
   have hL:=Mem.le.refl M
   refine qkW (v:=(Value.string (mkS (([101,114,114,111,114,32]:List UInt8)++x6)))) 0 [5,6] hs hC QZ.no rfl (qad rfl) rfl (by decide) (by kernel_rfl) (by kernel_rfl) (by kernel_rfl) (Yl.loadB (vs:=[(Value.string (mkS (([101,114,114,111,114,32]:List UInt8)++x6)))]) false 1 rfl rfl rfl (by kernel_rfl) rfl) (λ_ hs=>?_)
   refine qhW 1 rfl (qad rfl) (by kernel_rfl) #[] ?_
   refine sP (Value.pointer (some ⟨b5,1,none⟩)) hs λ_ hs=>?_
   refine wpList_nil (⟨λ_ h=>h,?_⟩)
   refine qhW 2 rfl (qad rfl) (by kernel_rfl) #[] ?_
   refine sY (Value.int .i64 fa) hs (Yl.loadB (vs:=[(Value.int .i64 fa)]) false 0 rfl rfl rfl (by kernel_rfl) rfl) λ_ hs=>?_
   refine wpList_nil (⟨λ_ h=>h,?_⟩)
   refine qhW 3 rfl (qad rfl) (by kernel_rfl) #[] ?_
   refine qb2 [(Value.int .i64 fa)] hs rfl ⟨_,rfl,rfl⟩ rfl Tryz.func13 rfl (by kernel_rfl) (by decide) hS (λ_ _ v hS hs=>?_)
   obtain⟨x7,hv,hS⟩:=hS
   subst hv
   refine wpList_nil (⟨λ_ _=>hs.cxle hL (List.Sublist.refl _) (List.Sublist.refl _),?_⟩)
   have hC:=hs.cxle hL (List.Sublist.refl _) (List.Sublist.refl _)
   refine qhW 4 rfl (qad rfl) (by kernel_rfl) #[] ?_
   obtain⟨hl,hS⟩:=hS
   refine sY (Value.string (mkS (([32]:List UInt8)++x7))) hs (Yl.concat rfl rfl rfl rfl hl) λ_ hs=>?_
   refine wpList_nil (⟨λ_ h=>h,?_⟩)
   refine qhW 5 rfl (qad rfl) (by kernel_rfl) #[] ?_
   obtain⟨hl,hS⟩:=hS
   refine sY (Value.string (mkS (([101,114,114,111,114,32]:List UInt8)++x6++(([32]:List UInt8)++x7)))) hs (Yl.concat rfl rfl rfl rfl hl) λ_ hs=>?_
   refine wpList_nil (⟨λ_ h=>h,?_⟩)
   refine qhW 6 rfl (qad rfl) (by kernel_rfl) #[] ?_
   refine qbB 1 (vs:=[(Value.string (mkS (([101,114,114,111,114,32]:List UInt8)++x6++(([32]:List UInt8)++x7))))]) hs rfl rfl rfl rfl rfl rfl (by kernel_rfl) (Nat.le_of_ble_eq_true rfl) rfl (λ_ _ hs=>?_)
   replace hs:=hs.chbx (bs':=[⟨b5,112,[(Value.int .i64 fe),(Value.int .i64 fa),(Value.bool fw)]⟩,⟨b1,9,[(Value.string (mkS (([101,114,114,111,114,32]:List UInt8)++x6++(([32]:List UInt8)++x7))))]⟩]) rfl
   refine wpList_nil (⟨λh=>absurd h (by decide),?_⟩)
   refine WpD.done (by kernel_rfl) ?_ _
   replace hs:=hs.bfront 1 rfl rfl
   exact qg7 hs (res hs rfl) hMM.1 hMM.2 [⟨b1,9,[(Value.string (mkS (([101,114,114,111,114,32]:List UInt8)++x6++(([32]:List UInt8)++x7))))]⟩] [] (.cons_cons _ (.cons _ List.Sublist.slnil)) (List.Sublist.refl _) rfl ⟨rfl,([101,114,114,111,114,32]:List UInt8)++x6++(([32]:List UInt8)++x7),rfl,rfl,hS⟩
  ·have hS:=hS.2 hc
   refine Wp.skip ?_
   replace hs:=hs.bfront 1 rfl rfl
   exact qg7 hs (res hs rfl) hMM.1 hMM.2 [⟨b1,9,[(Value.string (mkS (([101,114,114,111,114,32]:List UInt8)++x6)))]⟩] [] (.cons_cons _ (.cons _ List.Sublist.slnil)) (List.Sublist.refl _) rfl ⟨rfl,([101,114,114,111,114,32]:List UInt8)++x6,rfl,rfl,hS⟩
end Go.Proofs.YtleaplmdgckmkaaGreatDoor.core
namespace Go.Proofs.YtleaplmdgckmkaaGreatDoor.core
open Go.Gx Go.RowKit Go.ChangeShapes Go.WideShapes Go.ChangeAt
set_option linter.unusedVariables false
theorem qtB {M M':Mem} {L:Nat->Prop} {E w:World} (hE:On M E) (hM:WX M' M E) (ho:On M' w) (hp:qgg E (bwW E M L) w):LeW M L M':=by
 refine⟨λb o hb hL=>?_,hM.dom⟩
 obtain⟨o',ho'⟩:=Option.isSome_iff_exists.1 (hM.dom b (by rw[hb];rfl))
 have h1:=ho b o' ho'
 rw[hp.block b (hE.lt hb) (λh=>hL (qd9.1 h).2.1),hE b o hb]at h1
 rw[ho',<-h1]
theorem qtr {M:Mem} {L:Nat->Prop} {K:PK} {fe fa:Int} {fw:Bool} {msg:List UInt8} (hd:∀M',LeW M L M'->qtd fe fa fw M' (λc=>c=msg)) (hk:∀M',K.r (.string (mkS msg)) M') (hc0:∀ch,K.p ch->ch=qhR fe fa fw)
  (E:World) (I:Dfs) (ch:List PanicEntry) (a:Act) (w:World) (M':Mem) (env:Env) (rs:List Rw) (b0:Nat) (x0:Value) (hE:On M E) (hc:K.p ch) (hM:WX M' M E) (hs': @Sx I 63 E (bwW E M L) M' w a env [⟨b0,9,[x0]⟩] rs) (hI:I.D=[⟨.fn (.func 56) #[Value.pointer (some ⟨b0,0,none⟩)],#[]⟩]) (e0:lk env 6=some (Value.pointer (some ⟨b0,0,none⟩))):qs9 Tryz.prog Tryz.f30 M L K.r E ch a w:=by
 obtain rfl:=hc0 ch hc
 refine qr5 (t:=112) (u:=qgf fe fa fw) hs' hI (qeO Tryz.func56 rfl (by kernel_rfl)) ((qsX b0 x0 fe fa fw M' (λc=>c=msg) (hd M' (qtB hE hM hs'.on hs'.pr)) w (Sx.lend (lb:=[⟨b0,9,[x0]⟩]) (lr:=[]) (bs:=[]) (rs:=rs) (fl:=false) hs' rfl)).mono ?_)
 rintro e u' w' ⟨rfl,rfl,lb',lr',M2,hle,hmm,hy,c3,rfl,rfl,rfl⟩
 have hs2:=Sx.back (lb:=[⟨b0,9,[x0]⟩]) (lr:=[]) (bs:=[]) (rs:=rs) (fl:=false) hs' hle hmm hy rfl hs'.ag
 exact⟨rfl,rfl,M2,_,_,_,hM.next hle (λb o hb=>(hmm b o hb).imp id λh=>Nat.le_trans hs'.pr.size h),hs2,qqZ false hs2 rfl e0 (by kernel_rfl),λM'' _=>hk M''⟩
end Go.Proofs.YtleaplmdgckmkaaGreatDoor.core
namespace Go.Proofs.YtleaplmdgckmkaaGreatDoor.core
open Go.Gx Go.RowKit Go.ChangeShapes Go.WideShapes Go.ChangeAt
set_option linter.unusedVariables false
structure qfU (M:Mem):Prop where
 pow:∃e f,M 3=some (.cells (Lib.pow10Tab.map λz=>Value.int .u64 z).toArray e f)
 max:∃m,M.cell 0 0=some (.int .i64 m)
theorem qfU.le {M M':Mem} (h:qfU M) (hl:M.le M'):qfU M':=
 ⟨let⟨_,_,a⟩:=h.pow;⟨_,_,hl _ _ a⟩,let⟨_,a⟩:=h.max;⟨_,hl.cell a⟩⟩
theorem qsh {M:Mem} {w:World} (h:On M w) {name:String} {g:Nat} {cs:Array Value} {e f} (hg:Tryz.prog.globalNamed name=some g) (hm:M g=some (.cells cs e f)):w.var? Tryz.prog name=some cs:=by
 unfold World.var?
 rw[hg]
 simp only[Option.bind_some]
 rw[h _ _ hm]
theorem qtF {M:Mem} (hM:qfU M) {n:Int} (h:InI n):qaf Tryz.prog 37 #[.int .i64 n] M (λv _=>v= .string (mkS (Lib.itoa n))):=by
 intro w hw
 obtain⟨e,f,hp⟩:=hM.pow
 have hI: -9223372036854775808<=n/\n<=9223372036854775807:=by unfold InI at h;omega
 refine(qiC n hI.1 hI.2 w (qsh hw (by kernel_rfl) hp)).mono λx w' ⟨h1,k,os,h2⟩=>⟨_,h1,?_,rfl⟩
 subst h2
 exact Lib.below_grow _ w (Nat.le_refl _) k os
theorem qhf {M:Mem} (hM:qfU M) {n:Int} (h:InI n):qaf Tryz.prog 13 #[.int .i64 n] M (λv _=>v= .string (mkS (Lib.itoa n))):=
 qmh _ _ _ ((qtF hM h).mono λv M' _ hv=>⟨_,hv,rfl⟩)
theorem quq (M:Mem):qaf Tryz.prog 155 #[.string (mkS [48])] M (λv _=>v= .tuple #[.int .i64 0,.nilIface]):=by
 intro w hw
 refine(qgV (mkS [48]) (by decide) 0 (by rfl) w).mono λx w' ⟨h1,h2⟩=>⟨_,h1,?_,rfl⟩
 rcases h2 with rfl|⟨t,rfl⟩
 ·exact Below.refl _ _
 ·exact Lib.bytesWorld_below _ _ _
theorem qtf {M:Mem} (hM:qfU M):qaf Tryz.prog 121 #[.string (mkS [48])] M (λv _=>v= .tuple #[.int .i64 0,.int .i64 0]):=by
 refine qkd _ _ _ ((quq M).mono λv M' hle hv=>⟨0,_,hv,true,.inl ⟨rfl,rfl⟩,λg=>absurd rfl g,λ_=>⟨λg=>absurd g (by decide),λ_=>⟨λg=>absurd g (by decide),λ_=>(qtF (hM.le hle) (by unfold InI;omega)).mono λv M2 _ hv=>⟨_,hv,?_⟩⟩⟩⟩)
 unfold qbk
 refine⟨λg=>?_,λ_=>rfl⟩
 rw[show Lib.itoa 0=[48] by unfold Lib.itoa Lib.decDigits;rfl]at g
 simp at g
theorem qtG {M:Mem} (hM:qfU M) {s sub:List UInt8} (hs:s.length<4294967281):qaf Tryz.prog 26 #[.string (mkS s),.string (mkS sub)] M (λv _=>v= .int .i64 (Lib.index s sub)):=by
 intro w hw
 obtain⟨m,hm⟩:=hM.max
 refine(qia (mkS s) (mkS sub) m w (by rw[qcu];exact hs) (hw.cell hm)).mono λx w' ⟨h1,h2⟩=>⟨_,h1,h2▸Below.refl _ _,rfl⟩
theorem qth {M:Mem} {s p:List UInt8}:qaf Tryz.prog 57 #[.string (mkS s),.string (mkS p)] M (λv _=>v= .string (mkS (Lib.trimPrefix s p))):=λw hw=>
 (qfB (mkS s) (mkS p) w).mono λx w' ⟨h1,h2⟩=>⟨_,h1,h2▸Below.refl _ _,rfl⟩
theorem qtg {M:Mem} {s p:List UInt8} (hs:s.length<=9223372036854775807):qaf Tryz.prog 10 #[.string (mkS s),.string (mkS p)] M (λv _=>v= .string (mkS (Lib.trimSuffix s p))):=λw hw=>
 (qfA (mkS s) (mkS p) w (by rw[qcu];exact hs)).mono λx w' ⟨h1,h2⟩=>⟨_,h1,h2▸Below.refl _ _,rfl⟩
theorem qss {M:Mem} {s:List UInt8} {c:Nat} (hc:c<=9223372036854775807) (hl:s.length*c<=140737488355328):qaf Tryz.prog 12 #[.string (mkS s),.int .i64 c] M (λv _=>v= .string (mkS (Lib.repeatL s c))):=λw hw=>
 (qhv (mkS s) c w hc (by rw[qcu];exact hl)).mono λx w' ⟨h1,h2⟩=>⟨_,h1,h2,rfl⟩
def qgt (c:UInt8) (s:List UInt8):List (List UInt8):=Lib.split s [c]
theorem qpZ {c:UInt8} {a r:List UInt8} (h:c∉a):Lib.index (a++c::r) [c]=(a.length:Nat):=by
 refine Lib.index_first (by simp) (by simp[Lib.occAt]) λj hj=>?_
 unfold Lib.occAt
 rw[List.drop_append_of_le_length (by omega)]
 obtain⟨x,t,hx⟩:∃x t,a.drop j=x::t:=by
  cases hd:a.drop j with
  |nil=>rw[List.drop_eq_nil_iff]at hd;omega
  |cons x t=>exact⟨x,t,rfl⟩
 rw[hx]
 have:x∈a:=List.mem_of_mem_drop (i:=j) (by rw[hx];exact List.mem_cons_self ..)
 simp[List.isPrefixOf]
 rintro rfl
 exact h this
theorem qrn {c:UInt8} {a:List UInt8} (h:c∉a):Lib.index a [c]= -1:=by
 refine Lib.index_none λj hj=>?_
 unfold Lib.occAt
 cases hd:a.drop j with
 |nil=>rfl
 |cons x t=>
  have:x∈a:=List.mem_of_mem_drop (i:=j) (by rw[hd];exact List.mem_cons_self ..)
  simp[List.isPrefixOf]
  rintro rfl
  exact h this
theorem qeH {c:UInt8} {a r:List UInt8} (h:c∉a):qgt c (a++c::r)=a::qgt c r:=by
 have hi:=qpZ (r:=r) h
 have hc:=Lib.count_hit (sub:=[c]) (by simp) hi
 unfold qgt Lib.split
 rw[hc,Nat.add_comm,Lib.splitK,if_neg (by rw[hi];simp),hi]
 simp
theorem qil {c:UInt8} {a:List UInt8} (h:c∉a):qgt c a=[a]:=by
 have hi:=qrn h
 unfold qgt Lib.split
 rw[Lib.count_miss hi]
 rfl
theorem qpk {M:Mem} (hM:qfU M) {s:List UInt8} {c:UInt8} (hs:s.length<4294967281):
  qaf Tryz.prog 9 #[.string (mkS s),.string (mkS [c])] M (λv M'=>∃A,v= .slice A (qgt c s).length (qgt c s).length/\SlV M' A (qgt c s).length (qgt c s).length 1 (qec (qgt c s))):=by
 intro w hw
 obtain⟨m,hm⟩:=hM.max
 have hd:((Lib.splitB (mkS [c]) 0 (Lib.countB (mkS s) (mkS [c])) (mkS s)).map (·.data.toList))=qgt c s:=Lib.splitB_data _ _ _ _
 have hl:(Lib.splitB (mkS [c]) 0 (Lib.countB (mkS s) (mkS [c])) (mkS s)).length=Lib.countB (mkS s) (mkS [c])+1:=Lib.splitB_all _ (by rw[qcu];exact Nat.le_refl 1) 0 _ _ rfl
 have hl2:(qgt c s).length=Lib.countB (mkS s) (mkS [c])+1:=by rw[<-hd,List.length_map,hl]
 have hv:(Lib.splitB (mkS [c]) 0 (Lib.countB (mkS s) (mkS [c])) (mkS s)).map Value.string=qec (qgt c s):=by
  unfold qec
  rw[<-hd,List.map_map]
  exact List.map_congr_left λx _=>rfl
 refine(qh9 (mkS s) (mkS [c]) m w (by rw[qcu];exact hs) (hw.cell hm) (by rw[qcu];exact Nat.le_refl 1)).mono λx w' ⟨h1,h2⟩=>⟨_,h1,?_,some ⟨w.heap.size,0,none⟩,by rw[hl2],?_⟩
 ·rw[h2];exact Below.alloc (Below.refl _ _) (Nat.le_refl _) _
 ·have hle:=Lib.countB_le (mkS [c]) (by rw[qcu];exact Nat.le_refl 1) _ (mkS s) (Nat.le_refl _)
  rw[qcu]at hle
  refine⟨by simp[qec],Nat.le_refl _,(by unfold maxLen;omega),λ_=>⟨_,_,rfl,λj v hj=>?_⟩⟩
  have hb:grow M w w' w.heap.size=some (.cells (qec (qgt c s)).toArray 9):=by
   unfold grow
   rw[if_pos (Nat.le_refl _),h2,hv]
   exact(Array.getElem?_push_size (xs:=w.heap))
  unfold Mem.cell
  rw[hb]
  simpa using hj
theorem qnz:∀(k u:Nat),u<10 ^ (k+1)->(Lib.decDigits u).length<=k+1:=λk=>by
 induction k with
 |zero=>intro u hu;rw[Lib.decDigits,dif_pos (by omega)];simp
 |succ k ih=>
  intro u hu
  rw[Lib.decDigits]
  split
  ·simp
  ·have:=ih (u / 10) (by rw[Nat.pow_succ]at hu;omega)
   rw[List.length_append,List.length_singleton];omega
theorem qbE {z:Int} (h:InI z):(Lib.itoa z).length<=21:=by
 have h20:(10:Nat) ^ 20=100000000000000000000:=by decide
 unfold InI at h
 unfold Lib.itoa
 split
 ·have:=qnz 19 z.natAbs (by omega)
  rw[List.length_cons];omega
 ·have:=qnz 19 z.toNat (by omega)
  omega
end Go.Proofs.YtleaplmdgckmkaaGreatDoor.core
namespace Go.Proofs.YtleaplmdgckmkaaGreatDoor.core
open Go.Gx Go.RowKit Go.ChangeShapes Go.WideShapes Go.ChangeAt
set_option linter.unusedVariables false
theorem qgi (s:List UInt8) (c:UInt8) (M:Mem) (K:Value->Prop) (h:K (.int .i64 (ql3 s c.toNat))):qa6 s (c.toNat:Int) M K:=h
theorem qdu (s:List UInt8) (c:UInt8) (M:Mem) (K:Value->Prop) (h:K (.int .i64 (ql3 s c.toNat))):qcM s (c.toNat:Int) M K:=
 qbN _ _ _ _ (qgi s c _ _ ⟨_,rfl,h⟩)
theorem qg9 (s:List UInt8) (c:UInt8):decide (ql3 s c.toNat>=0)=decide (c∈s):=by
 rcases qhJ s c with⟨h,hn⟩|⟨i,h,hi,_⟩
 ·rw[h]
  have:¬c∈s:=λhm=>by
   obtain⟨j,hj⟩:=List.mem_iff_getElem?.1 hm
   exact hn j c hj rfl
  simp[this]
 ·rw[h]
  have:=List.mem_of_getElem? hi
  simp[this]
theorem qma (s:List UInt8) (c:UInt8) (M:Mem) (K:Value->Prop) (h:∀z:Int,decide (z>=0)=decide (c∈s)->(z=ql3 s c.toNat)->K (.int .i64 z)):qbq s [c] M K:=by
 have j1:∀b:Bool,b=((mkS [c]).toList==(mkS s).toList)->qat s [c] M b K:=by
  intro b hb
  refine⟨λe=>?_,λe=>⟨λ_=>⟨c,by omega,rfl,?_⟩,λh=>absurd rfl h⟩⟩
  ·rw[e]at hb
   have:[c]=s:=qaY.1 hb.symm
   subst this
   refine h 0 (by simp) ?_
   rcases qhJ [c] c with⟨_,hn⟩|⟨i,h1,hi,_⟩
   ·exact absurd rfl (hn 0 c rfl)
   ·have:=(List.getElem?_eq_some_iff.1 hi).1
    simp at this
    subst this
    rw[h1];rfl
  ·exact qbN _ _ _ _ (qgi s c _ _ ⟨_,rfl,h _ (qg9 s c) rfl⟩)
 exact⟨λh=>by simp at h,λ_=>j1 _ rfl⟩
theorem qpY (s:List UInt8) (c:UInt8) (M:Mem) (K:Value->Prop) (h:∀z:Int,decide (z>=0)=decide (c∈s)->(z=ql3 s c.toNat)->K (.int .i64 z)):qeb s [c] M K:=
 qdI _ _ _ _ (qma s c _ _ λz hz hz2=>⟨_,rfl,h z hz hz2⟩)
theorem qlR (s:List UInt8) (c:UInt8) (M:Mem) (K:Value->Prop) (h:K (.bool (decide (c∈s)))):qc4 s [c] M K:=
 qiJ _ _ _ _ (qpY s c _ _ λz hz _=>⟨_,rfl,by rw[hz];exact h⟩)
end Go.Proofs.YtleaplmdgckmkaaGreatDoor.core
namespace Go.Proofs.YtleaplmdgckmkaaGreatDoor.core
open Go.Gx Go.RowKit Go.ChangeShapes Go.WideShapes Go.ChangeAt
set_option linter.unusedVariables false
abbrev qsN:List UInt8:=[48,49,50,51,52,53,54,55,56,57,97,98,99,100,101,102]
def qro (n:Nat):UInt8:=qsN.getD n 0
def qbz (signs:List UInt8) (low:Nat) (b:UInt8):List UInt8:=
 if b.toNat=10 then[92,110] else if b.toNat=9 then[92,116] else if b.toNat<low\/b.toNat>126 then[92,120,qro (b.toNat / 16),qro (b.toNat % 16)] else if b∈signs then[92,b] else[b]
theorem qfY (signs:List UInt8) (low:Nat) (b:UInt8):(qbz signs low b).length<=4:=by
 unfold qbz
 split
 ·simp
 ·split
  ·simp
  ·split
   ·simp
   ·split<;>simp
theorem qp2:∀n:Nat,n<16->(qsN.take (n+1)).drop n=[qro n]:=by decide
theorem hi4:∀n:Nat,n<256->qbV .u8 (n:Int) 4=((n / 16:Nat):Int)/\qcw .u8 (n:Int) 15=((n % 16:Nat):Int)/\IntKind.wrap .u8 (((n / 16:Nat):Int)+1)=((n / 16+1:Nat):Int)/\IntKind.wrap .u8 (((n % 16:Nat):Int)+1)=((n % 16+1:Nat):Int):=by decide+kernel
theorem qkh (b:UInt8) (signs:List UInt8) (M:Mem) (K:Value->Prop) (low:Nat) (hlow:low=if signs=[39,92] then 32 else 33) (h:K (.string (mkS (qbz signs low b)))):qff (b.toNat:Int) signs M K:=by
 have hb:=b.toNat_lt
 obtain⟨e1,e2,e3,e4⟩:=hi4 b.toNat hb
 have q16:b.toNat / 16<16:=by omega
 have r16:b.toNat % 16<16:=by omega
 have j1:∀v:Bool,b.toNat≠10->b.toNat≠9->v=decide (b.toNat<low\/b.toNat>126)->qbs (b.toNat:Int) signs M v K:=by
  intro v n10 n9 hv
  unfold qbs
  rw[e1,e2,e3,e4]
  refine⟨λe=>?_,λe=>?_⟩
  ·have hc:b.toNat<low\/b.toNat>126:=by rw[e]at hv;exact of_decide_eq_true hv.symm
   have t1:(((b.toNat / 16+1:Nat):Int)).toNat=b.toNat / 16+1:=by omega
   have t2:(((b.toNat / 16:Nat):Int)).toNat=b.toNat / 16:=by omega
   have t3:(((b.toNat % 16+1:Nat):Int)).toNat=b.toNat % 16+1:=by omega
   have t4:(((b.toNat % 16:Nat):Int)).toNat=b.toNat % 16:=by omega
   have c1:=qp2 _ q16
   have c2:=qp2 _ r16
   rw[t1,t2,t3,t4,c1,c2]
   refine⟨by omega,by omega,by simp;omega,by simp,by omega,by omega,by simp;omega,by simp,?_⟩
   have:qbz signs low b=[92,120,qro (b.toNat / 16),qro (b.toNat % 16)]:=by unfold qbz;rw[if_neg n10,if_neg n9,if_pos hc]
   rw[this]at h;exact h
  ·have hc:¬(b.toNat<low\/b.toNat>126):=λq=>e (by rw[hv];exact decide_eq_true q)
   have hs:qbz signs low b=if b∈signs then[92,b] else[b]:=by unfold qbz;rw[if_neg n10,if_neg n9,if_neg hc]
   refine qbu _ _ _ _ (qdu signs b _ _ ⟨_,rfl,λhi=>⟨[b],rfl,by simp,?_⟩,λhi=>⟨[b],rfl,?_⟩⟩)
   ·have hm:=qg9 signs b
    rw[decide_eq_true hi]at hm
    rw[hs,if_pos (of_decide_eq_true hm.symm)]at h;exact h
   ·have hm:=qg9 signs b
    rw[decide_eq_false hi]at hm
    rw[hs,if_neg (of_decide_eq_false hm.symm)]at h;exact h
 unfold qff
 refine⟨λq=>?_,λn10=>⟨λq=>?_,λn9=>?_⟩⟩
 ·have:qbz signs low b=[92,110]:=by unfold qbz;rw[if_pos (by omega)]
  rw[this]at h;exact h
 ·have:qbz signs low b=[92,116]:=by unfold qbz;rw[if_neg (by omega),if_pos (by omega)]
  rw[this]at h;exact h
 have n10':b.toNat≠10:=by omega
 have n9':b.toNat≠9:=by omega
 refine⟨λh32=>⟨λhne=>j1 _ n10' n9' ?_,λhe=>⟨λhs=>j1 _ n10' n9' ?_,λhs=>j1 _ n10' n9' ?_⟩⟩,λh32=>j1 _ n10' n9' ?_⟩
 ·rw[eq_comm,decide_eq_true_iff]
  left;rw[hlow];split<;>omega
 ·rw[eq_comm,decide_eq_true_iff]
  left;rw[hlow,if_neg hs];omega
 ·have hs:signs=[39,92]:=by simpa using hs
  rw[hlow,if_pos hs,Bool.eq_iff_iff];simp;omega
 ·rw[hlow,Bool.eq_iff_iff];split<;>simp<;>omega
def qfx (c:UInt8):Int:=ql3 qsN c.toNat
theorem qky (c:UInt8):qfx c<=15:=by
 unfold qfx
 rcases qhJ qsN c with⟨h,_⟩|⟨i,h,hi,_⟩
 ·rw[h];omega
 ·have:=(List.getElem?_eq_some_iff.1 hi).1
  simp at this
  rw[h];omega
theorem qsM:∀a:Nat,a<16->∀b:Nat,b<16->IntKind.wrap .u8 (bOr .i64 (qh3 .i64 (a:Int) 4) (b:Int))=((16*a+b:Nat):Int):=by decide+kernel
def qaX (signs:List UInt8) (s:List UInt8):Int×Int:=
 match s with
 |[]=>(0,0)
 |c::r=>if c.toNat=10 then(0,0) else if c.toNat≠92 then(c.toNat,1) else match r with
  |[]=>(0,0)
  |d::t=>if d.toNat=110 then(10,2) else if d.toNat=116 then(9,2) else if d∈signs then(d.toNat,2) else if d.toNat=120 then(match t with
   |a::b::_=>if qfx a>=0/\qfx b>=0 then(16*qfx a+qfx b,4) else(0,0)
   |_=>(0,0)) else(0,0)
theorem qeI (signs:List UInt8) (c:UInt8) (r:List UInt8):qaX signs (c::r)=if c.toNat=10 then((0,0):Int×Int) else if c.toNat≠92 then((c.toNat:Int),1) else match r with
  |[]=>(0,0)
  |d::t=>if d.toNat=110 then(10,2) else if d.toNat=116 then(9,2) else if d∈signs then(d.toNat,2) else if d.toNat=120 then(match t with
   |a::b::_=>if qfx a>=0/\qfx b>=0 then(16*qfx a+qfx b,4) else(0,0)
   |_=>(0,0)) else(0,0):=rfl
theorem qfC (signs:List UInt8) (c d:UInt8) (t:List UInt8) (h:c.toNat=92):qaX signs (c::d::t)=if d.toNat=110 then((10,2):Int×Int) else if d.toNat=116 then(9,2) else if d∈signs then((d.toNat:Int),2) else if d.toNat=120 then(match t with
   |a::b::_=>if qfx a>=0/\qfx b>=0 then(16*qfx a+qfx b,4) else(0,0)
   |_=>(0,0)) else(0,0):=by
 have:=qeI signs c (d::t)
 rw[if_neg (show ¬c.toNat=10 by omega),if_neg (show ¬c.toNat≠92 by omega)]at this
 exact this
theorem qf0 (signs s:List UInt8):0<=(qaX signs s).1/\(qaX signs s).1<256/\0<=(qaX signs s).2/\(qaX signs s).2<=s.length/\(qaX signs s).2<=4:=by
 unfold qaX
 split
 ·simp
 ·rename_i c r
  have hc:=c.toNat_lt
  split
  ·simp;omega
  split
  ·simp only[List.length_cons];omega
  split
  ·simp only[List.length_cons,List.length_nil];omega
  ·rename_i d t
   have hd:=d.toNat_lt
   split
   ·simp only[List.length_cons];omega
   split
   ·simp only[List.length_cons];omega
   split
   ·simp only[List.length_cons];omega
   split
   ·split
    ·rename_i a b _
     have:=qky a
     have:=qky b
     split
     ·simp only[List.length_cons];omega
     ·simp only[List.length_cons];omega
    ·simp only[List.length_cons];omega
   ·simp only[List.length_cons];omega
theorem qki (s signs:List UInt8) (hne:s≠[]) (hs:(120:UInt8)∉signs) (M:Mem) (K:Value->Prop) (h:K (.tuple #[.int .u8 (qaX signs s).1,.int .i64 (qaX signs s).2])):qet s signs M K:=by
 have key:∀p:Int×Int,p=qaX signs s->K (.tuple #[.int .u8 p.1,.int .i64 p.2]):=λp e=>e▸h
 obtain⟨c,r,rfl⟩:=List.exists_cons_of_ne_nil hne
 unfold qet
 refine⟨c,by omega,rfl,λn92=>⟨c,by omega,rfl,λh10=>key (0,0) ?_,λn10=>⟨c,by omega,rfl,key (c.toNat,1) ?_⟩⟩,λh92=>⟨λhl=>key (0,0) ?_,λhl=>?_⟩⟩
 ·rw[qeI,if_pos (by omega)]
 ·rw[qeI,if_neg (by omega),if_pos (by omega)]
 ·have:r=[]:=by cases r with
   |nil=>rfl
   |cons _ _=>simp only[List.length_cons]at hl;omega
  subst this
  rw[qeI]
  simp only[if_neg (show ¬c.toNat=10 by omega),if_neg (show ¬c.toNat≠92 by omega)]
 obtain⟨d,t,rfl⟩:∃d t,r=d::t:=by
  cases r with
  |nil=>simp only[List.length_cons,List.length_nil]at hl;omega
  |cons d t=>exact⟨d,t,rfl⟩
 have hP:=qfC signs c d t (by omega)
 refine⟨d,by omega,rfl,λq=>key (10,2) ?_,λn110=>⟨λq=>key (9,2) ?_,λn116=>?_⟩⟩
 ·rw[hP,if_pos (by omega)]
 ·rw[hP,if_neg (by omega),if_pos (by omega)]
 rw[if_neg (by omega),if_neg (by omega)]at hP
 have hm:=qg9 signs d
 refine qbu _ _ _ _ (qdu signs d _ _ ⟨_,rfl,λhi=>key (d.toNat,2) ?_,λhi=>?_⟩)
 ·rw[decide_eq_true hi]at hm
  rw[hP,if_pos (of_decide_eq_true hm.symm)]
 rw[decide_eq_false hi]at hm
 rw[if_neg (of_decide_eq_false hm.symm)]at hP
 have j1:∀b:Bool,b=decide (d.toNat=120/\2<=t.length)->qcp (c::d::t) M b K:=by
  intro b hb
  refine⟨λe=>?_,λe=>key (0,0) ?_⟩
  ·obtain⟨h120,h2⟩:d.toNat=120/\2<=t.length:=by rw[e]at hb;exact of_decide_eq_true hb.symm
   obtain⟨x,y,u,rfl⟩:∃x y u,t=x::y::u:=by
    match t,h2 with
    |x::y::u,_=>exact⟨x,y,u,rfl⟩
   rw[if_pos h120]at hP
   simp only at hP
   refine⟨x,by omega,rfl,y,by omega,rfl,qbu _ _ _ _ (qdu qsN x _ _ ⟨_,rfl,qbu _ _ _ _ (qdu qsN y _ _ ⟨_,rfl,?_⟩)⟩)⟩
   have hx1:=qky x
   have hy1:=qky y
   have j2:∀b:Bool,b=decide (qfx x>=0/\qfx y>=0)->qco (qfx x) (qfx y) b K:=by
    intro b hb
    refine⟨λe=>?_,λe=>key (0,0) ?_⟩
    ·have hq:qfx x>=0/\qfx y>=0:=by rw[e]at hb;exact of_decide_eq_true hb.symm
     rw[if_pos hq]at hP
     have:=qsM (qfx x).toNat (by omega) (qfx y).toNat (by omega)
     rw[show(((qfx x).toNat:Nat):Int)=qfx x by omega,show(((qfx y).toNat:Nat):Int)=qfx y by omega]at this
     rw[this]
     have e2:((16*(qfx x).toNat+(qfx y).toNat:Nat):Int)=16*qfx x+qfx y:=by omega
     rw[e2]
     exact key (16*qfx x+qfx y,4) hP.symm
    ·have hq:¬(qfx x>=0/\qfx y>=0):=λq=>e (by rw[hb];exact decide_eq_true q)
     rw[if_neg hq]at hP;exact hP.symm
   refine⟨λh1=>j2 _ ?_,λh1=>j2 _ ?_⟩
   ·have h1:qfx x>=0:=h1
    have e3:ql3 qsN y.toNat=qfx y:=rfl
    rw[e3,Bool.eq_iff_iff];simp;omega
   ·rw[eq_comm,decide_eq_false_iff_not];exact λq=>h1 q.1
  ·have hq:¬(d.toNat=120/\2<=t.length):=λq=>e (by rw[hb];exact decide_eq_true q)
   by_cases h120:d.toNat=120
   ·rw[if_pos h120]at hP
    rcases t with _|⟨x,_|⟨y,u⟩⟩
    ·exact hP.symm
    ·exact hP.symm
    ·exact absurd ⟨h120,by simp⟩ hq
   ·rw[if_neg h120]at hP;exact hP.symm
 refine⟨λq=>j1 _ (by rw[Bool.eq_iff_iff];simp;omega),λq=>j1 _ (by rw[eq_comm,decide_eq_false_iff_not];omega)⟩
end Go.Proofs.YtleaplmdgckmkaaGreatDoor.core
namespace Go.Proofs.YtleaplmdgckmkaaGreatDoor.core
open Go.Gx Go.RowKit Go.ChangeShapes Go.WideShapes Go.ChangeAt
set_option linter.unusedVariables false
def qdV (s:List UInt8):List UInt8:=[39]++s.flatMap (qbz [39,92] 32)++[39]
theorem qsS (signs:List UInt8) (low:Nat):∀s:List UInt8,(s.flatMap (qbz signs low)).length<=4*s.length
 |[]=>by simp
 |c::r=>by
  have h1:=qfY signs low c
  have h2:=qsS signs low r
  rw[List.flatMap_cons,List.length_append,List.length_cons]
  omega
theorem qp7 {s:List UInt8} {i:Nat} {c:UInt8} (f:UInt8->List UInt8) (h:s[i]?=some c):(s.take (i+1)).flatMap f=(s.take i).flatMap f++f c:=by
 rw[qij h,List.flatMap_append];simp
theorem qiR (s:List UInt8) (hl:s.length<=140737488355328) (M:Mem) (K:Value->Prop) (h:K (.string (mkS (qdV s)))):qfh s M K:=by
 unfold qfh
 refine⟨λout i=>0<=i/\i<=s.length/\out=[39]++(s.take i.toNat).flatMap (qbz [39,92] 32),λ_ i=>s.length-i.toNat,⟨by omega,by omega,by simp⟩,?_⟩
 rintro out i ⟨h0,h1,rfl⟩
 have hlen:=qsS [39,92] 32 (s.take i.toNat)
 have htl:(s.take i.toNat).length<=s.length:=by rw[List.length_take];omega
 refine⟨λhlt=>?_,λhge=>⟨?_,?_⟩⟩
 ·obtain⟨c,hc⟩:=getI h0 hlt
  have:=qfY [39,92] 32 c
  refine⟨c,h0,hc,qe1 _ _ _ _ (qkh c [39,92] _ _ 32 rfl ⟨_,rfl,?_,by unfold InI;omega,⟨by omega,by omega,?_⟩,by dsimp only;omega⟩)⟩
  ·simp only[List.length_append,List.length_cons,List.length_nil];omega
  ·rw[show(i+1).toNat=i.toNat+1 by omega,qp7 _ hc,List.append_assoc]
 ·simp only[List.length_append,List.length_cons,List.length_nil];omega
 ·have:i.toNat=s.length:=by omega
  rw[this,List.take_length];exact h
end Go.Proofs.YtleaplmdgckmkaaGreatDoor.core
namespace Go.Proofs.YtleaplmdgckmkaaGreatDoor.core
open Go.Gx Go.RowKit Go.ChangeShapes Go.WideShapes Go.ChangeAt
set_option linter.unusedVariables false
def qj1 (q:UInt8) (r:List UInt8) (i:Int) (out:List UInt8):List UInt8×Int×Int:=
 match r with
 |[]=>([],0,4)
 |c::t=>if c=q then(out,i+1,0) else if (qaX [39,34,92] (c::t)).2=0 then([],0,4)
  else qj1 q ((c::t).drop ((qaX [39,34,92] (c::t)).2.toNat-1+1)) (i+(qaX [39,34,92] (c::t)).2) (out++[(qaX [39,34,92] (c::t)).1.toNat.toUInt8])
termination_by r.length
decreasing_by simp only[List.length_drop,List.length_cons];omega
def qcA (s:List UInt8):List UInt8×Int×Int:=
 match s with
 |[]=>([],0,4)
 |q::r=>if q.toNat≠39/\q.toNat≠34 then([],0,4) else qj1 q r 1 []
theorem qgs (q:UInt8) (r:List UInt8):qcA (q::r)=if q.toNat≠39/\q.toNat≠34 then(([]:List UInt8),(0:Int),(4:Int)) else qj1 q r 1 []:=rfl
def outT (r:List UInt8×Int×Int):Value:=.tuple #[.string (mkS r.1),.int .i64 r.2.1,.int .i64 r.2.2]
theorem qo9 (s:List UInt8):s.take ((s.length:Nat):Int).toNat=s:=by rw[Int.toNat_natCast,List.take_length]
theorem qle (s:List UInt8) (hl:s.length<=140737488355328) (M:Mem) (K:Value->Prop) (h:K (outT (qcA s))):qfg s M K:=by
 have j1:∀b:Bool,(b=true->qcA s=([],0,4))->(b=false->∃q r,s=q::r/\¬(q.toNat≠39/\q.toNat≠34))->qbC s M b K:=by
  intro b h1 h2
  refine⟨λe=>by rw[h1 e]at h;exact h,λe=>?_⟩
  obtain⟨q,r,rfl,hq⟩:=h2 (by simpa using e)
  have hU:qcA (q::r)=qj1 q r 1 []:=by rw[qgs,if_neg hq]
  rw[hU]at h
  have hl0:(q::r).length=r.length+1:=rfl
  refine⟨λi n rx=>∃out:List UInt8,1<=i/\i<=(q::r).length/\n=out.length/\rx=bytesV out/\(out.length:Int)<=i/\qj1 q ((q::r).drop i.toNat) i out=qj1 q r 1 [],λi _ _=>(q::r).length-i.toNat,⟨[],by omega,by omega,rfl,rfl,by simp,rfl⟩,?_⟩
  rintro i n rx ⟨out,h0,hi,rfl,rfl,hol,hrun⟩
  refine⟨λhlt=>?_,λhge=>?_⟩
  ·obtain⟨c,hc⟩:=getI (l:=q::r) (by omega) hlt
   rw[qaW hc,qj1]at hrun
   refine⟨c,by omega,hc,q,by omega,rfl,λe=>⟨out,rfl,by unfold InI;omega,?_⟩,λhne=>⟨by omega,by omega,by omega,?_⟩⟩
   ·rw[if_pos (UInt8.toNat_inj.1 (by omega))]at hrun
    rw[<-hrun]at h;exact h
   ·have hne':¬c=q:=λe=>hne (by rw[e])
    rw[if_neg hne']at hrun
    rw[qo9]
    have hdr:=qaW hc
    have hok:=qf0 [39,34,92] ((q::r).drop i.toNat)
    rw[List.length_drop]at hok
    rw[<-hdr]at hrun
    refine qfG _ _ _ _ (qki _ [39,34,92] (by rw[hdr];simp) (by decide) _ _ ⟨_,_,rfl,λhz=>?_,λhz=>⟨by omega,by unfold InI;omega,⟨out++[(qaX [39,34,92] ((q::r).drop i.toNat)).1.toNat.toUInt8],by omega,by omega,by simp,?_,?_,?_⟩,by dsimp only;omega⟩⟩)
    ·rw[if_pos hz]at hrun
     rw[<-hrun]at h;exact h
    ·have hb:(((qaX [39,34,92] ((q::r).drop i.toNat)).1.toNat.toUInt8.toNat:Nat):Int)=(qaX [39,34,92] ((q::r).drop i.toNat)).1:=by
      rw[Nat.toUInt8,UInt8.toNat_ofNat']
      omega
     show bytesV out++[Value.int .u8 _]=bytesV (out++[_])
     unfold bytesV
     rw[List.map_append,List.map_singleton,hb]
    ·simp only[List.length_append,List.length_cons,List.length_nil];omega
    ·rw[if_neg hz]at hrun
     rw[List.drop_drop]at hrun
     rw[<-hrun]
     congr 2
     omega
  ·have:i.toNat=(q::r).length:=by omega
   rw[this,List.drop_length,qj1]at hrun
   rw[<-hrun]at h;exact h
 refine⟨λe=>j1 _ (λ_=>by subst e;rfl) (λh=>by cases h),λhne=>?_⟩
 obtain⟨q,r,rfl⟩:=List.exists_cons_of_ne_nil hne
 refine⟨q,by omega,rfl,λn39=>⟨q,by omega,rfl,j1 _ (λhb=>?_) (λhb=>⟨q,r,rfl,?_⟩)⟩,λh39=>j1 _ (λh=>by cases h) (λ_=>⟨q,r,rfl,by omega⟩)⟩
 ·have:¬(q.toNat:Int)=34:=by simpa using hb
  rw[qgs,if_pos ⟨by omega,by omega⟩]
 ·have:(q.toNat:Int)=34:=by simpa using hb
  omega
end Go.Proofs.YtleaplmdgckmkaaGreatDoor.core
namespace Go.Proofs.YtleaplmdgckmkaaGreatDoor.core
open Go.Gx Go.RowKit Go.ChangeShapes Go.WideShapes Go.ChangeAt
set_option linter.unusedVariables false
def qfp (i:Int):List PanicEntry:=[{v:=.iface 295 (.agg #[.int .i64 i]),recovered:=false}]
theorem qnI (i:Int) (M:Mem) (L:Nat->Prop) (K:Value->Mem->Prop) (Kp:List PanicEntry->Prop) (h:Kp (qfp i)):qal Tryz.prog 215 #[.int .i64 i] M L K Kp:=by
 refine qbX Tryz.func215 rfl 5 rfl (Nat.le_of_ble_eq_true rfl) (λE a hs=>?_) (l:=[.int .i64 i])
 change Sx 5 E (bwW E M L) M E a [(0,.int .i64 i)] [] []at hs
 refine Wp.region (sP (.int .i64 i) hs λ_ hs=>?_)
 refine sP (.agg #[.int .i64 i]) hs λ_ hs=>?_
 refine sP (.iface 295 (.agg #[.int .i64 i])) hs λ_ hs=>?_
 exact qix (bs:=[]) (rs:=[]) hs rfl rfl h
end Go.Proofs.YtleaplmdgckmkaaGreatDoor.core
namespace Go.Proofs.YtleaplmdgckmkaaGreatDoor.core
open Go.Gx Go.RowKit Go.ChangeShapes Go.WideShapes Go.ChangeAt
set_option linter.unusedVariables false
def wsB (c:UInt8):Bool:=c.toNat==32||c.toNat==9||c.toNat==10||c.toNat==13
def qcW:Bool->List UInt8->Nat
 |_,[]=>0
 |true,c::r=>if c.toNat=10 then 1+qcW false r else 1+qcW true r
 |false,c::r=>if wsB c=true then 1+qcW false r else if c.toNat=35 then 1+qcW true r else 0
theorem qfz:∀(b:Bool) (l:List UInt8),qcW b l<=l.length
 |true,[]=>by simp[qcW]
 |false,[]=>by simp[qcW]
 |true,c::r=>by
  have h1:=qfz true r
  have h2:=qfz false r
  rw[qcW,List.length_cons]
  split<;>omega
 |false,c::r=>by
  have h1:=qfz true r
  have h2:=qfz false r
  rw[qcW,List.length_cons]
  split
  ·omega
  ·split<;>omega
def qan (s:List UInt8) (i:Nat):Nat:=i+qcW false (s.drop i)
theorem qfO {s:List UInt8} {i:Nat} (h:i<=s.length):i<=qan s i/\qan s i<=s.length:=by
 have:=qfz false (s.drop i)
 rw[List.length_drop]at this
 unfold qan;omega
theorem qe7 {s:List UInt8} {i:Nat} {c:UInt8} (h:s[i]?=some c):s.drop i=c::s.drop (i+1):=by
 obtain⟨hi,rfl⟩:=List.getElem?_eq_some_iff.1 h
 exact List.drop_eq_getElem_cons hi
theorem qmb {s:List UInt8} (hs:s.length<=2000) {M:Mem} {L:Nat->Prop} {b:Nat} (hat:At M b 0 [.string (mkS s)]) {i:Nat} (hi:i<=s.length) (K:Value->Mem->Prop) (hK:∀M',M.le M'->K (.int .i64 (qan s i:Nat)) M'):qc5 (some ⟨b,0,none⟩) i M L K:=by
 let I33:Int->Prop:=λx=>∃j:Nat,x=j/\j<=s.length/\qan s i=j+qcW false (s.drop j)
 have nx:∀{j:Nat} {c:UInt8},s[j]?=some c->wsB c=true->qan s i=j+qcW false (s.drop j)->qan s i=(j+1)+qcW false (s.drop (j+1)):=λ{j c} hc hw h=>by
  rw[h,qe7 hc,qcW,if_pos hw];omega
 refine⟨I33,λx=>s.length-x.toNat,⟨i,rfl,hi,rfl⟩,λx ⟨j,hx,hj,hg⟩=>⟨b,0,rfl,s,hat,λhlt=>?_,λhge=>?_⟩⟩
 ·subst hx
  obtain⟨c,hc⟩:∃c,s[j]?=some c:=⟨s[j]'(by omega),List.getElem?_eq_getElem _⟩
  have j1:∀v:Bool,(v=true->wsB c=true)->(v=false->wsB c=false)->qaD (some ⟨b,0,none⟩) M j I33 (λx=>s.length-x.toNat) c v K:=λv h1 h2=>by
   refine⟨λhv=>⟨by unfold InI;omega,⟨j+1,by omega,by omega,nx hc (h1 hv) hg⟩,by dsimp only;omega⟩,λhv=>?_⟩
   have hw:=h2 (by simpa using hv)
   refine⟨λh35=>?_,λh35=>?_⟩
   ·have hg0:qan s i=j+qcW true (s.drop j):=by
     rw[hg,qe7 hc,qcW,qcW,if_neg (by rw[hw];simp),if_pos (by omega),if_neg (by omega)]
    refine⟨λy=>∃k:Nat,y=k/\k<=s.length/\j<=k/\qan s i=k+qcW true (s.drop k),λy=>s.length-y.toNat,⟨j,rfl,hj,Nat.le_refl _,hg0⟩,λy ⟨k,hy,hk,hjk,hgk⟩=>⟨b,0,rfl,s,hat,λhl2=>?_,λhl2=>?_⟩⟩
    ·subst hy
     obtain⟨d,hd⟩:∃d,s[k]?=some d:=⟨s[k]'(by omega),List.getElem?_eq_getElem _⟩
     refine⟨b,0,rfl,s,hat,d,by omega,by simpa using hd,λhn=>?_,λhn=>?_⟩
     ·have hn:d.toNat≠10:=λe=>by simp[e]at hn
      refine⟨by unfold InI;omega,⟨k+1,by omega,by omega,by omega,?_⟩,by dsimp only;omega⟩
      rw[hgk,qe7 hd,qcW,if_neg hn];omega
     ·have hn:d.toNat=10:=by
       have:=hn
       simp at this;omega
      have hne:j≠k:=λe=>by
       subst e
       rw[hc]at hd;cases hd;omega
      refine⟨⟨k,rfl,hk,?_⟩,by dsimp only;omega⟩
      rw[hgk,qe7 hd,qcW,qcW,if_pos hn,if_pos (by unfold wsB;simp[hn])]
    ·subst hy
     have hne:j≠k:=λe=>by omega
     refine⟨λe=>by simp at e,λ_=>⟨⟨k,rfl,hk,?_⟩,by dsimp only;omega⟩⟩
     rw[hgk,List.drop_of_length_le (by omega),qcW,qcW]
   ·intro M' hle
    have hgo:qan s i=j:=by
     rw[hg,qe7 hc,qcW,if_neg (by rw[hw];simp),if_neg (by omega)]
     rfl
    rw[<-hgo];exact hK M' hle
  refine⟨b,0,rfl,s,hat,c,by omega,by simpa using hc,λh=>j1 _ (λ_=>by unfold wsB;simp;omega) (λe=>by simp at e;omega),λh=>⟨λh'=>j1 _ (λ_=>by unfold wsB;simp;omega) (λe=>by simp at e;omega),λh'=>⟨λh''=>j1 _ (λ_=>by unfold wsB;simp;omega) (λe=>by simp at e;omega),λh''=>j1 _ (λe=>by simp at e;unfold wsB;simp;omega) (λe=>by simp at e;unfold wsB;simp;omega)⟩⟩⟩
 ·subst hx
  intro M' hle
  have:j=s.length:=by omega
  subst this
  rw[List.drop_length,qcW]at hg
  rw[show((s.length:Nat):Int)=((qan s i:Nat):Int) by omega];exact hK M' hle
end Go.Proofs.YtleaplmdgckmkaaGreatDoor.core
namespace Go.Proofs.YtleaplmdgckmkaaGreatDoor.core
open Go.Gx Go.RowKit Go.ChangeShapes Go.WideShapes Go.ChangeAt
set_option linter.unusedVariables false
end Go.Proofs.YtleaplmdgckmkaaGreatDoor.core
namespace Go.Proofs.YtleaplmdgckmkaaGreatDoor.core
open Go.Gx Go.RowKit Go.ChangeShapes Go.WideShapes Go.ChangeAt
set_option linter.unusedVariables false
def RdM (M:Mem) (b:Nat) (x:qaq):Prop:=M b=some (.cells x.cells.toArray 259 (0,0))
structure qjd (b:Nat) (M M':Mem) (x:qaq):Prop where
 le:∀k o,k≠b->M k=some o->M' k=some o
 me:RdM M' b x
theorem RdM.le {M M':Mem} {b:Nat} {x:qaq} (h:RdM M b x) (hl:M.le M'):RdM M' b x:=hl _ _ h
theorem qjd.le' {b:Nat} {M M' M'':Mem} {x:qaq} (h:qjd b M M' x) (hl:M'.le M''):qjd b M M'' x:=⟨λk o hk hm=>hl _ _ (h.le k o hk hm),h.me.le hl⟩
theorem qjd.then {b:Nat} {M M' M'':Mem} {x y:qaq} (h:qjd b M M' x) (k:qjd b M' M'' y):qjd b M M'' y:=⟨λi o hi hm=>k.le i o hi (h.le i o hi hm),k.me⟩
theorem RdM.at {M:Mem} {b:Nat} {x:qaq} (h:RdM M b x) (k:Nat) (vs:List Value) (hv:(x.cells.drop k).take vs.length=vs):At M b k vs:=by
 intro j v hj
 have hl:j<vs.length:=(List.getElem?_eq_some_iff.1 hj).1
 unfold Mem.cell
 rw[h]
 simp only[List.getElem?_toArray]
 rw[<-hv,List.getElem?_take,if_pos hl,List.getElem?_drop]at hj
 exact hj
def nmB (c:UInt8):Bool:=ql2 c||qqf c
theorem qjJ (c:UInt8) (M:Mem) (K:Value->Prop) (h:K (.bool (nmB c))):qdN (c.toNat:Int) M K:=by
 have hl:=qsJ c
 have key:∀b,b=nmB c->K (.bool b):=λb e=>e▸h
 have a2:decide ((c.toNat:Int)<=57)=decide (c.toNat<=57):=by
  by_cases g:c.toNat<=57
  ·rw[decide_eq_true g,decide_eq_true (by omega)]
  ·rw[decide_eq_false g,decide_eq_false (by omega)]
 unfold qdN
 refine⟨λh1=>⟨λh2=>key _ ?_,λh2=>⟨λh3=>key _ ?_,λh3=>key _ ?_⟩⟩,λh1=>⟨λh3=>key _ ?_,λh3=>key _ ?_⟩⟩
 ·rw[decide_eq_true h1,decide_eq_true h2]at hl
  unfold nmB;rw[<-hl];rfl
 ·rw[decide_eq_true h1,decide_eq_false h2]at hl
  unfold nmB qqf;rw[<-hl,decide_eq_true (show 48<=c.toNat by omega),a2];simp
 ·rw[decide_eq_true h1,decide_eq_false h2]at hl
  unfold nmB qqf;rw[<-hl,decide_eq_false (show ¬48<=c.toNat by omega)];simp
 ·rw[decide_eq_false h1]at hl
  unfold nmB qqf;rw[<-hl,decide_eq_true (show 48<=c.toNat by omega),a2];simp
 ·rw[decide_eq_false h1]at hl
  unfold nmB qqf;rw[<-hl,decide_eq_false (show ¬48<=c.toNat by omega)];simp
theorem RdM.put {M:Mem} {b:Nat} {x:qaq} (h:RdM M b x) (k:Nat) (vs:List Value) (y:qaq) (hy:qdm x.cells k vs=y.cells):qjd b M (M.put b k vs) y:=by
 refine⟨λi o hi hm=>by rw[Mem.put_ne hi];exact hm,?_⟩
 unfold RdM
 rw[Mem.put_eq h,hy]
theorem RdM.has {M:Mem} {b:Nat} {x:qaq} (h:RdM M b x) (o k:Nat) (hk:o+k<=13):Has M b o k:=⟨_,_,h,hk⟩
def qpw (x:qaq) (e:qaa):qaq:=⟨x.text,x.heads,⟨x.Now.At,x.Now.To,true,e,x.Now.Sign⟩⟩
theorem qfJ {M:Mem} {L:Nat->Prop} {b:Nat} {x:qaq} (h:RdM M b x) (hw:Wr L M b) (e:qaa) (K:Value->Mem->Prop) (hK:∀M',qjd b M M' (qpw x e)->K (.tuple #[]) M'):qc6 (some ⟨b,0,none⟩) e M L K:=by
 refine⟨b,0,rfl,h.has _ _ (by omega),hw,λM6 hM6=>?_⟩
 have h6:qjd b M M6 ⟨x.text,x.heads,⟨x.Now.At,x.Now.To,true,x.Now.Expr,x.Now.Sign⟩⟩:=by rw[hM6];exact h.put _ _ _ rfl
 refine⟨b,0,rfl,h6.me.has _ _ (by omega),hw,λM9 hM9=>?_⟩
 have h9:qjd b M6 M9 (qpw x e):=by rw[hM9];exact h6.me.put _ _ _ rfl
 exact λM' hle=>hK M' ((h6.then h9).le' hle)
end Go.Proofs.YtleaplmdgckmkaaGreatDoor.core
namespace Go.Proofs.YtleaplmdgckmkaaGreatDoor.core
open Go.Gx Go.RowKit Go.ChangeShapes Go.WideShapes Go.ChangeAt
set_option linter.unusedVariables false
theorem qoT (n:Nat) (h:n<2 ^ 64):IntKind.wrap .u64 (n:Int)=n:=by
 simp only[IntKind.wrap,IntKind.bits,IntKind.signed,Bool.false_and,Bool.false_eq_true,if_false]
 omega
theorem bvU (n:Nat) (h:n<2 ^ 64):(BitVec.ofInt 64 (n:Int)).toNat=n:=by
 rw[BitVec.ofInt_natCast,BitVec.toNat_ofNat,Nat.mod_eq_of_lt h]
theorem bOrU (a b:Nat) (ha:a<2 ^ 64) (hb:b<2 ^ 64):bOr .u64 a b=((a|||b:Nat):Int):=by
 show IntKind.wrap .u64 ((BitVec.ofInt 64 (a:Int)|||BitVec.ofInt 64 (b:Int)).toNat:Int)=_
 rw[BitVec.toNat_or,bvU a ha,bvU b hb,qoT _ (Nat.or_lt_two_pow ha hb)]
theorem qtY (a b:Nat) (ha:a<2 ^ 64) (hb:b<2 ^ 64):qcw .u64 a b=((a&&& b:Nat):Int):=by
 show IntKind.wrap .u64 ((BitVec.ofInt 64 (a:Int)&&& BitVec.ofInt 64 (b:Int)).toNat:Int)=_
 rw[BitVec.toNat_and,bvU a ha,bvU b hb,qoT _ (Nat.and_lt_two_pow a hb)]
theorem qup (a:Nat) (ha:a<2 ^ 64):qub .u64 a=(((2 ^ 64-1) ^^^ a:Nat):Int):=by
 show IntKind.wrap .u64 ((BitVec.ofInt 64 (18446744073709551615:Int) ^^^ BitVec.ofInt 64 (a:Int)).toNat:Int)=_
 have h1:(BitVec.ofInt 64 (18446744073709551615:Int)).toNat=2 ^ 64-1:=by decide
 rw[BitVec.toNat_xor,bvU a ha,h1,qoT _ (Nat.xor_lt_two_pow (by decide) ha)]
theorem quo (k:Nat) (hk:k<64):qh3 .u64 1 k=((2 ^ k:Nat):Int):=by
 show IntKind.wrap .u64 (1*2 ^ (min (k:Int).toNat 64))=_
 have:min (k:Int).toNat 64=k:=by omega
 rw[this,Int.one_mul]
 have h2:(2 ^ k:Nat)<2 ^ 64:=Nat.pow_lt_pow_right (by decide) hk
 have:=qoT (2 ^ k) h2
 rw[Int.natCast_pow]at this ⊢
 exact this
theorem qtW (a k:Nat) (hk:k<64):qbV .u64 a k=((a / 2 ^ k:Nat):Int):=by
 show(a:Int).fdiv (2 ^ (min (k:Int).toNat 64))=_
 have:min (k:Int).toNat 64=k:=by omega
 rw[this,Int.ofNat_fdiv,Int.natCast_pow];rfl
def Uw (p:Nat->Bool) (w:Nat):Nat->Nat
 |0=>0
 |j+1=>Uw p w j+(if p (64*w+j)=true then 2 ^ j else 0)
theorem qkH (p:Nat->Bool) (w:Nat):∀j,Uw p w j<2 ^ j
 |0=>by simp[Uw]
 |j+1=>by
  have:=qkH p w j
  simp only[Uw,Nat.pow_succ]
  split<;>omega
theorem qnP (p:Nat->Bool) (w:Nat) (k:Nat):∀j,(Uw p w j).testBit k=(decide (k<j)&&p (64*w+k))
 |0=>by simp[Uw]
 |j+1=>by
  have ih:=qnP p w k j
  have hlt:=qkH p w j
  simp only[Uw]
  split
  ·rename_i hp
   have e:Uw p w j+2 ^ j=2 ^ j*1|||Uw p w j:=by
    rw[<-Nat.two_pow_add_eq_or_of_lt hlt 1];omega
   rw[e,Nat.mul_one,Nat.testBit_or,Nat.testBit_two_pow,ih]
   by_cases hk:j=k
   ·subst hk;simp[hp]
   ·have:(decide (k<j+1))=decide (k<j):=by congr 1;simp;omega
    rw[this];simp[hk]
  ·rename_i hp
   rw[Nat.add_zero,ih]
   by_cases hk:j=k
   ·subst hk;simp[hp]
   ·have:(decide (k<j+1))=decide (k<j):=by congr 1;simp;omega
    rw[this]
def qtI (s:List Nat) (b:Nat):Bool:=(s.getD (b / 64) 0).testBit (b % 64)
theorem qqH {x y:Nat} (hx:x<2 ^ 64) (hy:y<2 ^ 64) (h:∀k,k<64->x.testBit k=y.testBit k):x=y:=by
 refine Nat.eq_of_testBit_eq λk=>?_
 by_cases hk:k<64
 ·exact h k hk
 ·have:2 ^ 64<=2 ^ k:=Nat.pow_le_pow_right (by decide) (by omega)
  rw[Nat.testBit_lt_two_pow (by omega),Nat.testBit_lt_two_pow (by omega)]
theorem qjX {x:Nat} (p:Nat->Bool) (w:Nat) (hx:x<2 ^ 64) (h:∀k,k<64->x.testBit k=p (64*w+k)):x=Uw p w 64:=
 qqH hx (qkH p w 64) λk hk=>by rw[h k hk,qnP];simp[hk]
theorem qhK (s:List Nat) (w k:Nat) (hk:k<64):qtI s (64*w+k)=(s.getD w 0).testBit k:=by
 unfold qtI
 rw[show(64*w+k) / 64=w by omega,show(64*w+k) % 64=k by omega]
def Us (p:Nat->Bool):qab:=⟨(Uw p 0 64:Nat),(Uw p 1 64:Nat),(Uw p 2 64:Nat),(Uw p 3 64:Nat)⟩
def qcg (s:qab) (b:Nat):Bool:=qtI [s.w0.toNat,s.w1.toNat,s.w2.toNat,s.w3.toNat] b
theorem qcS {z:Int} (h:(Lit.int .u64 z).wf=true):∃n:Nat,z=n/\n<2 ^ 64:=by
 simp only[Lit.wf,IntKind.min,IntKind.max,Bool.and_eq_true]at h
 refine⟨z.toNat,?_,?_⟩<;>simp[IntKind.bits,IntKind.signed]at h<;>omega
theorem qng {n:Nat} (h:n<2 ^ 64):(Lit.int .u64 (n:Int)).wf=true:=by
 simp only[Lit.wf,IntKind.min,IntKind.max,Bool.and_eq_true]
 simp[IntKind.bits,IntKind.signed];omega
theorem qmK (p:Nat->Bool):wfS (Us p):=⟨qng (qkH p 0 64),qng (qkH p 1 64),qng (qkH p 2 64),qng (qkH p 3 64)⟩
theorem qi6 {p:Nat->Bool} {b:Nat} (hb:b<256):qcg (Us p) b=p b:=by
 have key:∀w k:Nat,w<4->k<64->qtI [Uw p 0 64,Uw p 1 64,Uw p 2 64,Uw p 3 64] (64*w+k)=p (64*w+k):=by
  intro w k hw hk
  rw[qhK _ w k hk]
  have:[Uw p 0 64,Uw p 1 64,Uw p 2 64,Uw p 3 64].getD w 0=Uw p w 64:=by
   match w,hw with
   |0,_=>rfl
   |1,_=>rfl
   |2,_=>rfl
   |3,_=>rfl
  rw[this,qnP];simp[hk]
 have:=key (b / 64) (b % 64) (by omega) (by omega)
 rw[show 64*(b / 64)+b % 64=b by omega]at this
 exact this
theorem qr8 {s:qab} (h:wfS s):Us (qcg s)=s:=by
 obtain⟨a,b,c,d⟩:=s
 obtain⟨h0,h1,h2,h3⟩:=h
 obtain⟨a,rfl,ha⟩:=qcS h0
 obtain⟨b,rfl,hb⟩:=qcS h1
 obtain⟨c,rfl,hc⟩:=qcS h2
 obtain⟨d,rfl,hd⟩:=qcS h3
 have key:∀(w x:Nat),[a,b,c,d].getD w 0=x->x<2 ^ 64->Uw (qcg ⟨a,b,c,d⟩) w 64=x:=λw x hx hlt=>by
  refine(qjX _ w hlt λk hk=>?_).symm
  rw[<-hx]
  exact(qhK [a,b,c,d] w k hk).symm
 unfold Us
 rw[key 0 a rfl ha,key 1 b rfl hb,key 2 c rfl hc,key 3 d rfl hd]
theorem qdL {p q:Nat->Bool} (h:∀b,b<256->p b=q b):Us p=Us q:=by
 have key:∀(w:Nat),w<4->∀j,j<=64->Uw p w j=Uw q w j:=by
  intro w hw j
  induction j with
  |zero=>intro _;rfl
  |succ j ih=>intro hj;rw[Uw,Uw,ih (by omega),h (64*w+j) (by omega)]
 unfold Us
 rw[key 0 (by omega) 64 (by omega),key 1 (by omega) 64 (by omega),key 2 (by omega) 64 (by omega),key 3 (by omega) 64 (by omega)]
theorem qmH {s:qab} (h:wfS s) {x:Nat} (hx:x<256):∃w:Nat,[s.w0,s.w1,s.w2,s.w3][x / 64]?=some (w:Int)/\w<2 ^ 64/\w.testBit (x % 64)=qcg s x:=by
 obtain⟨a,b,c,d⟩:=s
 obtain⟨h0,h1,h2,h3⟩:=h
 obtain⟨a,rfl,ha⟩:=qcS h0
 obtain⟨b,rfl,hb⟩:=qcS h1
 obtain⟨c,rfl,hc⟩:=qcS h2
 obtain⟨d,rfl,hd⟩:=qcS h3
 have hq:x / 64<4:=by omega
 have hx':=qhK [a,b,c,d] (x / 64) (x % 64) (by omega)
 rw[show 64*(x / 64)+x % 64=x by omega]at hx'
 match h:x / 64,hq with
 |0,_=>exact⟨a,rfl,ha,by rw[h]at hx';exact hx'.symm⟩
 |1,_=>exact⟨b,rfl,hb,by rw[h]at hx';exact hx'.symm⟩
 |2,_=>exact⟨c,rfl,hc,by rw[h]at hx';exact hx'.symm⟩
 |3,_=>exact⟨d,rfl,hd,by rw[h]at hx';exact hx'.symm⟩
theorem qqL:∀n:Nat,n<256->qbV .u8 (n:Int) 6=((n / 64:Nat):Int)/\qcw .u8 (n:Int) 63=((n % 64:Nat):Int):=by decide+kernel
theorem qs4 (w k:Nat) (hw:w<2 ^ 64) (hk:k<64):((qcw .u64 (qbV .u64 (w:Int) (k:Int)) 1:Int)==(1:Int))=w.testBit k:=by
 rw[qtW w k hk,Nat.testBit_eq_decide_div_mod_eq]
 have h1:w / 2 ^ k<2 ^ 64:=Nat.lt_of_le_of_lt (Nat.div_le_self _ _) hw
 rw[show(1:Int)=((1:Nat):Int) from rfl,qtY _ _ h1 (by decide),Nat.and_one_is_mod]
 generalize w / 2 ^ k=y
 rw[Bool.eq_iff_iff,beq_iff_eq,decide_eq_true_iff]
 omega
theorem qrT {s:qab} (hs:wfS s) (c:UInt8) {M:Mem} (K:Value->Prop) (h:K (.bool (qcg s c.toNat))):qhl s (c.toNat:Int) M K:=by
 have hc:=c.toNat_lt
 obtain⟨e1,e2⟩:=qqL c.toNat hc
 obtain⟨w,hw,hlt,hb⟩:=qmH hs hc
 unfold qhl
 rw[e1,e2]
 refine⟨by omega,by omega,(w:Int),?_,by omega,?_⟩
 ·rw[show 0+(((c.toNat / 64:Nat):Int)).toNat*1=c.toNat / 64 by omega];exact hw
 ·rw[qs4 _ _ hlt (by omega),hb];exact h
theorem qpT {s t:qab} (hs:wfS s) (ht:wfS t) {M:Mem} (K:Value->Prop) (hK:K (Us λb=>qcg s b||qcg t b).val):qf9 s t M K:=by
 unfold qf9
 refine qjF _ _ _ _ _ ?_
 obtain⟨a,b,c,d⟩:=s
 obtain⟨a',b',c',d'⟩:=t
 obtain⟨h0,h1,h2,h3⟩:=hs
 obtain⟨k0,k1,k2,k3⟩:=ht
 obtain⟨a,rfl,ha⟩:=qcS h0
 obtain⟨b,rfl,hb⟩:=qcS h1
 obtain⟨c,rfl,hc⟩:=qcS h2
 obtain⟨d,rfl,hd⟩:=qcS h3
 obtain⟨a',rfl,ha'⟩:=qcS k0
 obtain⟨b',rfl,hb'⟩:=qcS k1
 obtain⟨c',rfl,hc'⟩:=qcS k2
 obtain⟨d',rfl,hd'⟩:=qcS k3
 have hw:∀(w x y:Nat),[a,b,c,d].getD w 0=x->[a',b',c',d'].getD w 0=y->x<2 ^ 64->y<2 ^ 64->(x|||y)=Uw (λq=>qcg ⟨a,b,c,d⟩ q||qcg ⟨a',b',c',d'⟩ q) w 64:=by
  intro w x y hx hy hxl hyl
  refine qjX _ w (Nat.or_lt_two_pow hxl hyl) λk hk=>?_
  rw[Nat.testBit_or,<-hx,<-hy]
  rw[<-qhK [a,b,c,d] w k hk,<-qhK [a',b',c',d'] w k hk];rfl
 have hfin:(⟨((a|||a':Nat):Int),((b|||b':Nat):Int),((c|||c':Nat):Int),((d|||d':Nat):Int)⟩:qab)=Us λq=>qcg ⟨a,b,c,d⟩ q||qcg ⟨a',b',c',d'⟩ q:=by
  unfold Us
  rw[hw 0 a a' rfl rfl ha ha',hw 1 b b' rfl rfl hb hb',hw 2 c c' rfl rfl hc hc',hw 3 d d' rfl rfl hd hd']
 rw[<-hfin]at hK
 have call:∀(x y:Nat) (K:Value->Prop),x<2 ^ 64->y<2 ^ 64->K (.int .u64 ((x|||y:Nat):Int))->qgM Tryz.prog (Value.func (.func 212) #[] #[]) [.int .u64 (x:Int),.int .u64 (y:Int)] M (λv _=>K v):=λx y K hx hy hK=>
  qlI _ _ _ _ (by unfold qes;rw[bOrU x y hx hy];exact hK)
 unfold qf8
 refine⟨λi zs=>(i=0/\zs=[(a:Int),b,c,d])\/(i=1/\zs=[((a|||a':Nat):Int),b,c,d])\/(i=2/\zs=[((a|||a':Nat):Int),((b|||b':Nat):Int),c,d])\/(i=3/\zs=[((a|||a':Nat):Int),((b|||b':Nat):Int),((c|||c':Nat):Int),d])\/(i=4/\zs=[((a|||a':Nat):Int),((b|||b':Nat):Int),((c|||c':Nat):Int),((d|||d':Nat):Int)]),λi _=>4-i.toNat,.inl ⟨rfl,rfl⟩,λi zs hI=>?_⟩
 rcases hI with⟨rfl,rfl⟩|⟨rfl,rfl⟩|⟨rfl,rfl⟩|⟨rfl,rfl⟩|⟨rfl,rfl⟩
 ·exact⟨λ_=>⟨by omega,by omega,_,rfl,by omega,by omega,_,rfl,call _ _ _ ha ha' ⟨_,rfl,by omega,by omega,by simp,by unfold InI;omega,.inr (.inl ⟨rfl,rfl⟩),by dsimp only;decide⟩⟩,λh=>absurd h (by decide)⟩
 ·exact⟨λ_=>⟨by omega,by omega,_,rfl,by omega,by omega,_,rfl,call _ _ _ hb hb' ⟨_,rfl,by omega,by omega,by simp,by unfold InI;omega,.inr (.inr (.inl ⟨rfl,rfl⟩)),by dsimp only;decide⟩⟩,λh=>absurd h (by decide)⟩
 ·exact⟨λ_=>⟨by omega,by omega,_,rfl,by omega,by omega,_,rfl,call _ _ _ hc hc' ⟨_,rfl,by omega,by omega,by simp,by unfold InI;omega,.inr (.inr (.inr (.inl ⟨rfl,rfl⟩))),by dsimp only;decide⟩⟩,λh=>absurd h (by decide)⟩
 ·exact⟨λ_=>⟨by omega,by omega,_,rfl,by omega,by omega,_,rfl,call _ _ _ hd hd' ⟨_,rfl,by omega,by omega,by simp,by unfold InI;omega,.inr (.inr (.inr (.inr ⟨rfl,rfl⟩))),by dsimp only;decide⟩⟩,λh=>absurd h (by decide)⟩
 ·exact⟨λh=>absurd h (by decide),λ_=>⟨_,_,_,_,rfl,rfl,_,_,_,_,rfl,_,rfl,hK⟩⟩
theorem qkI {p q:Nat->Bool} {w:Nat} (h:∀k,k<64->p (64*w+k)=q (64*w+k)):Uw p w 64=Uw q w 64:=by
 have key:∀j,j<=64->Uw p w j=Uw q w j:=by
  intro j
  induction j with
  |zero=>intro _;rfl
  |succ j ih=>intro hj;rw[Uw,Uw,ih (by omega),h j (by omega)]
 exact key 64 (by omega)
def U4 (p:Nat->Bool):List Int:=[(Uw p 0 64:Nat),(Uw p 1 64:Nat),(Uw p 2 64:Nat),(Uw p 3 64:Nat)]
theorem qt5 (p:Nat->Bool) {w:Nat} (hw:w<4):(U4 p)[w]?=some ((Uw p w 64:Nat):Int):=by
 match w,hw with
 |0,_=>rfl
 |1,_=>rfl
 |2,_=>rfl
 |3,_=>rfl
theorem qt4 {p q:Nat->Bool} {w:Nat} (hw:w<4) (h:∀x,x<256->x / 64≠w->p x=q x):(U4 p).set w ((Uw q w 64:Nat):Int)=U4 q:=by
 have key:∀v,v<4->v≠w->Uw p v 64=Uw q v 64:=λv hv hne=>qkI λk hk=>h _ (by omega) (by omega)
 match w,hw with
 |0,_=>show[_,_,_,_]=[_,_,_,_];rw[key 1 (by omega) (by omega),key 2 (by omega) (by omega),key 3 (by omega) (by omega)]
 |1,_=>show[_,_,_,_]=[_,_,_,_];rw[key 0 (by omega) (by omega),key 2 (by omega) (by omega),key 3 (by omega) (by omega)]
 |2,_=>show[_,_,_,_]=[_,_,_,_];rw[key 0 (by omega) (by omega),key 1 (by omega) (by omega),key 3 (by omega) (by omega)]
 |3,_=>show[_,_,_,_]=[_,_,_,_];rw[key 0 (by omega) (by omega),key 1 (by omega) (by omega),key 2 (by omega) (by omega)]
theorem qp0:∀n:Nat,n<256->qbV .i64 (n:Int) 6=((n / 64:Nat):Int)/\qcw .i64 (n:Int) 63=((n % 64:Nat):Int):=by decide+kernel
def inR (low high:Int) (x:Nat):Bool:=decide (low<=x/\(x:Int)<=high)
theorem qim (low high:Int) {M:Mem} (K:Value->Prop) (hK:K (Us (inR low high)).val):qfc low high M K:=by
 unfold qfc
 have hz:∀p:Nat->Bool,(∀x,x<256->p x=false)->U4 p=[0,0,0,0]:=λp hp=>by
  have key:∀w,w<4->Uw p w 64=0:=λw hw=>by
   have h1:Uw p w 64=Uw (λ_=>false) w 64:=qkI λk hk=>hp _ (by omega)
   have h2:∀j,Uw (λ_=>false) w j=0:=by
    intro j
    induction j with
    |zero=>rfl
    |succ j ih=>rw[Uw,ih];simp
   rw[h1,h2]
  unfold U4
  rw[key 0 (by omega),key 1 (by omega),key 2 (by omega),key 3 (by omega)];rfl
 let pb:Int->Nat->Bool:=λb x=>decide (low<=x/\(x:Int)<b)
 refine⟨λb zs=>(if low>0 then low else 0)<=b/\(b=(if low>0 then low else 0)\/b<=(if high<255 then high else 255)+1)/\zs=U4 (pb b),λb _=>(256-b).toNat,⟨Int.le_refl _,.inl rfl,(hz _ λx _=>?_).symm⟩,λb zs ⟨h0,h1,h2⟩=>⟨λhlt=>?_,λhge=>?_⟩⟩
 ·simp only[pb,decide_eq_false_iff_not];split<;>omega
 ·subst h2
  have hb0:0<=b:=by split at h0<;>omega
  have hb1:b<=255:=by split at hlt<;>omega
  have hb2:low<=b:=by split at h0<;>omega
  obtain⟨n,rfl⟩:=Int.eq_ofNat_of_zero_le hb0
  have hn:n<256:=by omega
  obtain⟨e1,e2⟩:=qp0 n hn
  rw[e1,e2]
  have hidx:0+(((n / 64:Nat):Int)).toNat*1=n / 64:=by omega
  rw[hidx]
  have hw4:n / 64<4:=by omega
  refine⟨by omega,by omega,_,qt5 _ hw4,by omega,by omega,by omega,by show n / 64<4;exact hw4,by unfold InI;omega,⟨?_,?_,?_⟩,by dsimp only;omega⟩
  ·split at h0<;>(split<;>omega)
  ·right;split at hlt<;>(split<;>omega)
  ·rw[quo _ (by omega),bOrU _ _ (qkH _ _ _) (Nat.pow_lt_pow_right (by decide) (by omega))]
   have hword:(Uw (pb (n:Int)) (n / 64) 64|||2 ^ (n % 64))=Uw (pb ((n:Int)+1)) (n / 64) 64:=by
    refine qjX _ _ (Nat.or_lt_two_pow (qkH _ _ _) (Nat.pow_lt_pow_right (by decide) (by omega))) λk hk=>?_
    rw[Nat.testBit_or,qnP,Nat.testBit_two_pow]
    simp only[pb,hk,decide_true,Bool.true_and]
    rw[Bool.eq_iff_iff]
    simp only[Bool.or_eq_true,decide_eq_true_eq]
    omega
   rw[hword]
   exact qt4 hw4 λx hx hne=>by simp only[pb];rw[decide_eq_decide];omega
 ·subst h2
  refine⟨_,_,_,_,rfl,rfl,_,_,_,_,rfl,?_⟩
  have:Us (pb b)=Us (inR low high):=qdL λx hx=>by
   simp only[pb,inR];rw[decide_eq_decide]
   split at h0<;>split at h1<;>omega
  rw[<-this]at hK;exact hK
end Go.Proofs.YtleaplmdgckmkaaGreatDoor.core
namespace Go.Proofs.YtleaplmdgckmkaaGreatDoor.core
open Go.Gx Go.RowKit Go.ChangeShapes Go.WideShapes Go.ChangeAt
set_option linter.unusedVariables false
def s1 (x m:Nat):Nat:=(x / 2&&& m)+(x&&& m)
def s2 (x m:Nat):Nat:=(x / 4&&& m)+(x&&& m)
def s3 (x m:Nat):Nat:=(x / 16+x)&&& m
theorem qoA:∀(a:Fin 256) (k:Fin 2),(a.val / 2+128*k.val)&&& 85=a.val / 2&&& 85:=by decide+kernel
def msk (c:Nat):Nat->Nat
 |0=>0
 |n+1=>c+256*msk c n
theorem m15:msk 15 8=1085102592571150095:=by decide+kernel
end Go.Proofs.YtleaplmdgckmkaaGreatDoor.core
namespace Go.Proofs.YtleaplmdgckmkaaGreatDoor.core
open Go.Gx Go.RowKit Go.ChangeShapes Go.WideShapes Go.ChangeAt
set_option linter.unusedVariables false
theorem qsj:∀(x:Nat),0<x->∃k m,x=2 ^ k*(2*m+1):=by
 intro x
 induction x using Nat.strongRecOn with
 |_ x ih=>
  intro h
  by_cases he:x % 2=0
  ·obtain⟨k,m,e⟩:=ih (x / 2) (by omega) (by omega)
   refine⟨k+1,m,?_⟩
   rw[Nat.pow_succ,Nat.mul_right_comm,<-e];omega
  ·exact⟨0,x / 2,by omega⟩
theorem qqM {x:Nat} (h0:0<x) (hx:x<2 ^ 64):∃k,k<64/\x.testBit k=true/\(∀j,j<k->x.testBit j=false)/\x&&& (2 ^ 64-x)=2 ^ k:=by
 obtain⟨k,m,e⟩:=qsj x h0
 have hp:0<2 ^ k:=Nat.two_pow_pos k
 have e1:x=2 ^ (k+1)*m+2 ^ k:=by rw[e,Nat.pow_succ,Nat.mul_add,Nat.mul_one,Nat.mul_assoc]
 have e2:x-1=2 ^ (k+1)*m+(2 ^ k-1):=by omega
 have hlt:2 ^ k<2 ^ (k+1):=Nat.pow_lt_pow_right (by decide) (by omega)
 have b1:∀j,x.testBit j=if j<k+1 then(2 ^ k).testBit j else m.testBit (j-(k+1)):=λj=>by
  rw[e1,Nat.testBit_two_pow_mul_add _ hlt]
 have b2:∀j,(x-1).testBit j=if j<k+1 then(2 ^ k-1).testBit j else m.testBit (j-(k+1)):=λj=>by
  rw[e2,Nat.testBit_two_pow_mul_add _ (by omega)]
 have hxk:x.testBit k=true:=by rw[b1,if_pos (by omega),Nat.testBit_two_pow];simp
 have hlow:∀j,j<k->x.testBit j=false:=λj hj=>by rw[b1,if_pos (by omega),Nat.testBit_two_pow];simp;omega
 have hk:k<64:=by
  rcases Nat.lt_or_ge k 64 with h|h
  ·exact h
  ·have:=Nat.testBit_lt_two_pow (Nat.lt_of_lt_of_le hx (Nat.pow_le_pow_right (by decide) h))
   rw[this]at hxk;cases hxk
 refine⟨k,hk,hxk,hlow,Nat.eq_of_testBit_eq λi=>?_⟩
 have hc:2 ^ 64-x=2 ^ 64-((x-1)+1):=by omega
 rw[Nat.testBit_and,hc,Nat.testBit_two_pow_sub_succ (by omega),b2,Nat.testBit_two_pow]
 rcases Nat.lt_trichotomy i k with h|h|h
 ·rw[hlow i h];simp;omega
 ·subst h
  rw[hxk,if_pos (by omega),Nat.testBit_two_pow_sub_one];simp;exact hk
 ·rw[b1,if_neg (by omega),if_neg (by omega)]
  have:¬k=i:=by omega
  simp[this]
  intro h1 _;exact h1
def qtb:Nat:=285870213051353865
def qoN:List Nat:=[0,1,56,2,57,49,28,3,61,58,42,50,38,29,17,4,62,47,59,36,45,43,51,22,53,39,33,30,24,18,12,5,63,55,48,27,60,41,37,16,46,35,44,21,52,32,23,11,54,26,40,15,34,20,31,10,25,14,19,9,13,8,7,6]
theorem qs1:∀k:Fin 64,2 ^ k.val*qtb % 2 ^ 64 / 2 ^ 58<64/\qoN[2 ^ k.val*qtb % 2 ^ 64 / 2 ^ 58]?=some k.val:=by decide+kernel
end Go.Proofs.YtleaplmdgckmkaaGreatDoor.core
namespace Go.Proofs.YtleaplmdgckmkaaGreatDoor.core
open Go.Gx Go.RowKit Go.ChangeShapes Go.WideShapes Go.ChangeAt
set_option linter.unusedVariables false
theorem shrW (x k:Nat) (hk:k<64):qbV .u64 (x:Int) (k:Int)=((x / 2 ^ k:Nat):Int):=qtW x k hk
def qnQ (M:Mem) (g:Nat) (zs:List Nat):Prop:=∀i z:Nat,zs[i]?=some z->M.cell g i=some (.int .u8 (z:Int))
theorem qnQ.le {M M':Mem} {g:Nat} {zs:List Nat} (h:qnQ M g zs) (hl:M.le M'):qnQ M' g zs:=λi z hz=>hl.cell (h i z hz)
theorem qrf {x:Nat} (h0:0<x) (hx:x<2 ^ 64):IntKind.wrap .u64 (0-(x:Int))=((2 ^ 64-x:Nat):Int):=by
 simp only[IntKind.wrap,IntKind.bits,IntKind.signed,Bool.false_and,Bool.false_eq_true,if_false]
 omega
theorem qoS (n:Nat):IntKind.wrap .u64 (n:Int)=((n % 2 ^ 64:Nat):Int):=by
 simp only[IntKind.wrap,IntKind.bits,IntKind.signed,Bool.false_and,Bool.false_eq_true,if_false]
 omega
theorem qug {x:Nat} (h0:0<x) (hx:x<2 ^ 64) {M:Mem} (hT:qnQ M 4 qoN) (K:Value->Prop) (hK:∀k:Nat,k<64->x.testBit k=true->(∀j,j<k->x.testBit j=false)->K (.int .i64 (k:Int))):qa3 (x:Int) M K:=by
 unfold qa3
 obtain⟨k,hk,h1,h2,h3⟩:=qqM h0 hx
 refine⟨λh=>by omega,λ_=>?_⟩
 obtain⟨g1,g2⟩:=qs1 ⟨k,hk⟩
 simp only at g1 g2
 have e:qbV .u64 (IntKind.wrap .u64 ((qcw .u64 (x:Int) (IntKind.wrap .u64 (0-(x:Int))))*285870213051353865)) 58=((2 ^ k*qtb % 2 ^ 64 / 2 ^ 58:Nat):Int):=by
  rw[qrf h0 hx,qtY _ _ hx (by omega),h3,show(285870213051353865:Int)=((qtb:Nat):Int) from rfl,<-Int.natCast_mul,qoS,show(58:Int)=((58:Nat):Int) from rfl,shrW _ 58 (by decide)]
 rw[e]
 refine⟨by omega,by omega,(k:Int),λj v hj=>?_,?_⟩
 ·have hj0:j=0:=by
   have:=(List.getElem?_eq_some_iff.1 hj).1
   simp at this;omega
  subst hj0
  simp only[List.getElem?_cons_zero,Option.some.injEq]at hj
  subst hj
  have:=hT _ _ g2
  rw[show 0+((2 ^ k*qtb % 2 ^ 64 / 2 ^ 58:Nat):Int).toNat*1+0=2 ^ k*qtb % 2 ^ 64 / 2 ^ 58 by omega]
  exact this
 ·rw[qdX (by unfold InI;omega)]
  exact hK k hk h1 h2
def qgL (p:Nat->Bool) (m:Int) (z:Int):Prop:=
 (z= -1/\∀b:Nat,m<=b->b<256->p b=false)\/∃b:Nat,z=b/\b<256/\m<=b/\p b=true/\∀c:Nat,m<=c->c<b->p c=false
theorem qgL.eq {p:Nat->Bool} {m z w:Int} (h:qgL p m z) (k:qgL p m w):z=w:=by
 rcases h with⟨rfl,h⟩|⟨b,rfl,hb,hm,hp,h⟩<;>rcases k with⟨rfl,k⟩|⟨c,rfl,hc,hn,hq,k⟩
 ·rfl
 ·rw[h c hn hc]at hq;cases hq
 ·rw[k b hm hb]at hp;cases hp
 ·rcases Nat.lt_trichotomy b c with e|e|e
  ·rw[k b hm e]at hp;cases hp
  ·rw[e]
  ·rw[h c hn e]at hq;cases hq
theorem shr6 (x:Nat):qbV .i64 (x:Int) 6=((x / 64:Nat):Int):=by
 show(x:Int).fdiv (2 ^ (min (6:Int).toNat 64))=_
 rw[show(2:Int) ^ (min (6:Int).toNat 64)=((64:Nat):Int) from rfl,Int.ofNat_fdiv]
theorem qur (x:Nat) (hx:x<2 ^ 63):qcw .i64 (x:Int) 63=((x % 64:Nat):Int):=by
 show IntKind.wrap .i64 ((BitVec.ofInt 64 (x:Int)&&& BitVec.ofInt 64 (63:Int)).toNat:Int)=_
 have h2:(BitVec.ofInt 64 (63:Int)).toNat=2 ^ 6-1:=by decide
 rw[BitVec.toNat_and,bvU x (by omega),h2,Nat.and_two_pow_sub_one_eq_mod]
 exact qdX (by unfold InI;omega)
theorem shl6 (x:Nat) (hx:x<4):qh3 .i64 (x:Int) 6=((64*x:Nat):Int):=by
 show IntKind.wrap .i64 ((x:Int)*2 ^ (min (6:Int).toNat 64))=_
 rw[show(2:Int) ^ (min (6:Int).toNat 64)=64 from rfl]
 have:=qdX (x:=(x:Int)*64) (by unfold InI;omega)
 rw[this];omega
theorem qti (w k:Nat) (hw:w<2 ^ 64) (hk:k<64):∃v:Nat,qh3 .u64 (qbV .u64 (w:Int) (k:Int)) (k:Int)=(v:Int)/\v<2 ^ 64/\∀j,j<64->v.testBit j=(decide (k<=j)&&w.testBit j):=by
 refine⟨w / 2 ^ k*2 ^ k,?_,?_,λj hj=>?_⟩
 ·rw[shrW w k hk]
  show IntKind.wrap .u64 (((w / 2 ^ k:Nat):Int)*2 ^ (min (k:Int).toNat 64))=_
  have:min (k:Int).toNat 64=k:=by omega
  rw[this]
  have h2:=qoT (w / 2 ^ k*2 ^ k) (Nat.lt_of_le_of_lt (Nat.div_mul_le_self _ _) hw)
  rw[<-h2,Int.natCast_mul,Int.natCast_pow];rfl
 ·exact Nat.lt_of_le_of_lt (Nat.div_mul_le_self _ _) hw
 ·rw[Nat.mul_comm,Nat.testBit_two_pow_mul,Nat.testBit_div_two_pow]
  by_cases h:k<=j
  ·simp[h,show j-k+k=j by omega]
  ·simp[h]
theorem qnv {s:qab} (hs:wfS s) {m:Int} (hm:m<=9223372036854775807) {M:Mem} (hT:qnQ M 4 qoN) (K:Value->Prop) (hK:∀z,qgL (qcg s) m z->K (.int .i64 z)):qfe s m M K:=by
 unfold qfe
 obtain⟨f,hf⟩:∃f:Nat,(if m>0 then m else 0)=(f:Int):=⟨(if m>0 then m else 0).toNat,by split<;>omega⟩
 have hfm:∀b:Nat,m<=b↔f<=b:=λb=>by split at hf<;>omega
 have hf63:f<2 ^ 63:=by split at hf<;>omega
 simp only[hf,shr6,qur f hf63]
 have hKn:(∀b:Nat,f<=b->b<256->qcg s b=false)->K (.int .i64 (-1)):=λh=>hK _ (.inl ⟨rfl,λb h1 h2=>h b ((hfm b).1 h1) h2⟩)
 have hKs:∀b:Nat,b<256->f<=b->qcg s b=true->(∀c:Nat,f<=c->c<b->qcg s c=false)->K (.int .i64 (b:Int)):=λb h1 h2 h3 h4=>
  hK _ (.inr ⟨b,rfl,h1,(hfm b).2 h2,h3,λc g1 g2=>h4 c ((hfm c).1 g1) g2⟩)
 clear hK hfm hf hm
 refine⟨λi=>∃q:Nat,i=q/\f / 64<=q/\∀b:Nat,f<=b->b<64*q->b<256->qcg s b=false,λi=>(4-i).toNat,⟨f / 64,rfl,Nat.le_refl _,λb h1 h2 _=>by omega⟩,λi ⟨q,hi,hq,hno⟩=>?_⟩
 subst hi
 refine⟨λh=>?_,λh=>hKn λb h1 h2=>hno b h1 (by omega) h2⟩
 obtain⟨w,hw,hw2,_⟩:=qmH hs (x:=64*q) (by omega)
 rw[show 64*q / 64=q by omega]at hw
 have hb:∀k,k<64->w.testBit k=qcg s (64*q+k):=λk hk=>by
  obtain⟨w',hw',_,hb'⟩:=qmH hs (x:=64*q+k) (by omega)
  rw[show(64*q+k) / 64=q by omega,hw]at hw'
  rw[show(64*q+k) % 64=k by omega]at hb'
  simp only[Option.some.injEq]at hw'
  have:w=w':=by omega
  rw[this];exact hb'
 have key:∀v:Nat,v<2 ^ 64->(∀j,j<64->v.testBit j=(decide (f<=64*q+j)&&qcg s (64*q+j)))->
   qcb M (q:Int) (λi=>∃q:Nat,i=q/\f / 64<=q/\∀b:Nat,f<=b->b<64*q->b<256->qcg s b=false) (λi=>(4-i).toNat) (v:Int) K:=λv hv hbit=>by
  unfold qcb
  refine⟨λhne=>?_,λheq=>⟨by unfold InI;omega,⟨q+1,by omega,by omega,λb h1 h2 h3=>?_⟩,by dsimp only;omega⟩⟩
  ·refine qd4 _ _ _ (qug (by omega) hv hT _ λk hk h1 h2=>⟨_,rfl,?_⟩)
   have h3:=hbit k hk
   rw[h1]at h3
   simp only[Bool.true_eq,Bool.and_eq_true,decide_eq_true_eq]at h3
   rw[shl6 q (by omega),<-Int.natCast_add]
   refine⟨by unfold InI;omega,hKs _ (by omega) h3.1 h3.2 λc g1 g2=>?_⟩
   by_cases hc:c<64*q
   ·exact hno c g1 hc (by omega)
   ·have h4:=hbit (c-64*q) (by omega)
    rw[h2 _ (by omega),show 64*q+(c-64*q)=c by omega]at h4
    simpa[g1]using h4
  ·by_cases hc:b<64*q
   ·exact hno b h1 hc h3
   ·have h4:=hbit (b-64*q) (by omega)
    have hv0:v=0:=by
     have:=Classical.not_not.1 heq
     omega
    rw[hv0,Nat.zero_testBit,show 64*q+(b-64*q)=b by omega]at h4
    simpa[h1]using h4
 refine⟨by omega,by omega,(w:Int),by rw[show 0+(q:Int).toNat*1=q by omega];exact hw,λhe=>?_,λhne=>?_⟩
 ·obtain⟨v,e,hv,hbit⟩:=qti w (f % 64) hw2 (by omega)
  refine⟨by omega,by omega,?_⟩
  rw[e]
  refine key v hv λj hj=>?_
  rw[hbit j hj,hb j hj]
  congr 1
  rw[decide_eq_decide];omega
 ·refine key w hw2 λj hj=>?_
  rw[hb j hj,show decide (f<=64*q+j)=true by simp;omega];rfl
theorem qsc (b:Nat) (h:b<256):IntKind.wrap .u8 (b:Int)=((b.toUInt8.toNat:Nat):Int):=by
 have e:b.toUInt8.toNat=b:=by simp[Nat.toUInt8];omega
 rw[e]
 simp only[IntKind.wrap,IntKind.bits,IntKind.signed,Bool.false_and,Bool.false_eq_true,if_false]
 omega
end Go.Proofs.YtleaplmdgckmkaaGreatDoor.core
namespace Go.Proofs.YtleaplmdgckmkaaGreatDoor.core
open Go.Gx Go.RowKit Go.ChangeShapes Go.WideShapes Go.ChangeAt
set_option linter.unusedVariables false
abbrev qfq:List UInt8:=[91,93,45,94,92]
def shC (b:Nat):List UInt8:=qbz qfq 33 b.toUInt8
theorem qka (b:Nat):(shC b).length<=4:=qfY _ _ _
def qhq (b e:Nat):List UInt8:=shC b++if e=b then[] else if e=b+1 then shC e else[45]++shC e
theorem qqW (b e:Nat):(qhq b e).length<=9:=by
 have h1:=qka b
 have h2:=qka e
 unfold qhq
 rw[List.length_append]
 split
 ·simp;omega
 ·split
  ·omega
  ·simp;omega
def qe6 (p:Nat->Bool):Nat->Nat->Nat
 |0,b=>b
 |f+1,b=>if b<255/\p (b+1)=true then qe6 p f (b+1) else b
theorem qnw {p:Nat->Bool} {e:Nat} (he:e=255\/p (e+1)=false):∀(f b:Nat),b<=e->e<=255->(∀x,b<x->x<=e->p x=true)->e-b<=f->qe6 p f b=e
 |0,b,h1,_,_,h3=>by unfold qe6;omega
 |f+1,b,h1,h2,h4,h3=>by
  unfold qe6
  by_cases hb:b=e
  ·subst hb
   rw[if_neg]
   intro h
   rcases he with he|he
   ·omega
   ·rw[he]at h;cases h.2
  ·rw[if_pos ⟨by omega,h4 _ (by omega) (by omega)⟩]
   exact qnw he f (b+1) (by omega) h2 (λx h5 h6=>h4 x (by omega) h6) (by omega)
def qgD (p:Nat->Bool):Nat->List UInt8
 |0=>[]
 |n+1=>qgD p n++if p n=true/\(n=0\/p (n-1)=false) then qhq n (qe6 p 255 n) else[]
theorem qir (p:Nat->Bool):∀n,(qgD p n).length<=9*n
 |0=>by simp[qgD]
 |n+1=>by
  have h1:=qir p n
  have h2:=qqW n (qe6 p 255 n)
  rw[qgD,List.length_append]
  split
  ·omega
  ·simp;omega
theorem qhh {p:Nat->Bool} {n:Nat}:∀{m:Nat},n<=m->(∀b,n<=b->b<m->p b=false\/(0<b/\p (b-1)=true))->qgD p m=qgD p n
 |0,h,_=>by rw[Nat.le_zero.1 h]
 |m+1,h,hp=>by
  rcases Nat.lt_or_ge n (m+1)with h'|h'
  ·rw[qgD,qhh (n:=n) (by omega) λb h1 h2=>hp b h1 (by omega),if_neg]
   ·simp
   ·intro ⟨h1,h2⟩
    rcases hp m (by omega) (by omega)with h3|⟨h3,h4⟩
    ·rw[h3]at h1;cases h1
    ·rcases h2 with h2|h2
     ·omega
     ·rw[h4]at h2;cases h2
  ·rw[show m+1=n by omega]
theorem toU8 (b:Nat) (h:b<256):(b.toUInt8.toNat:Int)=(b:Int):=by simp[Nat.toUInt8];omega
theorem qpv {s:qab} (hs:wfS s) {M:Mem} (hT:qnQ M 4 qoN) (K:Value->Prop) (hK:K (.string (mkS ([91]++qgD (qcg s) 256++[93])))):qdO s M K:=by
 unfold qdO
 refine qiK _ _ _ _ (qnv hs (by decide) hT _ λz hz=>⟨z,rfl,λout b=>∃m:Nat,m<=256/\qgL (qcg s) m b/\(m=0\/m=256\/qcg s m=false)/\out=[91]++qgD (qcg s) m,λ_ b=>if 0<=b then(256-b).toNat else 0,⟨0,by decide,hz,.inl rfl,rfl⟩,λout b ⟨m,hm,hb,hm2,ho⟩=>?_⟩)
 subst ho
 refine⟨λh0=>?_,λh0=>?_⟩
 ·obtain⟨c,rfl⟩:=Int.eq_ofNat_of_zero_le h0
  have hc:m<=c/\c<256/\qcg s c=true/\∀d:Nat,m<=d->d<c->qcg s d=false:=by
   rcases hb with⟨h,_⟩|⟨c',hc',h1,h2,h3,h4⟩
   ·omega
   ·obtain rfl:c=c':=by omega
    exact⟨by omega,h1,h3,λd g1 g2=>h4 d (by omega) g2⟩
  obtain⟨h1,h2,h3,h4⟩:=hc
  have hst:qgD (qcg s) (c+1)=qgD (qcg s) m++qhq c (qe6 (qcg s) 255 c):=by
   rw[qgD,qhh (n:=m) h1 λd g1 g2=>.inl (h4 d g1 g2),if_pos]
   refine⟨h3,?_⟩
   by_cases hc0:c=0
   ·exact .inl hc0
   ·refine .inr ?_
    by_cases hcm:m=c
    ·subst hcm
     rcases hm2 with h|h|h
     ·omega
     ·omega
     ·rw[h]at h3;cases h3
    ·exact h4 (c-1) (by omega) (by omega)
  have hlen:=qir (qcg s) m
  refine⟨λe=>∃k:Nat,e=k/\c<=k/\k<=255/\∀x,c<x->x<=k->qcg s x=true,λe=>(256-e).toNat,⟨c,rfl,Nat.le_refl _,by omega,λx h5 h6=>by omega⟩,λe ⟨k,he,hk1,hk2,hk3⟩=>?_⟩
  subst he
  have stop:(k=255\/qcg s (k+1)=false)->qbm s M ([91]++qgD (qcg s) m) (c:Int) (λout b=>∃m:Nat,m<=256/\qgL (qcg s) m b/\(m=0\/m=256\/qcg s m=false)/\out=[91]++qgD (qcg s) m) (λ_ b=>if 0<=b then(256-b).toNat else 0) (k:Int) (λe=>∃k:Nat,e=k/\c<=k/\k<=255/\∀x,c<x->x<=k->qcg s x=true) (λe=>(256-e).toNat) false K:=λhstop=>by
   have hend:qe6 (qcg s) 255 c=k:=qnw hstop 255 c hk1 hk2 hk3 (by omega)
   rw[hend]at hst
   have hnext:∀out2,out2=[91]++qgD (qcg s) m++qhq c k->qbl s M ([91]++qgD (qcg s) m) (c:Int) (λout b=>∃m:Nat,m<=256/\qgL (qcg s) m b/\(m=0\/m=256\/qcg s m=false)/\out=[91]++qgD (qcg s) m) (λ_ b=>if 0<=b then(256-b).toNat else 0) out2 (k:Int) K:=λout2 ho=>by
    unfold qbl
    refine⟨by unfold InI;omega,qiK _ _ _ _ (qnv hs (by omega) hT _ λz hz=>⟨z,rfl,⟨k+1,by omega,hz,?_,?_⟩,?_⟩)⟩
    ·rcases hstop with h|h
     ·exact .inr (.inl (by omega))
     ·exact .inr (.inr h)
    ·rw[ho,List.append_assoc,<-hst]
     congr 1
     symm
     refine qhh (by omega) λx g1 g2=>.inr ⟨by omega,?_⟩
     by_cases hx:x-1=c
     ·rw[hx];exact h3
     ·exact hk3 _ (by omega) (by omega)
    ·dsimp only
     rcases hz with⟨rfl,_⟩|⟨d,rfl,hd,hd2,_⟩
     ·rw[if_neg (by omega),if_pos (by omega)];omega
     ·rw[if_pos (by omega),if_pos (by omega)];omega
   have l1:=qka c
   have l2:=qka k
   unfold qbm
   refine⟨λh=>by simp at h,λ_=>?_⟩
   rw[qsc c h2,qsc k (by omega)]
   refine qe1 _ _ _ _ (qkh c.toUInt8 qfq _ _ 33 rfl ⟨_,rfl,?_,by unfold InI;omega,λg=>?_,λg=>⟨λg2=>?_,λg2=>?_⟩⟩)
   ·show _+(shC c).length<=_
    simp;omega
   ·refine qe1 _ _ _ _ (qkh k.toUInt8 qfq _ _ 33 rfl ⟨_,rfl,?_,hnext _ ?_⟩)
    ·show(_++shC c).length+(shC k).length<=_
     simp;omega
    ·unfold qhq
     rw[if_neg (by omega),if_pos (by omega),<-List.append_assoc];rfl
   ·refine qe1 _ _ _ _ (qkh k.toUInt8 qfq _ _ 33 rfl ⟨_,rfl,?_,?_,hnext _ ?_⟩)
    ·show _+(shC k).length<=_
     simp;omega
    ·show(_++shC c).length+(_++shC k).length<=_
     simp;omega
    ·unfold qhq
     rw[if_neg (by omega),if_neg (by omega)]
     simp only[List.append_assoc];rfl
   ·refine hnext _ ?_
    unfold qhq
    rw[if_pos (by omega),List.append_nil];rfl
  refine⟨λhlt=>⟨by unfold InI;omega,?_⟩,λhge=>stop (.inl (by omega))⟩
  rw[show(k:Int)+1=((k+1:Nat):Int) by omega,qsc (k+1) (by omega)]
  refine qk5 _ _ _ _ (qrT hs (k+1).toUInt8 _ ⟨_,rfl,?_⟩)
  have e:(k+1).toUInt8.toNat=k+1:=by have:=toU8 (k+1) (by omega);omega
  rw[e]
  cases hb:qcg s (k+1)with
  |false=>exact stop (.inr hb)
  |true=>
   unfold qbm
   refine⟨λ_=>⟨by unfold InI;omega,⟨k+1,by omega,by omega,by omega,λx g1 g2=>?_⟩,by dsimp only;omega⟩,λh=>absurd rfl h⟩
   by_cases hx:x=k+1
   ·rw[hx];exact hb
   ·exact hk3 x g1 (by omega)
 ·have hb2:b= -1/\qgD (qcg s) 256=qgD (qcg s) m:=by
   rcases hb with⟨h,h1⟩|⟨c,hc,_⟩
   ·exact⟨h,qhh hm λx g1 g2=>.inl (h1 x (by omega) g2)⟩
   ·omega
  have hlen:=qir (qcg s) m
  rw[<-hb2.2]
  refine⟨by rw[hb2.2];simp;omega,hK⟩
theorem qtt {s:qab} (hs:wfS s) {M:Mem} (K:Value->Prop) (hK:K (Us λb=> !qcg s b).val):qhk s M K:=by
 unfold qhk
 refine qjF _ _ _ _ _ ?_
 obtain⟨a,b,c,d⟩:=s
 obtain⟨h0,h1,h2,h3⟩:=hs
 obtain⟨a,rfl,ha⟩:=qcS h0
 obtain⟨b,rfl,hb⟩:=qcS h1
 obtain⟨c,rfl,hc⟩:=qcS h2
 obtain⟨d,rfl,hd⟩:=qcS h3
 have hx64:∀x,x<2 ^ 64->(2 ^ 64-1) ^^^ x<2 ^ 64:=λx hx=>Nat.xor_lt_two_pow (by decide) hx
 have hw:∀(w x:Nat),[a,b,c,d].getD w 0=x->x<2 ^ 64->((2 ^ 64-1) ^^^ x)=Uw (λq=> !qcg ⟨a,b,c,d⟩ q) w 64:=by
  intro w x hx hxl
  refine qjX _ w (hx64 x hxl) λk hk=>?_
  rw[Nat.testBit_xor,Nat.testBit_two_pow_sub_one,<-hx,<-qhK [a,b,c,d] w k hk]
  simp only[hk,decide_true,Bool.true_xor];rfl
 have hfin:(⟨(((2 ^ 64-1) ^^^ a:Nat):Int),(((2 ^ 64-1) ^^^ b:Nat):Int),(((2 ^ 64-1) ^^^ c:Nat):Int),(((2 ^ 64-1) ^^^ d:Nat):Int)⟩:qab)=Us λq=> !qcg ⟨a,b,c,d⟩ q:=by
  unfold Us
  rw[hw 0 a rfl ha,hw 1 b rfl hb,hw 2 c rfl hc,hw 3 d rfl hd]
 rw[<-hfin]at hK
 have call:∀(x y:Nat) (K:Value->Prop),x<2 ^ 64->K (.int .u64 (((2 ^ 64-1) ^^^ x:Nat):Int))->qgM Tryz.prog (Value.func (.func 246) #[] #[]) [.int .u64 (x:Int),.int .u64 (y:Int)] M (λv _=>K v):=λx y K hx hK=>
  qmE _ _ _ _ (by unfold qfd;rw[qup x hx];exact hK)
 unfold qf8
 generalize e0:(2 ^ 64-1) ^^^ a=a' at*
 generalize e1:(2 ^ 64-1) ^^^ b=b' at*
 generalize e2:(2 ^ 64-1) ^^^ c=c' at*
 generalize e3:(2 ^ 64-1) ^^^ d=d' at*
 refine⟨λi zs=>(i=0/\zs=[(a:Int),b,c,d])\/(i=1/\zs=[(a':Int),b,c,d])\/(i=2/\zs=[(a':Int),(b':Int),c,d])\/(i=3/\zs=[(a':Int),(b':Int),(c':Int),d])\/(i=4/\zs=[(a':Int),(b':Int),(c':Int),(d':Int)]),λi _=>4-i.toNat,.inl ⟨rfl,rfl⟩,λi zs hI=>?_⟩
 rcases hI with⟨rfl,rfl⟩|⟨rfl,rfl⟩|⟨rfl,rfl⟩|⟨rfl,rfl⟩|⟨rfl,rfl⟩
 ·exact⟨λ_=>⟨by omega,by omega,_,rfl,by omega,by omega,_,rfl,call _ _ _ ha (by rw[e0];exact⟨_,rfl,by omega,by omega,by simp,by unfold InI;omega,.inr (.inl ⟨rfl,rfl⟩),by dsimp only;decide⟩)⟩,λh=>absurd h (by decide)⟩
 ·exact⟨λ_=>⟨by omega,by omega,_,rfl,by omega,by omega,_,rfl,call _ _ _ hb (by rw[e1];exact⟨_,rfl,by omega,by omega,by simp,by unfold InI;omega,.inr (.inr (.inl ⟨rfl,rfl⟩)),by dsimp only;decide⟩)⟩,λh=>absurd h (by decide)⟩
 ·exact⟨λ_=>⟨by omega,by omega,_,rfl,by omega,by omega,_,rfl,call _ _ _ hc (by rw[e2];exact⟨_,rfl,by omega,by omega,by simp,by unfold InI;omega,.inr (.inr (.inr (.inl ⟨rfl,rfl⟩))),by dsimp only;decide⟩)⟩,λh=>absurd h (by decide)⟩
 ·exact⟨λ_=>⟨by omega,by omega,_,rfl,by omega,by omega,_,rfl,call _ _ _ hd (by rw[e3];exact⟨_,rfl,by omega,by omega,by simp,by unfold InI;omega,.inr (.inr (.inr (.inr ⟨rfl,rfl⟩))),by dsimp only;decide⟩)⟩,λh=>absurd h (by decide)⟩
 ·exact⟨λh=>absurd h (by decide),λ_=>⟨_,_,_,_,rfl,rfl,_,_,_,_,rfl,_,rfl,hK⟩⟩
end Go.Proofs.YtleaplmdgckmkaaGreatDoor.core
namespace Go.Proofs.YtleaplmdgckmkaaGreatDoor.core
open Go.Gx Go.RowKit Go.ChangeShapes Go.WideShapes Go.ChangeAt
set_option linter.unusedVariables false
def qqD (r:List UInt8) (k:Nat):Bool:=decide (r[k]?=some 45)&&match r[k+1]? with
 |some c=>decide (c≠93)
 |none=>false
theorem qs0 {s:List UInt8} {j n:Nat} {d e:UInt8} (hd:s[j+n]?=some d) (he:s[j+n+1]?=some e):qqD (s.drop j) n=(decide (d.toNat=45)&&decide (e.toNat≠93)):=by
 unfold qqD
 rw[List.getElem?_drop,List.getElem?_drop,<-Nat.add_assoc,hd,he]
 have h1:(some d=some (45:UInt8))↔d.toNat=45:=⟨λh=>by cases h;rfl,λh=>by rw[UInt8.toNat_inj.1 (show d.toNat=(45:UInt8).toNat from h)]⟩
 have h2:(e≠(93:UInt8))↔e.toNat≠93:=⟨λh g=>h (UInt8.toNat_inj.1 (show e.toNat=(93:UInt8).toNat from g)),λh g=>h (by rw[g];rfl)⟩
 rw[decide_eq_decide.2 h1]
 show(_&&decide (e≠93))=_
 rw[decide_eq_decide.2 h2]
theorem qsZ {s:List UInt8} {j n:Nat} (h:s.length<=j+n+1):qqD (s.drop j) n=false:=by
 unfold qqD
 rw[List.getElem?_drop,List.getElem?_drop,List.getElem?_eq_none (i:=j+(n+1)) (by omega)];simp
def qj8 (r:List UInt8):Option (Int×Int×Int):=
 if (qaX qfq r).2=0 then none else if qqD r (qaX qfq r).2.toNat=true then
  (if (qaX qfq (r.drop ((qaX qfq r).2.toNat+1))).2=0\/(qaX qfq (r.drop ((qaX qfq r).2.toNat+1))).1<(qaX qfq r).1 then none
   else some ((qaX qfq r).1,(qaX qfq (r.drop ((qaX qfq r).2.toNat+1))).1,(qaX qfq r).2+(1+(qaX qfq (r.drop ((qaX qfq r).2.toNat+1))).2)))
 else some ((qaX qfq r).1,(qaX qfq r).1,(qaX qfq r).2)
def qbb (s:List UInt8) (i:Nat) (acc:List (Int×Int)):Option (List (Int×Int)×Nat):=
 if h:i<s.length then if s[i]=93 then some (acc,i+1) else match qj8 (s.drop i)with
  |none=>none
  |some (l,h,n)=>qbb s (i+(n.toNat-1)+1) (acc++[(l,h)])
 else none
termination_by s.length-i
decreasing_by omega
theorem qog {s:List UInt8} {i:Nat} {acc:List (Int×Int)} (h:¬i<s.length):qbb s i acc=none:=by rw[qbb,dif_neg h]
theorem qjB {s:List UInt8} {i:Nat} {acc:List (Int×Int)} {c:UInt8} (h:s[i]?=some c) (hc:c.toNat=93):qbb s i acc=some (acc,i+1):=by
 obtain⟨hi,rfl⟩:=List.getElem?_eq_some_iff.1 h
 rw[qbb,dif_pos hi,if_pos (UInt8.toNat_inj.1 hc)]
theorem qpl {s:List UInt8} {i:Nat} {acc:List (Int×Int)} {c:UInt8} (h:s[i]?=some c) (hc:c.toNat≠93):qbb s i acc=match qj8 (s.drop i)with
  |none=>none
  |some (l,h,n)=>qbb s (i+(n.toNat-1)+1) (acc++[(l,h)]):=by
 obtain⟨hi,rfl⟩:=List.getElem?_eq_some_iff.1 h
 rw[qbb,dif_pos hi,if_neg (λe=>hc (by rw[e];rfl))]
def inS (acc:List (Int×Int)) (b:Nat):Bool:=acc.any λp=>decide (p.1<=b/\(b:Int)<=p.2)
def qh8 (not:Bool):Option (List (Int×Int)×Nat)->qab×Int×Int
 |none=>(⟨0,0,0,0⟩,0,4)
 |some (acc,e)=>(Us λb=>inS acc b != not,(e:Int),0)
def qeG (s:List UInt8):qab×Int×Int:=
 if s[0]?=some 91 then if s[1]?=some 94 then qh8 true (qbb s 2 []) else qh8 false (qbb s 1 []) else(⟨0,0,0,0⟩,0,4)
def outS (r:qab×Int×Int):Value:=.tuple #[r.1.val,.int .i64 r.2.1,.int .i64 r.2.2]
theorem qs8 {p:Nat->Bool} (hp:∀x,x<256->p x=false):Us p=⟨0,0,0,0⟩:=by
 have key:∀w,w<4->Uw p w 64=0:=λw hw=>by
  have h1:Uw p w 64=Uw (λ_=>false) w 64:=qkI λk hk=>hp _ (by omega)
  have h2:∀j,Uw (λ_=>false) w j=0:=by
   intro j
   induction j with
   |zero=>rfl
   |succ j ih=>rw[Uw,ih];simp
  rw[h1,h2]
 unfold Us
 rw[key 0 (by omega),key 1 (by omega),key 2 (by omega),key 3 (by omega)];rfl
theorem qmV (s:List UInt8):s.take ((s.length:Nat):Int).toNat=s:=by rw[Int.toNat_natCast,List.take_length]
theorem qnE {s:List UInt8} {i:Nat} {c d:UInt8} (h:s[i]?=some c) (hd:c.toNat=d.toNat):s[i]?=some d:=by rw[h,UInt8.toNat_inj.1 hd]
theorem qjM {s:List UInt8} (hs:s.length<=1048576) {i0:Nat} (hi0:i0<=s.length) (not:Bool) {M:Mem} (K:Value->Prop) (hK:K (outS (qh8 not (qbb s i0 [])))):qbh s M (i0:Int) not K:=by
 unfold qbh
 refine⟨λi c0 c1 c2 c3=>∃(j:Nat) (acc:List (Int×Int)),i=j/\j<=s.length/\(⟨c0,c1,c2,c3⟩:qab)=Us (inS acc)/\qbb s j acc=qbb s i0 [],λi _ _ _ _=>(s.length-i).toNat,⟨i0,[],rfl,hi0,(qs8 λx _=>rfl).symm,rfl⟩,λi c0 c1 c2 c3 ⟨j,acc,hi,hj,hU,hrun⟩=>?_⟩
 subst hi
 have bad:qbb s i0 []=none->qa0 K:=λh=>by
  unfold qa0
  rw[h]at hK;exact hK
 refine⟨λhlt=>?_,λhge=>bad (by rw[<-hrun,qog (by omega)])⟩
 obtain⟨c,hc⟩:=qgo (l:=s) (i:=j) (by omega)
 refine⟨c,by omega,by simpa using hc,λh93=>?_,λh93=>?_⟩
 ·rw[qjB hc (by omega)]at hrun
  rw[<-hrun]at hK
  have fin:∀x:qab,x=(Us λb=>inS acc b != not)->qbg (j:Int) x.w0 x.w1 x.w2 x.w3 K:=λx hx=>by
   unfold qbg
   refine⟨by unfold InI;omega,?_⟩
   subst hx
   exact hK
  refine⟨λhn=>?_,λhn=>?_⟩
  ·refine qpq _ _ _ ?_
   rw[hU]
   refine qtt (qmK _) _ ⟨_,rfl,fin _ (qdL λb hb=>?_)⟩
   rw[qi6 hb,hn];simp
  ·have:=fin ⟨c0,c1,c2,c3⟩ (by rw[hU];exact qdL λb hb=>by simp[hn])
   exact this
 ·rw[qpl hc (by omega)]at hrun
  rw[qmV,show(j:Int).toNat=j from rfl]
  have hdr:=qaW hc
  have hne:s.drop j≠[]:=by rw[hdr];simp
  have hok:=qf0 qfq (s.drop j)
  rw[List.length_drop]at hok
  refine⟨by omega,by omega,by omega,qfG _ _ _ _ (qki _ qfq hne (by decide) _ _ ⟨_,_,rfl,λhz=>bad ?_,λhz=>⟨by unfold InI;omega,by unfold InI;omega,?_⟩⟩)⟩
  ·rw[<-hrun,qj8,if_pos hz]
  obtain⟨n,hn⟩:∃n:Nat,(qaX qfq (s.drop j)).2=n:=⟨(qaX qfq (s.drop j)).2.toNat,by omega⟩
  unfold qj8 at hrun
  rw[hn]at hok hrun hz ⊢
  rw[if_neg hz]at hrun
  generalize hlow:(qaX qfq (s.drop j)).1=low at*
  have step:∀(k:Nat) (high:Int),high<256->0<=high->j<k->k<=s.length->qbb s k (acc++[(low,high)])=qbb s i0 []->qbf M (j:Int) c0 c1 c2 c3 (λi c0 c1 c2 c3=>∃(j:Nat) (acc:List (Int×Int)),i=j/\j<=s.length/\(⟨c0,c1,c2,c3⟩:qab)=Us (inS acc)/\qbb s j acc=qbb s i0 []) (λi _ _ _ _=>(s.length-i).toNat) low (k:Int) high K:=λk high h1 h2 h3 h4 h5=>by
   unfold qbf
   rw[qdX (show InI low by unfold InI;omega),qdX (show InI high by unfold InI;omega),hU]
   refine qe0 _ _ _ _ (qim _ _ _ ⟨_,rfl,qjG _ _ _ _ (qpT (qmK _) (qmK _) _ ⟨_,rfl,⟨k,acc++[(low,high)],rfl,h4,qdL λb hb=>?_,h5⟩,by dsimp only;omega⟩)⟩)
   rw[qi6 hb,qi6 hb]
   simp[inS,inR]
  have plain:qqD (s.drop j) n=false->qaM s M (j:Int) c0 c1 c2 c3 (λi c0 c1 c2 c3=>∃(j:Nat) (acc:List (Int×Int)),i=j/\j<=s.length/\(⟨c0,c1,c2,c3⟩:qab)=Us (inS acc)/\qbb s j acc=qbb s i0 []) (λi _ _ _ _=>(s.length-i).toNat) low (n:Int) false K:=λh=>by
   unfold qaM
   refine⟨λh=>by simp at h,λ_=>?_⟩
   rw[show(n:Int).toNat=n from rfl,h]at hrun
   simp only[Bool.false_eq_true,if_false]at hrun
   rw[show(j:Int)+(n:Int)=((j+n:Nat):Int) by omega]
   refine step _ _ (by omega) (by omega) (by omega) (by omega) ?_
   rw[<-hrun]
   congr 1
   show j+n=j+((n:Int).toNat-1)+1
   omega
  refine⟨λhl=>?_,λhl=>plain (qsZ (by omega))⟩
  obtain⟨d,hd⟩:=qgo (l:=s) (i:=j+n) (by omega)
  obtain⟨e,he⟩:=qgo (l:=s) (i:=j+n+1) (by omega)
  have hda:=qs0 hd he
  have t1:((j:Int)+(n:Int)).toNat=j+n:=by omega
  have t2:((j:Int)+(n:Int)+1).toNat=j+n+1:=by omega
  rw[t1,t2]
  refine⟨d,by omega,hd,λh45=>⟨by unfold InI;omega,e,by omega,he,?_⟩,λh45=>plain (by rw[hda];simp;omega)⟩
  by_cases h93:e.toNat=93
  ·rw[show((e.toNat:Int) != (93:Int))=false by simp;omega]
   exact plain (by rw[hda];simp[h93])
  ·rw[show((e.toNat:Int) != (93:Int))=true by simp;omega]
   have hdt:qqD (s.drop j) n=true:=by rw[hda];simp[h93];omega
   rw[show(n:Int).toNat=n from rfl,hdt,if_pos rfl,List.drop_drop]at hrun
   have hdr2:=qaW he
   have hne2:s.drop (j+n+1)≠[]:=by rw[hdr2];simp
   have hok2:=qf0 qfq (s.drop (j+n+1))
   rw[List.length_drop]at hok2
   rw[show j+(n+1)=j+n+1 by omega]at hrun
   unfold qaM
   rw[qmV,t2]
   refine⟨λ_=>⟨by unfold InI;omega,by omega,by omega,by omega,qfG _ _ _ _ (qki _ qfq hne2 (by decide) _ _ ⟨_,_,rfl,?_⟩)⟩,λh=>absurd rfl h⟩
   have bad2:(qaX qfq (s.drop (j+n+1))).2=0\/(qaX qfq (s.drop (j+n+1))).1<low->∀x y,qa1 M (j:Int) c0 c1 c2 c3 (λi c0 c1 c2 c3=>∃(j:Nat) (acc:List (Int×Int)),i=j/\j<=s.length/\(⟨c0,c1,c2,c3⟩:qab)=Us (inS acc)/\qbb s j acc=qbb s i0 []) (λi _ _ _ _=>(s.length-i).toNat) low (n:Int) x y true K:=λh x y=>by
    unfold qa1
    refine⟨λ_=>bad ?_,λh=>absurd rfl h⟩
    rw[<-hrun,if_pos h]
   refine⟨λh0=>bad2 (.inl h0) _ _,λh0=>?_⟩
   by_cases hlt2:(qaX qfq (s.drop (j+n+1))).1<low
   ·rw[show decide ((qaX qfq (s.drop (j+n+1))).1<low)=true by simp[hlt2]];exact bad2 (.inr hlt2) _ _
   rw[show decide ((qaX qfq (s.drop (j+n+1))).1<low)=false by simp;omega]
   rw[if_neg (by omega)]at hrun
   obtain⟨m,hm⟩:∃m:Nat,(qaX qfq (s.drop (j+n+1))).2=m:=⟨(qaX qfq (s.drop (j+n+1))).2.toNat,by omega⟩
   rw[hm]at hrun hok2 h0 ⊢
   unfold qa1
   refine⟨λh=>by simp at h,λ_=>⟨by unfold InI;omega,by unfold InI;omega,?_⟩⟩
   rw[show(j:Int)+(n:Int)+(1+(m:Int))=((j+n+(1+m):Nat):Int) by omega]
   refine step _ _ (by omega) (by omega) (by omega) (by omega) ?_
   rw[<-hrun]
   show _=qbb s (j+(((n:Int)+(1+(m:Int))).toNat-1)+1) _
   congr 1
   omega
theorem qun {d:UInt8} (h:((d.toNat:Int)==(94:Int))=true):d.toNat=(94:UInt8).toNat:=by
 have:=beq_iff_eq.1 h
 show d.toNat=94
 omega
theorem qq3 {s:List UInt8} (hs:s.length<=1048576) {M:Mem} (K:Value->Prop) (hK:K (outS (qeG s))):qc9 s M K:=by
 have bad:s[0]?≠some 91->qa2 s M true K:=λh=>by
  unfold qa2
  refine⟨λ_=>?_,λh=>absurd rfl h⟩
  unfold qeG at hK
  rw[if_neg h]at hK;exact hK
 unfold qc9
 refine⟨λh=>bad (by rw[h];simp),λhne=>?_⟩
 obtain⟨c,r,rfl⟩:=List.exists_cons_of_ne_nil hne
 refine⟨c,by omega,rfl,?_⟩
 by_cases h91:c.toNat=91
 ·rw[show((c.toNat:Int) != (91:Int))=false by simp;omega]
  have h0:(c::r)[0]?=some 91:=qnE rfl h91
  unfold qeG at hK
  rw[if_pos h0]at hK
  unfold qa2
  have two:∀b:Bool,(b=true->(c::r)[1]?=some 94/\2<=(c::r).length)->(b=false->(c::r)[1]?≠some 94)->qbi (c::r) M b K:=λb h1 h2=>by
   unfold qbi
   refine⟨λh=>?_,λh=>?_⟩
   ·obtain⟨g1,g2⟩:=h1 h
    rw[if_pos g1]at hK
    exact qjM hs g2 true K hK
   ·rw[if_neg (h2 (by simpa using h))]at hK
    exact qjM hs (by simp) false K hK
  refine⟨λh=>by simp at h,λ_=>⟨λhl=>?_,λhl=>two false (λh=>by cases h) λ_ h=>?_⟩⟩
  ·obtain⟨d,hd⟩:=qgo (l:=c::r) (i:=1) (by omega)
   refine⟨d,by omega,hd,two _ (λh=>⟨qnE hd (qun h),by omega⟩) λh h2=>?_⟩
   rw[hd]at h2
   cases h2
   simp at h
  ·have:=(List.getElem?_eq_some_iff.1 h).1
   omega
 ·rw[show((c.toNat:Int) != (91:Int))=true by simp;omega]
  refine bad λh=>h91 ?_
  cases h;rfl
end Go.Proofs.YtleaplmdgckmkaaGreatDoor.core
namespace Go.Proofs.YtleaplmdgckmkaaGreatDoor.core
open Go.Gx Go.RowKit Go.ChangeShapes Go.WideShapes Go.ChangeAt
set_option linter.unusedVariables false
inductive Lx where
 |bad
 |node (n:Nat) (k:Int) (st:qab) (tx:List UInt8)
 |sign (n:Nat) (c:Nat)
def zS:qab:=⟨0,0,0,0⟩
def zE:qaa:=⟨0,⟨0,0,0,0⟩,[],none,0,0⟩
def qt1:qab:=Us λ_=>true
def qfK:List UInt8->Nat
 |[]=>0
 |c::r=>if nmB c=true then 1+qfK r else 0
theorem qln:∀l:List UInt8,qfK l<=l.length
 |[]=>by simp[qfK]
 |c::r=>by
  have:=qln r
  rw[qfK,List.length_cons];split<;>omega
def qds:List UInt8:=[40,41,47,38,33,63,42,43]
def qen:List UInt8->Lx
 |[]=>.bad
 |c::r=>
  if c.toNat=39\/c.toNat=34 then
   (if (qcA (c::r)).2.2≠0 then .bad else if (qcA (c::r)).1=[] then .node (qcA (c::r)).2.1.toNat 1 zS [] else .node (qcA (c::r)).2.1.toNat 3 zS (qcA (c::r)).1)
  else if c.toNat=91 then(if (qeG (c::r)).2.2≠0 then .bad else .node (qeG (c::r)).2.1.toNat 2 (qeG (c::r)).1 [])
  else if c.toNat=46 then .node 1 2 qt1 []
  else if c∈qds then .sign 1 c.toNat
  else if c.toNat=60/\(c::r).take 2=[60,45] then .sign 2 60
  else if ql2 c=true then .node (1+qfK r) 4 zS ((c::r).take (1+qfK r)) else .bad
def qdH (s:List UInt8) (i:Nat):Option qav:=
 if qan s i=s.length then some ⟨(qan s i:Nat),(qan s i:Nat),false,zE,0⟩ else match qen (s.drop (qan s i))with
  | .bad=>none
  | .node n k st tx=>some ⟨(qan s i:Nat),(qan s i+n:Nat),true,⟨k,st,tx,none,0,0⟩,0⟩
  | .sign n c=>some ⟨(qan s i:Nat),(qan s i+n:Nat),false,zE,(c:Nat)⟩
theorem qpJ {M M51:Mem} {L:Nat->Prop} {b:Nat} {y:qaq} (h:qjd b M M51 y) (hw:Wr L M b) (j n:Nat) (hj:j+n<=10000) (K:PK) (hK:∀M',qjd b M M' ⟨y.text,y.heads,⟨y.Now.At,(j+n:Nat),y.Now.Node,y.Now.Expr,y.Now.Sign⟩⟩->K (.tuple #[]) M'):qam (some ⟨b,0,none⟩) M L j n M51 K:=by
 refine⟨by unfold InI;omega,b,0,rfl,h.me.has _ _ (by omega),hw,λM5 hM5 M' hle=>hK M' ?_⟩
 have h5:qjd b M51 M5 ⟨y.text,y.heads,⟨y.Now.At,(j+n:Nat),y.Now.Node,y.Now.Expr,y.Now.Sign⟩⟩:=by rw[hM5];exact h.me.put _ _ _ rfl
 exact(h.then h5).le' hle
end Go.Proofs.YtleaplmdgckmkaaGreatDoor.core
namespace Go.Proofs.YtleaplmdgckmkaaGreatDoor.core
open Go.Gx Go.RowKit Go.ChangeShapes Go.WideShapes Go.ChangeAt
set_option linter.unusedVariables false
theorem qj0 (q:UInt8):∀(n:Nat) (r:List UInt8),r.length<n->∀(i:Int) (out:List UInt8),0<=i->0<=(qj1 q r i out).2.1/\(qj1 q r i out).2.1<=i+r.length
 |0,_,h,_,_,_=>absurd h (Nat.not_lt_zero _)
 |n+1,r,h,i,out,hi=>by
  unfold qj1
  split
  ·dsimp only;omega
  ·rename_i c t
   split
   ·simp;omega
   ·split
    ·simp;omega
    ·rename_i hk
     obtain⟨_,_,h0,hl,_⟩:=qf0 [39,34,92] (c::t)
     have hd:((c::t).drop ((qaX [39,34,92] (c::t)).2.toNat-1+1)).length=(c::t).length-((qaX [39,34,92] (c::t)).2.toNat-1+1):=List.length_drop ..
     generalize qaX [39,34,92] (c::t)=z at*
     have ih:=qj0 q n ((c::t).drop (z.2.toNat-1+1)) (by rw[hd];simp only[List.length_cons]at h ⊢;omega) (i+z.2) (out++[z.1.toNat.toUInt8]) (by omega)
     rw[hd]at ih
     omega
theorem qjv (s:List UInt8):(qcA s).2.1<=s.length:=by
 unfold qcA
 split
 ·simp
 ·split
  ·simp;omega
  ·rename_i q r _
   have:=(qj0 q _ r (Nat.lt_succ_self _) 1 [] (by omega)).2
   simp only[List.length_cons];omega
theorem qp1 (s p:List UInt8) {M:Mem} (K:Value->Prop) (hK:K (.bool (decide (s.take p.length=p)))):qbw s p M K:=by
 refine qbO _ _ _ _ ⟨λh=>⟨by omega,by omega,by omega,⟨_,rfl,?_⟩⟩,λh=>⟨_,rfl,?_⟩⟩
 ·have e:(s.take ((p.length:Nat):Int).toNat).drop (0:Int).toNat=s.take p.length:=by simp
  rw[e]
  by_cases q:s.take p.length=p
  ·rw[decide_eq_true q]at hK;rw[qaY.2 q];exact hK
  ·rw[decide_eq_false q]at hK
   rw[show((mkS (s.take p.length)).toList==(mkS p).toList)=false from Bool.eq_false_iff.2 λg=>q (qaY.1 g)];exact hK
 ·have q:¬s.take p.length=p:=λg=>by
   have:=congrArg List.length g
   rw[List.length_take]at this;omega
  rw[decide_eq_false q]at hK;exact hK
theorem qn1 (s:List UInt8):0<=(qcA s).2.1:=by
 unfold qcA
 split
 ·simp
 ·split
  ·simp
  ·rename_i q r _
   exact(qj0 q _ r (Nat.lt_succ_self _) 1 [] (by omega)).1
theorem qhu {s:List UInt8}:∀(n i:Nat) (acc a:List (Int×Int)) (e:Nat),s.length-i<n->qbb s i acc=some (a,e)->i<e/\e<=s.length
 |0,_,_,_,_,h,_=>absurd h (Nat.not_lt_zero _)
 |n+1,i,acc,a,e,h,he=>by
  rw[qbb]at he
  split at he
  ·rename_i hi
   split at he
   ·cases he;omega
   ·split at he
    ·cases he
    ·have:=qhu n _ _ a e (by omega) he
     omega
  ·cases he
theorem qkO (s:List UInt8):0<=(qeG s).2.1/\(qeG s).2.1<=s.length:=by
 have key:∀(b:Bool) (i:Nat),0<=(qh8 b (qbb s i [])).2.1/\(qh8 b (qbb s i [])).2.1<=s.length:=λb i=>by
  cases h:qbb s i []with
  |none=>simp[qh8]
  |some p=>
   obtain⟨a,e⟩:=p
   have:=qhu _ i [] a e (Nat.lt_succ_self _) h
   simp only[qh8];omega
 unfold qeG
 split
 ·split
  ·exact key _ _
  ·exact key _ _
 ·simp
end Go.Proofs.YtleaplmdgckmkaaGreatDoor.core
namespace Go.Proofs.YtleaplmdgckmkaaGreatDoor.core
open Go.Gx Go.RowKit Go.ChangeShapes Go.WideShapes Go.ChangeAt
set_option linter.unusedVariables false
theorem qpI {s:List UInt8} (hs:s.length<=2000) {M:Mem} {L:Nat->Prop} {b:Nat} {hb:Bool} {t0:qav} (h:RdM M b ⟨s,hb,t0⟩) (hw:Wr L M b) {i:Nat} (hi:i<=s.length) (K:PK)
  (hK:∀tk,qdH s i=some tk->∀M',qjd b M M' ⟨s,hb,tk⟩->K (.tuple #[]) M') (hP:qdH s i=none->K.p (qfp (qan s i:Nat))):qc7 (some ⟨b,0,none⟩) i M L K:=by
 obtain⟨g1,g2⟩:=qfO hi
 refine qcZ _ _ _ _ _ (qmb hs (h.at 0 _ rfl) hi _ λM4 h4=>⟨_,rfl,b,0,rfl,(h.le h4).has _ _ (by omega),hw,λM7 hM7=>?_⟩)
 have h7:qjd b M4 M7 ⟨s,hb,⟨(qan s i:Nat),(qan s i:Nat),false,zE,0⟩⟩:=by rw[hM7];exact(h.le h4).put _ _ _ rfl
 have h7':qjd b M M7 ⟨s,hb,⟨(qan s i:Nat),(qan s i:Nat),false,zE,0⟩⟩:=⟨λk o hk hm=>h7.le k o hk (h4 _ _ hm),h7.me⟩
 clear hM7
 refine⟨b,0,rfl,s,h7.me.at 0 _ rfl,λhe M' hle=>hK _ (by unfold qdH;rw[if_pos (by omega)]) M' (h7'.le' hle),λhe=>?_⟩
 have hjl:¬qan s i=s.length:=λe=>he (by rw[e])
 have e0:(s.take ((s.length:Nat):Int).toNat).drop ((qan s i:Nat):Int).toNat=s.drop (qan s i):=by rw[Int.toNat_natCast,Int.toNat_natCast,List.take_length]
 obtain⟨c,hc⟩:∃c,s[qan s i]?=some c:=⟨s[qan s i]'(by omega),List.getElem?_eq_getElem _⟩
 have hd:=qe7 hc
 have hdl:(s.drop (qan s i)).length=s.length-qan s i:=List.length_drop ..
 have tk:∀l,qen (s.drop (qan s i))=l->qdH s i=(match l with
  | .bad=>none
  | .node n k st tx=>some ⟨(qan s i:Nat),(qan s i+n:Nat),true,⟨k,st,tx,none,0,0⟩,0⟩
  | .sign n q=>some ⟨(qan s i:Nat),(qan s i+n:Nat),false,zE,(q:Nat)⟩):=λl hl=>by
  unfold qdH
  (rw[if_neg hjl,hl])<;>cases l<;>rfl
 have thr:qen (s.drop (qan s i))= .bad->∀K',qal Tryz.prog 215 #[.int .i64 (qan s i:Nat)] M7 (Wr L M) K' (qba K):=λhl K'=>qnI _ _ _ _ _ (hP (tk _ hl))
 have nodeK:∀(n:Nat) k st tx,qen (s.drop (qan s i))= .node n k st tx->qan s i+n<=10000->∀M'',qjd b M M'' ⟨s,hb,⟨(qan s i:Nat),(qan s i:Nat),true,⟨k,st,tx,none,0,0⟩,0⟩⟩->qam (some ⟨b,0,none⟩) M L (qan s i:Nat) (n:Nat) M'' K:=λn k st tx hl hn M'' hto=>qpJ hto hw _ _ hn _ λM' h'=>hK _ (tk _ hl) M' h'
 have qgU:∀(n q:Nat),qen (s.drop (qan s i))= .sign n q->qan s i+n<=10000->∀M'',qjd b M M'' ⟨s,hb,⟨(qan s i:Nat),(qan s i:Nat),false,zE,(q:Nat)⟩⟩->qam (some ⟨b,0,none⟩) M L (qan s i:Nat) (n:Nat) M'' K:=λn q hl hn M'' hto=>qpJ hto hw _ _ hn _ λM' h'=>hK _ (tk _ hl) M' h'
 have wr7:∀M'' y,qjd b M M'' y->Wr (Wr L M) M'' b:=λ_ _ _=>.inl hw
 refine⟨b,0,rfl,s,h7.me.at 0 _ rfl,by omega,by omega,by omega,c,by omega,by rw[e0,hd];rfl,?_⟩
 have j1:∀v:Bool,(v=true↔c.toNat=39\/c.toNat=34)->qaR (some ⟨b,0,none⟩) M L (qan s i:Nat) M7 s c v K:=λv hv=>by
  unfold qaR
  rw[e0]
  refine⟨λht=>?_,λht=>?_⟩
  ·have hq:=hv.1 ht
   have ul:=qjv (s.drop (qan s i))
   have up:=qn1 (s.drop (qan s i))
   refine qgZ _ _ _ (qle _ (by omega) _ _ ⟨_,_,_,rfl,λhbad=>?_,λhok=>?_⟩)
   ·exact thr (by rw[hd,qen,if_pos hq,if_pos (by rw[<-hd];exact hbad)]) _
   ·have hok:(qcA (s.drop (qan s i))).2.2=0:=Classical.not_not.1 hok
    obtain⟨n,hn⟩:=Int.eq_ofNat_of_zero_le up
    have hl0:qen (s.drop (qan s i))=if (qcA (s.drop (qan s i))).1=[] then .node n 1 zS [] else .node n 3 zS (qcA (s.drop (qan s i))).1:=by
     conv=>lhs;rw[hd]
     rw[qen,if_pos hq,<-hd,if_neg (λg=>g hok),hn];rfl
    refine qbD _ _ _ _ _ (qfJ h7.me (wr7 _ _ h7') _ _ λM8 h8=>⟨rfl,λh0=>?_,λh0=>?_⟩)
    ·refine qbD _ _ _ _ _ (qfJ h8.me (wr7 _ _ (h7'.then h8)) _ _ λM9 h9=>⟨rfl,?_⟩)
     rw[if_pos h0]at hl0
     rw[hn]
     exact nodeK n 1 zS [] hl0 (by omega) M9 ((h7'.then h8).then h9)
    ·rw[if_neg h0]at hl0
     rw[hn]
     exact nodeK n 3 zS _ hl0 (by omega) M8 (h7'.then h8)
  ·have hq:¬(c.toNat=39\/c.toNat=34):=λg=>ht (hv.2 g)
   have hlx:qen (s.drop (qan s i))=(if c.toNat=91 then(if (qeG (s.drop (qan s i))).2.2≠0 then .bad else .node (qeG (s.drop (qan s i))).2.1.toNat 2 (qeG (s.drop (qan s i))).1 []) else if c.toNat=46 then .node 1 2 qt1 [] else if c∈qds then .sign 1 c.toNat else if c.toNat=60/\(s.drop (qan s i)).take 2=[60,45] then .sign 2 60 else if ql2 c=true then .node (1+qfK (s.drop (qan s i+1))) 4 zS ((s.drop (qan s i)).take (1+qfK (s.drop (qan s i+1)))) else .bad):=by
    conv=>lhs;rw[hd]
    rw[qen,if_neg hq,<-hd]
   refine⟨λh91=>?_,λh91=>⟨λh46=>?_,λh46=>?_⟩⟩
   ·have h91:c.toNat=91:=by omega
    rw[if_pos h91]at hlx
    obtain⟨up,ul⟩:=qkO (s.drop (qan s i))
    obtain⟨n,hn⟩:=Int.eq_ofNat_of_zero_le up
    refine qiL _ _ _ (qq3 (by omega) _ ⟨_,_,_,rfl,λhbad=>thr (by rw[hlx,if_pos hbad]) _,λhok=>?_⟩)
    rw[if_neg hok]at hlx
    refine qbD _ _ _ _ _ (qfJ h7.me (wr7 _ _ h7') _ _ λM8 h8=>⟨rfl,?_⟩)
    rw[hn]at hlx ⊢
    exact nodeK n 2 _ [] hlx (by omega) M8 (h7'.then h8)
   ·have h46:c.toNat=46:=by omega
    rw[if_neg (by omega),if_pos h46]at hlx
    refine qe0 _ _ _ _ (qim _ _ _ ⟨_,rfl,?_⟩)
    rw[show Us (inR 0 255)=qt1 from qdL λb hb=>by unfold inR;simp;omega]
    refine qbD _ _ _ _ _ (qfJ h7.me (wr7 _ _ h7') _ _ λM8 h8=>⟨rfl,?_⟩)
    exact nodeK 1 2 _ [] hlx (by omega) M8 (h7'.then h8)
   ·rw[if_neg (by omega),if_neg (by omega)]at hlx
    refine qbu _ _ _ _ (qdu _ c _ _ ⟨_,rfl,?_⟩)
    have hmem:=qg9 qds c
    refine⟨λhge=>?_,λhlt=>?_⟩
    ·have hin:c∈qds:=of_decide_eq_true (hmem▸decide_eq_true hge)
     rw[if_pos hin]at hlx
     refine⟨b,0,rfl,h7.me.has _ _ (by omega),hw,λM8 hM8=>?_⟩
     have h8:qjd b M7 M8 ⟨s,hb,⟨(qan s i:Nat),(qan s i:Nat),false,zE,(c.toNat:Nat)⟩⟩:=by rw[hM8];exact h7.me.put _ _ _ rfl
     exact qgU 1 _ hlx (by omega) M8 (h7'.then h8)
    ·have hin:c∉qds:=λhin=>hlt (of_decide_eq_true (hmem.trans (decide_eq_true hin)))
     rw[if_neg hin]at hlx
     have j4f:¬(c.toNat=60/\(s.drop (qan s i)).take 2=[60,45])->qaQ (some ⟨b,0,none⟩) M L (qan s i:Nat) M7 s c false K:=λhna=>by
      rw[if_neg hna]at hlx
      unfold qaQ
      rw[e0]
      refine⟨λe=>by simp at e,λ_=>?_⟩
      have fin_:∀k:Nat,k<=(s.drop (qan s i+1)).length->k=qfK (s.drop (qan s i+1))->∀(I:Int->Prop) (mu:Int->Nat),qbd (some ⟨b,0,none⟩) M L (qan s i:Nat) M7 s c ((1+k:Nat):Int) I mu false K:=λk hkl hk I mu=>by
       rw[List.length_drop]at hkl
       refine⟨λe=>by simp at e,λ_=>qgX _ _ _ (qjJ c _ _ ⟨_,rfl,?_⟩)⟩
       have bad_:ql2 c=false->qaE (some ⟨b,0,none⟩) M L (qan s i:Nat) M7 s ((1+k:Nat):Int) true K:=λhl=>⟨λ_=>thr (by rw[hlx,if_neg (by rw[hl];simp)]) _,λe=>absurd rfl e⟩
       have good_:ql2 c=true->qaE (some ⟨b,0,none⟩) M L (qan s i:Nat) M7 s ((1+k:Nat):Int) false K:=λhl=>by
        refine⟨λe=>by simp at e,λ_=>?_⟩
        unfold qbc
        rw[e0]
        refine⟨by omega,by omega,by rw[hdl];omega,qbD _ _ _ _ _ (qfJ h7.me (wr7 _ _ h7') _ _ λM8 h8=>⟨rfl,?_⟩)⟩
        rw[if_pos hl,<-hk]at hlx
        exact nodeK (1+k) 4 _ _ hlx (by omega) M8 (h7'.then h8)
       refine⟨λhn=>bad_ ?_,λhn=>⟨λh48=>?_,λh48=>?_⟩⟩
       ·have:nmB c=false:=by simpa using hn
        unfold nmB at this
        rw[Bool.or_eq_false_iff]at this;exact this.1
       ·by_cases h57:(c.toNat:Int)<=57
        ·rw[decide_eq_true h57]
         refine bad_ ?_
         unfold ql2;simp;omega
        ·rw[decide_eq_false h57]
         have:nmB c=true:=by simpa using hn
         refine good_ ?_
         unfold nmB qqf at this;simp at this
         rcases this with h|h
         ·exact h
         ·omega
       ·have:nmB c=true:=by simpa using hn
        refine good_ ?_
        unfold nmB qqf at this;simp at this
        rcases this with h|h
        ·exact h
        ·omega
      refine⟨λx=>∃k:Nat,x=((1+k:Nat):Int)/\k<=(s.drop (qan s i+1)).length/\qfK (s.drop (qan s i+1))=k+qfK ((s.drop (qan s i+1)).drop k),λx=>5000-x.toNat,⟨0,rfl,by omega,by simp⟩,λx ⟨k,hx,hk,hn⟩=>?_⟩
      subst hx
      have hrl:(s.drop (qan s i+1)).length=s.length-(qan s i+1):=List.length_drop ..
      refine⟨λhlt=>?_,λhge=>?_⟩
      ·rw[hdl]at hlt
       obtain⟨d,hdd⟩:∃d,(s.drop (qan s i+1))[k]?=some d:=⟨(s.drop (qan s i+1))[k]'(by omega),List.getElem?_eq_getElem _⟩
       refine⟨d,by omega,?_,qgX _ _ _ (qjJ d _ _ ⟨_,rfl,?_⟩)⟩
       ·rw[Int.toNat_natCast,hd,Nat.add_comm 1 k,List.getElem?_cons_succ];exact hdd
       ·cases hnd:nmB d with
        |true=>
         refine⟨λ_=>⟨by unfold InI;omega,⟨k+1,by omega,by omega,?_⟩,by dsimp only;omega⟩,λe=>absurd rfl e⟩
         rw[hn,qe7 hdd,qfK,if_pos hnd];omega
        |false=>
         refine fin_ k hk ?_ _ _
         rw[hn,qe7 hdd,qfK,if_neg (by rw[hnd];simp)];rfl
      ·rw[hdl]at hge
       refine fin_ k hk ?_ _ _
       rw[hn,List.drop_of_length_le (by omega),qfK];rfl
     refine⟨λh60=>?_,λh60=>j4f (λg=>h60 (by omega))⟩
     have h60:c.toNat=60:=by omega
     refine qcK _ _ _ _ (qp1 _ _ _ ⟨_,rfl,?_⟩)
     by_cases ht2:(s.drop (qan s i)).take 2=[60,45]
     ·rw[show decide ((s.drop (qan s i)).take ([60,45]:List UInt8).length=[60,45])=true from decide_eq_true ht2]
      rw[if_pos ⟨h60,ht2⟩]at hlx
      refine⟨λ_=>⟨b,0,rfl,h7.me.has _ _ (by omega),hw,λM8 hM8=>?_⟩,λe=>absurd rfl e⟩
      have h8:qjd b M7 M8 ⟨s,hb,⟨(qan s i:Nat),(qan s i:Nat),false,zE,(60:Nat)⟩⟩:=by rw[hM8];exact h7.me.put _ _ _ rfl
      exact qgU 2 60 hlx (by omega) M8 (h7'.then h8)
     ·rw[show decide ((s.drop (qan s i)).take ([60,45]:List UInt8).length=[60,45])=false from decide_eq_false ht2]
      exact j4f (λg=>ht2 g.2)
 refine⟨λh39=>j1 true ⟨λ_=>by omega,λ_=>rfl⟩,λh39=>j1 _ ⟨λe=>by simp at e;omega,λe=>by simp;omega⟩⟩
end Go.Proofs.YtleaplmdgckmkaaGreatDoor.core
namespace Go.Proofs.YtleaplmdgckmkaaGreatDoor.core
open Go.Gx Go.RowKit Go.ChangeShapes Go.WideShapes Go.ChangeAt
set_option linter.unusedVariables false
theorem qsR {s:List UInt8} (hs:s.length<=2000) {M:Mem} {L:Nat->Prop} {b:Nat} {hb:Bool} {t0:qav} (h:RdM M b ⟨s,hb,t0⟩) (hw:Wr L M b) {e:Nat} (ht:t0.To=(e:Nat)) (he:e<=s.length) (K:PK)
  (hK:∀tk,qdH s e=some tk->∀M',qjd b M M' ⟨s,hb,tk⟩->K (.tuple #[]) M') (hP:qdH s e=none->K.p (qfp (qan s e:Nat))):qb7 (some ⟨b,0,none⟩) M L K:=by
 refine⟨b,0,rfl,(e:Nat),h.at 3 _ (by rw[<-ht];rfl),qeg _ _ _ _ ⟨λv M5=>v= .tuple #[]/\∀M',M5.le M'->K (.tuple #[]) M',K.p⟩ (qpI hs h (.inl hw) he _ (λtk htk M' hto=>⟨rfl,λM'' hle=>hK tk htk M'' (hto.le' hle)⟩) hP)⟩
theorem qsy {M:Mem} {L:Nat->Prop} {b:Nat} {x:qaq} (h:RdM M b x) (K:Value->Mem->Prop) (hK:∀M',M.le M'->K (.bool (!x.Now.Node&&x.Now.Sign==0)) M'):qc8 (some ⟨b,0,none⟩) M L K:=by
 refine⟨b,0,rfl,x.Now.Node,h.at 4 _ rfl,λhn=>⟨b,0,rfl,x.Now.Sign,h.at 12 _ rfl,λM' hle=>?_⟩,λhn M' hle=>?_⟩
 ·have:=hK M' hle
  rw[show x.Now.Node=false by simpa using hn]at this
  exact this
 ·have:=hK M' hle
  rw[show x.Now.Node=true by simpa using hn]at this
  exact this
end Go.Proofs.YtleaplmdgckmkaaGreatDoor.core
namespace Go.Proofs.YtleaplmdgckmkaaGreatDoor.core
open Go.Gx Go.RowKit Go.ChangeShapes Go.WideShapes Go.ChangeAt
set_option linter.unusedVariables false
structure qag where
 kind:Int
 f_at:Int
 expr:qaa
 name:List UInt8
def qag.cells (x:qag):List Value:=[(.int .u8 x.kind),(.int .i64 x.f_at)]++x.expr.cells++[(.string (mkS x.name))]
def tkR (k:Int) (j:Nat) (e:qaa) (nm:List UInt8):qag:=⟨k,(j:Nat),e,nm⟩
def ql4 (s:List UInt8) (j:Nat):Bool:=decide ((s.drop j).take 2=[60,45])
def qcs (s:List UInt8) (hb:Bool):Nat->Nat->List qag
 |0,_=>[]
 |f+1,i=>if qan s i=s.length then[tkR 101 (qan s i) zE []] else match qen (s.drop (qan s i))with
  | .bad=>[tkR 33 (qan s i) zE []]
  | .node n k st tx=>if k=4/\hb=true/\ql4 s (qan s (qan s i+n))=true then tkR 104 (qan s i) ⟨k,st,tx,none,0,0⟩ tx::qcs s hb f (qan s (qan s i+n)+2)
   else tkR 110 (qan s i) ⟨k,st,tx,none,0,0⟩ (if k=4 then tx else[])::qcs s hb f (qan s i+n)
  | .sign n c=>tkR (if c=33 then 126 else(c:Int)) (qan s i) zE []::qcs s hb f (qan s i+n)
theorem qks {t:List UInt8}:(∀n k st tx,qen t= .node n k st tx->n<=t.length)/\(∀n c,qen t= .sign n c->n<=t.length):=by
 have ul:=qjv t
 have up:=qkO t
 refine⟨λn k st tx h=>?_,λn c h=>?_⟩
 ·unfold qen at h
  split at h
  ·cases h
  ·rename_i c r
   have hn:=qln r
   repeat' split at h
   all_goals first
    |(cases h;done)
    |(cases h;simp only[List.length_cons]at ul up ⊢;omega)
 ·unfold qen at h
  split at h
  ·cases h
  ·rename_i c r
   repeat' split at h
   all_goals first
    |(cases h;done)
    |(rename_i hc;cases h;have:=congrArg List.length hc.2;rw[List.length_take]at this;simp only[List.length_cons,List.length_nil]at this ⊢;omega)
    |(cases h;simp only[List.length_cons]at ul up ⊢;omega)
end Go.Proofs.YtleaplmdgckmkaaGreatDoor.core
namespace Go.Proofs.YtleaplmdgckmkaaGreatDoor.core
open Go.Gx Go.RowKit Go.ChangeShapes Go.WideShapes Go.ChangeAt
set_option linter.unusedVariables false
theorem qmP (q:UInt8):∀(n:Nat) (r:List UInt8),r.length<n->∀(i:Int) (out:List UInt8),(qj1 q r i out).2.2=0->i<(qj1 q r i out).2.1
 |0,_,h,_,_=>absurd h (Nat.not_lt_zero _)
 |n+1,r,h,i,out=>by
  unfold qj1
  split
  ·intro e;cases e
  ·rename_i c t
   split
   ·intro _;simp;omega
   ·split
    ·intro e;cases e
    ·rename_i hk
     obtain⟨_,_,h0,hl,_⟩:=qf0 [39,34,92] (c::t)
     have hd:((c::t).drop ((qaX [39,34,92] (c::t)).2.toNat-1+1)).length=(c::t).length-((qaX [39,34,92] (c::t)).2.toNat-1+1):=List.length_drop ..
     generalize qaX [39,34,92] (c::t)=z at*
     intro e
     have ih:=qmP q n ((c::t).drop (z.2.toNat-1+1)) (by rw[hd];simp only[List.length_cons]at h ⊢;omega) (i+z.2) (out++[z.1.toNat.toUInt8]) e
     omega
theorem qn3 {s:List UInt8} (h:(qcA s).2.2=0):1<(qcA s).2.1:=by
 unfold qcA at h ⊢
 split at h
 ·cases h
 ·split at h
  ·cases h
  ·rename_i q r hq
   rw[if_neg hq]
   exact qmP q _ r (Nat.lt_succ_self _) 1 [] h
theorem qo0 {s:List UInt8} (h:(qeG s).2.2=0):1<(qeG s).2.1:=by
 have key:∀(b:Bool) (i:Nat),1<=i->(qh8 b (qbb s i [])).2.2=0->1<(qh8 b (qbb s i [])).2.1:=λb i hi=>by
  cases hp:qbb s i []with
  |none=>intro e;cases e
  |some p=>
   obtain⟨a,e⟩:=p
   have:=qhu _ i [] a e (Nat.lt_succ_self _) hp
   intro _
   simp only[qh8];omega
 unfold qeG at h ⊢
 split at h
 ·rename_i h0
  rw[if_pos h0]
  split at h
  ·rename_i h1;rw[if_pos h1];exact key _ _ (by omega) h
  ·rename_i h1;rw[if_neg h1];exact key _ _ (by omega) h
 ·cases h
theorem qkr {t:List UInt8}:(∀n k st tx,qen t= .node n k st tx->1<=n)/\(∀n c,qen t= .sign n c->1<=n):=by
 have ul:= @qn3 t
 have up:= @qo0 t
 refine⟨λn k st tx h=>?_,λn c h=>?_⟩
 ·unfold qen at h
  split at h
  ·cases h
  ·repeat' split at h
   all_goals first
    |(cases h;done)
    |(rename_i hz _;cases h;have:=ul (Classical.not_not.1 hz);omega)
    |(rename_i hz;cases h;have:=up (Classical.not_not.1 hz);omega)
    |(cases h;omega)
 ·unfold qen at h
  split at h
  ·cases h
  ·repeat' split at h
   all_goals first
    |(cases h;done)
    |(cases h;omega)
end Go.Proofs.YtleaplmdgckmkaaGreatDoor.core
namespace Go.Proofs.YtleaplmdgckmkaaGreatDoor.core
open Go.Gx Go.RowKit Go.ChangeShapes Go.WideShapes Go.ChangeAt
set_option linter.unusedVariables false
theorem qnJ {s:List UInt8} {j:Nat} (h:ql4 s j=true):j+2<=s.length:=by
 have:=congrArg List.length (of_decide_eq_true h)
 rw[List.length_take,List.length_drop]at this
 simp only[List.length_cons,List.length_nil]at this
 omega
end Go.Proofs.YtleaplmdgckmkaaGreatDoor.core
namespace Go.Proofs.YtleaplmdgckmkaaGreatDoor.core
open Go.Gx Go.RowKit Go.ChangeShapes Go.WideShapes Go.ChangeAt
set_option linter.unusedVariables false
inductive Tg where|alt|seq|pre|post|pri
def qsV (x:qaa):Ex:=.mk x.Kind x.Set x.Text []
def one (k:Int) (es:List Ex):Ex:=.mk k ⟨0,0,0,0⟩ [] es
def qoR (k:Int):List Ex->Ex
 |[e]=>e
 |es=>one k es
def beg (k:Int):Prop:=k=110\/k=40\/k=38\/k=126
instance (k:Int):Decidable (beg k):=by unfold beg;exact inferInstance
inductive Ps (kd:Nat->Int) (ex:Nat->Ex):Tg->List Ex->Nat->Option Ex->Nat->Prop where
 |altNo {acc:List Ex} {k n:Nat}:Ps kd ex .seq [] k none n->Ps kd ex .alt acc k none n
 |altOn {acc:List Ex} {k n m:Nat} {e:Ex} {r:Option Ex}:Ps kd ex .seq [] k (some e) n->kd n=47->Ps kd ex .alt (acc++[e]) (n+1) r m->Ps kd ex .alt acc k r m
 |altEnd {acc:List Ex} {k n:Nat} {e:Ex}:Ps kd ex .seq [] k (some e) n->kd n≠47->Ps kd ex .alt acc k (some (qoR 6 (acc++[e]))) n
 |seqNo {acc:List Ex} {k n:Nat}:Ps kd ex .pre [] k none n->Ps kd ex .seq acc k none n
 |seqOn {acc:List Ex} {k n m:Nat} {e:Ex} {r:Option Ex}:Ps kd ex .pre [] k (some e) n->beg (kd n)->Ps kd ex .seq (acc++[e]) n r m->Ps kd ex .seq acc k r m
 |seqEnd {acc:List Ex} {k n:Nat} {e:Ex}:Ps kd ex .pre [] k (some e) n->¬beg (kd n)->Ps kd ex .seq acc k (some (qoR 5 (acc++[e]))) n
 |preSign {k n:Nat} {r:Option Ex} (c:Int):kd k=38/\c=10\/kd k=126/\c=11->Ps kd ex .pre [] (k+1) r n->Ps kd ex .pre [] k (r.map λe=>one c [e]) n
 |preNo {k n:Nat}:kd k≠38->kd k≠126->Ps kd ex .pri [] k none n->Ps kd ex .pre [] k none n
 |prePost {k n m:Nat} {e:Ex} {r:Option Ex}:kd k≠38->kd k≠126->Ps kd ex .pri [] k (some e) n->Ps kd ex .post [e] n r m->Ps kd ex .pre [] k r m
 |postOn {k n:Nat} {e:Ex} {r:Option Ex} (c:Int):kd k=42/\c=7\/kd k=43/\c=8\/kd k=63/\c=9->Ps kd ex .post [one c [e]] (k+1) r n->Ps kd ex .post [e] k r n
 |postEnd {k:Nat} {e:Ex}:kd k≠42->kd k≠43->kd k≠63->Ps kd ex .post [e] k (some e) k
 |priNode {k:Nat}:kd k=110->Ps kd ex .pri [] k (some (ex k)) (k+1)
 |priEmpty {k:Nat}:kd k=40->kd (k+1)=41->Ps kd ex .pri [] k (some (one 1 [])) (k+2)
 |priNo {k n:Nat}:kd k=40->kd (k+1)≠41->Ps kd ex .alt [] (k+1) none n->Ps kd ex .pri [] k none n
 |priClose {k n:Nat} {e:Ex}:kd k=40->kd (k+1)≠41->Ps kd ex .alt [] (k+1) (some e) n->kd n=41->Ps kd ex .pri [] k (some e) (n+1)
 |priOpen {k n:Nat} {e:Ex}:kd k=40->kd (k+1)≠41->Ps kd ex .alt [] (k+1) (some e) n->kd n≠41->Ps kd ex .pri [] k none n
 |priBad {k:Nat}:kd k≠110->kd k≠40->Ps kd ex .pri [] k none k
def qpW:Tg->Bool| .post=>true|_=>false
def qnU (kd:Nat->Int) (len:Nat):Prop:=∀k,k<len->kd k≠101->kd k≠33->k+1<len
theorem Ps.bound {kd:Nat->Int} {ex:Nat->Ex} {len:Nat} (hE:qnU kd len) {t:Tg} {acc:List Ex} {k n:Nat} {r:Option Ex} (h:Ps kd ex t acc k r n):k<len->k<=n/\n<len/\(r.isSome=true->qpW t=false->k<n):=by
 induction h with
 |altNo _ ih=>intro hk;have:=ih hk;exact⟨this.1,this.2.1,λe=>by cases e⟩
 |altOn _ h47 _ ih1 ih2=>intro hk;have h1:=ih1 hk;have h2:=ih2 (hE _ h1.2.1 (by omega) (by omega));exact⟨by omega,h2.2.1,λ_ _=>by omega⟩
 |altEnd _ _ ih=>intro hk;have:=ih hk;exact⟨this.1,this.2.1,λ_ _=>this.2.2 rfl rfl⟩
 |seqNo _ ih=>intro hk;have:=ih hk;exact⟨this.1,this.2.1,λe=>by cases e⟩
 |seqOn _ _ _ ih1 ih2=>intro hk;have h1:=ih1 hk;have h2:=ih2 h1.2.1;have:=h1.2.2 rfl rfl;exact⟨by omega,h2.2.1,λ_ _=>by omega⟩
 |seqEnd _ _ ih=>intro hk;have:=ih hk;exact⟨this.1,this.2.1,λ_ _=>this.2.2 rfl rfl⟩
 |preSign c hc _ ih=>intro hk;have:=ih (hE _ hk (by omega) (by omega));exact⟨by omega,this.2.1,λ_ _=>by omega⟩
 |preNo _ _ _ ih=>intro hk;have:=ih hk;exact⟨this.1,this.2.1,λe=>by cases e⟩
 |prePost _ _ _ _ ih1 ih2=>intro hk;have h1:=ih1 hk;have h2:=ih2 h1.2.1;have:=h1.2.2 rfl rfl;exact⟨by omega,h2.2.1,λ_ _=>by omega⟩
 |postOn c hc _ ih=>intro hk;have:=ih (hE _ hk (by omega) (by omega));exact⟨by omega,this.2.1,λ_ e=>by cases e⟩
 |postEnd=>intro hk;exact⟨Nat.le_refl _,hk,λ_ e=>by cases e⟩
 |priNode h=>intro hk;have:=hE _ hk (by omega) (by omega);exact⟨by omega,by omega,λ_ _=>by omega⟩
 |priEmpty h h1=>intro hk;have:=hE _ hk (by omega) (by omega);have:=hE _ this (by omega) (by omega);exact⟨by omega,by omega,λ_ _=>by omega⟩
 |priNo h _ _ ih=>intro hk;have:=hE _ hk (by omega) (by omega);have:=ih this;exact⟨by omega,this.2.1,λe=>by cases e⟩
 |priClose h _ _ h41 ih=>intro hk;have:=hE _ hk (by omega) (by omega);have:=ih this;have:=hE _ this.2.1 (by omega) (by omega);exact⟨by omega,by omega,λ_ _=>by omega⟩
 |priOpen h _ _ _ ih=>intro hk;have:=hE _ hk (by omega) (by omega);have:=ih this;exact⟨by omega,this.2.1,λe=>by cases e⟩
 |priBad=>intro hk;exact⟨Nat.le_refl _,hk,λe=>by cases e⟩
theorem Ps.seqI {kd:Nat->Int} {ex:Nat->Ex} {acc:List Ex} {k n:Nat} {r:Option Ex} (h:Ps kd ex .seq acc k r n):∃r' n',Ps kd ex .pre [] k r' n'/\(r'=none->r=none/\n=n')/\
  ∀e,r'=some e->(beg (kd n')->Ps kd ex .seq (acc++[e]) n' r n)/\(¬beg (kd n')->n=n'/\r=some (qoR 5 (acc++[e]))):=by
 cases h with
 |seqNo h'=>exact⟨_,_,h',λ_=>⟨rfl,rfl⟩,λe he=>by cases he⟩
 |seqOn h' hb hr=>exact⟨_,_,h',(λe=>by cases e),λe he=>by cases he;exact⟨λ_=>hr,λg=>absurd hb g⟩⟩
 |seqEnd h' hb=>exact⟨_,_,h',(λe=>by cases e),λe he=>by cases he;exact⟨λg=>absurd g hb,λ_=>⟨rfl,rfl⟩⟩⟩
theorem Ps.altI {kd:Nat->Int} {ex:Nat->Ex} {acc:List Ex} {k n:Nat} {r:Option Ex} (h:Ps kd ex .alt acc k r n):∃r' n',Ps kd ex .seq [] k r' n'/\(r'=none->r=none/\n=n')/\
  ∀e,r'=some e->(kd n'=47->Ps kd ex .alt (acc++[e]) (n'+1) r n)/\(kd n'≠47->n=n'/\r=some (qoR 6 (acc++[e]))):=by
 cases h with
 |altNo h'=>exact⟨_,_,h',λ_=>⟨rfl,rfl⟩,λe he=>by cases he⟩
 |altOn h' hb hr=>exact⟨_,_,h',(λe=>by cases e),λe he=>by cases he;exact⟨λ_=>hr,λg=>absurd hb g⟩⟩
 |altEnd h' hb=>exact⟨_,_,h',(λe=>by cases e),λe he=>by cases he;exact⟨λg=>absurd g hb,λ_=>⟨rfl,rfl⟩⟩⟩
end Go.Proofs.YtleaplmdgckmkaaGreatDoor.core
namespace Go.Proofs.YtleaplmdgckmkaaGreatDoor.core
open Go.Gx Go.RowKit Go.ChangeShapes Go.WideShapes Go.ChangeAt
set_option linter.unusedVariables false
def kdT (T:List qag) (k:Nat):Int:=(T[k]?.map (·.kind)).getD 0
def exT (T:List qag) (k:Nat):Ex:=qsV ((T[k]?.map (·.expr)).getD zE)
structure qus (t:qag):Prop where
 ex:∀M,ExR M (qsV t.expr) t.expr
 byte:∃c:UInt8,t.kind=(c.toNat:Int)
 nm:t.name.length<=maxLen
theorem qjZ {k:Int} (h:0<=k/\k<=100):(Lit.int .i64 k).wf=true:=by
 simp[Lit.wf,IntKind.min,IntKind.max,IntKind.signed,IntKind.bits];omega
theorem qnY:wfS ⟨0,0,0,0⟩:=⟨rfl,rfl,rfl,rfl⟩
theorem ExR.one {M:Mem} {k:Int} (hk:0<=k/\k<=100) {es:List Ex} {xs:List qaa} {A:Option Addr} {c:Nat} (hl:SlV M A es.length c 7 (cl qaa.cells xs)) (h2:qcX (ExR M) es xs):ExR M (one k es) ⟨k,⟨0,0,0,0⟩,[],A,es.length,c⟩:=
 .mk (qjZ hk) qnY (by decide) hl h2.length λi e x he hx=>h2.get' he hx
theorem qhb (k:Int) {es:List Ex} (h:es.length≠1):qoR k es=one k es:=by
 unfold qoR
 split
 ·simp at h
 ·rfl
theorem qkF {M M':Mem} {es:List Ex} {xs:List qaa} (h:qcX (ExR M) es xs) (hl:M.le M'):qcX (ExR M') es xs:=h.mono λ_ _ q=>q.le hl
end Go.Proofs.YtleaplmdgckmkaaGreatDoor.core
namespace Go.Proofs.YtleaplmdgckmkaaGreatDoor.core
open Go.Gx Go.RowKit Go.ChangeShapes Go.WideShapes Go.ChangeAt
set_option linter.unusedVariables false
def atT (T:List qag) (k:Nat):Int:=(T[k]?.map (·.f_at)).getD 0
def nmT (T:List qag) (k:Nat):List UInt8:=(T[k]?.map (·.name)).getD []
def qaP (s:List UInt8) (hb:Bool) (T:List qag) (k i:Nat):Prop:=∃f,T.drop k=qcs s hb f i/\i<=s.length/\s.length<i+f
theorem qdl {s:List UInt8} {hb:Bool} {T:List qag} {k i f:Nat} {t:qag} (h:T.drop k=t::qcs s hb f i) (hi:i<=s.length) (hf:s.length<i+f):T[k]?=some t/\qaP s hb T (k+1) i:=by
 refine⟨?_,f,?_,hi,hf⟩
 ·have:(T.drop k)[0]?=some t:=by rw[h];rfl
  simpa using this
 ·rw[<-List.drop_drop,h];rfl
theorem qb3 {T:List qag} {k:Nat} {t:qag} (h:T[k]?=some t):kdT T k=t.kind/\exT T k=qsV t.expr/\atT T k=t.f_at/\nmT T k=t.name:=by
 unfold kdT exT atT nmT
 rw[h];exact⟨rfl,rfl,rfl,rfl⟩
def qgU:List Nat:=[40,41,47,38,33,63,42,43,60]
theorem qef {c:Nat} (h:c∈qgU):(if c=33 then 126 else(c:Int))≠33/\(if c=33 then 126 else(c:Int))≠101/\(if c=33 then 126 else(c:Int))≠104/\(if c=33 then 126 else(c:Int))≠110:=by
 unfold qgU at h
 simp only[List.mem_cons,List.not_mem_nil,or_false]at h
 rcases h with rfl|rfl|rfl|rfl|rfl|rfl|rfl|rfl|rfl<;>decide
theorem qkq {t:List UInt8} {n c:Nat} (h:qen t= .sign n c):c∈qgU:=by
 have key:∀d:UInt8,d∈qds->d.toNat∈qgU:=by decide
 unfold qen at h
 split at h
 ·cases h
 ·rename_i c r
  repeat' split at h
  all_goals first
   |(cases h;done)
   |(rename_i hc;cases h;exact key _ hc)
   |(cases h;decide)
inductive qtc (s:List UInt8) (hb:Bool) (T:List qag) (k i:Nat):Prop where
 |en:kdT T k=101->qdH s i=some ⟨(qan s i:Nat),(qan s i:Nat),false,zE,0⟩->qtc s hb T k i
 |bad:kdT T k=33->qdH s i=none->qtc s hb T k i
 |node (n:Nat) (kk:Int) (st:qab) (tx:List UInt8):kdT T k=110->qdH s i=some ⟨(qan s i:Nat),(qan s i+n:Nat),true,⟨kk,st,tx,none,0,0⟩,0⟩->exT T k=qsV ⟨kk,st,tx,none,0,0⟩->qan s i+n<=s.length->¬(kk=4/\hb=true/\ql4 s (qan s (qan s i+n))=true)->qaP s hb T (k+1) (qan s i+n)->qtc s hb T k i
 |head (n:Nat) (st:qab) (tx:List UInt8):kdT T k=104->qdH s i=some ⟨(qan s i:Nat),(qan s i+n:Nat),true,⟨4,st,tx,none,0,0⟩,0⟩->nmT T k=tx->qan s i+n<=s.length->hb=true->ql4 s (qan s (qan s i+n))=true->qaP s hb T (k+1) (qan s (qan s i+n)+2)->qtc s hb T k i
 |sign (n c:Nat):kdT T k=(if c=33 then 126 else(c:Int))->qdH s i=some ⟨(qan s i:Nat),(qan s i+n:Nat),false,zE,(c:Nat)⟩->c∈qgU->qan s i+n<=s.length->qaP s hb T (k+1) (qan s i+n)->qtc s hb T k i
theorem qaP.here {s:List UInt8} {hb:Bool} {T:List qag} {k i:Nat} (h:qaP s hb T k i):k<T.length/\atT T k=(qan s i:Nat)/\qtc s hb T k i:=by
 obtain⟨f,hd,hi,hf⟩:=h
 obtain⟨f,rfl⟩:∃f',f=f'+1:=⟨f-1,by omega⟩
 obtain⟨g1,g2⟩:=qfO hi
 have lt:∀t,T[k]?=some t->k<T.length:=λt ht=>(List.getElem?_eq_some_iff.1 ht).1
 have llen:= @qks (s.drop (qan s i))
 have lpos:= @qkr (s.drop (qan s i))
 have hdl:(s.drop (qan s i)).length=s.length-qan s i:=List.length_drop ..
 rw[qcs]at hd
 split at hd
 ·rename_i he
  have ht:T[k]?=some (tkR 101 (qan s i) zE []):=by
   have:(T.drop k)[0]?=some (tkR 101 (qan s i) zE []):=by rw[hd];rfl
   simpa using this
  obtain⟨h1,h2,h3,h4⟩:=qb3 ht
  exact⟨lt _ ht,h3,.en h1 (by unfold qdH;rw[if_pos he])⟩
 ·rename_i he
  cases hl:qen (s.drop (qan s i))with
  |bad=>
   rw[hl]at hd
   have ht:T[k]?=some (tkR 33 (qan s i) zE []):=by
    have:(T.drop k)[0]?=some (tkR 33 (qan s i) zE []):=by rw[hd];rfl
    simpa using this
   obtain⟨h1,h2,h3,h4⟩:=qb3 ht
   exact⟨lt _ ht,h3,.bad h1 (by unfold qdH;rw[if_neg he,hl])⟩
  |node n kk st tx=>
   rw[hl]at hd
   dsimp only at hd
   have b1:=llen.1 _ _ _ _ hl
   have b2:=lpos.1 _ _ _ _ hl
   have b3:qan s i+n<=s.length:=by omega
   have ta:qdH s i=some ⟨(qan s i:Nat),(qan s i+n:Nat),true,⟨kk,st,tx,none,0,0⟩,0⟩:=by unfold qdH;rw[if_neg he,hl]
   obtain⟨g3,g4⟩:=qfO b3
   split at hd
   ·rename_i hh
    have:=qnJ hh.2.2
    obtain⟨ht,hst⟩:=qdl hd (by omega) (by omega)
    obtain⟨h1,h2,h3,h4⟩:=qb3 ht
    obtain⟨rfl,q1,q2⟩:=hh
    exact⟨lt _ ht,h3,.head n st tx h1 ta h4 b3 q1 q2 hst⟩
   ·rename_i hh
    obtain⟨ht,hst⟩:=qdl hd b3 (by omega)
    obtain⟨h1,h2,h3,h4⟩:=qb3 ht
    exact⟨lt _ ht,h3,.node n kk st tx h1 ta h2 b3 hh hst⟩
  |sign n c=>
   rw[hl]at hd
   dsimp only at hd
   have b1:=llen.2 _ _ hl
   have b2:=lpos.2 _ _ hl
   have b3:qan s i+n<=s.length:=by omega
   obtain⟨ht,hst⟩:=qdl hd b3 (by omega)
   obtain⟨h1,h2,h3,h4⟩:=qb3 ht
   exact⟨lt _ ht,h3,.sign n c h1 (by unfold qdH;rw[if_neg he,hl]) (qkq hl) b3 hst⟩
def qgr (s:List UInt8) (hb:Bool) (T:List qag) (b:Nat) (M:Mem) (k:Nat):Prop:=∃i tk,qaP s hb T k i/\i<=s.length/\qdH s i=some tk/\RdM M b ⟨s,hb,tk⟩
theorem qgr.le {s:List UInt8} {hb:Bool} {T:List qag} {b:Nat} {M M':Mem} {k:Nat} (h:qgr s hb T b M k) (hl:M.le M'):qgr s hb T b M' k:=by
 obtain⟨i,tk,h1,h2,h3,h4⟩:=h
 exact⟨i,tk,h1,h2,h3,h4.le hl⟩
inductive Tok (s:List UInt8) (hb:Bool) (T:List qag) (k:Nat) (tk:qav):Prop where
 |en:kdT T k=101->tk.Node=false->tk.Sign=0->Tok s hb T k tk
 |node (e:Nat):kdT T k=110->tk.Node=true->tk.Sign=0->(exT T k=qsV tk.Expr/\tk.Expr=⟨tk.Expr.Kind,tk.Expr.Set,tk.Expr.Text,none,0,0⟩)->tk.To=(e:Nat)->e<=s.length->¬(tk.Expr.Kind=4/\hb=true/\ql4 s (qan s e)=true)->qaP s hb T (k+1) e->Tok s hb T k tk
 |head (e:Nat):kdT T k=104->tk.Node=true->tk.Sign=0->tk.Expr.Kind=4->nmT T k=tk.Expr.Text->tk.To=(e:Nat)->e<=s.length->hb=true->ql4 s (qan s e)=true->qaP s hb T (k+1) (qan s e+2)->Tok s hb T k tk
 |sign (e:Nat) (c:Nat):kdT T k=(if c=33 then 126 else(c:Int))->tk.Node=false->tk.Sign=(c:Nat)->c∈qgU->tk.To=(e:Nat)->e<=s.length->qaP s hb T (k+1) e->Tok s hb T k tk
theorem qqO {s:List UInt8} {i:Nat} {tk:qav} (h:qdH s i=some tk):tk.At=(qan s i:Nat):=by
 unfold qdH at h
 split at h
 ·cases h;rfl
 ·split at h
  ·cases h
  ·cases h;rfl
  ·cases h;rfl
theorem qgr.tok {s:List UInt8} {hb:Bool} {T:List qag} {b:Nat} {M:Mem} {k:Nat} (h:qgr s hb T b M k):∃tk,RdM M b ⟨s,hb,tk⟩/\k<T.length/\tk.At=atT T k/\Tok s hb T k tk:=by
 obtain⟨i,tk,h1,h2,h3,h4⟩:=h
 obtain⟨hl,ha,hh⟩:=h1.here
 refine⟨tk,h4,hl,?_,?_⟩
 ·rw[ha];exact qqO h3
 ·cases hh with
  |en q1 q2=>rw[q2]at h3;cases h3;exact .en q1 rfl rfl
  |bad q1 q2=>rw[q2]at h3;cases h3
  |node n kk st tx q1 q2 q3 q4 q5 q6=>rw[q2]at h3;cases h3;exact .node _ q1 rfl rfl ⟨q3,rfl⟩ rfl q4 q5 q6
  |head n st tx q1 q2 q3 q4 q5 q6 q7=>rw[q2]at h3;cases h3;exact .head _ q1 rfl rfl rfl q3 rfl q4 q5 q6 q7
  |sign n c q1 q2 q3 q4 q5=>rw[q2]at h3;cases h3;exact .sign _ c q1 rfl rfl q3 rfl q4 q5
def Kep (b:Nat) (M M':Mem):Prop:=∀k o,k≠b->M k=some o->M' k=some o
theorem Kep.refl (b:Nat) (M:Mem):Kep b M M:=λ_ _ _ h=>h
theorem Kep.trans {b:Nat} {M M' M'':Mem} (h:Kep b M M') (k:Kep b M' M''):Kep b M M'':=λi o hi hm=>k i o hi (h i o hi hm)
theorem Kep.of {b:Nat} {M M':Mem} (h:M.le M'):Kep b M M':=λi o _ hm=>h i o hm
def veil (b:Nat) (M:Mem):Mem:=λk=>if k=b then none else M k
theorem Kep.veil {b:Nat} {M M':Mem} (h:Kep b M M'):(veil b M).le (veil b M'):=λk o hk=>by
 unfold core.veil at hk ⊢
 split
 ·rename_i e;rw[if_pos e]at hk;cases hk
 ·rename_i e;rw[if_neg e]at hk;exact h k o e hk
theorem qsg (b:Nat) (M:Mem):(veil b M).le M:=λk o hk=>by
 unfold veil at hk
 split at hk
 ·cases hk
 ·exact hk
theorem qd8 {M M2:Mem} {e size n cap b:Nat} {ad:Option Addr} {xs:List Value} (h:qb8 M M2 e size ad n cap xs) (hb:M b≠none):qb8 (veil b M) (veil b M2) e size ad n cap xs:=by
 obtain⟨h1,h2,h3,⟨h4,h5,h6,rfl⟩|⟨g,cur,rfl,hg,hc,ht,rfl⟩⟩:=h
 ·exact⟨h1,h2,h3,.inl ⟨h4,h5,h6,rfl⟩⟩
 ·have hgb:g≠b:=λe=>hb (by rw[<-e];exact hg)
  refine⟨h1,h2,h3,.inr ⟨g,cur,rfl,by unfold core.veil;rw[if_neg hgb];exact hg,hc,ht,?_⟩⟩
  funext k
  unfold core.veil Mem.add
  by_cases e1:k=b
  ·rw[if_pos e1,if_neg (λe:k=g=>hgb (e.symm.trans e1))];dsimp only;rw[if_pos e1]
  ·rw[if_neg e1]
   by_cases e2:k=g
   ·rw[if_pos e2,if_pos e2]
   ·rw[if_neg e2,if_neg e2];dsimp only;rw[if_neg e1]
theorem qgr.has {s:List UInt8} {hb:Bool} {T:List qag} {b:Nat} {M:Mem} {k:Nat} (h:qgr s hb T b M k):M b≠none:=by
 obtain⟨tk,hr,_⟩:=h.tok
 unfold RdM at hr
 rw[hr];simp
section
variable {s:List UInt8} {hb:Bool} {T:List qag} {b:Nat} {M:Mem} {L:Nat->Prop} {k:Nat}
theorem qnj (hs:s.length<=2000) (h:qgr s hb T b M k) (K:Value->Mem->Prop) (hK:∀M',M.le M'->K (.bool (decide (kdT T k=104))) M'):qcN (some ⟨b,0,none⟩) M L K:=by
 obtain⟨tk,hr,hk,ha,ht⟩:=h.tok
 have j1t:kdT T k≠104->qay (some ⟨b,0,none⟩) M L true K:=λhn=>⟨λ_ M' hle=>by rw[decide_eq_false hn]at hK;exact hK M' hle,λe=>absurd rfl e⟩
 refine⟨b,0,rfl,hb,hr.at 1 _ rfl,λhnb=>j1t ?_,λhbt=>⟨b,0,rfl,tk.Node,hr.at 4 _ rfl,λhn=>j1t ?_,λhn=>⟨b,0,rfl,tk.Expr.Kind,hr.at 5 _ rfl,?_⟩⟩⟩
 ·cases ht with
  |head e q1 q2 q3 q4 q5 q6 q7 q8=>exact absurd q8 hnb
  |en q1=>omega
  |node e q1=>omega
  |sign e c q1 q2 q3 q4=>rw[q1];exact(qef q4).2.2.1
 ·cases ht with
  |head e q1 q2=>exact absurd q2 hn
  |en q1=>omega
  |node e q1 q2=>exact absurd q2 hn
  |sign e c q1 q2 q3 q4=>rw[q1];exact(qef q4).2.2.1
 ·have nd:tk.Node=true:=by simpa using hn
  have hbt:hb=true:=by simpa using hbt
  have j1:∀e:Nat,tk.To=(e:Nat)->e<=s.length->ql4 s (qan s e)=decide (kdT T k=104)->qay (some ⟨b,0,none⟩) M L false K:=λe hto he har=>by
   obtain⟨g1,g2⟩:=qfO he
   have e0:(s.take ((s.length:Nat):Int).toNat).drop ((qan s e:Nat):Int).toNat=s.drop (qan s e):=by rw[Int.toNat_natCast,Int.toNat_natCast,List.take_length]
   have hat:At M b 3 [(.int .i64 ((e:Nat):Int))]:=hr.at 3 _ (by rw[<-hto];rfl)
   have fin_:∀M',M.le M'->qaf Tryz.prog 34 #[(.string (mkS ((s.take ((s.length:Nat):Int).toNat).drop ((qan s e:Nat):Int).toNat))),(.string (mkS ([60,45]:List UInt8)))] M' (λv _=>∃(x20:Bool),v=(Value.bool x20)/\(∀M'',M'.le M''->K (Value.bool x20) M'')):=λM' hle=>by
    rw[e0]
    refine qcK _ _ _ _ (qp1 _ _ _ ⟨_,rfl,λM'' hle'=>?_⟩)
    have:=hK M'' (hle.trans hle')
    rw[<-har]at this;exact this
   refine⟨λe=>by simp at e,λ_=>⟨b,0,rfl,b,0,rfl,(e:Nat),hat,⟨s,hr.at 0 _ rfl,?_⟩,?_⟩⟩
   ·exact qcZ _ _ _ _ _ (qmb hs (hr.at 0 _ rfl) he _ λM4 h4=>⟨_,rfl,by omega,by omega,by omega,fin_ M4 h4⟩)
   ·exact qcZ _ _ _ _ _ (qmb hs (hr.at 0 _ rfl) he _ λM4 h4=>⟨_,rfl,s,(hr.le h4).at 0 _ rfl,by omega,by omega,by omega,fin_ M4 h4⟩)
  cases ht with
  |en q1 q2=>rw[q2]at nd;cases nd
  |sign e c q1 q2 q3 q4=>rw[q2]at nd;cases nd
  |head e q1 q2 q3 q4 q5 q6 q7 q8 q9=>
   rw[q4]
   exact j1 e q6 q7 (by rw[q9,q1];rfl)
  |node e q1 q2 q3 q4 q5 q6 q7=>
   by_cases h4:tk.Expr.Kind=4
   ·rw[h4]
    refine j1 e q5 q6 ?_
    rw[q1]
    cases hq:ql4 s (qan s e)with
    |true=>exact absurd ⟨h4,hbt,hq⟩ q7
    |false=>rfl
   ·rw[show(tk.Expr.Kind != (4:Int))=true by simpa using h4]
    exact j1t (by omega)
theorem qlW (hs:s.length<=2000) (h:qgr s hb T b M k) (K:Value->Mem->Prop) (hK:∀M',M.le M'->K (.bool (decide (beg (kdT T k)))) M'):qcB (some ⟨b,0,none⟩) M L K:=by
 obtain⟨tk,hr,hk,ha,ht⟩:=h.tok
 have sg:∀M',M.le M'->tk.Node=false\/kdT T k=104->∀z:Bool,z=(tk.Sign==40||tk.Sign==38||tk.Sign==33)->z=decide (beg (kdT T k)):=λM' _ hn z hz=>by
  rw[hz]
  cases ht with
  |en q1 q2 q3=>rw[q1,q3];rfl
  |node e q1 q2=>exact absurd hn (by rw[q1,q2];simp)
  |head e q1 q2 q3=>rw[q1,q3];rfl
  |sign e c q1 q2 q3 q4=>
   rw[q1,q3]
   unfold qgU at q4
   simp only[List.mem_cons,List.not_mem_nil,or_false]at q4
   rcases q4 with rfl|rfl|rfl|rfl|rfl|rfl|rfl|rfl|rfl<;>decide
 have out:∀(z:Bool) M',M.le M'->tk.Node=false\/kdT T k=104->z=(tk.Sign==40||tk.Sign==38||tk.Sign==33)->K (.bool z) M':=λz M' hle hn hz=>by
  rw[sg M' hle hn z hz];exact hK M' hle
 have signs:∀M1,M.le M1->tk.Node=false\/kdT T k=104->(∃(b16 o17:Nat),(some ⟨b,0,none⟩:Option Addr)=some ⟨b16,o17,none⟩/\(∃(x18:Int),At M1 b16 (o17+2+10) [(.int .u8 x18)]/\(((x18:Int)=40->(∀M',M1.le M'->K (Value.bool true) M'))/\(¬((x18:Int)=40)->(∃(b19 o20:Nat),(some ⟨b,0,none⟩:Option Addr)=some ⟨b19,o20,none⟩/\(∃(x21:Int),At M1 b19 (o20+2+10) [(.int .u8 x21)]/\(((x21:Int)=38->(∀M',M1.le M'->K (Value.bool true) M'))/\(¬((x21:Int)=38)->(∃(b22 o23:Nat),(some ⟨b,0,none⟩:Option Addr)=some ⟨b22,o23,none⟩/\(∃(x24:Int),At M1 b22 (o23+2+10) [(.int .u8 x24)]/\(∀M',M1.le M'->K (Value.bool ((x24:Int)==(33:Int))) M'))))))))))):=λM1 h1 hn=>by
  refine⟨b,0,rfl,tk.Sign,(hr.le h1).at 12 _ rfl,λq1 M' hle=>out _ M' (h1.trans hle) hn (by rw[q1];rfl),λq1=>⟨b,0,rfl,tk.Sign,(hr.le h1).at 12 _ rfl,λq2 M' hle=>out _ M' (h1.trans hle) hn (by rw[q2];rfl),λq2=>⟨b,0,rfl,tk.Sign,(hr.le h1).at 12 _ rfl,λM' hle=>out _ M' (h1.trans hle) hn ?_⟩⟩⟩
  rw[show(tk.Sign==40)=false by simpa using q1,show(tk.Sign==38)=false by simpa using q2];rfl
 refine⟨b,0,rfl,tk.Node,hr.at 4 _ rfl,λhn=>qd2 _ _ _ _ (qnj hs h _ λM6 h6=>⟨_,rfl,λg M' hle=>?_,λg=>signs M6 h6 (.inr (by simpa using g))⟩),λhn=>signs M (Mem.le.refl _) (.inl (by simpa using hn))⟩
 have g:kdT T k≠104:=by simpa using g
 have:=hK M' (h6.trans hle)
 cases ht with
 |en q1 q2=>rw[q2]at hn;cases hn
 |node e q1 q2=>rw[q1]at this;exact this
 |head e q1=>exact absurd q1 g
 |sign e c q1 q2=>rw[q2]at hn;cases hn
theorem quj (hs:s.length<=2000) (h:qgr s hb T b M k) (hw:Wr L M b) (h1:kdT T k≠101) (h2:kdT T k≠104) (K:PK)
  (hK:kdT T (k+1)≠33->∀M',Kep b M M'->qgr s hb T b M' (k+1)->K (.tuple #[]) M') (hP:kdT T (k+1)=33->K.p (qfp (atT T (k+1)))):qb7 (some ⟨b,0,none⟩) M L K:=by
 obtain⟨tk,hr,hk,ha,ht⟩:=h.tok
 have on_:∀e:Nat,tk.To=(e:Nat)->e<=s.length->qaP s hb T (k+1) e->qb7 (some ⟨b,0,none⟩) M L K:=λe hto he hst=>by
  obtain⟨_,ha',hh⟩:=hst.here
  refine qsR hs hr hw hto he K (λtk' htk M' hM'=>hK (λh33=>?_) M' hM'.le ⟨e,tk',hst,he,htk,hM'.me⟩) (λhno=>?_)
  ·cases hh with
   |bad _ q2=>rw[q2]at htk;cases htk
   |en q1=>omega
   |node n kk st tx q1=>omega
   |head n st tx q1=>omega
   |sign n c q1 _ q3=>rw[q1]at h33;exact(qef q3).1 h33
  ·rw[<-ha']
   refine hP ?_
   cases hh with
   |bad q1 _=>exact q1
   |en _ q2=>rw[q2]at hno;cases hno
   |node n kk st tx _ q2=>rw[q2]at hno;cases hno
   |head n st tx _ q2=>rw[q2]at hno;cases hno
   |sign n c _ q2=>rw[q2]at hno;cases hno
 cases ht with
 |en q1=>exact absurd q1 h1
 |head e q1=>exact absurd q1 h2
 |node e q1 q2 q3 q4 q5 q6 q7 q8=>exact on_ e q5 q6 q8
 |sign e c q1 q2 q3 q4 q5 q6 q7=>exact on_ e q5 q6 q7
end
end Go.Proofs.YtleaplmdgckmkaaGreatDoor.core
namespace Go.Proofs.YtleaplmdgckmkaaGreatDoor.core
open Go.Gx Go.RowKit Go.ChangeShapes Go.WideShapes Go.ChangeAt
set_option linter.unusedVariables false
theorem qjN {kd:Nat->Int} {ex:Nat->Ex} {t:Tg} {acc:List Ex} {k n:Nat} {r:Option Ex} (h:Ps kd ex t acc k r n):kd k=33->qpW t=false->r=none/\n=k:=by
 induction h with
 |altNo _ ih=>intro h _;exact⟨rfl,(ih h rfl).2⟩
 |altOn _ _ _ ih _=>intro h _;cases(ih h rfl).1
 |altEnd _ _ ih=>intro h _;cases(ih h rfl).1
 |seqNo _ ih=>intro h _;exact⟨rfl,(ih h rfl).2⟩
 |seqOn _ _ _ ih _=>intro h _;cases(ih h rfl).1
 |seqEnd _ _ ih=>intro h _;cases(ih h rfl).1
 |preSign c hc _ _=>intro h _;omega
 |preNo _ _ _ ih=>intro h _;exact⟨rfl,(ih h rfl).2⟩
 |prePost _ _ _ _ ih _=>intro h _;cases(ih h rfl).1
 |postOn=>intro _ e;cases e
 |postEnd=>intro _ e;cases e
 |priNode=>intro h _;omega
 |priEmpty=>intro h _;omega
 |priNo=>intro h _;omega
 |priClose=>intro h _;omega
 |priOpen=>intro h _;omega
 |priBad=>intro _ _;exact⟨rfl,rfl⟩
theorem Tok.sg {s:List UInt8} {hb:Bool} {T:List qag} {k:Nat} {tk:qav} (h:Tok s hb T k tk):(∀c∈([40,41,47,38,63,42,43]:List Int),tk.Sign=c↔kdT T k=c)/\(tk.Sign=33↔kdT T k=126)/\kdT T k≠33/\(tk.Node=true↔kdT T k=110\/kdT T k=104):=by
 cases h with
 |en q1 q2 q3=>rw[q1,q2,q3];decide
 |node e q1 q2 q3=>rw[q1,q2,q3];decide
 |head e q1 q2 q3=>rw[q1,q2,q3];decide
 |sign e c q1 q2 q3 q4=>
  rw[q1,q2,q3]
  unfold qgU at q4
  simp only[List.mem_cons,List.not_mem_nil,or_false]at q4
  rcases q4 with rfl|rfl|rfl|rfl|rfl|rfl|rfl|rfl|rfl<;>decide
theorem ExR.bare {M M':Mem} {kk:Int} {st:qab} {tx:List UInt8} {y:qaa} (h:ExR M (.mk kk st tx []) y):ExR M' (.mk kk st tx []) ⟨kk,st,tx,none,0,0⟩:=by
 cases h with
 |mk hk hs ht hv hl hks=>exact .mk hk hs ht (xs:=[]) ⟨rfl,Nat.le_refl _,by decide,λg=>by simp at g⟩ rfl (λj e x he=>by simp at he)
def qrG (s:List UInt8) (hb:Bool) (T:List qag) (b:Nat) (M:Mem) (K:Value->Mem->Prop) (P:List PanicEntry->Prop) (r:Option Ex) (n:Nat):Prop:=
 (∀e,r=some e->kdT T n≠33->∀M' (x:qaa),Kep b M M'->qgr s hb T b M' n->ExR (veil b M') e x->K x.val M')/\(r=none\/kdT T n=33->P (qfp (atT T n)))
section
variable {s:List UInt8} {hb:Bool} {T:List qag} {b:Nat}
theorem qgE (hs:s.length<=2000) {M:Mem} {L:Nat->Prop} {k:Nat} (h:qgr s hb T b M k) (hw:Wr L M b) (h1:kdT T k≠101) (h2:kdT T k≠104) {K:Value->Mem->Prop} {P:List PanicEntry->Prop}
  (hK:kdT T (k+1)≠33->∀M',Kep b M M'->qgr s hb T b M' (k+1)->K (.tuple #[]) M') (hP:kdT T (k+1)=33->P (qfp (atT T (k+1)))):qal Tryz.prog 185 #[.pointer (some ⟨b,0,none⟩)] M L K P:=
 qdA _ _ _ ⟨K,P⟩ (quj hs h hw h1 h2 ⟨K,P⟩ hK hP)
theorem qlQ (hs:s.length<=2000) (hok:∀t∈T,qus t) (hlen:T.length<=3000) (hE:qnU (kdT T) T.length):∀(m k:Nat),k<T.length->T.length-k<=m->∀(M:Mem) (L:Nat->Prop),qgr s hb T b M k->Wr L M b->
  (∀r n,Ps (kdT T) (exT T) .pri [] k r n->∀K P,qrG s hb T b M K P r n->qal Tryz.prog 249 #[.pointer (some ⟨b,0,none⟩)] M L K P)/\
  (∀r n,Ps (kdT T) (exT T) .pre [] k r n->∀K P,qrG s hb T b M K P r n->qal Tryz.prog 241 #[.pointer (some ⟨b,0,none⟩)] M L K P)/\
  (∀r n,Ps (kdT T) (exT T) .seq [] k r n->∀K P,qrG s hb T b M K P r n->qal Tryz.prog 216 #[.pointer (some ⟨b,0,none⟩)] M L K P)/\
  (∀r n,Ps (kdT T) (exT T) .alt [] k r n->∀K P,qrG s hb T b M K P r n->qal Tryz.prog 186 #[.pointer (some ⟨b,0,none⟩)] M L K P)
 |0,k,hk,hm,_,_,_,_=>by omega
 |m+1,k,hk,hm,M0,L0,hR0,hw0=>by
  have ih:∀k',k<k'->k'<T.length->∀M L,qgr s hb T b M k'->Wr L M b->_:=λk' h1 h2=>qlQ hs hok hlen hE m k' h2 (by omega)
  have pri:∀M L,qgr s hb T b M k->Wr L M b->∀r n,Ps (kdT T) (exT T) .pri [] k r n->∀K P,qrG s hb T b M K P r n->qal Tryz.prog 249 #[.pointer (some ⟨b,0,none⟩)] M L K P:=λM L hR hw r n h K P hK=>by
   refine qfF _ _ _ ⟨K,P⟩ ?_
   have j1t:kdT T k≠110->kdT T k≠40->∀M',M.le M'->qaB (some ⟨b,0,none⟩) M L true M' ⟨K,P⟩:=λg1 g2 M' hle=>by
    obtain⟨tk,hr,_,ha,_⟩:=(hR.le hle).tok
    have hnk:r=none/\n=k:=by
     cases h with
     |priBad=>exact⟨rfl,rfl⟩
     |_=>first|omega|contradiction
    exact⟨λ_=>⟨b,0,rfl,_,hr.at 2 _ rfl,qnI _ _ _ _ _ (by rw[ha,<-hnk.2];exact hK.2 (.inl hnk.1))⟩,λe=>absurd rfl e⟩
   refine qdE _ _ _ _ (qlW hs hR _ λM4 h4=>⟨_,rfl,λg=>?_,λg=>?_⟩)
   ·have g:¬beg (kdT T k):=by simpa using g
    unfold beg at g
    exact j1t (by omega) (by omega) M4 h4
   ·have g:beg (kdT T k):=by simpa using g
    have hR4:=hR.le h4
    obtain⟨tk,hr,_,ha,ht⟩:=hR4.tok
    obtain⟨sg,sg33,n33,snd⟩:=ht.sg
    refine⟨b,0,rfl,tk.Sign,hr.at 12 _ rfl,λh38=>j1t (by have:=(sg 38 (by decide)).1 h38;omega) (by have:=(sg 38 (by decide)).1 h38;omega) M4 h4,λh38=>⟨b,0,rfl,tk.Sign,hr.at 12 _ rfl,?_⟩⟩
    by_cases h33:tk.Sign=33
    ·rw[h33]
     exact j1t (by have:=sg33.1 h33;omega) (by have:=sg33.1 h33;omega) M4 h4
    ·rw[show(tk.Sign==(33:Int))=false by simpa using h33]
     have g38:kdT T k≠38:=λe=>h38 ((sg 38 (by decide)).2 e)
     have g126:kdT T k≠126:=λe=>h33 (sg33.2 e)
     have hkk:kdT T k=110\/kdT T k=40:=by unfold beg at g;omega
     have hk1:=hE k hk (by omega) (by omega)
     refine⟨λe=>by simp at e,λ_=>⟨b,0,rfl,tk.Node,hr.at 4 _ rfl,λhn=>?_,λhn=>?_⟩⟩
     ·have h110:kdT T k=110:=by have:=snd.1 hn;omega
      have hex:∀M',ExR M' (exT T k) tk.Expr:=λM'=>by
       cases ht with
       |node e q1 q2 q3 q4=>
        have htk:T[k]?=some T[k]:=List.getElem?_eq_getElem hk
        have h1:=(hok _ (List.mem_of_getElem? htk)).ex M'
        rw[<-(qb3 htk).2.1]at h1
        rw[q4.1]at h1 ⊢
        rw[q4.2]
        exact ExR.bare h1
       |en q1=>omega
       |head e q1=>omega
       |sign e c q1 _ _ q4=>rw[q1]at h110;exact absurd h110 (qef q4).2.2.2
      have hrn:r=some (exT T k)/\n=k+1:=by
       cases h with
       |priNode=>exact⟨rfl,rfl⟩
       |_=>first|omega|contradiction
      obtain⟨rfl,rfl⟩:=hrn
      exact⟨b,0,rfl,tk.Expr,hr.at 5 _ rfl,qgE hs hR4 (.inl hw) (by omega) (by omega) (λg33 M' hkp hR'=>⟨rfl,λM'' hle=>hK.1 _ rfl g33 M'' tk.Expr (((Kep.of h4).trans hkp).trans (Kep.of hle)) (hR'.le hle) (hex _)⟩) (λg33=>hK.2 (.inr g33))⟩
     ·have h40:kdT T k=40:=by
       rcases hkk with h|h
       ·exact absurd (snd.2 (.inl h)) hn
       ·exact h
      refine qgE hs hR4 (.inl hw) (by omega) (by omega) (λg33 M5 hkp5 hR5=>⟨rfl,?_⟩) (λg33=>?_)
      ·obtain⟨tk5,hr5,_,ha5,ht5⟩:=hR5.tok
       have sg5:=ht5.sg.1
       refine⟨b,0,rfl,tk5.Sign,hr5.at 12 _ rfl,λh41=>?_,λh41=>?_⟩
       ·have h41:=(sg5 41 (by decide)).1 h41
        have hrn:r=some (one 1 [])/\n=k+2:=by
         cases h with
         |priEmpty=>exact⟨rfl,rfl⟩
         |_=>first|omega|contradiction
        obtain⟨rfl,rfl⟩:=hrn
        refine qgE hs hR5 (.inl hw) (by omega) (by omega) (λg M6 hkp6 hR6=>?_) (λg=>hK.2 (.inr g))
        have fin_:∀M',M6.le M'->K (qaa.mk 1 (qab.mk 0 0 0 0) [] none 0 0).val M':=λM' hle=>hK.1 _ rfl g M' ⟨1,⟨0,0,0,0⟩,[],none,0,0⟩ ((((Kep.of h4).trans hkp5).trans hkp6).trans (Kep.of hle)) (hR6.le hle) (.mk (qjZ (by omega)) qnY (by decide) (xs:=[]) ⟨rfl,Nat.le_refl _,by decide,λg=>by simp at g⟩ rfl (λj e x he=>by simp at he))
        first
         |exact⟨rfl,fin_⟩
         |exact⟨rfl,λ_ hn M' hle=>fin_ M' (hn.le.trans hle)⟩
       ·have h41:kdT T (k+1)≠41:=λe=>h41 ((sg5 41 (by decide)).2 e)
        have alt:=λr' n' (h':Ps (kdT T) (exT T) .alt [] (k+1) r' n') K' P'=>(ih (k+1) (by omega) hk1 M5 (Wr L M) hR5 (.inl hw)).2.2.2 r' n' h' K' P'
        have thr:∀x n',n=n'->r=none->∀M6,qgr s hb T b M6 n'->kdT T n'≠41->∃(b34 o35:Nat),(some ⟨b,0,none⟩:Option Addr)=some ⟨b34,o35,none⟩/\∃(x36:Int),At M6 b34 (o35+2+10) [(.int .u8 x36)]/\(((x36:Int)≠41->(∃(b37 o38:Nat),(some ⟨b,0,none⟩:Option Addr)=some ⟨b37,o38,none⟩/\(∃(x39:Int),At M6 b37 (o38+2) [(.int .i64 x39)]/\(qal Tryz.prog 215 #[(.int .i64 x39)] M6 (Wr L M) (λv M40=>v=(Value.tuple #[])/\(qaA (some ⟨b,0,none⟩) M L x M40 ⟨K,P⟩)) (qba ⟨K,P⟩)))))/\(¬((x36:Int)≠41)->(qaA (some ⟨b,0,none⟩) M L x M6 ⟨K,P⟩))):=λx n' hn hr M6 hR6 hne=>by
         obtain⟨tk6,hr6,_,ha6,ht6⟩:=hR6.tok
         exact⟨b,0,rfl,tk6.Sign,hr6.at 12 _ rfl,λ_=>⟨b,0,rfl,_,hr6.at 2 _ rfl,qnI _ _ _ _ _ (by rw[ha6,<-hn];exact hK.2 (.inl hr))⟩,λg=>absurd ((ht6.sg.1 41 (by decide)).1 (Classical.not_not.1 g)) hne⟩
        cases h with
        |priNo _ _ h'=>exact alt _ _ h' _ _ ⟨λe he=>(by cases he),λ_=>hK.2 (.inl rfl)⟩
        |priClose _ _ h' hn41=>
         rename_i n' e
         obtain⟨b1,b2,b3⟩:=h'.bound hE hk1
         refine alt _ _ h' _ _ ⟨λe' he' hn33 M6 x hkp6 hR6 hx=>⟨x,rfl,?_⟩,λhh=>?_⟩
         ·obtain⟨tk6,hr6,_,ha6,ht6⟩:=hR6.tok
          refine⟨b,0,rfl,tk6.Sign,hr6.at 12 _ rfl,λg=>absurd ((ht6.sg.1 41 (by decide)).2 hn41) g,λ_=>?_⟩
          refine qgE hs hR6 (.inl hw) (by omega) (by omega) (λg M7 hkp7 hR7=>⟨rfl,λM' hle=>?_⟩) (λg=>hK.2 (.inr g))
          exact hK.1 e' he' g M' x (((((Kep.of h4).trans hkp5).trans hkp6).trans hkp7).trans (Kep.of hle)) (hR7.le hle) (hx.le ((hkp7.trans (Kep.of hle)).veil))
         ·rcases hh with hh|hh
          ·cases hh
          ·omega
        |priOpen _ _ h' hn41=>
         rename_i e
         exact alt _ _ h' _ _ ⟨λe' he' hn33 M6 x hkp6 hR6 hx=>⟨x,rfl,thr x n rfl rfl M6 hR6 hn41⟩,λ_=>hK.2 (.inl rfl)⟩
        |_=>first|omega|contradiction
      ·have hrn:r=none/\n=k+1:=by
        cases h with
        |priNo _ _ h'=>exact⟨rfl,(qjN h' g33 rfl).2⟩
        |priClose _ _ h'=>have:=(qjN h' g33 rfl).1;cases this
        |priOpen _ _ h'=>have:=(qjN h' g33 rfl).1;cases this
        |_=>first|omega|contradiction
       rw[<-hrn.2]
       exact hK.2 (.inl hrn.1)
  have pre:∀M L,qgr s hb T b M k->Wr L M b->∀r n,Ps (kdT T) (exT T) .pre [] k r n->∀K P,qrG s hb T b M K P r n->qal Tryz.prog 241 #[.pointer (some ⟨b,0,none⟩)] M L K P:=λM L hR hw r n h K P hK=>by
   refine qgd _ _ _ ⟨K,P⟩ ?_
   obtain⟨tk,hr,_,ha,ht⟩:=hR.tok
   obtain⟨sg,sg33,n33,snd⟩:=ht.sg
   have signed:∀c:Int,kdT T k=38/\c=10\/kdT T k=126/\c=11->qal Tryz.prog 185 #[(.pointer (some ⟨b,0,none⟩))] M (Wr L M) (λv M6=>v=(Value.tuple #[])/\(qal Tryz.prog 241 #[(.pointer (some ⟨b,0,none⟩))] M6 (Wr L M) (λv M8=>∃(x7:qaa),v=x7.val/\(∀(M12:Mem) (ad10:Option Addr) (cap11:Nat),qb8 M8 M12 50 7 ad10 1 cap11 x7.cells->(∀M',M12.le M'->K (qaa.mk c (qab.mk 0 0 0 0) [] ad10 1 cap11).val M'))) P)) P:=λc hc=>by
    have hk1:=hE k hk (by omega) (by omega)
    cases h with
    |preSign c' hc' h'=>
     rename_i r'
     have:c'=c:=by omega
     subst this
     refine qgE hs hR (.inl hw) (by omega) (by omega) (λg33 M6 hkp6 hR6=>⟨rfl,?_⟩) (λg33=>?_)
     ·refine(ih (k+1) (by omega) hk1 M6 (Wr L M) hR6 (.inl hw)).2.1 _ _ h' _ _ ⟨λe he hn33 M8 x hkp8 hR8 hx=>⟨x,rfl,λM12 ad cap hnr M' hle=>?_⟩,λhh=>hK.2 (hh.imp (λg=>by rw[g];rfl) id)⟩
      subst he
      have hv:=qd8 hnr hR8.has
      exact hK.1 _ rfl hn33 M' ⟨c',⟨0,0,0,0⟩,[],ad,1,cap⟩ ((hkp6.trans hkp8).trans (Kep.of (hnr.le.trans hle))) (hR8.le (hnr.le.trans hle)) ((ExR.one (es:=[e]) (xs:=[x]) (by omega) (by rw[qnC];exact hv.slv) ⟨x,[],rfl,hx.le hv.le,rfl⟩).le (Kep.of hle).veil)
     ·obtain⟨q1,q2⟩:=qjN h' g33 rfl
      rw[<-q2]
      exact hK.2 (.inl (by rw[q1];rfl))
    |preNo g1 g2 _=>omega
    |prePost g1 g2 _ _=>omega
   refine⟨b,0,rfl,tk.Sign,hr.at 12 _ rfl,λh38=>signed 10 (.inl ⟨(sg 38 (by decide)).1 h38,rfl⟩),λh38=>⟨λh33=>signed 11 (.inr ⟨sg33.1 h33,rfl⟩),λh33=>?_⟩⟩
   have g38:kdT T k≠38:=λe=>h38 ((sg 38 (by decide)).2 e)
   have g126:kdT T k≠126:=λe=>h33 (sg33.2 e)
   cases h with
   |preSign c' hc' h'=>omega
   |preNo g1 g2 h'=>exact pri M (Wr L M) hR (.inl hw) _ _ h' _ _ ⟨λe he=>(by cases he),λ_=>hK.2 (.inl rfl)⟩
   |prePost g1 g2 h' hp=>
    rename_i n' e'
    obtain⟨b1,b2,b3⟩:=h'.bound hE hk
    refine pri M (Wr L M) hR (.inl hw) _ _ h' _ _ ⟨λe he hn33 M21 x hkp21 hR21 hx=>⟨x,rfl,Nat×Ex,λg c1 c2 c3 c4 c5 c6 ca cn cc M2=>g.1<T.length/\Ps (kdT T) (exT T) .post [g.2] g.1 r n/\qgr s hb T b M2 g.1/\ExR (veil b M2) g.2 ⟨c1,⟨c2,c3,c4,c5⟩,c6,ca,cn,cc⟩/\Kep b M M2,λg _ _ _ _ _ _ _ _ _=>T.length-g.1,(n',e'),⟨b2,hp,hR21,by cases he;exact hx,hkp21⟩,λg c1 c2 c3 c4 c5 c6 ca cn cc M2 ⟨hk2,hps,hR2,hex,hkp2⟩=>?_⟩,λhh=>?_⟩
    ·obtain⟨k2,e2⟩:=g
     dsimp only at hk2 hps hR2 hex
     obtain⟨tk2,hr2,_,ha2,ht2⟩:=hR2.tok
     have sg2:=ht2.sg.1
     have step:∀c:Int,kdT T k2=42/\c=7\/kdT T k2=43/\c=8\/kdT T k2=63/\c=9->qaG (some ⟨b,0,none⟩) M L c1 c2 c3 c4 c5 c6 ca cn cc M2 (Nat×Ex) (k2,e2) (λg c1 c2 c3 c4 c5 c6 ca cn cc M2=>g.1<T.length/\Ps (kdT T) (exT T) .post [g.2] g.1 r n/\qgr s hb T b M2 g.1/\ExR (veil b M2) g.2 ⟨c1,⟨c2,c3,c4,c5⟩,c6,ca,cn,cc⟩/\Kep b M M2) (λg _ _ _ _ _ _ _ _ _=>T.length-g.1) c ⟨K,P⟩:=λc hc=>by
      cases hps with
      |postOn c' hc' hps'=>
       have:c'=c:=by omega
       subst this
       have hk3:=hE k2 hk2 (by omega) (by omega)
       refine qgE hs hR2 (.inl hw) (by omega) (by omega) (λg33 M6 hkp6 hR6=>⟨rfl,λM12 ad cap hnr=>?_⟩) (λg33=>?_)
       ·have hv:=qd8 hnr hR6.has
        exact⟨(k2+1,one c' [e2]),⟨hk3,hps',hR6.le hnr.le,ExR.one (es:=[e2]) (xs:=[_]) (by omega) (by rw[qnC];exact hv.slv) ⟨_,[],rfl,(hex.le hkp6.veil).le hv.le,rfl⟩,(hkp2.trans hkp6).trans (Kep.of hnr.le)⟩,by dsimp only;omega⟩
       ·cases hps' with
        |postOn c' hc' _=>omega
        |postEnd=>exact hK.2 (.inr g33)
      |postEnd q1 q2 q3=>omega
     refine⟨b,0,rfl,tk2.Sign,hr2.at 12 _ rfl,λh63=>step 9 (.inr (.inr ⟨(sg2 63 (by decide)).1 h63,rfl⟩)),λh63=>⟨λh42=>step 7 (.inl ⟨(sg2 42 (by decide)).1 h42,rfl⟩),λh42=>⟨λh43=>step 8 (.inr (.inl ⟨(sg2 43 (by decide)).1 h43,rfl⟩)),λh43 M' hle=>?_⟩⟩⟩
     have q1:kdT T k2≠63:=λe=>h63 ((sg2 63 (by decide)).2 e)
     have q2:kdT T k2≠42:=λe=>h42 ((sg2 42 (by decide)).2 e)
     have q3:kdT T k2≠43:=λe=>h43 ((sg2 43 (by decide)).2 e)
     cases hps with
     |postOn c' hc' _=>omega
     |postEnd _ _ _=>exact hK.1 _ rfl ht2.sg.2.2.1 M' ⟨c1,⟨c2,c3,c4,c5⟩,c6,ca,cn,cc⟩ (hkp2.trans (Kep.of hle)) (hR2.le hle) (hex.le (Kep.of hle).veil)
    ·rcases hh with hh|hh
     ·cases hh
     ·cases hp with
      |postOn c' hc' _=>omega
      |postEnd=>exact hK.2 (.inr hh)
  have preAll:∀k',k<=k'->k'<T.length->∀M L,qgr s hb T b M k'->Wr L M b->∀r n,Ps (kdT T) (exT T) .pre [] k' r n->∀K P,qrG s hb T b M K P r n->qal Tryz.prog 241 #[.pointer (some ⟨b,0,none⟩)] M L K P:=λk' h1 h2 M L hR hw=>by
   by_cases e:k'=k
   ·subst e;exact pre M L hR hw
   ·exact(ih k' (by omega) h2 M L hR hw).2.1
  have seq:∀M L,qgr s hb T b M k->Wr L M b->∀r n,Ps (kdT T) (exT T) .seq [] k r n->∀K P,qrG s hb T b M K P r n->qal Tryz.prog 216 #[.pointer (some ⟨b,0,none⟩)] M L K P:=λM L hR hw r n h K P hK=>by
   refine qhx _ _ _ ⟨K,P⟩ ?_
   obtain⟨r',n',h',hno,hso⟩:=h.seqI
   obtain⟨b1,b2,b3⟩:=h'.bound hE hk
   let I:Nat×List Ex->Nat->List Value->Mem->Prop:=λg rn rx M2=>∃xs:List qaa,k<g.1/\g.1<T.length/\0<g.2.length/\g.2.length<=g.1/\rn=g.2.length/\rx=cl qaa.cells xs/\qcX (ExR (veil b M2)) g.2 xs/\qgr s hb T b M2 g.1/\(beg (kdT T g.1)->Ps (kdT T) (exT T) .seq g.2 g.1 r n)/\(¬beg (kdT T g.1)->n=g.1/\r=some (qoR 5 g.2))/\Kep b M M2
   let mu:Nat×List Ex->Nat->List Value->Nat:=λg _ _=>T.length-g.1
   have nb33:∀j,kdT T j=33->¬beg (kdT T j):=λj e g=>by unfold beg at g;omega
   refine pre M (Wr L M) hR (.inl hw) _ _ h' _ _ ⟨λe he hn33 M4 x hkp4 hR4 hx=>⟨x,rfl,Nat×List Ex,I,mu,(n',[e]),?_,λg rn rx M2 ⟨xs,hk2,hkl,h0,hal,hrn,hrx,h2,hR2,hon,hend,hkp2⟩=>?_⟩,λhh=>?_⟩
   ·subst he
    obtain⟨hon,hend⟩:=hso e rfl
    have:=b3 rfl rfl
    exact⟨[x],this,b2,by simp,by simp;omega,rfl,(qnC x).symm,⟨x,[],rfl,hx,rfl⟩,hR4,hon,hend,hkp4⟩
   ·obtain⟨k2,acc⟩:=g
    dsimp only at hk2 hkl h0 hal hrn h2 hR2 hon hend
    subst hrn hrx
    refine qdE _ _ _ _ (qlW hs hR2 _ λM36 h36=>⟨_,rfl,λhbt=>?_,λhbf=>?_⟩)
    ·have hbt:beg (kdT T k2):=by simpa using hbt
     obtain⟨r2,n2,h2',hno2,hso2⟩:=(hon hbt).seqI
     obtain⟨c1,c2,c3⟩:=h2'.bound hE hkl
     refine preAll k2 (by omega) hkl M36 (Wr L M) (hR2.le h36) (.inl hw) _ _ h2' _ _ ⟨λe he hn33 M38 y hkp38 hR38 hy=>⟨y,rfl,by omega,(n2,acc++[e]),?_,?_⟩,λhh=>?_⟩
     ·subst he
      obtain⟨hon2,hend2⟩:=hso2 e rfl
      have:=c3 rfl rfl
      exact⟨xs++[y],by omega,c2,by simp,by simp;omega,by simp,qhS _ _,(qkF h2 ((Kep.of h36).trans hkp38).veil).snoc hy,hR38,hon2,hend2,(hkp2.trans (Kep.of h36)).trans hkp38⟩
     ·subst he
      have:=c3 rfl rfl
      dsimp only[mu];omega
     ·cases r2 with
      |none=>obtain⟨q1,q2⟩:=hno2 rfl;rw[<-q2];exact hK.2 (.inl q1)
      |some e2=>
       rcases hh with hh|hh
       ·cases hh
       ·obtain⟨q1,_⟩:=(hso2 e2 rfl).2 (nb33 _ hh);rw[<-q1]at hh ⊢;exact hK.2 (.inr hh)
    ·have hbf:¬beg (kdT T k2):=by simpa using hbf
     obtain⟨rfl,rfl⟩:=hend hbf
     have n33:kdT T n≠33:=by obtain⟨tk2,_,_,_,ht2⟩:=hR2.tok;exact ht2.sg.2.2.1
     refine⟨λh1=>⟨by omega,by omega,?_⟩,λh1 M50 ad cap hnr M' hle=>?_⟩
     ·obtain⟨e,rfl⟩:∃e,acc=[e]:=by
       match acc,h1 with
       |[e],_=>exact⟨e,rfl⟩
       |[],h=>simp at h
       |_::_::_,h=>simp at h;omega
      obtain⟨x,_,rfl,hx,hr⟩:=h2
      cases hr
      exact⟨x,qtS qqx (i:=0) rfl,λM' hle=>hK.1 _ rfl n33 M' x (hkp2.trans (Kep.of (h36.trans hle))) (hR2.le (h36.trans hle)) (hx.le (Kep.of (h36.trans hle)).veil)⟩
     ·have hR36:=hR2.le h36
      have hv:=qd8 hnr hR36.has
      refine hK.1 _ rfl n33 M' ⟨5,⟨0,0,0,0⟩,[],ad,acc.length,cap⟩ (hkp2.trans (Kep.of ((h36.trans hnr.le).trans hle))) (hR36.le (hnr.le.trans hle)) ?_
      rw[qhb 5 (by omega)]
      exact(ExR.one (by omega) hv.slv (qkF h2 ((Kep.of h36).veil.trans hv.le))).le (Kep.of hle).veil
   ·cases r' with
    |none=>obtain⟨q1,q2⟩:=hno rfl;rw[<-q2];exact hK.2 (.inl q1)
    |some e2=>
     rcases hh with hh|hh
     ·cases hh
     ·obtain⟨q1,_⟩:=(hso e2 rfl).2 (nb33 _ hh);rw[<-q1]at hh ⊢;exact hK.2 (.inr hh)
  refine⟨pri M0 L0 hR0 hw0,pre M0 L0 hR0 hw0,seq M0 L0 hR0 hw0,λr n h K P hK=>?_⟩
  have seqAll:∀k',k<=k'->k'<T.length->∀M L,qgr s hb T b M k'->Wr L M b->∀r n,Ps (kdT T) (exT T) .seq [] k' r n->∀K P,qrG s hb T b M K P r n->qal Tryz.prog 216 #[.pointer (some ⟨b,0,none⟩)] M L K P:=λk' h1 h2 M L hR hw=>by
   by_cases e:k'=k
   ·subst e;exact seq M L hR hw
   ·exact(ih k' (by omega) h2 M L hR hw).2.2.1
  refine qhz _ _ _ ⟨K,P⟩ ?_
  obtain⟨r',n',h',hno,hso⟩:=h.altI
  obtain⟨b1,b2,b3⟩:=h'.bound hE hk
  let I:Nat×List Ex->Nat->List Value->Mem->Prop:=λg rn rx M2=>∃xs:List qaa,k<g.1/\g.1<T.length/\0<g.2.length/\g.2.length<=g.1/\rn=g.2.length/\rx=cl qaa.cells xs/\qcX (ExR (veil b M2)) g.2 xs/\qgr s hb T b M2 g.1/\(kdT T g.1=47->Ps (kdT T) (exT T) .alt g.2 (g.1+1) r n)/\(kdT T g.1≠47->n=g.1/\r=some (qoR 6 g.2))/\Kep b M0 M2
  let mu:Nat×List Ex->Nat->List Value->Nat:=λg _ _=>T.length-g.1
  have nb33:∀j,kdT T j=33->kdT T j≠47:=λj e g=>by omega
  refine seq M0 (Wr L0 M0) hR0 (.inl hw0) _ _ h' _ _ ⟨λe he hn33 M4 x hkp4 hR4 hx=>⟨x,rfl,Nat×List Ex,I,mu,(n',[e]),?_,λg rn rx M2 ⟨xs,hk2,hkl,h0,hal,hrn,hrx,h2,hR2,hon,hend,hkp2⟩=>?_⟩,λhh=>?_⟩
  ·subst he
   obtain⟨hon,hend⟩:=hso e rfl
   have:=b3 rfl rfl
   exact⟨[x],this,b2,by simp,by simp;omega,rfl,(qnC x).symm,⟨x,[],rfl,hx,rfl⟩,hR4,hon,hend,hkp4⟩
  ·obtain⟨k2,acc⟩:=g
   dsimp only at hk2 hkl h0 hal hrn h2 hR2 hon hend
   subst hrn hrx
   obtain⟨tk2,hr2,_,_,ht2⟩:=hR2.tok
   have sg2:=ht2.sg.1 47 (by decide)
   have n33:=ht2.sg.2.2.1
   refine⟨b,0,rfl,tk2.Sign,hr2.at 12 _ rfl,λh47=>?_,λh47=>?_⟩
   ·have h47:=sg2.1 h47
    have hps2:=hon h47
    have hk3:=hE k2 hkl (by omega) (by omega)
    refine qgE hs hR2 (.inl hw0) (by omega) (by omega) (λg33 M42 hkp42 hR42=>⟨rfl,?_⟩) (λg33=>?_)
    ·obtain⟨r2,n2,h2',hno2,hso2⟩:=hps2.altI
     obtain⟨c1,c2,c3⟩:=h2'.bound hE hk3
     refine seqAll (k2+1) (by omega) hk3 M42 (Wr L0 M0) hR42 (.inl hw0) _ _ h2' _ _ ⟨λe he hn33 M44 y hkp44 hR44 hy=>⟨y,rfl,by omega,(n2,acc++[e]),?_,?_⟩,λhh=>?_⟩
     ·subst he
      obtain⟨hon2,hend2⟩:=hso2 e rfl
      have:=c3 rfl rfl
      exact⟨xs++[y],by omega,c2,by simp,by simp;omega,by simp,qhS _ _,(qkF h2 (hkp42.trans hkp44).veil).snoc hy,hR44,hon2,hend2,(hkp2.trans hkp42).trans hkp44⟩
     ·subst he
      have:=c3 rfl rfl
      dsimp only[mu];omega
     ·cases r2 with
      |none=>obtain⟨q1,q2⟩:=hno2 rfl;rw[<-q2];exact hK.2 (.inl q1)
      |some e2=>
       rcases hh with hh|hh
       ·cases hh
       ·obtain⟨q1,_⟩:=(hso2 e2 rfl).2 (nb33 _ hh);rw[<-q1]at hh ⊢;exact hK.2 (.inr hh)
    ·obtain⟨q1,q2⟩:=qjN hps2 g33 rfl
     rw[<-q2]
     exact hK.2 (.inl q1)
   ·have h47:kdT T k2≠47:=λe=>h47 (sg2.2 e)
    obtain⟨rfl,rfl⟩:=hend h47
    refine⟨λh1=>⟨by omega,by omega,?_⟩,λh1 M50 ad cap hnr M' hle=>?_⟩
    ·obtain⟨e,rfl⟩:∃e,acc=[e]:=by
      match acc,h1 with
      |[e],_=>exact⟨e,rfl⟩
      |[],h=>simp at h
      |_::_::_,h=>simp at h;omega
     obtain⟨x,_,rfl,hx,hr⟩:=h2
     cases hr
     exact⟨x,qtS qqx (i:=0) rfl,λM' hle=>hK.1 _ rfl n33 M' x (hkp2.trans (Kep.of hle)) (hR2.le hle) (hx.le (Kep.of hle).veil)⟩
    ·have hv:=qd8 hnr hR2.has
     refine hK.1 _ rfl n33 M' ⟨6,⟨0,0,0,0⟩,[],ad,acc.length,cap⟩ (hkp2.trans (Kep.of (hnr.le.trans hle))) (hR2.le (hnr.le.trans hle)) ?_
     rw[qhb 6 (by omega)]
     exact(ExR.one (by omega) hv.slv (qkF h2 hv.le)).le (Kep.of hle).veil
  ·cases r' with
   |none=>obtain⟨q1,q2⟩:=hno rfl;rw[<-q2];exact hK.2 (.inl q1)
   |some e2=>
    rcases hh with hh|hh
    ·cases hh
    ·obtain⟨q1,_⟩:=(hso e2 rfl).2 (nb33 _ hh);rw[<-q1]at hh ⊢;exact hK.2 (.inr hh)
end
end Go.Proofs.YtleaplmdgckmkaaGreatDoor.core
namespace Go.Proofs.YtleaplmdgckmkaaGreatDoor.core
open Go.Gx Go.RowKit Go.ChangeShapes Go.WideShapes Go.ChangeAt
set_option linter.unusedVariables false
theorem qmQ (q:UInt8):∀(n:Nat) (r:List UInt8),r.length<n->∀(i:Int) (out:List UInt8),(qj1 q r i out).1.length<=out.length+r.length
 |0,_,h,_,_=>absurd h (Nat.not_lt_zero _)
 |n+1,r,h,i,out=>by
  unfold qj1
  split
  ·simp
  ·rename_i c t
   split
   ·simp
   ·split
    ·simp
    ·rename_i hk
     obtain⟨_,_,h0,hl,_⟩:=qf0 [39,34,92] (c::t)
     have hd:((c::t).drop ((qaX [39,34,92] (c::t)).2.toNat-1+1)).length=(c::t).length-((qaX [39,34,92] (c::t)).2.toNat-1+1):=List.length_drop ..
     generalize qaX [39,34,92] (c::t)=z at*
     have ih:=qmQ q n ((c::t).drop (z.2.toNat-1+1)) (by rw[hd];simp only[List.length_cons]at h ⊢;omega) (i+z.2) (out++[z.1.toNat.toUInt8])
     rw[hd,List.length_append]at ih
     simp only[List.length_cons,List.length_nil]at ih ⊢
     omega
theorem qn2 (s:List UInt8):(qcA s).1.length<=s.length:=by
 unfold qcA
 split
 ·simp
 ·split
  ·simp
  ·refine Nat.le_trans (qmQ _ _ _ (Nat.lt_succ_self _) _ _) ?_
   simp
theorem qqK (s:List UInt8):wfS (qeG s).1:=by
 have key:∀b o,wfS (qh8 b o).1:=λb o=>by
  cases o with
  |none=>exact qnY
  |some p=>exact qmK _
 unfold qeG
 split
 ·split<;>exact key _ _
 ·exact qnY
theorem qty {t:List UInt8} {n:Nat} {k:Int} {st:qab} {tx:List UInt8} (h:qen t= .node n k st tx):(1<=k/\k<=4)/\wfS st/\tx.length<=t.length:=by
 have ul:=qn2 t
 have up:=qqK t
 unfold qen at h
 split at h
 ·cases h
 ·repeat' split at h
  all_goals first
   |(cases h;done)
   |(cases h;refine⟨by omega,?_,?_⟩<;>first|exact qnY|exact up|exact qmK _|exact ul|(simp only[List.length_take];omega)|simp)
theorem qj4 {s:List UInt8} (hs:s.length<=2000) (hb:Bool):∀(f i:Nat),∀t∈qcs s hb f i,qus t
 |0,_,t,h=>by cases h
 |f+1,i,t,h=>by
  have bare:∀(k:Int) (st:qab) (tx:List UInt8),0<=k/\k<=100->wfS st->tx.length<=2000->∀M,ExR M (qsV ⟨k,st,tx,none,0,0⟩) ⟨k,st,tx,none,0,0⟩:=λk st tx hk hst htx M=>.mk (qjZ hk) hst (by show tx.length<=maxLen;unfold maxLen;omega) (xs:=[]) ⟨rfl,Nat.le_refl _,by decide,λg=>by simp at g⟩ rfl (λj e x he=>by simp at he)
  have zer:∀M,ExR M (qsV zE) zE:=bare 0 _ _ (by omega) qnY (by simp)
  rw[qcs]at h
  split at h
  ·rw[List.mem_singleton]at h;subst h;exact⟨zer,⟨101,rfl⟩,by show([]:List UInt8).length<=maxLen;decide⟩
  ·cases hl:qen (s.drop (qan s i))with
   |bad=>rw[hl]at h;rw[List.mem_singleton]at h;subst h;exact⟨zer,⟨33,rfl⟩,by show([]:List UInt8).length<=maxLen;decide⟩
   |node n k st tx=>
    rw[hl]at h
    obtain⟨h1,h2,h3⟩:=qty hl
    rw[List.length_drop]at h3
    have nmle:(if k=4 then tx else[]).length<=maxLen:=by
     split
     ·unfold maxLen;omega
     ·decide
    dsimp only at h
    split at h
    ·rcases List.mem_cons.1 h with rfl|h
     ·exact⟨bare _ _ _ (by omega) h2 (by omega),⟨104,rfl⟩,by show tx.length<=maxLen;unfold maxLen;omega⟩
     ·exact qj4 hs hb f _ t h
    ·rcases List.mem_cons.1 h with rfl|h
     ·exact⟨bare _ _ _ (by omega) h2 (by omega),⟨110,rfl⟩,nmle⟩
     ·exact qj4 hs hb f _ t h
   |sign n c=>
    rw[hl]at h
    dsimp only at h
    rcases List.mem_cons.1 h with rfl|h
    ·refine⟨zer,?_,by show([]:List UInt8).length<=maxLen;decide⟩
     have:=qkq hl
     unfold qgU at this
     simp only[List.mem_cons,List.not_mem_nil,or_false]at this
     rcases this with rfl|rfl|rfl|rfl|rfl|rfl|rfl|rfl|rfl<;>first|exact⟨40,rfl⟩|exact⟨41,rfl⟩|exact⟨47,rfl⟩|exact⟨38,rfl⟩|exact⟨126,rfl⟩|exact⟨63,rfl⟩|exact⟨42,rfl⟩|exact⟨43,rfl⟩|exact⟨60,rfl⟩
    ·exact qj4 hs hb f _ t h
theorem qmS (s:List UInt8) (hb:Bool):∀(f i:Nat),(qcs s hb f i).length<=f
 |0,_=>by simp[qcs]
 |f+1,i=>by
  have ih:=qmS s hb f
  rw[qcs]
  split
  ·simp
  ·split
   ·simp
   ·split
    ·have:=ih (qan s (qan s i+‹Nat›)+2);simp only[List.length_cons];omega
    ·have:=ih (qan s i+‹Nat›);simp only[List.length_cons];omega
   ·rename_i n c _;have:=ih (qan s i+n);simp only[List.length_cons];omega
theorem qaP.on {s:List UInt8} {hb:Bool} {T:List qag} {k i:Nat} (h:qaP s hb T k i) (h1:k+1<T.length):∃i',qaP s hb T (k+1) i':=by
 obtain⟨f,hd,hi,hf⟩:=id h
 have hlen:=congrArg List.length hd
 rw[List.length_drop]at hlen
 obtain⟨_,_,hh⟩:=h.here
 obtain⟨f,rfl⟩:∃f',f=f'+1:=⟨f-1,by omega⟩
 cases hh with
 |node n kk st tx q1 q2 q3 q4 q5 q6=>exact⟨_,q6⟩
 |head n st tx q1 q2 q3 q4 q5 q6 q7=>exact⟨_,q7⟩
 |sign n c q1 q2 q3 q4 q5=>exact⟨_,q5⟩
 |en q1 q2=>
  rw[qcs]at hlen
  split at hlen
  ·simp at hlen;omega
  ·rename_i he
   unfold qdH at q2
   rw[if_neg he]at q2
   cases hl:qen (s.drop (qan s i))with
   |bad=>rw[hl]at hlen;simp at hlen;omega
   |node n k st tx=>rw[hl]at q2;simp at q2
   |sign n c=>
    have:=(qkq hl)
    rw[hl]at q2;simp at q2;rw[q2.2]at this;simp[qgU]at this
 |bad q1 q2=>
  rw[qcs]at hlen
  split at hlen
  ·simp at hlen;omega
  ·rename_i he
   unfold qdH at q2
   rw[if_neg he]at q2
   cases hl:qen (s.drop (qan s i))with
   |bad=>rw[hl]at hlen;simp at hlen;omega
   |node n k st tx=>rw[hl]at q2;cases q2
   |sign n c=>rw[hl]at q2;cases q2
theorem qeX (s:List UInt8) (hb:Bool) (hs:s.length<=2000):qaP s hb (qcs s hb 2001 0) 0 0:=⟨2001,rfl,by omega,by omega⟩
theorem qjA {s:List UInt8} {hb:Bool} {T:List qag} (h0:qaP s hb T 0 0):∀k,k<T.length->∃i,qaP s hb T k i
 |0,_=>⟨0,h0⟩
 |k+1,h=>by
  obtain⟨i,hi⟩:=qjA h0 k (by omega)
  exact hi.on h
theorem qo5 {s:List UInt8} (hs:s.length<=2000) (hb:Bool):qnU (kdT (qcs s hb 2001 0)) (qcs s hb 2001 0).length:=λk hk h1 h2=>by
 obtain⟨i,hi⟩:=qjA (qeX s hb hs) k hk
 obtain⟨_,_,hh⟩:=hi.here
 cases hh with
 |en q1=>exact absurd q1 h1
 |bad q1=>exact absurd q1 h2
 |node n kk st tx q1 q2 q3 q4 q5 q6=>exact q6.here.1
 |head n st tx q1 q2 q3 q4 q5 q6 q7=>exact q7.here.1
 |sign n c q1 q2 q3 q4 q5=>exact q5.here.1
theorem qtw {s:List UInt8} (hs:s.length<=2000) (hb:Bool) {M:Mem} {L:Nat->Prop} {K:Value->Mem->Prop} {P:List PanicEntry->Prop}
  (hK:kdT (qcs s hb 2001 0) 0≠33->∀(b:Nat) M',M b=none->M.le M'->qgr s hb (qcs s hb 2001 0) b M' 0->K (.pointer (some ⟨b,0,none⟩)) M') (hP:kdT (qcs s hb 2001 0) 0=33->P (qfp (atT (qcs s hb 2001 0) 0))):qal Tryz.prog 182 #[.string (mkS s),.bool hb] M L K P:=by
 refine qop _ _ _ _ ⟨K,P⟩ (λb M4 hb4 hM4=>?_)
 have h4:RdM M4 b ⟨s,hb,⟨0,0,false,zE,0⟩⟩:=by unfold RdM;rw[hM4,Mem.add_eq];rfl
 have hst:=qeX s hb hs
 obtain⟨_,ha,hh⟩:=hst.here
 refine qeg _ _ _ _ ⟨_,P⟩ (qpI (i:=0) hs h4 (.inl (.inr hb4)) (by omega) _ (λtk htk M' hto=>⟨rfl,λM'' hle=>?_⟩) (λhno=>?_))
 ·refine hK (λh33=>?_) b M'' hb4 (λk o hk=>hle _ _ (hto.le k o (λe=>by rw[e,hb4]at hk;cases hk) (by rw[hM4];exact Mem.add_le hb4 _ _ hk))) ⟨0,tk,hst,by omega,htk,hto.me.le hle⟩
  cases hh with
  |bad _ q2=>rw[q2]at htk;cases htk
  |en q1=>omega
  |node n kk st tx q1=>omega
  |head n st tx q1=>omega
  |sign n c q1 _ q3=>rw[q1]at h33;exact(qef q3).1 h33
 ·have hp:=hP (by
   cases hh with
   |bad q1 _=>exact q1
   |en _ q2=>rw[q2]at hno;cases hno
   |node n kk st tx _ q2=>rw[q2]at hno;cases hno
   |head n st tx _ q2=>rw[q2]at hno;cases hno
   |sign n c _ q2=>rw[q2]at hno;cases hno)
  rw[ha]at hp
  exact hp
end Go.Proofs.YtleaplmdgckmkaaGreatDoor.core
namespace Go.Proofs.YtleaplmdgckmkaaGreatDoor.core
open Go.Gx Go.RowKit Go.ChangeShapes Go.WideShapes Go.ChangeAt
set_option linter.unusedVariables false
theorem qqo (p q:Addr) (w:World):Calls Tryz.prog 181 #[.nilIface,.pointer (some p),.pointer (some q)] w λe w'=>e= .returned (.tuple #[])/\w'=w:=by
 go_enter Tryz.func181,Tryz.ntmps181
 go_wp2
 exact bodyPost_ret (results_none rfl _ _ _) rfl ⟨rfl,rfl⟩
set_option maxRecDepth 100000 in
theorem qqn (p q:Nat) (i:Int) (x y:Value) (tp tq:TypeId) (w:World) (hp:w.heap[p]?=some (.cells #[x] tp (0,0))) (hq:w.heap[q]?=some (.cells #[y] tq (0,0))) (hpq:p≠q):
  Calls Tryz.prog 181 #[.iface 295 (.agg #[.int .i64 i]),.pointer (some ⟨p,0,none⟩),.pointer (some ⟨q,0,none⟩)] w λe w'=>e= .returned (.tuple #[])/\w'=((w.setCell ⟨p,0,none⟩ (.int .i64 i)).setCell ⟨q,0,none⟩ (.int .i64 4)).alloc (.cells #[.int .i64 i] 295):=by
 have hta:∀(v:Value) (t:TypeId) (w:World),(Instr.typeAssert (.iface 295 v) t 295 true).run Tryz.prog w= .ok (.tuple #[v,.bool true]) w:=λ_ _ _=>by kernel_rfl
 have lp:p<w.heap.size:=(Array.getElem?_eq_some_iff.1 hp).1
 have lq:q<w.heap.size:=(Array.getElem?_eq_some_iff.1 hq).1
 have c1:=cell_of_row _ p 0 _ _ _ hp
 have f1:=frozen_of_row _ p 0 _ _ hp
 have c2:=cell_of_row _ q 0 _ _ _ hq
 have f2:=frozen_of_row _ q 0 _ _ hq
 have e0:(#[x]:Array Value)[0]?=some x:=rfl
 have e1:(#[y]:Array Value)[0]?=some y:=rfl
 rw[e0]at c1
 rw[e1]at c2
 have hqp:¬q=p:=λe=>hpq e.symm
 clear hp hq e0 e1
 go_enter Tryz.func181,Tryz.ntmps181
 go_wp2
 exact bodyPost_end (results_none rfl _ _ _) rfl ⟨rfl,rfl⟩
theorem qq2 (p q:Addr) (w:World):CallsD Tryz.prog 180 #[.pointer (some p),.pointer (some q)] .returning w λe u' w'=>e= .returned (.tuple #[])/\u'= .returning/\w'=w:=by
 refine callsD_of_wpS Tryz.func180 rfl λc₀ cs hu=>?_
 apply wpS_region
 simp[wpOpsS,go_sem,recoverD,hu,Tryz.ntmps180]
 refine(qqo p q w).mono ?_
 rintro e w' ⟨rfl,rfl⟩
 refine⟨rfl,.returning,by cases c₀;simp_all,.tuple #[],results_none rfl _ _ _,rfl,rfl,rfl⟩
theorem qsw (p q:Nat) (i:Int) (x y:Value) (tp tq:TypeId) (w:World) (hp:w.heap[p]?=some (.cells #[x] tp (0,0))) (hq:w.heap[q]?=some (.cells #[y] tq (0,0))) (hpq:p≠q):
  CallsD Tryz.prog 180 #[.pointer (some ⟨p,0,none⟩),.pointer (some ⟨q,0,none⟩)] (.panicking (qfp i)) w λe u' w'=>e= .returned (.tuple #[])/\u'= .panicking [{v:=.iface 295 (.agg #[.int .i64 i]),recovered:=true}]/\w'=((w.setCell ⟨p,0,none⟩ (.int .i64 i)).setCell ⟨q,0,none⟩ (.int .i64 4)).alloc (.cells #[.int .i64 i] 295):=by
 unfold qfp
 refine callsD_of_wpS Tryz.func180 rfl λc₀ cs hu=>?_
 apply wpS_region
 simp[wpOpsS,go_sem,recoverD,hu,Tryz.ntmps180]
 refine(qqn p q i x y tp tq w hp hq hpq).mono ?_
 rintro e w' ⟨rfl,rfl⟩
 refine⟨rfl,_,rfl,.tuple #[],results_none rfl _ _ _,rfl,rfl,rfl⟩
end Go.Proofs.YtleaplmdgckmkaaGreatDoor.core
namespace Go.Proofs.YtleaplmdgckmkaaGreatDoor.core
open Go.Gx Go.RowKit Go.ChangeShapes Go.WideShapes Go.ChangeAt
set_option linter.unusedVariables false
theorem qtP {s:List UInt8} {hb:Bool} {T:List qag} {b:Nat} {M:Mem} {k:Nat} (h:qgr s hb T b M k) {L:Nat->Prop} {K:Value->Mem->Prop} (hK:∀M',M.le M'->K (.bool (decide (kdT T k=101))) M'):qaw Tryz.prog 187 #[.pointer (some ⟨b,0,none⟩)] M L K:=by
 obtain⟨tk,hr,_,ha,ht⟩:=h.tok
 refine qgY _ _ _ _ (qsy hr _ λM' hle=>?_)
 have:=hK M' hle
 rw[show(!tk.Node&&tk.Sign==0)=decide (kdT T k=101) from ?_]
 ·exact this
 ·cases ht with
  |en q1 q2 q3=>rw[q1,q2,q3];decide
  |node e q1 q2=>rw[q1,q2];rfl
  |head e q1 q2=>rw[q1,q2];rfl
  |sign e c q1 q2 q3 q4=>
   rw[q1,q2,q3]
   unfold qgU at q4
   simp only[List.mem_cons,List.not_mem_nil,or_false]at q4
   rcases q4 with rfl|rfl|rfl|rfl|rfl|rfl|rfl|rfl|rfl<;>decide
theorem qrB {s:List UInt8} {hb:Bool} {T:List qag} {b:Nat} {M:Mem} {k:Nat} (h:qgr s hb T b M k) {L:Nat->Prop} {K:Value->Mem->Prop} {P:List PanicEntry->Prop} (hP:P (qfp (atT T k))):qal Tryz.prog 184 #[.pointer (some ⟨b,0,none⟩)] M L K P:=by
 obtain⟨tk,hr,_,ha,ht⟩:=h.tok
 refine qhy _ _ _ ⟨K,P⟩ ⟨b,0,rfl,tk.At,hr.at 2 _ rfl,qnI _ _ _ _ _ ?_⟩
 rw[ha];exact hP
theorem qnV.heap {w:World} {b:Nat} {t:TypeId} {x:Value} (h:qnV w ⟨b,t,[x]⟩):w.heap[b]?=some (.cells #[x] t (0,0)):=h
theorem qqm {I:Dfs} {n:Nat} {E:World} {M0 M:Mem} {L:Nat->Prop} {w:World} {a:Act} {env:Env} {rs:List Rw} {b0 b1 b2 t0 t1 t2:Nat} {cs0:List Value} {x1 x2:Value} {u1 u2:Value} {o:Array Value} {t:TypeId}
  (hs: @Sx I n E (bwW E M0 L) M w a env [⟨b2,t2,[x2]⟩,⟨b1,t1,[x1]⟩,⟨b0,t0,cs0⟩] rs): @Sx I n E (bwW E M0 L) M (((w.setCell ⟨b1,0,none⟩ u1).setCell ⟨b2,0,none⟩ u2).alloc (.cells o t)) a env [⟨b2,t2,[u2]⟩,⟨b1,t1,[u1]⟩,⟨b0,t0,cs0⟩] rs:=by
 have h1:=hs.cell1 (v:=u1) 1 rfl
 have h2:=h1.cell1 (v:=u2) 0 rfl
 have hb:Below ((w.setCell ⟨b1,0,none⟩ u1).setCell ⟨b2,0,none⟩ u2).heap.size _ (((w.setCell ⟨b1,0,none⟩ u1).setCell ⟨b2,0,none⟩ u2).alloc (.cells o t)):=(Below.refl _ _).alloc (Nat.le_refl _) _
 exact h2.later hb (h2.on.later hb) (λ_ _=>rfl)
end Go.Proofs.YtleaplmdgckmkaaGreatDoor.core
namespace Go.Proofs.YtleaplmdgckmkaaGreatDoor.core
open Go.Gx Go.RowKit Go.ChangeShapes Go.WideShapes Go.ChangeAt
set_option linter.unusedVariables false
inductive Rl (kd:Nat->Int) (ex:Nat->Ex) (nm:Nat->List UInt8):List Ru->Nat->Option (List Ru)->Nat->Prop where
 |bad {acc:List Ru} {k:Nat}:kd k≠104->Rl kd ex nm acc k none k
 |no {acc:List Ru} {k n:Nat}:kd k=104->Ps kd ex .alt [] (k+1) none n->Rl kd ex nm acc k none n
 |en {acc:List Ru} {k n:Nat} {e:Ex}:kd k=104->Ps kd ex .alt [] (k+1) (some e) n->kd n=101->Rl kd ex nm acc k (some (acc++[⟨nm k,e⟩])) n
 |on {acc:List Ru} {k n m:Nat} {e:Ex} {r:Option (List Ru)}:kd k=104->Ps kd ex .alt [] (k+1) (some e) n->kd n≠101->Rl kd ex nm (acc++[⟨nm k,e⟩]) n r m->Rl kd ex nm acc k r m
theorem Rl.bound {kd:Nat->Int} {ex:Nat->Ex} {nm:Nat->List UInt8} {len:Nat} (hE:qnU kd len) {acc:List Ru} {k n:Nat} {r:Option (List Ru)} (h:Rl kd ex nm acc k r n):k<len->n<len:=by
 induction h with
 |bad _=>exact id
 |no h1 h2=>intro hk;exact(h2.bound hE (hE _ hk (by omega) (by omega))).2.1
 |en h1 h2 _=>intro hk;exact(h2.bound hE (hE _ hk (by omega) (by omega))).2.1
 |on h1 h2 _ _ ih=>intro hk;exact ih (h2.bound hE (hE _ hk (by omega) (by omega))).2.1
theorem Rl.inv {kd:Nat->Int} {ex:Nat->Ex} {nm:Nat->List UInt8} {acc:List Ru} {k n:Nat} {r:Option (List Ru)} (h:Rl kd ex nm acc k r n):(kd k≠104->r=none/\n=k)/\(kd k=104->∃r' n',Ps kd ex .alt [] (k+1) r' n'/\(r'=none->r=none/\n=n')/\
  ∀e,r'=some e->(kd n'=101->r=some (acc++[⟨nm k,e⟩])/\n=n')/\(kd n'≠101->Rl kd ex nm (acc++[⟨nm k,e⟩]) n' r n)):=by
 cases h with
 |bad h1=>exact⟨λ_=>⟨rfl,rfl⟩,λg=>absurd g h1⟩
 |no h1 h2=>exact⟨λg=>absurd h1 g,λ_=>⟨_,_,h2,λ_=>⟨rfl,rfl⟩,λe he=>by cases he⟩⟩
 |en h1 h2 h3=>exact⟨λg=>absurd h1 g,λ_=>⟨_,_,h2,(λhe=>by cases he),λe he=>by cases he;exact⟨λ_=>⟨rfl,rfl⟩,λg=>absurd h3 g⟩⟩⟩
 |on h1 h2 h3 h4=>exact⟨λg=>absurd h1 g,λ_=>⟨_,_,h2,(λhe=>by cases he),λe he=>by cases he;exact⟨λg=>absurd g h3,λ_=>h4⟩⟩⟩
theorem qqt {s:List UInt8} {i:Nat} (h:ql4 s (qan s i)=true):qdH s i=some ⟨(qan s i:Nat),(qan s i+2:Nat),false,zE,60⟩:=by
 have hl:=qnJ h
 have ht:=of_decide_eq_true h
 unfold qdH
 rw[if_neg (by omega)]
 obtain⟨c,hc⟩:∃c,s[qan s i]?=some c:=⟨s[qan s i]'(by omega),List.getElem?_eq_getElem _⟩
 have hd:=qe7 hc
 have h60:c=60:=by rw[hd,List.take_succ_cons]at ht;exact(List.cons.inj ht).1
 have:qen (s.drop (qan s i))= .sign 2 60:=by
  rw[hd]at ht ⊢
  subst h60
  rw[qen,if_neg (by decide),if_neg (by decide),if_neg (by decide),if_neg (by decide),if_pos ⟨rfl,ht⟩]
 rw[this];rfl
section
variable {s:List UInt8} {T:List qag} {b:Nat}
theorem qsC {hb:Bool} (hs:s.length<=2000) {M:Mem} {L:Nat->Prop} {k:Nat} (h:qgr s hb T b M k) (hw:Wr L M b) (h1:kdT T k=104) {K:Value->Mem->Prop} {P:List PanicEntry->Prop}
  (hK:∀M' (j:Nat),Kep b M M'->j<=s.length->qaP s hb T (k+1) j->(∃tk:qav,tk.To=(j:Nat)/\RdM M' b ⟨s,hb,tk⟩)->K (.tuple #[]) M'):qal Tryz.prog 185 #[.pointer (some ⟨b,0,none⟩)] M L K P:=by
 obtain⟨tk,hr,hk,ha,ht⟩:=h.tok
 cases ht with
 |en q1=>omega
 |node e q1=>omega
 |sign e c q1 _ _ q4=>rw[q1]at h1;exact absurd h1 (qef q4).2.2.1
 |head e q1 q2 q3 q4 q5 q6 q7 q8 q9 q10=>
  have hl:=qnJ q9
  refine qdA _ _ _ ⟨K,P⟩ (qsR hs hr hw q6 q7 _ (λtk' htk M' hM'=>?_) (λhno=>?_))
  ·rw[qqt q9]at htk
   cases htk
   exact hK M' (qan s e+2) hM'.le hl q10 ⟨_,rfl,hM'.me⟩
  ·rw[qqt q9]at hno;cases hno
theorem qrD {hb:Bool} (hs:s.length<=2000) {M:Mem} {L:Nat->Prop} {k j:Nat} (hw:Wr L M b) (hj:j<=s.length) (hst:qaP s hb T k j) {tk:qav} (hto:tk.To=(j:Nat)) (hr:RdM M b ⟨s,hb,tk⟩) {K:Value->Mem->Prop} {P:List PanicEntry->Prop}
  (hK:kdT T k≠33->∀M',Kep b M M'->qgr s hb T b M' k->K (.tuple #[]) M') (hP:kdT T k=33->P (qfp (atT T k))):qal Tryz.prog 185 #[.pointer (some ⟨b,0,none⟩)] M L K P:=by
 obtain⟨_,ha',hh⟩:=hst.here
 refine qdA _ _ _ ⟨K,P⟩ (qsR hs hr hw hto hj _ (λtk' htk M' hM'=>hK (λh33=>?_) M' hM'.le ⟨j,tk',hst,hj,htk,hM'.me⟩) (λhno=>?_))
 ·cases hh with
  |bad _ q2=>rw[q2]at htk;cases htk
  |en q1=>omega
  |node n kk st tx q1=>omega
  |head n st tx q1=>omega
  |sign n c q1 _ q3=>rw[q1]at h33;exact(qef q3).1 h33
 ·have hp:=hP (by
   cases hh with
   |bad q1 _=>exact q1
   |en _ q2=>rw[q2]at hno;cases hno
   |node n kk st tx _ q2=>rw[q2]at hno;cases hno
   |head n st tx _ q2=>rw[q2]at hno;cases hno
   |sign n c _ q2=>rw[q2]at hno;cases hno)
  rw[ha']at hp
  exact hp
end
theorem qrO {M M':Mem} {rs:List Ru} {xs:List qai} (h:qcX (RuR M) rs xs) (hl:M.le M'):qcX (RuR M') rs xs:=h.mono λ_ _ q=>q.le hl
theorem qtu {T:List qag} (hok:∀t∈T,qus t) (k:Nat):(nmT T k).length<=maxLen:=by
 unfold nmT
 cases h:T[k]? with
 |none=>exact Nat.zero_le _
 |some t=>exact(hok t (List.mem_of_getElem? h)).nm
theorem qqX {s:List UInt8} (hs:s.length<=2000) {M:Mem} {r:Option (List Ru)} {n:Nat} (hp:Rl (kdT (qcs s true 2001 0)) (exT (qcs s true 2001 0)) (nmT (qcs s true 2001 0)) [] 0 r n) (K:Value->Mem->Prop)
  (h1:∀rs,r=some rs->∀M' A c,M.le M'->GrR M' rs A rs.length c->K (.tuple #[.agg #[.slice A rs.length c],.int .i64 0,.int .i64 0]) M')
  (h2:r=none->∀M' A (l:Nat) c,K (.tuple #[.agg #[.slice A l c],.int .i64 (atT (qcs s true 2001 0) n),.int .i64 4]) M'):qaf Tryz.prog 153 #[.string (mkS s)] M K:=by
 have hE:=qo5 hs true
 have hst:=qeX s true hs
 have hok:=qj4 hs true 2001 0
 have hlen:(qcs s true 2001 0).length<=3000:=Nat.le_trans (qmS s true 2001 0) (by omega)
 generalize hT:qcs s true 2001 0=T at*
 have h0:=hst.here.1
 refine(qk6 s M (λ_=>False) ⟨K,λch=>∃i:Int,ch=qfp i/\∀M' A (l:Nat) c,K (.tuple #[.agg #[.slice A l c],.int .i64 i,.int .i64 4]) M'⟩ ?_ ?_ qq2).toE
 ·refine qtw hs true (λh33 b M6 hb hle hR=>⟨_,rfl,?_⟩) (λh33=>?_)
  ·rw[hT]at h33 hR
   have hw:∀M',Wr (Wr (λ_=>False) M) M' b:=λM'=>.inl (.inr hb)
   let I:Nat×List Ru->Nat->List Value->Mem->Prop:=λg rn rx M2=>∃xs:List qai,g.1<T.length/\g.2.length<=g.1/\rn=g.2.length/\rx=cl qai.cells xs/\qcX (RuR (veil b M2)) g.2 xs/\qgr s true T b M2 g.1/\Rl (kdT T) (exT T) (nmT T) g.2 g.1 r n/\M.le M2
   let mu:Nat×List Ru->Nat->List Value->Nat:=λg _ _=>T.length-g.1
   have keep:∀{M1 M2:Mem},Kep b M1 M2->M.le M1->M.le M2:=λ{M1 M2} hk hl k o hm=>hk k o (λe=>by rw[e,hb]at hm;cases hm) (hl _ _ hm)
   refine⟨Nat×List Ru,I,mu,(0,[]),⟨[],h0,Nat.le_refl _,rfl,rfl,rfl,hR,hp,hle⟩,λg rn rx M2 ⟨xs,hkl,hal,hrn,hrx,h2',hR2,hrl,hle2⟩=>?_⟩
   obtain⟨k2,acc⟩:=g
   dsimp only at hkl hal hrn h2' hR2 hrl
   subst hrn hrx
   obtain⟨inv1,inv2⟩:=hrl.inv
   refine qd2 _ _ _ _ (qnj hs hR2 _ λM71 h71=>⟨_,rfl,λhn=>qrB (hR2.le h71) ?_,λhn=>?_⟩)
   ·obtain⟨q1,q2⟩:=inv1 (by simpa using hn)
    rw[<-q2]
    exact⟨_,rfl,h2 q1⟩
   ·have h104:kdT T k2=104:=by simpa using hn
    have hk3:=hE _ hkl (by omega) (by omega)
    have hR71:=hR2.le h71
    obtain⟨tk,hr,_,ha,ht⟩:=hR71.tok
    have hnm:nmT T k2=tk.Expr.Text:=by
     cases ht with
     |head e q1 q2 q3 q4 q5=>exact q5
     |en q1=>omega
     |node e q1=>omega
     |sign e c q1 _ _ q4=>rw[q1]at h104;exact absurd h104 (qef q4).2.2.1
    refine⟨b,0,rfl,tk.Expr.Text,hr.at 10 _ rfl,qsC hs hR71 (hw _) h104 λM77 j hkp77 hj hst77 ⟨tk',hto,hr77⟩=>⟨rfl,qrD hs (hw _) hj hst77 hto hr77 (λg33 M78 hkp78 hR78=>⟨rfl,?_⟩) (λg33=>?_)⟩⟩
    ·obtain⟨r',n',h',hno,hso⟩:=inv2 h104
     obtain⟨b1,b2,b3⟩:=h'.bound hE hk3
     refine(qlQ hs hok hlen hE _ (k2+1) hk3 (Nat.le_refl _) M78 (Wr (λ_=>False) M) hR78 (hw _)).2.2.2 r' n' h' _ _ ⟨λe he hn33 M80 x hkp80 hR80 hx=>⟨x,rfl,by omega,?_⟩,λhh=>?_⟩
     ·subst he
      obtain⟨s1,s2⟩:=hso e rfl
      have b3:=b3 rfl rfl
      have hkp:Kep b M2 M80:=(((Kep.of h71).trans hkp77).trans hkp78).trans hkp80
      have hnew:RuR (veil b M80) ⟨nmT T k2,e⟩ ⟨tk.Expr.Text,x⟩:=⟨hnm.symm,qtu hok k2,hx⟩
      unfold qda
      refine qtP hR80 λM92 h92=>⟨_,rfl,λhend M95 ad cap hnr M' hle'=>?_,λhend=>⟨(n',acc++[⟨nmT T k2,e⟩]),⟨xs++[⟨tk.Expr.Text,x⟩],b2,by simp;omega,by simp,qhS _ _,?_,hR80.le h92,s2 (by simpa using hend),(keep hkp hle2).trans h92⟩,by dsimp only[mu];omega⟩⟩
      ·obtain⟨q1,q2⟩:=s1 (by simpa using hend)
       have hv:=qd8 hnr (hR80.le h92).has
       have:=h1 _ q1 M' ad cap ((keep hkp hle2).trans ((h92.trans hnr.le).trans hle')) ?_
       ·rw[List.length_append]at this;exact this
       ·refine GrR.le (M:=veil b M95) ⟨xs++[⟨tk.Expr.Text,x⟩],?_,(qrO h2' (hkp.trans (Kep.of (h92.trans hnr.le))).veil).snoc (hnew.le (Kep.of (h92.trans hnr.le)).veil),by simp⟩ ((qsg b M95).trans hle')
        rw[<-qhS,List.length_append]
        exact hv.slv
      ·exact(qrO h2' (hkp.trans (Kep.of h92)).veil).snoc (hnew.le (Kep.of h92).veil)
     ·cases r' with
      |none=>
       obtain⟨q1,q2⟩:=hno rfl
       rw[<-q2];exact⟨_,rfl,h2 q1⟩
      |some e=>
       rcases hh with hh|hh
       ·cases hh
       ·have hrl':=(hso e rfl).2 (by omega)
        obtain⟨q1,q2⟩:=hrl'.inv.1 (by omega)
        rw[<-q2];exact⟨_,rfl,h2 q1⟩
    ·obtain⟨r',n',h',hno,hso⟩:=inv2 h104
     obtain⟨p1,p2⟩:=qjN h' g33 rfl
     obtain⟨q1,q2⟩:=hno p1
     rw[<-p2,<-q2];exact⟨_,rfl,h2 q1⟩
  ·rw[hT]at h33
   obtain⟨q1,q2⟩:=hp.inv.1 (by omega)
   rw[hT,<-q2]
   exact⟨_,rfl,h2 q1⟩
 ·rintro E I ch a w M' env rs b0 b1 b2 cs0 x1 x2 ⟨i,rfl,hK⟩ hM hs' hI e0 e1 e2 ⟨q,rw0,hq,rfl⟩
  have hb1:=qnV.heap (hs'.bx _ (List.mem_of_getElem? (i:=1) rfl)).1
  have hb2:=qnV.heap (hs'.bx _ (List.mem_of_getElem? (i:=0) rfl)).1
  have hne:b1≠b2:=by
   have:=hs'.nd.b
   simp at this
   exact λe=>this.1.1 e.symm
  have hsl:∃A l c,rw0.v= .slice A l c:=by
   obtain⟨g1,_⟩:=hs'.rw rw0 (List.mem_of_getElem? hq)
   rcases g1.2 with⟨hv,_⟩|⟨g,cap,cur,hv,_⟩
   ·exact⟨_,_,_,hv⟩
   ·exact⟨_,_,_,hv⟩
  obtain⟨A,l,c,hv⟩:=hsl
  refine qr5 (t:=295) (u:=.agg #[.int .i64 i]) hs' hI (qeO Tryz.func180 rfl (by kernel_rfl)) ((qsw b1 b2 i x1 x2 _ _ w hb1 hb2 hne).mono ?_)
  rintro e u' w' ⟨rfl,rfl,rfl⟩
  have hs2:=qqm (u1:=.int .i64 i) (u2:=.int .i64 4) (o:= #[.int .i64 i]) (t:=295) hs'
  refine⟨rfl,rfl,M',_,_,_,hM,hs2,qrP true hs2 rfl e0 e1 e2 (by kernel_rfl) (by kernel_rfl) (by kernel_rfl),λM'' _=>?_⟩
  have:=hK M'' A l c
  rw[<-hv]at this
  exact this
end Go.Proofs.YtleaplmdgckmkaaGreatDoor.core
