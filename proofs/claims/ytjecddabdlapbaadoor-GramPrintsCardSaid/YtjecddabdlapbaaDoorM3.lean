/- Contracts and what they hang on, of several parts. No condition. -/
import Derived.Shelf.Strings.OnBuilder
import Derived.Test.YtjecddabdlapbaaDoorM2
import Derived.Test.YtjecddabdlapbaaDoorM1
namespace Go.Proofs.YtjecddabdlapbaaDoor.core
open Go.Gx Go.RowKit Go.ChangeShapes Go.WideShapes Go.ChangeAt
set_option linter.unusedVariables false
open Go.Shelf
def sh_lays156_ren:Go.Shelf.Ren:=⟨λ|156=>73|165=>109|166=>108|169=>72|240=>130|241=>131|276=>146|277=>147|n=>n,λ|31=>88|9=>9|3=>3|4=>4|0=>0|20=>20|72=>112|76=>130|70=>110|37=>85|75=>129|127=>146|164=>179|5=>5|80=>114|n=>n,λ|n=>n⟩
theorem sh_lays156:Go.Proofs.Lays.n156 Tryd.prog sh_lays156_ren:={
 mixed:=by kernel_rfl
 f156:=Tryd.func73.trans (congrArg some (by kernel_rfl))
 f165:=Tryd.func109.trans (congrArg some (by kernel_rfl))
 f166:=Tryd.func108.trans (congrArg some (by kernel_rfl))
 f169:=Tryd.func72.trans (congrArg some (by kernel_rfl))
 f240:=Tryd.func130.trans (congrArg some (by kernel_rfl))
 f241:=Tryd.func131.trans (congrArg some (by kernel_rfl))
 f276:=Tryd.func146.trans (congrArg some (by kernel_rfl))
 f277:=Tryd.func147.trans (congrArg some (by kernel_rfl))
 t0:=Tryd.underlying0
 a0:=Tryd.isAgg0
 z0:=Tryd.sizeOf0
 v0:=Tryd.zeroValue0
 t3:=Tryd.underlying3
 a3:=Tryd.isAgg3
 z3:=Tryd.sizeOf3
 v3:=Tryd.zeroValue3
 t4:=Tryd.underlying4
 a4:=Tryd.isAgg4
 z4:=Tryd.sizeOf4
 v4:=Tryd.zeroValue4
 t9:=Tryd.underlying9
 a9:=Tryd.isAgg9
 z9:=Tryd.sizeOf9
 v9:=Tryd.zeroValue9
 t20:=Tryd.underlying20
 a20:=Tryd.isAgg20
 z20:=Tryd.sizeOf20
 v20:=Tryd.zeroValue20
 t31:=Tryd.underlying88
 a31:=Tryd.isAgg88
 z31:=Tryd.sizeOf88
 v31:=Tryd.zeroValue88
 t37:=Tryd.underlying85
 a37:=Tryd.isAgg85
 z37:=Tryd.sizeOf85
 v37:=Tryd.zeroValue85
 t70:=Tryd.underlying110
 a70:=Tryd.isAgg110
 z70:=Tryd.sizeOf110
 v70:=Tryd.zeroValue110
 t72:=Tryd.underlying112
 a72:=Tryd.isAgg112
 z72:=Tryd.sizeOf112
 v72:=Tryd.zeroValue112
 t75:=Tryd.underlying129
 a75:=Tryd.isAgg129
 z75:=Tryd.sizeOf129
 v75:=Tryd.zeroValue129
 t76:=Tryd.underlying130
 a76:=Tryd.isAgg130
 z76:=Tryd.sizeOf130
 v76:=Tryd.zeroValue130
 t127:=Tryd.underlying146
 a127:=Tryd.isAgg146
 z127:=Tryd.sizeOf146
 v127:=Tryd.zeroValue146
 t164:=Tryd.underlying179
 a164:=Tryd.isAgg179
 z164:=Tryd.sizeOf179
 v164:=Tryd.zeroValue179}
theorem sh_Builder_Extra_156:Builder.Extra Tryd.prog sh_lays156_ren:={
 sizeBuilder:=by kernel_rfl
 liesBuilder:=by kernel_rfl
 t5:=Tryd.underlying5
 a5:=Tryd.isAgg5
 z5:=Tryd.sizeOf5
 v5:=Tryd.zeroValue5
 infoByte:=by kernel_rfl
 cellsByte:=by kernel_rfl
 sizeByte:=by kernel_rfl
 neB5:=by decide}
open Go.RowKit in
theorem sh_strings_Join_none (a:Option Addr) (c:Nat) (sep:ByteArray) (w:World):
  Calls Tryd.prog 73 #[.slice a 0 c,.string sep] w λe w'=>e= .returned (.string ⟨#[]⟩)/\w'=w:=Any.strings_Join_none sh_lays156 sh_Builder_Extra_156 a c sep w
open Go.RowKit in
theorem sh_strings_Join (bk o c:Nat) (xs:List ByteArray) (sep:ByteArray) (w:World) (hcells:∀(j:Nat) x,xs[j]?=some x->w.cell? ⟨bk,o+j,none⟩=some (.string x)) (hbk:bk<w.heap.size) (hN:xs.length<=140737488355328) (hcap:xs.length<=c) (hlen:(Lib.join (xs.map (·.data.toList)) sep.data.toList).length<=140737488355328):
  Calls Tryd.prog 73 #[.slice (some ⟨bk,o,none⟩) xs.length c,.string sep] w λe w'=>e= .returned (.string ⟨(Lib.join (xs.map (·.data.toList)) sep.data.toList).toArray⟩)/\Below w.heap.size w w':=Any.strings_Join sh_lays156 sh_Builder_Extra_156 bk o c xs sep w hcells hbk hN hcap hlen
end Go.Proofs.YtjecddabdlapbaaDoor.core

namespace Go.Proofs.YtjecddabdlapbaaDoor.core
open Go.Gx Go.RowKit Go.ChangeShapes Go.WideShapes Go.ChangeAt
set_option linter.unusedVariables false
def wfS (s:X_api_Set):Prop:=(Lit.int .u64 s.w0).wf=true/\(Lit.int .u64 s.w1).wf=true/\(Lit.int .u64 s.w2).wf=true/\(Lit.int .u64 s.w3).wf=true
end Go.Proofs.YtjecddabdlapbaaDoor.core

