/- Contracts of functions: what each answers at every input that its caller may hand it. No condition. -/
import Derived.Lib.LaidU8
import Derived.LaidLaws
import Derived.Test.YtjecddabdlapbaaDoorM2
import Derived.Test.YtjecddabdlapbaaDoorRows
namespace Go.Proofs.YtjecddabdlapbaaDoor.core
open Go.Gx Go.RowKit Go.ChangeShapes Go.WideShapes Go.ChangeAt
set_option linter.unusedVariables false
theorem heap_of_var {P:Program} {W:World} {name:String} {g:Nat} {cs:Array Value} (hg:P.globalNamed name=some g) (h:W.var? P name=some cs):∃e f,HM W g=some (.cells cs e f):=by
 unfold World.var? at h
 rw[hg]at h
 simp only[Option.bind_some]at h
 split at h
 ·rename_i c e f hq
  cases h
  exact⟨e,f,hq⟩
 ·cases h
theorem pow_data:(Rows.laid_internal_strconv_uint64pow10:DataW Unit)=Lib.tabData .u64 Lib.pow10Tab:=by kernel_rfl
theorem pow_of {W:World} (h:Lib.VarReads Tryd.prog W "internal/strconv.uint64pow10" Rows.laid_internal_strconv_uint64pow10):∃e f,HM W 6=some (.cells (Lib.pow10Tab.map λz=>Value.int .u64 z).toArray e f):=by
 obtain⟨g,t,cs,fuel,p,hg,hty,hvar,hd⟩:=h
 obtain rfl:=Option.some.inj ((show Tryd.prog.globalNamed "internal/strconv.uint64pow10"=some 6 by kernel_rfl).symm.trans hg)
 obtain rfl:=Option.some.inj ((show(Tryd.prog.globals[6]?).map (·.type)=some 200 by kernel_rfl).symm.trans hty)
 rw[pow_data]at hd
 have hcs:=Lib.cells_of_tab (n:=20) (e:=22) (by kernel_rfl) (by kernel_rfl) (by kernel_rfl) (by kernel_rfl) hd
 obtain⟨e,f,q⟩:=heap_of_var hg hvar
 refine⟨e,f,?_⟩
 rw[q,<-hcs]
end Go.Proofs.YtjecddabdlapbaaDoor.core
