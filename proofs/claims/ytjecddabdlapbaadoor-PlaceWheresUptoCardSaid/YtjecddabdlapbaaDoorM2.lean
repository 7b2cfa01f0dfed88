/- Contracts and what they hang on, of several parts. No condition. -/
import Derived.Test.YtjecddabdlapbaaDoorPlaceG
import Derived.Test.YtjecddabdlapbaaDoorM1
import Derived.Deep.DeepHandedRow
import Derived.Lib.LaidTab
import Derived.Stop.LaidErr
import Derived.Lay
import Derived.LaidMore
import Derived.Stop.Joined
import Derived.Deep.CondSized
namespace Go.Proofs.YtjecddabdlapbaaDoor.core
open Go.Gx Go.RowKit Go.ChangeShapes Go.WideShapes Go.ChangeAt
set_option linter.unusedVariables false
def S_chafflaw_PlaceWheres (s1:List UInt8) (at2:Int) (M:Mem) (K:Value->Prop):Prop:=
 (CallE Tryd.prog 22 #[(.string (mkS s1)),(.int .i64 at2)] M (λv _=>∃(x3:X_api_Pos) (x4:Int),v=(Value.tuple #[x3.val,(.int .i64 x4)])/\(CallE Tryd.prog 23 #[(.string (mkS s1)),(.int .i64 at2)] M (λv _=>∃(x6:X_api_Pos) (x7:Int),v=(Value.tuple #[x6.val,(.int .i64 x7)])/\((((x3.Line:Int)=x6.Line)/\((x3.Col:Int)=x6.Col)->K (Value.bool ((x4:Int)==(x7:Int))))/\(¬(((x3.Line:Int)=x6.Line)/\((x3.Col:Int)=x6.Col))->K (Value.bool false)))))))
set_option maxRecDepth 100000 in
theorem s_chafflaw_PlaceWheres (s1:List UInt8) (at2:Int) (M:Mem) (K:Value->Prop) (hS:S_chafflaw_PlaceWheres s1 at2 M K):CallE Tryd.prog 4 #[(Value.string (mkS s1)),(Value.int .i64 at2)] M (λv _=>K v):=by
 refine eE2 Tryd.func4 29 λE a hMM hs=>?_;unfold S_chafflaw_PlaceWheres at hS;refine qr (sP (.bool false) hs λ_ hs=>?_);refine wn (qr (sP2 (.string (mkS s1)) (iv at2) hs λ_ hs=>?_));refine cP [(.string (mkS s1)),(iv at2)] hs Tryd.func22 hS λ_ _ v hS hs=>?_;obtain⟨x3,x4,rfl,hS⟩:=hS;refine sP3 (Value.tuple #[x3.val,(iv x4)]) x3.val (iv x4) hs λ_ hs=>?_;refine stepAlloc [(iv 0),(iv 0)] hs (by kernel_rfl) (by decide) (λ_ _ b5 hEb5 hs=>?_);refine stB 0 [(iv x3.Line),(iv x3.Col)] [⟨b5,35,[(iv x3.Line),(iv x3.Col)]⟩] hs λ_ _ hs=>?_;refine sP (iv x4) hs λ_ hs=>?_;refine wn (qr (sP2 (.string (mkS s1)) (iv at2) hs λ_ hs=>?_));refine cP [(.string (mkS s1)),(iv at2)] hs Tryd.func23 hS λ_ _ v hS hs=>?_;obtain⟨x6,x7,rfl,hS⟩:=hS;refine sP3 (Value.tuple #[x6.val,(iv x7)]) x6.val (iv x7) hs λ_ hs=>?_;refine stepAlloc [(iv 0),(iv 0)] hs (by kernel_rfl) (by decide) (λ_ _ b8 hEb8 hs=>?_)
 refine stB 0 [(iv x6.Line),(iv x6.Col)] [⟨b8,35,[(iv x6.Line),(iv x6.Col)]⟩,⟨b5,35,[(iv x3.Line),(iv x3.Col)]⟩] hs λ_ _ hs=>?_;refine sP (iv x7) hs λ_ hs=>?_;refine wn (qr (sY x3.val hs (Yl.lB x3.cells true 1) λ_ hs=>?_));refine sY x6.val hs (Yl.lB x6.cells true 0) λ_ hs=>?_;refine sY (.bool (((x3.Line:Int)==(x6.Line:Int))&&((x3.Col:Int)==(x6.Col:Int)))) hs (Yl.eqlC (b:=(((x3.Line:Int)==(x6.Line:Int))&&((x3.Col:Int)==(x6.Col:Int)))) [(iv x3.Line),(iv x3.Col)] [(iv x6.Line),(iv x6.Col)] rfl (by kernel_rfl) (by kernel_rfl) rfl rfl (by kernel_rfl)) λ_ hs=>?_;refine sP (.bool (((x3.Line:Int)==(x6.Line:Int))&&((x3.Col:Int)==(x6.Col:Int)))) hs λ_ hs=>?_;refine bsS (band_iff beq_iff_eq beq_iff_eq) hs hS (λhs hS=>?_) (λhs hS=>?_)
 ·refine ye (iv x4) hs λ_ hs=>?_;refine ye (iv x7) hs λ_ hs=>?_;refine ye (.bool ((x4:Int)==(x7:Int))) hs λ_ hs=>?_;refine sP2 (.bool ((x4:Int)==(x7:Int))) (.bool ((x4:Int)==(x7:Int))) hs λ_ hs=>?_;exact wn (qt (rT hs hMM hS))
 ·repeat (first|refine sNo hs λ_ hs=>?_|refine sNu hs λ_ hs=>?_)
  refine sP2 (.bool false) (.bool false) hs λ_ hs=>?_;exact wn (qt (rT hs hMM hS))
end Go.Proofs.YtjecddabdlapbaaDoor.core

namespace Go.Gx
open Go.RowKit Go.ChangeShapes Go.WideShapes Go.ChangeAt
theorem witness_row_shaped {H:Type} {enc:TypeId×Value->H} {C:Checked} {os:Os} {f:FuncId} {fn:Func} {s:OpenSpec} {conds:List PathCond} {apart:Bool} {laid:List (String×DataW Unit)} (w0:World) (args:Array Value) (hos:w0.os=os)
  (hsh:(w0.forCall (λ_ _=>0) ⟨#[],args,[]⟩).Shaped C.prog) (hok:Input.okWideB C.prog (w0.forCall (λ_ _=>0) ⟨#[],args,[]⟩) f ⟨#[],args,[]⟩=true)
  (hrow:s.preRow enc C.prog fn conds apart laid (w0.forCall (λ_ _=>0) ⟨#[],args,[]⟩).memory args):
  ∃(w:World) (tape:Tape) (i:Input),w.os=os/\(w.forCall tape i).Shaped C.prog/\i.vars=[]/\Input.okWide C.prog (w.forCall tape i) .any w.heap.size f i/\
   s.preRow enc C.prog fn conds apart laid (w.forCall tape i).memory i.args/\({}:Assume).holds C.prog (lone (Frame.enter C.prog f i.args .normal) [] (w.forCall tape i)):=
 ⟨w0,λ_ _=>0,⟨#[],args,[]⟩,hos,hsh,(Input.okWide_of_okWideB (base:=0) hok).1,(Input.okWide_of_okWideB hok).2,hrow,by
  simp only[Assume.holds]
  exact⟨by simp,by simp,λ_=>Modest.zero,by simp,by simp⟩⟩
end Go.Gx

