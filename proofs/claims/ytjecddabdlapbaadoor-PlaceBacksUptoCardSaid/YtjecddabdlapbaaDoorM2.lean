/- Contracts and what they hang on, of several parts. No condition. -/
import Derived.Test.YtjecddabdlapbaaDoorPlaceG
import Derived.Test.YtjecddabdlapbaaDoorM1
import Derived.Deep.DeepHandedRow
import Derived.Lib.LaidTab
import Derived.Stop.LaidErr
import Derived.Lay
import Derived.LaidMore
import Derived.Stop.Joined
import Derived.Deep.CondSized
namespace Go.Proofs.YtjecddabdlapbaaDoor.core
open Go.Gx Go.RowKit Go.ChangeShapes Go.WideShapes Go.ChangeAt
set_option linter.unusedVariables false
def S_chafflaw_PlaceBacks (s1:List UInt8) (p2:X_api_Pos) (M:Mem) (K:Value->Prop):Prop:=
 (CallE Tryd.prog 24 #[(.string (mkS s1)),p2.val] M (λv _=>∃(x4:Int) (x5:Int),v=(Value.tuple #[(.int .i64 x4),(.int .i64 x5)])/\(CallE Tryd.prog 25 #[(.string (mkS s1)),p2.val] M (λv _=>∃(x6:Int) (x7:Int),v=(Value.tuple #[(.int .i64 x6),(.int .i64 x7)])/\(((x4:Int)=x6->K (Value.bool ((x5:Int)==(x7:Int))))/\(¬((x4:Int)=x6)->K (Value.bool false)))))))
set_option maxRecDepth 100000 in
theorem s_chafflaw_PlaceBacks (s1:List UInt8) (p2:X_api_Pos) (M:Mem) (K:Value->Prop) (hS:S_chafflaw_PlaceBacks s1 p2 M K):CallE Tryd.prog 5 #[(Value.string (mkS s1)),p2.val] M (λv _=>K v):=by
 refine eE2 Tryd.func5 29 λE a hMM hs=>?_;unfold S_chafflaw_PlaceBacks at hS;refine qr (stepBox [(iv p2.Line),(iv p2.Col)] hs rfl rfl rfl (by decide) (λ_ _ b3 hEb3 hs=>?_));refine sP (.bool false) hs λ_ hs=>?_;refine wn (qr (sP (.string (mkS s1)) hs λ_ hs=>?_));refine sY p2.val hs (Yl.lB p2.cells true 0) λ_ hs=>?_;refine cP [(.string (mkS s1)),p2.val] hs Tryd.func24 hS λ_ _ v hS hs=>?_;obtain⟨x4,x5,rfl,hS⟩:=hS;refine sP4 (Value.tuple #[(iv x4),(iv x5)]) (iv x4) (iv x5) (iv x4) hs λ_ hs=>?_;refine sP (iv x5) hs λ_ hs=>?_;refine wn (qr (sP (.string (mkS s1)) hs λ_ hs=>?_));refine sY p2.val hs (Yl.lB p2.cells true 0) λ_ hs=>?_;refine cP [(.string (mkS s1)),p2.val] hs Tryd.func25 hS λ_ _ v hS hs=>?_;obtain⟨x6,x7,rfl,hS⟩:=hS;refine sP4 (Value.tuple #[(iv x6),(iv x7)]) (iv x6) (iv x7) (iv x6) hs λ_ hs=>?_;refine sP (iv x7) hs λ_ hs=>?_;refine wn (qr (sP2 (iv x4) (iv x6) hs λ_ hs=>?_))
 refine sP2 (.bool ((x4:Int)==(x6:Int))) (.bool ((x4:Int)==(x6:Int))) hs λ_ hs=>?_;refine bsS beq_iff_eq hs hS (λhs hS=>?_) (λhs hS=>?_)
 ·refine ye (iv x5) hs λ_ hs=>?_;refine ye (iv x7) hs λ_ hs=>?_;refine ye (.bool ((x5:Int)==(x7:Int))) hs λ_ hs=>?_;refine sP2 (.bool ((x5:Int)==(x7:Int))) (.bool ((x5:Int)==(x7:Int))) hs λ_ hs=>?_;exact wn (qt (rT hs hMM hS))
 ·repeat (first|refine sNo hs λ_ hs=>?_|refine sNu hs λ_ hs=>?_)
  refine sP2 (.bool false) (.bool false) hs λ_ hs=>?_;exact wn (qt (rT hs hMM hS))
end Go.Proofs.YtjecddabdlapbaaDoor.core

namespace Go.Gx
open Go.RowKit Go.ChangeShapes Go.WideShapes Go.ChangeAt
theorem witness_row_shaped {H:Type} {enc:TypeId×Value->H} {C:Checked} {os:Os} {f:FuncId} {fn:Func} {s:OpenSpec} {conds:List PathCond} {apart:Bool} {laid:List (String×DataW Unit)} (w0:World) (args:Array Value) (hos:w0.os=os)
  (hsh:(w0.forCall (λ_ _=>0) ⟨#[],args,[]⟩).Shaped C.prog) (hok:Input.okWideB C.prog (w0.forCall (λ_ _=>0) ⟨#[],args,[]⟩) f ⟨#[],args,[]⟩=true)
  (hrow:s.preRow enc C.prog fn conds apart laid (w0.forCall (λ_ _=>0) ⟨#[],args,[]⟩).memory args):
  ∃(w:World) (tape:Tape) (i:Input),w.os=os/\(w.forCall tape i).Shaped C.prog/\i.vars=[]/\Input.okWide C.prog (w.forCall tape i) .any w.heap.size f i/\
   s.preRow enc C.prog fn conds apart laid (w.forCall tape i).memory i.args/\({}:Assume).holds C.prog (lone (Frame.enter C.prog f i.args .normal) [] (w.forCall tape i)):=
 ⟨w0,λ_ _=>0,⟨#[],args,[]⟩,hos,hsh,(Input.okWide_of_okWideB (base:=0) hok).1,(Input.okWide_of_okWideB hok).2,hrow,by
  simp only[Assume.holds]
  exact⟨by simp,by simp,λ_=>Modest.zero,by simp,by simp⟩⟩
end Go.Gx

