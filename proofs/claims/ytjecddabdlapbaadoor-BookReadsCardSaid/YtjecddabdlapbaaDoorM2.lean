/- Contracts and what they hang on, of several parts. No condition. -/
import Derived.Test.YtjecddabdlapbaaDoorBookRG
import Derived.Test.YtjecddabdlapbaaDoorRows
import Derived.Test.YtjecddabdlapbaaDoorM1
import Derived.Deep.DeepHandedRow
import Derived.Lib.LaidTab
import Derived.Stop.LaidErr
import Derived.Lay
import Derived.LaidMore
import Derived.Stop.Joined
import Derived.Deep.CondSized
namespace Go.Proofs.YtjecddabdlapbaaDoor.core
open Go.Gx Go.RowKit Go.ChangeShapes Go.WideShapes Go.ChangeAt
set_option linter.unusedVariables false
def S_slices_Equal_Case (sa1:Option Addr) (sl2:Nat) (sc3:Nat) (sa4:Option Addr) (sl5:Nat) (sc6:Nat) (M:Mem) (K:Value->Prop):Prop:=
 ((((sl2:Nat):Int)≠((sl5:Nat):Int)->K (Value.bool false))/\(¬(((sl2:Nat):Int)≠((sl5:Nat):Int))->(∃(I15:Int->Prop) (mu16:Int->Nat),I15 0/\∀(x14:Int),(I15 x14->((x14<((sl2:Nat):Int)->(∃(b17 o18:Nat),sa1=some ⟨b17,o18,none⟩/\(0:Int)<=x14/\x14<((sl2:Nat):Int)/\(∃(x19:X_api_Case),At M b17 (o18+x14.toNat*3) x19.cells/\(∃(b20 o21:Nat),sa4=some ⟨b20,o21,none⟩/\(0:Int)<=x14/\x14<((sl5:Nat):Int)/\(∃(x22:X_api_Case),At M b20 (o21+x14.toNat*3) x22.cells/\((¬(((x19.Kind:Int)=x22.Kind)/\(((x19.N:Int)=x22.N)/\(x19.Text=x22.Text)))->K (Value.bool false))/\(¬(¬(((x19.Kind:Int)=x22.Kind)/\(((x19.N:Int)=x22.N)/\(x19.Text=x22.Text))))->(InI (x14+1)/\I15 (x14+1)/\mu16 (x14+1)<mu16 x14))))))))/\(¬(x14<((sl2:Nat):Int))->K (Value.bool true)))))))
set_option maxRecDepth 100000 in
theorem s_slices_Equal_Case (sa1:Option Addr) (sl2:Nat) (sc3:Nat) (sa4:Option Addr) (sl5:Nat) (sc6:Nat) (M:Mem) (K:Value->Prop) (hS:S_slices_Equal_Case sa1 sl2 sc3 sa4 sl5 sc6 M K):CallE Tryd.prog 50 #[(Value.slice sa1 sl2 sc3),(Value.slice sa4 sl5 sc6)] M (λv _=>K v):=by
 refine eE2 Tryd.func50 26 λE a hMM hs=>?_;unfold S_slices_Equal_Case at hS;refine qr (sP (.bool false) hs λ_ hs=>?_);refine wn (qs (qr (sP4 (.slice sa1 sl2 sc3) (iv (sl2:Int)) (.slice sa4 sl5 sc6) (iv (sl5:Int)) hs λ_ hs=>?_)));refine sP (.bool ((sl2:Int) != (sl5:Int))) hs λ_ hs=>?_;refine wn (Wp.cS hs bne_iff_ne hS (λhS=>?_) (λhS=>?_))
 ·refine qr (sP (.bool false) hs λ_ hs=>?_);exact wn (qt (rT hs hMM hS))
 ·refine qk (qs (qr (sP3 (.slice sa1 sl2 sc3) (iv (sl2:Int)) (iv 0) hs λ_ hs=>?_)));refine wn (qb ?_);obtain⟨I15,mu16,hI0,hst⟩:=hS;refine Wp.loop (σ:=(Int)) (λx14 a w=>Sx 26 E [] M w a [(0,(.slice sa1 sl2 sc3)),(1,(.slice sa4 sl5 sc6)),(12,(iv (sl2:Int))),(13,(iv x14))] [] []/\I15 x14) (λx14=>mu16 x14) (0) ⟨hs.q,hI0⟩ (λx14 a w hI=>?_);obtain⟨hs,hI⟩:=hI;have hS:=hst x14 hI;clear hst hI0 hI;refine qr (sP (.bool (decide (x14<(sl2:Int)))) hs λ_ hs=>?_);refine wn (qs (Wp.cS hs decide_eq_true_iff hS (λhS=>?_) (λhS=>?_)))
  ·refine qk (qs (qb (qr (sP2 (iv x14) (iv x14) hs λ_ hs=>?_))));refine wn (qs (Wp.regionD [true,true,true,true,true,true,true,true,true] hs (by kernel_rfl) rfl [] (λ_ h=>h) [] (λ_ h=>h) (λ_ hs hC=>?_)));have hL:=Mem.le.refl M;refine dA (Value.slice sa1 sl2 sc3) 0 [2,3,8] hs λ_ hs=>?_;refine dA (iv x14) 1 [2,3,8] hs λ_ hs=>?_;obtain⟨b17,o18,ha,h0,hl,hS⟩:=hS;refine dF (.pointer (some ⟨b17,o18+x14.toNat*3,none⟩)) 2 [3,8] hs rfl (Yl.iS 81 3 ha h0 hl) λ_ hs=>?_;obtain⟨x19,hat,hS⟩:=hS;refine dC x19.val 3 [8] hs hC rfl (Yl.lV x19.cells true hat) λ_ hs=>?_;refine dA (Value.slice sa4 sl5 sc6) 4 [6,7,8] hs λ_ hs=>?_;refine sE 5 ?_;refine sP (iv x14) hs λ_ hs=>?_;refine nE 6 ?_;obtain⟨b20,o21,ha,h0,hl,hS⟩:=hS;refine sI 81 3 ha h0 hl hs λ_ hs=>?_;refine nE 7 ?_;obtain⟨x22,hat,hS⟩:=hS;refine sY x22.val hs (Yl.lV x22.cells true hat) λ_ hs=>?_;refine nE 8 ?_
   refine sY (.bool (!(((x19.Kind:Int)==(x22.Kind:Int))&&(((x19.N:Int)==(x22.N:Int))&&((mkS x19.Text).toList==(mkS x22.Text).toList))))) hs (Yl.neqC (b:=(((x19.Kind:Int)==(x22.Kind:Int))&&(((x19.N:Int)==(x22.N:Int))&&((mkS x19.Text).toList==(mkS x22.Text).toList)))) x19.cells x22.cells rfl (by kernel_rfl) (by kernel_rfl) rfl rfl (by kernel_rfl)) λ_ hs=>?_;refine wN ?_;refine dD ?_;refine Wp.cS hs (bnot_iff (band_iff beq_iff_eq (band_iff beq_iff_eq mkS_beq))) hS (λhS=>?_) (λhS=>?_)
   ·refine qr (sP (.bool false) hs λ_ hs=>?_);exact wn (qt (rT hs hMM hS))
   ·refine qk (qg ?_);obtain⟨hI,hS⟩:=hS;refine sY (iv (x14+1)) hs (Yl.wr hI) λ_ hs=>?_;refine sP (iv (x14+1)) hs λ_ hs=>?_;exact wn (⟨(x14+1),⟨hs.q,hS.1⟩,hS.2⟩)
  ·refine qx rfl (qr (sP (.bool true) hs λ_ hs=>?_));exact wn (qt (rT hs hMM hS))
def S_chafflaw_BookReads (s1:List UInt8) (M:Mem) (K:Value->Prop):Prop:=
 (CallE Tryd.prog 48 #[(.string (mkS s1))] M (λv M7=>∃(xa2:Option Addr) (xl3:Nat) (xc4:Nat) (x5:Int) (x6:Int),v=(Value.tuple #[(.slice xa2 xl3 xc4),(.int .i64 x5),(.int .i64 x6)])/\(CallE Tryd.prog 49 #[(.string (mkS s1))] M7 (λv M13=>∃(xa8:Option Addr) (xl9:Nat) (xc10:Nat) (x11:Int) (x12:Int),v=(Value.tuple #[(.slice xa8 xl9 xc10),(.int .i64 x11),(.int .i64 x12)])/\(CallE Tryd.prog 50 #[(.slice xa2 xl3 xc4),(.slice xa8 xl9 xc10)] M13 (λv _=>∃(x14:Bool),v=(Value.bool x14)/\((x14=true->(((x5:Int)=x11->K (Value.bool ((x6:Int)==(x12:Int))))/\(¬((x5:Int)=x11)->K (Value.bool false))))/\(¬(x14=true)->K (Value.bool false)))))))))
set_option maxRecDepth 100000 in
theorem s_chafflaw_BookReads (s1:List UInt8) (M:Mem) (K:Value->Prop) (hS:S_chafflaw_BookReads s1 M K):CallE Tryd.prog 12 #[(Value.string (mkS s1))] M (λv _=>K v):=by
 refine eE1 Tryd.func12 34 λE a hMM hs=>?_;unfold S_chafflaw_BookReads at hS;refine qr (sP (.bool false) hs λ_ hs=>?_);refine wn (qr (sP (.string (mkS s1)) hs λ_ hs=>?_));refine cM [(.string (mkS s1))] hs hMM Tryd.func48 hS λ_ _ M7 v hMM hle hS hs=>?_;obtain⟨xa2,xl3,xc4,x5,x6,rfl,hS⟩:=hS;refine sP4 (Value.tuple #[(.slice xa2 xl3 xc4),(iv x5),(iv x6)]) (.slice xa2 xl3 xc4) (iv x5) (iv x6) hs λ_ hs=>?_;refine sP3 (.slice xa2 xl3 xc4) (iv x5) (iv x6) hs λ_ hs=>?_;refine wn (qr (sP (.string (mkS s1)) hs λ_ hs=>?_));refine cM [(.string (mkS s1))] hs hMM Tryd.func49 hS λ_ _ M13 v hMM hle hS hs=>?_;obtain⟨xa8,xl9,xc10,x11,x12,rfl,hS⟩:=hS;refine sP4 (Value.tuple #[(.slice xa8 xl9 xc10),(iv x11),(iv x12)]) (.slice xa8 xl9 xc10) (iv x11) (iv x12) hs λ_ hs=>?_;refine sP3 (.slice xa8 xl9 xc10) (iv x11) (iv x12) hs λ_ hs=>?_
 refine wn (qr (sP2 (.slice xa2 xl3 xc4) (.slice xa8 xl9 xc10) hs λ_ hs=>?_));refine cP [(.slice xa2 xl3 xc4),(.slice xa8 xl9 xc10)] hs Tryd.func50 hS λ_ _ v hS hs=>?_;obtain⟨x14,rfl,hS⟩:=hS;refine sP (.bool x14) hs λ_ hs=>?_;refine bsS Iff.rfl hs hS (λhs hS=>?_) (λhs hS=>?_)
 ·refine ye (iv x5) hs λ_ hs=>?_;refine ye (iv x11) hs λ_ hs=>?_;refine ye (.bool ((x5:Int)==(x11:Int))) hs λ_ hs=>?_;refine sP2 (.bool ((x5:Int)==(x11:Int))) (.bool ((x5:Int)==(x11:Int))) hs λ_ hs=>?_;refine bsS beq_iff_eq hs hS (λhs hS=>?_) (λhs hS=>?_)
  ·refine ye (iv x6) hs λ_ hs=>?_;refine ye (iv x12) hs λ_ hs=>?_;refine ye (.bool ((x6:Int)==(x12:Int))) hs λ_ hs=>?_;refine sP2 (.bool ((x6:Int)==(x12:Int))) (.bool ((x6:Int)==(x12:Int))) hs λ_ hs=>?_;exact wn (qt (rT hs hMM hS))
  ·repeat (first|refine sNo hs λ_ hs=>?_|refine sNu hs λ_ hs=>?_)
   refine sP2 (.bool false) (.bool false) hs λ_ hs=>?_;exact wn (qt (rT hs hMM hS))
 ·repeat (first|refine sNo hs λ_ hs=>?_|refine sNu hs λ_ hs=>?_)
  refine sP2 (.bool false) (.bool false) hs λ_ hs=>?_;repeat (first|refine sNo hs λ_ hs=>?_|refine sNu hs λ_ hs=>?_)
  refine sP2 (.bool false) (.bool false) hs λ_ hs=>?_;exact wn (qt (rT hs hMM hS))
end Go.Proofs.YtjecddabdlapbaaDoor.core

namespace Go.Proofs.YtjecddabdlapbaaDoor.core
open Go.Gx Go.RowKit Go.ChangeShapes Go.WideShapes Go.ChangeAt
set_option linter.unusedVariables false
end Go.Proofs.YtjecddabdlapbaaDoor.core

namespace Go.Gx
open Go.RowKit Go.ChangeShapes Go.WideShapes Go.ChangeAt
theorem witness_row_shaped {H:Type} {enc:TypeId×Value->H} {C:Checked} {os:Os} {f:FuncId} {fn:Func} {s:OpenSpec} {conds:List PathCond} {apart:Bool} {laid:List (String×DataW Unit)} (w0:World) (args:Array Value) (hos:w0.os=os)
  (hsh:(w0.forCall (λ_ _=>0) ⟨#[],args,[]⟩).Shaped C.prog) (hok:Input.okWideB C.prog (w0.forCall (λ_ _=>0) ⟨#[],args,[]⟩) f ⟨#[],args,[]⟩=true)
  (hrow:s.preRow enc C.prog fn conds apart laid (w0.forCall (λ_ _=>0) ⟨#[],args,[]⟩).memory args):
  ∃(w:World) (tape:Tape) (i:Input),w.os=os/\(w.forCall tape i).Shaped C.prog/\i.vars=[]/\Input.okWide C.prog (w.forCall tape i) .any w.heap.size f i/\
   s.preRow enc C.prog fn conds apart laid (w.forCall tape i).memory i.args/\({}:Assume).holds C.prog (lone (Frame.enter C.prog f i.args .normal) [] (w.forCall tape i)):=
 ⟨w0,λ_ _=>0,⟨#[],args,[]⟩,hos,hsh,(Input.okWide_of_okWideB (base:=0) hok).1,(Input.okWide_of_okWideB hok).2,hrow,by
  simp only[Assume.holds]
  exact⟨by simp,by simp,λ_=>Modest.zero,by simp,by simp⟩⟩
end Go.Gx

