/- Contracts and what they hang on, of several parts. No condition. -/
import Derived.Test.YtleaplmdgckmkaaGreatDoorWellG
import Derived.Test.YtleaplmdgckmkaaGreatDoorM2
namespace Go.Proofs.YtleaplmdgckmkaaGreatDoor.core
open Go.Gx Go.RowKit Go.ChangeShapes Go.WideShapes Go.ChangeAt
set_option linter.unusedVariables false
def qfi (ga1:Option Addr) (gl2:Nat) (gc3:Nat) (s4:List UInt8) (M:Mem) (K:Value->Prop):Prop:=
 (qaf Tryz.prog 5 #[(.agg #[(.slice ga1 gl2 gc3)])] M (λv _=>∃(x6:Int) (x7:Int),v=(Value.tuple #[(.int .i64 x6),(.int .i64 x7)])/\(((x7:Int)≠0->K (Value.int .i64 x7))/\(¬((x7:Int)≠0)->((((s4.length:Nat):Int)>60->K (Value.int .i64 2))/\(¬(((s4.length:Nat):Int)>60)->K (Value.int .i64 0)))))))
set_option maxRecDepth 100000 in
theorem qmi (ga1:Option Addr) (gl2:Nat) (gc3:Nat) (s4:List UInt8) (M:Mem) (K:Value->Prop) (hS:qfi ga1 gl2 gc3 s4 M K):qaf Tryz.prog 39 #[(Value.agg #[(Value.slice ga1 gl2 gc3)]),(Value.string (mkS s4))] M (λv _=>K v):=by
 refine eE2 Tryz.func39 18 λE a hMM hs=>?_;unfold qfi at hS;refine qr (qao [(.slice ga1 gl2 gc3)] hs rfl rfl rfl (by decide) (λ_ _ b5 hEb5 hs=>?_));refine sP (iv 0) hs λ_ hs=>?_;refine wn (qs (qr (sB [(.slice ga1 gl2 gc3)] true 0 hs λ_ hs=>?_)));refine cP [(.agg #[(.slice ga1 gl2 gc3)])] hs Tryz.func5 hS λ_ _ v hS hs=>?_;obtain⟨x6,x7,rfl,hS⟩:=hS;refine sP4 (Value.tuple #[(iv x6),(iv x7)]) (iv x6) (iv x7) (iv x6) hs λ_ hs=>?_;refine sP (iv x7) hs λ_ hs=>?_;refine wn (qr (sP2 (iv x7) (.bool ((x7:Int) != (0:Int))) hs λ_ hs=>?_));refine wn (Wp.cS hs bne_iff_ne hS (λhS=>?_) (λhS=>?_))
 ·refine qr (sP2 (iv x7) (iv x7) hs λ_ hs=>?_);exact wn (qt (rT hs hMM hS))
 ·refine qk (qs (qr (sP3 (.string (mkS s4)) (iv (s4.length:Int)) (.bool (decide ((s4.length:Int)>60))) hs λ_ hs=>?_)));refine wn (Wp.cS hs decide_eq_true_iff hS (λhS=>?_) (λhS=>?_))
  ·refine qr (sP (iv 2) hs λ_ hs=>?_);exact wn (qt (rT hs hMM hS))
  ·refine qk (qr (sP (iv 0) hs λ_ hs=>?_));exact wn (qt (rT hs hMM hS))
end Go.Proofs.YtleaplmdgckmkaaGreatDoor.core
namespace Go.Proofs.YtleaplmdgckmkaaGreatDoor.core
open Go.Gx Go.RowKit Go.ChangeShapes Go.WideShapes Go.ChangeAt
structure qah where
 Ok:Bool
 N:Int
def qah.cells (x:qah):List Value:=[(.bool x.Ok),(.int .i64 x.N)]
def qah.val (x:qah):Value:=.agg x.cells.toArray
end Go.Proofs.YtleaplmdgckmkaaGreatDoor.core
