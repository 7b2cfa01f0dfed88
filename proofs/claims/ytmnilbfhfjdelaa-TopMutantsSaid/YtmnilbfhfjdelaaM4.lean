/- Contracts and what they hang on, of several parts. No condition. -/
import Derived.Test.YtmnilbfhfjdelaaPackG
import Derived.Test.YtmnilbfhfjdelaaM2
import Derived.Test.YtmnilbfhfjdelaaM1
import Derived.Lib.AppendZeros
namespace Go.Proofs.Ytmnilbfhfjdelaa.core
open Go.Gx Go.RowKit Go.ChangeShapes Go.WideShapes Go.ChangeAt
set_option linter.unusedVariables false
def S_list_Accepts (ga1:Option Addr) (gl2:Nat) (gc3:Nat) (s4:List UInt8) (M:Mem) (K:Value->Prop):Prop:=
 (CallE Try.prog 50 #[(.agg #[(.slice ga1 gl2 gc3)]),(.string (mkS s4))] M (λv M11=>∃(x6:X_api_Outcome) (xa7:Option Addr) (xl8:Nat) (xc9:Nat) (x10:Int),v=(Value.tuple #[x6.val,(.slice xa7 xl8 xc9),(.int .i64 x10)])/\(((x10:Int)=0->((x6.Ok=true->K (Value.tuple #[(.bool ((x6.N:Int)==((s4.length:Nat):Int))),(.int .i64 x10)]))/\(¬(x6.Ok=true)->K (Value.tuple #[(.bool false),(.int .i64 x10)]))))/\(¬((x10:Int)=0)->K (Value.tuple #[(.bool false),(.int .i64 x10)])))))
set_option maxRecDepth 100000 in
theorem s_list_Accepts (ga1:Option Addr) (gl2:Nat) (gc3:Nat) (s4:List UInt8) (M:Mem) (K:Value->Prop) (hS:S_list_Accepts ga1 gl2 gc3 s4 M K):CallE Try.prog 23 #[(Value.agg #[(Value.slice ga1 gl2 gc3)]),(Value.string (mkS s4))] M (λv _=>K v):=by
 refine eE2 Try.func23 30 λE a hMM hs=>?_;unfold S_list_Accepts at hS;refine qr (stepBox [(.slice ga1 gl2 gc3)] hs rfl rfl rfl (by decide) (λ_ _ b5 hEb5 hs=>?_));refine sP2 (.bool false) (iv 0) hs λ_ hs=>?_;refine wn (qr (sB [(.slice ga1 gl2 gc3)] true 0 hs λ_ hs=>?_));refine sP (.string (mkS s4)) hs λ_ hs=>?_;refine cM [(.agg #[(.slice ga1 gl2 gc3)]),(.string (mkS s4))] hs hMM Try.func50 hS λ_ _ M11 v hMM hle hS hs=>?_;obtain⟨x6,xa7,xl8,xc9,x10,rfl,hS⟩:=hS;refine sP4 (Value.tuple #[x6.val,(.slice xa7 xl8 xc9),(iv x10)]) x6.val (.slice xa7 xl8 xc9) (iv x10) hs λ_ hs=>?_;refine stepAlloc [(.bool false),(iv 0)] hs (by kernel_rfl) (by decide) (λ_ _ b12 hEb12 hs=>?_);refine stB 0 [(.bool x6.Ok),(iv x6.N)] [⟨b12,101,[(.bool x6.Ok),(iv x6.N)]⟩,⟨b5,38,[(.slice ga1 gl2 gc3)]⟩] hs λ_ _ hs=>?_;refine sP2 (.slice xa7 xl8 xc9) (iv x10) hs λ_ hs=>?_;refine wn (qr (sP2 (iv x10) (.bool ((x10:Int)==(0:Int))) hs λ_ hs=>?_))
 refine sP (.bool ((x10:Int)==(0:Int))) hs λ_ hs=>?_;refine bsS beq_iff_eq hs hS (λhs hS=>?_) (λhs hS=>?_)
 ·refine ye (pt b12 0) hs λ_ hs=>?_;refine sYe hs (sB1 (.bool x6.Ok) 0 hs λ_ hs=>?_);refine sP2 (.bool x6.Ok) (.bool x6.Ok) hs λ_ hs=>?_;refine bsS Iff.rfl hs hS (λhs hS=>?_) (λhs hS=>?_)
  ·refine ye (pt b12 1) hs λ_ hs=>?_;refine sYe hs (sB1 (iv x6.N) 0 hs λ_ hs=>?_);refine ye (.string (mkS s4)) hs λ_ hs=>?_;refine ye (iv (s4.length:Int)) hs λ_ hs=>?_;refine ye (.bool ((x6.N:Int)==(s4.length:Int))) hs λ_ hs=>?_;refine sP4 (.bool ((x6.N:Int)==(s4.length:Int))) (iv x10) (.bool ((x6.N:Int)==(s4.length:Int))) (iv x10) hs λ_ hs=>?_;exact wn (qt (rTT hs hMM hS))
  ·repeat (first|refine sNo hs λ_ hs=>?_|refine sNu hs λ_ hs=>?_)
   refine sP4 (.bool false) (iv x10) (.bool false) (iv x10) hs λ_ hs=>?_;exact wn (qt (rTT hs hMM hS))
 ·refine sNo hs λ_ hs=>?_;refine sNo hs λ_ hs=>?_;refine sP2 (.bool false) (.bool false) hs λ_ hs=>?_;repeat (first|refine sNo hs λ_ hs=>?_|refine sNu hs λ_ hs=>?_)
  refine sP4 (.bool false) (iv x10) (.bool false) (iv x10) hs λ_ hs=>?_;exact wn (qt (rTT hs hMM hS))
end Go.Proofs.Ytmnilbfhfjdelaa.core

namespace Go.Proofs.Ytmnilbfhfjdelaa.core
open Go.Gx Go.RowKit Go.ChangeShapes Go.WideShapes Go.ChangeAt
set_option linter.unusedVariables false
def S_walk_Alpha (a1:List UInt8) (M:Mem) (K:Value->Prop):Prop:=
 ((a1=([]:List UInt8)->K (Value.int .i64 1))/\(¬(a1=([]:List UInt8))->((((a1.length:Nat):Int)>8->K (Value.int .i64 2))/\(¬(((a1.length:Nat):Int)>8)->(∃(I6:Int->Prop) (mu7:Int->Nat),I6 1/\∀(i5:Int),(I6 i5->((i5<((a1.length:Nat):Int)->(∃c8:UInt8,(0:Int)<=i5/\a1[i5.toNat]?=some c8/\(InI (i5-1)/\(∃c9:UInt8,(0:Int)<=i5-1/\a1[(i5-1).toNat]?=some c9/\(((c8.toNat:Int)<=(c9.toNat:Int)->K (Value.int .i64 3))/\(¬((c8.toNat:Int)<=(c9.toNat:Int))->(InI (i5+1)/\I6 (i5+1)/\mu7 (i5+1)<mu7 i5)))))))/\(¬(i5<((a1.length:Nat):Int))->K (Value.int .i64 0)))))))))
set_option maxRecDepth 100000 in
theorem s_walk_Alpha (a1:List UInt8) (M:Mem) (K:Value->Prop) (hS:S_walk_Alpha a1 M K):CallE Try.prog 46 #[(Value.string (mkS a1))] M (λv _=>K v):=by
 refine eE1 Try.func46 23 λE a hMM hs=>?_;unfold S_walk_Alpha at hS;refine qr (sP (iv 0) hs λ_ hs=>?_);refine wn (qs (qr (sP2 (.string (mkS a1)) (.bool ((mkS a1).toList==(mkS ([]:List UInt8)).toList)) hs λ_ hs=>?_)));refine wn (Wp.cS hs mkS_beq hS (λhS=>?_) (λhS=>?_))
 ·refine qr (sP (iv 1) hs λ_ hs=>?_);exact wn (qt (rT hs hMM hS))
 ·refine qk (qs (qr (sP3 (.string (mkS a1)) (iv (a1.length:Int)) (.bool (decide ((a1.length:Int)>8))) hs λ_ hs=>?_)));refine wn (Wp.cS hs decide_eq_true_iff hS (λhS=>?_) (λhS=>?_))
  ·refine qr (sP (iv 2) hs λ_ hs=>?_);exact wn (qt (rT hs hMM hS))
  ·refine qk (qs (qr (sP (iv 1) hs λ_ hs=>?_)));refine wn (qb ?_);obtain⟨I6,mu7,hI0,hst⟩:=hS;refine Wp.loop (σ:=(Int)) (λi5 a w=>Sx 23 E [] M w a [(0,(.string (mkS a1))),(3,(iv i5))] [] []/\I6 i5) (λi5=>mu7 i5) (1) ⟨hs.q,hI0⟩ (λi5 a w hI=>?_);obtain⟨hs,hI⟩:=hI;have hS:=hst i5 hI;clear hst hI0 hI;refine qs (qr (sP4 (iv i5) (.string (mkS a1)) (iv (a1.length:Int)) (.bool (decide (i5<(a1.length:Int)))) hs λ_ hs=>?_));refine wn (Wp.cS hs decide_eq_true_iff hS (λhS=>?_) (λhS=>?_))
   ·refine qk (qs (qb (qs (Wp.regionD [true,true,true,true,true,true,true,true] hs (by kernel_rfl) rfl [] (λ_ h=>h) [] (λ_ h=>h) (λ_ hs hC=>?_)))));have hL:=Mem.le.refl M;refine dA (Value.string (mkS a1)) 0 [2,7] hs λ_ hs=>?_;refine dA (iv i5) 1 [2,7] hs λ_ hs=>?_;obtain⟨c8,h0,hi,hS⟩:=hS;refine dF (.int .u8 (c8.toNat:Int)) 2 [7] hs rfl (Yl.indexStr rfl rfl rfl rfl (by kernel_rfl) h0 hi) λ_ hs=>?_;refine dA (Value.string (mkS a1)) 3 [6,7] hs λ_ hs=>?_;refine sE 4 ?_;refine sP (iv i5) hs λ_ hs=>?_;refine nE 5 ?_;obtain⟨hI,hS⟩:=hS;refine sY (iv (i5-1)) hs (Yl.wr hI) λ_ hs=>?_;refine nE 6 ?_;obtain⟨c9,h0,hi,hS⟩:=hS;refine sY (.int .u8 (c9.toNat:Int)) hs (Yl.indexStr rfl rfl rfl rfl (by kernel_rfl) h0 hi) λ_ hs=>?_;refine nE 7 ?_;refine sP (.bool (decide ((c8.toNat:Int)<=(c9.toNat:Int)))) hs λ_ hs=>?_;refine wN ?_;refine dD ?_;refine Wp.cS hs decide_eq_true_iff hS (λhS=>?_) (λhS=>?_)
    ·refine qr (sP (iv 3) hs λ_ hs=>?_);exact wn (qt (rT hs hMM hS))
    ·refine qk (qg (sP (iv i5) hs λ_ hs=>?_));obtain⟨hI,hS⟩:=hS;refine sY (iv (i5+1)) hs (Yl.wr hI) λ_ hs=>?_;refine sP (iv (i5+1)) hs λ_ hs=>?_;exact wn (⟨(i5+1),⟨hs.q,hS.1⟩,hS.2⟩)
   ·refine qx rfl (qr (sP (iv 0) hs λ_ hs=>?_));exact wn (qt (rT hs hMM hS))
def S_walk_shorter (a1:List UInt8) (n2:Int) (M:Mem) (K:Value->Prop):Prop:=
 (∃(I9:Int->Int->Int->Prop) (mu10:Int->Int->Int->Nat),I9 0 1 0/\∀(out6:Int) (many7:Int) (x8:Int),(I9 out6 many7 x8->((x8<n2->(InI (out6+many7)/\(InI (many7*((a1.length:Nat):Int))/\(InI (x8+1)/\I9 (out6+many7) (many7*((a1.length:Nat):Int)) (x8+1)/\mu10 (out6+many7) (many7*((a1.length:Nat):Int)) (x8+1)<mu10 out6 many7 x8))))/\(¬(x8<n2)->K (Value.int .i64 out6)))))
set_option maxRecDepth 100000 in
theorem s_walk_shorter (a1:List UInt8) (n2:Int) (M:Mem) (K:Value->Prop) (hS:S_walk_shorter a1 n2 M K):CallE Try.prog 47 #[(Value.string (mkS a1)),(Value.int .i64 n2)] M (λv _=>K v):=by
 refine eE2 Try.func47 19 λE a hMM hs=>?_;unfold S_walk_shorter at hS;refine qr (sP (iv 0) hs λ_ hs=>?_);refine wn (qr (sP2 (iv 0) (iv 1) hs λ_ hs=>?_));refine wn (qs (qr (sP2 (iv n2) (iv 0) hs λ_ hs=>?_)));refine wn (qb ?_);obtain⟨I9,mu10,hI0,hst⟩:=hS;refine Wp.loop (σ:=(Int)×(Int)×(Int)) (λ(out6,many7,x8) a w=>Sx 19 E [] M w a [(0,(.string (mkS a1))),(5,(iv out6)),(6,(iv many7)),(7,(iv n2)),(8,(iv x8))] [] []/\I9 out6 many7 x8) (λ(out6,many7,x8)=>mu10 out6 many7 x8) (0,1,0) ⟨hs.q,hI0⟩ (λs a w hI=>?_);obtain⟨out6,many7,x8⟩:=s;obtain⟨hs,hI⟩:=hI;have hS:=hst out6 many7 x8 hI;clear hst hI0 hI;refine qr (sP (.bool (decide (x8<n2))) hs λ_ hs=>?_);refine wn (qs (Wp.cS hs decide_eq_true_iff hS (λhS=>?_) (λhS=>?_)))
 ·refine qk (qs (qb (qr (sP2 (iv out6) (iv many7) hs λ_ hs=>?_))));obtain⟨hI,hS⟩:=hS;refine sY (iv (out6+many7)) hs (Yl.wr hI) λ_ hs=>?_;refine sP (iv (out6+many7)) hs λ_ hs=>?_;refine wn (qg (sP3 (iv many7) (.string (mkS a1)) (iv (a1.length:Int)) hs λ_ hs=>?_));obtain⟨hI,hS⟩:=hS;refine sY (iv (many7*(a1.length:Int))) hs (Yl.wr hI) λ_ hs=>?_;refine sP (iv (many7*(a1.length:Int))) hs λ_ hs=>?_;refine wn (qg ?_);obtain⟨hI,hS⟩:=hS;refine sY (iv (x8+1)) hs (Yl.wr hI) λ_ hs=>?_;refine sP (iv (x8+1)) hs λ_ hs=>?_;exact wn (⟨(out6+many7,many7*(a1.length:Int),x8+1),⟨hs.q,hS.1⟩,hS.2⟩)
 ·refine qx rfl (qr (sP (iv out6) hs λ_ hs=>?_));refine sP (iv out6) hs λ_ hs=>?_;exact wn (qt (rT hs hMM hS))
def S_walk_Many_J1 (a1:List UInt8) (n2:Int) (M:Mem) (x4:Bool) (K:Value->Prop):Prop:=
 ((x4=true->K (Value.tuple #[(.int .i64 0),(.int .i64 1)]))/\(¬(x4=true)->(InI (n2+1)/\(CallE Try.prog 47 #[(.string (mkS a1)),(.int .i64 (n2+1))] M (λv _=>∃(x5:Int),v=(Value.int .i64 x5)/\K (Value.tuple #[(.int .i64 x5),(.int .i64 0)]))))))
def S_walk_Many (a1:List UInt8) (n2:Int) (M:Mem) (K:Value->Prop):Prop:=
 (CallE Try.prog 46 #[(.string (mkS a1))] M (λv _=>∃(x3:Int),v=(Value.int .i64 x3)/\(((x3:Int)≠0->K (Value.tuple #[(.int .i64 0),(.int .i64 x3)]))/\(¬((x3:Int)≠0)->((n2<0->(S_walk_Many_J1 a1 n2 M true K))/\(¬(n2<0)->(S_walk_Many_J1 a1 n2 M (decide (n2>6)) K)))))))
set_option maxRecDepth 100000 in
theorem s_walk_Many (a1:List UInt8) (n2:Int) (M:Mem) (K:Value->Prop) (hS:S_walk_Many a1 n2 M K):CallE Try.prog 20 #[(Value.string (mkS a1)),(Value.int .i64 n2)] M (λv _=>K v):=by
 refine eE2 Try.func20 22 λE a hMM hs=>?_;unfold S_walk_Many at hS;refine qr (sP2 (iv 0) (iv 0) hs λ_ hs=>?_);refine wn (qs (qr (sP (.string (mkS a1)) hs λ_ hs=>?_)));refine cP [(.string (mkS a1))] hs Try.func46 hS λ_ _ v hS hs=>?_;obtain⟨x3,rfl,hS⟩:=hS;refine sP (iv x3) hs λ_ hs=>?_;refine wn (qr (sP2 (iv x3) (.bool ((x3:Int) != (0:Int))) hs λ_ hs=>?_));refine wn (Wp.cS hs bne_iff_ne hS (λhS=>?_) (λhS=>?_))
 ·refine qr (sP3 (iv x3) (iv 0) (iv x3) hs λ_ hs=>?_);exact wn (qt (rTT hs hMM hS))
 ·refine qk (qs (Wp.join (λa w=>∃(x4:Bool),Sx 22 E [] M w a [(0,(.string (mkS a1))),(1,(iv n2)),(17,(.bool x4))] [] []/\(S_walk_Many_J1 a1 n2 M x4 K)) ?_ ?_))
  ·refine qg (sP3 (iv n2) (.bool (decide (n2<0))) (.bool (decide (n2<0))) hs λ_ hs=>?_);refine bsS decide_eq_true_iff hs hS (λhs hS=>?_) (λhs hS=>?_)
   ·refine sNo hs λ_ hs=>?_;refine sNo hs λ_ hs=>?_;refine sP (.bool true) hs λ_ hs=>?_;exact wn (⟨true,hs.q,hS⟩)
   ·refine ye (iv n2) hs λ_ hs=>?_;refine ye (.bool (decide (n2>6))) hs λ_ hs=>?_;refine sP (.bool (decide (n2>6))) hs λ_ hs=>?_;exact wn (⟨(decide (n2>6)),hs.q,hS⟩)
  ·intro a w hJ;obtain⟨x4,hs,hS⟩:=hJ;unfold S_walk_Many_J1 at hS;refine Wp.cS hs Iff.rfl hS (λhS=>?_) (λhS=>?_)
   ·refine qr (sP2 (iv 0) (iv 1) hs λ_ hs=>?_);exact wn (qt (rTT hs hMM hS))
   ·refine qk (qr (sP2 (.string (mkS a1)) (iv n2) hs λ_ hs=>?_));obtain⟨hI,hS⟩:=hS;refine sY (iv (n2+1)) hs (Yl.wr hI) λ_ hs=>?_;refine cP [(.string (mkS a1)),(iv (n2+1))] hs Try.func47 hS λ_ _ v hS hs=>?_;obtain⟨x5,rfl,hS⟩:=hS;refine sP2 (iv x5) (iv 0) hs λ_ hs=>?_;exact wn (qt (rTT hs hMM hS))
end Go.Proofs.Ytmnilbfhfjdelaa.core

namespace Go.Proofs.Ytmnilbfhfjdelaa.core
open Go.Gx Go.RowKit Go.ChangeShapes Go.WideShapes Go.ChangeAt
set_option linter.unusedVariables false
def S_list_Look (ga1:Option Addr) (gl2:Nat) (gc3:Nat) (a4:List UInt8) (n5:Int) (M:Mem) (K:Value->Prop):Prop:=
 (CallE Try.prog 56 #[(.agg #[(.slice ga1 gl2 gc3)])] M (λv _=>∃(x7:Int) (x8:Int),v=(Value.tuple #[(.int .i64 x7),(.int .i64 x8)])/\(((x8:Int)≠0->K (Value.int .i64 x8))/\(¬((x8:Int)≠0)->(CallE Try.prog 20 #[(.string (mkS a4)),(.int .i64 n5)] M (λv _=>∃(x9:Int) (x10:Int),v=(Value.tuple #[(.int .i64 x9),(.int .i64 x10)])/\(((x10:Int)≠0->K (Value.int .i64 x10))/\(¬((x10:Int)≠0)->((x9>5000->K (Value.int .i64 2))/\(¬(x9>5000)->K (Value.int .i64 0)))))))))))
set_option maxRecDepth 100000 in
theorem s_list_Look (ga1:Option Addr) (gl2:Nat) (gc3:Nat) (a4:List UInt8) (n5:Int) (M:Mem) (K:Value->Prop) (hS:S_list_Look ga1 gl2 gc3 a4 n5 M K):CallE Try.prog 45 #[(Value.agg #[(Value.slice ga1 gl2 gc3)]),(Value.string (mkS a4)),(Value.int .i64 n5)] M (λv _=>K v):=by
 refine eE3 Try.func45 30 λE a hMM hs=>?_;unfold S_list_Look at hS;refine qr (stepBox [(.slice ga1 gl2 gc3)] hs rfl rfl rfl (by decide) (λ_ _ b6 hEb6 hs=>?_));refine sP (iv 0) hs λ_ hs=>?_;refine wn (qs (qr (sB [(.slice ga1 gl2 gc3)] true 0 hs λ_ hs=>?_)));refine cP [(.agg #[(.slice ga1 gl2 gc3)])] hs Try.func56 hS λ_ _ v hS hs=>?_;obtain⟨x7,x8,rfl,hS⟩:=hS;refine sP4 (Value.tuple #[(iv x7),(iv x8)]) (iv x7) (iv x8) (iv x7) hs λ_ hs=>?_;refine sP (iv x8) hs λ_ hs=>?_;refine wn (qr (sP2 (iv x8) (.bool ((x8:Int) != (0:Int))) hs λ_ hs=>?_));refine wn (Wp.cS hs bne_iff_ne hS (λhS=>?_) (λhS=>?_))
 ·refine qr (sP2 (iv x8) (iv x8) hs λ_ hs=>?_);exact wn (qt (rT hs hMM hS))
 ·refine qk (qr (sP2 (.string (mkS a4)) (iv n5) hs λ_ hs=>?_));refine cP [(.string (mkS a4)),(iv n5)] hs Try.func20 hS λ_ _ v hS hs=>?_;obtain⟨x9,x10,rfl,hS⟩:=hS;refine sP4 (Value.tuple #[(iv x9),(iv x10)]) (iv x9) (iv x10) (iv x9) hs λ_ hs=>?_;refine sP (iv x10) hs λ_ hs=>?_;refine wn (qs (qr (sP2 (iv x10) (.bool ((x10:Int) != (0:Int))) hs λ_ hs=>?_)));refine wn (Wp.cS hs bne_iff_ne hS (λhS=>?_) (λhS=>?_))
  ·refine qr (sP2 (iv x10) (iv x10) hs λ_ hs=>?_);exact wn (qt (rT hs hMM hS))
  ·refine qk (qs (qr (sP2 (iv x9) (.bool (decide (x9>5000))) hs λ_ hs=>?_)));refine wn (Wp.cS hs decide_eq_true_iff hS (λhS=>?_) (λhS=>?_))
   ·refine qr (sP (iv 2) hs λ_ hs=>?_);exact wn (qt (rT hs hMM hS))
   ·refine qk (qr (sP (iv 0) hs λ_ hs=>?_));exact wn (qt (rT hs hMM hS))
end Go.Proofs.Ytmnilbfhfjdelaa.core

namespace Go.Proofs.Ytmnilbfhfjdelaa.core
open Go.Gx Go.RowKit Go.ChangeShapes Go.WideShapes Go.ChangeAt
set_option linter.unusedVariables false
def S_internal_stringslite_IndexByte (s1:List UInt8) (c2:Int) (M:Mem) (K:Value->Prop):Prop:=
 K (Value.int .i64 (idxB s1 c2))
set_option maxRecDepth 100000 in
theorem s_internal_stringslite_IndexByte (s1:List UInt8) (c2:Int) (M:Mem) (K:Value->Prop) (hS:S_internal_stringslite_IndexByte s1 c2 M K):CallE Try.prog 84 #[(Value.string (mkS s1)),(Value.int .u8 c2)] M (λv _=>K v):=by
 refine eE2 Try.func84 8 λE a hMM hs=>?_;unfold S_internal_stringslite_IndexByte at hS;refine qr (sP (iv 0) hs λ_ hs=>?_);refine wn (qr (sP2 (.string (mkS s1)) (.int .u8 c2) hs λ_ hs=>?_));refine sY (iv (idxB s1 c2)) hs (Yl.idxByte rfl ⟨_,rfl,rfl⟩ rfl Try.func116 rfl (by kernel_rfl) (by kernel_rfl) (by kernel_rfl)) λ_ hs=>?_;refine sP (iv (idxB s1 c2)) hs λ_ hs=>?_;exact wn (qt (rT hs hMM hS))
def S_strings_IndexByte (s1:List UInt8) (c2:Int) (M:Mem) (K:Value->Prop):Prop:=
 (CallE Try.prog 84 #[(.string (mkS s1)),(.int .u8 c2)] M (λv _=>∃(x3:Int),v=(Value.int .i64 x3)/\K (Value.int .i64 x3)))
set_option maxRecDepth 100000 in
theorem s_strings_IndexByte (s1:List UInt8) (c2:Int) (M:Mem) (K:Value->Prop) (hS:S_strings_IndexByte s1 c2 M K):CallE Try.prog 51 #[(Value.string (mkS s1)),(Value.int .u8 c2)] M (λv _=>K v):=by
 refine eE2 Try.func51 8 λE a hMM hs=>?_;unfold S_strings_IndexByte at hS;refine qr (sP (iv 0) hs λ_ hs=>?_);refine wn (qr (sP2 (.string (mkS s1)) (.int .u8 c2) hs λ_ hs=>?_));refine cP [(.string (mkS s1)),(.int .u8 c2)] hs Try.func84 hS λ_ _ v hS hs=>?_;obtain⟨x3,rfl,hS⟩:=hS;refine sP (iv x3) hs λ_ hs=>?_;exact wn (qt (rT hs hMM hS))
def S_walk_Over (a1:List UInt8) (s2:List UInt8) (M:Mem) (K:Value->Prop):Prop:=
 (CallE Try.prog 46 #[(.string (mkS a1))] M (λv _=>∃(x3:Int),v=(Value.int .i64 x3)/\(((x3:Int)≠0->K (Value.int .i64 x3))/\(¬((x3:Int)≠0)->((((s2.length:Nat):Int)>6->K (Value.int .i64 2))/\(¬(((s2.length:Nat):Int)>6)->(∃(I8:Int->Prop) (mu9:Int->Nat),I8 0/\∀(x7:Int),(I8 x7->((x7<((s2.length:Nat):Int)->(∃c10:UInt8,(0:Int)<=x7/\s2[x7.toNat]?=some c10/\(CallE Try.prog 51 #[(.string (mkS a1)),(.int .u8 (c10.toNat:Int))] M (λv _=>∃(x11:Int),v=(Value.int .i64 x11)/\((x11<0->K (Value.int .i64 12))/\(¬(x11<0)->(InI (x7+1)/\I8 (x7+1)/\mu9 (x7+1)<mu9 x7)))))))/\(¬(x7<((s2.length:Nat):Int))->K (Value.int .i64 0)))))))))))
set_option maxRecDepth 100000 in
theorem s_walk_Over (a1:List UInt8) (s2:List UInt8) (M:Mem) (K:Value->Prop) (hS:S_walk_Over a1 s2 M K):CallE Try.prog 48 #[(Value.string (mkS a1)),(Value.string (mkS s2))] M (λv _=>K v):=by
 refine eE2 Try.func48 27 λE a hMM hs=>?_;unfold S_walk_Over at hS;refine qr (sP (iv 0) hs λ_ hs=>?_);refine wn (qs (qr (sP (.string (mkS a1)) hs λ_ hs=>?_)));refine cP [(.string (mkS a1))] hs Try.func46 hS λ_ _ v hS hs=>?_;obtain⟨x3,rfl,hS⟩:=hS;refine sP (iv x3) hs λ_ hs=>?_;refine wn (qr (sP2 (iv x3) (.bool ((x3:Int) != (0:Int))) hs λ_ hs=>?_));refine wn (Wp.cS hs bne_iff_ne hS (λhS=>?_) (λhS=>?_))
 ·refine qr (sP2 (iv x3) (iv x3) hs λ_ hs=>?_);exact wn (qt (rT hs hMM hS))
 ·refine qk (qs (qr (sP3 (.string (mkS s2)) (iv (s2.length:Int)) (.bool (decide ((s2.length:Int)>6))) hs λ_ hs=>?_)));refine wn (Wp.cS hs decide_eq_true_iff hS (λhS=>?_) (λhS=>?_))
  ·refine qr (sP (iv 2) hs λ_ hs=>?_);exact wn (qt (rT hs hMM hS))
  ·refine qk (qs (qr (sP3 (.string (mkS s2)) (iv (s2.length:Int)) (iv 0) hs λ_ hs=>?_)));refine wn (qb ?_);obtain⟨I8,mu9,hI0,hst⟩:=hS;refine Wp.loop (σ:=(Int)) (λx7 a w=>Sx 27 E [] M w a [(0,(.string (mkS a1))),(1,(.string (mkS s2))),(16,(iv (s2.length:Int))),(17,(iv x7))] [] []/\I8 x7) (λx7=>mu9 x7) (0) ⟨hs.q,hI0⟩ (λx7 a w hI=>?_);obtain⟨hs,hI⟩:=hI;have hS:=hst x7 hI;clear hst hI0 hI;refine qr (sP (.bool (decide (x7<(s2.length:Int)))) hs λ_ hs=>?_);refine wn (qs (Wp.cS hs decide_eq_true_iff hS (λhS=>?_) (λhS=>?_)))
   ·refine qk (qs (qb (qr (sP2 (iv x7) (iv x7) hs λ_ hs=>?_))));refine wn (qr (sP3 (.string (mkS a1)) (.string (mkS s2)) (iv x7) hs λ_ hs=>?_));obtain⟨c10,h0,hi,hS⟩:=hS;refine sY (.int .u8 (c10.toNat:Int)) hs (Yl.indexStr rfl rfl rfl rfl (by kernel_rfl) h0 hi) λ_ hs=>?_;refine cP [(.string (mkS a1)),(.int .u8 (c10.toNat:Int))] hs Try.func51 hS λ_ _ v hS hs=>?_;obtain⟨x11,rfl,hS⟩:=hS;refine sP (.bool (decide (x11<0))) hs λ_ hs=>?_;refine wn (Wp.cS hs decide_eq_true_iff hS (λhS=>?_) (λhS=>?_))
    ·refine qr (sP (iv 12) hs λ_ hs=>?_);exact wn (qt (rT hs hMM hS))
    ·refine qk (qg ?_);obtain⟨hI,hS⟩:=hS;refine sY (iv (x7+1)) hs (Yl.wr hI) λ_ hs=>?_;refine sP (iv (x7+1)) hs λ_ hs=>?_;exact wn (⟨(x7+1),⟨hs.q,hS.1⟩,hS.2⟩)
   ·refine qx rfl (qr (sP (iv 0) hs λ_ hs=>?_));exact wn (qt (rT hs hMM hS))
def S_walk_Next (a1:List UInt8) (s2:List UInt8) (M:Mem) (L:Nat->Prop) (K:Value->Mem->Prop):Prop:=
 (CallE Try.prog 48 #[(.string (mkS a1)),(.string (mkS s2))] M (λv _=>∃(x3:Int),v=(Value.int .i64 x3)/\(((x3:Int)≠0->(∀M',M.le M'->K (Value.tuple #[(.string (mkS ([]:List UInt8))),(.int .i64 x3)]) M'))/\(¬((x3:Int)≠0)->(s2.length<=maxLen/\∀(M4:Mem) (A5:Option Addr) (c6:Nat),NewB M M4 A5 c6 s2->(InI (((s2.length:Nat):Int)-1)/\(∃(G36:Type) (I34:G36->Int->Mem->Prop) (mu35:G36->Int->Nat) (gz38:G36),I34 gz38 (((s2.length:Nat):Int)-1) M4/\∀(gh37:G36) (i_32:Int) (M33:Mem),(I34 gh37 i_32 M33->((i_32>=0->(∃c39:UInt8,(0:Int)<=i_32/\s2[i_32.toNat]?=some c39/\(CallE Try.prog 51 #[(.string (mkS a1)),(.int .u8 (c39.toNat:Int))] M33 (λv _=>∃(x40:Int),v=(Value.int .i64 x40)/\(InI (((a1.length:Nat):Int)-1)/\((x40<((a1.length:Nat):Int)-1->(InI (x40+1)/\(∃c41:UInt8,(0:Int)<=x40+1/\a1[(x40+1).toNat]?=some c41/\(∃(b42 o43:Nat),A5=some ⟨b42,o43,none⟩/\(0:Int)<=i_32/\i_32<(((s2).length:Nat):Int)/\(HasM M33 b42 (o43+i_32.toNat*1) 1/\Wr L M b42/\∀(M44:Mem),M44=M33.put b42 (o43+i_32.toNat*1) [(.int .u8 (c41.toNat:Int))]->(∃(x45:List UInt8),SlV M44 A5 ((s2).length) c6 1 (bytesV x45)/\x45.length=((s2).length)/\(∀M',M44.le M'->K (Value.tuple #[(.string (mkS x45)),(.int .i64 0)]) M')))))))/\(¬(x40<((a1.length:Nat):Int)-1)->(∃c46:UInt8,(0:Int)<=0/\a1[(0:Int).toNat]?=some c46/\(∃(b47 o48:Nat),A5=some ⟨b47,o48,none⟩/\(0:Int)<=i_32/\i_32<(((s2).length:Nat):Int)/\(HasM M33 b47 (o48+i_32.toNat*1) 1/\Wr L M b47/\∀(M49:Mem),M49=M33.put b47 (o48+i_32.toNat*1) [(.int .u8 (c46.toNat:Int))]->(InI (i_32-1)/\∃(gh:G36),I34 gh (i_32-1) M49/\mu35 gh (i_32-1)<mu35 gh37 i_32)))))))))))/\(¬(i_32>=0)->((((s2.length:Nat):Int)=6->(∀M',M33.le M'->K (Value.tuple #[(.string (mkS ([]:List UInt8))),(.int .i64 12)]) M'))/\(¬(((s2.length:Nat):Int)=6)->(∃c50:UInt8,(0:Int)<=0/\a1[(0:Int).toNat]?=some c50/\((∀u∈[(Value.int .u8 (c50.toNat:Int))],u.oneCell'=true)/\(∃(xs52:List Value),RowM M33 5 1 A5 ((s2).length) c6 xs52/\(∀g,A5=some ⟨g,0,none⟩->Wr L M g)/\((s2).length+1)*1<=140737488355328/\∀(M55:Mem) (ad56:Option Addr) (cap57:Nat),AppM M33 M55 5 1 A5 ad56 ((s2).length+1) cap57 (xs52++[(.int .u8 (c50.toNat:Int))])->(∃(x58:List UInt8),SlV M55 ad56 ((s2).length+1) cap57 1 (bytesV x58)/\x58.length=((s2).length+1)/\(∀M',M55.le M'->K (Value.tuple #[(.string (mkS x58)),(.int .i64 0)]) M')))))))))))))))))
set_option maxRecDepth 100000 in
theorem s_walk_Next (a1:List UInt8) (s2:List UInt8) (M:Mem) (L:Nat->Prop) (K:Value->Mem->Prop) (hS:S_walk_Next a1 s2 M L K):CallW Try.prog 24 #[(Value.string (mkS a1)),(Value.string (mkS s2))] M L K:=by
 refine eW2 Try.func24 58 λE a hMM hs=>?_;unfold S_walk_Next at hS;refine qr (sP2 (.string (mkS ([]:List UInt8))) (iv 0) hs λ_ hs=>?_);refine wn (qs (qr (sP2 (.string (mkS a1)) (.string (mkS s2)) hs λ_ hs=>?_)));refine cP [(.string (mkS a1)),(.string (mkS s2))] hs Try.func48 hS λ_ _ v hS hs=>?_;obtain⟨x3,rfl,hS⟩:=hS;refine sP (iv x3) hs λ_ hs=>?_;refine wn (qr (sP2 (iv x3) (.bool ((x3:Int) != (0:Int))) hs λ_ hs=>?_));refine wn (Wp.cS hs bne_iff_ne hS (λhS=>?_) (λhS=>?_))
 ·refine qr (sP3 (iv x3) (.string (mkS ([]:List UInt8))) (iv x3) hs λ_ hs=>?_);exact wn (qt (leaveW (K:=K) hs (resTT hs rfl rfl rfl) hMM hS))
 ·refine qk (qr (sP (.string (mkS s2)) hs λ_ hs=>?_));obtain⟨hm,hS⟩:=hS;refine stepBytesW (e:=5) hs hMM hm (λ_ _ M4 A5 c6 hnb hMM hs=>?_);have hS:=hS M4 A5 c6 hnb;refine sP (.slice A5 ((s2).length) c6) hs λ_ hs=>?_;refine wn (qs (qr (sP2 (.string (mkS s2)) (iv (s2.length:Int)) hs λ_ hs=>?_)));obtain⟨hI,hS⟩:=hS;refine sY (iv ((s2.length:Int)-1)) hs (Yl.wr hI) λ_ hs=>?_;refine sP (iv ((s2.length:Int)-1)) hs λ_ hs=>?_;refine wn (qb ?_);obtain⟨G36,I34,mu35,gz38,hI0,hst⟩:=hS;refine Wp.loop (σ:=G36×(Int)×(Mem)) (λ(gh37,i_32,M33) a w=>WX M33 M E/\Sx 58 E (bwW E M L) M33 w a [(0,(.string (mkS a1))),(1,(.string (mkS s2))),(7,(.slice A5 ((s2).length) c6)),(8,(iv i_32))] [] []/\I34 gh37 i_32 M33) (λ(gh37,i_32,M33)=>mu35 gh37 i_32) (gz38,(s2.length:Int)-1,M4) ⟨hMM,hs.q,hI0⟩ (λs a w hI=>?_);obtain⟨gh37,i_32,M33⟩:=s;obtain⟨hMM,hs,hI⟩:=hI;have hS:=hst gh37 i_32 M33 hI;clear hst hI0 hI;refine qs (qr (sP2 (iv i_32) (.bool (decide (i_32>=0))) hs λ_ hs=>?_));refine wn (Wp.cS hs decide_eq_true_iff hS (λhS=>?_) (λhS=>?_))
  ·refine qk (qs (qb (qs (qr (sP3 (.string (mkS a1)) (.string (mkS s2)) (iv i_32) hs λ_ hs=>?_)))));obtain⟨c39,h0,hi,hS⟩:=hS;refine sY (.int .u8 (c39.toNat:Int)) hs (Yl.indexStr rfl rfl rfl rfl (by kernel_rfl) h0 hi) λ_ hs=>?_;refine cP [(.string (mkS a1)),(.int .u8 (c39.toNat:Int))] hs Try.func51 hS λ_ _ v hS hs=>?_;obtain⟨x40,rfl,hS⟩:=hS;refine sP (iv x40) hs λ_ hs=>?_;refine wn (qr (sP3 (iv x40) (.string (mkS a1)) (iv (a1.length:Int)) hs λ_ hs=>?_));obtain⟨hI,hS⟩:=hS;refine sY (iv ((a1.length:Int)-1)) hs (Yl.wr hI) λ_ hs=>?_;refine sP (.bool (decide (x40<(a1.length:Int)-1))) hs λ_ hs=>?_;refine wn (Wp.cS hs decide_eq_true_iff hS (λhS=>?_) (λhS=>?_))
   ·refine qr (sP4 (.slice A5 ((s2).length) c6) (iv i_32) (.string (mkS a1)) (iv x40) hs λ_ hs=>?_);obtain⟨hI,hS⟩:=hS;refine sY (iv (x40+1)) hs (Yl.wr hI) λ_ hs=>?_;obtain⟨c41,h0,hi,hS⟩:=hS;refine sY (.int .u8 (c41.toNat:Int)) hs (Yl.indexStr rfl rfl rfl rfl (by kernel_rfl) h0 hi) λ_ hs=>?_;obtain⟨b42,o43,ha,h0,hl,hS⟩:=hS;refine sI 5 1 ha h0 hl hs λ_ hs=>?_;obtain⟨hhas,hwr,hS⟩:=hS;refine stepStoreM (vs:=[(.int .u8 (c41.toNat:Int))]) hs hMM rfl rfl rfl rfl rfl (by kernel_rfl) rfl hhas hwr (λ_ _ M44 hM2 hMM hs=>?_);have hS:=hS M44 hM2;refine wn (qr (sP (.slice A5 ((s2).length) c6) hs λ_ hs=>?_));obtain⟨x45,hsl,hln,hS⟩:=hS;refine sY (.string (mkS x45)) hs (Yl.bytesV (e:=5) rfl rfl (by kernel_rfl) (by kernel_rfl) (by kernel_rfl) hsl hln) λ_ hs=>?_;refine sP2 (.string (mkS x45)) (iv 0) hs λ_ hs=>?_;exact wn (qt (leaveW (K:=K) hs (resTT hs rfl rfl rfl) hMM hS))
   ·refine qk (qg (sP3 (.slice A5 ((s2).length) c6) (iv i_32) (.string (mkS a1)) hs λ_ hs=>?_));obtain⟨c46,h0,hi,hS⟩:=hS;refine sY (.int .u8 (c46.toNat:Int)) hs (Yl.indexStr rfl rfl rfl rfl (by kernel_rfl) h0 hi) λ_ hs=>?_;obtain⟨b47,o48,ha,h0,hl,hS⟩:=hS;refine sI 5 1 ha h0 hl hs λ_ hs=>?_;obtain⟨hhas,hwr,hS⟩:=hS;refine stepStoreM (vs:=[(.int .u8 (c46.toNat:Int))]) hs hMM rfl rfl rfl rfl rfl (by kernel_rfl) rfl hhas hwr (λ_ _ M49 hM2 hMM hs=>?_);have hS:=hS M49 hM2;refine wn (qg (sP (iv i_32) hs λ_ hs=>?_));obtain⟨hI,hS⟩:=hS;refine sY (iv (i_32-1)) hs (Yl.wr hI) λ_ hs=>?_;refine sP (iv (i_32-1)) hs λ_ hs=>?_;refine wn ?_;obtain⟨gh,hI1,hI2⟩:=hS;exact⟨(gh,i_32-1,M49),⟨hMM,hs.q,hI1⟩,hI2⟩
  ·refine qx rfl (qs (qr (sP (.string (mkS s2)) hs λ_ hs=>?_)));refine sP2 (iv (s2.length:Int)) (.bool ((s2.length:Int)==(6:Int))) hs λ_ hs=>?_;refine wn (Wp.cS hs beq_iff_eq hS (λhS=>?_) (λhS=>?_))
   ·refine qr (sP2 (.string (mkS ([]:List UInt8))) (iv 12) hs λ_ hs=>?_);exact wn (qt (leaveW (K:=K) hs (resTT hs rfl rfl rfl) hMM hS))
   ·refine qk (qr (sP2 (.slice A5 ((s2).length) c6) (.string (mkS a1)) hs λ_ hs=>?_));obtain⟨c50,h0,hi,hS⟩:=hS;refine sY (.int .u8 (c50.toNat:Int)) hs (Yl.indexStr rfl rfl rfl rfl (by kernel_rfl) h0 hi) λ_ hs=>?_;refine stepMake [(.int .u8 (c50.toNat:Int))] 5 1 1 hs rfl rfl rfl (λ_=>by kernel_rfl) rfl (by unfold maxLen;decide) (by decide) (λ_ _ rv51 hs=>?_);obtain⟨ad53,cap54,hv,hcp,hxl⟩:=hs.rowform 0 rfl
    dsimp only at hv hcp hxl
    subst hv;obtain⟨ho,hS⟩:=hS;obtain⟨xs52,hrw,hwr,hB,hS⟩:=hS;refine stepAppendM [(.int .u8 (c50.toNat:Int))] hs hMM rfl rfl rfl rfl (by kernel_rfl) (by kernel_rfl) (by decide) (by decide) (hs.srcRowA 0 rfl ho) hrw hwr (lenb hB (by decide)) hB (λ_ _ M55 ad56 cap57 hap hMM hs=>?_);have hS:=hS M55 ad56 cap57 hap;obtain⟨x58,hsl,hln,hS⟩:=hS;refine sY (.string (mkS x58)) hs (Yl.bytesV (e:=5) rfl rfl (by kernel_rfl) (by kernel_rfl) (by kernel_rfl) hsl hln) λ_ hs=>?_;refine sP2 (.string (mkS x58)) (iv 0) hs λ_ hs=>?_;exact wn (qt (leaveW (K:=K) hs (resTT hs rfl rfl rfl) hMM hS))
theorem e_walk_Next (a1:List UInt8) (s2:List UInt8) (M:Mem) (K:Value->Mem->Prop) (hS:S_walk_Next a1 s2 M (λ_=>False) K):CallE Try.prog 24 #[(Value.string (mkS a1)),(Value.string (mkS s2))] M K:=(s_walk_Next _ _ _ _ _ hS).toE
end Go.Proofs.Ytmnilbfhfjdelaa.core

namespace Go.Proofs.Ytmnilbfhfjdelaa.core
open Go.Gx Go.RowKit Go.ChangeShapes Go.WideShapes Go.ChangeAt
set_option linter.unusedVariables false
end Go.Proofs.Ytmnilbfhfjdelaa.core

namespace Go.Proofs.Ytmnilbfhfjdelaa.core
open Go.Gx Go.RowKit Go.ChangeShapes Go.WideShapes Go.ChangeAt
set_option linter.unusedVariables false
def S_chafftop_x (M:Mem) (K:Value->Mem->Prop):Prop:=
 (∀(M5:Mem) (ad3:Option Addr) (cap4:Nat),M.le M5->SlV M5 ad3 1 cap4 8 ((X_api_Rule.mk ([97]:List UInt8) (X_api_Expr.mk 3 (X_api_Set.mk 0 0 0 0) ([120]:List UInt8) none 0 0)).cells)->(∀M',M5.le M'->K (Value.agg #[(.slice ad3 1 cap4)]) M'))
set_option maxRecDepth 100000 in
theorem s_chafftop_x (M:Mem) (K:Value->Mem->Prop) (hS:S_chafftop_x M K):CallE Try.prog 44 #[] M K:=by
 refine eE0 Try.func44 5 λE a hMM hs=>?_;unfold S_chafftop_x at hS;refine qr (stepAlloc [(.slice none 0 0)] hs (by kernel_rfl) (by decide) (λ_ _ b1 hEb1 hs=>?_));have hs:=hs.nilrow 119 8;refine wn (qr (sP2 (X_api_Expr.mk 3 (X_api_Set.mk 0 0 0 0) ([120]:List UInt8) none 0 0).val (X_api_Rule.mk ([97]:List UInt8) (X_api_Expr.mk 3 (X_api_Set.mk 0 0 0 0) ([120]:List UInt8) none 0 0)).val hs λ_ hs=>?_));refine stepMake ((X_api_Rule.mk ([97]:List UInt8) (X_api_Expr.mk 3 (X_api_Set.mk 0 0 0 0) ([120]:List UInt8) none 0 0)).cells) 119 8 1 hs rfl rfl rfl (λ_=>by kernel_rfl) rfl (by unfold maxLen;decide) (by decide) (λ_ _ rv2 hs=>?_);obtain⟨ad3,cap4,hv,hcp,hxl⟩:=hs.rowform 0 rfl
 dsimp only at hv hcp hxl
 subst hv;refine sP (.agg #[(.slice ad3 1 cap4)]) hs λ_ hs=>?_;refine stB 0 [(.slice ad3 1 cap4)] [⟨b1,38,[(.slice ad3 1 cap4)]⟩] hs λ_ _ hs=>?_;refine wn (qt ?_);obtain⟨M5,hle,hsl,hnew,hs⟩:=hs.release 0 rfl [⟨(Value.slice none 0 0),119,8,0,[],true⟩] rfl;have hMM:=hMM.next hle hnew;have hS:=hS M5 ad3 cap4 hle hsl;exact leaveE (K:=K) hs (resC (vs:=[(.slice ad3 1 cap4)]) true 0 hs rfl rfl rfl (by kernel_rfl) rfl) hMM.2 hS
def S_chafftop_begun (M:Mem) (K:Value->Prop):Prop:=
 (CallE Try.prog 44 #[] M (λv M4=>∃(xa1:Option Addr) (xl2:Nat) (xc3:Nat),v=(Value.agg #[(.slice xa1 xl2 xc3)])/\(CallE Try.prog 23 #[(.agg #[(.slice xa1 xl2 xc3)]),(.string (mkS ([120]:List UInt8)))] M4 (λv _=>∃(x5:Bool) (x6:Int),v=(Value.tuple #[(.bool x5),(.int .i64 x6)])/\((x5=true->K (Value.bool ((x6:Int)==(0:Int))))/\(¬(x5=true)->K (Value.bool false)))))))
set_option maxRecDepth 100000 in
theorem s_chafftop_begun (M:Mem) (K:Value->Prop) (hS:S_chafftop_begun M K):CallE Try.prog 18 #[] M (λv _=>K v):=by
 refine eE0 Try.func18 13 λE a hMM hs=>?_;unfold S_chafftop_begun at hS;refine qr (sP (.bool false) hs λ_ hs=>?_);refine wn (qr (stepCallE [] hs rfl ⟨_,rfl,rfl⟩ rfl Try.func44 rfl (by kernel_rfl) (by decide) hS (λ_ _ M4 v hle hnew hS hs=>?_)));have hMM:=hMM.next hle hnew;obtain⟨xa1,xl2,xc3,rfl,hS⟩:=hS;refine cP [(.agg #[(.slice xa1 xl2 xc3)]),(.string (mkS ([120]:List UInt8)))] hs Try.func23 hS λ_ _ v hS hs=>?_;obtain⟨x5,x6,rfl,hS⟩:=hS;refine sP4 (Value.tuple #[(.bool x5),(iv x6)]) (.bool x5) (iv x6) (.bool x5) hs λ_ hs=>?_;refine sP (iv x6) hs λ_ hs=>?_;refine wn (qr (sP2 (.bool x5) (.bool x5) hs λ_ hs=>?_));refine bsS Iff.rfl hs hS (λhs hS=>?_) (λhs hS=>?_)
 ·refine ye (iv x6) hs λ_ hs=>?_;refine ye (.bool ((x6:Int)==(0:Int))) hs λ_ hs=>?_;refine sP2 (.bool ((x6:Int)==(0:Int))) (.bool ((x6:Int)==(0:Int))) hs λ_ hs=>?_;exact wn (qt (rT hs hMM hS))
 ·refine sNo hs λ_ hs=>?_;refine sNo hs λ_ hs=>?_;refine sP2 (.bool false) (.bool false) hs λ_ hs=>?_;exact wn (qt (rT hs hMM hS))
def S_chaffkeep_Within (k1:Int) (n2:Int) (M:Mem) (K:Value->Prop):Prop:=
 (IntKind.wrap .u64 n2≠(0:Int)/\K (Value.int .i64 (IntKind.wrap .i64 ((IntKind.wrap .u64 k1).tmod (IntKind.wrap .u64 n2)))))
set_option maxRecDepth 100000 in
theorem s_chaffkeep_Within (k1:Int) (n2:Int) (M:Mem) (K:Value->Prop) (hS:S_chaffkeep_Within k1 n2 M K):CallE Try.prog 36 #[(Value.int .i64 k1),(Value.int .i64 n2)] M (λv _=>K v):=by
 refine eE2 Try.func36 11 λE a hMM hs=>?_;unfold S_chaffkeep_Within at hS;refine qr (sP (iv 0) hs λ_ hs=>?_);refine wn (qr (sP4 (iv k1) (.int .u64 (IntKind.wrap .u64 k1)) (iv n2) (.int .u64 (IntKind.wrap .u64 n2)) hs λ_ hs=>?_));obtain⟨hz,hS⟩:=hS;refine sY (.int .u64 ((IntKind.wrap .u64 k1).tmod (IntKind.wrap .u64 n2))) hs (Yl.rem hz) λ_ hs=>?_;refine sP2 (iv (IntKind.wrap .i64 ((IntKind.wrap .u64 k1).tmod (IntKind.wrap .u64 n2)))) (iv (IntKind.wrap .i64 ((IntKind.wrap .u64 k1).tmod (IntKind.wrap .u64 n2)))) hs λ_ hs=>?_;exact wn (qt (rT hs hMM hS))
def S_chafftop_right (ga1:Option Addr) (gl2:Nat) (gc3:Nat) (a4:List UInt8) (n5:Int) (M:Mem) (K:Value->Prop):Prop:=
 (CallE Try.prog 45 #[(.agg #[(.slice ga1 gl2 gc3)]),(.string (mkS a4)),(.int .i64 n5)] M (λv _=>∃(x7:Int),v=(Value.int .i64 x7)/\K (Value.bool ((x7:Int)==(0:Int)))))
set_option maxRecDepth 100000 in
theorem s_chafftop_right (ga1:Option Addr) (gl2:Nat) (gc3:Nat) (a4:List UInt8) (n5:Int) (M:Mem) (K:Value->Prop) (hS:S_chafftop_right ga1 gl2 gc3 a4 n5 M K):CallE Try.prog 19 #[(Value.agg #[(Value.slice ga1 gl2 gc3)]),(Value.string (mkS a4)),(Value.int .i64 n5)] M (λv _=>K v):=by
 refine eE3 Try.func19 12 λE a hMM hs=>?_;unfold S_chafftop_right at hS;refine qr (stepBox [(.slice ga1 gl2 gc3)] hs rfl rfl rfl (by decide) (λ_ _ b6 hEb6 hs=>?_));refine sP (.bool false) hs λ_ hs=>?_;refine wn (qr (sB [(.slice ga1 gl2 gc3)] true 0 hs λ_ hs=>?_));refine sP2 (.string (mkS a4)) (iv n5) hs λ_ hs=>?_;refine cP [(.agg #[(.slice ga1 gl2 gc3)]),(.string (mkS a4)),(iv n5)] hs Try.func45 hS λ_ _ v hS hs=>?_;obtain⟨x7,rfl,hS⟩:=hS;refine sP2 (.bool ((x7:Int)==(0:Int))) (.bool ((x7:Int)==(0:Int))) hs λ_ hs=>?_;exact wn (qt (rT hs hMM hS))
end Go.Proofs.Ytmnilbfhfjdelaa.core

namespace Go.Gx
open Go.RowKit
section
variable {P:Program} {ops:Array Oper} {Q:Exit->Act->World->Prop} {n:Nat} {E:World} {bw:List Nat} {M:Mem} {w:World} {a:Act} {env:Env} {bs:List Bx} {rs:List Rw} {rest:List Oper}
end
end Go.Gx

