/- Contracts and what they hang on, of several parts. No condition. -/
import Derived.Test.YtmnilbfhfjdelaaWellG
import Derived.Test.YtmnilbfhfjdelaaCoreG
import Derived.Test.YtmnilbfhfjdelaaM1
import Derived.Lib.AppendZeros
namespace Go.Proofs.Ytmnilbfhfjdelaa.core
open Go.Gx Go.RowKit Go.ChangeShapes Go.WideShapes Go.ChangeAt
set_option linter.unusedVariables false
end Go.Proofs.Ytmnilbfhfjdelaa.core

namespace Go.Proofs.Ytmnilbfhfjdelaa.core
open Go.Gx Go.RowKit Go.ChangeShapes Go.WideShapes Go.ChangeAt
set_option linter.unusedVariables false
def S_set_both (s1:X_api_Set) (t2:X_api_Set) (f3:Value) (M:Mem) (K:Value->Prop):Prop:=
 (∃(I18:Int->List Int->Prop) (mu19:Int->List Int->Nat),I18 0 [s1.w0,s1.w1,s1.w2,s1.w3]/\∀(x16:Int) (zs17:List Int),(I18 x16 zs17->((x16<4->((0:Int)<=x16/\x16<(4:Int)/\(∃x20:Int,zs17[0+x16.toNat*1]?=some x20/\((0:Int)<=x16/\x16<(4:Int)/\(∃x21:Int,[t2.w0,t2.w1,t2.w2,t2.w3][0+x16.toNat*1]?=some x21/\(CallF Try.prog f3 [(.int .u64 x20),(.int .u64 x21)] M (λv _=>∃(x22:Int),v=(Value.int .u64 x22)/\((0:Int)<=x16/\x16<(4:Int)/\(0+x16.toNat*1<(zs17).length/\(InI (x16+1)/\I18 (x16+1) ((zs17).set (0+x16.toNat*1) x22)/\mu19 (x16+1) ((zs17).set (0+x16.toNat*1) x22)<mu19 x16 zs17))))))))))/\(¬(x16<4)->(∃z23 z24 z25 z26:Int,zs17=[z23,z24,z25,z26]/\(([0,0,0,0]).length=4/\(∃z27 z28 z29 z30:Int,[z23,z24,z25,z26]=[z27,z28,z29,z30]/\K (X_api_Set.mk z27 z28 z29 z30).val)))))))
set_option maxRecDepth 100000 in
theorem s_set_both (s1:X_api_Set) (t2:X_api_Set) (f3:Value) (M:Mem) (K:Value->Prop) (hS:S_set_both s1 t2 f3 M K):CallE Try.prog 141 #[s1.val,t2.val,f3] M (λv _=>K v):=by
 refine eE3 Try.func141 23 λE a hMM hs=>?_;unfold S_set_both at hS;refine qr (stepBox s1.cells hs rfl rfl rfl (by decide) (λ_ _ b4 hEb4 hs=>?_));replace hs:=hs.chbx (bs':=[⟨b4,114,(List.map (Value.int .u64) [s1.w0,s1.w1,s1.w2,s1.w3])⟩]) rfl;refine stepBox t2.cells hs rfl rfl rfl (by decide) (λ_ _ b5 hEb5 hs=>?_);replace hs:=hs.chbx (bs':=[⟨b5,114,(List.map (Value.int .u64) [t2.w0,t2.w1,t2.w2,t2.w3])⟩,⟨b4,114,(List.map (Value.int .u64) [s1.w0,s1.w1,s1.w2,s1.w3])⟩]) rfl;refine stepAlloc [(.int .u64 0),(.int .u64 0),(.int .u64 0),(.int .u64 0)] hs (by kernel_rfl) (by decide) (λ_ _ b6 hEb6 hs=>?_);replace hs:=hs.chbx (bs':=[⟨b6,114,(List.map (Value.int .u64) [0,0,0,0])⟩,⟨b5,114,(List.map (Value.int .u64) [t2.w0,t2.w1,t2.w2,t2.w3])⟩,⟨b4,114,(List.map (Value.int .u64) [s1.w0,s1.w1,s1.w2,s1.w3])⟩]) rfl;refine wn (qs (qr (sP (iv 0) hs λ_ hs=>?_)));refine wn (qb ?_);obtain⟨I18,mu19,hI0,hst⟩:=hS
 refine Wp.loop (σ:=(Int)×(List Int)) (λ(x16,zs17) a w=>Sx 23 E [] M w a [(2,f3),(3,(pt b4 0)),(4,(pt b5 0)),(6,(pt b6 0)),(8,(iv x16))] [⟨b6,114,(List.map (Value.int .u64) [0,0,0,0])⟩,⟨b5,114,(List.map (Value.int .u64) [t2.w0,t2.w1,t2.w2,t2.w3])⟩,⟨b4,114,(List.map (Value.int .u64) zs17)⟩] []/\I18 x16 zs17) (λ(x16,zs17)=>mu19 x16 zs17) (0,[s1.w0,s1.w1,s1.w2,s1.w3]) ⟨hs.q,hI0⟩ (λs a w hI=>?_);obtain⟨x16,zs17⟩:=s;obtain⟨hs,hI⟩:=hI;have hS:=hst x16 zs17 hI;clear hst hI0 hI;refine qr (sP (.bool (decide (x16<4))) hs λ_ hs=>?_);refine wn (qs (Wp.cS hs decide_eq_true_iff hS (λhS=>?_) (λhS=>?_)))
 ·refine qk (qs (qb (qr (sP2 (iv x16) (iv x16) hs λ_ hs=>?_))));refine wn (Wp.regionD [true,true,true,true,true,true,true,true,true,true,false] hs (by kernel_rfl) rfl [⟨b6,114,(List.map (Value.int .u64) [0,0,0,0])⟩,⟨b5,114,(List.map (Value.int .u64) [t2.w0,t2.w1,t2.w2,t2.w3])⟩,⟨b4,114,(List.map (Value.int .u64) zs17)⟩] (λ_ h=>h) [] (λ_ h=>h) (λ_ hs hC=>?_));have hL:=Mem.le.refl M;refine dA (iv x16) 0 [9,10] hs λ_ hs=>?_;refine dA f3 1 [8,9,10] hs λ_ hs=>?_;refine dA (iv x16) 2 [3,4,8,9,10] hs λ_ hs=>?_;obtain⟨h0,hl,hS⟩:=hS;refine dF (.pointer (some ⟨b4,0+x16.toNat*1,none⟩)) 3 [4,8,9,10] hs rfl (Yl.indexA (e:=112) (sz:=1) rfl rfl rfl rfl (by kernel_rfl) (by kernel_rfl) h0 hl) λ_ hs=>?_;obtain⟨x20,hz,hS⟩:=hS;refine dC (.int .u64 x20) 4 [8,9,10] hs hC rfl (Yl.loadBD 2 rfl rfl rfl (by kernel_rfl) hz) λ_ hs=>?_;refine sE 5 ?_;refine sP (iv x16) hs λ_ hs=>?_;refine nE 6 ?_;obtain⟨h0,hl,hS⟩:=hS;refine sY (.pointer (some ⟨b5,0+x16.toNat*1,none⟩)) hs (Yl.indexA (e:=112) (sz:=1) rfl rfl rfl rfl (by kernel_rfl) (by kernel_rfl) h0 hl) λ_ hs=>?_;refine nE 7 ?_;obtain⟨x21,hz,hS⟩:=hS;refine sY (.int .u64 x21) hs (Yl.loadBD 1 rfl rfl rfl (by kernel_rfl) hz) λ_ hs=>?_;refine nE 8 ?_
  refine stepCallG [(.int .u64 x20),(.int .u64 x21)] hs rfl ⟨_,rfl,rfl⟩ rfl (by decide) hS (λ_ _ v hS hs=>?_);obtain⟨x22,rfl,hS⟩:=hS;refine wn (⟨λ_ _=>hs.cxle hL (List.Sublist.refl _) (List.Sublist.refl _),?_⟩);have hC:=hs.cxle hL (List.Sublist.refl _) (List.Sublist.refl _);refine sE 9 ?_;obtain⟨h0,hl,hS⟩:=hS;refine sY (.pointer (some ⟨b4,0+x16.toNat*1,none⟩)) hs (Yl.indexA (e:=112) (sz:=1) rfl rfl rfl rfl (by kernel_rfl) (by kernel_rfl) h0 hl) λ_ hs=>?_;refine nE 10 ?_;obtain⟨hlt,hS⟩:=hS;refine stepStoreBD 2 (zs:=zs17) hs rfl rfl rfl rfl rfl (by kernel_rfl) hlt (λ_ _ hs=>?_);replace hs:=hs.chbx (bs':=[⟨b6,114,(List.map (Value.int .u64) [0,0,0,0])⟩,⟨b5,114,(List.map (Value.int .u64) [t2.w0,t2.w1,t2.w2,t2.w3])⟩,⟨b4,114,(List.map (Value.int .u64) ((zs17).set (0+x16.toNat*1) x22))⟩]) rfl;refine wF ?_;refine dD ?_;refine qg ?_;obtain⟨hI,hS⟩:=hS;refine sY (iv (x16+1)) hs (Yl.wr hI) λ_ hs=>?_;refine sP (iv (x16+1)) hs λ_ hs=>?_;exact wn (⟨(x16+1,(zs17).set (0+x16.toNat*1) x22),⟨hs.q,hS.1⟩,hS.2⟩)
 ·refine qx rfl (qr ?_);obtain⟨z23,z24,z25,z26,hz,hS⟩:=hS;refine sY (X_api_Set.mk z23 z24 z25 z26).val hs (Yl.loadBA 2 rfl rfl rfl rfl (by kernel_rfl) hz) λ_ hs=>?_;obtain⟨hlt,hS⟩:=hS;refine stepStoreBA 0 (zs:=[0,0,0,0]) (ys:=[z23,z24,z25,z26]) hs rfl rfl rfl rfl rfl (by kernel_rfl) hlt (λ_ _ hs=>?_);replace hs:=hs.chbx (bs':=[⟨b6,114,(List.map (Value.int .u64) [z23,z24,z25,z26])⟩,⟨b5,114,(List.map (Value.int .u64) [t2.w0,t2.w1,t2.w2,t2.w3])⟩,⟨b4,114,(List.map (Value.int .u64) zs17)⟩]) rfl;refine wn (qt ?_);obtain⟨z27,z28,z29,z30,hz,hS⟩:=hS;replace hs:=hs.chbx (bs':=[⟨b6,114,[(.int .u64 z27),(.int .u64 z28),(.int .u64 z29),(.int .u64 z30)]⟩,⟨b5,114,(List.map (Value.int .u64) [t2.w0,t2.w1,t2.w2,t2.w3])⟩,⟨b4,114,(List.map (Value.int .u64) zs17)⟩]) (by first|rw[hz];rfl|rfl);exact lvE K hs (resC (vs:=[(.int .u64 z27),(.int .u64 z28),(.int .u64 z29),(.int .u64 z30)]) true 0 hs rfl rfl rfl (by kernel_rfl) rfl) hMM.2 hS
def S_chaffref_Has (s1:X_api_Set) (b2:Int) (M:Mem) (K:Value->Prop):Prop:=
 (InI (b2.tdiv 64)/\((0:Int)<=b2.tdiv 64/\b2.tdiv 64<(4:Int)/\(∃x4:Int,[s1.w0,s1.w1,s1.w2,s1.w3][0+(b2.tdiv 64).toNat*1]?=some x4/\((0:Int)<=b2.tmod 64/\K (Value.bool (((bShr .u64 x4 (b2.tmod 64)).tmod 2:Int)==(1:Int)))))))
set_option maxRecDepth 100000 in
theorem s_chaffref_Has (s1:X_api_Set) (b2:Int) (M:Mem) (K:Value->Prop) (hS:S_chaffref_Has s1 b2 M K):CallE Try.prog 107 #[s1.val,(Value.int .i64 b2)] M (λv _=>K v):=by
 refine eE2 Try.func107 14 λE a hMM hs=>?_;unfold S_chaffref_Has at hS;refine qr (stepBox s1.cells hs rfl rfl rfl (by decide) (λ_ _ b3 hEb3 hs=>?_));replace hs:=hs.chbx (bs':=[⟨b3,114,(List.map (Value.int .u64) [s1.w0,s1.w1,s1.w2,s1.w3])⟩]) rfl;refine sP (.bool false) hs λ_ hs=>?_;refine wn (qr (sP (iv b2) hs λ_ hs=>?_));obtain⟨hI,hS⟩:=hS;refine sY (iv (b2.tdiv 64)) hs (Yl.wr hI) λ_ hs=>?_;obtain⟨h0,hl,hS⟩:=hS;refine sY (.pointer (some ⟨b3,0+(b2.tdiv 64).toNat*1,none⟩)) hs (Yl.indexA (e:=112) (sz:=1) rfl rfl rfl rfl (by kernel_rfl) (by kernel_rfl) h0 hl) λ_ hs=>?_;obtain⟨x4,hz,hS⟩:=hS;refine sY (.int .u64 x4) hs (Yl.loadBD 0 rfl rfl rfl (by kernel_rfl) hz) λ_ hs=>?_;refine sP2 (iv b2) (iv (b2.tmod 64)) hs λ_ hs=>?_;obtain⟨h0,hS⟩:=hS;refine sY (.int .u64 (bShr .u64 x4 (b2.tmod 64))) hs (Yl.shr rfl rfl rfl rfl h0) λ_ hs=>?_;refine sP3 (.int .u64 ((bShr .u64 x4 (b2.tmod 64)).tmod 2)) (.bool (((bShr .u64 x4 (b2.tmod 64)).tmod 2:Int)==(1:Int))) (.bool (((bShr .u64 x4 (b2.tmod 64)).tmod 2:Int)==(1:Int))) hs λ_ hs=>?_;exact wn (qt (rT hs hMM hS))
def S_chaffref_Where_J1 (x12:Int) (zs13:List Int) (I14:Int->List Int->Prop) (mu15:Int->List Int->Nat) (zs18:List Int) (K:Value->Prop):Prop:=
 (InI (x12+1)/\I14 (x12+1) zs18/\mu15 (x12+1) zs18<mu15 x12 zs13)
def S_chaffref_Where (is1:Value) (M:Mem) (K:Value->Prop):Prop:=
 (∃(I14:Int->List Int->Prop) (mu15:Int->List Int->Nat),I14 0 [0,0,0,0]/\∀(x12:Int) (zs13:List Int),(I14 x12 zs13->((x12<256->(CallF Try.prog is1 [(.int .i64 x12)] M (λv _=>∃(x16:Bool),v=(Value.bool x16)/\((x16=true->(InI (x12.tdiv 64)/\((0:Int)<=x12.tdiv 64/\x12.tdiv 64<(4:Int)/\(∃x17:Int,zs13[0+(x12.tdiv 64).toNat*1]?=some x17/\((0:Int)<=x12.tmod 64/\((0:Int)<=x12.tdiv 64/\x12.tdiv 64<(4:Int)/\(0+(x12.tdiv 64).toNat*1<(zs13).length/\(S_chaffref_Where_J1 x12 zs13 I14 mu15 ((zs13).set (0+(x12.tdiv 64).toNat*1) (IntKind.wrap .u64 (x17+(bShl .u64 1 (x12.tmod 64))))) K))))))))/\(¬(x16=true)->(S_chaffref_Where_J1 x12 zs13 I14 mu15 zs13 K))))))/\(¬(x12<256)->(∃z19 z20 z21 z22:Int,zs13=[z19,z20,z21,z22]/\((zs13).length=4/\(∃z23 z24 z25 z26:Int,[z19,z20,z21,z22]=[z23,z24,z25,z26]/\K (X_api_Set.mk z23 z24 z25 z26).val)))))))
set_option maxRecDepth 100000 in
theorem s_chaffref_Where (is1:Value) (M:Mem) (K:Value->Prop) (hS:S_chaffref_Where is1 M K):CallE Try.prog 105 #[is1] M (λv _=>K v):=by
 refine eE1 Try.func105 21 λE a hMM hs=>?_;unfold S_chaffref_Where at hS;refine qr (stepAlloc [(.int .u64 0),(.int .u64 0),(.int .u64 0),(.int .u64 0)] hs (by kernel_rfl) (by decide) (λ_ _ b2 hEb2 hs=>?_));replace hs:=hs.chbx (bs':=[⟨b2,114,(List.map (Value.int .u64) [0,0,0,0])⟩]) rfl;refine wn (qs (qr (sP (iv 0) hs λ_ hs=>?_)));refine wn (qb ?_);obtain⟨I14,mu15,hI0,hst⟩:=hS;refine Wp.loop (σ:=(Int)×(List Int)) (λ(x12,zs13) a w=>Sx 21 E [] M w a [(0,is1),(2,(pt b2 0)),(4,(iv x12))] [⟨b2,114,(List.map (Value.int .u64) zs13)⟩] []/\I14 x12 zs13) (λ(x12,zs13)=>mu15 x12 zs13) (0,[0,0,0,0]) ⟨hs.q,hI0⟩ (λs a w hI=>?_);obtain⟨x12,zs13⟩:=s;obtain⟨hs,hI⟩:=hI;have hS:=hst x12 zs13 hI;clear hst hI0 hI;refine qr (sP (.bool (decide (x12<256))) hs λ_ hs=>?_);refine wn (qs (Wp.cS hs decide_eq_true_iff hS (λhS=>?_) (λhS=>?_)))
 ·refine qk (Wp.join (λa w=>∃(zs18:List Int),Sx 21 E [] M w a [(0,is1),(2,(pt b2 0)),(4,(iv x12))] [⟨b2,114,(List.map (Value.int .u64) zs18)⟩] []/\(S_chaffref_Where_J1 x12 zs13 I14 mu15 zs18 K)) ?_ ?_)
  ·refine qb (qr (sP2 (iv x12) (iv x12) hs λ_ hs=>?_));refine wn (qr (sP2 is1 (iv x12) hs λ_ hs=>?_));refine stepCallG [(iv x12)] hs rfl ⟨_,rfl,rfl⟩ rfl (by decide) hS (λ_ _ v hS hs=>?_);obtain⟨x16,rfl,hS⟩:=hS;refine wn (Wp.cS hs Iff.rfl hS (λhS=>?_) (λhS=>?_))
   ·refine Wp.regionD [true,true,true,true,true,true,true,true,true,false] hs (by kernel_rfl) rfl [⟨b2,114,(List.map (Value.int .u64) zs13)⟩] (λ_ h=>h) [] (λ_ h=>h) (λ_ hs hC=>?_);have hL:=Mem.le.refl M;refine dA (iv x12) 0 [1,2,3,7,8,9] hs λ_ hs=>?_;obtain⟨hI,hS⟩:=hS;refine dF (iv (x12.tdiv 64)) 1 [2,3,7,8,9] hs rfl (Yl.wr hI) λ_ hs=>?_;obtain⟨h0,hl,hS⟩:=hS;refine dF (.pointer (some ⟨b2,0+(x12.tdiv 64).toNat*1,none⟩)) 2 [3,7,8,9] hs rfl (Yl.indexA (e:=112) (sz:=1) rfl rfl rfl rfl (by kernel_rfl) (by kernel_rfl) h0 hl) λ_ hs=>?_;obtain⟨x17,hz,hS⟩:=hS;refine dC (.int .u64 x17) 3 [7,8,9] hs hC rfl (Yl.loadBD 0 rfl rfl rfl (by kernel_rfl) hz) λ_ hs=>?_;refine sE 4 ?_;refine sP (iv x12) hs λ_ hs=>?_;refine nE 5 ?_;refine sP (iv (x12.tmod 64)) hs λ_ hs=>?_;refine nE 6 ?_;obtain⟨h0,hS⟩:=hS;refine sY (.int .u64 (bShl .u64 1 (x12.tmod 64))) hs (Yl.shl rfl rfl rfl rfl h0) λ_ hs=>?_;refine nE 7 ?_;refine sP (.int .u64 (IntKind.wrap .u64 (x17+(bShl .u64 1 (x12.tmod 64))))) hs λ_ hs=>?_;refine nE 8 ?_;obtain⟨h0,hl,hS⟩:=hS;refine sY (.pointer (some ⟨b2,0+(x12.tdiv 64).toNat*1,none⟩)) hs (Yl.indexA (e:=112) (sz:=1) rfl rfl rfl rfl (by kernel_rfl) (by kernel_rfl) h0 hl) λ_ hs=>?_;refine nE 9 ?_;obtain⟨hlt,hS⟩:=hS;refine stepStoreBD 0 (zs:=zs13) hs rfl rfl rfl rfl rfl (by kernel_rfl) hlt (λ_ _ hs=>?_)
    replace hs:=hs.chbx (bs':=[⟨b2,114,(List.map (Value.int .u64) ((zs13).set (0+(x12.tdiv 64).toNat*1) (IntKind.wrap .u64 (x17+(bShl .u64 1 (x12.tmod 64))))))⟩]) rfl;refine wF ?_;refine dD ?_;exact⟨((zs13).set (0+(x12.tdiv 64).toNat*1) (IntKind.wrap .u64 (x17+(bShl .u64 1 (x12.tmod 64))))),hs.q,hS⟩
   ·exact qk (⟨zs13,hs.q,hS⟩)
  ·intro a w hJ;obtain⟨zs18,hs,hS⟩:=hJ;unfold S_chaffref_Where_J1 at hS;refine qg ?_;obtain⟨hI,hS⟩:=hS;refine sY (iv (x12+1)) hs (Yl.wr hI) λ_ hs=>?_;refine sP (iv (x12+1)) hs λ_ hs=>?_;exact wn (⟨(x12+1,zs18),⟨hs.q,hS.1⟩,hS.2⟩)
 ·refine qx rfl (qr ?_);obtain⟨z19,z20,z21,z22,hz,hS⟩:=hS;refine sY (X_api_Set.mk z19 z20 z21 z22).val hs (Yl.loadBA 0 rfl rfl rfl rfl (by kernel_rfl) hz) λ_ hs=>?_;obtain⟨hlt,hS⟩:=hS;refine stepStoreBA 0 (zs:=zs13) (ys:=[z19,z20,z21,z22]) hs rfl rfl rfl rfl rfl (by kernel_rfl) hlt (λ_ _ hs=>?_);replace hs:=hs.chbx (bs':=[⟨b2,114,(List.map (Value.int .u64) [z19,z20,z21,z22])⟩]) rfl;refine wn (qt ?_);obtain⟨z23,z24,z25,z26,hz,hS⟩:=hS;replace hs:=hs.chbx (bs':=[⟨b2,114,[(.int .u64 z23),(.int .u64 z24),(.int .u64 z25),(.int .u64 z26)]⟩]) (by first|rw[hz];rfl|rfl);exact lvE K hs (resC (vs:=[(.int .u64 z23),(.int .u64 z24),(.int .u64 z25),(.int .u64 z26)]) true 0 hs rfl rfl rfl (by kernel_rfl) rfl) hMM.2 hS
end Go.Proofs.Ytmnilbfhfjdelaa.core

namespace Go.Proofs.Ytmnilbfhfjdelaa.core
open Go.Gx Go.RowKit Go.ChangeShapes Go.WideShapes Go.ChangeAt
end Go.Proofs.Ytmnilbfhfjdelaa.core

namespace Go.Proofs.Ytmnilbfhfjdelaa.core
open Go.Gx Go.RowKit Go.ChangeShapes Go.WideShapes Go.ChangeAt
set_option linter.unusedVariables false
end Go.Proofs.Ytmnilbfhfjdelaa.core

namespace Go.Proofs.Ytmnilbfhfjdelaa.core
open Go.Gx Go.RowKit Go.ChangeShapes Go.WideShapes Go.ChangeAt
set_option linter.unusedVariables false
structure X_pack_Parser where
 G_Rules_a:Option Addr
 G_Rules_l:Nat
 G_Rules_c:Nat
 S:List UInt8
 seen:Option Nat
 log_a:Option Addr
 log_l:Nat
 log_c:Nat
 far:Int
 want:X_api_Set
 Node:Value
 first_a:Option Addr
 first_l:Nat
 first_c:Nat
def X_pack_Parser.cells (x:X_pack_Parser):List Value:=[(.slice x.G_Rules_a x.G_Rules_l x.G_Rules_c),(.string (mkS x.S)),(.map x.seen),(.slice x.log_a x.log_l x.log_c),(.int .i64 x.far),(.int .u64 x.want.w0),(.int .u64 x.want.w1),(.int .u64 x.want.w2),(.int .u64 x.want.w3),x.Node,(.slice x.first_a x.first_l x.first_c)]
def X_pack_Parser.val (x:X_pack_Parser):Value:=.agg x.cells.toArray
end Go.Proofs.Ytmnilbfhfjdelaa.core

namespace Go.Proofs.Ytmnilbfhfjdelaa.core
open Go.Gx Go.RowKit Go.ChangeShapes Go.WideShapes Go.ChangeAt
set_option linter.unusedVariables false
end Go.Proofs.Ytmnilbfhfjdelaa.core

namespace Go.Proofs.Ytmnilbfhfjdelaa.core
open Go.Gx Go.RowKit Go.ChangeShapes Go.WideShapes Go.ChangeAt
set_option linter.unusedVariables false
end Go.Proofs.Ytmnilbfhfjdelaa.core

namespace Go.Proofs.Ytmnilbfhfjdelaa.core
open Go.Gx Go.RowKit Go.ChangeShapes Go.WideShapes Go.ChangeAt
set_option linter.unusedVariables false
end Go.Proofs.Ytmnilbfhfjdelaa.core

namespace Go.Proofs.Ytmnilbfhfjdelaa.core
open Go.Gx Go.RowKit Go.ChangeShapes Go.WideShapes Go.ChangeAt
set_option linter.unusedVariables false
end Go.Proofs.Ytmnilbfhfjdelaa.core

namespace Go.Proofs.Ytmnilbfhfjdelaa.core
open Go.Gx Go.RowKit Go.ChangeShapes Go.WideShapes Go.ChangeAt
set_option linter.unusedVariables false
end Go.Proofs.Ytmnilbfhfjdelaa.core

namespace Go.Proofs.Ytmnilbfhfjdelaa.core
open Go.Gx Go.RowKit Go.ChangeShapes Go.WideShapes Go.ChangeAt
set_option linter.unusedVariables false
end Go.Proofs.Ytmnilbfhfjdelaa.core

namespace Go.Gx
open Go.RowKit
section
variable {P:Program} {ops:Array Oper} {Q:Exit->Act->World->Prop} {n:Nat} {E:World} {bw:List Nat} {M:Mem} {w:World} {a:Act} {env:Env} {bs:List Bx} {rs:List Rw} {rest:List Oper}
theorem zeroCells_repl (z:Array Value) (n:Nat):(Builtin.zeroCells z n).toList=repl n z.toList:=by
 unfold repl
 by_cases hz:z.size=0
 ·have e:z= #[]:=Array.eq_empty_of_size_eq_zero hz
  subst e
  simp[Builtin.zeroCells]
 apply List.ext_getElem
 ·simp[Builtin.zeroCells]
 ·intro i h1 h2
  have hlt:i<n*z.size:=by simpa[Builtin.zeroCells]using h1
  have key:∀(m j:Nat) (h:j<((List.replicate m z.toList).flatten).length),((List.replicate m z.toList).flatten)[j]=z[j % z.size]'(Nat.mod_lt _ (by omega)):=by
   intro m
   induction m with
   |zero=>intro j h;simp at h
   |succ m ih=>
    intro j h
    simp only[List.replicate_succ,List.flatten_cons]
    by_cases hj:j<z.toList.length
    ·rw[List.getElem_append_left hj]
     have:j % z.size=j:=Nat.mod_eq_of_lt (by simpa using hj)
     simp[this]
    ·have hj2:z.toList.length<=j:=Nat.le_of_not_lt hj
     rw[List.getElem_append_right hj2,ih]
     have this:(j-z.size) % z.size=j % z.size:=by
      have hz2:z.toList.length=z.size:=by simp
      rw[hz2]at hj2
      conv=>rhs;rw[show j=(j-z.size)+z.size by omega,Nat.add_mod_right]
     simp only[Array.length_toList,this]
  rw[key]
  have hm:i % z.size<z.size:=Nat.mod_lt _ (by omega)
  simp[Builtin.zeroCells]
  exact getElem!_pos z (i % z.size) hm
theorem stepAppendZ (i:Nat) {d:Nat} {ty:TypeId} {x y:Operand} {t tn e:TypeId} {size bytes:Nat} {pos:String} {af:Array Edge} {ow:Bool} {q kn:IntKind} {z:Int} (zc:List Value)
  (hs:Sx n E bw M w a env bs rs) (hi:rs[i]?=some ⟨.slice none 0 0,e,size,0,[],ow⟩) (hkx:known env x=true) (hky:known env y=true) (hx:evT env x= .slice none 0 0) (hy:evT env y= .int q z)
  (ht:P.underlying t=some (.slice e)) (htn:P.underlying tn=some (.int kn)) (hinf:(P.info? e).map (λi=>(i.size,i.bytes,i.zero.map (·.cells)))=some (size,bytes,some zc.toArray)) (hsz:zc.length=size) (hsz0:0<size) (hdn:d<n)
  (hz0:0<z) (h63:z.toNat<=maxLen) (hbytes:z.toNat*bytes<=140737488355328)
  (h:∀a' w' v',Sx n E bw M w' a' ((d,v')::env) bs (rs.set i ⟨v',e,size,z.toNat,repl z.toNat zc,ow⟩)->wpList P ops Q rest a' w'):
  wpList P ops Q (⟨some d,.call {callee:=.builtin .append,args:= #[x,y],argTypes:= #[t,tn]},ty,pos,af,none⟩::rest) a w:=by
 refine stepK (Z:=λ_ _=>False) (d:=d) hs (λ_ _ h=>h.elim) rfl (by simp[okOp,notSel,Op.operands,Call.operands,hkx,hky]) rfl hdn ?_
 cases hp:P.info? e with
 |none=>simp[hp]at hinf
 |some ti=>
  simp only[hp,Option.map_some,Option.some.injEq,Prod.mk.injEq]at hinf
  obtain⟨e1,e2,e3⟩:=hinf
  cases hzz:ti.zero with
  |none=>simp[hzz]at e3
  |some zv=>
   simp only[hzz,Option.map_some,Option.some.injEq]at e3
   have hzn:((z.toNat:Nat):Int)=z:=by omega
   have h63':((z.toNat:Nat):Int)<=9223372036854775807:=by unfold maxLen at h63;omega
   have hrun:=Lib.run_append_nil_zeros (P:=P) w t tn ty e ti zv q kn ht htn hp hzz z.toNat (by omega) (by omega) h63' (by rw[e2];omega)
   rw[hzn]at hrun
   let ob:Obj:=.cells (Builtin.zeroCells zv.cells z.toNat++Builtin.zeroCells zv.cells (grownCap w z.toNat 0 e-z.toNat)) e
   refine OpW.of_run (w':=w.drew.alloc ob) (v:=.slice (some ⟨w.heap.size,0,none⟩) z.toNat (grownCap w z.toNat 0 e)) (by simp only[execOp,resolve,invoke,builtin,Sem.run_bind,Sem.run_pure,Result.andThen_ok,List.map_toArray,List.map_cons,List.map_nil,hx,hy,hrun];try rfl) ?_
   intro a' hA
   have hge:=grownCap_ge w z.toNat 0 e
   have hcm:=grownCap_le_maxLen w z.toNat 0 e h63
   have hzs:zv.cells.size=size:=by rw[e3];simpa using hsz
   have hzl:zv.cells.toList=zc:=by rw[e3]
   have hgb:w.grownBy (w.drew.alloc ob) (Value.slice none 0 0).ownBlock:=⟨rfl,rfl,rfl,by simp,λk hk _=>heap_alloc_old w.drew _ hk⟩
   have hown:(w.drew.alloc ob).ownsRow 0 e size (.slice (some ⟨w.heap.size,0,none⟩) z.toNat (grownCap w z.toNat 0 e)) z.toNat (repl z.toNat zc):=by
    refine⟨by rw[repl_length,hsz],.inr ⟨w.heap.size,_,_,rfl,Nat.zero_le _,heap_alloc_new w.drew _,hge,hcm,?_,?_⟩⟩
    ·simp only[Array.size_append,size_zeroCells,hzs,<-Nat.add_mul]
     congr 1
     omega
    ·rw[Array.toList_append,zeroCells_repl,hzl]
     have hl:(repl z.toNat zc).length=z.toNat*size:=by rw[repl_length,hsz]
     rw[List.take_append_of_le_length (by omega),List.take_of_length_le (by omega)]
   exact h a' _ _ (hs.rowset (r':=⟨.slice (some ⟨w.heap.size,0,none⟩) z.toNat (grownCap w z.toNat 0 e),e,size,z.toNat,repl z.toNat zc,ow⟩) i hi hgb rfl hown (.inr (.inr rfl)) hA)
end
end Go.Gx

