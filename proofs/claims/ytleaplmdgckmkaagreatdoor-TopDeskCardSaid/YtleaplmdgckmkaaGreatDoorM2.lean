/- Contracts and what they hang on, of several parts. No condition. -/
import Derived.Test.YtleaplmdgckmkaaGreatDoorRows
import Derived.Test.YtleaplmdgckmkaaGreatDoorM1
import Derived.Recover
namespace Go.Proofs.YtleaplmdgckmkaaGreatDoor.core
open Go.Gx Go.RowKit Go.ChangeShapes Go.WideShapes Go.ChangeAt
set_option linter.unusedVariables false
structure qab where
 w0:Int
 w1:Int
 w2:Int
 w3:Int
def qab.cells (x:qab):List Value:=[(.int .u64 x.w0),(.int .u64 x.w1),(.int .u64 x.w2),(.int .u64 x.w3)]
def qab.val (x:qab):Value:=.agg x.cells.toArray
def qf8 (s1:qab) (t2:qab) (f3:Value) (M:Mem) (K:Value->Prop):Prop:=
 (∃(I18:Int->List Int->Prop) (mu19:Int->List Int->Nat),I18 0 [s1.w0,s1.w1,s1.w2,s1.w3]/\∀(x16:Int) (zs17:List Int),(I18 x16 zs17->((x16<4->((0:Int)<=x16/\x16<(4:Int)/\(∃x20:Int,zs17[0+x16.toNat*1]?=some x20/\((0:Int)<=x16/\x16<(4:Int)/\(∃x21:Int,[t2.w0,t2.w1,t2.w2,t2.w3][0+x16.toNat*1]?=some x21/\(qgM Tryz.prog f3 [(.int .u64 x20),(.int .u64 x21)] M (λv _=>∃(x22:Int),v=(Value.int .u64 x22)/\((0:Int)<=x16/\x16<(4:Int)/\(0+x16.toNat*1<(zs17).length/\(InI (x16+1)/\I18 (x16+1) ((zs17).set (0+x16.toNat*1) x22)/\mu19 (x16+1) ((zs17).set (0+x16.toNat*1) x22)<mu19 x16 zs17))))))))))/\(¬(x16<4)->(∃z23 z24 z25 z26:Int,zs17=[z23,z24,z25,z26]/\(([0,0,0,0]).length=4/\(∃z27 z28 z29 z30:Int,[z23,z24,z25,z26]=[z27,z28,z29,z30]/\K (qab.mk z27 z28 z29 z30).val)))))))
set_option maxRecDepth 100000 in
theorem qjF (s1:qab) (t2:qab) (f3:Value) (M:Mem) (K:Value->Prop) (hS:qf8 s1 t2 f3 M K):qaf Tryz.prog 211 #[s1.val,t2.val,f3] M (λv _=>K v):=by
 refine eE3 Tryz.func211 23 λE a hMM hs=>?_;unfold qf8 at hS;refine qr (qao s1.cells hs rfl rfl rfl (by decide) (λ_ _ b4 hEb4 hs=>?_));replace hs:=hs.chbx (bs':=[⟨b4,47,(List.map (Value.int .u64) [s1.w0,s1.w1,s1.w2,s1.w3])⟩]) rfl;refine qao t2.cells hs rfl rfl rfl (by decide) (λ_ _ b5 hEb5 hs=>?_);replace hs:=hs.chbx (bs':=[⟨b5,47,(List.map (Value.int .u64) [t2.w0,t2.w1,t2.w2,t2.w3])⟩,⟨b4,47,(List.map (Value.int .u64) [s1.w0,s1.w1,s1.w2,s1.w3])⟩]) rfl;refine qae [(.int .u64 0),(.int .u64 0),(.int .u64 0),(.int .u64 0)] hs (by kernel_rfl) (by decide) (λ_ _ b6 hEb6 hs=>?_);replace hs:=hs.chbx (bs':=[⟨b6,47,(List.map (Value.int .u64) [0,0,0,0])⟩,⟨b5,47,(List.map (Value.int .u64) [t2.w0,t2.w1,t2.w2,t2.w3])⟩,⟨b4,47,(List.map (Value.int .u64) [s1.w0,s1.w1,s1.w2,s1.w3])⟩]) rfl;refine wn (qs (qr (sP (iv 0) hs λ_ hs=>?_)));refine wn (qb ?_);obtain⟨I18,mu19,hI0,hst⟩:=hS
 refine Wp.loop (σ:=(Int)×(List Int)) (λ(x16,zs17) a w=>Sx 23 E [] M w a [(2,f3),(3,(pt b4 0)),(4,(pt b5 0)),(6,(pt b6 0)),(8,(iv x16))] [⟨b6,47,(List.map (Value.int .u64) [0,0,0,0])⟩,⟨b5,47,(List.map (Value.int .u64) [t2.w0,t2.w1,t2.w2,t2.w3])⟩,⟨b4,47,(List.map (Value.int .u64) zs17)⟩] []/\I18 x16 zs17) (λ(x16,zs17)=>mu19 x16 zs17) (0,[s1.w0,s1.w1,s1.w2,s1.w3]) ⟨hs.q,hI0⟩ (λs a w hI=>?_);obtain⟨x16,zs17⟩:=s;obtain⟨hs,hI⟩:=hI;have hS:=hst x16 zs17 hI;clear hst hI0 hI;refine qr (sP (.bool (decide (x16<4))) hs λ_ hs=>?_);refine wn (qs (Wp.cS hs decide_eq_true_iff hS (λhS=>?_) (λhS=>?_)))
 ·refine qk (qs (qb (qr (sP2 (iv x16) (iv x16) hs λ_ hs=>?_))));refine wn (Wp.regionD [true,true,true,true,true,true,true,true,true,true,false] hs (by kernel_rfl) rfl [⟨b6,47,(List.map (Value.int .u64) [0,0,0,0])⟩,⟨b5,47,(List.map (Value.int .u64) [t2.w0,t2.w1,t2.w2,t2.w3])⟩,⟨b4,47,(List.map (Value.int .u64) zs17)⟩] (λ_ h=>h) [] (λ_ h=>h) (λ_ hs hC=>?_));have hL:=Mem.le.refl M;refine dA (iv x16) 0 [9,10] hs λ_ hs=>?_;refine dA f3 1 [8,9,10] hs λ_ hs=>?_;refine dA (iv x16) 2 [3,4,8,9,10] hs λ_ hs=>?_;obtain⟨h0,hl,hS⟩:=hS;refine dF (.pointer (some ⟨b4,0+x16.toNat*1,none⟩)) 3 [4,8,9,10] hs rfl (Yl.indexA (e:=45) (sz:=1) rfl rfl rfl rfl (by kernel_rfl) (by kernel_rfl) h0 hl) λ_ hs=>?_;obtain⟨x20,hz,hS⟩:=hS;refine dC (.int .u64 x20) 4 [8,9,10] hs hC rfl (Yl.loadBD 2 rfl rfl rfl (by kernel_rfl) hz) λ_ hs=>?_;refine sE 5 ?_;refine sP (iv x16) hs λ_ hs=>?_;refine nE 6 ?_;obtain⟨h0,hl,hS⟩:=hS;refine sY (.pointer (some ⟨b5,0+x16.toNat*1,none⟩)) hs (Yl.indexA (e:=45) (sz:=1) rfl rfl rfl rfl (by kernel_rfl) (by kernel_rfl) h0 hl) λ_ hs=>?_;refine nE 7 ?_;obtain⟨x21,hz,hS⟩:=hS;refine sY (.int .u64 x21) hs (Yl.loadBD 1 rfl rfl rfl (by kernel_rfl) hz) λ_ hs=>?_;refine nE 8 ?_
  refine qpg [(.int .u64 x20),(.int .u64 x21)] hs rfl ⟨_,rfl,rfl⟩ rfl (by decide) hS (λ_ _ v hS hs=>?_);obtain⟨x22,rfl,hS⟩:=hS;refine wn (⟨λ_ _=>hs.cxle hL (List.Sublist.refl _) (List.Sublist.refl _),?_⟩);have hC:=hs.cxle hL (List.Sublist.refl _) (List.Sublist.refl _);refine sE 9 ?_;obtain⟨h0,hl,hS⟩:=hS;refine sY (.pointer (some ⟨b4,0+x16.toNat*1,none⟩)) hs (Yl.indexA (e:=45) (sz:=1) rfl rfl rfl rfl (by kernel_rfl) (by kernel_rfl) h0 hl) λ_ hs=>?_;refine nE 10 ?_;obtain⟨hlt,hS⟩:=hS;refine qiv 2 (zs:=zs17) hs rfl rfl rfl rfl rfl (by kernel_rfl) hlt (λ_ _ hs=>?_);replace hs:=hs.chbx (bs':=[⟨b6,47,(List.map (Value.int .u64) [0,0,0,0])⟩,⟨b5,47,(List.map (Value.int .u64) [t2.w0,t2.w1,t2.w2,t2.w3])⟩,⟨b4,47,(List.map (Value.int .u64) ((zs17).set (0+x16.toNat*1) x22))⟩]) rfl;refine wF ?_;refine dD ?_;refine qg ?_;obtain⟨hI,hS⟩:=hS;refine sY (iv (x16+1)) hs (Yl.wr hI) λ_ hs=>?_;refine sP (iv (x16+1)) hs λ_ hs=>?_;exact wn (⟨(x16+1,(zs17).set (0+x16.toNat*1) x22),⟨hs.q,hS.1⟩,hS.2⟩)
 ·refine qx rfl (qr ?_);obtain⟨z23,z24,z25,z26,hz,hS⟩:=hS;refine sY (qab.mk z23 z24 z25 z26).val hs (Yl.loadBA 2 rfl rfl rfl rfl (by kernel_rfl) hz) λ_ hs=>?_;obtain⟨hlt,hS⟩:=hS;refine qiw 0 (zs:=[0,0,0,0]) (ys:=[z23,z24,z25,z26]) hs rfl rfl rfl rfl rfl (by kernel_rfl) hlt (λ_ _ hs=>?_);replace hs:=hs.chbx (bs':=[⟨b6,47,(List.map (Value.int .u64) [z23,z24,z25,z26])⟩,⟨b5,47,(List.map (Value.int .u64) [t2.w0,t2.w1,t2.w2,t2.w3])⟩,⟨b4,47,(List.map (Value.int .u64) zs17)⟩]) rfl;refine wn (qt ?_);obtain⟨z27,z28,z29,z30,hz,hS⟩:=hS;replace hs:=hs.chbx (bs':=[⟨b6,47,[(.int .u64 z27),(.int .u64 z28),(.int .u64 z29),(.int .u64 z30)]⟩,⟨b5,47,(List.map (Value.int .u64) [t2.w0,t2.w1,t2.w2,t2.w3])⟩,⟨b4,47,(List.map (Value.int .u64) zs17)⟩]) (by first|rw[hz];rfl|rfl);exact lvE K hs (qf2 (vs:=[(.int .u64 z27),(.int .u64 z28),(.int .u64 z29),(.int .u64 z30)]) true 0 hs rfl rfl rfl (by kernel_rfl) rfl) hMM.2 hS
def qes (a1:Int) (b2:Int) (M:Mem) (K:Value->Prop):Prop:=
 K (Value.int .u64 (bOr .u64 a1 b2))
set_option maxRecDepth 100000 in
theorem qk4 (a1:Int) (b2:Int) (M:Mem) (K:Value->Prop) (hS:qes a1 b2 M K):qaf Tryz.prog 212 #[(Value.int .u64 a1),(Value.int .u64 b2)] M (λv _=>K v):=by
 refine eE2 Tryz.func212 8 λE a hMM hs=>?_;unfold qes at hS;refine qr (sP (.int .u64 0) hs λ_ hs=>?_);refine wn (qr (sP4 (.int .u64 a1) (.int .u64 b2) (.int .u64 (bOr .u64 a1 b2)) (.int .u64 (bOr .u64 a1 b2)) hs λ_ hs=>?_));exact wn (qt (rT hs hMM hS))
theorem qlI (a1:Int) (b2:Int) (M:Mem) (K:Value->Prop) (hS:qes a1 b2 M K):qgM Tryz.prog (Value.func (.func 212) #[] #[]) [(Value.int .u64 a1),(Value.int .u64 b2)] M (λv _=>K v):=⟨212,_,_,_,rfl,Tryz.func212,rfl,(by decide),qk4 _ _ _ _ hS⟩
def qf9 (s1:qab) (t2:qab) (M:Mem) (K:Value->Prop):Prop:=
 (qaf Tryz.prog 211 #[s1.val,t2.val,(Value.func (.func 212) #[] #[])] M (λv _=>∃(x6:qab),v=x6.val/\K x6.val))
set_option maxRecDepth 100000 in
theorem qjG (s1:qab) (t2:qab) (M:Mem) (K:Value->Prop) (hS:qf9 s1 t2 M K):qaf Tryz.prog 179 #[s1.val,t2.val] M (λv _=>K v):=by
 refine eE2 Tryz.func179 8 λE a hMM hs=>?_;unfold qf9 at hS;refine qr (qao s1.cells hs rfl rfl rfl (by decide) (λ_ _ b3 hEb3 hs=>?_));refine qao t2.cells hs rfl rfl rfl (by decide) (λ_ _ b4 hEb4 hs=>?_);refine qae [(.int .u64 0),(.int .u64 0),(.int .u64 0),(.int .u64 0)] hs (by kernel_rfl) (by decide) (λ_ _ b5 hEb5 hs=>?_);refine wn (qr (sY s1.val hs (Yl.lB s1.cells true 2) λ_ hs=>?_));refine sY t2.val hs (Yl.lB t2.cells true 1) λ_ hs=>?_;refine cP [s1.val,t2.val,(Value.func (.func 212) #[] #[])] hs Tryz.func211 hS λ_ _ v hS hs=>?_;obtain⟨x6,rfl,hS⟩:=hS;refine stB 0 x6.cells [⟨b5,47,x6.cells⟩,⟨b4,47,t2.cells⟩,⟨b3,47,s1.cells⟩] hs λ_ _ hs=>?_;exact wn (qt (lvE K hs (qf2 (vs:=x6.cells) true 0 hs rfl rfl rfl (by kernel_rfl) rfl) hMM.2 hS))
def qfc (qoA:Int) (high2:Int) (M:Mem) (K:Value->Prop):Prop:=
 (∃(I11:Int->List Int->Prop) (mu12:Int->List Int->Nat),I11 (if qoA>0 then qoA else 0) [0,0,0,0]/\∀(b9:Int) (zs10:List Int),(I11 b9 zs10->((b9<=(if high2<255 then high2 else 255)->((0:Int)<=qbV .i64 b9 6/\qbV .i64 b9 6<(4:Int)/\(∃x13:Int,zs10[0+(qbV .i64 b9 6).toNat*1]?=some x13/\((0:Int)<=qcw .i64 b9 63/\((0:Int)<=qbV .i64 b9 6/\qbV .i64 b9 6<(4:Int)/\(0+(qbV .i64 b9 6).toNat*1<(zs10).length/\(InI (b9+1)/\I11 (b9+1) ((zs10).set (0+(qbV .i64 b9 6).toNat*1) (bOr .u64 x13 (qh3 .u64 1 (qcw .i64 b9 63))))/\mu12 (b9+1) ((zs10).set (0+(qbV .i64 b9 6).toNat*1) (bOr .u64 x13 (qh3 .u64 1 (qcw .i64 b9 63))))<mu12 b9 zs10)))))))/\(¬(b9<=(if high2<255 then high2 else 255))->(∃z14 z15 z16 z17:Int,zs10=[z14,z15,z16,z17]/\((zs10).length=4/\(∃z18 z19 z20 z21:Int,[z14,z15,z16,z17]=[z18,z19,z20,z21]/\K (qab.mk z18 z19 z20 z21).val)))))))
set_option maxRecDepth 100000 in
theorem qe0 (qoA:Int) (high2:Int) (M:Mem) (K:Value->Prop) (hS:qfc qoA high2 M K):qaf Tryz.prog 70 #[(Value.int .i64 qoA),(Value.int .i64 high2)] M (λv _=>K v):=by
 refine eE2 Tryz.func70 24 λE a hMM hs=>?_;unfold qfc at hS;refine qr (qae [(.int .u64 0),(.int .u64 0),(.int .u64 0),(.int .u64 0)] hs (by kernel_rfl) (by decide) (λ_ _ b3 hEb3 hs=>?_));replace hs:=hs.chbx (bs':=[⟨b3,47,(List.map (Value.int .u64) [0,0,0,0])⟩]) rfl;refine wn (qs (qr (sP3 (iv qoA) (iv (if qoA>0 then qoA else 0)) (iv (if qoA>0 then qoA else 0)) hs λ_ hs=>?_)));refine wn (qb ?_);obtain⟨I11,mu12,hI0,hst⟩:=hS;refine Wp.loop (σ:=(Int)×(List Int)) (λ(b9,zs10) a w=>Sx 24 E [] M w a [(1,(iv high2)),(4,(pt b3 0)),(5,(iv b9))] [⟨b3,47,(List.map (Value.int .u64) zs10)⟩] []/\I11 b9 zs10) (λ(b9,zs10)=>mu12 b9 zs10) ((if qoA>0 then qoA else 0),[0,0,0,0]) ⟨hs.q,hI0⟩ (λs a w hI=>?_);obtain⟨b9,zs10⟩:=s;obtain⟨hs,hI⟩:=hI;have hS:=hst b9 zs10 hI;clear hst hI0 hI;refine qs (qr (sP4 (iv b9) (iv high2) (iv (if high2<255 then high2 else 255)) (.bool (decide (b9<=(if high2<255 then high2 else 255)))) hs λ_ hs=>?_))
 refine wn (Wp.cS hs decide_eq_true_iff hS (λhS=>?_) (λhS=>?_))
 ·refine qk (qs (qb (Wp.regionD [true,true,true,true,true,true,true,true,true,false] hs (by kernel_rfl) rfl [⟨b3,47,(List.map (Value.int .u64) zs10)⟩] (λ_ h=>h) [] (λ_ h=>h) (λ_ hs hC=>?_))));have hL:=Mem.le.refl M;refine dA (iv b9) 0 [1,2,3,7,8,9] hs λ_ hs=>?_;refine dA (iv (qbV .i64 b9 6)) 1 [2,3,7,8,9] hs λ_ hs=>?_;obtain⟨h0,hl,hS⟩:=hS;refine dF (.pointer (some ⟨b3,0+(qbV .i64 b9 6).toNat*1,none⟩)) 2 [3,7,8,9] hs rfl (Yl.indexA (e:=45) (sz:=1) rfl rfl rfl rfl (by kernel_rfl) (by kernel_rfl) h0 hl) λ_ hs=>?_;obtain⟨x13,hz,hS⟩:=hS;refine dC (.int .u64 x13) 3 [7,8,9] hs hC rfl (Yl.loadBD 0 rfl rfl rfl (by kernel_rfl) hz) λ_ hs=>?_;refine sE 4 ?_;refine sP (iv b9) hs λ_ hs=>?_;refine nE 5 ?_;refine sP (iv (qcw .i64 b9 63)) hs λ_ hs=>?_;refine nE 6 ?_;obtain⟨h0,hS⟩:=hS;refine sY (.int .u64 (qh3 .u64 1 (qcw .i64 b9 63))) hs (Yl.shl rfl rfl rfl rfl h0) λ_ hs=>?_;refine nE 7 ?_;refine sP (.int .u64 (bOr .u64 x13 (qh3 .u64 1 (qcw .i64 b9 63)))) hs λ_ hs=>?_;refine nE 8 ?_;obtain⟨h0,hl,hS⟩:=hS;refine sY (.pointer (some ⟨b3,0+(qbV .i64 b9 6).toNat*1,none⟩)) hs (Yl.indexA (e:=45) (sz:=1) rfl rfl rfl rfl (by kernel_rfl) (by kernel_rfl) h0 hl) λ_ hs=>?_;refine nE 9 ?_;obtain⟨hlt,hS⟩:=hS;refine qiv 0 (zs:=zs10) hs rfl rfl rfl rfl rfl (by kernel_rfl) hlt (λ_ _ hs=>?_)
  replace hs:=hs.chbx (bs':=[⟨b3,47,(List.map (Value.int .u64) ((zs10).set (0+(qbV .i64 b9 6).toNat*1) (bOr .u64 x13 (qh3 .u64 1 (qcw .i64 b9 63)))))⟩]) rfl;refine wF ?_;refine dD ?_;refine qg (sP (iv b9) hs λ_ hs=>?_);obtain⟨hI,hS⟩:=hS;refine sY (iv (b9+1)) hs (Yl.wr hI) λ_ hs=>?_;refine sP (iv (b9+1)) hs λ_ hs=>?_;exact wn (⟨(b9+1,(zs10).set (0+(qbV .i64 b9 6).toNat*1) (bOr .u64 x13 (qh3 .u64 1 (qcw .i64 b9 63)))),⟨hs.q,hS.1⟩,hS.2⟩)
 ·refine qx rfl (qr ?_);obtain⟨z14,z15,z16,z17,hz,hS⟩:=hS;refine sY (qab.mk z14 z15 z16 z17).val hs (Yl.loadBA 0 rfl rfl rfl rfl (by kernel_rfl) hz) λ_ hs=>?_;obtain⟨hlt,hS⟩:=hS;refine qiw 0 (zs:=zs10) (ys:=[z14,z15,z16,z17]) hs rfl rfl rfl rfl rfl (by kernel_rfl) hlt (λ_ _ hs=>?_);replace hs:=hs.chbx (bs':=[⟨b3,47,(List.map (Value.int .u64) [z14,z15,z16,z17])⟩]) rfl;refine wn (qt ?_);obtain⟨z18,z19,z20,z21,hz,hS⟩:=hS;replace hs:=hs.chbx (bs':=[⟨b3,47,[(.int .u64 z18),(.int .u64 z19),(.int .u64 z20),(.int .u64 z21)]⟩]) (by first|rw[hz];rfl|rfl);exact lvE K hs (qf2 (vs:=[(.int .u64 z18),(.int .u64 z19),(.int .u64 z20),(.int .u64 z21)]) true 0 hs rfl rfl rfl (by kernel_rfl) rfl) hMM.2 hS
def qhl (s1:qab) (b2:Int) (M:Mem) (K:Value->Prop):Prop:=
 ((0:Int)<=qbV .u8 b2 6/\qbV .u8 b2 6<(4:Int)/\(∃x4:Int,[s1.w0,s1.w1,s1.w2,s1.w3][0+(qbV .u8 b2 6).toNat*1]?=some x4/\((0:Int)<=qcw .u8 b2 63/\K (Value.bool ((qcw .u64 (qbV .u64 x4 (qcw .u8 b2 63)) 1:Int)==(1:Int))))))
set_option maxRecDepth 100000 in
theorem qk5 (s1:qab) (b2:Int) (M:Mem) (K:Value->Prop) (hS:qhl s1 b2 M K):qaf Tryz.prog 113 #[s1.val,(Value.int .u8 b2)] M (λv _=>K v):=by
 refine eE2 Tryz.func113 14 λE a hMM hs=>?_;unfold qhl at hS;refine qr (qao s1.cells hs rfl rfl rfl (by decide) (λ_ _ b3 hEb3 hs=>?_));replace hs:=hs.chbx (bs':=[⟨b3,47,(List.map (Value.int .u64) [s1.w0,s1.w1,s1.w2,s1.w3])⟩]) rfl;refine sP (.bool false) hs λ_ hs=>?_;refine wn (qr (sP2 (.int .u8 b2) (.int .u8 (qbV .u8 b2 6)) hs λ_ hs=>?_));obtain⟨h0,hl,hS⟩:=hS;refine sY (.pointer (some ⟨b3,0+(qbV .u8 b2 6).toNat*1,none⟩)) hs (Yl.indexA (e:=45) (sz:=1) rfl rfl rfl rfl (by kernel_rfl) (by kernel_rfl) h0 hl) λ_ hs=>?_;obtain⟨x4,hz,hS⟩:=hS;refine sY (.int .u64 x4) hs (Yl.loadBD 0 rfl rfl rfl (by kernel_rfl) hz) λ_ hs=>?_;refine sP2 (.int .u8 b2) (.int .u8 (qcw .u8 b2 63)) hs λ_ hs=>?_;obtain⟨h0,hS⟩:=hS;refine sY (.int .u64 (qbV .u64 x4 (qcw .u8 b2 63))) hs (Yl.shr rfl rfl rfl rfl h0) λ_ hs=>?_;refine sP3 (.int .u64 (qcw .u64 (qbV .u64 x4 (qcw .u8 b2 63)) 1)) (.bool ((qcw .u64 (qbV .u64 x4 (qcw .u8 b2 63)) 1:Int)==(1:Int))) (.bool ((qcw .u64 (qbV .u64 x4 (qcw .u8 b2 63)) 1:Int)==(1:Int))) hs λ_ hs=>?_;exact wn (qt (rT hs hMM hS))
def qfd (a1:Int) (x2:Int) (M:Mem) (K:Value->Prop):Prop:=
 K (Value.int .u64 (qub .u64 a1))
set_option maxRecDepth 100000 in
theorem qmg (a1:Int) (x2:Int) (M:Mem) (K:Value->Prop) (hS:qfd a1 x2 M K):qaf Tryz.prog 246 #[(Value.int .u64 a1),(Value.int .u64 x2)] M (λv _=>K v):=by
 refine eE2 Tryz.func246 7 λE a hMM hs=>?_;unfold qfd at hS;refine qr (sP (.int .u64 0) hs λ_ hs=>?_);refine wn (qr (sP3 (.int .u64 a1) (.int .u64 (qub .u64 a1)) (.int .u64 (qub .u64 a1)) hs λ_ hs=>?_));exact wn (qt (rT hs hMM hS))
theorem qmE (a1:Int) (x2:Int) (M:Mem) (K:Value->Prop) (hS:qfd a1 x2 M K):qgM Tryz.prog (Value.func (.func 246) #[] #[]) [(Value.int .u64 a1),(Value.int .u64 x2)] M (λv _=>K v):=⟨246,_,_,_,rfl,Tryz.func246,rfl,(by decide),qmg _ _ _ _ hS⟩
def qhk (s1:qab) (M:Mem) (K:Value->Prop):Prop:=
 (qaf Tryz.prog 211 #[s1.val,s1.val,(Value.func (.func 246) #[] #[])] M (λv _=>∃(x4:qab),v=x4.val/\K x4.val))
set_option maxRecDepth 100000 in
theorem qpq (s1:qab) (M:Mem) (K:Value->Prop) (hS:qhk s1 M K):qaf Tryz.prog 224 #[s1.val] M (λv _=>K v):=by
 refine eE1 Tryz.func224 6 λE a hMM hs=>?_;unfold qhk at hS;refine qr (qao s1.cells hs rfl rfl rfl (by decide) (λ_ _ b2 hEb2 hs=>?_));refine qae [(.int .u64 0),(.int .u64 0),(.int .u64 0),(.int .u64 0)] hs (by kernel_rfl) (by decide) (λ_ _ b3 hEb3 hs=>?_);refine wn (qr (sY s1.val hs (Yl.lB s1.cells true 1) λ_ hs=>?_));refine sY s1.val hs (Yl.lB s1.cells true 1) λ_ hs=>?_;refine cP [s1.val,s1.val,(Value.func (.func 246) #[] #[])] hs Tryz.func211 hS λ_ _ v hS hs=>?_;obtain⟨x4,rfl,hS⟩:=hS;refine stB 0 x4.cells [⟨b3,47,x4.cells⟩,⟨b2,47,s1.cells⟩] hs λ_ _ hs=>?_;exact wn (qt (lvE K hs (qf2 (vs:=x4.cells) true 0 hs rfl rfl rfl (by kernel_rfl) rfl) hMM.2 hS))
def qa3 (x1:Int) (M:Mem) (K:Value->Prop):Prop:=
 (((x1:Int)=0->K (Value.int .i64 64))/\(¬((x1:Int)=0)->((0:Int)<=qbV .u64 (IntKind.wrap .u64 ((qcw .u64 x1 (IntKind.wrap .u64 (0-x1)))*285870213051353865)) 58/\qbV .u64 (IntKind.wrap .u64 ((qcw .u64 x1 (IntKind.wrap .u64 (0-x1)))*285870213051353865)) 58<(64:Int)/\(∃(x2:Int),At M 4 (0+(qbV .u64 (IntKind.wrap .u64 ((qcw .u64 x1 (IntKind.wrap .u64 (0-x1)))*285870213051353865)) 58).toNat*1) [(.int .u8 x2)]/\K (Value.int .i64 (IntKind.wrap .i64 x2))))))
set_option maxRecDepth 100000 in
theorem qd4 (x1:Int) (M:Mem) (K:Value->Prop) (hS:qa3 x1 M K):qaf Tryz.prog 152 #[(Value.int .u64 x1)] M (λv _=>K v):=by
 refine eE1 Tryz.func152 14 λE a hMM hs=>?_;unfold qa3 at hS;refine qr (sP (iv 0) hs λ_ hs=>?_);refine wn (qs (qr (sP2 (.int .u64 x1) (.bool ((x1:Int)==(0:Int))) hs λ_ hs=>?_)));refine wn (Wp.cS hs beq_iff_eq hS (λhS=>?_) (λhS=>?_))
 ·refine qr (sP (iv 64) hs λ_ hs=>?_);exact wn (qt (rT hs hMM hS))
 ·refine qk (qr (sP4 (.int .u64 x1) (.int .u64 x1) (.int .u64 (IntKind.wrap .u64 (0-x1))) (.int .u64 (qcw .u64 x1 (IntKind.wrap .u64 (0-x1)))) hs λ_ hs=>?_));refine sP2 (.int .u64 (IntKind.wrap .u64 ((qcw .u64 x1 (IntKind.wrap .u64 (0-x1)))*285870213051353865))) (.int .u64 (qbV .u64 (IntKind.wrap .u64 ((qcw .u64 x1 (IntKind.wrap .u64 (0-x1)))*285870213051353865)) 58)) hs λ_ hs=>?_;obtain⟨h0,hl,hS⟩:=hS;refine sY (.pointer (some ⟨4,0+(qbV .u64 (IntKind.wrap .u64 ((qcw .u64 x1 (IntKind.wrap .u64 (0-x1)))*285870213051353865)) 58).toNat*1,none⟩)) hs (Yl.indexA (e:=5) (sz:=1) rfl rfl rfl rfl (by kernel_rfl) (by kernel_rfl) h0 hl) λ_ hs=>?_;obtain⟨x2,hat,hS⟩:=hS;refine sV1 (.int .u8 x2) hat hs λ_ hs=>?_;refine sP2 (iv (IntKind.wrap .i64 x2)) (iv (IntKind.wrap .i64 x2)) hs λ_ hs=>?_;exact wn (qt (rT hs hMM hS))
def qcb (M:Mem) (i_8:Int) (I9:Int->Prop) (mu10:Int->Nat) (w12:Int) (K:Value->Prop):Prop:=
 (((w12:Int)≠0->(qaf Tryz.prog 152 #[(.int .u64 w12)] M (λv _=>∃(x13:Int),v=(Value.int .i64 x13)/\(InI ((qh3 .i64 i_8 6)+x13)/\K (Value.int .i64 ((qh3 .i64 i_8 6)+x13))))))/\(¬((w12:Int)≠0)->(InI (i_8+1)/\I9 (i_8+1)/\mu10 (i_8+1)<mu10 i_8)))
def qfe (s1:qab) (from2:Int) (M:Mem) (K:Value->Prop):Prop:=
 (∃(I9:Int->Prop) (mu10:Int->Nat),I9 (qbV .i64 (if from2>0 then from2 else 0) 6)/\∀(i_8:Int),(I9 i_8->((i_8<4->((0:Int)<=i_8/\i_8<(4:Int)/\(∃x11:Int,[s1.w0,s1.w1,s1.w2,s1.w3][0+i_8.toNat*1]?=some x11/\(((i_8:Int)=qbV .i64 (if from2>0 then from2 else 0) 6->((0:Int)<=qcw .i64 (if from2>0 then from2 else 0) 63/\((0:Int)<=qcw .i64 (if from2>0 then from2 else 0) 63/\(qcb M i_8 I9 mu10 (qh3 .u64 (qbV .u64 x11 (qcw .i64 (if from2>0 then from2 else 0) 63)) (qcw .i64 (if from2>0 then from2 else 0) 63)) K))))/\(¬((i_8:Int)=qbV .i64 (if from2>0 then from2 else 0) 6)->(qcb M i_8 I9 mu10 x11 K))))))/\(¬(i_8<4)->K (Value.int .i64 (-1))))))
set_option maxRecDepth 100000 in
theorem qiK (s1:qab) (from2:Int) (M:Mem) (K:Value->Prop) (hS:qfe s1 from2 M K):qaf Tryz.prog 112 #[s1.val,(Value.int .i64 from2)] M (λv _=>K v):=by
 refine eE2 Tryz.func112 36 λE a hMM hs=>?_;unfold qfe at hS;refine qr (qao s1.cells hs rfl rfl rfl (by decide) (λ_ _ b3 hEb3 hs=>?_));replace hs:=hs.chbx (bs':=[⟨b3,47,(List.map (Value.int .u64) [s1.w0,s1.w1,s1.w2,s1.w3])⟩]) rfl;refine sP (iv 0) hs λ_ hs=>?_;refine wn (qr (sP3 (iv from2) (iv (if from2>0 then from2 else 0)) (iv (if from2>0 then from2 else 0)) hs λ_ hs=>?_));refine wn (qs (qr (sP3 (iv (if from2>0 then from2 else 0)) (iv (qbV .i64 (if from2>0 then from2 else 0) 6)) (iv (qbV .i64 (if from2>0 then from2 else 0) 6)) hs λ_ hs=>?_)));refine wn (qb ?_);obtain⟨I9,mu10,hI0,hst⟩:=hS;refine Wp.loop (σ:=(Int)) (λi_8 a w=>Sx 36 E [] M w a [(1,(iv (if from2>0 then from2 else 0))),(2,(pt b3 0)),(5,(iv i_8))] [⟨b3,47,(List.map (Value.int .u64) [s1.w0,s1.w1,s1.w2,s1.w3])⟩] []/\I9 i_8) (λi_8=>mu10 i_8) (qbV .i64 (if from2>0 then from2 else 0) 6) ⟨hs.q,hI0⟩ (λi_8 a w hI=>?_);obtain⟨hs,hI⟩:=hI;have hS:=hst i_8 hI;clear hst hI0 hI
 refine qs (qr (sP2 (iv i_8) (.bool (decide (i_8<4))) hs λ_ hs=>?_));refine wn (Wp.cS hs decide_eq_true_iff hS (λhS=>?_) (λhS=>?_))
 ·refine qk (qs (qb (qr (sP (iv i_8) hs λ_ hs=>?_))));obtain⟨h0,hl,hS⟩:=hS;refine sY (.pointer (some ⟨b3,0+i_8.toNat*1,none⟩)) hs (Yl.indexA (e:=45) (sz:=1) rfl rfl rfl rfl (by kernel_rfl) (by kernel_rfl) h0 hl) λ_ hs=>?_;obtain⟨x11,hz,hS⟩:=hS;refine sY (.int .u64 x11) hs (Yl.loadBD 0 rfl rfl rfl (by kernel_rfl) hz) λ_ hs=>?_;refine sP (.int .u64 x11) hs λ_ hs=>?_;refine wn (Wp.join (λa w=>∃(w12:Int),Sx 36 E [] M w a [(1,(iv (if from2>0 then from2 else 0))),(2,(pt b3 0)),(5,(iv i_8)),(6,(.int .u64 w12))] [⟨b3,47,(List.map (Value.int .u64) [s1.w0,s1.w1,s1.w2,s1.w3])⟩] []/\(qcb M i_8 I9 mu10 w12 K)) ?_ ?_)
  ·refine qr (sP4 (iv i_8) (iv (if from2>0 then from2 else 0)) (iv (qbV .i64 (if from2>0 then from2 else 0) 6)) (.bool ((i_8:Int)==(qbV .i64 (if from2>0 then from2 else 0) 6:Int))) hs λ_ hs=>?_);refine wn (Wp.cS hs beq_iff_eq hS (λhS=>?_) (λhS=>?_))
   ·refine qg (sP3 (.int .u64 x11) (iv (if from2>0 then from2 else 0)) (iv (qcw .i64 (if from2>0 then from2 else 0) 63)) hs λ_ hs=>?_);obtain⟨h0,hS⟩:=hS;refine sY (.int .u64 (qbV .u64 x11 (qcw .i64 (if from2>0 then from2 else 0) 63))) hs (Yl.shr rfl rfl rfl rfl h0) λ_ hs=>?_;refine sP2 (iv (if from2>0 then from2 else 0)) (iv (qcw .i64 (if from2>0 then from2 else 0) 63)) hs λ_ hs=>?_;obtain⟨h0,hS⟩:=hS;refine sY (.int .u64 (qh3 .u64 (qbV .u64 x11 (qcw .i64 (if from2>0 then from2 else 0) 63)) (qcw .i64 (if from2>0 then from2 else 0) 63))) hs (Yl.shl rfl rfl rfl rfl h0) λ_ hs=>?_;refine sP (.int .u64 (qh3 .u64 (qbV .u64 x11 (qcw .i64 (if from2>0 then from2 else 0) 63)) (qcw .i64 (if from2>0 then from2 else 0) 63))) hs λ_ hs=>?_;exact wn (⟨(qh3 .u64 (qbV .u64 x11 (qcw .i64 (if from2>0 then from2 else 0) 63)) (qcw .i64 (if from2>0 then from2 else 0) 63)),hs.q,hS⟩)
   ·exact qk (⟨x11,hs.q,hS⟩)
  ·intro a w hJ;obtain⟨w12,hs,hS⟩:=hJ;unfold qcb at hS;refine qr (sP2 (.int .u64 w12) (.bool ((w12:Int) != (0:Int))) hs λ_ hs=>?_);refine wn (Wp.cS hs bne_iff_ne hS (λhS=>?_) (λhS=>?_))
   ·refine qr (sP3 (iv i_8) (iv (qh3 .i64 i_8 6)) (.int .u64 w12) hs λ_ hs=>?_);refine cP [(.int .u64 w12)] hs Tryz.func152 hS λ_ _ v hS hs=>?_;obtain⟨x13,rfl,hS⟩:=hS;obtain⟨hI,hS⟩:=hS;refine sY (iv ((qh3 .i64 i_8 6)+x13)) hs (Yl.wr hI) λ_ hs=>?_;refine sP (iv ((qh3 .i64 i_8 6)+x13)) hs λ_ hs=>?_;exact wn (qt (rT hs hMM hS))
   ·refine qk (qg (sP (iv i_8) hs λ_ hs=>?_));obtain⟨hI,hS⟩:=hS;refine sY (iv (i_8+1)) hs (Yl.wr hI) λ_ hs=>?_;refine sP (iv (i_8+1)) hs λ_ hs=>?_;exact wn (⟨(i_8+1),⟨hs.q,hS.1⟩,hS.2⟩)
 ·refine qx rfl (qr (sP (iv (-1)) hs λ_ hs=>?_));exact wn (qt (rT hs hMM hS))
end Go.Proofs.YtleaplmdgckmkaaGreatDoor.core
namespace Go.Proofs.YtleaplmdgckmkaaGreatDoor.core
open Go.Gx Go.RowKit Go.ChangeShapes Go.WideShapes Go.ChangeAt
set_option linter.unusedVariables false
structure qaa where
 Kind:Int
 Set:qab
 Text:List UInt8
 Kids_a:Option Addr
 Kids_l:Nat
 Kids_c:Nat
def qaa.cells (x:qaa):List Value:=[(.int .i64 x.Kind),(.int .u64 x.Set.w0),(.int .u64 x.Set.w1),(.int .u64 x.Set.w2),(.int .u64 x.Set.w3),(.string (mkS x.Text)),(.slice x.Kids_a x.Kids_l x.Kids_c)]
def qaa.val (x:qaa):Value:=.agg x.cells.toArray
structure qai where
 Name:List UInt8
 Body:qaa
def qai.cells (x:qai):List Value:=[(.string (mkS x.Name)),(.int .i64 x.Body.Kind),(.int .u64 x.Body.Set.w0),(.int .u64 x.Body.Set.w1),(.int .u64 x.Body.Set.w2),(.int .u64 x.Body.Set.w3),(.string (mkS x.Body.Text)),(.slice x.Body.Kids_a x.Body.Kids_l x.Body.Kids_c)]
def qai.val (x:qai):Value:=.agg x.cells.toArray
def qbL (e3:qaa) (deep4:Int) (l2:Int) (M:Mem) (K:Value->Int->Mem->Prop):Prop:=∀(b1:Nat),qkJ Tryz.prog 66 #[(.pointer (some ⟨b1,0,none⟩)),e3.val,(.int .i64 deep4)] M [⟨b1,125,[(.int .i64 l2)]⟩] [] (λv lb' lr' M'=>∃(c5:Int),lb'=[⟨b1,125,[(.int .i64 c5)]⟩]/\lr'=[]/\K v c5 M')
def qbM (x10:Int) (I11:Int->Prop) (mu12:Int->Nat) (x18:Bool) (K:Value->Prop):Prop:=
 ((x18=true->K (Value.bool false))/\(¬(x18=true)->(InI (x10+1)/\I11 (x10+1)/\mu12 (x10+1)<mu12 x10)))
def qcG (s1:List UInt8) (x10:Int) (I11:Int->Prop) (mu12:Int->Nat) (letter15:Bool) (K:Value->Prop):Prop:=
 ((¬(letter15=true)->(((x10:Int)=0->(qbM x10 I11 mu12 true K))/\(¬((x10:Int)=0)->(∃c16:UInt8,(0:Int)<=x10/\s1[x10.toNat]?=some c16/\(((c16.toNat:Int)<48->(qbM x10 I11 mu12 true K))/\(¬((c16.toNat:Int)<48)->(∃c17:UInt8,(0:Int)<=x10/\s1[x10.toNat]?=some c17/\(qbM x10 I11 mu12 (decide ((c17.toNat:Int)>57)) K))))))))/\(¬(¬(letter15=true))->(qbM x10 I11 mu12 false K)))
def qcH (s1:List UInt8) (x2:Bool) (K:Value->Prop):Prop:=
 ((x2=true->K (Value.bool false))/\(¬(x2=true)->(∃(I11:Int->Prop) (mu12:Int->Nat),I11 0/\∀(x10:Int),(I11 x10->((x10<((s1.length:Nat):Int)->(∃c13:UInt8,(0:Int)<=x10/\s1[x10.toNat]?=some c13/\((bOr .u8 (c13.toNat:Int) 32>=97->(∃c14:UInt8,(0:Int)<=x10/\s1[x10.toNat]?=some c14/\(qcG s1 x10 I11 mu12 (decide (bOr .u8 (c14.toNat:Int) 32<=122)) K)))/\(¬(bOr .u8 (c13.toNat:Int) 32>=97)->(qcG s1 x10 I11 mu12 false K)))))/\(¬(x10<((s1.length:Nat):Int))->K (Value.bool true)))))))
def qgI (s1:List UInt8) (M:Mem) (K:Value->Prop):Prop:=
 ((s1=([]:List UInt8)->(qcH s1 true K))/\(¬(s1=([]:List UInt8))->(qcH s1 (decide (((s1.length:Nat):Int)>8)) K)))
set_option maxRecDepth 100000 in
theorem qiN (s1:List UInt8) (M:Mem) (K:Value->Prop) (hS:qgI s1 M K):qaf Tryz.prog 42 #[(Value.string (mkS s1))] M (λv _=>K v):=by
 refine eE1 Tryz.func42 48 λE a hMM hs=>?_;unfold qgI at hS;refine qr (sP (.bool false) hs λ_ hs=>?_);refine wn (qs (Wp.join (λa w=>∃(x2:Bool),Sx 48 E [] M w a [(0,(.string (mkS s1))),(11,(.bool x2))] [] []/\(qcH s1 x2 K)) ?_ ?_))
 ·refine qg (sP3 (.string (mkS s1)) (.bool ((mkS s1).toList==(mkS ([]:List UInt8)).toList)) (.bool ((mkS s1).toList==(mkS ([]:List UInt8)).toList)) hs λ_ hs=>?_);refine bsS qaY hs hS (λhs hS=>?_) (λhs hS=>?_)
  ·repeat (first|refine sNo hs λ_ hs=>?_|refine sNu hs λ_ hs=>?_)
   refine sP (.bool true) hs λ_ hs=>?_;exact wn (⟨true,hs.q,hS⟩)
  ·refine ye (.string (mkS s1)) hs λ_ hs=>?_;refine ye (iv (s1.length:Int)) hs λ_ hs=>?_;refine ye (.bool (decide ((s1.length:Int)>8))) hs λ_ hs=>?_;refine sP (.bool (decide ((s1.length:Int)>8))) hs λ_ hs=>?_;exact wn (⟨(decide ((s1.length:Int)>8)),hs.q,hS⟩)
 ·intro a w hJ;obtain⟨x2,hs,hS⟩:=hJ;unfold qcH at hS;refine Wp.cS hs Iff.rfl hS (λhS=>?_) (λhS=>?_)
  ·refine qr (sP (.bool false) hs λ_ hs=>?_);exact wn (qt (rT hs hMM hS))
  ·refine qk (qs (qr (sP3 (.string (mkS s1)) (iv (s1.length:Int)) (iv 0) hs λ_ hs=>?_)));refine wn (qb ?_);obtain⟨I11,mu12,hI0,hst⟩:=hS;refine Wp.loop (σ:=(Int)) (λx10 a w=>Sx 48 E [] M w a [(0,(.string (mkS s1))),(13,(iv (s1.length:Int))),(14,(iv x10))] [] []/\I11 x10) (λx10=>mu12 x10) (0) ⟨hs.q,hI0⟩ (λx10 a w hI=>?_);obtain⟨hs,hI⟩:=hI;have hS:=hst x10 hI;clear hst hI0 hI;refine qr (sP (.bool (decide (x10<(s1.length:Int)))) hs λ_ hs=>?_);refine wn (qs (Wp.cS hs decide_eq_true_iff hS (λhS=>?_) (λhS=>?_)))
   ·refine qk (qs (qb (qr (sP2 (iv x10) (iv x10) hs λ_ hs=>?_))));refine wn (Wp.join (λa w=>∃(letter15:Bool),Sx 48 E [] M w a [(0,(.string (mkS s1))),(3,(iv x10)),(4,(.bool letter15)),(13,(iv (s1.length:Int))),(14,(iv x10))] [] []/\(qcG s1 x10 I11 mu12 letter15 K)) ?_ ?_)
    ·refine qg (sP2 (.string (mkS s1)) (iv x10) hs λ_ hs=>?_);obtain⟨c13,h0,hi,hS⟩:=hS;refine sY (.int .u8 (c13.toNat:Int)) hs (Yl.indexStr rfl rfl rfl rfl (by kernel_rfl) h0 hi) λ_ hs=>?_;refine sP3 (.int .u8 (bOr .u8 (c13.toNat:Int) 32)) (.bool (decide (bOr .u8 (c13.toNat:Int) 32>=97))) (.bool (decide (bOr .u8 (c13.toNat:Int) 32>=97))) hs λ_ hs=>?_;refine bsS decide_eq_true_iff hs hS (λhs hS=>?_) (λhs hS=>?_)
     ·refine ye (.string (mkS s1)) hs λ_ hs=>?_;refine ye (iv x10) hs λ_ hs=>?_;refine sYe hs ?_;obtain⟨c14,h0,hi,hS⟩:=hS;refine sY (.int .u8 (c14.toNat:Int)) hs (Yl.indexStr rfl rfl rfl rfl (by kernel_rfl) h0 hi) λ_ hs=>?_;refine ye (.int .u8 (bOr .u8 (c14.toNat:Int) 32)) hs λ_ hs=>?_;refine ye (.bool (decide (bOr .u8 (c14.toNat:Int) 32<=122))) hs λ_ hs=>?_;refine sP2 (.bool (decide (bOr .u8 (c14.toNat:Int) 32<=122))) (.bool (decide (bOr .u8 (c14.toNat:Int) 32<=122))) hs λ_ hs=>?_;exact wn (⟨(decide (bOr .u8 (c14.toNat:Int) 32<=122)),hs.q,hS⟩)
     ·repeat (first|refine sNo hs λ_ hs=>?_|refine sNu hs λ_ hs=>?_)
      refine sP2 (.bool false) (.bool false) hs λ_ hs=>?_;exact wn (⟨false,hs.q,hS⟩)
    ·intro a w hJ;obtain⟨letter15,hs,hS⟩:=hJ;unfold qcG at hS;refine Wp.join (λa w=>∃(x18:Bool),Sx 48 E [] M w a [(0,(.string (mkS s1))),(13,(iv (s1.length:Int))),(14,(iv x10)),(46,(.bool x18))] [] []/\(qbM x10 I11 mu12 x18 K)) ?_ ?_
     ·refine qg (sP3 (.bool letter15) (.bool (!letter15)) (.bool (!letter15)) hs λ_ hs=>?_);refine bsS (qaC Iff.rfl) hs hS (λhs hS=>?_) (λhs hS=>?_)
      ·refine ye (iv x10) hs λ_ hs=>?_;refine ye (.bool ((x10:Int)==(0:Int))) hs λ_ hs=>?_;refine ye (.bool ((x10:Int)==(0:Int))) hs λ_ hs=>?_;refine bsS beq_iff_eq hs hS (λhs hS=>?_) (λhs hS=>?_)
       ·repeat (first|refine sNo hs λ_ hs=>?_|refine sNu hs λ_ hs=>?_)
        refine ye (.bool true) hs λ_ hs=>?_;refine ye (.bool true) hs λ_ hs=>?_;repeat (first|refine sNo hs λ_ hs=>?_|refine sNu hs λ_ hs=>?_)
        refine ye (.bool true) hs λ_ hs=>?_;refine sP (.bool true) hs λ_ hs=>?_;exact wn (⟨true,hs.q,hS⟩)
       ·refine ye (.string (mkS s1)) hs λ_ hs=>?_;refine ye (iv x10) hs λ_ hs=>?_;refine sYe hs ?_;obtain⟨c16,h0,hi,hS⟩:=hS;refine sY (.int .u8 (c16.toNat:Int)) hs (Yl.indexStr rfl rfl rfl rfl (by kernel_rfl) h0 hi) λ_ hs=>?_;refine ye (.bool (decide ((c16.toNat:Int)<48))) hs λ_ hs=>?_;refine ye (.bool (decide ((c16.toNat:Int)<48))) hs λ_ hs=>?_;refine ye (.bool (decide ((c16.toNat:Int)<48))) hs λ_ hs=>?_;refine bsS decide_eq_true_iff hs hS (λhs hS=>?_) (λhs hS=>?_)
        ·repeat (first|refine sNo hs λ_ hs=>?_|refine sNu hs λ_ hs=>?_)
         refine ye (.bool true) hs λ_ hs=>?_;refine sP (.bool true) hs λ_ hs=>?_;exact wn (⟨true,hs.q,hS⟩)
        ·refine ye (.string (mkS s1)) hs λ_ hs=>?_;refine ye (iv x10) hs λ_ hs=>?_;refine sYe hs ?_;obtain⟨c17,h0,hi,hS⟩:=hS;refine sY (.int .u8 (c17.toNat:Int)) hs (Yl.indexStr rfl rfl rfl rfl (by kernel_rfl) h0 hi) λ_ hs=>?_;refine ye (.bool (decide ((c17.toNat:Int)>57))) hs λ_ hs=>?_;refine ye (.bool (decide ((c17.toNat:Int)>57))) hs λ_ hs=>?_;refine sP (.bool (decide ((c17.toNat:Int)>57))) hs λ_ hs=>?_;exact wn (⟨(decide ((c17.toNat:Int)>57)),hs.q,hS⟩)
      ·repeat (first|refine sNo hs λ_ hs=>?_|refine sNu hs λ_ hs=>?_)
       refine sP (.bool false) hs λ_ hs=>?_;exact wn (⟨false,hs.q,hS⟩)
     ·intro a w hJ;obtain⟨x18,hs,hS⟩:=hJ;unfold qbM at hS;refine Wp.cS hs Iff.rfl hS (λhS=>?_) (λhS=>?_)
      ·refine qr (sP (.bool false) hs λ_ hs=>?_);exact wn (qt (rT hs hMM hS))
      ·refine qk (qg ?_);obtain⟨hI,hS⟩:=hS;refine sY (iv (x10+1)) hs (Yl.wr hI) λ_ hs=>?_;refine sP (iv (x10+1)) hs λ_ hs=>?_;exact wn (⟨(x10+1),⟨hs.q,hS.1⟩,hS.2⟩)
   ·refine qx rfl (qr (sP (.bool true) hs λ_ hs=>?_));exact wn (qt (rT hs hMM hS))
def qfj (ga1:Option Addr) (gl2:Nat) (gc3:Nat) (name4:List UInt8) (M:Mem) (K:Value->Prop):Prop:=
 (∃(I12:Int->Prop) (mu13:Int->Nat),I12 0/\∀(x11:Int),(I12 x11->((x11<((gl2:Nat):Int)->(∃(b14 o15:Nat),ga1=some ⟨b14,o15,none⟩/\(0:Int)<=x11/\x11<((gl2:Nat):Int)/\(∃(x16:qai),At M b14 (o15+x11.toNat*8) x16.cells/\((x16.Name=name4->K (Value.int .i64 x11))/\(¬(x16.Name=name4)->(InI (x11+1)/\I12 (x11+1)/\mu13 (x11+1)<mu13 x11))))))/\(¬(x11<((gl2:Nat):Int))->K (Value.int .i64 (-1))))))
set_option maxRecDepth 100000 in
theorem qd5 (ga1:Option Addr) (gl2:Nat) (gc3:Nat) (name4:List UInt8) (M:Mem) (K:Value->Prop) (hS:qfj ga1 gl2 gc3 name4 M K):qaf Tryz.prog 43 #[(Value.agg #[(Value.slice ga1 gl2 gc3)]),(Value.string (mkS name4))] M (λv _=>K v):=by
 refine eE2 Tryz.func43 21 λE a hMM hs=>?_;unfold qfj at hS;refine qr (qao [(.slice ga1 gl2 gc3)] hs rfl rfl rfl (by decide) (λ_ _ b5 hEb5 hs=>?_));refine sP (iv 0) hs λ_ hs=>?_;refine wn (qs (qr (sP (pt b5 0) hs λ_ hs=>?_)));refine sB1 (.slice ga1 gl2 gc3) 0 hs λ_ hs=>?_;refine sP2 (iv (gl2:Int)) (iv 0) hs λ_ hs=>?_;refine wn (qb ?_);obtain⟨I12,mu13,hI0,hst⟩:=hS;refine Wp.loop (σ:=(Int)) (λx11 a w=>Sx 21 E [] M w a [(1,(.string (mkS name4))),(8,(.slice ga1 gl2 gc3)),(9,(iv (gl2:Int))),(10,(iv x11))] [⟨b5,24,[(.slice ga1 gl2 gc3)]⟩] []/\I12 x11) (λx11=>mu13 x11) (0) ⟨hs.q,hI0⟩ (λx11 a w hI=>?_);obtain⟨hs,hI⟩:=hI;have hS:=hst x11 hI;clear hst hI0 hI;refine qr (sP (.bool (decide (x11<(gl2:Int)))) hs λ_ hs=>?_);refine wn (qs (Wp.cS hs decide_eq_true_iff hS (λhS=>?_) (λhS=>?_)))
 ·refine qk (qs (qb (qr (sP (iv x11) hs λ_ hs=>?_))));obtain⟨b14,o15,ha,h0,hl,hS⟩:=hS;refine sI 52 8 ha h0 hl hs λ_ hs=>?_;obtain⟨x16,hat,hS⟩:=hS;refine sY x16.val hs (Yl.lV x16.cells true hat) λ_ hs=>?_;refine qae [(.string (mkS [])),(iv 0),(.int .u64 0),(.int .u64 0),(.int .u64 0),(.int .u64 0),(.string (mkS [])),(.slice none 0 0)] hs (by kernel_rfl) (by decide) (λ_ _ b17 hEb17 hs=>?_);refine sP (iv x11) hs λ_ hs=>?_;refine stB 0 x16.cells [⟨b17,52,x16.cells⟩,⟨b5,24,[(.slice ga1 gl2 gc3)]⟩] hs λ_ _ hs=>?_;refine wn (qr (sP (pt b17 0) hs λ_ hs=>?_));refine sB1 (.string (mkS x16.Name)) 0 hs λ_ hs=>?_;refine sP2 (.string (mkS name4)) (.bool ((mkS x16.Name).toList==(mkS name4).toList)) hs λ_ hs=>?_;refine wn (Wp.cS hs qaY hS (λhS=>?_) (λhS=>?_))
  ·refine qr (sP2 (iv x11) (iv x11) hs λ_ hs=>?_);exact wn (qt (rT hs hMM hS))
  ·refine qk (qg ?_);obtain⟨hI,hS⟩:=hS;refine sY (iv (x11+1)) hs (Yl.wr hI) λ_ hs=>?_;refine sP (iv (x11+1)) hs λ_ hs=>?_;exact wn (⟨(x11+1),⟨(hs.qq (.cons _ (.cons_cons _ List.Sublist.slnil)) (List.Sublist.refl _)),hS.1⟩,hS.2⟩)
 ·refine qx rfl (qr (sP (iv (-1)) hs λ_ hs=>?_));exact wn (qt (rT hs hMM hS))
def qa9 (e1:qaa) (low8:Int) (high9:Int) (x10:Bool) (K:Value->Prop):Prop:=
 ((x10=true->K (Value.bool false))/\(¬(x10=true)->((((e1.Kids_l:Nat):Int)>=low8->K (Value.bool (decide (((e1.Kids_l:Nat):Int)<=high9))))/\(¬(((e1.Kids_l:Nat):Int)>=low8)->K (Value.bool false)))))
def qbr (e1:qaa) (low8:Int) (high9:Int) (K:Value->Prop):Prop:=
 (((e1.Kind:Int)≠3->(((e1.Kind:Int)≠4->((e1.Text≠([]:List UInt8)->(qa9 e1 low8 high9 true K))/\(¬(e1.Text≠([]:List UInt8))->(((e1.Kind:Int)≠2->(qa9 e1 low8 high9 (!(qaF [e1.Set.w0,e1.Set.w1,e1.Set.w2,e1.Set.w3] [0,0,0,0])) K))/\(¬((e1.Kind:Int)≠2)->(qa9 e1 low8 high9 false K))))))/\(¬((e1.Kind:Int)≠4)->(((e1.Kind:Int)≠2->(qa9 e1 low8 high9 (!(qaF [e1.Set.w0,e1.Set.w1,e1.Set.w2,e1.Set.w3] [0,0,0,0])) K))/\(¬((e1.Kind:Int)≠2)->(qa9 e1 low8 high9 false K))))))/\(¬((e1.Kind:Int)≠3)->(((e1.Kind:Int)≠2->(qa9 e1 low8 high9 (!(qaF [e1.Set.w0,e1.Set.w1,e1.Set.w2,e1.Set.w3] [0,0,0,0])) K))/\(¬((e1.Kind:Int)≠2)->(qa9 e1 low8 high9 false K)))))
def qde (e1:qaa) (x4:Bool) (K:Value->Prop):Prop:=
 ((x4=true->K (Value.bool false))/\(¬(x4=true)->(qbr e1 0 0 K)))
def qbJ (e1:qaa) (x7:Bool) (K:Value->Prop):Prop:=
 ((x7=true->(qbr e1 1 1 K))/\(¬(x7=true)->K (Value.bool false)))
def qdd (e1:qaa) (x6:Bool) (K:Value->Prop):Prop:=
 ((x6=true->(qbr e1 2 8 K))/\(¬(x6=true)->(((e1.Kind:Int)=7->(qbJ e1 ((e1.Kind:Int)==(7:Int)) K))/\(¬((e1.Kind:Int)=7)->(((e1.Kind:Int)=8->(qbJ e1 ((e1.Kind:Int)==(8:Int)) K))/\(¬((e1.Kind:Int)=8)->(((e1.Kind:Int)=9->(qbJ e1 ((e1.Kind:Int)==(9:Int)) K))/\(¬((e1.Kind:Int)=9)->(((e1.Kind:Int)=10->(qbJ e1 ((e1.Kind:Int)==(10:Int)) K))/\(¬((e1.Kind:Int)=10)->(qbJ e1 ((e1.Kind:Int)==(11:Int)) K)))))))))))
def qdf (e1:qaa) (M:Mem) (x3:Bool) (K:Value->Prop):Prop:=
 ((x3=true->(qbr e1 0 0 K))/\(¬(x3=true)->(((e1.Kind:Int)=3->((e1.Text=([]:List UInt8)->(qde e1 true K))/\(¬(e1.Text=([]:List UInt8))->(qde e1 (decide (((e1.Text.length:Nat):Int)>12)) K))))/\(¬((e1.Kind:Int)=3)->(((e1.Kind:Int)=4->(qaf Tryz.prog 42 #[(.string (mkS e1.Text))] M (λv _=>∃(x5:Bool),v=(Value.bool x5)/\((¬(x5=true)->K (Value.bool false))/\(¬(¬(x5=true))->(qbr e1 0 0 K))))))/\(¬((e1.Kind:Int)=4)->(((e1.Kind:Int)=5->(qdd e1 ((e1.Kind:Int)==(5:Int)) K))/\(¬((e1.Kind:Int)=5)->(qdd e1 ((e1.Kind:Int)==(6:Int)) K)))))))))
def qhT (e1:qaa) (M:Mem) (K:Value->Prop):Prop:=
 (((e1.Kind:Int)=1->(qdf e1 M ((e1.Kind:Int)==(1:Int)) K))/\(¬((e1.Kind:Int)=1)->(qdf e1 M ((e1.Kind:Int)==(2:Int)) K)))
set_option maxRecDepth 100000 in
theorem qos (e1:qaa) (M:Mem) (K:Value->Prop) (hS:qhT e1 M K):qaf Tryz.prog 108 #[e1.val] M (λv _=>K v):=by
 refine eE1 Tryz.func108 72 λE a hMM hs=>?_;unfold qhT at hS;refine qr (qao e1.cells hs rfl rfl rfl (by decide) (λ_ _ b2 hEb2 hs=>?_));refine sP (.bool false) hs λ_ hs=>?_;refine wn (qr (sP2 (iv 0) (iv 0) hs λ_ hs=>?_));refine wn (Wp.join (λa w=>∃(low8:Int) (high9:Int),Sx 72 E [] M w a [(1,(pt b2 0)),(3,(iv low8)),(4,(iv high9))] [⟨b2,50,e1.cells⟩] []/\(qbr e1 low8 high9 K)) ?_ ?_)
 ·refine qr (sP (pt b2 0) hs λ_ hs=>?_);refine sB1 (iv e1.Kind) 0 hs λ_ hs=>?_;refine wn (qb (Wp.join (λa w=>∃(x3:Bool),Sx 72 E [] M w a [(1,(pt b2 0)),(3,(iv 0)),(4,(iv 0)),(6,(iv e1.Kind)),(7,(.bool x3))] [⟨b2,50,e1.cells⟩] []/\(qdf e1 M x3 K)) ?_ ?_))
  ·refine qr (sP2 (.bool ((e1.Kind:Int)==(1:Int))) (.bool ((e1.Kind:Int)==(1:Int))) hs λ_ hs=>?_);refine wn (Wp.cS hs beq_iff_eq hS (λhS=>?_) (λhS=>?_))
   ·exact qk (⟨((e1.Kind:Int)==(1:Int)),hs.q,hS⟩)
   ·refine qg (sP2 (.bool ((e1.Kind:Int)==(2:Int))) (.bool ((e1.Kind:Int)==(2:Int))) hs λ_ hs=>?_);exact wn (⟨((e1.Kind:Int)==(2:Int)),hs.q,hS⟩)
  ·intro a w hJ;obtain⟨x3,hs,hS⟩:=hJ;unfold qdf at hS;refine Wp.cS hs Iff.rfl hS (λhS=>?_) (λhS=>?_)
   ·exact qk (⟨0,0,hs.q,hS⟩)
   ·refine qr (sP2 (.bool ((e1.Kind:Int)==(3:Int))) (.bool ((e1.Kind:Int)==(3:Int))) hs λ_ hs=>?_);refine wn (Wp.cS hs beq_iff_eq hS (λhS=>?_) (λhS=>?_))
    ·refine Wp.join (λa w=>∃(x4:Bool),Sx 72 E [] M w a [(1,(pt b2 0)),(3,(iv 0)),(4,(iv 0)),(20,(.bool x4))] [⟨b2,50,e1.cells⟩] []/\(qde e1 x4 K)) ?_ ?_
     ·refine qg (sP (pt b2 5) hs λ_ hs=>?_);refine sB1 (.string (mkS e1.Text)) 0 hs λ_ hs=>?_;refine sP2 (.bool ((mkS e1.Text).toList==(mkS ([]:List UInt8)).toList)) (.bool ((mkS e1.Text).toList==(mkS ([]:List UInt8)).toList)) hs λ_ hs=>?_;refine bsS qaY hs hS (λhs hS=>?_) (λhs hS=>?_)
      ·repeat (first|refine sNo hs λ_ hs=>?_|refine sNu hs λ_ hs=>?_)
       refine sP (.bool true) hs λ_ hs=>?_;exact wn (⟨true,hs.q,hS⟩)
      ·refine ye (pt b2 5) hs λ_ hs=>?_;refine sYe hs (sB1 (.string (mkS e1.Text)) 0 hs λ_ hs=>?_);refine ye (iv (e1.Text.length:Int)) hs λ_ hs=>?_;refine ye (.bool (decide ((e1.Text.length:Int)>12))) hs λ_ hs=>?_;refine sP (.bool (decide ((e1.Text.length:Int)>12))) hs λ_ hs=>?_;exact wn (⟨(decide ((e1.Text.length:Int)>12)),hs.q,hS⟩)
     ·intro a w hJ;obtain⟨x4,hs,hS⟩:=hJ;unfold qde at hS;refine Wp.cS hs Iff.rfl hS (λhS=>?_) (λhS=>?_)
      ·refine qr (sP (.bool false) hs λ_ hs=>?_);exact wn (qt (rT hs hMM hS))
      ·exact qk (⟨0,0,hs.q,hS⟩)
    ·refine qr (sP2 (.bool ((e1.Kind:Int)==(4:Int))) (.bool ((e1.Kind:Int)==(4:Int))) hs λ_ hs=>?_);refine wn (Wp.cS hs beq_iff_eq hS (λhS=>?_) (λhS=>?_))
     ·refine qr (sP (pt b2 5) hs λ_ hs=>?_);refine sB1 (.string (mkS e1.Text)) 0 hs λ_ hs=>?_;refine cP [(.string (mkS e1.Text))] hs Tryz.func42 hS λ_ _ v hS hs=>?_;obtain⟨x5,rfl,hS⟩:=hS;refine sP (.bool (!x5)) hs λ_ hs=>?_;refine wn (Wp.cS hs (qaC Iff.rfl) hS (λhS=>?_) (λhS=>?_))
      ·refine qr (sP (.bool false) hs λ_ hs=>?_);exact wn (qt (rT hs hMM hS))
      ·exact qk (⟨0,0,hs.q,hS⟩)
     ·refine Wp.join (λa w=>∃(x6:Bool),Sx 72 E [] M w a [(1,(pt b2 0)),(6,(iv e1.Kind)),(27,(.bool x6))] [⟨b2,50,e1.cells⟩] []/\(qdd e1 x6 K)) ?_ ?_
      ·refine qr (sP2 (.bool ((e1.Kind:Int)==(5:Int))) (.bool ((e1.Kind:Int)==(5:Int))) hs λ_ hs=>?_);refine wn (Wp.cS hs beq_iff_eq hS (λhS=>?_) (λhS=>?_))
       ·exact qk (⟨((e1.Kind:Int)==(5:Int)),hs.q,hS⟩)
       ·refine qg (sP2 (.bool ((e1.Kind:Int)==(6:Int))) (.bool ((e1.Kind:Int)==(6:Int))) hs λ_ hs=>?_);exact wn (⟨((e1.Kind:Int)==(6:Int)),hs.q,hS⟩)
      ·intro a w hJ;obtain⟨x6,hs,hS⟩:=hJ;unfold qdd at hS;refine Wp.cS hs Iff.rfl hS (λhS=>?_) (λhS=>?_)
       ·refine qg (sP2 (iv 2) (iv 8) hs λ_ hs=>?_);exact wn (⟨2,8,hs.q,hS⟩)
       ·refine Wp.join (λa w=>∃(x7:Bool),Sx 72 E [] M w a [(1,(pt b2 0)),(30,(.bool x7))] [⟨b2,50,e1.cells⟩] []/\(qbJ e1 x7 K)) ?_ ?_
        ·refine qr (sP2 (.bool ((e1.Kind:Int)==(7:Int))) (.bool ((e1.Kind:Int)==(7:Int))) hs λ_ hs=>?_);refine wn (Wp.cS hs beq_iff_eq hS (λhS=>?_) (λhS=>?_))
         ·exact qk (⟨((e1.Kind:Int)==(7:Int)),hs.q,hS⟩)
         ·refine qr (sP2 (.bool ((e1.Kind:Int)==(8:Int))) (.bool ((e1.Kind:Int)==(8:Int))) hs λ_ hs=>?_);refine wn (Wp.cS hs beq_iff_eq hS (λhS=>?_) (λhS=>?_))
          ·exact qk (⟨((e1.Kind:Int)==(8:Int)),hs.q,hS⟩)
          ·refine qr (sP2 (.bool ((e1.Kind:Int)==(9:Int))) (.bool ((e1.Kind:Int)==(9:Int))) hs λ_ hs=>?_);refine wn (Wp.cS hs beq_iff_eq hS (λhS=>?_) (λhS=>?_))
           ·exact qk (⟨((e1.Kind:Int)==(9:Int)),hs.q,hS⟩)
           ·refine qr (sP2 (.bool ((e1.Kind:Int)==(10:Int))) (.bool ((e1.Kind:Int)==(10:Int))) hs λ_ hs=>?_);refine wn (Wp.cS hs beq_iff_eq hS (λhS=>?_) (λhS=>?_))
            ·exact qk (⟨((e1.Kind:Int)==(10:Int)),hs.q,hS⟩)
            ·refine qg (sP2 (.bool ((e1.Kind:Int)==(11:Int))) (.bool ((e1.Kind:Int)==(11:Int))) hs λ_ hs=>?_);exact wn (⟨((e1.Kind:Int)==(11:Int)),hs.q,hS⟩)
        ·intro a w hJ;obtain⟨x7,hs,hS⟩:=hJ;unfold qbJ at hS;refine Wp.cS hs Iff.rfl hS (λhS=>?_) (λhS=>?_)
         ·refine qg (sP2 (iv 1) (iv 1) hs λ_ hs=>?_);exact wn (⟨1,1,hs.q,hS⟩)
         ·refine qr (sP (.bool false) hs λ_ hs=>?_);exact wn (qt (rT hs hMM hS))
 ·intro a w hJ;obtain⟨low8,high9,hs,hS⟩:=hJ;unfold qbr at hS;refine qs (Wp.join (λa w=>∃(x10:Bool),Sx 72 E [] M w a [(1,(pt b2 0)),(3,(iv low8)),(4,(iv high9)),(59,(.bool x10))] [⟨b2,50,e1.cells⟩] []/\(qa9 e1 low8 high9 x10 K)) ?_ ?_)
  ·refine qg (sP (pt b2 0) hs λ_ hs=>?_);refine sB1 (iv e1.Kind) 0 hs λ_ hs=>?_;refine sP2 (.bool ((e1.Kind:Int) != (3:Int))) (.bool ((e1.Kind:Int) != (3:Int))) hs λ_ hs=>?_;refine bsS bne_iff_ne hs hS (λhs hS=>?_) (λhs hS=>?_)
   ·refine ye (pt b2 0) hs λ_ hs=>?_;refine sYe hs (sB1 (iv e1.Kind) 0 hs λ_ hs=>?_);refine ye (.bool ((e1.Kind:Int) != (4:Int))) hs λ_ hs=>?_;refine sP2 (.bool ((e1.Kind:Int) != (4:Int))) (.bool ((e1.Kind:Int) != (4:Int))) hs λ_ hs=>?_;refine bsS bne_iff_ne hs hS (λhs hS=>?_) (λhs hS=>?_)
    ·refine ye (pt b2 5) hs λ_ hs=>?_;refine sYe hs (sB1 (.string (mkS e1.Text)) 0 hs λ_ hs=>?_);refine ye (.bool (!((mkS e1.Text).toList==(mkS ([]:List UInt8)).toList))) hs λ_ hs=>?_;refine sP2 (.bool (!((mkS e1.Text).toList==(mkS ([]:List UInt8)).toList))) (.bool (!((mkS e1.Text).toList==(mkS ([]:List UInt8)).toList))) hs λ_ hs=>?_;refine bsS qmt hs hS (λhs hS=>?_) (λhs hS=>?_)
     ·repeat (first|refine sNo hs λ_ hs=>?_|refine sNu hs λ_ hs=>?_)
      refine sP (.bool true) hs λ_ hs=>?_;exact wn (⟨true,hs.q,hS⟩)
     ·refine ye (pt b2 0) hs λ_ hs=>?_;refine sYe hs (sB1 (iv e1.Kind) 0 hs λ_ hs=>?_);refine ye (.bool ((e1.Kind:Int) != (2:Int))) hs λ_ hs=>?_;refine ye (.bool ((e1.Kind:Int) != (2:Int))) hs λ_ hs=>?_;refine bsS bne_iff_ne hs hS (λhs hS=>?_) (λhs hS=>?_)
      ·refine ye (pt b2 1) hs λ_ hs=>?_;refine sYe hs (sY e1.Set.val hs (Yl.lB e1.Set.cells true 0) λ_ hs=>?_);refine ye (qab.mk 0 0 0 0).val hs λ_ hs=>?_;refine sYe hs (sY (.bool (!(qaF [e1.Set.w0,e1.Set.w1,e1.Set.w2,e1.Set.w3] [0,0,0,0]))) hs (Yl.neqA (n:=4) (e:=45) (k:=.u64) (xs:=[e1.Set.w0,e1.Set.w1,e1.Set.w2,e1.Set.w3]) (ys:=[0,0,0,0]) rfl (by kernel_rfl) (by kernel_rfl) (by kernel_rfl) (by kernel_rfl) rfl rfl rfl rfl rfl rfl) λ_ hs=>?_);refine ye (.bool (!(qaF [e1.Set.w0,e1.Set.w1,e1.Set.w2,e1.Set.w3] [0,0,0,0]))) hs λ_ hs=>?_;refine sP (.bool (!(qaF [e1.Set.w0,e1.Set.w1,e1.Set.w2,e1.Set.w3] [0,0,0,0]))) hs λ_ hs=>?_;exact wn (⟨(!(qaF [e1.Set.w0,e1.Set.w1,e1.Set.w2,e1.Set.w3] [0,0,0,0])),hs.q,hS⟩)
      ·repeat (first|refine sNo hs λ_ hs=>?_|refine sNu hs λ_ hs=>?_)
       refine ye (.bool false) hs λ_ hs=>?_;refine sP (.bool false) hs λ_ hs=>?_;exact wn (⟨false,hs.q,hS⟩)
    ·repeat (first|refine sNo hs λ_ hs=>?_|refine sNu hs λ_ hs=>?_)
     refine sP2 (.bool false) (.bool false) hs λ_ hs=>?_;refine ye (pt b2 0) hs λ_ hs=>?_;refine sYe hs (sB1 (iv e1.Kind) 0 hs λ_ hs=>?_);refine ye (.bool ((e1.Kind:Int) != (2:Int))) hs λ_ hs=>?_;refine ye (.bool ((e1.Kind:Int) != (2:Int))) hs λ_ hs=>?_;refine bsS bne_iff_ne hs hS (λhs hS=>?_) (λhs hS=>?_)
     ·refine ye (pt b2 1) hs λ_ hs=>?_;refine sYe hs (sY e1.Set.val hs (Yl.lB e1.Set.cells true 0) λ_ hs=>?_);refine ye (qab.mk 0 0 0 0).val hs λ_ hs=>?_;refine sYe hs (sY (.bool (!(qaF [e1.Set.w0,e1.Set.w1,e1.Set.w2,e1.Set.w3] [0,0,0,0]))) hs (Yl.neqA (n:=4) (e:=45) (k:=.u64) (xs:=[e1.Set.w0,e1.Set.w1,e1.Set.w2,e1.Set.w3]) (ys:=[0,0,0,0]) rfl (by kernel_rfl) (by kernel_rfl) (by kernel_rfl) (by kernel_rfl) rfl rfl rfl rfl rfl rfl) λ_ hs=>?_);refine ye (.bool (!(qaF [e1.Set.w0,e1.Set.w1,e1.Set.w2,e1.Set.w3] [0,0,0,0]))) hs λ_ hs=>?_;refine sP (.bool (!(qaF [e1.Set.w0,e1.Set.w1,e1.Set.w2,e1.Set.w3] [0,0,0,0]))) hs λ_ hs=>?_;exact wn (⟨(!(qaF [e1.Set.w0,e1.Set.w1,e1.Set.w2,e1.Set.w3] [0,0,0,0])),hs.q,hS⟩)
     ·repeat (first|refine sNo hs λ_ hs=>?_|refine sNu hs λ_ hs=>?_)
      refine ye (.bool false) hs λ_ hs=>?_;refine sP (.bool false) hs λ_ hs=>?_;exact wn (⟨false,hs.q,hS⟩)
   ·repeat (first|refine sNo hs λ_ hs=>?_|refine sNu hs λ_ hs=>?_)
    refine sP2 (.bool false) (.bool false) hs λ_ hs=>?_;repeat (first|refine sNo hs λ_ hs=>?_|refine sNu hs λ_ hs=>?_)
    refine sP2 (.bool false) (.bool false) hs λ_ hs=>?_;refine ye (pt b2 0) hs λ_ hs=>?_;refine sYe hs (sB1 (iv e1.Kind) 0 hs λ_ hs=>?_);refine ye (.bool ((e1.Kind:Int) != (2:Int))) hs λ_ hs=>?_;refine ye (.bool ((e1.Kind:Int) != (2:Int))) hs λ_ hs=>?_;refine bsS bne_iff_ne hs hS (λhs hS=>?_) (λhs hS=>?_)
    ·refine ye (pt b2 1) hs λ_ hs=>?_;refine sYe hs (sY e1.Set.val hs (Yl.lB e1.Set.cells true 0) λ_ hs=>?_);refine ye (qab.mk 0 0 0 0).val hs λ_ hs=>?_;refine sYe hs (sY (.bool (!(qaF [e1.Set.w0,e1.Set.w1,e1.Set.w2,e1.Set.w3] [0,0,0,0]))) hs (Yl.neqA (n:=4) (e:=45) (k:=.u64) (xs:=[e1.Set.w0,e1.Set.w1,e1.Set.w2,e1.Set.w3]) (ys:=[0,0,0,0]) rfl (by kernel_rfl) (by kernel_rfl) (by kernel_rfl) (by kernel_rfl) rfl rfl rfl rfl rfl rfl) λ_ hs=>?_);refine ye (.bool (!(qaF [e1.Set.w0,e1.Set.w1,e1.Set.w2,e1.Set.w3] [0,0,0,0]))) hs λ_ hs=>?_;refine sP (.bool (!(qaF [e1.Set.w0,e1.Set.w1,e1.Set.w2,e1.Set.w3] [0,0,0,0]))) hs λ_ hs=>?_;exact wn (⟨(!(qaF [e1.Set.w0,e1.Set.w1,e1.Set.w2,e1.Set.w3] [0,0,0,0])),hs.q,hS⟩)
    ·repeat (first|refine sNo hs λ_ hs=>?_|refine sNu hs λ_ hs=>?_)
     refine ye (.bool false) hs λ_ hs=>?_;refine sP (.bool false) hs λ_ hs=>?_;exact wn (⟨false,hs.q,hS⟩)
  ·intro a w hJ;obtain⟨x10,hs,hS⟩:=hJ;unfold qa9 at hS;refine Wp.cS hs Iff.rfl hS (λhS=>?_) (λhS=>?_)
   ·refine qr (sP (.bool false) hs λ_ hs=>?_);exact wn (qt (rT hs hMM hS))
   ·refine qk (qr (sP (pt b2 6) hs λ_ hs=>?_));refine sB1 (.slice e1.Kids_a e1.Kids_l e1.Kids_c) 0 hs λ_ hs=>?_;refine sP4 (iv (e1.Kids_l:Int)) (iv low8) (.bool (decide ((e1.Kids_l:Int)>=low8))) (.bool (decide ((e1.Kids_l:Int)>=low8))) hs λ_ hs=>?_;refine bsS decide_eq_true_iff hs hS (λhs hS=>?_) (λhs hS=>?_)
    ·refine ye (pt b2 6) hs λ_ hs=>?_;refine sYe hs (sB1 (.slice e1.Kids_a e1.Kids_l e1.Kids_c) 0 hs λ_ hs=>?_);refine ye (iv (e1.Kids_l:Int)) hs λ_ hs=>?_;refine ye (iv high9) hs λ_ hs=>?_;refine ye (.bool (decide ((e1.Kids_l:Int)<=high9))) hs λ_ hs=>?_;refine sP2 (.bool (decide ((e1.Kids_l:Int)<=high9))) (.bool (decide ((e1.Kids_l:Int)<=high9))) hs λ_ hs=>?_;exact wn (qt (rT hs hMM hS))
    ·repeat (first|refine sNo hs λ_ hs=>?_|refine sNu hs λ_ hs=>?_)
     refine sP2 (.bool false) (.bool false) hs λ_ hs=>?_;exact wn (qt (rT hs hMM hS))
def qdc (e3:qaa) (deep4:Int) (l2:Int) (M:Mem) (K:Value->Int->Mem->Prop):Prop:=
 (InI (l2+1)/\((l2+1>60->K (Value.int .i64 2) (l2+1) M)/\(¬(l2+1>60)->((deep4>12->K (Value.int .i64 5) (l2+1) M)/\(¬(deep4>12)->(qaf Tryz.prog 108 #[e3.val] M (λv _=>∃(x8:Bool),v=(Value.bool x8)/\((¬(x8=true)->K (Value.int .i64 3) (l2+1) M)/\(¬(¬(x8=true))->(∃(I30:Int->Int->Mem->Prop) (mu31:Int->Int->Nat),I30 0 (l2+1) M/\∀(x27:Int) (c28:Int) (M29:Mem),(I30 x27 c28 M29->((x27<((e3.Kids_l:Nat):Int)->(∃(b32 o33:Nat),e3.Kids_a=some ⟨b32,o33,none⟩/\(0:Int)<=x27/\x27<((e3.Kids_l:Nat):Int)/\(∃(x34:qaa),At M29 b32 (o33+x27.toNat*7) x34.cells/\(InI (deep4+1)/\(qbL x34 (deep4+1) c28 M29 (λv c38 M37=>∃(x36:Int),v=(Value.int .i64 x36)/\(((x36:Int)≠0->K (Value.int .i64 x36) c38 M37)/\(¬((x36:Int)≠0)->(InI (x27+1)/\I30 (x27+1) c38 M37/\mu31 (x27+1) c38<mu31 x27 c28)))))))))/\(¬(x27<((e3.Kids_l:Nat):Int))->K (Value.int .i64 0) c28 M29)))))))))))))
set_option maxRecDepth 100000 in
theorem qg1 (e3:qaa) (deep4:Int) (l2:Int) (M:Mem) (K:Value->Int->Mem->Prop) (hS:qdc e3 deep4 l2 M K):qbL e3 deep4 l2 M K:=by
 intro b1;refine qqc Tryz.func66 rfl 46 rfl (Nat.le_of_ble_eq_true rfl) (λE a hs=>?_);unfold qdc at hS;have hMM:=MX.refl M E;change Sx 46 E (blk [⟨b1,125,[(iv l2)]⟩] []) M E a [(0,(pt b1 0)),(1,e3.val),(2,(iv deep4))] [⟨b1,125,[(iv l2)]⟩] []at hs;refine qr (qao e3.cells hs rfl rfl rfl (by decide) (λ_ _ b7 hEb7 hs=>?_));refine sP (iv 0) hs λ_ hs=>?_;refine wn (qr (sP3 (pt b1 0) (pt b1 0) (pt b1 0) hs λ_ hs=>?_));refine sB1 (iv l2) 1 hs λ_ hs=>?_;obtain⟨hI,hS⟩:=hS;refine sY (iv (l2+1)) hs (Yl.wr hI) λ_ hs=>?_;refine sP2 (pt b1 0) (pt b1 0) hs λ_ hs=>?_;refine stB 1 [(iv (l2+1))] [⟨b7,50,e3.cells⟩,⟨b1,125,[(iv (l2+1))]⟩] hs λ_ _ hs=>?_;refine wn (qs (qb (qr (sP3 (pt b1 0) (pt b1 0) (pt b1 0) hs λ_ hs=>?_))));refine sB1 (iv (l2+1)) 1 hs λ_ hs=>?_;refine sP2 (.bool (decide (l2+1>60))) (.bool (decide (l2+1>60))) hs λ_ hs=>?_;refine wn (Wp.cS hs decide_eq_true_iff hS (λhS=>?_) (λhS=>?_))
 ·refine qr (sP (iv 2) hs λ_ hs=>?_);refine wn (qt ?_);replace hs:=hs.bfront 1 rfl rfl;exact qg7 hs (qct hs rfl rfl) hMM.1 hMM.2 [⟨b1,125,[(iv (l2+1))]⟩] [] (.cons_cons _ (.cons _ List.Sublist.slnil)) (List.Sublist.refl _) rfl ⟨l2+1,rfl,rfl,hS⟩
 ·refine qr (sP3 (iv deep4) (.bool (decide (deep4>12))) (.bool (decide (deep4>12))) hs λ_ hs=>?_);refine wn (Wp.cS hs decide_eq_true_iff hS (λhS=>?_) (λhS=>?_))
  ·refine qr (sP (iv 5) hs λ_ hs=>?_);refine wn (qt ?_);replace hs:=hs.bfront 1 rfl rfl;exact qg7 hs (qct hs rfl rfl) hMM.1 hMM.2 [⟨b1,125,[(iv (l2+1))]⟩] [] (.cons_cons _ (.cons _ List.Sublist.slnil)) (List.Sublist.refl _) rfl ⟨l2+1,rfl,rfl,hS⟩
  ·refine qr (sY e3.val hs (Yl.lB e3.cells true 0) λ_ hs=>?_);refine cP [e3.val] hs Tryz.func108 hS λ_ _ v hS hs=>?_;obtain⟨x8,rfl,hS⟩:=hS;refine sP2 (.bool (!x8)) (.bool (!x8)) hs λ_ hs=>?_;refine wn (Wp.cS hs (qaC Iff.rfl) hS (λhS=>?_) (λhS=>?_))
   ·refine qr (sP (iv 3) hs λ_ hs=>?_);refine wn (qt ?_);replace hs:=hs.bfront 1 rfl rfl;exact qg7 hs (qct hs rfl rfl) hMM.1 hMM.2 [⟨b1,125,[(iv (l2+1))]⟩] [] (.cons_cons _ (.cons _ List.Sublist.slnil)) (List.Sublist.refl _) rfl ⟨l2+1,rfl,rfl,hS⟩
   ·refine qk (qs (qr (sP (pt b7 6) hs λ_ hs=>?_)));refine sB1 (.slice e3.Kids_a e3.Kids_l e3.Kids_c) 0 hs λ_ hs=>?_;refine sP2 (iv (e3.Kids_l:Int)) (iv 0) hs λ_ hs=>?_;refine wn (qb ?_);obtain⟨I30,mu31,hI0,hst⟩:=hS;refine Wp.loop (σ:=(Int)×(Int)×(Mem)) (λ(x27,c28,M29) a w=>MX M29 M E/\Sx 46 E (blk [⟨b1,125,[(iv l2)]⟩] []) M29 w a [(0,(pt b1 0)),(2,(iv deep4)),(31,(.slice e3.Kids_a e3.Kids_l e3.Kids_c)),(32,(iv (e3.Kids_l:Int))),(33,(iv x27))] [⟨b7,50,e3.cells⟩,⟨b1,125,[(iv c28)]⟩] []/\I30 x27 c28 M29) (λ(x27,c28,M29)=>mu31 x27 c28) (0,l2+1,M) ⟨hMM,hs.q,hI0⟩ (λs a w hI=>?_);obtain⟨x27,c28,M29⟩:=s;obtain⟨hMM,hs,hI⟩:=hI;have hS:=hst x27 c28 M29 hI;clear hst hI0 hI;refine qr (sP (.bool (decide (x27<(e3.Kids_l:Int)))) hs λ_ hs=>?_);refine wn (qs (Wp.cS hs decide_eq_true_iff hS (λhS=>?_) (λhS=>?_)))
    ·refine qk (qs (qb (qr ?_)));obtain⟨b32,o33,ha,h0,hl,hS⟩:=hS;refine sI 50 7 ha h0 hl hs λ_ hs=>?_;obtain⟨x34,hat,hS⟩:=hS;refine sY x34.val hs (Yl.lV x34.cells true hat) λ_ hs=>?_;refine qae [(iv 0),(.int .u64 0),(.int .u64 0),(.int .u64 0),(.int .u64 0),(.string (mkS [])),(.slice none 0 0)] hs (by kernel_rfl) (by decide) (λ_ _ b35 hEb35 hs=>?_);have hs:=hs.nilrow 50 7;refine stB 0 x34.cells [⟨b35,50,x34.cells⟩,⟨b7,50,e3.cells⟩,⟨b1,125,[(iv c28)]⟩] hs λ_ _ hs=>?_;refine wn (qr (sP (pt b1 0) hs λ_ hs=>?_));refine sY x34.val hs (Yl.lB x34.cells true 0) λ_ hs=>?_;refine sP (iv deep4) hs λ_ hs=>?_;obtain⟨hI,hS⟩:=hS;refine sY (iv (deep4+1)) hs (Yl.wr hI) λ_ hs=>?_;replace hs:=hs.bfront 2 rfl rfl;refine qd0 [(pt b1 0),x34.val,(iv (deep4+1))] [⟨b1,125,[(iv c28)]⟩] [⟨b35,50,x34.cells⟩,⟨b7,50,e3.cells⟩] [] [⟨(Value.slice none 0 0),50,7,0,[],true⟩] true hs rfl rfl rfl rfl ⟨_,rfl,rfl⟩ rfl Tryz.func66 rfl (by kernel_rfl) (by decide) (hS _) (λ_ _ M37 v lb lr hle hnew hS hs=>?_);have hMM:=hMM.next hle hnew;obtain⟨c38,hlb,hlr,hS⟩:=hS;subst hlb hlr;obtain⟨x36,rfl,hS⟩:=hS;replace hs:=hs.chbx (bs':=[⟨b1,125,[(iv c38)]⟩,⟨b35,50,x34.cells⟩,⟨b7,50,e3.cells⟩]) rfl
     replace hs:=hs.chrs (rs':=[⟨(Value.slice none 0 0),50,7,0,[],true⟩]) rfl;replace hs:=hs.bback 2 (l':=[⟨b35,50,x34.cells⟩,⟨b7,50,e3.cells⟩,⟨b1,125,[(iv c38)]⟩]) rfl;refine sP (iv x36) hs λ_ hs=>?_;refine wn (qr (sP2 (iv x36) (.bool ((x36:Int) != (0:Int))) hs λ_ hs=>?_));refine wn (Wp.cS hs bne_iff_ne hS (λhS=>?_) (λhS=>?_))
     ·refine qr (sP2 (iv x36) (iv x36) hs λ_ hs=>?_);refine wn (qt ?_);replace hs:=hs.bfront 2 rfl rfl;exact qg7 hs (qct hs rfl rfl) hMM.1 hMM.2 [⟨b1,125,[(iv c38)]⟩] [] (.cons_cons _ (.cons _ (.cons _ List.Sublist.slnil))) (.cons _ List.Sublist.slnil) rfl ⟨c38,rfl,rfl,hS⟩
     ·refine qk (qg ?_);obtain⟨hI,hS⟩:=hS;refine sY (iv (x27+1)) hs (Yl.wr hI) λ_ hs=>?_;refine sP (iv (x27+1)) hs λ_ hs=>?_;exact wn (⟨(x27+1,c38,M37),⟨hMM,(hs.qq (.cons _ (.cons_cons _ (.cons_cons _ List.Sublist.slnil))) (.cons _ List.Sublist.slnil)),hS.1⟩,hS.2⟩)
    ·refine qx rfl (qr (sP (iv 0) hs λ_ hs=>?_));refine wn (qt ?_);replace hs:=hs.bfront 1 rfl rfl;exact qg7 hs (qct hs rfl rfl) hMM.1 hMM.2 [⟨b1,125,[(iv c28)]⟩] [] (.cons_cons _ (.cons _ List.Sublist.slnil)) (List.Sublist.refl _) rfl ⟨c28,rfl,rfl,hS⟩
def qfk (e1:qaa) (M:Mem) (K:Value->Prop):Prop:=
 (qbL e1 1 0 M (λv c6 M5=>∃(x4:Int),v=(Value.int .i64 x4)/\(((x4:Int)≠0->K (Value.tuple #[(.int .i64 0),(.int .i64 x4)]))/\(¬((x4:Int)≠0)->K (Value.tuple #[(.int .i64 c6),(.int .i64 0)])))))
set_option maxRecDepth 100000 in
theorem qgv (e1:qaa) (M:Mem) (K:Value->Prop) (hS:qfk e1 M K):qaf Tryz.prog 38 #[e1.val] M (λv _=>K v):=by
 refine eE1 Tryz.func38 13 λE a hMM hs=>?_;unfold qfk at hS;refine qr (qao e1.cells hs rfl rfl rfl (by decide) (λ_ _ b2 hEb2 hs=>?_));refine sP2 (iv 0) (iv 0) hs λ_ hs=>?_;refine wn (qr (qae [(iv 0)] hs (by kernel_rfl) (by decide) (λ_ _ b3 hEb3 hs=>?_)));refine wn (qs (qr (sY e1.val hs (Yl.lB e1.cells true 1) λ_ hs=>?_)));refine qd0 [(pt b3 0),e1.val,(iv 1)] [⟨b3,125,[(iv 0)]⟩] [⟨b2,50,e1.cells⟩] [] [] true hs rfl rfl rfl rfl ⟨_,rfl,rfl⟩ rfl Tryz.func66 rfl (by kernel_rfl) (by decide) (hS _) (λ_ _ M5 v lb lr hle hnew hS hs=>?_);have hMM:=hMM.next hle hnew;obtain⟨c6,hlb,hlr,hS⟩:=hS;subst hlb hlr;obtain⟨x4,rfl,hS⟩:=hS;replace hs:=hs.chbx (bs':=[⟨b3,125,[(iv c6)]⟩,⟨b2,50,e1.cells⟩]) rfl;replace hs:=hs.chrs (rs':=[]) rfl;refine sP (iv x4) hs λ_ hs=>?_;refine wn (qr (sP2 (iv x4) (.bool ((x4:Int) != (0:Int))) hs λ_ hs=>?_));refine wn (Wp.cS hs bne_iff_ne hS (λhS=>?_) (λhS=>?_))
 ·refine qr (sP3 (iv x4) (iv 0) (iv x4) hs λ_ hs=>?_);exact wn (qt (rTT hs hMM hS))
 ·refine qk (qr (sP (pt b3 0) hs λ_ hs=>?_));refine sB1 (iv c6) 0 hs λ_ hs=>?_;refine sP2 (iv c6) (iv 0) hs λ_ hs=>?_;exact wn (qt (rTT hs hMM hS))
def qex (e1:qaa) (M:Mem) (K:Value->Prop):Prop:=
 (qbL e1 1 0 M (λv c6 M5=>∃(x4:Int),v=(Value.int .i64 x4)/\K (Value.int .i64 x4)))
set_option maxRecDepth 100000 in
theorem qh0 (e1:qaa) (M:Mem) (K:Value->Prop) (hS:qex e1 M K):qaf Tryz.prog 45 #[e1.val] M (λv _=>K v):=by
 refine eE1 Tryz.func45 6 λE a hMM hs=>?_;unfold qex at hS;refine qr (qao e1.cells hs rfl rfl rfl (by decide) (λ_ _ b2 hEb2 hs=>?_));refine sP (iv 0) hs λ_ hs=>?_;refine wn (qr (qae [(iv 0)] hs (by kernel_rfl) (by decide) (λ_ _ b3 hEb3 hs=>?_)));refine wn (qr (sY e1.val hs (Yl.lB e1.cells true 1) λ_ hs=>?_));refine qd0 [(pt b3 0),e1.val,(iv 1)] [⟨b3,125,[(iv 0)]⟩] [⟨b2,50,e1.cells⟩] [] [] true hs rfl rfl rfl rfl ⟨_,rfl,rfl⟩ rfl Tryz.func66 rfl (by kernel_rfl) (by decide) (hS _) (λ_ _ M5 v lb lr hle hnew hS hs=>?_);have hMM:=hMM.next hle hnew;obtain⟨c6,hlb,hlr,hS⟩:=hS;subst hlb hlr;obtain⟨x4,rfl,hS⟩:=hS;replace hs:=hs.chbx (bs':=[⟨b3,125,[(iv c6)]⟩,⟨b2,50,e1.cells⟩]) rfl;replace hs:=hs.chrs (rs':=[]) rfl;refine sP (iv x4) hs λ_ hs=>?_;exact wn (qt (rT hs hMM hS))
def qew (ga1:Option Addr) (gl2:Nat) (gc3:Nat) (M:Mem) (K:Value->Prop):Prop:=
 ((((gl2:Nat):Int)=0->K (Value.int .i64 1))/\(¬(((gl2:Nat):Int)=0)->((((gl2:Nat):Int)>10->K (Value.int .i64 2))/\(¬(((gl2:Nat):Int)>10)->(∃(I17:Int->Int->Prop) (mu18:Int->Int->Nat),I17 0 0/\∀(all15:Int) (x16:Int),(I17 all15 x16->((x16<((gl2:Nat):Int)->(∃(b19 o20:Nat),ga1=some ⟨b19,o20,none⟩/\(0:Int)<=x16/\x16<((gl2:Nat):Int)/\(∃(x21:qai),At M b19 (o20+x16.toNat*8) x21.cells/\(qaf Tryz.prog 42 #[(.string (mkS x21.Name))] M (λv _=>∃(x23:Bool),v=(Value.bool x23)/\((¬(x23=true)->K (Value.int .i64 6))/\(¬(¬(x23=true))->(qaf Tryz.prog 43 #[(.agg #[(.slice ga1 gl2 gc3)]),(.string (mkS x21.Name))] M (λv _=>∃(x24:Int),v=(Value.int .i64 x24)/\(((x24:Int)≠x16->K (Value.int .i64 7))/\(¬((x24:Int)≠x16)->(qaf Tryz.prog 38 #[x21.Body.val] M (λv _=>∃(x25:Int) (x26:Int),v=(Value.tuple #[(.int .i64 x25),(.int .i64 x26)])/\(((x26:Int)≠0->K (Value.int .i64 x26))/\(¬((x26:Int)≠0)->(InI (all15+x25)/\(InI (x16+1)/\I17 (all15+x25) (x16+1)/\mu18 (all15+x25) (x16+1)<mu18 all15 x16)))))))))))))))))/\(¬(x16<((gl2:Nat):Int))->((all15>120->K (Value.int .i64 2))/\(¬(all15>120)->(∃(I74:Int->Mem->Prop) (mu75:Int->Nat),I74 0 M/\∀(x72:Int) (M73:Mem),(I74 x72 M73->((x72<((gl2:Nat):Int)->(∃(b76 o77:Nat),ga1=some ⟨b76,o77,none⟩/\(0:Int)<=x72/\x72<((gl2:Nat):Int)/\(∃(x78:qai),At M73 b76 (o77+x72.toNat*8) x78.cells/\(qaf Tryz.prog 44 #[x78.Body.val] M73 (λv M84=>∃(xa80:Option Addr) (xl81:Nat) (xc82:Nat) (x83:Int),v=(Value.tuple #[(.slice xa80 xl81 xc82),(.int .i64 x83)])/\(∃(I91:Int->Prop) (mu92:Int->Nat),I91 0/\∀(x90:Int),(I91 x90->((x90<((xl81:Nat):Int)->(∃(b93 o94:Nat),xa80=some ⟨b93,o94,none⟩/\(0:Int)<=x90/\x90<((xl81:Nat):Int)/\(∃(x95:List UInt8),At M84 b93 (o94+x90.toNat*1) [(.string (mkS x95))]/\(qaf Tryz.prog 43 #[(.agg #[(.slice ga1 gl2 gc3)]),(.string (mkS x95))] M84 (λv _=>∃(x96:Int),v=(Value.int .i64 x96)/\((x96<0->K (Value.int .i64 6))/\(¬(x96<0)->(InI (x90+1)/\I91 (x90+1)/\mu92 (x90+1)<mu92 x90))))))))/\(¬(x90<((xl81:Nat):Int))->(InI (x72+1)/\I74 (x72+1) M84/\mu75 (x72+1)<mu75 x72))))))))))/\(¬(x72<((gl2:Nat):Int))->K (Value.int .i64 0)))))))))))))))
set_option maxRecDepth 100000 in
theorem qek (ga1:Option Addr) (gl2:Nat) (gc3:Nat) (M:Mem) (K:Value->Prop) (hS:qew ga1 gl2 gc3 M K):qaf Tryz.prog 16 #[(Value.agg #[(Value.slice ga1 gl2 gc3)])] M (λv _=>K v):=by
 refine eE1 Tryz.func16 80 λE a hMM hs=>?_;unfold qew at hS;refine qr (qao [(.slice ga1 gl2 gc3)] hs rfl rfl rfl (by decide) (λ_ _ b4 hEb4 hs=>?_));refine sP (iv 0) hs λ_ hs=>?_;refine wn (qs (qr (sP (pt b4 0) hs λ_ hs=>?_)));refine sB1 (.slice ga1 gl2 gc3) 0 hs λ_ hs=>?_;refine sP2 (iv (gl2:Int)) (.bool ((gl2:Int)==(0:Int))) hs λ_ hs=>?_;refine wn (Wp.cS hs beq_iff_eq hS (λhS=>?_) (λhS=>?_))
 ·refine qr (sP (iv 1) hs λ_ hs=>?_);exact wn (qt (rT hs hMM hS))
 ·refine qk (qs (qr (sP (pt b4 0) hs λ_ hs=>?_)));refine sB1 (.slice ga1 gl2 gc3) 0 hs λ_ hs=>?_;refine sP2 (iv (gl2:Int)) (.bool (decide ((gl2:Int)>10))) hs λ_ hs=>?_;refine wn (Wp.cS hs decide_eq_true_iff hS (λhS=>?_) (λhS=>?_))
  ·refine qr (sP (iv 2) hs λ_ hs=>?_);exact wn (qt (rT hs hMM hS))
  ·refine qk (qr (sP (iv 0) hs λ_ hs=>?_));refine wn (qs (qr (sP (pt b4 0) hs λ_ hs=>?_)));refine sB1 (.slice ga1 gl2 gc3) 0 hs λ_ hs=>?_;refine sP2 (iv (gl2:Int)) (iv 0) hs λ_ hs=>?_;refine wn (qb ?_);obtain⟨I17,mu18,hI0,hst⟩:=hS;refine Wp.loop (σ:=(Int)×(Int)) (λ(all15,x16) a w=>Sx 80 E [] M w a [(1,(pt b4 0)),(3,(iv all15)),(23,(.slice ga1 gl2 gc3)),(24,(iv (gl2:Int))),(25,(iv x16))] [⟨b4,24,[(.slice ga1 gl2 gc3)]⟩] []/\I17 all15 x16) (λ(all15,x16)=>mu18 all15 x16) (0,0) ⟨hs.q,hI0⟩ (λs a w hI=>?_);obtain⟨all15,x16⟩:=s;obtain⟨hs,hI⟩:=hI;have hS:=hst all15 x16 hI;clear hst hI0 hI;refine qr (sP (.bool (decide (x16<(gl2:Int)))) hs λ_ hs=>?_);refine wn (qs (Wp.cS hs decide_eq_true_iff hS (λhS=>?_) (λhS=>?_)))
   ·refine qk (qs (qb (qr (sP (iv x16) hs λ_ hs=>?_))));obtain⟨b19,o20,ha,h0,hl,hS⟩:=hS;refine sI 52 8 ha h0 hl hs λ_ hs=>?_;obtain⟨x21,hat,hS⟩:=hS;refine sY x21.val hs (Yl.lV x21.cells true hat) λ_ hs=>?_;refine qae [(.string (mkS [])),(iv 0),(.int .u64 0),(.int .u64 0),(.int .u64 0),(.int .u64 0),(.string (mkS [])),(.slice none 0 0)] hs (by kernel_rfl) (by decide) (λ_ _ b22 hEb22 hs=>?_);refine sP (iv x16) hs λ_ hs=>?_;refine stB 0 x21.cells [⟨b22,52,x21.cells⟩,⟨b4,24,[(.slice ga1 gl2 gc3)]⟩] hs λ_ _ hs=>?_;refine wn (qs (qr (sP (pt b22 0) hs λ_ hs=>?_)));refine sB1 (.string (mkS x21.Name)) 0 hs λ_ hs=>?_;refine cP [(.string (mkS x21.Name))] hs Tryz.func42 hS λ_ _ v hS hs=>?_;obtain⟨x23,rfl,hS⟩:=hS;refine sP (.bool (!x23)) hs λ_ hs=>?_;refine wn (Wp.cS hs (qaC Iff.rfl) hS (λhS=>?_) (λhS=>?_))
    ·refine qr (sP (iv 6) hs λ_ hs=>?_);exact wn (qt (rT hs hMM hS))
    ·refine qk (qs (qr (sB [(.slice ga1 gl2 gc3)] true 1 hs λ_ hs=>?_)));refine sP (pt b22 0) hs λ_ hs=>?_;refine sB1 (.string (mkS x21.Name)) 0 hs λ_ hs=>?_;refine cP [(.agg #[(.slice ga1 gl2 gc3)]),(.string (mkS x21.Name))] hs Tryz.func43 hS λ_ _ v hS hs=>?_;obtain⟨x24,rfl,hS⟩:=hS;refine sP2 (iv x16) (.bool ((x24:Int) != (x16:Int))) hs λ_ hs=>?_;refine wn (Wp.cS hs bne_iff_ne hS (λhS=>?_) (λhS=>?_))
     ·refine qr (sP (iv 7) hs λ_ hs=>?_);exact wn (qt (rT hs hMM hS))
     ·refine qk (qr (sP (pt b22 1) hs λ_ hs=>?_));refine sY x21.Body.val hs (Yl.lB x21.Body.cells true 0) λ_ hs=>?_;refine cP [x21.Body.val] hs Tryz.func38 hS λ_ _ v hS hs=>?_;obtain⟨x25,x26,rfl,hS⟩:=hS;refine sP4 (Value.tuple #[(iv x25),(iv x26)]) (iv x25) (iv x26) (iv x25) hs λ_ hs=>?_;refine sP (iv x26) hs λ_ hs=>?_;refine wn (qs (qr (sP2 (iv x26) (.bool ((x26:Int) != (0:Int))) hs λ_ hs=>?_)));refine wn (Wp.cS hs bne_iff_ne hS (λhS=>?_) (λhS=>?_))
      ·refine qr (sP2 (iv x26) (iv x26) hs λ_ hs=>?_);exact wn (qt (rT hs hMM hS))
      ·refine qk (qg (sP2 (iv all15) (iv x25) hs λ_ hs=>?_));obtain⟨hI,hS⟩:=hS;refine sY (iv (all15+x25)) hs (Yl.wr hI) λ_ hs=>?_;refine sP (iv (all15+x25)) hs λ_ hs=>?_;refine wn (qg ?_);obtain⟨hI,hS⟩:=hS;refine sY (iv (x16+1)) hs (Yl.wr hI) λ_ hs=>?_;refine sP (iv (x16+1)) hs λ_ hs=>?_;exact wn (⟨(all15+x25,x16+1),⟨(hs.qq (.cons _ (.cons_cons _ List.Sublist.slnil)) (List.Sublist.refl _)),hS.1⟩,hS.2⟩)
   ·refine qx rfl (qs (qr (sP (iv all15) hs λ_ hs=>?_)));refine sP (.bool (decide (all15>120))) hs λ_ hs=>?_;refine wn (Wp.cS hs decide_eq_true_iff hS (λhS=>?_) (λhS=>?_))
    ·refine qr (sP (iv 2) hs λ_ hs=>?_);exact wn (qt (rT hs hMM hS))
    ·refine qk (qs (qr (sP (pt b4 0) hs λ_ hs=>?_)));refine sB1 (.slice ga1 gl2 gc3) 0 hs λ_ hs=>?_;refine sP2 (iv (gl2:Int)) (iv 0) hs λ_ hs=>?_;refine wn (qb ?_);obtain⟨I74,mu75,hI0,hst⟩:=hS;refine Wp.loop (σ:=(Int)×(Mem)) (λ(x72,M73) a w=>MX M73 M E/\Sx 80 E [] M73 w a [(1,(pt b4 0)),(56,(.slice ga1 gl2 gc3)),(57,(iv (gl2:Int))),(58,(iv x72))] [⟨b4,24,[(.slice ga1 gl2 gc3)]⟩] []/\I74 x72 M73) (λ(x72,M73)=>mu75 x72) (0,M) ⟨hMM,hs.q,hI0⟩ (λs a w hI=>?_);obtain⟨x72,M73⟩:=s;obtain⟨hMM,hs,hI⟩:=hI;have hS:=hst x72 M73 hI;clear hst hI0 hI;refine qr (sP (.bool (decide (x72<(gl2:Int)))) hs λ_ hs=>?_);refine wn (qs (Wp.cS hs decide_eq_true_iff hS (λhS=>?_) (λhS=>?_)))
     ·refine qk (qs (qb (qr ?_)));obtain⟨b76,o77,ha,h0,hl,hS⟩:=hS;refine sI 52 8 ha h0 hl hs λ_ hs=>?_;obtain⟨x78,hat,hS⟩:=hS;refine sY x78.val hs (Yl.lV x78.cells true hat) λ_ hs=>?_;refine qae [(.string (mkS [])),(iv 0),(.int .u64 0),(.int .u64 0),(.int .u64 0),(.int .u64 0),(.string (mkS [])),(.slice none 0 0)] hs (by kernel_rfl) (by decide) (λ_ _ b79 hEb79 hs=>?_);refine stB 0 x78.cells [⟨b79,52,x78.cells⟩,⟨b4,24,[(.slice ga1 gl2 gc3)]⟩] hs λ_ _ hs=>?_;refine wn (qr (sP (pt b79 1) hs λ_ hs=>?_));refine sY x78.Body.val hs (Yl.lB x78.Body.cells true 0) λ_ hs=>?_;refine cM [x78.Body.val] hs hMM Tryz.func44 hS λ_ _ M84 v hMM hle hS hs=>?_;obtain⟨xa80,xl81,xc82,x83,rfl,hS⟩:=hS;refine sP4 (Value.tuple #[(.slice xa80 xl81 xc82),(iv x83)]) (.slice xa80 xl81 xc82) (iv x83) (.slice xa80 xl81 xc82) hs λ_ hs=>?_;refine sP (iv x83) hs λ_ hs=>?_;refine wn (qr (sP3 (.slice xa80 xl81 xc82) (iv (xl81:Int)) (iv 0) hs λ_ hs=>?_));refine wn (qb ?_);obtain⟨I91,mu92,hI0,hst⟩:=hS
      refine Wp.loop (σ:=(Int)) (λx90 a w=>Sx 80 E [] M84 w a [(1,(pt b4 0)),(56,(.slice ga1 gl2 gc3)),(57,(iv (gl2:Int))),(58,(iv x72)),(68,(.slice xa80 xl81 xc82)),(69,(iv (xl81:Int))),(70,(iv x90))] [⟨b79,52,x78.cells⟩,⟨b4,24,[(.slice ga1 gl2 gc3)]⟩] []/\I91 x90) (λx90=>mu92 x90) (0) ⟨hs.q,hI0⟩ (λx90 a w hI=>?_);obtain⟨hs,hI⟩:=hI;have hS:=hst x90 hI;clear hst hI0 hI;refine qr (sP (.bool (decide (x90<(xl81:Int)))) hs λ_ hs=>?_);refine wn (qs (Wp.cS hs decide_eq_true_iff hS (λhS=>?_) (λhS=>?_)))
      ·refine qk (qs (qb (qr ?_)));obtain⟨b93,o94,ha,h0,hl,hS⟩:=hS;refine sI 9 1 ha h0 hl hs λ_ hs=>?_;obtain⟨x95,hat,hS⟩:=hS;refine sV1 (.string (mkS x95)) hat hs λ_ hs=>?_;refine sP (.string (mkS x95)) hs λ_ hs=>?_;refine wn (qr (sB [(.slice ga1 gl2 gc3)] true 1 hs λ_ hs=>?_));refine sP (.string (mkS x95)) hs λ_ hs=>?_;refine cP [(.agg #[(.slice ga1 gl2 gc3)]),(.string (mkS x95))] hs Tryz.func43 hS λ_ _ v hS hs=>?_;obtain⟨x96,rfl,hS⟩:=hS;refine sP (.bool (decide (x96<0))) hs λ_ hs=>?_;refine wn (Wp.cS hs decide_eq_true_iff hS (λhS=>?_) (λhS=>?_))
       ·refine qr (sP (iv 6) hs λ_ hs=>?_);exact wn (qt (rT hs hMM hS))
       ·refine qk (qg ?_);obtain⟨hI,hS⟩:=hS;refine sY (iv (x90+1)) hs (Yl.wr hI) λ_ hs=>?_;refine sP (iv (x90+1)) hs λ_ hs=>?_;exact wn (⟨(x90+1),⟨hs.q,hS.1⟩,hS.2⟩)
      ·refine qx rfl (qg ?_);obtain⟨hI,hS⟩:=hS;refine sY (iv (x72+1)) hs (Yl.wr hI) λ_ hs=>?_;refine sP (iv (x72+1)) hs λ_ hs=>?_;exact wn (⟨(x72+1,M84),⟨hMM,(hs.qq (.cons _ (.cons_cons _ List.Sublist.slnil)) (List.Sublist.refl _)),hS.1⟩,hS.2⟩)
     ·refine qx rfl (qr (sP (iv 0) hs λ_ hs=>?_));exact wn (qt (rT hs hMM hS))
def qev (ga1:Option Addr) (gl2:Nat) (gc3:Nat) (M:Mem) (K:Value->Prop):Prop:=
 (qaf Tryz.prog 16 #[(.agg #[(.slice ga1 gl2 gc3)])] M (λv _=>∃(x5:Int),v=(Value.int .i64 x5)/\(((x5:Int)≠0->K (Value.tuple #[(.int .i64 0),(.int .i64 x5)]))/\(¬((x5:Int)≠0)->(∃(I16:Int->Int->Prop) (mu17:Int->Int->Nat),I16 0 0/\∀(all14:Int) (x15:Int),(I16 all14 x15->((x15<((gl2:Nat):Int)->(∃(b18 o19:Nat),ga1=some ⟨b18,o19,none⟩/\(0:Int)<=x15/\x15<((gl2:Nat):Int)/\(∃(x20:qai),At M b18 (o19+x15.toNat*8) x20.cells/\(qaf Tryz.prog 38 #[x20.Body.val] M (λv _=>∃(x22:Int) (x23:Int),v=(Value.tuple #[(.int .i64 x22),(.int .i64 x23)])/\(InI (all14+x22)/\(InI (x15+1)/\I16 (all14+x22) (x15+1)/\mu17 (all14+x22) (x15+1)<mu17 all14 x15)))))))/\(¬(x15<((gl2:Nat):Int))->K (Value.tuple #[(.int .i64 all14),(.int .i64 0)])))))))))
set_option maxRecDepth 100000 in
theorem qhZ (ga1:Option Addr) (gl2:Nat) (gc3:Nat) (M:Mem) (K:Value->Prop) (hS:qev ga1 gl2 gc3 M K):qaf Tryz.prog 14 #[(Value.agg #[(Value.slice ga1 gl2 gc3)])] M (λv _=>K v):=by
 refine eE1 Tryz.func14 33 λE a hMM hs=>?_;unfold qev at hS;refine qr (qao [(.slice ga1 gl2 gc3)] hs rfl rfl rfl (by decide) (λ_ _ b4 hEb4 hs=>?_));refine sP2 (iv 0) (iv 0) hs λ_ hs=>?_;refine wn (qs (qr (sB [(.slice ga1 gl2 gc3)] true 0 hs λ_ hs=>?_)));refine cP [(.agg #[(.slice ga1 gl2 gc3)])] hs Tryz.func16 hS λ_ _ v hS hs=>?_;obtain⟨x5,rfl,hS⟩:=hS;refine sP (iv x5) hs λ_ hs=>?_;refine wn (qr (sP2 (iv x5) (.bool ((x5:Int) != (0:Int))) hs λ_ hs=>?_));refine wn (Wp.cS hs bne_iff_ne hS (λhS=>?_) (λhS=>?_))
 ·refine qr (sP3 (iv x5) (iv 0) (iv x5) hs λ_ hs=>?_);exact wn (qt (rTT hs hMM hS))
 ·refine qk (qr (sP (iv 0) hs λ_ hs=>?_));refine wn (qs (qr (sP (pt b4 0) hs λ_ hs=>?_)));refine sB1 (.slice ga1 gl2 gc3) 0 hs λ_ hs=>?_;refine sP2 (iv (gl2:Int)) (iv 0) hs λ_ hs=>?_;refine wn (qb ?_);obtain⟨I16,mu17,hI0,hst⟩:=hS;refine Wp.loop (σ:=(Int)×(Int)) (λ(all14,x15) a w=>Sx 33 E [] M w a [(5,(iv all14)),(16,(.slice ga1 gl2 gc3)),(17,(iv (gl2:Int))),(18,(iv x15))] [⟨b4,24,[(.slice ga1 gl2 gc3)]⟩] []/\I16 all14 x15) (λ(all14,x15)=>mu17 all14 x15) (0,0) ⟨hs.q,hI0⟩ (λs a w hI=>?_);obtain⟨all14,x15⟩:=s;obtain⟨hs,hI⟩:=hI;have hS:=hst all14 x15 hI;clear hst hI0 hI;refine qr (sP (.bool (decide (x15<(gl2:Int)))) hs λ_ hs=>?_);refine wn (qs (Wp.cS hs decide_eq_true_iff hS (λhS=>?_) (λhS=>?_)))
  ·refine qk (qs (qb (qr ?_)));obtain⟨b18,o19,ha,h0,hl,hS⟩:=hS;refine sI 52 8 ha h0 hl hs λ_ hs=>?_;obtain⟨x20,hat,hS⟩:=hS;refine sY x20.val hs (Yl.lV x20.cells true hat) λ_ hs=>?_;refine qae [(.string (mkS [])),(iv 0),(.int .u64 0),(.int .u64 0),(.int .u64 0),(.int .u64 0),(.string (mkS [])),(.slice none 0 0)] hs (by kernel_rfl) (by decide) (λ_ _ b21 hEb21 hs=>?_);refine stB 0 x20.cells [⟨b21,52,x20.cells⟩,⟨b4,24,[(.slice ga1 gl2 gc3)]⟩] hs λ_ _ hs=>?_;refine wn (qr (sP (pt b21 1) hs λ_ hs=>?_));refine sY x20.Body.val hs (Yl.lB x20.Body.cells true 0) λ_ hs=>?_;refine cP [x20.Body.val] hs Tryz.func38 hS λ_ _ v hS hs=>?_;obtain⟨x22,x23,rfl,hS⟩:=hS;refine sP4 (Value.tuple #[(iv x22),(iv x23)]) (iv x22) (iv x23) (iv x22) hs λ_ hs=>?_;refine sP (iv x23) hs λ_ hs=>?_;refine wn (qg (sP2 (iv all14) (iv x22) hs λ_ hs=>?_));obtain⟨hI,hS⟩:=hS;refine sY (iv (all14+x22)) hs (Yl.wr hI) λ_ hs=>?_;refine sP (iv (all14+x22)) hs λ_ hs=>?_;refine wn (qg ?_);obtain⟨hI,hS⟩:=hS;refine sY (iv (x15+1)) hs (Yl.wr hI) λ_ hs=>?_;refine sP (iv (x15+1)) hs λ_ hs=>?_
   exact wn (⟨(all14+x22,x15+1),⟨(hs.qq (.cons _ (.cons_cons _ List.Sublist.slnil)) (List.Sublist.refl _)),hS.1⟩,hS.2⟩)
  ·refine qx rfl (qr (sP (iv all14) hs λ_ hs=>?_));refine sP2 (iv all14) (iv 0) hs λ_ hs=>?_;exact wn (qt (rTT hs hMM hS))
end Go.Proofs.YtleaplmdgckmkaaGreatDoor.core
namespace Go.Gx
open Go.RowKit
variable [Dfs]
set_option linter.unusedSectionVars false
def qal (P:Program) (f:FuncId) (args:Array Value) (M:Mem) (L:Nat->Prop) (K:Value->Mem->Prop) (Kp:List PanicEntry->Prop):Prop:=
 ∀w,On M w->Calls P f args w λe w'=>qgg w (bwW w M L) w'/\((∃v,e= .returned v/\K v (qdo M w w'))\/∃c,e= .panicked c/\Kp c)
theorem qal.mono {P:Program} {f:FuncId} {args:Array Value} {M:Mem} {L L':Nat->Prop} {K K':Value->Mem->Prop} {Kp Kp':List PanicEntry->Prop} (h:qal P f args M L K Kp) (hl:∀b,L b->L' b) (hK:∀v M',LeW M L M'->K v M'->K' v M') (hp:∀c,Kp c->Kp' c):qal P f args M L' K' Kp':=
 λw hw=>(h w hw).mono λ_ _ ⟨h1,h2⟩=>⟨h1.wider hl,h2.imp (λ⟨v,q1,q2⟩=>⟨v,q1,hK v _ (qio hw h1) q2⟩) λ⟨c,q1,q2⟩=>⟨c,q1,hp c q2⟩⟩
def OneC (v:Value):Prop:=v.cells= #[v]/\[v].all (·.oneCell')=true
def qdi (P:Program) (fv:Value) (args:List Value) (M:Mem) (L:Nat->Prop) (K:Value->Mem->Prop) (Kp:List PanicEntry->Prop):Prop:=
 ∃f fn first caps,fv= .func (.func f) first caps/\P.funcs[f]?=some fn/\fn.body.isNone=false/\(fn.name== "runtime.NumGoroutine")=false/\qal P f (first.toList++args++caps.toList).toArray M L K Kp
structure PK where
 r:Value->Mem->Prop
 p:List PanicEntry->Prop
instance:CoeFun PK (λ_=>Value->Mem->Prop):=⟨PK.r⟩
def qba (K:PK):List PanicEntry->Prop:=K.p
def ZP (E:World) (M0:Mem) (L:Nat->Prop) (Kp:List PanicEntry->Prop):List PanicEntry->Act->World->Prop:=λc a w=>a.defers=Dfs.D/\qgg E (bwW E M0 L) w/\Kp c
theorem qbX {P:Program} {f:FuncId} {fn:Func} {c:Code} {l:List Value} {M:Mem} {L:Nat->Prop} {K:Value->Mem->Prop} {Kp:List PanicEntry->Prop}
  (hf:P.funcs[f]?=some fn) (hb:fn.body=some c) (n:Nat) (hn:fn.ntmps=n) (hl:l.length<=n)
  (h:∀w a,@Sx dfs0 n w (bwW w M L) M w a (qhj l 0) [] []->Wp P c (λa' w'=>a'.defers=[]/\∃v,(results fn a'.tmps).run P w'= .ok v w'/\qgg w (bwW w M L) w'/\K v (qdo M w w')) []
   (λa' w'=>a'.defers=[]/\∃v,(results fn a'.tmps).run P w'= .ok v w'/\qgg w (bwW w M L) w'/\K v (qdo M w w')) (@ZP dfs0 w M L Kp) a w):
  qal P f l.toArray M L K Kp:=by
 rename Dfs=>I0
 clear I0
 intro w hw
 refine calls_of_wp hf hb ?_
 refine Code.wp_mono (λe a w' q=>?_) (h w _ ⟨⟨rfl,?_,λx v hx=>?_⟩,hw,qgg.refl _ _,(λx hx=>by cases hx),(λr hr=>by cases hr),⟨List.nodup_nil,(λx hx=>by cases hx),List.Pairwise.nil⟩⟩)
 ·cases e with
  |normal=>obtain⟨h1,v,h2,h3,h4⟩:=q;exact⟨h1,v,h2,h3,.inl ⟨v,rfl,h4⟩⟩
  |ret=>obtain⟨h1,v,h2,h3,h4⟩:=q;exact⟨h1,v,h2,h3,.inl ⟨v,rfl,h4⟩⟩
  |panic ch=>obtain⟨h1,h2,h3⟩:=q;exact⟨h1,h2,.inr ⟨ch,rfl,h3⟩⟩
  |_=>exact q.elim
 ·simp[hn];omega
 ·obtain⟨_,h2⟩:=qfM l 0 x v hx
  simp only[Nat.sub_zero]at h2
  have hx':x<l.length:=by
   rcases Nat.lt_or_ge x l.length with h'|h'
   ·exact h'
   ·rw[List.getElem?_eq_none h']at h2;cases h2
  simp only[Array.getD_eq_getD_getElem?]
  rw[Array.getElem?_append_left (by simpa using hx')]
  simp[h2]
section
variable {P:Program} {ops:Array Oper} {N:Act->World->Prop} {X:List (Nat×(Act->World->Prop))} {R:Act->World->Prop} {Kp:List PanicEntry->Prop} {n:Nat} {E:World} {M M0:Mem} {L:Nat->Prop} {w:World} {a:Act} {env:Env} {bs:List Bx} {rs:List Rw} {rest:List Oper}
theorem qak {d f:Nat} {ty:TypeId} {c:Call} {pos:String} {af:Array Edge} {fn:Func} {K:Value->Mem->Prop} {Kp':List PanicEntry->Prop} {first caps:Array Value} (args:List Value) (hs:Sx n E (bwW E M0 L) M w a env bs rs) (hM:WX M M0 E)
  (hk:qcf env ⟨some d,.call c,ty,pos,af,none⟩=true) (hcal:∃x,c.callee= .value x/\evT env x= .func (.func f) first caps) (hargs:first.toList++c.args.toList.map (evT env)++caps.toList=args) (hf:P.funcs[f]?=some fn) (hbody:fn.body.isNone=false) (hname:(fn.name== "runtime.NumGoroutine")=false) (hdn:d<n)
  (hc:qal P f args.toArray M (λb=>L b\/M0 b=none) K Kp') (hp:∀c,Kp' c->Kp c)
  (h:∀a' w' M' v,WX M' M0 E->K v M'->Sx n E (bwW E M0 L) M' w' a' ((d,v)::env) bs rs->wpList P ops (QQ N X R (ZP E M0 L Kp)) rest a' w'):wpList P ops (QQ N X R (ZP E M0 L Kp)) (⟨some d,.call c,ty,pos,af,none⟩::rest) a w:=by
 refine qfy (Z:=λc w'=>qgg w (bwW w M λb=>L b\/M0 b=none) w'/\Kp' c) (d:=d) hs (λc w' ⟨h1,h2⟩=>⟨hs.ag.df,(hs.backW hM h1 hs.ag).pr,hp c h2⟩) rfl hk rfl hdn ?_
 unfold OpW
 rw[qdJ args hcal hargs hf hbody hname]
 refine(hc w hs.on).mono λe w' ⟨h1,h2⟩=>?_
 rcases h2 with⟨v,he,hK⟩|⟨ch,he,hK⟩
 ·subst he
  intro a' hA
  exact h a' w' _ v (hM.grow hs h1) hK (hs.backW hM h1 hA)
 ·subst he
  exact⟨h1,hK⟩
theorem qcQ {Q:Exit->Act->World->Prop} {d f:Nat} {ty:TypeId} {c:Call} {pos:String} {af:Array Edge} {fn:Func} {K:Value->Mem->Prop} {Kp':List PanicEntry->Prop} {first caps:Array Value} (args:List Value) (hs:Sx n E (bwW E M0 L) M w a env bs rs) (hM:WX M M0 E)
  (hk:qcf env ⟨some d,.call c,ty,pos,af,none⟩=true) (hcal:∃x,c.callee= .value x/\evT env x= .func (.func f) first caps) (hargs:first.toList++c.args.toList.map (evT env)++caps.toList=args) (hf:P.funcs[f]?=some fn) (hbody:fn.body.isNone=false) (hname:(fn.name== "runtime.NumGoroutine")=false) (hdn:d<n)
  (hc:qal P f args.toArray M (λb=>L b\/M0 b=none) K Kp') (hp:∀c,Kp' c->Kp c)
  (h:∀a' w' M' v,WX M' M0 E->K v M'->Sx n E (bwW E M0 L) M' w' a' ((d,v)::env) bs rs->wpList P ops Q rest a' w') (hQ:∀c a' w',ZP E M0 L Kp c a' w'->Q (.panic c) a' w':=by exact λ_ _ _ h=>h):wpList P ops Q (⟨some d,.call c,ty,pos,af,none⟩::rest) a w:=by
 refine qfy (Z:=λc w'=>qgg w (bwW w M λb=>L b\/M0 b=none) w'/\Kp' c) (d:=d) hs (λc w' ⟨h1,h2⟩=>hQ _ _ _ ⟨hs.ag.df,(hs.backW hM h1 hs.ag).pr,hp c h2⟩) rfl hk rfl hdn ?_
 unfold OpW
 rw[qdJ args hcal hargs hf hbody hname]
 refine(hc w hs.on).mono λe w' ⟨h1,h2⟩=>?_
 rcases h2 with⟨v,he,hK⟩|⟨ch,he,hK⟩
 ·subst he
  intro a' hA
  exact h a' w' _ v (hM.grow hs h1) hK (hs.backW hM h1 hA)
 ·subst he
  exact⟨h1,hK⟩
theorem qch {Q:Exit->Act->World->Prop} {d:Nat} {ty:TypeId} {c:Call} {pos:String} {af:Array Edge} {K:Value->Mem->Prop} {Kp':List PanicEntry->Prop} {fv:Value} (args:List Value) (hs:Sx n E (bwW E M0 L) M w a env bs rs) (hM:WX M M0 E)
  (hk:qcf env ⟨some d,.call c,ty,pos,af,none⟩=true) (hcal:∃x,c.callee= .value x/\evT env x=fv) (hargs:c.args.toList.map (evT env)=args) (hdn:d<n)
  (hc:qdi P fv args M (λb=>L b\/M0 b=none) K Kp') (hp:∀c,Kp' c->Kp c)
  (h:∀a' w' M' v,WX M' M0 E->K v M'->Sx n E (bwW E M0 L) M' w' a' ((d,v)::env) bs rs->wpList P ops Q rest a' w') (hQ:∀c a' w',ZP E M0 L Kp c a' w'->Q (.panic c) a' w':=by exact λ_ _ _ h=>h):wpList P ops Q (⟨some d,.call c,ty,pos,af,none⟩::rest) a w:=by
 obtain⟨f,fn,first,caps,rfl,hf,hbody,hname,hc⟩:=hc
 exact qcQ _ hs hM hk hcal (by rw[hargs]) hf hbody hname hdn hc hp h hQ
theorem qix {x:Operand} {ty:TypeId} {pos:String} {af:Array Edge} {t:TypeId} {u:Value} (hs:Sx n E (bwW E M0 L) M w a env bs rs) (hkx:known env x=true) (hx:evT env x= .iface t u) (h:Kp [{v:=.iface t u,recovered:=false}]):
  wpList P ops (QQ N X R (ZP E M0 L Kp)) (⟨none,.panic x,ty,pos,af,none⟩::rest) a w:=by
 refine qmX (Z:=λc w'=>w'=w/\Kp c) hs (λc w' ⟨h1,h2⟩=>⟨hs.ag.df,by rw[h1];exact hs.pr,h2⟩) rfl (by simp[qcf,qbo,Op.operands,hkx]) rfl ?_
 unfold OpW
 simp[execOp,hx,Instr.panic,Result.andThen,h]
end
end Go.Gx
namespace Go.Gx
open Go.RowKit
def ResW (M:Mem) (L:Nat->Prop) (K:Value->Mem->Prop) (w:World):Ending->World->Prop:=λe w'=>∃v,e= .returned v/\qgg w (bwW w M L) w'/\K v (qdo M w w')
abbrev qud (P:Program) (fn:Func) (M:Mem) (L:Nat->Prop) (K:Value->Mem->Prop) (w:World) (a':Act) (w':World):Prop:=Leaves P fn a'.tmps (ResW M L K w) a'.defers .returning w'
abbrev qs9 (P:Program) (fn:Func) (M:Mem) (L:Nat->Prop) (K:Value->Mem->Prop) (w:World) (c:List PanicEntry) (a':Act) (w':World):Prop:=Leaves P fn a'.tmps (ResW M L K w) a'.defers (.panicking c) w'
theorem qrZ {P:Program} {f:FuncId} {fn:Func} {c:Code} {l:List Value} {M:Mem} {L:Nat->Prop} {K:Value->Mem->Prop}
  (hf:P.funcs[f]?=some fn) (hb:fn.body=some c) (n:Nat) (hn:fn.ntmps=n) (hl:l.length<=n)
  (h:∀w a,@Sx dfs0 n w (bwW w M L) M w a (qhj l 0) [] []->Wp P c (qud P fn M L K w) [] (qud P fn M L K w) (qs9 P fn M L K w) a w):
  qaw P f l.toArray M L K:=by
 intro w hw
 refine calls_of_wp_defers hf hb ?_
 refine Code.wp_mono (λe a' w' q=>?_) (h w _ ⟨⟨rfl,?_,λx v hx=>?_⟩,hw,qgg.refl _ _,(λx hx=>by cases hx),(λr hr=>by cases hr),⟨List.nodup_nil,(λx hx=>by cases hx),List.Pairwise.nil⟩⟩)
 ·cases e with
  |normal=>exact q
  |ret=>exact q
  |panic ch=>exact q
  |_=>exact q.elim
 ·simp[hn];omega
 ·obtain⟨_,h2⟩:=qfM l 0 x v hx
  simp only[Nat.sub_zero]at h2
  have hx':x<l.length:=by
   rcases Nat.lt_or_ge x l.length with h'|h'
   ·exact h'
   ·rw[List.getElem?_eq_none h']at h2;cases h2
  simp only[Array.getD_eq_getD_getElem?]
  rw[Array.getElem?_append_left (by simpa using hx')]
  simp[h2]
def qrL (d:Nat):ResultVar->Bool
 | .tmp t=>t != d
 | .cell c _=>c != d
theorem qml {fn:Func} {tmps:Array Value} {d:Nat} {v:Value} (h:fn.results.toList.all (qrL d)=true):results fn (tmps.setIfInBounds d v)=results fn tmps:=by
 have hg:∀c,(c != d)=true->(tmps.setIfInBounds d v).getD c undef=tmps.getD c undef:=λc hc=>by
  have hne:d≠c:=λe=>by subst e;simp at hc
  simp only[Array.getD_eq_getD_getElem?,Array.getElem?_setIfInBounds_ne hne]
 unfold results
 rw[Array.mapM_eq_mapM_toList,Array.mapM_eq_mapM_toList]
 congr 2
 generalize fn.results.toList=l at h
 induction l with
 |nil=>rfl
 |cons r l ih=>
  simp only[List.all_cons,Bool.and_eq_true]at h
  rw[List.mapM_cons,List.mapM_cons,ih h.2]
  congr 1
  cases r with
  |tmp t=>simp only[hg t h.1]
  |cell c t=>simp only[hg c h.1]
theorem qfN {P:Program} {fn:Func} {t t':Array Value} {R:Ending->World->Prop} (h:results fn t=results fn t'):∀(ds:List Deferred) (u:FrameMode) (w:World),Leaves P fn t R ds u w->Leaves P fn t' R ds u w
 |[],.returning,w,q=>by obtain⟨v,h1,h2⟩:=q;exact⟨v,by rw[<-h];exact h1,h2⟩
 |[],.panicking _,_,q=>q
 |[],.run,_,q=>q.elim
 |_::ds,_,_,q=>by
  obtain⟨h1,fv,cap,f,args,h2,h3,h4⟩:=q
  refine⟨h1,fv,cap,f,args,h2,h3,h4.mono λe u' w' q=>?_⟩
  cases e with
  |returned v=>exact qfN h ds _ _ q
  |panicked ch=>exact qfN h ds _ _ q
  |outgrown=>exact q
theorem QZ.ez {P:Program} {fn:Func} {M:Mem} {L:Nat->Prop} {K:Value->Mem->Prop} {E:World} {N:Act->World->Prop} {X:List (Nat×(Act->World->Prop))} {R:Act->World->Prop} {d:Nat} (h:fn.results.toList.all (qrL d)=true):QZ (QQ N X R (qs9 P fn M L K E)) d:=
 λ_ _ _ _ q=>qfN (qml h) _ _ _ q
theorem qeO {P:Program} {g:FuncId} {fn:Func} {caps:Array Value} {w:World} (hf:P.funcs[g]?=some fn) (hbody:fn.body.isNone=false) (hname:(fn.name== "runtime.NumGoroutine")=false):(invoke (.fn (.func g) caps) #[]).run P w= .ok (.enter g caps) w:=by
 have hname':¬fn.name= "runtime.NumGoroutine":=beq_eq_false_iff_ne.1 hname
 have hbody':¬fn.body=none:=by intro e;rw[e]at hbody;cases hbody
 simp[invoke,callFunc,hf,hbody',hname']
section
variable {P:Program} {ops:Array Oper} {Q:Exit->Act->World->Prop} {n:Nat} {E:World} {bw:List Nat} {M:Mem} {w:World} {a:Act} {env:Env} {bs:List Bx} {rs:List Rw} {rest:List Oper}
theorem qkV {c:Call} {ty:TypeId} {pos:String} {af:Array Edge} {f:Fn} {caps:Array Value} (hs:Sx n E bw M w a env bs rs) (hk:qcf env ⟨none,.defer c,ty,pos,af,none⟩=true) (hcal:∃x,c.callee= .value x/\evT env x= .func f #[] caps) (hargs:c.args= #[])
  (h:∀(I:Dfs),I.D=[⟨.fn f caps,#[]⟩]->∀a',@Sx I n E bw M w a' env bs rs->wpList P ops Q rest a' w):wpList P ops Q (⟨none,.defer c,ty,pos,af,none⟩::rest) a w:=by
 refine wpList_plain rfl λK hK=>?_
 obtain⟨x,hcx,hx⟩:=hcal
 unfold Oper.wp
 rw[hs.ag.exec hk]
 have hr:(execOp (evT env) ⟨none,.defer c,ty,pos,af,none⟩).run P w= .ok (.defer ⟨.fn f caps,#[]⟩) w:=by
  simp[execOp,resolve,hcx,hx,Deferred.ofValue,hargs]
 rw[hr]
 obtain⟨⟨h1,h2,h3⟩,h4,h5,h6,h7,h8⟩:=hs
 refine hK _ _ (h ⟨[⟨.fn f caps,#[]⟩]⟩ rfl _ (@Sx.mk ⟨[⟨.fn f caps,#[]⟩]⟩ _ _ _ _ _ _ _ _ _ (@Ag.mk ⟨[⟨.fn f caps,#[]⟩]⟩ _ _ _ ?_ h2 h3) h4 h5 h6 h7 h8))
 show _::a.defers=_
 rw[h1];rfl
end
section
variable [Dfs]
set_option linter.unusedSectionVars false
variable {P:Program} {ops:Array Oper} {N:Act->World->Prop} {X:List (Nat×(Act->World->Prop))} {R:Act->World->Prop} {Z:List PanicEntry->Act->World->Prop} {n:Nat} {E:World} {M M0:Mem} {L:Nat->Prop} {w:World} {a:Act} {env:Env} {bs:List Bx} {rs:List Rw} {rest:List Oper}
theorem qci {Q:Exit->Act->World->Prop} {d f:Nat} {ty:TypeId} {c:Call} {pos:String} {af:Array Edge} {fn:Func} {K:Value->Mem->Prop} {Kp':List PanicEntry->Prop} {first caps:Array Value} (args:List Value) (hs:Sx n E (bwW E M0 L) M w a env bs rs) (hM:WX M M0 E)
  (hk:qcf env ⟨some d,.call c,ty,pos,af,none⟩=true) (hcal:∃x,c.callee= .value x/\evT env x= .func (.func f) first caps) (hargs:first.toList++c.args.toList.map (evT env)++caps.toList=args) (hf:P.funcs[f]?=some fn) (hbody:fn.body.isNone=false) (hname:(fn.name== "runtime.NumGoroutine")=false) (hdn:d<n)
  (hc:qal P f args.toArray M (λb=>L b\/M0 b=none) K Kp') (hp:∀c a' w' M',Kp' c->WX M' M0 E->Sx n E (bwW E M0 L) M' w' a' env bs rs->Q (.panic c) a' w')
  (h:∀a' w' M' v,WX M' M0 E->K v M'->Sx n E (bwW E M0 L) M' w' a' ((d,v)::env) bs rs->wpList P ops Q rest a' w'):wpList P ops Q (⟨some d,.call c,ty,pos,af,none⟩::rest) a w:=by
 refine qfy (Z:=λc w'=>qgg w (bwW w M λb=>L b\/M0 b=none) w'/\Kp' c) (d:=d) hs (λc w' ⟨h1,h2⟩=>hp c a w' _ h2 (hM.grow hs h1) (hs.backW hM h1 hs.ag)) rfl hk rfl hdn ?_
 unfold OpW
 rw[qdJ args hcal hargs hf hbody hname]
 refine(hc w hs.on).mono λe w' ⟨h1,h2⟩=>?_
 rcases h2 with⟨v,he,hK⟩|⟨ch,he,hK⟩
 ·subst he
  intro a' hA
  exact h a' w' _ v (hM.grow hs h1) hK (hs.backW hM h1 hA)
 ·subst he
  exact⟨h1,hK⟩
theorem qod {Q:Exit->Act->World->Prop} {d:Nat} {ty:TypeId} {c:Call} {pos:String} {af:Array Edge} {K:Value->Mem->Prop} {Kp':List PanicEntry->Prop} {fv:Value} (args:List Value) (hs:Sx n E (bwW E M0 L) M w a env bs rs) (hM:WX M M0 E)
  (hk:qcf env ⟨some d,.call c,ty,pos,af,none⟩=true) (hcal:∃x,c.callee= .value x/\evT env x=fv) (hargs:c.args.toList.map (evT env)=args) (hdn:d<n)
  (hc:qdi P fv args M (λb=>L b\/M0 b=none) K Kp') (hp:∀c a' w' M',Kp' c->WX M' M0 E->Sx n E (bwW E M0 L) M' w' a' env bs rs->Q (.panic c) a' w')
  (h:∀a' w' M' v,WX M' M0 E->K v M'->Sx n E (bwW E M0 L) M' w' a' ((d,v)::env) bs rs->wpList P ops Q rest a' w'):wpList P ops Q (⟨some d,.call c,ty,pos,af,none⟩::rest) a w:=by
 obtain⟨f,fn,first,caps,rfl,hf,hbody,hname,hc⟩:=hc
 exact qci _ hs hM hk hcal (by rw[hargs]) hf hbody hname hdn hc hp h
theorem qnm {fn:Func} {K:Value->Mem->Prop} {g:FuncId} {caps:Array Value} {v:Value} (hs:Sx n E (bwW E M0 L) M w a env bs rs) (hI:Dfs.D=[⟨.fn (.func g) caps,#[]⟩]) (hM:WX M M0 E) (hr:(results fn a.tmps).run P w= .ok v w)
  (hi:(invoke (.fn (.func g) caps) #[]).run P w= .ok (.enter g caps) w) (hC:CallsD P g caps .returning w λe u' w'=>e= .returned (.tuple #[])/\u'= .returning/\w'=w) (hK:∀M',M.le M'->K v M'):qud P fn M0 L K E a w:=by
 unfold qud
 rw[hs.ag.df,hI]
 refine leaves_cons (by simp) hi (hC.mono ?_)
 rintro e u' w' ⟨rfl,rfl,rfl⟩
 refine⟨v,hr,v,rfl,hs.pr,hK _ λb o hb=>?_⟩
 unfold qdo
 rw[if_pos ((hM.old b o hb).symm)]
 exact hs.on b o hb
theorem qr5 {fn:Func} {K:Value->Mem->Prop} {g:FuncId} {caps:Array Value} {ch:List PanicEntry} {t:TypeId} {u:Value} (hs:Sx n E (bwW E M0 L) M w a env bs rs) (hI:Dfs.D=[⟨.fn (.func g) caps,#[]⟩])
  (hi:(invoke (.fn (.func g) caps) #[]).run P w= .ok (.enter g caps) w)
  (hC:CallsD P g caps (.panicking ch) w λe u' w'=>e= .returned (.tuple #[])/\u'= .panicking [{v:=.iface t u,recovered:=true}]/\∃M' bs' rs' v,WX M' M0 E/\Sx n E (bwW E M0 L) M' w' a env bs' rs'/\(results fn a.tmps).run P w'= .ok v w'/\∀M'',M'.le M''->K v M''):qs9 P fn M0 L K E ch a w:=by
 unfold qs9
 rw[hs.ag.df,hI]
 refine leaves_cons (by simp) hi (hC.mono ?_)
 rintro e u' w' ⟨rfl,rfl,M',bs',rs',v,hM',hs',hr,hK⟩
 refine⟨v,hr,v,rfl,hs'.pr,hK _ λb o hb=>?_⟩
 unfold qdo
 rw[if_pos ((hM'.old b o hb).symm)]
 exact hs'.on b o hb
theorem qrP {fn:Func} {t0 t1 t2:TypeId} {c0 c1 c2 b0 b1 b2:Nat} {cs0:List Value} {x1 x2:Value} {bw:List Nat} (g:Bool) (hs:Sx n E bw M w a env [⟨b2,t2,[x2]⟩,⟨b1,t1,[x1]⟩,⟨b0,t0,cs0⟩] rs) (hr:fn.results= #[.cell c0 t0,.cell c1 t1,.cell c2 t2])
  (h0:lk env c0=some (.pointer (some ⟨b0,0,none⟩))) (h1:lk env c1=some (.pointer (some ⟨b1,0,none⟩))) (h2:lk env c2=some (.pointer (some ⟨b2,0,none⟩))) (ht0:qjw P t0 g cs0.length=true) (ht1:qjw P t1 false 1=true) (ht2:qjw P t2 false 1=true):(results fn a.tmps).run P w= .ok (.tuple #[qbA g cs0,x1,x2]) w:=by
 have r0:=qf1 (P:=P) (vs:=cs0) (k:=0) (g:=g) hs (i:=2) rfl ht0 (by simp)
 have r1:=qf1 (P:=P) (vs:=[x1]) (k:=0) (g:=false) hs (i:=1) rfl ht1 rfl
 have r2:=qf1 (P:=P) (vs:=[x2]) (k:=0) (g:=false) hs (i:=0) rfl ht2 rfl
 have e0:=hs.ag.at_ c0 _ h0
 have e1:=hs.ag.at_ c1 _ h1
 have e2:=hs.ag.at_ c2 _ h2
 simp only[results,hr]
 simp[-Array.getD_eq_getD_getElem?,e0,e1,e2,asAddr,r0,r1,r2]
 exact⟨rfl,rfl⟩
theorem qqZ {fn:Func} {t0:TypeId} {c0 b0:Nat} {cs0:List Value} {bw:List Nat} (g:Bool) (hs:Sx n E bw M w a env [⟨b0,t0,cs0⟩] rs) (hr:fn.results= #[.cell c0 t0])
  (h0:lk env c0=some (.pointer (some ⟨b0,0,none⟩))) (ht0:qjw P t0 g cs0.length=true):(results fn a.tmps).run P w= .ok (qbA g cs0) w:=by
 have r0:=qf1 (P:=P) (vs:=cs0) (k:=0) (g:=g) hs (i:=0) rfl ht0 (by simp)
 have e0:=hs.ag.at_ c0 _ h0
 simp only[results,hr]
 simp[-Array.getD_eq_getD_getElem?,e0,asAddr,r0]
 try exact⟨rfl,rfl⟩
theorem Sx.cell1 {v x:Value} {b:Nat} {t:TypeId} {bw:List Nat} (hs:Sx n E bw M w a env bs rs) (i:Nat) (hi:bs[i]?=some ⟨b,t,[x]⟩):Sx n E bw M (w.setCell ⟨b,0,none⟩ v) a env (bs.set i ⟨b,t,[v]⟩) rs:=by
 have hb:=(hs.bx _ (List.mem_of_getElem? hi)).1
 have he:w.setCell ⟨b,0,none⟩ v=w.setRow b #[v]:=by
  unfold World.setCell World.setRow
  congr 1
  apply Array.ext_getElem?
  intro j
  rw[Array.getElem?_modify,Array.getElem?_modify]
  by_cases e:b=j
  ·subst e
   unfold qnV at hb
   rw[if_pos rfl,if_pos rfl,hb]
   simp
  ·rw[if_neg e,if_neg e]
 rw[he]
 exact hs.set i hi [v] hs.ag
end
end Go.Gx
namespace Go.Proofs.YtleaplmdgckmkaaGreatDoor.core
open Go.Gx Go.RowKit Go.ChangeShapes Go.WideShapes Go.ChangeAt
set_option linter.unusedVariables false
def qa6 (s1:List UInt8) (c2:Int) (M:Mem) (K:Value->Prop):Prop:=
 K (Value.int .i64 (ql3 s1 c2))
set_option maxRecDepth 100000 in
theorem qbN (s1:List UInt8) (c2:Int) (M:Mem) (K:Value->Prop) (hS:qa6 s1 c2 M K):qaf Tryz.prog 78 #[(Value.string (mkS s1)),(Value.int .u8 c2)] M (λv _=>K v):=by
 refine eE2 Tryz.func78 8 λE a hMM hs=>?_;unfold qa6 at hS;refine qr (sP (iv 0) hs λ_ hs=>?_);refine wn (qr (sP2 (.string (mkS s1)) (.int .u8 c2) hs λ_ hs=>?_));refine sY (iv (ql3 s1 c2)) hs (Yl.idxByte rfl ⟨_,rfl,rfl⟩ rfl Tryz.func115 rfl (by kernel_rfl) (by kernel_rfl) (by kernel_rfl)) λ_ hs=>?_;refine sP (iv (ql3 s1 c2)) hs λ_ hs=>?_;exact wn (qt (rT hs hMM hS))
def qcM (s1:List UInt8) (c2:Int) (M:Mem) (K:Value->Prop):Prop:=
 (qaf Tryz.prog 78 #[(.string (mkS s1)),(.int .u8 c2)] M (λv _=>∃(x3:Int),v=(Value.int .i64 x3)/\K (Value.int .i64 x3)))
set_option maxRecDepth 100000 in
theorem qbu (s1:List UInt8) (c2:Int) (M:Mem) (K:Value->Prop) (hS:qcM s1 c2 M K):qaf Tryz.prog 50 #[(Value.string (mkS s1)),(Value.int .u8 c2)] M (λv _=>K v):=by
 refine eE2 Tryz.func50 8 λE a hMM hs=>?_;unfold qcM at hS;refine qr (sP (iv 0) hs λ_ hs=>?_);refine wn (qr (sP2 (.string (mkS s1)) (.int .u8 c2) hs λ_ hs=>?_));refine cP [(.string (mkS s1)),(.int .u8 c2)] hs Tryz.func78 hS λ_ _ v hS hs=>?_;obtain⟨x3,rfl,hS⟩:=hS;refine sP (iv x3) hs λ_ hs=>?_;exact wn (qt (rT hs hMM hS))
def qas (s1:List UInt8) (substr2:List UInt8) (M:Mem) (i25:Int) (fails26:Int) (I27:Int->Int->Prop) (mu28:Int->Int->Nat) (i31:Int) (x39:Bool) (K:Value->Prop):Prop:=
 ((x39=true->((0:Int)<=i31+1/\(i31+1:Int)<=((s1.length:Nat):Int)/\((s1.length:Nat):Int)<=((s1.length:Nat):Int)/\(qaf Tryz.prog 81 #[(.string (mkS ((s1.take ((s1.length:Nat):Int).toNat).drop (i31+1).toNat))),(.string (mkS substr2))] M (λv _=>∃(x40:Int),v=(Value.int .i64 x40)/\((x40<0->K (Value.int .i64 (-1)))/\(¬(x40<0)->(InI ((i31+1)+x40)/\K (Value.int .i64 ((i31+1)+x40)))))))))/\(¬(x39=true)->I27 (i31+1) (fails26+1)/\mu28 (i31+1) (fails26+1)<mu28 i25 fails26))
def qaI (s1:List UInt8) (substr2:List UInt8) (M:Mem) (i25:Int) (fails26:Int) (I27:Int->Int->Prop) (mu28:Int->Int->Nat) (i31:Int) (x36:Bool) (K:Value->Prop):Prop:=
 ((x36=true->((0:Int)<=i31+1/\(i31+1:Int)<=((s1.length:Nat):Int)/\((s1.length:Nat):Int)<=((s1.length:Nat):Int)/\False))/\(¬(x36=true)->(∃(x38:Int),At M 0 0 [(.int .i64 x38)]/\((((substr2.length:Nat):Int)>x38->(InI (4+(qbV .i64 (i31+1) 4))/\((fails26+1>=4+(qbV .i64 (i31+1) 4)->(qas s1 substr2 M i25 fails26 I27 mu28 i31 (decide (i31+1<(((s1.length:Nat):Int)-((substr2.length:Nat):Int))+1)) K))/\(¬(fails26+1>=4+(qbV .i64 (i31+1) 4))->(qas s1 substr2 M i25 fails26 I27 mu28 i31 false K)))))/\(¬(((substr2.length:Nat):Int)>x38)->(qas s1 substr2 M i25 fails26 I27 mu28 i31 false K))))))
def qaJ (s1:List UInt8) (substr2:List UInt8) (M:Mem) (i25:Int) (fails26:Int) (I27:Int->Int->Prop) (mu28:Int->Int->Nat) (i31:Int) (x33:Bool) (K:Value->Prop):Prop:=
 ((x33=true->K (Value.int .i64 i31))/\(¬(x33=true)->(InI (i31+1)/\(InI (fails26+1)/\(∃(x34:Int),At M 0 0 [(.int .i64 x34)]/\((((substr2.length:Nat):Int)<=x34->(qaf Tryz.prog 80 #[(.int .i64 (i31+1))] M (λv _=>∃(x35:Int),v=(Value.int .i64 x35)/\(qaI s1 substr2 M i25 fails26 I27 mu28 i31 (decide (fails26+1>x35)) K))))/\(¬(((substr2.length:Nat):Int)<=x34)->(qaI s1 substr2 M i25 fails26 I27 mu28 i31 false K))))))))
def qaK (s1:List UInt8) (substr2:List UInt8) (M:Mem) (c10:UInt8) (i25:Int) (fails26:Int) (I27:Int->Int->Prop) (mu28:Int->Int->Nat) (i31:Int) (K:Value->Prop):Prop:=
 (InI (i31+1)/\(∃c32:UInt8,(0:Int)<=i31+1/\s1[(i31+1).toNat]?=some c32/\(((c32.toNat:Int)=(c10.toNat:Int)->(InI (i31+((substr2.length:Nat):Int))/\((0:Int)<=i31/\(i31:Int)<=i31+((substr2.length:Nat):Int)/\(i31+((substr2.length:Nat):Int):Int)<=((s1.length:Nat):Int)/\(qaJ s1 substr2 M i25 fails26 I27 mu28 i31 ((mkS ((s1.take (i31+((substr2.length:Nat):Int)).toNat).drop i31.toNat)).toList==(mkS substr2).toList) K))))/\(¬((c32.toNat:Int)=(c10.toNat:Int))->(qaJ s1 substr2 M i25 fails26 I27 mu28 i31 false K)))))
def qaL (s1:List UInt8) (substr2:List UInt8) (M:Mem) (x7:Bool) (K:Value->Prop):Prop:=
 ((x7=true->False)/\(¬(x7=true)->(∃c9:UInt8,(0:Int)<=0/\substr2[(0:Int).toNat]?=some c9/\(∃c10:UInt8,(0:Int)<=1/\substr2[(1:Int).toNat]?=some c10/\(InI (((s1.length:Nat):Int)-((substr2.length:Nat):Int))/\(InI ((((s1.length:Nat):Int)-((substr2.length:Nat):Int))+1)/\(∃(I27:Int->Int->Prop) (mu28:Int->Int->Nat),I27 0 0/\∀(i25:Int) (fails26:Int),(I27 i25 fails26->((i25<(((s1.length:Nat):Int)-((substr2.length:Nat):Int))+1->(∃c29:UInt8,(0:Int)<=i25/\s1[i25.toNat]?=some c29/\(((c29.toNat:Int)≠(c9.toNat:Int)->(InI (i25+1)/\((0:Int)<=i25+1/\(i25+1:Int)<=(((s1.length:Nat):Int)-((substr2.length:Nat):Int))+1/\((((s1.length:Nat):Int)-((substr2.length:Nat):Int))+1:Int)<=((s1.length:Nat):Int)/\(qaf Tryz.prog 78 #[(.string (mkS ((s1.take ((((s1.length:Nat):Int)-((substr2.length:Nat):Int))+1).toNat).drop (i25+1).toNat))),(.int .u8 (c9.toNat:Int))] M (λv _=>∃(x30:Int),v=(Value.int .i64 x30)/\((x30<0->K (Value.int .i64 (-1)))/\(¬(x30<0)->(InI (x30+1)/\(InI (i25+(x30+1))/\(qaK s1 substr2 M c10 i25 fails26 I27 mu28 (i25+(x30+1)) K))))))))))/\(¬((c29.toNat:Int)≠(c9.toNat:Int))->(qaK s1 substr2 M c10 i25 fails26 I27 mu28 i25 K)))))/\(¬(i25<(((s1.length:Nat):Int)-((substr2.length:Nat):Int))+1)->K (Value.int .i64 (-1))))))))))))
def qat (s1:List UInt8) (substr2:List UInt8) (M:Mem) (x3:Bool) (K:Value->Prop):Prop:=
 ((x3=true->K (Value.int .i64 0))/\(¬(x3=true)->((((substr2.length:Nat):Int)=1->(∃c4:UInt8,(0:Int)<=0/\substr2[(0:Int).toNat]?=some c4/\(qaf Tryz.prog 78 #[(.string (mkS s1)),(.int .u8 (c4.toNat:Int))] M (λv _=>∃(x5:Int),v=(Value.int .i64 x5)/\K (Value.int .i64 x5)))))/\(¬(((substr2.length:Nat):Int)=1)->((((substr2.length:Nat):Int)>=((s1.length:Nat):Int)->K (Value.int .i64 (-1)))/\(¬(((substr2.length:Nat):Int)>=((s1.length:Nat):Int))->(∃(x6:Int),At M 0 0 [(.int .i64 x6)]/\((((substr2.length:Nat):Int)<=x6->(qaL s1 substr2 M (decide (((s1.length:Nat):Int)<=64)) K))/\(¬(((substr2.length:Nat):Int)<=x6)->(qaL s1 substr2 M false K))))))))))
def qbq (s1:List UInt8) (substr2:List UInt8) (M:Mem) (K:Value->Prop):Prop:=
 ((((substr2.length:Nat):Int)=0->(qat s1 substr2 M true K))/\(¬(((substr2.length:Nat):Int)=0)->(qat s1 substr2 M ((mkS substr2).toList==(mkS s1).toList) K)))
set_option maxRecDepth 100000 in
theorem qdI (s1:List UInt8) (substr2:List UInt8) (M:Mem) (K:Value->Prop) (hS:qbq s1 substr2 M K):qaf Tryz.prog 51 #[(Value.string (mkS s1)),(Value.string (mkS substr2))] M (λv _=>K v):=by
 refine eE2 Tryz.func51 143 λE a hMM hs=>?_;unfold qbq at hS;refine qr (sP (iv 0) hs λ_ hs=>?_);refine wn (qr (sP3 (.string (mkS substr2)) (iv (substr2.length:Int)) (iv (substr2.length:Int)) hs λ_ hs=>?_));refine wn (qs (qb (Wp.join (λa w=>∃(x3:Bool),Sx 143 E [] M w a [(0,(.string (mkS s1))),(1,(.string (mkS substr2))),(5,(iv (substr2.length:Int))),(16,(.bool x3))] [] []/\(qat s1 substr2 M x3 K)) ?_ ?_)))
 ·refine qg (sP3 (iv (substr2.length:Int)) (.bool ((substr2.length:Int)==(0:Int))) (.bool ((substr2.length:Int)==(0:Int))) hs λ_ hs=>?_);refine bsS beq_iff_eq hs hS (λhs hS=>?_) (λhs hS=>?_)
  ·repeat (first|refine sNo hs λ_ hs=>?_|refine sNu hs λ_ hs=>?_)
   refine sP2 (.bool true) (.bool true) hs λ_ hs=>?_;exact wn (⟨true,hs.q,hS⟩)
  ·refine ye (.string (mkS substr2)) hs λ_ hs=>?_;refine ye (.string (mkS s1)) hs λ_ hs=>?_;refine ye (.bool ((mkS substr2).toList==(mkS s1).toList)) hs λ_ hs=>?_;refine sP2 (.bool ((mkS substr2).toList==(mkS s1).toList)) (.bool ((mkS substr2).toList==(mkS s1).toList)) hs λ_ hs=>?_;exact wn (⟨((mkS substr2).toList==(mkS s1).toList),hs.q,hS⟩)
 ·intro a w hJ;obtain⟨x3,hs,hS⟩:=hJ;unfold qat at hS;refine Wp.cS hs Iff.rfl hS (λhS=>?_) (λhS=>?_)
  ·refine qr (sP (iv 0) hs λ_ hs=>?_);exact wn (qt (rT hs hMM hS))
  ·refine qr (sP3 (iv (substr2.length:Int)) (.bool ((substr2.length:Int)==(1:Int))) (.bool ((substr2.length:Int)==(1:Int))) hs λ_ hs=>?_);refine wn (Wp.cS hs beq_iff_eq hS (λhS=>?_) (λhS=>?_))
   ·refine qr (sP2 (.string (mkS s1)) (.string (mkS substr2)) hs λ_ hs=>?_);obtain⟨c4,h0,hi,hS⟩:=hS;refine sY (.int .u8 (c4.toNat:Int)) hs (Yl.indexStr rfl rfl rfl rfl (by kernel_rfl) h0 hi) λ_ hs=>?_;refine cP [(.string (mkS s1)),(.int .u8 (c4.toNat:Int))] hs Tryz.func78 hS λ_ _ v hS hs=>?_;obtain⟨x5,rfl,hS⟩:=hS;refine sP (iv x5) hs λ_ hs=>?_;exact wn (qt (rT hs hMM hS))
   ·refine qr (sP4 (iv (substr2.length:Int)) (.string (mkS s1)) (iv (s1.length:Int)) (.bool (decide ((substr2.length:Int)>=(s1.length:Int)))) hs λ_ hs=>?_);refine sP (.bool (decide ((substr2.length:Int)>=(s1.length:Int)))) hs λ_ hs=>?_;refine wn (Wp.cS hs decide_eq_true_iff hS (λhS=>?_) (λhS=>?_))
    ·refine qr (sP (iv (-1)) hs λ_ hs=>?_);exact wn (qt (rT hs hMM hS))
    ·refine Wp.join (λa w=>∃(x7:Bool),Sx 143 E [] M w a [(0,(.string (mkS s1))),(1,(.string (mkS substr2))),(5,(iv (substr2.length:Int))),(36,(.bool x7))] [] []/\(qaL s1 substr2 M x7 K)) ?_ ?_
     ·refine qg (sP (iv (substr2.length:Int)) hs λ_ hs=>?_);obtain⟨x6,hat,hS⟩:=hS;refine sV1 (iv x6) hat hs λ_ hs=>?_;refine sP2 (.bool (decide ((substr2.length:Int)<=x6))) (.bool (decide ((substr2.length:Int)<=x6))) hs λ_ hs=>?_;refine bsS decide_eq_true_iff hs hS (λhs hS=>?_) (λhs hS=>?_)
      ·refine ye (.string (mkS s1)) hs λ_ hs=>?_;refine ye (iv (s1.length:Int)) hs λ_ hs=>?_;refine ye (.bool (decide ((s1.length:Int)<=64))) hs λ_ hs=>?_;refine sP2 (.bool (decide ((s1.length:Int)<=64))) (.bool (decide ((s1.length:Int)<=64))) hs λ_ hs=>?_;exact wn (⟨(decide ((s1.length:Int)<=64)),hs.q,hS⟩)
      ·repeat (first|refine sNo hs λ_ hs=>?_|refine sNu hs λ_ hs=>?_)
       refine sP2 (.bool false) (.bool false) hs λ_ hs=>?_;exact wn (⟨false,hs.q,hS⟩)
     ·intro a w hJ;obtain⟨x7,hs,hS⟩:=hJ;unfold qaL at hS;refine Wp.cS hs Iff.rfl hS (λhS=>?_) (λhS=>?_)
      ·refine qr (sP2 (.string (mkS s1)) (.string (mkS substr2)) hs λ_ hs=>?_);exact hS.elim
      ·refine qk (qr (sP (.string (mkS substr2)) hs λ_ hs=>?_));obtain⟨c9,h0,hi,hS⟩:=hS;refine sY (.int .u8 (c9.toNat:Int)) hs (Yl.indexStr rfl rfl rfl rfl (by kernel_rfl) h0 hi) λ_ hs=>?_;refine sP (.int .u8 (c9.toNat:Int)) hs λ_ hs=>?_;refine wn (qr (sP (.string (mkS substr2)) hs λ_ hs=>?_));obtain⟨c10,h0,hi,hS⟩:=hS;refine sY (.int .u8 (c10.toNat:Int)) hs (Yl.indexStr rfl rfl rfl rfl (by kernel_rfl) h0 hi) λ_ hs=>?_;refine sP (.int .u8 (c10.toNat:Int)) hs λ_ hs=>?_;refine wn (qr (sP (iv 0) hs λ_ hs=>?_));refine wn (qr (sP3 (.string (mkS s1)) (iv (s1.length:Int)) (iv (substr2.length:Int)) hs λ_ hs=>?_));obtain⟨hI,hS⟩:=hS;refine sY (iv ((s1.length:Int)-(substr2.length:Int))) hs (Yl.wr hI) λ_ hs=>?_;obtain⟨hI,hS⟩:=hS;refine sY (iv (((s1.length:Int)-(substr2.length:Int))+1)) hs (Yl.wr hI) λ_ hs=>?_;refine sP (iv (((s1.length:Int)-(substr2.length:Int))+1)) hs λ_ hs=>?_;refine wn (qr (sP (iv 0) hs λ_ hs=>?_));refine wn (qs (qb ?_));obtain⟨I27,mu28,hI0,hst⟩:=hS
       refine Wp.loop (σ:=(Int)×(Int)) (λ(i25,fails26) a w=>Sx 143 E [] M w a [(0,(.string (mkS s1))),(1,(.string (mkS substr2))),(5,(iv (substr2.length:Int))),(6,(.int .u8 (c9.toNat:Int))),(7,(.int .u8 (c10.toNat:Int))),(8,(iv i25)),(9,(iv (((s1.length:Int)-(substr2.length:Int))+1))),(10,(iv fails26))] [] []/\I27 i25 fails26) (λ(i25,fails26)=>mu28 i25 fails26) (0,0) ⟨hs.q,hI0⟩ (λs a w hI=>?_);obtain⟨i25,fails26⟩:=s;obtain⟨hs,hI⟩:=hI;have hS:=hst i25 fails26 hI;clear hst hI0 hI;refine qs (qr (sP3 (iv i25) (iv (((s1.length:Int)-(substr2.length:Int))+1)) (.bool (decide (i25<((s1.length:Int)-(substr2.length:Int))+1))) hs λ_ hs=>?_));refine wn (Wp.cS hs decide_eq_true_iff hS (λhS=>?_) (λhS=>?_))
       ·refine qk (qb (Wp.join (λa w=>∃(i31:Int),Sx 143 E [] M w a [(0,(.string (mkS s1))),(1,(.string (mkS substr2))),(5,(iv (substr2.length:Int))),(6,(.int .u8 (c9.toNat:Int))),(7,(.int .u8 (c10.toNat:Int))),(8,(iv i31)),(9,(iv (((s1.length:Int)-(substr2.length:Int))+1))),(10,(iv fails26))] [] []/\(qaK s1 substr2 M c10 i25 fails26 I27 mu28 i31 K)) ?_ ?_))
        ·refine qr (sP2 (.string (mkS s1)) (iv i25) hs λ_ hs=>?_);obtain⟨c29,h0,hi,hS⟩:=hS;refine sY (.int .u8 (c29.toNat:Int)) hs (Yl.indexStr rfl rfl rfl rfl (by kernel_rfl) h0 hi) λ_ hs=>?_;refine sP2 (.int .u8 (c9.toNat:Int)) (.bool ((c29.toNat:Int) != (c9.toNat:Int))) hs λ_ hs=>?_;refine wn (Wp.cS hs bne_iff_ne hS (λhS=>?_) (λhS=>?_))
         ·refine qr (sP2 (.string (mkS s1)) (iv i25) hs λ_ hs=>?_);obtain⟨hI,hS⟩:=hS;refine sY (iv (i25+1)) hs (Yl.wr hI) λ_ hs=>?_;refine sP (iv (((s1.length:Int)-(substr2.length:Int))+1)) hs λ_ hs=>?_;obtain⟨h0,h1,h2,hS⟩:=hS;refine sY (.string (mkS ((s1.take (((s1.length:Int)-(substr2.length:Int))+1).toNat).drop (i25+1).toNat))) hs (Yl.sliceStrLH rfl rfl rfl rfl rfl rfl (by kernel_rfl) h0 h1 h2) λ_ hs=>?_;refine sP (.int .u8 (c9.toNat:Int)) hs λ_ hs=>?_;refine cP [(.string (mkS ((s1.take (((s1.length:Int)-(substr2.length:Int))+1).toNat).drop (i25+1).toNat))),(.int .u8 (c9.toNat:Int))] hs Tryz.func78 hS λ_ _ v hS hs=>?_;obtain⟨x30,rfl,hS⟩:=hS;refine sP (iv x30) hs λ_ hs=>?_;refine wn (qs (qr (sP2 (iv x30) (.bool (decide (x30<0))) hs λ_ hs=>?_)));refine wn (Wp.cS hs decide_eq_true_iff hS (λhS=>?_) (λhS=>?_))
          ·refine qr (sP (iv (-1)) hs λ_ hs=>?_);exact wn (qt (rT hs hMM hS))
          ·refine qk (qg (sP2 (iv i25) (iv x30) hs λ_ hs=>?_));obtain⟨hI,hS⟩:=hS;refine sY (iv (x30+1)) hs (Yl.wr hI) λ_ hs=>?_;obtain⟨hI,hS⟩:=hS;refine sY (iv (i25+(x30+1))) hs (Yl.wr hI) λ_ hs=>?_;refine sP (iv (i25+(x30+1))) hs λ_ hs=>?_;exact wn (⟨(i25+(x30+1)),hs.q,hS⟩)
         ·exact qk (⟨i25,hs.q,hS⟩)
        ·intro a w hJ;obtain⟨i31,hs,hS⟩:=hJ;unfold qaK at hS;refine qs (Wp.join (λa w=>∃(x33:Bool),Sx 143 E [] M w a [(0,(.string (mkS s1))),(1,(.string (mkS substr2))),(5,(iv (substr2.length:Int))),(6,(.int .u8 (c9.toNat:Int))),(7,(.int .u8 (c10.toNat:Int))),(8,(iv i31)),(9,(iv (((s1.length:Int)-(substr2.length:Int))+1))),(10,(iv fails26)),(93,(.bool x33))] [] []/\(qaJ s1 substr2 M i25 fails26 I27 mu28 i31 x33 K)) ?_ ?_)
         ·refine qg (sP2 (.string (mkS s1)) (iv i31) hs λ_ hs=>?_);obtain⟨hI,hS⟩:=hS;refine sY (iv (i31+1)) hs (Yl.wr hI) λ_ hs=>?_;obtain⟨c32,h0,hi,hS⟩:=hS;refine sY (.int .u8 (c32.toNat:Int)) hs (Yl.indexStr rfl rfl rfl rfl (by kernel_rfl) h0 hi) λ_ hs=>?_;refine sP3 (.int .u8 (c10.toNat:Int)) (.bool ((c32.toNat:Int)==(c10.toNat:Int))) (.bool ((c32.toNat:Int)==(c10.toNat:Int))) hs λ_ hs=>?_;refine bsS beq_iff_eq hs hS (λhs hS=>?_) (λhs hS=>?_)
          ·refine ye (.string (mkS s1)) hs λ_ hs=>?_;refine ye (iv i31) hs λ_ hs=>?_;refine ye (iv i31) hs λ_ hs=>?_;refine ye (iv (substr2.length:Int)) hs λ_ hs=>?_;refine sYe hs ?_;obtain⟨hI,hS⟩:=hS;refine sY (iv (i31+(substr2.length:Int))) hs (Yl.wr hI) λ_ hs=>?_;refine sYe hs ?_;obtain⟨h0,h1,h2,hS⟩:=hS;refine sY (.string (mkS ((s1.take (i31+(substr2.length:Int)).toNat).drop i31.toNat))) hs (Yl.sliceStrLH rfl rfl rfl rfl rfl rfl (by kernel_rfl) h0 h1 h2) λ_ hs=>?_;refine ye (.string (mkS substr2)) hs λ_ hs=>?_;refine ye (.bool ((mkS ((s1.take (i31+(substr2.length:Int)).toNat).drop i31.toNat)).toList==(mkS substr2).toList)) hs λ_ hs=>?_;refine sP (.bool ((mkS ((s1.take (i31+(substr2.length:Int)).toNat).drop i31.toNat)).toList==(mkS substr2).toList)) hs λ_ hs=>?_;exact wn (⟨((mkS ((s1.take (i31+(substr2.length:Int)).toNat).drop i31.toNat)).toList==(mkS substr2).toList),hs.q,hS⟩)
          ·repeat (first|refine sNo hs λ_ hs=>?_|refine sNu hs λ_ hs=>?_)
           refine sP (.bool false) hs λ_ hs=>?_;exact wn (⟨false,hs.q,hS⟩)
         ·intro a w hJ;obtain⟨x33,hs,hS⟩:=hJ;unfold qaJ at hS;refine Wp.cS hs Iff.rfl hS (λhS=>?_) (λhS=>?_)
          ·refine qr (sP2 (iv i31) (iv i31) hs λ_ hs=>?_);exact wn (qt (rT hs hMM hS))
          ·refine qk (qr (sP (iv i31) hs λ_ hs=>?_));obtain⟨hI,hS⟩:=hS;refine sY (iv (i31+1)) hs (Yl.wr hI) λ_ hs=>?_;refine sP (iv (i31+1)) hs λ_ hs=>?_;refine wn (qr (sP (iv fails26) hs λ_ hs=>?_));obtain⟨hI,hS⟩:=hS;refine sY (iv (fails26+1)) hs (Yl.wr hI) λ_ hs=>?_;refine sP (iv (fails26+1)) hs λ_ hs=>?_;refine wn (Wp.join (λa w=>∃(x36:Bool),Sx 143 E [] M w a [(0,(.string (mkS s1))),(1,(.string (mkS substr2))),(5,(iv (substr2.length:Int))),(6,(.int .u8 (c9.toNat:Int))),(7,(.int .u8 (c10.toNat:Int))),(8,(iv (i31+1))),(9,(iv (((s1.length:Int)-(substr2.length:Int))+1))),(10,(iv (fails26+1))),(107,(.bool x36))] [] []/\(qaI s1 substr2 M i25 fails26 I27 mu28 i31 x36 K)) ?_ ?_)
           ·refine qg (sP (iv (substr2.length:Int)) hs λ_ hs=>?_);obtain⟨x34,hat,hS⟩:=hS;refine sV1 (iv x34) hat hs λ_ hs=>?_;refine sP2 (.bool (decide ((substr2.length:Int)<=x34))) (.bool (decide ((substr2.length:Int)<=x34))) hs λ_ hs=>?_;refine bsS decide_eq_true_iff hs hS (λhs hS=>?_) (λhs hS=>?_)
            ·refine ye (iv (fails26+1)) hs λ_ hs=>?_;refine ye (iv (i31+1)) hs λ_ hs=>?_;refine sYe hs (qb2 [(iv (i31+1))] hs rfl ⟨_,rfl,rfl⟩ rfl Tryz.func80 rfl (by kernel_rfl) (by decide) hS (λ_ _ v hS hs=>?_));obtain⟨x35,rfl,hS⟩:=hS;refine ye (.bool (decide (fails26+1>x35))) hs λ_ hs=>?_;refine sP (.bool (decide (fails26+1>x35))) hs λ_ hs=>?_;exact wn (⟨(decide (fails26+1>x35)),hs.q,hS⟩)
            ·repeat (first|refine sNo hs λ_ hs=>?_|refine sNu hs λ_ hs=>?_)
             refine sP (.bool false) hs λ_ hs=>?_;exact wn (⟨false,hs.q,hS⟩)
           ·intro a w hJ;obtain⟨x36,hs,hS⟩:=hJ;unfold qaI at hS;refine Wp.cS hs Iff.rfl hS (λhS=>?_) (λhS=>?_)
            ·refine qr (sP2 (.string (mkS s1)) (iv (i31+1)) hs λ_ hs=>?_);obtain⟨h0,h1,h2,hS⟩:=hS;refine sY (.string (mkS ((s1.take (s1.length:Int).toNat).drop (i31+1).toNat))) hs (Yl.sliceStrL rfl rfl rfl rfl (by kernel_rfl) h0 h1 h2) λ_ hs=>?_;refine sP (.string (mkS substr2)) hs λ_ hs=>?_;exact hS.elim
            ·refine Wp.join (λa w=>∃(x39:Bool),Sx 143 E [] M w a [(0,(.string (mkS s1))),(1,(.string (mkS substr2))),(5,(iv (substr2.length:Int))),(6,(.int .u8 (c9.toNat:Int))),(7,(.int .u8 (c10.toNat:Int))),(8,(iv (i31+1))),(9,(iv (((s1.length:Int)-(substr2.length:Int))+1))),(10,(iv (fails26+1))),(132,(.bool x39))] [] []/\(qas s1 substr2 M i25 fails26 I27 mu28 i31 x39 K)) ?_ ?_
             ·refine qg (sP (iv (substr2.length:Int)) hs λ_ hs=>?_);obtain⟨x38,hat,hS⟩:=hS;refine sV1 (iv x38) hat hs λ_ hs=>?_;refine sP2 (.bool (decide ((substr2.length:Int)>x38))) (.bool (decide ((substr2.length:Int)>x38))) hs λ_ hs=>?_;refine bsS decide_eq_true_iff hs hS (λhs hS=>?_) (λhs hS=>?_)
              ·refine ye (iv (fails26+1)) hs λ_ hs=>?_;refine ye (iv (i31+1)) hs λ_ hs=>?_;refine ye (iv (qbV .i64 (i31+1) 4)) hs λ_ hs=>?_;refine sYe hs ?_;obtain⟨hI,hS⟩:=hS;refine sY (iv (4+(qbV .i64 (i31+1) 4))) hs (Yl.wr hI) λ_ hs=>?_;refine ye (.bool (decide (fails26+1>=4+(qbV .i64 (i31+1) 4)))) hs λ_ hs=>?_;refine sP2 (.bool (decide (fails26+1>=4+(qbV .i64 (i31+1) 4)))) (.bool (decide (fails26+1>=4+(qbV .i64 (i31+1) 4)))) hs λ_ hs=>?_;refine bsS decide_eq_true_iff hs hS (λhs hS=>?_) (λhs hS=>?_)
               ·refine ye (iv (i31+1)) hs λ_ hs=>?_;refine ye (iv (((s1.length:Int)-(substr2.length:Int))+1)) hs λ_ hs=>?_;refine ye (.bool (decide (i31+1<((s1.length:Int)-(substr2.length:Int))+1))) hs λ_ hs=>?_;refine sP (.bool (decide (i31+1<((s1.length:Int)-(substr2.length:Int))+1))) hs λ_ hs=>?_;exact wn (⟨(decide (i31+1<((s1.length:Int)-(substr2.length:Int))+1)),hs.q,hS⟩)
               ·repeat (first|refine sNo hs λ_ hs=>?_|refine sNu hs λ_ hs=>?_)
                refine sP (.bool false) hs λ_ hs=>?_;exact wn (⟨false,hs.q,hS⟩)
              ·repeat (first|refine sNo hs λ_ hs=>?_|refine sNu hs λ_ hs=>?_)
               refine sP2 (.bool false) (.bool false) hs λ_ hs=>?_;repeat (first|refine sNo hs λ_ hs=>?_|refine sNu hs λ_ hs=>?_)
               refine sP (.bool false) hs λ_ hs=>?_;exact wn (⟨false,hs.q,hS⟩)
             ·intro a w hJ;obtain⟨x39,hs,hS⟩:=hJ;unfold qas at hS;refine Wp.cS hs Iff.rfl hS (λhS=>?_) (λhS=>?_)
              ·refine qr (sP2 (.string (mkS s1)) (iv (i31+1)) hs λ_ hs=>?_);obtain⟨h0,h1,h2,hS⟩:=hS;refine sY (.string (mkS ((s1.take (s1.length:Int).toNat).drop (i31+1).toNat))) hs (Yl.sliceStrL rfl rfl rfl rfl (by kernel_rfl) h0 h1 h2) λ_ hs=>?_;refine sP (.string (mkS substr2)) hs λ_ hs=>?_;refine cP [(.string (mkS ((s1.take (s1.length:Int).toNat).drop (i31+1).toNat))),(.string (mkS substr2))] hs Tryz.func81 hS λ_ _ v hS hs=>?_;obtain⟨x40,rfl,hS⟩:=hS;refine sP (iv x40) hs λ_ hs=>?_;refine wn (qs (qr (sP2 (iv x40) (.bool (decide (x40<0))) hs λ_ hs=>?_)));refine wn (Wp.cS hs decide_eq_true_iff hS (λhS=>?_) (λhS=>?_))
               ·refine qr (sP (iv (-1)) hs λ_ hs=>?_);exact wn (qt (rT hs hMM hS))
               ·refine qk (qr (sP2 (iv (i31+1)) (iv x40) hs λ_ hs=>?_));obtain⟨hI,hS⟩:=hS;refine sY (iv ((i31+1)+x40)) hs (Yl.wr hI) λ_ hs=>?_;refine sP (iv ((i31+1)+x40)) hs λ_ hs=>?_;exact wn (qt (rT hs hMM hS))
              ·exact qk (⟨(i31+1,fails26+1),⟨hs.q,hS.1⟩,hS.2⟩)
       ·refine qx rfl (qr (sP (iv (-1)) hs λ_ hs=>?_));exact wn (qt (rT hs hMM hS))
def qeb (s1:List UInt8) (substr2:List UInt8) (M:Mem) (K:Value->Prop):Prop:=
 (qaf Tryz.prog 51 #[(.string (mkS s1)),(.string (mkS substr2))] M (λv _=>∃(x3:Int),v=(Value.int .i64 x3)/\K (Value.int .i64 x3)))
set_option maxRecDepth 100000 in
theorem qiJ (s1:List UInt8) (substr2:List UInt8) (M:Mem) (K:Value->Prop) (hS:qeb s1 substr2 M K):qaf Tryz.prog 26 #[(Value.string (mkS s1)),(Value.string (mkS substr2))] M (λv _=>K v):=by
 refine eE2 Tryz.func26 8 λE a hMM hs=>?_;unfold qeb at hS;refine qr (sP (iv 0) hs λ_ hs=>?_);refine wn (qr (sP2 (.string (mkS s1)) (.string (mkS substr2)) hs λ_ hs=>?_));refine cP [(.string (mkS s1)),(.string (mkS substr2))] hs Tryz.func51 hS λ_ _ v hS hs=>?_;obtain⟨x3,rfl,hS⟩:=hS;refine sP (iv x3) hs λ_ hs=>?_;exact wn (qt (rT hs hMM hS))
def qa7 (s1:List UInt8) (prefix2:List UInt8) (M:Mem) (K:Value->Prop):Prop:=
 ((((s1.length:Nat):Int)>=((prefix2.length:Nat):Int)->((0:Int)<=0/\(0:Int)<=((prefix2.length:Nat):Int)/\((prefix2.length:Nat):Int)<=((s1.length:Nat):Int)/\K (Value.bool ((mkS ((s1.take ((prefix2.length:Nat):Int).toNat).drop (0:Int).toNat)).toList==(mkS prefix2).toList))))/\(¬(((s1.length:Nat):Int)>=((prefix2.length:Nat):Int))->K (Value.bool false)))
set_option maxRecDepth 100000 in
theorem qbO (s1:List UInt8) (prefix2:List UInt8) (M:Mem) (K:Value->Prop) (hS:qa7 s1 prefix2 M K):qaf Tryz.prog 63 #[(Value.string (mkS s1)),(Value.string (mkS prefix2))] M (λv _=>K v):=by
 refine eE2 Tryz.func63 18 λE a hMM hs=>?_;unfold qa7 at hS;refine qr (sP (.bool false) hs λ_ hs=>?_);refine wn (qr (sP4 (.string (mkS s1)) (iv (s1.length:Int)) (.string (mkS prefix2)) (iv (prefix2.length:Int)) hs λ_ hs=>?_));refine sP2 (.bool (decide ((s1.length:Int)>=(prefix2.length:Int)))) (.bool (decide ((s1.length:Int)>=(prefix2.length:Int)))) hs λ_ hs=>?_;refine bsS decide_eq_true_iff hs hS (λhs hS=>?_) (λhs hS=>?_)
 ·refine ye (.string (mkS s1)) hs λ_ hs=>?_;refine ye (.string (mkS prefix2)) hs λ_ hs=>?_;refine ye (iv (prefix2.length:Int)) hs λ_ hs=>?_;refine sYe hs ?_;obtain⟨h0,h1,h2,hS⟩:=hS;refine sY (.string (mkS ((s1.take (prefix2.length:Int).toNat).drop (0:Int).toNat))) hs (Yl.sliceStrH rfl rfl rfl rfl (by kernel_rfl) h0 h1 h2) λ_ hs=>?_;refine ye (.string (mkS prefix2)) hs λ_ hs=>?_;refine ye (.bool ((mkS ((s1.take (prefix2.length:Int).toNat).drop (0:Int).toNat)).toList==(mkS prefix2).toList)) hs λ_ hs=>?_;refine sP2 (.bool ((mkS ((s1.take (prefix2.length:Int).toNat).drop (0:Int).toNat)).toList==(mkS prefix2).toList)) (.bool ((mkS ((s1.take (prefix2.length:Int).toNat).drop (0:Int).toNat)).toList==(mkS prefix2).toList)) hs λ_ hs=>?_;exact wn (qt (rT hs hMM hS))
 ·repeat (first|refine sNo hs λ_ hs=>?_|refine sNu hs λ_ hs=>?_)
  refine sP2 (.bool false) (.bool false) hs λ_ hs=>?_;exact wn (qt (rT hs hMM hS))
def qbw (s1:List UInt8) (prefix2:List UInt8) (M:Mem) (K:Value->Prop):Prop:=
 (qaf Tryz.prog 63 #[(.string (mkS s1)),(.string (mkS prefix2))] M (λv _=>∃(x3:Bool),v=(Value.bool x3)/\K (Value.bool x3)))
set_option maxRecDepth 100000 in
theorem qcK (s1:List UInt8) (prefix2:List UInt8) (M:Mem) (K:Value->Prop) (hS:qbw s1 prefix2 M K):qaf Tryz.prog 34 #[(Value.string (mkS s1)),(Value.string (mkS prefix2))] M (λv _=>K v):=by
 refine eE2 Tryz.func34 8 λE a hMM hs=>?_;unfold qbw at hS;refine qr (sP (.bool false) hs λ_ hs=>?_);refine wn (qr (sP2 (.string (mkS s1)) (.string (mkS prefix2)) hs λ_ hs=>?_));refine cP [(.string (mkS s1)),(.string (mkS prefix2))] hs Tryz.func63 hS λ_ _ v hS hs=>?_;obtain⟨x3,rfl,hS⟩:=hS;refine sP (.bool x3) hs λ_ hs=>?_;exact wn (qt (rT hs hMM hS))
def qc4 (s1:List UInt8) (substr2:List UInt8) (M:Mem) (K:Value->Prop):Prop:=
 (qaf Tryz.prog 26 #[(.string (mkS s1)),(.string (mkS substr2))] M (λv _=>∃(x3:Int),v=(Value.int .i64 x3)/\K (Value.bool (decide (x3>=0)))))
set_option maxRecDepth 100000 in
theorem qgW (s1:List UInt8) (substr2:List UInt8) (M:Mem) (K:Value->Prop) (hS:qc4 s1 substr2 M K):qaf Tryz.prog 8 #[(Value.string (mkS s1)),(Value.string (mkS substr2))] M (λv _=>K v):=by
 refine eE2 Tryz.func8 9 λE a hMM hs=>?_;unfold qc4 at hS;refine qr (sP (.bool false) hs λ_ hs=>?_);refine wn (qr (sP2 (.string (mkS s1)) (.string (mkS substr2)) hs λ_ hs=>?_));refine cP [(.string (mkS s1)),(.string (mkS substr2))] hs Tryz.func26 hS λ_ _ v hS hs=>?_;obtain⟨x3,rfl,hS⟩:=hS;refine sP2 (.bool (decide (x3>=0))) (.bool (decide (x3>=0))) hs λ_ hs=>?_;exact wn (qt (rT hs hMM hS))
end Go.Proofs.YtleaplmdgckmkaaGreatDoor.core
namespace Go.Proofs.YtleaplmdgckmkaaGreatDoor.core
open Go.Gx Go.RowKit Go.ChangeShapes Go.WideShapes Go.ChangeAt
set_option linter.unusedVariables false
def qbs (b1:Int) (signs2:List UInt8) (M:Mem) (x3:Bool) (K:Value->Prop):Prop:=
 ((x3=true->((0:Int)<=qbV .u8 b1 4/\(qbV .u8 b1 4:Int)<=IntKind.wrap .u8 ((qbV .u8 b1 4)+1)/\(IntKind.wrap .u8 ((qbV .u8 b1 4)+1):Int)<=((([48,49,50,51,52,53,54,55,56,57,97,98,99,100,101,102]:List UInt8).length:Nat):Int)/\(([92,120]:List UInt8).length+((([48,49,50,51,52,53,54,55,56,57,97,98,99,100,101,102]:List UInt8).take (IntKind.wrap .u8 ((qbV .u8 b1 4)+1)).toNat).drop (qbV .u8 b1 4).toNat).length<=9223372036854775807/\((0:Int)<=qcw .u8 b1 15/\(qcw .u8 b1 15:Int)<=IntKind.wrap .u8 ((qcw .u8 b1 15)+1)/\(IntKind.wrap .u8 ((qcw .u8 b1 15)+1):Int)<=((([48,49,50,51,52,53,54,55,56,57,97,98,99,100,101,102]:List UInt8).length:Nat):Int)/\((([92,120]:List UInt8)++(([48,49,50,51,52,53,54,55,56,57,97,98,99,100,101,102]:List UInt8).take (IntKind.wrap .u8 ((qbV .u8 b1 4)+1)).toNat).drop (qbV .u8 b1 4).toNat).length+((([48,49,50,51,52,53,54,55,56,57,97,98,99,100,101,102]:List UInt8).take (IntKind.wrap .u8 ((qcw .u8 b1 15)+1)).toNat).drop (qcw .u8 b1 15).toNat).length<=9223372036854775807/\K (Value.string (mkS (([92,120]:List UInt8)++(([48,49,50,51,52,53,54,55,56,57,97,98,99,100,101,102]:List UInt8).take (IntKind.wrap .u8 ((qbV .u8 b1 4)+1)).toNat).drop (qbV .u8 b1 4).toNat++(([48,49,50,51,52,53,54,55,56,57,97,98,99,100,101,102]:List UInt8).take (IntKind.wrap .u8 ((qcw .u8 b1 15)+1)).toNat).drop (qcw .u8 b1 15).toNat))))))))/\(¬(x3=true)->(qaf Tryz.prog 50 #[(.string (mkS signs2)),(.int .u8 b1)] M (λv _=>∃(x4:Int),v=(Value.int .i64 x4)/\((x4>=0->(∃(x6:List UInt8),[(.int .u8 b1)]=bytesV x6/\(([92]:List UInt8).length+x6.length<=9223372036854775807/\K (Value.string (mkS (([92]:List UInt8)++x6))))))/\(¬(x4>=0)->(∃(x8:List UInt8),[(.int .u8 b1)]=bytesV x8/\K (Value.string (mkS x8)))))))))
def qff (b1:Int) (signs2:List UInt8) (M:Mem) (K:Value->Prop):Prop:=
 (((b1:Int)=10->K (Value.string (mkS ([92,110]:List UInt8))))/\(¬((b1:Int)=10)->(((b1:Int)=9->K (Value.string (mkS ([92,116]:List UInt8))))/\(¬((b1:Int)=9)->((b1<=32->(((b1:Int)≠32->(qbs b1 signs2 M true K))/\(¬((b1:Int)≠32)->((signs2≠([39,92]:List UInt8)->(qbs b1 signs2 M true K))/\(¬(signs2≠([39,92]:List UInt8))->(qbs b1 signs2 M (decide (b1>=127)) K))))))/\(¬(b1<=32)->(qbs b1 signs2 M (decide (b1>=127)) K)))))))
set_option maxRecDepth 100000 in
theorem qe1 (b1:Int) (signs2:List UInt8) (M:Mem) (K:Value->Prop) (hS:qff b1 signs2 M K):qaf Tryz.prog 25 #[(Value.int .u8 b1),(Value.string (mkS signs2))] M (λv _=>K v):=by
 refine eE2 Tryz.func25 52 λE a hMM hs=>?_;unfold qff at hS;refine qr (sP (.string (mkS ([]:List UInt8))) hs λ_ hs=>?_);refine wn (qs (qb (qr (sP3 (.int .u8 b1) (.bool ((b1:Int)==(10:Int))) (.bool ((b1:Int)==(10:Int))) hs λ_ hs=>?_))));refine wn (Wp.cS hs beq_iff_eq hS (λhS=>?_) (λhS=>?_))
 ·refine qr (sP (.string (mkS ([92,110]:List UInt8))) hs λ_ hs=>?_);exact wn (qt (rT hs hMM hS))
 ·refine qr (sP3 (.int .u8 b1) (.bool ((b1:Int)==(9:Int))) (.bool ((b1:Int)==(9:Int))) hs λ_ hs=>?_);refine wn (Wp.cS hs beq_iff_eq hS (λhS=>?_) (λhS=>?_))
  ·refine qr (sP (.string (mkS ([92,116]:List UInt8))) hs λ_ hs=>?_);exact wn (qt (rT hs hMM hS))
  ·refine Wp.join (λa w=>∃(x3:Bool),Sx 52 E [] M w a [(0,(.int .u8 b1)),(1,(.string (mkS signs2))),(11,(.bool x3))] [] []/\(qbs b1 signs2 M x3 K)) ?_ ?_
   ·refine qg (sP3 (.int .u8 b1) (.bool (decide (b1<=32))) (.bool (decide (b1<=32))) hs λ_ hs=>?_);refine bsS decide_eq_true_iff hs hS (λhs hS=>?_) (λhs hS=>?_)
    ·refine ye (.int .u8 b1) hs λ_ hs=>?_;refine ye (.bool ((b1:Int) != (32:Int))) hs λ_ hs=>?_;refine ye (.bool ((b1:Int) != (32:Int))) hs λ_ hs=>?_;refine bsS bne_iff_ne hs hS (λhs hS=>?_) (λhs hS=>?_)
     ·refine sNo hs λ_ hs=>?_;refine sNo hs λ_ hs=>?_;refine ye (.bool true) hs λ_ hs=>?_;refine sP2 (.bool true) (.bool true) hs λ_ hs=>?_;refine sNo hs λ_ hs=>?_;refine sNo hs λ_ hs=>?_;refine sP2 (.bool true) (.bool true) hs λ_ hs=>?_;exact wn (⟨true,hs.q,hS⟩)
     ·refine ye (.string (mkS signs2)) hs λ_ hs=>?_;refine ye (.bool (!((mkS signs2).toList==(mkS ([39,92]:List UInt8)).toList))) hs λ_ hs=>?_;refine ye (.bool (!((mkS signs2).toList==(mkS ([39,92]:List UInt8)).toList))) hs λ_ hs=>?_;refine sP2 (.bool (!((mkS signs2).toList==(mkS ([39,92]:List UInt8)).toList))) (.bool (!((mkS signs2).toList==(mkS ([39,92]:List UInt8)).toList))) hs λ_ hs=>?_;refine bsS qmt hs hS (λhs hS=>?_) (λhs hS=>?_)
      ·refine sNo hs λ_ hs=>?_;refine sNo hs λ_ hs=>?_;refine sP2 (.bool true) (.bool true) hs λ_ hs=>?_;exact wn (⟨true,hs.q,hS⟩)
      ·refine ye (.int .u8 b1) hs λ_ hs=>?_;refine ye (.bool (decide (b1>=127))) hs λ_ hs=>?_;refine sP2 (.bool (decide (b1>=127))) (.bool (decide (b1>=127))) hs λ_ hs=>?_;exact wn (⟨(decide (b1>=127)),hs.q,hS⟩)
    ·repeat (first|refine sNo hs λ_ hs=>?_|refine sNu hs λ_ hs=>?_)
     refine sP2 (.bool false) (.bool false) hs λ_ hs=>?_;refine ye (.int .u8 b1) hs λ_ hs=>?_;refine ye (.bool (decide (b1>=127))) hs λ_ hs=>?_;refine sP2 (.bool (decide (b1>=127))) (.bool (decide (b1>=127))) hs λ_ hs=>?_;exact wn (⟨(decide (b1>=127)),hs.q,hS⟩)
   ·intro a w hJ;obtain⟨x3,hs,hS⟩:=hJ;unfold qbs at hS;refine Wp.cS hs Iff.rfl hS (λhS=>?_) (λhS=>?_)
    ·refine qs (Wp.regionD [true,true,true,true,true,true,true,true,true,true,true,true,true,true,true] hs (by kernel_rfl) rfl [] (λ_ h=>h) [] (λ_ h=>h) (λ_ hs hC=>?_));have hL:=Mem.le.refl M;refine dA (Value.int .u8 b1) 0 [1,5,6,13,14] hs λ_ hs=>?_;refine dA (Value.int .u8 (qbV .u8 b1 4)) 1 [5,6,13,14] hs λ_ hs=>?_;refine dA (Value.int .u8 b1) 2 [3,4,5,6,13,14] hs λ_ hs=>?_;refine dA (Value.int .u8 (qbV .u8 b1 4)) 3 [4,5,6,13,14] hs λ_ hs=>?_;refine dA (Value.int .u8 (IntKind.wrap .u8 ((qbV .u8 b1 4)+1))) 4 [5,6,13,14] hs λ_ hs=>?_;obtain⟨h0,h1,h2,hS⟩:=hS;refine dF (.string (mkS ((([48,49,50,51,52,53,54,55,56,57,97,98,99,100,101,102]:List UInt8).take (IntKind.wrap .u8 ((qbV .u8 b1 4)+1)).toNat).drop (qbV .u8 b1 4).toNat))) 5 [6,13,14] hs rfl (Yl.sliceStrLH rfl rfl rfl rfl rfl rfl (by kernel_rfl) h0 h1 h2) λ_ hs=>?_;obtain⟨hl,hS⟩:=hS;refine dF (.string (mkS (([92,120]:List UInt8)++(([48,49,50,51,52,53,54,55,56,57,97,98,99,100,101,102]:List UInt8).take (IntKind.wrap .u8 ((qbV .u8 b1 4)+1)).toNat).drop (qbV .u8 b1 4).toNat))) 6 [13,14] hs rfl (Yl.concat rfl rfl rfl rfl hl) λ_ hs=>?_;refine dA (Value.int .u8 b1) 7 [8,12,13,14] hs λ_ hs=>?_;refine dA (Value.int .u8 (qcw .u8 b1 15)) 8 [12,13,14] hs λ_ hs=>?_;refine sE 9 ?_;refine sP (.int .u8 b1) hs λ_ hs=>?_;refine nE 10 ?_
     refine sP (.int .u8 (qcw .u8 b1 15)) hs λ_ hs=>?_;refine nE 11 ?_;refine sP (.int .u8 (IntKind.wrap .u8 ((qcw .u8 b1 15)+1))) hs λ_ hs=>?_;refine nE 12 ?_;obtain⟨h0,h1,h2,hS⟩:=hS;refine sY (.string (mkS ((([48,49,50,51,52,53,54,55,56,57,97,98,99,100,101,102]:List UInt8).take (IntKind.wrap .u8 ((qcw .u8 b1 15)+1)).toNat).drop (qcw .u8 b1 15).toNat))) hs (Yl.sliceStrLH rfl rfl rfl rfl rfl rfl (by kernel_rfl) h0 h1 h2) λ_ hs=>?_;refine nE 13 ?_;obtain⟨hl,hS⟩:=hS;refine sY (.string (mkS (([92,120]:List UInt8)++(([48,49,50,51,52,53,54,55,56,57,97,98,99,100,101,102]:List UInt8).take (IntKind.wrap .u8 ((qbV .u8 b1 4)+1)).toNat).drop (qbV .u8 b1 4).toNat++(([48,49,50,51,52,53,54,55,56,57,97,98,99,100,101,102]:List UInt8).take (IntKind.wrap .u8 ((qcw .u8 b1 15)+1)).toNat).drop (qcw .u8 b1 15).toNat))) hs (Yl.concat rfl rfl rfl rfl hl) λ_ hs=>?_;refine nE 14 ?_;refine sP (.string (mkS (([92,120]:List UInt8)++(([48,49,50,51,52,53,54,55,56,57,97,98,99,100,101,102]:List UInt8).take (IntKind.wrap .u8 ((qbV .u8 b1 4)+1)).toNat).drop (qbV .u8 b1 4).toNat++(([48,49,50,51,52,53,54,55,56,57,97,98,99,100,101,102]:List UInt8).take (IntKind.wrap .u8 ((qcw .u8 b1 15)+1)).toNat).drop (qcw .u8 b1 15).toNat))) hs λ_ hs=>?_;refine wN ?_;refine dD ?_;exact qt (rT hs hMM hS)
    ·refine qr (sP2 (.string (mkS signs2)) (.int .u8 b1) hs λ_ hs=>?_);refine cP [(.string (mkS signs2)),(.int .u8 b1)] hs Tryz.func50 hS λ_ _ v hS hs=>?_;obtain⟨x4,rfl,hS⟩:=hS;refine sP2 (.bool (decide (x4>=0))) (.bool (decide (x4>=0))) hs λ_ hs=>?_;refine wn (Wp.cS hs decide_eq_true_iff hS (λhS=>?_) (λhS=>?_))
     ·refine qr (sP (.int .u8 b1) hs λ_ hs=>?_);refine qbp [(.int .u8 b1)] 5 1 1 hs rfl rfl rfl (λ_=>by kernel_rfl) rfl (by unfold maxLen;decide) (by decide) (λ_ _ rv5 hs=>?_);obtain⟨x6,hb,hS⟩:=hS;refine sY (.string (mkS x6)) hs (Yl.bytesR (l:=x6) (e':=5) 0 (by rw[<-hb];rfl) rfl rfl (by kernel_rfl) (by kernel_rfl) (by kernel_rfl)) λ_ hs=>?_;obtain⟨hl,hS⟩:=hS;refine sY (.string (mkS (([92]:List UInt8)++x6))) hs (Yl.concat rfl rfl rfl rfl hl) λ_ hs=>?_;refine sP (.string (mkS (([92]:List UInt8)++x6))) hs λ_ hs=>?_;exact wn (qt (rT hs hMM hS))
     ·refine qk (qr (sP (.int .u8 b1) hs λ_ hs=>?_));refine qbp [(.int .u8 b1)] 5 1 1 hs rfl rfl rfl (λ_=>by kernel_rfl) rfl (by unfold maxLen;decide) (by decide) (λ_ _ rv7 hs=>?_);obtain⟨x8,hb,hS⟩:=hS;refine sY (.string (mkS x8)) hs (Yl.bytesR (l:=x8) (e':=5) 0 (by rw[<-hb];rfl) rfl rfl (by kernel_rfl) (by kernel_rfl) (by kernel_rfl)) λ_ hs=>?_;refine sP (.string (mkS x8)) hs λ_ hs=>?_;exact wn (qt (rT hs hMM hS))
def qco (x11:Int) (x12:Int) (x13:Bool) (K:Value->Prop):Prop:=
 ((x13=true->K (Value.tuple #[(.int .u8 (IntKind.wrap .u8 (bOr .i64 (qh3 .i64 x11 4) x12))),(.int .i64 4)]))/\(¬(x13=true)->K (Value.tuple #[(.int .u8 0),(.int .i64 0)])))
def qcp (s1:List UInt8) (M:Mem) (x8:Bool) (K:Value->Prop):Prop:=
 ((x8=true->(∃c9:UInt8,(0:Int)<=2/\s1[(2:Int).toNat]?=some c9/\(∃c10:UInt8,(0:Int)<=3/\s1[(3:Int).toNat]?=some c10/\(qaf Tryz.prog 50 #[(.string (mkS ([48,49,50,51,52,53,54,55,56,57,97,98,99,100,101,102]:List UInt8))),(.int .u8 (c9.toNat:Int))] M (λv _=>∃(x11:Int),v=(Value.int .i64 x11)/\(qaf Tryz.prog 50 #[(.string (mkS ([48,49,50,51,52,53,54,55,56,57,97,98,99,100,101,102]:List UInt8))),(.int .u8 (c10.toNat:Int))] M (λv _=>∃(x12:Int),v=(Value.int .i64 x12)/\((x11>=0->(qco x11 x12 (decide (x12>=0)) K))/\(¬(x11>=0)->(qco x11 x12 false K))))))))))/\(¬(x8=true)->K (Value.tuple #[(.int .u8 0),(.int .i64 0)])))
def qet (s1:List UInt8) (signs2:List UInt8) (M:Mem) (K:Value->Prop):Prop:=
 (∃c3:UInt8,(0:Int)<=0/\s1[(0:Int).toNat]?=some c3/\(((c3.toNat:Int)≠92->(∃c4:UInt8,(0:Int)<=0/\s1[(0:Int).toNat]?=some c4/\(((c4.toNat:Int)=10->K (Value.tuple #[(.int .u8 0),(.int .i64 0)]))/\(¬((c4.toNat:Int)=10)->(∃c5:UInt8,(0:Int)<=0/\s1[(0:Int).toNat]?=some c5/\K (Value.tuple #[(.int .u8 (c5.toNat:Int)),(.int .i64 1)]))))))/\(¬((c3.toNat:Int)≠92)->((((s1.length:Nat):Int)<2->K (Value.tuple #[(.int .u8 0),(.int .i64 0)]))/\(¬(((s1.length:Nat):Int)<2)->(∃c6:UInt8,(0:Int)<=1/\s1[(1:Int).toNat]?=some c6/\(((c6.toNat:Int)=110->K (Value.tuple #[(.int .u8 10),(.int .i64 2)]))/\(¬((c6.toNat:Int)=110)->(((c6.toNat:Int)=116->K (Value.tuple #[(.int .u8 9),(.int .i64 2)]))/\(¬((c6.toNat:Int)=116)->(qaf Tryz.prog 50 #[(.string (mkS signs2)),(.int .u8 (c6.toNat:Int))] M (λv _=>∃(x7:Int),v=(Value.int .i64 x7)/\((x7>=0->K (Value.tuple #[(.int .u8 (c6.toNat:Int)),(.int .i64 2)]))/\(¬(x7>=0)->(((c6.toNat:Int)=120->(qcp s1 M (decide (((s1.length:Nat):Int)>=4)) K))/\(¬((c6.toNat:Int)=120)->(qcp s1 M false K)))))))))))))))))
set_option maxRecDepth 100000 in
theorem qfG (s1:List UInt8) (signs2:List UInt8) (M:Mem) (K:Value->Prop) (hS:qet s1 signs2 M K):qaf Tryz.prog 154 #[(Value.string (mkS s1)),(Value.string (mkS signs2))] M (λv _=>K v):=by
 refine eE2 Tryz.func154 59 λE a hMM hs=>?_;unfold qet at hS;refine qr (sP2 (.int .u8 0) (iv 0) hs λ_ hs=>?_);refine wn (qs (qr (sP (.string (mkS s1)) hs λ_ hs=>?_)));obtain⟨c3,h0,hi,hS⟩:=hS;refine sY (.int .u8 (c3.toNat:Int)) hs (Yl.indexStr rfl rfl rfl rfl (by kernel_rfl) h0 hi) λ_ hs=>?_;refine sP (.bool ((c3.toNat:Int) != (92:Int))) hs λ_ hs=>?_;refine wn (Wp.cS hs bne_iff_ne hS (λhS=>?_) (λhS=>?_))
 ·refine qs (qr (sP (.string (mkS s1)) hs λ_ hs=>?_));obtain⟨c4,h0,hi,hS⟩:=hS;refine sY (.int .u8 (c4.toNat:Int)) hs (Yl.indexStr rfl rfl rfl rfl (by kernel_rfl) h0 hi) λ_ hs=>?_;refine sP (.bool ((c4.toNat:Int)==(10:Int))) hs λ_ hs=>?_;refine wn (Wp.cS hs beq_iff_eq hS (λhS=>?_) (λhS=>?_))
  ·refine qr (sP2 (.int .u8 0) (iv 0) hs λ_ hs=>?_);exact wn (qt (rTT hs hMM hS))
  ·refine qk (qr (sP (.string (mkS s1)) hs λ_ hs=>?_));obtain⟨c5,h0,hi,hS⟩:=hS;refine sY (.int .u8 (c5.toNat:Int)) hs (Yl.indexStr rfl rfl rfl rfl (by kernel_rfl) h0 hi) λ_ hs=>?_;refine sP2 (.int .u8 (c5.toNat:Int)) (iv 1) hs λ_ hs=>?_;exact wn (qt (rTT hs hMM hS))
 ·refine qk (qs (qr (sP3 (.string (mkS s1)) (iv (s1.length:Int)) (.bool (decide ((s1.length:Int)<2))) hs λ_ hs=>?_)));refine wn (Wp.cS hs decide_eq_true_iff hS (λhS=>?_) (λhS=>?_))
  ·refine qr (sP2 (.int .u8 0) (iv 0) hs λ_ hs=>?_);exact wn (qt (rTT hs hMM hS))
  ·refine qk (qs (qr (sP (.string (mkS s1)) hs λ_ hs=>?_)));obtain⟨c6,h0,hi,hS⟩:=hS;refine sY (.int .u8 (c6.toNat:Int)) hs (Yl.indexStr rfl rfl rfl rfl (by kernel_rfl) h0 hi) λ_ hs=>?_;refine sP (.int .u8 (c6.toNat:Int)) hs λ_ hs=>?_;refine wn (qb (qr (sP3 (.int .u8 (c6.toNat:Int)) (.bool ((c6.toNat:Int)==(110:Int))) (.bool ((c6.toNat:Int)==(110:Int))) hs λ_ hs=>?_)));refine wn (Wp.cS hs beq_iff_eq hS (λhS=>?_) (λhS=>?_))
   ·refine qr (sP2 (.int .u8 10) (iv 2) hs λ_ hs=>?_);exact wn (qt (rTT hs hMM hS))
   ·refine qr (sP3 (.int .u8 (c6.toNat:Int)) (.bool ((c6.toNat:Int)==(116:Int))) (.bool ((c6.toNat:Int)==(116:Int))) hs λ_ hs=>?_);refine wn (Wp.cS hs beq_iff_eq hS (λhS=>?_) (λhS=>?_))
    ·refine qr (sP2 (.int .u8 9) (iv 2) hs λ_ hs=>?_);exact wn (qt (rTT hs hMM hS))
    ·refine qr (sP2 (.string (mkS signs2)) (.int .u8 (c6.toNat:Int)) hs λ_ hs=>?_);refine cP [(.string (mkS signs2)),(.int .u8 (c6.toNat:Int))] hs Tryz.func50 hS λ_ _ v hS hs=>?_;obtain⟨x7,rfl,hS⟩:=hS;refine sP2 (.bool (decide (x7>=0))) (.bool (decide (x7>=0))) hs λ_ hs=>?_;refine wn (Wp.cS hs decide_eq_true_iff hS (λhS=>?_) (λhS=>?_))
     ·refine qr (sP3 (.int .u8 (c6.toNat:Int)) (.int .u8 (c6.toNat:Int)) (iv 2) hs λ_ hs=>?_);exact wn (qt (rTT hs hMM hS))
     ·refine Wp.join (λa w=>∃(x8:Bool),Sx 59 E [] M w a [(0,(.string (mkS s1))),(34,(.bool x8))] [] []/\(qcp s1 M x8 K)) ?_ ?_
      ·refine qg (sP3 (.int .u8 (c6.toNat:Int)) (.bool ((c6.toNat:Int)==(120:Int))) (.bool ((c6.toNat:Int)==(120:Int))) hs λ_ hs=>?_);refine bsS beq_iff_eq hs hS (λhs hS=>?_) (λhs hS=>?_)
       ·refine ye (.string (mkS s1)) hs λ_ hs=>?_;refine ye (iv (s1.length:Int)) hs λ_ hs=>?_;refine ye (.bool (decide ((s1.length:Int)>=4))) hs λ_ hs=>?_;refine sP2 (.bool (decide ((s1.length:Int)>=4))) (.bool (decide ((s1.length:Int)>=4))) hs λ_ hs=>?_;exact wn (⟨(decide ((s1.length:Int)>=4)),hs.q,hS⟩)
       ·repeat (first|refine sNo hs λ_ hs=>?_|refine sNu hs λ_ hs=>?_)
        refine sP2 (.bool false) (.bool false) hs λ_ hs=>?_;exact wn (⟨false,hs.q,hS⟩)
      ·intro a w hJ;obtain⟨x8,hs,hS⟩:=hJ;unfold qcp at hS;refine Wp.cS hs Iff.rfl hS (λhS=>?_) (λhS=>?_)
       ·refine qs (Wp.regionD [true,true,true,true,true,true,true,true] hs (by kernel_rfl) rfl [] (λ_ h=>h) [] (λ_ h=>h) (λ_ hs hC=>?_));have hL:=Mem.le.refl M;refine dA (Value.string (mkS s1)) 0 [1,2,5,6,7] hs λ_ hs=>?_;obtain⟨c9,h0,hi,hS⟩:=hS;refine dF (.int .u8 (c9.toNat:Int)) 1 [2,5,6,7] hs rfl (Yl.indexStr rfl rfl rfl rfl (by kernel_rfl) h0 hi) λ_ hs=>?_;refine dA (Value.string (mkS s1)) 3 [4,5,6,7] hs λ_ hs=>?_;obtain⟨c10,h0,hi,hS⟩:=hS;refine dF (.int .u8 (c10.toNat:Int)) 4 [5,6,7] hs rfl (Yl.indexStr rfl rfl rfl rfl (by kernel_rfl) h0 hi) λ_ hs=>?_;refine sE 2 ?_;refine cP [(.string (mkS ([48,49,50,51,52,53,54,55,56,57,97,98,99,100,101,102]:List UInt8))),(.int .u8 (c9.toNat:Int))] hs Tryz.func50 hS λ_ _ v hS hs=>?_;obtain⟨x11,rfl,hS⟩:=hS;refine wn (⟨λ_ _=>hs.cxle hL (List.Sublist.refl _) (List.Sublist.refl _),?_⟩);have hC:=hs.cxle hL (List.Sublist.refl _) (List.Sublist.refl _);refine sE 5 ?_;refine cP [(.string (mkS ([48,49,50,51,52,53,54,55,56,57,97,98,99,100,101,102]:List UInt8))),(.int .u8 (c10.toNat:Int))] hs Tryz.func50 hS λ_ _ v hS hs=>?_;obtain⟨x12,rfl,hS⟩:=hS;refine wn (⟨λ_ _=>hs.cxle hL (List.Sublist.refl _) (List.Sublist.refl _),?_⟩);have hC:=hs.cxle hL (List.Sublist.refl _) (List.Sublist.refl _);refine sE 6 ?_;refine sP (iv x11) hs λ_ hs=>?_
        refine nE 7 ?_;refine sP (iv x12) hs λ_ hs=>?_;refine wN ?_;refine dD ?_;refine Wp.join (λa w=>∃(x13:Bool),Sx 59 E [] M w a [(7,(iv x11)),(8,(iv x12)),(53,(.bool x13))] [] []/\(qco x11 x12 x13 K)) ?_ ?_
        ·refine qg (sP3 (iv x11) (.bool (decide (x11>=0))) (.bool (decide (x11>=0))) hs λ_ hs=>?_);refine bsS decide_eq_true_iff hs hS (λhs hS=>?_) (λhs hS=>?_)
         ·refine ye (iv x12) hs λ_ hs=>?_;refine ye (.bool (decide (x12>=0))) hs λ_ hs=>?_;refine sP (.bool (decide (x12>=0))) hs λ_ hs=>?_;exact wn (⟨(decide (x12>=0)),hs.q,hS⟩)
         ·refine sNo hs λ_ hs=>?_;refine sNo hs λ_ hs=>?_;refine sP (.bool false) hs λ_ hs=>?_;exact wn (⟨false,hs.q,hS⟩)
        ·intro a w hJ;obtain⟨x13,hs,hS⟩:=hJ;unfold qco at hS;refine Wp.cS hs Iff.rfl hS (λhS=>?_) (λhS=>?_)
         ·refine qr (sP4 (iv x11) (iv (qh3 .i64 x11 4)) (iv x12) (iv (bOr .i64 (qh3 .i64 x11 4) x12)) hs λ_ hs=>?_);refine sP3 (.int .u8 (IntKind.wrap .u8 (bOr .i64 (qh3 .i64 x11 4) x12))) (.int .u8 (IntKind.wrap .u8 (bOr .i64 (qh3 .i64 x11 4) x12))) (iv 4) hs λ_ hs=>?_;exact wn (qt (rTT hs hMM hS))
         ·refine qk (qr (sP2 (.int .u8 0) (iv 0) hs λ_ hs=>?_));exact wn (qt (rTT hs hMM hS))
       ·refine qk (qr (sP2 (.int .u8 0) (iv 0) hs λ_ hs=>?_));exact wn (qt (rTT hs hMM hS))
end Go.Proofs.YtleaplmdgckmkaaGreatDoor.core
namespace Go.Proofs.YtleaplmdgckmkaaGreatDoor.core
open Go.Gx Go.RowKit Go.ChangeShapes Go.WideShapes Go.ChangeAt
set_option linter.unusedVariables false
def qbl (s1:qab) (M:Mem) (out20:List UInt8) (b21:Int) (I22:List UInt8->Int->Prop) (mu23:List UInt8->Int->Nat) (out35:List UInt8) (b36:Int) (K:Value->Prop):Prop:=
 (InI (b36+1)/\(qaf Tryz.prog 112 #[s1.val,(.int .i64 (b36+1))] M (λv _=>∃(x37:Int),v=(Value.int .i64 x37)/\I22 out35 x37/\mu23 out35 x37<mu23 out20 b21)))
def qbm (s1:qab) (M:Mem) (out20:List UInt8) (b21:Int) (I22:List UInt8->Int->Prop) (mu23:List UInt8->Int->Nat) (b27:Int) (I28:Int->Prop) (mu29:Int->Nat) (x31:Bool) (K:Value->Prop):Prop:=
 ((x31=true->(InI (b27+1)/\I28 (b27+1)/\mu29 (b27+1)<mu29 b27))/\(¬(x31=true)->(qaf Tryz.prog 25 #[(.int .u8 (IntKind.wrap .u8 b21)),(.string (mkS ([91,93,45,94,92]:List UInt8)))] M (λv _=>∃(x32:List UInt8),v=(Value.string (mkS x32))/\(out20.length+x32.length<=9223372036854775807/\(InI (b21+1)/\(((b27:Int)=b21+1->(qaf Tryz.prog 25 #[(.int .u8 (IntKind.wrap .u8 b27)),(.string (mkS ([91,93,45,94,92]:List UInt8)))] M (λv _=>∃(x33:List UInt8),v=(Value.string (mkS x33))/\((out20++x32).length+x33.length<=9223372036854775807/\(qbl s1 M out20 b21 I22 mu23 (out20++x32++x33) b27 K)))))/\(¬((b27:Int)=b21+1)->((b27>b21->(qaf Tryz.prog 25 #[(.int .u8 (IntKind.wrap .u8 b27)),(.string (mkS ([91,93,45,94,92]:List UInt8)))] M (λv _=>∃(x34:List UInt8),v=(Value.string (mkS x34))/\(([45]:List UInt8).length+x34.length<=9223372036854775807/\((out20++x32).length+(([45]:List UInt8)++x34).length<=9223372036854775807/\(qbl s1 M out20 b21 I22 mu23 (out20++x32++(([45]:List UInt8)++x34)) b27 K))))))/\(¬(b27>b21)->(qbl s1 M out20 b21 I22 mu23 (out20++x32) b27 K)))))))))))
def qdO (s1:qab) (M:Mem) (K:Value->Prop):Prop:=
 (qaf Tryz.prog 112 #[s1.val,(.int .i64 0)] M (λv _=>∃(x3:Int),v=(Value.int .i64 x3)/\(∃(I22:List UInt8->Int->Prop) (mu23:List UInt8->Int->Nat),I22 ([91]:List UInt8) x3/\∀(out20:List UInt8) (b21:Int),(I22 out20 b21->((b21>=0->(∃(I28:Int->Prop) (mu29:Int->Nat),I28 b21/\∀(b27:Int),(I28 b27->((b27<255->(InI (b27+1)/\(qaf Tryz.prog 113 #[s1.val,(.int .u8 (IntKind.wrap .u8 (b27+1)))] M (λv _=>∃(x30:Bool),v=(Value.bool x30)/\(qbm s1 M out20 b21 I22 mu23 b27 I28 mu29 x30 K)))))/\(¬(b27<255)->(qbm s1 M out20 b21 I22 mu23 b27 I28 mu29 false K))))))/\(¬(b21>=0)->(out20.length+([93]:List UInt8).length<=9223372036854775807/\K (Value.string (mkS (out20++([93]:List UInt8)))))))))))
set_option maxRecDepth 100000 in
theorem qke (s1:qab) (M:Mem) (K:Value->Prop) (hS:qdO s1 M K):qaf Tryz.prog 71 #[s1.val] M (λv _=>K v):=by
 refine eE1 Tryz.func71 53 λE a hMM hs=>?_;unfold qdO at hS;refine qr (qao s1.cells hs rfl rfl rfl (by decide) (λ_ _ b2 hEb2 hs=>?_));refine sP (.string (mkS ([]:List UInt8))) hs λ_ hs=>?_;refine wn (qr (sP (.string (mkS ([91]:List UInt8))) hs λ_ hs=>?_));refine wn (qs (qr (sY s1.val hs (Yl.lB s1.cells true 0) λ_ hs=>?_)));refine cP [s1.val,(iv 0)] hs Tryz.func112 hS λ_ _ v hS hs=>?_;obtain⟨x3,rfl,hS⟩:=hS;refine sP (iv x3) hs λ_ hs=>?_;refine wn (qb ?_);obtain⟨I22,mu23,hI0,hst⟩:=hS;refine Wp.loop (σ:=(List UInt8)×(Int)) (λ(out20,b21) a w=>Sx 53 E [] M w a [(1,(pt b2 0)),(3,(.string (mkS out20))),(4,(iv b21))] [⟨b2,47,s1.cells⟩] []/\I22 out20 b21) (λ(out20,b21)=>mu23 out20 b21) (([91]:List UInt8),x3) ⟨hs.q,hI0⟩ (λs a w hI=>?_);obtain⟨out20,b21⟩:=s;obtain⟨hs,hI⟩:=hI;have hS:=hst out20 b21 hI;clear hst hI0 hI;refine qs (qr (sP2 (iv b21) (.bool (decide (b21>=0))) hs λ_ hs=>?_));refine wn (Wp.cS hs decide_eq_true_iff hS (λhS=>?_) (λhS=>?_))
 ·refine qk (Wp.join (λa w=>∃(out35:List UInt8) (b36:Int),Sx 53 E [] M w a [(1,(pt b2 0)),(3,(.string (mkS out35))),(4,(iv b36))] [⟨b2,47,s1.cells⟩] []/\(qbl s1 M out20 b21 I22 mu23 out35 b36 K)) ?_ ?_)
  ·refine qb (qr (sP2 (iv b21) (iv b21) hs λ_ hs=>?_));refine wn (qs (qb ?_));obtain⟨I28,mu29,hI0,hst⟩:=hS;refine Wp.loop (σ:=(Int)) (λb27 a w=>Sx 53 E [] M w a [(1,(pt b2 0)),(3,(.string (mkS out20))),(4,(iv b27)),(5,(iv b21))] [⟨b2,47,s1.cells⟩] []/\I28 b27) (λb27=>mu29 b27) (b21) ⟨hs.q,hI0⟩ (λb27 a w hI=>?_);obtain⟨hs,hI⟩:=hI;have hS:=hst b27 hI;clear hst hI0 hI;refine qs (Wp.join (λa w=>∃(x31:Bool),Sx 53 E [] M w a [(1,(pt b2 0)),(3,(.string (mkS out20))),(4,(iv b27)),(5,(iv b21)),(23,(.bool x31))] [⟨b2,47,s1.cells⟩] []/\(qbm s1 M out20 b21 I22 mu23 b27 I28 mu29 x31 K)) ?_ ?_)
   ·refine qg (sP3 (iv b27) (.bool (decide (b27<255))) (.bool (decide (b27<255))) hs λ_ hs=>?_);refine bsS decide_eq_true_iff hs hS (λhs hS=>?_) (λhs hS=>?_)
    ·refine sYe hs (sY s1.val hs (Yl.lB s1.cells true 0) λ_ hs=>?_);refine ye (iv b27) hs λ_ hs=>?_;refine sYe hs ?_;obtain⟨hI,hS⟩:=hS;refine sY (iv (b27+1)) hs (Yl.wr hI) λ_ hs=>?_;refine ye (.int .u8 (IntKind.wrap .u8 (b27+1))) hs λ_ hs=>?_;refine sYe hs (qb2 [s1.val,(.int .u8 (IntKind.wrap .u8 (b27+1)))] hs rfl ⟨_,rfl,rfl⟩ rfl Tryz.func113 rfl (by kernel_rfl) (by decide) hS (λ_ _ v hS hs=>?_));obtain⟨x30,rfl,hS⟩:=hS;refine sP (.bool x30) hs λ_ hs=>?_;exact wn (⟨x30,hs.q,hS⟩)
    ·repeat (first|refine sNo hs λ_ hs=>?_|refine sNu hs λ_ hs=>?_)
     refine sP (.bool false) hs λ_ hs=>?_;exact wn (⟨false,hs.q,hS⟩)
   ·intro a w hJ;obtain⟨x31,hs,hS⟩:=hJ;unfold qbm at hS;refine Wp.cS hs Iff.rfl hS (λhS=>?_) (λhS=>?_)
    ·refine qk (qb (qg (sP (iv b27) hs λ_ hs=>?_)));obtain⟨hI,hS⟩:=hS;refine sY (iv (b27+1)) hs (Yl.wr hI) λ_ hs=>?_;refine sP (iv (b27+1)) hs λ_ hs=>?_;exact wn (⟨(b27+1),⟨hs.q,hS.1⟩,hS.2⟩)
    ·refine qx rfl (qr (sP (.string (mkS out20)) hs λ_ hs=>?_));refine sP2 (iv b21) (.int .u8 (IntKind.wrap .u8 b21)) hs λ_ hs=>?_;refine cP [(.int .u8 (IntKind.wrap .u8 b21)),(.string (mkS ([91,93,45,94,92]:List UInt8)))] hs Tryz.func25 hS λ_ _ v hS hs=>?_;obtain⟨x32,rfl,hS⟩:=hS;obtain⟨hl,hS⟩:=hS;refine sY (.string (mkS (out20++x32))) hs (Yl.concat rfl rfl rfl rfl hl) λ_ hs=>?_;refine sP (.string (mkS (out20++x32))) hs λ_ hs=>?_;refine wn (qb (qr (sP2 (iv b27) (iv b21) hs λ_ hs=>?_)));obtain⟨hI,hS⟩:=hS;refine sY (iv (b21+1)) hs (Yl.wr hI) λ_ hs=>?_;refine sP2 (.bool ((b27:Int)==(b21+1:Int))) (.bool ((b27:Int)==(b21+1:Int))) hs λ_ hs=>?_;refine wn (Wp.cS hs beq_iff_eq hS (λhS=>?_) (λhS=>?_))
     ·refine qg (sP3 (.string (mkS (out20++x32))) (iv b27) (.int .u8 (IntKind.wrap .u8 b27)) hs λ_ hs=>?_);refine cP [(.int .u8 (IntKind.wrap .u8 b27)),(.string (mkS ([91,93,45,94,92]:List UInt8)))] hs Tryz.func25 hS λ_ _ v hS hs=>?_;obtain⟨x33,rfl,hS⟩:=hS;obtain⟨hl,hS⟩:=hS;refine sY (.string (mkS (out20++x32++x33))) hs (Yl.concat rfl rfl rfl rfl hl) λ_ hs=>?_;refine sP (.string (mkS (out20++x32++x33))) hs λ_ hs=>?_;exact wn (⟨(out20++x32++x33),b27,hs.q,hS⟩)
     ·refine qr (sP4 (iv b27) (iv b21) (.bool (decide (b27>b21))) (.bool (decide (b27>b21))) hs λ_ hs=>?_);refine wn (Wp.cS hs decide_eq_true_iff hS (λhS=>?_) (λhS=>?_))
      ·refine qg (sP3 (.string (mkS (out20++x32))) (iv b27) (.int .u8 (IntKind.wrap .u8 b27)) hs λ_ hs=>?_);refine cP [(.int .u8 (IntKind.wrap .u8 b27)),(.string (mkS ([91,93,45,94,92]:List UInt8)))] hs Tryz.func25 hS λ_ _ v hS hs=>?_;obtain⟨x34,rfl,hS⟩:=hS;obtain⟨hl,hS⟩:=hS;refine sY (.string (mkS (([45]:List UInt8)++x34))) hs (Yl.concat rfl rfl rfl rfl hl) λ_ hs=>?_;obtain⟨hl,hS⟩:=hS;refine sY (.string (mkS (out20++x32++(([45]:List UInt8)++x34)))) hs (Yl.concat rfl rfl rfl rfl hl) λ_ hs=>?_;refine sP (.string (mkS (out20++x32++(([45]:List UInt8)++x34)))) hs λ_ hs=>?_;exact wn (⟨(out20++x32++(([45]:List UInt8)++x34)),b27,hs.q,hS⟩)
      ·exact qk (⟨(out20++x32),b27,hs.q,hS⟩)
  ·intro a w hJ;obtain⟨out35,b36,hs,hS⟩:=hJ;unfold qbl at hS;refine qg (sY s1.val hs (Yl.lB s1.cells true 0) λ_ hs=>?_);refine sP (iv b36) hs λ_ hs=>?_;obtain⟨hI,hS⟩:=hS;refine sY (iv (b36+1)) hs (Yl.wr hI) λ_ hs=>?_;refine cP [s1.val,(iv (b36+1))] hs Tryz.func112 hS λ_ _ v hS hs=>?_;obtain⟨x37,rfl,hS⟩:=hS;refine sP (iv x37) hs λ_ hs=>?_;exact wn (⟨(out35,x37),⟨hs.q,hS.1⟩,hS.2⟩)
 ·refine qx rfl (qr (sP (.string (mkS out20)) hs λ_ hs=>?_));obtain⟨hl,hS⟩:=hS;refine sY (.string (mkS (out20++([93]:List UInt8)))) hs (Yl.concat rfl rfl rfl rfl hl) λ_ hs=>?_;refine sP (.string (mkS (out20++([93]:List UInt8)))) hs λ_ hs=>?_;exact wn (qt (rT hs hMM hS))
def qbg (i52:Int) (c61:Int) (c62:Int) (c63:Int) (c64:Int) (K:Value->Prop):Prop:=
 (InI (i52+1)/\K (Value.tuple #[(qab.mk c61 c62 c63 c64).val,(.int .i64 (i52+1)),(.int .i64 0)]))
def qa0 (K:Value->Prop):Prop:=
 K (Value.tuple #[(qab.mk 0 0 0 0).val,(.int .i64 0),(.int .i64 4)])
def qbf (M:Mem) (i52:Int) (c53:Int) (c54:Int) (c55:Int) (c56:Int) (I57:Int->Int->Int->Int->Int->Prop) (mu58:Int->Int->Int->Int->Int->Nat) (x65:Int) (i73:Int) (high74:Int) (K:Value->Prop):Prop:=
 (qaf Tryz.prog 70 #[(.int .i64 (IntKind.wrap .i64 x65)),(.int .i64 (IntKind.wrap .i64 high74))] M (λv _=>∃(x75:qab),v=x75.val/\(qaf Tryz.prog 179 #[(qab.mk c53 c54 c55 c56).val,x75.val] M (λv _=>∃(x76:qab),v=x76.val/\I57 i73 x76.w0 x76.w1 x76.w2 x76.w3/\mu58 i73 x76.w0 x76.w1 x76.w2 x76.w3<mu58 i52 c53 c54 c55 c56))))
def qa1 (M:Mem) (i52:Int) (c53:Int) (c54:Int) (c55:Int) (c56:Int) (I57:Int->Int->Int->Int->Int->Prop) (mu58:Int->Int->Int->Int->Int->Nat) (x65:Int) (x66:Int) (x70:Int) (x71:Int) (x72:Bool) (K:Value->Prop):Prop:=
 ((x72=true->(qa0 K))/\(¬(x72=true)->(InI (1+x71)/\(InI ((i52+x66)+(1+x71))/\(qbf M i52 c53 c54 c55 c56 I57 mu58 x65 ((i52+x66)+(1+x71)) x70 K)))))
def qaM (s1:List UInt8) (M:Mem) (i52:Int) (c53:Int) (c54:Int) (c55:Int) (c56:Int) (I57:Int->Int->Int->Int->Int->Prop) (mu58:Int->Int->Int->Int->Int->Nat) (x65:Int) (x66:Int) (x69:Bool) (K:Value->Prop):Prop:=
 ((x69=true->(InI ((i52+x66)+1)/\((0:Int)<=(i52+x66)+1/\((i52+x66)+1:Int)<=((s1.length:Nat):Int)/\((s1.length:Nat):Int)<=((s1.length:Nat):Int)/\(qaf Tryz.prog 154 #[(.string (mkS ((s1.take ((s1.length:Nat):Int).toNat).drop ((i52+x66)+1).toNat))),(.string (mkS ([91,93,45,94,92]:List UInt8)))] M (λv _=>∃(x70:Int) (x71:Int),v=(Value.tuple #[(.int .u8 x70),(.int .i64 x71)])/\(((x71:Int)=0->(qa1 M i52 c53 c54 c55 c56 I57 mu58 x65 x66 x70 x71 true K))/\(¬((x71:Int)=0)->(qa1 M i52 c53 c54 c55 c56 I57 mu58 x65 x66 x70 x71 (decide (x70<x65)) K))))))))/\(¬(x69=true)->(qbf M i52 c53 c54 c55 c56 I57 mu58 x65 (i52+x66) x65 K)))
def qbh (s1:List UInt8) (M:Mem) (i_8:Int) (not9:Bool) (K:Value->Prop):Prop:=
 (∃(I57:Int->Int->Int->Int->Int->Prop) (mu58:Int->Int->Int->Int->Int->Nat),I57 i_8 0 0 0 0/\∀(i52:Int) (c53:Int) (c54:Int) (c55:Int) (c56:Int),(I57 i52 c53 c54 c55 c56->((i52<((s1.length:Nat):Int)->(∃c59:UInt8,(0:Int)<=i52/\s1[i52.toNat]?=some c59/\(((c59.toNat:Int)=93->((not9=true->(qaf Tryz.prog 224 #[(qab.mk c53 c54 c55 c56).val] M (λv _=>∃(x60:qab),v=x60.val/\(qbg i52 x60.w0 x60.w1 x60.w2 x60.w3 K))))/\(¬(not9=true)->(qbg i52 c53 c54 c55 c56 K))))/\(¬((c59.toNat:Int)=93)->((0:Int)<=i52/\(i52:Int)<=((s1.length:Nat):Int)/\((s1.length:Nat):Int)<=((s1.length:Nat):Int)/\(qaf Tryz.prog 154 #[(.string (mkS ((s1.take ((s1.length:Nat):Int).toNat).drop i52.toNat))),(.string (mkS ([91,93,45,94,92]:List UInt8)))] M (λv _=>∃(x65:Int) (x66:Int),v=(Value.tuple #[(.int .u8 x65),(.int .i64 x66)])/\(((x66:Int)=0->(qa0 K))/\(¬((x66:Int)=0)->(InI (i52+x66)/\(InI ((i52+x66)+1)/\(((i52+x66)+1<((s1.length:Nat):Int)->(∃c67:UInt8,(0:Int)<=i52+x66/\s1[(i52+x66).toNat]?=some c67/\(((c67.toNat:Int)=45->(InI ((i52+x66)+1)/\(∃c68:UInt8,(0:Int)<=(i52+x66)+1/\s1[((i52+x66)+1).toNat]?=some c68/\(qaM s1 M i52 c53 c54 c55 c56 I57 mu58 x65 x66 ((c68.toNat:Int) != (93:Int)) K))))/\(¬((c67.toNat:Int)=45)->(qaM s1 M i52 c53 c54 c55 c56 I57 mu58 x65 x66 false K)))))/\(¬((i52+x66)+1<((s1.length:Nat):Int))->(qaM s1 M i52 c53 c54 c55 c56 I57 mu58 x65 x66 false K))))))))))))))/\(¬(i52<((s1.length:Nat):Int))->(qa0 K)))))
def qbi (s1:List UInt8) (M:Mem) (x7:Bool) (K:Value->Prop):Prop:=
 ((x7=true->(qbh s1 M 2 true K))/\(¬(x7=true)->(qbh s1 M 1 false K)))
def qa2 (s1:List UInt8) (M:Mem) (x5:Bool) (K:Value->Prop):Prop:=
 ((x5=true->K (Value.tuple #[(qab.mk 0 0 0 0).val,(.int .i64 0),(.int .i64 4)]))/\(¬(x5=true)->((((s1.length:Nat):Int)>1->(∃c6:UInt8,(0:Int)<=1/\s1[(1:Int).toNat]?=some c6/\(qbi s1 M ((c6.toNat:Int)==(94:Int)) K)))/\(¬(((s1.length:Nat):Int)>1)->(qbi s1 M false K)))))
def qc9 (s1:List UInt8) (M:Mem) (K:Value->Prop):Prop:=
 ((s1=([]:List UInt8)->(qa2 s1 M true K))/\(¬(s1=([]:List UInt8))->(∃c4:UInt8,(0:Int)<=0/\s1[(0:Int).toNat]?=some c4/\(qa2 s1 M ((c4.toNat:Int) != (91:Int)) K))))
set_option maxRecDepth 100000 in
theorem qiL (s1:List UInt8) (M:Mem) (K:Value->Prop) (hS:qc9 s1 M K):qaf Tryz.prog 239 #[(Value.string (mkS s1))] M (λv _=>K v):=by
 refine eE1 Tryz.func239 99 λE a hMM hs=>?_;unfold qc9 at hS;refine qr (qae [(.int .u64 0),(.int .u64 0),(.int .u64 0),(.int .u64 0)] hs (by kernel_rfl) (by decide) (λ_ _ b2 hEb2 hs=>?_));refine sP2 (iv 0) (iv 0) hs λ_ hs=>?_;refine wn (qr (qae [(.int .u64 0),(.int .u64 0),(.int .u64 0),(.int .u64 0)] hs (by kernel_rfl) (by decide) (λ_ _ b3 hEb3 hs=>?_)));refine wn (qs (Wp.join (λa w=>∃(x5:Bool),Sx 99 E [] M w a [(0,(.string (mkS s1))),(2,(pt b2 0)),(5,(pt b3 0)),(17,(.bool x5))] [⟨b3,47,[(.int .u64 0),(.int .u64 0),(.int .u64 0),(.int .u64 0)]⟩,⟨b2,47,[(.int .u64 0),(.int .u64 0),(.int .u64 0),(.int .u64 0)]⟩] []/\(qa2 s1 M x5 K)) ?_ ?_))
 ·refine qg (sP3 (.string (mkS s1)) (.bool ((mkS s1).toList==(mkS ([]:List UInt8)).toList)) (.bool ((mkS s1).toList==(mkS ([]:List UInt8)).toList)) hs λ_ hs=>?_);refine bsS qaY hs hS (λhs hS=>?_) (λhs hS=>?_)
  ·repeat (first|refine sNo hs λ_ hs=>?_|refine sNu hs λ_ hs=>?_)
   refine sP (.bool true) hs λ_ hs=>?_;exact wn (⟨true,hs.q,hS⟩)
  ·refine ye (.string (mkS s1)) hs λ_ hs=>?_;refine sYe hs ?_;obtain⟨c4,h0,hi,hS⟩:=hS;refine sY (.int .u8 (c4.toNat:Int)) hs (Yl.indexStr rfl rfl rfl rfl (by kernel_rfl) h0 hi) λ_ hs=>?_;refine ye (.bool ((c4.toNat:Int) != (91:Int))) hs λ_ hs=>?_;refine sP (.bool ((c4.toNat:Int) != (91:Int))) hs λ_ hs=>?_;exact wn (⟨((c4.toNat:Int) != (91:Int)),hs.q,hS⟩)
 ·intro a w hJ;obtain⟨x5,hs,hS⟩:=hJ;unfold qa2 at hS;refine Wp.cS hs Iff.rfl hS (λhS=>?_) (λhS=>?_)
  ·refine qr (sP (qab.mk 0 0 0 0).val hs λ_ hs=>?_);refine stB 1 [(.int .u64 0),(.int .u64 0),(.int .u64 0),(.int .u64 0)] [⟨b3,47,[(.int .u64 0),(.int .u64 0),(.int .u64 0),(.int .u64 0)]⟩,⟨b2,47,[(.int .u64 0),(.int .u64 0),(.int .u64 0),(.int .u64 0)]⟩] hs λ_ _ hs=>?_;refine sP2 (iv 0) (iv 4) hs λ_ hs=>?_;exact wn (qt (lvE K hs (qgn (vs:=[(.int .u64 0),(.int .u64 0),(.int .u64 0),(.int .u64 0)]) true 1 hs rfl rfl rfl (by kernel_rfl) rfl rfl rfl) hMM.2 hS))
  ·refine qk (qr (sP2 (iv 1) (.bool false) hs λ_ hs=>?_));refine wn (Wp.join (λa w=>∃(i_8:Int) (not9:Bool),Sx 99 E [] M w a [(0,(.string (mkS s1))),(2,(pt b2 0)),(5,(pt b3 0)),(6,(iv i_8)),(7,(.bool not9))] [⟨b3,47,[(.int .u64 0),(.int .u64 0),(.int .u64 0),(.int .u64 0)]⟩,⟨b2,47,[(.int .u64 0),(.int .u64 0),(.int .u64 0),(.int .u64 0)]⟩] []/\(qbh s1 M i_8 not9 K)) ?_ ?_)
   ·refine Wp.join (λa w=>∃(x7:Bool),Sx 99 E [] M w a [(0,(.string (mkS s1))),(2,(pt b2 0)),(5,(pt b3 0)),(6,(iv 1)),(7,(.bool false)),(26,(.bool x7))] [⟨b3,47,[(.int .u64 0),(.int .u64 0),(.int .u64 0),(.int .u64 0)]⟩,⟨b2,47,[(.int .u64 0),(.int .u64 0),(.int .u64 0),(.int .u64 0)]⟩] []/\(qbi s1 M x7 K)) ?_ ?_
    ·refine qg (sP4 (.string (mkS s1)) (iv (s1.length:Int)) (.bool (decide ((s1.length:Int)>1))) (.bool (decide ((s1.length:Int)>1))) hs λ_ hs=>?_);refine bsS decide_eq_true_iff hs hS (λhs hS=>?_) (λhs hS=>?_)
     ·refine ye (.string (mkS s1)) hs λ_ hs=>?_;refine sYe hs ?_;obtain⟨c6,h0,hi,hS⟩:=hS;refine sY (.int .u8 (c6.toNat:Int)) hs (Yl.indexStr rfl rfl rfl rfl (by kernel_rfl) h0 hi) λ_ hs=>?_;refine ye (.bool ((c6.toNat:Int)==(94:Int))) hs λ_ hs=>?_;refine sP (.bool ((c6.toNat:Int)==(94:Int))) hs λ_ hs=>?_;exact wn (⟨((c6.toNat:Int)==(94:Int)),hs.q,hS⟩)
     ·repeat (first|refine sNo hs λ_ hs=>?_|refine sNu hs λ_ hs=>?_)
      refine sP (.bool false) hs λ_ hs=>?_;exact wn (⟨false,hs.q,hS⟩)
    ·intro a w hJ;obtain⟨x7,hs,hS⟩:=hJ;unfold qbi at hS;refine Wp.cS hs Iff.rfl hS (λhS=>?_) (λhS=>?_)
     ·refine qg (sP2 (iv 2) (.bool true) hs λ_ hs=>?_);exact wn (⟨2,true,hs.q,hS⟩)
     ·exact qk (⟨1,false,hs.q,hS⟩)
   ·intro a w hJ;obtain⟨i_8,not9,hs,hS⟩:=hJ;unfold qbh at hS;refine Wp.join (λa w=>∃(c77:Int) (c78:Int) (c79:Int) (c80:Int),Sx 99 E [] M w a [(2,(pt b2 0))] [⟨b3,47,[(.int .u64 c77),(.int .u64 c78),(.int .u64 c79),(.int .u64 c80)]⟩,⟨b2,47,[(.int .u64 0),(.int .u64 0),(.int .u64 0),(.int .u64 0)]⟩] []/\(qa0 K)) ?_ ?_
    ·refine qb ?_;obtain⟨I57,mu58,hI0,hst⟩:=hS;refine Wp.loop (σ:=(Int)×(Int)×(Int)×(Int)×(Int)) (λ(i52,c53,c54,c55,c56) a w=>Sx 99 E [] M w a [(0,(.string (mkS s1))),(2,(pt b2 0)),(5,(pt b3 0)),(6,(iv i52)),(7,(.bool not9))] [⟨b3,47,[(.int .u64 c53),(.int .u64 c54),(.int .u64 c55),(.int .u64 c56)]⟩,⟨b2,47,[(.int .u64 0),(.int .u64 0),(.int .u64 0),(.int .u64 0)]⟩] []/\I57 i52 c53 c54 c55 c56) (λ(i52,c53,c54,c55,c56)=>mu58 i52 c53 c54 c55 c56) (i_8,0,0,0,0) ⟨hs.q,hI0⟩ (λs a w hI=>?_);obtain⟨i52,c53,c54,c55,c56⟩:=s;obtain⟨hs,hI⟩:=hI;have hS:=hst i52 c53 c54 c55 c56 hI;clear hst hI0 hI;refine qs (qr (sP4 (iv i52) (.string (mkS s1)) (iv (s1.length:Int)) (.bool (decide (i52<(s1.length:Int)))) hs λ_ hs=>?_));refine wn (Wp.cS hs decide_eq_true_iff hS (λhS=>?_) (λhS=>?_))
     ·refine qk (qb (qs (qr (sP2 (.string (mkS s1)) (iv i52) hs λ_ hs=>?_))));obtain⟨c59,h0,hi,hS⟩:=hS;refine sY (.int .u8 (c59.toNat:Int)) hs (Yl.indexStr rfl rfl rfl rfl (by kernel_rfl) h0 hi) λ_ hs=>?_;refine sP (.bool ((c59.toNat:Int)==(93:Int))) hs λ_ hs=>?_;refine wn (Wp.cS hs beq_iff_eq hS (λhS=>?_) (λhS=>?_))
      ·refine Wp.join (λa w=>∃(c61:Int) (c62:Int) (c63:Int) (c64:Int),Sx 99 E [] M w a [(2,(pt b2 0)),(5,(pt b3 0)),(6,(iv i52))] [⟨b3,47,[(.int .u64 c61),(.int .u64 c62),(.int .u64 c63),(.int .u64 c64)]⟩,⟨b2,47,[(.int .u64 0),(.int .u64 0),(.int .u64 0),(.int .u64 0)]⟩] []/\(qbg i52 c61 c62 c63 c64 K)) ?_ ?_
       ·refine qr (sP (.bool not9) hs λ_ hs=>?_);refine wn (Wp.cS hs Iff.rfl hS (λhS=>?_) (λhS=>?_))
        ·refine qg (sY (qab.mk c53 c54 c55 c56).val hs (Yl.lB (qab.mk c53 c54 c55 c56).cells true 0) λ_ hs=>?_);refine cP [(qab.mk c53 c54 c55 c56).val] hs Tryz.func224 hS λ_ _ v hS hs=>?_;obtain⟨x60,rfl,hS⟩:=hS;refine stB 0 x60.cells [⟨b3,47,x60.cells⟩,⟨b2,47,[(.int .u64 0),(.int .u64 0),(.int .u64 0),(.int .u64 0)]⟩] hs λ_ _ hs=>?_;exact wn (⟨x60.w0,x60.w1,x60.w2,x60.w3,hs.q,hS⟩)
        ·exact qk (⟨c53,c54,c55,c56,hs.q,hS⟩)
       ·intro a w hJ;obtain⟨c61,c62,c63,c64,hs,hS⟩:=hJ;unfold qbg at hS;refine qr (sY (qab.mk c61 c62 c63 c64).val hs (Yl.lB (qab.mk c61 c62 c63 c64).cells true 0) λ_ hs=>?_);refine sP (iv i52) hs λ_ hs=>?_;obtain⟨hI,hS⟩:=hS;refine sY (iv (i52+1)) hs (Yl.wr hI) λ_ hs=>?_;refine stB 1 [(.int .u64 c61),(.int .u64 c62),(.int .u64 c63),(.int .u64 c64)] [⟨b3,47,[(.int .u64 c61),(.int .u64 c62),(.int .u64 c63),(.int .u64 c64)]⟩,⟨b2,47,[(.int .u64 c61),(.int .u64 c62),(.int .u64 c63),(.int .u64 c64)]⟩] hs λ_ _ hs=>?_;refine sP2 (iv (i52+1)) (iv 0) hs λ_ hs=>?_;exact wn (qt (lvE K hs (qgn (vs:=[(.int .u64 c61),(.int .u64 c62),(.int .u64 c63),(.int .u64 c64)]) true 1 hs rfl rfl rfl (by kernel_rfl) rfl rfl rfl) hMM.2 hS))
      ·refine qk (qr (sP2 (.string (mkS s1)) (iv i52) hs λ_ hs=>?_));obtain⟨h0,h1,h2,hS⟩:=hS;refine sY (.string (mkS ((s1.take (s1.length:Int).toNat).drop i52.toNat))) hs (Yl.sliceStrL rfl rfl rfl rfl (by kernel_rfl) h0 h1 h2) λ_ hs=>?_;refine cP [(.string (mkS ((s1.take (s1.length:Int).toNat).drop i52.toNat))),(.string (mkS ([91,93,45,94,92]:List UInt8)))] hs Tryz.func154 hS λ_ _ v hS hs=>?_;obtain⟨x65,x66,rfl,hS⟩:=hS;refine sP4 (Value.tuple #[(.int .u8 x65),(iv x66)]) (.int .u8 x65) (iv x66) (.int .u8 x65) hs λ_ hs=>?_;refine sP (iv x66) hs λ_ hs=>?_;refine wn (qs (qr (sP2 (iv x66) (.bool ((x66:Int)==(0:Int))) hs λ_ hs=>?_)));refine wn (Wp.cS hs beq_iff_eq hS (λhS=>?_) (λhS=>?_))
       ·exact qx rfl (⟨c53,c54,c55,c56,hs.q,hS⟩)
       ·refine qk (qr (sP2 (iv i52) (iv x66) hs λ_ hs=>?_));obtain⟨hI,hS⟩:=hS;refine sY (iv (i52+x66)) hs (Yl.wr hI) λ_ hs=>?_;refine sP (iv (i52+x66)) hs λ_ hs=>?_;refine wn (qr (sP2 (.int .u8 x65) (.int .u8 x65) hs λ_ hs=>?_));refine wn (Wp.join (λa w=>∃(i73:Int) (high74:Int),Sx 99 E [] M w a [(0,(.string (mkS s1))),(2,(pt b2 0)),(5,(pt b3 0)),(6,(iv i73)),(7,(.bool not9)),(8,(.int .u8 x65)),(10,(.int .u8 high74))] [⟨b3,47,[(.int .u64 c53),(.int .u64 c54),(.int .u64 c55),(.int .u64 c56)]⟩,⟨b2,47,[(.int .u64 0),(.int .u64 0),(.int .u64 0),(.int .u64 0)]⟩] []/\(qbf M i52 c53 c54 c55 c56 I57 mu58 x65 i73 high74 K)) ?_ ?_)
        ·refine Wp.join (λa w=>∃(x69:Bool),Sx 99 E [] M w a [(0,(.string (mkS s1))),(2,(pt b2 0)),(5,(pt b3 0)),(6,(iv (i52+x66))),(7,(.bool not9)),(8,(.int .u8 x65)),(10,(.int .u8 x65)),(71,(.bool x69))] [⟨b3,47,[(.int .u64 c53),(.int .u64 c54),(.int .u64 c55),(.int .u64 c56)]⟩,⟨b2,47,[(.int .u64 0),(.int .u64 0),(.int .u64 0),(.int .u64 0)]⟩] []/\(qaM s1 M i52 c53 c54 c55 c56 I57 mu58 x65 x66 x69 K)) ?_ ?_
         ·refine qg (sP (iv (i52+x66)) hs λ_ hs=>?_);obtain⟨hI,hS⟩:=hS;refine sY (iv ((i52+x66)+1)) hs (Yl.wr hI) λ_ hs=>?_;refine sP4 (.string (mkS s1)) (iv (s1.length:Int)) (.bool (decide ((i52+x66)+1<(s1.length:Int)))) (.bool (decide ((i52+x66)+1<(s1.length:Int)))) hs λ_ hs=>?_;refine bsS decide_eq_true_iff hs hS (λhs hS=>?_) (λhs hS=>?_)
          ·refine ye (.string (mkS s1)) hs λ_ hs=>?_;refine ye (iv (i52+x66)) hs λ_ hs=>?_;refine sYe hs ?_;obtain⟨c67,h0,hi,hS⟩:=hS;refine sY (.int .u8 (c67.toNat:Int)) hs (Yl.indexStr rfl rfl rfl rfl (by kernel_rfl) h0 hi) λ_ hs=>?_;refine ye (.bool ((c67.toNat:Int)==(45:Int))) hs λ_ hs=>?_;refine sP2 (.bool ((c67.toNat:Int)==(45:Int))) (.bool ((c67.toNat:Int)==(45:Int))) hs λ_ hs=>?_;refine bsS beq_iff_eq hs hS (λhs hS=>?_) (λhs hS=>?_)
           ·refine ye (.string (mkS s1)) hs λ_ hs=>?_;refine ye (iv (i52+x66)) hs λ_ hs=>?_;refine sYe hs ?_;obtain⟨hI,hS⟩:=hS;refine sY (iv ((i52+x66)+1)) hs (Yl.wr hI) λ_ hs=>?_;refine sYe hs ?_;obtain⟨c68,h0,hi,hS⟩:=hS;refine sY (.int .u8 (c68.toNat:Int)) hs (Yl.indexStr rfl rfl rfl rfl (by kernel_rfl) h0 hi) λ_ hs=>?_;refine ye (.bool ((c68.toNat:Int) != (93:Int))) hs λ_ hs=>?_;refine sP (.bool ((c68.toNat:Int) != (93:Int))) hs λ_ hs=>?_;exact wn (⟨((c68.toNat:Int) != (93:Int)),hs.q,hS⟩)
           ·repeat (first|refine sNo hs λ_ hs=>?_|refine sNu hs λ_ hs=>?_)
            refine sP (.bool false) hs λ_ hs=>?_;exact wn (⟨false,hs.q,hS⟩)
          ·repeat (first|refine sNo hs λ_ hs=>?_|refine sNu hs λ_ hs=>?_)
           refine sP2 (.bool false) (.bool false) hs λ_ hs=>?_;repeat (first|refine sNo hs λ_ hs=>?_|refine sNu hs λ_ hs=>?_)
           refine sP (.bool false) hs λ_ hs=>?_;exact wn (⟨false,hs.q,hS⟩)
         ·intro a w hJ;obtain⟨x69,hs,hS⟩:=hJ;unfold qaM at hS;refine Wp.cS hs Iff.rfl hS (λhS=>?_) (λhS=>?_)
          ·refine qs (qr (sP2 (.string (mkS s1)) (iv (i52+x66)) hs λ_ hs=>?_));obtain⟨hI,hS⟩:=hS;refine sY (iv ((i52+x66)+1)) hs (Yl.wr hI) λ_ hs=>?_;obtain⟨h0,h1,h2,hS⟩:=hS;refine sY (.string (mkS ((s1.take (s1.length:Int).toNat).drop ((i52+x66)+1).toNat))) hs (Yl.sliceStrL rfl rfl rfl rfl (by kernel_rfl) h0 h1 h2) λ_ hs=>?_;refine cP [(.string (mkS ((s1.take (s1.length:Int).toNat).drop ((i52+x66)+1).toNat))),(.string (mkS ([91,93,45,94,92]:List UInt8)))] hs Tryz.func154 hS λ_ _ v hS hs=>?_;obtain⟨x70,x71,rfl,hS⟩:=hS;refine sP4 (Value.tuple #[(.int .u8 x70),(iv x71)]) (.int .u8 x70) (iv x71) (.int .u8 x70) hs λ_ hs=>?_;refine sP (iv x71) hs λ_ hs=>?_;refine wn (Wp.join (λa w=>∃(x72:Bool),Sx 99 E [] M w a [(0,(.string (mkS s1))),(2,(pt b2 0)),(5,(pt b3 0)),(6,(iv (i52+x66))),(7,(.bool not9)),(8,(.int .u8 x65)),(9,(iv x71)),(10,(.int .u8 x70)),(86,(.bool x72))] [⟨b3,47,[(.int .u64 c53),(.int .u64 c54),(.int .u64 c55),(.int .u64 c56)]⟩,⟨b2,47,[(.int .u64 0),(.int .u64 0),(.int .u64 0),(.int .u64 0)]⟩] []/\(qa1 M i52 c53 c54 c55 c56 I57 mu58 x65 x66 x70 x71 x72 K)) ?_ ?_)
           ·refine qg (sP3 (iv x71) (.bool ((x71:Int)==(0:Int))) (.bool ((x71:Int)==(0:Int))) hs λ_ hs=>?_);refine bsS beq_iff_eq hs hS (λhs hS=>?_) (λhs hS=>?_)
            ·repeat (first|refine sNo hs λ_ hs=>?_|refine sNu hs λ_ hs=>?_)
             refine sP (.bool true) hs λ_ hs=>?_;exact wn (⟨true,hs.q,hS⟩)
            ·refine ye (.int .u8 x70) hs λ_ hs=>?_;refine ye (.int .u8 x65) hs λ_ hs=>?_;refine ye (.bool (decide (x70<x65))) hs λ_ hs=>?_;refine sP (.bool (decide (x70<x65))) hs λ_ hs=>?_;exact wn (⟨(decide (x70<x65)),hs.q,hS⟩)
           ·intro a w hJ;obtain⟨x72,hs,hS⟩:=hJ;unfold qa1 at hS;refine Wp.cS hs Iff.rfl hS (λhS=>?_) (λhS=>?_)
            ·exact qx rfl (⟨c53,c54,c55,c56,hs.q,hS⟩)
            ·refine qk (qg (sP2 (iv (i52+x66)) (iv x71) hs λ_ hs=>?_));obtain⟨hI,hS⟩:=hS;refine sY (iv (1+x71)) hs (Yl.wr hI) λ_ hs=>?_;obtain⟨hI,hS⟩:=hS;refine sY (iv ((i52+x66)+(1+x71))) hs (Yl.wr hI) λ_ hs=>?_;refine sP (iv ((i52+x66)+(1+x71))) hs λ_ hs=>?_;exact wn (⟨((i52+x66)+(1+x71)),x70,hs.q,hS⟩)
          ·exact qk (⟨(i52+x66),x65,hs.q,hS⟩)
        ·intro a w hJ;obtain⟨i73,high74,hs,hS⟩:=hJ;unfold qbf at hS;refine Wp.regionD [true,true,true,true,true,true,true,false] hs (by kernel_rfl) rfl [⟨b3,47,[(.int .u64 c53),(.int .u64 c54),(.int .u64 c55),(.int .u64 c56)]⟩,⟨b2,47,[(.int .u64 0),(.int .u64 0),(.int .u64 0),(.int .u64 0)]⟩] (λ_ h=>h) [] (λ_ h=>h) (λ_ hs hC=>?_);have hL:=Mem.le.refl M;refine dC (qab.mk c53 c54 c55 c56).val 0 [6,7] hs hC rfl (Yl.lB (qab.mk c53 c54 c55 c56).cells true 0) λ_ hs=>?_;refine dA (Value.int .u8 x65) 1 [2,5,6,7] hs λ_ hs=>?_;refine dA (iv (IntKind.wrap .i64 x65)) 2 [5,6,7] hs λ_ hs=>?_;refine sE 3 ?_;refine sP (.int .u8 high74) hs λ_ hs=>?_;refine nE 4 ?_;refine sP (iv (IntKind.wrap .i64 high74)) hs λ_ hs=>?_;refine nE 5 ?_;refine cP [(iv (IntKind.wrap .i64 x65)),(iv (IntKind.wrap .i64 high74))] hs Tryz.func70 hS λ_ _ v hS hs=>?_;obtain⟨x75,rfl,hS⟩:=hS;refine wn (⟨λ_ _=>hs.cxle hL (List.Sublist.refl _) (List.Sublist.refl _),?_⟩);have hC:=hs.cxle hL (List.Sublist.refl _) (List.Sublist.refl _);refine sE 6 ?_;refine cP [(qab.mk c53 c54 c55 c56).val,x75.val] hs Tryz.func179 hS λ_ _ v hS hs=>?_;obtain⟨x76,rfl,hS⟩:=hS;refine wn (⟨λ_ _=>hs.cxle hL (List.Sublist.refl _) (List.Sublist.refl _),?_⟩);have hC:=hs.cxle hL (List.Sublist.refl _) (List.Sublist.refl _);refine sE 7 ?_
         refine stB 0 x76.cells [⟨b3,47,x76.cells⟩,⟨b2,47,[(.int .u64 0),(.int .u64 0),(.int .u64 0),(.int .u64 0)]⟩] hs λ_ _ hs=>?_;refine wF ?_;refine dD ?_;exact⟨(i73,x76.w0,x76.w1,x76.w2,x76.w3),⟨hs.q,hS.1⟩,hS.2⟩
     ·exact qx rfl (⟨c53,c54,c55,c56,hs.q,hS⟩)
    ·intro a w hJ;obtain⟨c77,c78,c79,c80,hs,hS⟩:=hJ;unfold qa0 at hS;refine qr (sP (qab.mk 0 0 0 0).val hs λ_ hs=>?_);refine stB 1 [(.int .u64 0),(.int .u64 0),(.int .u64 0),(.int .u64 0)] [⟨b3,47,[(.int .u64 c77),(.int .u64 c78),(.int .u64 c79),(.int .u64 c80)]⟩,⟨b2,47,[(.int .u64 0),(.int .u64 0),(.int .u64 0),(.int .u64 0)]⟩] hs λ_ _ hs=>?_;refine sP2 (iv 0) (iv 4) hs λ_ hs=>?_;exact wn (qt (lvE K hs (qgn (vs:=[(.int .u64 0),(.int .u64 0),(.int .u64 0),(.int .u64 0)]) true 1 hs rfl rfl rfl (by kernel_rfl) rfl rfl rfl) hMM.2 hS))
end Go.Proofs.YtleaplmdgckmkaaGreatDoor.core
namespace Go.Proofs.YtleaplmdgckmkaaGreatDoor.core
open Go.Gx Go.RowKit Go.ChangeShapes Go.WideShapes Go.ChangeAt
set_option linter.unusedVariables false
def qfh (s1:List UInt8) (M:Mem) (K:Value->Prop):Prop:=
 (∃(I8:List UInt8->Int->Prop) (mu9:List UInt8->Int->Nat),I8 ([39]:List UInt8) 0/\∀(out6:List UInt8) (x7:Int),(I8 out6 x7->((x7<((s1.length:Nat):Int)->(∃c10:UInt8,(0:Int)<=x7/\s1[x7.toNat]?=some c10/\(qaf Tryz.prog 25 #[(.int .u8 (c10.toNat:Int)),(.string (mkS ([39,92]:List UInt8)))] M (λv _=>∃(x11:List UInt8),v=(Value.string (mkS x11))/\(out6.length+x11.length<=9223372036854775807/\(InI (x7+1)/\I8 (out6++x11) (x7+1)/\mu9 (out6++x11) (x7+1)<mu9 out6 x7))))))/\(¬(x7<((s1.length:Nat):Int))->(out6.length+([39]:List UInt8).length<=9223372036854775807/\K (Value.string (mkS (out6++([39]:List UInt8)))))))))
set_option maxRecDepth 100000 in
theorem qd3 (s1:List UInt8) (M:Mem) (K:Value->Prop) (hS:qfh s1 M K):qaf Tryz.prog 7 #[(Value.string (mkS s1))] M (λv _=>K v):=by
 refine eE1 Tryz.func7 19 λE a hMM hs=>?_;unfold qfh at hS;refine qr (sP (.string (mkS ([]:List UInt8))) hs λ_ hs=>?_);refine wn (qr (sP (.string (mkS ([39]:List UInt8))) hs λ_ hs=>?_));refine wn (qs (qr (sP3 (.string (mkS s1)) (iv (s1.length:Int)) (iv 0) hs λ_ hs=>?_)));refine wn (qb ?_);obtain⟨I8,mu9,hI0,hst⟩:=hS;refine Wp.loop (σ:=(List UInt8)×(Int)) (λ(out6,x7) a w=>Sx 19 E [] M w a [(0,(.string (mkS s1))),(3,(.string (mkS out6))),(6,(iv (s1.length:Int))),(7,(iv x7))] [] []/\I8 out6 x7) (λ(out6,x7)=>mu9 out6 x7) (([39]:List UInt8),0) ⟨hs.q,hI0⟩ (λs a w hI=>?_);obtain⟨out6,x7⟩:=s;obtain⟨hs,hI⟩:=hI;have hS:=hst out6 x7 hI;clear hst hI0 hI;refine qr (sP (.bool (decide (x7<(s1.length:Int)))) hs λ_ hs=>?_);refine wn (qs (Wp.cS hs decide_eq_true_iff hS (λhS=>?_) (λhS=>?_)))
 ·refine qk (qs (qb (qr (sP2 (iv x7) (iv x7) hs λ_ hs=>?_))));refine wn (qg (sP3 (.string (mkS out6)) (.string (mkS s1)) (iv x7) hs λ_ hs=>?_));obtain⟨c10,h0,hi,hS⟩:=hS;refine sY (.int .u8 (c10.toNat:Int)) hs (Yl.indexStr rfl rfl rfl rfl (by kernel_rfl) h0 hi) λ_ hs=>?_;refine cP [(.int .u8 (c10.toNat:Int)),(.string (mkS ([39,92]:List UInt8)))] hs Tryz.func25 hS λ_ _ v hS hs=>?_;obtain⟨x11,rfl,hS⟩:=hS;obtain⟨hl,hS⟩:=hS;refine sY (.string (mkS (out6++x11))) hs (Yl.concat rfl rfl rfl rfl hl) λ_ hs=>?_;refine sP (.string (mkS (out6++x11))) hs λ_ hs=>?_;refine wn (qg ?_);obtain⟨hI,hS⟩:=hS;refine sY (iv (x7+1)) hs (Yl.wr hI) λ_ hs=>?_;refine sP (iv (x7+1)) hs λ_ hs=>?_;exact wn (⟨(out6++x11,x7+1),⟨hs.q,hS.1⟩,hS.2⟩)
 ·refine qx rfl (qr (sP (.string (mkS out6)) hs λ_ hs=>?_));obtain⟨hl,hS⟩:=hS;refine sY (.string (mkS (out6++([39]:List UInt8)))) hs (Yl.concat rfl rfl rfl rfl hl) λ_ hs=>?_;refine sP (.string (mkS (out6++([39]:List UInt8)))) hs λ_ hs=>?_;exact wn (qt (rT hs hMM hS))
def qcI (K:Value->Prop):Prop:=
 K (Value.tuple #[(.string (mkS ([]:List UInt8))),(.int .i64 0),(.int .i64 4)])
def qbC (s1:List UInt8) (M:Mem) (x4:Bool) (K:Value->Prop):Prop:=
 ((x4=true->K (Value.tuple #[(.string (mkS ([]:List UInt8))),(.int .i64 0),(.int .i64 4)]))/\(¬(x4=true)->(∃(I32:Int->Nat->List Value->Prop) (mu33:Int->Nat->List Value->Nat),I32 1 0 []/\∀(i28:Int) (rn30:Nat) (rx31:List Value),(I32 i28 rn30 rx31->((i28<((s1.length:Nat):Int)->(∃c34:UInt8,(0:Int)<=i28/\s1[i28.toNat]?=some c34/\(∃c35:UInt8,(0:Int)<=0/\s1[(0:Int).toNat]?=some c35/\(((c34.toNat:Int)=(c35.toNat:Int)->(∃(x36:List UInt8),rx31=bytesV x36/\(InI (i28+1)/\K (Value.tuple #[(.string (mkS x36)),(.int .i64 (i28+1)),(.int .i64 0)]))))/\(¬((c34.toNat:Int)=(c35.toNat:Int))->((0:Int)<=i28/\(i28:Int)<=((s1.length:Nat):Int)/\((s1.length:Nat):Int)<=((s1.length:Nat):Int)/\(qaf Tryz.prog 154 #[(.string (mkS ((s1.take ((s1.length:Nat):Int).toNat).drop i28.toNat))),(.string (mkS ([39,34,92]:List UInt8)))] M (λv _=>∃(x37:Int) (x38:Int),v=(Value.tuple #[(.int .u8 x37),(.int .i64 x38)])/\(((x38:Int)=0->(qcI K))/\(¬((x38:Int)=0)->((rn30+1)*1<=140737488355328/\(InI (i28+x38)/\I32 (i28+x38) (rn30+1) (rx31++[(.int .u8 x37)])/\mu33 (i28+x38) (rn30+1) (rx31++[(.int .u8 x37)])<mu33 i28 rn30 rx31))))))))))))/\(¬(i28<((s1.length:Nat):Int))->(qcI K)))))))
def qfg (s1:List UInt8) (M:Mem) (K:Value->Prop):Prop:=
 ((s1=([]:List UInt8)->(qbC s1 M true K))/\(¬(s1=([]:List UInt8))->(∃c2:UInt8,(0:Int)<=0/\s1[(0:Int).toNat]?=some c2/\(((c2.toNat:Int)≠39->(∃c3:UInt8,(0:Int)<=0/\s1[(0:Int).toNat]?=some c3/\(qbC s1 M ((c3.toNat:Int) != (34:Int)) K)))/\(¬((c2.toNat:Int)≠39)->(qbC s1 M false K))))))
set_option maxRecDepth 100000 in
theorem qgZ (s1:List UInt8) (M:Mem) (K:Value->Prop) (hS:qfg s1 M K):qaf Tryz.prog 120 #[(Value.string (mkS s1))] M (λv _=>K v):=by
 refine eE1 Tryz.func120 51 λE a hMM hs=>?_;unfold qfg at hS;refine qr (sP3 (.string (mkS ([]:List UInt8))) (iv 0) (iv 0) hs λ_ hs=>?_);refine wn (qs (Wp.join (λa w=>∃(x4:Bool),Sx 51 E [] M w a [(0,(.string (mkS s1))),(20,(.bool x4))] [] []/\(qbC s1 M x4 K)) ?_ ?_))
 ·refine qg (sP3 (.string (mkS s1)) (.bool ((mkS s1).toList==(mkS ([]:List UInt8)).toList)) (.bool ((mkS s1).toList==(mkS ([]:List UInt8)).toList)) hs λ_ hs=>?_);refine bsS qaY hs hS (λhs hS=>?_) (λhs hS=>?_)
  ·repeat (first|refine sNo hs λ_ hs=>?_|refine sNu hs λ_ hs=>?_)
   refine sP (.bool true) hs λ_ hs=>?_;exact wn (⟨true,hs.q,hS⟩)
  ·refine ye (.string (mkS s1)) hs λ_ hs=>?_;refine sYe hs ?_;obtain⟨c2,h0,hi,hS⟩:=hS;refine sY (.int .u8 (c2.toNat:Int)) hs (Yl.indexStr rfl rfl rfl rfl (by kernel_rfl) h0 hi) λ_ hs=>?_;refine ye (.bool ((c2.toNat:Int) != (39:Int))) hs λ_ hs=>?_;refine ye (.bool ((c2.toNat:Int) != (39:Int))) hs λ_ hs=>?_;refine bsS bne_iff_ne hs hS (λhs hS=>?_) (λhs hS=>?_)
   ·refine ye (.string (mkS s1)) hs λ_ hs=>?_;refine sYe hs ?_;obtain⟨c3,h0,hi,hS⟩:=hS;refine sY (.int .u8 (c3.toNat:Int)) hs (Yl.indexStr rfl rfl rfl rfl (by kernel_rfl) h0 hi) λ_ hs=>?_;refine ye (.bool ((c3.toNat:Int) != (34:Int))) hs λ_ hs=>?_;refine ye (.bool ((c3.toNat:Int) != (34:Int))) hs λ_ hs=>?_;refine sP (.bool ((c3.toNat:Int) != (34:Int))) hs λ_ hs=>?_;exact wn (⟨((c3.toNat:Int) != (34:Int)),hs.q,hS⟩)
   ·repeat (first|refine sNo hs λ_ hs=>?_|refine sNu hs λ_ hs=>?_)
    refine ye (.bool false) hs λ_ hs=>?_;refine sP (.bool false) hs λ_ hs=>?_;exact wn (⟨false,hs.q,hS⟩)
 ·intro a w hJ;obtain⟨x4,hs,hS⟩:=hJ;unfold qbC at hS;refine Wp.cS hs Iff.rfl hS (λhS=>?_) (λhS=>?_)
  ·refine qr (sP3 (.string (mkS ([]:List UInt8))) (iv 0) (iv 4) hs λ_ hs=>?_);exact wn (qt (lvE K hs (qpt hs rfl rfl rfl rfl) hMM.2 hS))
  ·refine qk (qr (sP (.slice none 0 0) hs λ_ hs=>?_));have hs:=hs.nilrow 5 1;refine wn (Wp.join (λa w=>Sx 51 E [] M w a [] [] []/\(qcI K)) ?_ ?_)
   ·refine qr (sP (iv 1) hs λ_ hs=>?_);refine wn (qb ?_);obtain⟨I32,mu33,hI0,hst⟩:=hS;refine Wp.loop (σ:=(Int)×(Nat)×(List Value)×(Value)) (λ(i28,rn30,rx31,rv29) a w=>Sx 51 E [] M w a [(0,(.string (mkS s1))),(5,rv29),(6,(iv i28))] [] [⟨rv29,5,1,rn30,rx31,true⟩]/\I32 i28 rn30 rx31) (λ(i28,rn30,rx31,rv29)=>mu33 i28 rn30 rx31) (1,0,[],(.slice none 0 0)) ⟨hs.q,hI0⟩ (λs a w hI=>?_);obtain⟨i28,rn30,rx31,rv29⟩:=s;obtain⟨hs,hI⟩:=hI;have hS:=hst i28 rn30 rx31 hI;clear hst hI0 hI;refine qs (qr (sP4 (iv i28) (.string (mkS s1)) (iv (s1.length:Int)) (.bool (decide (i28<(s1.length:Int)))) hs λ_ hs=>?_));refine wn (Wp.cS hs decide_eq_true_iff hS (λhS=>?_) (λhS=>?_))
    ·refine qk (qb (qs (qs (Wp.regionD [true,true,true,true,true,true] hs (by kernel_rfl) rfl [] (λ_ h=>h) [⟨rv29,5,1,rn30,rx31,true⟩] (λ_ h=>h) (λ_ hs hC=>?_)))));have hL:=Mem.le.refl M;refine dA (Value.string (mkS s1)) 0 [2,5] hs λ_ hs=>?_;refine dA (iv i28) 1 [2,5] hs λ_ hs=>?_;obtain⟨c34,h0,hi,hS⟩:=hS;refine dF (.int .u8 (c34.toNat:Int)) 2 [5] hs rfl (Yl.indexStr rfl rfl rfl rfl (by kernel_rfl) h0 hi) λ_ hs=>?_;refine sE 3 ?_;refine sP (.string (mkS s1)) hs λ_ hs=>?_;refine nE 4 ?_;obtain⟨c35,h0,hi,hS⟩:=hS;refine sY (.int .u8 (c35.toNat:Int)) hs (Yl.indexStr rfl rfl rfl rfl (by kernel_rfl) h0 hi) λ_ hs=>?_;refine nE 5 ?_;refine sP (.bool ((c34.toNat:Int)==(c35.toNat:Int))) hs λ_ hs=>?_;refine wN ?_;refine dD ?_;refine Wp.cS hs beq_iff_eq hS (λhS=>?_) (λhS=>?_)
     ·refine qr (sP rv29 hs λ_ hs=>?_);obtain⟨x36,hb,hS⟩:=hS;refine sY (.string (mkS x36)) hs (Yl.bytesR (l:=x36) (e':=5) 0 (by rw[<-hb];rfl) rfl rfl (by kernel_rfl) (by kernel_rfl) (by kernel_rfl)) λ_ hs=>?_;refine sP (iv i28) hs λ_ hs=>?_;obtain⟨hI,hS⟩:=hS;refine sY (iv (i28+1)) hs (Yl.wr hI) λ_ hs=>?_;refine sP3 (.string (mkS x36)) (iv (i28+1)) (iv 0) hs λ_ hs=>?_;exact wn (qt (lvE K hs (qpt hs rfl rfl rfl rfl) hMM.2 hS))
     ·refine qk (qr (sP2 (.string (mkS s1)) (iv i28) hs λ_ hs=>?_));obtain⟨h0,h1,h2,hS⟩:=hS;refine sY (.string (mkS ((s1.take (s1.length:Int).toNat).drop i28.toNat))) hs (Yl.sliceStrL rfl rfl rfl rfl (by kernel_rfl) h0 h1 h2) λ_ hs=>?_;refine cP [(.string (mkS ((s1.take (s1.length:Int).toNat).drop i28.toNat))),(.string (mkS ([39,34,92]:List UInt8)))] hs Tryz.func154 hS λ_ _ v hS hs=>?_;obtain⟨x37,x38,rfl,hS⟩:=hS;refine sP4 (Value.tuple #[(.int .u8 x37),(iv x38)]) (.int .u8 x37) (iv x38) (.int .u8 x37) hs λ_ hs=>?_;refine sP (iv x38) hs λ_ hs=>?_;refine wn (qs (qr (sP2 (iv x38) (.bool ((x38:Int)==(0:Int))) hs λ_ hs=>?_)));refine wn (Wp.cS hs beq_iff_eq hS (λhS=>?_) (λhS=>?_))
      ·exact qx rfl (⟨(hs.weak (List.Sublist.refl _) (.cons _ List.Sublist.slnil) trivial),hS⟩)
      ·refine qk (qr (sP2 rv29 (.int .u8 x37) hs λ_ hs=>?_));refine qbp [(.int .u8 x37)] 5 1 1 hs rfl rfl rfl (λ_=>by kernel_rfl) rfl (by unfold maxLen;decide) (by decide) (λ_ _ rv39 hs=>?_);obtain⟨ad40,cap41,hv,hcp,hxl⟩:=hs.rowform 0 rfl
       dsimp only at hv hcp hxl
       subst hv;obtain⟨hB,hS⟩:=hS;refine qb9 1 [(.int .u8 x37)] hs rfl rfl rfl rfl rfl (by kernel_rfl) (by kernel_rfl) (by decide) (by decide) (hs.srcRow 0 rfl rfl) (qoQ hB (by decide)) hB (λ_ _ rv42 hs=>?_);replace hs:=hs.chrs (rs':=[⟨(Value.slice ad40 1 cap41),5,1,1,[(.int .u8 x37)],true⟩,⟨rv42,5,1,(rn30+1),(rx31++[(.int .u8 x37)]),true⟩]) rfl;refine sP rv42 hs λ_ hs=>?_;refine wn (qg (sP2 (iv i28) (iv x38) hs λ_ hs=>?_));obtain⟨hI,hS⟩:=hS;refine sY (iv (i28+x38)) hs (Yl.wr hI) λ_ hs=>?_;refine sP (iv (i28+x38)) hs λ_ hs=>?_;exact wn (⟨(i28+x38,(rn30+1),(rx31++[(.int .u8 x37)]),rv42),⟨(hs.qq (List.Sublist.refl _) (.cons _ (.cons_cons _ List.Sublist.slnil))),hS.1⟩,hS.2⟩)
    ·exact qx rfl (⟨(hs.weak (List.Sublist.refl _) (.cons _ List.Sublist.slnil) trivial),hS⟩)
   ·intro a w hJ;obtain⟨hs,hS⟩:=hJ;unfold qcI at hS;refine qr (sP3 (.string (mkS ([]:List UInt8))) (iv 0) (iv 4) hs λ_ hs=>?_);exact wn (qt (lvE K hs (qpt hs rfl rfl rfl rfl) hMM.2 hS))
end Go.Proofs.YtleaplmdgckmkaaGreatDoor.core
