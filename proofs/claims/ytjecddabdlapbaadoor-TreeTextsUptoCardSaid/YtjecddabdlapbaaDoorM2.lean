/- Contracts and what they hang on, of several parts. No condition. -/
import Derived.Shelf.Strings.BuilderK
import Derived.Test.YtjecddabdlapbaaDoorM1
import Derived.Shelf.Strings.Builder1
import Derived.WalkKit
import Derived.Shelf.LaysM
import Derived.Shelf.Strconv.Itoa3
import Derived.Shelf.LaysC
import Derived.Shelf.Strconv.AtoiAll
import Derived.Shelf.Strconv.ErrVarAll
import Derived.Lib.AtoiErrMem
import Derived.Lib.AppendIntMem
import Derived.Shelf.Strings.OnBuilder
import Derived.RangeFuncNested
import Derived.RangeFuncBound
import Derived.RangeFuncCalls
import Derived.RangeFuncLeaves
import Derived.RangeFuncWrites
import Derived.RangeFuncBox
import Derived.Shelf.Abstract
import Derived.OwnWalkIn
import Derived.TacticsInMore
import Derived.LoopNIn
import Derived.LoopIn
import Derived.Maps.OwnIn
import Derived.Maps.AppendAt
import Derived.StringKeys
import Derived.Lib.LaidU8
import Derived.LaidLaws
import Derived.Test.YtjecddabdlapbaaDoorRows
namespace Go.Proofs.YtjecddabdlapbaaDoor.core
open Go.Gx Go.RowKit Go.ChangeShapes Go.WideShapes Go.ChangeAt
set_option linter.unusedVariables false
open Go.Shelf
def sh_lays169_ren:Go.Shelf.Ren:=⟨λ|169=>72|n=>n,λ|70=>110|9=>9|0=>0|72=>112|37=>85|127=>146|3=>3|5=>5|n=>n,λ|n=>n⟩
theorem sh_lays169:Go.Proofs.Lays.n169 Tryd.prog sh_lays169_ren:={
 mixed:=by kernel_rfl
 f169:=Tryd.func72.trans (congrArg some (by kernel_rfl))
 t0:=Tryd.underlying0
 a0:=Tryd.isAgg0
 z0:=Tryd.sizeOf0
 v0:=Tryd.zeroValue0
 t3:=Tryd.underlying3
 a3:=Tryd.isAgg3
 z3:=Tryd.sizeOf3
 v3:=Tryd.zeroValue3
 t9:=Tryd.underlying9
 a9:=Tryd.isAgg9
 z9:=Tryd.sizeOf9
 v9:=Tryd.zeroValue9
 t37:=Tryd.underlying85
 a37:=Tryd.isAgg85
 z37:=Tryd.sizeOf85
 v37:=Tryd.zeroValue85
 t70:=Tryd.underlying110
 a70:=Tryd.isAgg110
 z70:=Tryd.sizeOf110
 v70:=Tryd.zeroValue110
 t72:=Tryd.underlying112
 a72:=Tryd.isAgg112
 z72:=Tryd.sizeOf112
 v72:=Tryd.zeroValue112
 t127:=Tryd.underlying146
 a127:=Tryd.isAgg146
 z127:=Tryd.sizeOf146
 v127:=Tryd.zeroValue146}
theorem sh_Builder_Extra_169:Builder.Extra Tryd.prog sh_lays169_ren:={
 sizeBuilder:=by kernel_rfl
 liesBuilder:=by kernel_rfl
 t5:=Tryd.underlying5
 a5:=Tryd.isAgg5
 z5:=Tryd.sizeOf5
 v5:=Tryd.zeroValue5
 infoByte:=by kernel_rfl
 cellsByte:=by kernel_rfl
 sizeByte:=by kernel_rfl
 neB5:=by decide}
open Go.RowKit in
theorem sh_Builder_String_any_k (B b:Nat) (l:List UInt8) (w:World) (h:Lib.IsBuilderF 112 5 B b (Lib.byteCells l) w) (hBw:B<=w.heap.size):
  Calls Tryd.prog 72 #[.pointer (some ⟨b,0,none⟩)] w λe w'=>e= .returned (.string ⟨l.toArray⟩)/\(Lib.IsBuilderF 112 5 B b (Lib.byteCells l) w'/\Below B w w'/\Lib.OthersKept 5 (some b) w w'):=Any.Builder_String_any_k sh_lays169 sh_Builder_Extra_169 B b l w h hBw
end Go.Proofs.YtjecddabdlapbaaDoor.core

namespace Go.Proofs.YtjecddabdlapbaaDoor.core
open Go.Gx Go.RowKit Go.ChangeShapes Go.WideShapes Go.ChangeAt
set_option linter.unusedVariables false
def adr (b:Nat) (u:Bool):Option Addr:=if u then some ⟨b,0,none⟩ else none
def C_strings_Builder_copyCheck (b2:Bool) (rn4:Nat) (rx5:List Value) (M:Mem) (K:Value->Bool->Nat->List Value->Mem->Prop):Prop:=∀(b1:Nat) (rv3:Value),CallL Tryd.prog 130 #[(Value.pointer (some ⟨b1,0,none⟩))] M [⟨b1,112,[(Value.pointer (adr b1 b2)),rv3]⟩] [⟨rv3,5,1,rn4,rx5,false⟩] (λv lb' lr' M'=>∃(c9:Bool) (rn7:Nat) (rx8:List Value) (rv6:Value),lb'=[⟨b1,112,[(Value.pointer (adr b1 c9)),rv6]⟩]/\lr'=[⟨rv6,5,1,rn7,rx8,false⟩]/\K v c9 rn7 rx8 M')
def C_strings_Builder_WriteString (s6:List UInt8) (b2:Bool) (rn4:Nat) (rx5:List Value) (M:Mem) (K:Value->Bool->Nat->List Value->Mem->Prop):Prop:=∀(b1:Nat) (rv3:Value),CallL Tryd.prog 108 #[(Value.pointer (some ⟨b1,0,none⟩)),(Value.string (mkS s6))] M [⟨b1,112,[(Value.pointer (adr b1 b2)),rv3]⟩] [⟨rv3,5,1,rn4,rx5,false⟩] (λv lb' lr' M'=>∃(c10:Bool) (rn8:Nat) (rx9:List Value) (rv7:Value),lb'=[⟨b1,112,[(Value.pointer (adr b1 c10)),rv7]⟩]/\lr'=[⟨rv7,5,1,rn8,rx9,false⟩]/\K v c10 rn8 rx9 M')
def C_tree_write (t1:X_api_Tree) (out3:Bool) (rn5:Nat) (rx6:List Value) (M:Mem) (K:Value->Bool->Nat->List Value->Mem->Prop):Prop:=∀(b2:Nat) (rv4:Value),CallL Tryd.prog 71 #[t1.val,(Value.pointer (some ⟨b2,0,none⟩))] M [⟨b2,112,[(Value.pointer (adr b2 out3)),rv4]⟩] [⟨rv4,5,1,rn5,rx6,false⟩] (λv lb' lr' M'=>∃(c10:Bool) (rn8:Nat) (rx9:List Value) (rv7:Value),lb'=[⟨b2,112,[(Value.pointer (adr b2 c10)),rv7]⟩]/\lr'=[⟨rv7,5,1,rn8,rx9,false⟩]/\K v c10 rn8 rx9 M')
def S_strings_Builder_WriteString (s6:List UInt8) (b2:Bool) (rn4:Nat) (rx5:List Value) (M:Mem) (K:Value->Bool->Nat->List Value->Mem->Prop):Prop:=
 (C_strings_Builder_copyCheck b2 rn4 rx5 M (λv c14 rn15 rx16 M13=>v=(Value.tuple #[])/\(rn15+s6.length<=140737488355328/\K (Value.tuple #[(Value.int .i64 ((s6.length:Nat):Int)),Value.nilIface]) c14 (rn15+s6.length) (rx16++Lib.strCells (mkS s6)) M13)))
set_option linter.unusedVariables false in
set_option maxRecDepth 100000 in
theorem s_strings_Builder_WriteString (s6:List UInt8) (b2:Bool) (rn4:Nat) (rx5:List Value) (M:Mem) (K:Value->Bool->Nat->List Value->Mem->Prop) (hS:S_strings_Builder_WriteString s6 b2 rn4 rx5 M K):C_strings_Builder_WriteString s6 b2 rn4 rx5 M K:=by
 intro b1 rv3
 refine enterL Tryd.func108 rfl 19 rfl (Nat.le_of_ble_eq_true rfl) (λE a hs=>?_)
 unfold S_strings_Builder_WriteString at hS
 have hMM:=MX.refl M E
 change Sx 19 E (blk [⟨b1,112,[(Value.pointer (adr b1 b2)),rv3]⟩] [⟨rv3,5,1,rn4,rx5,false⟩]) M E a [(0,(Value.pointer (some ⟨b1,0,none⟩))),(1,(Value.string (mkS s6)))] [⟨b1,112,[(Value.pointer (adr b1 b2)),rv3]⟩] [⟨rv3,5,1,rn4,rx5,false⟩]at hs
 refine Wp.seq (Wp.region (sP (Value.int .i64 0) hs λ_ hs=>?_))
 refine sP Value.nilIface hs λ_ hs=>?_
 refine wpList_nil (Wp.seq (Wp.region (sP (Value.pointer (some ⟨b1,0,none⟩)) hs λ_ hs=>?_)))
 refine stepCallL [(Value.pointer (some ⟨b1,0,none⟩))] [⟨b1,112,[(Value.pointer (adr b1 b2)),rv3]⟩] [] [⟨rv3,5,1,rn4,rx5,false⟩] [] false hs rfl rfl rfl rfl ⟨_,rfl,rfl⟩ rfl Tryd.func130 rfl (by kernel_rfl) (by decide) (hS _ _) (λ_ _ M13 v lb lr hle hnew hS hs=>?_)
 have hMM:=hMM.next hle hnew
 obtain⟨c14,rn15,rx16,rv17,hlb,hlr,hS⟩:=hS
 subst hlb hlr
 obtain⟨hv,hS⟩:=hS
 subst hv
 replace hs:=hs.chbx (bs':=[⟨b1,112,[(Value.pointer (adr b1 c14)),rv17]⟩]) rfl
 replace hs:=hs.chrs (rs':=[⟨rv17,5,1,rn15,rx16,false⟩]) rfl
 refine wpList_nil (Wp.seq (Wp.region (sP (Value.pointer (some ⟨b1,0,none⟩)) hs λ_ hs=>?_)))
 refine sP (Value.pointer (some ⟨b1,0,none⟩)) hs λ_ hs=>?_
 refine sP (Value.pointer (some ⟨b1,0,none⟩)) hs λ_ hs=>?_
 refine sP (Value.pointer (some ⟨b1,1,none⟩)) hs λ_ hs=>?_
 refine sY rv17 hs (Yl.loadB (vs:=[rv17]) false 0 rfl rfl rfl (by kernel_rfl) rfl) λ_ hs=>?_
 refine sP (Value.string (mkS s6)) hs λ_ hs=>?_
 obtain⟨hB,hS⟩:=hS
 refine stepAppendS 0 hs rfl rfl rfl rfl rfl (by kernel_rfl) (by kernel_rfl) (by kernel_rfl) (by decide) hB (λ_ _ rv18 hs=>?_)
 replace hs:=hs.chrs (rs':=[⟨rv18,5,1,(rn15+s6.length),(rx16++Lib.strCells (mkS s6)),false⟩]) rfl
 refine sP (Value.pointer (some ⟨b1,0,none⟩)) hs λ_ hs=>?_
 refine sP (Value.pointer (some ⟨b1,1,none⟩)) hs λ_ hs=>?_
 obtain⟨ad19,cap20,hv,hcp,hxl⟩:=hs.rowform 0 rfl
 dsimp only at hv hcp hxl
 subst hv
 refine stepStoreB 0 (vs:=[(Value.slice ad19 (rn15+s6.length) cap20)]) hs rfl rfl rfl rfl rfl rfl (by kernel_rfl) (Nat.le_of_ble_eq_true rfl) rfl (λ_ _ hs=>?_)
 replace hs:=hs.chbx (bs':=[⟨b1,112,[(Value.pointer (adr b1 c14)),(Value.slice ad19 (rn15+s6.length) cap20)]⟩]) rfl
 refine wpList_nil (Wp.seq (Wp.region (sP (Value.string (mkS s6)) hs λ_ hs=>?_)))
 refine sP (Value.int .i64 ((s6.length:Nat):Int)) hs λ_ hs=>?_
 refine sP (Value.int .i64 ((s6.length:Nat):Int)) hs λ_ hs=>?_
 refine sP Value.nilIface hs λ_ hs=>?_
 exact wpList_nil (Wp.ret (leaveL hs (resTT hs rfl rfl rfl) hMM.1 hMM.2 [⟨b1,112,[(Value.pointer (adr b1 c14)),(Value.slice ad19 (rn15+s6.length) cap20)]⟩] [⟨(Value.slice ad19 (rn15+s6.length) cap20),5,1,(rn15+s6.length),(rx16++Lib.strCells (mkS s6)),false⟩] (List.Sublist.refl _) (List.Sublist.refl _) rfl ⟨c14,(rn15+s6.length),(rx16++Lib.strCells (mkS s6)),(Value.slice ad19 (rn15+s6.length) cap20),rfl,rfl,hS⟩))
def S_tree_write (t1:X_api_Tree) (out3:Bool) (rn5:Nat) (rx6:List Value) (M:Mem) (K:Value->Bool->Nat->List Value->Mem->Prop):Prop:=
 (CallE Tryd.prog 88 #[(Value.int .i64 t1.Rule)] M (λv _=>∃(x12:List UInt8),v=(Value.string (mkS x12))/\(x12.length+([58]:List UInt8).length<=9223372036854775807/\(CallE Tryd.prog 88 #[(Value.int .i64 t1.From)] M (λv _=>∃(x13:List UInt8),v=(Value.string (mkS x13))/\((x12++([58]:List UInt8)).length+x13.length<=9223372036854775807/\((x12++([58]:List UInt8)++x13).length+([45]:List UInt8).length<=9223372036854775807/\(CallE Tryd.prog 88 #[(Value.int .i64 t1.To)] M (λv _=>∃(x14:List UInt8),v=(Value.string (mkS x14))/\((x12++([58]:List UInt8)++x13++([45]:List UInt8)).length+x14.length<=9223372036854775807/\(C_strings_Builder_WriteString (x12++([58]:List UInt8)++x13++([45]:List UInt8)++x14) out3 rn5 rx6 M (λv c18 rn19 rx20 M17=>∃(x15:Int) (x16:Value),v=(Value.tuple #[(Value.int .i64 x15),x16])/\(∃(I79:Int->Bool->Nat->List Value->Mem->Prop) (mu80:Int->Bool->Nat->List Value->Nat),I79 0 c18 rn19 rx20 M17/\∀(x73:Int) (c74:Bool) (rn76:Nat) (rx77:List Value) (M78:Mem),(I79 x73 c74 rn76 rx77 M78->((x73<((t1.Kids_l:Nat):Int)->(∃(b81 o82:Nat),t1.Kids_a=some ⟨b81,o82,none⟩/\(0:Int)<=x73/\x73<((t1.Kids_l:Nat):Int)/\(∃(x83:X_api_Tree),At M78 b81 (o82+x73.toNat*4) x83.cells/\((0:Int)<=(if 1<x73 then 1 else x73)/\(if 1<x73 then 1 else x73)<((2:Nat):Int)/\(∃(x90:List UInt8),Cs [(Value.string (mkS ([40]:List UInt8))),(Value.string (mkS ([32]:List UInt8)))] (0+(if 1<x73 then 1 else x73).toNat*1) [(Value.string (mkS x90))]/\(C_strings_Builder_WriteString x90 c74 rn76 rx77 M78 (λv c94 rn95 rx96 M93=>∃(x91:Int) (x92:Value),v=(Value.tuple #[(Value.int .i64 x91),x92])/\(C_tree_write x83 c94 rn95 rx96 M93 (λv c99 rn100 rx101 M98=>v=(Value.tuple #[])/\(InI (x73+1)/\I79 (x73+1) c99 rn100 rx101 M98/\mu80 (x73+1) c99 rn100 rx101<mu80 x73 c74 rn76 rx77))))))))))/\(¬(x73<((t1.Kids_l:Nat):Int))->((((t1.Kids_l:Nat):Int)>0->(C_strings_Builder_WriteString ([41]:List UInt8) c74 rn76 rx77 M78 (λv c106 rn107 rx108 M105=>∃(x103:Int) (x104:Value),v=(Value.tuple #[(Value.int .i64 x103),x104])/\K (Value.tuple #[]) c106 rn107 rx108 M105)))/\(¬(((t1.Kids_l:Nat):Int)>0)->K (Value.tuple #[]) c74 rn76 rx77 M78))))))))))))))))))
set_option linter.unusedVariables false in
set_option maxRecDepth 100000 in
theorem s_tree_write (t1:X_api_Tree) (out3:Bool) (rn5:Nat) (rx6:List Value) (M:Mem) (K:Value->Bool->Nat->List Value->Mem->Prop) (hS:S_tree_write t1 out3 rn5 rx6 M K):C_tree_write t1 out3 rn5 rx6 M K:=by
 intro b2 rv4
 refine enterL Tryd.func71 rfl 46 rfl (Nat.le_of_ble_eq_true rfl) (λE a hs=>?_)
 unfold S_tree_write at hS
 have hMM:=MX.refl M E
 change Sx 46 E (blk [⟨b2,112,[(Value.pointer (adr b2 out3)),rv4]⟩] [⟨rv4,5,1,rn5,rx6,false⟩]) M E a [(0,t1.val),(1,(Value.pointer (some ⟨b2,0,none⟩)))] [⟨b2,112,[(Value.pointer (adr b2 out3)),rv4]⟩] [⟨rv4,5,1,rn5,rx6,false⟩]at hs
 refine Wp.seq (Wp.region (stepBox [(Value.int .i64 t1.Rule),(Value.int .i64 t1.From),(Value.int .i64 t1.To),(Value.slice t1.Kids_a t1.Kids_l t1.Kids_c)] hs rfl rfl rfl (by decide) (λ_ _ b11 hEb11 hs=>?_)))
 refine wpList_nil (Wp.seq (Wp.regionD [true,true,true,true,true,true,true,true,true,true,true,true,true,true,false] hs (by kernel_rfl) rfl [⟨b11,48,[(Value.int .i64 t1.Rule),(Value.int .i64 t1.From),(Value.int .i64 t1.To),(Value.slice t1.Kids_a t1.Kids_l t1.Kids_c)]⟩,⟨b2,112,[(Value.pointer (adr b2 out3)),rv4]⟩] (λ_ h=>h) [⟨rv4,5,1,rn5,rx6,false⟩] (λ_ h=>h) (λ_ hs hC=>?_)))
 have hL:=Mem.le.refl M
 refine dP (Value.pointer (some ⟨b2,0,none⟩)) 0 [14] hs QZ.no (wanted_none rfl) λ_ hs=>?_
 refine dP (Value.pointer (some ⟨b11,0,none⟩)) 1 [2,3,4,7,8,9,12,13,14] hs QZ.no (wanted_none rfl) λ_ hs=>?_
 refine stepDY (v:=(Value.int .i64 t1.Rule)) 2 [3,4,7,8,9,12,13,14] hs hC QZ.no rfl (wanted_none rfl) rfl (by decide) (by kernel_rfl) (by kernel_rfl) (by kernel_rfl) (Yl.loadB (vs:=[(Value.int .i64 t1.Rule)]) false 0 rfl rfl rfl (by kernel_rfl) rfl) (λ_ hs=>?_)
 refine dP (Value.pointer (some ⟨b11,1,none⟩)) 5 [6,7,8,9,12,13,14] hs QZ.no (wanted_none rfl) λ_ hs=>?_
 refine stepDY (v:=(Value.int .i64 t1.From)) 6 [7,8,9,12,13,14] hs hC QZ.no rfl (wanted_none rfl) rfl (by decide) (by kernel_rfl) (by kernel_rfl) (by kernel_rfl) (Yl.loadB (vs:=[(Value.int .i64 t1.From)]) false 0 rfl rfl rfl (by kernel_rfl) rfl) (λ_ hs=>?_)
 refine dP (Value.pointer (some ⟨b11,2,none⟩)) 10 [11,12,13,14] hs QZ.no (wanted_none rfl) λ_ hs=>?_
 refine stepDY (v:=(Value.int .i64 t1.To)) 11 [12,13,14] hs hC QZ.no rfl (wanted_none rfl) rfl (by decide) (by kernel_rfl) (by kernel_rfl) (by kernel_rfl) (Yl.loadB (vs:=[(Value.int .i64 t1.To)]) false 0 rfl rfl rfl (by kernel_rfl) rfl) (λ_ hs=>?_)
 refine stepDE 3 rfl (wanted_none rfl) (by kernel_rfl) #[] ?_
 refine stepCallP [(Value.int .i64 t1.Rule)] hs rfl ⟨_,rfl,rfl⟩ rfl Tryd.func88 rfl (by kernel_rfl) (by decide) hS (λ_ _ v hS hs=>?_)
 obtain⟨x12,hv,hS⟩:=hS
 subst hv
 refine wpList_nil (⟨λ_ _=>hs.cxle hL (List.Sublist.refl _) (List.Sublist.refl _),?_⟩)
 have hC:=hs.cxle hL (List.Sublist.refl _) (List.Sublist.refl _)
 obtain⟨hl,hS⟩:=hS
 refine stepDP (v:=(Value.string (mkS (x12++([58]:List UInt8))))) 4 [8,9,13,14] hs QZ.no rfl (wanted_none rfl) rfl (by decide) (by kernel_rfl) (by kernel_rfl) (by kernel_rfl) (Yl.concat rfl rfl rfl rfl hl) (λ_ hs=>?_)
 refine stepDE 7 rfl (wanted_none rfl) (by kernel_rfl) #[] ?_
 refine stepCallP [(Value.int .i64 t1.From)] hs rfl ⟨_,rfl,rfl⟩ rfl Tryd.func88 rfl (by kernel_rfl) (by decide) hS (λ_ _ v hS hs=>?_)
 obtain⟨x13,hv,hS⟩:=hS
 subst hv
 refine wpList_nil (⟨λ_ _=>hs.cxle hL (List.Sublist.refl _) (List.Sublist.refl _),?_⟩)
 have hC:=hs.cxle hL (List.Sublist.refl _) (List.Sublist.refl _)
 obtain⟨hl,hS⟩:=hS
 refine stepDP (v:=(Value.string (mkS (x12++([58]:List UInt8)++x13)))) 8 [9,13,14] hs QZ.no rfl (wanted_none rfl) rfl (by decide) (by kernel_rfl) (by kernel_rfl) (by kernel_rfl) (Yl.concat rfl rfl rfl rfl hl) (λ_ hs=>?_)
 obtain⟨hl,hS⟩:=hS
 refine stepDP (v:=(Value.string (mkS (x12++([58]:List UInt8)++x13++([45]:List UInt8))))) 9 [13,14] hs QZ.no rfl (wanted_none rfl) rfl (by decide) (by kernel_rfl) (by kernel_rfl) (by kernel_rfl) (Yl.concat rfl rfl rfl rfl hl) (λ_ hs=>?_)
 refine stepDE 12 rfl (wanted_none rfl) (by kernel_rfl) #[] ?_
 refine stepCallP [(Value.int .i64 t1.To)] hs rfl ⟨_,rfl,rfl⟩ rfl Tryd.func88 rfl (by kernel_rfl) (by decide) hS (λ_ _ v hS hs=>?_)
 obtain⟨x14,hv,hS⟩:=hS
 subst hv
 refine wpList_nil (⟨λ_ _=>hs.cxle hL (List.Sublist.refl _) (List.Sublist.refl _),?_⟩)
 have hC:=hs.cxle hL (List.Sublist.refl _) (List.Sublist.refl _)
 refine stepDE 13 rfl (wanted_none rfl) (by kernel_rfl) #[] ?_
 obtain⟨hl,hS⟩:=hS
 refine sY (Value.string (mkS (x12++([58]:List UInt8)++x13++([45]:List UInt8)++x14))) hs (Yl.concat rfl rfl rfl rfl hl) λ_ hs=>?_
 refine wpList_nil (⟨λ_ h=>h,?_⟩)
 refine stepDE 14 rfl (wanted_none rfl) (by kernel_rfl) #[] ?_
 replace hs:=hs.bfront 1 rfl rfl
 refine stepCallL [(Value.pointer (some ⟨b2,0,none⟩)),(Value.string (mkS (x12++([58]:List UInt8)++x13++([45]:List UInt8)++x14)))] [⟨b2,112,[(Value.pointer (adr b2 out3)),rv4]⟩] [⟨b11,48,[(Value.int .i64 t1.Rule),(Value.int .i64 t1.From),(Value.int .i64 t1.To),(Value.slice t1.Kids_a t1.Kids_l t1.Kids_c)]⟩] [⟨rv4,5,1,rn5,rx6,false⟩] [] false hs rfl rfl rfl rfl ⟨_,rfl,rfl⟩ rfl Tryd.func108 rfl (by kernel_rfl) (by decide) (hS _ _) (λ_ _ M17 v lb lr hle hnew hS hs=>?_)
 have hMM:=hMM.next hle hnew
 replace hL:=hL.trans hle
 obtain⟨c18,rn19,rx20,rv21,hlb,hlr,hS⟩:=hS
 subst hlb hlr
 obtain⟨x15,x16,hv,hS⟩:=hS
 subst hv
 replace hs:=hs.chbx (bs':=[⟨b2,112,[(Value.pointer (adr b2 c18)),rv21]⟩,⟨b11,48,[(Value.int .i64 t1.Rule),(Value.int .i64 t1.From),(Value.int .i64 t1.To),(Value.slice t1.Kids_a t1.Kids_l t1.Kids_c)]⟩]) rfl
 replace hs:=hs.chrs (rs':=[⟨rv21,5,1,rn19,rx20,false⟩]) rfl
 replace hs:=hs.bback 1 (l':=[⟨b11,48,[(Value.int .i64 t1.Rule),(Value.int .i64 t1.From),(Value.int .i64 t1.To),(Value.slice t1.Kids_a t1.Kids_l t1.Kids_c)]⟩,⟨b2,112,[(Value.pointer (adr b2 c18)),rv21]⟩]) rfl
 refine wpList_nil (⟨λh=>absurd h (by decide),?_⟩)
 refine WpD.done (by kernel_rfl) ?_ _
 refine Wp.seq (Wp.seq (Wp.region (sP (Value.pointer (some ⟨b11,3,none⟩)) hs λ_ hs=>?_)))
 refine sY (Value.slice t1.Kids_a t1.Kids_l t1.Kids_c) hs (Yl.loadB (vs:=[(Value.slice t1.Kids_a t1.Kids_l t1.Kids_c)]) false 0 rfl rfl rfl (by kernel_rfl) rfl) λ_ hs=>?_
 refine sP (Value.int .i64 ((t1.Kids_l:Nat):Int)) hs λ_ hs=>?_
 refine sP (Value.int .i64 0) hs λ_ hs=>?_
 refine wpList_nil (Wp.block ?_)
 obtain⟨I79,mu80,hI0,hst⟩:=hS
 refine Wp.loop (σ:=(Int)×(Bool)×(Nat)×(List Value)×(Value)×(Mem)) (λs a w=>match s with|(x73,c74,rn76,rx77,rv75,M78)=>MX M78 M E/\Sx 46 E (blk [⟨b2,112,[(Value.pointer (adr b2 out3)),rv4]⟩] [⟨rv4,5,1,rn5,rx6,false⟩]) M78 w a [(1,(Value.pointer (some ⟨b2,0,none⟩))),(2,(Value.pointer (some ⟨b11,0,none⟩))),(22,(Value.slice t1.Kids_a t1.Kids_l t1.Kids_c)),(23,(Value.int .i64 ((t1.Kids_l:Nat):Int))),(24,(Value.int .i64 x73))] [⟨b11,48,[(Value.int .i64 t1.Rule),(Value.int .i64 t1.From),(Value.int .i64 t1.To),(Value.slice t1.Kids_a t1.Kids_l t1.Kids_c)]⟩,⟨b2,112,[(Value.pointer (adr b2 c74)),rv75]⟩] [⟨rv75,5,1,rn76,rx77,false⟩]/\I79 x73 c74 rn76 rx77 M78) (λs=>match s with|(x73,c74,rn76,rx77,rv75,M78)=>mu80 x73 c74 rn76 rx77) (0,c18,rn19,rx20,rv21,M17) ⟨hMM,(hs.weak (List.Sublist.refl _) (List.Sublist.refl _) ⟨rfl,rfl,rfl,rfl,rfl,trivial⟩),hI0⟩ (λs a w hI=>?_)
 obtain⟨x73,c74,rn76,rx77,rv75,M78⟩:=s
 obtain⟨hMM,hs,hI⟩:=hI
 have hS:=hst x73 c74 rn76 rx77 M78 hI
 clear hst hI0 hI
 refine Wp.seq (Wp.region (sP (Value.bool (decide (x73<((t1.Kids_l:Nat):Int)))) hs λ_ hs=>?_))
 refine wpList_nil (Wp.seq (Wp.cond hs rfl rfl decide_eq_true_iff (λhc=>?_) (λhc=>?_)))
 ·have hS:=hS.1 hc
  refine Wp.skip (Wp.seq (Wp.block (Wp.seq (Wp.region (sP (Value.int .i64 x73) hs λ_ hs=>?_)))))
  obtain⟨b81,o82,ha,h0,hl,hS⟩:=hS
  refine sY (Value.pointer (some ⟨b81,o82+x73.toNat*4,none⟩)) hs (Yl.indexS (e:=48) (sz:=4) rfl rfl rfl rfl (by kernel_rfl) (by kernel_rfl) ha h0 hl) λ_ hs=>?_
  obtain⟨x83,hat,hS⟩:=hS
  refine sY x83.val hs (Yl.loadV (vs:=x83.cells) true rfl rfl (by kernel_rfl) hat) λ_ hs=>?_
  refine stepAlloc [(Value.int .i64 0),(Value.int .i64 0),(Value.int .i64 0),(Value.slice none 0 0)] hs (by kernel_rfl) (by decide) (λ_ _ b84 hEb84 hs=>?_)
  refine sP (Value.int .i64 x73) hs λ_ hs=>?_
  refine stepStoreB 0 (vs:=[(Value.int .i64 x83.Rule),(Value.int .i64 x83.From),(Value.int .i64 x83.To),(Value.slice x83.Kids_a x83.Kids_l x83.Kids_c)]) hs rfl rfl rfl rfl rfl rfl (by kernel_rfl) (Nat.le_of_ble_eq_true rfl) rfl (λ_ _ hs=>?_)
  replace hs:=hs.chbx (bs':=[⟨b84,48,[(Value.int .i64 x83.Rule),(Value.int .i64 x83.From),(Value.int .i64 x83.To),(Value.slice x83.Kids_a x83.Kids_l x83.Kids_c)]⟩,⟨b11,48,[(Value.int .i64 t1.Rule),(Value.int .i64 t1.From),(Value.int .i64 t1.To),(Value.slice t1.Kids_a t1.Kids_l t1.Kids_c)]⟩,⟨b2,112,[(Value.pointer (adr b2 c74)),rv75]⟩]) rfl
  refine wpList_nil (Wp.seq (Wp.region (sP (Value.pointer (some ⟨b2,0,none⟩)) hs λ_ hs=>?_)))
  refine stepMake [(Value.string (mkS ([40]:List UInt8))),(Value.string (mkS ([32]:List UInt8)))] 9 1 2 hs rfl rfl rfl (λ_=>by kernel_rfl) rfl (by unfold maxLen;decide) (by decide) (λ_ _ rv85 hs=>?_)
  refine sP (Value.int .i64 x73) hs λ_ hs=>?_
  refine sP (Value.int .i64 (if 1<x73 then 1 else x73)) hs λ_ hs=>?_
  obtain⟨ad86,cap87,hv,hcp,hxl⟩:=hs.rowform 0 rfl
  dsimp only at hv hcp hxl
  subst hv
  obtain⟨h0,hl,hS⟩:=hS
  have hix88:(if 1<x73 then 1 else x73).toNat<2:=by omega
  obtain⟨g89,hg89⟩:=hs.rowblk 0 rfl (by omega)
  refine sY (Value.pointer (some ⟨g89,0+(if 1<x73 then 1 else x73).toNat*1,none⟩)) hs (Yl.indexS (e:=9) (sz:=1) rfl rfl rfl rfl (by kernel_rfl) (by kernel_rfl) hg89 h0 hl) λ_ hs=>?_
  obtain⟨x90,hcs,hS⟩:=hS
  refine sY (Value.string (mkS x90)) hs (Yl.loadR (vs:=[(Value.string (mkS x90))]) 0 false rfl hg89 rfl rfl (by kernel_rfl) hcs) λ_ hs=>?_
  replace hs:=hs.bfront 2 rfl rfl
  replace hs:=hs.rfront 1 rfl rfl
  refine stepCallL [(Value.pointer (some ⟨b2,0,none⟩)),(Value.string (mkS x90))] [⟨b2,112,[(Value.pointer (adr b2 c74)),rv75]⟩] [⟨b84,48,[(Value.int .i64 x83.Rule),(Value.int .i64 x83.From),(Value.int .i64 x83.To),(Value.slice x83.Kids_a x83.Kids_l x83.Kids_c)]⟩,⟨b11,48,[(Value.int .i64 t1.Rule),(Value.int .i64 t1.From),(Value.int .i64 t1.To),(Value.slice t1.Kids_a t1.Kids_l t1.Kids_c)]⟩] [⟨rv75,5,1,rn76,rx77,false⟩] [⟨(Value.slice ad86 2 cap87),9,1,2,[(Value.string (mkS ([40]:List UInt8))),(Value.string (mkS ([32]:List UInt8)))],true⟩] false hs rfl rfl rfl rfl ⟨_,rfl,rfl⟩ rfl Tryd.func108 rfl (by kernel_rfl) (by decide) (hS _ _) (λ_ _ M93 v lb lr hle hnew hS hs=>?_)
  have hMM:=hMM.next hle hnew
  obtain⟨c94,rn95,rx96,rv97,hlb,hlr,hS⟩:=hS
  subst hlb hlr
  obtain⟨x91,x92,hv,hS⟩:=hS
  subst hv
  replace hs:=hs.chbx (bs':=[⟨b2,112,[(Value.pointer (adr b2 c94)),rv97]⟩,⟨b84,48,[(Value.int .i64 x83.Rule),(Value.int .i64 x83.From),(Value.int .i64 x83.To),(Value.slice x83.Kids_a x83.Kids_l x83.Kids_c)]⟩,⟨b11,48,[(Value.int .i64 t1.Rule),(Value.int .i64 t1.From),(Value.int .i64 t1.To),(Value.slice t1.Kids_a t1.Kids_l t1.Kids_c)]⟩]) rfl
  replace hs:=hs.chrs (rs':=[⟨rv97,5,1,rn95,rx96,false⟩,⟨(Value.slice ad86 2 cap87),9,1,2,[(Value.string (mkS ([40]:List UInt8))),(Value.string (mkS ([32]:List UInt8)))],true⟩]) rfl
  replace hs:=hs.bback 2 (l':=[⟨b84,48,[(Value.int .i64 x83.Rule),(Value.int .i64 x83.From),(Value.int .i64 x83.To),(Value.slice x83.Kids_a x83.Kids_l x83.Kids_c)]⟩,⟨b11,48,[(Value.int .i64 t1.Rule),(Value.int .i64 t1.From),(Value.int .i64 t1.To),(Value.slice t1.Kids_a t1.Kids_l t1.Kids_c)]⟩,⟨b2,112,[(Value.pointer (adr b2 c94)),rv97]⟩]) rfl
  replace hs:=hs.rback 1 (l':=[⟨(Value.slice ad86 2 cap87),9,1,2,[(Value.string (mkS ([40]:List UInt8))),(Value.string (mkS ([32]:List UInt8)))],true⟩,⟨rv97,5,1,rn95,rx96,false⟩]) rfl
  refine wpList_nil (Wp.region (sY x83.val hs (Yl.loadB (vs:=x83.cells) true 0 rfl rfl rfl (by kernel_rfl) rfl) λ_ hs=>?_))
  refine sP (Value.pointer (some ⟨b2,0,none⟩)) hs λ_ hs=>?_
  replace hs:=hs.bfront 2 rfl rfl
  replace hs:=hs.rfront 1 rfl rfl
  refine stepCallL [x83.val,(Value.pointer (some ⟨b2,0,none⟩))] [⟨b2,112,[(Value.pointer (adr b2 c94)),rv97]⟩] [⟨b84,48,[(Value.int .i64 x83.Rule),(Value.int .i64 x83.From),(Value.int .i64 x83.To),(Value.slice x83.Kids_a x83.Kids_l x83.Kids_c)]⟩,⟨b11,48,[(Value.int .i64 t1.Rule),(Value.int .i64 t1.From),(Value.int .i64 t1.To),(Value.slice t1.Kids_a t1.Kids_l t1.Kids_c)]⟩] [⟨rv97,5,1,rn95,rx96,false⟩] [⟨(Value.slice ad86 2 cap87),9,1,2,[(Value.string (mkS ([40]:List UInt8))),(Value.string (mkS ([32]:List UInt8)))],true⟩] false hs rfl rfl rfl rfl ⟨_,rfl,rfl⟩ rfl Tryd.func71 rfl (by kernel_rfl) (by decide) (hS _ _) (λ_ _ M98 v lb lr hle hnew hS hs=>?_)
  have hMM:=hMM.next hle hnew
  obtain⟨c99,rn100,rx101,rv102,hlb,hlr,hS⟩:=hS
  subst hlb hlr
  obtain⟨hv,hS⟩:=hS
  subst hv
  replace hs:=hs.chbx (bs':=[⟨b2,112,[(Value.pointer (adr b2 c99)),rv102]⟩,⟨b84,48,[(Value.int .i64 x83.Rule),(Value.int .i64 x83.From),(Value.int .i64 x83.To),(Value.slice x83.Kids_a x83.Kids_l x83.Kids_c)]⟩,⟨b11,48,[(Value.int .i64 t1.Rule),(Value.int .i64 t1.From),(Value.int .i64 t1.To),(Value.slice t1.Kids_a t1.Kids_l t1.Kids_c)]⟩]) rfl
  replace hs:=hs.chrs (rs':=[⟨rv102,5,1,rn100,rx101,false⟩,⟨(Value.slice ad86 2 cap87),9,1,2,[(Value.string (mkS ([40]:List UInt8))),(Value.string (mkS ([32]:List UInt8)))],true⟩]) rfl
  replace hs:=hs.bback 2 (l':=[⟨b84,48,[(Value.int .i64 x83.Rule),(Value.int .i64 x83.From),(Value.int .i64 x83.To),(Value.slice x83.Kids_a x83.Kids_l x83.Kids_c)]⟩,⟨b11,48,[(Value.int .i64 t1.Rule),(Value.int .i64 t1.From),(Value.int .i64 t1.To),(Value.slice t1.Kids_a t1.Kids_l t1.Kids_c)]⟩,⟨b2,112,[(Value.pointer (adr b2 c99)),rv102]⟩]) rfl
  replace hs:=hs.rback 1 (l':=[⟨(Value.slice ad86 2 cap87),9,1,2,[(Value.string (mkS ([40]:List UInt8))),(Value.string (mkS ([32]:List UInt8)))],true⟩,⟨rv102,5,1,rn100,rx101,false⟩]) rfl
  refine wpList_nil (Wp.region ?_)
  obtain⟨hI,hS⟩:=hS
  refine sY (Value.int .i64 (x73+1)) hs (Yl.eq (Yl.pure (v:=Value.int .i64 (IntKind.wrap .i64 (x73+1))) rfl (λ_=>by kernel_rfl)) (congrArg (Value.int .i64) (wrap_in hI))) λ_ hs=>?_
  refine sP (Value.int .i64 (x73+1)) hs λ_ hs=>?_
  exact wpList_nil (⟨(x73+1,c99,rn100,rx101,rv102,M98),⟨hMM,(hs.weak (.cons _ (.cons_cons _ (.cons_cons _ List.Sublist.slnil))) (.cons _ (.cons_cons _ List.Sublist.slnil)) ⟨rfl,rfl,rfl,rfl,rfl,trivial⟩),hS.1⟩,hS.2⟩)
 ·have hS:=hS.2 hc
  refine Wp.exit rfl (Wp.seq (Wp.region (sP (Value.pointer (some ⟨b11,3,none⟩)) hs λ_ hs=>?_)))
  refine sY (Value.slice t1.Kids_a t1.Kids_l t1.Kids_c) hs (Yl.loadB (vs:=[(Value.slice t1.Kids_a t1.Kids_l t1.Kids_c)]) false 0 rfl rfl rfl (by kernel_rfl) rfl) λ_ hs=>?_
  refine sP (Value.int .i64 ((t1.Kids_l:Nat):Int)) hs λ_ hs=>?_
  refine sP (Value.bool (decide (((t1.Kids_l:Nat):Int)>0))) hs λ_ hs=>?_
  refine wpList_nil (Wp.cond hs rfl rfl decide_eq_true_iff (λhc=>?_) (λhc=>?_))
  ·have hS:=hS.1 hc
   refine Wp.region (sP (Value.pointer (some ⟨b2,0,none⟩)) hs λ_ hs=>?_)
   replace hs:=hs.bfront 1 rfl rfl
   refine stepCallL [(Value.pointer (some ⟨b2,0,none⟩)),(Value.string (mkS ([41]:List UInt8)))] [⟨b2,112,[(Value.pointer (adr b2 c74)),rv75]⟩] [⟨b11,48,[(Value.int .i64 t1.Rule),(Value.int .i64 t1.From),(Value.int .i64 t1.To),(Value.slice t1.Kids_a t1.Kids_l t1.Kids_c)]⟩] [⟨rv75,5,1,rn76,rx77,false⟩] [] false hs rfl rfl rfl rfl ⟨_,rfl,rfl⟩ rfl Tryd.func108 rfl (by kernel_rfl) (by decide) (hS _ _) (λ_ _ M105 v lb lr hle hnew hS hs=>?_)
   have hMM:=hMM.next hle hnew
   obtain⟨c106,rn107,rx108,rv109,hlb,hlr,hS⟩:=hS
   subst hlb hlr
   obtain⟨x103,x104,hv,hS⟩:=hS
   subst hv
   replace hs:=hs.chbx (bs':=[⟨b2,112,[(Value.pointer (adr b2 c106)),rv109]⟩,⟨b11,48,[(Value.int .i64 t1.Rule),(Value.int .i64 t1.From),(Value.int .i64 t1.To),(Value.slice t1.Kids_a t1.Kids_l t1.Kids_c)]⟩]) rfl
   replace hs:=hs.chrs (rs':=[⟨rv109,5,1,rn107,rx108,false⟩]) rfl
   replace hs:=hs.bback 1 (l':=[⟨b11,48,[(Value.int .i64 t1.Rule),(Value.int .i64 t1.From),(Value.int .i64 t1.To),(Value.slice t1.Kids_a t1.Kids_l t1.Kids_c)]⟩,⟨b2,112,[(Value.pointer (adr b2 c106)),rv109]⟩]) rfl
   refine wpList_nil ?_
   replace hs:=hs.bfront 1 rfl rfl
   exact leaveL hs (res hs rfl) hMM.1 hMM.2 [⟨b2,112,[(Value.pointer (adr b2 c106)),rv109]⟩] [⟨rv109,5,1,rn107,rx108,false⟩] (.cons_cons _ (.cons _ List.Sublist.slnil)) (List.Sublist.refl _) rfl ⟨c106,rn107,rx108,rv109,rfl,rfl,hS⟩
  ·have hS:=hS.2 hc
   refine Wp.skip ?_
   replace hs:=hs.bfront 1 rfl rfl
   exact leaveL hs (res hs rfl) hMM.1 hMM.2 [⟨b2,112,[(Value.pointer (adr b2 c74)),rv75]⟩] [⟨rv75,5,1,rn76,rx77,false⟩] (.cons_cons _ (.cons _ List.Sublist.slnil)) (List.Sublist.refl _) rfl ⟨c74,rn76,rx77,rv75,rfl,rfl,hS⟩
def S_tree_Text (t1:X_api_Tree) (M:Mem) (K:Value->Prop):Prop:=
 (C_tree_write t1 false 0 [] M (λv c rn rx M4=>v=(Value.tuple #[])/\∃l:List UInt8,rx=Lib.byteCells l/\K (.string (mkS l))))
section
variable {P:Program} {ops:Array Oper} {Q:Exit->Act->World->Prop} {n:Nat} {E:World} {M M0:Mem} {w:World} {a:Act} {env:Env} {bs:List Bx} {rs:List Rw} {rest:List Oper}
theorem stepDrop {d f:Nat} {ty:TypeId} {c:Call} {pos:String} {af:Array Edge} {fn:Func} {K:Value->Prop} {first caps:Array Value} (args:List Value) (hs:Sx n E [] M w a env bs rs) (hE:On M0 E)
  (hk:okOp env ⟨some d,.call c,ty,pos,af,none⟩=true) (hcal:∃x,c.callee= .value x/\evT env x= .func (.func f) first caps) (hargs:first.toList++c.args.toList.map (evT env)++caps.toList=args) (hf:P.funcs[f]?=some fn) (hbody:fn.body.isNone=false) (hname:(fn.name== "runtime.NumGoroutine")=false) (hdn:d<n)
  (hc:Calls P f args.toArray w λe w'=>∃v,e= .returned v/\K v/\Below E.heap.size w w')
  (h:∀a' w' v,K v->Sx n E [] M0 w' a' ((d,v)::env) [] []->wpList P ops Q rest a' w'):wpList P ops Q (⟨some d,.call c,ty,pos,af,none⟩::rest) a w:=by
 refine stepK (Z:=λ_ _=>False) (d:=d) hs (λ_ _ h=>h.elim) rfl hk rfl hdn ?_
 unfold OpW
 rw[run_call args hcal hargs hf hbody hname]
 refine hc.mono λe w' ⟨v,he,hK,hb⟩=>?_
 subst he
 refine λa' hA=>h a' w' v hK ⟨hA,λb o hq=>?_,?_,(λx hx=>(by cases hx)),(λr hr=>(by cases hr)),⟨List.nodup_nil,(λx hx=>(by cases hx)),List.Pairwise.nil⟩⟩
 ·have hlt:=hE.lt hq
  rw[hb.block b hlt,hs.pr.block b hlt (by simp)]
  exact hE b o hq
 ·exact⟨hb.os.trans hs.pr.os,hb.tape.trans hs.pr.tape,hb.output.trans hs.pr.output,Nat.le_trans hs.pr.size hb.size,λk hk hn=>(hb.block k hk).trans (hs.pr.block k hk hn)⟩
end
theorem str_call {n:Nat} {E:World} {M:Mem} {w:World} {a:Act} {env:Env} {bs:List Bx} {rv:Value} {rn b:Nat} {u:Bool} {l:List UInt8} (hs:Sx n E [] M w a env (⟨b,112,[(Value.pointer (adr b u)),rv]⟩::bs) [⟨rv,5,1,rn,Lib.byteCells l,true⟩]) (hb:E.heap.size<=b):
  Calls Tryd.prog 72 #[.pointer (some ⟨b,0,none⟩)] w λe w'=>∃v,e= .returned v/\v= .string (mkS l)/\Below E.heap.size w w':=by
 obtain⟨x1,x2,x3⟩:=hs.bx _ (List.mem_cons_self ..)
 obtain⟨r1,r2⟩:=hs.rw _ (List.mem_singleton.2 rfl)
 have hn:(Lib.byteCells l).length=rn:=by simpa using r1.1
 have hown:w.ownsRowF E.heap.size 5 1 rv (Lib.byteCells l).length (Lib.byteCells l):=by
  rw[hn]
  refine World.ownsRowF_of ⟨r1.1,r1.2.imp (λh=>h) λ⟨g,cap,cur,hv,_,hr⟩=>⟨g,cap,cur,hv,?_,hr⟩⟩
  rcases(r2 g (by rw[hv];rfl)).2 with h|h
  ·exact h
  ·cases h.1
 have hne:rv.ownBlock≠some b:=hs.nd.x _ (List.mem_cons_self ..) _ (List.mem_singleton.2 rfl)
 have hB:Lib.IsBuilderF 112 5 E.heap.size b (Lib.byteCells l) w:=by
  cases u
  ·exact .inl ⟨hb,rv,x1,hown,hne⟩
  ·exact .inr ⟨hb,rv,x1,hown,hne⟩
 exact(sh_Builder_String_any_k E.heap.size b l w hB hs.pr.size).mono λe w' ⟨h1,_,h2,_⟩=>⟨_,h1,rfl,h2⟩
set_option linter.unusedVariables false in
set_option maxRecDepth 100000 in
theorem s_tree_Text (t1:X_api_Tree) (M:Mem) (K:Value->Prop) (hS:S_tree_Text t1 M K):CallE Tryd.prog 32 #[t1.val] M (λv _=>K v):=by
 refine enterE Tryd.func32 rfl 7 rfl (Nat.le_of_ble_eq_true rfl) (λE a hs=>?_)
 unfold S_tree_Text at hS
 have hMM:=MX.refl M E
 have hE:=hs.on
 change Sx 7 E [] M E a [(0,t1.val)] [] []at hs
 refine Wp.seq (Wp.region (stepBox [(Value.int .i64 t1.Rule),(Value.int .i64 t1.From),(Value.int .i64 t1.To),(Value.slice t1.Kids_a t1.Kids_l t1.Kids_c)] hs rfl rfl rfl (by decide) (λ_ _ b2 hEb2 hs=>?_)))
 refine sP (Value.string (mkS ([]:List UInt8))) hs λ_ hs=>?_
 refine wpList_nil (Wp.seq (Wp.region (stepAlloc [(Value.pointer none),(Value.slice none 0 0)] hs (by kernel_rfl) (by decide) (λ_ _ b3 hEb3 hs=>?_))))
 have hs:=hs.nilrow 5 1
 refine wpList_nil (Wp.seq (Wp.region (sY t1.val hs (Yl.loadB (vs:=t1.cells) true 1 rfl rfl rfl (by kernel_rfl) rfl) λ_ hs=>?_)))
 refine stepCallL [t1.val,(Value.pointer (some ⟨b3,0,none⟩))] [⟨b3,112,[(Value.pointer none),(Value.slice none 0 0)]⟩] [⟨b2,48,[(Value.int .i64 t1.Rule),(Value.int .i64 t1.From),(Value.int .i64 t1.To),(Value.slice t1.Kids_a t1.Kids_l t1.Kids_c)]⟩] [⟨(Value.slice none 0 0),5,1,0,[],false⟩] [] true hs rfl rfl rfl rfl ⟨_,rfl,rfl⟩ rfl Tryd.func71 rfl (by kernel_rfl) (by decide) (hS _ _) (λ_ _ M4 v lb lr hle hnew hS hs=>?_)
 have hMM:=hMM.next hle hnew
 obtain⟨c5,rn6,rx7,rv8,hlb,hlr,hS⟩:=hS
 subst hlb hlr
 obtain⟨hv,hS⟩:=hS
 subst hv
 replace hs:=hs.chbx (bs':=[⟨b3,112,[(Value.pointer (adr b3 c5)),rv8]⟩,⟨b2,48,[(Value.int .i64 t1.Rule),(Value.int .i64 t1.From),(Value.int .i64 t1.To),(Value.slice t1.Kids_a t1.Kids_l t1.Kids_c)]⟩]) rfl
 replace hs:=hs.chrs (rs':=[⟨rv8,5,1,rn6,rx7,true⟩]) rfl
 obtain⟨l,hl,hS⟩:=hS
 subst hl
 refine wpList_nil (Wp.seq (Wp.region ?_))
 refine stepDrop [(Value.pointer (some ⟨b3,0,none⟩))] (K:=λv=>v= .string (mkS l)) hs hE rfl ⟨_,rfl,rfl⟩ rfl Tryd.func72 rfl (by kernel_rfl) (by decide) (str_call hs hEb3) (λ_ _ v hv hs=>?_)
 subst hv
 refine sP (Value.string (mkS l)) hs λ_ hs=>?_
 exact wpList_nil (Wp.ret (leaveE (K:=λv _=>K v) hs (resT hs rfl rfl) (λ_ _ h=>.inl h) (λ_ _=>hS)))
end Go.Proofs.YtjecddabdlapbaaDoor.core

namespace Go.Proofs.YtjecddabdlapbaaDoor.core
open Go.Gx Go.RowKit Go.ChangeShapes Go.WideShapes Go.ChangeAt
set_option linter.unusedVariables false
set_option maxHeartbeats 1000000 in
set_option maxRecDepth 100000 in
theorem cc_used (b:Nat) (w:World) (h0:w.cell? ⟨b,0,none⟩=some (.pointer (some ⟨b,0,none⟩))):
  Calls Tryd.prog 130 #[.pointer (some ⟨b,0,none⟩)] w λe w'=>e= .returned (.tuple #[])/\w'=w:=by
 obtain⟨j,hj,_⟩:=Option.map_eq_some_iff.1 (show(Tryd.prog.info? 112).map (·.size)=some 2 by kernel_rfl)
 have mixed:Tryd.prog.follows .mixedOrders=true:=by kernel_rfl
 have t72:=Tryd.underlying112;have a72:=Tryd.isAgg112;have z72:=Tryd.sizeOf112;have v72:=Tryd.zeroValue112;have u72:=run_underlying t72
 have t70:=Tryd.underlying110;have a70:=Tryd.isAgg110;have z70:=Tryd.sizeOf110;have v70:=Tryd.zeroValue110;have u70:=run_underlying t70
 have t9:=Tryd.underlying9;have a9:=Tryd.isAgg9;have z9:=Tryd.sizeOf9;have v9:=Tryd.zeroValue9;have u9:=run_underlying t9
 have t4:=Tryd.underlying4;have a4:=Tryd.isAgg4;have z4:=Tryd.sizeOf4;have v4:=Tryd.zeroValue4;have u4:=run_underlying t4
 have t164:=Tryd.underlying179;have a164:=Tryd.isAgg179;have z164:=Tryd.sizeOf179;have v164:=Tryd.zeroValue179;have u164:=run_underlying t164
 go_enter Tryd.func130,Tryd.ntmps130
 go_wp2
 rw[Lib.run_neq_ptr_same w _ t70 hj]
 go_wp2
 go_end0
 exact⟨rfl,rfl⟩
set_option maxHeartbeats 1000000 in
set_option maxRecDepth 100000 in
theorem cc_fresh (b:Nat) (w:World) (h0:w.cell? ⟨b,0,none⟩=some (.pointer none)) (hsh:w.shape? b=some (112,2)) (hfz:w.frozen? ⟨b,0,none⟩=false):
  Calls Tryd.prog 130 #[.pointer (some ⟨b,0,none⟩)] w λe w'=>e= .returned (.tuple #[])/\w'=w.setCell ⟨b,0,none⟩ (.pointer (some ⟨b,0,none⟩)):=by
 obtain⟨j,hj,hjs⟩:=Option.map_eq_some_iff.1 (show(Tryd.prog.info? 112).map (·.size)=some 2 by kernel_rfl)
 have hlies:liesAt Tryd.prog Tryd.prog.depth 112 (2 / Tryd.prog.cellsOf 112) 0 112 1=true:=by kernel_rfl
 have mixed:Tryd.prog.follows .mixedOrders=true:=by kernel_rfl
 have t72:=Tryd.underlying112;have a72:=Tryd.isAgg112;have z72:=Tryd.sizeOf112;have v72:=Tryd.zeroValue112;have u72:=run_underlying t72
 have t70:=Tryd.underlying110;have a70:=Tryd.isAgg110;have z70:=Tryd.sizeOf110;have v70:=Tryd.zeroValue110;have u70:=run_underlying t70
 have t9:=Tryd.underlying9;have a9:=Tryd.isAgg9;have z9:=Tryd.sizeOf9;have v9:=Tryd.zeroValue9;have u9:=run_underlying t9
 have t4:=Tryd.underlying4;have a4:=Tryd.isAgg4;have z4:=Tryd.sizeOf4;have v4:=Tryd.zeroValue4;have u4:=run_underlying t4
 have t164:=Tryd.underlying179;have a164:=Tryd.isAgg179;have z164:=Tryd.sizeOf179;have v164:=Tryd.zeroValue179;have u164:=run_underlying t164
 go_enter Tryd.func130,Tryd.ntmps130
 go_wp2
 rw[Lib.run_to_unsafe w ⟨b,0,none⟩ t70 t164 hj (by rw[hjs];decide) hsh (Nat.zero_lt_succ 1)]
 simp only[Result.andThen]
 rw[Oper.upon_value]
 go_wp2
 rw[run_callFunc_extern Tryd.func146 (by kernel_rfl) (by kernel_rfl) (by kernel_rfl) (e:=Extern.AbiNoEscape.same) (by kernel_rfl)]
 rw[Lib.run_noEscape]
 simp only[Result.andThen]
 rw[Oper.upon_value]
 go_wp2
 rw[Lib.run_from_unsafe w ⟨b,0,none⟩ t164 t70 hj hsh hlies]
 simp only[Result.andThen]
 rw[Oper.upon_value]
 go_wp2
 go_end0
 exact⟨rfl,rfl⟩
theorem ccheck_is (u:Bool) (rn:Nat) (rx:List Value) (M:Mem) (K:Value->Bool->Nat->List Value->Mem->Prop) (hK:K (.tuple #[]) true rn rx M):C_strings_Builder_copyCheck u rn rx M K:=by
 intro b rv w hy
 have hm:MM M M w:=λ_ _ h=>.inl h
 obtain⟨x1,x2,x3⟩:=hy.bx _ (List.mem_singleton.2 rfl)
 have y1:w.heap[b]?=some (.cells #[Value.pointer (adr b u),rv] 112 (0,0)):=x1
 cases u with
 |true=>
  refine(cc_used b w (by rw[Lib.cell_of_heap x1];rfl)).mono λe w' ⟨h1,h2⟩=>?_
  subst h2
  exact⟨_,_,_,M,h1,Mem.le.refl M,hm,hy,rfl,true,rn,rx,rv,rfl,rfl,hK⟩
 |false=>
  refine(cc_fresh b w (by rw[Lib.cell_of_heap x1];rfl) (by simp[World.shape?,y1]) (Lib.frozen_of_heap x1 0)).mono λe w' ⟨h1,h2⟩=>?_
  subst h2
  have hother:∀k,k≠b->(w.setCell ⟨b,0,none⟩ (.pointer (some ⟨b,0,none⟩))).heap[k]?=w.heap[k]?:=λk hk=>by
   simp only[World.setCell,Array.getElem?_modify]
   rw[if_neg (Ne.symm hk)]
  refine⟨_,[⟨b,112,[(Value.pointer (adr b true)),rv]⟩],[⟨rv,5,1,rn,rx,false⟩],M,h1,Mem.le.refl M,hm,⟨λk o hq=>?_,?_,λx hx=>?_,λr hr=>?_,?_⟩,rfl,true,rn,rx,rv,rfl,rfl,hK⟩
  ·rw[hother k (by rintro rfl;rw[x2]at hq;cases hq)];exact hy.on k o hq
  ·exact⟨hy.pr.os,hy.pr.tape,hy.pr.output,by simp[World.setCell],λk hk hn=>hother k (by rintro rfl;exact hn (by simp[blk]))⟩
  ·obtain rfl:=List.mem_singleton.1 hx
   refine⟨?_,x2,x3⟩
   show(w.setCell ⟨b,0,none⟩ (.pointer (some ⟨b,0,none⟩))).heap[b]?=some (.cells #[Value.pointer (adr b true),rv] 112 (0,0))
   unfold World.setCell
   rw[Array.getElem?_modify,if_pos rfl,y1];rfl
  ·obtain rfl:=List.mem_singleton.1 hr
   obtain⟨r1,r2⟩:=hy.rw _ (List.mem_singleton.2 rfl)
   exact⟨ownsRow_keep r1 λg hg=>hother g (by rintro rfl;exact hy.nd.x _ (List.mem_singleton.2 rfl) _ (List.mem_singleton.2 rfl) hg),r2⟩
  ·exact⟨by simp,λx hx r hr=>by
    obtain rfl:=List.mem_singleton.1 hx
    obtain rfl:=List.mem_singleton.1 hr
    exact hy.nd.x _ (List.mem_singleton.2 rfl) _ (List.mem_singleton.2 rfl),by simp⟩
theorem wstr_is (u:Bool) (s:List UInt8) (rn:Nat) (rx:List Value) (M:Mem) (hl:rn+s.length<=140737488355328) (K:Value->Bool->Nat->List Value->Mem->Prop) (hK:K (.tuple #[.int .i64 (s.length:Nat),.nilIface]) true (rn+s.length) (rx++Lib.strCells (mkS s)) M):C_strings_Builder_WriteString s u rn rx M K:=
 s_strings_Builder_WriteString _ _ _ _ _ _ (ccheck_is u rn rx M _ ⟨rfl,hl,hK⟩)
end Go.Proofs.YtjecddabdlapbaaDoor.core

namespace Go.Proofs.YtjecddabdlapbaaDoor.core
open Go.Gx Go.RowKit Go.ChangeShapes Go.WideShapes Go.ChangeAt
set_option linter.unusedVariables false
open Go.Shelf
def sh_laysM171_ren:Go.Shelf.Ren:=⟨λ|171=>88|243=>122|246=>141|283=>153|284=>154|285=>155|286=>156|129=>161|317=>160|318=>162|319=>163|320=>164|337=>165|338=>52|n=>n,λ|3=>3|9=>9|2=>2|4=>4|171=>188|0=>0|53=>22|37=>85|5=>5|173=>190|212=>200|51=>192|20=>20|213=>201|46=>83|232=>204|233=>136|n=>n,λ|17=>6|18=>7|19=>0|n=>n⟩
theorem sh_laysM171:Go.Proofs.LaysM.n171 Tryd.prog sh_laysM171_ren:={
 mixed:=by kernel_rfl
 f129:=Tryd.func161.trans (congrArg some (by kernel_rfl))
 f171:=Tryd.func88.trans (congrArg some (by kernel_rfl))
 f243:=Tryd.func122.trans (congrArg some (by kernel_rfl))
 f246:=Tryd.func141.trans (congrArg some (by kernel_rfl))
 f283:=Tryd.func153.trans (congrArg some (by kernel_rfl))
 f284:=Tryd.func154.trans (congrArg some (by kernel_rfl))
 f285:=Tryd.func155.trans (congrArg some (by kernel_rfl))
 f286:=Tryd.func156.trans (congrArg some (by kernel_rfl))
 f317:=Tryd.func160.trans (congrArg some (by kernel_rfl))
 f318:=Tryd.func162.trans (congrArg some (by kernel_rfl))
 f319:=Tryd.func163.trans (congrArg some (by kernel_rfl))
 f320:=Tryd.func164.trans (congrArg some (by kernel_rfl))
 f337:=Tryd.func165.trans (congrArg some (by kernel_rfl))
 f338:=Tryd.func52.trans (congrArg some (by kernel_rfl))
 t0:=Tryd.underlying0
 a0:=Tryd.isAgg0
 z0:=Tryd.sizeOf0
 v0:=Tryd.zeroValue0
 t2:=Tryd.underlying2
 a2:=Tryd.isAgg2
 z2:=Tryd.sizeOf2
 v2:=Tryd.zeroValue2
 t3:=Tryd.underlying3
 a3:=Tryd.isAgg3
 z3:=Tryd.sizeOf3
 v3:=Tryd.zeroValue3
 t4:=Tryd.underlying4
 a4:=Tryd.isAgg4
 z4:=Tryd.sizeOf4
 v4:=Tryd.zeroValue4
 t5:=Tryd.underlying5
 a5:=Tryd.isAgg5
 z5:=Tryd.sizeOf5
 v5:=Tryd.zeroValue5
 t9:=Tryd.underlying9
 a9:=Tryd.isAgg9
 z9:=Tryd.sizeOf9
 v9:=Tryd.zeroValue9
 t20:=Tryd.underlying20
 a20:=Tryd.isAgg20
 z20:=Tryd.sizeOf20
 v20:=Tryd.zeroValue20
 t37:=Tryd.underlying85
 a37:=Tryd.isAgg85
 z37:=Tryd.sizeOf85
 v37:=Tryd.zeroValue85
 t46:=Tryd.underlying83
 a46:=Tryd.isAgg83
 z46:=Tryd.sizeOf83
 v46:=Tryd.zeroValue83
 t51:=Tryd.underlying192
 a51:=Tryd.isAgg192
 z51:=Tryd.sizeOf192
 v51:=Tryd.zeroValue192
 t53:=Tryd.underlying22
 a53:=Tryd.isAgg22
 z53:=Tryd.sizeOf22
 v53:=Tryd.zeroValue22
 t171:=Tryd.underlying188
 a171:=Tryd.isAgg188
 z171:=Tryd.sizeOf188
 v171:=Tryd.zeroValue188
 t173:=Tryd.underlying190
 a173:=Tryd.isAgg190
 z173:=Tryd.sizeOf190
 v173:=Tryd.zeroValue190
 t212:=Tryd.underlying200
 a212:=Tryd.isAgg200
 z212:=Tryd.sizeOf200
 v212:=Tryd.zeroValue200
 t213:=Tryd.underlying201
 a213:=Tryd.isAgg201
 z213:=Tryd.sizeOf201
 t232:=Tryd.underlying204
 a232:=Tryd.isAgg204
 z232:=Tryd.sizeOf204
 v232:=Tryd.zeroValue204
 t233:=Tryd.underlying136
 a233:=Tryd.isAgg136
 z233:=Tryd.sizeOf136
 v233:=Tryd.zeroValue136
 g17:=by kernel_rfl
 g18:=by kernel_rfl
 g19:=by kernel_rfl
 i0:=by kernel_rfl
 i2:=by kernel_rfl
 i3:=by kernel_rfl
 i4:=by kernel_rfl
 i5:=by kernel_rfl
 i9:=by kernel_rfl
 i20:=by kernel_rfl
 i37:=by kernel_rfl
 i46:=by kernel_rfl
 i51:=by kernel_rfl
 i53:=by kernel_rfl
 i171:=by kernel_rfl
 i173:=by kernel_rfl
 i212:=by kernel_rfl
 i232:=by kernel_rfl
 i233:=by kernel_rfl
 m17:=by kernel_rfl
 m18:=by kernel_rfl
 m19:=by kernel_rfl}
open Go.RowKit Go.Sort Go.Lib in
theorem sh_strconv_Itoa (n:Int) (h0: -9223372036854775808<=n) (h1:n<=9223372036854775807) (w:World) (htab:Lib.TabIs Tryd.prog w "internal/strconv.uint64pow10" .u64 Lib.pow10Tab):
  Calls Tryd.prog 88 #[.int .i64 n] w λe w'=>e= .returned (.string ⟨(Lib.itoa n).toArray⟩)/\∃k os,w'=grow (w.drewN k) os:=Any.strconv_Itoa sh_laysM171 n h0 h1 w htab
end Go.Proofs.YtjecddabdlapbaaDoor.core

namespace Go.Proofs.YtjecddabdlapbaaDoor.core
open Go.Gx Go.RowKit Go.ChangeShapes Go.WideShapes Go.ChangeAt
set_option linter.unusedVariables false
theorem var_on {M:Mem} {w:World} (h:On M w) {name:String} {g:Nat} {cs:Array Value} {e f} (hg:Tryd.prog.globalNamed name=some g) (hm:M g=some (.cells cs e f)):w.var? Tryd.prog name=some cs:=by
 unfold World.var?
 rw[hg]
 simp only[Option.bind_some]
 rw[h _ _ hm]
def dv (c:UInt8):Nat:=c.toNat-48
attribute [irreducible] dv
theorem decDigits_ne (u:Nat):Lib.decDigits u≠[]:=by
 rw[Lib.decDigits];split<;>simp
theorem ddigit_is {M:Mem} {d:Nat} (h:d<10) (K:Value->Prop) (hK:K (.string (mkS [UInt8.ofNat (48+d)]))):S_chaffref_digit d M K:=by
 refine⟨by unfold InI;omega,by omega,by omega,by simp;omega,?_⟩
 have:(((([48,49,50,51,52,53,54,55,56,57,97,98,99,100,101,102]:List UInt8)).take ((d:Int)+1).toNat).drop (d:Int).toNat)=[UInt8.ofNat (48+d)]:=by
  match d,h with
  |0,_=>rfl
  |1,_=>rfl
  |2,_=>rfl
  |3,_=>rfl
  |4,_=>rfl
  |5,_=>rfl
  |6,_=>rfl
  |7,_=>rfl
  |8,_=>rfl
  |9,_=>rfl
  |d+10,h=>omega
 rw[this];exact hK
theorem decDigits_put {u:Nat} (h:u≠0) (out:List UInt8):(if u / 10=0 then[] else Lib.decDigits (u / 10))++([UInt8.ofNat (48+u % 10)]++out)=Lib.decDigits u++out:=by
 conv=>rhs;rw[Lib.decDigits]
 by_cases h10:u<10
 ·rw[dif_pos h10,if_pos (by omega),Nat.mod_eq_of_lt h10];rfl
 ·rw[dif_neg h10,if_neg (by omega),List.append_assoc]
theorem rdec_is {M:Mem} {n:Int} (h:InI n) (K:Value->Prop) (hK:K (.string (mkS (Lib.itoa n)))):S_chaffref_Dec n M K:=by
 refine⟨λh0=>?_,λh0=>?_⟩
 ·subst h0
  rw[show Lib.itoa 0=[48] by unfold Lib.itoa;rw[if_neg (by omega),Lib.decDigits];simp]at hK
  exact hK
 have hlenD:(Lib.decDigits n.natAbs).length<=9223372036854775807-1:=by
  have key:∀(k u:Nat),u<10 ^ (k+1)->(Lib.decDigits u).length<=k+1:=λk=>by
   induction k with
   |zero=>intro u hu;rw[Lib.decDigits,dif_pos (by omega)];simp
   |succ k ih=>
    intro u hu
    rw[Lib.decDigits]
    split
    ·simp
    ·have:=ih (u / 10) (by rw[Nat.pow_succ]at hu;omega)
     simp;omega
  have:=key 19 n.natAbs (by unfold InI at h;have:(10:Nat) ^ 20=100000000000000000000:=(by decide);omega)
  omega
 have hn1:InI n:=h
 refine⟨λx out=>InI x/\(n<0->x<=0)/\(¬n<0->0<=x)/\(if x.natAbs=0 then[] else Lib.decDigits x.natAbs)++out=Lib.decDigits n.natAbs,λx _=>x.natAbs,⟨h,λh=>by omega,λh=>by omega,by rw[if_neg (by omega),List.append_nil]⟩,λx out ⟨hx,hs1,hs2,ho⟩=>⟨λhne=>?_,λhz=>?_⟩⟩
 ·have hx0:x.natAbs≠0:=by omega
  rw[if_neg hx0]at ho
  have hol:(Lib.decDigits x.natAbs).length+out.length<=9223372036854775807-1:=by rw[<-List.length_append,ho];exact hlenD
  have hpos:=List.length_pos_iff.2 (decDigits_ne x.natAbs)
  have hq:(x.tdiv 10).natAbs=x.natAbs / 10:=by rw[Int.natAbs_tdiv];rfl
  have hr:(x.tmod 10).natAbs=x.natAbs % 10:=by rw[Int.natAbs_tmod];rfl
  have hqs:(n<0->x.tdiv 10<=0)/\(¬n<0->0<=x.tdiv 10):=⟨λhn=>by
   obtain⟨y,rfl⟩:∃y:Nat,x= -(y:Int):=⟨x.natAbs,by have:=hs1 hn;omega⟩
   rw[Int.neg_tdiv]
   have:((y:Int).tdiv 10)=((y / 10:Nat):Int):=rfl
   omega,λhn=>by
   obtain⟨y,rfl⟩:∃y:Nat,x=(y:Int):=⟨x.natAbs,by have:=hs2 hn;omega⟩
   have:((y:Int).tdiv 10)=((y / 10:Nat):Int):=rfl
   omega⟩
  have go:∀d:Nat,d=x.natAbs % 10->S_chaffref_Dec_J1 M x out (λx out=>InI x/\(n<0->x<=0)/\(¬n<0->0<=x)/\(if x.natAbs=0 then[] else Lib.decDigits x.natAbs)++out=Lib.decDigits n.natAbs) (λx _=>x.natAbs) d K:=λd hd=>by
   refine s_chaffref_digit _ _ _ (ddigit_is (by omega) _ ⟨_,rfl,by simp;omega,by unfold InI at hx ⊢;omega,⟨by unfold InI at hx ⊢;omega,hqs.1,hqs.2,?_⟩,by dsimp only;omega⟩)
   rw[hq,hd,decDigits_put hx0];exact ho
  refine⟨λhneg=>⟨by unfold InI;omega,?_⟩,λhneg=>?_⟩
  ·rw[show 0-x.tmod 10=(((x.natAbs % 10:Nat)):Int) by omega];exact go _ rfl
  ·rw[show x.tmod 10=(((x.natAbs % 10:Nat)):Int) by omega];exact go _ rfl
 ·have hx0:x=0:=by omega
  subst hx0
  simp at ho
  subst ho
  refine⟨λhn=>⟨by simp;omega,?_⟩,λhn=>?_⟩
  ·unfold Lib.itoa at hK;rw[if_pos hn]at hK;exact hK
  ·unfold Lib.itoa at hK;rw[if_neg hn,show n.toNat=n.natAbs by omega]at hK;exact hK
end Go.Proofs.YtjecddabdlapbaaDoor.core

namespace Go.Proofs.YtjecddabdlapbaaDoor.core
open Go.Gx Go.RowKit Go.ChangeShapes Go.WideShapes Go.ChangeAt
set_option linter.unusedVariables false
open Go.Shelf
def sh_lays156_ren:Go.Shelf.Ren:=⟨λ|156=>73|165=>109|166=>108|169=>72|240=>130|241=>131|276=>146|277=>147|n=>n,λ|31=>88|9=>9|3=>3|4=>4|0=>0|20=>20|72=>112|76=>130|70=>110|37=>85|75=>129|127=>146|164=>179|5=>5|80=>114|n=>n,λ|n=>n⟩
theorem sh_lays156:Go.Proofs.Lays.n156 Tryd.prog sh_lays156_ren:={
 mixed:=by kernel_rfl
 f156:=Tryd.func73.trans (congrArg some (by kernel_rfl))
 f165:=Tryd.func109.trans (congrArg some (by kernel_rfl))
 f166:=Tryd.func108.trans (congrArg some (by kernel_rfl))
 f169:=Tryd.func72.trans (congrArg some (by kernel_rfl))
 f240:=Tryd.func130.trans (congrArg some (by kernel_rfl))
 f241:=Tryd.func131.trans (congrArg some (by kernel_rfl))
 f276:=Tryd.func146.trans (congrArg some (by kernel_rfl))
 f277:=Tryd.func147.trans (congrArg some (by kernel_rfl))
 t0:=Tryd.underlying0
 a0:=Tryd.isAgg0
 z0:=Tryd.sizeOf0
 v0:=Tryd.zeroValue0
 t3:=Tryd.underlying3
 a3:=Tryd.isAgg3
 z3:=Tryd.sizeOf3
 v3:=Tryd.zeroValue3
 t4:=Tryd.underlying4
 a4:=Tryd.isAgg4
 z4:=Tryd.sizeOf4
 v4:=Tryd.zeroValue4
 t9:=Tryd.underlying9
 a9:=Tryd.isAgg9
 z9:=Tryd.sizeOf9
 v9:=Tryd.zeroValue9
 t20:=Tryd.underlying20
 a20:=Tryd.isAgg20
 z20:=Tryd.sizeOf20
 v20:=Tryd.zeroValue20
 t31:=Tryd.underlying88
 a31:=Tryd.isAgg88
 z31:=Tryd.sizeOf88
 v31:=Tryd.zeroValue88
 t37:=Tryd.underlying85
 a37:=Tryd.isAgg85
 z37:=Tryd.sizeOf85
 v37:=Tryd.zeroValue85
 t70:=Tryd.underlying110
 a70:=Tryd.isAgg110
 z70:=Tryd.sizeOf110
 v70:=Tryd.zeroValue110
 t72:=Tryd.underlying112
 a72:=Tryd.isAgg112
 z72:=Tryd.sizeOf112
 v72:=Tryd.zeroValue112
 t75:=Tryd.underlying129
 a75:=Tryd.isAgg129
 z75:=Tryd.sizeOf129
 v75:=Tryd.zeroValue129
 t76:=Tryd.underlying130
 a76:=Tryd.isAgg130
 z76:=Tryd.sizeOf130
 v76:=Tryd.zeroValue130
 t127:=Tryd.underlying146
 a127:=Tryd.isAgg146
 z127:=Tryd.sizeOf146
 v127:=Tryd.zeroValue146
 t164:=Tryd.underlying179
 a164:=Tryd.isAgg179
 z164:=Tryd.sizeOf179
 v164:=Tryd.zeroValue179}
theorem sh_Builder_Extra_156:Builder.Extra Tryd.prog sh_lays156_ren:={
 sizeBuilder:=by kernel_rfl
 liesBuilder:=by kernel_rfl
 t5:=Tryd.underlying5
 a5:=Tryd.isAgg5
 z5:=Tryd.sizeOf5
 v5:=Tryd.zeroValue5
 infoByte:=by kernel_rfl
 cellsByte:=by kernel_rfl
 sizeByte:=by kernel_rfl
 neB5:=by decide}
open Go.RowKit in
theorem sh_strings_Join_none (a:Option Addr) (c:Nat) (sep:ByteArray) (w:World):
  Calls Tryd.prog 73 #[.slice a 0 c,.string sep] w λe w'=>e= .returned (.string ⟨#[]⟩)/\w'=w:=Any.strings_Join_none sh_lays156 sh_Builder_Extra_156 a c sep w
open Go.RowKit in
theorem sh_strings_Join (bk o c:Nat) (xs:List ByteArray) (sep:ByteArray) (w:World) (hcells:∀(j:Nat) x,xs[j]?=some x->w.cell? ⟨bk,o+j,none⟩=some (.string x)) (hbk:bk<w.heap.size) (hN:xs.length<=140737488355328) (hcap:xs.length<=c) (hlen:(Lib.join (xs.map (·.data.toList)) sep.data.toList).length<=140737488355328):
  Calls Tryd.prog 73 #[.slice (some ⟨bk,o,none⟩) xs.length c,.string sep] w λe w'=>e= .returned (.string ⟨(Lib.join (xs.map (·.data.toList)) sep.data.toList).toArray⟩)/\Below w.heap.size w w':=Any.strings_Join sh_lays156 sh_Builder_Extra_156 bk o c xs sep w hcells hbk hN hcap hlen
end Go.Proofs.YtjecddabdlapbaaDoor.core

namespace Go.Proofs.YtjecddabdlapbaaDoor.core
open Go.Gx Go.RowKit Go.ChangeShapes Go.WideShapes Go.ChangeAt
set_option linter.unusedVariables false
end Go.Proofs.YtjecddabdlapbaaDoor.core

namespace Go.Proofs.YtjecddabdlapbaaDoor.core
open Go.Gx Go.RowKit Go.ChangeShapes Go.WideShapes Go.ChangeAt
set_option linter.unusedVariables false
theorem wfI {z:Int}:(Lit.int .i64 z).wf=true->InI z:=by
 intro h
 simp[Lit.wf,IntKind.min,IntKind.max,IntKind.signed,IntKind.bits]at h
 unfold InI;omega
def zs (s:X_api_Set):Bool:=cellsEq [s.w0,s.w1,s.w2,s.w3] [0,0,0,0]
open Go.Shelf Go.Proofs
attribute [local go_sem] Oper.semAt_some
theorem On.keep {V:Mem} {n₀:Nat} (hV:∀b o,V b=some o->b<n₀) {A B:World} (h:On V A) (hk:Below n₀ A B):On V B:=λb o q=>(hk.block b (hV b o q)).trans (h b o q)
abbrev strV (zs:List (List UInt8)):List Value:=zs.map (λs=>Value.string (mkS s))
theorem strV_snoc (zs:List (List UInt8)) (z:List UInt8):strV zs++[Value.string (mkS z)]=strV (zs++[z]):=by simp[strV]
end Go.Proofs.YtjecddabdlapbaaDoor.core

namespace Go.Proofs.YtjecddabdlapbaaDoor.core
open Go.Gx Go.RowKit Go.ChangeShapes Go.WideShapes Go.ChangeAt
set_option linter.unusedVariables false
end Go.Proofs.YtjecddabdlapbaaDoor.core

namespace Go.Proofs.YtjecddabdlapbaaDoor.core
open Go.Gx Go.RowKit Go.ChangeShapes Go.WideShapes Go.ChangeAt
set_option linter.unusedVariables false
end Go.Proofs.YtjecddabdlapbaaDoor.core

namespace Go.Proofs.YtjecddabdlapbaaDoor.core
open Go.Gx Go.RowKit Go.ChangeShapes Go.WideShapes Go.ChangeAt
set_option linter.unusedVariables false
end Go.Proofs.YtjecddabdlapbaaDoor.core

namespace Go.Proofs.YtjecddabdlapbaaDoor.core
open Go.Gx Go.RowKit Go.ChangeShapes Go.WideShapes Go.ChangeAt
set_option linter.unusedVariables false
end Go.Proofs.YtjecddabdlapbaaDoor.core

namespace Go.Proofs.YtjecddabdlapbaaDoor.core
open Go.Gx Go.RowKit Go.ChangeShapes Go.WideShapes Go.ChangeAt
set_option linter.unusedVariables false
end Go.Proofs.YtjecddabdlapbaaDoor.core

namespace Go.Proofs.YtjecddabdlapbaaDoor.core
open Go.Gx Go.RowKit Go.ChangeShapes Go.WideShapes Go.ChangeAt
set_option linter.unusedVariables false
def s1 (x m:Nat):Nat:=(x / 2&&& m)+(x&&& m)
def s2 (x m:Nat):Nat:=(x / 4&&& m)+(x&&& m)
def s3 (x m:Nat):Nat:=(x / 16+x)&&& m
end Go.Proofs.YtjecddabdlapbaaDoor.core

namespace Go.Proofs.YtjecddabdlapbaaDoor.core
open Go.Gx Go.RowKit Go.ChangeShapes Go.WideShapes Go.ChangeAt
set_option linter.unusedVariables false
end Go.Proofs.YtjecddabdlapbaaDoor.core

namespace Go.Proofs.YtjecddabdlapbaaDoor.core
open Go.Gx Go.RowKit Go.ChangeShapes Go.WideShapes Go.ChangeAt
set_option linter.unusedVariables false
def cnt (x:Nat):Nat->Nat
 |0=>0
 |n+1=>cnt x n+x / 2 ^ n % 2
end Go.Proofs.YtjecddabdlapbaaDoor.core

namespace Go.Proofs.YtjecddabdlapbaaDoor.core
open Go.Gx Go.RowKit Go.ChangeShapes Go.WideShapes Go.ChangeAt
set_option linter.unusedVariables false
end Go.Proofs.YtjecddabdlapbaaDoor.core

namespace Go.Proofs.YtjecddabdlapbaaDoor.core
open Go.Gx Go.RowKit Go.ChangeShapes Go.WideShapes Go.ChangeAt
set_option linter.unusedVariables false
theorem mkS_list (l:List UInt8):(mkS l).data.toList=l:=rfl
theorem join_call {M:Mem} {A:Option Addr} {n c:Nat} {zs:List (List UInt8)} {sep:List UInt8} (h:SlV M A n c 1 (strV zs)) (hn:zs.length<=140737488355328) (hl:(Lib.join zs sep).length<=140737488355328):
  CallE Tryd.prog 73 #[.slice A n c,.string (mkS sep)] M (λv M'=>v= .string (mkS (Lib.join zs sep))):=by
 intro w hw
 obtain⟨h1,h2,h3,h4⟩:=h
 have hnz:zs.length=n:=by simpa[strV]using h1
 by_cases h0:n=0
 ·subst h0
  obtain rfl:=List.length_eq_zero_iff.1 hnz
  exact(sh_strings_Join_none A c (mkS sep) w).mono λx w' ⟨g1,g2⟩=>⟨_,g1,g2▸Below.refl _ _,rfl⟩
 ·obtain⟨b,o,rfl,ha⟩:=h4 (by omega)
  have hm:(zs.map mkS).map (λx=>x.data.toList)=zs:=by
   rw[List.map_map]
   exact(List.map_congr_left λa _=>mkS_list a).trans (List.map_id _)
  have hcell:∀(j:Nat) x,(zs.map mkS)[j]?=some x->M.cell b (o+j)=some (.string x):=λj x hj=>by
   refine ha j _ ?_
   rw[List.getElem?_map]at hj
   obtain⟨z,hz,rfl⟩:=Option.map_eq_some_iff.1 hj
   unfold strV
   rw[List.getElem?_map,hz];rfl
  have hlt:b<w.heap.size:=by
   obtain⟨z,hz⟩:∃z,zs[0]?=some z:=⟨zs[0]'(by omega),List.getElem?_eq_getElem _⟩
   have:=hcell 0 (mkS z) (by rw[List.getElem?_map,hz];rfl)
   unfold Mem.cell at this
   split at this
   ·rename_i hq;exact hw.lt hq
   ·cases this
  have hz:(zs.map mkS).length=n:=by rw[List.length_map];exact hnz
  have:=sh_strings_Join b o c (zs.map mkS) (mkS sep) w (λj x hj=>hw.cell (hcell j x hj)) hlt (by omega) (by omega) (by rw[hm,mkS_list];exact hl)
  rw[hm,mkS_list,hz]at this
  exact this.mono λx w' ⟨g1,g2⟩=>⟨_,g1,g2,rfl⟩
theorem sum_le {α:Type} {f g:α->Nat}:∀{l:List α},(∀x∈l,f x<=g x)->(l.map f).sum<=(l.map g).sum
 |[],_=>by simp
 |x::l,h=>by
  have h1:=h x (List.mem_cons_self ..)
  have h2:=sum_le (l:=l) λy hy=>h y (List.mem_cons_of_mem _ hy)
  simp only[List.map_cons,List.sum_cons];omega
theorem sum_mul {α:Type} (f:α->Nat) (c:Nat):∀l:List α,(l.map λx=>c*f x).sum=c*(l.map f).sum
 |[]=>by simp
 |x::l=>by simp only[List.map_cons,List.sum_cons,sum_mul f c l,Nat.mul_add]
end Go.Proofs.YtjecddabdlapbaaDoor.core

namespace Go.Proofs.YtjecddabdlapbaaDoor.core
open Go.Gx Go.RowKit Go.ChangeShapes Go.WideShapes Go.ChangeAt
set_option linter.unusedVariables false
theorem Ec_one (l:List X_api_Event):∀u∈cl X_api_Event.cells l,u.oneCell'=true:=by
 intro u hu
 obtain⟨c,hc,hu⟩:=List.mem_flatten.1 hu
 obtain⟨x,_,rfl⟩:=List.mem_map.1 hc
 simp only[X_api_Event.cells,List.mem_cons,List.not_mem_nil,or_false]at hu
 rcases hu with rfl|rfl|rfl<;>rfl
theorem cl_one (x:X_api_Event):cl X_api_Event.cells [x]=x.cells:=by unfold cl;simp
theorem inI_of {z:Int} (h0: -1000000000000<=z) (h1:z<=1000000000000):InI z:=by unfold InI;omega
theorem egrow_is {n:Int} {M:Mem} (h0:0<=n) (h1:n<=100000000) (K:Nat->List Value->Prop) (hK:K 0 []):S_slices_Grow_Event n M K:=by
 unfold S_slices_Grow_Event
 refine⟨λh=>by omega,λ_=>⟨inI_of (by omega) (by omega),inI_of (by omega) (by omega),λhp=>⟨hp,by omega,by omega,by omega,by simpa using hK⟩,λ_=>hK⟩⟩
theorem econcat_is {A:Option Addr} {c l0 c0 l1 c1 l2 c2:Nat} {a0 a1 a2:Option Addr} {M:Mem} {t u v:List Value} (h:SlV M A 3 c 1 [.slice a0 l0 c0,.slice a1 l1 c1,.slice a2 l2 c2]) (h0:SlV M a0 l0 c0 3 t) (h1:SlV M a1 l1 c1 3 u) (h2:SlV M a2 l2 c2 3 v)
  (o0:∀x∈t,x.oneCell'=true) (o1:∀x∈u,x.oneCell'=true) (o2:∀x∈v,x.oneCell'=true) (b0:l0<=10000000) (b1:l1<=10000000) (b2:l2<=10000000) (K:Nat->List Value->Prop) (hK:K (l0+l1+l2) (t++u++v)):S_slices_Concat_Event A 3 c M K:=by
 obtain⟨b,o,rfl,hat⟩:=h.2.2.2 (by omega)
 have at0:=hat.part 0 [.slice a0 l0 c0] rfl
 have at1:=hat.part 1 [.slice a1 l1 c1] rfl
 have at2:=hat.part 2 [.slice a2 l2 c2] rfl
 unfold S_slices_Concat_Event
 refine⟨λsize i=>0<=i/\i<=3/\(i=0->size=0)/\(i=1->size=l0)/\(i=2->size=((l0+l1:Nat):Int))/\(i=3->size=((l0+l1+l2:Nat):Int)),λ_ i=>3-i.toNat,⟨by omega,by omega,λ_=>rfl,λh=>absurd h (by omega),λh=>absurd h (by omega),λh=>absurd h (by omega)⟩,λsize i ⟨i0,i2,e0,e1,e2,e3⟩=>⟨λhlt=>?_,λhge=>?_⟩⟩
 ·rcases show i=0\/i=1\/i=2 by omega with rfl|rfl|rfl
  ·have:=e0 rfl
   subst this
   exact⟨b,o,rfl,by omega,hlt,a0,l0,c0,at0,inI_of (by omega) (by omega),λh=>by omega,λ_=>⟨inI_of (by omega) (by omega),⟨by omega,by omega,λh=>absurd h (by omega),λ_=>by omega,λh=>absurd h (by omega),λh=>absurd h (by omega)⟩,by dsimp only;decide⟩⟩
  ·have:=e1 rfl
   subst this
   exact⟨b,o,rfl,by omega,hlt,a1,l1,c1,at1,inI_of (by omega) (by omega),λh=>by omega,λ_=>⟨inI_of (by omega) (by omega),⟨by omega,by omega,λh=>absurd h (by omega),λh=>absurd h (by omega),λ_=>by omega,λh=>absurd h (by omega)⟩,by dsimp only;decide⟩⟩
  ·have:=e2 rfl
   subst this
   exact⟨b,o,rfl,by omega,hlt,a2,l2,c2,at2,inI_of (by omega) (by omega),λh=>by omega,λ_=>⟨inI_of (by omega) (by omega),⟨by omega,by omega,λh=>absurd h (by omega),λh=>absurd h (by omega),λh=>absurd h (by omega),λ_=>by omega⟩,by dsimp only;decide⟩⟩
 ·have hi:i=3:=by omega
  have:=e3 hi
  subst this
  refine s_slices_Grow_Event _ _ _ (egrow_is (by omega) (by omega) _ ?_)
  refine⟨λi rn rx=>0<=i/\i<=3/\(i=0->rn=0/\rx=[])/\(i=1->rn=l0/\rx=t)/\(i=2->rn=l0+l1/\rx=t++u)/\(i=3->rn=l0+l1+l2/\rx=t++u++v),λi _ _=>3-i.toNat,⟨by omega,by omega,λ_=>⟨rfl,rfl⟩,λh=>absurd h (by omega),λh=>absurd h (by omega),λh=>absurd h (by omega)⟩,λi rn rx ⟨i0,i2,e0,e1,e2,e3⟩=>⟨λhlt=>?_,λhge=>?_⟩⟩
  ·rcases show i=0\/i=1\/i=2 by omega with rfl|rfl|rfl
   ·obtain⟨rfl,rfl⟩:=e0 rfl
    exact⟨b,o,rfl,by omega,hlt,a0,l0,c0,at0,t,h0,o0,by omega,inI_of (by omega) (by omega),⟨by omega,by omega,λh=>absurd h (by omega),λ_=>⟨by omega,by simp⟩,λh=>absurd h (by omega),λh=>absurd h (by omega)⟩,by dsimp only;decide⟩
   ·obtain⟨rfl,rfl⟩:=e1 rfl
    exact⟨b,o,rfl,by omega,hlt,a1,l1,c1,at1,u,h1,o1,by omega,inI_of (by omega) (by omega),⟨by omega,by omega,λh=>absurd h (by omega),λh=>absurd h (by omega),λ_=>⟨rfl,rfl⟩,λh=>absurd h (by omega)⟩,by dsimp only;decide⟩
   ·obtain⟨rfl,rfl⟩:=e2 rfl
    exact⟨b,o,rfl,by omega,hlt,a2,l2,c2,at2,v,h2,o2,by omega,inI_of (by omega) (by omega),⟨by omega,by omega,λh=>absurd h (by omega),λh=>absurd h (by omega),λh=>absurd h (by omega),λ_=>⟨rfl,rfl⟩⟩,by dsimp only;decide⟩
  ·obtain⟨rfl,rfl⟩:=e3 (by omega)
   exact hK
theorem le_sum:∀{l:List Nat} {b:Nat},b∈l->b<=l.sum
 |a::l,b,h=>by
  rw[List.sum_cons]
  rcases List.mem_cons.1 h with rfl|h
  ·omega
  ·have:=le_sum h;omega
theorem pick {α β:Type} {R:Nat->α->β->Prop}:∀(l:List α),(∀(i:Nat) a,l[i]?=some a->∃b,R i a b)->∃L:List β,L.length=l.length/\∀(i:Nat) a b,l[i]?=some a->L[i]?=some b->R i a b
 |[],_=>⟨[],rfl,λi a b h=>by simp at h⟩
 |a::l,h=>by
  obtain⟨b,hb⟩:=h 0 a rfl
  obtain⟨L,hL,hR⟩:=pick (R:=λi=>R (i+1)) l λi a ha=>h (i+1) a (by simpa using ha)
  refine⟨b::L,by simp[hL],λi a' b' h1 h2=>?_⟩
  cases i with
  |zero=>cases h1;cases h2;exact hb
  |succ i=>exact hR i a' b' (by simpa using h1) (by simpa using h2)
def P6 (M:Mem):Prop:=∃e f,M 6=some (.cells (Lib.pow10Tab.map λz=>Value.int .u64 z).toArray e f)
theorem P6.le {M M':Mem} (h:P6 M) (hl:M.le M'):P6 M':=let⟨_,_,q⟩:=h;⟨_,_,hl _ _ q⟩
theorem itoaQ_is {M:Mem} (h6:P6 M) {z:Int} (h:InI z):CallE Tryd.prog 88 #[.int .i64 z] M (λv _=>v= .string (mkS (Lib.itoa z))):=by
 intro w hw
 obtain⟨e,f,hp⟩:=h6
 have hI: -9223372036854775808<=z/\z<=9223372036854775807:=by unfold InI at h;omega
 refine(sh_strconv_Itoa z hI.1 hI.2 w (var_on hw (by kernel_rfl) hp)).mono λx w' ⟨h1,k,os,h2⟩=>⟨_,h1,?_,rfl⟩
 subst h2
 exact Lib.below_grow _ w (Nat.le_refl _) k os
theorem dec_len20:∀(k u:Nat),u<10 ^ (k+1)->(Lib.decDigits u).length<=k+1:=λk=>by
 induction k with
 |zero=>intro u hu;rw[Lib.decDigits,dif_pos (by omega)];simp
 |succ k ih=>
  intro u hu
  rw[Lib.decDigits]
  split
  ·simp
  ·have:=ih (u / 10) (by rw[Nat.pow_succ]at hu;omega)
   rw[List.length_append,List.length_singleton];omega
theorem itoa_len21 {z:Int} (h:InI z):(Lib.itoa z).length<=21:=by
 have h20:(10:Nat) ^ 20=100000000000000000000:=by decide
 unfold InI at h
 unfold Lib.itoa
 split
 ·have:=dec_len20 19 z.natAbs (by omega)
  rw[List.length_cons];omega
 ·have:=dec_len20 19 z.toNat (by omega)
  omega
def hdT (x:X_api_Tree):List UInt8:=Lib.itoa x.Rule++[58]++Lib.itoa x.From++[45]++Lib.itoa x.To
def sepT:Bool->List (List UInt8)->List UInt8
 |_,[]=>[]
 |f,z::r=>(if f then[40] else[32])++z++sepT false r
def ttT (x:X_api_Tree) (L:List (List UInt8)):List UInt8:=if L=[] then hdT x else hdT x++sepT true L++[41]
theorem sepT_snoc:∀(f:Bool) (l:List (List UInt8)) (z:List UInt8),sepT f (l++[z])=sepT f l++((if f=true/\l=[] then[40] else[32])++z)
 |f,[],z=>by cases f<;>simp[sepT]
 |f,a::r,z=>by
  rw[List.cons_append,sepT,sepT_snoc false r z,sepT]
  simp
theorem sepT_join:∀(z:List UInt8) (r:List (List UInt8)),z++sepT false r=Lib.join (z::r) [32]
 |z,[]=>by rw[sepT,Lib.join_one,List.append_nil]
 |z,y::r=>by
  have:Lib.join (z::y::r) [32]=z++[32]++Lib.join (y::r) [32]:=by simp[Lib.join,List.intercalate]
  rw[this,<-sepT_join y r,sepT]
  simp
theorem sepT_len (f:Bool):∀l:List (List UInt8),(sepT f l).length=(l.map λz=>z.length+1).sum
 |[]=>rfl
 |z::r=>by
  rw[sepT,List.length_append,List.length_append,sepT_len false r,List.map_cons,List.sum_cons]
  split<;>simp<;>omega
theorem bytes_app (a b:List UInt8):Lib.byteCells a++Lib.byteCells b=Lib.byteCells (a++b):=by simp[Lib.byteCells]
theorem str_bytes (l:List UInt8):Lib.strCells (mkS l)=Lib.byteCells l:=rfl
theorem len_sum1:∀{R:List (Nat×List UInt8)},(∀r∈R,1<=r.1)->R.length<=(R.map (·.1)).sum
 |[],_=>by simp
 |a::l,h=>by
  have h1:=h a (List.mem_cons_self ..)
  have h2:=len_sum1 (R:=l) λr hr=>h r (List.mem_cons_of_mem _ hr)
  rw[List.map_cons,List.sum_cons,List.length_cons];omega
structure TtR (V:Mem) (x:X_api_Tree) (m:Nat) (t:List UInt8):Prop where
 m1:1<=m
 len:t.length+1<=100*m
 cnt:∀M (K:Value->Prop),V.le M->K (.int .i64 (m:Nat))->CallE Tryd.prog 30 #[x.val] M (λv _=>K v)
 ev:∃rx,(∀u∈rx,u.oneCell'=true)/\∀M (K:Nat->List Value->Prop),V.le M->K (2*m) rx->C_chaffref_Events x M K
 wr:∀M u rn rx K,V.le M->rn+t.length<=1000000000->K (.tuple #[]) true (rn+t.length) (rx++Lib.byteCells t) M->C_tree_write x u rn rx M K
 rf:∀M (K:Value->Prop),V.le M->K (.string (mkS t))->CallE Tryd.prog 33 #[x.val] M (λv _=>K v)
theorem wsT {u:Bool} {s:List UInt8} {rn:Nat} {t0:List Value} {M:Mem} (hl:rn+s.length<=1000000000) (K:Value->Bool->Nat->List Value->Mem->Prop) (hK:K (.tuple #[.int .i64 (s.length:Nat),.nilIface]) true (rn+s.length) (t0++Lib.byteCells s) M):C_strings_Builder_WriteString s u rn t0 M K:=
 wstr_is u s rn t0 M (by omega) K (by rw[str_bytes];exact hK)
section
variable {V:Mem} {x:X_api_Tree} {xs:List X_api_Tree} {R:List (Nat×List UInt8)}
theorem tt_node (h6:P6 V) (hr:InI x.Rule) (hf:InI x.From) (ht:InI x.To) (hsl:SlV V x.Kids_a x.Kids_l x.Kids_c 4 (cl X_api_Tree.cells xs)) (hxl:xs.length=x.Kids_l) (hRl:R.length=xs.length)
  (hR:∀(i:Nat) y r,xs[i]?=some y->R[i]?=some r->TtR V y r.1 r.2) (hm:1+(R.map (·.1)).sum<=1048576):TtR V x (1+(R.map (·.1)).sum) (ttT x (R.map (·.2))):=by
 have kid:∀{i:Nat},i<x.Kids_l->∃y r,xs[i]?=some y/\R[i]?=some r/\TtR V y r.1 r.2:=λ{i} hi=>by
  obtain⟨y,hy⟩:∃y,xs[i]?=some y:=⟨xs[i]'(by omega),List.getElem?_eq_getElem _⟩
  obtain⟨r,hr⟩:∃r,R[i]?=some r:=⟨R[i]'(by omega),List.getElem?_eq_getElem _⟩
  exact⟨y,r,hy,hr,hR i y r hy hr⟩
 have l1:=itoa_len21 hr
 have l2:=itoa_len21 hf
 have l3:=itoa_len21 ht
 have lh:(hdT x).length<=65:=by unfold hdT;simp only[List.length_append,List.length_singleton];omega
 have hRs:R.length<=(R.map (·.1)).sum:=len_sum1 λr hr=>by
  obtain⟨j,hj⟩:=List.mem_iff_getElem?.1 hr
  obtain⟨y,hy⟩:∃y,xs[j]?=some y:=⟨xs[j]'(by have:=(List.getElem?_eq_some_iff.1 hj).1;omega),List.getElem?_eq_getElem _⟩
  exact(hR j y r hy hj).m1
 have hsum:∀i,((R.take i).map λr=>r.2.length+1).sum<=100*((R.take i).map (·.1)).sum:=λi=>by
  rw[<-sum_mul]
  refine sum_le λr hr=>?_
  obtain⟨j,hj⟩:=List.mem_iff_getElem?.1 (List.mem_of_mem_take hr)
  obtain⟨y,hy⟩:∃y,xs[j]?=some y:=⟨xs[j]'(by have:=(List.getElem?_eq_some_iff.1 hj).1;omega),List.getElem?_eq_getElem _⟩
  exact(hR j y r hy hj).len
 have htk:∀i,((R.take i).map (·.1)).sum<=(R.map (·.1)).sum:=λi=>by
  conv=>rhs;rw[<-List.take_append_drop i R]
  rw[List.map_append,List.sum_append];omega
 have hsp:∀i,(sepT true ((R.take i).map (·.2))).length<=100*((R.take i).map (·.1)).sum:=λi=>by
  rw[sepT_len,List.map_map];exact hsum i
 have hspa:(sepT true (R.map (·.2))).length<=100*(R.map (·.1)).sum:=by
  have:=hsp R.length
  rwa [List.take_length]at this
 have hput:∀{i:Nat} {r},R[i]?=some r->(R.take (i+1)).map (·.1)=(R.take i).map (·.1)++[r.1]/\(R.take (i+1)).map (·.2)=(R.take i).map (·.2)++[r.2]:=λ{i r} h=>by
  rw[List.take_add_one,h];simp
 have tlen:(ttT x (R.map (·.2))).length<=66+100*(R.map (·.1)).sum:=by
  unfold ttT
  split
  ·omega
  ·rw[List.length_append,List.length_append,List.length_singleton];omega
 refine⟨by omega,by omega,λM K hle hK=>?_,?_,λM u rn rx K hle hrn hK=>?_,λM K hle hK=>?_⟩
 · -- the nodes
  refine s_tree_Count _ _ _ ⟨λn i=>∃j:Nat,i=j/\j<=x.Kids_l/\n=((1+((R.take j).map (·.1)).sum:Nat):Int),λ_ i=>x.Kids_l-i.toNat,⟨0,rfl,by omega,by simp⟩,λn i ⟨j,hi,hj,hn⟩=>⟨λhlt=>?_,λhge=>?_⟩⟩
  ·subst hi
   obtain⟨y,r,g1,g2,g3⟩:=kid (i:=j) (by omega)
   obtain⟨b,o,ha,hat⟩:=(hsl.le hle).at (λ_=>rfl) hxl g1
   have e:=(hput g2).1
   have k1:=htk (j+1)
   rw[e,List.sum_append,List.sum_singleton]at k1
   refine⟨b,o,ha,by omega,hlt,y,hat,g3.cnt M _ hle ⟨_,rfl,by unfold InI;omega,by unfold InI;omega,⟨j+1,by omega,by omega,?_⟩,by dsimp only;omega⟩⟩
   rw[e,List.sum_append,List.sum_singleton];omega
  ·have hjk:j=R.length:=by omega
   subst hjk hn
   rw[List.take_length];exact hK
 · -- the events
  obtain⟨E,hEl,hE⟩:=pick (R:=λi (r:Nat×List UInt8) (rx:List Value)=>(∀u∈rx,u.oneCell'=true)/\∀y,xs[i]?=some y->∀M (K:Nat->List Value->Prop),V.le M->K (2*r.1) rx->C_chaffref_Events y M K) R λi r hr=>by
   obtain⟨y,hy⟩:∃y,xs[i]?=some y:=⟨xs[i]'(by have:=(List.getElem?_eq_some_iff.1 hr).1;omega),List.getElem?_eq_getElem _⟩
   obtain⟨rx,q1,q2⟩:=(hR i y r hy hr).ev
   exact⟨rx,q1,λy' hy'=>by rw[hy]at hy';cases hy';exact q2⟩
  have oneE:∀i,∀u∈(E.take i).flatten,u.oneCell'=true:=λi u hu=>by
   obtain⟨c,hc,hu⟩:=List.mem_flatten.1 hu
   obtain⟨j,hj⟩:=List.mem_iff_getElem?.1 (List.mem_of_mem_take hc)
   obtain⟨r,hr⟩:∃r,R[j]?=some r:=⟨R[j]'(by have:=(List.getElem?_eq_some_iff.1 hj).1;omega),List.getElem?_eq_getElem _⟩
   exact(hE j r c hr hj).1 u hu
  have e1:∀u∈(X_api_Event.mk 1 x.Rule x.From).cells,u.oneCell'=true:=by rw[<-cl_one];exact Ec_one _
  have e2:∀u∈(X_api_Event.mk 2 x.Rule x.To).cells,u.oneCell'=true:=by rw[<-cl_one];exact Ec_one _
  refine⟨(X_api_Event.mk 1 x.Rule x.From).cells++E.flatten++(X_api_Event.mk 2 x.Rule x.To).cells,λu hu=>?_,λM K hle hK=>?_⟩
  ·rcases List.mem_append.1 hu with hu|hu
   ·rcases List.mem_append.1 hu with hu|hu
    ·exact e1 u hu
    ·exact oneE E.length u (by rw[List.take_length];exact hu)
   ·exact e2 u hu
  ·refine s_chaffref_Events _ _ _ ⟨λi rn rx=>∃j:Nat,i=j/\j<=x.Kids_l/\rn=2*((R.take j).map (·.1)).sum/\rx=(E.take j).flatten,λi _ _=>x.Kids_l-i.toNat,⟨0,rfl,by omega,by simp,by simp⟩,λi rn rx ⟨j,hi,hj,hrn,hrx⟩=>⟨λhlt=>?_,λhge=>?_⟩⟩
   ·subst hi
    obtain⟨y,r,g1,g2,g3⟩:=kid (i:=j) (by omega)
    obtain⟨b,o,ha,hat⟩:=(hsl.le hle).at (λ_=>rfl) hxl g1
    obtain⟨c,hc⟩:∃c,E[j]?=some c:=⟨E[j]'(by omega),List.getElem?_eq_getElem _⟩
    obtain⟨q1,q2⟩:=hE j r c g2 hc
    have e:=(hput g2).1
    have k1:=htk (j+1)
    rw[e,List.sum_append,List.sum_singleton]at k1
    refine⟨b,o,ha,by omega,hlt,y,hat,q2 y g1 M _ hle ⟨q1,by omega,by unfold InI;omega,⟨j+1,by omega,by omega,?_,?_⟩,by dsimp only;omega⟩⟩
    ·rw[e,List.sum_append,List.sum_singleton];omega
    ·rw[hrx,List.take_add_one,hc,List.flatten_append];simp
   ·have hjk:j=R.length:=by omega
    subst hjk
    rw[List.take_length]at hrn
    rw[show R.length=E.length from hEl.symm,List.take_length]at hrx
    intro M1 a1 c1 l1 s1 M2 a2 c2 l2 s2 M3 a3 c3 l3 s3 M4 a4 c4 l4 s4
    have:=htk R.length
    refine s_slices_Concat_Event _ _ _ _ _ (econcat_is s4 (((s1.le l2).le l3).le l4) ((s2.le l3).le l4) (s3.le l4) e1 (by rw[hrx];exact λu hu=>oneE E.length u (by rw[List.take_length];exact hu)) e2 (by omega) (by omega) (by omega) _ ?_)
    rw[hrx,show 1+rn+1=2*(1+(R.map (·.1)).sum) by omega];exact hK
 · -- the builder
  have h6':=h6.le hle
  refine s_tree_write _ _ _ _ _ _ ((itoaQ_is h6' hr).mono λv M' hv' hv=>⟨_,hv,by simp only[List.length_singleton];omega,(itoaQ_is h6' hf).mono λv M' _ hv=>⟨_,hv,by simp only[List.length_append,List.length_singleton];omega,by simp only[List.length_append,List.length_singleton];omega,(itoaQ_is h6' ht).mono λv M' _ hv=>⟨_,hv,by simp only[List.length_append,List.length_singleton];omega,?_⟩⟩⟩)
  have tl:hdT x=Lib.itoa x.Rule++([58]:List UInt8)++Lib.itoa x.From++([45]:List UInt8)++Lib.itoa x.To:=rfl
  rw[<-tl]
  have hge1:(hdT x).length<=(ttT x (R.map (·.2))).length:=by unfold ttT;split<;>simp
  refine wsT (by omega) _ ⟨_,_,rfl,?_⟩
  refine⟨λi c rn' rx' M'=>∃j:Nat,i=j/\j<=x.Kids_l/\c=true/\M'=M/\rn'=rn+(hdT x++sepT true ((R.take j).map (·.2))).length/\rx'=rx++Lib.byteCells (hdT x++sepT true ((R.take j).map (·.2))),λi _ _ _=>x.Kids_l-i.toNat,⟨0,rfl,by omega,rfl,rfl,by simp[sepT],by simp[sepT]⟩,λi c rn' rx' M' ⟨j,hi,hj,hc,hM',hrn',hrx'⟩=>⟨λhlt=>?_,λhge=>?_⟩⟩
  ·subst hi hc hM'
   obtain⟨y,r,g1,g2,g3⟩:=kid (i:=j) (by omega)
   obtain⟨b,o,ha,hat⟩:=(hsl.le hle).at (λ_=>rfl) hxl g1
   obtain⟨e,e'⟩:=hput g2
   have hne:R≠[]:=λq=>by rw[q]at g2;simp at g2
   have tfull:(ttT x (R.map (·.2))).length=(hdT x).length+(sepT true (R.map (·.2))).length+1:=by
    unfold ttT;rw[if_neg (by simpa using hne),List.length_append,List.length_append,List.length_singleton]
   have hpart:(sepT true ((R.take (j+1)).map (·.2))).length<=(sepT true (R.map (·.2))).length:=by
    rw[sepT_len,sepT_len]
    conv=>rhs;rw[<-List.take_append_drop (j+1) R,List.map_append,List.map_append,List.sum_append]
    omega
   have hsep:sepT true ((R.take (j+1)).map (·.2))=sepT true ((R.take j).map (·.2))++((if j=0 then[40] else[32])++r.2):=by
    rw[e',sepT_snoc]
    congr 2
    by_cases h0:j=0
    ·subst h0;simp
    ·have:R.take j≠[]:=by
      intro q
      have:=congrArg List.length q
      rw[List.length_take,List.length_nil]at this
      omega
     rw[if_neg (by simpa using this),if_neg h0]
   rw[hsep,List.length_append,List.length_append]at hpart
   have hs1:((if j=0 then[40] else[32]:List UInt8)).length=1:=by split<;>rfl
   rw[hs1]at hpart
   rw[List.length_append]at hrn'
   refine⟨b,o,ha,by omega,hlt,y,hat,by split<;>omega,by split<;>omega,(if j=0 then[40] else[32]),?_,wsT (by rw[hs1];omega) _ ⟨_,_,rfl,g3.wr M' _ _ _ _ hle (by rw[hs1];omega) ⟨rfl,by unfold InI;omega,⟨j+1,by omega,by omega,rfl,rfl,?_,?_⟩,by dsimp only;omega⟩⟩⟩
   ·by_cases h0:j=0
    ·subst h0;rfl
    ·have e1:(if 1<(j:Int) then(1:Int) else(j:Int))=1:=by split<;>omega
     rw[if_neg h0,e1];rfl
   ·rw[hsep,hs1,hrn'];simp only[List.length_append,hs1];omega
   ·rw[hsep,hrx',List.append_assoc,List.append_assoc,bytes_app,bytes_app]
    simp only[List.append_assoc]
  ·have hjk:j=R.length:=by omega
   subst hjk hc hM'
   rw[List.take_length]at hrn' hrx'
   refine⟨λhk=>?_,λhk=>?_⟩
   ·have hne:R≠[]:=λq=>by rw[q]at hRl;simp at hRl;omega
    have tfull:ttT x (R.map (·.2))=hdT x++sepT true (R.map (·.2))++[41]:=by unfold ttT;rw[if_neg (by simpa using hne)]
    rw[tfull]at hK hrn
    rw[List.length_append,List.length_singleton]at hK hrn
    refine wsT (by rw[hrn',List.length_singleton];omega) _ ⟨_,_,rfl,?_⟩
    rw[hrn',hrx',List.append_assoc,bytes_app,List.length_singleton,Nat.add_assoc];exact hK
   ·have hne:R=[]:=List.length_eq_zero_iff.1 (by omega)
    subst hne
    have tfull:ttT x (([]:List (Nat×List UInt8)).map (·.2))=hdT x:=rfl
    rw[tfull]at hK
    simp only[List.map_nil,sepT,List.append_nil]at hrn' hrx'
    rw[hrn',hrx'];exact hK
 · -- the reference
  refine s_chaffref_TreeText _ _ _ (s_chaffref_Dec _ _ _ (rdec_is hr _ ⟨_,rfl,by simp only[List.length_singleton];omega,s_chaffref_Dec _ _ _ (rdec_is hf _ ⟨_,rfl,by simp only[List.length_append,List.length_singleton];omega,by simp only[List.length_append,List.length_singleton];omega,s_chaffref_Dec _ _ _ (rdec_is ht _ ⟨_,rfl,by simp only[List.length_append,List.length_singleton];omega,?_⟩)⟩)⟩))
  have tl:hdT x=Lib.itoa x.Rule++([58]:List UInt8)++Lib.itoa x.From++([45]:List UInt8)++Lib.itoa x.To:=rfl
  rw[<-tl]
  refine⟨λh0=>?_,λh0=>?_⟩
  ·have hne:R=[]:=List.length_eq_zero_iff.1 (by omega)
   subst hne
   exact hK
  ·have hne:R≠[]:=λq=>by rw[q]at hRl;simp at hRl;omega
   have tfull:ttT x (R.map (·.2))=hdT x++sepT true (R.map (·.2))++[41]:=by unfold ttT;rw[if_neg (by simpa using hne)]
   refine⟨λi rn rx=>∃j:Nat,i=j/\j<=x.Kids_l/\rn=j/\rx=strV ((R.take j).map (·.2)),λi _ _=>x.Kids_l-i.toNat,⟨0,rfl,by omega,rfl,rfl⟩,λi rn rx ⟨j,hi,hj,hrn,hrx⟩=>⟨λhlt=>?_,λhge=>?_⟩⟩
   ·subst hi hrn
    obtain⟨y,r,g1,g2,g3⟩:=kid (i:=rn) (by omega)
    obtain⟨b,o,ha,hat⟩:=(hsl.le hle).at (λ_=>rfl) hxl g1
    refine⟨b,o,ha,by omega,hlt,y,hat,g3.rf M _ hle ⟨_,rfl,by omega,by unfold InI;omega,⟨rn+1,by omega,by omega,rfl,?_⟩,by dsimp only;omega⟩⟩
    rw[hrx,strV_snoc,(hput g2).2]
   ·have hjk:j=R.length:=by omega
    subst hjk
    rw[List.take_length]at hrx
    refine⟨by simp only[List.length_singleton];omega,λM1 ad cap hl1 hs1=>?_⟩
    rw[hrx]at hs1
    have hj:([40]:List UInt8)++Lib.join (R.map (·.2)) [32]=sepT true (R.map (·.2)):=by
     cases hq:R.map (·.2)with
     |nil=>exact absurd (by simpa using hq) hne
     |cons z r=>rw[<-sepT_join,sepT];simp
    have hjl:=congrArg List.length hj
    rw[List.length_append,List.length_singleton]at hjl
    have hRm:(R.map (·.2)).length<=140737488355328:=by rw[List.length_map];omega
    refine(join_call (sep:=[32]) hs1 hRm (by omega)).mono λv M' _ hv=>⟨_,hv,by simp only[List.length_append,List.length_singleton];omega,by simp only[List.length_append,List.length_singleton];omega,?_⟩
    rw[tfull,<-hj]at hK
    simp only[List.append_assoc]at hK ⊢
    exact hK
end
theorem text_isT {V M:Mem} {x:X_api_Tree} {m:Nat} {t:List UInt8} (h:TtR V x m t) (hle:V.le M) (hm:m<=1048576) (K:Value->Prop) (hK:K (.string (mkS t))):CallE Tryd.prog 32 #[x.val] M (λv _=>K v):=by
 have:=h.len
 refine s_tree_Text _ _ _ (h.wr M false 0 [] _ hle (by omega) ⟨rfl,t,by simp,hK⟩)
end Go.Proofs.YtjecddabdlapbaaDoor.core

namespace Go.Proofs.YtjecddabdlapbaaDoor.core
open Go.Gx Go.RowKit Go.ChangeShapes Go.WideShapes Go.ChangeAt
set_option linter.unusedVariables false
theorem heap_of_var {P:Program} {W:World} {name:String} {g:Nat} {cs:Array Value} (hg:P.globalNamed name=some g) (h:W.var? P name=some cs):∃e f,HM W g=some (.cells cs e f):=by
 unfold World.var? at h
 rw[hg]at h
 simp only[Option.bind_some]at h
 split at h
 ·rename_i c e f hq
  cases h
  exact⟨e,f,hq⟩
 ·cases h
theorem pow_data:(Rows.laid_internal_strconv_uint64pow10:DataW Unit)=Lib.tabData .u64 Lib.pow10Tab:=by kernel_rfl
theorem pow_of {W:World} (h:Lib.VarReads Tryd.prog W "internal/strconv.uint64pow10" Rows.laid_internal_strconv_uint64pow10):∃e f,HM W 6=some (.cells (Lib.pow10Tab.map λz=>Value.int .u64 z).toArray e f):=by
 obtain⟨g,t,cs,fuel,p,hg,hty,hvar,hd⟩:=h
 obtain rfl:=Option.some.inj ((show Tryd.prog.globalNamed "internal/strconv.uint64pow10"=some 6 by kernel_rfl).symm.trans hg)
 obtain rfl:=Option.some.inj ((show(Tryd.prog.globals[6]?).map (·.type)=some 200 by kernel_rfl).symm.trans hty)
 rw[pow_data]at hd
 have hcs:=Lib.cells_of_tab (n:=20) (e:=22) (by kernel_rfl) (by kernel_rfl) (by kernel_rfl) (by kernel_rfl) hd
 obtain⟨e,f,q⟩:=heap_of_var hg hvar
 refine⟨e,f,?_⟩
 rw[q,<-hcs]
end Go.Proofs.YtjecddabdlapbaaDoor.core

