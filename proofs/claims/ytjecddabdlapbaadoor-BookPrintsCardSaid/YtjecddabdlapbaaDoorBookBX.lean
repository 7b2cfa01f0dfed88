/- Contracts of functions: what each answers at every input that its caller may hand it. No condition. -/
import Derived.Test.YtjecddabdlapbaaDoorM2
import Derived.Test.YtjecddabdlapbaaDoorM1
namespace Go.Proofs.YtjecddabdlapbaaDoor.core
open Go.Gx Go.RowKit Go.ChangeShapes Go.WideShapes Go.ChangeAt
set_option linter.unusedVariables false
theorem bwW_none (E:World) (M:Mem):bwW E M (λ_=>False)=[]:=List.eq_nil_iff_forall_not_mem.2 λx h=>(mem_bwW.1 h).2.1
theorem toW {n:Nat} {E:World} {M:Mem} {w:World} {a:Act} {env:Env} {bs:List Bx} {rs:List Rw} (h:Sx n E [] M w a env bs rs):Sx n E (bwW E M (λ_=>False)) M w a env bs rs:=by rw[bwW_none];exact h
theorem ofW {n:Nat} {E:World} {M M2:Mem} {w:World} {a:Act} {env:Env} {bs:List Bx} {rs:List Rw} (h:Sx n E (bwW E M (λ_=>False)) M2 w a env bs rs) (hL:M.le M2):Sx n E [] M w a env bs rs:=by
 rw[bwW_none]at h
 have hn:∀b,M2 b=none->M b=none:=λb hb=>by
  cases hm:M b with
  |none=>rfl
  |some o=>rw[hL b o hm]at hb;cases hb
 exact⟨h.ag,λb o q=>h.on b o (hL b o q),h.pr,λx hx=>⟨(h.bx x hx).1,hn _ (h.bx x hx).2.1,(h.bx x hx).2.2⟩,λr hr=>⟨(h.rw r hr).1,λg hg=>⟨hn _ ((h.rw r hr).2 g hg).1,((h.rw r hr).2 g hg).2⟩⟩,h.nd⟩
section
variable {P:Program} {ops:Array Oper} {Q:Exit->Act->World->Prop} {C:World->Prop} {keep:List Bool}
theorem WpD.cut {fuel:Nat} {listed:Array Bool} {a:Act} {w:World} {X:Act->World->Prop} (l2:Array Bool) (f2:Nat) (h2:∀a w,X a w->WpD P ops Q C keep f2 l2 a w) (h:(∀a w,X a w->WpD P ops Q C keep f2 l2 a w)->WpD P ops Q C keep fuel listed a w):WpD P ops Q C keep fuel listed a w:=h h2
theorem WpD.at {fuel:Nat} {l1 l2:Array Bool} {a:Act} {w:World} (e:l1=l2) (h:WpD P ops Q C keep fuel l2 a w):WpD P ops Q C keep fuel l1 a w:=e▸h
end
def wdT (c:X_api_Case) (d:List UInt8):List UInt8:=if c.Kind=1 then[97,99,99,101,112,116,32] else if c.Kind=2 then[114,101,106,101,99,116,32] else[112,114,101,102,105,120,32]++d++[32]
theorem wdT_len {c:X_api_Case} {d:List UInt8} (h:d.length<=1000):(wdT c d).length<=1008:=by
 unfold wdT
 split
 ·simp
 ·split
  ·simp
  ·simp only[List.length_append,List.length_cons,List.length_nil];omega
def LineC (c:X_api_Case) (ln:List UInt8):Prop:=∃dN lT:List UInt8,(∀M,CallE Tryd.prog 47 #[.int .i64 c.N] M (λv _=>v= .string (mkS dN)))/\(∀M,CallE Tryd.prog 79 #[.string (mkS c.Text)] M (λv _=>v= .string (mkS lT)))/\(c.Kind=1\/c.Kind=2\/c.Kind=4)/\dN.length<=1000/\lT.length<=1000/\ln=wdT c dN++lT++[10]
def S_chaffref_Book (la1:Option Addr) (ll2:Nat) (lc3:Nat) (M:Mem) (K:Value->Prop):Prop:=
 (∃(I13:List UInt8->Int->Prop) (mu14:List UInt8->Int->Nat),I13 ([]:List UInt8) 0/\∀(out11:List UInt8) (x12:Int),(I13 out11 x12->((x12<((ll2:Nat):Int)->(∃(b15 o16:Nat),la1=some ⟨b15,o16,none⟩/\(0:Int)<=x12/\x12<((ll2:Nat):Int)/\(∃(x17:X_api_Case),At M b15 (o16+x12.toNat*3) x17.cells/\(∃(x19:List UInt8),LineC x17 x19/\(out11.length+x19.length<=9223372036854775807/\(InI (x12+1)/\I13 (out11++x19) (x12+1)/\mu14 (out11++x19) (x12+1)<mu14 out11 x12))))))/\(¬(x12<((ll2:Nat):Int))->K (Value.string (mkS out11))))))
set_option linter.unusedVariables false in
set_option maxRecDepth 100000 in
theorem s_chaffref_Book (la1:Option Addr) (ll2:Nat) (lc3:Nat) (M:Mem) (K:Value->Prop) (hS:S_chaffref_Book la1 ll2 lc3 M K):CallE Tryd.prog 40 #[(Value.slice la1 ll2 lc3)] M (λv _=>K v):=by
 refine enterE Tryd.func40 rfl 31 rfl (Nat.le_of_ble_eq_true rfl) (λE a hs=>?_)
 unfold S_chaffref_Book at hS
 have hMM:=MX.refl M E
 change Sx 31 E [] M E a [(0,(Value.slice la1 ll2 lc3))] [] []at hs
 refine Wp.seq (Wp.region (sP (Value.string (mkS ([]:List UInt8))) hs λ_ hs=>?_))
 refine wpList_nil (Wp.seq (Wp.region (sP (Value.string (mkS ([]:List UInt8))) hs λ_ hs=>?_)))
 refine wpList_nil (Wp.seq (Wp.seq (Wp.region (sP (Value.slice la1 ll2 lc3) hs λ_ hs=>?_))))
 refine sP (Value.int .i64 ((ll2:Nat):Int)) hs λ_ hs=>?_
 refine sP (Value.int .i64 0) hs λ_ hs=>?_
 refine wpList_nil (Wp.block ?_)
 obtain⟨I13,mu14,hI0,hst⟩:=hS
 refine Wp.loop (σ:=(List UInt8)×(Int)) (λs a w=>match s with|(out11,x12)=>Sx 31 E [] M w a [(3,(Value.string (mkS out11))),(6,(Value.slice la1 ll2 lc3)),(7,(Value.int .i64 ((ll2:Nat):Int))),(8,(Value.int .i64 x12))] [] []/\I13 out11 x12) (λs=>match s with|(out11,x12)=>mu14 out11 x12) (([]:List UInt8),0) ⟨(hs.weak (List.Sublist.refl _) (List.Sublist.refl _) ⟨rfl,rfl,rfl,rfl,trivial⟩),hI0⟩ (λs a w hI=>?_)
 obtain⟨out11,x12⟩:=s
 obtain⟨hs,hI⟩:=hI
 have hS:=hst out11 x12 hI
 clear hst hI0 hI
 refine Wp.seq (Wp.region (sP (Value.bool (decide (x12<((ll2:Nat):Int)))) hs λ_ hs=>?_))
 refine wpList_nil (Wp.seq (Wp.cond hs rfl rfl decide_eq_true_iff (λhc=>?_) (λhc=>?_)))
 ·have hS:=hS.1 hc
  refine Wp.skip (Wp.seq (Wp.block (Wp.seq (Wp.region ?_))))
  obtain⟨b15,o16,ha,h0,hl,hS⟩:=hS
  refine sY (Value.pointer (some ⟨b15,o16+x12.toNat*3,none⟩)) hs (Yl.indexS (e:=81) (sz:=3) rfl rfl rfl rfl (by kernel_rfl) (by kernel_rfl) ha h0 hl) λ_ hs=>?_
  obtain⟨x17,hat,hS⟩:=hS
  refine sY x17.val hs (Yl.loadV (vs:=x17.cells) true rfl rfl (by kernel_rfl) hat) λ_ hs=>?_
  refine stepAlloc [(Value.int .i64 0),(Value.int .i64 0),(Value.string (mkS []))] hs (by kernel_rfl) (by decide) (λ_ _ b18 hEb18 hs=>?_)
  refine stepStoreB 0 (vs:=[(Value.int .i64 x17.Kind),(Value.int .i64 x17.N),(Value.string (mkS x17.Text))]) hs rfl rfl rfl rfl rfl rfl (by kernel_rfl) (Nat.le_of_ble_eq_true rfl) rfl (λ_ _ hs=>?_)
  replace hs:=hs.chbx (bs':=[⟨b18,81,[(Value.int .i64 x17.Kind),(Value.int .i64 x17.N),(Value.string (mkS x17.Text))]⟩]) rfl
  obtain⟨x19,⟨dN,lT,hDec,hLit,hkd,hdl,hll,rfl⟩,hlo,hS⟩:=hS
  have hki:InI x17.Kind:=by unfold InI;omega
  refine wpList_nil (Wp.regionD [true,true,true,true,true,true,true,true,true,true,true,true,true,true,true,true,true,true,true,true,true] hs (by kernel_rfl) rfl [⟨b18,81,[(Value.int .i64 x17.Kind),(Value.int .i64 x17.N),(Value.string (mkS x17.Text))]⟩] (λ_ h=>h) [] (λ_ h=>h) (λw hs hC=>?_))
  refine WpD.cut (X:=λa w=>∃(M2:Mem),M.le M2/\WX M2 M E/\Sx 31 E (bwW E M (λ_=>False)) M2 w a [(22,kS (wdT x17 dN)),(25,Value.string (mkS lT)),(24,Value.string (mkS x17.Text)),(21,Value.int .i64 x17.Kind),(15,Value.int .i64 x17.N),(12,Value.string (mkS out11)),(3,Value.string (mkS out11)),(6,(Value.slice la1 ll2 lc3)),(7,(Value.int .i64 ((ll2:Nat):Int))),(8,(Value.int .i64 x12))] [⟨b18,81,[(Value.int .i64 x17.Kind),(Value.int .i64 x17.N),(Value.string (mkS x17.Text))]⟩] []) #[true,true,true,true,true,true,true,true,true,true,true,true,true,true,true,true,true,false,false,false,false] 4 (λa w hX=>?_) (λWn6LP=>?_)
  ·obtain⟨M2,hL,hX2,hs⟩:=hX
   refine stepDP (v:=Value.string (mkS (wdT x17 dN++lT))) 17 [18,19,20] hs QZ.no rfl (wanted_none rfl) rfl (by decide) (by kernel_rfl) (by kernel_rfl) (by kernel_rfl) (Yl.concat rfl rfl rfl rfl (by have:=wdT_len (c:=x17) hdl;omega)) λ_ hs=>?_
   refine stepDP (v:=Value.string (mkS (wdT x17 dN++lT++[10]))) 18 [19,20] hs QZ.no rfl (wanted_none rfl) rfl (by decide) (by kernel_rfl) (by kernel_rfl) (by kernel_rfl) (Yl.concat rfl rfl rfl rfl (by have:=wdT_len (c:=x17) hdl;simp only[List.length_append,List.length_cons,List.length_nil];omega)) λ_ hs=>?_
   refine stepDP (v:=Value.string (mkS (out11++(wdT x17 dN++lT++[10])))) 19 [20] hs QZ.no rfl (wanted_none rfl) rfl (by decide) (by kernel_rfl) (by kernel_rfl) (by kernel_rfl) (Yl.concat rfl rfl rfl rfl (hlo)) λ_ hs=>?_
   refine stepDE 20 rfl (wanted_none rfl) (by kernel_rfl) #[] ?_
   refine sP (Value.string (mkS (out11++(wdT x17 dN++lT++[10])))) hs λ_ hs=>?_
   refine wpList_nil ⟨λ_ h=>h,?_⟩
   refine WpD.done (by kernel_rfl) ?_ _
   replace hs:=ofW hs hL
   refine Wp.region ?_
   obtain⟨hI,hS⟩:=hS
   refine sY (Value.int .i64 (x12+1)) hs (Yl.eq (Yl.pure (v:=Value.int .i64 (IntKind.wrap .i64 (x12+1))) rfl (λ_=>by kernel_rfl)) (congrArg (Value.int .i64) (wrap_in hI))) λ_ hs=>?_
   refine sP (Value.int .i64 (x12+1)) hs λ_ hs=>?_
   exact wpList_nil (⟨(out11++(wdT x17 dN++lT++[10]),x12+1),⟨(hs.weak (.cons _ List.Sublist.slnil) (List.Sublist.refl _) ⟨rfl,rfl,rfl,rfl,trivial⟩),hS.1⟩,hS.2⟩)
  refine WpD.cut (X:=λa w=>∃(M2:Mem),M.le M2/\WX M2 M E/\Sx 31 E (bwW E M (λ_=>False)) M2 w a [(22,kS (wdT x17 dN)),(24,Value.string (mkS x17.Text)),(21,Value.int .i64 x17.Kind),(15,Value.int .i64 x17.N),(12,Value.string (mkS out11)),(3,Value.string (mkS out11)),(6,(Value.slice la1 ll2 lc3)),(7,(Value.int .i64 ((ll2:Nat):Int))),(8,(Value.int .i64 x12))] [⟨b18,81,[(Value.int .i64 x17.Kind),(Value.int .i64 x17.N),(Value.string (mkS x17.Text))]⟩] []) #[true,true,true,true,true,true,true,true,true,true,true,true,true,true,true,true,false,false,false,false,false] 5 (λa w hX=>?_) (λWn6P=>?_)
  ·obtain⟨M2,hL,hX2,hs⟩:=hX
   refine stepDE 16 rfl (wanted_none rfl) (by kernel_rfl) #[] ?_
   refine stepCallP [(Value.string (mkS x17.Text))] hs rfl ⟨_,rfl,rfl⟩ rfl Tryd.func79 rfl (by kernel_rfl) (by decide) (hLit M2) (λ_ _ v hv hs=>?_)
   subst hv
   refine wpList_nil ⟨λ_ _=>hs.cxle hL (List.Sublist.refl _) (List.Sublist.refl _),?_⟩
   exact WpD.at (by kernel_rfl) (Wn6LP _ _ ⟨_,hL,hX2,(hs.wk ⟨rfl,rfl,rfl,rfl,rfl,rfl,rfl,rfl,rfl,rfl,trivial⟩)⟩)
  refine WpD.cut (X:=λa w=>∃(M2:Mem) (r:Nat),M.le M2/\WX M2 M E/\M r=none/\MapA M2 r (kvL kI kS [(1,([97,99,99,101,112,116,32]:List UInt8)),(2,([114,101,106,101,99,116,32]:List UInt8)),(4,(([112,114,101,102,105,120,32]++dN++[32]):List UInt8))])/\Sx 31 E (bwW E M (λ_=>False)) M2 w a [(13,Value.map (some r)),(18,Value.string (mkS ([112,114,101,102,105,120,32]++dN++[32]))),(25,Value.string (mkS lT)),(24,Value.string (mkS x17.Text)),(21,Value.int .i64 x17.Kind),(15,Value.int .i64 x17.N),(12,Value.string (mkS out11)),(3,Value.string (mkS out11)),(6,(Value.slice la1 ll2 lc3)),(7,(Value.int .i64 ((ll2:Nat):Int))),(8,(Value.int .i64 x12))] [⟨b18,81,[(Value.int .i64 x17.Kind),(Value.int .i64 x17.N),(Value.string (mkS x17.Text))]⟩] []) #[true,true,true,true,true,true,true,true,true,true,false,true,true,false,true,true,true,false,false,false,false] 6 (λa w hX=>?_) (λWm2396L=>?_)
  ·obtain⟨M2,r,hL,hX2,hr,hf,hs⟩:=hX
   refine dP (Value.map (some r)) 10 [13,17,18,19,20] hs QZ.no (wanted_none rfl) λ_ hs=>?_
   refine stepDE 13 rfl (wanted_none rfl) (by kernel_rfl) #[] ?_
   refine sY (kS (wdT x17 dN)) hs (Yl.eq (Yl.lookI kS 3 9 [(1,([97,99,99,101,112,116,32]:List UInt8)),(2,([114,101,106,101,99,116,32]:List UInt8)),(4,(([112,114,101,102,105,120,32]++dN++[32]):List UInt8))] [] x17.Kind hki hf) (congrArg kS (by unfold wdT;rcases hkd with h|h|h<;>rw[h]<;>rfl))) λ_ hs=>?_
   refine wpList_nil ⟨λ_ h=>h,?_⟩
   exact WpD.at (by kernel_rfl) (Wn6LP _ _ ⟨_,hL,hX2,(hs.wk ⟨rfl,rfl,rfl,rfl,rfl,rfl,rfl,rfl,rfl,rfl,trivial⟩)⟩)
  refine WpD.cut (X:=λa w=>∃(M2:Mem) (r:Nat),M.le M2/\WX M2 M E/\M r=none/\MapA M2 r (kvL kI kS [(1,([97,99,99,101,112,116,32]:List UInt8)),(4,(([112,114,101,102,105,120,32]++dN++[32]):List UInt8)),(2,([114,101,106,101,99,116,32]:List UInt8))])/\Sx 31 E (bwW E M (λ_=>False)) M2 w a [(13,Value.map (some r)),(18,Value.string (mkS ([112,114,101,102,105,120,32]++dN++[32]))),(25,Value.string (mkS lT)),(24,Value.string (mkS x17.Text)),(21,Value.int .i64 x17.Kind),(15,Value.int .i64 x17.N),(12,Value.string (mkS out11)),(3,Value.string (mkS out11)),(6,(Value.slice la1 ll2 lc3)),(7,(Value.int .i64 ((ll2:Nat):Int))),(8,(Value.int .i64 x12))] [⟨b18,81,[(Value.int .i64 x17.Kind),(Value.int .i64 x17.N),(Value.string (mkS x17.Text))]⟩] []) #[true,true,true,true,true,true,true,true,true,true,false,true,true,false,true,true,true,false,false,false,false] 6 (λa w hX=>?_) (λWm2936L=>?_)
  ·obtain⟨M2,r,hL,hX2,hr,hf,hs⟩:=hX
   refine dP (Value.map (some r)) 10 [13,17,18,19,20] hs QZ.no (wanted_none rfl) λ_ hs=>?_
   refine stepDE 13 rfl (wanted_none rfl) (by kernel_rfl) #[] ?_
   refine sY (kS (wdT x17 dN)) hs (Yl.eq (Yl.lookI kS 3 9 [(1,([97,99,99,101,112,116,32]:List UInt8)),(4,(([112,114,101,102,105,120,32]++dN++[32]):List UInt8)),(2,([114,101,106,101,99,116,32]:List UInt8))] [] x17.Kind hki hf) (congrArg kS (by unfold wdT;rcases hkd with h|h|h<;>rw[h]<;>rfl))) λ_ hs=>?_
   refine wpList_nil ⟨λ_ h=>h,?_⟩
   exact WpD.at (by kernel_rfl) (Wn6LP _ _ ⟨_,hL,hX2,(hs.wk ⟨rfl,rfl,rfl,rfl,rfl,rfl,rfl,rfl,rfl,rfl,trivial⟩)⟩)
  refine WpD.cut (X:=λa w=>∃(M2:Mem) (r:Nat),M.le M2/\WX M2 M E/\M r=none/\MapA M2 r (kvL kI kS [(2,([114,101,106,101,99,116,32]:List UInt8)),(1,([97,99,99,101,112,116,32]:List UInt8)),(4,(([112,114,101,102,105,120,32]++dN++[32]):List UInt8))])/\Sx 31 E (bwW E M (λ_=>False)) M2 w a [(13,Value.map (some r)),(18,Value.string (mkS ([112,114,101,102,105,120,32]++dN++[32]))),(25,Value.string (mkS lT)),(24,Value.string (mkS x17.Text)),(21,Value.int .i64 x17.Kind),(15,Value.int .i64 x17.N),(12,Value.string (mkS out11)),(3,Value.string (mkS out11)),(6,(Value.slice la1 ll2 lc3)),(7,(Value.int .i64 ((ll2:Nat):Int))),(8,(Value.int .i64 x12))] [⟨b18,81,[(Value.int .i64 x17.Kind),(Value.int .i64 x17.N),(Value.string (mkS x17.Text))]⟩] []) #[true,true,true,true,true,true,true,true,true,true,false,true,true,false,true,true,true,false,false,false,false] 6 (λa w hX=>?_) (λWm3296L=>?_)
  ·obtain⟨M2,r,hL,hX2,hr,hf,hs⟩:=hX
   refine dP (Value.map (some r)) 10 [13,17,18,19,20] hs QZ.no (wanted_none rfl) λ_ hs=>?_
   refine stepDE 13 rfl (wanted_none rfl) (by kernel_rfl) #[] ?_
   refine sY (kS (wdT x17 dN)) hs (Yl.eq (Yl.lookI kS 3 9 [(2,([114,101,106,101,99,116,32]:List UInt8)),(1,([97,99,99,101,112,116,32]:List UInt8)),(4,(([112,114,101,102,105,120,32]++dN++[32]):List UInt8))] [] x17.Kind hki hf) (congrArg kS (by unfold wdT;rcases hkd with h|h|h<;>rw[h]<;>rfl))) λ_ hs=>?_
   refine wpList_nil ⟨λ_ h=>h,?_⟩
   exact WpD.at (by kernel_rfl) (Wn6LP _ _ ⟨_,hL,hX2,(hs.wk ⟨rfl,rfl,rfl,rfl,rfl,rfl,rfl,rfl,rfl,rfl,trivial⟩)⟩)
  refine WpD.cut (X:=λa w=>∃(M2:Mem) (r:Nat),M.le M2/\WX M2 M E/\M r=none/\MapA M2 r (kvL kI kS [(2,([114,101,106,101,99,116,32]:List UInt8)),(4,(([112,114,101,102,105,120,32]++dN++[32]):List UInt8)),(1,([97,99,99,101,112,116,32]:List UInt8))])/\Sx 31 E (bwW E M (λ_=>False)) M2 w a [(13,Value.map (some r)),(18,Value.string (mkS ([112,114,101,102,105,120,32]++dN++[32]))),(25,Value.string (mkS lT)),(24,Value.string (mkS x17.Text)),(21,Value.int .i64 x17.Kind),(15,Value.int .i64 x17.N),(12,Value.string (mkS out11)),(3,Value.string (mkS out11)),(6,(Value.slice la1 ll2 lc3)),(7,(Value.int .i64 ((ll2:Nat):Int))),(8,(Value.int .i64 x12))] [⟨b18,81,[(Value.int .i64 x17.Kind),(Value.int .i64 x17.N),(Value.string (mkS x17.Text))]⟩] []) #[true,true,true,true,true,true,true,true,true,true,false,true,true,false,true,true,true,false,false,false,false] 6 (λa w hX=>?_) (λWm3926L=>?_)
  ·obtain⟨M2,r,hL,hX2,hr,hf,hs⟩:=hX
   refine dP (Value.map (some r)) 10 [13,17,18,19,20] hs QZ.no (wanted_none rfl) λ_ hs=>?_
   refine stepDE 13 rfl (wanted_none rfl) (by kernel_rfl) #[] ?_
   refine sY (kS (wdT x17 dN)) hs (Yl.eq (Yl.lookI kS 3 9 [(2,([114,101,106,101,99,116,32]:List UInt8)),(4,(([112,114,101,102,105,120,32]++dN++[32]):List UInt8)),(1,([97,99,99,101,112,116,32]:List UInt8))] [] x17.Kind hki hf) (congrArg kS (by unfold wdT;rcases hkd with h|h|h<;>rw[h]<;>rfl))) λ_ hs=>?_
   refine wpList_nil ⟨λ_ h=>h,?_⟩
   exact WpD.at (by kernel_rfl) (Wn6LP _ _ ⟨_,hL,hX2,(hs.wk ⟨rfl,rfl,rfl,rfl,rfl,rfl,rfl,rfl,rfl,rfl,trivial⟩)⟩)
  refine WpD.cut (X:=λa w=>∃(M2:Mem) (r:Nat),M.le M2/\WX M2 M E/\M r=none/\MapA M2 r (kvL kI kS [(4,(([112,114,101,102,105,120,32]++dN++[32]):List UInt8)),(1,([97,99,99,101,112,116,32]:List UInt8)),(2,([114,101,106,101,99,116,32]:List UInt8))])/\Sx 31 E (bwW E M (λ_=>False)) M2 w a [(13,Value.map (some r)),(18,Value.string (mkS ([112,114,101,102,105,120,32]++dN++[32]))),(25,Value.string (mkS lT)),(24,Value.string (mkS x17.Text)),(21,Value.int .i64 x17.Kind),(15,Value.int .i64 x17.N),(12,Value.string (mkS out11)),(3,Value.string (mkS out11)),(6,(Value.slice la1 ll2 lc3)),(7,(Value.int .i64 ((ll2:Nat):Int))),(8,(Value.int .i64 x12))] [⟨b18,81,[(Value.int .i64 x17.Kind),(Value.int .i64 x17.N),(Value.string (mkS x17.Text))]⟩] []) #[true,true,true,true,true,true,true,true,true,true,false,true,true,false,true,true,true,false,false,false,false] 6 (λa w hX=>?_) (λWm9236L=>?_)
  ·obtain⟨M2,r,hL,hX2,hr,hf,hs⟩:=hX
   refine dP (Value.map (some r)) 10 [13,17,18,19,20] hs QZ.no (wanted_none rfl) λ_ hs=>?_
   refine stepDE 13 rfl (wanted_none rfl) (by kernel_rfl) #[] ?_
   refine sY (kS (wdT x17 dN)) hs (Yl.eq (Yl.lookI kS 3 9 [(4,(([112,114,101,102,105,120,32]++dN++[32]):List UInt8)),(1,([97,99,99,101,112,116,32]:List UInt8)),(2,([114,101,106,101,99,116,32]:List UInt8))] [] x17.Kind hki hf) (congrArg kS (by unfold wdT;rcases hkd with h|h|h<;>rw[h]<;>rfl))) λ_ hs=>?_
   refine wpList_nil ⟨λ_ h=>h,?_⟩
   exact WpD.at (by kernel_rfl) (Wn6LP _ _ ⟨_,hL,hX2,(hs.wk ⟨rfl,rfl,rfl,rfl,rfl,rfl,rfl,rfl,rfl,rfl,trivial⟩)⟩)
  refine WpD.cut (X:=λa w=>∃(M2:Mem) (r:Nat),M.le M2/\WX M2 M E/\M r=none/\MapA M2 r (kvL kI kS [(4,(([112,114,101,102,105,120,32]++dN++[32]):List UInt8)),(2,([114,101,106,101,99,116,32]:List UInt8)),(1,([97,99,99,101,112,116,32]:List UInt8))])/\Sx 31 E (bwW E M (λ_=>False)) M2 w a [(13,Value.map (some r)),(18,Value.string (mkS ([112,114,101,102,105,120,32]++dN++[32]))),(25,Value.string (mkS lT)),(24,Value.string (mkS x17.Text)),(21,Value.int .i64 x17.Kind),(15,Value.int .i64 x17.N),(12,Value.string (mkS out11)),(3,Value.string (mkS out11)),(6,(Value.slice la1 ll2 lc3)),(7,(Value.int .i64 ((ll2:Nat):Int))),(8,(Value.int .i64 x12))] [⟨b18,81,[(Value.int .i64 x17.Kind),(Value.int .i64 x17.N),(Value.string (mkS x17.Text))]⟩] []) #[true,true,true,true,true,true,true,true,true,true,false,true,true,false,true,true,true,false,false,false,false] 6 (λa w hX=>?_) (λWm9326L=>?_)
  ·obtain⟨M2,r,hL,hX2,hr,hf,hs⟩:=hX
   refine dP (Value.map (some r)) 10 [13,17,18,19,20] hs QZ.no (wanted_none rfl) λ_ hs=>?_
   refine stepDE 13 rfl (wanted_none rfl) (by kernel_rfl) #[] ?_
   refine sY (kS (wdT x17 dN)) hs (Yl.eq (Yl.lookI kS 3 9 [(4,(([112,114,101,102,105,120,32]++dN++[32]):List UInt8)),(2,([114,101,106,101,99,116,32]:List UInt8)),(1,([97,99,99,101,112,116,32]:List UInt8))] [] x17.Kind hki hf) (congrArg kS (by unfold wdT;rcases hkd with h|h|h<;>rw[h]<;>rfl))) λ_ hs=>?_
   refine wpList_nil ⟨λ_ h=>h,?_⟩
   exact WpD.at (by kernel_rfl) (Wn6LP _ _ ⟨_,hL,hX2,(hs.wk ⟨rfl,rfl,rfl,rfl,rfl,rfl,rfl,rfl,rfl,rfl,trivial⟩)⟩)
  refine WpD.cut (X:=λa w=>∃(M2:Mem) (r:Nat),M.le M2/\WX M2 M E/\M r=none/\MapA M2 r (kvL kI kS [(1,([97,99,99,101,112,116,32]:List UInt8)),(2,([114,101,106,101,99,116,32]:List UInt8))])/\Sx 31 E (bwW E M (λ_=>False)) M2 w a [(13,Value.map (some r)),(18,Value.string (mkS ([112,114,101,102,105,120,32]++dN++[32]))),(25,Value.string (mkS lT)),(24,Value.string (mkS x17.Text)),(21,Value.int .i64 x17.Kind),(15,Value.int .i64 x17.N),(12,Value.string (mkS out11)),(3,Value.string (mkS out11)),(6,(Value.slice la1 ll2 lc3)),(7,(Value.int .i64 ((ll2:Nat):Int))),(8,(Value.int .i64 x12))] [⟨b18,81,[(Value.int .i64 x17.Kind),(Value.int .i64 x17.N),(Value.string (mkS x17.Text))]⟩] []) #[true,true,true,true,true,true,true,true,true,false,false,true,true,false,true,true,true,false,false,false,false] 7 (λa w hX=>?_) (λWm236L=>?_)
  ·obtain⟨M2,r,hL,hX2,hr,hf,hs⟩:=hX
   refine stepDE 9 rfl (wanted_none rfl) (by kernel_rfl) #[] ?_
   refine stepMapI kS 3 9 [(1,([97,99,99,101,112,116,32]:List UInt8)),(2,([114,101,106,101,99,116,32]:List UInt8))] 4 ([112,114,101,102,105,120,32]++dN++[32]) hs hX2 hf hr (λ_ _ M3 hU hf3 hX3 hs=>?_)
   have hL3:=hU.le hr hL
   refine wpList_nil ⟨λ_ _=>hs.cxle hL3 (List.Sublist.refl _) (List.Sublist.refl _),?_⟩
   exact WpD.at (by kernel_rfl) (Wm2396L _ _ ⟨_,_,hL3,hX3,hr,hf3,(hs.wk ⟨rfl,rfl,rfl,rfl,rfl,rfl,rfl,rfl,rfl,rfl,rfl,trivial⟩)⟩)
  refine WpD.cut (X:=λa w=>∃(M2:Mem) (r:Nat),M.le M2/\WX M2 M E/\M r=none/\MapA M2 r (kvL kI kS [(1,([97,99,99,101,112,116,32]:List UInt8)),(4,(([112,114,101,102,105,120,32]++dN++[32]):List UInt8))])/\Sx 31 E (bwW E M (λ_=>False)) M2 w a [(13,Value.map (some r)),(18,Value.string (mkS ([112,114,101,102,105,120,32]++dN++[32]))),(25,Value.string (mkS lT)),(24,Value.string (mkS x17.Text)),(21,Value.int .i64 x17.Kind),(15,Value.int .i64 x17.N),(12,Value.string (mkS out11)),(3,Value.string (mkS out11)),(6,(Value.slice la1 ll2 lc3)),(7,(Value.int .i64 ((ll2:Nat):Int))),(8,(Value.int .i64 x12))] [⟨b18,81,[(Value.int .i64 x17.Kind),(Value.int .i64 x17.N),(Value.string (mkS x17.Text))]⟩] []) #[true,true,true,false,true,true,true,true,true,true,false,true,true,false,true,true,true,false,false,false,false] 7 (λa w hX=>?_) (λWm296L=>?_)
  ·obtain⟨M2,r,hL,hX2,hr,hf,hs⟩:=hX
   refine stepDE 3 rfl (wanted_none rfl) (by kernel_rfl) #[] ?_
   refine stepMapI kS 3 9 [(1,([97,99,99,101,112,116,32]:List UInt8)),(4,(([112,114,101,102,105,120,32]++dN++[32]):List UInt8))] 2 [114,101,106,101,99,116,32] hs hX2 hf hr (λ_ _ M3 hU hf3 hX3 hs=>?_)
   have hL3:=hU.le hr hL
   refine wpList_nil ⟨λ_ _=>hs.cxle hL3 (List.Sublist.refl _) (List.Sublist.refl _),?_⟩
   exact WpD.at (by kernel_rfl) (Wm2936L _ _ ⟨_,_,hL3,hX3,hr,hf3,(hs.wk ⟨rfl,rfl,rfl,rfl,rfl,rfl,rfl,rfl,rfl,rfl,rfl,trivial⟩)⟩)
  refine WpD.cut (X:=λa w=>∃(M2:Mem) (r:Nat),M.le M2/\WX M2 M E/\M r=none/\MapA M2 r (kvL kI kS [(2,([114,101,106,101,99,116,32]:List UInt8)),(1,([97,99,99,101,112,116,32]:List UInt8))])/\Sx 31 E (bwW E M (λ_=>False)) M2 w a [(13,Value.map (some r)),(18,Value.string (mkS ([112,114,101,102,105,120,32]++dN++[32]))),(25,Value.string (mkS lT)),(24,Value.string (mkS x17.Text)),(21,Value.int .i64 x17.Kind),(15,Value.int .i64 x17.N),(12,Value.string (mkS out11)),(3,Value.string (mkS out11)),(6,(Value.slice la1 ll2 lc3)),(7,(Value.int .i64 ((ll2:Nat):Int))),(8,(Value.int .i64 x12))] [⟨b18,81,[(Value.int .i64 x17.Kind),(Value.int .i64 x17.N),(Value.string (mkS x17.Text))]⟩] []) #[true,true,true,true,true,true,true,true,true,false,false,true,true,false,true,true,true,false,false,false,false] 7 (λa w hX=>?_) (λWm326L=>?_)
  ·obtain⟨M2,r,hL,hX2,hr,hf,hs⟩:=hX
   refine stepDE 9 rfl (wanted_none rfl) (by kernel_rfl) #[] ?_
   refine stepMapI kS 3 9 [(2,([114,101,106,101,99,116,32]:List UInt8)),(1,([97,99,99,101,112,116,32]:List UInt8))] 4 ([112,114,101,102,105,120,32]++dN++[32]) hs hX2 hf hr (λ_ _ M3 hU hf3 hX3 hs=>?_)
   have hL3:=hU.le hr hL
   refine wpList_nil ⟨λ_ _=>hs.cxle hL3 (List.Sublist.refl _) (List.Sublist.refl _),?_⟩
   exact WpD.at (by kernel_rfl) (Wm3296L _ _ ⟨_,_,hL3,hX3,hr,hf3,(hs.wk ⟨rfl,rfl,rfl,rfl,rfl,rfl,rfl,rfl,rfl,rfl,rfl,trivial⟩)⟩)
  refine WpD.cut (X:=λa w=>∃(M2:Mem) (r:Nat),M.le M2/\WX M2 M E/\M r=none/\MapA M2 r (kvL kI kS [(2,([114,101,106,101,99,116,32]:List UInt8)),(4,(([112,114,101,102,105,120,32]++dN++[32]):List UInt8))])/\Sx 31 E (bwW E M (λ_=>False)) M2 w a [(13,Value.map (some r)),(18,Value.string (mkS ([112,114,101,102,105,120,32]++dN++[32]))),(25,Value.string (mkS lT)),(24,Value.string (mkS x17.Text)),(21,Value.int .i64 x17.Kind),(15,Value.int .i64 x17.N),(12,Value.string (mkS out11)),(3,Value.string (mkS out11)),(6,(Value.slice la1 ll2 lc3)),(7,(Value.int .i64 ((ll2:Nat):Int))),(8,(Value.int .i64 x12))] [⟨b18,81,[(Value.int .i64 x17.Kind),(Value.int .i64 x17.N),(Value.string (mkS x17.Text))]⟩] []) #[true,true,false,true,true,true,true,true,true,true,false,true,true,false,true,true,true,false,false,false,false] 7 (λa w hX=>?_) (λWm396L=>?_)
  ·obtain⟨M2,r,hL,hX2,hr,hf,hs⟩:=hX
   refine stepDE 2 rfl (wanted_none rfl) (by kernel_rfl) #[] ?_
   refine stepMapI kS 3 9 [(2,([114,101,106,101,99,116,32]:List UInt8)),(4,(([112,114,101,102,105,120,32]++dN++[32]):List UInt8))] 1 [97,99,99,101,112,116,32] hs hX2 hf hr (λ_ _ M3 hU hf3 hX3 hs=>?_)
   have hL3:=hU.le hr hL
   refine wpList_nil ⟨λ_ _=>hs.cxle hL3 (List.Sublist.refl _) (List.Sublist.refl _),?_⟩
   exact WpD.at (by kernel_rfl) (Wm3926L _ _ ⟨_,_,hL3,hX3,hr,hf3,(hs.wk ⟨rfl,rfl,rfl,rfl,rfl,rfl,rfl,rfl,rfl,rfl,rfl,trivial⟩)⟩)
  refine WpD.cut (X:=λa w=>∃(M2:Mem) (r:Nat),M.le M2/\WX M2 M E/\M r=none/\MapA M2 r (kvL kI kS [(4,(([112,114,101,102,105,120,32]++dN++[32]):List UInt8)),(1,([97,99,99,101,112,116,32]:List UInt8))])/\Sx 31 E (bwW E M (λ_=>False)) M2 w a [(13,Value.map (some r)),(18,Value.string (mkS ([112,114,101,102,105,120,32]++dN++[32]))),(25,Value.string (mkS lT)),(24,Value.string (mkS x17.Text)),(21,Value.int .i64 x17.Kind),(15,Value.int .i64 x17.N),(12,Value.string (mkS out11)),(3,Value.string (mkS out11)),(6,(Value.slice la1 ll2 lc3)),(7,(Value.int .i64 ((ll2:Nat):Int))),(8,(Value.int .i64 x12))] [⟨b18,81,[(Value.int .i64 x17.Kind),(Value.int .i64 x17.N),(Value.string (mkS x17.Text))]⟩] []) #[true,true,true,false,true,true,true,true,true,true,false,true,true,false,true,true,true,false,false,false,false] 7 (λa w hX=>?_) (λWm926L=>?_)
  ·obtain⟨M2,r,hL,hX2,hr,hf,hs⟩:=hX
   refine stepDE 3 rfl (wanted_none rfl) (by kernel_rfl) #[] ?_
   refine stepMapI kS 3 9 [(4,(([112,114,101,102,105,120,32]++dN++[32]):List UInt8)),(1,([97,99,99,101,112,116,32]:List UInt8))] 2 [114,101,106,101,99,116,32] hs hX2 hf hr (λ_ _ M3 hU hf3 hX3 hs=>?_)
   have hL3:=hU.le hr hL
   refine wpList_nil ⟨λ_ _=>hs.cxle hL3 (List.Sublist.refl _) (List.Sublist.refl _),?_⟩
   exact WpD.at (by kernel_rfl) (Wm9236L _ _ ⟨_,_,hL3,hX3,hr,hf3,(hs.wk ⟨rfl,rfl,rfl,rfl,rfl,rfl,rfl,rfl,rfl,rfl,rfl,trivial⟩)⟩)
  refine WpD.cut (X:=λa w=>∃(M2:Mem) (r:Nat),M.le M2/\WX M2 M E/\M r=none/\MapA M2 r (kvL kI kS [(4,(([112,114,101,102,105,120,32]++dN++[32]):List UInt8)),(2,([114,101,106,101,99,116,32]:List UInt8))])/\Sx 31 E (bwW E M (λ_=>False)) M2 w a [(13,Value.map (some r)),(18,Value.string (mkS ([112,114,101,102,105,120,32]++dN++[32]))),(25,Value.string (mkS lT)),(24,Value.string (mkS x17.Text)),(21,Value.int .i64 x17.Kind),(15,Value.int .i64 x17.N),(12,Value.string (mkS out11)),(3,Value.string (mkS out11)),(6,(Value.slice la1 ll2 lc3)),(7,(Value.int .i64 ((ll2:Nat):Int))),(8,(Value.int .i64 x12))] [⟨b18,81,[(Value.int .i64 x17.Kind),(Value.int .i64 x17.N),(Value.string (mkS x17.Text))]⟩] []) #[true,true,false,true,true,true,true,true,true,true,false,true,true,false,true,true,true,false,false,false,false] 7 (λa w hX=>?_) (λWm936L=>?_)
  ·obtain⟨M2,r,hL,hX2,hr,hf,hs⟩:=hX
   refine stepDE 2 rfl (wanted_none rfl) (by kernel_rfl) #[] ?_
   refine stepMapI kS 3 9 [(4,(([112,114,101,102,105,120,32]++dN++[32]):List UInt8)),(2,([114,101,106,101,99,116,32]:List UInt8))] 1 [97,99,99,101,112,116,32] hs hX2 hf hr (λ_ _ M3 hU hf3 hX3 hs=>?_)
   have hL3:=hU.le hr hL
   refine wpList_nil ⟨λ_ _=>hs.cxle hL3 (List.Sublist.refl _) (List.Sublist.refl _),?_⟩
   exact WpD.at (by kernel_rfl) (Wm9326L _ _ ⟨_,_,hL3,hX3,hr,hf3,(hs.wk ⟨rfl,rfl,rfl,rfl,rfl,rfl,rfl,rfl,rfl,rfl,rfl,trivial⟩)⟩)
  refine WpD.cut (X:=λa w=>∃(M2:Mem) (r:Nat),M.le M2/\WX M2 M E/\M r=none/\MapA M2 r (kvL kI kS [(1,([97,99,99,101,112,116,32]:List UInt8)),(2,([114,101,106,101,99,116,32]:List UInt8)),(4,(([112,114,101,102,105,120,32]++dN++[32]):List UInt8))])/\Sx 31 E (bwW E M (λ_=>False)) M2 w a [(13,Value.map (some r)),(18,Value.string (mkS ([112,114,101,102,105,120,32]++dN++[32]))),(24,Value.string (mkS x17.Text)),(21,Value.int .i64 x17.Kind),(15,Value.int .i64 x17.N),(12,Value.string (mkS out11)),(3,Value.string (mkS out11)),(6,(Value.slice la1 ll2 lc3)),(7,(Value.int .i64 ((ll2:Nat):Int))),(8,(Value.int .i64 x12))] [⟨b18,81,[(Value.int .i64 x17.Kind),(Value.int .i64 x17.N),(Value.string (mkS x17.Text))]⟩] []) #[true,true,true,true,true,true,true,true,true,true,false,true,true,false,true,true,false,false,false,false,false] 7 (λa w hX=>?_) (λWm2396=>?_)
  ·obtain⟨M2,r,hL,hX2,hr,hf,hs⟩:=hX
   refine dP (Value.map (some r)) 10 [13,17,18,19,20] hs QZ.no (wanted_none rfl) λ_ hs=>?_
   refine WpD.ors (by kernel_rfl:_=[13,16]) ⟨?_,?_,trivial⟩
   ·refine stepOne 13 rfl (wanted_none rfl) #[] ?_
    refine sY (kS (wdT x17 dN)) hs (Yl.eq (Yl.lookI kS 3 9 [(1,([97,99,99,101,112,116,32]:List UInt8)),(2,([114,101,106,101,99,116,32]:List UInt8)),(4,(([112,114,101,102,105,120,32]++dN++[32]):List UInt8))] [] x17.Kind hki hf) (congrArg kS (by unfold wdT;rcases hkd with h|h|h<;>rw[h]<;>rfl))) λ_ hs=>?_
    refine wpList_nil ⟨λ_ h=>h,?_⟩
    exact WpD.at (by kernel_rfl) (Wn6P _ _ ⟨_,hL,hX2,(hs.wk ⟨rfl,rfl,rfl,rfl,rfl,rfl,rfl,rfl,rfl,trivial⟩)⟩)
   ·refine stepOne 16 rfl (wanted_none rfl) #[] ?_
    refine stepCallP [(Value.string (mkS x17.Text))] hs rfl ⟨_,rfl,rfl⟩ rfl Tryd.func79 rfl (by kernel_rfl) (by decide) (hLit M2) (λ_ _ v hv hs=>?_)
    subst hv
    refine wpList_nil ⟨λ_ _=>hs.cxle hL (List.Sublist.refl _) (List.Sublist.refl _),?_⟩
    refine stepDE 13 rfl (wanted_none rfl) (by kernel_rfl) #[] ?_
    refine sY (kS (wdT x17 dN)) hs (Yl.eq (Yl.lookI kS 3 9 [(1,([97,99,99,101,112,116,32]:List UInt8)),(2,([114,101,106,101,99,116,32]:List UInt8)),(4,(([112,114,101,102,105,120,32]++dN++[32]):List UInt8))] [] x17.Kind hki hf) (congrArg kS (by unfold wdT;rcases hkd with h|h|h<;>rw[h]<;>rfl))) λ_ hs=>?_
    refine wpList_nil ⟨λ_ h=>h,?_⟩
    exact WpD.at (by kernel_rfl) (Wn6LP _ _ ⟨_,hL,hX2,(hs.wk ⟨rfl,rfl,rfl,rfl,rfl,rfl,rfl,rfl,rfl,rfl,trivial⟩)⟩)
  refine WpD.cut (X:=λa w=>∃(M2:Mem) (r:Nat),M.le M2/\WX M2 M E/\M r=none/\MapA M2 r (kvL kI kS [(1,([97,99,99,101,112,116,32]:List UInt8)),(4,(([112,114,101,102,105,120,32]++dN++[32]):List UInt8)),(2,([114,101,106,101,99,116,32]:List UInt8))])/\Sx 31 E (bwW E M (λ_=>False)) M2 w a [(13,Value.map (some r)),(18,Value.string (mkS ([112,114,101,102,105,120,32]++dN++[32]))),(24,Value.string (mkS x17.Text)),(21,Value.int .i64 x17.Kind),(15,Value.int .i64 x17.N),(12,Value.string (mkS out11)),(3,Value.string (mkS out11)),(6,(Value.slice la1 ll2 lc3)),(7,(Value.int .i64 ((ll2:Nat):Int))),(8,(Value.int .i64 x12))] [⟨b18,81,[(Value.int .i64 x17.Kind),(Value.int .i64 x17.N),(Value.string (mkS x17.Text))]⟩] []) #[true,true,true,true,true,true,true,true,true,true,false,true,true,false,true,true,false,false,false,false,false] 7 (λa w hX=>?_) (λWm2936=>?_)
  ·obtain⟨M2,r,hL,hX2,hr,hf,hs⟩:=hX
   refine dP (Value.map (some r)) 10 [13,17,18,19,20] hs QZ.no (wanted_none rfl) λ_ hs=>?_
   refine WpD.ors (by kernel_rfl:_=[13,16]) ⟨?_,?_,trivial⟩
   ·refine stepOne 13 rfl (wanted_none rfl) #[] ?_
    refine sY (kS (wdT x17 dN)) hs (Yl.eq (Yl.lookI kS 3 9 [(1,([97,99,99,101,112,116,32]:List UInt8)),(4,(([112,114,101,102,105,120,32]++dN++[32]):List UInt8)),(2,([114,101,106,101,99,116,32]:List UInt8))] [] x17.Kind hki hf) (congrArg kS (by unfold wdT;rcases hkd with h|h|h<;>rw[h]<;>rfl))) λ_ hs=>?_
    refine wpList_nil ⟨λ_ h=>h,?_⟩
    exact WpD.at (by kernel_rfl) (Wn6P _ _ ⟨_,hL,hX2,(hs.wk ⟨rfl,rfl,rfl,rfl,rfl,rfl,rfl,rfl,rfl,trivial⟩)⟩)
   ·refine stepOne 16 rfl (wanted_none rfl) #[] ?_
    refine stepCallP [(Value.string (mkS x17.Text))] hs rfl ⟨_,rfl,rfl⟩ rfl Tryd.func79 rfl (by kernel_rfl) (by decide) (hLit M2) (λ_ _ v hv hs=>?_)
    subst hv
    refine wpList_nil ⟨λ_ _=>hs.cxle hL (List.Sublist.refl _) (List.Sublist.refl _),?_⟩
    refine stepDE 13 rfl (wanted_none rfl) (by kernel_rfl) #[] ?_
    refine sY (kS (wdT x17 dN)) hs (Yl.eq (Yl.lookI kS 3 9 [(1,([97,99,99,101,112,116,32]:List UInt8)),(4,(([112,114,101,102,105,120,32]++dN++[32]):List UInt8)),(2,([114,101,106,101,99,116,32]:List UInt8))] [] x17.Kind hki hf) (congrArg kS (by unfold wdT;rcases hkd with h|h|h<;>rw[h]<;>rfl))) λ_ hs=>?_
    refine wpList_nil ⟨λ_ h=>h,?_⟩
    exact WpD.at (by kernel_rfl) (Wn6LP _ _ ⟨_,hL,hX2,(hs.wk ⟨rfl,rfl,rfl,rfl,rfl,rfl,rfl,rfl,rfl,rfl,trivial⟩)⟩)
  refine WpD.cut (X:=λa w=>∃(M2:Mem) (r:Nat),M.le M2/\WX M2 M E/\M r=none/\MapA M2 r (kvL kI kS [(2,([114,101,106,101,99,116,32]:List UInt8)),(1,([97,99,99,101,112,116,32]:List UInt8)),(4,(([112,114,101,102,105,120,32]++dN++[32]):List UInt8))])/\Sx 31 E (bwW E M (λ_=>False)) M2 w a [(13,Value.map (some r)),(18,Value.string (mkS ([112,114,101,102,105,120,32]++dN++[32]))),(24,Value.string (mkS x17.Text)),(21,Value.int .i64 x17.Kind),(15,Value.int .i64 x17.N),(12,Value.string (mkS out11)),(3,Value.string (mkS out11)),(6,(Value.slice la1 ll2 lc3)),(7,(Value.int .i64 ((ll2:Nat):Int))),(8,(Value.int .i64 x12))] [⟨b18,81,[(Value.int .i64 x17.Kind),(Value.int .i64 x17.N),(Value.string (mkS x17.Text))]⟩] []) #[true,true,true,true,true,true,true,true,true,true,false,true,true,false,true,true,false,false,false,false,false] 7 (λa w hX=>?_) (λWm3296=>?_)
  ·obtain⟨M2,r,hL,hX2,hr,hf,hs⟩:=hX
   refine dP (Value.map (some r)) 10 [13,17,18,19,20] hs QZ.no (wanted_none rfl) λ_ hs=>?_
   refine WpD.ors (by kernel_rfl:_=[13,16]) ⟨?_,?_,trivial⟩
   ·refine stepOne 13 rfl (wanted_none rfl) #[] ?_
    refine sY (kS (wdT x17 dN)) hs (Yl.eq (Yl.lookI kS 3 9 [(2,([114,101,106,101,99,116,32]:List UInt8)),(1,([97,99,99,101,112,116,32]:List UInt8)),(4,(([112,114,101,102,105,120,32]++dN++[32]):List UInt8))] [] x17.Kind hki hf) (congrArg kS (by unfold wdT;rcases hkd with h|h|h<;>rw[h]<;>rfl))) λ_ hs=>?_
    refine wpList_nil ⟨λ_ h=>h,?_⟩
    exact WpD.at (by kernel_rfl) (Wn6P _ _ ⟨_,hL,hX2,(hs.wk ⟨rfl,rfl,rfl,rfl,rfl,rfl,rfl,rfl,rfl,trivial⟩)⟩)
   ·refine stepOne 16 rfl (wanted_none rfl) #[] ?_
    refine stepCallP [(Value.string (mkS x17.Text))] hs rfl ⟨_,rfl,rfl⟩ rfl Tryd.func79 rfl (by kernel_rfl) (by decide) (hLit M2) (λ_ _ v hv hs=>?_)
    subst hv
    refine wpList_nil ⟨λ_ _=>hs.cxle hL (List.Sublist.refl _) (List.Sublist.refl _),?_⟩
    refine stepDE 13 rfl (wanted_none rfl) (by kernel_rfl) #[] ?_
    refine sY (kS (wdT x17 dN)) hs (Yl.eq (Yl.lookI kS 3 9 [(2,([114,101,106,101,99,116,32]:List UInt8)),(1,([97,99,99,101,112,116,32]:List UInt8)),(4,(([112,114,101,102,105,120,32]++dN++[32]):List UInt8))] [] x17.Kind hki hf) (congrArg kS (by unfold wdT;rcases hkd with h|h|h<;>rw[h]<;>rfl))) λ_ hs=>?_
    refine wpList_nil ⟨λ_ h=>h,?_⟩
    exact WpD.at (by kernel_rfl) (Wn6LP _ _ ⟨_,hL,hX2,(hs.wk ⟨rfl,rfl,rfl,rfl,rfl,rfl,rfl,rfl,rfl,rfl,trivial⟩)⟩)
  refine WpD.cut (X:=λa w=>∃(M2:Mem) (r:Nat),M.le M2/\WX M2 M E/\M r=none/\MapA M2 r (kvL kI kS [(2,([114,101,106,101,99,116,32]:List UInt8)),(4,(([112,114,101,102,105,120,32]++dN++[32]):List UInt8)),(1,([97,99,99,101,112,116,32]:List UInt8))])/\Sx 31 E (bwW E M (λ_=>False)) M2 w a [(13,Value.map (some r)),(18,Value.string (mkS ([112,114,101,102,105,120,32]++dN++[32]))),(24,Value.string (mkS x17.Text)),(21,Value.int .i64 x17.Kind),(15,Value.int .i64 x17.N),(12,Value.string (mkS out11)),(3,Value.string (mkS out11)),(6,(Value.slice la1 ll2 lc3)),(7,(Value.int .i64 ((ll2:Nat):Int))),(8,(Value.int .i64 x12))] [⟨b18,81,[(Value.int .i64 x17.Kind),(Value.int .i64 x17.N),(Value.string (mkS x17.Text))]⟩] []) #[true,true,true,true,true,true,true,true,true,true,false,true,true,false,true,true,false,false,false,false,false] 7 (λa w hX=>?_) (λWm3926=>?_)
  ·obtain⟨M2,r,hL,hX2,hr,hf,hs⟩:=hX
   refine dP (Value.map (some r)) 10 [13,17,18,19,20] hs QZ.no (wanted_none rfl) λ_ hs=>?_
   refine WpD.ors (by kernel_rfl:_=[13,16]) ⟨?_,?_,trivial⟩
   ·refine stepOne 13 rfl (wanted_none rfl) #[] ?_
    refine sY (kS (wdT x17 dN)) hs (Yl.eq (Yl.lookI kS 3 9 [(2,([114,101,106,101,99,116,32]:List UInt8)),(4,(([112,114,101,102,105,120,32]++dN++[32]):List UInt8)),(1,([97,99,99,101,112,116,32]:List UInt8))] [] x17.Kind hki hf) (congrArg kS (by unfold wdT;rcases hkd with h|h|h<;>rw[h]<;>rfl))) λ_ hs=>?_
    refine wpList_nil ⟨λ_ h=>h,?_⟩
    exact WpD.at (by kernel_rfl) (Wn6P _ _ ⟨_,hL,hX2,(hs.wk ⟨rfl,rfl,rfl,rfl,rfl,rfl,rfl,rfl,rfl,trivial⟩)⟩)
   ·refine stepOne 16 rfl (wanted_none rfl) #[] ?_
    refine stepCallP [(Value.string (mkS x17.Text))] hs rfl ⟨_,rfl,rfl⟩ rfl Tryd.func79 rfl (by kernel_rfl) (by decide) (hLit M2) (λ_ _ v hv hs=>?_)
    subst hv
    refine wpList_nil ⟨λ_ _=>hs.cxle hL (List.Sublist.refl _) (List.Sublist.refl _),?_⟩
    refine stepDE 13 rfl (wanted_none rfl) (by kernel_rfl) #[] ?_
    refine sY (kS (wdT x17 dN)) hs (Yl.eq (Yl.lookI kS 3 9 [(2,([114,101,106,101,99,116,32]:List UInt8)),(4,(([112,114,101,102,105,120,32]++dN++[32]):List UInt8)),(1,([97,99,99,101,112,116,32]:List UInt8))] [] x17.Kind hki hf) (congrArg kS (by unfold wdT;rcases hkd with h|h|h<;>rw[h]<;>rfl))) λ_ hs=>?_
    refine wpList_nil ⟨λ_ h=>h,?_⟩
    exact WpD.at (by kernel_rfl) (Wn6LP _ _ ⟨_,hL,hX2,(hs.wk ⟨rfl,rfl,rfl,rfl,rfl,rfl,rfl,rfl,rfl,rfl,trivial⟩)⟩)
  refine WpD.cut (X:=λa w=>∃(M2:Mem) (r:Nat),M.le M2/\WX M2 M E/\M r=none/\MapA M2 r (kvL kI kS [(4,(([112,114,101,102,105,120,32]++dN++[32]):List UInt8)),(1,([97,99,99,101,112,116,32]:List UInt8)),(2,([114,101,106,101,99,116,32]:List UInt8))])/\Sx 31 E (bwW E M (λ_=>False)) M2 w a [(13,Value.map (some r)),(18,Value.string (mkS ([112,114,101,102,105,120,32]++dN++[32]))),(24,Value.string (mkS x17.Text)),(21,Value.int .i64 x17.Kind),(15,Value.int .i64 x17.N),(12,Value.string (mkS out11)),(3,Value.string (mkS out11)),(6,(Value.slice la1 ll2 lc3)),(7,(Value.int .i64 ((ll2:Nat):Int))),(8,(Value.int .i64 x12))] [⟨b18,81,[(Value.int .i64 x17.Kind),(Value.int .i64 x17.N),(Value.string (mkS x17.Text))]⟩] []) #[true,true,true,true,true,true,true,true,true,true,false,true,true,false,true,true,false,false,false,false,false] 7 (λa w hX=>?_) (λWm9236=>?_)
  ·obtain⟨M2,r,hL,hX2,hr,hf,hs⟩:=hX
   refine dP (Value.map (some r)) 10 [13,17,18,19,20] hs QZ.no (wanted_none rfl) λ_ hs=>?_
   refine WpD.ors (by kernel_rfl:_=[13,16]) ⟨?_,?_,trivial⟩
   ·refine stepOne 13 rfl (wanted_none rfl) #[] ?_
    refine sY (kS (wdT x17 dN)) hs (Yl.eq (Yl.lookI kS 3 9 [(4,(([112,114,101,102,105,120,32]++dN++[32]):List UInt8)),(1,([97,99,99,101,112,116,32]:List UInt8)),(2,([114,101,106,101,99,116,32]:List UInt8))] [] x17.Kind hki hf) (congrArg kS (by unfold wdT;rcases hkd with h|h|h<;>rw[h]<;>rfl))) λ_ hs=>?_
    refine wpList_nil ⟨λ_ h=>h,?_⟩
    exact WpD.at (by kernel_rfl) (Wn6P _ _ ⟨_,hL,hX2,(hs.wk ⟨rfl,rfl,rfl,rfl,rfl,rfl,rfl,rfl,rfl,trivial⟩)⟩)
   ·refine stepOne 16 rfl (wanted_none rfl) #[] ?_
    refine stepCallP [(Value.string (mkS x17.Text))] hs rfl ⟨_,rfl,rfl⟩ rfl Tryd.func79 rfl (by kernel_rfl) (by decide) (hLit M2) (λ_ _ v hv hs=>?_)
    subst hv
    refine wpList_nil ⟨λ_ _=>hs.cxle hL (List.Sublist.refl _) (List.Sublist.refl _),?_⟩
    refine stepDE 13 rfl (wanted_none rfl) (by kernel_rfl) #[] ?_
    refine sY (kS (wdT x17 dN)) hs (Yl.eq (Yl.lookI kS 3 9 [(4,(([112,114,101,102,105,120,32]++dN++[32]):List UInt8)),(1,([97,99,99,101,112,116,32]:List UInt8)),(2,([114,101,106,101,99,116,32]:List UInt8))] [] x17.Kind hki hf) (congrArg kS (by unfold wdT;rcases hkd with h|h|h<;>rw[h]<;>rfl))) λ_ hs=>?_
    refine wpList_nil ⟨λ_ h=>h,?_⟩
    exact WpD.at (by kernel_rfl) (Wn6LP _ _ ⟨_,hL,hX2,(hs.wk ⟨rfl,rfl,rfl,rfl,rfl,rfl,rfl,rfl,rfl,rfl,trivial⟩)⟩)
  refine WpD.cut (X:=λa w=>∃(M2:Mem) (r:Nat),M.le M2/\WX M2 M E/\M r=none/\MapA M2 r (kvL kI kS [(4,(([112,114,101,102,105,120,32]++dN++[32]):List UInt8)),(2,([114,101,106,101,99,116,32]:List UInt8)),(1,([97,99,99,101,112,116,32]:List UInt8))])/\Sx 31 E (bwW E M (λ_=>False)) M2 w a [(13,Value.map (some r)),(18,Value.string (mkS ([112,114,101,102,105,120,32]++dN++[32]))),(24,Value.string (mkS x17.Text)),(21,Value.int .i64 x17.Kind),(15,Value.int .i64 x17.N),(12,Value.string (mkS out11)),(3,Value.string (mkS out11)),(6,(Value.slice la1 ll2 lc3)),(7,(Value.int .i64 ((ll2:Nat):Int))),(8,(Value.int .i64 x12))] [⟨b18,81,[(Value.int .i64 x17.Kind),(Value.int .i64 x17.N),(Value.string (mkS x17.Text))]⟩] []) #[true,true,true,true,true,true,true,true,true,true,false,true,true,false,true,true,false,false,false,false,false] 7 (λa w hX=>?_) (λWm9326=>?_)
  ·obtain⟨M2,r,hL,hX2,hr,hf,hs⟩:=hX
   refine dP (Value.map (some r)) 10 [13,17,18,19,20] hs QZ.no (wanted_none rfl) λ_ hs=>?_
   refine WpD.ors (by kernel_rfl:_=[13,16]) ⟨?_,?_,trivial⟩
   ·refine stepOne 13 rfl (wanted_none rfl) #[] ?_
    refine sY (kS (wdT x17 dN)) hs (Yl.eq (Yl.lookI kS 3 9 [(4,(([112,114,101,102,105,120,32]++dN++[32]):List UInt8)),(2,([114,101,106,101,99,116,32]:List UInt8)),(1,([97,99,99,101,112,116,32]:List UInt8))] [] x17.Kind hki hf) (congrArg kS (by unfold wdT;rcases hkd with h|h|h<;>rw[h]<;>rfl))) λ_ hs=>?_
    refine wpList_nil ⟨λ_ h=>h,?_⟩
    exact WpD.at (by kernel_rfl) (Wn6P _ _ ⟨_,hL,hX2,(hs.wk ⟨rfl,rfl,rfl,rfl,rfl,rfl,rfl,rfl,rfl,trivial⟩)⟩)
   ·refine stepOne 16 rfl (wanted_none rfl) #[] ?_
    refine stepCallP [(Value.string (mkS x17.Text))] hs rfl ⟨_,rfl,rfl⟩ rfl Tryd.func79 rfl (by kernel_rfl) (by decide) (hLit M2) (λ_ _ v hv hs=>?_)
    subst hv
    refine wpList_nil ⟨λ_ _=>hs.cxle hL (List.Sublist.refl _) (List.Sublist.refl _),?_⟩
    refine stepDE 13 rfl (wanted_none rfl) (by kernel_rfl) #[] ?_
    refine sY (kS (wdT x17 dN)) hs (Yl.eq (Yl.lookI kS 3 9 [(4,(([112,114,101,102,105,120,32]++dN++[32]):List UInt8)),(2,([114,101,106,101,99,116,32]:List UInt8)),(1,([97,99,99,101,112,116,32]:List UInt8))] [] x17.Kind hki hf) (congrArg kS (by unfold wdT;rcases hkd with h|h|h<;>rw[h]<;>rfl))) λ_ hs=>?_
    refine wpList_nil ⟨λ_ h=>h,?_⟩
    exact WpD.at (by kernel_rfl) (Wn6LP _ _ ⟨_,hL,hX2,(hs.wk ⟨rfl,rfl,rfl,rfl,rfl,rfl,rfl,rfl,rfl,rfl,trivial⟩)⟩)
  refine WpD.cut (X:=λa w=>∃(M2:Mem) (r:Nat),M.le M2/\WX M2 M E/\M r=none/\MapA M2 r (kvL kI kS [(1,([97,99,99,101,112,116,32]:List UInt8))])/\Sx 31 E (bwW E M (λ_=>False)) M2 w a [(13,Value.map (some r)),(18,Value.string (mkS ([112,114,101,102,105,120,32]++dN++[32]))),(25,Value.string (mkS lT)),(24,Value.string (mkS x17.Text)),(21,Value.int .i64 x17.Kind),(15,Value.int .i64 x17.N),(12,Value.string (mkS out11)),(3,Value.string (mkS out11)),(6,(Value.slice la1 ll2 lc3)),(7,(Value.int .i64 ((ll2:Nat):Int))),(8,(Value.int .i64 x12))] [⟨b18,81,[(Value.int .i64 x17.Kind),(Value.int .i64 x17.N),(Value.string (mkS x17.Text))]⟩] []) #[true,true,true,false,true,true,true,true,true,false,false,true,true,false,true,true,true,false,false,false,false] 8 (λa w hX=>?_) (λWm26L=>?_)
  ·obtain⟨M2,r,hL,hX2,hr,hf,hs⟩:=hX
   refine WpD.ors (by kernel_rfl:_=[3,9]) ⟨?_,?_,trivial⟩
   ·refine stepOne 3 rfl (wanted_none rfl) #[] ?_
    refine stepMapI kS 3 9 [(1,([97,99,99,101,112,116,32]:List UInt8))] 2 [114,101,106,101,99,116,32] hs hX2 hf hr (λ_ _ M3 hU hf3 hX3 hs=>?_)
    have hL3:=hU.le hr hL
    refine wpList_nil ⟨λ_ _=>hs.cxle hL3 (List.Sublist.refl _) (List.Sublist.refl _),?_⟩
    exact WpD.at (by kernel_rfl) (Wm236L _ _ ⟨_,_,hL3,hX3,hr,hf3,(hs.wk ⟨rfl,rfl,rfl,rfl,rfl,rfl,rfl,rfl,rfl,rfl,rfl,trivial⟩)⟩)
   ·refine stepOne 9 rfl (wanted_none rfl) #[] ?_
    refine stepMapI kS 3 9 [(1,([97,99,99,101,112,116,32]:List UInt8))] 4 ([112,114,101,102,105,120,32]++dN++[32]) hs hX2 hf hr (λ_ _ M3 hU hf3 hX3 hs=>?_)
    have hL3:=hU.le hr hL
    refine wpList_nil ⟨λ_ _=>hs.cxle hL3 (List.Sublist.refl _) (List.Sublist.refl _),?_⟩
    exact WpD.at (by kernel_rfl) (Wm296L _ _ ⟨_,_,hL3,hX3,hr,hf3,(hs.wk ⟨rfl,rfl,rfl,rfl,rfl,rfl,rfl,rfl,rfl,rfl,rfl,trivial⟩)⟩)
  refine WpD.cut (X:=λa w=>∃(M2:Mem) (r:Nat),M.le M2/\WX M2 M E/\M r=none/\MapA M2 r (kvL kI kS [(2,([114,101,106,101,99,116,32]:List UInt8))])/\Sx 31 E (bwW E M (λ_=>False)) M2 w a [(13,Value.map (some r)),(18,Value.string (mkS ([112,114,101,102,105,120,32]++dN++[32]))),(25,Value.string (mkS lT)),(24,Value.string (mkS x17.Text)),(21,Value.int .i64 x17.Kind),(15,Value.int .i64 x17.N),(12,Value.string (mkS out11)),(3,Value.string (mkS out11)),(6,(Value.slice la1 ll2 lc3)),(7,(Value.int .i64 ((ll2:Nat):Int))),(8,(Value.int .i64 x12))] [⟨b18,81,[(Value.int .i64 x17.Kind),(Value.int .i64 x17.N),(Value.string (mkS x17.Text))]⟩] []) #[true,true,false,true,true,true,true,true,true,false,false,true,true,false,true,true,true,false,false,false,false] 8 (λa w hX=>?_) (λWm36L=>?_)
  ·obtain⟨M2,r,hL,hX2,hr,hf,hs⟩:=hX
   refine WpD.ors (by kernel_rfl:_=[2,9]) ⟨?_,?_,trivial⟩
   ·refine stepOne 2 rfl (wanted_none rfl) #[] ?_
    refine stepMapI kS 3 9 [(2,([114,101,106,101,99,116,32]:List UInt8))] 1 [97,99,99,101,112,116,32] hs hX2 hf hr (λ_ _ M3 hU hf3 hX3 hs=>?_)
    have hL3:=hU.le hr hL
    refine wpList_nil ⟨λ_ _=>hs.cxle hL3 (List.Sublist.refl _) (List.Sublist.refl _),?_⟩
    exact WpD.at (by kernel_rfl) (Wm326L _ _ ⟨_,_,hL3,hX3,hr,hf3,(hs.wk ⟨rfl,rfl,rfl,rfl,rfl,rfl,rfl,rfl,rfl,rfl,rfl,trivial⟩)⟩)
   ·refine stepOne 9 rfl (wanted_none rfl) #[] ?_
    refine stepMapI kS 3 9 [(2,([114,101,106,101,99,116,32]:List UInt8))] 4 ([112,114,101,102,105,120,32]++dN++[32]) hs hX2 hf hr (λ_ _ M3 hU hf3 hX3 hs=>?_)
    have hL3:=hU.le hr hL
    refine wpList_nil ⟨λ_ _=>hs.cxle hL3 (List.Sublist.refl _) (List.Sublist.refl _),?_⟩
    exact WpD.at (by kernel_rfl) (Wm396L _ _ ⟨_,_,hL3,hX3,hr,hf3,(hs.wk ⟨rfl,rfl,rfl,rfl,rfl,rfl,rfl,rfl,rfl,rfl,rfl,trivial⟩)⟩)
  refine WpD.cut (X:=λa w=>∃(M2:Mem) (r:Nat),M.le M2/\WX M2 M E/\M r=none/\MapA M2 r (kvL kI kS [(4,(([112,114,101,102,105,120,32]++dN++[32]):List UInt8))])/\Sx 31 E (bwW E M (λ_=>False)) M2 w a [(13,Value.map (some r)),(18,Value.string (mkS ([112,114,101,102,105,120,32]++dN++[32]))),(25,Value.string (mkS lT)),(24,Value.string (mkS x17.Text)),(21,Value.int .i64 x17.Kind),(15,Value.int .i64 x17.N),(12,Value.string (mkS out11)),(3,Value.string (mkS out11)),(6,(Value.slice la1 ll2 lc3)),(7,(Value.int .i64 ((ll2:Nat):Int))),(8,(Value.int .i64 x12))] [⟨b18,81,[(Value.int .i64 x17.Kind),(Value.int .i64 x17.N),(Value.string (mkS x17.Text))]⟩] []) #[true,true,false,false,true,true,true,true,true,true,false,true,true,false,true,true,true,false,false,false,false] 8 (λa w hX=>?_) (λWm96L=>?_)
  ·obtain⟨M2,r,hL,hX2,hr,hf,hs⟩:=hX
   refine WpD.ors (by kernel_rfl:_=[2,3]) ⟨?_,?_,trivial⟩
   ·refine stepOne 2 rfl (wanted_none rfl) #[] ?_
    refine stepMapI kS 3 9 [(4,(([112,114,101,102,105,120,32]++dN++[32]):List UInt8))] 1 [97,99,99,101,112,116,32] hs hX2 hf hr (λ_ _ M3 hU hf3 hX3 hs=>?_)
    have hL3:=hU.le hr hL
    refine wpList_nil ⟨λ_ _=>hs.cxle hL3 (List.Sublist.refl _) (List.Sublist.refl _),?_⟩
    exact WpD.at (by kernel_rfl) (Wm926L _ _ ⟨_,_,hL3,hX3,hr,hf3,(hs.wk ⟨rfl,rfl,rfl,rfl,rfl,rfl,rfl,rfl,rfl,rfl,rfl,trivial⟩)⟩)
   ·refine stepOne 3 rfl (wanted_none rfl) #[] ?_
    refine stepMapI kS 3 9 [(4,(([112,114,101,102,105,120,32]++dN++[32]):List UInt8))] 2 [114,101,106,101,99,116,32] hs hX2 hf hr (λ_ _ M3 hU hf3 hX3 hs=>?_)
    have hL3:=hU.le hr hL
    refine wpList_nil ⟨λ_ _=>hs.cxle hL3 (List.Sublist.refl _) (List.Sublist.refl _),?_⟩
    exact WpD.at (by kernel_rfl) (Wm936L _ _ ⟨_,_,hL3,hX3,hr,hf3,(hs.wk ⟨rfl,rfl,rfl,rfl,rfl,rfl,rfl,rfl,rfl,rfl,rfl,trivial⟩)⟩)
  refine WpD.cut (X:=λa w=>∃(M2:Mem) (r:Nat),M.le M2/\WX M2 M E/\M r=none/\MapA M2 r (kvL kI kS [(1,([97,99,99,101,112,116,32]:List UInt8)),(2,([114,101,106,101,99,116,32]:List UInt8))])/\Sx 31 E (bwW E M (λ_=>False)) M2 w a [(13,Value.map (some r)),(18,Value.string (mkS ([112,114,101,102,105,120,32]++dN++[32]))),(24,Value.string (mkS x17.Text)),(21,Value.int .i64 x17.Kind),(15,Value.int .i64 x17.N),(12,Value.string (mkS out11)),(3,Value.string (mkS out11)),(6,(Value.slice la1 ll2 lc3)),(7,(Value.int .i64 ((ll2:Nat):Int))),(8,(Value.int .i64 x12))] [⟨b18,81,[(Value.int .i64 x17.Kind),(Value.int .i64 x17.N),(Value.string (mkS x17.Text))]⟩] []) #[true,true,true,true,true,true,true,true,true,false,false,true,true,false,true,true,false,false,false,false,false] 8 (λa w hX=>?_) (λWm236=>?_)
  ·obtain⟨M2,r,hL,hX2,hr,hf,hs⟩:=hX
   refine WpD.ors (by kernel_rfl:_=[9,16]) ⟨?_,?_,trivial⟩
   ·refine stepOne 9 rfl (wanted_none rfl) #[] ?_
    refine stepMapI kS 3 9 [(1,([97,99,99,101,112,116,32]:List UInt8)),(2,([114,101,106,101,99,116,32]:List UInt8))] 4 ([112,114,101,102,105,120,32]++dN++[32]) hs hX2 hf hr (λ_ _ M3 hU hf3 hX3 hs=>?_)
    have hL3:=hU.le hr hL
    refine wpList_nil ⟨λ_ _=>hs.cxle hL3 (List.Sublist.refl _) (List.Sublist.refl _),?_⟩
    exact WpD.at (by kernel_rfl) (Wm2396 _ _ ⟨_,_,hL3,hX3,hr,hf3,(hs.wk ⟨rfl,rfl,rfl,rfl,rfl,rfl,rfl,rfl,rfl,rfl,trivial⟩)⟩)
   ·refine stepOne 16 rfl (wanted_none rfl) #[] ?_
    refine stepCallP [(Value.string (mkS x17.Text))] hs rfl ⟨_,rfl,rfl⟩ rfl Tryd.func79 rfl (by kernel_rfl) (by decide) (hLit M2) (λ_ _ v hv hs=>?_)
    subst hv
    refine wpList_nil ⟨λ_ _=>hs.cxle hL (List.Sublist.refl _) (List.Sublist.refl _),?_⟩
    exact WpD.at (by kernel_rfl) (Wm236L _ _ ⟨_,_,hL,hX2,hr,hf,(hs.wk ⟨rfl,rfl,rfl,rfl,rfl,rfl,rfl,rfl,rfl,rfl,rfl,trivial⟩)⟩)
  refine WpD.cut (X:=λa w=>∃(M2:Mem) (r:Nat),M.le M2/\WX M2 M E/\M r=none/\MapA M2 r (kvL kI kS [(1,([97,99,99,101,112,116,32]:List UInt8)),(4,(([112,114,101,102,105,120,32]++dN++[32]):List UInt8))])/\Sx 31 E (bwW E M (λ_=>False)) M2 w a [(13,Value.map (some r)),(18,Value.string (mkS ([112,114,101,102,105,120,32]++dN++[32]))),(24,Value.string (mkS x17.Text)),(21,Value.int .i64 x17.Kind),(15,Value.int .i64 x17.N),(12,Value.string (mkS out11)),(3,Value.string (mkS out11)),(6,(Value.slice la1 ll2 lc3)),(7,(Value.int .i64 ((ll2:Nat):Int))),(8,(Value.int .i64 x12))] [⟨b18,81,[(Value.int .i64 x17.Kind),(Value.int .i64 x17.N),(Value.string (mkS x17.Text))]⟩] []) #[true,true,true,false,true,true,true,true,true,true,false,true,true,false,true,true,false,false,false,false,false] 8 (λa w hX=>?_) (λWm296=>?_)
  ·obtain⟨M2,r,hL,hX2,hr,hf,hs⟩:=hX
   refine WpD.ors (by kernel_rfl:_=[3,16]) ⟨?_,?_,trivial⟩
   ·refine stepOne 3 rfl (wanted_none rfl) #[] ?_
    refine stepMapI kS 3 9 [(1,([97,99,99,101,112,116,32]:List UInt8)),(4,(([112,114,101,102,105,120,32]++dN++[32]):List UInt8))] 2 [114,101,106,101,99,116,32] hs hX2 hf hr (λ_ _ M3 hU hf3 hX3 hs=>?_)
    have hL3:=hU.le hr hL
    refine wpList_nil ⟨λ_ _=>hs.cxle hL3 (List.Sublist.refl _) (List.Sublist.refl _),?_⟩
    exact WpD.at (by kernel_rfl) (Wm2936 _ _ ⟨_,_,hL3,hX3,hr,hf3,(hs.wk ⟨rfl,rfl,rfl,rfl,rfl,rfl,rfl,rfl,rfl,rfl,trivial⟩)⟩)
   ·refine stepOne 16 rfl (wanted_none rfl) #[] ?_
    refine stepCallP [(Value.string (mkS x17.Text))] hs rfl ⟨_,rfl,rfl⟩ rfl Tryd.func79 rfl (by kernel_rfl) (by decide) (hLit M2) (λ_ _ v hv hs=>?_)
    subst hv
    refine wpList_nil ⟨λ_ _=>hs.cxle hL (List.Sublist.refl _) (List.Sublist.refl _),?_⟩
    exact WpD.at (by kernel_rfl) (Wm296L _ _ ⟨_,_,hL,hX2,hr,hf,(hs.wk ⟨rfl,rfl,rfl,rfl,rfl,rfl,rfl,rfl,rfl,rfl,rfl,trivial⟩)⟩)
  refine WpD.cut (X:=λa w=>∃(M2:Mem) (r:Nat),M.le M2/\WX M2 M E/\M r=none/\MapA M2 r (kvL kI kS [(2,([114,101,106,101,99,116,32]:List UInt8)),(1,([97,99,99,101,112,116,32]:List UInt8))])/\Sx 31 E (bwW E M (λ_=>False)) M2 w a [(13,Value.map (some r)),(18,Value.string (mkS ([112,114,101,102,105,120,32]++dN++[32]))),(24,Value.string (mkS x17.Text)),(21,Value.int .i64 x17.Kind),(15,Value.int .i64 x17.N),(12,Value.string (mkS out11)),(3,Value.string (mkS out11)),(6,(Value.slice la1 ll2 lc3)),(7,(Value.int .i64 ((ll2:Nat):Int))),(8,(Value.int .i64 x12))] [⟨b18,81,[(Value.int .i64 x17.Kind),(Value.int .i64 x17.N),(Value.string (mkS x17.Text))]⟩] []) #[true,true,true,true,true,true,true,true,true,false,false,true,true,false,true,true,false,false,false,false,false] 8 (λa w hX=>?_) (λWm326=>?_)
  ·obtain⟨M2,r,hL,hX2,hr,hf,hs⟩:=hX
   refine WpD.ors (by kernel_rfl:_=[9,16]) ⟨?_,?_,trivial⟩
   ·refine stepOne 9 rfl (wanted_none rfl) #[] ?_
    refine stepMapI kS 3 9 [(2,([114,101,106,101,99,116,32]:List UInt8)),(1,([97,99,99,101,112,116,32]:List UInt8))] 4 ([112,114,101,102,105,120,32]++dN++[32]) hs hX2 hf hr (λ_ _ M3 hU hf3 hX3 hs=>?_)
    have hL3:=hU.le hr hL
    refine wpList_nil ⟨λ_ _=>hs.cxle hL3 (List.Sublist.refl _) (List.Sublist.refl _),?_⟩
    exact WpD.at (by kernel_rfl) (Wm3296 _ _ ⟨_,_,hL3,hX3,hr,hf3,(hs.wk ⟨rfl,rfl,rfl,rfl,rfl,rfl,rfl,rfl,rfl,rfl,trivial⟩)⟩)
   ·refine stepOne 16 rfl (wanted_none rfl) #[] ?_
    refine stepCallP [(Value.string (mkS x17.Text))] hs rfl ⟨_,rfl,rfl⟩ rfl Tryd.func79 rfl (by kernel_rfl) (by decide) (hLit M2) (λ_ _ v hv hs=>?_)
    subst hv
    refine wpList_nil ⟨λ_ _=>hs.cxle hL (List.Sublist.refl _) (List.Sublist.refl _),?_⟩
    exact WpD.at (by kernel_rfl) (Wm326L _ _ ⟨_,_,hL,hX2,hr,hf,(hs.wk ⟨rfl,rfl,rfl,rfl,rfl,rfl,rfl,rfl,rfl,rfl,rfl,trivial⟩)⟩)
  refine WpD.cut (X:=λa w=>∃(M2:Mem) (r:Nat),M.le M2/\WX M2 M E/\M r=none/\MapA M2 r (kvL kI kS [(2,([114,101,106,101,99,116,32]:List UInt8)),(4,(([112,114,101,102,105,120,32]++dN++[32]):List UInt8))])/\Sx 31 E (bwW E M (λ_=>False)) M2 w a [(13,Value.map (some r)),(18,Value.string (mkS ([112,114,101,102,105,120,32]++dN++[32]))),(24,Value.string (mkS x17.Text)),(21,Value.int .i64 x17.Kind),(15,Value.int .i64 x17.N),(12,Value.string (mkS out11)),(3,Value.string (mkS out11)),(6,(Value.slice la1 ll2 lc3)),(7,(Value.int .i64 ((ll2:Nat):Int))),(8,(Value.int .i64 x12))] [⟨b18,81,[(Value.int .i64 x17.Kind),(Value.int .i64 x17.N),(Value.string (mkS x17.Text))]⟩] []) #[true,true,false,true,true,true,true,true,true,true,false,true,true,false,true,true,false,false,false,false,false] 8 (λa w hX=>?_) (λWm396=>?_)
  ·obtain⟨M2,r,hL,hX2,hr,hf,hs⟩:=hX
   refine WpD.ors (by kernel_rfl:_=[2,16]) ⟨?_,?_,trivial⟩
   ·refine stepOne 2 rfl (wanted_none rfl) #[] ?_
    refine stepMapI kS 3 9 [(2,([114,101,106,101,99,116,32]:List UInt8)),(4,(([112,114,101,102,105,120,32]++dN++[32]):List UInt8))] 1 [97,99,99,101,112,116,32] hs hX2 hf hr (λ_ _ M3 hU hf3 hX3 hs=>?_)
    have hL3:=hU.le hr hL
    refine wpList_nil ⟨λ_ _=>hs.cxle hL3 (List.Sublist.refl _) (List.Sublist.refl _),?_⟩
    exact WpD.at (by kernel_rfl) (Wm3926 _ _ ⟨_,_,hL3,hX3,hr,hf3,(hs.wk ⟨rfl,rfl,rfl,rfl,rfl,rfl,rfl,rfl,rfl,rfl,trivial⟩)⟩)
   ·refine stepOne 16 rfl (wanted_none rfl) #[] ?_
    refine stepCallP [(Value.string (mkS x17.Text))] hs rfl ⟨_,rfl,rfl⟩ rfl Tryd.func79 rfl (by kernel_rfl) (by decide) (hLit M2) (λ_ _ v hv hs=>?_)
    subst hv
    refine wpList_nil ⟨λ_ _=>hs.cxle hL (List.Sublist.refl _) (List.Sublist.refl _),?_⟩
    exact WpD.at (by kernel_rfl) (Wm396L _ _ ⟨_,_,hL,hX2,hr,hf,(hs.wk ⟨rfl,rfl,rfl,rfl,rfl,rfl,rfl,rfl,rfl,rfl,rfl,trivial⟩)⟩)
  refine WpD.cut (X:=λa w=>∃(M2:Mem) (r:Nat),M.le M2/\WX M2 M E/\M r=none/\MapA M2 r (kvL kI kS [(4,(([112,114,101,102,105,120,32]++dN++[32]):List UInt8)),(1,([97,99,99,101,112,116,32]:List UInt8))])/\Sx 31 E (bwW E M (λ_=>False)) M2 w a [(13,Value.map (some r)),(18,Value.string (mkS ([112,114,101,102,105,120,32]++dN++[32]))),(24,Value.string (mkS x17.Text)),(21,Value.int .i64 x17.Kind),(15,Value.int .i64 x17.N),(12,Value.string (mkS out11)),(3,Value.string (mkS out11)),(6,(Value.slice la1 ll2 lc3)),(7,(Value.int .i64 ((ll2:Nat):Int))),(8,(Value.int .i64 x12))] [⟨b18,81,[(Value.int .i64 x17.Kind),(Value.int .i64 x17.N),(Value.string (mkS x17.Text))]⟩] []) #[true,true,true,false,true,true,true,true,true,true,false,true,true,false,true,true,false,false,false,false,false] 8 (λa w hX=>?_) (λWm926=>?_)
  ·obtain⟨M2,r,hL,hX2,hr,hf,hs⟩:=hX
   refine WpD.ors (by kernel_rfl:_=[3,16]) ⟨?_,?_,trivial⟩
   ·refine stepOne 3 rfl (wanted_none rfl) #[] ?_
    refine stepMapI kS 3 9 [(4,(([112,114,101,102,105,120,32]++dN++[32]):List UInt8)),(1,([97,99,99,101,112,116,32]:List UInt8))] 2 [114,101,106,101,99,116,32] hs hX2 hf hr (λ_ _ M3 hU hf3 hX3 hs=>?_)
    have hL3:=hU.le hr hL
    refine wpList_nil ⟨λ_ _=>hs.cxle hL3 (List.Sublist.refl _) (List.Sublist.refl _),?_⟩
    exact WpD.at (by kernel_rfl) (Wm9236 _ _ ⟨_,_,hL3,hX3,hr,hf3,(hs.wk ⟨rfl,rfl,rfl,rfl,rfl,rfl,rfl,rfl,rfl,rfl,trivial⟩)⟩)
   ·refine stepOne 16 rfl (wanted_none rfl) #[] ?_
    refine stepCallP [(Value.string (mkS x17.Text))] hs rfl ⟨_,rfl,rfl⟩ rfl Tryd.func79 rfl (by kernel_rfl) (by decide) (hLit M2) (λ_ _ v hv hs=>?_)
    subst hv
    refine wpList_nil ⟨λ_ _=>hs.cxle hL (List.Sublist.refl _) (List.Sublist.refl _),?_⟩
    exact WpD.at (by kernel_rfl) (Wm926L _ _ ⟨_,_,hL,hX2,hr,hf,(hs.wk ⟨rfl,rfl,rfl,rfl,rfl,rfl,rfl,rfl,rfl,rfl,rfl,trivial⟩)⟩)
  refine WpD.cut (X:=λa w=>∃(M2:Mem) (r:Nat),M.le M2/\WX M2 M E/\M r=none/\MapA M2 r (kvL kI kS [(4,(([112,114,101,102,105,120,32]++dN++[32]):List UInt8)),(2,([114,101,106,101,99,116,32]:List UInt8))])/\Sx 31 E (bwW E M (λ_=>False)) M2 w a [(13,Value.map (some r)),(18,Value.string (mkS ([112,114,101,102,105,120,32]++dN++[32]))),(24,Value.string (mkS x17.Text)),(21,Value.int .i64 x17.Kind),(15,Value.int .i64 x17.N),(12,Value.string (mkS out11)),(3,Value.string (mkS out11)),(6,(Value.slice la1 ll2 lc3)),(7,(Value.int .i64 ((ll2:Nat):Int))),(8,(Value.int .i64 x12))] [⟨b18,81,[(Value.int .i64 x17.Kind),(Value.int .i64 x17.N),(Value.string (mkS x17.Text))]⟩] []) #[true,true,false,true,true,true,true,true,true,true,false,true,true,false,true,true,false,false,false,false,false] 8 (λa w hX=>?_) (λWm936=>?_)
  ·obtain⟨M2,r,hL,hX2,hr,hf,hs⟩:=hX
   refine WpD.ors (by kernel_rfl:_=[2,16]) ⟨?_,?_,trivial⟩
   ·refine stepOne 2 rfl (wanted_none rfl) #[] ?_
    refine stepMapI kS 3 9 [(4,(([112,114,101,102,105,120,32]++dN++[32]):List UInt8)),(2,([114,101,106,101,99,116,32]:List UInt8))] 1 [97,99,99,101,112,116,32] hs hX2 hf hr (λ_ _ M3 hU hf3 hX3 hs=>?_)
    have hL3:=hU.le hr hL
    refine wpList_nil ⟨λ_ _=>hs.cxle hL3 (List.Sublist.refl _) (List.Sublist.refl _),?_⟩
    exact WpD.at (by kernel_rfl) (Wm9326 _ _ ⟨_,_,hL3,hX3,hr,hf3,(hs.wk ⟨rfl,rfl,rfl,rfl,rfl,rfl,rfl,rfl,rfl,rfl,trivial⟩)⟩)
   ·refine stepOne 16 rfl (wanted_none rfl) #[] ?_
    refine stepCallP [(Value.string (mkS x17.Text))] hs rfl ⟨_,rfl,rfl⟩ rfl Tryd.func79 rfl (by kernel_rfl) (by decide) (hLit M2) (λ_ _ v hv hs=>?_)
    subst hv
    refine wpList_nil ⟨λ_ _=>hs.cxle hL (List.Sublist.refl _) (List.Sublist.refl _),?_⟩
    exact WpD.at (by kernel_rfl) (Wm936L _ _ ⟨_,_,hL,hX2,hr,hf,(hs.wk ⟨rfl,rfl,rfl,rfl,rfl,rfl,rfl,rfl,rfl,rfl,rfl,trivial⟩)⟩)
  refine WpD.cut (X:=λa w=>∃(M2:Mem) (r:Nat),M.le M2/\WX M2 M E/\M r=none/\MapA M2 r (kvL kI kS [])/\Sx 31 E (bwW E M (λ_=>False)) M2 w a [(13,Value.map (some r)),(18,Value.string (mkS ([112,114,101,102,105,120,32]++dN++[32]))),(25,Value.string (mkS lT)),(24,Value.string (mkS x17.Text)),(21,Value.int .i64 x17.Kind),(15,Value.int .i64 x17.N),(12,Value.string (mkS out11)),(3,Value.string (mkS out11)),(6,(Value.slice la1 ll2 lc3)),(7,(Value.int .i64 ((ll2:Nat):Int))),(8,(Value.int .i64 x12))] [⟨b18,81,[(Value.int .i64 x17.Kind),(Value.int .i64 x17.N),(Value.string (mkS x17.Text))]⟩] []) #[true,true,false,false,true,true,true,true,true,false,false,true,true,false,true,true,true,false,false,false,false] 9 (λa w hX=>?_) (λWm6L=>?_)
  ·obtain⟨M2,r,hL,hX2,hr,hf,hs⟩:=hX
   refine WpD.ors (by kernel_rfl:_=[2,3,9]) ⟨?_,?_,?_,trivial⟩
   ·refine stepOne 2 rfl (wanted_none rfl) #[] ?_
    refine stepMapI kS 3 9 [] 1 [97,99,99,101,112,116,32] hs hX2 hf hr (λ_ _ M3 hU hf3 hX3 hs=>?_)
    have hL3:=hU.le hr hL
    refine wpList_nil ⟨λ_ _=>hs.cxle hL3 (List.Sublist.refl _) (List.Sublist.refl _),?_⟩
    exact WpD.at (by kernel_rfl) (Wm26L _ _ ⟨_,_,hL3,hX3,hr,hf3,(hs.wk ⟨rfl,rfl,rfl,rfl,rfl,rfl,rfl,rfl,rfl,rfl,rfl,trivial⟩)⟩)
   ·refine stepOne 3 rfl (wanted_none rfl) #[] ?_
    refine stepMapI kS 3 9 [] 2 [114,101,106,101,99,116,32] hs hX2 hf hr (λ_ _ M3 hU hf3 hX3 hs=>?_)
    have hL3:=hU.le hr hL
    refine wpList_nil ⟨λ_ _=>hs.cxle hL3 (List.Sublist.refl _) (List.Sublist.refl _),?_⟩
    exact WpD.at (by kernel_rfl) (Wm36L _ _ ⟨_,_,hL3,hX3,hr,hf3,(hs.wk ⟨rfl,rfl,rfl,rfl,rfl,rfl,rfl,rfl,rfl,rfl,rfl,trivial⟩)⟩)
   ·refine stepOne 9 rfl (wanted_none rfl) #[] ?_
    refine stepMapI kS 3 9 [] 4 ([112,114,101,102,105,120,32]++dN++[32]) hs hX2 hf hr (λ_ _ M3 hU hf3 hX3 hs=>?_)
    have hL3:=hU.le hr hL
    refine wpList_nil ⟨λ_ _=>hs.cxle hL3 (List.Sublist.refl _) (List.Sublist.refl _),?_⟩
    exact WpD.at (by kernel_rfl) (Wm96L _ _ ⟨_,_,hL3,hX3,hr,hf3,(hs.wk ⟨rfl,rfl,rfl,rfl,rfl,rfl,rfl,rfl,rfl,rfl,rfl,trivial⟩)⟩)
  refine WpD.cut (X:=λa w=>∃(M2:Mem) (r:Nat),M.le M2/\WX M2 M E/\M r=none/\MapA M2 r (kvL kI kS [(1,([97,99,99,101,112,116,32]:List UInt8))])/\Sx 31 E (bwW E M (λ_=>False)) M2 w a [(13,Value.map (some r)),(18,Value.string (mkS ([112,114,101,102,105,120,32]++dN++[32]))),(24,Value.string (mkS x17.Text)),(21,Value.int .i64 x17.Kind),(15,Value.int .i64 x17.N),(12,Value.string (mkS out11)),(3,Value.string (mkS out11)),(6,(Value.slice la1 ll2 lc3)),(7,(Value.int .i64 ((ll2:Nat):Int))),(8,(Value.int .i64 x12))] [⟨b18,81,[(Value.int .i64 x17.Kind),(Value.int .i64 x17.N),(Value.string (mkS x17.Text))]⟩] []) #[true,true,true,false,true,true,true,true,true,false,false,true,true,false,true,true,false,false,false,false,false] 9 (λa w hX=>?_) (λWm26=>?_)
  ·obtain⟨M2,r,hL,hX2,hr,hf,hs⟩:=hX
   refine WpD.ors (by kernel_rfl:_=[3,9,16]) ⟨?_,?_,?_,trivial⟩
   ·refine stepOne 3 rfl (wanted_none rfl) #[] ?_
    refine stepMapI kS 3 9 [(1,([97,99,99,101,112,116,32]:List UInt8))] 2 [114,101,106,101,99,116,32] hs hX2 hf hr (λ_ _ M3 hU hf3 hX3 hs=>?_)
    have hL3:=hU.le hr hL
    refine wpList_nil ⟨λ_ _=>hs.cxle hL3 (List.Sublist.refl _) (List.Sublist.refl _),?_⟩
    exact WpD.at (by kernel_rfl) (Wm236 _ _ ⟨_,_,hL3,hX3,hr,hf3,(hs.wk ⟨rfl,rfl,rfl,rfl,rfl,rfl,rfl,rfl,rfl,rfl,trivial⟩)⟩)
   ·refine stepOne 9 rfl (wanted_none rfl) #[] ?_
    refine stepMapI kS 3 9 [(1,([97,99,99,101,112,116,32]:List UInt8))] 4 ([112,114,101,102,105,120,32]++dN++[32]) hs hX2 hf hr (λ_ _ M3 hU hf3 hX3 hs=>?_)
    have hL3:=hU.le hr hL
    refine wpList_nil ⟨λ_ _=>hs.cxle hL3 (List.Sublist.refl _) (List.Sublist.refl _),?_⟩
    exact WpD.at (by kernel_rfl) (Wm296 _ _ ⟨_,_,hL3,hX3,hr,hf3,(hs.wk ⟨rfl,rfl,rfl,rfl,rfl,rfl,rfl,rfl,rfl,rfl,trivial⟩)⟩)
   ·refine stepOne 16 rfl (wanted_none rfl) #[] ?_
    refine stepCallP [(Value.string (mkS x17.Text))] hs rfl ⟨_,rfl,rfl⟩ rfl Tryd.func79 rfl (by kernel_rfl) (by decide) (hLit M2) (λ_ _ v hv hs=>?_)
    subst hv
    refine wpList_nil ⟨λ_ _=>hs.cxle hL (List.Sublist.refl _) (List.Sublist.refl _),?_⟩
    exact WpD.at (by kernel_rfl) (Wm26L _ _ ⟨_,_,hL,hX2,hr,hf,(hs.wk ⟨rfl,rfl,rfl,rfl,rfl,rfl,rfl,rfl,rfl,rfl,rfl,trivial⟩)⟩)
  refine WpD.cut (X:=λa w=>∃(M2:Mem) (r:Nat),M.le M2/\WX M2 M E/\M r=none/\MapA M2 r (kvL kI kS [(2,([114,101,106,101,99,116,32]:List UInt8))])/\Sx 31 E (bwW E M (λ_=>False)) M2 w a [(13,Value.map (some r)),(18,Value.string (mkS ([112,114,101,102,105,120,32]++dN++[32]))),(24,Value.string (mkS x17.Text)),(21,Value.int .i64 x17.Kind),(15,Value.int .i64 x17.N),(12,Value.string (mkS out11)),(3,Value.string (mkS out11)),(6,(Value.slice la1 ll2 lc3)),(7,(Value.int .i64 ((ll2:Nat):Int))),(8,(Value.int .i64 x12))] [⟨b18,81,[(Value.int .i64 x17.Kind),(Value.int .i64 x17.N),(Value.string (mkS x17.Text))]⟩] []) #[true,true,false,true,true,true,true,true,true,false,false,true,true,false,true,true,false,false,false,false,false] 9 (λa w hX=>?_) (λWm36=>?_)
  ·obtain⟨M2,r,hL,hX2,hr,hf,hs⟩:=hX
   refine WpD.ors (by kernel_rfl:_=[2,9,16]) ⟨?_,?_,?_,trivial⟩
   ·refine stepOne 2 rfl (wanted_none rfl) #[] ?_
    refine stepMapI kS 3 9 [(2,([114,101,106,101,99,116,32]:List UInt8))] 1 [97,99,99,101,112,116,32] hs hX2 hf hr (λ_ _ M3 hU hf3 hX3 hs=>?_)
    have hL3:=hU.le hr hL
    refine wpList_nil ⟨λ_ _=>hs.cxle hL3 (List.Sublist.refl _) (List.Sublist.refl _),?_⟩
    exact WpD.at (by kernel_rfl) (Wm326 _ _ ⟨_,_,hL3,hX3,hr,hf3,(hs.wk ⟨rfl,rfl,rfl,rfl,rfl,rfl,rfl,rfl,rfl,rfl,trivial⟩)⟩)
   ·refine stepOne 9 rfl (wanted_none rfl) #[] ?_
    refine stepMapI kS 3 9 [(2,([114,101,106,101,99,116,32]:List UInt8))] 4 ([112,114,101,102,105,120,32]++dN++[32]) hs hX2 hf hr (λ_ _ M3 hU hf3 hX3 hs=>?_)
    have hL3:=hU.le hr hL
    refine wpList_nil ⟨λ_ _=>hs.cxle hL3 (List.Sublist.refl _) (List.Sublist.refl _),?_⟩
    exact WpD.at (by kernel_rfl) (Wm396 _ _ ⟨_,_,hL3,hX3,hr,hf3,(hs.wk ⟨rfl,rfl,rfl,rfl,rfl,rfl,rfl,rfl,rfl,rfl,trivial⟩)⟩)
   ·refine stepOne 16 rfl (wanted_none rfl) #[] ?_
    refine stepCallP [(Value.string (mkS x17.Text))] hs rfl ⟨_,rfl,rfl⟩ rfl Tryd.func79 rfl (by kernel_rfl) (by decide) (hLit M2) (λ_ _ v hv hs=>?_)
    subst hv
    refine wpList_nil ⟨λ_ _=>hs.cxle hL (List.Sublist.refl _) (List.Sublist.refl _),?_⟩
    exact WpD.at (by kernel_rfl) (Wm36L _ _ ⟨_,_,hL,hX2,hr,hf,(hs.wk ⟨rfl,rfl,rfl,rfl,rfl,rfl,rfl,rfl,rfl,rfl,rfl,trivial⟩)⟩)
  refine WpD.cut (X:=λa w=>∃(M2:Mem) (r:Nat),M.le M2/\WX M2 M E/\M r=none/\MapA M2 r (kvL kI kS [(4,(([112,114,101,102,105,120,32]++dN++[32]):List UInt8))])/\Sx 31 E (bwW E M (λ_=>False)) M2 w a [(13,Value.map (some r)),(18,Value.string (mkS ([112,114,101,102,105,120,32]++dN++[32]))),(24,Value.string (mkS x17.Text)),(21,Value.int .i64 x17.Kind),(15,Value.int .i64 x17.N),(12,Value.string (mkS out11)),(3,Value.string (mkS out11)),(6,(Value.slice la1 ll2 lc3)),(7,(Value.int .i64 ((ll2:Nat):Int))),(8,(Value.int .i64 x12))] [⟨b18,81,[(Value.int .i64 x17.Kind),(Value.int .i64 x17.N),(Value.string (mkS x17.Text))]⟩] []) #[true,true,false,false,true,true,true,true,true,true,false,true,true,false,true,true,false,false,false,false,false] 9 (λa w hX=>?_) (λWm96=>?_)
  ·obtain⟨M2,r,hL,hX2,hr,hf,hs⟩:=hX
   refine WpD.ors (by kernel_rfl:_=[2,3,16]) ⟨?_,?_,?_,trivial⟩
   ·refine stepOne 2 rfl (wanted_none rfl) #[] ?_
    refine stepMapI kS 3 9 [(4,(([112,114,101,102,105,120,32]++dN++[32]):List UInt8))] 1 [97,99,99,101,112,116,32] hs hX2 hf hr (λ_ _ M3 hU hf3 hX3 hs=>?_)
    have hL3:=hU.le hr hL
    refine wpList_nil ⟨λ_ _=>hs.cxle hL3 (List.Sublist.refl _) (List.Sublist.refl _),?_⟩
    exact WpD.at (by kernel_rfl) (Wm926 _ _ ⟨_,_,hL3,hX3,hr,hf3,(hs.wk ⟨rfl,rfl,rfl,rfl,rfl,rfl,rfl,rfl,rfl,rfl,trivial⟩)⟩)
   ·refine stepOne 3 rfl (wanted_none rfl) #[] ?_
    refine stepMapI kS 3 9 [(4,(([112,114,101,102,105,120,32]++dN++[32]):List UInt8))] 2 [114,101,106,101,99,116,32] hs hX2 hf hr (λ_ _ M3 hU hf3 hX3 hs=>?_)
    have hL3:=hU.le hr hL
    refine wpList_nil ⟨λ_ _=>hs.cxle hL3 (List.Sublist.refl _) (List.Sublist.refl _),?_⟩
    exact WpD.at (by kernel_rfl) (Wm936 _ _ ⟨_,_,hL3,hX3,hr,hf3,(hs.wk ⟨rfl,rfl,rfl,rfl,rfl,rfl,rfl,rfl,rfl,rfl,trivial⟩)⟩)
   ·refine stepOne 16 rfl (wanted_none rfl) #[] ?_
    refine stepCallP [(Value.string (mkS x17.Text))] hs rfl ⟨_,rfl,rfl⟩ rfl Tryd.func79 rfl (by kernel_rfl) (by decide) (hLit M2) (λ_ _ v hv hs=>?_)
    subst hv
    refine wpList_nil ⟨λ_ _=>hs.cxle hL (List.Sublist.refl _) (List.Sublist.refl _),?_⟩
    exact WpD.at (by kernel_rfl) (Wm96L _ _ ⟨_,_,hL,hX2,hr,hf,(hs.wk ⟨rfl,rfl,rfl,rfl,rfl,rfl,rfl,rfl,rfl,rfl,rfl,trivial⟩)⟩)
  refine WpD.cut (X:=λa w=>∃(M2:Mem),M.le M2/\WX M2 M E/\Sx 31 E (bwW E M (λ_=>False)) M2 w a [(18,Value.string (mkS ([112,114,101,102,105,120,32]++dN++[32]))),(25,Value.string (mkS lT)),(24,Value.string (mkS x17.Text)),(21,Value.int .i64 x17.Kind),(15,Value.int .i64 x17.N),(12,Value.string (mkS out11)),(3,Value.string (mkS out11)),(6,(Value.slice la1 ll2 lc3)),(7,(Value.int .i64 ((ll2:Nat):Int))),(8,(Value.int .i64 x12))] [⟨b18,81,[(Value.int .i64 x17.Kind),(Value.int .i64 x17.N),(Value.string (mkS x17.Text))]⟩] []) #[true,false,false,false,true,true,true,true,true,false,false,true,true,false,true,true,true,false,false,false,false] 10 (λa w hX=>?_) (λWn6L=>?_)
  ·obtain⟨M2,hL,hX2,hs⟩:=hX
   refine stepDE 1 rfl (wanted_none rfl) (by kernel_rfl) #[] ?_
   refine stepMapNew hs hX2 (by decide) λ_ _ M3 r hrn hM3 hr0 hX3 hs=>?_
   have hL3:M.le M3:=hL.trans (by rw[hM3];exact Mem.add_le hrn)
   have hf3:MapA M3 r (kvL kI kS []):=by rw[hM3];exact MapA.new M2 r
   refine wpList_nil ⟨λ_ _=>hs.cxle hL3 (List.Sublist.refl _) (List.Sublist.refl _),?_⟩
   exact WpD.at (by kernel_rfl) (Wm6L _ _ ⟨_,_,hL3,hX3,hr0,hf3,(hs.wk ⟨rfl,rfl,rfl,rfl,rfl,rfl,rfl,rfl,rfl,rfl,rfl,trivial⟩)⟩)
  refine WpD.cut (X:=λa w=>∃(M2:Mem) (r:Nat),M.le M2/\WX M2 M E/\M r=none/\MapA M2 r (kvL kI kS [])/\Sx 31 E (bwW E M (λ_=>False)) M2 w a [(13,Value.map (some r)),(18,Value.string (mkS ([112,114,101,102,105,120,32]++dN++[32]))),(24,Value.string (mkS x17.Text)),(21,Value.int .i64 x17.Kind),(15,Value.int .i64 x17.N),(12,Value.string (mkS out11)),(3,Value.string (mkS out11)),(6,(Value.slice la1 ll2 lc3)),(7,(Value.int .i64 ((ll2:Nat):Int))),(8,(Value.int .i64 x12))] [⟨b18,81,[(Value.int .i64 x17.Kind),(Value.int .i64 x17.N),(Value.string (mkS x17.Text))]⟩] []) #[true,true,false,false,true,true,true,true,true,false,false,true,true,false,true,true,false,false,false,false,false] 10 (λa w hX=>?_) (λWm6=>?_)
  ·obtain⟨M2,r,hL,hX2,hr,hf,hs⟩:=hX
   refine WpD.ors (by kernel_rfl:_=[2,3,9,16]) ⟨?_,?_,?_,?_,trivial⟩
   ·refine stepOne 2 rfl (wanted_none rfl) #[] ?_
    refine stepMapI kS 3 9 [] 1 [97,99,99,101,112,116,32] hs hX2 hf hr (λ_ _ M3 hU hf3 hX3 hs=>?_)
    have hL3:=hU.le hr hL
    refine wpList_nil ⟨λ_ _=>hs.cxle hL3 (List.Sublist.refl _) (List.Sublist.refl _),?_⟩
    exact WpD.at (by kernel_rfl) (Wm26 _ _ ⟨_,_,hL3,hX3,hr,hf3,(hs.wk ⟨rfl,rfl,rfl,rfl,rfl,rfl,rfl,rfl,rfl,rfl,trivial⟩)⟩)
   ·refine stepOne 3 rfl (wanted_none rfl) #[] ?_
    refine stepMapI kS 3 9 [] 2 [114,101,106,101,99,116,32] hs hX2 hf hr (λ_ _ M3 hU hf3 hX3 hs=>?_)
    have hL3:=hU.le hr hL
    refine wpList_nil ⟨λ_ _=>hs.cxle hL3 (List.Sublist.refl _) (List.Sublist.refl _),?_⟩
    exact WpD.at (by kernel_rfl) (Wm36 _ _ ⟨_,_,hL3,hX3,hr,hf3,(hs.wk ⟨rfl,rfl,rfl,rfl,rfl,rfl,rfl,rfl,rfl,rfl,trivial⟩)⟩)
   ·refine stepOne 9 rfl (wanted_none rfl) #[] ?_
    refine stepMapI kS 3 9 [] 4 ([112,114,101,102,105,120,32]++dN++[32]) hs hX2 hf hr (λ_ _ M3 hU hf3 hX3 hs=>?_)
    have hL3:=hU.le hr hL
    refine wpList_nil ⟨λ_ _=>hs.cxle hL3 (List.Sublist.refl _) (List.Sublist.refl _),?_⟩
    exact WpD.at (by kernel_rfl) (Wm96 _ _ ⟨_,_,hL3,hX3,hr,hf3,(hs.wk ⟨rfl,rfl,rfl,rfl,rfl,rfl,rfl,rfl,rfl,rfl,trivial⟩)⟩)
   ·refine stepOne 16 rfl (wanted_none rfl) #[] ?_
    refine stepCallP [(Value.string (mkS x17.Text))] hs rfl ⟨_,rfl,rfl⟩ rfl Tryd.func79 rfl (by kernel_rfl) (by decide) (hLit M2) (λ_ _ v hv hs=>?_)
    subst hv
    refine wpList_nil ⟨λ_ _=>hs.cxle hL (List.Sublist.refl _) (List.Sublist.refl _),?_⟩
    exact WpD.at (by kernel_rfl) (Wm6L _ _ ⟨_,_,hL,hX2,hr,hf,(hs.wk ⟨rfl,rfl,rfl,rfl,rfl,rfl,rfl,rfl,rfl,rfl,rfl,trivial⟩)⟩)
  refine WpD.cut (X:=λa w=>∃(M2:Mem),M.le M2/\WX M2 M E/\Sx 31 E (bwW E M (λ_=>False)) M2 w a [(18,Value.string (mkS ([112,114,101,102,105,120,32]++dN++[32]))),(24,Value.string (mkS x17.Text)),(21,Value.int .i64 x17.Kind),(15,Value.int .i64 x17.N),(12,Value.string (mkS out11)),(3,Value.string (mkS out11)),(6,(Value.slice la1 ll2 lc3)),(7,(Value.int .i64 ((ll2:Nat):Int))),(8,(Value.int .i64 x12))] [⟨b18,81,[(Value.int .i64 x17.Kind),(Value.int .i64 x17.N),(Value.string (mkS x17.Text))]⟩] []) #[true,false,false,false,true,true,true,true,true,false,false,true,true,false,true,true,false,false,false,false,false] 11 (λa w hX=>?_) (λWn6=>?_)
  ·obtain⟨M2,hL,hX2,hs⟩:=hX
   refine WpD.ors (by kernel_rfl:_=[1,16]) ⟨?_,?_,trivial⟩
   ·refine stepOne 1 rfl (wanted_none rfl) #[] ?_
    refine stepMapNew hs hX2 (by decide) λ_ _ M3 r hrn hM3 hr0 hX3 hs=>?_
    have hL3:M.le M3:=hL.trans (by rw[hM3];exact Mem.add_le hrn)
    have hf3:MapA M3 r (kvL kI kS []):=by rw[hM3];exact MapA.new M2 r
    refine wpList_nil ⟨λ_ _=>hs.cxle hL3 (List.Sublist.refl _) (List.Sublist.refl _),?_⟩
    exact WpD.at (by kernel_rfl) (Wm6 _ _ ⟨_,_,hL3,hX3,hr0,hf3,(hs.wk ⟨rfl,rfl,rfl,rfl,rfl,rfl,rfl,rfl,rfl,rfl,trivial⟩)⟩)
   ·refine stepOne 16 rfl (wanted_none rfl) #[] ?_
    refine stepCallP [(Value.string (mkS x17.Text))] hs rfl ⟨_,rfl,rfl⟩ rfl Tryd.func79 rfl (by kernel_rfl) (by decide) (hLit M2) (λ_ _ v hv hs=>?_)
    subst hv
    refine wpList_nil ⟨λ_ _=>hs.cxle hL (List.Sublist.refl _) (List.Sublist.refl _),?_⟩
    exact WpD.at (by kernel_rfl) (Wn6L _ _ ⟨_,hL,hX2,(hs.wk ⟨rfl,rfl,rfl,rfl,rfl,rfl,rfl,rfl,rfl,rfl,trivial⟩)⟩)
  refine WpD.cut (X:=λa w=>∃(M2:Mem) (r:Nat),M.le M2/\WX M2 M E/\M r=none/\MapA M2 r (kvL kI kS [(1,([97,99,99,101,112,116,32]:List UInt8)),(2,([114,101,106,101,99,116,32]:List UInt8))])/\Sx 31 E (bwW E M (λ_=>False)) M2 w a [(13,Value.map (some r)),(24,Value.string (mkS x17.Text)),(21,Value.int .i64 x17.Kind),(15,Value.int .i64 x17.N),(12,Value.string (mkS out11)),(3,Value.string (mkS out11)),(6,(Value.slice la1 ll2 lc3)),(7,(Value.int .i64 ((ll2:Nat):Int))),(8,(Value.int .i64 x12))] [⟨b18,81,[(Value.int .i64 x17.Kind),(Value.int .i64 x17.N),(Value.string (mkS x17.Text))]⟩] []) #[true,true,true,true,true,true,false,false,false,false,false,true,true,false,true,true,false,false,false,false,false] 11 (λa w hX=>?_) (λWm23=>?_)
  ·obtain⟨M2,r,hL,hX2,hr,hf,hs⟩:=hX
   refine stepDE 6 rfl (wanted_none rfl) (by kernel_rfl) #[] ?_
   refine stepCallP [(Value.int .i64 x17.N)] hs rfl ⟨_,rfl,rfl⟩ rfl Tryd.func47 rfl (by kernel_rfl) (by decide) (hDec M2) (λ_ _ v hv hs=>?_)
   subst hv
   refine wpList_nil ⟨λ_ _=>hs.cxle hL (List.Sublist.refl _) (List.Sublist.refl _),?_⟩
   refine stepDP (v:=Value.string (mkS ([112,114,101,102,105,120,32]++dN))) 7 [8,9,10,13,17,18,19,20] hs QZ.no rfl (wanted_none rfl) rfl (by decide) (by kernel_rfl) (by kernel_rfl) (by kernel_rfl) (Yl.concat rfl rfl rfl rfl (by simp only[List.length_cons,List.length_nil];omega)) λ_ hs=>?_
   refine stepDP (v:=Value.string (mkS ([112,114,101,102,105,120,32]++dN++[32]))) 8 [9,10,13,17,18,19,20] hs QZ.no rfl (wanted_none rfl) rfl (by decide) (by kernel_rfl) (by kernel_rfl) (by kernel_rfl) (Yl.concat rfl rfl rfl rfl (by simp only[List.length_append,List.length_cons,List.length_nil];omega)) λ_ hs=>?_
   exact WpD.at (by kernel_rfl) (Wm236 _ _ ⟨_,_,hL,hX2,hr,hf,(hs.wk ⟨rfl,rfl,rfl,rfl,rfl,rfl,rfl,rfl,rfl,rfl,trivial⟩)⟩)
  refine WpD.cut (X:=λa w=>∃(M2:Mem) (r:Nat),M.le M2/\WX M2 M E/\M r=none/\MapA M2 r (kvL kI kS [(2,([114,101,106,101,99,116,32]:List UInt8)),(1,([97,99,99,101,112,116,32]:List UInt8))])/\Sx 31 E (bwW E M (λ_=>False)) M2 w a [(13,Value.map (some r)),(24,Value.string (mkS x17.Text)),(21,Value.int .i64 x17.Kind),(15,Value.int .i64 x17.N),(12,Value.string (mkS out11)),(3,Value.string (mkS out11)),(6,(Value.slice la1 ll2 lc3)),(7,(Value.int .i64 ((ll2:Nat):Int))),(8,(Value.int .i64 x12))] [⟨b18,81,[(Value.int .i64 x17.Kind),(Value.int .i64 x17.N),(Value.string (mkS x17.Text))]⟩] []) #[true,true,true,true,true,true,false,false,false,false,false,true,true,false,true,true,false,false,false,false,false] 11 (λa w hX=>?_) (λWm32=>?_)
  ·obtain⟨M2,r,hL,hX2,hr,hf,hs⟩:=hX
   refine stepDE 6 rfl (wanted_none rfl) (by kernel_rfl) #[] ?_
   refine stepCallP [(Value.int .i64 x17.N)] hs rfl ⟨_,rfl,rfl⟩ rfl Tryd.func47 rfl (by kernel_rfl) (by decide) (hDec M2) (λ_ _ v hv hs=>?_)
   subst hv
   refine wpList_nil ⟨λ_ _=>hs.cxle hL (List.Sublist.refl _) (List.Sublist.refl _),?_⟩
   refine stepDP (v:=Value.string (mkS ([112,114,101,102,105,120,32]++dN))) 7 [8,9,10,13,17,18,19,20] hs QZ.no rfl (wanted_none rfl) rfl (by decide) (by kernel_rfl) (by kernel_rfl) (by kernel_rfl) (Yl.concat rfl rfl rfl rfl (by simp only[List.length_cons,List.length_nil];omega)) λ_ hs=>?_
   refine stepDP (v:=Value.string (mkS ([112,114,101,102,105,120,32]++dN++[32]))) 8 [9,10,13,17,18,19,20] hs QZ.no rfl (wanted_none rfl) rfl (by decide) (by kernel_rfl) (by kernel_rfl) (by kernel_rfl) (Yl.concat rfl rfl rfl rfl (by simp only[List.length_append,List.length_cons,List.length_nil];omega)) λ_ hs=>?_
   exact WpD.at (by kernel_rfl) (Wm326 _ _ ⟨_,_,hL,hX2,hr,hf,(hs.wk ⟨rfl,rfl,rfl,rfl,rfl,rfl,rfl,rfl,rfl,rfl,trivial⟩)⟩)
  refine WpD.cut (X:=λa w=>∃(M2:Mem) (r:Nat),M.le M2/\WX M2 M E/\M r=none/\MapA M2 r (kvL kI kS [(1,([97,99,99,101,112,116,32]:List UInt8))])/\Sx 31 E (bwW E M (λ_=>False)) M2 w a [(13,Value.map (some r)),(24,Value.string (mkS x17.Text)),(21,Value.int .i64 x17.Kind),(15,Value.int .i64 x17.N),(12,Value.string (mkS out11)),(3,Value.string (mkS out11)),(6,(Value.slice la1 ll2 lc3)),(7,(Value.int .i64 ((ll2:Nat):Int))),(8,(Value.int .i64 x12))] [⟨b18,81,[(Value.int .i64 x17.Kind),(Value.int .i64 x17.N),(Value.string (mkS x17.Text))]⟩] []) #[true,true,true,false,true,true,false,false,false,false,false,true,true,false,true,true,false,false,false,false,false] 12 (λa w hX=>?_) (λWm2=>?_)
  ·obtain⟨M2,r,hL,hX2,hr,hf,hs⟩:=hX
   refine WpD.ors (by kernel_rfl:_=[3,6]) ⟨?_,?_,trivial⟩
   ·refine stepOne 3 rfl (wanted_none rfl) #[] ?_
    refine stepMapI kS 3 9 [(1,([97,99,99,101,112,116,32]:List UInt8))] 2 [114,101,106,101,99,116,32] hs hX2 hf hr (λ_ _ M3 hU hf3 hX3 hs=>?_)
    have hL3:=hU.le hr hL
    refine wpList_nil ⟨λ_ _=>hs.cxle hL3 (List.Sublist.refl _) (List.Sublist.refl _),?_⟩
    exact WpD.at (by kernel_rfl) (Wm23 _ _ ⟨_,_,hL3,hX3,hr,hf3,(hs.wk ⟨rfl,rfl,rfl,rfl,rfl,rfl,rfl,rfl,rfl,trivial⟩)⟩)
   ·refine stepOne 6 rfl (wanted_none rfl) #[] ?_
    refine stepCallP [(Value.int .i64 x17.N)] hs rfl ⟨_,rfl,rfl⟩ rfl Tryd.func47 rfl (by kernel_rfl) (by decide) (hDec M2) (λ_ _ v hv hs=>?_)
    subst hv
    refine wpList_nil ⟨λ_ _=>hs.cxle hL (List.Sublist.refl _) (List.Sublist.refl _),?_⟩
    refine stepDP (v:=Value.string (mkS ([112,114,101,102,105,120,32]++dN))) 7 [8,9,10,13,17,18,19,20] hs QZ.no rfl (wanted_none rfl) rfl (by decide) (by kernel_rfl) (by kernel_rfl) (by kernel_rfl) (Yl.concat rfl rfl rfl rfl (by simp only[List.length_cons,List.length_nil];omega)) λ_ hs=>?_
    refine stepDP (v:=Value.string (mkS ([112,114,101,102,105,120,32]++dN++[32]))) 8 [9,10,13,17,18,19,20] hs QZ.no rfl (wanted_none rfl) rfl (by decide) (by kernel_rfl) (by kernel_rfl) (by kernel_rfl) (Yl.concat rfl rfl rfl rfl (by simp only[List.length_append,List.length_cons,List.length_nil];omega)) λ_ hs=>?_
    exact WpD.at (by kernel_rfl) (Wm26 _ _ ⟨_,_,hL,hX2,hr,hf,(hs.wk ⟨rfl,rfl,rfl,rfl,rfl,rfl,rfl,rfl,rfl,rfl,trivial⟩)⟩)
  refine WpD.cut (X:=λa w=>∃(M2:Mem) (r:Nat),M.le M2/\WX M2 M E/\M r=none/\MapA M2 r (kvL kI kS [(2,([114,101,106,101,99,116,32]:List UInt8))])/\Sx 31 E (bwW E M (λ_=>False)) M2 w a [(13,Value.map (some r)),(24,Value.string (mkS x17.Text)),(21,Value.int .i64 x17.Kind),(15,Value.int .i64 x17.N),(12,Value.string (mkS out11)),(3,Value.string (mkS out11)),(6,(Value.slice la1 ll2 lc3)),(7,(Value.int .i64 ((ll2:Nat):Int))),(8,(Value.int .i64 x12))] [⟨b18,81,[(Value.int .i64 x17.Kind),(Value.int .i64 x17.N),(Value.string (mkS x17.Text))]⟩] []) #[true,true,false,true,true,true,false,false,false,false,false,true,true,false,true,true,false,false,false,false,false] 12 (λa w hX=>?_) (λWm3=>?_)
  ·obtain⟨M2,r,hL,hX2,hr,hf,hs⟩:=hX
   refine WpD.ors (by kernel_rfl:_=[2,6]) ⟨?_,?_,trivial⟩
   ·refine stepOne 2 rfl (wanted_none rfl) #[] ?_
    refine stepMapI kS 3 9 [(2,([114,101,106,101,99,116,32]:List UInt8))] 1 [97,99,99,101,112,116,32] hs hX2 hf hr (λ_ _ M3 hU hf3 hX3 hs=>?_)
    have hL3:=hU.le hr hL
    refine wpList_nil ⟨λ_ _=>hs.cxle hL3 (List.Sublist.refl _) (List.Sublist.refl _),?_⟩
    exact WpD.at (by kernel_rfl) (Wm32 _ _ ⟨_,_,hL3,hX3,hr,hf3,(hs.wk ⟨rfl,rfl,rfl,rfl,rfl,rfl,rfl,rfl,rfl,trivial⟩)⟩)
   ·refine stepOne 6 rfl (wanted_none rfl) #[] ?_
    refine stepCallP [(Value.int .i64 x17.N)] hs rfl ⟨_,rfl,rfl⟩ rfl Tryd.func47 rfl (by kernel_rfl) (by decide) (hDec M2) (λ_ _ v hv hs=>?_)
    subst hv
    refine wpList_nil ⟨λ_ _=>hs.cxle hL (List.Sublist.refl _) (List.Sublist.refl _),?_⟩
    refine stepDP (v:=Value.string (mkS ([112,114,101,102,105,120,32]++dN))) 7 [8,9,10,13,17,18,19,20] hs QZ.no rfl (wanted_none rfl) rfl (by decide) (by kernel_rfl) (by kernel_rfl) (by kernel_rfl) (Yl.concat rfl rfl rfl rfl (by simp only[List.length_cons,List.length_nil];omega)) λ_ hs=>?_
    refine stepDP (v:=Value.string (mkS ([112,114,101,102,105,120,32]++dN++[32]))) 8 [9,10,13,17,18,19,20] hs QZ.no rfl (wanted_none rfl) rfl (by decide) (by kernel_rfl) (by kernel_rfl) (by kernel_rfl) (Yl.concat rfl rfl rfl rfl (by simp only[List.length_append,List.length_cons,List.length_nil];omega)) λ_ hs=>?_
    exact WpD.at (by kernel_rfl) (Wm36 _ _ ⟨_,_,hL,hX2,hr,hf,(hs.wk ⟨rfl,rfl,rfl,rfl,rfl,rfl,rfl,rfl,rfl,rfl,trivial⟩)⟩)
  refine WpD.cut (X:=λa w=>∃(M2:Mem) (r:Nat),M.le M2/\WX M2 M E/\M r=none/\MapA M2 r (kvL kI kS [])/\Sx 31 E (bwW E M (λ_=>False)) M2 w a [(13,Value.map (some r)),(24,Value.string (mkS x17.Text)),(21,Value.int .i64 x17.Kind),(15,Value.int .i64 x17.N),(12,Value.string (mkS out11)),(3,Value.string (mkS out11)),(6,(Value.slice la1 ll2 lc3)),(7,(Value.int .i64 ((ll2:Nat):Int))),(8,(Value.int .i64 x12))] [⟨b18,81,[(Value.int .i64 x17.Kind),(Value.int .i64 x17.N),(Value.string (mkS x17.Text))]⟩] []) #[true,true,false,false,true,true,false,false,false,false,false,true,true,false,true,true,false,false,false,false,false] 13 (λa w hX=>?_) (λWm=>?_)
  ·obtain⟨M2,r,hL,hX2,hr,hf,hs⟩:=hX
   refine WpD.ors (by kernel_rfl:_=[2,3,6]) ⟨?_,?_,?_,trivial⟩
   ·refine stepOne 2 rfl (wanted_none rfl) #[] ?_
    refine stepMapI kS 3 9 [] 1 [97,99,99,101,112,116,32] hs hX2 hf hr (λ_ _ M3 hU hf3 hX3 hs=>?_)
    have hL3:=hU.le hr hL
    refine wpList_nil ⟨λ_ _=>hs.cxle hL3 (List.Sublist.refl _) (List.Sublist.refl _),?_⟩
    exact WpD.at (by kernel_rfl) (Wm2 _ _ ⟨_,_,hL3,hX3,hr,hf3,(hs.wk ⟨rfl,rfl,rfl,rfl,rfl,rfl,rfl,rfl,rfl,trivial⟩)⟩)
   ·refine stepOne 3 rfl (wanted_none rfl) #[] ?_
    refine stepMapI kS 3 9 [] 2 [114,101,106,101,99,116,32] hs hX2 hf hr (λ_ _ M3 hU hf3 hX3 hs=>?_)
    have hL3:=hU.le hr hL
    refine wpList_nil ⟨λ_ _=>hs.cxle hL3 (List.Sublist.refl _) (List.Sublist.refl _),?_⟩
    exact WpD.at (by kernel_rfl) (Wm3 _ _ ⟨_,_,hL3,hX3,hr,hf3,(hs.wk ⟨rfl,rfl,rfl,rfl,rfl,rfl,rfl,rfl,rfl,trivial⟩)⟩)
   ·refine stepOne 6 rfl (wanted_none rfl) #[] ?_
    refine stepCallP [(Value.int .i64 x17.N)] hs rfl ⟨_,rfl,rfl⟩ rfl Tryd.func47 rfl (by kernel_rfl) (by decide) (hDec M2) (λ_ _ v hv hs=>?_)
    subst hv
    refine wpList_nil ⟨λ_ _=>hs.cxle hL (List.Sublist.refl _) (List.Sublist.refl _),?_⟩
    refine stepDP (v:=Value.string (mkS ([112,114,101,102,105,120,32]++dN))) 7 [8,9,10,13,17,18,19,20] hs QZ.no rfl (wanted_none rfl) rfl (by decide) (by kernel_rfl) (by kernel_rfl) (by kernel_rfl) (Yl.concat rfl rfl rfl rfl (by simp only[List.length_cons,List.length_nil];omega)) λ_ hs=>?_
    refine stepDP (v:=Value.string (mkS ([112,114,101,102,105,120,32]++dN++[32]))) 8 [9,10,13,17,18,19,20] hs QZ.no rfl (wanted_none rfl) rfl (by decide) (by kernel_rfl) (by kernel_rfl) (by kernel_rfl) (Yl.concat rfl rfl rfl rfl (by simp only[List.length_append,List.length_cons,List.length_nil];omega)) λ_ hs=>?_
    exact WpD.at (by kernel_rfl) (Wm6 _ _ ⟨_,_,hL,hX2,hr,hf,(hs.wk ⟨rfl,rfl,rfl,rfl,rfl,rfl,rfl,rfl,rfl,rfl,trivial⟩)⟩)
  refine WpD.cut (X:=λa w=>∃(M2:Mem),M.le M2/\WX M2 M E/\Sx 31 E (bwW E M (λ_=>False)) M2 w a [(24,Value.string (mkS x17.Text)),(21,Value.int .i64 x17.Kind),(15,Value.int .i64 x17.N),(12,Value.string (mkS out11)),(3,Value.string (mkS out11)),(6,(Value.slice la1 ll2 lc3)),(7,(Value.int .i64 ((ll2:Nat):Int))),(8,(Value.int .i64 x12))] [⟨b18,81,[(Value.int .i64 x17.Kind),(Value.int .i64 x17.N),(Value.string (mkS x17.Text))]⟩] []) #[true,false,false,false,true,true,false,false,false,false,false,true,true,false,true,true,false,false,false,false,false] 14 (λa w hX=>?_) (λWn=>?_)
  ·obtain⟨M2,hL,hX2,hs⟩:=hX
   refine WpD.ors (by kernel_rfl:_=[1,6]) ⟨?_,?_,trivial⟩
   ·refine stepOne 1 rfl (wanted_none rfl) #[] ?_
    refine stepMapNew hs hX2 (by decide) λ_ _ M3 r hrn hM3 hr0 hX3 hs=>?_
    have hL3:M.le M3:=hL.trans (by rw[hM3];exact Mem.add_le hrn)
    have hf3:MapA M3 r (kvL kI kS []):=by rw[hM3];exact MapA.new M2 r
    refine wpList_nil ⟨λ_ _=>hs.cxle hL3 (List.Sublist.refl _) (List.Sublist.refl _),?_⟩
    exact WpD.at (by kernel_rfl) (Wm _ _ ⟨_,_,hL3,hX3,hr0,hf3,(hs.wk ⟨rfl,rfl,rfl,rfl,rfl,rfl,rfl,rfl,rfl,trivial⟩)⟩)
   ·refine stepOne 6 rfl (wanted_none rfl) #[] ?_
    refine stepCallP [(Value.int .i64 x17.N)] hs rfl ⟨_,rfl,rfl⟩ rfl Tryd.func47 rfl (by kernel_rfl) (by decide) (hDec M2) (λ_ _ v hv hs=>?_)
    subst hv
    refine wpList_nil ⟨λ_ _=>hs.cxle hL (List.Sublist.refl _) (List.Sublist.refl _),?_⟩
    refine stepDP (v:=Value.string (mkS ([112,114,101,102,105,120,32]++dN))) 7 [8,9,10,13,17,18,19,20] hs QZ.no rfl (wanted_none rfl) rfl (by decide) (by kernel_rfl) (by kernel_rfl) (by kernel_rfl) (Yl.concat rfl rfl rfl rfl (by simp only[List.length_cons,List.length_nil];omega)) λ_ hs=>?_
    refine stepDP (v:=Value.string (mkS ([112,114,101,102,105,120,32]++dN++[32]))) 8 [9,10,13,17,18,19,20] hs QZ.no rfl (wanted_none rfl) rfl (by decide) (by kernel_rfl) (by kernel_rfl) (by kernel_rfl) (Yl.concat rfl rfl rfl rfl (by simp only[List.length_append,List.length_cons,List.length_nil];omega)) λ_ hs=>?_
    exact WpD.at (by kernel_rfl) (Wn6 _ _ ⟨_,hL,hX2,(hs.wk ⟨rfl,rfl,rfl,rfl,rfl,rfl,rfl,rfl,rfl,trivial⟩)⟩)
  refine dP (Value.string (mkS out11)) 0 [19,20] hs QZ.no (wanted_none rfl) λ_ hs=>?_
  refine dP (Value.pointer (some ⟨b18,1,none⟩)) 4 [5,6,7,8,9,10,13,16,17,18,19,20] hs QZ.no (wanted_none rfl) λ_ hs=>?_
  refine stepDY (v:=Value.int .i64 x17.N) 5 [6,7,8,9,10,13,16,17,18,19,20] hs hC QZ.no rfl (wanted_none rfl) rfl (by decide) (by kernel_rfl) (by kernel_rfl) (by kernel_rfl) (Yl.loadB (vs:=[Value.int .i64 x17.N]) false 0 rfl rfl rfl (by kernel_rfl) rfl) λ_ hs=>?_
  refine dP (Value.pointer (some ⟨b18,0,none⟩)) 11 [12,13,17,18,19,20] hs QZ.no (wanted_none rfl) λ_ hs=>?_
  refine stepDY (v:=Value.int .i64 x17.Kind) 12 [13,17,18,19,20] hs hC QZ.no rfl (wanted_none rfl) rfl (by decide) (by kernel_rfl) (by kernel_rfl) (by kernel_rfl) (Yl.loadB (vs:=[Value.int .i64 x17.Kind]) false 0 rfl rfl rfl (by kernel_rfl) rfl) λ_ hs=>?_
  refine dP (Value.pointer (some ⟨b18,2,none⟩)) 14 [15,16,17,18,19,20] hs QZ.no (wanted_none rfl) λ_ hs=>?_
  refine stepDY (v:=Value.string (mkS x17.Text)) 15 [16,17,18,19,20] hs hC QZ.no rfl (wanted_none rfl) rfl (by decide) (by kernel_rfl) (by kernel_rfl) (by kernel_rfl) (Yl.loadB (vs:=[Value.string (mkS x17.Text)]) false 0 rfl rfl rfl (by kernel_rfl) rfl) λ_ hs=>?_
  replace hs:=toW hs
  exact WpD.at (by kernel_rfl) (Wn _ _ ⟨_,Mem.le.refl M,WX.refl M E,(hs.wk ⟨rfl,rfl,rfl,rfl,rfl,rfl,rfl,rfl,trivial⟩)⟩)
 ·have hS:=hS.2 hc
  refine Wp.exit rfl (Wp.seq (Wp.region (sP (Value.string (mkS out11)) hs λ_ hs=>?_)))
  refine sP (Value.string (mkS out11)) hs λ_ hs=>?_
  exact wpList_nil (Wp.ret (leaveE (K:=λv _=>K v) hs (resT hs rfl rfl) hMM.2 (λ_ _=>hS)))
end Go.Proofs.YtjecddabdlapbaaDoor.core
