/- Plain functions for the program's. -/
import Derived.Test.YtnddpppljnjmcaaGreatDoorFa
import Derived.Lib.ItoaLen
import Derived.Test.YtnddpppljnjmcaaGreatDoorGvPlain
import Derived.Lib.ValidLaws
import Derived.Test.YtnddpppljnjmcaaGreatDoorGvSpecX
import Derived.Test.YtnddpppljnjmcaaGreatDoorProg
import Derived.Test.YtnddpppljnjmcaaGreatDoorGs
import Derived.Test.YtnddpppljnjmcaaGreatDoorAl
set_option linter.unusedSimpArgs false
set_option linter.unusedVariables false
namespace Go.Proofs.YtnddpppljnjmcaaGreatDoor
open Go Go.Iv Go.Gv
set_option maxRecDepth 100000
set_option linter.unusedVariables false
noncomputable def valueS (_n:Nat) (tag:List UInt8) (s:List UInt8):Option ((Int×(Bool×((Bool×(List UInt8×(Int×Int)))×List UInt8)))×(Int×Unit)):=
 bif (tag==([(116:UInt8),(97:UInt8),(103:UInt8),(58:UInt8),(121:UInt8),(97:UInt8),(109:UInt8),(108:UInt8),(46:UInt8),(111:UInt8),(114:UInt8),(103:UInt8),(44:UInt8),(50:UInt8),(48:UInt8),(48:UInt8),(50:UInt8),(58:UInt8),(110:UInt8),(117:UInt8),(108:UInt8),(108:UInt8)]:List UInt8)) then
 none
 else
 bif (tag==([(116:UInt8),(97:UInt8),(103:UInt8),(58:UInt8),(121:UInt8),(97:UInt8),(109:UInt8),(108:UInt8),(46:UInt8),(111:UInt8),(114:UInt8),(103:UInt8),(44:UInt8),(50:UInt8),(48:UInt8),(48:UInt8),(50:UInt8),(58:UInt8),(98:UInt8),(111:UInt8),(111:UInt8),(108:UInt8)]:List UInt8)) then
 none
 else
 bif (tag==([(116:UInt8),(97:UInt8),(103:UInt8),(58:UInt8),(121:UInt8),(97:UInt8),(109:UInt8),(108:UInt8),(46:UInt8),(111:UInt8),(114:UInt8),(103:UInt8),(44:UInt8),(50:UInt8),(48:UInt8),(48:UInt8),(50:UInt8),(58:UInt8),(105:UInt8),(110:UInt8),(116:UInt8)]:List UInt8)) then
 none
 else
 bif (tag==([(116:UInt8),(97:UInt8),(103:UInt8),(58:UInt8),(121:UInt8),(97:UInt8),(109:UInt8),(108:UInt8),(46:UInt8),(111:UInt8),(114:UInt8),(103:UInt8),(44:UInt8),(50:UInt8),(48:UInt8),(48:UInt8),(50:UInt8),(58:UInt8),(102:UInt8),(108:UInt8),(111:UInt8),(97:UInt8),(116:UInt8)]:List UInt8)) then
 none
 else
 some (((5:Int),(false,((false,(([]:List UInt8),((0:Int),(0:Int)))),s))),(0:Int),())
noncomputable def valueS_it:FnIt:= ⟨42,[(false,.str),(false,.str)],[(true,(.cons (.int .i64) (.cons .bool (.cons (.cons .bool (.cons .str (.cons (.int .i64) (.int .i64)))) .str)))),(false,(.int .i64))],1,fun n x=>valueS n x.1 x.2.1⟩
theorem valueS_ok (n:Nat):FnOK Tryz.prog hint shT valueS_it n:=
 FnOK.of (hk:=fun β=>(Known.mk [] []).hk β) (sh:=shT) (fun m _=>KnownOK.hook KnownOK.nil m) (fun x=>by kernel_rfl)
noncomputable def valuesE (_n:Nat) (v:(Int×(Bool×((Bool×(List UInt8×(Int×Int)))×List UInt8)))) (w:(Int×(Bool×((Bool×(List UInt8×(Int×Int)))×List UInt8)))):Option (Bool×Unit):=
 bif (v.1 !=w.1) then
 some (false,())
 else
 bif (v.1==(2:Int)) then
 some ((v.2.1==w.2.1),())
 else
 bif (v.1==(3:Int)) then
 Option.bind (bif (v.2.2.1.1==w.2.2.1.1) then
  bif (v.2.2.1.2.1==w.2.2.1.2.1) then
   bif (v.2.2.1.2.2.1==w.2.2.1.2.2.1) then
   some (v.2.2.1.2.2.2==w.2.2.1.2.2.2)
   else
   some false
  else
  some false
  else
  some false) fun b1=>
 some (b1,())
 else
 bif (v.1==(4:Int)) then
 Option.bind (bif (v.2.2.1.1==w.2.2.1.1) then
  bif (v.2.2.1.2.1==w.2.2.1.2.1) then
   bif (v.2.2.1.2.2.1==w.2.2.1.2.2.1) then
   some (v.2.2.1.2.2.2==w.2.2.1.2.2.2)
   else
   some false
  else
  some false
  else
  some false) fun b3=>
 some (b3,())
 else
 bif (v.1==(5:Int)) then
 some ((v.2.2.2==w.2.2.2),())
 else
 some (true,())
noncomputable def valuesE_it:FnIt:= ⟨16,[(true,(.cons (.int .i64) (.cons .bool (.cons (.cons .bool (.cons .str (.cons (.int .i64) (.int .i64)))) .str)))),(true,(.cons (.int .i64) (.cons .bool (.cons (.cons .bool (.cons .str (.cons (.int .i64) (.int .i64)))) .str))))],[(false,.bool)],0,fun n x=>valuesE n x.1 x.2.1⟩
theorem valuesE_ok (n:Nat):FnOK Tryz.prog hint shT valuesE_it n:=
 FnOK.of (hk:=fun β=>(Known.mk [] []).hk β) (sh:=shT) (fun m _=>KnownOK.hook KnownOK.nil m) (fun x=>by kernel_rfl)
noncomputable def alike (n:Nat) (x:(Int×(List UInt8×(List UInt8×(List Int×Bool))))) (y:(Int×(List UInt8×(List UInt8×(List Int×Bool))))):Option (Bool×Unit):=
 bif (x.1 !=y.1) then
 some (false,())
 else
 bif (!(x.2.1==y.2.1)) then
 some (false,())
 else
 bif ((len x.2.2.2.1) !=(len y.2.2.2.1)) then
 some (false,())
 else
 bif (x.1 !=(1:Int)) then
 some (true,())
 else
 Option.bind (valueS n x.2.1 x.2.2.1) fun y0=>
 Option.bind (valueS n y.2.1 y.2.2.1) fun y1=>
 Option.bind (bif (y0.2.1==(0:Int)) then
  some (y1.2.1==(0:Int))
 else
 some false) fun b3=>
 bif b3 then
 Option.bind (valuesE (n+1) (y0.1.1,(y0.1.2.1,((y0.1.2.2.1.1,(y0.1.2.2.1.2.1,(y0.1.2.2.1.2.2.1,y0.1.2.2.1.2.2.2))),y0.1.2.2.2))) (y1.1.1,(y1.1.2.1,((y1.1.2.2.1.1,(y1.1.2.2.1.2.1,(y1.1.2.2.1.2.2.1,y1.1.2.2.1.2.2.2))),y1.1.2.2.2)))) fun y4=>
 some (y4.1,())
 else
 some ((x.2.2.1==y.2.2.1),())
noncomputable def alike_it:FnIt:= ⟨30,[(true,sN),(true,sN)],[(false,.bool)],2,fun n x=>alike n x.1 x.2.1⟩
theorem alike_ok (n:Nat):FnOK Tryz.prog hint shT alike_it n:=
 FnOK.of (hk:=fun β=>(Known.mk [valuesE_it,valueS_it] []).hk β) (sh:=shT) (fun m _=>KnownOK.hook ((KnownOK.nil.fn valueS_ok).fn valuesE_ok) m) (fun x=>by kernel_rfl)
noncomputable def L21_12_Xexit2:Tm:= ⟨[(3,.one (.fix (TV.ptr 64 0))),(7,.one (.fix (TV.ptr 65 0))),(8,.one (.all 73 61 (.cons (.int .i64) (.int .i64)) .no))],[(64,.cells 25 [.lst sN,.lst (.int .i64)] true),(65,.cells 58 [.fix (TV.mp 67)] true),(67,.map 61 true false (.cons (.int .i64) (.int .i64)) .bool false),(72,.cells 31 [.int .i64,.str,.str,.lst (.int .i64),.bool] true)],73,74,2014⟩
noncomputable def L21_12_T:Tm:= ⟨[(3,.one (.fix (TV.ptr 64 0))),(7,.one (.fix (TV.ptr 65 0))),(8,.one (.all 73 61 (.cons (.int .i64) (.int .i64)) .no)),(11,.one (.fix (TV.ptr 72 0))),(59,.one (.lst (.int .i64))),(60,.one (.int .i64)),(61,.one (.int .i64))],[(64,.cells 25 [.lst sN,.lst (.int .i64)] true),(65,.cells 58 [.fix (TV.mp 67)] true),(67,.map 61 true false (.cons (.int .i64) (.int .i64)) .bool false),(72,.cells 31 [.int .i64,.str,.str,.lst (.int .i64),.bool] true)],73,74,2014⟩
noncomputable def L21_12:Nat→(List (Int×Int))→(List Int)→Int→Int→qN→(List Int)→(List ((Int×Int)×Bool))→Int→(List UInt8)→(List UInt8)→(List Int)→Bool→Option ((Unit×(Unit×((List (Int×Int))×Unit)))×((qN×((List Int)×Unit))×((Unit×Unit)×((List ((Int×Int)×Bool))×((Int×((List UInt8)×((List UInt8)×((List Int)×(Bool×Unit)))))×Unit)))))
 |0,_,_,_,_,_,_,_,_,_,_,_,_=>none
 |n+1,t8,t59,t60,t61,c64_0,c64_1,m67,c72_0,c72_1,c72_2,c72_3,c72_4=>
 bif (ilt t61 t60) then
  bif (ile (0:Int) t61) then
  Option.bind (t59[(Int.toNat t61)]?) fun x8=>
  bif (ile (0:Int) t61) then
  Option.bind (c72_3[(Int.toNat t61)]?) fun x9=>
  bif (mgetD (Sh.cons kI kI) m67 (x8,x9) false) then
  L21_12 n t8 t59 t60 (IntKind.wrap .i64 (t61+(1:Int))) c64_0 c64_1 m67 c72_0 c72_1 c72_2 c72_3 c72_4
  else
  bif (room (((List.length t8)+(List.length ((x8,x9):: [])))*17)) then
  L21_12 n (t8++((x8,x9):: [])) t59 t60 (IntKind.wrap .i64 (t61+(1:Int))) c64_0 c64_1 (mput (Sh.cons kI kI) m67 (x8,x9) true) c72_0 c72_1 c72_2 c72_3 c72_4
  else none
  else none
  else none
 else
 some (((),((),(t8,()))),((c64_0,(c64_1,())),(((),()),(m67,((c72_0,(c72_1,(c72_2,(c72_3,(c72_4,()))))),())))))
noncomputable def L21_12_it:LoopIt:= ⟨21,12,none,L21_12_T,[(.exit 2,L21_12_Xexit2)],1,fun n x=>L21_12 n x.1.2.2.1 x.1.2.2.2.2.1 x.1.2.2.2.2.2.1 x.1.2.2.2.2.2.2.1 x.2.1.1 x.2.1.2.1 x.2.2.2.1 x.2.2.2.2.1.1 x.2.2.2.2.1.2.1 x.2.2.2.2.1.2.2.1 x.2.2.2.2.1.2.2.2.1 x.2.2.2.2.1.2.2.2.2.1,[70,71]⟩
theorem L21_12_Xexit2_ok:L21_12_Xexit2.ok Tryz.prog hint:=Tm.okS rfl
theorem L21_12_T_ok:L21_12_T.ok Tryz.prog hint:=Tm.okS rfl
theorem L21_12_ok:∀ n,LoopOK Tryz.prog hint shT L21_12_it n:=
 LoopOK.of (hk:=fun β=>(Known.mk [] []).hk β) (sh:=shT) (OneLoop.of (by kernel_rfl)) L21_12_T_ok ⟨⟨L21_12_Xexit2_ok,Nat.le_refl _,Nat.le_refl _⟩,trivial⟩ (fun m=>KnownOK.hook KnownOK.nil m)
  (fun _=>by kernel_rfl) (fun m x=>by kernel_rfl)
noncomputable def L21_4_Xexit0:Tm:= ⟨[],[(64,.cells 25 [.lst sN,.lst (.int .i64)] true),(65,.cells 58 [.fix (TV.mp 67)] true),(67,.map 61 true false (.cons (.int .i64) (.int .i64)) .bool false)],69,69,1007⟩
noncomputable def L21_4_Xret:Tm:= ⟨[(6,.one (.bool))],[(64,.cells 25 [.lst sN,.lst (.int .i64)] true),(65,.cells 58 [.fix (TV.mp 67)] true),(67,.map 61 true false (.cons (.int .i64) (.int .i64)) .bool false)],69,69,1007⟩
noncomputable def L21_4_T:Tm:= ⟨[(3,.one (.fix (TV.ptr 64 0))),(7,.one (.fix (TV.ptr 65 0))),(8,.one (.all 69 61 (.cons (.int .i64) (.int .i64)) .no))],[(64,.cells 25 [.lst sN,.lst (.int .i64)] true),(65,.cells 58 [.fix (TV.mp 67)] true),(67,.map 61 true false (.cons (.int .i64) (.int .i64)) .bool false)],69,70,1007⟩
noncomputable def L21_4:Nat→(List (Int×Int))→qN→(List Int)→(List ((Int×Int)×Bool))→Option ((Unit×((qN×((List Int)×Unit))×((Unit×Unit)×((List ((Int×Int)×Bool))×Unit))))⊕((Bool×Unit)×((qN×((List Int)×Unit))×((Unit×Unit)×((List ((Int×Int)×Bool))×Unit)))))
 |0,_,_,_,_=>none
 |n+1,t8,c64_0,c64_1,m67=>
 bif (ilt (0:Int) (len t8)) then
  bif ((ile (0:Int) (IntKind.wrap .i64 ((len t8) - (1:Int)))) &&(ilt (IntKind.wrap .i64 ((len t8) - (1:Int))) (len t8))) then
  Option.bind (t8[(Int.toNat (IntKind.wrap .i64 ((len t8) - (1:Int))))]?) fun x16=>
  bif ((ile (0:Int) (IntKind.wrap .i64 ((len t8) - (1:Int)))) &&(ile (IntKind.wrap .i64 ((len t8) - (1:Int))) (len t8))) then
  bif (ile (0:Int) x16.1) then
  Option.bind (c64_0[(Int.toNat x16.1)]?) fun x17=>
  bif (ile (0:Int) x16.2) then
  Option.bind (c64_0[(Int.toNat x16.2)]?) fun x18=>
  bif (x16.1==x16.2) then
  L21_4 n (List.take ((Int.toNat (IntKind.wrap .i64 ((len t8) - (1:Int)))) - 0) (List.drop 0 t8)) c64_0 c64_1 m67
  else
  Option.bind (alike (n+1) (x17.1,(x17.2.1,(x17.2.2.1,(x17.2.2.2.1,x17.2.2.2.2)))) (x18.1,(x18.2.1,(x18.2.2.1,(x18.2.2.2.1,x18.2.2.2.2))))) fun y19=>
  bif (!y19.1) then
  some (.inr ((false,()),((c64_0,(c64_1,())),(((),()),(m67,())))))
  else
  Option.bind (L21_12 (n+3) (List.take ((Int.toNat (IntKind.wrap .i64 ((len t8) - (1:Int)))) - 0) (List.drop 0 t8)) x17.2.2.2.1 (len x17.2.2.2.1) (0:Int) c64_0 c64_1 m67 x18.1 x18.2.1 x18.2.2.1 x18.2.2.2.1 x18.2.2.2.2) fun y20=>
  L21_4 n y20.1.2.2.1 y20.2.1.1 y20.2.1.2.1 y20.2.2.2.1
  else none
  else none
  else none
  else none
 else
 some (.inl ((),((c64_0,(c64_1,())),(((),()),(m67,())))))
noncomputable def L21_4_it:LoopIt:= ⟨21,4,none,L21_4_T,[(.exit 0,L21_4_Xexit0),(.ret,L21_4_Xret)],3,fun n x=>L21_4 n x.1.2.2.1 x.2.1.1 x.2.1.2.1 x.2.2.2.1,[66]⟩
theorem L21_4_Xexit0_ok:L21_4_Xexit0.ok Tryz.prog hint:=Tm.okS rfl
theorem L21_4_Xret_ok:L21_4_Xret.ok Tryz.prog hint:=Tm.okS rfl
theorem L21_4_T_ok:L21_4_T.ok Tryz.prog hint:=Tm.okS rfl
theorem L21_4_ok:∀ n,LoopOK Tryz.prog hint shT L21_4_it n:=
 LoopOK.of (hk:=fun β=>(Known.mk [alike_it] [L21_12_it]).hk β) (sh:=shT) (OneLoop.of (by kernel_rfl)) L21_4_T_ok ⟨⟨L21_4_Xexit0_ok,Nat.le_refl _,Nat.le_refl _⟩,⟨L21_4_Xret_ok,Nat.le_refl _,Nat.le_refl _⟩,trivial⟩ (fun m=>KnownOK.hook ((KnownOK.nil.fn alike_ok).loop L21_12_ok L21_12_T_ok) m)
  (fun _=>by kernel_rfl) (fun m x=>by kernel_rfl)
noncomputable def equalG (n:Nat) (g:(List (Int×(List UInt8×(List UInt8×(List Int×Bool))))×List Int)) (a:Int) (b:Int):Option (Bool×Unit):=
 Option.bind (L21_4 n ((a,b):: []) g.1 g.2 (mput (Sh.cons kI kI) [] (a,b) true)) fun y21=>
 match y21 with
 | .inl _=>
  some (true,())
 | .inr y23=>
  some (y23.1.1,())
noncomputable def equalG_it:FnIt:= ⟨21,[(true,(.cons (.slc sN) (.slc (.int .i64)))),(false,(.int .i64)),(false,(.int .i64))],[(false,.bool)],3,fun n x=>equalG n x.1 x.2.1 x.2.2.1⟩
theorem equalG_ok (n:Nat):FnOK Tryz.prog hint shT equalG_it n:=
 FnOK.of (hk:=fun β=>(Known.mk [] [L21_4_it]).hk β) (sh:=shT) (fun m _=>KnownOK.hook (KnownOK.nil.loop L21_4_ok L21_4_T_ok) m) (fun x=>by kernel_rfl)
noncomputable def own (n:Nat) (x:(Int×(List UInt8×(List UInt8×(List Int×Bool))))):Option ((List UInt8)×Unit):=
 bif (in64 x.1) then
 bif (room ((List.length (Go.Lib.itoa x.1))+(List.length ([(32:UInt8)]:List UInt8)))) then
 bif (in64 (len x.2.2.2.1)) then
 bif (room ((List.length ((Go.Lib.itoa x.1)++([(32:UInt8)]:List UInt8)))+(List.length (Go.Lib.itoa (len x.2.2.2.1))))) then
 bif (room ((List.length (((Go.Lib.itoa x.1)++([(32:UInt8)]:List UInt8))++(Go.Lib.itoa (len x.2.2.2.1))))+(List.length ([(32:UInt8)]:List UInt8)))) then
 bif (room ((List.length ((((Go.Lib.itoa x.1)++([(32:UInt8)]:List UInt8))++(Go.Lib.itoa (len x.2.2.2.1)))++([(32:UInt8)]:List UInt8)))+(List.length x.2.1))) then
 bif (room ((List.length (((((Go.Lib.itoa x.1)++([(32:UInt8)]:List UInt8))++(Go.Lib.itoa (len x.2.2.2.1)))++([(32:UInt8)]:List UInt8))++x.2.1))+(List.length ([(10:UInt8)]:List UInt8)))) then
 bif (x.1 !=(1:Int)) then
 some (((((((Go.Lib.itoa x.1)++([(32:UInt8)]:List UInt8))++(Go.Lib.itoa (len x.2.2.2.1)))++([(32:UInt8)]:List UInt8))++x.2.1)++([(10:UInt8)]:List UInt8)),())
 else
 Option.bind (valueS n x.2.1 x.2.2.1) fun y0=>
 bif (y0.2.1 !=(0:Int)) then
 bif (room ((List.length ((((((Go.Lib.itoa x.1)++([(32:UInt8)]:List UInt8))++(Go.Lib.itoa (len x.2.2.2.1)))++([(32:UInt8)]:List UInt8))++x.2.1)++([(10:UInt8)]:List UInt8)))+(List.length ([(33:UInt8)]:List UInt8)))) then
 bif (room ((List.length (((((((Go.Lib.itoa x.1)++([(32:UInt8)]:List UInt8))++(Go.Lib.itoa (len x.2.2.2.1)))++([(32:UInt8)]:List UInt8))++x.2.1)++([(10:UInt8)]:List UInt8))++([(33:UInt8)]:List UInt8)))+(List.length x.2.2.1))) then
 some (((((((((Go.Lib.itoa x.1)++([(32:UInt8)]:List UInt8))++(Go.Lib.itoa (len x.2.2.2.1)))++([(32:UInt8)]:List UInt8))++x.2.1)++([(10:UInt8)]:List UInt8))++([(33:UInt8)]:List UInt8))++x.2.2.1),())
 else none
 else none
 else
 Option.bind (bif (y0.1.1==(3:Int)) then
  some true
 else
 some (y0.1.1==(4:Int))) fun b2=>
 bif b2 then
 none
 else
 bif (y0.1.1==(2:Int)) then
 none
 else
 bif (room ((List.length ((((((Go.Lib.itoa x.1)++([(32:UInt8)]:List UInt8))++(Go.Lib.itoa (len x.2.2.2.1)))++([(32:UInt8)]:List UInt8))++x.2.1)++([(10:UInt8)]:List UInt8)))+(List.length y0.1.2.2.2))) then
 some ((((((((Go.Lib.itoa x.1)++([(32:UInt8)]:List UInt8))++(Go.Lib.itoa (len x.2.2.2.1)))++([(32:UInt8)]:List UInt8))++x.2.1)++([(10:UInt8)]:List UInt8))++y0.1.2.2.2),())
 else none
 else none
 else none
 else none
 else none
 else none
 else none
 else none
noncomputable def own_it:FnIt:= ⟨31,[(true,sN)],[(false,.str)],2,fun n x=>own n x.1⟩
theorem own_ok (n:Nat):FnOK Tryz.prog hint shT own_it n:=
 FnOK.of (hk:=fun β=>(Known.mk [valueS_it] []).hk β) (sh:=shT) (fun m _=>KnownOK.hook (KnownOK.nil.fn valueS_ok) m) (fun x=>by kernel_rfl)
end Go.Proofs.YtnddpppljnjmcaaGreatDoor
/- Plain functions for the program's. -/
namespace Go.Proofs.YtnddpppljnjmcaaGreatDoor
open Go Go.Iv Go.Gv
set_option maxRecDepth 100000
set_option linter.unusedVariables false
noncomputable def L22_4_Xexit0:Tm:= ⟨[(1,.one (.fix (TV.ptr 64 0))),(3,.one (.all 67 3 (.int .i64) .no)),(4,.one (.all 68 9 .str .no))],[(64,.cells 25 [.lst sN,.lst (.int .i64)] true)],67,69,1003⟩
noncomputable def L22_4_T:Tm:= ⟨[(1,.one (.fix (TV.ptr 64 0))),(3,.one (.all 67 3 (.int .i64) .no)),(4,.one (.all 68 9 .str .no)),(26,.one (.lst sN)),(27,.one (.int .i64)),(28,.one (.int .i64))],[(64,.cells 25 [.lst sN,.lst (.int .i64)] true)],67,69,1003⟩
noncomputable def L22_4:Nat→(List Int)→(List (List UInt8))→qN→Int→Int→qN→(List Int)→Option ((Unit×((List Int)×((List (List UInt8))×Unit)))×((qN×((List Int)×Unit))×Unit))
 |0,_,_,_,_,_,_,_=>none
 |n+1,t3,t4,t26,t27,t28,c64_0,c64_1=>
 bif (ilt t28 t27) then
  bif (ile (0:Int) t28) then
  Option.bind (t26[(Int.toNat t28)]?) fun x6=>
  Option.bind (own (n+1) (x6.1,(x6.2.1,(x6.2.2.1,(x6.2.2.2.1,x6.2.2.2.2))))) fun y7=>
  bif ((ile (0:Int) t28) &&(ilt t28 (len t4))) then
  Option.bind (t4[(Int.toNat t28)]?) fun _=>
  L22_4 n t3 (List.set t4 (Int.toNat t28) y7.1) t26 t27 (IntKind.wrap .i64 (t28+(1:Int))) c64_0 c64_1
  else none
  else none
 else
 some (((),(t3,(t4,()))),((c64_0,(c64_1,())),()))
noncomputable def L22_4_it:LoopIt:= ⟨22,4,none,L22_4_T,[(.exit 0,L22_4_Xexit0)],3,fun n x=>L22_4 n x.1.2.1 x.1.2.2.1 x.1.2.2.2.1 x.1.2.2.2.2.1 x.1.2.2.2.2.2.1 x.2.1.1 x.2.1.2.1,[]⟩
theorem L22_4_Xexit0_ok:L22_4_Xexit0.ok Tryz.prog hint:=Tm.okS rfl
theorem L22_4_T_ok:L22_4_T.ok Tryz.prog hint:=Tm.okS rfl
theorem L22_4_ok:∀ n,LoopOK Tryz.prog hint shT L22_4_it n:=
 LoopOK.of (hk:=fun β=>(Known.mk [own_it] []).hk β) (sh:=shT) (OneLoop.of (by kernel_rfl)) L22_4_T_ok ⟨⟨L22_4_Xexit0_ok,Nat.le_refl _,Nat.le_refl _⟩,trivial⟩ (fun m=>KnownOK.hook (KnownOK.nil.fn own_ok) m)
  (fun _=>by kernel_rfl) (fun m x=>by kernel_rfl)
noncomputable def L22_12_Xexit4:Tm:= ⟨[(1,.one (.fix (TV.ptr 64 0))),(3,.one (.all 72 3 (.int .i64) .no)),(4,.one (.fix (TV.all 70))),(39,.one (.int .i64))],[(64,.cells 25 [.lst sN,.lst (.int .i64)] true),(70,.arr 9 .str true false .no),(71,.map 9 false false .str (.int .i64) false)],72,73,3006⟩
noncomputable def L22_12_T:Tm:= ⟨[(1,.one (.fix (TV.ptr 64 0))),(3,.one (.all 72 3 (.int .i64) .no)),(4,.one (.fix (TV.all 70))),(7,.one (.fix (TV.mp 71))),(39,.one (.int .i64)),(42,.one (.fix (TV.all 70))),(43,.one (.int .i64)),(44,.one (.int .i64))],[(64,.cells 25 [.lst sN,.lst (.int .i64)] true),(70,.arr 9 .str true false .no),(71,.map 9 false false .str (.int .i64) false)],72,73,3006⟩
noncomputable def L22_12:Nat→(List Int)→Int→Int→Int→qN→(List Int)→(List (List UInt8))→(List (List UInt8×Int))→Option ((Unit×((List Int)×(Unit×(Int×Unit))))×((qN×((List Int)×Unit))×((List (List UInt8))×((List (List UInt8×Int))×Unit))))
 |0,_,_,_,_,_,_,_,_=>none
 |n+1,t3,t39,t43,t44,c64_0,c64_1,a70,m71=>
 bif (ilt t44 t43) then
  bif ((ile (0:Int) t44) &&(ilt t44 (len a70))) then
  Option.bind (a70[(Int.toNat t44)]?) fun x16=>
  bif (!(mhas Sh.str m71 x16)) then
  bif ((ile (0:Int) t44) &&(ilt t44 (len t3))) then
  Option.bind (t3[(Int.toNat t44)]?) fun _=>
  L22_12 n (List.set t3 (Int.toNat t44) (mgetD Sh.str (mput Sh.str m71 x16 (len m71)) x16 (0:Int))) t39 t43 (IntKind.wrap .i64 (t44+(1:Int))) c64_0 c64_1 a70 (mput Sh.str m71 x16 (len m71))
  else none
  else
  bif ((ile (0:Int) t44) &&(ilt t44 (len t3))) then
  Option.bind (t3[(Int.toNat t44)]?) fun _=>
  L22_12 n (List.set t3 (Int.toNat t44) (mgetD Sh.str m71 x16 (0:Int))) t39 t43 (IntKind.wrap .i64 (t44+(1:Int))) c64_0 c64_1 a70 m71
  else none
  else none
 else
 some (((),(t3,((),(t39,())))),((c64_0,(c64_1,())),(a70,(m71,()))))
noncomputable def L22_12_it:LoopIt:= ⟨22,12,none,L22_12_T,[(.exit 4,L22_12_Xexit4)],0,fun n x=>L22_12 n x.1.2.1 x.1.2.2.2.2.1 x.1.2.2.2.2.2.2.1 x.1.2.2.2.2.2.2.2.1 x.2.1.1 x.2.1.2.1 x.2.2.1 x.2.2.2.1,[]⟩
theorem L22_12_Xexit4_ok:L22_12_Xexit4.ok Tryz.prog hint:=Tm.okS rfl
theorem L22_12_T_ok:L22_12_T.ok Tryz.prog hint:=Tm.okS rfl
theorem L22_12_ok:∀ n,LoopOK Tryz.prog hint shT L22_12_it n:=
 LoopOK.of (hk:=fun β=>(Known.mk [] []).hk β) (sh:=shT) (OneLoop.of (by kernel_rfl)) L22_12_T_ok ⟨⟨L22_12_Xexit4_ok,Nat.le_refl _,Nat.le_refl _⟩,trivial⟩ (fun m=>KnownOK.hook KnownOK.nil m)
  (fun _=>by kernel_rfl) (fun m x=>by kernel_rfl)
noncomputable def L22_25_Xexit8:Tm:= ⟨[(1,.one (.fix (TV.ptr 64 0))),(3,.one (.all 78 3 (.int .i64) .no)),(4,.one (.all 79 9 .str .no)),(12,.one (.int .i64)),(14,.one (.fix (TV.ptr 76 0))),(39,.one (.int .i64)),(69,.one (.lst sN)),(70,.one (.int .i64)),(71,.one (.int .i64))],[(64,.cells 25 [.lst sN,.lst (.int .i64)] true),(76,.cells 68 [.fix (TV.ptr 76 0),.all 80 5 .byte .ex] true)],78,81,5014⟩
noncomputable def L22_25_T:Tm:= ⟨[(1,.one (.fix (TV.ptr 64 0))),(3,.one (.all 78 3 (.int .i64) .no)),(4,.one (.all 79 9 .str .no)),(12,.one (.int .i64)),(14,.one (.fix (TV.ptr 76 0))),(39,.one (.int .i64)),(69,.one (.lst sN)),(70,.one (.int .i64)),(71,.one (.int .i64)),(83,.one (.lst (.int .i64))),(84,.one (.int .i64)),(85,.one (.int .i64))],[(64,.cells 25 [.lst sN,.lst (.int .i64)] true),(76,.cells 68 [.fix (TV.ptr 76 0),.all 80 5 .byte .ex] true)],78,81,5014⟩
noncomputable def L22_25:Nat→(List Int)→(List (List UInt8))→Int→Int→qN→Int→Int→(List Int)→Int→Int→qN→(List Int)→(List UInt8)→Option ((Unit×((List Int)×((List (List UInt8))×(Int×(Unit×(Int×(qN×(Int×(Int×Unit)))))))))×((qN×((List Int)×Unit))×((Unit×((List UInt8)×Unit))×Unit)))
 |0,_,_,_,_,_,_,_,_,_,_,_,_,_=>none
 |n+1,t3,t4,t12,t39,t69,t70,t71,t83,t84,t85,c64_0,c64_1,c76_1=>
 bif (ilt t85 t84) then
  bif (ile (0:Int) t85) then
  Option.bind (t83[(Int.toNat t85)]?) fun x26=>
  bif (room (((List.length c76_1)+(List.length ((32:UInt8)::([]:List UInt8))))*2)) then
  bif ((ile (0:Int) x26) &&(ilt x26 (len t3))) then
  Option.bind (t3[(Int.toNat x26)]?) fun x27=>
  bif (in64 x27) then
  bif (room (((List.length (c76_1++((32:UInt8)::([]:List UInt8))))+(List.length (Go.Lib.itoa x27)))*2)) then
  L22_25 n t3 t4 t12 t39 t69 t70 t71 t83 t84 (IntKind.wrap .i64 (t85+(1:Int))) c64_0 c64_1 ((c76_1++((32:UInt8)::([]:List UInt8)))++(Go.Lib.itoa x27))
  else none
  else none
  else none
  else none
  else none
 else
 some (((),(t3,(t4,(t12,((),(t39,(t69,(t70,(t71,()))))))))),((c64_0,(c64_1,())),(((),(c76_1,())),())))
noncomputable def L22_25_it:LoopIt:= ⟨22,25,none,L22_25_T,[(.exit 8,L22_25_Xexit8)],2,fun n x=>L22_25 n x.1.2.1 x.1.2.2.1 x.1.2.2.2.1 x.1.2.2.2.2.2.1 x.1.2.2.2.2.2.2.1 x.1.2.2.2.2.2.2.2.1 x.1.2.2.2.2.2.2.2.2.1 x.1.2.2.2.2.2.2.2.2.2.1 x.1.2.2.2.2.2.2.2.2.2.2.1 x.1.2.2.2.2.2.2.2.2.2.2.2.1 x.2.1.1 x.2.1.2.1 x.2.2.1.2.1,[75]⟩
theorem L22_25_Xexit8_ok:L22_25_Xexit8.ok Tryz.prog hint:=Tm.okS rfl
theorem L22_25_T_ok:L22_25_T.ok Tryz.prog hint:=Tm.okS rfl
theorem L22_25_ok:∀ n,LoopOK Tryz.prog hint shT L22_25_it n:=
 LoopOK.of (hk:=fun β=>(Known.mk [] []).hk β) (sh:=shT) (OneLoop.of (by kernel_rfl)) L22_25_T_ok ⟨⟨L22_25_Xexit8_ok,Nat.le_refl _,Nat.le_refl _⟩,trivial⟩ (fun m=>KnownOK.hook KnownOK.nil m)
  (fun _=>by kernel_rfl) (fun m x=>by kernel_rfl)
noncomputable def L22_20_Xexit6:Tm:= ⟨[(1,.one (.fix (TV.ptr 64 0))),(3,.one (.all 73 3 (.int .i64) .no)),(4,.one (.all 74 9 .str .no)),(39,.one (.int .i64))],[(64,.cells 25 [.lst sN,.lst (.int .i64)] true)],73,75,4007⟩
noncomputable def L22_20_T:Tm:= ⟨[(1,.one (.fix (TV.ptr 64 0))),(3,.one (.all 73 3 (.int .i64) .no)),(4,.one (.all 74 9 .str .no)),(39,.one (.int .i64)),(69,.one (.lst sN)),(70,.one (.int .i64)),(71,.one (.int .i64))],[(64,.cells 25 [.lst sN,.lst (.int .i64)] true)],73,75,4007⟩
noncomputable def L22_20:Nat→(List Int)→(List (List UInt8))→Int→qN→Int→Int→qN→(List Int)→Option ((Unit×((List Int)×((List (List UInt8))×(Int×Unit))))×((qN×((List Int)×Unit))×Unit))
 |0,_,_,_,_,_,_,_,_=>none
 |n+1,t3,t4,t39,t69,t70,t71,c64_0,c64_1=>
 bif (ilt t71 t70) then
  bif (ile (0:Int) t71) then
  Option.bind (t69[(Int.toNat t71)]?) fun x36=>
  bif ((ile (0:Int) t71) &&(ilt t71 (len t3))) then
  Option.bind (t3[(Int.toNat t71)]?) fun x37=>
  bif (in64 x37) then
  bif (room ((List.length (Go.Lib.itoa x37))*2)) then
  Option.bind (L22_25 (n+1) t3 t4 t71 t39 t69 t70 t71 x36.2.2.2.1 (len x36.2.2.2.1) (0:Int) c64_0 c64_1 (Go.Lib.itoa x37)) fun y38=>
  bif (List.isEmpty y38.2.2.1.2.1) then
  bif ((len y38.2.2.1.2.1)==(0:Int)) then
  bif ((ile (0:Int) y38.1.2.2.2.1) &&(ilt y38.1.2.2.2.1 (len y38.1.2.2.1))) then
  Option.bind (y38.1.2.2.1[(Int.toNat y38.1.2.2.2.1)]?) fun _=>
  L22_20 n y38.1.2.1 (List.set y38.1.2.2.1 (Int.toNat y38.1.2.2.2.1) ([]:List UInt8)) y38.1.2.2.2.2.2.1 y38.1.2.2.2.2.2.2.1 y38.1.2.2.2.2.2.2.2.1 (IntKind.wrap .i64 (y38.1.2.2.2.2.2.2.2.2.1+(1:Int))) y38.2.1.1 y38.2.1.2.1
  else none
  else none
  else
  bif ((ile (len y38.2.2.1.2.1) (len y38.2.2.1.2.1)) &&(ile (len y38.2.2.1.2.1) (1099511627776:Int))) then
  bif ((ile (0:Int) y38.1.2.2.2.1) &&(ilt y38.1.2.2.2.1 (len y38.1.2.2.1))) then
  Option.bind (y38.1.2.2.1[(Int.toNat y38.1.2.2.2.1)]?) fun _=>
  L22_20 n y38.1.2.1 (List.set y38.1.2.2.1 (Int.toNat y38.1.2.2.2.1) (List.take (Int.toNat (len y38.2.2.1.2.1)) y38.2.2.1.2.1)) y38.1.2.2.2.2.2.1 y38.1.2.2.2.2.2.2.1 y38.1.2.2.2.2.2.2.2.1 (IntKind.wrap .i64 (y38.1.2.2.2.2.2.2.2.2.1+(1:Int))) y38.2.1.1 y38.2.1.2.1
  else none
  else none
  else none
  else none
  else none
  else none
 else
 some (((),(t3,(t4,(t39,())))),((c64_0,(c64_1,())),()))
noncomputable def L22_20_it:LoopIt:= ⟨22,20,none,L22_20_T,[(.exit 6,L22_20_Xexit6)],2,fun n x=>L22_20 n x.1.2.1 x.1.2.2.1 x.1.2.2.2.1 x.1.2.2.2.2.1 x.1.2.2.2.2.2.1 x.1.2.2.2.2.2.2.1 x.2.1.1 x.2.1.2.1,[71]⟩
theorem L22_20_Xexit6_ok:L22_20_Xexit6.ok Tryz.prog hint:=Tm.okS rfl
theorem L22_20_T_ok:L22_20_T.ok Tryz.prog hint:=Tm.okS rfl
theorem L22_20_ok:∀ n,LoopOK Tryz.prog hint shT L22_20_it n:=
 LoopOK.of (hk:=fun β=>(Known.mk [] [L22_25_it]).hk β) (sh:=shT) (OneLoop.of (by kernel_rfl)) L22_20_T_ok ⟨⟨L22_20_Xexit6_ok,Nat.le_refl _,Nat.le_refl _⟩,trivial⟩ (fun m=>KnownOK.hook (KnownOK.nil.loop L22_25_ok L22_25_T_ok) m)
  (fun _=>by kernel_rfl) (fun m x=>by kernel_rfl)
noncomputable def L22_9_Xexit2:Tm:= ⟨[(3,.one (.all 69 3 (.int .i64) .no))],[(64,.cells 25 [.lst sN,.lst (.int .i64)] true)],69,70,2004⟩
noncomputable def L22_9_T:Tm:= ⟨[(1,.one (.fix (TV.ptr 64 0))),(3,.one (.all 69 3 (.int .i64) .no)),(4,.one (.all 70 9 .str .no)),(39,.one (.int .i64))],[(64,.cells 25 [.lst sN,.lst (.int .i64)] true)],69,71,2004⟩
noncomputable def L22_9:Nat→(List Int)→(List (List UInt8))→Int→qN→(List Int)→Option (((List Int)×Unit)×((qN×((List Int)×Unit))×Unit))
 |0,_,_,_,_,_=>none
 |n+1,t3,t4,t39,c64_0,c64_1=>
 bif (ilt t39 (4:Int)) then
  Option.bind (L22_12 (n+3) t3 t39 (len t4) (0:Int) c64_0 c64_1 t4 []) fun y44=>
  Option.bind (L22_20 (n+1) y44.1.2.1 y44.2.2.1 y44.1.2.2.2.1 y44.2.1.1 (len y44.2.1.1) (0:Int) y44.2.1.1 y44.2.1.2.1) fun y45=>
  L22_9 n y45.1.2.1 y45.1.2.2.1 (IntKind.wrap .i64 (y45.1.2.2.2.1+(1:Int))) y45.2.1.1 y45.2.1.2.1
 else
 some ((t3,()),((c64_0,(c64_1,())),()))
noncomputable def L22_9_it:LoopIt:= ⟨22,9,none,L22_9_T,[(.exit 2,L22_9_Xexit2)],2,fun n x=>L22_9 n x.1.2.1 x.1.2.2.1 x.1.2.2.2.1 x.2.1.1 x.2.1.2.1,[]⟩
theorem L22_9_Xexit2_ok:L22_9_Xexit2.ok Tryz.prog hint:=Tm.okS rfl
theorem L22_9_T_ok:L22_9_T.ok Tryz.prog hint:=Tm.okS rfl
theorem L22_9_ok:∀ n,LoopOK Tryz.prog hint shT L22_9_it n:=
 LoopOK.of (hk:=fun β=>(Known.mk [] [L22_20_it,L22_12_it]).hk β) (sh:=shT) (OneLoop.of (by kernel_rfl)) L22_9_T_ok ⟨⟨L22_9_Xexit2_ok,Nat.le_refl _,Nat.le_refl _⟩,trivial⟩ (fun m=>KnownOK.hook ((KnownOK.nil.loop L22_12_ok L22_12_T_ok).loop L22_20_ok L22_20_T_ok) m)
  (fun _=>by kernel_rfl) (fun m x=>by kernel_rfl)
noncomputable def colors (n:Nat) (g:(List (Int×(List UInt8×(List UInt8×(List Int×Bool))))×List Int)):Option ((List Int)×Unit):=
 bif ((ile (len g.1) (len g.1)) &&(ile ((len g.1)*(9:Int)) (1099511627776:Int))) then
 bif ((ile (len g.1) (len g.1)) &&(ile ((len g.1)*(17:Int)) (1099511627776:Int))) then
 Option.bind (L22_4 n (List.replicate (Int.toNat (len g.1)) (0:Int)) (List.replicate (Int.toNat (len g.1)) ([]:List UInt8)) g.1 (len g.1) (0:Int) g.1 g.2) fun y9=>
 Option.bind (L22_9 (n+1) y9.1.2.1 y9.1.2.2.1 (0:Int) y9.2.1.1 y9.2.1.2.1) fun y46=>
 some (y46.1.1,())
 else none
 else none
noncomputable def colors_it:FnIt:= ⟨22,[(true,(.cons (.slc sN) (.slc (.int .i64))))],[(false,(.slc (.int .i64)))],3,fun n x=>colors n x.1⟩
theorem colors_ok (n:Nat):FnOK Tryz.prog hint shT colors_it n:=
 FnOK.of (hk:=fun β=>(Known.mk [] [L22_9_it,L22_4_it]).hk β) (sh:=shT) (fun m _=>KnownOK.hook ((KnownOK.nil.loop L22_4_ok L22_4_T_ok).loop L22_9_ok L22_9_T_ok) m) (fun x=>by kernel_rfl)
end Go.Proofs.YtnddpppljnjmcaaGreatDoor
/- The colors of a graph's nodes: like leaves have one color. -/
namespace Go.Proofs.YtnddpppljnjmcaaGreatDoor
open Go Go.Iv Go.Gv
set_option maxRecDepth 100000
abbrev NodT:=Int×(List UInt8×(List UInt8×(List Int×Bool)))
abbrev TX:=List UInt8
theorem cmget_cons {β:Type} (a:TX) (b:β) (r:List (TX×β)) (z:TX):mget .str ((a,b)::r) z=if z=a then some b else mget .str r z:=by
 show (bif (z==a) then some b else mget .str r z)=_
 by_cases h:z=a
 ·rw [if_pos h,beq_iff_eq.2 h];rfl
 ·rw [if_neg h,beq_eq_false_iff_ne.2 h];rfl
theorem cmput_cons {β:Type} (a:TX) (b:β) (r:List (TX×β)) (x:TX) (y:β):mput .str ((a,b)::r) x y=if x=a then (x,y)::r else (a,b)::mput .str r x y:=by
 show (bif (x==a) then (x,y)::r else (a,b)::mput .str r x y)=_
 by_cases h:x=a
 ·rw [if_pos h,beq_iff_eq.2 h];rfl
 ·rw [if_neg h,beq_eq_false_iff_ne.2 h];rfl
theorem cmget_mput {β:Type} (x:TX) (y:β) (z:TX):∀ l:List (TX×β),mget .str (mput .str l x y) z=if z=x then some y else mget .str l z:=by
 intro l
 induction l with
 |nil=>exact cmget_cons x y [] z
 |cons p r ih=>
  obtain ⟨a,b⟩:=p
  rw [cmput_cons]
  by_cases h:x=a
  ·subst h
   rw [if_pos rfl,cmget_cons,cmget_cons]
   by_cases h2:z=x
   ·rw [if_pos h2,if_pos h2]
   ·rw [if_neg h2,if_neg h2,if_neg h2]
  ·rw [if_neg h,cmget_cons,cmget_cons,ih]
   by_cases h2:z=a
   ·rw [if_pos h2,if_pos h2,if_neg (fun h3=>h (h3.symm.trans h2))]
   ·rw [if_neg h2,if_neg h2]
theorem cmput_none {β:Type} (x:TX) (y:β):∀ l:List (TX×β),mget .str l x=none→(mput .str l x y).length=l.length+1∧∀ p∈mput .str l x y,p=(x,y)∨p∈l:=by
 intro l
 induction l with
 |nil=>intro _;exact ⟨rfl,fun p hp=>by cases hp with |head=>exact .inl rfl |tail _ h=>cases h⟩
 |cons p r ih=>
  obtain ⟨a,b⟩:=p
  intro h
  rw [cmget_cons] at h
  split at h
  ·cases h
  ·rename_i h2
   obtain ⟨h3,h4⟩:=ih h
   rw [cmput_cons,if_neg h2]
   refine ⟨by simp [h3],fun p hp=>?_⟩
   rcases List.mem_cons.1 hp with rfl |hp
   ·exact .inr (List.mem_cons_self ..)
   ·rcases h4 p hp with h5 |h5
    ·exact .inl h5
    ·exact .inr (List.mem_cons_of_mem _ h5)
theorem cmget_mem {β:Type} {x:TX} {y:β}:∀ {l:List (TX×β)},mget .str l x=some y→(x,y)∈l:=by
 intro l
 induction l with
 |nil=>intro h;cases h
 |cons p r ih=>
  obtain ⟨a,b⟩:=p
  intro h
  rw [cmget_cons] at h
  split at h
  ·rename_i h2;cases h;subst h2;exact List.mem_cons_self ..
  ·exact List.mem_cons_of_mem _ (ih h)
def Sm (t:List Int):Prop:=∀ y∈t,0≤y∧y≤1000
theorem Sm.set {t:List Int} (h:Sm t) {i:Nat} {y:Int} (h1:0≤y) (h2:y≤1000):Sm (t.set i y):=fun z hz=>by
 rcases List.mem_or_eq_of_mem_set hz with hz |rfl
 ·exact h z hz
 ·exact ⟨h1,h2⟩
theorem L12_spec (tx:List TX) (c0:List NodT) (c1:List Int) (t39:Int) (hN:tx.length≤1000):∀ (k n i:Nat) (t3:List Int) (m:List (TX×Int)),i+k=tx.length→k<n→t3.length=tx.length→Sm t3→
  (∀ (j:Nat) x,j<i→tx[j]? =some x→∃ y,mget .str m x=some y∧t3[j]? =some y)→m.length≤i→(∀ p∈m,0≤p.2∧p.2≤1000)→
  ∃ t3' m',L22_12 n t3 t39 (len tx) (i:Int) c0 c1 tx m=some (((),(t3',((),(t39,())))),((c0,(c1,())),(tx,(m',()))))∧t3'.length=tx.length∧Sm t3'∧
   ∀ (j:Nat) x,tx[j]? =some x→∃ y,mget .str m' x=some y∧t3'[j]? =some y:=by
 intro k
 induction k with
 |zero=>
  intro n i t3 m hi hn hl hs hm _ _
  obtain ⟨n,rfl⟩:∃ q,n=q+1:= ⟨n - 1,by omega⟩
  refine ⟨t3,m,?_,hl,hs,fun j x hx=>hm j x ?_ hx⟩
  ·show (bif ilt (i:Int) (len tx) then _ else _)=_
   rw [ilt_f (by unfold len;omega)];rfl
  ·have:=(List.getElem?_eq_some_iff.1 hx).1;omega
 |succ k ih=>
  intro n i t3 m hi hn hl hs hm hml hmv
  obtain ⟨n,rfl⟩:∃ q,n=q+1:= ⟨n - 1,by omega⟩
  have hil:i<tx.length:=by omega
  have hx:tx[i]? =some tx[i]:=List.getElem?_eq_getElem hil
  have ht : t3[i]? = some (t3[i]'(by omega)) := List.getElem?_eq_getElem (by omega)
  have w1:IntKind.wrap .i64 ((i:Int)+1)=((i+1:Nat):Int):=by rw [wrap_id (by omega) (by omega)];omega
  have e0:ile (0:Int) (i:Int)=true:=ile_t (by omega)
  have e4:ilt (i:Int) (len t3)=true:=ilt_t (by unfold len;omega)
  have e3:ilt (i:Int) (len tx)=true:=ilt_t (by unfold len;omega)
  have stepB:∀ (m2:List (TX×Int)) (y:Int),mget .str m2 tx[i]=some y→0≤y→y≤1000→(∀ (j:Nat) x,j<i→tx[j]? =some x→∃ y,mget .str m2 x=some y∧t3[j]? =some y)→m2.length≤i+1→(∀ p∈m2,0≤p.2∧p.2≤1000)→
    ∃ t3' m',L22_12 n (t3.set i y) t39 (len tx) ((i+1:Nat):Int) c0 c1 tx m2=some (((),(t3',((),(t39,())))),((c0,(c1,())),(tx,(m',()))))∧t3'.length=tx.length∧Sm t3'∧
     ∀ (j:Nat) x,tx[j]? =some x→∃ y,mget .str m' x=some y∧t3'[j]? =some y:=by
   intro m2 y q1 q2 q3 q4 q5 q6
   refine ih n (i+1) (t3.set i y) m2 (by omega) (by omega) (by rw [List.length_set];exact hl) (hs.set q2 q3) (fun j x hj hx2=>?_) q5 q6
   rcases Nat.lt_or_ge j i with hji |hji
   ·obtain ⟨z,h1,h2⟩:=q4 j x hji hx2
    exact ⟨z,h1,by rw [List.getElem?_set_ne (by omega)];exact h2⟩
   ·obtain rfl:j=i:=by omega
    rw [hx] at hx2;cases hx2
    exact ⟨y,q1,by rw [List.getElem?_set_self (by omega)]⟩
  cases hg:mget .str m tx[i] with
  |none=>
   obtain ⟨r1,r2⟩:=cmput_none tx[i] (len m) m hg
   have hg2:mget .str (mput .str m tx[i] (len m)) tx[i]=some (len m):=by rw [cmget_mput,if_pos rfl]
   have hb:len m≤1000:=by unfold len;omega
   obtain ⟨t3',m',h1,h2⟩:=stepB (mput .str m tx[i] (len m)) (len m) hg2 (by unfold len;omega) hb (fun j x hj hx2=>by
    obtain ⟨z,h1,h2⟩:=hm j x hj hx2
    refine ⟨z,?_,h2⟩
    rw [cmget_mput]
    by_cases hq:x=tx[i]
    ·rw [hq,hg] at h1;cases h1
    ·rw [if_neg hq];exact h1) (by omega) (fun p hp=>by
    rcases r2 p hp with rfl |hp
    ·exact ⟨by simp only [len];omega,hb⟩
    ·exact hmv p hp)
   refine ⟨t3',m',?_,h2⟩
   rw [←h1]
   conv=>lhs;unfold L22_12
   have a1:mhas .str m tx[i]=false:=by unfold mhas;rw [hg];rfl
   have a2:mgetD .str (mput .str m tx[i] (len m)) tx[i] (0:Int)=len m:=by unfold mgetD;rw [hg2];rfl
   simp only [e0,e3,e4,Bool.and_true,cond_true,Int.toNat_natCast,hx,Option.bind_some,a1,Bool.not_false,ht,w1,a2]
  |some y=>
   have hy:=hmv _ (cmget_mem hg)
   obtain ⟨t3',m',h1,h2⟩:=stepB m y hg hy.1 hy.2 hm (by omega) hmv
   refine ⟨t3',m',?_,h2⟩
   rw [←h1]
   conv=>lhs;unfold L22_12
   have a1:mhas .str m tx[i]=true:=by unfold mhas;rw [hg];rfl
   have a2:mgetD .str m tx[i] (0:Int)=y:=by unfold mgetD;rw [hg];rfl
   simp only [e0,e3,e4,Bool.and_true,cond_true,Int.toNat_natCast,hx,Option.bind_some,a1,Bool.not_true,cond_false,ht,w1,a2]
theorem itoa_len (y:Int) (h1:0≤y) (h2:y≤1000):(Go.Lib.itoa y).length≤21:=Go.Lib.itoa_length_le y (by omega) (by omega)
theorem itoa_pos (y:Int):(Go.Lib.itoa y).length≠0:=by
 have h:∀ u,(Go.Lib.decDigits u).length≠0:=fun u=>by
  rw [Go.Lib.decDigits];split<;>simp
 unfold Go.Lib.itoa
 split
 ·simp
 ·exact h _
def colr (t3:List Int) (c:Int):Int:=(t3[c.toNat]?).getD 0
theorem colr_sm {t3:List Int} (h:Sm t3) (c:Int):0≤colr t3 c∧colr t3 c≤1000:=by
 unfold colr
 cases hq:t3[c.toNat]? with
 |none=>exact ⟨by simp,by simp⟩
 |some y=>exact h y (List.mem_of_getElem? hq)
def tailL (t3:List Int) (l:List Int):TX:=l.flatMap fun c=>32::Go.Lib.itoa (colr t3 c)
def lbl (t3:List Int) (j:Int) (l:List Int):TX:=Go.Lib.itoa (colr t3 j)++tailL t3 l
theorem tailL_len {t3:List Int} (h:Sm t3):∀ l:List Int,(tailL t3 l).length≤22*l.length:=by
 intro l
 induction l with
 |nil=>exact Nat.le_refl _
 |cons a l ih=>
  have e:tailL t3 (a::l)=(32::Go.Lib.itoa (colr t3 a))++tailL t3 l:=rfl
  have:=itoa_len _ (colr_sm h a).1 (colr_sm h a).2
  rw [e,List.length_append,List.length_cons,List.length_cons];omega
theorem in64_sm {y:Int} (h1:0≤y) (h2:y≤1000):in64 y=true:=by unfold in64;rw [ile_t (by omega),ile_t (by omega)];rfl
theorem L25_spec (t3:List Int) (t4:List TX) (t12 t39 t70 t71:Int) (t69 c0:List NodT) (c1 l:List Int) (hs:Sm t3) (hl:l.length≤100000) (hk:∀ c∈l,0≤c∧c<(t3.length:Int)):
  ∀ (k n i:Nat) (s:TX),i+k=l.length→k<n→s.length+22*k≤3000000→
   L22_25 n t3 t4 t12 t39 t69 t70 t71 l (len l) (i:Int) c0 c1 s=some (((),(t3,(t4,(t12,((),(t39,(t69,(t70,(t71,()))))))))),((c0,(c1,())),(((),(s++tailL t3 (l.drop i),())),()))):=by
 intro k
 induction k with
 |zero=>
  intro n i s hi hn _
  obtain ⟨n,rfl⟩:∃ q,n=q+1:= ⟨n - 1,by omega⟩
  conv=>lhs;unfold L22_25
  rw [ilt_f (by unfold len;omega),cond_false,List.drop_eq_nil_of_le (by omega)]
  show _=some (((),(t3,(t4,(t12,((),(t39,(t69,(t70,(t71,()))))))))),((c0,(c1,())),(((),(s++ [],())),())))
  rw [List.append_nil]
 |succ k ih=>
  intro n i s hi hn hb
  obtain ⟨n,rfl⟩:∃ q,n=q+1:= ⟨n - 1,by omega⟩
  have hil:i<l.length:=by omega
  have hx:l[i]? =some l[i]:=List.getElem?_eq_getElem hil
  obtain ⟨k1,k2⟩:=hk l[i] (List.getElem_mem hil)
  have ht : t3[(l[i]).toNat]? = some (t3[(l[i]).toNat]'(by omega)) := List.getElem?_eq_getElem (by omega)
  have hc : colr t3 l[i] = t3[(l[i]).toNat]'(by omega) := by unfold colr; rw [ht]; rfl
  have hq:=colr_sm hs l[i]
  rw [hc] at hq
  have hlen:=itoa_len _ hq.1 hq.2
  have w1:IntKind.wrap .i64 ((i:Int)+1)=((i+1:Nat):Int):=by rw [wrap_id (by omega) (by omega)];omega
  have e0:ile (0:Int) (i:Int)=true:=ile_t (by omega)
  have e1:ilt (i:Int) (len l)=true:=ilt_t (by unfold len;omega)
  have e2:ile (0:Int) l[i]=true:=ile_t k1
  have e3:ilt l[i] (len t3)=true:=ilt_t k2
  have r1:room ((s.length+(List.length ((32:UInt8)::([]:List UInt8))))*2)=true:=room_ok (by simp only [List.length_cons,List.length_nil];unfold roomy;omega)
  have r2 : room (((s ++ ((32 : UInt8) :: ([] : List UInt8))).length + (Go.Lib.itoa (t3[(l[i]).toNat]'(by omega))).length) * 2) = true := room_ok (by simp only [List.length_append, List.length_cons, List.length_nil]; unfold roomy; omega)
  conv=>lhs;unfold L22_25
  simp only [e1,cond_true,e0,Int.toNat_natCast,hx,Option.bind_some,r1,e2,e3,Bool.and_true,ht,in64_sm hq.1 hq.2,r2,w1]
  rw [ih n (i+1) _ (by omega) (by omega) (by simp only [List.length_append,List.length_cons,List.length_nil];omega)]
  have : tailL t3 (l.drop i) = (32 :: Go.Lib.itoa (t3[(l[i]).toNat]'(by omega))) ++ tailL t3 (l.drop (i + 1)) := by
   rw [List.drop_eq_getElem_cons hil,←hc];rfl
  rw [this]
  simp
theorem L20_spec (g1:List NodT) (t3:List Int) (t39:Int) (c1:List Int) (hN:g1.length≤1000) (hs:Sm t3) (h3:t3.length=g1.length) (hk:∀ x∈g1,x.2.2.2.1.length≤100000∧∀ c∈x.2.2.2.1,0≤c∧c<(g1.length:Int)):
  ∀ (k n i:Nat) (t4:List TX),i+k=g1.length→k+100010<n→t4.length=g1.length→(∀ (j:Nat) x,j<i→g1[j]? =some x→t4[j]? =some (lbl t3 (j:Int) x.2.2.2.1))→
   ∃ t4',L22_20 n t3 t4 t39 g1 (len g1) (i:Int) g1 c1=some (((),(t3,(t4',(t39,())))),((g1,(c1,())),()))∧t4'.length=g1.length∧∀ (j:Nat) x,g1[j]? =some x→t4'[j]? =some (lbl t3 (j:Int) x.2.2.2.1):=by
 intro k
 induction k with
 |zero=>
  intro n i t4 hi hn hl hd
  obtain ⟨n,rfl⟩:∃ q,n=q+1:= ⟨n - 1,by omega⟩
  refine ⟨t4,?_,hl,fun j x hx=>hd j x (by have:=(List.getElem?_eq_some_iff.1 hx).1;omega) hx⟩
  conv=>lhs;unfold L22_20
  rw [ilt_f (by unfold len;omega),cond_false]
 |succ k ih=>
  intro n i t4 hi hn hl hd
  obtain ⟨n,rfl⟩:∃ q,n=q+1:= ⟨n - 1,by omega⟩
  have hil:i<g1.length:=by omega
  have hx:g1[i]? =some g1[i]:=List.getElem?_eq_getElem hil
  have ht : t3[i]? = some (t3[i]'(by omega)) := List.getElem?_eq_getElem (by omega)
  have h4 : t4[i]? = some (t4[i]'(by omega)) := List.getElem?_eq_getElem (by omega)
  obtain ⟨k1,k2⟩:=hk _ (List.getElem_mem hil)
  have hc : colr t3 (i : Int) = t3[i]'(by omega) := by unfold colr; rw [Int.toNat_natCast, ht]; rfl
  have hq:=colr_sm hs (i:Int)
  rw [hc] at hq
  have hlen:=itoa_len _ hq.1 hq.2
  have htl:=tailL_len hs g1[i].2.2.2.1
  have w1:IntKind.wrap .i64 ((i:Int)+1)=((i+1:Nat):Int):=by rw [wrap_id (by omega) (by omega)];omega
  have e0:ile (0:Int) (i:Int)=true:=ile_t (by omega)
  have e1:ilt (i:Int) (len g1)=true:=ilt_t (by unfold len;omega)
  have e3:ilt (i:Int) (len t3)=true:=ilt_t (by unfold len;omega)
  have e4:ilt (i:Int) (len t4)=true:=ilt_t (by unfold len;omega)
  have r1 : room ((Go.Lib.itoa (t3[i]'(by omega))).length * 2) = true := room_ok (by unfold roomy; omega)
  have hloop := L25_spec t3 t4 (i : Int) t39 (len g1) (i : Int) g1 g1 c1 g1[i].2.2.2.1 hs k1 (fun c hc => by rw [h3]; exact k2 c hc) g1[i].2.2.2.1.length (n + 1) 0 (Go.Lib.itoa (t3[i]'(by omega))) (by omega) (by omega) (by omega)
  rw [List.drop_zero] at hloop
  have hlb : Go.Lib.itoa (t3[i]'(by omega)) ++ tailL t3 g1[i].2.2.2.1 = lbl t3 (i : Int) g1[i].2.2.2.1 := by unfold lbl; rw [hc]
  rw [hlb] at hloop
  have hll:(lbl t3 (i:Int) g1[i].2.2.2.1).length≤3000000:=by unfold lbl;rw [hc,List.length_append];omega
  have hne:(lbl t3 (i:Int) g1[i].2.2.2.1).isEmpty=false:=by
   have := itoa_pos (t3[i]'(by omega))
   unfold lbl;rw [hc]
   cases hq2 : Go.Lib.itoa (t3[i]'(by omega)) with
   |nil=>rw [hq2] at this;exact absurd rfl this
   |cons a r=>rfl
  have e5:ile (len (lbl t3 (i:Int) g1[i].2.2.2.1)) (len (lbl t3 (i:Int) g1[i].2.2.2.1))=true:=ile_t (Int.le_refl _)
  have e6:ile (len (lbl t3 (i:Int) g1[i].2.2.2.1)) (1099511627776:Int)=true:=ile_t (by unfold len;omega)
  have e7:List.take (Int.toNat (len (lbl t3 (i:Int) g1[i].2.2.2.1))) (lbl t3 (i:Int) g1[i].2.2.2.1)=lbl t3 (i:Int) g1[i].2.2.2.1:=by unfold len;rw [Int.toNat_natCast,List.take_length]
  obtain ⟨t4',q1,q2,q3⟩:=ih n (i+1) (t4.set i (lbl t3 (i:Int) g1[i].2.2.2.1)) (by omega) (by omega) (by rw [List.length_set];exact hl) (fun j x hj hxx=>by
   rcases Nat.lt_or_ge j i with hji |hji
   ·rw [List.getElem?_set_ne (by omega)];exact hd j x hji hxx
   ·obtain rfl:j=i:=by omega
    rw [hx] at hxx;cases hxx
    rw [List.getElem?_set_self (by omega)])
  refine ⟨t4',?_,q2,q3⟩
  rw [←q1]
  conv=>lhs;unfold L22_20
  simp only [e1,cond_true,e0,Int.toNat_natCast,hx,Option.bind_some,e3,Bool.and_true,ht,in64_sm hq.1 hq.2,r1]
  rw [show ((0:Int))=((0:Nat):Int) from rfl,hloop]
  simp only [Option.bind_some,hne,cond_false,e5,e6,Bool.and_true,cond_true,e0,e4,Int.toNat_natCast,h4,e7,w1]
  rfl
def TwT {α:Type} (R:Nat→Nat→Prop) (t:List α):Prop:=∀ i j,R i j→t[i]? =t[j]?
structure RelG (g1:List NodT) (ow:NodT→TX) (R:Nat→Nat→Prop):Prop where
 ix:∀ i j,R i j→i<g1.length∧j<g1.length
 ow:∀ i j x y,R i j→g1[i]? =some x→g1[j]? =some y→ow x=ow y∧x.2.2.2.1.length=y.2.2.2.1.length∧∀ q∈x.2.2.2.1.zip y.2.2.2.1,R q.1.toNat q.2.toNat
theorem tailL_eq {t3:List Int}:∀ {l k:List Int},l.length=k.length→(∀ q∈l.zip k,t3[q.1.toNat]? =t3[q.2.toNat]?)→tailL t3 l=tailL t3 k:=by
 intro l
 induction l with
 |nil=>intro k hl _;cases k with |nil=>rfl |cons _ _=>cases hl
 |cons a l ih=>
  intro k hl h
  cases k with
  |nil=>cases hl
  |cons b k=>
   have h1:colr t3 a=colr t3 b:=by unfold colr;rw [h (a,b) (by simp)]
   have h2:=ih (k:=k) (by simpa using hl) (fun q hq=>h q (by rw [List.zip_cons_cons];exact List.mem_cons_of_mem _ hq))
   show (32::Go.Lib.itoa (colr t3 a))++tailL t3 l=(32::Go.Lib.itoa (colr t3 b))++tailL t3 k
   rw [h1,h2]
theorem L9_spec (g1:List NodT) (c1:List Int) (ow:NodT→TX) (R:Nat→Nat→Prop) (hR:RelG g1 ow R) (hN:g1.length≤1000) (hk:∀ x∈g1,x.2.2.2.1.length≤100000∧∀ c∈x.2.2.2.1,0≤c∧c<(g1.length:Int)):
  ∀ (r n i:Nat) (t3:List Int) (t4:List TX),i+r=4→r+102000<n→t3.length=g1.length→Sm t3→t4.length=g1.length→(r=0→TwT R t3)→TwT R t4→
   ∃ t3',L22_9 n t3 t4 (i:Int) g1 c1=some ((t3',()),((g1,(c1,())),()))∧t3'.length=g1.length∧TwT R t3':=by
 intro r
 induction r with
 |zero=>
  intro n i t3 t4 hi hn h3 _ _ h0 _
  obtain ⟨n,rfl⟩:∃ q,n=q+1:= ⟨n - 1,by omega⟩
  refine ⟨t3,?_,h3,h0 rfl⟩
  conv=>lhs;unfold L22_9
  rw [ilt_f (by omega),cond_false]
 |succ r ih=>
  intro n i t3 t4 hi hn h3 hs h4 _ hw
  obtain ⟨n,rfl⟩:∃ q,n=q+1:= ⟨n - 1,by omega⟩
  obtain ⟨t3',m',a1,a2,a3,a4⟩:=L12_spec t4 g1 c1 (i:Int) (by omega) t4.length (n+3) 0 t3 [] (by omega) (by omega) (by omega) hs (fun j x hj=>absurd hj (by omega)) (Nat.le_refl _) (fun p hp=>by cases hp)
  have w3:TwT R t3':=by
   intro j k hjk
   obtain ⟨x1,x2⟩:=hR.ix j k hjk
   have e1 : t4[j]? = some (t4[j]'(by omega)) := List.getElem?_eq_getElem (by omega)
   obtain ⟨y,y1,y2⟩:=a4 j _ e1
   obtain ⟨z,z1,z2⟩:=a4 k _ ((hw j k hjk).symm.trans e1)
   rw [y1] at z1;cases z1
   rw [y2,z2]
  obtain ⟨t4',b1,b2,b3⟩:=L20_spec g1 t3' (i:Int) c1 hN a3 (by omega) hk g1.length (n+1) 0 t4 (by omega) (by omega) h4 (fun j x hj=>absurd hj (by omega))
  have w4:TwT R t4':=by
   intro j k hjk
   obtain ⟨x1,x2⟩:=hR.ix j k hjk
   have e1 : g1[j]? = some (g1[j]'x1) := List.getElem?_eq_getElem x1
   have e2 : g1[k]? = some (g1[k]'x2) := List.getElem?_eq_getElem x2
   obtain ⟨o1,o2,o3⟩:=hR.ow j k _ _ hjk e1 e2
   rw [b3 j _ e1,b3 k _ e2]
   have c1:colr t3' (j:Int)=colr t3' (k:Int):=by unfold colr;rw [Int.toNat_natCast,Int.toNat_natCast,w3 j k hjk]
   unfold lbl
   rw [c1,tailL_eq o2 (fun q hq=>w3 _ _ (o3 q hq))]
  have w1:IntKind.wrap .i64 ((i:Int)+1)=((i+1:Nat):Int):=by rw [wrap_id (by omega) (by omega)];omega
  obtain ⟨t3'',q1,q2,q3⟩:=ih n (i+1) t3' t4' (by omega) (by omega) (by omega) a3 b2 (fun _=>w3) w4
  refine ⟨t3'',?_,q2,q3⟩
  rw [←q1]
  conv=>lhs;unfold L22_9
  have e:ilt (i:Int) (4:Int)=true:=ilt_t (by omega)
  have a1':L22_12 (n+3) t3 (i:Int) (len t4) 0 g1 c1 t4 []=_:=a1
  have b1':L22_20 (n+1) t3' t4 (i:Int) g1 (len g1) 0 g1 c1=_:=b1
  simp only [e,cond_true,a1',Option.bind_some,b1',w1]
theorem L4_spec (g1:List NodT) (c1:List Int) (t3:List Int) (ow:NodT→TX) (hN:g1.length≤1000) (ho:∀ x∈g1,∀ n,1000≤n→own n x=some (ow x,())):
  ∀ (k n i:Nat) (t4:List TX),i+k=g1.length→k+1000<n→t4.length=g1.length→(∀ (j:Nat) x,j<i→g1[j]? =some x→t4[j]? =some (ow x))→
   ∃ t4',L22_4 n t3 t4 g1 (len g1) (i:Int) g1 c1=some (((),(t3,(t4',()))),((g1,(c1,())),()))∧t4'.length=g1.length∧∀ (j:Nat) x,g1[j]? =some x→t4'[j]? =some (ow x):=by
 intro k
 induction k with
 |zero=>
  intro n i t4 hi hn hl hd
  obtain ⟨n,rfl⟩:∃ q,n=q+1:= ⟨n - 1,by omega⟩
  refine ⟨t4,?_,hl,fun j x hx=>hd j x (by have:=(List.getElem?_eq_some_iff.1 hx).1;omega) hx⟩
  conv=>lhs;unfold L22_4
  rw [ilt_f (by unfold len;omega),cond_false]
 |succ k ih=>
  intro n i t4 hi hn hl hd
  obtain ⟨n,rfl⟩:∃ q,n=q+1:= ⟨n - 1,by omega⟩
  have hil:i<g1.length:=by omega
  have hx:g1[i]? =some g1[i]:=List.getElem?_eq_getElem hil
  have h4 : t4[i]? = some (t4[i]'(by omega)) := List.getElem?_eq_getElem (by omega)
  have w1:IntKind.wrap .i64 ((i:Int)+1)=((i+1:Nat):Int):=by rw [wrap_id (by omega) (by omega)];omega
  have e0:ile (0:Int) (i:Int)=true:=ile_t (by omega)
  have e1:ilt (i:Int) (len g1)=true:=ilt_t (by unfold len;omega)
  have e4:ilt (i:Int) (len t4)=true:=ilt_t (by unfold len;omega)
  obtain ⟨t4',q1,q2,q3⟩:=ih n (i+1) (t4.set i (ow g1[i])) (by omega) (by omega) (by rw [List.length_set];exact hl) (fun j x hj hxx=>by
   rcases Nat.lt_or_ge j i with hji |hji
   ·rw [List.getElem?_set_ne (by omega)];exact hd j x hji hxx
   ·obtain rfl:j=i:=by omega
    rw [hx] at hxx;cases hxx
    rw [List.getElem?_set_self (by omega)])
  refine ⟨t4',?_,q2,q3⟩
  rw [←q1]
  conv=>lhs;unfold L22_4
  simp only [e1,cond_true,e0,Int.toNat_natCast,hx,Option.bind_some,ho _ (List.getElem_mem hil) (n+1) (by omega),e4,Bool.and_true,h4,w1]
theorem colors_spec (n:Nat) (hn:103000≤n) (g1:List NodT) (c1:List Int) (ow:NodT→TX) (R:Nat→Nat→Prop) (hR:RelG g1 ow R) (hN:g1.length≤1000) (ho:∀ x∈g1,∀ n,1000≤n→own n x=some (ow x,()))
  (hk:∀ x∈g1,x.2.2.2.1.length≤100000∧∀ c∈x.2.2.2.1,0≤c∧c<(g1.length:Int)):∃ c,colors n (g1,c1)=some (c,())∧c.length=g1.length∧TwT R c:=by
 have e1:ile (len g1) (len g1)=true:=ile_t (Int.le_refl _)
 have e2:ile ((len g1)*(9:Int)) (1099511627776:Int)=true:=ile_t (by unfold len;omega)
 have e3:ile ((len g1)*(17:Int)) (1099511627776:Int)=true:=ile_t (by unfold len;omega)
 have e4:Int.toNat (len g1)=g1.length:=by unfold len;exact Int.toNat_natCast _
 obtain ⟨t4,a1,a2,a3⟩:=L4_spec g1 c1 (List.replicate g1.length 0) ow hN ho g1.length n 0 (List.replicate g1.length []) (by omega) (by omega) (by simp) (fun j x hj=>absurd hj (by omega))
 have w4:TwT R t4:=by
  intro j k hjk
  obtain ⟨x1,x2⟩:=hR.ix j k hjk
  have e1 : g1[j]? = some (g1[j]'x1) := List.getElem?_eq_getElem x1
  have e2 : g1[k]? = some (g1[k]'x2) := List.getElem?_eq_getElem x2
  rw [a3 j _ e1,a3 k _ e2,(hR.ow j k _ _ hjk e1 e2).1]
 obtain ⟨c,b1,b2,b3⟩:=L9_spec g1 c1 ow R hR hN hk 4 (n+1) 0 (List.replicate g1.length 0) t4 rfl (by omega) (by simp) (fun y hy=>by rw [(List.mem_replicate.1 hy).2];omega) a2 (fun h=>by cases h) w4
 refine ⟨c,?_,b2,b3⟩
 unfold colors
 have a1':L22_4 n (List.replicate g1.length 0) (List.replicate g1.length []) g1 (len g1) 0 g1 c1=_:=a1
 have b1':L22_9 (n+1) (List.replicate g1.length 0) t4 0 g1 c1=_:=b1
 simp only [e1,e2,e3,Bool.and_true,cond_true,e4,a1',Option.bind_some,b1']
end Go.Proofs.YtnddpppljnjmcaaGreatDoor
/- Graphs that are right: what the program tells; maps. -/
namespace Go.Proofs.YtnddpppljnjmcaaGreatDoor
open Go Go.Iv Go.Gv
def tagStr:List UInt8:= [116,97,103,58,121,97,109,108,46,111,114,103,44,50,48,48,50,58,115,116,114]
theorem L27_2_spec (g:List NodT) (rt l:List Int) (hl:∀ c∈l,0≤c∧c<(g.length:Int)) (hb:l.length≤100000):∀ (k n:Nat) (t:Int),0≤t→t+k=l.length→k<n→
  L27_2 n l (len l) t g rt=some (.inl ((),((g,(rt,())),()))):=by
 intro k
 induction k with
 |zero=>
  intro n t h0 h1 hn
  cases n with
  |zero=>omega
  |succ n=>
   have e1:ilt t (len l)=false:=ilt_f (by unfold len;omega)
   simp only [L27_2,e1,cond_false]
 |succ k ih=>
  intro n t h0 h1 hn
  cases n with
  |zero=>omega
  |succ n=>
   have e1:ilt t (len l)=true:=ilt_t (by unfold len;omega)
   have e2:ile 0 t=true:=ile_t h0
   have hlt:t.toNat<l.length:=by omega
   have e3:l[t.toNat]? =some l[t.toNat]:=List.getElem?_eq_getElem hlt
   have hc:=hl _ (List.getElem_mem hlt)
   generalize l[t.toNat]=c at e3 hc
   have e4:ilt c 0=false:=ilt_f (by omega)
   have e5:ile (len g) c=false:=by rw [ile_eq];exact decide_eq_false (by unfold len;omega)
   have w:IntKind.wrap .i64 (t+1)=t+1:=wrap_id (by omega) (by omega)
   simp only [L27_2,e1,e2,e3,e4,e5,w,cond_true,cond_false,Option.bind_some]
   exact ih n (t+1) (by omega) (by omega) (by omega)
theorem are_spec {n:Nat} (g:List NodT) (rt l:List Int) (hl:∀ c∈l,0≤c∧c<(g.length:Int)) (hb:l.length≤100000) (hn:l.length≤n):are n (g,rt) l=some (true,()):=by
 unfold are
 rw [L27_2_spec g rt l hl hb l.length (n+1) 0 (Int.le_refl _) (by omega) (by omega)]
 rfl
theorem L20_5_spec (g:List NodT) (rt:List Int) (K:Nat) (hg:g.length≤20000) (hK:K*g.length≤20000) (hx:∀ (j:Nat) x,g[j]? =some x→(∀ n,200≤n→node n x=some (true,()))∧x.2.2.2.1.length≤K∧∀ c∈x.2.2.2.1,0≤c∧c<(g.length:Int)):∀ (k n:Nat) (t3 t:Int),0≤t→t+k=g.length→0≤t3→t3≤K*t→K+k+200<n→
  L20_5 n t3 g (len g) t g rt=some (.inl ((),((g,(rt,())),()))):=by
 intro k
 induction k with
 |zero=>
  intro n t3 t h0 h1 h2 h3 hn
  cases n with
  |zero=>omega
  |succ n=>
   have e1:ilt t (len g)=false:=ilt_f (by unfold len;omega)
   simp only [L20_5,e1,cond_false]
 |succ k ih=>
  intro n t3 t h0 h1 h2 h3 hn
  cases n with
  |zero=>omega
  |succ n=>
   have e1:ilt t (len g)=true:=ilt_t (by unfold len;omega)
   have e2:ile 0 t=true:=ile_t h0
   have hlt:t.toNat<g.length:=by omega
   have e3:g[t.toNat]? =some g[t.toNat]:=List.getElem?_eq_getElem hlt
   obtain ⟨x1,x2,x3⟩:=hx _ _ e3
   generalize g[t.toNat]=x at e3 x1 x2 x3
   have hm:(K:Int)*(t+1)≤20000:=by
    have a1:(K:Int)*(t+1)≤K*g.length:=Int.mul_le_mul_of_nonneg_left (by omega) (by omega)
    have a2:((K*g.length:Nat):Int)=(K:Int)*g.length:=by simp
    omega
   have hm2:(K:Int)*(t+1)=K*t+K:=by rw [Int.mul_add,Int.mul_one]
   have w1:IntKind.wrap .i64 (t3+len x.2.2.2.1)=t3+len x.2.2.2.1:=wrap_id (by unfold len;omega) (by unfold len;omega)
   have w2:IntKind.wrap .i64 (t+1)=t+1:=wrap_id (by omega) (by omega)
   have e4:ilt 20000 (t3+len x.2.2.2.1)=false:=ilt_f (by unfold len;omega)
   have e5:node (n+1) (x.1,(x.2.1,(x.2.2.1,(x.2.2.2.1,x.2.2.2.2))))=some (true,()):=x1 (n+1) (by omega)
   have hKs:K≤20000:=by
    have:K*1≤K*g.length:=Nat.mul_le_mul_left K (by omega)
    omega
   have e6:=are_spec (n:=n+6) g rt x.2.2.2.1 x3 (by omega) (by omega)
   simp only [L20_5,e1,e2,e3,w1,w2,e4,e5,e6,cond_true,cond_false,Option.bind_some,Bool.not_true]
   exact ih n _ (t+1) (by omega) (by omega) (by unfold len;omega) (by unfold len;omega) (by omega)
theorem rightW_spec {n:Nat} (g:List NodT) (rt:List Int) (K:Nat) (hg:g.length≤20000) (hK:K*g.length≤20000) (hr:∀ c∈rt,0≤c∧c<(g.length:Int)) (hrl:rt.length≤20000) (hx:∀ (j:Nat) x,g[j]? =some x→(∀ n,200≤n→node n x=some (true,()))∧x.2.2.2.1.length≤K∧∀ c∈x.2.2.2.1,0≤c∧c<(g.length:Int)) (hn:K+g.length+rt.length+201≤n):right n (g,rt)=some (true,()):=by
 unfold right
 have e1:ilt 20000 (len g)=false:=ilt_f (by unfold len;omega)
 have e2:ilt 20000 (len rt)=false:=ilt_f (by unfold len;omega)
 simp only [e1,e2,cond_false]
 rw [are_spec g rt rt hr (by omega) (by omega)]
 simp only [Option.bind_some,Bool.not_true,cond_false]
 rw [L20_5_spec g rt K hg hK hx g.length n 0 0 (Int.le_refl _) (by omega) (Int.le_refl _) (by omega) (by omega)]
 rfl
end Go.Proofs.YtnddpppljnjmcaaGreatDoor
/- Plain functions for the program's. -/
namespace Go.Proofs.YtnddpppljnjmcaaGreatDoor
open Go Go.Iv Go.Gv
set_option maxRecDepth 100000
set_option linter.unusedVariables false
noncomputable def L23_7_Xexit2:Tm:= ⟨[(2,.one (.lst (.int .i64))),(3,.one (.fix (TV.ptr 64 0))),(4,.one (.fix (TV.ptr 65 0))),(7,.one (.fix (TV.mp 66))),(8,.one (.int .i64)),(9,.one (.int .i64))],[(64,.cells 25 [.lst sN,.lst (.int .i64)] true),(65,.cells 31 [.int .i64,.str,.str,.lst (.int .i64),.bool] true),(67,.arr 3 (.int .i64) true false .ex)],68,68,2006⟩
noncomputable def L23_7_Xret:Tm:= ⟨[(6,.one (.bool))],[(64,.cells 25 [.lst sN,.lst (.int .i64)] true),(65,.cells 31 [.int .i64,.str,.str,.lst (.int .i64),.bool] true),(67,.arr 3 (.int .i64) true false .ex)],68,68,2006⟩
noncomputable def L23_7_T:Tm:= ⟨[(2,.one (.lst (.int .i64))),(3,.one (.fix (TV.ptr 64 0))),(4,.one (.fix (TV.ptr 65 0))),(7,.one (.fix (TV.mp 66))),(8,.one (.int .i64)),(9,.one (.int .i64)),(30,.one (.fix (TV.all 67))),(31,.one (.int .i64)),(32,.one (.int .i64))],[(64,.cells 25 [.lst sN,.lst (.int .i64)] true),(65,.cells 31 [.int .i64,.str,.str,.lst (.int .i64),.bool] true),(67,.arr 3 (.int .i64) true false .ex)],68,68,2006⟩
noncomputable def L23_7:Nat→(List Int)→Int→Int→Int→Int→qN→(List Int)→Int→(List UInt8)→(List UInt8)→(List Int)→Bool→(List Int)→Option ((((List Int)×(Unit×(Unit×(Unit×(Int×(Int×Unit))))))×((qN×((List Int)×Unit))×((Int×((List UInt8)×((List UInt8)×((List Int)×(Bool×Unit)))))×((List Int)×Unit))))⊕((Bool×Unit)×((qN×((List Int)×Unit))×((Int×((List UInt8)×((List UInt8)×((List Int)×(Bool×Unit)))))×((List Int)×Unit)))))
 |0,_,_,_,_,_,_,_,_,_,_,_,_,_=>none
 |n+1,t2,t8,t9,t31,t32,c64_0,c64_1,c65_0,c65_1,c65_2,c65_3,c65_4,a67=>
 bif (ilt t32 t31) then
  bif ((ile (0:Int) t32) &&(ilt t32 (len a67))) then
  Option.bind (a67[(Int.toNat t32)]?) fun x6=>
  Option.bind (equalG (n+1) (c64_0,c64_1) t9 x6) fun y7=>
  bif y7.1 then
  some (.inr ((true,()),((c64_0,(c64_1,())),((c65_0,(c65_1,(c65_2,(c65_3,(c65_4,()))))),(a67,())))))
  else
  L23_7 n t2 t8 t9 t31 (IntKind.wrap .i64 (t32+(1:Int))) c64_0 c64_1 c65_0 c65_1 c65_2 c65_3 c65_4 a67
  else none
 else
 some (.inl ((t2,((),((),((),(t8,(t9,())))))),((c64_0,(c64_1,())),((c65_0,(c65_1,(c65_2,(c65_3,(c65_4,()))))),(a67,())))))
noncomputable def L23_7_it:LoopIt:= ⟨23,7,none,L23_7_T,[(.exit 2,L23_7_Xexit2),(.ret,L23_7_Xret)],4,fun n x=>L23_7 n x.1.1 x.1.2.2.2.2.1 x.1.2.2.2.2.2.1 x.1.2.2.2.2.2.2.2.1 x.1.2.2.2.2.2.2.2.2.1 x.2.1.1 x.2.1.2.1 x.2.2.1.1 x.2.2.1.2.1 x.2.2.1.2.2.1 x.2.2.1.2.2.2.1 x.2.2.1.2.2.2.2.1 x.2.2.2.1,[66]⟩
theorem L23_7_Xexit2_ok:L23_7_Xexit2.ok Tryz.prog hint:=Tm.okS rfl
theorem L23_7_Xret_ok:L23_7_Xret.ok Tryz.prog hint:=Tm.okS rfl
theorem L23_7_T_ok:L23_7_T.ok Tryz.prog hint:=Tm.okS rfl
theorem L23_7_ok:∀ n,LoopOK Tryz.prog hint shT L23_7_it n:=
 LoopOK.of (hk:=fun β=>(Known.mk [equalG_it] []).hk β) (sh:=shT) (OneLoop.of (by kernel_rfl)) L23_7_T_ok ⟨⟨L23_7_Xexit2_ok,Nat.le_refl _,Nat.le_refl _⟩,⟨L23_7_Xret_ok,Nat.le_refl _,Nat.le_refl _⟩,trivial⟩ (fun m=>KnownOK.hook (KnownOK.nil.fn equalG_ok) m)
  (fun _=>by kernel_rfl) (fun m x=>by kernel_rfl)
noncomputable def L23_3_Xexit0:Tm:= ⟨[],[(64,.cells 25 [.lst sN,.lst (.int .i64)] true),(65,.cells 31 [.int .i64,.str,.str,.lst (.int .i64),.bool] true),(66,.mapn 3 false (.int .i64) 3 (.int .i64))],67,67,1003⟩
noncomputable def L23_3_Xret:Tm:= ⟨[(6,.one (.bool))],[(64,.cells 25 [.lst sN,.lst (.int .i64)] true),(65,.cells 31 [.int .i64,.str,.str,.lst (.int .i64),.bool] true),(66,.mapn 3 false (.int .i64) 3 (.int .i64))],67,67,1003⟩
noncomputable def L23_3_T:Tm:= ⟨[(2,.one (.lst (.int .i64))),(3,.one (.fix (TV.ptr 64 0))),(4,.one (.fix (TV.ptr 65 0))),(7,.one (.fix (TV.mp 66))),(8,.one (.int .i64))],[(64,.cells 25 [.lst sN,.lst (.int .i64)] true),(65,.cells 31 [.int .i64,.str,.str,.lst (.int .i64),.bool] true),(66,.mapn 3 false (.int .i64) 3 (.int .i64))],67,67,1003⟩
noncomputable def L23_3:Nat→(List Int)→Int→qN→(List Int)→Int→(List UInt8)→(List UInt8)→(List Int)→Bool→(List (Int×List Int))→Option ((Unit×((qN×((List Int)×Unit))×((Int×((List UInt8)×((List UInt8)×((List Int)×(Bool×Unit)))))×((List (Int×List Int))×Unit))))⊕((Bool×Unit)×((qN×((List Int)×Unit))×((Int×((List UInt8)×((List UInt8)×((List Int)×(Bool×Unit)))))×((List (Int×List Int))×Unit)))))
 |0,_,_,_,_,_,_,_,_,_,_=>none
 |n+1,t2,t8,c64_0,c64_1,c65_0,c65_1,c65_2,c65_3,c65_4,m66=>
 bif (ilt t8 (len c65_3)) then
  bif (ile (0:Int) t8) then
  Option.bind (c65_3[(Int.toNat t8)]?) fun x20=>
  bif (ile (0:Int) x20) then
  Option.bind (t2[(Int.toNat x20)]?) fun x21=>
  Option.bind (L23_7 (n+1) t2 t8 x20 (len (mgetD kI m66 x21 ([]:List Int))) (0:Int) c64_0 c64_1 c65_0 c65_1 c65_2 c65_3 c65_4 (mgetD kI m66 x21 ([]:List Int))) fun y22=>
  match y22 with
  | .inl y23=>
   bif (ile (0:Int) y23.1.2.2.2.2.2.1) then
   Option.bind (y23.1.1[(Int.toNat y23.1.2.2.2.2.2.1)]?) fun x25=>
   bif (ile (0:Int) y23.1.2.2.2.2.2.1) then
   Option.bind (y23.1.1[(Int.toNat y23.1.2.2.2.2.2.1)]?) fun x26=>
   bif (room (((List.length (mgetD kI (mset kI m66 x21 y23.2.2.2.1) x26 ([]:List Int)))+(List.length (y23.1.2.2.2.2.2.1::([]:List Int))))*9)) then
   bif ((id x26)==x25) then
   L23_3 n y23.1.1 (IntKind.wrap .i64 (y23.1.2.2.2.2.1+(2:Int))) y23.2.1.1 y23.2.1.2.1 y23.2.2.1.1 y23.2.2.1.2.1 y23.2.2.1.2.2.1 y23.2.2.1.2.2.2.1 y23.2.2.1.2.2.2.2.1 (mput kI (mset kI m66 x21 y23.2.2.2.1) x25 ((mgetD kI (mset kI m66 x21 y23.2.2.2.1) x26 ([]:List Int))++(y23.1.2.2.2.2.2.1::([]:List Int))))
   else none
   else none
   else none
   else none
  | .inr y24=>
   some (.inr ((y24.1.1,()),((y24.2.1.1,(y24.2.1.2.1,())),((y24.2.2.1.1,(y24.2.2.1.2.1,(y24.2.2.1.2.2.1,(y24.2.2.1.2.2.2.1,(y24.2.2.1.2.2.2.2.1,()))))),((mset kI m66 x21 y24.2.2.2.1),())))))
  else none
  else none
 else
 some (.inl ((),((c64_0,(c64_1,())),((c65_0,(c65_1,(c65_2,(c65_3,(c65_4,()))))),(m66,())))))
noncomputable def L23_3_it:LoopIt:= ⟨23,3,none,L23_3_T,[(.exit 0,L23_3_Xexit0),(.ret,L23_3_Xret)],4,fun n x=>L23_3 n x.1.1 x.1.2.2.2.2.1 x.2.1.1 x.2.1.2.1 x.2.2.1.1 x.2.2.1.2.1 x.2.2.1.2.2.1 x.2.2.1.2.2.2.1 x.2.2.1.2.2.2.2.1 x.2.2.2.1,[]⟩
theorem L23_3_Xexit0_ok:L23_3_Xexit0.ok Tryz.prog hint:=Tm.okS rfl
theorem L23_3_Xret_ok:L23_3_Xret.ok Tryz.prog hint:=Tm.okS rfl
theorem L23_3_T_ok:L23_3_T.ok Tryz.prog hint:=Tm.okS rfl
theorem L23_3_ok:∀ n,LoopOK Tryz.prog hint shT L23_3_it n:=
 LoopOK.of (hk:=fun β=>(Known.mk [] [L23_7_it]).hk β) (sh:=shT) (OneLoop.of (by kernel_rfl)) L23_3_T_ok ⟨⟨L23_3_Xexit0_ok,Nat.le_refl _,Nat.le_refl _⟩,⟨L23_3_Xret_ok,Nat.le_refl _,Nat.le_refl _⟩,trivial⟩ (fun m=>KnownOK.hook (KnownOK.nil.loop L23_7_ok L23_7_T_ok) m)
  (fun _=>by kernel_rfl) (fun m x=>by kernel_rfl)
noncomputable def twice (n:Nat) (g:(List (Int×(List UInt8×(List UInt8×(List Int×Bool))))×List Int)) (x:(Int×(List UInt8×(List UInt8×(List Int×Bool))))) (c:List Int):Option (Bool×Unit):=
 Option.bind (L23_3 n c (0:Int) g.1 g.2 x.1 x.2.1 x.2.2.1 x.2.2.2.1 x.2.2.2.2 []) fun y27=>
 match y27 with
 | .inl _=>
  some (false,())
 | .inr y29=>
  some (y29.1.1,())
noncomputable def twice_it:FnIt:= ⟨23,[(true,(.cons (.slc sN) (.slc (.int .i64)))),(true,sN),(false,(.slc (.int .i64)))],[(false,.bool)],4,fun n x=>twice n x.1 x.2.1 x.2.2.1⟩
theorem twice_ok (n:Nat):FnOK Tryz.prog hint shT twice_it n:=
 FnOK.of (hk:=fun β=>(Known.mk [] [L23_3_it]).hk β) (sh:=shT) (fun m _=>KnownOK.hook (KnownOK.nil.loop L23_3_ok L23_3_T_ok) m) (fun x=>by kernel_rfl)
noncomputable def L13_5_Xexit0:Tm:= ⟨[],[(64,.cells 25 [.lst sN,.lst (.int .i64)] true)],65,65,1001⟩
noncomputable def L13_5_Xret:Tm:= ⟨[(2,.one (.int .i64)),(3,.one (.bool))],[(64,.cells 25 [.lst sN,.lst (.int .i64)] true)],65,65,1001⟩
noncomputable def L13_5_T:Tm:= ⟨[(1,.one (.fix (TV.ptr 64 0))),(4,.one (.lst (.int .i64))),(13,.one (.lst sN)),(14,.one (.int .i64)),(15,.one (.int .i64))],[(64,.cells 25 [.lst sN,.lst (.int .i64)] true)],65,65,1001⟩
noncomputable def L13_5:Nat→(List Int)→qN→Int→Int→qN→(List Int)→Option ((Unit×((qN×((List Int)×Unit))×Unit))⊕((Int×(Bool×Unit))×((qN×((List Int)×Unit))×Unit)))
 |0,_,_,_,_,_,_=>none
 |n+1,t4,t13,t14,t15,c64_0,c64_1=>
 bif (ilt t15 t14) then
  bif (ile (0:Int) t15) then
  Option.bind (t13[(Int.toNat t15)]?) fun x6=>
  bif (x6.1==(3:Int)) then
  Option.bind (twice (n+1) (c64_0,c64_1) (x6.1,(x6.2.1,(x6.2.2.1,(x6.2.2.2.1,x6.2.2.2.2)))) t4) fun y7=>
  bif y7.1 then
   some (.inr ((t15,(true,())),((c64_0,(c64_1,())),())))
  else
  L13_5 n t4 t13 t14 (IntKind.wrap .i64 (t15+(1:Int))) c64_0 c64_1
  else
  L13_5 n t4 t13 t14 (IntKind.wrap .i64 (t15+(1:Int))) c64_0 c64_1
  else none
 else
 some (.inl ((),((c64_0,(c64_1,())),())))
noncomputable def L13_5_it:LoopIt:= ⟨13,5,none,L13_5_T,[(.exit 0,L13_5_Xexit0),(.ret,L13_5_Xret)],5,fun n x=>L13_5 n x.1.2.1 x.1.2.2.1 x.1.2.2.2.1 x.1.2.2.2.2.1 x.2.1.1 x.2.1.2.1,[]⟩
theorem L13_5_Xexit0_ok:L13_5_Xexit0.ok Tryz.prog hint:=Tm.okS rfl
theorem L13_5_Xret_ok:L13_5_Xret.ok Tryz.prog hint:=Tm.okS rfl
theorem L13_5_T_ok:L13_5_T.ok Tryz.prog hint:=Tm.okS rfl
theorem L13_5_ok:∀ n,LoopOK Tryz.prog hint shT L13_5_it n:=
 LoopOK.of (hk:=fun β=>(Known.mk [twice_it] []).hk β) (sh:=shT) (OneLoop.of (by kernel_rfl)) L13_5_T_ok ⟨⟨L13_5_Xexit0_ok,Nat.le_refl _,Nat.le_refl _⟩,⟨L13_5_Xret_ok,Nat.le_refl _,Nat.le_refl _⟩,trivial⟩ (fun m=>KnownOK.hook (KnownOK.nil.fn twice_ok) m)
  (fun _=>by kernel_rfl) (fun m x=>by kernel_rfl)
noncomputable def Twice (n:Nat) (g:(List (Int×(List UInt8×(List UInt8×(List Int×Bool))))×List Int)):Option (Int×(Bool×Unit)):=
 Option.bind (right n (g.1,g.2)) fun y0=>
 bif (!y0.1) then
 some ((0:Int),false,())
 else
 Option.bind (colors (n+4) (g.1,g.2)) fun y1=>
 Option.bind (L13_5 (n+3) y1.1 g.1 (len g.1) (0:Int) g.1 g.2) fun y8=>
 match y8 with
 | .inl _=>
  some ((0:Int),false,())
 | .inr y10=>
  some (y10.1.1,y10.1.2.1,())
noncomputable def Twice_it:FnIt:= ⟨13,[(true,(.cons (.slc sN) (.slc (.int .i64))))],[(false,(.int .i64)),(false,.bool)],8,fun n x=>Twice n x.1⟩
theorem Twice_ok (n:Nat):FnOK Tryz.prog hint shT Twice_it n:=
 FnOK.of (hk:=fun β=>(Known.mk [colors_it,right_it] [L13_5_it]).hk β) (sh:=shT) (fun m _=>KnownOK.hook (((KnownOK.nil.fn right_ok).fn colors_ok).loop L13_5_ok L13_5_T_ok) m) (fun x=>by kernel_rfl)
end Go.Proofs.YtnddpppljnjmcaaGreatDoor
/- Which mapping has two equal keys, if equal nodes have one color. -/
namespace Go.Proofs.YtnddpppljnjmcaaGreatDoor
open Go Go.Iv Go.Gv
set_option maxRecDepth 100000
abbrev KZ:Sh:= .int .i64
theorem kmget_cons {β:Type} (a:Int) (b:β) (r:List (Int×β)) (z:Int):mget KZ ((a,b)::r) z=if z=a then some b else mget KZ r z:=by
 show (bif Sh.eqK KZ z a then some b else mget KZ r z)=_
 by_cases h:z=a
 ·rw [if_pos h,show Sh.eqK KZ z a=true from by subst h;exact beq_self_eq_true z];rfl
 ·rw [if_neg h,show Sh.eqK KZ z a=false from beq_false_of_ne h];rfl
theorem kmput_cons {β:Type} (a:Int) (b:β) (r:List (Int×β)) (x:Int) (y:β):mput KZ ((a,b)::r) x y=if x=a then (x,y)::r else (a,b)::mput KZ r x y:=by
 show (bif Sh.eqK KZ x a then (x,y)::r else (a,b)::mput KZ r x y)=_
 by_cases h:x=a
 ·rw [if_pos h,show Sh.eqK KZ x a=true from by subst h;exact beq_self_eq_true x];rfl
 ·rw [if_neg h,show Sh.eqK KZ x a=false from beq_false_of_ne h];rfl
theorem kmset_cons {β:Type} (a:Int) (b:β) (r:List (Int×β)) (x:Int) (y:β):mset KZ ((a,b)::r) x y=if x=a then (a,y)::r else (a,b)::mset KZ r x y:=by
 show (bif Sh.eqK KZ x a then (a,y)::r else (a,b)::mset KZ r x y)=_
 by_cases h:x=a
 ·rw [if_pos h,show Sh.eqK KZ x a=true from by subst h;exact beq_self_eq_true x];rfl
 ·rw [if_neg h,show Sh.eqK KZ x a=false from beq_false_of_ne h];rfl
theorem kmget_mput {β:Type} (x:Int) (y:β) (z:Int):∀ l:List (Int×β),mget KZ (mput KZ l x y) z=if z=x then some y else mget KZ l z:=by
 intro l
 induction l with
 |nil=>exact kmget_cons x y [] z
 |cons p r ih=>
  obtain ⟨a,b⟩:=p
  rw [kmput_cons,kmget_cons]
  by_cases hxa:x=a
  ·rw [if_pos hxa,kmget_cons]
   by_cases h:z=x
   ·rw [if_pos h,if_pos h]
   ·rw [if_neg h,if_neg h,if_neg (fun e=>h (e.trans hxa.symm))]
  ·rw [if_neg hxa,kmget_cons,ih]
   by_cases h:z=a
   ·rw [if_pos h,if_pos h,if_neg (fun e=>hxa (e.symm.trans h))]
   ·rw [if_neg h,if_neg h]
theorem kmset_self {β:Type} (x:Int) (d:β):∀ l:List (Int×β),mset KZ l x (mgetD KZ l x d)=l:=by
 intro l
 induction l with
 |nil=>rfl
 |cons p r ih=>
  obtain ⟨a,b⟩:=p
  unfold mgetD at ih ⊢
  rw [kmset_cons,kmget_cons]
  by_cases h:x=a
  ·rw [if_pos h,if_pos h];rfl
  ·rw [if_neg h,if_neg h,ih]
def evens:List Int→List Int
 | []=> []
 | [k]=> [k]
 |k::_::r=>k::evens r
def dup (e:Int→Int→Bool):List Int→List Int→Bool
 |_,[]=>false
 |S,k::r=>S.any (e k) ||dup e (S++ [k]) r
theorem L23_7_spec (g1:List NodT) (c1 t2:List Int) (t8 k x0:Int) (x1 x2:TX) (x3:List Int) (x4:Bool) (e:Int→Int→Bool) (F:Nat) (S:List Int) (hS:S.length≤1000000) (he:∀ o∈S,∀ n,F≤n→equalG n (g1,c1) k o=some (e k o,())):
  ∀ (m n i:Nat),i+m=S.length→m+F<n→
   L23_7 n t2 t8 k (len S) (i:Int) g1 c1 x0 x1 x2 x3 x4 S=some (if (S.drop i).any (e k) then .inr ((true,()),((g1,(c1,())),((x0,(x1,(x2,(x3,(x4,()))))),(S,())))) else .inl ((t2,((),((),((),(t8,(k,())))))),((g1,(c1,())),((x0,(x1,(x2,(x3,(x4,()))))),(S,()))))):=by
 intro m
 induction m with
 |zero=>
  intro n i hi hn
  obtain ⟨n,rfl⟩:∃ q,n=q+1:= ⟨n - 1,by omega⟩
  conv=>lhs;unfold L23_7
  rw [ilt_f (by unfold len;omega),cond_false,List.drop_eq_nil_of_le (by omega)]
  rfl
 |succ m ih=>
  intro n i hi hn
  obtain ⟨n,rfl⟩:∃ q,n=q+1:= ⟨n - 1,by omega⟩
  have hil:i<S.length:=by omega
  have hx:S[i]? =some S[i]:=List.getElem?_eq_getElem hil
  have w1:IntKind.wrap .i64 ((i:Int)+1)=((i+1:Nat):Int):=by rw [wrap_id (by omega) (by omega)];omega
  have e0:ile (0:Int) (i:Int)=true:=ile_t (by omega)
  have e1:ilt (i:Int) (len S)=true:=ilt_t (by unfold len;omega)
  conv=>lhs;unfold L23_7
  simp only [e1,cond_true,e0,Bool.and_true,Int.toNat_natCast,hx,Option.bind_some,he _ (List.getElem_mem hil) (n+1) (by omega),w1]
  rw [List.drop_eq_getElem_cons hil,List.any_cons]
  cases hq:e k S[i] with
  |true=>rfl
  |false=>
   rw [cond_false,ih n (i+1) (by omega) (by omega),Bool.false_or]
structure ColOK (N:Nat) (t2:List Int) (e:Int→Int→Bool):Prop where
 len:t2.length=N
 ok:∀ a b:Int,0≤a→a<(N:Int)→0≤b→b<(N:Int)→e a b=true→t2[a.toNat]? =t2[b.toNat]?
theorem any_filter (e:Int→Int→Bool) (t2:List Int) (k:Int):∀ S:List Int,(∀ s∈S,e k s=true→t2[k.toNat]? =t2[s.toNat]?)→(S.filter fun s=>t2[s.toNat]? ==t2[k.toNat]?).any (e k)=S.any (e k):=by
 intro S
 induction S with
 |nil=>intro _;rfl
 |cons a S ih=>
  intro h
  have ih:=ih fun s hs=>h s (List.mem_cons_of_mem _ hs)
  rw [List.filter_cons,List.any_cons]
  cases hq:e k a with
  |true=>
   have:=h a (List.mem_cons_self ..) hq
   rw [if_pos (by rw [this];exact beq_self_eq_true _),List.any_cons,hq]
   rfl
  |false=>
   split
   ·rw [List.any_cons,hq,ih]
   ·rw [ih];rfl
theorem L23_3_spec (g1:List NodT) (c1 t2:List Int) (x0:Int) (x1 x2:TX) (l:List Int) (x4:Bool) (e:Int→Int→Bool) (F:Nat) (hl:l.length≤100000) (hc:ColOK g1.length t2 e) (hin:∀ c∈l,0≤c∧c<(g1.length:Int))
  (he:∀ a b,0≤a→a<(g1.length:Int)→0≤b→b<(g1.length:Int)→∀ n,F≤n→equalG n (g1,c1) a b=some (e a b,())):
  ∀ (q n i:Nat) (S:List Int) (m:List (Int×List Int)),l.length≤i+q→S.length≤i→i≤l.length+1→q+F+100010<n→(∀ c∈S,0≤c∧c<(g1.length:Int))→
   (∀ k,0≤k→k<(g1.length:Int)→∀ y,t2[k.toNat]? =some y→mgetD KZ m y []=S.filter fun s=>t2[s.toNat]? ==some y)→
   ∃ m',L23_3 n t2 (i:Int) g1 c1 x0 x1 x2 l x4 m=some (if dup e S (evens (l.drop i)) then .inr ((true,()),((g1,(c1,())),((x0,(x1,(x2,(l,(x4,()))))),(m',())))) else .inl ((),((g1,(c1,())),((x0,(x1,(x2,(l,(x4,()))))),(m',()))))):=by
 intro q
 induction q with
 |zero=>
  intro n i S m hi _ _ hn _ _
  obtain ⟨n,rfl⟩:∃ q,n=q+1:= ⟨n - 1,by omega⟩
  refine ⟨m,?_⟩
  conv=>lhs;unfold L23_3
  rw [ilt_f (by unfold len;omega),cond_false,List.drop_eq_nil_of_le (by omega)]
  rfl
 |succ q ih=>
  intro n i S m hi hSi hil1 hn hSin hm
  obtain ⟨n,rfl⟩:∃ q,n=q+1:= ⟨n - 1,by omega⟩
  by_cases hil:i<l.length
  ·have hx:l[i]? =some l[i]:=List.getElem?_eq_getElem hil
   obtain ⟨k1,k2⟩:=hin _ (List.getElem_mem hil)
   have hlen:=hc.len
   have hkl:(l[i]).toNat<t2.length:=by omega
   have ht : t2[(l[i]).toNat]? = some (t2[(l[i]).toNat]'hkl) := List.getElem?_eq_getElem hkl
   generalize hy : t2[(l[i]).toNat]'hkl = y at ht
   have hmy:=hm _ k1 k2 y ht
   generalize hLa:S.filter (fun s=>t2[s.toNat]? ==some y)=La at hmy
   have hLS:La.length≤S.length:=by rw [←hLa];exact List.length_filter_le _ _
   have hLm:∀ o∈La,o∈S:=fun o ho=>by rw [←hLa] at ho;exact (List.mem_filter.1 ho).1
   have hinn:=L23_7_spec g1 c1 t2 (i:Int) l[i] x0 x1 x2 l x4 e F La (by omega) (fun o ho n hn=>he _ _ k1 k2 (hSin _ (hLm o ho)).1 (hSin _ (hLm o ho)).2 n hn) La.length (n+1) 0 (by omega) (by omega)
   rw [List.drop_zero] at hinn
   have hany:La.any (e l[i])=S.any (e l[i]):=by
    rw [←hLa,←any_filter e t2 l[i] S (fun s hs h=>hc.ok _ _ k1 k2 (hSin s hs).1 (hSin s hs).2 h),ht]
   rw [hany] at hinn
   have e0:ile (0:Int) (i:Int)=true:=ile_t (by omega)
   have e1:ilt (i:Int) (len l)=true:=ilt_t (by unfold len;omega)
   have e2:ile (0:Int) l[i]=true:=ile_t k1
   have hdr:l.drop i=l[i]::l.drop (i+1):=List.drop_eq_getElem_cons hil
   have hev:evens (l.drop i)=l[i]::evens (l.drop (i+2)):=by
    rw [hdr]
    cases hq2:l.drop (i+1) with
    |nil=>
     have:l.drop (i+2)= []:=by
      have h:=List.length_drop (l:=l) (i:=i+1)
      rw [hq2,List.length_nil] at h
      exact List.drop_eq_nil_of_le (by omega)
     rw [this];rfl
    |cons a r=>
     have:l.drop (i+2)=r:=by
      have h:(l.drop (i+1)).drop 1=r:=by rw [hq2];rfl
      rw [List.drop_drop] at h;exact h
     rw [this];rfl
   rw [hev]
   have hd:dup e S (l[i]::evens (l.drop (i+2)))=(S.any (e l[i]) ||dup e (S++ [l[i]]) (evens (l.drop (i+2)))):=rfl
   rw [hd]
   have hinn':L23_7 (n+1) t2 (i:Int) l[i] (len La) 0 g1 c1 x0 x1 x2 l x4 La=_:=hinn
   cases hq:S.any (e l[i]) with
   |true=>
    rw [hq] at hinn'
    refine ⟨mset KZ m y La,?_⟩
    conv=>lhs;unfold L23_3
    simp only [e1,cond_true,e0,Int.toNat_natCast,hx,Option.bind_some,e2,ht,hmy,hinn',if_true,Bool.true_or]
   |false=>
    rw [hq] at hinn'
    have hself:mset KZ m y La=m:=by rw [←hmy];exact kmset_self y [] m
    have w2:IntKind.wrap .i64 ((i:Int)+2)=((i+2:Nat):Int):=by rw [wrap_id (by omega) (by omega)];omega
    have r1:room ((La.length+(List.length (l[i]::([]:List Int))))*9)=true:=room_ok (by simp only [List.length_cons,List.length_nil];unfold roomy;omega)
    obtain ⟨m',hm'⟩:=ih n (i+2) (S++ [l[i]]) (mput KZ m y (La++ [l[i]])) (by omega) (by simp;omega) (by omega) (by omega) (fun c hcm=>by
     rcases List.mem_append.1 hcm with h |h
     ·exact hSin c h
     ·rw [List.mem_singleton] at h;subst h;exact ⟨k1,k2⟩) (fun k hk1 hk2 z hz=>by
     unfold mgetD
     rw [kmget_mput,List.filter_append]
     by_cases hzy:z=y
     ·subst hzy
      rw [if_pos rfl,hLa]
      have:(List.filter (fun s=>t2[s.toNat]? ==some z) [l[i]])= [l[i]]:=by rw [List.filter_cons,ht,beq_self_eq_true];rfl
      rw [this];rfl
     ·rw [if_neg hzy]
      have:(List.filter (fun s=>t2[s.toNat]? ==some z) [l[i]])= []:=by
       rw [List.filter_cons,ht]
       have:(some y==some z)=false:=by
        apply beq_false_of_ne;intro h;cases h;exact hzy rfl
       rw [this];rfl
      rw [this,List.append_nil]
      exact hm k hk1 hk2 z hz)
    refine ⟨m',?_⟩
    rw [Bool.false_or,←hm']
    conv=>lhs;unfold L23_3
    simp only [e1,cond_true,e0,Int.toNat_natCast,hx,Option.bind_some,e2,ht,hmy,hinn',Bool.false_eq_true,if_false,hself,r1,id,beq_self_eq_true,w2]
  ·refine ⟨m,?_⟩
   conv=>lhs;unfold L23_3
   rw [ilt_f (by unfold len;omega),cond_false,List.drop_eq_nil_of_le (by omega)]
   rfl
theorem twice_spec (n:Nat) (g1:List NodT) (c1 t2:List Int) (x:NodT) (e:Int→Int→Bool) (F:Nat) (hl:x.2.2.2.1.length≤100000) (hc:ColOK g1.length t2 e) (hin:∀ c∈x.2.2.2.1,0≤c∧c<(g1.length:Int))
  (he:∀ a b,0≤a→a<(g1.length:Int)→0≤b→b<(g1.length:Int)→∀ n,F≤n→equalG n (g1,c1) a b=some (e a b,())) (hn:F+300000≤n):
  twice n (g1,c1) x t2=some (dup e [] (evens x.2.2.2.1),()):=by
 obtain ⟨m',hm'⟩:=L23_3_spec g1 c1 t2 x.1 x.2.1 x.2.2.1 x.2.2.2.1 x.2.2.2.2 e F hl hc hin he x.2.2.2.1.length n 0 [] [] (by omega) (Nat.le_refl _) (by omega) (by omega) (fun c h=>by cases h) (fun k _ _ y _=>rfl)
 rw [List.drop_zero] at hm'
 have hm2:L23_3 n t2 0 g1 c1 x.1 x.2.1 x.2.2.1 x.2.2.2.1 x.2.2.2.2 []=_:=hm'
 unfold twice
 simp only [hm2,Option.bind_some]
 cases dup e [] (evens x.2.2.2.1)<;>rfl
end Go.Proofs.YtnddpppljnjmcaaGreatDoor
/- Plain functions for the program's. -/
namespace Go.Proofs.YtnddpppljnjmcaaGreatDoor
open Go Go.Iv Go.Gv
set_option maxRecDepth 100000
set_option linter.unusedVariables false
noncomputable def rightP (_n:Nat) (c:Int):Option (Bool×Unit):=
 Option.bind (bif (ile (0:Int) c) then
  bif (ile c (1114111:Int)) then
  bif (ilt c (55296:Int)) then
   some true
  else
  some (ilt (57343:Int) c)
  else
  some false
 else
 some false) fun b1=>
 some (b1,())
noncomputable def rightP_it:FnIt:= ⟨48,[(false,(.int .i64))],[(false,.bool)],0,fun n x=>rightP n x.1⟩
theorem rightP_ok (n:Nat):FnOK Tryz.prog hint shT rightP_it n:=
 FnOK.of (hk:=fun β=>(Known.mk [] []).hk β) (sh:=shT) (fun m _=>KnownOK.hook KnownOK.nil m) (fun x=>by kernel_rfl)
noncomputable def L37_23_Xexit1:Tm:= ⟨[(5,.one (.int .i64)),(6,.one (.int .i64)),(7,.one (.int .i64))],[],64,64,1000⟩
noncomputable def L37_23_Xret:Tm:= ⟨[(2,.one (.int .i64)),(3,.one (.int .i64))],[],64,64,1000⟩
noncomputable def L37_23_T:Tm:= ⟨[(0,.one (.lst .byte)),(5,.one (.int .i64)),(6,.one (.int .i64)),(7,.one (.int .i64)),(8,.one (.int .i64))],[],64,64,1000⟩
noncomputable def L37_23:Nat→(List UInt8)→Int→Int→Int→Int→Option (((Int×(Int×(Int×Unit)))×Unit)⊕((Int×(Int×Unit))×Unit))
 |0,_,_,_,_,_=>none
 |n+1,t0,t5,t6,t7,t8=>
 bif (ilt t8 t5) then
  bif (ile (0:Int) t8) then
  Option.bind (t0[(Int.toNat t8)]?) fun x9=>
  Option.bind (bif (ilt (IntKind.wrap .i64 (ub x9)) (128:Int)) then
   some true
  else
  some (ilt (191:Int) (IntKind.wrap .i64 (ub x9)))) fun b11=>
  bif b11 then
  some (.inr (((0:Int),((0:Int),())),()))
  else
  L37_23 n t0 t5 t6 (IntKind.wrap .i64 ((IntKind.wrap .i64 (t7*(64:Int)))+(andI Go.IntKind.i64 (IntKind.wrap .i64 (ub x9)) (63:Int)))) (IntKind.wrap .i64 (t8+(1:Int)))
  else none
 else
 some (.inl ((t5,(t6,(t7,()))),()))
noncomputable def L37_23_it:LoopIt:= ⟨37,23,none,L37_23_T,[(.exit 1,L37_23_Xexit1),(.ret,L37_23_Xret)],0,fun n x=>L37_23 n x.1.1 x.1.2.1 x.1.2.2.1 x.1.2.2.2.1 x.1.2.2.2.2.1,[]⟩
theorem L37_23_Xexit1_ok:L37_23_Xexit1.ok Tryz.prog hint:=Tm.okS rfl
theorem L37_23_Xret_ok:L37_23_Xret.ok Tryz.prog hint:=Tm.okS rfl
theorem L37_23_T_ok:L37_23_T.ok Tryz.prog hint:=Tm.okS rfl
theorem L37_23_ok:∀ n,LoopOK Tryz.prog hint shT L37_23_it n:=
 LoopOK.of (hk:=fun β=>(Known.mk [] []).hk β) (sh:=shT) (OneLoop.of (by kernel_rfl)) L37_23_T_ok ⟨⟨L37_23_Xexit1_ok,Nat.le_refl _,Nat.le_refl _⟩,⟨L37_23_Xret_ok,Nat.le_refl _,Nat.le_refl _⟩,trivial⟩ (fun m=>KnownOK.hook KnownOK.nil m)
  (fun _=>by kernel_rfl) (fun m x=>by kernel_rfl)
noncomputable def pointR (n:Nat) (b:List UInt8):Option (Int×(Int×Unit)):=
 Option.bind (b[0]?) fun x0=>
 bif (ilt (IntKind.wrap .i64 (ub x0)) (128:Int)) then
 some ((IntKind.wrap .i64 (ub x0)),(1:Int),())
 else
 Option.bind (bif (ile (194:Int) (IntKind.wrap .i64 (ub x0))) then
  some (ilt (IntKind.wrap .i64 (ub x0)) (224:Int))
 else
 some false) fun b2=>
 bif b2 then
 bif (ilt (len b) (2:Int)) then
  some ((0:Int),(0:Int),())
 else
 Option.bind (L37_23 (n+1) b (2:Int) (128:Int) (andI Go.IntKind.i64 (IntKind.wrap .i64 (ub x0)) (31:Int)) (1:Int)) fun y12=>
 match y12 with
  | .inl y13=>
  bif (ilt y13.1.2.2.1 y13.1.2.1) then
   some ((0:Int),(0:Int),())
  else
  Option.bind (rightP n y13.1.2.2.1) fun y15=>
  bif (!y15.1) then
   some ((0:Int),(0:Int),())
  else
  some (y13.1.2.2.1,y13.1.1,())
  | .inr y14=>
  some (y14.1.1,y14.1.2.1,())
 else
 Option.bind (bif (ile (224:Int) (IntKind.wrap .i64 (ub x0))) then
  some (ilt (IntKind.wrap .i64 (ub x0)) (240:Int))
 else
 some false) fun b17=>
 bif b17 then
 bif (ilt (len b) (3:Int)) then
  some ((0:Int),(0:Int),())
 else
 Option.bind (L37_23 (n+1) b (3:Int) (2048:Int) (andI Go.IntKind.i64 (IntKind.wrap .i64 (ub x0)) (15:Int)) (1:Int)) fun y18=>
 match y18 with
  | .inl y19=>
  bif (ilt y19.1.2.2.1 y19.1.2.1) then
   some ((0:Int),(0:Int),())
  else
  Option.bind (rightP n y19.1.2.2.1) fun y21=>
  bif (!y21.1) then
   some ((0:Int),(0:Int),())
  else
  some (y19.1.2.2.1,y19.1.1,())
  | .inr y20=>
  some (y20.1.1,y20.1.2.1,())
 else
 Option.bind (bif (ile (240:Int) (IntKind.wrap .i64 (ub x0))) then
  some (ilt (IntKind.wrap .i64 (ub x0)) (245:Int))
 else
 some false) fun b23=>
 bif b23 then
 bif (ilt (len b) (4:Int)) then
  some ((0:Int),(0:Int),())
 else
 Option.bind (L37_23 (n+1) b (4:Int) (65536:Int) (andI Go.IntKind.i64 (IntKind.wrap .i64 (ub x0)) (7:Int)) (1:Int)) fun y24=>
 match y24 with
  | .inl y25=>
  bif (ilt y25.1.2.2.1 y25.1.2.1) then
   some ((0:Int),(0:Int),())
  else
  Option.bind (rightP n y25.1.2.2.1) fun y27=>
  bif (!y27.1) then
   some ((0:Int),(0:Int),())
  else
  some (y25.1.2.2.1,y25.1.1,())
  | .inr y26=>
  some (y26.1.1,y26.1.2.1,())
 else
 some ((0:Int),(0:Int),())
noncomputable def pointR_it:FnIt:= ⟨37,[(false,(.slc .byte))],[(false,(.int .i64)),(false,(.int .i64))],1,fun n x=>pointR n x.1⟩
theorem pointR_ok (n:Nat):FnOK Tryz.prog hint shT pointR_it n:=
 FnOK.of (hk:=fun β=>(Known.mk [rightP_it] [L37_23_it]).hk β) (sh:=shT) (fun m _=>KnownOK.hook ((KnownOK.nil.loop L37_23_ok L37_23_T_ok).fn rightP_ok) m) (fun x=>by kernel_rfl)
noncomputable def L25_3_Xexit0:Tm:= ⟨[(4,.one (.all 64 3 (.int .i64) .ex))],[],64,65,1000⟩
noncomputable def L25_3_Xret:Tm:= ⟨[(2,.one (.fix (TV.raw (Go.Value.slice (Option.none) 0 0)))),(3,.one (.bool))],[],64,64,1000⟩
noncomputable def L25_3_T:Tm:= ⟨[(0,.one (.lst .byte)),(4,.one (.all 64 3 (.int .i64) .ex)),(5,.one (.int .i64))],[],64,65,1000⟩
noncomputable def L25_3:Nat→(List UInt8)→(List Int)→Int→Option ((((List Int)×Unit)×Unit)⊕((Unit×(Bool×Unit))×Unit))
 |0,_,_,_=>none
 |n+1,t0,t4,t5=>
 bif (ilt t5 (len t0)) then
  bif ((ile (0:Int) t5) &&(ile t5 (len t0))) then
  Option.bind (pointR (n+1) (List.take ((List.length t0) - (Int.toNat t5)) (List.drop (Int.toNat t5) t0))) fun y3=>
  bif (y3.2.1==(0:Int)) then
  some (.inr (((),(false,())),()))
  else
  bif (room (((List.length t4)+(List.length (y3.1::([]:List Int))))*9)) then
  L25_3 n t0 (t4++(y3.1::([]:List Int))) (IntKind.wrap .i64 (t5+y3.2.1))
  else none
  else none
 else
 some (.inl ((t4,()),()))
noncomputable def L25_3_it:LoopIt:= ⟨25,3,none,L25_3_T,[(.exit 0,L25_3_Xexit0),(.ret,L25_3_Xret)],2,fun n x=>L25_3 n x.1.1 x.1.2.1 x.1.2.2.1,[]⟩
theorem L25_3_Xexit0_ok:L25_3_Xexit0.ok Tryz.prog hint:=Tm.okS rfl
theorem L25_3_Xret_ok:L25_3_Xret.ok Tryz.prog hint:=Tm.okS rfl
theorem L25_3_T_ok:L25_3_T.ok Tryz.prog hint:=Tm.okS rfl
theorem L25_3_ok:∀ n,LoopOK Tryz.prog hint shT L25_3_it n:=
 LoopOK.of (hk:=fun β=>(Known.mk [pointR_it] []).hk β) (sh:=shT) (OneLoop.of (by kernel_rfl)) L25_3_T_ok ⟨⟨L25_3_Xexit0_ok,Nat.le_refl _,Nat.le_refl _⟩,⟨L25_3_Xret_ok,Nat.le_refl _,Nat.le_refl _⟩,trivial⟩ (fun m=>KnownOK.hook (KnownOK.nil.fn pointR_ok) m)
  (fun _=>by kernel_rfl) (fun m x=>by kernel_rfl)
noncomputable def smallR (n:Nat) (b:List UInt8):Option ((List Int)×(Bool×Unit)):=
 Option.bind (L25_3 n b ([]:List Int) (0:Int)) fun y4=>
 match y4 with
 | .inl y5=>
  some (y5.1.1,true,())
 | .inr y6=>
  some (([]:List Int),y6.1.2.1,())
noncomputable def smallR_it:FnIt:= ⟨25,[(false,(.slc .byte))],[(false,(.slc (.int .i64))),(false,.bool)],2,fun n x=>smallR n x.1⟩
theorem smallR_ok (n:Nat):FnOK Tryz.prog hint shT smallR_it n:=
 FnOK.of (hk:=fun β=>(Known.mk [] [L25_3_it]).hk β) (sh:=shT) (fun m _=>KnownOK.hook (KnownOK.nil.loop L25_3_ok L25_3_T_ok) m) (fun x=>by kernel_rfl)
noncomputable def textP (n:Nat) (s:List UInt8):Option ((List Int)×(Bool×Unit)):=
 Option.bind (smallR n s) fun y0=>
 some (y0.1,y0.2.1,())
noncomputable def textP_it:FnIt:= ⟨18,[(false,.str)],[(false,(.slc (.int .i64))),(false,.bool)],3,fun n x=>textP n x.1⟩
theorem textP_ok (n:Nat):FnOK Tryz.prog hint shT textP_it n:=
 FnOK.of (hk:=fun β=>(Known.mk [smallR_it] []).hk β) (sh:=shT) (fun m _=>KnownOK.hook (KnownOK.nil.fn smallR_ok) m) (fun x=>by kernel_rfl)
end Go.Proofs.YtnddpppljnjmcaaGreatDoor
/- The document's decoding of bytes. -/
namespace Go.Proofs.YtnddpppljnjmcaaGreatDoor
open Go Go.Iv Go.Gv
set_option maxRecDepth 10000
theorem tkd {α:Type} (l:List α) (k:Nat):List.take (l.length - k) (List.drop k l)=List.drop k l:=List.take_of_length_le (by simp)
theorem roomle {n:Nat} (h:n≤1099511627776):room n=true:=room_ok h
def okc (c:Int):Bool:=decide (0≤c∧c≤1114111∧(c<55296∨57343<c))
theorem right_spec (n:Nat) (c:Int):rightP n c=some (okc c,()):=by
 unfold rightP okc
 rw [ile_eq,ile_eq,ilt_eq,ilt_eq]
 by_cases h1:(0:Int)≤c<;>by_cases h2:c≤1114111<;>by_cases h3:c<55296<;>simp only [h1,h2,h3,decide_true,decide_false,cond_true,cond_false,true_and,false_and,true_or,false_or,Bool.decide_and,Option.bind_some]
def cont (x:UInt8):Prop:=128≤ub x∧ub x≤191
instance (x:UInt8):Decidable (cont x):=inferInstanceAs (Decidable (_∧_))
def v2 (a b:UInt8):Int:=(ub a%32)*64+ub b%64
def v3 (a b c:UInt8):Int:=((ub a%16)*64+ub b%64)*64+ub c%64
def v4 (a b c d:UInt8):Int:=(((ub a%8)*64+ub b%64)*64+ub c%64)*64+ub d%64
def pt:List UInt8→Option (Int×Nat)
 | []=>none
 |a::r=>
  if ub a<128 then some (ub a,1)
  else if ub a<194 then none
  else if ub a<224 then match r with
   |b::_=>if cont b then some (v2 a b,2) else none
   |_=>none
  else if ub a<240 then match r with
   |b::c::_=>if cont b∧cont c∧2048≤v3 a b c∧okc (v3 a b c)=true then some (v3 a b c,3) else none
   |_=>none
  else if ub a<245 then match r with
   |b::c::d::_=>if cont b∧cont c∧cont d∧65536≤v4 a b c d∧okc (v4 a b c d)=true then some (v4 a b c d,4) else none
   |_=>none
  else none
theorem pt_ok {l:List UInt8} {c:Int} {k:Nat} (h:pt l=some (c,k)):okc c=true∧1≤k∧k≤l.length∧0≤c∧c≤1114111:=by
 have fin:∀ {c:Int} {k:Nat},okc c=true→1≤k→k≤l.length→okc c=true∧1≤k∧k≤l.length∧0≤c∧c≤1114111:=fun h1 h2 h3=>by
  have:=of_decide_eq_true h1;exact ⟨h1,h2,h3,by omega,by omega⟩
 unfold pt at h
 match l,h with
 |a::r,h=>
  have ha:=ub_lt a
  dsimp only at h
  split at h
  ·cases h;exact fin (decide_eq_true (by omega)) (by omega) (by simp)
  split at h
  ·cases h
  split at h
  ·split at h
   ·split at h
    ·cases h
     refine fin (decide_eq_true ?_) (by omega) (by simp)
     unfold v2;omega
    ·cases h
   ·cases h
  split at h
  ·split at h
   ·split at h
    ·rename_i hh;cases h;exact fin hh.2.2.2 (by omega) (by simp)
    ·cases h
   ·cases h
  split at h
  ·split at h
   ·split at h
    ·rename_i hh;cases h;exact fin hh.2.2.2.2 (by omega) (by simp)
    ·cases h
   ·cases h
  ·cases h
theorem and63 {x:Int} (h1:0≤x) (h2:x<1000):andI .i64 x 63=x%64:=andI_i64 6 (by decide) x h1 (by omega)
theorem and31 {x:Int} (h1:0≤x) (h2:x<1000):andI .i64 x 31=x%32:=andI_i64 5 (by decide) x h1 (by omega)
theorem and15 {x:Int} (h1:0≤x) (h2:x<1000):andI .i64 x 15=x%16:=andI_i64 4 (by decide) x h1 (by omega)
theorem and7 {x:Int} (h1:0≤x) (h2:x<1000):andI .i64 x 7=x%8:=andI_i64 3 (by decide) x h1 (by omega)
theorem cstep (n:Nat) (b:List UInt8) (N L c:Int) (k:Nat) (y:UInt8) (hk:b[k]? =some y) (hN:(k:Int)<N) (hN2:N<100) (h1:0≤c) (h2:c<1099511627776):
  L37_23 (n+1) b N L c (k:Int)=if cont y then L37_23 n b N L (c*64+ub y%64) ((k+1:Nat):Int) else some (.inr ((0,(0,())),())):=by
 have hy:=ub_lt y
 have w:IntKind.wrap .i64 ((k:Int)+1)=((k+1:Nat):Int):=by rw [wrap_id]<;>omega
 have e0:(Int.toNat (k:Int))=k:=rfl
 conv=>lhs;unfold L37_23
 simp only [ilt_t hN,ile_t (show (0:Int)≤k by omega),cond_true,e0,hk,Option.bind_some,ub_wrap,w]
 by_cases h3:ub y<128
 ·rw [ilt_t h3,if_neg (fun h=>by have:=h.1;omega)];rfl
 ·rw [ilt_f (show 128≤ub y by omega),cond_false]
  by_cases h4:191<ub y
  ·rw [ilt_t h4,if_neg (fun h=>by have:=h.2;omega)];rfl
  ·rw [ilt_f (show ub y≤191 by omega),if_pos ⟨by omega,by omega⟩]
   simp only [Option.bind_some,cond_false]
   rw [and63 (by omega) (by omega),wrap_id (x:=c*64) (by omega) (by omega),wrap_id (by omega) (by omega)]
theorem cend (n:Nat) (b:List UInt8) (N L c:Int):L37_23 (n+1) b N L c N=some (.inl ((N,(L,(c,()))),())):=by
 simp only [L37_23,ilt_f (show N≤N by omega),cond_false]
def rp:Option (Int×Nat)→Int×(Int×Unit)
 |some (c,k)=>(c,((k:Int),()))
 |none=>(0,(0,()))
theorem tail_spec (n:Nat) (L c N:Int):
  (bif Go.Iv.ilt c L then some (0,(0,())) else Option.bind (rightP n c) fun y=>bif !y.1 then some (0,(0,())) else some (c,(N,())))=if L≤c∧okc c=true then some (c,(N,())) else some ((0:Int),((0:Int),())):=by
 rw [right_spec]
 by_cases h:c<L
 ·rw [ilt_t h,if_neg (fun hh=>by omega)];rfl
 ·rw [ilt_f (by omega)]
  cases okc c with
  |false=>rw [if_neg (fun hh=>by cases hh.2)];rfl
  |true=>rw [if_pos ⟨by omega,rfl⟩];rfl
theorem pointR_spec (n:Nat) (a:UInt8) (r:List UInt8) (hn:10≤n) (hr:r.length<10000000):pointR n (a::r)=some (rp (pt (a::r))):=by
 obtain ⟨n,rfl⟩:∃ m,n=m+10:= ⟨n - 10,by omega⟩
 have ha:=ub_lt a
 have hp:=pt.eq_def (a::r)
 dsimp only at hp
 rw [hp]
 unfold pointR
 simp only [List.getElem?_cons_zero,Option.bind_some,ub_wrap,len]
 by_cases h1:ub a<128
 ·rw [ilt_t h1,if_pos h1];rfl
 rw [ilt_f (show 128≤ub a by omega),if_neg h1]
 simp only [cond_true,cond_false,Option.bind_some]
 by_cases h2:ub a<194
 ·rw [ile_f h2,if_pos h2,ile_f (show ub a<224 by omega),ile_f (show ub a<240 by omega)];rfl
 rw [ile_t (show 194≤ub a by omega),if_neg h2]
 simp only [cond_true,cond_false,Option.bind_some]
 by_cases h3:ub a<224
 ·rw [ilt_t h3,if_pos h3]
  simp only [cond_true,cond_false,Option.bind_some]
  match r,hr with
  | [],_=>rfl
  |b::s,hr=>
   have hb:=ub_lt b
   simp only [List.length_cons] at hr ⊢
   rw [ilt_f (show (2:Int)≤((s.length+1+1:Nat):Int) by omega),and31 (by omega) (by omega)]
   have s1:=cstep (n+10) (a::b::s) 2 128 (ub a%32) 1 b rfl (by decide) (by decide) (by omega) (by omega)
   have s2:=cend (n+9) (a::b::s) 2 128 (ub a%32*64+ub b%64)
   simp only [cond_true,cond_false,Option.bind_some]
   refine (congrArg (fun z=>Option.bind z _) s1).trans ?_
   by_cases hc:cont b
   ·rw [if_pos hc,if_pos hc]
    refine (congrArg (fun z=>Option.bind z _) s2).trans ?_
    simp only [Option.bind_some]
    rw [tail_spec,if_pos ⟨by omega,decide_eq_true (by omega)⟩]
    rfl
   ·rw [if_neg hc,if_neg hc];rfl
 rw [ilt_f (show 224≤ub a by omega),if_neg h3]
 simp only [cond_true,cond_false,Option.bind_some]
 rw [ile_t (show 224≤ub a by omega)]
 simp only [cond_true,cond_false,Option.bind_some]
 by_cases h4:ub a<240
 ·rw [ilt_t h4,if_pos h4]
  simp only [cond_true,cond_false,Option.bind_some]
  match r,hr with
  | [],_=>rfl
  | [b],_=>rfl
  |b::c::s,hr=>
   have hb:=ub_lt b
   have hc:=ub_lt c
   simp only [List.length_cons] at hr ⊢
   rw [ilt_f (show (3:Int)≤((s.length+1+1+1:Nat):Int) by omega),and15 (by omega) (by omega)]
   have s1:=cstep (n+10) (a::b::c::s) 3 2048 (ub a%16) 1 b rfl (by decide) (by decide) (by omega) (by omega)
   have s2:=cstep (n+9) (a::b::c::s) 3 2048 (ub a%16*64+ub b%64) 2 c rfl (by decide) (by decide) (by omega) (by omega)
   have s3:=cend (n+8) (a::b::c::s) 3 2048 (v3 a b c)
   simp only [cond_true,cond_false,Option.bind_some]
   refine (congrArg (fun z=>Option.bind z _) s1).trans ?_
   by_cases hb2:cont b
   ·rw [if_pos hb2]
    refine (congrArg (fun z=>Option.bind z _) s2).trans ?_
    by_cases hc2:cont c
    ·rw [if_pos hc2]
     refine (congrArg (fun z=>Option.bind z _) s3).trans ?_
     simp only [Option.bind_some]
     rw [tail_spec]
     by_cases hv:2048≤v3 a b c∧okc (v3 a b c)=true
     ·rw [if_pos hv,if_pos ⟨hb2,hc2,hv⟩];rfl
     ·rw [if_neg hv,if_neg (fun h=>hv h.2.2)];rfl
    ·rw [if_neg hc2,if_neg (fun h=>hc2 h.2.1)];rfl
   ·rw [if_neg hb2,if_neg (fun h=>hb2 h.1)];rfl
 rw [ilt_f (show 240≤ub a by omega),if_neg h4]
 simp only [cond_true,cond_false,Option.bind_some]
 rw [ile_t (show 240≤ub a by omega)]
 simp only [cond_true,cond_false,Option.bind_some]
 by_cases h5:ub a<245
 ·rw [ilt_t h5,if_pos h5]
  simp only [cond_true,cond_false,Option.bind_some]
  match r,hr with
  | [],_=>rfl
  | [b],_=>rfl
  | [b,c],_=>rfl
  |b::c::d::s,hr=>
   have hb:=ub_lt b
   have hc:=ub_lt c
   have hd:=ub_lt d
   simp only [List.length_cons] at hr ⊢
   rw [ilt_f (show (4:Int)≤((s.length+1+1+1+1:Nat):Int) by omega),and7 (by omega) (by omega)]
   have s1:=cstep (n+10) (a::b::c::d::s) 4 65536 (ub a%8) 1 b rfl (by decide) (by decide) (by omega) (by omega)
   have s2:=cstep (n+9) (a::b::c::d::s) 4 65536 (ub a%8*64+ub b%64) 2 c rfl (by decide) (by decide) (by omega) (by omega)
   have s3:=cstep (n+8) (a::b::c::d::s) 4 65536 ((ub a%8*64+ub b%64)*64+ub c%64) 3 d rfl (by decide) (by decide) (by omega) (by omega)
   have s4:=cend (n+7) (a::b::c::d::s) 4 65536 (v4 a b c d)
   simp only [cond_true,cond_false,Option.bind_some]
   refine (congrArg (fun z=>Option.bind z _) s1).trans ?_
   by_cases hb2:cont b
   ·rw [if_pos hb2]
    refine (congrArg (fun z=>Option.bind z _) s2).trans ?_
    by_cases hc2:cont c
    ·rw [if_pos hc2]
     refine (congrArg (fun z=>Option.bind z _) s3).trans ?_
     by_cases hd2:cont d
     ·rw [if_pos hd2]
      refine (congrArg (fun z=>Option.bind z _) s4).trans ?_
      simp only [Option.bind_some]
      rw [tail_spec]
      by_cases hv:65536≤v4 a b c d∧okc (v4 a b c d)=true
      ·rw [if_pos hv,if_pos ⟨hb2,hc2,hd2,hv⟩];rfl
      ·rw [if_neg hv,if_neg (fun h=>hv h.2.2.2)];rfl
     ·rw [if_neg hd2,if_neg (fun h=>hd2 h.2.2.1)];rfl
    ·rw [if_neg hc2,if_neg (fun h=>hc2 h.2.1)];rfl
   ·rw [if_neg hb2,if_neg (fun h=>hb2 h.1)];rfl
 rw [ilt_f (show 245≤ub a by omega),if_neg h5]
 rfl
attribute [local irreducible] pointR pt smallR rightP
def d8:Nat→List UInt8→Option (List Int)
 |_,[]=>some []
 |0,_::_=>none
 |n+1,a::r=>match pt (a::r) with
  |none=>none
  |some (c,k)=>(d8 n ((a::r).drop k)).map (c::·)
theorem sR (b:List UInt8) (hb:b.length<4194304):∀ (m:Nat) (r:List UInt8) (n i:Nat) (o:List Int),r.length≤m→b.drop i=r→i≤b.length→o.length+r.length<10000000→m+12≤n→
  L25_3 n b o (i:Int)=match d8 m r with
   |some xs=>some (.inl ((o++xs,()),()))
   |none=>some (.inr (((),(false,())),())):=by
 intro m
 induction m with
 |zero=>
  intro r n i o hm hr hi ho hn
  obtain ⟨n,rfl⟩:∃ k,n=k+1:= ⟨n - 1,by omega⟩
  have:r= []:=List.length_eq_zero_iff.1 (by omega)
  subst this
  have hlen:b.length≤i:=by simpa using hr
  simp only [L25_3,len,ilt_f (show (b.length:Int)≤i by omega),cond_false,d8,List.append_nil]
 |succ m ih=>
  intro r n i o hm hr hi ho hn
  obtain ⟨n,rfl⟩:∃ k,n=k+1:= ⟨n - 1,by omega⟩
  have hlen:b.length=i+r.length:=by rw [←hr];simp;omega
  cases r with
  |nil=>
   simp at hlen
   simp only [L25_3,len,ilt_f (show (b.length:Int)≤i by omega),cond_false,d8,List.append_nil]
  |cons a r=>
   simp only [List.length_cons] at hlen hm ho
   have e0:(Int.toNat (i:Int))=i:=rfl
   have hd0:List.take (b.length - i) (List.drop i b)=a::r:=(tkd b i).trans hr
   simp only [L25_3,len,ilt_t (show (i:Int)<b.length by omega),ile_t (show (0:Int)≤i by omega),ile_t (show (i:Int)≤b.length by omega),Bool.and_self,cond_true,e0,hd0,pointR_spec (n+1) a r (by omega) (by omega),Option.bind_some,d8]
   cases hp:pt (a::r) with
   |none=>rfl
   |some q=>
    obtain ⟨c,k⟩:=q
    obtain ⟨k1,k2,k3,k4,k5⟩:=pt_ok hp
    simp only [List.length_cons] at k3
    have w:IntKind.wrap .i64 ((i:Int)+k)=((i+k:Nat):Int):=by rw [wrap_id]<;>omega
    have z:((k:Int)==0)=false:=by rw [beq_eq_false_iff_ne];omega
    have hd:b.drop (i+k)=(a::r).drop k:=by rw [←List.drop_drop,hr]
    simp only [rp,z,cond_false,List.length_cons,List.length_nil,roomle (show (o.length+(0+1))*9≤1099511627776 by omega),cond_true,w]
    rw [ih ((a::r).drop k) n (i+k) (o++ [c]) (by simp;omega) hd (by omega) (by simp;omega) (by omega)]
    cases d8 m ((a::r).drop k) with
    |none=>rfl
    |some xs=>simp only [Option.map_some,List.append_assoc,List.cons_append,List.nil_append]
theorem smallR_spec (n:Nat) (b:List UInt8) (hb:b.length<4194304) (hn:b.length+12≤n):smallR n b=some (match d8 b.length b with
  |some xs=>(xs,(true,()))
  |none=>([],(false,()))):=by
 unfold smallR
 rw [show (0:Int)=((0:Nat):Int) from rfl,sR b hb b.length b n 0 [] (by omega) rfl (by omega) (by simp;omega) hn]
 cases d8 b.length b<;>rfl
end Go.Proofs.YtnddpppljnjmcaaGreatDoor
/- Which texts are right: by the reference and by the program. -/
namespace Go.Proofs.YtnddpppljnjmcaaGreatDoor
open Go Go.Iv Go.Gv
set_option maxRecDepth 200000
theorem textP_spec (n:Nat) (b:List UInt8) (hb:b.length<4194304) (hn:b.length+12≤n):textP n b=some (match d8 b.length b with
  |some xs=>(xs,(true,()))
  |none=>([],(false,()))):=by
 unfold textP
 rw [smallR_spec n b hb hn]
 cases d8 b.length b<;>rfl
theorem pt_low {a:UInt8} {r:List UInt8} {c:Int} {k:Nat} (h:pt (a::r)=some (c,k)) (hc:c<128∨k=1):ub a<128∧c=ub a∧k=1:=by
 have ha:=ub_lt a
 have hp:=pt.eq_def (a::r)
 dsimp only at hp
 rw [hp] at h
 split at h
 ·rename_i q;cases h;exact ⟨q,rfl,rfl⟩
 split at h
 ·cases h
 split at h
 ·split at h
  ·rename_i b s
   have:=ub_lt b
   split at h
   ·cases h;unfold v2 at hc;omega
   ·cases h
  ·cases h
 split at h
 ·split at h
  ·split at h
   ·rename_i hh;cases h;have:=hh.2.2.1;omega
   ·cases h
  ·cases h
 split at h
 ·split at h
  ·split at h
   ·rename_i hh;cases h;have:=hh.2.2.2.1;omega
   ·cases h
  ·cases h
 ·cases h
def dpN:Option (Int×Nat)→Nat×Nat
 |some (c,k)=>(c.toNat,k)
 |none=>(65533,1)
set_option maxHeartbeats 4000000 in
theorem dec_pt (a:UInt8) (r:List UInt8):Go.Lib.decodeL (a::r)=dpN (pt (a::r)):=by
 rw [Go.Lib.decodeL_N]
 have ha:=a.toNat_lt
 have u:∀ x:UInt8,ub x=(x.toNat:Int):=fun _=>rfl
 have fin:∀ {x y:Nat} {k:Nat},x=y→((x,k):Nat×Nat)=(y,k):=fun h=>by rw [h]
 match r with
 | []=>
  show Go.Lib.decodeN 1 a.toNat 0 0 0=_
  unfold Go.Lib.decodeN
  by_cases h1:a.toNat<128
  ·have e1:pt [a]=some (ub a,1):=by unfold pt;rw [if_pos (by rw [u];omega)]
   rw [if_pos h1,e1]
   rfl
  ·have e1:pt [a]=none:=by
    unfold pt
    rw [if_neg (by rw [u];omega)]
    repeat' split
    all_goals first |rfl |contradiction
   rw [if_neg h1,if_neg (by omega),if_neg (by omega),if_neg (by omega),e1]
   simp only [dpN]
 | [b]=>
  have hb:=b.toNat_lt
  show Go.Lib.decodeN 2 a.toNat b.toNat 0 0=_
  have hp:=pt.eq_def (a:: [b])
  dsimp only at hp
  rw [hp]
  clear hp
  simp only [u,cont,v2,apply_ite dpN]
  unfold Go.Lib.decodeN
  repeat' split
  all_goals first
   |(exfalso;omega)
   |exact fin (by omega)
   |rfl
 | [b,c]=>
  have hb:=b.toNat_lt
  have hc:=c.toNat_lt
  show Go.Lib.decodeN 3 a.toNat b.toNat c.toNat 0=_
  have hp:=pt.eq_def (a:: [b,c])
  dsimp only at hp
  rw [hp]
  clear hp
  simp only [u,cont,v2,v3,okc,decide_eq_true_eq,apply_ite dpN]
  unfold Go.Lib.decodeN
  repeat' split
  all_goals first
   |(exfalso;omega)
   |exact fin (by omega)
   |rfl
 |b::c::d::s=>
  have hb:=b.toNat_lt
  have hc:=c.toNat_lt
  have hd:=d.toNat_lt
  show Go.Lib.decodeN (s.length+4) a.toNat b.toNat c.toNat d.toNat=_
  have hp:=pt.eq_def (a::b::c::d::s)
  dsimp only at hp
  rw [hp]
  clear hp
  simp only [u,cont,v2,v3,v4,okc,decide_eq_true_eq,apply_ite dpN]
  unfold Go.Lib.decodeN
  repeat' split
  all_goals first
   |(exfalso;omega)
   |exact fin (by omega)
   |rfl
theorem validD_d8:∀ (m:Nat) (l:List UInt8),l.length≤m→Go.Lib.validD l=(d8 m l).isSome:=by
 intro m
 induction m with
 |zero=>intro l hl;cases l with
  |nil=>rfl
  |cons=>simp at hl
 |succ m ih=>
  intro l hl
  cases l with
  |nil=>rfl
  |cons a r=>
   rw [Go.Lib.validD_step _ (by simp),dec_pt a r]
   unfold d8
   cases hp:pt (a::r) with
   |none=>rfl
   |some q=>
    obtain ⟨c,k⟩:=q
    obtain ⟨k1,k2,k3,k4,k5⟩:=pt_ok hp
    have hq:¬ ((dpN (some (c,k))).1=65533∧(dpN (some (c,k))).2=1):=fun h=>by
     have h1:c.toNat=65533:=h.1
     have h2:k=1:=h.2
     obtain ⟨q1,q2,_⟩:=pt_low hp (.inr h2)
     omega
    rw [if_neg hq]
    show Go.Lib.validD ((a::r).drop k)=_
    simp only [List.length_cons] at k3 hl
    rw [ih ((a::r).drop k) (by simp;omega)]
    dsimp only
    cases d8 m ((a::r).drop k)<;>rfl
def textB (s:List UInt8):Bool:=decide (s.length≤262144) &&(d8 s.length s).isSome
theorem textOk_spec (n:Nat) (s:List UInt8) (hs:s.length<4194304):textOk n s=some (textB s,()):=by
 unfold textOk textB
 rw [ile_eq]
 by_cases h:s.length≤262144
 ·rw [decide_eq_true (show len s≤262144 by simp only [len];omega),decide_eq_true h,cond_true]
  have:Nat.ble (List.length s) 9223372036854775807=true:=by rw [Nat.ble_eq];omega
  rw [this,validD_d8 s.length s (Nat.le_refl _)];rfl
 ·rw [decide_eq_false (show ¬ len s≤262144 by simp only [len];omega),decide_eq_false h];rfl
end Go.Proofs.YtnddpppljnjmcaaGreatDoor
/- Graphs of one mapping whose keys are words: equal nodes, texts of their own. -/
namespace Go.Proofs.YtnddpppljnjmcaaGreatDoor
open Go Go.Iv Go.Gv
set_option maxRecDepth 100000
def sc (s:TX):NodT:=(1,(tagStr,(s,([],false))))
def top (l:List Int):NodT:=(3,([109],([],(l,false))))
def Wd (g1:List NodT):Prop:=∃ l r,g1=top l::r∧l.length≤40∧(∀ c∈l,0≤c∧c<(g1.length:Int))∧∀ x∈r,∃ s,x=sc s∧s.length≤60
theorem valueS_sc (n:Nat) (s:TX):valueS n tagStr s=some ((5,(false,((false,([],(0,0))),s))),0,()):=by kernel_rfl
theorem valuesE_sc (n:Nat) (s t:TX):valuesE n (5,(false,((false,([],(0,0))),s))) (5,(false,((false,([],(0,0))),t)))=some (s==t,()):=by
 unfold valuesE;rfl
theorem alike_sc (n:Nat) (s t:TX):alike n (sc s) (sc t)=some (s==t,()):=by
 unfold alike sc
 simp only [bne_self_eq_false,cond_false,beq_self_eq_true,Bool.not_true,valueS_sc,Option.bind_some,cond_true,valuesE_sc]
theorem alike_top1 (n:Nat) (l:List Int) (t:TX):alike n (top l) (sc t)=some (false,()):=by
 unfold alike sc top;rfl
theorem alike_top2 (n:Nat) (l:List Int) (t:TX):alike n (sc t) (top l)=some (false,()):=by
 unfold alike sc top;rfl
theorem L21_4_nil (n:Nat) (g1:List NodT) (c1:List Int) (m:List ((Int×Int)×Bool)):L21_4 (n+1) [] g1 c1 m=some (.inl ((),((g1,(c1,())),(((),()),(m,()))))):=by
 conv=>lhs;unfold L21_4
 rfl
theorem equalG_sc (n:Nat) (hn:10≤n) (g1:List NodT) (c1:List Int) (hg:Wd g1) (a b:Int) (ha:0≤a∧a<(g1.length:Int)) (hb:0≤b∧b<(g1.length:Int)):
  equalG n (g1,c1) a b=some (decide (g1[a.toNat]? =g1[b.toNat]?),()):=by
 obtain ⟨n,rfl⟩:∃ q,n=q+2:= ⟨n - 2,by omega⟩
 obtain ⟨l,r,hg1,_,_,hr⟩:=hg
 have xa : g1[a.toNat]? = some (g1[a.toNat]'(by omega)) := List.getElem?_eq_getElem (by omega)
 have xb : g1[b.toNat]? = some (g1[b.toNat]'(by omega)) := List.getElem?_eq_getElem (by omega)
 generalize g1[a.toNat]'(by omega) = x at xa
 generalize g1[b.toNat]'(by omega) = y at xb
 have kx:x=top l∧a=0∨∃ s,x=sc s:=by
  rw [hg1] at xa
  cases hq:a.toNat with
  |zero=>rw [hq] at xa;exact .inl ⟨(Option.some.inj xa).symm,by omega⟩
  |succ k=>rw [hq] at xa;obtain ⟨s,h,_⟩:=hr x (List.mem_of_getElem? xa);exact .inr ⟨s,h⟩
 have ky:y=top l∧b=0∨∃ s,y=sc s:=by
  rw [hg1] at xb
  cases hq:b.toNat with
  |zero=>rw [hq] at xb;exact .inl ⟨(Option.some.inj xb).symm,by omega⟩
  |succ k=>rw [hq] at xb;obtain ⟨s,h,_⟩:=hr y (List.mem_of_getElem? xb);exact .inr ⟨s,h⟩
 unfold equalG
 conv=>lhs;unfold L21_4
 have w1:IntKind.wrap .i64 ((len [(a,b)]) - (1:Int))=0:=by kernel_rfl
 have e1:ilt (0:Int) (len [(a,b)])=true:=by kernel_rfl
 have e2:ile (0:Int) 0=true:=by decide
 have e3:ile (0:Int) (len [(a,b)])=true:=by kernel_rfl
 have e4:List.take (Int.toNat 0 - 0) (List.drop 0 [(a,b)])= []:=rfl
 simp only [e1,cond_true,w1,e2,e3,Bool.and_true,e4]
 show Option.bind (Option.bind (some (a,b)) _) _=_
 simp only [Option.bind_some,ile_t ha.1,ile_t hb.1,cond_true,xa,xb]
 cases hab:(a==b) with
 |true=>
  have:a=b:=eq_of_beq hab
  subst this
  rw [xa] at xb;cases xb
  rw [cond_true,L21_4_nil]
  simp
 |false=>
  have hne:a≠b:=fun h=>by subst h;rw [beq_self_eq_true] at hab;cases hab
  rw [cond_false]
  rcases kx with ⟨rfl,rfl⟩ | ⟨s,rfl⟩
  ·rcases ky with ⟨rfl,rfl⟩ | ⟨t,rfl⟩
   ·exact absurd rfl hne
   ·have:=alike_top1 (n+1+1) l t
    unfold top sc at this ⊢
    simp only [this,Option.bind_some,Bool.not_false,cond_true]
    rw [decide_eq_false (by intro h;cases h)]
  ·rcases ky with ⟨rfl,rfl⟩ | ⟨t,rfl⟩
   ·have:=alike_top2 (n+1+1) l s
    unfold top sc at this ⊢
    simp only [this,Option.bind_some,Bool.not_false,cond_true]
    rw [decide_eq_false (by intro h;cases h)]
   ·have:=alike_sc (n+1+1) s t
    unfold sc at this ⊢
    simp only [this,Option.bind_some]
    cases hst:(s==t) with
    |true=>
     have:s=t:=eq_of_beq hst
     subst this
     rw [Bool.not_true,cond_false]
     conv=>lhs;unfold L21_12
     have e5:ilt (0:Int) (len ([]:List Int))=false:=by decide
     simp only [e5,cond_false,Option.bind_some,L21_4_nil]
     simp
    |false=>
     rw [Bool.not_false,cond_true]
     have:s≠t:=fun h=>by subst h;rw [beq_self_eq_true] at hst;cases hst
     simp only [Option.bind_some]
     rw [decide_eq_false (by intro h;cases h;exact this rfl)]
def owP (x:NodT):TX:=(((((Go.Lib.itoa x.1)++([(32:UInt8)]:List UInt8))++(Go.Lib.itoa (len x.2.2.2.1)))++([(32:UInt8)]:List UInt8))++x.2.1)++([(10:UInt8)]:List UInt8)
def owS (x:NodT):TX:=bif x.1 !=1 then owP x else owP x++x.2.2.1
theorem own_spec (n:Nat) (x:NodT) (h:(∃ l,x=top l∧l.length≤40)∨∃ s,x=sc s∧s.length≤60):own n x=some (owS x,()):=by
 have hk:in64 x.1=true:=by
  rcases h with ⟨l,rfl,_⟩ | ⟨s,rfl,_⟩<;>rfl
 have hkk:x.2.2.2.1.length≤40:=by
  rcases h with ⟨l,rfl,h⟩ | ⟨s,rfl,_⟩
  ·exact h
  ·exact Nat.zero_le _
 have hl:in64 (len x.2.2.2.1)=true:=by unfold in64;rw [ile_t (by unfold len;omega),ile_t (by unfold len;omega)];rfl
 have b1:(Go.Lib.itoa x.1).length≤21:=by
  rcases h with ⟨l,rfl,_⟩ | ⟨s,rfl,_⟩
  ·exact Go.Lib.itoa_length_le 3 (by decide) (by decide)
  ·exact Go.Lib.itoa_length_le 1 (by decide) (by decide)
 have b2:(Go.Lib.itoa (len x.2.2.2.1)).length≤21:=Go.Lib.itoa_length_le _ (by unfold len;omega) (by unfold len;omega)
 have b3:x.2.1.length≤30:=by
  rcases h with ⟨l,rfl,_⟩ | ⟨s,rfl,_⟩
  ·show 1≤30;omega
  ·show 21≤30;omega
 have b4:x.2.2.1.length≤60:=by
  rcases h with ⟨l,rfl,_⟩ | ⟨s,rfl,h⟩
  ·exact Nat.zero_le _
  ·exact h
 have rm:∀ {k:Nat},k≤1000→room k=true:=fun h=>room_ok (by unfold roomy;omega)
 unfold own
 simp only [hk,hl,cond_true]
 simp only [List.length_append,List.length_cons,List.length_nil]
 rw [rm (by omega),cond_true,rm (by omega),cond_true,rm (by omega),cond_true,rm (by omega),cond_true,rm (by omega),cond_true]
 rcases h with ⟨l,rfl,_⟩ | ⟨s,rfl,hs⟩
 ·rfl
 ·have e:(sc s).1=1:=rfl
  have e2:(sc s).2.1=tagStr:=rfl
  have e3:(sc s).2.2.1=s:=rfl
  simp only [e,e2,e3,bne_self_eq_false,cond_false,valueS_sc,Option.bind_some]
  rw [e2] at b3
  rw [e] at b1
  have c1:((0:Int) !=0)=false:=rfl
  have c2:((5:Int)==3)=false:=rfl
  have c3:((5:Int)==4)=false:=rfl
  have c4:((5:Int)==2)=false:=rfl
  simp only [c1,c2,c3,c4,cond_false,Option.bind_some]
  rw [rm (by omega)]
  rfl
end Go.Proofs.YtnddpppljnjmcaaGreatDoor
/- Plain functions for the program's. -/
namespace Go.Proofs.YtnddpppljnjmcaaGreatDoor
open Go Go.Iv Go.Gv
set_option maxRecDepth 100000
set_option linter.unusedVariables false
noncomputable def L7_13_Xexit2:Tm:= ⟨[(0,.one (.lst .str)),(4,.one (.fix (TV.ptr 66 0))),(5,.one (.bool)),(6,.one (.int .i64))],[(66,.cells 25 [.nst 69 31 sN 3 3 (.int .i64) .no,.all 70 3 (.int .i64) .no] true)],69,71,2005⟩
noncomputable def L7_13_T:Tm:= ⟨[(0,.one (.lst .str)),(4,.one (.fix (TV.ptr 66 0))),(5,.one (.bool)),(6,.one (.int .i64)),(9,.one (.int .i64))],[(66,.cells 25 [.nst 69 31 sN 3 3 (.int .i64) .no,.all 70 3 (.int .i64) .no] true)],69,71,2005⟩
noncomputable def L7_13:Nat→(List (List UInt8))→Bool→Int→Int→qN→(List Int)→Option (((List (List UInt8))×(Unit×(Bool×(Int×Unit))))×((qN×((List Int)×Unit))×Unit))
 |0,_,_,_,_,_,_=>none
 |n+1,t0,t5,t6,t9,c66_0,c66_1=>
 bif (ilt t9 t6) then
  bif t5 then
  L7_13 n t0 true t6 (IntKind.wrap .i64 (t9+(1:Int))) c66_0 c66_1
  else
  bif (ile (0:Int) t9) then
  Option.bind (t0[(Int.toNat t9)]?) fun x10=>
  bif (ile (0:Int) t6) then
  Option.bind (t0[(Int.toNat t6)]?) fun x11=>
  L7_13 n t0 (x10==x11) t6 (IntKind.wrap .i64 (t9+(1:Int))) c66_0 c66_1
  else none
  else none
 else
 some ((t0,((),(t5,(t6,())))),((c66_0,(c66_1,())),()))
noncomputable def L7_13_it:LoopIt:= ⟨7,13,none,L7_13_T,[(.exit 2,L7_13_Xexit2)],0,fun n x=>L7_13 n x.1.1 x.1.2.2.1 x.1.2.2.2.1 x.1.2.2.2.2.1 x.2.1.1 x.2.1.2.1,[]⟩
theorem L7_13_Xexit2_ok:L7_13_Xexit2.ok Tryz.prog hint:=Tm.okS rfl
theorem L7_13_T_ok:L7_13_T.ok Tryz.prog hint:=Tm.okS rfl
theorem L7_13_ok:∀ n,LoopOK Tryz.prog hint shT L7_13_it n:=
 LoopOK.of (hk:=fun β=>(Known.mk [] []).hk β) (sh:=shT) (OneLoop.of (by kernel_rfl)) L7_13_T_ok ⟨⟨L7_13_Xexit2_ok,Nat.le_refl _,Nat.le_refl _⟩,trivial⟩ (fun m=>KnownOK.hook KnownOK.nil m)
  (fun _=>by kernel_rfl) (fun m x=>by kernel_rfl)
noncomputable def L7_7_Xexit0:Tm:= ⟨[(4,.one (.fix (TV.ptr 66 0))),(5,.one (.bool))],[(66,.cells 25 [.nst 67 31 sN 3 3 (.int .i64) .no,.all 68 3 (.int .i64) .no] true)],67,69,1004⟩
noncomputable def L7_7_Xret:Tm:= ⟨[(2,.one (.bool))],[(66,.cells 25 [.nst 67 31 sN 3 3 (.int .i64) .no,.all 68 3 (.int .i64) .no] true)],67,69,1004⟩
noncomputable def L7_7_T:Tm:= ⟨[(0,.one (.lst .str)),(4,.one (.fix (TV.ptr 66 0))),(5,.one (.bool)),(6,.one (.int .i64))],[(66,.cells 25 [.nst 67 31 sN 3 3 (.int .i64) .no,.all 68 3 (.int .i64) .no] true)],67,69,1004⟩
noncomputable def L7_7:Nat→(List (List UInt8))→Bool→Int→qN→(List Int)→Option (((Unit×(Bool×Unit))×((qN×((List Int)×Unit))×Unit))⊕((Bool×Unit)×((qN×((List Int)×Unit))×Unit)))
 |0,_,_,_,_,_=>none
 |n+1,t0,t5,t6,c66_0,c66_1=>
 bif (ilt t6 (len t0)) then
  bif (ile (0:Int) t6) then
  Option.bind (t0[(Int.toNat t6)]?) fun x23=>
  Option.bind (textP (n+1) x23) fun y24=>
  Option.bind (bif (!y24.2.1) then
   some true
  else
  bif (ile (0:Int) t6) then
  Option.bind (t0[(Int.toNat t6)]?) fun x26=>
  some (ilt (60:Int) (len x26))
  else none) fun b27=>
  bif b27 then
  some (.inr ((true,()),((c66_0,(c66_1,())),())))
  else
  Option.bind (L7_13 (n+5) t0 t5 t6 (0:Int) c66_0 c66_1) fun y28=>
  bif (ile (0:Int) y28.1.2.2.2.1) then
  Option.bind (y28.1.1[(Int.toNat y28.1.2.2.2.1)]?) fun x29=>
  bif (room (((List.length y28.2.1.1)+(List.length (((1:Int),(([(116:UInt8),(97:UInt8),(103:UInt8),(58:UInt8),(121:UInt8),(97:UInt8),(109:UInt8),(108:UInt8),(46:UInt8),(111:UInt8),(114:UInt8),(103:UInt8),(44:UInt8),(50:UInt8),(48:UInt8),(48:UInt8),(50:UInt8),(58:UInt8),(115:UInt8),(116:UInt8),(114:UInt8)]:List UInt8),(x29,(([]:List Int),false))))::(((1:Int),(([(116:UInt8),(97:UInt8),(103:UInt8),(58:UInt8),(121:UInt8),(97:UInt8),(109:UInt8),(108:UInt8),(46:UInt8),(111:UInt8),(114:UInt8),(103:UInt8),(44:UInt8),(50:UInt8),(48:UInt8),(48:UInt8),(50:UInt8),(58:UInt8),(115:UInt8),(116:UInt8),(114:UInt8)]:List UInt8),(([(118:UInt8)]:List UInt8),(([]:List Int),false)))):: []))))*73)) then
  bif (ilt (0:Int) (len (y28.2.1.1++(((1:Int),(([(116:UInt8),(97:UInt8),(103:UInt8),(58:UInt8),(121:UInt8),(97:UInt8),(109:UInt8),(108:UInt8),(46:UInt8),(111:UInt8),(114:UInt8),(103:UInt8),(44:UInt8),(50:UInt8),(48:UInt8),(48:UInt8),(50:UInt8),(58:UInt8),(115:UInt8),(116:UInt8),(114:UInt8)]:List UInt8),(x29,(([]:List Int),false))))::(((1:Int),(([(116:UInt8),(97:UInt8),(103:UInt8),(58:UInt8),(121:UInt8),(97:UInt8),(109:UInt8),(108:UInt8),(46:UInt8),(111:UInt8),(114:UInt8),(103:UInt8),(44:UInt8),(50:UInt8),(48:UInt8),(48:UInt8),(50:UInt8),(58:UInt8),(115:UInt8),(116:UInt8),(114:UInt8)]:List UInt8),(([(118:UInt8)]:List UInt8),(([]:List Int),false)))):: []))))) then
  Option.bind ((y28.2.1.1++(((1:Int),(([(116:UInt8),(97:UInt8),(103:UInt8),(58:UInt8),(121:UInt8),(97:UInt8),(109:UInt8),(108:UInt8),(46:UInt8),(111:UInt8),(114:UInt8),(103:UInt8),(44:UInt8),(50:UInt8),(48:UInt8),(48:UInt8),(50:UInt8),(58:UInt8),(115:UInt8),(116:UInt8),(114:UInt8)]:List UInt8),(x29,(([]:List Int),false))))::(((1:Int),(([(116:UInt8),(97:UInt8),(103:UInt8),(58:UInt8),(121:UInt8),(97:UInt8),(109:UInt8),(108:UInt8),(46:UInt8),(111:UInt8),(114:UInt8),(103:UInt8),(44:UInt8),(50:UInt8),(48:UInt8),(48:UInt8),(50:UInt8),(58:UInt8),(115:UInt8),(116:UInt8),(114:UInt8)]:List UInt8),(([(118:UInt8)]:List UInt8),(([]:List Int),false)))):: [])))[0]?) fun x30=>
  bif (room (((List.length x30.2.2.2.1)+(List.length ((len y28.2.1.1)::((IntKind.wrap .i64 ((len y28.2.1.1)+(1:Int)))::([]:List Int)))))*9)) then
  bif (ilt (0:Int) (len (y28.2.1.1++(((1:Int),(([(116:UInt8),(97:UInt8),(103:UInt8),(58:UInt8),(121:UInt8),(97:UInt8),(109:UInt8),(108:UInt8),(46:UInt8),(111:UInt8),(114:UInt8),(103:UInt8),(44:UInt8),(50:UInt8),(48:UInt8),(48:UInt8),(50:UInt8),(58:UInt8),(115:UInt8),(116:UInt8),(114:UInt8)]:List UInt8),(x29,(([]:List Int),false))))::(((1:Int),(([(116:UInt8),(97:UInt8),(103:UInt8),(58:UInt8),(121:UInt8),(97:UInt8),(109:UInt8),(108:UInt8),(46:UInt8),(111:UInt8),(114:UInt8),(103:UInt8),(44:UInt8),(50:UInt8),(48:UInt8),(48:UInt8),(50:UInt8),(58:UInt8),(115:UInt8),(116:UInt8),(114:UInt8)]:List UInt8),(([(118:UInt8)]:List UInt8),(([]:List Int),false)))):: []))))) then
  L7_7 n y28.1.1 y28.1.2.2.1 (IntKind.wrap .i64 (y28.1.2.2.2.1+(1:Int))) (List.set (y28.2.1.1++(((1:Int),(([(116:UInt8),(97:UInt8),(103:UInt8),(58:UInt8),(121:UInt8),(97:UInt8),(109:UInt8),(108:UInt8),(46:UInt8),(111:UInt8),(114:UInt8),(103:UInt8),(44:UInt8),(50:UInt8),(48:UInt8),(48:UInt8),(50:UInt8),(58:UInt8),(115:UInt8),(116:UInt8),(114:UInt8)]:List UInt8),(x29,(([]:List Int),false))))::(((1:Int),(([(116:UInt8),(97:UInt8),(103:UInt8),(58:UInt8),(121:UInt8),(97:UInt8),(109:UInt8),(108:UInt8),(46:UInt8),(111:UInt8),(114:UInt8),(103:UInt8),(44:UInt8),(50:UInt8),(48:UInt8),(48:UInt8),(50:UInt8),(58:UInt8),(115:UInt8),(116:UInt8),(114:UInt8)]:List UInt8),(([(118:UInt8)]:List UInt8),(([]:List Int),false)))):: []))) 0 (x30.1,(x30.2.1,(x30.2.2.1,((x30.2.2.2.1++((len y28.2.1.1)::((IntKind.wrap .i64 ((len y28.2.1.1)+(1:Int)))::([]:List Int)))),x30.2.2.2.2))))) y28.2.1.2.1
  else none
  else none
  else none
  else none
  else none
  else none
 else
 some (.inl (((),(t5,())),((c66_0,(c66_1,())),())))
noncomputable def L7_7_it:LoopIt:= ⟨7,7,none,L7_7_T,[(.exit 0,L7_7_Xexit0),(.ret,L7_7_Xret)],4,fun n x=>L7_7 n x.1.1 x.1.2.2.1 x.1.2.2.2.1 x.2.1.1 x.2.1.2.1,[]⟩
theorem L7_7_Xexit0_ok:L7_7_Xexit0.ok Tryz.prog hint:=Tm.okS rfl
theorem L7_7_Xret_ok:L7_7_Xret.ok Tryz.prog hint:=Tm.okS rfl
theorem L7_7_T_ok:L7_7_T.ok Tryz.prog hint:=Tm.okS rfl
theorem L7_7_ok:∀ n,LoopOK Tryz.prog hint shT L7_7_it n:=
 LoopOK.of (hk:=fun β=>(Known.mk [textP_it] [L7_13_it]).hk β) (sh:=shT) (OneLoop.of (by kernel_rfl)) L7_7_T_ok ⟨⟨L7_7_Xexit0_ok,Nat.le_refl _,Nat.le_refl _⟩,⟨L7_7_Xret_ok,Nat.le_refl _,Nat.le_refl _⟩,trivial⟩ (fun m=>KnownOK.hook ((KnownOK.nil.fn textP_ok).loop L7_13_ok L7_13_T_ok) m)
  (fun _=>by kernel_rfl) (fun m x=>by kernel_rfl)
noncomputable def sameTwice (n:Nat) (l:List (List UInt8)):Option (Bool×Unit):=
 bif (ilt (20:Int) (len l)) then
 some (true,())
 else
 Option.bind (L7_7 (n+5) l false (0:Int) (((3:Int),(([(109:UInt8)]:List UInt8),(([]:List UInt8),(([]:List Int),false)))):: []) ((0:Int)::([]:List Int))) fun y31=>
 match y31 with
 | .inl y32=>
  Option.bind (Twice n (y32.2.1.1,y32.2.1.2.1)) fun y34=>
  Option.bind (bif (y34.2.1==y32.1.2.1) then
   some (y34.1==(0:Int))
  else
  some false) fun b36=>
  some (b36,())
 | .inr y33=>
  some (y33.1.1,())
noncomputable def sameTwice_it:FnIt:= ⟨7,[(false,(.slc .str))],[(false,.bool)],9,fun n x=>sameTwice n x.1⟩
theorem sameTwice_ok (n:Nat):FnOK Tryz.prog hint shT sameTwice_it n:=
 FnOK.of (hk:=fun β=>(Known.mk [Twice_it] [L7_7_it]).hk β) (sh:=shT) (fun m _=>KnownOK.hook ((KnownOK.nil.loop L7_7_ok L7_7_T_ok).fn Twice_ok) m) (fun x=>by kernel_rfl)
end Go.Proofs.YtnddpppljnjmcaaGreatDoor
/- SameTwice's law: of keys that are words just two equal ones are told. -/
namespace Go.Proofs.YtnddpppljnjmcaaGreatDoor
open Go Go.Iv Go.Gv
set_option maxRecDepth 100000
def eN (g1:List NodT) (a b:Int):Bool:=decide (g1[a.toNat]? =g1[b.toNat]?)
theorem Wd_twice (n:Nat) (hn:1000000≤n) (l:List Int) (r:List NodT) (hw:Wd (top l::r)) (hlen:r.length≤100) (hv:∀ x∈r,∃ s,x=sc s∧s.length≤60∧textB s=true) (hev:Int.tmod (len l) 2=0):
  Twice n (top l::r,[0])=some (0,dup (eN (top l::r)) [] (evens l),()):=by
 generalize hg:top l::r=g1 at hw ⊢
 have hN:g1.length=r.length+1:=by rw [←hg];rfl
 obtain ⟨l2,r2,hg2,h40,hin,_⟩:=id hw
 have hl2:l2=l:=by rw [hg2] at hg;simp only [top,List.cons.injEq,Prod.mk.injEq] at hg;exact hg.1.2.2.2.1.symm
 subst hl2
 have hnode:∀ (j:Nat) x,g1[j]? =some x→(∀ n,200≤n→node n x=some (true,()))∧x.2.2.2.1.length≤40∧∀ c∈x.2.2.2.1,0≤c∧c<(g1.length:Int):=by
  intro j x hx
  have hx2:=List.mem_of_getElem? hx
  rw [←hg] at hx2
  rcases List.mem_cons.1 hx2 with rfl |hx2
  ·refine ⟨fun n hn=>?_,h40,hin⟩
   have v:∀ k,valid (k+60) [109]=some (true,()):=fun k=>by kernel_rfl
   obtain ⟨k,rfl⟩:∃ k,n=k+60:= ⟨n - 60,by omega⟩
   unfold node
   have e1:ilt 1000 (len (top l2).2.1)=false:=by kernel_rfl
   have e2:((top l2).2.1== [33])=false:=by kernel_rfl
   have e3:(top l2).1=3:=rfl
   have e4:(top l2).2.1= [109]:=rfl
   have e5:(top l2).2.2.1= []:=rfl
   have e6:(top l2).2.2.2.2=false:=rfl
   have e7:(top l2).2.2.2.1=l2:=rfl
   simp only [e1,cond_false,e2,e4,v,Option.bind_some,Bool.not_true,e3,e5,e6,e7,hev]
   rfl
  ·obtain ⟨s,rfl,h60,hs⟩:=hv x hx2
   refine ⟨fun n hn=>?_,Nat.zero_le _,fun c hc=>by cases hc⟩
   have v:∀ k,valid (k+60) tagStr=some (true,()):=fun k=>by kernel_rfl
   obtain ⟨k,rfl⟩:∃ k,n=k+60:= ⟨n - 60,by omega⟩
   unfold node
   have e1:ilt 1000 (len (sc s).2.1)=false:=by kernel_rfl
   have e2:((sc s).2.1== [33])=false:=by kernel_rfl
   have e4:(sc s).2.1=tagStr:=rfl
   have e5:(sc s).2.2.1=s:=rfl
   have t1:=textOk_spec (k+60+4) s (by omega)
   rw [hs] at t1
   simp only [e1,cond_false,e2,e4,v,Option.bind_some,Bool.not_true,e5,t1]
   rfl
 have hright:=rightW_spec (n:=n) g1 [0] 40 (by omega) (by omega) (fun c hc=>by rw [List.mem_singleton] at hc;omega) (by decide) hnode (by simp;omega)
 let R:Nat→Nat→Prop:=fun i j=>i<g1.length∧j<g1.length∧g1[i]? =g1[j]?
 have hkids:∀ x∈g1,x.2.2.2.1.length≤100000∧∀ c∈x.2.2.2.1,0≤c∧c<(g1.length:Int):=fun x hx=>by
  obtain ⟨j,hj⟩:=List.getElem?_of_mem hx
  obtain ⟨_,h2,h3⟩:=hnode j x hj
  exact ⟨by omega,h3⟩
 have hR:RelG g1 owS R:= ⟨fun i j h=> ⟨h.1,h.2.1⟩,fun i j x y h hx hy=>by
  obtain ⟨_,_,h3⟩:=h
  rw [hx,hy] at h3
  cases h3
  refine ⟨rfl,rfl,fun q hq=>?_⟩
  have h5:=List.of_mem_zip hq
  have h6:q.1=q.2:=by
   have:∀ (z:List Int),∀ q∈z.zip z,q.1=q.2:=fun z=>by
    induction z with
    |nil=>intro q h;cases h
    |cons a z ih=>
     intro q h
     rw [List.zip_cons_cons] at h
     rcases List.mem_cons.1 h with rfl |h
     ·rfl
     ·exact ih q h
   exact this _ q hq
  obtain ⟨k1,k2⟩:=(hkids x (List.mem_of_getElem? hx)).2 _ h5.1
  exact ⟨by omega,by omega,by rw [h6]⟩⟩
 have hown:∀ x∈g1,∀ n,1000≤n→own n x=some (owS x,()):=fun x hx n _=>by
  rw [←hg] at hx
  rcases List.mem_cons.1 hx with rfl |hx
  ·exact own_spec n _ (.inl ⟨l2,rfl,h40⟩)
  ·obtain ⟨s,rfl,h60,_⟩:=hv x hx
   exact own_spec n _ (.inr ⟨s,rfl,h60⟩)
 obtain ⟨c,c1,c2,c3⟩:=colors_spec (n+4) (by omega) g1 [0] owS R hR (by omega) hown hkids
 have hcol:ColOK g1.length c (eN g1):= ⟨c2,fun a b a1 a2 b1 b2 h=>c3 _ _ ⟨by omega,by omega,of_decide_eq_true h⟩⟩
 have hEq:∀ a b,0≤a→a<(g1.length:Int)→0≤b→b<(g1.length:Int)→∀ n,10≤n→equalG n (g1,[0]) a b=some (eN g1 a b,()):=fun a b a1 a2 b1 b2 n hn=>equalG_sc n hn g1 [0] hw a b ⟨a1,a2⟩ ⟨b1,b2⟩
 have htw:∀ n,400000≤n→twice n (g1,[0]) (top l2) c=some (dup (eN g1) [] (evens l2),()):=fun n hn=>twice_spec n g1 [0] c (top l2) (eN g1) 10 (by show l2.length≤100000;omega) hcol hin hEq (by omega)
 have hrest:∀ (k n i:Nat),1≤i→i+k=g1.length→k<n→L13_5 n c g1 (len g1) (i:Int) g1 [0]=some (.inl ((),((g1,([0],())),()))):=by
  intro k
  induction k with
  |zero=>
   intro n i _ hi hn
   obtain ⟨n,rfl⟩:∃ q,n=q+1:= ⟨n - 1,by omega⟩
   conv=>lhs;unfold L13_5
   rw [ilt_f (by unfold len;omega),cond_false]
  |succ k ih=>
   intro n i h1 hi hn
   obtain ⟨n,rfl⟩:∃ q,n=q+1:= ⟨n - 1,by omega⟩
   have hx : g1[i]? = some (g1[i]'(by omega)) := List.getElem?_eq_getElem (by omega)
   have hk1 : (g1[i]'(by omega)).1 = 1 := by
    have hx3 : (top l2 :: r)[i]? = some (g1[i]'(by omega)) := by rw [hg]; exact hx
    obtain ⟨i,rfl⟩:∃ q,i=q+1:= ⟨i - 1,by omega⟩
    obtain ⟨s,hs,_⟩:=hv _ (List.mem_of_getElem? (show r[i]? =some _ from hx3))
    rw [hs];rfl
   have w1:IntKind.wrap .i64 ((i:Int)+1)=((i+1:Nat):Int):=by rw [wrap_id (by omega) (by omega)];omega
   have e0:ile (0:Int) (i:Int)=true:=ile_t (by omega)
   have e1:ilt (i:Int) (len g1)=true:=ilt_t (by unfold len;omega)
   have e2:((1:Int)==3)=false:=rfl
   conv=>lhs;unfold L13_5
   simp only [e1,cond_true,e0,Int.toNat_natCast,hx,Option.bind_some,hk1,e2,cond_false,w1]
   exact ih n (i+1) (by omega) (by omega) (by omega)
 have hloop:∀ n,600000≤n→L13_5 n c g1 (len g1) 0 g1 [0]=some (if dup (eN g1) [] (evens l2) then .inr ((0,(true,())),((g1,([0],())),())) else .inl ((),((g1,([0],())),()))):=by
  intro n hn
  obtain ⟨n,rfl⟩:∃ q,n=q+1:= ⟨n - 1,by omega⟩
  have hx:g1[0]? =some (top l2):=by rw [←hg];rfl
  have e0:ile (0:Int) 0=true:=rfl
  have e1:ilt (0:Int) (len g1)=true:=ilt_t (by unfold len;omega)
  have e2:((top l2).1==(3:Int))=true:=rfl
  have e3:(Int.toNat 0)=0:=rfl
  conv=>lhs;unfold L13_5
  simp only [e1,cond_true,e0,e3,hx,Option.bind_some,e2]
  have htw':=htw (n+1) (by omega)
  have e4:((top l2).1,((top l2).2.1,((top l2).2.2.1,((top l2).2.2.2.1,(top l2).2.2.2.2))))=top l2:=rfl
  rw [e4,htw']
  simp only [Option.bind_some]
  cases dup (eN g1) [] (evens l2) with
  |true=>rfl
  |false=>exact hrest r.length n 1 (Nat.le_refl _) (by omega) (by omega)
 unfold Twice
 simp only [hright,Option.bind_some,Bool.not_true,cond_false,c1,hloop (n+3) (by omega)]
 cases dup (eN g1) [] (evens l2)<;>rfl
end Go.Proofs.YtnddpppljnjmcaaGreatDoor
/- SameTwice's law, whole. -/
namespace Go.Proofs.YtnddpppljnjmcaaGreatDoor
open Go Go.Iv Go.Gv
set_option maxRecDepth 100000
def ND:List TX→List NodT
 | []=> []
 |s::r=>sc s::sc [118]::ND r
def kz (m:Nat):List Int:=(List.range (2*m)).map fun (j:Nat)=>((j+1:Nat):Int)
theorem kz_len (m:Nat):(kz m).length=2*m:=by simp [kz]
theorem kz_succ (m:Nat):kz (m+1)=kz m++ [((1+2*m:Nat):Int),((2+2*m:Nat):Int)]:=by
 unfold kz
 rw [show 2*(m+1)=2*m+1+1 by omega,List.range_succ,List.range_succ,List.map_append,List.map_append,List.append_assoc]
 simp only [List.map_cons,List.map_nil,List.singleton_append]
 rw [show 2*m+1=1+2*m by omega,show 1+2*m+1=2+2*m by omega]
theorem kz_mem {m:Nat} {c:Int} (h:c∈kz m):1≤c∧c≤2*m:=by
 unfold kz at h
 obtain ⟨j,hj,rfl⟩:=List.mem_map.1 h
 have:=List.mem_range.1 hj
 omega
theorem ND_len:∀ l:List TX,(ND l).length=2*l.length:=by
 intro l
 induction l with
 |nil=>rfl
 |cons s r ih=>show (ND r).length+1+1=2*(r.length+1);omega
theorem ND_app:∀ (l k:List TX),ND (l++k)=ND l++ND k:=by
 intro l k
 induction l with
 |nil=>rfl
 |cons s r ih=>show sc s::sc [118]::ND (r++k)=_;rw [ih];rfl
theorem ND_at:∀ (l:List TX) (q:Nat),(ND l)[2*q]? =(l[q]?).map sc:=by
 intro l
 induction l with
 |nil=>intro q;rfl
 |cons s r ih=>
  intro q
  cases q with
  |zero=>rfl
  |succ q=>show (sc s::sc [118]::ND r)[2*q+1+1]? =_;rw [List.getElem?_cons_succ,List.getElem?_cons_succ,ih];rfl
theorem ND_mem:∀ {l:List TX} {x:NodT},x∈ND l→∃ s,x=sc s∧(s= [118]∨s∈l):=by
 intro l
 induction l with
 |nil=>intro x h;cases h
 |cons s r ih=>
  intro x h
  rcases List.mem_cons.1 h with rfl |h
  ·exact ⟨s,rfl,.inr (List.mem_cons_self ..)⟩
  ·rcases List.mem_cons.1 h with rfl |h
   ·exact ⟨_,rfl,.inl rfl⟩
   ·obtain ⟨t,h1,h2⟩:=ih h
    exact ⟨t,h1,h2.imp id (List.mem_cons_of_mem _)⟩
def NG (l:List TX):List NodT:=top (kz l.length)::ND l
def ahead (l:List TX) (q:Nat):Bool:=(List.range q).any fun p=>l[p]? ==l[q]?
def flagT (l:List TX) (i:Nat):Bool:=(List.range i).any (ahead l)
theorem evens_kz:∀ (m:Nat),evens (kz m)=(List.range m).map fun (q:Nat)=>((2*q+1:Nat):Int):=by
 have h1:∀ (z:List Int) (a b:Int),z.length%2=0→evens (z++ [a,b])=evens z++ [a]:=by
  intro z
  induction z using evens.induct with
  |case1=>intro a b _;rfl
  |case2 k=>intro a b h;simp at h
  |case3 k v r ih=>
   intro a b h
   show k::evens (r++ [a,b])=_
   rw [ih a b (by simp only [List.length_cons] at h;omega)];rfl
 intro m
 induction m with
 |zero=>rfl
 |succ m ih=>
  rw [kz_succ,h1 _ _ _ (by rw [kz_len];omega),ih,List.range_succ,List.map_append]
  simp only [List.map_cons,List.map_nil]
  rw [show 1+2*m=2*m+1 by omega]
theorem dup_iff (e:Int→Int→Bool):∀ (L S:List Int),dup e S L=true↔∃ q p k s,L[q]? =some k∧(S++L)[p]? =some s∧p<S.length+q∧e k s=true:=by
 intro L
 induction L with
 |nil=>
      intro S;constructor<;>intro h
      ·cases h
      ·obtain ⟨q,p,k,s,h,_⟩:=h;simp at h
 |cons a L ih=>
  intro S
  have hd:dup e S (a::L)=(S.any (e a) ||dup e (S++ [a]) L):=rfl
  rw [hd,Bool.or_eq_true,ih]
  constructor
  ·rintro (h | ⟨q,p,k,s,h1,h2,h3,h4⟩)
   ·obtain ⟨s,hs,he⟩:=List.any_eq_true.1 h
    obtain ⟨p,hp⟩:=List.getElem?_of_mem hs
    have hpl:=(List.getElem?_eq_some_iff.1 hp).1
    exact ⟨0,p,a,s,rfl,by rw [List.getElem?_append_left hpl];exact hp,by omega,he⟩
   ·refine ⟨q+1,p,k,s,h1,?_,by simp at h3;omega,h4⟩
    rw [←h2,List.append_assoc];rfl
  ·rintro ⟨q,p,k,s,h1,h2,h3,h4⟩
   cases q with
   |zero=>
    cases h1
    rw [List.getElem?_append_left (by omega)] at h2
    exact .inl (List.any_eq_true.2 ⟨s,List.mem_of_getElem? h2,h4⟩)
   |succ q=>
    refine .inr ⟨q,p,k,s,h1,?_,by simp;omega,h4⟩
    rw [←h2,List.append_assoc];rfl
theorem dup_flag (l:List TX):dup (eN (NG l)) [] (evens (kz l.length))=flagT l l.length:=by
 rw [evens_kz,Bool.eq_iff_iff,dup_iff]
 have hat:∀ q,((List.range l.length).map fun (q:Nat)=>((2*q+1:Nat):Int))[q]? =if q<l.length then some ((2*q+1:Nat):Int) else none:=by
  intro q
  rw [List.getElem?_map]
  split
  ·rename_i h;rw [List.getElem?_range h];rfl
  ·rename_i h;rw [List.getElem?_eq_none (by rw [List.length_range];omega)];rfl
 have hnd:∀ q,(NG l)[((2*q+1:Nat):Int).toNat]? =(l[q]?).map sc:=fun q=>by
  rw [Int.toNat_natCast]
  unfold NG
  rw [List.getElem?_cons_succ,ND_at]
 have hsc:∀ {q p:Nat},q<l.length→p<l.length→((l[q]?).map sc=(l[p]?).map sc↔l[p]? =l[q]?):=fun {q p} hq hp=>by
  rw [List.getElem?_eq_getElem hq,List.getElem?_eq_getElem hp]
  simp only [Option.map_some,Option.some.injEq,sc,Prod.mk.injEq,_root_.and_true,true_and]
  exact eq_comm
 constructor
 ·rintro ⟨q,p,k,s,h1,h2,h3,h4⟩
  rw [List.nil_append,hat] at h2
  rw [hat] at h1
  split at h1
  ·rename_i hq
   split at h2
   ·rename_i hp
    cases h1;cases h2
    have h5:=of_decide_eq_true h4
    rw [hnd,hnd,hsc hq hp] at h5
    unfold flagT ahead
    refine List.any_eq_true.2 ⟨q,List.mem_range.2 hq,List.any_eq_true.2 ⟨p,List.mem_range.2 (by simpa using h3),beq_iff_eq.2 h5⟩⟩
   ·cases h2
  ·cases h1
 ·intro h
  unfold flagT ahead at h
  obtain ⟨q,hq,h⟩:=List.any_eq_true.1 h
  obtain ⟨p,hp,h⟩:=List.any_eq_true.1 h
  have hq:=List.mem_range.1 hq
  have hp:=List.mem_range.1 hp
  refine ⟨q,p,_,_,(hat q).trans (if_pos hq),by rw [List.nil_append];exact (hat p).trans (if_pos (by omega)),by simpa using hp,?_⟩
  unfold eN
  refine decide_eq_true ?_
  rw [hnd,hnd,hsc hq (by omega)]
  exact beq_iff_eq.1 h
theorem L7_13_spec (l:List TX) (c0:List NodT) (c1:List Int) (i:Nat) (hi:i<l.length) (hl:l.length≤20):∀ (k n p:Nat) (t5:Bool),p+k=i→k<n→
  L7_13 n l t5 (i:Int) (p:Int) c0 c1=some ((l,((),((t5 ||(List.range' p k).any fun p=>l[p]? ==l[i]?),((i:Int),())))),((c0,(c1,())),())):=by
 intro k
 induction k with
 |zero=>
  intro n p t5 hp hn
  obtain ⟨n,rfl⟩:∃ q,n=q+1:= ⟨n - 1,by omega⟩
  conv=>lhs;unfold L7_13
  rw [ilt_f (by omega),cond_false]
  simp
 |succ k ih=>
  intro n p t5 hp hn
  obtain ⟨n,rfl⟩:∃ q,n=q+1:= ⟨n - 1,by omega⟩
  have w1:IntKind.wrap .i64 ((p:Int)+1)=((p+1:Nat):Int):=by rw [wrap_id (by omega) (by omega)];omega
  have e0:ile (0:Int) (p:Int)=true:=ile_t (by omega)
  have e00:ile (0:Int) (i:Int)=true:=ile_t (by omega)
  have e1:ilt (p:Int) (i:Int)=true:=ilt_t (by omega)
  have xp : l[p]? = some (l[p]'(by omega)) := List.getElem?_eq_getElem (by omega)
  have xi : l[i]? = some (l[i]'hi) := List.getElem?_eq_getElem hi
  conv=>lhs;unfold L7_13
  have er:List.range' p (k+1)=p::List.range' (p+1) k:=rfl
  cases t5 with
  |true=>
   simp only [e1,cond_true,w1]
   rw [ih n (p+1) true (by omega) (by omega)]
   simp
  |false=>
   simp only [e1,cond_true,cond_false,e0,e00,Int.toNat_natCast,xp,xi,Option.bind_some,w1]
   rw [ih n (p+1) _ (by omega) (by omega),er,List.any_cons,xp,xi]
   simp
theorem flagT_succ (l:List TX) (i:Nat):flagT l (i+1)=(flagT l i ||ahead l i):=by
 unfold flagT
 rw [List.range_succ,List.any_append]
 simp
def okT (s:TX):Bool:=(d8 s.length s).isSome &&decide (s.length≤60)
theorem L7_7_spec (l:List TX) (hl:l.length≤20) (hb:∀ s∈l,s.length≤1048576):∀ (k n i:Nat),i+k=l.length→k+2000000<n→
  ((
   ∃ y,L7_7 n l (flagT l i) (i:Int) (top (kz i)::ND (l.take i)) [0]=some (.inr ((true,()),y)))∨
   (L7_7 n l (flagT l i) (i:Int) (top (kz i)::ND (l.take i)) [0]=some (.inl (((),(flagT l l.length,())),((NG l,([0],())),())))∧∀ s∈l.drop i,okT s=true)):=by
 intro k
 induction k with
 |zero=>
  intro n i hi hn
  obtain ⟨n,rfl⟩:∃ q,n=q+1:= ⟨n - 1,by omega⟩
  refine .inr ⟨?_,fun s hs=>by rw [List.drop_eq_nil_of_le (by omega)] at hs;cases hs⟩
  conv=>lhs;unfold L7_7
  rw [ilt_f (by unfold len;omega),cond_false]
  obtain rfl:i=l.length:=by omega
  rw [List.take_length]
  rfl
 |succ k ih=>
  intro n i hi hn
  obtain ⟨n,rfl⟩:∃ q,n=q+1:= ⟨n - 1,by omega⟩
  have hil:i<l.length:=by omega
  have hx:l[i]? =some l[i]:=List.getElem?_eq_getElem hil
  have hbi:=hb _ (List.getElem_mem hil)
  have e0:ile (0:Int) (i:Int)=true:=ile_t (by omega)
  have e1:ilt (i:Int) (len l)=true:=ilt_t (by unfold len;omega)
  have ht:=textP_spec (n+1) l[i] (by omega) (by omega)
  by_cases hok:okT l[i]=true
  ·have hdx:∃ xs,d8 l[i].length l[i]=some xs:=by
    have:=(Bool.and_eq_true_iff.1 hok).1
    exact Option.isSome_iff_exists.1 this
   have h60:l[i].length≤60:=of_decide_eq_true (Bool.and_eq_true_iff.1 hok).2
   obtain ⟨xs,hxs⟩:=hdx
   rw [hxs] at ht
   have hin:=L7_13_spec l (top (kz i)::ND (l.take i)) [0] i hil hl i (n+5) 0 (flagT l i) (by omega) (by omega)
   rw [←List.range_eq_range'] at hin
   have hfl:(flagT l i ||(List.range i).any fun p=>l[p]? ==l[i]?)=flagT l (i+1):=(flagT_succ l i).symm
   rw [hfl] at hin
   have hin':L7_13 (n+5) l (flagT l i) (i:Int) 0 (top (kz i)::ND (l.take i)) [0]=_:=hin
   have w1:IntKind.wrap .i64 ((i:Int)+1)=((i+1:Nat):Int):=by rw [wrap_id (by omega) (by omega)];omega
   have hnl:(top (kz i)::ND (l.take i)).length=1+2*i:=by rw [List.length_cons,ND_len,List.length_take];omega
   have hlen:len (top (kz i)::ND (l.take i))=((1+2*i:Nat):Int):=by unfold len;rw [hnl]
   have w2:IntKind.wrap .i64 (((1+2*i:Nat):Int)+1)=((2+2*i:Nat):Int):=by rw [wrap_id (by omega) (by omega)];omega
   have h6:ilt (60:Int) (len l[i])=false:=ilt_f (by unfold len;omega)
   have hnew:∀ a b:NodT,(top (kz i)::ND (l.take i))++ [a,b]=top (kz i)::(ND (l.take i)++ [a,b]):=fun _ _=>rfl
   have e2:∀ z:List NodT,ilt (0:Int) (len (top (kz i)::z))=true:=fun z=>ilt_t (by unfold len;simp only [List.length_cons];omega)
   have hkl:(kz i).length=2*i:=kz_len i
   have r1:∀ a b:NodT,room (((top (kz i)::ND (l.take i)).length+(List.length [a,b]))*73)=true:=fun a b=>room_ok (by rw [hnl];simp only [List.length_cons,List.length_nil];unfold roomy;omega)
   have r2:∀ a b:Int,room (((kz i).length+(List.length [a,b]))*9)=true:=fun a b=>room_ok (by rw [hkl];simp only [List.length_cons,List.length_nil];unfold roomy;omega)
   have key:L7_7 (n+1) l (flagT l i) (i:Int) (top (kz i)::ND (l.take i)) [0]=L7_7 n l (flagT l (i+1)) ((i+1:Nat):Int) (top (kz (i+1))::ND (l.take (i+1))) [0]:=by
    have htk:l.take (i+1)=l.take i++ [l[i]]:=by rw [List.take_add_one,hx];rfl
    rw [htk,ND_app,kz_succ]
    conv=>lhs;unfold L7_7
    simp only [e1,cond_true,e0,Int.toNat_natCast,hx,Option.bind_some,ht,Bool.not_true,cond_false,h6,hin',r1,hnew,e2,List.getElem?_cons_zero,hlen,w1,w2]
    show (bif room (((kz i).length+(List.length [_,_]))*9) then _ else none)=_
    rw [r2,cond_true]
    rfl
   rw [key]
   rcases ih n (i+1) (by omega) (by omega) with h | ⟨h1,h2⟩
   ·exact .inl h
   ·refine .inr ⟨h1,fun s hs=>?_⟩
    rw [List.drop_eq_getElem_cons hil] at hs
    rcases List.mem_cons.1 hs with rfl |hs
    ·exact hok
    ·exact h2 s hs
  ·refine .inl ?_
   cases hxs:d8 l[i].length l[i] with
   |none=>
    rw [hxs] at ht
    refine ⟨((top (kz i)::ND (l.take i),([0],())),()),?_⟩
    conv=>lhs;unfold L7_7
    simp only [e1,cond_true,e0,Int.toNat_natCast,hx,Option.bind_some,ht,Bool.not_false]
   |some xs=>
    rw [hxs] at ht
    have h60:¬ l[i].length≤60:=fun h=>hok (by unfold okT;rw [hxs,decide_eq_true h];rfl)
    have h6:ilt (60:Int) (len l[i])=true:=ilt_t (by unfold len;omega)
    refine ⟨((top (kz i)::ND (l.take i),([0],())),()),?_⟩
    conv=>lhs;unfold L7_7
    simp only [e1,cond_true,e0,Int.toNat_natCast,hx,Option.bind_some,ht,Bool.not_true,cond_false,h6]
theorem sameTwice_spec (n:Nat) (hn:4000000≤n) (l:List TX) (hb:∀ s∈l,s.length≤1048576):sameTwice n l=some (true,()):=by
 unfold sameTwice
 by_cases hl:l.length≤20
 ·have e1:ilt (20:Int) (len l)=false:=ilt_f (by unfold len;omega)
  have h0:=L7_7_spec l hl hb l.length (n+5) 0 (by omega) (by omega)
  have hz:L7_7 (n+5) l (flagT l 0) ((0:Nat):Int) (top (kz 0)::ND (l.take 0)) [0]=L7_7 (n+5) l false (0:Int) (((3:Int),(([(109:UInt8)]:List UInt8),(([]:List UInt8),(([]:List Int),false)))):: []) ((0:Int)::([]:List Int)):=rfl
  rw [hz] at h0
  rcases h0 with ⟨y,h⟩ | ⟨h,hok⟩
  ·simp only [Option.bind_some,Bool.not_true,cond_false,e1,h]
  ·rw [List.drop_zero] at hok
   have hnd:=ND_len l
   have hev:Int.tmod (len (kz l.length)) 2=0:=by unfold len;rw [kz_len,Int.tmod_eq_emod_of_nonneg (by omega)];omega
   have hNl:(NG l).length=1+2*l.length:=by show (ND l).length+1=_;omega
   have hsm:∀ x∈ND l,∃ s,x=sc s∧s.length≤60∧textB s=true:=fun x hx=>by
    obtain ⟨s,h1,h2⟩:=ND_mem hx
    refine ⟨s,h1,?_⟩
    rcases h2 with rfl |h2
    ·exact ⟨by decide,by decide⟩
    ·have h3:=Bool.and_eq_true_iff.1 (hok s h2)
     have h4:=of_decide_eq_true h3.2
     refine ⟨h4,?_⟩
     unfold textB
     rw [h3.1,decide_eq_true (by omega)];rfl
   have hw:Wd (NG l):= ⟨kz l.length,ND l,rfl,by rw [kz_len];omega,fun c hc=>by have:=kz_mem hc;rw [hNl];omega,fun x hx=>by obtain ⟨s,h1,h2,_⟩:=hsm x hx;exact ⟨s,h1,h2⟩⟩
   have htw:=Wd_twice n (by omega) (kz l.length) (ND l) hw (by omega) hsm hev
   have htw':Twice n (NG l,[0])=some (0,dup (eN (NG l)) [] (evens (kz l.length)),()):=htw
   rw [dup_flag] at htw'
   simp only [Option.bind_some,Bool.not_true,cond_false,e1,h,htw',beq_self_eq_true,cond_true]
 ·have e1:ilt (20:Int) (len l)=true:=ilt_t (by unfold len;omega)
  simp only [Option.bind_some,Bool.not_true,cond_false,e1,cond_true]
theorem sameTwice_row (n:Nat) (hn:4000000≤n) (l:List TX) (hw:Sh.wfR 1048576 (.slc .str) l):sameTwice n l=some (true,()):=sameTwice_spec n hn l hw.2
end Go.Proofs.YtnddpppljnjmcaaGreatDoor
/- Functions whose answers are told: by the kit's contracts. -/
namespace Go.Proofs.YtnddpppljnjmcaaGreatDoor
open Go Go.Iv Go.Gv Go.Shelf Go.Proofs
def lays171_ren:Go.Shelf.Ren:= ⟨fun |171=>33 |243=>46 |246=>59 |283=>75 |284=>76 |285=>77 |286=>78 |129=>100 |317=>99 |318=>101 |319=>102 |320=>103 |337=>120 |338=>121 |n=>n,fun |3=>3 |9=>9 |2=>2 |4=>4 |171=>116 |0=>0 |53=>117 |37=>52 |5=>5 |173=>120 |212=>135 |51=>136 |20=>20 |213=>137 |46=>110 |232=>156 |233=>157 |n=>n,fun |17=>2 |18=>3 |19=>4 |n=>n⟩
theorem lays171:Go.Proofs.LaysM.n171 Tryz.prog lays171_ren:={
 mixed:=by kernel_rfl
 f129:=Tryz.func100.trans (congrArg some (by kernel_rfl))
 f171:=Tryz.func33.trans (congrArg some (by kernel_rfl))
 f243:=Tryz.func46.trans (congrArg some (by kernel_rfl))
 f246:=Tryz.func59.trans (congrArg some (by kernel_rfl))
 f283:=Tryz.func75.trans (congrArg some (by kernel_rfl))
 f284:=Tryz.func76.trans (congrArg some (by kernel_rfl))
 f285:=Tryz.func77.trans (congrArg some (by kernel_rfl))
 f286:=Tryz.func78.trans (congrArg some (by kernel_rfl))
 f317:=Tryz.func99.trans (congrArg some (by kernel_rfl))
 f318:=Tryz.func101.trans (congrArg some (by kernel_rfl))
 f319:=Tryz.func102.trans (congrArg some (by kernel_rfl))
 f320:=Tryz.func103.trans (congrArg some (by kernel_rfl))
 f337:=Tryz.func120.trans (congrArg some (by kernel_rfl))
 f338:=Tryz.func121.trans (congrArg some (by kernel_rfl))
 t0:=Tryz.underlying0
 a0:=Tryz.isAgg0
 z0:=Tryz.sizeOf0
 v0:=Tryz.zeroValue0
 t2:=Tryz.underlying2
 a2:=Tryz.isAgg2
 z2:=Tryz.sizeOf2
 v2:=Tryz.zeroValue2
 t3:=Tryz.underlying3
 a3:=Tryz.isAgg3
 z3:=Tryz.sizeOf3
 v3:=Tryz.zeroValue3
 t4:=Tryz.underlying4
 a4:=Tryz.isAgg4
 z4:=Tryz.sizeOf4
 v4:=Tryz.zeroValue4
 t5:=Tryz.underlying5
 a5:=Tryz.isAgg5
 z5:=Tryz.sizeOf5
 v5:=Tryz.zeroValue5
 t9:=Tryz.underlying9
 a9:=Tryz.isAgg9
 z9:=Tryz.sizeOf9
 v9:=Tryz.zeroValue9
 t20:=Tryz.underlying20
 a20:=Tryz.isAgg20
 z20:=Tryz.sizeOf20
 v20:=Tryz.zeroValue20
 t37:=Tryz.underlying52
 a37:=Tryz.isAgg52
 z37:=Tryz.sizeOf52
 v37:=Tryz.zeroValue52
 t46:=Tryz.underlying110
 a46:=Tryz.isAgg110
 z46:=Tryz.sizeOf110
 v46:=Tryz.zeroValue110
 t51:=Tryz.underlying136
 a51:=Tryz.isAgg136
 z51:=Tryz.sizeOf136
 v51:=Tryz.zeroValue136
 t53:=Tryz.underlying117
 a53:=Tryz.isAgg117
 z53:=Tryz.sizeOf117
 v53:=Tryz.zeroValue117
 t171:=Tryz.underlying116
 a171:=Tryz.isAgg116
 z171:=Tryz.sizeOf116
 v171:=Tryz.zeroValue116
 t173:=Tryz.underlying120
 a173:=Tryz.isAgg120
 z173:=Tryz.sizeOf120
 v173:=Tryz.zeroValue120
 t212:=Tryz.underlying135
 a212:=Tryz.isAgg135
 z212:=Tryz.sizeOf135
 v212:=Tryz.zeroValue135
 t213:=Tryz.underlying137
 a213:=Tryz.isAgg137
 z213:=Tryz.sizeOf137
 t232:=Tryz.underlying156
 a232:=Tryz.isAgg156
 z232:=Tryz.sizeOf156
 v232:=Tryz.zeroValue156
 t233:=Tryz.underlying157
 a233:=Tryz.isAgg157
 z233:=Tryz.sizeOf157
 v233:=Tryz.zeroValue157
 g17:=by kernel_rfl
 g18:=by kernel_rfl
 g19:=by kernel_rfl
 i0:=by kernel_rfl
 i2:=by kernel_rfl
 i3:=by kernel_rfl
 i4:=by kernel_rfl
 i5:=by kernel_rfl
 i9:=by kernel_rfl
 i20:=by kernel_rfl
 i37:=by kernel_rfl
 i46:=by kernel_rfl
 i51:=by kernel_rfl
 i53:=by kernel_rfl
 i171:=by kernel_rfl
 i173:=by kernel_rfl
 i212:=by kernel_rfl
 i232:=by kernel_rfl
 i233:=by kernel_rfl
 m17:=by kernel_rfl
 m18:=by kernel_rfl
 m19:=by kernel_rfl
}
def lays196_ren:Go.Shelf.Ren:= ⟨fun |196=>52 |259=>69 |n=>n,fun |9=>9 |4=>4 |3=>3 |5=>5 |12=>12 |119=>106 |0=>0 |46=>110 |139=>109 |138=>108 |53=>117 |n=>n,fun |3=>0 |4=>1 |n=>n⟩
theorem lays196:Go.Proofs.Lays.n196 Tryz.prog lays196_ren:={
 mixed:=by kernel_rfl
 f196:=Tryz.func52.trans (congrArg some (by kernel_rfl))
 f259:=Tryz.func69.trans (congrArg some (by kernel_rfl))
 t0:=Tryz.underlying0
 a0:=Tryz.isAgg0
 z0:=Tryz.sizeOf0
 v0:=Tryz.zeroValue0
 t3:=Tryz.underlying3
 a3:=Tryz.isAgg3
 z3:=Tryz.sizeOf3
 v3:=Tryz.zeroValue3
 t4:=Tryz.underlying4
 a4:=Tryz.isAgg4
 z4:=Tryz.sizeOf4
 v4:=Tryz.zeroValue4
 t5:=Tryz.underlying5
 a5:=Tryz.isAgg5
 z5:=Tryz.sizeOf5
 v5:=Tryz.zeroValue5
 t9:=Tryz.underlying9
 a9:=Tryz.isAgg9
 z9:=Tryz.sizeOf9
 v9:=Tryz.zeroValue9
 t12:=Tryz.underlying12
 a12:=Tryz.isAgg12
 z12:=Tryz.sizeOf12
 v12:=Tryz.zeroValue12
 t46:=Tryz.underlying110
 a46:=Tryz.isAgg110
 z46:=Tryz.sizeOf110
 v46:=Tryz.zeroValue110
 t53:=Tryz.underlying117
 a53:=Tryz.isAgg117
 z53:=Tryz.sizeOf117
 v53:=Tryz.zeroValue117
 t119:=Tryz.underlying106
 a119:=Tryz.isAgg106
 z119:=Tryz.sizeOf106
 t138:=Tryz.underlying108
 a138:=Tryz.isAgg108
 z138:=Tryz.sizeOf108
 v138:=Tryz.zeroValue108
 t139:=Tryz.underlying109
 a139:=Tryz.isAgg109
 z139:=Tryz.sizeOf109
 v139:=Tryz.zeroValue109
 g3:=by kernel_rfl
 g4:=by kernel_rfl
}
theorem sp8:Spec1 Tryz.prog 0 8 0:=spec_true alive_ok
theorem sp33:Spec1 Tryz.prog 1 33 2:=spec_itoa ⟨_,_,Tryz.func33,rfl⟩ (by kernel_rfl) fun n w h0 h1 ht=>Go.Proofs.Any.strconv_Itoa lays171 n h0 h1 w ht
theorem sp52:Spec1 Tryz.prog 3 52 1:=spec_valid (g1:=0) (g2:=1) (by decide) ⟨_,_,Tryz.func52,rfl⟩ fun s w h1 h2=>Go.Proofs.Any.utf8_ValidString lays196 s w h1 h2
theorem specs_ok:SpecOK Tryz.prog (gspec hint):=gspec_ok (show SpecsOK Tryz.prog specL from ⟨sp8,sp33,sp52,trivial⟩)
end Go.Proofs.YtnddpppljnjmcaaGreatDoor
