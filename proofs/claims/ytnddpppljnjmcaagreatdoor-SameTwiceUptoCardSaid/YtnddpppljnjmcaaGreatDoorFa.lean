/- Plain functions for the program's. -/
import Derived.Test.YtnddpppljnjmcaaGreatDoorGs
import Derived.Test.YtnddpppljnjmcaaGreatDoorProg
import Derived.KernelRfl
set_option linter.unusedSimpArgs false
set_option linter.unusedVariables false
namespace Go.Proofs.YtnddpppljnjmcaaGreatDoor
open Go Go.Iv Go.Gv
set_option maxRecDepth 100000
set_option linter.unusedVariables false
noncomputable def hex (_n:Nat) (c:Int):Option (Int×Unit):=
 Option.bind (bif (ile (48:Int) c) then
  some (ile c (57:Int))
 else
 some false) fun b1=>
 bif b1 then
 some ((IntKind.wrap .i64 (c - (48:Int))),())
 else
 Option.bind (bif (ile (97:Int) c) then
  some (ile c (102:Int))
 else
 some false) fun b3=>
 bif b3 then
 some ((IntKind.wrap .i64 ((IntKind.wrap .i64 (c - (97:Int)))+(10:Int))),())
 else
 Option.bind (bif (ile (65:Int) c) then
  some (ile c (70:Int))
 else
 some false) fun b5=>
 bif b5 then
 some ((IntKind.wrap .i64 ((IntKind.wrap .i64 (c - (65:Int)))+(10:Int))),())
 else
 some ((-(1:Int)),())
noncomputable def hex_it:FnIt:= ⟨90,[(false,(.int .i64))],[(false,(.int .i64))],1,fun n x=>hex n x.1⟩
theorem hex_ok (n:Nat):FnOK Tryz.prog hint shT hex_it n:=
 FnOK.of (hk:=fun β=>(Known.mk [] []).hk β) (sh:=shT) (fun m _=>KnownOK.hook KnownOK.nil m) (fun x=>by kernel_rfl)
noncomputable def word (_n:Nat) (c:Int):Option (Bool×Unit):=
 Option.bind (bif (ile (48:Int) c) then
  some (ile c (57:Int))
 else
 some false) fun b1=>
 bif b1 then
 some (true,())
 else
 Option.bind (bif (ile (97:Int) c) then
  some (ile c (122:Int))
 else
 some false) fun b3=>
 bif b3 then
 some (true,())
 else
 Option.bind (bif (ile (65:Int) c) then
  some (ile c (90:Int))
 else
 some false) fun b5=>
 bif b5 then
 some (true,())
 else
 some ((c==(45:Int)),())
noncomputable def word_it:FnIt:= ⟨107,[(false,(.int .i64))],[(false,.bool)],1,fun n x=>word n x.1⟩
theorem word_ok (n:Nat):FnOK Tryz.prog hint shT word_it n:=
 FnOK.of (hk:=fun β=>(Known.mk [] []).hk β) (sh:=shT) (fun m _=>KnownOK.hook KnownOK.nil m) (fun x=>by kernel_rfl)
noncomputable def L86_10_Xexit0:Tm:= ⟨[],[],64,64,1000⟩
noncomputable def L86_10_Xret:Tm:= ⟨[(2,.one (.int .i64))],[],64,64,1000⟩
noncomputable def L86_10_T:Tm:= ⟨[(0,.one (.lst (.int .i64))),(34,.one (.lst .byte)),(35,.one (.int .i64)),(36,.one (.int .i64))],[],64,64,1000⟩
noncomputable def L86_10:Nat→(List Int)→(List UInt8)→Int→Int→Option ((Unit×Unit)⊕((Int×Unit)×Unit))
 |0,_,_,_,_=>none
 |n+1,t0,t34,t35,t36=>
 bif (ilt t36 t35) then
  bif (ile (0:Int) t36) then
  Option.bind (t34[(Int.toNat t36)]?) fun x11=>
  Option.bind (t0[0]?) fun x12=>
  bif (x12==(IntKind.wrap .i64 (ub x11))) then
  some (.inr (((1:Int),()),()))
  else
  L86_10 n t0 t34 t35 (IntKind.wrap .i64 (t36+(1:Int)))
  else none
 else
 some (.inl ((),()))
noncomputable def L86_10_it:LoopIt:= ⟨86,10,none,L86_10_T,[(.exit 0,L86_10_Xexit0),(.ret,L86_10_Xret)],0,fun n x=>L86_10 n x.1.1 x.1.2.1 x.1.2.2.1 x.1.2.2.2.1,[]⟩
theorem L86_10_Xexit0_ok:L86_10_Xexit0.ok Tryz.prog hint:=Tm.okS rfl
theorem L86_10_Xret_ok:L86_10_Xret.ok Tryz.prog hint:=Tm.okS rfl
theorem L86_10_T_ok:L86_10_T.ok Tryz.prog hint:=Tm.okS rfl
theorem L86_10_ok:∀ n,LoopOK Tryz.prog hint shT L86_10_it n:=
 LoopOK.of (hk:=fun β=>(Known.mk [] []).hk β) (sh:=shT) (OneLoop.of (by kernel_rfl)) L86_10_T_ok ⟨⟨L86_10_Xexit0_ok,Nat.le_refl _,Nat.le_refl _⟩,⟨L86_10_Xret_ok,Nat.le_refl _,Nat.le_refl _⟩,trivial⟩ (fun m=>KnownOK.hook KnownOK.nil m)
  (fun _=>by kernel_rfl) (fun m x=>by kernel_rfl)
noncomputable def sign (n:Nat) (l:List Int):Option (Int×Unit):=
 bif ((len l)==(0:Int)) then
 some ((0:Int),())
 else
 Option.bind (l[0]?) fun x0=>
 bif (x0==(37:Int)) then
 bif (ilt (2:Int) (len l)) then
  Option.bind (l[1]?) fun x1=>
  Option.bind (hex n x1) fun y2=>
  bif (ile (0:Int) y2.1) then
  Option.bind (l[2]?) fun x3=>
  Option.bind (hex n x3) fun y4=>
  bif (ile (0:Int) y4.1) then
   some ((3:Int),())
  else
  some ((0:Int),())
  else
  some ((0:Int),())
 else
 some ((0:Int),())
 else
 Option.bind (l[0]?) fun x5=>
 Option.bind (word n x5) fun y6=>
 bif y6.1 then
 some ((1:Int),())
 else
 Option.bind (L86_10 (n+2) l ([(35:UInt8),(59:UInt8),(47:UInt8),(63:UInt8),(58:UInt8),(64:UInt8),(38:UInt8),(61:UInt8),(43:UInt8),(36:UInt8),(44:UInt8),(95:UInt8),(46:UInt8),(33:UInt8),(126:UInt8),(42:UInt8),(39:UInt8),(40:UInt8),(41:UInt8),(91:UInt8),(93:UInt8)]:List UInt8) (21:Int) (0:Int)) fun y13=>
 match y13 with
 | .inl _=>
  some ((0:Int),())
 | .inr y15=>
  some (y15.1.1,())
noncomputable def sign_it:FnIt:= ⟨86,[(false,(.slc (.int .i64)))],[(false,(.int .i64))],2,fun n x=>sign n x.1⟩
theorem sign_ok (n:Nat):FnOK Tryz.prog hint shT sign_it n:=
 FnOK.of (hk:=fun β=>(Known.mk [word_it,hex_it] [L86_10_it]).hk β) (sh:=shT) (fun m _=>KnownOK.hook (((KnownOK.nil.fn hex_ok).fn word_ok).loop L86_10_ok L86_10_T_ok) m) (fun x=>by kernel_rfl)
noncomputable def L40_3_Xexit0:Tm:= ⟨[(3,.one (.all 64 3 (.int .i64) .ex))],[],64,65,1000⟩
noncomputable def L40_3_T:Tm:= ⟨[(3,.one (.all 64 3 (.int .i64) .ex)),(7,.one (.lst .byte)),(8,.one (.int .i64)),(9,.one (.int .i64))],[],64,65,1000⟩
noncomputable def L40_3:Nat→(List Int)→(List UInt8)→Int→Int→Option (((List Int)×Unit)×Unit)
 |0,_,_,_,_=>none
 |n+1,t3,t7,t8,t9=>
 bif (ilt t9 t8) then
  bif (ile (0:Int) t9) then
  Option.bind (t7[(Int.toNat t9)]?) fun x3=>
  bif (room (((List.length t3)+(List.length ((IntKind.wrap .i64 (ub x3))::([]:List Int))))*9)) then
  L40_3 n (t3++((IntKind.wrap .i64 (ub x3))::([]:List Int))) t7 t8 (IntKind.wrap .i64 (t9+(1:Int)))
  else none
  else none
 else
 some ((t3,()),())
noncomputable def L40_3_it:LoopIt:= ⟨40,3,none,L40_3_T,[(.exit 0,L40_3_Xexit0)],0,fun n x=>L40_3 n x.1.1 x.1.2.1 x.1.2.2.1 x.1.2.2.2.1,[]⟩
theorem L40_3_Xexit0_ok:L40_3_Xexit0.ok Tryz.prog hint:=Tm.okS rfl
theorem L40_3_T_ok:L40_3_T.ok Tryz.prog hint:=Tm.okS rfl
theorem L40_3_ok:∀ n,LoopOK Tryz.prog hint shT L40_3_it n:=
 LoopOK.of (hk:=fun β=>(Known.mk [] []).hk β) (sh:=shT) (OneLoop.of (by kernel_rfl)) L40_3_T_ok ⟨⟨L40_3_Xexit0_ok,Nat.le_refl _,Nat.le_refl _⟩,trivial⟩ (fun m=>KnownOK.hook KnownOK.nil m)
  (fun _=>by kernel_rfl) (fun m x=>by kernel_rfl)
noncomputable def L85_1_Xret:Tm:= ⟨[],[(65,.cells 23 [.lst (.int .i64)] true),(66,.cells 36 [.fix (TV.fn 51 [] [])] true),(67,.cells 3 [.int .i64] true),(68,.cells 23 [.lst (.int .i64)] true),(69,.loop 50 Go.LoopState.ready (Option.none) (fiIn Tryz.prog hint 50) [(2,.one (.fix (TV.ptr 65 0))),(3,.one (.fix (TV.ptr 66 0))),(5,.one (.fix (TV.ptr 67 0)))] (rangeIn Tryz.prog 50 5).1 (rangeIn Tryz.prog 50 5).2.1 (rangeIn Tryz.prog 50 5).2.2)],70,70,2008⟩
noncomputable def L85_1_T:Tm:= ⟨[(0,.one (.fix (TV.yld 69))),(1,.one (.fix (TV.ptr 68 0))),(3,.one (.int .i64))],[(65,.cells 23 [.lst (.int .i64)] true),(66,.cells 36 [.fix (TV.fn 51 [] [])] true),(67,.cells 3 [.int .i64] true),(68,.cells 23 [.lst (.int .i64)] true),(69,.loop 50 Go.LoopState.ready (Option.none) (fiIn Tryz.prog hint 50) [(2,.one (.fix (TV.ptr 65 0))),(3,.one (.fix (TV.ptr 66 0))),(5,.one (.fix (TV.ptr 67 0)))] (rangeIn Tryz.prog 50 5).1 (rangeIn Tryz.prog 50 5).2.1 (rangeIn Tryz.prog 50 5).2.2)],70,70,2008⟩
noncomputable def L85_1:Nat→Int→(List Int)→Int→(List Int)→Option (Unit×(((List Int)×Unit)×((Unit×Unit)×((Int×Unit)×(((List Int)×Unit)×((Unit×(Unit×(Unit×Unit)))×Unit))))))
 |0,_,_,_,_=>none
 |n+1,t3,c65_0,c67_0,c68_0=>
 bif ((ile (0:Int) t3) &&(ile t3 (len c68_0))) then
 Option.bind (sign (n+1) (List.take ((List.length c68_0) - (Int.toNat t3)) (List.drop (Int.toNat t3) c68_0))) fun y9=>
 bif (y9.1==(0:Int)) then
  some ((),((c65_0,()),(((),()),((c67_0,()),((c68_0,()),(((),((),((),()))),()))))))
 else
 bif (ile (0:Int) t3) then
 Option.bind (c65_0[(Int.toNat t3)]?) fun _=>
 L85_1 n (IntKind.wrap .i64 (t3+y9.1)) c65_0 (IntKind.wrap .i64 (t3+y9.1)) c68_0
 else none
 else none
noncomputable def L85_1_it:LoopIt:= ⟨85,1,none,L85_1_T,[(.ret,L85_1_Xret)],3,fun n x=>L85_1 n x.1.2.2.1 x.2.1.1 x.2.2.2.1.1 x.2.2.2.2.1.1,[64]⟩
theorem L85_1_Xret_ok:L85_1_Xret.ok Tryz.prog hint:=by
 intro p hp
 simp only [L85_1_Xret,List.mem_cons,List.not_mem_nil,or_false] at hp
 rcases hp with rfl |rfl |rfl |rfl |rfl
 ·trivial
 ·trivial
 ·trivial
 ·trivial
 ·exact Uniq.of (by kernel_rfl) (by kernel_rfl)
theorem L85_1_T_ok:L85_1_T.ok Tryz.prog hint:=by
 intro p hp
 simp only [L85_1_T,List.mem_cons,List.not_mem_nil,or_false] at hp
 rcases hp with rfl |rfl |rfl |rfl |rfl
 ·trivial
 ·trivial
 ·trivial
 ·trivial
 ·exact Uniq.of (by kernel_rfl) (by kernel_rfl)
theorem L85_1_ok:∀ n,LoopOK Tryz.prog hint shT L85_1_it n:=
 LoopOK.of (hk:=fun β=>(Known.mk [sign_it] []).hk β) (sh:=shT) (OneLoop.of (by kernel_rfl)) L85_1_T_ok ⟨⟨L85_1_Xret_ok,Nat.le_refl _,Nat.le_refl _⟩,trivial⟩ (fun m=>KnownOK.hook (KnownOK.nil.fn sign_ok) m)
  (fun _=>by kernel_rfl) (fun m x=>by kernel_rfl)
noncomputable def valid (n:Nat) (tag:List UInt8):Option (Bool×Unit):=
 Option.bind (L40_3 (n+5) ([]:List Int) tag (len tag) (0:Int)) fun y4=>
 bif (ilt (0:Int) (len y4.1.1)) then
 Option.bind (L85_1 n (0:Int) y4.1.1 (0:Int) y4.1.1) fun y11=>
 some ((y11.2.2.2.1.1==(len y4.1.1)),())
 else
 some (false,())
noncomputable def valid_it:FnIt:= ⟨40,[(false,.str)],[(false,.bool)],5,fun n x=>valid n x.1⟩
theorem valid_ok (n:Nat):FnOK Tryz.prog hint shT valid_it n:=
 FnOK.of (hk:=fun β=>(Known.mk [] [L85_1_it,L40_3_it]).hk β) (sh:=shT) (fun m _=>KnownOK.hook ((KnownOK.nil.loop L40_3_ok L40_3_T_ok).loop L85_1_ok L85_1_T_ok) m) (fun x=>by kernel_rfl)
noncomputable def textOk (_n:Nat) (s:List UInt8):Option (Bool×Unit):=
 bif (ile (len s) (262144:Int)) then
 bif (Nat.ble (List.length s) 9223372036854775807) then
 some ((Go.Lib.validD s),())
 else none
 else
 some (false,())
noncomputable def textOk_it:FnIt:= ⟨41,[(false,.str)],[(false,.bool)],1,fun n x=>textOk n x.1⟩
theorem textOk_ok (n:Nat):FnOK Tryz.prog hint shT textOk_it n:=
 FnOK.of (hk:=fun β=>(Known.mk [] []).hk β) (sh:=shT) (fun m _=>KnownOK.hook KnownOK.nil m) (fun x=>by kernel_rfl)
noncomputable def L27_2_Xexit0:Tm:= ⟨[],[(64,.cells 25 [.lst sN,.lst (.int .i64)] true)],65,65,1001⟩
noncomputable def L27_2_Xret:Tm:= ⟨[(4,.one (.bool))],[(64,.cells 25 [.lst sN,.lst (.int .i64)] true)],65,65,1001⟩
noncomputable def L27_2_T:Tm:= ⟨[(2,.one (.fix (TV.ptr 64 0))),(7,.one (.lst (.int .i64))),(8,.one (.int .i64)),(9,.one (.int .i64))],[(64,.cells 25 [.lst sN,.lst (.int .i64)] true)],65,65,1001⟩
noncomputable def L27_2:Nat→(List Int)→Int→Int→qN→(List Int)→Option ((Unit×((qN×((List Int)×Unit))×Unit))⊕((Bool×Unit)×((qN×((List Int)×Unit))×Unit)))
 |0,_,_,_,_,_=>none
 |n+1,t7,t8,t9,c64_0,c64_1=>
 bif (ilt t9 t8) then
  bif (ile (0:Int) t9) then
  Option.bind (t7[(Int.toNat t9)]?) fun x2=>
  bif (ilt x2 (0:Int)) then
  some (.inr ((false,()),((c64_0,(c64_1,())),())))
  else
  bif (ile (len c64_0) x2) then
  some (.inr ((false,()),((c64_0,(c64_1,())),())))
  else
  L27_2 n t7 t8 (IntKind.wrap .i64 (t9+(1:Int))) c64_0 c64_1
  else none
 else
 some (.inl ((),((c64_0,(c64_1,())),())))
noncomputable def L27_2_it:LoopIt:= ⟨27,2,none,L27_2_T,[(.exit 0,L27_2_Xexit0),(.ret,L27_2_Xret)],0,fun n x=>L27_2 n x.1.2.1 x.1.2.2.1 x.1.2.2.2.1 x.2.1.1 x.2.1.2.1,[]⟩
theorem L27_2_Xexit0_ok:L27_2_Xexit0.ok Tryz.prog hint:=Tm.okS rfl
theorem L27_2_Xret_ok:L27_2_Xret.ok Tryz.prog hint:=Tm.okS rfl
theorem L27_2_T_ok:L27_2_T.ok Tryz.prog hint:=Tm.okS rfl
theorem L27_2_ok:∀ n,LoopOK Tryz.prog hint shT L27_2_it n:=
 LoopOK.of (hk:=fun β=>(Known.mk [] []).hk β) (sh:=shT) (OneLoop.of (by kernel_rfl)) L27_2_T_ok ⟨⟨L27_2_Xexit0_ok,Nat.le_refl _,Nat.le_refl _⟩,⟨L27_2_Xret_ok,Nat.le_refl _,Nat.le_refl _⟩,trivial⟩ (fun m=>KnownOK.hook KnownOK.nil m)
  (fun _=>by kernel_rfl) (fun m x=>by kernel_rfl)
noncomputable def are (n:Nat) (g:(List (Int×(List UInt8×(List UInt8×(List Int×Bool))))×List Int)) (l:List Int):Option (Bool×Unit):=
 Option.bind (L27_2 (n+1) l (len l) (0:Int) g.1 g.2) fun y3=>
 match y3 with
 | .inl _=>
  some (true,())
 | .inr y5=>
  some (y5.1.1,())
noncomputable def are_it:FnIt:= ⟨27,[(true,(.cons (.slc sN) (.slc (.int .i64)))),(false,(.slc (.int .i64)))],[(false,.bool)],1,fun n x=>are n x.1 x.2.1⟩
theorem are_ok (n:Nat):FnOK Tryz.prog hint shT are_it n:=
 FnOK.of (hk:=fun β=>(Known.mk [] [L27_2_it]).hk β) (sh:=shT) (fun m _=>KnownOK.hook (KnownOK.nil.loop L27_2_ok L27_2_T_ok) m) (fun x=>by kernel_rfl)
noncomputable def node (n:Nat) (x:(Int×(List UInt8×(List UInt8×(List Int×Bool))))):Option (Bool×Unit):=
 bif (ilt (1000:Int) (len x.2.1)) then
 some (false,())
 else
 bif (x.2.1==([(33:UInt8)]:List UInt8)) then
 some (false,())
 else
 Option.bind (valid n x.2.1) fun y0=>
 bif (!y0.1) then
 some (false,())
 else
 bif (x.1==(1:Int)) then
 bif ((len x.2.2.2.1)==(0:Int)) then
  Option.bind (textOk (n+4) x.2.2.1) fun y1=>
  some (y1.1,())
 else
 some (false,())
 else
 bif (x.1==(2:Int)) then
 Option.bind (bif (x.2.2.1==([]:List UInt8)) then
  some (!x.2.2.2.2)
  else
  some false) fun b3=>
 some (b3,())
 else
 bif (x.1==(3:Int)) then
 bif (x.2.2.1==([]:List UInt8)) then
  bif (!x.2.2.2.2) then
  some (((Int.tmod (len x.2.2.2.1) (2:Int))==(0:Int)),())
  else
  some (false,())
 else
 some (false,())
 else
 some (false,())
noncomputable def node_it:FnIt:= ⟨28,[(true,sN)],[(false,.bool)],6,fun n x=>node n x.1⟩
theorem node_ok (n:Nat):FnOK Tryz.prog hint shT node_it n:=
 FnOK.of (hk:=fun β=>(Known.mk [textOk_it,valid_it] []).hk β) (sh:=shT) (fun m _=>KnownOK.hook ((KnownOK.nil.fn valid_ok).fn textOk_ok) m) (fun x=>by kernel_rfl)
noncomputable def L20_5_Xexit0:Tm:= ⟨[],[(64,.cells 25 [.lst sN,.lst (.int .i64)] true)],65,65,1001⟩
noncomputable def L20_5_Xret:Tm:= ⟨[(2,.one (.bool))],[(64,.cells 25 [.lst sN,.lst (.int .i64)] true)],65,65,1001⟩
noncomputable def L20_5_T:Tm:= ⟨[(1,.one (.fix (TV.ptr 64 0))),(3,.one (.int .i64)),(24,.one (.lst sN)),(25,.one (.int .i64)),(26,.one (.int .i64))],[(64,.cells 25 [.lst sN,.lst (.int .i64)] true)],65,65,1001⟩
noncomputable def L20_5:Nat→Int→qN→Int→Int→qN→(List Int)→Option ((Unit×((qN×((List Int)×Unit))×Unit))⊕((Bool×Unit)×((qN×((List Int)×Unit))×Unit)))
 |0,_,_,_,_,_,_=>none
 |n+1,t3,t24,t25,t26,c64_0,c64_1=>
 bif (ilt t26 t25) then
  bif (ile (0:Int) t26) then
  Option.bind (t24[(Int.toNat t26)]?) fun x7=>
  bif (ilt (20000:Int) (IntKind.wrap .i64 (t3+(len x7.2.2.2.1)))) then
  some (.inr ((false,()),((c64_0,(c64_1,())),())))
  else
  Option.bind (node (n+1) (x7.1,(x7.2.1,(x7.2.2.1,(x7.2.2.2.1,x7.2.2.2.2))))) fun y8=>
  bif (!y8.1) then
  some (.inr ((false,()),((c64_0,(c64_1,())),())))
  else
  Option.bind (are (n+6) (c64_0,c64_1) x7.2.2.2.1) fun y9=>
  bif (!y9.1) then
  some (.inr ((false,()),((c64_0,(c64_1,())),())))
  else
  L20_5 n (IntKind.wrap .i64 (t3+(len x7.2.2.2.1))) t24 t25 (IntKind.wrap .i64 (t26+(1:Int))) c64_0 c64_1
  else none
 else
 some (.inl ((),((c64_0,(c64_1,())),())))
noncomputable def L20_5_it:LoopIt:= ⟨20,5,none,L20_5_T,[(.exit 0,L20_5_Xexit0),(.ret,L20_5_Xret)],7,fun n x=>L20_5 n x.1.2.1 x.1.2.2.1 x.1.2.2.2.1 x.1.2.2.2.2.1 x.2.1.1 x.2.1.2.1,[]⟩
theorem L20_5_Xexit0_ok:L20_5_Xexit0.ok Tryz.prog hint:=Tm.okS rfl
theorem L20_5_Xret_ok:L20_5_Xret.ok Tryz.prog hint:=Tm.okS rfl
theorem L20_5_T_ok:L20_5_T.ok Tryz.prog hint:=Tm.okS rfl
theorem L20_5_ok:∀ n,LoopOK Tryz.prog hint shT L20_5_it n:=
 LoopOK.of (hk:=fun β=>(Known.mk [are_it,node_it] []).hk β) (sh:=shT) (OneLoop.of (by kernel_rfl)) L20_5_T_ok ⟨⟨L20_5_Xexit0_ok,Nat.le_refl _,Nat.le_refl _⟩,⟨L20_5_Xret_ok,Nat.le_refl _,Nat.le_refl _⟩,trivial⟩ (fun m=>KnownOK.hook ((KnownOK.nil.fn node_ok).fn are_ok) m)
  (fun _=>by kernel_rfl) (fun m x=>by kernel_rfl)
noncomputable def right (n:Nat) (g:(List (Int×(List UInt8×(List UInt8×(List Int×Bool))))×List Int)):Option (Bool×Unit):=
 bif (ilt (20000:Int) (len g.1)) then
 some (false,())
 else
 bif (ilt (20000:Int) (len g.2)) then
 some (false,())
 else
 Option.bind (are (n+5) (g.1,g.2) g.2) fun y0=>
 bif (!y0.1) then
 some (false,())
 else
 Option.bind (L20_5 n (0:Int) g.1 (len g.1) (0:Int) g.1 g.2) fun y10=>
 match y10 with
 | .inl _=>
  some (true,())
 | .inr y12=>
  some (y12.1.1,())
noncomputable def right_it:FnIt:= ⟨20,[(true,(.cons (.slc sN) (.slc (.int .i64))))],[(false,.bool)],7,fun n x=>right n x.1⟩
theorem right_ok (n:Nat):FnOK Tryz.prog hint shT right_it n:=
 FnOK.of (hk:=fun β=>(Known.mk [are_it] [L20_5_it]).hk β) (sh:=shT) (fun m _=>KnownOK.hook ((KnownOK.nil.fn are_ok).loop L20_5_ok L20_5_T_ok) m) (fun x=>by kernel_rfl)
end Go.Proofs.YtnddpppljnjmcaaGreatDoor
