/- Plain functions for the program's. -/
import Derived.Test.YtnddpppljnjmcaaGreatDoorFa
import Derived.Test.YtnddpppljnjmcaaGreatDoorGvPlain
import Derived.Lib.ValidLaws
set_option linter.unusedSimpArgs false
set_option linter.unusedVariables false
namespace Go.Proofs.YtnddpppljnjmcaaGreatDoor
open Go Go.Iv Go.Gv
set_option maxRecDepth 100000
set_option linter.unusedVariables false
noncomputable def hex (_n:Nat) (c:Int):Option (Int×Unit):=
 Option.bind (bif (aB 48 c) then
  some (aB c 57)
 else
 some false) fun b1=>
 bif b1 then
 some ((IntKind.wrap .i64 (c - 48)),())
 else
 Option.bind (bif (aB 97 c) then
  some (aB c 102)
 else
 some false) fun b3=>
 bif b3 then
 some ((IntKind.wrap .i64 ((IntKind.wrap .i64 (c - 97))+10)),())
 else
 Option.bind (bif (aB 65 c) then
  some (aB c 70)
 else
 some false) fun b5=>
 bif b5 then
 some ((IntKind.wrap .i64 ((IntKind.wrap .i64 (c - 65))+10)),())
 else
 some ((-1),())
noncomputable def Gj:aT:=⟨90,[(false,(.int .i64))],[(false,(.int .i64))],1,fun n x=>hex n x.1⟩
theorem M8 (n:Nat):ao Tryz.prog hint aH Gj n:=
 ao.of (hk:=fun β=>(aj.mk [] []).hk β) (sh:=aH) (fun m _=>ab.au ab.nil m) (fun x=>by kernel_rfl)
noncomputable def word (_n:Nat) (c:Int):Option (Bool×Unit):=
 Option.bind (bif (aB 48 c) then
  some (aB c 57)
 else
 some false) fun b1=>
 bif b1 then
 some (true,())
 else
 Option.bind (bif (aB 97 c) then
  some (aB c 122)
 else
 some false) fun b3=>
 bif b3 then
 some (true,())
 else
 Option.bind (bif (aB 65 c) then
  some (aB c 90)
 else
 some false) fun b5=>
 bif b5 then
 some (true,())
 else
 some ((c==45),())
noncomputable def Jc:aT:=⟨107,[(false,(.int .i64))],[(false,.bool)],1,fun n x=>word n x.1⟩
theorem P4 (n:Nat):ao Tryz.prog hint aH Jc n:=
 ao.of (hk:=fun β=>(aj.mk [] []).hk β) (sh:=aH) (fun m _=>ab.au ab.nil m) (fun x=>by kernel_rfl)
noncomputable def l6:Tm:=⟨[],[],64,64,1000⟩
noncomputable def qW:Tm:=⟨[(2,.one (.int .i64))],[],64,64,1000⟩
noncomputable def Fl:Tm:=⟨[(0,.one (.aC (.int .i64))),(34,.one (.aC .byte)),(35,.one (.int .i64)),(36,.one (.int .i64))],[],64,64,1000⟩
noncomputable def qw:Nat→(List Int)→(List UInt8)→Int→Int→Option ((Unit×Unit)⊕((Int×Unit)×Unit))
 |0,_,_,_,_=>none
 |n+1,t0,t34,t35,t36=>
 bif (aO t36 t35) then
  bif (aB 0 t36) then
  Option.bind (t34[(Int.toNat t36)]?) fun x11=>
  Option.bind (t0[0]?) fun x12=>
  bif (x12==(IntKind.wrap .i64 (ub x11))) then
  some (.inr ((1,()),()))
  else
  qw n t0 t34 t35 (IntKind.wrap .i64 (t36+1))
  else none
 else
 some (.inl ((),()))
noncomputable def zG:aA:=⟨86,10,none,Fl,[(.exit 0,l6),(.ret,qW)],0,fun n x=>qw n x.1.1 x.1.2.1 x.1.2.2.1 x.1.2.2.2.1,[]⟩
theorem qv:l6.ok Tryz.prog hint:=Tm.bF rfl
theorem wm:qW.ok Tryz.prog hint:=Tm.bF rfl
theorem qU:Fl.ok Tryz.prog hint:=Tm.bF rfl
theorem Lb:∀ n,ai Tryz.prog hint aH zG n:=
 ai.of (hk:=fun β=>(aj.mk [] []).hk β) (sh:=aH) (ay.of (by kernel_rfl)) qU ⟨⟨qv,Nat.le_refl _,Nat.le_refl _⟩,⟨wm,Nat.le_refl _,Nat.le_refl _⟩,trivial⟩ (fun m=>ab.au ab.nil m)
  (fun _=>by kernel_rfl) (fun m x=>by kernel_rfl)
noncomputable def sign (n:Nat) (l:List Int):Option (Int×Unit):=
 bif ((len l)==0) then
 some (0,())
 else
 Option.bind (l[0]?) fun x0=>
 bif (x0==37) then
 bif (aO 2 (len l)) then
  Option.bind (l[1]?) fun x1=>
  Option.bind (hex n x1) fun y2=>
  bif (aB 0 y2.1) then
  Option.bind (l[2]?) fun x3=>
  Option.bind (hex n x3) fun y4=>
  bif (aB 0 y4.1) then
   some (3,())
  else
  some (0,())
  else
  some (0,())
 else
 some (0,())
 else
 Option.bind (l[0]?) fun x5=>
 Option.bind (word n x5) fun y6=>
 bif y6.1 then
 some (1,())
 else
 Option.bind (qw (n+2) l ([35,59,47,63,58,64,38,61,43,36,44,95,46,33,126,42,39,40,41,91,93]:List UInt8) 21 0) fun y13=>
 match y13 with
 | .inl _=>
  some (0,())
 | .inr y15=>
  some (y15.1.1,())
noncomputable def IF:aT:=⟨86,[(false,(.bQ (.int .i64)))],[(false,(.int .i64))],2,fun n x=>sign n x.1⟩
theorem PZ (n:Nat):ao Tryz.prog hint aH IF n:=
 ao.of (hk:=fun β=>(aj.mk [Jc,Gj] [zG]).hk β) (sh:=aH) (fun m _=>ab.au (((ab.nil.fn M8).fn P4).loop Lb qU) m) (fun x=>by kernel_rfl)
noncomputable def pq:Tm:=⟨[(3,.one (.all 64 3 (.int .i64) .ex))],[],64,65,1000⟩
noncomputable def Ia:Tm:=⟨[(3,.one (.all 64 3 (.int .i64) .ex)),(7,.one (.aC .byte)),(8,.one (.int .i64)),(9,.one (.int .i64))],[],64,65,1000⟩
noncomputable def yS:Nat→(List Int)→(List UInt8)→Int→Int→Option (((List Int)×Unit)×Unit)
 |0,_,_,_,_=>none
 |n+1,t3,t7,t8,t9=>
 bif (aO t9 t8) then
  bif (aB 0 t9) then
  Option.bind (t7[(Int.toNat t9)]?) fun x3=>
  bif (room (((List.length t3)+(List.length ((IntKind.wrap .i64 (ub x3))::([]:List Int))))*9)) then
  yS n (t3++((IntKind.wrap .i64 (ub x3))::([]:List Int))) t7 t8 (IntKind.wrap .i64 (t9+1))
  else none
  else none
 else
 some ((t3,()),())
noncomputable def DM:aA:=⟨40,3,none,Ia,[(.exit 0,pq)],0,fun n x=>yS n x.1.1 x.1.2.1 x.1.2.2.1 x.1.2.2.2.1,[]⟩
theorem s5:pq.ok Tryz.prog hint:=Tm.bF rfl
theorem uh:Ia.ok Tryz.prog hint:=Tm.bF rfl
theorem Mv:∀ n,ai Tryz.prog hint aH DM n:=
 ai.of (hk:=fun β=>(aj.mk [] []).hk β) (sh:=aH) (ay.of (by kernel_rfl)) uh ⟨⟨s5,Nat.le_refl _,Nat.le_refl _⟩,trivial⟩ (fun m=>ab.au ab.nil m)
  (fun _=>by kernel_rfl) (fun m x=>by kernel_rfl)
noncomputable def mm:Tm:=⟨[],[(65,.cells 23 [.aC (.int .i64)] true),(66,.cells 36 [.fix (TV.fn 51 [] [])] true),(67,.cells 3 [.int .i64] true),(68,.cells 23 [.aC (.int .i64)] true),(69,.loop 50 Go.LoopState.ready (Option.none) (Kx Tryz.prog hint 50) [(2,.one (.fix (TV.ptr 65 0))),(3,.one (.fix (TV.ptr 66 0))),(5,.one (.fix (TV.ptr 67 0)))] (fa Tryz.prog 50 5).1 (fa Tryz.prog 50 5).2.1 (fa Tryz.prog 50 5).2.2)],70,70,2008⟩
noncomputable def Ay:Tm:=⟨[(0,.one (.fix (TV.pA 69))),(1,.one (.fix (TV.ptr 68 0))),(3,.one (.int .i64))],[(65,.cells 23 [.aC (.int .i64)] true),(66,.cells 36 [.fix (TV.fn 51 [] [])] true),(67,.cells 3 [.int .i64] true),(68,.cells 23 [.aC (.int .i64)] true),(69,.loop 50 Go.LoopState.ready (Option.none) (Kx Tryz.prog hint 50) [(2,.one (.fix (TV.ptr 65 0))),(3,.one (.fix (TV.ptr 66 0))),(5,.one (.fix (TV.ptr 67 0)))] (fa Tryz.prog 50 5).1 (fa Tryz.prog 50 5).2.1 (fa Tryz.prog 50 5).2.2)],70,70,2008⟩
noncomputable def zc:Nat→Int→(List Int)→Int→(List Int)→Option (Unit×(((List Int)×Unit)×((Unit×Unit)×((Int×Unit)×(((List Int)×Unit)×((Unit×(Unit×(Unit×Unit)))×Unit))))))
 |0,_,_,_,_=>none
 |n+1,t3,c65_0,c67_0,c68_0=>
 bif ((aB 0 t3) &&(aB t3 (len c68_0))) then
 Option.bind (sign (n+1) (List.take ((List.length c68_0) - (Int.toNat t3)) (List.drop (Int.toNat t3) c68_0))) fun y9=>
 bif (y9.1==0) then
  some ((),((c65_0,()),(((),()),((c67_0,()),((c68_0,()),(((),((),((),()))),()))))))
 else
 bif (aB 0 t3) then
 Option.bind (c65_0[(Int.toNat t3)]?) fun _=>
 zc n (IntKind.wrap .i64 (t3+y9.1)) c65_0 (IntKind.wrap .i64 (t3+y9.1)) c68_0
 else none
 else none
noncomputable def DE:aA:=⟨85,1,none,Ay,[(.ret,mm)],3,fun n x=>zc n x.1.2.2.1 x.2.1.1 x.2.2.2.1.1 x.2.2.2.2.1.1,[64]⟩
theorem xx:mm.ok Tryz.prog hint:=by
 intro p hp
 simp only [mm,List.mem_cons,List.not_mem_nil,or_false] at hp
 rcases hp with rfl |rfl |rfl |rfl |rfl
 ·trivial
 ·trivial
 ·trivial
 ·trivial
 ·exact Lm.of (by kernel_rfl) (by kernel_rfl)
theorem vY:Ay.ok Tryz.prog hint:=by
 intro p hp
 simp only [Ay,List.mem_cons,List.not_mem_nil,or_false] at hp
 rcases hp with rfl |rfl |rfl |rfl |rfl
 ·trivial
 ·trivial
 ·trivial
 ·trivial
 ·exact Lm.of (by kernel_rfl) (by kernel_rfl)
theorem Nv:∀ n,ai Tryz.prog hint aH DE n:=
 ai.of (hk:=fun β=>(aj.mk [IF] []).hk β) (sh:=aH) (ay.of (by kernel_rfl)) vY ⟨⟨xx,Nat.le_refl _,Nat.le_refl _⟩,trivial⟩ (fun m=>ab.au (ab.nil.fn PZ) m)
  (fun _=>by kernel_rfl) (fun m x=>by kernel_rfl)
noncomputable def valid (n:Nat) (tag:List UInt8):Option (Bool×Unit):=
 Option.bind (yS (n+5) ([]:List Int) tag (len tag) 0) fun y4=>
 bif (aO 0 (len y4.1.1)) then
 Option.bind (zc n 0 y4.1.1 0 y4.1.1) fun y11=>
 some ((y11.2.2.2.1.1==(len y4.1.1)),())
 else
 some (false,())
noncomputable def CK:aT:=⟨40,[(false,.str)],[(false,.bool)],5,fun n x=>valid n x.1⟩
theorem M5 (n:Nat):ao Tryz.prog hint aH CK n:=
 ao.of (hk:=fun β=>(aj.mk [] [DE,DM]).hk β) (sh:=aH) (fun m _=>ab.au ((ab.nil.loop Mv uh).loop Nv vY) m) (fun x=>by kernel_rfl)
end Go.Proofs.YtnddpppljnjmcaaGreatDoor
/- Plain functions for the program's. -/
namespace Go.Proofs.YtnddpppljnjmcaaGreatDoor
open Go Go.Iv Go.Gv
set_option maxRecDepth 100000
set_option linter.unusedVariables false
noncomputable def wC (_n:Nat) (s:List UInt8):Option (Bool×Unit):=
 bif (aB (len s) 262144) then
 bif (Nat.ble (List.length s) 9223372036854775807) then
 some ((Go.Lib.validD s),())
 else none
 else
 some (false,())
noncomputable def yW:aT:=⟨41,[(false,.str)],[(false,.bool)],1,fun n x=>wC n x.1⟩
theorem JF (n:Nat):ao Tryz.prog hint aH yW n:=
 ao.of (hk:=fun β=>(aj.mk [] []).hk β) (sh:=aH) (fun m _=>ab.au ab.nil m) (fun x=>by kernel_rfl)
noncomputable def oE:Tm:=⟨[],[(64,.cells 25 [.aC sN,.aC (.int .i64)] true)],65,65,1001⟩
noncomputable def wK:Tm:=⟨[(4,.one (.bool))],[(64,.cells 25 [.aC sN,.aC (.int .i64)] true)],65,65,1001⟩
noncomputable def Ir:Tm:=⟨[(2,.one (.fix (TV.ptr 64 0))),(7,.one (.aC (.int .i64))),(8,.one (.int .i64)),(9,.one (.int .i64))],[(64,.cells 25 [.aC sN,.aC (.int .i64)] true)],65,65,1001⟩
noncomputable def yy:Nat→(List Int)→Int→Int→qN→(List Int)→Option ((Unit×((qN×((List Int)×Unit))×Unit))⊕((Bool×Unit)×((qN×((List Int)×Unit))×Unit)))
 |0,_,_,_,_,_=>none
 |n+1,t7,t8,t9,c64_0,c64_1=>
 bif (aO t9 t8) then
  bif (aB 0 t9) then
  Option.bind (t7[(Int.toNat t9)]?) fun x6=>
  Option.bind (bif (aO x6 0) then
   some true
  else
  some (aB (len c64_0) x6)) fun b8=>
  bif b8 then
  some (.inr ((false,()),((c64_0,(c64_1,())),())))
  else
  yy n t7 t8 (IntKind.wrap .i64 (t9+1)) c64_0 c64_1
  else none
 else
 some (.inl ((),((c64_0,(c64_1,())),())))
noncomputable def DW:aA:=⟨27,2,none,Ir,[(.exit 0,oE),(.ret,wK)],0,fun n x=>yy n x.1.2.1 x.1.2.2.1 x.1.2.2.2.1 x.2.1.1 x.2.1.2.1,[]⟩
theorem sL:oE.ok Tryz.prog hint:=Tm.bF rfl
theorem xN:wK.ok Tryz.prog hint:=Tm.bF rfl
theorem uB:Ir.ok Tryz.prog hint:=Tm.bF rfl
theorem NL:∀ n,ai Tryz.prog hint aH DW n:=
 ai.of (hk:=fun β=>(aj.mk [] []).hk β) (sh:=aH) (ay.of (by kernel_rfl)) uB ⟨⟨sL,Nat.le_refl _,Nat.le_refl _⟩,⟨xN,Nat.le_refl _,Nat.le_refl _⟩,trivial⟩ (fun m=>ab.au ab.nil m)
  (fun _=>by kernel_rfl) (fun m x=>by kernel_rfl)
noncomputable def RD (n:Nat) (g:(List (Int×(List UInt8×(List UInt8×(List Int×Bool))))×List Int)) (l:List Int):Option (Bool×Unit):=
 Option.bind (yy (n+1) l (len l) 0 g.1 g.2) fun y9=>
 match y9 with
 | .inl _=>
  some (true,())
 | .inr y11=>
  some (y11.1.1,())
noncomputable def G3:aT:=⟨27,[(true,(.cons (.bQ sN) (.bQ (.int .i64)))),(false,(.bQ (.int .i64)))],[(false,.bool)],1,fun n x=>RD n x.1 x.2.1⟩
theorem Mc (n:Nat):ao Tryz.prog hint aH G3 n:=
 ao.of (hk:=fun β=>(aj.mk [] [DW]).hk β) (sh:=aH) (fun m _=>ab.au (ab.nil.loop NL uB) m) (fun x=>by kernel_rfl)
noncomputable def node (n:Nat) (x:(Int×(List UInt8×(List UInt8×(List Int×Bool))))):Option (Bool×Unit):=
 bif (aO 1000 (len x.2.1)) then
 some (false,())
 else
 bif (x.2.1==([33]:List UInt8)) then
 some (false,())
 else
 Option.bind (valid n x.2.1) fun y0=>
 bif (!y0.1) then
 some (false,())
 else
 bif (x.1==1) then
 bif ((len x.2.2.2.1)==0) then
  Option.bind (wC (n+4) x.2.2.1) fun y1=>
  some (y1.1,())
 else
 some (false,())
 else
 bif (x.1==2) then
 Option.bind (bif (x.2.2.1==([]:List UInt8)) then
  some (!x.2.2.2.2)
  else
  some false) fun b3=>
 some (b3,())
 else
 bif (x.1==3) then
 Option.bind (bif (x.2.2.1==([]:List UInt8)) then
  bif (!x.2.2.2.2) then
   some ((Int.tmod (len x.2.2.2.1) 2)==0)
  else
  some false
  else
  some false) fun b5=>
 some (b5,())
 else
 some (false,())
noncomputable def IJ:aT:=⟨28,[(true,sN)],[(false,.bool)],6,fun n x=>node n x.1⟩
theorem Py (n:Nat):ao Tryz.prog hint aH IJ n:=
 ao.of (hk:=fun β=>(aj.mk [yW,CK] []).hk β) (sh:=aH) (fun m _=>ab.au ((ab.nil.fn M5).fn JF) m) (fun x=>by kernel_rfl)
noncomputable def ng:Tm:=⟨[],[(64,.cells 25 [.aC sN,.aC (.int .i64)] true)],65,65,1001⟩
noncomputable def ug:Tm:=⟨[(2,.one (.bool))],[(64,.cells 25 [.aC sN,.aC (.int .i64)] true)],65,65,1001⟩
noncomputable def IX:Tm:=⟨[(1,.one (.fix (TV.ptr 64 0))),(3,.one (.int .i64)),(24,.one (.aC sN)),(25,.one (.int .i64)),(26,.one (.int .i64))],[(64,.cells 25 [.aC sN,.aC (.int .i64)] true)],65,65,1001⟩
noncomputable def zZ:Nat→Int→qN→Int→Int→qN→(List Int)→Option ((Unit×((qN×((List Int)×Unit))×Unit))⊕((Bool×Unit)×((qN×((List Int)×Unit))×Unit)))
 |0,_,_,_,_,_,_=>none
 |n+1,t3,t24,t25,t26,c64_0,c64_1=>
 bif (aO t26 t25) then
  bif (aB 0 t26) then
  Option.bind (t24[(Int.toNat t26)]?) fun x7=>
  bif (aO 20000 (IntKind.wrap .i64 (t3+(len x7.2.2.2.1)))) then
  some (.inr ((false,()),((c64_0,(c64_1,())),())))
  else
  Option.bind (node (n+1) (x7.1,(x7.2.1,(x7.2.2.1,(x7.2.2.2.1,x7.2.2.2.2))))) fun y8=>
  bif (!y8.1) then
  some (.inr ((false,()),((c64_0,(c64_1,())),())))
  else
  Option.bind (RD (n+6) (c64_0,c64_1) x7.2.2.2.1) fun y9=>
  bif (!y9.1) then
  some (.inr ((false,()),((c64_0,(c64_1,())),())))
  else
  zZ n (IntKind.wrap .i64 (t3+(len x7.2.2.2.1))) t24 t25 (IntKind.wrap .i64 (t26+1)) c64_0 c64_1
  else none
 else
 some (.inl ((),((c64_0,(c64_1,())),())))
noncomputable def B5:aA:=⟨20,5,none,IX,[(.exit 0,ng),(.ret,ug)],7,fun n x=>zZ n x.1.2.1 x.1.2.2.1 x.1.2.2.2.1 x.1.2.2.2.2.1 x.2.1.1 x.2.1.2.1,[]⟩
theorem sD:ng.ok Tryz.prog hint:=Tm.bF rfl
theorem xT:ug.ok Tryz.prog hint:=Tm.bF rfl
theorem vI:IX.ok Tryz.prog hint:=Tm.bF rfl
theorem MU:∀ n,ai Tryz.prog hint aH B5 n:=
 ai.of (hk:=fun β=>(aj.mk [G3,IJ] []).hk β) (sh:=aH) (ay.of (by kernel_rfl)) vI ⟨⟨sD,Nat.le_refl _,Nat.le_refl _⟩,⟨xT,Nat.le_refl _,Nat.le_refl _⟩,trivial⟩ (fun m=>ab.au ((ab.nil.fn Py).fn Mc) m)
  (fun _=>by kernel_rfl) (fun m x=>by kernel_rfl)
noncomputable def right (n:Nat) (g:(List (Int×(List UInt8×(List UInt8×(List Int×Bool))))×List Int)):Option (Bool×Unit):=
 bif (aO 20000 (len g.1)) then
 some (false,())
 else
 bif (aO 20000 (len g.2)) then
 some (false,())
 else
 Option.bind (RD (n+5) (g.1,g.2) g.2) fun y0=>
 bif (!y0.1) then
 some (false,())
 else
 Option.bind (zZ n 0 g.1 (len g.1) 0 g.1 g.2) fun y10=>
 match y10 with
 | .inl _=>
  some (true,())
 | .inr y12=>
  some (y12.1.1,())
noncomputable def uY:aT:=⟨20,[(true,(.cons (.bQ sN) (.bQ (.int .i64))))],[(false,.bool)],7,fun n x=>right n x.1⟩
theorem CR (n:Nat):ao Tryz.prog hint aH uY n:=
 ao.of (hk:=fun β=>(aj.mk [G3] [B5]).hk β) (sh:=aH) (fun m _=>ab.au ((ab.nil.fn Mc).loop MU vI) m) (fun x=>by kernel_rfl)
noncomputable def rY:Tm:=⟨[(1,.one (.fix (TV.ptr 64 0))),(3,.one (.int .i64))],[(64,.cells 25 [.aC sN,.aC (.int .i64)] true)],65,65,1001⟩
noncomputable def N8:Tm:=⟨[(1,.one (.fix (TV.ptr 64 0))),(3,.one (.int .i64)),(4,.one (.int .i64))],[(64,.cells 25 [.aC sN,.aC (.int .i64)] true)],65,65,1001⟩
noncomputable def FP:Nat→Int→Int→qN→(List Int)→Option ((Unit×(Int×Unit))×((qN×((List Int)×Unit))×Unit))
 |0,_,_,_,_=>none
 |n+1,t3,t4,c64_0,c64_1=>
 Option.bind (bif (aO t4 (len c64_0)) then
  some (aO t4 100)
  else
  some false) fun b11=>
 bif b11 then
  bif (aB 0 t4) then
  Option.bind (c64_0[(Int.toNat t4)]?) fun x12=>
  bif (aB 0 t4) then
  Option.bind (c64_0[(Int.toNat t4)]?) fun x13=>
  bif (aB 0 t4) then
  Option.bind (c64_0[(Int.toNat t4)]?) fun x14=>
  FP n (IntKind.wrap .i64 ((IntKind.wrap .i64 ((IntKind.wrap .i64 (t3+(len x12.2.2.2.1)))+(IntKind.wrap .i64 (Int.tdiv (len x13.2.2.1) 20))))+(IntKind.wrap .i64 (Int.tdiv (len x14.2.1) 20)))) (IntKind.wrap .i64 (t4+1)) c64_0 c64_1
  else none
  else none
  else none
 else
 some (((),(t3,())),((c64_0,(c64_1,())),()))
noncomputable def IT:aA:=⟨9,3,none,N8,[(.exit 0,rY)],0,fun n x=>FP n x.1.2.1 x.1.2.2.1 x.2.1.1 x.2.1.2.1,[]⟩
theorem vU:rY.ok Tryz.prog hint:=Tm.bF rfl
theorem yn:N8.ok Tryz.prog hint:=Tm.bF rfl
theorem PV:∀ n,ai Tryz.prog hint aH IT n:=
 ai.of (hk:=fun β=>(aj.mk [] []).hk β) (sh:=aH) (ay.of (by kernel_rfl)) yn ⟨⟨vU,Nat.le_refl _,Nat.le_refl _⟩,trivial⟩ (fun m=>ab.au ab.nil m)
  (fun _=>by kernel_rfl) (fun m x=>by kernel_rfl)
noncomputable def Ss (n:Nat) (g:(List (Int×(List UInt8×(List UInt8×(List Int×Bool))))×List Int)):Option (Bool×Unit):=
 Option.bind (FP (n+1) 0 0 g.1 g.2) fun y15=>
 Option.bind (bif (aO 60 (len y15.2.1.1)) then
  some true
 else
 bif (aO 20 (len y15.2.1.2.1)) then
  some true
 else
 some (aO 400 y15.1.2.1)) fun b17=>
 some (b17,())
noncomputable def Mq:aT:=⟨9,[(true,(.cons (.bQ sN) (.bQ (.int .i64))))],[(false,.bool)],1,fun n x=>Ss n x.1⟩
theorem Q1 (n:Nat):ao Tryz.prog hint aH Mq n:=
 ao.of (hk:=fun β=>(aj.mk [] [IT]).hk β) (sh:=aH) (fun m _=>ab.au (ab.nil.loop PV yn) m) (fun x=>by kernel_rfl)
end Go.Proofs.YtnddpppljnjmcaaGreatDoor
/- Plain functions for the program's. -/
namespace Go.Proofs.YtnddpppljnjmcaaGreatDoor
open Go Go.Iv Go.Gv
set_option maxRecDepth 100000
set_option linter.unusedVariables false
noncomputable def nX:Tm:=⟨[(3,.one (.int .i64))],[],64,64,1000⟩
noncomputable def HS:Tm:=⟨[(0,.one (.str)),(3,.one (.int .i64))],[],64,64,1000⟩
noncomputable def zY:Nat→(List UInt8)→Int→Option ((Int×Unit)×Unit)
 |0,_,_=>none
 |n+1,t0,t3=>
 Option.bind (bif (aO t3 (len t0)) then
  bif (aB 0 t3) then
  Option.bind (t0[(Int.toNat t3)]?) fun x9=>
  bif (Nat.ble (UInt8.toNat (48:UInt8)) (UInt8.toNat x9)) then
   bif (aB 0 t3) then
   Option.bind (t0[(Int.toNat t3)]?) fun x10=>
   some (Nat.ble (UInt8.toNat x10) (UInt8.toNat (57:UInt8)))
   else none
  else
  some false
  else none
  else
  some false) fun b11=>
 bif b11 then
  zY n t0 (IntKind.wrap .i64 (t3+1))
 else
 some ((t3,()),())
noncomputable def C4:aA:=⟨97,2,none,HS,[(.exit 0,nX)],0,fun n x=>zY n x.1.1 x.1.2.1,[]⟩
theorem s6:nX.ok Tryz.prog hint:=Tm.bF rfl
theorem wI:HS.ok Tryz.prog hint:=Tm.bF rfl
theorem My:∀ n,ai Tryz.prog hint aH C4 n:=
 ai.of (hk:=fun β=>(aj.mk [] []).hk β) (sh:=aH) (ay.of (by kernel_rfl)) wI ⟨⟨s6,Nat.le_refl _,Nat.le_refl _⟩,trivial⟩ (fun m=>ab.au ab.nil m)
  (fun _=>by kernel_rfl) (fun m x=>by kernel_rfl)
noncomputable def count (n:Nat) (s:List UInt8):Option (Int×Unit):=
 Option.bind (zY (n+1) s 0) fun y12=>
 some (y12.1.1,())
noncomputable def uw:aT:=⟨97,[(false,.str)],[(false,(.int .i64))],1,fun n x=>count n x.1⟩
theorem Cv (n:Nat):ao Tryz.prog hint aH uw n:=
 ao.of (hk:=fun β=>(aj.mk [] [C4]).hk β) (sh:=aH) (fun m _=>ab.au (ab.nil.loop My wI) m) (fun x=>by kernel_rfl)
noncomputable def eS (_n:Nat) (s:List UInt8) (x:List UInt8):Option (Bool×Unit):=
 bif (aB (len x) (len s)) then
 bif (aB (len x) (len s)) then
 some (((List.take ((Int.toNat (len x)) - 0) (List.drop 0 s))==x),())
 else none
 else
 some (false,())
noncomputable def e9:aT:=⟨108,[(false,.str),(false,.str)],[(false,.bool)],0,fun n x=>eS n x.1 x.2.1⟩
theorem ic (n:Nat):ao Tryz.prog hint aH e9 n:=
 ao.of (hk:=fun β=>(aj.mk [] []).hk β) (sh:=aH) (fun m _=>ab.au ab.nil m) (fun x=>by kernel_rfl)
noncomputable def hasPrefix (n:Nat) (s:List UInt8) (x:List UInt8):Option (Bool×Unit):=
 Option.bind (eS n s x) fun y0=>
 some (y0.1,())
noncomputable def jb:aT:=⟨88,[(false,.str),(false,.str)],[(false,.bool)],1,fun n x=>hasPrefix n x.1 x.2.1⟩
theorem oh (n:Nat):ao Tryz.prog hint aH jb n:=
 ao.of (hk:=fun β=>(aj.mk [e9] []).hk β) (sh:=aH) (fun m _=>ab.au (ab.nil.fn ic) m) (fun x=>by kernel_rfl)
noncomputable def trimPrefix (n:Nat) (s:List UInt8) (x:List UInt8):Option ((List UInt8)×Unit):=
 Option.bind (eS n s x) fun y0=>
 bif y0.1 then
 bif (aB (len x) (len s)) then
 some ((List.take ((List.length s) - (Int.toNat (len x))) (List.drop (Int.toNat (len x)) s)),())
 else none
 else
 some (s,())
noncomputable def lP:aT:=⟨89,[(false,.str),(false,.str)],[(false,.str)],2,fun n x=>trimPrefix n x.1 x.2.1⟩
theorem xm (n:Nat):ao Tryz.prog hint aH lP n:=
 ao.of (hk:=fun β=>(aj.mk [e9] []).hk β) (sh:=aH) (fun m _=>ab.au (ab.nil.fn ic) m) (fun x=>by kernel_rfl)
noncomputable def iA (n:Nat) (s:List UInt8) (x:List UInt8):Option ((List UInt8)×(Bool×Unit)):=
 Option.bind (eS n s x) fun y0=>
 bif (!y0.1) then
 some (s,false,())
 else
 bif (aB (len x) (len s)) then
 some ((List.take ((List.length s) - (Int.toNat (len x))) (List.drop (Int.toNat (len x)) s)),true,())
 else none
noncomputable def oC:aT:=⟨70,[(false,.str),(false,.str)],[(false,.str),(false,.bool)],2,fun n x=>iA n x.1 x.2.1⟩
theorem AV (n:Nat):ao Tryz.prog hint aH oC n:=
 ao.of (hk:=fun β=>(aj.mk [e9] []).hk β) (sh:=aH) (fun m _=>ab.au (ab.nil.fn ic) m) (fun x=>by kernel_rfl)
noncomputable def signed (n:Nat) (s:List UInt8):Option ((List UInt8)×(Bool×Unit)):=
 Option.bind (hasPrefix (n+1) s ([45]:List UInt8)) fun y0=>
 bif y0.1 then
 bif (aB 1 (len s)) then
 some ((List.take ((List.length s) - 1) (List.drop 1 s)),true,())
 else none
 else
 Option.bind (trimPrefix n s ([43]:List UInt8)) fun y1=>
 some (y1.1,false,())
noncomputable def iJ:aT:=⟨71,[(false,.str)],[(false,.str),(false,.bool)],3,fun n x=>signed n x.1⟩
theorem k8 (n:Nat):ao Tryz.prog hint aH iJ n:=
 ao.of (hk:=fun β=>(aj.mk [lP,jb] []).hk β) (sh:=aH) (fun m _=>ab.au ((ab.nil.fn oh).fn xm) m) (fun x=>by kernel_rfl)
noncomputable def lW:Tm:=⟨[(0,.one (.str))],[],64,64,1000⟩
noncomputable def C1:Tm:=⟨[(0,.one (.str)),(1,.one (.byte))],[],64,64,1000⟩
noncomputable def uk:Nat→(List UInt8)→UInt8→Option (((List UInt8)×Unit)×Unit)
 |0,_,_=>none
 |n+1,t0,t1=>
 Option.bind (bif (aO 0 (len t0)) then
  Option.bind (t0[0]?) fun x7=>
  some (x7==t1)
  else
  some false) fun b8=>
 bif b8 then
  bif (aB 1 (len t0)) then
  uk n (List.take ((List.length t0) - 1) (List.drop 1 t0)) t1
  else none
 else
 some ((t0,()),())
noncomputable def zw:aA:=⟨112,1,none,C1,[(.exit 0,lW)],0,fun n x=>uk n x.1.1 x.1.2.1,[]⟩
theorem qI:lW.ok Tryz.prog hint:=Tm.bF rfl
theorem qY:C1.ok Tryz.prog hint:=Tm.bF rfl
theorem Jr:∀ n,ai Tryz.prog hint aH zw n:=
 ai.of (hk:=fun β=>(aj.mk [] []).hk β) (sh:=aH) (ay.of (by kernel_rfl)) qY ⟨⟨qI,Nat.le_refl _,Nat.le_refl _⟩,trivial⟩ (fun m=>ab.au ab.nil m)
  (fun _=>by kernel_rfl) (fun m x=>by kernel_rfl)
noncomputable def eJ (n:Nat) (s:List UInt8) (c:UInt8):Option ((List UInt8)×Unit):=
 Option.bind (uk (n+1) s c) fun y9=>
 some (y9.1.1,())
noncomputable def fE:aT:=⟨112,[(false,.str),(false,.byte)],[(false,.str)],1,fun n x=>eJ n x.1 x.2.1⟩
theorem jA (n:Nat):ao Tryz.prog hint aH fE n:=
 ao.of (hk:=fun β=>(aj.mk [] [zw]).hk β) (sh:=aH) (fun m _=>ab.au (ab.nil.loop Jr qY) m) (fun x=>by kernel_rfl)
noncomputable def lQ:Tm:=⟨[(0,.one (.str))],[],64,64,1000⟩
noncomputable def Cw:Tm:=⟨[(0,.one (.str)),(1,.one (.byte))],[],64,64,1000⟩
noncomputable def uK:Nat→(List UInt8)→UInt8→Option (((List UInt8)×Unit)×Unit)
 |0,_,_=>none
 |n+1,t0,t1=>
 Option.bind (bif (aO 0 (len t0)) then
  bif (aB 0 (IntKind.wrap .i64 ((len t0) - 1))) then
  Option.bind (t0[(Int.toNat (IntKind.wrap .i64 ((len t0) - 1)))]?) fun x7=>
  some (x7==t1)
  else none
  else
  some false) fun b8=>
 bif b8 then
  bif ((aB 0 (IntKind.wrap .i64 ((len t0) - 1))) &&(aB (IntKind.wrap .i64 ((len t0) - 1)) (len t0))) then
  uK n (List.take ((Int.toNat (IntKind.wrap .i64 ((len t0) - 1))) - 0) (List.drop 0 t0)) t1
  else none
 else
 some ((t0,()),())
noncomputable def yM:aA:=⟨116,1,none,Cw,[(.exit 0,lQ)],0,fun n x=>uK n x.1.1 x.1.2.1,[]⟩
theorem qq:lQ.ok Tryz.prog hint:=Tm.bF rfl
theorem rQ:Cw.ok Tryz.prog hint:=Tm.bF rfl
theorem Kt:∀ n,ai Tryz.prog hint aH yM n:=
 ai.of (hk:=fun β=>(aj.mk [] []).hk β) (sh:=aH) (ay.of (by kernel_rfl)) rQ ⟨⟨qq,Nat.le_refl _,Nat.le_refl _⟩,trivial⟩ (fun m=>ab.au ab.nil m)
  (fun _=>by kernel_rfl) (fun m x=>by kernel_rfl)
noncomputable def dn (n:Nat) (s:List UInt8) (c:UInt8):Option ((List UInt8)×Unit):=
 Option.bind (uK (n+1) s c) fun y9=>
 some (y9.1.1,())
noncomputable def iw:aT:=⟨116,[(false,.str),(false,.byte)],[(false,.str)],1,fun n x=>dn n x.1 x.2.1⟩
theorem pY (n:Nat):ao Tryz.prog hint aH iw n:=
 ao.of (hk:=fun β=>(aj.mk [] [yM]).hk β) (sh:=aH) (fun m _=>ab.au (ab.nil.loop Kt rQ) m) (fun x=>by kernel_rfl)
noncomputable def whole (n:Nat) (below:Bool) (d:List UInt8) (exp:Int):Option ((Bool×(List UInt8×(Int×Int)))×Unit):=
 Option.bind (bif (d==([]:List UInt8)) then
  some true
 else
 some false) fun b1=>
 bif b1 then
 Option.bind (bif (d==([]:List UInt8)) then
  some true
  else
  some false) fun b3=>
 bif b3 then
  bif (d==([]:List UInt8)) then
  some ((below,(([48]:List UInt8),(0,0))),())
  else
  some ((below,(d,((IntKind.wrap .i64 ((IntKind.wrap .i64 (exp+(len d))) - (len d))),0))),())
 else
 Option.bind (dn n d (48:UInt8)) fun y5=>
 bif (y5.1==([]:List UInt8)) then
  some ((below,(([48]:List UInt8),(0,0))),())
 else
 some ((below,(y5.1,((IntKind.wrap .i64 ((IntKind.wrap .i64 (exp+(len d))) - (len y5.1))),0))),())
 else
 Option.bind (eJ n d (48:UInt8)) fun y7=>
 Option.bind (bif (y7.1==([]:List UInt8)) then
  some true
 else
 some false) fun b9=>
 bif b9 then
 bif (y7.1==([]:List UInt8)) then
  some ((below,(([48]:List UInt8),(0,0))),())
 else
 some ((below,(y7.1,((IntKind.wrap .i64 ((IntKind.wrap .i64 (exp+(len y7.1))) - (len y7.1))),0))),())
 else
 Option.bind (dn n y7.1 (48:UInt8)) fun y11=>
 bif (y11.1==([]:List UInt8)) then
 some ((below,(([48]:List UInt8),(0,0))),())
 else
 some ((below,(y11.1,((IntKind.wrap .i64 ((IntKind.wrap .i64 (exp+(len y7.1))) - (len y11.1))),0))),())
noncomputable def va:aT:=⟨73,[(false,.bool),(false,.str),(false,(.int .i64))],[(true,(.cons .bool (.cons .str (.cons (.int .i64) (.int .i64)))))],3,fun n x=>whole n x.1 x.2.1 x.2.2.1⟩
theorem Da (n:Nat):ao Tryz.prog hint aH va n:=
 ao.of (hk:=fun β=>(aj.mk [fE,iw] []).hk β) (sh:=aH) (fun m _=>ab.au ((ab.nil.fn pY).fn jA) m) (fun x=>by kernel_rfl)
noncomputable def oq:Tm:=⟨[(7,.one (.all 64 3 (.int .i64) .ex))],[],64,65,1000⟩
noncomputable def HM:Tm:=⟨[(0,.one (.aC (.int .i64))),(1,.one (.int .i64)),(2,.one (.int .i64)),(7,.one (.all 64 3 (.int .i64) .ex)),(8,.one (.int .i64))],[],64,65,1000⟩
noncomputable def jG:Nat→(List Int)→Int→Int→(List Int)→Int→Option (((List Int)×Unit)×Unit)
 |0,_,_,_,_,_=>none
 |n+1,t0,t1,t2,t7,t8=>
 Option.bind (bif (aO t8 (len t0)) then
  some true
  else
  some (aO 0 t2)) fun b10=>
 bif b10 then
  bif (aO t8 (len t0)) then
  bif (aB 0 t8) then
  Option.bind (t0[(Int.toNat t8)]?) fun x11=>
  bif (room (((List.length t7)+(List.length ((Int.tmod (IntKind.wrap .i64 (t2+(IntKind.wrap .i64 (x11*t1)))) 10)::([]:List Int))))*9)) then
  jG n t0 t1 (IntKind.wrap .i64 (Int.tdiv (IntKind.wrap .i64 (t2+(IntKind.wrap .i64 (x11*t1)))) 10)) (t7++((Int.tmod (IntKind.wrap .i64 (t2+(IntKind.wrap .i64 (x11*t1)))) 10)::([]:List Int))) (IntKind.wrap .i64 (t8+1))
  else none
  else none
  else
  bif (room (((List.length t7)+(List.length ((Int.tmod (IntKind.wrap .i64 (t2+(IntKind.wrap .i64 (0*t1)))) 10)::([]:List Int))))*9)) then
  jG n t0 t1 (IntKind.wrap .i64 (Int.tdiv (IntKind.wrap .i64 (t2+(IntKind.wrap .i64 (0*t1)))) 10)) (t7++((Int.tmod (IntKind.wrap .i64 (t2+(IntKind.wrap .i64 (0*t1)))) 10)::([]:List Int))) (IntKind.wrap .i64 (t8+1))
  else none
 else
 some ((t7,()),())
noncomputable def DY:aA:=⟨91,3,none,HM,[(.exit 0,oq)],1,fun n x=>jG n x.1.1 x.1.2.1 x.1.2.2.1 x.1.2.2.2.1 x.1.2.2.2.2.1,[]⟩
theorem sW:oq.ok Tryz.prog hint:=Tm.bF rfl
theorem uM:HM.ok Tryz.prog hint:=Tm.bF rfl
theorem Mb:∀ n,ai Tryz.prog hint aH DY n:=
 ai.of (hk:=fun β=>(aj.mk [] []).hk β) (sh:=aH) (ay.of (by kernel_rfl)) uM ⟨⟨sW,Nat.le_refl _,Nat.le_refl _⟩,trivial⟩ (fun m=>ab.au ab.nil m)
  (fun _=>by kernel_rfl) (fun m x=>by kernel_rfl)
noncomputable def times (n:Nat) (l:List Int) (k:Int) (more:Int):Option ((List Int)×Unit):=
 Option.bind (jG n l k more ([]:List Int) 0) fun y12=>
 some (y12.1.1,())
noncomputable def Ey:aT:=⟨91,[(false,(.bQ (.int .i64))),(false,(.int .i64)),(false,(.int .i64))],[(false,(.bQ (.int .i64)))],1,fun n x=>times n x.1 x.2.1 x.2.2.1⟩
theorem MI (n:Nat):ao Tryz.prog hint aH Ey n:=
 ao.of (hk:=fun β=>(aj.mk [] [DY]).hk β) (sh:=aH) (fun m _=>ab.au (ab.nil.loop Mb uM) m) (fun x=>by kernel_rfl)
noncomputable def ni:Tm:=⟨[(3,.one (.all 64 3 (.int .i64) .ex))],[],64,65,1000⟩
noncomputable def uQ:Tm:=⟨[(2,.one (.fix (TV.raw (Go.Value.slice (Option.none) 0 0))))],[],64,64,1000⟩
noncomputable def H9:Tm:=⟨[(0,.one (.str)),(3,.one (.all 64 3 (.int .i64) .ex)),(4,.one (.int .i64))],[],64,65,1000⟩
noncomputable def yu:Nat→(List UInt8)→(List Int)→Int→Option ((((List Int)×Unit)×Unit)⊕((Unit×Unit)×Unit))
 |0,_,_,_=>none
 |n+1,t0,t3,t4=>
 bif (aB 0 t4) then
  bif (aB 0 t4) then
  Option.bind (t0[(Int.toNat t4)]?) fun x9=>
  Option.bind (bif (aO (IntKind.wrap .i64 ((IntKind.wrap .i64 (ub x9)) - 48)) 0) then
   some true
  else
  some (aB 10 (IntKind.wrap .i64 ((IntKind.wrap .i64 (ub x9)) - 48)))) fun b11=>
  bif b11 then
  some (.inr (((),()),()))
  else
  bif (room (((List.length t3)+(List.length ((IntKind.wrap .i64 ((IntKind.wrap .i64 (ub x9)) - 48))::([]:List Int))))*9)) then
  yu n t0 (t3++((IntKind.wrap .i64 ((IntKind.wrap .i64 (ub x9)) - 48))::([]:List Int))) (IntKind.wrap .i64 (t4 - 1))
  else none
  else none
 else
 some (.inl ((t3,()),()))
noncomputable def DX:aA:=⟨92,5,none,H9,[(.exit 0,ni),(.ret,uQ)],0,fun n x=>yu n x.1.1 x.1.2.1 x.1.2.2.1,[]⟩
theorem sJ:ni.ok Tryz.prog hint:=Tm.bF rfl
theorem xJ:uQ.ok Tryz.prog hint:=Tm.bF rfl
theorem uC:H9.ok Tryz.prog hint:=Tm.bF rfl
theorem NP:∀ n,ai Tryz.prog hint aH DX n:=
 ai.of (hk:=fun β=>(aj.mk [] []).hk β) (sh:=aH) (ay.of (by kernel_rfl)) uC ⟨⟨sJ,Nat.le_refl _,Nat.le_refl _⟩,⟨xJ,Nat.le_refl _,Nat.le_refl _⟩,trivial⟩ (fun m=>ab.au ab.nil m)
  (fun _=>by kernel_rfl) (fun m x=>by kernel_rfl)
noncomputable def of (n:Nat) (s:List UInt8):Option ((List Int)×Unit):=
 bif (aO 5000 (len s)) then
 some (([]:List Int),())
 else
 Option.bind (yu (n+1) s ([]:List Int) (IntKind.wrap .i64 ((len s) - 1))) fun y12=>
 match y12 with
 | .inl y13=>
  some (y13.1.1,())
 | .inr _=>
  some (([]:List Int),())
noncomputable def P9:aT:=⟨92,[(false,.str)],[(false,(.bQ (.int .i64)))],1,fun n x=>of n x.1⟩
theorem rO (n:Nat):ao Tryz.prog hint aH P9 n:=
 ao.of (hk:=fun β=>(aj.mk [] [DX]).hk β) (sh:=aH) (fun m _=>ab.au (ab.nil.loop NP uC) m) (fun x=>by kernel_rfl)
noncomputable def oM:Tm:=⟨[(3,.one (.fix (TV.ptr 64 0)))],[(64,.cells 68 [.fix (TV.ptr 64 0),.all 67 5 .byte .ex] true)],67,68,1005⟩
noncomputable def Iy:Tm:=⟨[(0,.one (.aC (.int .i64))),(3,.one (.fix (TV.ptr 64 0))),(4,.one (.int .i64))],[(64,.cells 68 [.fix (TV.ptr 64 0),.all 67 5 .byte .ex] true)],67,68,1005⟩
noncomputable def zk:Nat→(List Int)→Int→(List UInt8)→Option ((Unit×Unit)×((Unit×((List UInt8)×Unit))×Unit))
 |0,_,_,_=>none
 |n+1,t0,t4,c64_1=>
 bif (aB 0 t4) then
  bif (aB 0 t4) then
  Option.bind (t0[(Int.toNat t4)]?) fun x3=>
  bif (room (((List.length c64_1)+(List.length ((UInt8.ofNat (Int.toNat (IntKind.wrap Go.IntKind.u8 (IntKind.wrap .i64 (48+x3)))))::([]:List UInt8))))*2)) then
  zk n t0 (IntKind.wrap .i64 (t4 - 1)) (c64_1++((UInt8.ofNat (Int.toNat (IntKind.wrap Go.IntKind.u8 (IntKind.wrap .i64 (48+x3)))))::([]:List UInt8)))
  else none
  else none
 else
 some (((),()),(((),(c64_1,())),()))
noncomputable def Dc:aA:=⟨93,3,none,Iy,[(.exit 0,oM)],2,fun n x=>zk n x.1.1 x.1.2.2.1 x.2.1.2.1,[65]⟩
theorem sw:oM.ok Tryz.prog hint:=Tm.bF rfl
theorem vH:Iy.ok Tryz.prog hint:=Tm.bF rfl
theorem L8:∀ n,ai Tryz.prog hint aH Dc n:=
 ai.of (hk:=fun β=>(aj.mk [] []).hk β) (sh:=aH) (ay.of (by kernel_rfl)) vH ⟨⟨sw,Nat.le_refl _,Nat.le_refl _⟩,trivial⟩ (fun m=>ab.au ab.nil m)
  (fun _=>by kernel_rfl) (fun m x=>by kernel_rfl)
noncomputable def text (n:Nat) (l:List Int):Option ((List UInt8)×Unit):=
 bif (aB 0 (IntKind.wrap .i64 ((len l) - 1))) then
 bif (aB 0 (IntKind.wrap .i64 ((len l) - 1))) then
 Option.bind (l[(Int.toNat (IntKind.wrap .i64 ((len l) - 1)))]?) fun x0=>
 Option.bind (zk n l (IntKind.wrap .i64 ((IntKind.wrap .i64 ((len l) - 1)) - 1)) ((UInt8.ofNat (Int.toNat (IntKind.wrap Go.IntKind.u8 (IntKind.wrap .i64 (48+x0)))))::([]:List UInt8))) fun y4=>
 bif (List.isEmpty y4.2.1.2.1) then
  bif ((len y4.2.1.2.1)==0) then
  some (([48]:List UInt8),())
  else none
 else
 bif ((aB (len y4.2.1.2.1) (len y4.2.1.2.1)) &&(aB (len y4.2.1.2.1) 1099511627776)) then
 Option.bind (bif ((List.take (Int.toNat (len y4.2.1.2.1)) y4.2.1.2.1)==([]:List UInt8)) then
  some true
  else
  some false) fun b7=>
 bif b7 then
  bif (!((List.take (Int.toNat (len y4.2.1.2.1)) y4.2.1.2.1)==([]:List UInt8))) then
  some ((List.take (Int.toNat (len y4.2.1.2.1)) y4.2.1.2.1),())
  else
  some (([48]:List UInt8),())
 else
 Option.bind (eJ n (List.take (Int.toNat (len y4.2.1.2.1)) y4.2.1.2.1) (48:UInt8)) fun y9=>
 bif (!(y9.1==([]:List UInt8))) then
  some (y9.1,())
 else
 some (([48]:List UInt8),())
 else none
 else none
 else
 some (([48]:List UInt8),())
noncomputable def Jb:aT:=⟨93,[(false,(.bQ (.int .i64)))],[(false,.str)],3,fun n x=>text n x.1⟩
theorem PT (n:Nat):ao Tryz.prog hint aH Jb n:=
 ao.of (hk:=fun β=>(aj.mk [fE] [Dc]).hk β) (sh:=aH) (fun m _=>ab.au ((ab.nil.loop L8 vH).fn jA) m) (fun x=>by kernel_rfl)
noncomputable def nS:Tm:=⟨[(0,.one (.str)),(1,.one (.int .i64)),(6,.one (.aC (.int .i64)))],[],64,64,1000⟩
noncomputable def wD:Tm:=⟨[(4,.one (.str)),(5,.one (.bool))],[],64,64,1000⟩
noncomputable def HV:Tm:=⟨[(0,.one (.str)),(1,.one (.int .i64)),(6,.one (.aC (.int .i64))),(30,.one (.aC .byte)),(31,.one (.int .i64)),(32,.one (.int .i64))],[],64,64,1000⟩
noncomputable def lH:Nat→(List UInt8)→Int→(List Int)→(List UInt8)→Int→Int→Option ((((List UInt8)×(Int×((List Int)×Unit)))×Unit)⊕(((List UInt8)×(Bool×Unit))×Unit))
 |0,_,_,_,_,_,_=>none
 |n+1,t0,t1,t6,t30,t31,t32=>
 bif (aO t32 t31) then
  bif (aB 0 t32) then
  Option.bind (t30[(Int.toNat t32)]?) fun x17=>
  Option.bind (hex (n+1) (IntKind.wrap .i64 (ub x17))) fun y18=>
  Option.bind (bif (aO y18.1 0) then
   some true
  else
  some (aB t1 y18.1)) fun b20=>
  bif b20 then
  some (.inr ((([]:List UInt8),(false,())),()))
  else
  bif (t1 !=10) then
  Option.bind (times (n+1) t6 t1 y18.1) fun y21=>
  lH n t0 t1 y21.1 t30 t31 (IntKind.wrap .i64 (t32+1))
  else
  lH n t0 t1 t6 t30 t31 (IntKind.wrap .i64 (t32+1))
  else none
 else
 some (.inl ((t0,(t1,(t6,()))),()))
noncomputable def DD:aA:=⟨72,5,none,HV,[(.exit 0,nS),(.ret,wD)],2,fun n x=>lH n x.1.1 x.1.2.1 x.1.2.2.1 x.1.2.2.2.1 x.1.2.2.2.2.1 x.1.2.2.2.2.2.1,[]⟩
theorem sO:nS.ok Tryz.prog hint:=Tm.bF rfl
theorem xp:wD.ok Tryz.prog hint:=Tm.bF rfl
theorem uy:HV.ok Tryz.prog hint:=Tm.bF rfl
theorem LO:∀ n,ai Tryz.prog hint aH DD n:=
 ai.of (hk:=fun β=>(aj.mk [Ey,Gj] []).hk β) (sh:=aH) (ay.of (by kernel_rfl)) uy ⟨⟨sO,Nat.le_refl _,Nat.le_refl _⟩,⟨xp,Nat.le_refl _,Nat.le_refl _⟩,trivial⟩ (fun m=>ab.au ((ab.nil.fn M8).fn MI) m)
  (fun _=>by kernel_rfl) (fun m x=>by kernel_rfl)
noncomputable def plain (n:Nat) (s:List UInt8) (base:Int):Option ((List UInt8)×(Bool×Unit)):=
 Option.bind (bif (s==([]:List UInt8)) then
  some true
 else
 bif (aO 5000 (len s)) then
  some true
 else
 bif (base !=8) then
  bif (base !=10) then
  some (base !=16)
  else
  some false
 else
 some false) fun b1=>
 bif b1 then
 some (([]:List UInt8),false,())
 else
 Option.bind (lH (n+2) s base ([]:List Int) s (len s) 0) fun y22=>
 match y22 with
 | .inl y23=>
  bif (y23.1.2.1==10) then
  Option.bind (of (n+2) y23.1.1) fun y25=>
  Option.bind (text n y25.1) fun y26=>
  some (y26.1,true,())
  else
  Option.bind (text n y23.1.2.2.1) fun y27=>
  some (y27.1,true,())
 | .inr y24=>
  some (y24.1.1,y24.1.2.1,())
noncomputable def Ct:aT:=⟨72,[(false,.str),(false,(.int .i64))],[(false,.str),(false,.bool)],4,fun n x=>plain n x.1 x.2.1⟩
theorem N4 (n:Nat):ao Tryz.prog hint aH Ct n:=
 ao.of (hk:=fun β=>(aj.mk [Jb,P9] [DD]).hk β) (sh:=aH) (fun m _=>ab.au (((ab.nil.loop LO uy).fn rO).fn PT) m) (fun x=>by kernel_rfl)
noncomputable def int (n:Nat) (s:List UInt8):Option ((Bool×(List UInt8×(Int×Int)))×(Bool×Unit)):=
 Option.bind (iA (n+2) s ([48,111]:List UInt8)) fun y0=>
 bif y0.2.1 then
 Option.bind (plain n y0.1 8) fun y1=>
 bif (!y1.2.1) then
  some ((false,(([]:List UInt8),(0,0))),false,())
 else
 Option.bind (whole (n+1) false y1.1 0) fun y2=>
 bif y2.1.1 then
  some (((!(y2.1.2.1==([48]:List UInt8))),(y2.1.2.1,(y2.1.2.2.1,y2.1.2.2.2))),true,())
 else
 some ((false,(y2.1.2.1,(y2.1.2.2.1,y2.1.2.2.2))),true,())
 else
 Option.bind (iA (n+2) s ([48,120]:List UInt8)) fun y3=>
 bif y3.2.1 then
 Option.bind (plain n y3.1 16) fun y4=>
 bif (!y4.2.1) then
  some ((false,(([]:List UInt8),(0,0))),false,())
 else
 Option.bind (whole (n+1) false y4.1 0) fun y5=>
 bif y5.1.1 then
  some (((!(y5.1.2.1==([48]:List UInt8))),(y5.1.2.1,(y5.1.2.2.1,y5.1.2.2.2))),true,())
 else
 some ((false,(y5.1.2.1,(y5.1.2.2.1,y5.1.2.2.2))),true,())
 else
 Option.bind (signed (n+1) s) fun y6=>
 Option.bind (plain n y6.1 10) fun y7=>
 bif (!y7.2.1) then
 some ((false,(([]:List UInt8),(0,0))),false,())
 else
 Option.bind (whole (n+1) y6.2.1 y7.1 0) fun y8=>
 bif y8.1.1 then
 some (((!(y8.1.2.1==([48]:List UInt8))),(y8.1.2.1,(y8.1.2.2.1,y8.1.2.2.2))),true,())
 else
 some ((false,(y8.1.2.1,(y8.1.2.2.1,y8.1.2.2.2))),true,())
noncomputable def FN:aT:=⟨55,[(false,.str)],[(true,(.cons .bool (.cons .str (.cons (.int .i64) (.int .i64))))),(false,.bool)],5,fun n x=>int n x.1⟩
theorem MS (n:Nat):ao Tryz.prog hint aH FN n:=
 ao.of (hk:=fun β=>(aj.mk [iJ,va,Ct,oC] []).hk β) (sh:=aH) (fun m _=>ab.au ((((ab.nil.fn AV).fn N4).fn Da).fn k8) m) (fun x=>by kernel_rfl)
end Go.Proofs.YtnddpppljnjmcaaGreatDoor
/- Plain functions for the program's. -/
namespace Go.Proofs.YtnddpppljnjmcaaGreatDoor
open Go Go.Iv Go.Gv
set_option maxRecDepth 100000
set_option linter.unusedVariables false
noncomputable def jZ:Tm:=⟨[(5,.one (.str)),(6,.one (.int .i64))],[],64,64,1000⟩
noncomputable def yT:Tm:=⟨[(5,.one (.str)),(6,.one (.int .i64)),(47,.one (.aC .byte)),(48,.one (.int .i64)),(49,.one (.int .i64))],[],64,64,1000⟩
noncomputable def gG:Nat→(List UInt8)→Int→(List UInt8)→Int→Int→Option (((List UInt8)×(Int×Unit))×Unit)
 |0,_,_,_,_,_=>none
 |n+1,t5,t6,t47,t48,t49=>
 bif (aO t49 t48) then
  bif (aB 0 t49) then
  Option.bind (t47[(Int.toNat t49)]?) fun x14=>
  bif (Nat.blt (UInt8.toNat (9:UInt8)) (UInt8.toNat (x14 - (48:UInt8)))) then
  none
  else
  gG n t5 (IntKind.wrap .i64 ((IntKind.wrap .i64 (t6*10))+(IntKind.wrap .i64 (ub (x14 - (48:UInt8)))))) t47 t48 (IntKind.wrap .i64 (t49+1))
  else none
 else
 some ((t5,(t6,())),())
noncomputable def wq:aA:=⟨126,10,none,yT,[(.exit 0,jZ)],0,fun n x=>gG n x.1.1 x.1.2.1 x.1.2.2.1 x.1.2.2.2.1 x.1.2.2.2.2.1,[]⟩
theorem nn:jZ.ok Tryz.prog hint:=Tm.bF rfl
theorem pw:yT.ok Tryz.prog hint:=Tm.bF rfl
theorem Hr:∀ n,ai Tryz.prog hint aH wq n:=
 ai.of (hk:=fun β=>(aj.mk [] []).hk β) (sh:=aH) (ay.of (by kernel_rfl)) pw ⟨⟨nn,Nat.le_refl _,Nat.le_refl _⟩,trivial⟩ (fun m=>ab.au ab.nil m)
  (fun _=>by kernel_rfl) (fun m x=>by kernel_rfl)
noncomputable def exponent (n:Nat) (s:List UInt8):Option (Int×(Bool×Unit)):=
 bif (s==([]:List UInt8)) then
 some (0,true,())
 else
 Option.bind (Option.bind (s[0]?) fun x1=>
 bif (x1 !=(101:UInt8)) then
  Option.bind (s[0]?) fun x2=>
  some (x2 !=(69:UInt8))
 else
 some false) fun b3=>
 bif b3 then
 some (0,false,())
 else
 bif (aB 1 (len s)) then
 Option.bind (signed n (List.take ((List.length s) - 1) (List.drop 1 s))) fun y4=>
 bif (y4.1==([]:List UInt8)) then
 some (0,false,())
 else
 bif (aO 9 (len y4.1)) then
 some (0,false,())
 else
 Option.bind (count (n+2) y4.1) fun y5=>
 bif (y5.1 !=(len y4.1)) then
 some (0,false,())
 else
 Option.bind (bif (aO 0 (len y4.1)) then
  some (aO (len y4.1) 19)
 else
 some false) fun b7=>
 bif b7 then
 Option.bind (Option.bind (y4.1[0]?) fun x9=>
  bif (x9==(45:UInt8)) then
  some true
  else
  Option.bind (y4.1[0]?) fun x10=>
  some (x10==(43:UInt8))) fun b11=>
 bif b11 then
  bif (aB 1 (len y4.1)) then
  bif (aO (len (List.take ((List.length y4.1) - 1) (List.drop 1 y4.1))) 1) then
  none
  else
  Option.bind (gG (n+2) y4.1 0 (List.take ((List.length y4.1) - 1) (List.drop 1 y4.1)) (len (List.take ((List.length y4.1) - 1) (List.drop 1 y4.1))) 0) fun y15=>
  Option.bind (y15.1.1[0]?) fun x16=>
  bif (x16==(45:UInt8)) then
  bif y4.2.1 then
   some ((IntKind.wrap .i64 (0 - (IntKind.wrap .i64 (0 - y15.1.2.1)))),true,())
  else
  some ((IntKind.wrap .i64 (0 - y15.1.2.1)),true,())
  else
  bif y4.2.1 then
  some ((IntKind.wrap .i64 (0 - y15.1.2.1)),true,())
  else
  some (y15.1.2.1,true,())
  else none
 else
 Option.bind (gG (n+2) y4.1 0 y4.1 (len y4.1) 0) fun y17=>
 Option.bind (y17.1.1[0]?) fun x18=>
 bif (x18==(45:UInt8)) then
  bif y4.2.1 then
  some ((IntKind.wrap .i64 (0 - (IntKind.wrap .i64 (0 - y17.1.2.1)))),true,())
  else
  some ((IntKind.wrap .i64 (0 - y17.1.2.1)),true,())
 else
 bif y4.2.1 then
  some ((IntKind.wrap .i64 (0 - y17.1.2.1)),true,())
 else
 some (y17.1.2.1,true,())
 else
 none
 else none
noncomputable def rA:aT:=⟨98,[(false,.str)],[(false,(.int .i64)),(false,.bool)],4,fun n x=>exponent n x.1⟩
theorem CH (n:Nat):ao Tryz.prog hint aH rA n:=
 ao.of (hk:=fun β=>(aj.mk [uw,iJ] [wq]).hk β) (sh:=aH) (fun m _=>ab.au (((ab.nil.fn k8).fn Cv).loop Hr pw) m) (fun x=>by kernel_rfl)
noncomputable def named (n:Nat) (s:List UInt8):Option ((Bool×(List UInt8×(Int×Int)))×(Bool×Unit)):=
 bif (s==([46,110,97,110]:List UInt8)) then
 some ((false,(([]:List UInt8),(0,2))),true,())
 else
 bif (s==([46,78,97,78]:List UInt8)) then
 some ((false,(([]:List UInt8),(0,2))),true,())
 else
 bif (s==([46,78,65,78]:List UInt8)) then
 some ((false,(([]:List UInt8),(0,2))),true,())
 else
 Option.bind (signed n s) fun y0=>
 bif (y0.1==([46,105,110,102]:List UInt8)) then
 some ((y0.2.1,(([]:List UInt8),(0,1))),true,())
 else
 bif (y0.1==([46,73,110,102]:List UInt8)) then
 some ((y0.2.1,(([]:List UInt8),(0,1))),true,())
 else
 bif (y0.1==([46,73,78,70]:List UInt8)) then
 some ((y0.2.1,(([]:List UInt8),(0,1))),true,())
 else
 some ((false,(([]:List UInt8),(0,0))),false,())
noncomputable def B0:aT:=⟨96,[(false,.str)],[(true,(.cons .bool (.cons .str (.cons (.int .i64) (.int .i64))))),(false,.bool)],4,fun n x=>named n x.1⟩
theorem MR (n:Nat):ao Tryz.prog hint aH B0 n:=
 ao.of (hk:=fun β=>(aj.mk [iJ] []).hk β) (sh:=aH) (fun m _=>ab.au (ab.nil.fn k8) m) (fun x=>by kernel_rfl)
noncomputable def float (n:Nat) (s:List UInt8):Option ((Bool×(List UInt8×(Int×Int)))×(Bool×Unit)):=
 Option.bind (named n s) fun y0=>
 bif y0.2.1 then
 some ((y0.1.1,(y0.1.2.1,(y0.1.2.2.1,y0.1.2.2.2))),true,())
 else
 Option.bind (signed (n+1) s) fun y1=>
 Option.bind (count (n+3) y1.1) fun y2=>
 bif ((aB 0 y2.1) &&(aB y2.1 (len y1.1))) then
 bif ((aB 0 y2.1) &&(aB y2.1 (len y1.1))) then
 Option.bind (hasPrefix (n+3) (List.take ((List.length y1.1) - (Int.toNat y2.1)) (List.drop (Int.toNat y2.1) y1.1)) ([46]:List UInt8)) fun y3=>
 bif y3.1 then
 bif (aB 1 (len (List.take ((List.length y1.1) - (Int.toNat y2.1)) (List.drop (Int.toNat y2.1) y1.1)))) then
 Option.bind (count (n+3) (List.take ((List.length (List.take ((List.length y1.1) - (Int.toNat y2.1)) (List.drop (Int.toNat y2.1) y1.1))) - 1) (List.drop 1 (List.take ((List.length y1.1) - (Int.toNat y2.1)) (List.drop (Int.toNat y2.1) y1.1))))) fun y4=>
 bif ((aB 0 (IntKind.wrap .i64 (1+y4.1))) &&(aB (IntKind.wrap .i64 (1+y4.1)) (len (List.take ((List.length y1.1) - (Int.toNat y2.1)) (List.drop (Int.toNat y2.1) y1.1))))) then
 bif (aB 1 (((Int.toNat (IntKind.wrap .i64 (1+y4.1))):Nat):Int)) then
 bif ((aB 0 (IntKind.wrap .i64 (1+y4.1))) &&(aB (IntKind.wrap .i64 (1+y4.1)) (len (List.take ((List.length y1.1) - (Int.toNat y2.1)) (List.drop (Int.toNat y2.1) y1.1))))) then
 Option.bind (exponent n (List.take ((List.length (List.take ((List.length y1.1) - (Int.toNat y2.1)) (List.drop (Int.toNat y2.1) y1.1))) - (Int.toNat (IntKind.wrap .i64 (1+y4.1)))) (List.drop (Int.toNat (IntKind.wrap .i64 (1+y4.1))) (List.take ((List.length y1.1) - (Int.toNat y2.1)) (List.drop (Int.toNat y2.1) y1.1))))) fun y5=>
 Option.bind (bif (!y5.2.1) then
  some true
  else
  bif ((List.take ((Int.toNat y2.1) - 0) (List.drop 0 y1.1))==([]:List UInt8)) then
  bif ((List.take ((Int.toNat (IntKind.wrap .i64 (1+y4.1))) - 1) (List.drop 1 (List.take ((List.length y1.1) - (Int.toNat y2.1)) (List.drop (Int.toNat y2.1) y1.1))))==([]:List UInt8)) then
   some true
  else
  some (aO 5000 (IntKind.wrap .i64 ((len (List.take ((Int.toNat y2.1) - 0) (List.drop 0 y1.1)))+(len (List.take ((Int.toNat (IntKind.wrap .i64 (1+y4.1))) - 1) (List.drop 1 (List.take ((List.length y1.1) - (Int.toNat y2.1)) (List.drop (Int.toNat y2.1) y1.1))))))))
  else
  some (aO 5000 (IntKind.wrap .i64 ((len (List.take ((Int.toNat y2.1) - 0) (List.drop 0 y1.1)))+(len (List.take ((Int.toNat (IntKind.wrap .i64 (1+y4.1))) - 1) (List.drop 1 (List.take ((List.length y1.1) - (Int.toNat y2.1)) (List.drop (Int.toNat y2.1) y1.1))))))))) fun b7=>
 bif b7 then
  some ((false,(([]:List UInt8),(0,0))),false,())
 else
 bif (room ((List.length (List.take ((Int.toNat y2.1) - 0) (List.drop 0 y1.1)))+(List.length (List.take ((Int.toNat (IntKind.wrap .i64 (1+y4.1))) - 1) (List.drop 1 (List.take ((List.length y1.1) - (Int.toNat y2.1)) (List.drop (Int.toNat y2.1) y1.1))))))) then
 Option.bind (whole (n+1) y1.2.1 ((List.take ((Int.toNat y2.1) - 0) (List.drop 0 y1.1))++(List.take ((Int.toNat (IntKind.wrap .i64 (1+y4.1))) - 1) (List.drop 1 (List.take ((List.length y1.1) - (Int.toNat y2.1)) (List.drop (Int.toNat y2.1) y1.1))))) (IntKind.wrap .i64 (y5.1 - (len (List.take ((Int.toNat (IntKind.wrap .i64 (1+y4.1))) - 1) (List.drop 1 (List.take ((List.length y1.1) - (Int.toNat y2.1)) (List.drop (Int.toNat y2.1) y1.1)))))))) fun y8=>
 some ((y8.1.1,(y8.1.2.1,(y8.1.2.2.1,y8.1.2.2.2))),true,())
 else none
 else none
 else none
 else none
 else none
 else
 Option.bind (exponent n (List.take ((List.length y1.1) - (Int.toNat y2.1)) (List.drop (Int.toNat y2.1) y1.1))) fun y9=>
 Option.bind (bif (!y9.2.1) then
  some true
 else
 bif ((List.take ((Int.toNat y2.1) - 0) (List.drop 0 y1.1))==([]:List UInt8)) then
  some true
 else
 some (aO 5000 (IntKind.wrap .i64 ((len (List.take ((Int.toNat y2.1) - 0) (List.drop 0 y1.1)))+0)))) fun b11=>
 bif b11 then
 some ((false,(([]:List UInt8),(0,0))),false,())
 else
 bif (room ((List.length (List.take ((Int.toNat y2.1) - 0) (List.drop 0 y1.1)))+(List.length ([]:List UInt8)))) then
 Option.bind (whole (n+1) y1.2.1 ((List.take ((Int.toNat y2.1) - 0) (List.drop 0 y1.1))++([]:List UInt8)) (IntKind.wrap .i64 (y9.1 - 0))) fun y12=>
 some ((y12.1.1,(y12.1.2.1,(y12.1.2.2.1,y12.1.2.2.2))),true,())
 else none
 else none
 else none
noncomputable def DQ:aT:=⟨74,[(false,.str)],[(true,(.cons .bool (.cons .str (.cons (.int .i64) (.int .i64))))),(false,.bool)],5,fun n x=>float n x.1⟩
theorem Oe (n:Nat):ao Tryz.prog hint aH DQ n:=
 ao.of (hk:=fun β=>(aj.mk [va,rA,jb,uw,iJ,B0] []).hk β) (sh:=aH) (fun m _=>ab.au ((((((ab.nil.fn MR).fn k8).fn Cv).fn oh).fn CH).fn Da) m) (fun x=>by kernel_rfl)
end Go.Proofs.YtnddpppljnjmcaaGreatDoor
/- Plain functions for the program's. -/
namespace Go.Proofs.YtnddpppljnjmcaaGreatDoor
open Go Go.Iv Go.Gv
set_option maxRecDepth 100000
set_option linter.unusedVariables false
noncomputable def HT (_n:Nat) (s:List UInt8):Option (Bool×Unit):=
 Option.bind (bif (s==([]:List UInt8)) then
  some true
 else
 bif (s==([126]:List UInt8)) then
  some true
 else
 bif (s==([110,117,108,108]:List UInt8)) then
  some true
 else
 bif (s==([78,117,108,108]:List UInt8)) then
  some true
 else
 some (s==([78,85,76,76]:List UInt8))) fun b1=>
 some (b1,())
noncomputable def DO:aT:=⟨53,[(false,.str)],[(false,.bool)],0,fun n x=>HT n x.1⟩
theorem MH (n:Nat):ao Tryz.prog hint aH DO n:=
 ao.of (hk:=fun β=>(aj.mk [] []).hk β) (sh:=aH) (fun m _=>ab.au ab.nil m) (fun x=>by kernel_rfl)
noncomputable def Ak (_n:Nat) (s:List UInt8):Option (Bool×(Bool×Unit)):=
 bif (s==([116,114,117,101]:List UInt8)) then
 some (true,true,())
 else
 bif (s==([84,114,117,101]:List UInt8)) then
 some (true,true,())
 else
 bif (s==([84,82,85,69]:List UInt8)) then
 some (true,true,())
 else
 bif (s==([102,97,108,115,101]:List UInt8)) then
 some (false,true,())
 else
 bif (s==([70,97,108,115,101]:List UInt8)) then
 some (false,true,())
 else
 bif (s==([70,65,76,83,69]:List UInt8)) then
 some (false,true,())
 else
 some (false,false,())
noncomputable def zL:aT:=⟨54,[(false,.str)],[(false,.bool),(false,.bool)],0,fun n x=>Ak n x.1⟩
theorem KB (n:Nat):ao Tryz.prog hint aH zL n:=
 ao.of (hk:=fun β=>(aj.mk [] []).hk β) (sh:=aH) (fun m _=>ab.au ab.nil m) (fun x=>by kernel_rfl)
noncomputable def BA (n:Nat) (s:List UInt8):Option ((Bool×(List UInt8×(Int×Int)))×(Bool×Unit)):=
 Option.bind (float n s) fun y0=>
 bif y0.2.1 then
 some ((y0.1.1,(y0.1.2.1,(y0.1.2.2.1,y0.1.2.2.2))),true,())
 else
 Option.bind (int n s) fun y1=>
 some ((y1.1.1,(y1.1.2.1,(y1.1.2.2.1,y1.1.2.2.2))),y1.2.1,())
noncomputable def zh:aT:=⟨56,[(false,.str)],[(true,(.cons .bool (.cons .str (.cons (.int .i64) (.int .i64))))),(false,.bool)],6,fun n x=>BA n x.1⟩
theorem Jt (n:Nat):ao Tryz.prog hint aH zh n:=
 ao.of (hk:=fun β=>(aj.mk [FN,DQ] []).hk β) (sh:=aH) (fun m _=>ab.au ((ab.nil.fn Oe).fn MS) m) (fun x=>by kernel_rfl)
noncomputable def qA (n:Nat) (tag:List UInt8) (s:List UInt8):Option ((Int×(Bool×((Bool×(List UInt8×(Int×Int)))×List UInt8)))×(Int×Unit)):=
 bif (tag==([116,97,103,58,121,97,109,108,46,111,114,103,44,50,48,48,50,58,110,117,108,108]:List UInt8)) then
 Option.bind (HT (n+6) s) fun y0=>
 bif (!y0.1) then
  some ((0,(false,((false,(([]:List UInt8),(0,0))),([]:List UInt8)))),15,())
 else
 some ((1,(false,((false,(([]:List UInt8),(0,0))),([]:List UInt8)))),0,())
 else
 bif (tag==([116,97,103,58,121,97,109,108,46,111,114,103,44,50,48,48,50,58,98,111,111,108]:List UInt8)) then
 Option.bind (Ak (n+6) s) fun y1=>
 bif (!y1.2.1) then
  some ((0,(false,((false,(([]:List UInt8),(0,0))),([]:List UInt8)))),15,())
 else
 some ((2,(y1.1,((false,(([]:List UInt8),(0,0))),([]:List UInt8)))),0,())
 else
 bif (tag==([116,97,103,58,121,97,109,108,46,111,114,103,44,50,48,48,50,58,105,110,116]:List UInt8)) then
 Option.bind (int (n+1) s) fun y2=>
 bif (!y2.2.1) then
  some ((0,(false,((false,(([]:List UInt8),(0,0))),([]:List UInt8)))),15,())
 else
 some ((3,(false,((y2.1.1,(y2.1.2.1,(y2.1.2.2.1,y2.1.2.2.2))),([]:List UInt8)))),0,())
 else
 bif (tag==([116,97,103,58,121,97,109,108,46,111,114,103,44,50,48,48,50,58,102,108,111,97,116]:List UInt8)) then
 Option.bind (BA n s) fun y3=>
 bif (!y3.2.1) then
  some ((0,(false,((false,(([]:List UInt8),(0,0))),([]:List UInt8)))),15,())
 else
 some ((4,(false,((y3.1.1,(y3.1.2.1,(y3.1.2.2.1,y3.1.2.2.2))),([]:List UInt8)))),0,())
 else
 some ((5,(false,((false,(([]:List UInt8),(0,0))),s))),0,())
noncomputable def pC:aT:=⟨42,[(false,.str),(false,.str)],[(true,(.cons (.int .i64) (.cons .bool (.cons (.cons .bool (.cons .str (.cons (.int .i64) (.int .i64)))) .str)))),(false,(.int .i64))],7,fun n x=>qA n x.1 x.2.1⟩
theorem yd (n:Nat):ao Tryz.prog hint aH pC n:=
 ao.of (hk:=fun β=>(aj.mk [zh,FN,zL,DO] []).hk β) (sh:=aH) (fun m _=>ab.au ((((ab.nil.fn MH).fn KB).fn MS).fn Jt) m) (fun x=>by kernel_rfl)
end Go.Proofs.YtnddpppljnjmcaaGreatDoor
/- Plain functions for the program's. -/
namespace Go.Proofs.YtnddpppljnjmcaaGreatDoor
open Go Go.Iv Go.Gv
set_option maxRecDepth 100000
set_option linter.unusedVariables false
noncomputable def iQ (_n:Nat) (v:(Int×(Bool×((Bool×(List UInt8×(Int×Int)))×List UInt8)))) (w:(Int×(Bool×((Bool×(List UInt8×(Int×Int)))×List UInt8)))):Option (Bool×Unit):=
 bif (v.1 !=w.1) then
 some (false,())
 else
 bif (v.1==2) then
 some ((v.2.1==w.2.1),())
 else
 bif (v.1==3) then
 Option.bind (bif (v.2.2.1.1==w.2.2.1.1) then
  bif (v.2.2.1.2.1==w.2.2.1.2.1) then
   bif (v.2.2.1.2.2.1==w.2.2.1.2.2.1) then
   some (v.2.2.1.2.2.2==w.2.2.1.2.2.2)
   else
   some false
  else
  some false
  else
  some false) fun b1=>
 some (b1,())
 else
 bif (v.1==4) then
 Option.bind (bif (v.2.2.1.1==w.2.2.1.1) then
  bif (v.2.2.1.2.1==w.2.2.1.2.1) then
   bif (v.2.2.1.2.2.1==w.2.2.1.2.2.1) then
   some (v.2.2.1.2.2.2==w.2.2.1.2.2.2)
   else
   some false
  else
  some false
  else
  some false) fun b3=>
 some (b3,())
 else
 bif (v.1==5) then
 some ((v.2.2.2==w.2.2.2),())
 else
 some (true,())
noncomputable def mH:aT:=⟨16,[(true,(.cons (.int .i64) (.cons .bool (.cons (.cons .bool (.cons .str (.cons (.int .i64) (.int .i64)))) .str)))),(true,(.cons (.int .i64) (.cons .bool (.cons (.cons .bool (.cons .str (.cons (.int .i64) (.int .i64)))) .str))))],[(false,.bool)],0,fun n x=>iQ n x.1 x.2.1⟩
theorem tE (n:Nat):ao Tryz.prog hint aH mH n:=
 ao.of (hk:=fun β=>(aj.mk [] []).hk β) (sh:=aH) (fun m _=>ab.au ab.nil m) (fun x=>by kernel_rfl)
noncomputable def alike (n:Nat) (x:(Int×(List UInt8×(List UInt8×(List Int×Bool))))) (y:(Int×(List UInt8×(List UInt8×(List Int×Bool))))):Option (Bool×Unit):=
 Option.bind (bif (x.1 !=y.1) then
  some true
 else
 bif (!(x.2.1==y.2.1)) then
  some true
 else
 some ((len x.2.2.2.1) !=(len y.2.2.2.1))) fun b1=>
 bif b1 then
 some (false,())
 else
 bif (x.1 !=1) then
 some (true,())
 else
 Option.bind (qA n x.2.1 x.2.2.1) fun y2=>
 Option.bind (qA n y.2.1 y.2.2.1) fun y3=>
 Option.bind (bif (y2.2.1==0) then
  some (y3.2.1==0)
 else
 some false) fun b5=>
 bif b5 then
 Option.bind (iQ (n+7) (y2.1.1,(y2.1.2.1,((y2.1.2.2.1.1,(y2.1.2.2.1.2.1,(y2.1.2.2.1.2.2.1,y2.1.2.2.1.2.2.2))),y2.1.2.2.2))) (y3.1.1,(y3.1.2.1,((y3.1.2.2.1.1,(y3.1.2.2.1.2.1,(y3.1.2.2.1.2.2.1,y3.1.2.2.1.2.2.2))),y3.1.2.2.2)))) fun y6=>
 some (y6.1,())
 else
 some ((x.2.2.1==y.2.2.1),())
noncomputable def Fq:aT:=⟨30,[(true,sN),(true,sN)],[(false,.bool)],8,fun n x=>alike n x.1 x.2.1⟩
theorem Od (n:Nat):ao Tryz.prog hint aH Fq n:=
 ao.of (hk:=fun β=>(aj.mk [mH,pC] []).hk β) (sh:=aH) (fun m _=>ab.au ((ab.nil.fn yd).fn tE) m) (fun x=>by kernel_rfl)
noncomputable def lS:Tm:=⟨[(3,.one (.fix (TV.ptr 64 0))),(7,.one (.fix (TV.ptr 65 0))),(8,.one (.all 73 61 (.cons (.int .i64) (.int .i64)) .no))],[(64,.cells 25 [.aC sN,.aC (.int .i64)] true),(65,.cells 58 [.fix (TV.mp 67)] true),(67,.map 61 true false (.cons (.int .i64) (.int .i64)) .bool false),(72,.cells 31 [.int .i64,.str,.str,.aC (.int .i64),.bool] true)],73,74,2014⟩
noncomputable def Ck:Tm:=⟨[(3,.one (.fix (TV.ptr 64 0))),(7,.one (.fix (TV.ptr 65 0))),(8,.one (.all 73 61 (.cons (.int .i64) (.int .i64)) .no)),(11,.one (.fix (TV.ptr 72 0))),(59,.one (.aC (.int .i64))),(60,.one (.int .i64)),(61,.one (.int .i64))],[(64,.cells 25 [.aC sN,.aC (.int .i64)] true),(65,.cells 58 [.fix (TV.mp 67)] true),(67,.map 61 true false (.cons (.int .i64) (.int .i64)) .bool false),(72,.cells 31 [.int .i64,.str,.str,.aC (.int .i64),.bool] true)],73,74,2014⟩
noncomputable def mR:Nat→(List (Int×Int))→(List Int)→Int→Int→qN→(List Int)→(List ((Int×Int)×Bool))→Int→(List UInt8)→(List UInt8)→(List Int)→Bool→Option ((Unit×(Unit×((List (Int×Int))×Unit)))×((qN×((List Int)×Unit))×((Unit×Unit)×((List ((Int×Int)×Bool))×((Int×((List UInt8)×((List UInt8)×((List Int)×(Bool×Unit)))))×Unit)))))
 |0,_,_,_,_,_,_,_,_,_,_,_,_=>none
 |n+1,t8,t59,t60,t61,c64_0,c64_1,m67,c72_0,c72_1,c72_2,c72_3,c72_4=>
 bif (aO t61 t60) then
  bif (aB 0 t61) then
  Option.bind (t59[(Int.toNat t61)]?) fun x8=>
  bif (aB 0 t61) then
  Option.bind (c72_3[(Int.toNat t61)]?) fun x9=>
  bif (c8 (Sh.cons kI kI) m67 (x8,x9) false) then
  mR n t8 t59 t60 (IntKind.wrap .i64 (t61+1)) c64_0 c64_1 m67 c72_0 c72_1 c72_2 c72_3 c72_4
  else
  bif (room (((List.length t8)+(List.length ((x8,x9):: [])))*17)) then
  mR n (t8++((x8,x9):: [])) t59 t60 (IntKind.wrap .i64 (t61+1)) c64_0 c64_1 (cE (Sh.cons kI kI) m67 (x8,x9) true) c72_0 c72_1 c72_2 c72_3 c72_4
  else none
  else none
  else none
 else
 some (((),((),(t8,()))),((c64_0,(c64_1,())),(((),()),(m67,((c72_0,(c72_1,(c72_2,(c72_3,(c72_4,()))))),())))))
noncomputable def yH:aA:=⟨21,12,none,Ck,[(.exit 2,lS)],1,fun n x=>mR n x.1.2.2.1 x.1.2.2.2.2.1 x.1.2.2.2.2.2.1 x.1.2.2.2.2.2.2.1 x.2.1.1 x.2.1.2.1 x.2.2.2.1 x.2.2.2.2.1.1 x.2.2.2.2.1.2.1 x.2.2.2.2.1.2.2.1 x.2.2.2.2.1.2.2.2.1 x.2.2.2.2.1.2.2.2.2.1,[70,71]⟩
theorem pL:lS.ok Tryz.prog hint:=Tm.bF rfl
theorem rV:Ck.ok Tryz.prog hint:=Tm.bF rfl
theorem JE:∀ n,ai Tryz.prog hint aH yH n:=
 ai.of (hk:=fun β=>(aj.mk [] []).hk β) (sh:=aH) (ay.of (by kernel_rfl)) rV ⟨⟨pL,Nat.le_refl _,Nat.le_refl _⟩,trivial⟩ (fun m=>ab.au ab.nil m)
  (fun _=>by kernel_rfl) (fun m x=>by kernel_rfl)
noncomputable def nQ:Tm:=⟨[],[(64,.cells 25 [.aC sN,.aC (.int .i64)] true),(65,.cells 58 [.fix (TV.mp 67)] true),(67,.map 61 true false (.cons (.int .i64) (.int .i64)) .bool false)],69,69,1007⟩
noncomputable def tY:Tm:=⟨[(6,.one (.bool))],[(64,.cells 25 [.aC sN,.aC (.int .i64)] true),(65,.cells 58 [.fix (TV.mp 67)] true),(67,.map 61 true false (.cons (.int .i64) (.int .i64)) .bool false)],69,69,1007⟩
noncomputable def Im:Tm:=⟨[(3,.one (.fix (TV.ptr 64 0))),(7,.one (.fix (TV.ptr 65 0))),(8,.one (.all 69 61 (.cons (.int .i64) (.int .i64)) .no))],[(64,.cells 25 [.aC sN,.aC (.int .i64)] true),(65,.cells 58 [.fix (TV.mp 67)] true),(67,.map 61 true false (.cons (.int .i64) (.int .i64)) .bool false)],69,70,1007⟩
noncomputable def rm:Nat→(List (Int×Int))→qN→(List Int)→(List ((Int×Int)×Bool))→Option ((Unit×((qN×((List Int)×Unit))×((Unit×Unit)×((List ((Int×Int)×Bool))×Unit))))⊕((Bool×Unit)×((qN×((List Int)×Unit))×((Unit×Unit)×((List ((Int×Int)×Bool))×Unit)))))
 |0,_,_,_,_=>none
 |n+1,t8,c64_0,c64_1,m67=>
 bif (aO 0 (len t8)) then
  bif ((aB 0 (IntKind.wrap .i64 ((len t8) - 1))) &&(aO (IntKind.wrap .i64 ((len t8) - 1)) (len t8))) then
  Option.bind (t8[(Int.toNat (IntKind.wrap .i64 ((len t8) - 1)))]?) fun x16=>
  bif ((aB 0 (IntKind.wrap .i64 ((len t8) - 1))) &&(aB (IntKind.wrap .i64 ((len t8) - 1)) (len t8))) then
  bif (aB 0 x16.1) then
  Option.bind (c64_0[(Int.toNat x16.1)]?) fun x17=>
  bif (aB 0 x16.2) then
  Option.bind (c64_0[(Int.toNat x16.2)]?) fun x18=>
  bif (x16.1==x16.2) then
  rm n (List.take ((Int.toNat (IntKind.wrap .i64 ((len t8) - 1))) - 0) (List.drop 0 t8)) c64_0 c64_1 m67
  else
  Option.bind (alike (n+1) (x17.1,(x17.2.1,(x17.2.2.1,(x17.2.2.2.1,x17.2.2.2.2)))) (x18.1,(x18.2.1,(x18.2.2.1,(x18.2.2.2.1,x18.2.2.2.2))))) fun y19=>
  bif (!y19.1) then
  some (.inr ((false,()),((c64_0,(c64_1,())),(((),()),(m67,())))))
  else
  Option.bind (mR (n+9) (List.take ((Int.toNat (IntKind.wrap .i64 ((len t8) - 1))) - 0) (List.drop 0 t8)) x17.2.2.2.1 (len x17.2.2.2.1) 0 c64_0 c64_1 m67 x18.1 x18.2.1 x18.2.2.1 x18.2.2.2.1 x18.2.2.2.2) fun y20=>
  rm n y20.1.2.2.1 y20.2.1.1 y20.2.1.2.1 y20.2.2.2.1
  else none
  else none
  else none
  else none
 else
 some (.inl ((),((c64_0,(c64_1,())),(((),()),(m67,())))))
noncomputable def E9:aA:=⟨21,4,none,Im,[(.exit 0,nQ),(.ret,tY)],9,fun n x=>rm n x.1.2.2.1 x.2.1.1 x.2.1.2.1 x.2.2.2.1,[66]⟩
theorem sB:nQ.ok Tryz.prog hint:=Tm.bF rfl
theorem xI:tY.ok Tryz.prog hint:=Tm.bF rfl
theorem uW:Im.ok Tryz.prog hint:=Tm.bF rfl
theorem NG:∀ n,ai Tryz.prog hint aH E9 n:=
 ai.of (hk:=fun β=>(aj.mk [Fq] [yH]).hk β) (sh:=aH) (ay.of (by kernel_rfl)) uW ⟨⟨sB,Nat.le_refl _,Nat.le_refl _⟩,⟨xI,Nat.le_refl _,Nat.le_refl _⟩,trivial⟩ (fun m=>ab.au ((ab.nil.fn Od).loop JE rV) m)
  (fun _=>by kernel_rfl) (fun m x=>by kernel_rfl)
noncomputable def ij (n:Nat) (g:(List (Int×(List UInt8×(List UInt8×(List Int×Bool))))×List Int)) (a:Int) (b:Int):Option (Bool×Unit):=
 Option.bind (rm n ((a,b):: []) g.1 g.2 (cE (Sh.cons kI kI) [] (a,b) true)) fun y21=>
 match y21 with
 | .inl _=>
  some (true,())
 | .inr y23=>
  some (y23.1.1,())
noncomputable def qp:aT:=⟨21,[(true,(.cons (.bQ sN) (.bQ (.int .i64)))),(false,(.int .i64)),(false,(.int .i64))],[(false,.bool)],9,fun n x=>ij n x.1 x.2.1 x.2.2.1⟩
theorem yc (n:Nat):ao Tryz.prog hint aH qp n:=
 ao.of (hk:=fun β=>(aj.mk [] [E9]).hk β) (sh:=aH) (fun m _=>ab.au (ab.nil.loop NG uW) m) (fun x=>by kernel_rfl)
noncomputable def cH (n:Nat) (g:(List (Int×(List UInt8×(List UInt8×(List Int×Bool))))×List Int)) (a:Int) (b:Int):Option (Bool×Unit):=
 bif (aB 0 a) then
 bif (aO a (len g.1)) then
  bif (aB 0 b) then
  bif (aO b (len g.1)) then
   Option.bind (right (n+2) (g.1,g.2)) fun y0=>
   bif y0.1 then
   Option.bind (ij n (g.1,g.2) a b) fun y1=>
   some (y1.1,())
   else
   some (false,())
  else
  some (false,())
  else
  some (false,())
 else
 some (false,())
 else
 some (false,())
noncomputable def jk:aT:=⟨11,[(true,(.cons (.bQ sN) (.bQ (.int .i64)))),(false,(.int .i64)),(false,(.int .i64))],[(false,.bool)],10,fun n x=>cH n x.1 x.2.1 x.2.2.1⟩
theorem nR (n:Nat):ao Tryz.prog hint aH jk n:=
 ao.of (hk:=fun β=>(aj.mk [qp,uY] []).hk β) (sh:=aH) (fun m _=>ab.au ((ab.nil.fn CR).fn yc) m) (fun x=>by kernel_rfl)
end Go.Proofs.YtnddpppljnjmcaaGreatDoor
/- The document's decoding of bytes. -/
namespace Go.Proofs.YtnddpppljnjmcaaGreatDoor
open Go Go.Iv Go.Gv
set_option maxRecDepth 10000
theorem SV {α:Type} (l:List α) (k:Nat):List.take (l.length - k) (List.drop k l)=List.drop k l:=List.take_of_length_le (by simp)
theorem dJ {α:Type} {l r:List α} {i:Nat} (h:l.drop i=r) (k:Nat):l[i+k]? =r[k]? :=by rw [←h,List.getElem?_drop]
theorem dM {n:Nat} (h:n≤1099511627776):room n=true:=ju h
def JT (c:Int):Bool:=decide (0≤c∧c≤1114111∧(c<55296∨57343<c))
theorem GQ (n:Nat) (c:Int):kQ n c=some (JT c,()):=by
 unfold kQ JT
 rw [db,db,gu,gu]
 by_cases h1:(0:Int)≤c<;>by_cases h2:c≤1114111<;>by_cases h3:c<55296<;>simp only [h1,h2,h3,decide_true,decide_false,cond_true,cond_false,true_and,false_and,true_or,false_or,Bool.decide_and,Option.bind_some]
def cont (x:UInt8):Prop:=128≤ub x∧ub x≤191
instance (x:UInt8):Decidable (cont x):=inferInstanceAs (Decidable (_∧_))
def v2 (a b:UInt8):Int:=(ub a%32)*64+ub b%64
def v3 (a b c:UInt8):Int:=((ub a%16)*64+ub b%64)*64+ub c%64
def v4 (a b c d:UInt8):Int:=(((ub a%8)*64+ub b%64)*64+ub c%64)*64+ub d%64
def pt:List UInt8→Option (Int×Nat)
 | []=>none
 |a::r=>
  if ub a<128 then some (ub a,1)
  else if ub a<194 then none
  else if ub a<224 then match r with
   |b::_=>if cont b then some (v2 a b,2) else none
   |_=>none
  else if ub a<240 then match r with
   |b::c::_=>if cont b∧cont c∧2048≤v3 a b c∧JT (v3 a b c)=true then some (v3 a b c,3) else none
   |_=>none
  else if ub a<245 then match r with
   |b::c::d::_=>if cont b∧cont c∧cont d∧65536≤v4 a b c d∧JT (v4 a b c d)=true then some (v4 a b c d,4) else none
   |_=>none
  else none
theorem Nh {l:List UInt8} {c:Int} {k:Nat} (h:pt l=some (c,k)):JT c=true∧1≤k∧k≤l.length∧0≤c∧c≤1114111:=by
 have fin:∀ {c:Int} {k:Nat},JT c=true→1≤k→k≤l.length→JT c=true∧1≤k∧k≤l.length∧0≤c∧c≤1114111:=fun h1 h2 h3=>by
  have:=of_decide_eq_true h1;exact ⟨h1,h2,h3,by omega,by omega⟩
 unfold pt at h
 match l,h with
 |a::r,h=>
  have ha:=gV a
  dsimp only at h
  split at h
  ·cases h;exact fin (decide_eq_true (by omega)) (by omega) (by simp)
  split at h
  ·cases h
  split at h
  ·split at h
   ·split at h
    ·cases h
     refine fin (decide_eq_true ?_) (by omega) (by simp)
     unfold v2;omega
    ·cases h
   ·cases h
  split at h
  ·split at h
   ·split at h
    ·rename_i hh;cases h;exact fin hh.2.2.2 (by omega) (by simp)
    ·cases h
   ·cases h
  split at h
  ·split at h
   ·split at h
    ·rename_i hh;cases h;exact fin hh.2.2.2.2 (by omega) (by simp)
    ·cases h
   ·cases h
  ·cases h
theorem R7 {x:Int} (h1:0≤x) (h2:x<1000):A1 .i64 x 63=x%64:=pz 6 (by decide) x h1 (by omega)
theorem Sk {x:Int} (h1:0≤x) (h2:x<1000):A1 .i64 x 31=x%32:=pz 5 (by decide) x h1 (by omega)
theorem RS {x:Int} (h1:0≤x) (h2:x<1000):A1 .i64 x 15=x%16:=pz 4 (by decide) x h1 (by omega)
theorem and7 {x:Int} (h1:0≤x) (h2:x<1000):A1 .i64 x 7=x%8:=pz 3 (by decide) x h1 (by omega)
theorem yP (n:Nat) (b:List UInt8) (N L c:Int) (k:Nat) (y:UInt8) (hk:b[k]? =some y) (hN:(k:Int)<N) (hN2:N<100) (h1:0≤c) (h2:c<1099511627776):
  ig (n+1) b N L c (k:Int)=if cont y then ig n b N L (c*64+ub y%64) ((k+1:Nat):Int) else some (.inr ((0,(0,())),())):=by
 have hy:=gV y
 have w:IntKind.wrap .i64 ((k:Int)+1)=((k+1:Nat):Int):=by rw [ae]<;>omega
 have e0:(Int.toNat (k:Int))=k:=rfl
 conv=>lhs;unfold ig
 simp only [az hN,ak (show (0:Int)≤k by omega),cond_true,e0,hk,Option.bind_some,fR,w]
 by_cases h3:ub y<128
 ·rw [az h3,if_neg (fun h=>by have:=h.1;omega)];rfl
 ·rw [aD (show 128≤ub y by omega),cond_false]
  by_cases h4:191<ub y
  ·rw [az h4,if_neg (fun h=>by have:=h.2;omega)];rfl
  ·rw [aD (show ub y≤191 by omega),if_pos ⟨by omega,by omega⟩]
   simp only [Option.bind_some,cond_false]
   rw [R7 (by omega) (by omega),ae (x:=c*64) (by omega) (by omega),ae (by omega) (by omega)]
theorem QJ (n:Nat) (b:List UInt8) (N L c:Int):ig (n+1) b N L c N=some (.inl ((N,(L,(c,()))),())):=by
 simp only [ig,aD (show N≤N by omega),cond_false]
def rp:Option (Int×Nat)→Int×(Int×Unit)
 |some (c,k)=>(c,((k:Int),()))
 |none=>(0,(0,()))
theorem pR (n:Nat) (L c N:Int):
  (bif Go.Iv.aO c L then some (0,(0,())) else Option.bind (kQ n c) fun y=>bif !y.1 then some (0,(0,())) else some (c,(N,())))=if L≤c∧JT c=true then some (c,(N,())) else some ((0:Int),((0:Int),())):=by
 rw [GQ]
 by_cases h:c<L
 ·rw [az h,if_neg (fun hh=>by omega)];rfl
 ·rw [aD (by omega)]
  cases JT c with
  |false=>rw [if_neg (fun hh=>by cases hh.2)];rfl
  |true=>rw [if_pos ⟨by omega,rfl⟩];rfl
theorem C3 (n:Nat) (a:UInt8) (r:List UInt8) (hn:10≤n) (hr:r.length<10000000):uL n (a::r)=some (rp (pt (a::r))):=by
 obtain ⟨n,rfl⟩:∃ m,n=m+10:=⟨n - 10,by omega⟩
 have ha:=gV a
 have hp:=pt.eq_def (a::r)
 dsimp only at hp
 rw [hp]
 unfold uL
 simp only [List.getElem?_cons_zero,Option.bind_some,fR,len]
 by_cases h1:ub a<128
 ·rw [az h1,if_pos h1];rfl
 rw [aD (show 128≤ub a by omega),if_neg h1]
 simp only [cond_true,cond_false,Option.bind_some]
 by_cases h2:ub a<194
 ·rw [gO h2,if_pos h2,gO (show ub a<224 by omega),gO (show ub a<240 by omega)];rfl
 rw [ak (show 194≤ub a by omega),if_neg h2]
 simp only [cond_true,cond_false,Option.bind_some]
 by_cases h3:ub a<224
 ·rw [az h3,if_pos h3]
  simp only [cond_true,cond_false,Option.bind_some]
  match r,hr with
  | [],_=>rfl
  |b::s,hr=>
   have hb:=gV b
   simp only [List.length_cons] at hr ⊢
   rw [aD (show (2:Int)≤((s.length+1+1:Nat):Int) by omega),Sk (by omega) (by omega)]
   have s1:=yP (n+10) (a::b::s) 2 128 (ub a%32) 1 b rfl (by decide) (by decide) (by omega) (by omega)
   have s2:=QJ (n+9) (a::b::s) 2 128 (ub a%32*64+ub b%64)
   simp only [cond_true,cond_false,Option.bind_some]
   refine (congrArg (fun z=>Option.bind z _) s1).trans ?_
   by_cases hc:cont b
   ·rw [if_pos hc,if_pos hc]
    refine (congrArg (fun z=>Option.bind z _) s2).trans ?_
    simp only [Option.bind_some]
    rw [pR,if_pos ⟨by omega,decide_eq_true (by omega)⟩]
    rfl
   ·rw [if_neg hc,if_neg hc];rfl
 rw [aD (show 224≤ub a by omega),if_neg h3]
 simp only [cond_true,cond_false,Option.bind_some]
 rw [ak (show 224≤ub a by omega)]
 simp only [cond_true,cond_false,Option.bind_some]
 by_cases h4:ub a<240
 ·rw [az h4,if_pos h4]
  simp only [cond_true,cond_false,Option.bind_some]
  match r,hr with
  | [],_=>rfl
  | [b],_=>rfl
  |b::c::s,hr=>
   have hb:=gV b
   have hc:=gV c
   simp only [List.length_cons] at hr ⊢
   rw [aD (show (3:Int)≤((s.length+1+1+1:Nat):Int) by omega),RS (by omega) (by omega)]
   have s1:=yP (n+10) (a::b::c::s) 3 2048 (ub a%16) 1 b rfl (by decide) (by decide) (by omega) (by omega)
   have s2:=yP (n+9) (a::b::c::s) 3 2048 (ub a%16*64+ub b%64) 2 c rfl (by decide) (by decide) (by omega) (by omega)
   have s3:=QJ (n+8) (a::b::c::s) 3 2048 (v3 a b c)
   simp only [cond_true,cond_false,Option.bind_some]
   refine (congrArg (fun z=>Option.bind z _) s1).trans ?_
   by_cases hb2:cont b
   ·rw [if_pos hb2]
    refine (congrArg (fun z=>Option.bind z _) s2).trans ?_
    by_cases hc2:cont c
    ·rw [if_pos hc2]
     refine (congrArg (fun z=>Option.bind z _) s3).trans ?_
     simp only [Option.bind_some]
     rw [pR]
     by_cases hv:2048≤v3 a b c∧JT (v3 a b c)=true
     ·rw [if_pos hv,if_pos ⟨hb2,hc2,hv⟩];rfl
     ·rw [if_neg hv,if_neg (fun h=>hv h.2.2)];rfl
    ·rw [if_neg hc2,if_neg (fun h=>hc2 h.2.1)];rfl
   ·rw [if_neg hb2,if_neg (fun h=>hb2 h.1)];rfl
 rw [aD (show 240≤ub a by omega),if_neg h4]
 simp only [cond_true,cond_false,Option.bind_some]
 rw [ak (show 240≤ub a by omega)]
 simp only [cond_true,cond_false,Option.bind_some]
 by_cases h5:ub a<245
 ·rw [az h5,if_pos h5]
  simp only [cond_true,cond_false,Option.bind_some]
  match r,hr with
  | [],_=>rfl
  | [b],_=>rfl
  | [b,c],_=>rfl
  |b::c::d::s,hr=>
   have hb:=gV b
   have hc:=gV c
   have hd:=gV d
   simp only [List.length_cons] at hr ⊢
   rw [aD (show (4:Int)≤((s.length+1+1+1+1:Nat):Int) by omega),and7 (by omega) (by omega)]
   have s1:=yP (n+10) (a::b::c::d::s) 4 65536 (ub a%8) 1 b rfl (by decide) (by decide) (by omega) (by omega)
   have s2:=yP (n+9) (a::b::c::d::s) 4 65536 (ub a%8*64+ub b%64) 2 c rfl (by decide) (by decide) (by omega) (by omega)
   have s3:=yP (n+8) (a::b::c::d::s) 4 65536 ((ub a%8*64+ub b%64)*64+ub c%64) 3 d rfl (by decide) (by decide) (by omega) (by omega)
   have s4:=QJ (n+7) (a::b::c::d::s) 4 65536 (v4 a b c d)
   simp only [cond_true,cond_false,Option.bind_some]
   refine (congrArg (fun z=>Option.bind z _) s1).trans ?_
   by_cases hb2:cont b
   ·rw [if_pos hb2]
    refine (congrArg (fun z=>Option.bind z _) s2).trans ?_
    by_cases hc2:cont c
    ·rw [if_pos hc2]
     refine (congrArg (fun z=>Option.bind z _) s3).trans ?_
     by_cases hd2:cont d
     ·rw [if_pos hd2]
      refine (congrArg (fun z=>Option.bind z _) s4).trans ?_
      simp only [Option.bind_some]
      rw [pR]
      by_cases hv:65536≤v4 a b c d∧JT (v4 a b c d)=true
      ·rw [if_pos hv,if_pos ⟨hb2,hc2,hd2,hv⟩];rfl
      ·rw [if_neg hv,if_neg (fun h=>hv h.2.2.2)];rfl
     ·rw [if_neg hd2,if_neg (fun h=>hd2 h.2.2.1)];rfl
    ·rw [if_neg hc2,if_neg (fun h=>hc2 h.2.1)];rfl
   ·rw [if_neg hb2,if_neg (fun h=>hb2 h.1)];rfl
 rw [aD (show 245≤ub a by omega),if_neg h5]
 rfl
attribute [local irreducible] uL pt ud kQ
def d8:Nat→List UInt8→Option (List Int)
 |_,[]=>some []
 |0,_::_=>none
 |n+1,a::r=>match pt (a::r) with
  |none=>none
  |some (c,k)=>(d8 n ((a::r).drop k)).map (c::·)
theorem sR (b:List UInt8) (hb:b.length<4194304):∀ (m:Nat) (r:List UInt8) (n i:Nat) (o:List Int),r.length≤m→b.drop i=r→i≤b.length→o.length+r.length<10000000→m+12≤n→
  ui n b o (i:Int)=match d8 m r with
   |some xs=>some (.inl ((o++xs,()),()))
   |none=>some (.inr (((),(false,())),())):=by
 intro m
 induction m with
 |zero=>
  intro r n i o hm hr hi ho hn
  obtain ⟨n,rfl⟩:∃ k,n=k+1:=⟨n - 1,by omega⟩
  have:r= []:=List.length_eq_zero_iff.1 (by omega)
  subst this
  have hlen:b.length≤i:=by simpa using hr
  simp only [ui,len,aD (show (b.length:Int)≤i by omega),cond_false,d8,List.append_nil]
 |succ m ih=>
  intro r n i o hm hr hi ho hn
  obtain ⟨n,rfl⟩:∃ k,n=k+1:=⟨n - 1,by omega⟩
  have hlen:b.length=i+r.length:=by rw [←hr];simp;omega
  cases r with
  |nil=>
   simp at hlen
   simp only [ui,len,aD (show (b.length:Int)≤i by omega),cond_false,d8,List.append_nil]
  |cons a r=>
   simp only [List.length_cons] at hlen hm ho
   have e0:(Int.toNat (i:Int))=i:=rfl
   have hd0:List.take (b.length - i) (List.drop i b)=a::r:=(SV b i).trans hr
   simp only [ui,len,az (show (i:Int)<b.length by omega),ak (show (0:Int)≤i by omega),ak (show (i:Int)≤b.length by omega),Bool.and_self,cond_true,e0,hd0,C3 (n+1) a r (by omega) (by omega),Option.bind_some,d8]
   cases hp:pt (a::r) with
   |none=>rfl
   |some q=>
    obtain ⟨c,k⟩:=q
    obtain ⟨k1,k2,k3,k4,k5⟩:=Nh hp
    simp only [List.length_cons] at k3
    have w:IntKind.wrap .i64 ((i:Int)+k)=((i+k:Nat):Int):=by rw [ae]<;>omega
    have z:((k:Int)==0)=false:=by rw [beq_eq_false_iff_ne];omega
    have hd:b.drop (i+k)=(a::r).drop k:=by rw [←List.drop_drop,hr]
    simp only [rp,z,cond_false,List.length_cons,List.length_nil,dM (show (o.length+(0+1))*9≤1099511627776 by omega),cond_true,w]
    rw [ih ((a::r).drop k) n (i+k) (o++ [c]) (by simp;omega) hd (by omega) (by simp;omega) (by omega)]
    cases d8 m ((a::r).drop k) with
    |none=>rfl
    |some xs=>simp only [Option.map_some,List.append_assoc,List.cons_append,List.nil_append]
theorem BX (n:Nat) (b:List UInt8) (hb:b.length<4194304) (hn:b.length+12≤n):ud n b=some (match d8 b.length b with
  |some xs=>(xs,(true,()))
  |none=>([],(false,()))):=by
 unfold ud
 rw [show (0:Int)=((0:Nat):Int) from rfl,sR b hb b.length b n 0 [] (by omega) rfl (by omega) (by simp;omega) hn]
 cases d8 b.length b<;>rfl
end Go.Proofs.YtnddpppljnjmcaaGreatDoor
/- Which tags may be: the program's way and the document's. -/
namespace Go.Proofs.YtnddpppljnjmcaaGreatDoor
open Go Go.Iv Go.Gv
set_option maxRecDepth 10000
def pM (c:Int):Bool:=decide ((48≤c∧c≤57)∨(97≤c∧c≤102)∨(65≤c∧c≤70))
def l5 (c:Int):Bool:=decide ((48≤c∧c≤57)∨(97≤c∧c≤122)∨(65≤c∧c≤90)∨c=45)
def sg:List UInt8:= [35,59,47,63,58,64,38,61,43,36,44,95,46,33,126,42,39,40,41,91,93]
def CL (l:List UInt8) (c:Int):Bool:=l.any fun x=>ub x==c
theorem To (a b c:Int):(bif Go.Iv.aB a c then some (Go.Iv.aB c b) else some Bool.false)=some (decide (a≤c∧c≤b)):=by
 rw [db,db]
 by_cases h1:a≤c<;>by_cases h2:c≤b<;>simp [h1,h2]
theorem gj (n:Nat) (c:Int):∃ v,hex n c=some (v,())∧Go.Iv.aB 0 v=pM c:=by
 unfold hex pM
 simp only [To,Option.bind_some]
 by_cases h1:48≤c∧c≤57
 ·rw [decide_eq_true h1]
  refine ⟨_,rfl,?_⟩
  rw [ae (by omega) (by omega),ak (by omega),decide_eq_true (.inl h1)]
 rw [decide_eq_false h1]
 by_cases h2:97≤c∧c≤102
 ·rw [decide_eq_true h2]
  refine ⟨_,rfl,?_⟩
  rw [ae (x:=c - 97) (by omega) (by omega),ae (by omega) (by omega),ak (by omega),decide_eq_true (.inr (.inl h2))]
 rw [decide_eq_false h2]
 by_cases h3:65≤c∧c≤70
 ·rw [decide_eq_true h3]
  refine ⟨_,rfl,?_⟩
  rw [ae (x:=c - 65) (by omega) (by omega),ae (by omega) (by omega),ak (by omega),decide_eq_true (.inr (.inr h3))]
 rw [decide_eq_false h3]
 refine ⟨_,rfl,?_⟩
 rw [gO (by omega),decide_eq_false (by omega)]
theorem lg (n:Nat) (c:Int):∃ v,K6 n c=some (v,())∧Go.Iv.aB 0 v=pM c:=gj n c
theorem JD (n:Nat) (c:Int):word n c=some (l5 c,()):=by
 unfold word l5
 simp only [To,Option.bind_some]
 by_cases h1:48≤c∧c≤57<;>by_cases h2:97≤c∧c≤122<;>by_cases h3:65≤c∧c≤90<;>by_cases h4:c=45<;>
  first
  |(exfalso;omega)
  |simp [h1,h2,h3,h4]
theorem Gd (n:Nat) (c:Int):Ic n c=some (l5 c,()):=by
 unfold Ic l5
 simp only [db]
 by_cases h1:48≤c<;>by_cases h2:c≤57<;>by_cases h3:97≤c<;>by_cases h4:c≤122<;>by_cases h5:65≤c<;>by_cases h6:c≤90<;>by_cases h7:c=45<;>
  first
  |(exfalso;omega)
  |simp [h1,h2,h3,h4,h5,h6,h7]
theorem Gf (s:List UInt8) (c:Int) (hs:s.length<1000000):∀ (r:List UInt8) (i n:Nat),s.drop i=r→r.length+1≤n→i≤s.length→ya n s c (i:Int)=if CL r c then some (.inr ((true,()),())) else some (.inl ((),())):=by
 intro r
 induction r with
 |nil=>
  intro i n hr hn hi
  obtain ⟨n,rfl⟩:∃ k,n=k+1:=⟨n - 1,by omega⟩
  have hlen:s.length≤i:=by simpa using hr
  simp only [ya,len,aD (show (s.length:Int)≤i by omega),cond_false]
  rfl
 |cons x r ih=>
  intro i n hr hn hi
  obtain ⟨n,rfl⟩:∃ k,n=k+1:=⟨n - 1,by omega⟩
  have hlen:s.length=i+(r.length+1):=by
   have:=congrArg List.length hr
   simp at this;omega
  have hx:s[i]? =some x:=by have:=dJ hr 0;simpa using this
  have hr2:s.drop (i+1)=r:=by rw [←List.drop_drop,hr];rfl
  have w:IntKind.wrap .i64 ((i:Int)+1)=((i+1:Nat):Int):=by rw [ae]<;>omega
  have e0:(Int.toNat (i:Int))=i:=rfl
  simp only [ya,len,az (show (i:Int)<s.length by omega),ak (show (0:Int)≤i by omega),cond_true,e0,hx,Option.bind_some,fR,w]
  cases hb:(ub x==c) with
  |true=>simp [CL,hb]
  |false=>
   simp only [cond_false]
   rw [ih (i+1) n hr2 (by simp at hn;omega) (by omega)]
   simp [CL,hb]
theorem Cy (n:Nat) (s:List UInt8) (c:Int) (hs:s.length<1000000) (hn:s.length≤n):u6 n s c=some (CL s c,()):=by
 unfold u6
 rw [show (0:Int)=((0:Nat):Int) from rfl,Gf s c hs s 0 (n+1) rfl (by omega) (by omega)]
 cases CL s c<;>rfl
theorem Lv (c:Int) (q:List Int):∀ (r:List UInt8) (i n:Nat),sg.drop i=r→r.length+1≤n→i≤21→qw n (c::q) sg 21 (i:Int)=if CL r c then some (.inr ((1,()),())) else some (.inl ((),())):=by
 intro r
 induction r with
 |nil=>
  intro i n hr hn hi
  obtain ⟨n,rfl⟩:∃ k,n=k+1:=⟨n - 1,by omega⟩
  have hlen:sg.length≤i:=by simpa using hr
  have:sg.length=21:=rfl
  simp only [qw,aD (show (21:Int)≤i by omega),cond_false]
  rfl
 |cons x r ih=>
  intro i n hr hn hi
  obtain ⟨n,rfl⟩:∃ k,n=k+1:=⟨n - 1,by omega⟩
  have hlen:21=i+(r.length+1):=by
   have:=congrArg List.length hr
   have h21:sg.length=21:=rfl
   simp only [List.length_drop,List.length_cons,h21] at this;omega
  have hx:sg[i]? =some x:=by have:=dJ hr 0;simpa using this
  have hr2:sg.drop (i+1)=r:=by rw [←List.drop_drop,hr];rfl
  have w:IntKind.wrap .i64 ((i:Int)+1)=((i+1:Nat):Int):=by rw [ae]<;>omega
  have e0:(Int.toNat (i:Int))=i:=rfl
  simp only [qw,az (show (i:Int)<21 by omega),ak (show (0:Int)≤i by omega),cond_true,e0,hx,Option.bind_some,fR,w,List.getElem?_cons_zero]
  have hc:(c==ub x)=(ub x==c):=by rw [Bool.eq_iff_iff,beq_iff_eq,beq_iff_eq];exact eq_comm
  rw [hc]
  cases hb:(ub x==c) with
  |true=>simp [CL,hb]
  |false=>
   simp only [cond_false]
   rw [ih (i+1) n hr2 (by simp at hn;omega) (by omega)]
   simp [CL,hb]
def dw:List Int→Nat
 | []=>0
 |c::r=>if c=37 then (match r with
   |a::b::_=>bif pM a &&pM b then 3 else 0
   |_=>0) else bif l5 c then 1 else bif CL sg c then 1 else 0
theorem EN:∀ l:List Int,dw l≤l.length:=by
 intro l
 cases l with
 |nil=>exact Nat.le_refl _
 |cons c r=>
  simp only [dw]
  by_cases hc:c=37
  ·rw [if_pos hc]
   match r with
   | []=>simp
   | [a]=>simp
   |a::b::r=>cases h1:pM a<;>cases h2:pM b<;>simp [h1,h2]
  ·rw [if_neg hc]
   cases h1:l5 c<;>cases h2:CL sg c<;>simp
theorem yz (n:Nat) (l:List Int) (hn:30≤n) (hl:l.length<1000000000):sign n l=some (((dw l:Nat):Int),()):=by
 unfold sign
 cases l with
 |nil=>rfl
 |cons c r=>
  have h0:((len (c::r))==(0:Int))=false:=by
   rw [beq_eq_false_iff_ne];simp only [len,List.length_cons];omega
  simp only [h0,cond_false,List.getElem?_cons_zero,Option.bind_some,dw]
  cases hc:(c==(37:Int)) with
  |true=>
   rw [if_pos (eq_of_beq hc)]
   simp only [cond_true,len]
   match r,hl with
   | [],_=>rfl
   | [a],_=>rfl
   |a::b::r,hl=>
    simp only [List.length_cons] at hl ⊢
    obtain ⟨v1,e1,f1⟩:=gj n a
    obtain ⟨v2,e2,f2⟩:=gj n b
    rw [az (by omega)]
    simp only [cond_true,List.getElem?_cons_succ,List.getElem?_cons_zero,Option.bind_some,e1,e2,f1,f2]
    cases pM a<;>cases pM b<;>rfl
  |false=>
   rw [if_neg (beq_eq_false_iff_ne.1 hc)]
   simp only [cond_false,JD,Option.bind_some]
   cases l5 c with
   |true=>rfl
   |false=>
    simp only [cond_false]
    have:=Lv c r sg 0 (n+2) rfl (by have:sg.length=21:=rfl;omega) (by omega)
    refine (congrArg (fun z=>Option.bind z _) this).trans ?_
    cases CL sg c<;>rfl
theorem Kp (n:Nat) (l:List Int) (i:Nat) (hn:30≤n) (hl:l.length<1000000000) (hi:i≤l.length):NY n l (i:Int)=some (((dw (l.drop i):Nat):Int),()):=by
 unfold NY
 cases hr:l.drop i with
 |nil=>
  have hlen:l.length≤i:=by simpa using hr
  simp only [len,ak (show (l.length:Int)≤i by omega),cond_true]
  rfl
 |cons c r=>
  have hlen:l.length=i+(r.length+1):=by
   have:=congrArg List.length hr
   simp at this;omega
  have hx:l[i]? =some c:=by have:=dJ hr 0;simpa using this
  have e0:(Int.toNat (i:Int))=i:=rfl
  have w1:IntKind.wrap .i64 ((i:Int)+1)=((i+1:Nat):Int):=by rw [ae]<;>omega
  have w2:IntKind.wrap .i64 ((i:Int)+2)=((i+2:Nat):Int):=by rw [ae]<;>omega
  have e1:(Int.toNat ((i+1:Nat):Int))=i+1:=rfl
  have e2:(Int.toNat ((i+2:Nat):Int))=i+2:=rfl
  have ha:u6 n ([35,59,47,63,58,64,38,61,43,36,44,95,46,33,126,42,39,40,41,91,93]:List UInt8) c=some (CL sg c,()):=Cy n sg c (by decide) (by have:sg.length=21:=rfl;omega)
  simp only [len,gO (show (i:Int)<l.length by omega),cond_false,ak (show (0:Int)≤i by omega),cond_true,e0,hx,Option.bind_some,Gd,ha,w1,w2,e1,e2,dw]
  cases hc:(c==(37:Int)) with
  |true=>
   have:c=37:=eq_of_beq hc
   subst this
   have z1:l5 37=false:=by decide
   have z2:CL sg 37=false:=by decide
   simp only [z1,z2,cond_false,cond_true,if_true]
   match r,hr,hlen with
   | [],hr,hlen=>simp only [List.length_nil] at hlen;rw [aD (by omega)];rfl
   | [a],hr,hlen=>simp only [List.length_cons,List.length_nil] at hlen;rw [aD (by omega)];rfl
   |a::b::r,hr,hlen=>
    simp only [List.length_cons] at hlen
    have q1:l[i+1]? =some a:=by have:=dJ hr 1;simpa using this
    have q2:l[i+2]? =some b:=by have:=dJ hr 2;simpa using this
    obtain ⟨v1,e1,f1⟩:=lg (n+1) a
    obtain ⟨v2,e2,f2⟩:=lg (n+1) b
    rw [az (by omega),ak (show (0:Int)≤((i+1:Nat):Int) by omega),ak (show (0:Int)≤((i+2:Nat):Int) by omega)]
    simp only [cond_true,q1,q2,Option.bind_some,e1,e2,f1,f2]
    cases pM a<;>cases pM b<;>rfl
  |false=>
   rw [if_neg (beq_eq_false_iff_ne.1 hc)]
   simp only [cond_false]
   cases l5 c<;>cases CL sg c<;>rfl
def Ot:Nat→List Int→Bool
 |_,[]=>true
 |0,_::_=>false
 |n+1,c::r=>bif Nat.beq (dw (c::r)) 0 then false else Ot n ((c::r).drop (dw (c::r)))
attribute [local irreducible] dw sign NY
theorem QM (l:List Int) (hl:l.length<100000000):∀ (m:Nat) (r:List Int) (i n:Nat),l.drop i=r→r.length≤m→i≤l.length→m+40≤n→wa n l (i:Int)=if Ot m r then some (.inl ((),())) else some (.inr ((false,()),())):=by
 intro m
 induction m with
 |zero=>
  intro r i n hr hm hi hn
  obtain ⟨n,rfl⟩:∃ k,n=k+1:=⟨n - 1,by omega⟩
  have:r= []:=List.length_eq_zero_iff.1 (by omega)
  subst this
  have hlen:l.length≤i:=by simpa using hr
  simp only [wa,len,aD (show (l.length:Int)≤i by omega),cond_false]
  rfl
 |succ m ih=>
  intro r i n hr hm hi hn
  obtain ⟨n,rfl⟩:∃ k,n=k+1:=⟨n - 1,by omega⟩
  cases r with
  |nil=>
   have hlen:l.length≤i:=by simpa using hr
   simp only [wa,len,aD (show (l.length:Int)≤i by omega),cond_false]
   rfl
  |cons c r=>
   have hlen:l.length=i+(r.length+1):=by
    have:=congrArg List.length hr
    simp at this;omega
   have hs:=EN (c::r)
   simp only [List.length_cons] at hs hm
   simp only [wa,len,az (show (i:Int)<l.length by omega),cond_true,Kp (n+1) l i (by omega) (by omega) (by omega),hr,Option.bind_some,Ot]
   rcases Bool.eq_false_or_eq_true (Nat.beq (dw (c::r)) 0) with hz |hz
   ·have:=Nat.eq_of_beq_eq_true hz
    simp only [this];rfl
   ·have hne:dw (c::r)≠0:=fun h=>by rw [h] at hz;cases hz
    have z:(((dw (c::r):Nat):Int)==0)=false:=by rw [beq_eq_false_iff_ne];omega
    have w:IntKind.wrap .i64 ((i:Int)+((dw (c::r):Nat):Int))=((i+dw (c::r):Nat):Int):=by rw [ae]<;>omega
    simp only [z,hz,cond_false,w]
    exact ih _ _ n (by rw [←List.drop_drop,hr]) (by simp;omega) (by omega) (by omega)
theorem Ru (l:List Int) (hl:l.length<100000000):∀ (m:Nat) (r:List Int) (i n:Nat),l.drop i=r→r.length≤m→i≤l.length→m+40≤n→∃ y,zc n (i:Int) l (i:Int) l=some y∧(y.2.2.2.1.1==len l)=Ot m r:=by
 intro m
 induction m with
 |zero=>
  intro r i n hr hm hi hn
  obtain ⟨n,rfl⟩:∃ k,n=k+1:=⟨n - 1,by omega⟩
  have:r= []:=List.length_eq_zero_iff.1 (by omega)
  subst this
  have hlen:l.length≤i:=by simpa using hr
  have e0:(Int.toNat (i:Int))=i:=rfl
  have hs:dw []=0:=by unfold dw;rfl
  have hd0:List.take (l.length - i) (List.drop i l)= []:=(SV l i).trans hr
  simp only [zc,len,ak (show (0:Int)≤i by omega),ak (show (i:Int)≤l.length by omega),Bool.and_self,cond_true,e0,hd0,yz (n+1) [] (by omega) (by simp),Option.bind_some,hs]
  refine ⟨_,rfl,?_⟩
  show ((i:Int)==(l.length:Int))=true
  rw [beq_iff_eq];omega
 |succ m ih=>
  intro r i n hr hm hi hn
  obtain ⟨n,rfl⟩:∃ k,n=k+1:=⟨n - 1,by omega⟩
  have e0:(Int.toNat (i:Int))=i:=rfl
  have hrl:r.length≤l.length:=by rw [←hr];simp
  have hs:=EN r
  have hd0:List.take (l.length - i) (List.drop i l)=r:=(SV l i).trans hr
  simp only [zc,len,ak (show (0:Int)≤i by omega),ak (show (i:Int)≤l.length by omega),Bool.and_self,cond_true,e0,hd0,yz (n+1) r (by omega) (by omega),Option.bind_some]
  cases r with
  |nil=>
   have hlen:l.length≤i:=by simpa using hr
   have hs:dw []=0:=by unfold dw;rfl
   rw [hs]
   refine ⟨_,rfl,?_⟩
   show ((i:Int)==(l.length:Int))=true
   rw [beq_iff_eq];omega
  |cons c r=>
   have hlen:l.length=i+(r.length+1):=by
    have:=congrArg List.length hr
    simp at this;omega
   simp only [List.length_cons] at hs hm
   simp only [Ot]
   cases hz:Nat.beq (dw (c::r)) 0 with
   |true=>
    have:=Nat.eq_of_beq_eq_true hz
    rw [this]
    refine ⟨_,rfl,?_⟩
    show ((i:Int)==(l.length:Int))=false
    rw [beq_eq_false_iff_ne];omega
   |false=>
    have hne:dw (c::r)≠0:=fun h=>by rw [h] at hz;cases hz
    have z:(((dw (c::r):Nat):Int)==0)=false:=by rw [beq_eq_false_iff_ne];omega
    have w:IntKind.wrap .i64 ((i:Int)+((dw (c::r):Nat):Int))=((i+dw (c::r):Nat):Int):=by rw [ae]<;>omega
    have hx:l[i]? =some c:=by have:=dJ hr 0;simpa using this
    simp only [z,cond_false,w,hx,Option.bind_some]
    exact ih _ _ n (by rw [←List.drop_drop,hr]) (by simp;omega) (by omega) (by omega)
theorem Q2 (tag:List UInt8) (ht:tag.length<10000000):∀ (r:List UInt8) (i n:Nat) (o:List Int),tag.drop i=r→r.length+1≤n→i≤tag.length→o.length+r.length<10000000→yS n o tag (len tag) (i:Int)=some ((o++r.map ub,()),()):=by
 intro r
 induction r with
 |nil=>
  intro i n o hr hn hi ho
  obtain ⟨n,rfl⟩:∃ k,n=k+1:=⟨n - 1,by omega⟩
  have hlen:tag.length≤i:=by simpa using hr
  simp only [yS,len,aD (show (tag.length:Int)≤i by omega),cond_false,List.map_nil,List.append_nil]
 |cons x r ih=>
  intro i n o hr hn hi ho
  obtain ⟨n,rfl⟩:∃ k,n=k+1:=⟨n - 1,by omega⟩
  have hlen:tag.length=i+(r.length+1):=by
   have:=congrArg List.length hr
   simp at this;omega
  have hx:tag[i]? =some x:=by have:=dJ hr 0;simpa using this
  have hr2:tag.drop (i+1)=r:=by rw [←List.drop_drop,hr];rfl
  have w:IntKind.wrap .i64 ((i:Int)+1)=((i+1:Nat):Int):=by rw [ae]<;>omega
  have e0:(Int.toNat (i:Int))=i:=rfl
  simp only [List.length_cons] at hn ho
  simp only [yS,len,az (show (i:Int)<tag.length by omega),ak (show (0:Int)≤i by omega),cond_true,e0,hx,Option.bind_some,fR,w,List.length_cons,List.length_nil,dM (show (o.length+(0+1))*9≤1099511627776 by omega)]
  have:=ih (i+1) n (o++ [ub x]) hr2 (by omega) (by omega) (by simp;omega)
  simp only [len] at this
  rw [this]
  simp
def hM (tag:List UInt8):Bool:= !tag.isEmpty &&Ot tag.length (tag.map ub)
theorem Gt (n:Nat) (tag:List UInt8) (ht:tag.length<1000000) (hn:tag.length+60≤n):valid n tag=some (hM tag,()):=by
 unfold valid
 rw [show (0:Int)=((0:Nat):Int) from rfl,Q2 tag (by omega) tag 0 (n+5) [] rfl (by omega) (by omega) (by simp;omega)]
 simp only [Option.bind_some,List.nil_append]
 cases tag with
 |nil=>rfl
 |cons a r=>
  obtain ⟨y,h1,h3⟩:=Ru ((a::r).map ub) (by simp at ht ⊢;omega) (a::r).length ((a::r).map ub) 0 n rfl (by simp) (by omega) (by omega)
  have:Go.Iv.aO ((0:Nat):Int) (len ((a::r).map ub))=true:=az (by simp only [len,List.length_map,List.length_cons];omega)
  rw [this,cond_true,h1]
  simp only [Option.bind_some]
  rw [h3]
  rfl
theorem tD (n:Nat) (b:List UInt8) (hb:b.length<4194304) (hn:b.length+12≤n):BW n b=some (match d8 b.length b with
  |some xs=>(xs,(true,()))
  |none=>([],(false,()))):=by
 unfold BW
 rw [BX n b hb hn]
 cases d8 b.length b<;>rfl
theorem Rm:∀ (m:Nat) (b:List UInt8) (xs:List Int),d8 m b=some xs→xs.length≤b.length:=by
 intro m
 induction m with
 |zero=>intro b xs h;cases b with
  |nil=>cases h;simp
  |cons=>cases h
 |succ m ih=>
  intro b xs h
  cases b with
  |nil=>cases h;simp
  |cons a r=>
   unfold d8 at h
   split at h
   ·cases h
   ·rename_i c k hp
    obtain ⟨k1,k2,k3,k4,k5⟩:=Nh hp
    cases hd:d8 m ((a::r).drop k) with
    |none=>rw [hd] at h;cases h
    |some ys=>
     rw [hd] at h;cases h
     have:=ih _ _ hd
     simp only [List.length_drop,List.length_cons] at this ⊢
     simp only [List.length_cons] at k3
     omega
def jv (tag:List UInt8):Bool:=match d8 tag.length tag with
 |some xs=> !xs.isEmpty &&Ot xs.length xs
 |none=>false
theorem Dt (n:Nat) (tag:List UInt8) (ht:tag.length<1000000) (hn:tag.length+60≤n):tZ n tag=some (jv tag,()):=by
 unfold tZ jv
 rw [tD n tag (by omega) (by omega)]
 simp only [Option.bind_some]
 cases hd:d8 tag.length tag with
 |none=>rfl
 |some xs=>
  have hl:=Rm _ _ _ hd
  simp only [Bool.not_true,cond_false,Option.bind_some]
  cases xs with
  |nil=>rfl
  |cons c r=>
   have z:(len (c::r)==(0:Int))=false:=by rw [beq_eq_false_iff_ne];simp only [len,List.length_cons];omega
   rw [z,cond_false,show (0:Int)=((0:Nat):Int) from rfl,QM (c::r) (by omega) (c::r).length (c::r) 0 (n+1) rfl (Nat.le_refl _) (by omega) (by omega)]
   simp only [List.isEmpty_cons,Bool.not_false,Bool.true_and]
   cases Ot (c::r).length (c::r)<;>rfl
end Go.Proofs.YtnddpppljnjmcaaGreatDoor
/- Tags and texts: the program's way and the document's are one. -/
namespace Go.Proofs.YtnddpppljnjmcaaGreatDoor
open Go Go.Iv Go.Gv
set_option maxRecDepth 200000
theorem QI {c:Int} (h:CL sg c=true):0≤c∧c<128:=by
 unfold CL at h
 rw [List.any_eq_true] at h
 obtain ⟨x,hx,he⟩:=h
 have e:=eq_of_beq he
 have:∀ x∈sg,x.toNat<128:=by decide
 have:=this x hx
 have:ub x=(x.toNat:Int):=rfl
 omega
theorem LZ:∀ (m:Nat) (l:List Int),Ot m l=true→∀ c∈l,0≤c∧c<128:=by
 intro m
 induction m with
 |zero=>intro l h c hc;cases l with
  |nil=>cases hc
  |cons=>cases h
 |succ m ih=>
  intro l h c hc
  cases l with
  |nil=>cases hc
  |cons x r=>
   unfold Ot at h
   simp only [dw] at h
   by_cases h37:x=37
   ·simp only [if_pos h37] at h
    match r,h,hc with
    | [],h,hc=>cases h
    | [a],h,hc=>cases h
    |a::b::r,h,hc=>
     cases h1:pM a with
     |false=>simp [h1] at h
     |true=>
      cases h2:pM b with
      |false=>simp [h1,h2] at h
      |true=>
       have h:=h
       simp [h1,h2] at h
       have q1:=of_decide_eq_true h1
       have q2:=of_decide_eq_true h2
       rcases List.mem_cons.1 hc with e |hc
       ·omega
       rcases List.mem_cons.1 hc with e |hc
       ·omega
       rcases List.mem_cons.1 hc with e |hc
       ·omega
       exact ih r h.2 c hc
   ·simp only [if_neg h37] at h
    cases hw:l5 x with
    |true=>
     simp [hw] at h
     have q:=of_decide_eq_true hw
     rcases List.mem_cons.1 hc with e |hc
     ·omega
     ·exact ih r h.2 c hc
    |false=>
     cases ha:CL sg x with
     |false=>simp [hw,ha] at h
     |true=>
      simp [hw,ha] at h
      have q:=QI ha
      rcases List.mem_cons.1 hc with e |hc
      ·omega
      ·exact ih r h.2 c hc
theorem MV {a:UInt8} {r:List UInt8} {c:Int} {k:Nat} (h:pt (a::r)=some (c,k)) (hc:c<128∨k=1):ub a<128∧c=ub a∧k=1:=by
 have ha:=gV a
 have hp:=pt.eq_def (a::r)
 dsimp only at hp
 rw [hp] at h
 split at h
 ·rename_i q;cases h;exact ⟨q,rfl,rfl⟩
 split at h
 ·cases h
 split at h
 ·split at h
  ·rename_i b s
   have:=gV b
   split at h
   ·cases h;unfold v2 at hc;omega
   ·cases h
  ·cases h
 split at h
 ·split at h
  ·split at h
   ·rename_i hh;cases h;have:=hh.2.2.1;omega
   ·cases h
  ·cases h
 split at h
 ·split at h
  ·split at h
   ·rename_i hh;cases h;have:=hh.2.2.2.1;omega
   ·cases h
  ·cases h
 ·cases h
theorem L9:∀ (m:Nat) (l:List UInt8),l.length≤m→(∀ x∈l,ub x<128)→d8 m l=some (l.map ub):=by
 intro m
 induction m with
 |zero=>intro l hl h;cases l with
  |nil=>rfl
  |cons=>simp at hl
 |succ m ih=>
  intro l hl h
  cases l with
  |nil=>rfl
  |cons a r=>
   have hp:pt (a::r)=some (ub a,1):=by unfold pt;rw [if_pos (h a (List.mem_cons_self ..))]
   unfold d8
   rw [hp]
   simp only [List.drop_succ_cons,List.drop_zero]
   rw [ih r (by simp at hl;omega) (fun x hx=>h x (List.mem_cons_of_mem _ hx))]
   rfl
theorem Q3:∀ (m:Nat) (l:List UInt8) (xs:List Int),d8 m l=some xs→(∀ c∈xs,c<128)→∀ x∈l,ub x<128:=by
 intro m
 induction m with
 |zero=>intro l xs h _ x hx;cases l with
  |nil=>cases hx
  |cons=>cases h
 |succ m ih=>
  intro l xs h hc x hx
  cases l with
  |nil=>cases hx
  |cons a r=>
   unfold d8 at h
   split at h
   ·cases h
   ·rename_i c k hp
    cases hd:d8 m ((a::r).drop k) with
    |none=>rw [hd] at h;cases h
    |some ys=>
     rw [hd] at h;cases h
     obtain ⟨q1,q2,rfl⟩:=MV hp (.inl (hc c (List.mem_cons_self ..)))
     rcases List.mem_cons.1 hx with e |hx
     ·rw [e];exact q1
     ·exact ih r ys hd (fun c hc'=>hc c (List.mem_cons_of_mem _ hc')) x hx
theorem MK (tag:List UInt8):hM tag=jv tag:=by
 by_cases h:∀ x∈tag,ub x<128
 ·unfold hM jv
  rw [L9 tag.length tag (Nat.le_refl _) h]
  simp
 ·have e1:hM tag=false:=by
   cases hv:hM tag with
   |false=>rfl
   |true=>
    unfold hM at hv
    have:=LZ _ _ (Go.Gv.and_true hv).2
    exact absurd (fun x hx=>(this (ub x) (List.mem_map.2 ⟨x,hx,rfl⟩)).2) h
  have e2:jv tag=false:=by
   cases hv:jv tag with
   |false=>rfl
   |true=>
    unfold jv at hv
    split at hv
    ·rename_i xs hd
     have:=LZ _ _ (Go.Gv.and_true hv).2
     exact absurd (Q3 _ _ _ hd fun c hc=>(this c hc).2) h
    ·cases hv
  rw [e1,e2]
def QS:Option (Int×Nat)→Nat×Nat
 |some (c,k)=>(c.toNat,k)
 |none=>(65533,1)
set_option maxHeartbeats 4000000 in
theorem QB (a:UInt8) (r:List UInt8):Go.Lib.decodeL (a::r)=QS (pt (a::r)):=by
 rw [Go.Lib.decodeL_N]
 have ha:=a.toNat_lt
 have u:∀ x:UInt8,ub x=(x.toNat:Int):=fun _=>rfl
 have fin:∀ {x y:Nat} {k:Nat},x=y→((x,k):Nat×Nat)=(y,k):=fun h=>by rw [h]
 match r with
 | []=>
  show Go.Lib.decodeN 1 a.toNat 0 0 0=_
  unfold Go.Lib.decodeN
  by_cases h1:a.toNat<128
  ·have e1:pt [a]=some (ub a,1):=by unfold pt;rw [if_pos (by rw [u];omega)]
   rw [if_pos h1,e1]
   rfl
  ·have e1:pt [a]=none:=by
    unfold pt
    rw [if_neg (by rw [u];omega)]
    repeat' split
    all_goals first |rfl |contradiction
   rw [if_neg h1,if_neg (by omega),if_neg (by omega),if_neg (by omega),e1]
   simp only [QS]
 | [b]=>
  have hb:=b.toNat_lt
  show Go.Lib.decodeN 2 a.toNat b.toNat 0 0=_
  have hp:=pt.eq_def (a:: [b])
  dsimp only at hp
  rw [hp]
  clear hp
  simp only [u,cont,v2,apply_ite QS]
  unfold Go.Lib.decodeN
  repeat' split
  all_goals first
   |(exfalso;omega)
   |exact fin (by omega)
   |rfl
 | [b,c]=>
  have hb:=b.toNat_lt
  have hc:=c.toNat_lt
  show Go.Lib.decodeN 3 a.toNat b.toNat c.toNat 0=_
  have hp:=pt.eq_def (a:: [b,c])
  dsimp only at hp
  rw [hp]
  clear hp
  simp only [u,cont,v2,v3,JT,decide_eq_true_eq,apply_ite QS]
  unfold Go.Lib.decodeN
  repeat' split
  all_goals first
   |(exfalso;omega)
   |exact fin (by omega)
   |rfl
 |b::c::d::s=>
  have hb:=b.toNat_lt
  have hc:=c.toNat_lt
  have hd:=d.toNat_lt
  show Go.Lib.decodeN (s.length+4) a.toNat b.toNat c.toNat d.toNat=_
  have hp:=pt.eq_def (a::b::c::d::s)
  dsimp only at hp
  rw [hp]
  clear hp
  simp only [u,cont,v2,v3,v4,JT,decide_eq_true_eq,apply_ite QS]
  unfold Go.Lib.decodeN
  repeat' split
  all_goals first
   |(exfalso;omega)
   |exact fin (by omega)
   |rfl
theorem JA:∀ (m:Nat) (l:List UInt8),l.length≤m→Go.Lib.validD l=(d8 m l).isSome:=by
 intro m
 induction m with
 |zero=>intro l hl;cases l with
  |nil=>rfl
  |cons=>simp at hl
 |succ m ih=>
  intro l hl
  cases l with
  |nil=>rfl
  |cons a r=>
   rw [Go.Lib.validD_step _ (by simp),QB a r]
   unfold d8
   cases hp:pt (a::r) with
   |none=>rfl
   |some q=>
    obtain ⟨c,k⟩:=q
    obtain ⟨k1,k2,k3,k4,k5⟩:=Nh hp
    have hq:¬ ((QS (some (c,k))).1=65533∧(QS (some (c,k))).2=1):=fun h=>by
     have h1:c.toNat=65533:=h.1
     have h2:k=1:=h.2
     obtain ⟨q1,q2,_⟩:=MV hp (.inr h2)
     omega
    rw [if_neg hq]
    show Go.Lib.validD ((a::r).drop k)=_
    simp only [List.length_cons] at k3 hl
    rw [ih ((a::r).drop k) (by simp;omega)]
    dsimp only
    cases d8 m ((a::r).drop k)<;>rfl
def zE (s:List UInt8):Bool:=decide (s.length≤262144) &&(d8 s.length s).isSome
theorem DG (n:Nat) (s:List UInt8) (hs:s.length<4194304):wC n s=some (zE s,()):=by
 unfold wC zE
 rw [db]
 by_cases h:s.length≤262144
 ·rw [decide_eq_true (show len s≤262144 by simp only [len];omega),decide_eq_true h,cond_true]
  have:Nat.ble (List.length s) 9223372036854775807=true:=by rw [Nat.ble_eq];omega
  rw [this,JA s.length s (Nat.le_refl _)];rfl
 ·rw [decide_eq_false (show ¬ len s≤262144 by simp only [len];omega),decide_eq_false h];rfl
theorem BP (n:Nat) (s:List UInt8) (hs:s.length<4194304) (hn:s.length+12≤n):nq n s=some (zE s,()):=by
 unfold nq zE
 rw [tD n s hs hn,db]
 have:decide (len s≤262144)=decide (s.length≤262144):=by
  rw [decide_eq_decide];simp only [len];omega
 rw [this]
 cases d8 s.length s<;>cases decide (s.length≤262144)<;>rfl
end Go.Proofs.YtnddpppljnjmcaaGreatDoor
/- Which graphs may be: the program's way and the document's are one (of graphs that are not too great). -/
namespace Go.Proofs.YtnddpppljnjmcaaGreatDoor
open Go Go.Iv Go.Gv
set_option maxRecDepth 10000
abbrev aK:=Int×(List UInt8×(List UInt8×(List Int×Bool)))
abbrev bk:=List aK×List Int
def gE (N:Nat) (x:Int):Bool:=decide (0≤x∧x<(N:Int))
theorem SF (N:Nat) (x:Int):(bif Go.Iv.aO x 0 then some Bool.true else some (Go.Iv.aB (N:Int) x))=some (!(gE N x)):=by
 unfold gE
 by_cases h:x<0
 ·rw [az h,decide_eq_false (by omega)];rfl
 ·rw [aD (by omega)]
  by_cases h2:(N:Int)≤x
  ·rw [ak h2,decide_eq_false (by omega)];rfl
  ·rw [gO (by omega),decide_eq_true (by omega)];rfl
theorem M3 (l:List Int) (g1:List aK) (g2:List Int) (hl:l.length<1000000000):∀ (r:List Int) (i n:Nat),l.drop i=r→r.length+1≤n→i≤l.length→
  yy n l (len l) (i:Int) g1 g2=bif r.all (gE g1.length) then some (.inl ((),((g1,(g2,())),()))) else some (.inr ((Bool.false,()),((g1,(g2,())),()))):=by
 intro r
 induction r with
 |nil=>
  intro i n hr hn hi
  obtain ⟨n,rfl⟩:∃ k,n=k+1:=⟨n - 1,by omega⟩
  have hlen:l.length≤i:=by simpa using hr
  simp only [yy,len,aD (show (l.length:Int)≤i by omega),cond_false]
  rfl
 |cons x r ih=>
  intro i n hr hn hi
  obtain ⟨n,rfl⟩:∃ k,n=k+1:=⟨n - 1,by omega⟩
  have hlen:l.length=i+(r.length+1):=by
   have:=congrArg List.length hr
   simp at this;omega
  have hx:l[i]? =some x:=by have:=dJ hr 0;simpa using this
  have hr2:l.drop (i+1)=r:=by rw [←List.drop_drop,hr];rfl
  have w:IntKind.wrap .i64 ((i:Int)+1)=((i+1:Nat):Int):=by rw [ae]<;>omega
  have e0:(Int.toNat (i:Int))=i:=rfl
  have o:=SF g1.length x
  simp only [yy,len,az (show (i:Int)<l.length by omega),ak (show (0:Int)≤i by omega),cond_true,e0,hx,Option.bind_some,w]
  rw [o]
  simp only [List.all_cons,Option.bind_some]
  cases gE g1.length x with
  |false=>rfl
  |true=>
   simp only [Bool.not_true,cond_false,Bool.true_and]
   exact ih (i+1) n hr2 (by simp at hn;omega) (by omega)
theorem E4 (n:Nat) (g1:List aK) (g2 l:List Int) (hl:l.length<1000000000) (hn:l.length+1≤n):RD n (g1,g2) l=some (l.all (gE g1.length),()):=by
 unfold RD
 rw [show (0:Int)=((0:Nat):Int) from rfl,M3 l g1 g2 hl l 0 (n+1) rfl (by omega) (by omega)]
 cases l.all (gE g1.length)<;>rfl
theorem K5 (N:Nat) (k:Int) (a b:List UInt8) (l:List Int) (p:Bool) (hl:l.length<1000000000):∀ (r:List Int) (i n:Nat),l.drop i=r→r.length+1≤n→i≤l.length→
  yg n (N:Int) (i:Int) k a b l p=bif r.all (gE N) then some (.inl (((),()),((k,(a,(b,(l,(p,()))))),()))) else some (.inr ((Bool.false,()),((k,(a,(b,(l,(p,()))))),()))):=by
 intro r
 induction r with
 |nil=>
  intro i n hr hn hi
  obtain ⟨n,rfl⟩:∃ k,n=k+1:=⟨n - 1,by omega⟩
  have hlen:l.length≤i:=by simpa using hr
  simp only [yg,len,aD (show (l.length:Int)≤i by omega),cond_false]
  rfl
 |cons x r ih=>
  intro i n hr hn hi
  obtain ⟨n,rfl⟩:∃ k,n=k+1:=⟨n - 1,by omega⟩
  have hlen:l.length=i+(r.length+1):=by
   have:=congrArg List.length hr
   simp at this;omega
  have hx:l[i]? =some x:=by have:=dJ hr 0;simpa using this
  have hr2:l.drop (i+1)=r:=by rw [←List.drop_drop,hr];rfl
  have w:IntKind.wrap .i64 ((i:Int)+1)=((i+1:Nat):Int):=by rw [ae]<;>omega
  have e0:(Int.toNat (i:Int))=i:=rfl
  have o:=SF N x
  simp only [yg,len,az (show (i:Int)<l.length by omega),ak (show (0:Int)≤i by omega),cond_true,e0,hx,Option.bind_some,w]
  rw [o]
  simp only [List.all_cons,Option.bind_some]
  cases gE N x with
  |false=>rfl
  |true=>
   simp only [Bool.not_true,cond_false,Bool.true_and]
   exact ih (i+1) n hr2 (by simp at hn;omega) (by omega)
theorem GA (N:Nat) (g1:List aK) (l:List Int) (hl:l.length<1000000000):∀ (r:List Int) (i n:Nat),l.drop i=r→r.length+1≤n→i≤l.length→
  qF n (N:Int) (i:Int) g1 l=bif r.all (gE N) then some (.inl ((),((g1,(l,())),()))) else some (.inr ((Bool.false,()),((g1,(l,())),()))):=by
 intro r
 induction r with
 |nil=>
  intro i n hr hn hi
  obtain ⟨n,rfl⟩:∃ k,n=k+1:=⟨n - 1,by omega⟩
  have hlen:l.length≤i:=by simpa using hr
  simp only [qF,len,aD (show (l.length:Int)≤i by omega),cond_false]
  rfl
 |cons x r ih=>
  intro i n hr hn hi
  obtain ⟨n,rfl⟩:∃ k,n=k+1:=⟨n - 1,by omega⟩
  have hlen:l.length=i+(r.length+1):=by
   have:=congrArg List.length hr
   simp at this;omega
  have hx:l[i]? =some x:=by have:=dJ hr 0;simpa using this
  have hr2:l.drop (i+1)=r:=by rw [←List.drop_drop,hr];rfl
  have w:IntKind.wrap .i64 ((i:Int)+1)=((i+1:Nat):Int):=by rw [ae]<;>omega
  have e0:(Int.toNat (i:Int))=i:=rfl
  have o:=SF N x
  simp only [qF,len,az (show (i:Int)<l.length by omega),ak (show (0:Int)≤i by omega),cond_true,e0,hx,Option.bind_some,w]
  rw [o]
  simp only [List.all_cons,Option.bind_some]
  cases gE N x with
  |false=>rfl
  |true=>
   simp only [Bool.not_true,cond_false,Bool.true_and]
   exact ih (i+1) n hr2 (by simp at hn;omega) (by omega)
def HN (x:aK):Bool:=
 bif x.1==(1:Int) then ((len x.2.2.2.1)==(0:Int)) &&zE x.2.2.1
 else bif x.1==(2:Int) then (x.2.2.1==([]:List UInt8)) && !x.2.2.2.2
 else bif x.1==(3:Int) then (x.2.2.1==([]:List UInt8)) &&(!x.2.2.2.2 &&((Int.tmod (len x.2.2.2.1) (2:Int))==(0:Int)))
 else Bool.false
def n7 (x:aK):Bool:= !(Go.Iv.aO (1000:Int) (len x.2.1)) &&(!(x.2.1==([33]:List UInt8)) &&(hM x.2.1 &&HN x))
def NB (x:aK):Prop:=x.2.1.length≤9000∧x.2.2.1.length≤8100∧x.2.2.2.1.length≤400
attribute [local irreducible] valid tZ wC nq hM zE
theorem KG (n:Nat) (x:aK) (hx:NB x) (hn:10000≤n):node n x=some (n7 x,()):=by
 obtain ⟨h1,h2,h3⟩:=hx
 unfold node n7 HN
 rw [Gt n x.2.1 (by omega) (by omega),DG (n+4) x.2.2.1 (by omega)]
 simp only [Option.bind_some]
 cases Go.Iv.aO (1000:Int) (len x.2.1) with
 |true=>rfl
 |false=>
 cases (x.2.1==([33]:List UInt8)) with
 |true=>rfl
 |false=>
 cases hM x.2.1 with
 |false=>rfl
 |true=>
 simp only [cond_false,cond_true,Bool.not_false,Bool.not_true,Bool.true_and]
 cases (x.1==(1:Int)) with
 |true=>cases (len x.2.2.2.1==(0:Int))<;>rfl
 |false=>
 cases (x.1==(2:Int)) with
 |true=>cases (x.2.2.1==([]:List UInt8))<;>rfl
 |false=>
 cases (x.1==(3:Int)) with
 |true=>cases (x.2.2.1==([]:List UInt8))<;>cases x.2.2.2.2<;>rfl
 |false=>rfl
theorem GK (n N:Nat) (x:aK) (hx:NB x) (hn:10000≤n):EB n x (N:Int)=some (n7 x &&x.2.2.2.1.all (gE N),()):=by
 obtain ⟨h1,h2,h3⟩:=hx
 unfold EB n7 HN
 rw [Dt n x.2.1 (by omega) (by omega),←MK,show (0:Int)=((0:Nat):Int) from rfl,K5 N x.1 x.2.1 x.2.2.1 x.2.2.2.1 x.2.2.2.2 (by omega) x.2.2.2.1 0 (n+5) rfl (by omega) (by omega)]
 simp only [Option.bind_some]
 cases hM x.2.1 with
 |false=>cases Go.Iv.aO (1000:Int) (len x.2.1)<;>cases (x.2.1==([33]:List UInt8))<;>rfl
 |true=>
 cases (x.2.1==([33]:List UInt8)) with
 |true=>cases Go.Iv.aO (1000:Int) (len x.2.1)<;>rfl
 |false=>
 cases Go.Iv.aO (1000:Int) (len x.2.1) with
 |true=>rfl
 |false=>
 simp only [cond_false,cond_true,Bool.not_false,Bool.not_true,Bool.true_and]
 cases x.2.2.2.1.all (gE N) with
 |false=>simp only [Bool.and_false];rfl
 |true=>
 simp only [cond_true,Option.bind_some,Bool.and_true]
 rw [BP n x.2.2.1 (by omega) (by omega)]
 cases (x.1==(1:Int)) with
 |true=>cases (len x.2.2.2.1==((0:Nat):Int))<;>rfl
 |false=>
 cases (x.1==(2:Int)) with
 |true=>cases (x.2.2.1==([]:List UInt8))<;>rfl
 |false=>
 cases (x.1==(3:Int)) with
 |true=>cases (x.2.2.1==([]:List UInt8))<;>cases x.2.2.2.2<;>rfl
 |false=>rfl
def Ef:List aK→Nat
 | []=>0
 |x::r=>x.2.2.2.1.length+Ef r
def uD (N:Nat) (x:aK):Bool:=n7 x &&x.2.2.2.1.all (gE N)
attribute [local irreducible] node EB n7 RD
theorem Ho (g1:List aK) (g2:List Int) (hl:g1.length<1000) (hb:∀ x∈g1,NB x):∀ (r:List aK) (i n s:Nat),g1.drop i=r→r.length+10000≤n→i≤g1.length→s+Ef r≤20000→
  zZ n (s:Int) g1 (len g1) (i:Int) g1 g2=bif r.all (uD g1.length) then some (.inl ((),((g1,(g2,())),()))) else some (.inr ((Bool.false,()),((g1,(g2,())),()))):=by
 intro r
 induction r with
 |nil=>
  intro i n s hr hn hi hs
  obtain ⟨n,rfl⟩:∃ k,n=k+1:=⟨n - 1,by omega⟩
  have hlen:g1.length≤i:=by simpa using hr
  simp only [zZ,len,aD (show (g1.length:Int)≤i by omega),cond_false]
  rfl
 |cons x r ih=>
  intro i n s hr hn hi hs
  obtain ⟨n,rfl⟩:∃ k,n=k+1:=⟨n - 1,by omega⟩
  have hlen:g1.length=i+(r.length+1):=by
   have:=congrArg List.length hr
   simp at this;omega
  have hx:g1[i]? =some x:=by have:=dJ hr 0;simpa using this
  have hxb:NB x:=hb x (List.mem_of_getElem? hx)
  have hr2:g1.drop (i+1)=r:=by rw [←List.drop_drop,hr];rfl
  have w:IntKind.wrap .i64 ((i:Int)+1)=((i+1:Nat):Int):=by rw [ae]<;>omega
  simp only [Ef] at hs
  simp only [List.length_cons] at hn
  have w2:IntKind.wrap .i64 ((s:Int)+(x.2.2.2.1.length:Int))=((s+x.2.2.2.1.length:Nat):Int):=by rw [ae]<;>omega
  have e0:(Int.toNat (i:Int))=i:=rfl
  have hk:=hxb.2.2
  simp only [zZ,len,az (show (i:Int)<g1.length by omega),ak (show (0:Int)≤i by omega),cond_true,e0,hx,Option.bind_some,w,w2,aD (show ((s+x.2.2.2.1.length:Nat):Int)≤20000 by omega),cond_false]
  rw [KG (n+1) _ hxb (by omega),E4 (n+6) g1 g2 x.2.2.2.1 (by omega) (by omega)]
  simp only [Option.bind_some,List.all_cons,uD]
  cases n7 x with
  |false=>rfl
  |true=>
   cases x.2.2.2.1.all (gE g1.length) with
   |false=>rfl
   |true=>
    simp only [Bool.not_true,cond_false,Bool.true_and]
    exact ih (i+1) n _ hr2 (by omega) (by omega) (by omega)
theorem Fo (g1:List aK) (g2:List Int) (hl:g1.length<1000) (hb:∀ x∈g1,NB x):∀ (r:List aK) (i n s:Nat),g1.drop i=r→r.length+10000≤n→i≤g1.length→s+Ef r≤20000→
  zp n (g1.length:Int) (s:Int) (i:Int) g1 g2=bif r.all (uD g1.length) then some (.inl (((),((g1.length:Int),())),((g1,(g2,())),()))) else some (.inr ((Bool.false,()),((g1,(g2,())),()))):=by
 intro r
 induction r with
 |nil=>
  intro i n s hr hn hi hs
  obtain ⟨n,rfl⟩:∃ k,n=k+1:=⟨n - 1,by omega⟩
  have hlen:g1.length≤i:=by simpa using hr
  simp only [zp,aD (show (g1.length:Int)≤i by omega),cond_false]
  rfl
 |cons x r ih=>
  intro i n s hr hn hi hs
  obtain ⟨n,rfl⟩:∃ k,n=k+1:=⟨n - 1,by omega⟩
  have hlen:g1.length=i+(r.length+1):=by
   have:=congrArg List.length hr
   simp at this;omega
  have hx:g1[i]? =some x:=by have:=dJ hr 0;simpa using this
  have hxb:NB x:=hb x (List.mem_of_getElem? hx)
  have hr2:g1.drop (i+1)=r:=by rw [←List.drop_drop,hr];rfl
  have w:IntKind.wrap .i64 ((i:Int)+1)=((i+1:Nat):Int):=by rw [ae]<;>omega
  simp only [Ef] at hs
  simp only [List.length_cons] at hn
  have w2:IntKind.wrap .i64 ((s:Int)+(x.2.2.2.1.length:Int))=((s+x.2.2.2.1.length:Nat):Int):=by rw [ae]<;>omega
  have e0:(Int.toNat (i:Int))=i:=rfl
  simp only [zp,len,az (show (i:Int)<g1.length by omega),ak (show (0:Int)≤i by omega),cond_true,e0,hx,Option.bind_some,w,w2,aD (show ((s+x.2.2.2.1.length:Nat):Int)≤20000 by omega),cond_false]
  rw [GK (n+1) g1.length _ hxb (by omega)]
  simp only [Option.bind_some,List.all_cons,uD]
  cases (n7 x &&x.2.2.2.1.all (gE g1.length)) with
  |false=>rfl
  |true=>
   simp only [Bool.not_true,cond_false,Bool.true_and]
   exact ih (i+1) n _ hr2 (by omega) (by omega) (by omega)
def eI (g:bk):Bool:=g.2.all (gE g.1.length) &&g.1.all (uD g.1.length)
structure GB (g:bk):Prop where
 n:g.1.length≤60
 r:g.2.length≤20
 b:∀ x∈g.1,NB x
 k:Ef g.1≤400
theorem tn (n:Nat) (g:bk) (hg:GB g) (hn:20000≤n):right n g=some (eI g,()):=by
 have h1:=hg.n
 have h2:=hg.r
 have h3:=hg.k
 obtain ⟨g1,g2⟩:=g
 simp only at h1 h2 h3
 unfold right eI
 simp only [len,aD (show (g1.length:Int)≤20000 by omega),aD (show (g2.length:Int)≤20000 by omega),cond_false]
 rw [E4 (n+5) g1 g2 g2 (by omega) (by omega)]
 simp only [Option.bind_some]
 have:=Ho g1 g2 (by omega) hg.b g1 0 n 0 rfl (by omega) (by omega) (by omega)
 simp only [len,Int.natCast_zero] at this
 rw [this]
 cases g2.all (gE g1.length)<;>cases g1.all (uD g1.length)<;>rfl
theorem oR (n:Nat) (g:bk) (hg:GB g) (hn:20000≤n):wJ n g=some (eI g,()):=by
 have h1:=hg.n
 have h2:=hg.r
 have h3:=hg.k
 obtain ⟨g1,g2⟩:=g
 simp only at h1 h2 h3
 unfold wJ eI
 simp only [len,aD (show (g1.length:Int)≤20000 by omega),aD (show (g2.length:Int)≤20000 by omega),cond_false,Option.bind_some]
 have:=Fo g1 g2 (by omega) hg.b g1 0 n 0 rfl (by omega) (by omega) (by omega)
 simp only [Int.natCast_zero] at this
 rw [this]
 have q:=GA g1.length g1 g2 (by omega) g2 0 (n+6) rfl (by omega) (by omega)
 simp only [Int.natCast_zero] at q
 cases g1.all (uD g1.length) with
 |false=>simp only [Bool.and_false];rfl
 |true=>
  simp only [cond_true,Option.bind_some]
  rw [q]
  cases g2.all (gE g1.length)<;>rfl
def wt (x:aK):Nat:=x.2.2.2.1.length+x.2.2.1.length / 20+x.2.1.length / 20
def wH:List aK→Nat
 | []=>0
 |x::r=>wt x+wH r
def SB (x:aK):Prop:=x.2.1.length≤281474976710656∧x.2.2.1.length≤281474976710656∧x.2.2.2.1.length≤281474976710656
theorem RU {x:aK} (h:SB x):wt x≤900000000000000:=by
 obtain ⟨h1,h2,h3⟩:=h
 unfold wt;omega
theorem TC (k:Nat):Int.tdiv (k:Int) 20=((k / 20:Nat):Int):=by
 rw [Int.tdiv_eq_ediv_of_nonneg (by omega)];omega
theorem L4 (g1:List aK) (g2:List Int) (hb:∀ x∈g1,SB x) (hlen:g1.length<1000000000000000000):∀ (m:Nat) (r:List aK) (i n s:Nat),g1.drop i=r→i≤100→100 - i=m→m+2≤n→i≤g1.length→s≤900000000000000*i→
  FP n (s:Int) (i:Int) g1 g2=some (((),(((s+wH (r.take m):Nat):Int),())),((g1,(g2,())),())):=by
 intro m
 induction m with
 |zero=>
  intro r i n s hr hi hm hn hi2 hs
  obtain ⟨n,rfl⟩:∃ k,n=k+1:=⟨n - 1,by omega⟩
  have:i=100:=by omega
  subst this
  simp only [FP,aD (show (100:Int)≤((100:Nat):Int) by omega),List.take_zero,wH,Nat.add_zero]
  cases Go.Iv.aO ((100:Nat):Int) (len g1)<;>rfl
 |succ m ih=>
  intro r i n s hr hi hm hn hi2 hs
  obtain ⟨n,rfl⟩:∃ k,n=k+1:=⟨n - 1,by omega⟩
  cases r with
  |nil=>
   have hl:g1.length≤i:=by simpa using hr
   simp only [FP,len,aD (show (g1.length:Int)≤i by omega),cond_false,Option.bind_some,List.take_nil,wH,Nat.add_zero]
  |cons x r=>
   have hlen:g1.length=i+(r.length+1):=by
    have:=congrArg List.length hr
    simp at this;omega
   have hx:g1[i]? =some x:=by have:=dJ hr 0;simpa using this
   have hxb:SB x:=hb x (List.mem_of_getElem? hx)
   have hr2:g1.drop (i+1)=r:=by rw [←List.drop_drop,hr];rfl
   have w:IntKind.wrap .i64 ((i:Int)+1)=((i+1:Nat):Int):=by rw [ae]<;>omega
   have e0:(Int.toNat (i:Int))=i:=rfl
   have hw:=RU hxb
   obtain ⟨q1,q2,q3⟩:=hxb
   have a1:IntKind.wrap .i64 ((s:Int)+(x.2.2.2.1.length:Int))=((s+x.2.2.2.1.length:Nat):Int):=by rw [ae]<;>omega
   have a2:IntKind.wrap .i64 ((x.2.2.1.length / 20:Nat):Int)=((x.2.2.1.length / 20:Nat):Int):=by rw [ae]<;>omega
   have a3:IntKind.wrap .i64 ((x.2.1.length / 20:Nat):Int)=((x.2.1.length / 20:Nat):Int):=by rw [ae]<;>omega
   have a4:IntKind.wrap .i64 (((s+x.2.2.2.1.length:Nat):Int)+((x.2.2.1.length / 20:Nat):Int))=((s+x.2.2.2.1.length+x.2.2.1.length / 20:Nat):Int):=by rw [ae]<;>omega
   have a5:IntKind.wrap .i64 (((s+x.2.2.2.1.length+x.2.2.1.length / 20:Nat):Int)+((x.2.1.length / 20:Nat):Int))=((s+wt x:Nat):Int):=by unfold wt;rw [ae]<;>omega
   simp only [FP,len,az (show (i:Int)<g1.length by omega),az (show (i:Int)<100 by omega),ak (show (0:Int)≤i by omega),cond_true,e0,hx,Option.bind_some,w,TC,a1,a2,a3,a4,a5]
   rw [ih r (i+1) n (s+wt x) hr2 (by omega) (by omega) (by omega) (by omega) (by omega)]
   simp only [List.take_succ_cons,wH,Nat.add_assoc]
def ON (g:bk):Bool:=decide (60<g.1.length∨20<g.2.length∨400<wH (g.1.take 100))
theorem Mi (n:Nat) (g:bk) (hb:∀ x∈g.1,SB x) (h1:g.1.length<1000000000000000000) (hn:200≤n):Ss n g=some (ON g,()):=by
 obtain ⟨g1,g2⟩:=g
 simp only at hb h1
 unfold Ss ON
 have:=L4 g1 g2 hb h1 100 g1 0 (n+1) 0 rfl (by omega) rfl (by omega) (by omega) (by omega)
 simp only [Int.natCast_zero,Nat.zero_add] at this
 rw [this]
 simp only [Option.bind_some,len]
 by_cases q1:60<g1.length
 ·rw [az (by omega),decide_eq_true (.inl q1)];rfl
 rw [aD (by omega)]
 by_cases q2:20<g2.length
 ·rw [az (by omega),decide_eq_true (.inr (.inl q2))];rfl
 rw [aD (by omega)]
 by_cases q3:400<wH (g1.take 100)
 ·rw [az (by omega),decide_eq_true (.inr (.inr q3))];rfl
 ·rw [aD (by omega),decide_eq_false (by omega)];rfl
theorem Mj:∀ {l:List aK} {x:aK},x∈l→wt x≤wH l:=by
 intro l
 induction l with
 |nil=>intro x h;cases h
 |cons y r ih=>
  intro x h
  simp only [wH]
  rcases List.mem_cons.1 h with e |h
  ·rw [e];omega
  ·have:=ih h;omega
theorem OH:∀ l:List aK,Ef l≤wH l:=by
 intro l
 induction l with
 |nil=>exact Nat.le_refl _
 |cons y r ih=>simp only [wH,Ef,wt];omega
theorem GB.of {g:bk} (h:ON g=false):GB g:=by
 have h:=of_decide_eq_false h
 have h1:g.1.length≤60:=by omega
 have ht:g.1.take 100=g.1:=List.take_of_length_le (by omega)
 rw [ht] at h
 refine ⟨h1,by omega,fun x hx=>?_,?_⟩
 ·have:=Mj hx
  unfold wt at this
  exact ⟨by omega,by omega,by omega⟩
 ·have:=OH g.1;omega
end Go.Proofs.YtnddpppljnjmcaaGreatDoor
/- Plain functions for the program's. -/
namespace Go.Proofs.YtnddpppljnjmcaaGreatDoor
open Go Go.Iv Go.Gv
set_option maxRecDepth 100000
set_option linter.unusedVariables false
noncomputable def EP (_n:Nat) (x:(Bool×(List UInt8×(Int×Int)))):Option ((List UInt8)×Unit):=
 bif x.1 then
 bif (x.2.2.2==1) then
  some ((([45]:List UInt8)++([46,105,110,102]:List UInt8)),())
 else
 bif (x.2.2.2==2) then
  some (([46,110,97,110]:List UInt8),())
 else
 bif (x.2.2.1 !=0) then
  bif (room ((List.length ([45]:List UInt8))+(List.length x.2.1))) then
  bif (room ((List.length (([45]:List UInt8)++x.2.1))+(List.length ([101]:List UInt8)))) then
  bif (j8 x.2.2.1) then
  bif (room ((List.length ((([45]:List UInt8)++x.2.1)++([101]:List UInt8)))+(List.length (Go.Lib.itoa x.2.2.1)))) then
  some ((((([45]:List UInt8)++x.2.1)++([101]:List UInt8))++(Go.Lib.itoa x.2.2.1)),())
  else none
  else none
  else none
  else none
 else
 bif (room ((List.length ([45]:List UInt8))+(List.length x.2.1))) then
 some ((([45]:List UInt8)++x.2.1),())
 else none
 else
 bif (x.2.2.2==1) then
 some ((([]:List UInt8)++([46,105,110,102]:List UInt8)),())
 else
 bif (x.2.2.2==2) then
 some (([46,110,97,110]:List UInt8),())
 else
 bif (x.2.2.1 !=0) then
 bif (room ((List.length ([]:List UInt8))+(List.length x.2.1))) then
 bif (room ((List.length (([]:List UInt8)++x.2.1))+(List.length ([101]:List UInt8)))) then
 bif (j8 x.2.2.1) then
 bif (room ((List.length ((([]:List UInt8)++x.2.1)++([101]:List UInt8)))+(List.length (Go.Lib.itoa x.2.2.1)))) then
 some ((((([]:List UInt8)++x.2.1)++([101]:List UInt8))++(Go.Lib.itoa x.2.2.1)),())
 else none
 else none
 else none
 else none
 else
 bif (room ((List.length ([]:List UInt8))+(List.length x.2.1))) then
 some ((([]:List UInt8)++x.2.1),())
 else none
noncomputable def B7:aT:=⟨43,[(true,(.cons .bool (.cons .str (.cons (.int .i64) (.int .i64)))))],[(false,.str)],1,fun n x=>EP n x.1⟩
theorem LB (n:Nat):ao Tryz.prog hint aH B7 n:=
 ao.of (hk:=fun β=>(aj.mk [] []).hk β) (sh:=aH) (fun m _=>ab.au ab.nil m) (fun x=>by kernel_rfl)
noncomputable def own (n:Nat) (x:(Int×(List UInt8×(List UInt8×(List Int×Bool))))):Option ((List UInt8)×Unit):=
 bif (j8 x.1) then
 bif (room ((List.length (Go.Lib.itoa x.1))+(List.length ([32]:List UInt8)))) then
 bif (j8 (len x.2.2.2.1)) then
 bif (room ((List.length ((Go.Lib.itoa x.1)++([32]:List UInt8)))+(List.length (Go.Lib.itoa (len x.2.2.2.1))))) then
 bif (room ((List.length (((Go.Lib.itoa x.1)++([32]:List UInt8))++(Go.Lib.itoa (len x.2.2.2.1))))+(List.length ([32]:List UInt8)))) then
 bif (room ((List.length ((((Go.Lib.itoa x.1)++([32]:List UInt8))++(Go.Lib.itoa (len x.2.2.2.1)))++([32]:List UInt8)))+(List.length x.2.1))) then
 bif (room ((List.length (((((Go.Lib.itoa x.1)++([32]:List UInt8))++(Go.Lib.itoa (len x.2.2.2.1)))++([32]:List UInt8))++x.2.1))+(List.length ([10]:List UInt8)))) then
 bif (x.1 !=1) then
 some (((((((Go.Lib.itoa x.1)++([32]:List UInt8))++(Go.Lib.itoa (len x.2.2.2.1)))++([32]:List UInt8))++x.2.1)++([10]:List UInt8)),())
 else
 Option.bind (qA n x.2.1 x.2.2.1) fun y0=>
 bif (y0.2.1 !=0) then
 bif (room ((List.length ((((((Go.Lib.itoa x.1)++([32]:List UInt8))++(Go.Lib.itoa (len x.2.2.2.1)))++([32]:List UInt8))++x.2.1)++([10]:List UInt8)))+(List.length ([33]:List UInt8)))) then
 bif (room ((List.length (((((((Go.Lib.itoa x.1)++([32]:List UInt8))++(Go.Lib.itoa (len x.2.2.2.1)))++([32]:List UInt8))++x.2.1)++([10]:List UInt8))++([33]:List UInt8)))+(List.length x.2.2.1))) then
 some (((((((((Go.Lib.itoa x.1)++([32]:List UInt8))++(Go.Lib.itoa (len x.2.2.2.1)))++([32]:List UInt8))++x.2.1)++([10]:List UInt8))++([33]:List UInt8))++x.2.2.1),())
 else none
 else none
 else
 Option.bind (bif (y0.1.1==3) then
  some true
 else
 some (y0.1.1==4)) fun b2=>
 bif b2 then
 Option.bind (EP (n+6) (y0.1.2.2.1.1,(y0.1.2.2.1.2.1,(y0.1.2.2.1.2.2.1,y0.1.2.2.1.2.2.2)))) fun y3=>
 bif (room ((List.length ((((((Go.Lib.itoa x.1)++([32]:List UInt8))++(Go.Lib.itoa (len x.2.2.2.1)))++([32]:List UInt8))++x.2.1)++([10]:List UInt8)))+(List.length y3.1))) then
 some ((((((((Go.Lib.itoa x.1)++([32]:List UInt8))++(Go.Lib.itoa (len x.2.2.2.1)))++([32]:List UInt8))++x.2.1)++([10]:List UInt8))++y3.1),())
 else none
 else
 bif (y0.1.1==2) then
 bif y0.1.2.1 then
  bif (room ((List.length ((((((Go.Lib.itoa x.1)++([32]:List UInt8))++(Go.Lib.itoa (len x.2.2.2.1)))++([32]:List UInt8))++x.2.1)++([10]:List UInt8)))+(List.length ([116,114,117,101]:List UInt8)))) then
  some ((((((((Go.Lib.itoa x.1)++([32]:List UInt8))++(Go.Lib.itoa (len x.2.2.2.1)))++([32]:List UInt8))++x.2.1)++([10]:List UInt8))++([116,114,117,101]:List UInt8)),())
  else none
 else
 bif (room ((List.length ((((((Go.Lib.itoa x.1)++([32]:List UInt8))++(Go.Lib.itoa (len x.2.2.2.1)))++([32]:List UInt8))++x.2.1)++([10]:List UInt8)))+(List.length ([102,97,108,115,101]:List UInt8)))) then
 some ((((((((Go.Lib.itoa x.1)++([32]:List UInt8))++(Go.Lib.itoa (len x.2.2.2.1)))++([32]:List UInt8))++x.2.1)++([10]:List UInt8))++([102,97,108,115,101]:List UInt8)),())
 else none
 else
 bif (room ((List.length ((((((Go.Lib.itoa x.1)++([32]:List UInt8))++(Go.Lib.itoa (len x.2.2.2.1)))++([32]:List UInt8))++x.2.1)++([10]:List UInt8)))+(List.length y0.1.2.2.2))) then
 some ((((((((Go.Lib.itoa x.1)++([32]:List UInt8))++(Go.Lib.itoa (len x.2.2.2.1)))++([32]:List UInt8))++x.2.1)++([10]:List UInt8))++y0.1.2.2.2),())
 else none
 else none
 else none
 else none
 else none
 else none
 else none
 else none
noncomputable def Ln:aT:=⟨31,[(true,sN)],[(false,.str)],8,fun n x=>own n x.1⟩
theorem Q5 (n:Nat):ao Tryz.prog hint aH Ln n:=
 ao.of (hk:=fun β=>(aj.mk [B7,pC] []).hk β) (sh:=aH) (fun m _=>ab.au ((ab.nil.fn yd).fn LB) m) (fun x=>by kernel_rfl)
noncomputable def nH:Tm:=⟨[(1,.one (.fix (TV.ptr 64 0))),(3,.one (.all 67 3 (.int .i64) .no)),(4,.one (.all 68 9 .str .no))],[(64,.cells 25 [.aC sN,.aC (.int .i64)] true)],67,69,1003⟩
noncomputable def IB:Tm:=⟨[(1,.one (.fix (TV.ptr 64 0))),(3,.one (.all 67 3 (.int .i64) .no)),(4,.one (.all 68 9 .str .no)),(26,.one (.aC sN)),(27,.one (.int .i64)),(28,.one (.int .i64))],[(64,.cells 25 [.aC sN,.aC (.int .i64)] true)],67,69,1003⟩
noncomputable def uT:Nat→(List Int)→(List (List UInt8))→qN→Int→Int→qN→(List Int)→Option ((Unit×((List Int)×((List (List UInt8))×Unit)))×((qN×((List Int)×Unit))×Unit))
 |0,_,_,_,_,_,_,_=>none
 |n+1,t3,t4,t26,t27,t28,c64_0,c64_1=>
 bif (aO t28 t27) then
  bif (aB 0 t28) then
  Option.bind (t26[(Int.toNat t28)]?) fun x6=>
  Option.bind (own (n+1) (x6.1,(x6.2.1,(x6.2.2.1,(x6.2.2.2.1,x6.2.2.2.2))))) fun y7=>
  bif ((aB 0 t28) &&(aO t28 (len t4))) then
  Option.bind (t4[(Int.toNat t28)]?) fun _=>
  uT n t3 (List.set t4 (Int.toNat t28) y7.1) t26 t27 (IntKind.wrap .i64 (t28+1)) c64_0 c64_1
  else none
  else none
 else
 some (((),(t3,(t4,()))),((c64_0,(c64_1,())),()))
noncomputable def CA:aA:=⟨22,4,none,IB,[(.exit 0,nH)],9,fun n x=>uT n x.1.2.1 x.1.2.2.1 x.1.2.2.2.1 x.1.2.2.2.2.1 x.1.2.2.2.2.2.1 x.2.1.1 x.2.1.2.1,[]⟩
theorem sM:nH.ok Tryz.prog hint:=Tm.bF rfl
theorem wg:IB.ok Tryz.prog hint:=Tm.bF rfl
theorem Nb:∀ n,ai Tryz.prog hint aH CA n:=
 ai.of (hk:=fun β=>(aj.mk [Ln] []).hk β) (sh:=aH) (ay.of (by kernel_rfl)) wg ⟨⟨sM,Nat.le_refl _,Nat.le_refl _⟩,trivial⟩ (fun m=>ab.au (ab.nil.fn Q5) m)
  (fun _=>by kernel_rfl) (fun m x=>by kernel_rfl)
noncomputable def lK:Tm:=⟨[(1,.one (.fix (TV.ptr 64 0))),(3,.one (.all 72 3 (.int .i64) .no)),(4,.one (.fix (TV.all 70))),(39,.one (.int .i64))],[(64,.cells 25 [.aC sN,.aC (.int .i64)] true),(70,.arr 9 .str true false .no),(71,.map 9 false false .str (.int .i64) false)],72,73,3006⟩
noncomputable def DC:Tm:=⟨[(1,.one (.fix (TV.ptr 64 0))),(3,.one (.all 72 3 (.int .i64) .no)),(4,.one (.fix (TV.all 70))),(7,.one (.fix (TV.mp 71))),(39,.one (.int .i64)),(42,.one (.fix (TV.all 70))),(43,.one (.int .i64)),(44,.one (.int .i64))],[(64,.cells 25 [.aC sN,.aC (.int .i64)] true),(70,.arr 9 .str true false .no),(71,.map 9 false false .str (.int .i64) false)],72,73,3006⟩
noncomputable def iN:Nat→(List Int)→Int→Int→Int→qN→(List Int)→(List (List UInt8))→(List (List UInt8×Int))→Option ((Unit×((List Int)×(Unit×(Int×Unit))))×((qN×((List Int)×Unit))×((List (List UInt8))×((List (List UInt8×Int))×Unit))))
 |0,_,_,_,_,_,_,_,_=>none
 |n+1,t3,t39,t43,t44,c64_0,c64_1,a70,m71=>
 bif (aO t44 t43) then
  bif ((aB 0 t44) &&(aO t44 (len a70))) then
  Option.bind (a70[(Int.toNat t44)]?) fun x16=>
  bif (!(Ek Sh.str m71 x16)) then
  bif ((aB 0 t44) &&(aO t44 (len t3))) then
  Option.bind (t3[(Int.toNat t44)]?) fun _=>
  iN n (List.set t3 (Int.toNat t44) (c8 Sh.str (cE Sh.str m71 x16 (len m71)) x16 0)) t39 t43 (IntKind.wrap .i64 (t44+1)) c64_0 c64_1 a70 (cE Sh.str m71 x16 (len m71))
  else none
  else
  bif ((aB 0 t44) &&(aO t44 (len t3))) then
  Option.bind (t3[(Int.toNat t44)]?) fun _=>
  iN n (List.set t3 (Int.toNat t44) (c8 Sh.str m71 x16 0)) t39 t43 (IntKind.wrap .i64 (t44+1)) c64_0 c64_1 a70 m71
  else none
  else none
 else
 some (((),(t3,((),(t39,())))),((c64_0,(c64_1,())),(a70,(m71,()))))
noncomputable def yV:aA:=⟨22,12,none,DC,[(.exit 4,lK)],0,fun n x=>iN n x.1.2.1 x.1.2.2.2.2.1 x.1.2.2.2.2.2.2.1 x.1.2.2.2.2.2.2.2.1 x.2.1.1 x.2.1.2.1 x.2.2.1 x.2.2.2.1,[]⟩
theorem pD:lK.ok Tryz.prog hint:=Tm.bF rfl
theorem qP:DC.ok Tryz.prog hint:=Tm.bF rfl
theorem JX:∀ n,ai Tryz.prog hint aH yV n:=
 ai.of (hk:=fun β=>(aj.mk [] []).hk β) (sh:=aH) (ay.of (by kernel_rfl)) qP ⟨⟨pD,Nat.le_refl _,Nat.le_refl _⟩,trivial⟩ (fun m=>ab.au ab.nil m)
  (fun _=>by kernel_rfl) (fun m x=>by kernel_rfl)
noncomputable def lB:Tm:=⟨[(1,.one (.fix (TV.ptr 64 0))),(3,.one (.all 78 3 (.int .i64) .no)),(4,.one (.all 79 9 .str .no)),(12,.one (.int .i64)),(14,.one (.fix (TV.ptr 76 0))),(39,.one (.int .i64)),(69,.one (.aC sN)),(70,.one (.int .i64)),(71,.one (.int .i64))],[(64,.cells 25 [.aC sN,.aC (.int .i64)] true),(76,.cells 68 [.fix (TV.ptr 76 0),.all 80 5 .byte .ex] true)],78,81,5014⟩
noncomputable def BT:Tm:=⟨[(1,.one (.fix (TV.ptr 64 0))),(3,.one (.all 78 3 (.int .i64) .no)),(4,.one (.all 79 9 .str .no)),(12,.one (.int .i64)),(14,.one (.fix (TV.ptr 76 0))),(39,.one (.int .i64)),(69,.one (.aC sN)),(70,.one (.int .i64)),(71,.one (.int .i64)),(83,.one (.aC (.int .i64))),(84,.one (.int .i64)),(85,.one (.int .i64))],[(64,.cells 25 [.aC sN,.aC (.int .i64)] true),(76,.cells 68 [.fix (TV.ptr 76 0),.all 80 5 .byte .ex] true)],78,81,5014⟩
noncomputable def qh:Nat→(List Int)→(List (List UInt8))→Int→Int→qN→Int→Int→(List Int)→Int→Int→qN→(List Int)→(List UInt8)→Option ((Unit×((List Int)×((List (List UInt8))×(Int×(Unit×(Int×(qN×(Int×(Int×Unit)))))))))×((qN×((List Int)×Unit))×((Unit×((List UInt8)×Unit))×Unit)))
 |0,_,_,_,_,_,_,_,_,_,_,_,_,_=>none
 |n+1,t3,t4,t12,t39,t69,t70,t71,t83,t84,t85,c64_0,c64_1,c76_1=>
 bif (aO t85 t84) then
  bif (aB 0 t85) then
  Option.bind (t83[(Int.toNat t85)]?) fun x26=>
  bif (room (((List.length c76_1)+(List.length ((32:UInt8)::([]:List UInt8))))*2)) then
  bif ((aB 0 x26) &&(aO x26 (len t3))) then
  Option.bind (t3[(Int.toNat x26)]?) fun x27=>
  bif (j8 x27) then
  bif (room (((List.length (c76_1++((32:UInt8)::([]:List UInt8))))+(List.length (Go.Lib.itoa x27)))*2)) then
  qh n t3 t4 t12 t39 t69 t70 t71 t83 t84 (IntKind.wrap .i64 (t85+1)) c64_0 c64_1 ((c76_1++((32:UInt8)::([]:List UInt8)))++(Go.Lib.itoa x27))
  else none
  else none
  else none
  else none
  else none
 else
 some (((),(t3,(t4,(t12,((),(t39,(t69,(t70,(t71,()))))))))),((c64_0,(c64_1,())),(((),(c76_1,())),())))
noncomputable def yb:aA:=⟨22,25,none,BT,[(.exit 8,lB)],2,fun n x=>qh n x.1.2.1 x.1.2.2.1 x.1.2.2.2.1 x.1.2.2.2.2.2.1 x.1.2.2.2.2.2.2.1 x.1.2.2.2.2.2.2.2.1 x.1.2.2.2.2.2.2.2.2.1 x.1.2.2.2.2.2.2.2.2.2.1 x.1.2.2.2.2.2.2.2.2.2.2.1 x.1.2.2.2.2.2.2.2.2.2.2.2.1 x.2.1.1 x.2.1.2.1 x.2.2.1.2.1,[75]⟩
theorem pE:lB.ok Tryz.prog hint:=Tm.bF rfl
theorem rB:BT.ok Tryz.prog hint:=Tm.bF rfl
theorem JU:∀ n,ai Tryz.prog hint aH yb n:=
 ai.of (hk:=fun β=>(aj.mk [] []).hk β) (sh:=aH) (ay.of (by kernel_rfl)) rB ⟨⟨pE,Nat.le_refl _,Nat.le_refl _⟩,trivial⟩ (fun m=>ab.au ab.nil m)
  (fun _=>by kernel_rfl) (fun m x=>by kernel_rfl)
noncomputable def lG:Tm:=⟨[(1,.one (.fix (TV.ptr 64 0))),(3,.one (.all 73 3 (.int .i64) .no)),(4,.one (.all 74 9 .str .no)),(39,.one (.int .i64))],[(64,.cells 25 [.aC sN,.aC (.int .i64)] true)],73,75,4007⟩
noncomputable def Cs:Tm:=⟨[(1,.one (.fix (TV.ptr 64 0))),(3,.one (.all 73 3 (.int .i64) .no)),(4,.one (.all 74 9 .str .no)),(39,.one (.int .i64)),(69,.one (.aC sN)),(70,.one (.int .i64)),(71,.one (.int .i64))],[(64,.cells 25 [.aC sN,.aC (.int .i64)] true)],73,75,4007⟩
noncomputable def ku:Nat→(List Int)→(List (List UInt8))→Int→qN→Int→Int→qN→(List Int)→Option ((Unit×((List Int)×((List (List UInt8))×(Int×Unit))))×((qN×((List Int)×Unit))×Unit))
 |0,_,_,_,_,_,_,_,_=>none
 |n+1,t3,t4,t39,t69,t70,t71,c64_0,c64_1=>
 bif (aO t71 t70) then
  bif (aB 0 t71) then
  Option.bind (t69[(Int.toNat t71)]?) fun x36=>
  bif ((aB 0 t71) &&(aO t71 (len t3))) then
  Option.bind (t3[(Int.toNat t71)]?) fun x37=>
  bif (j8 x37) then
  bif (room ((List.length (Go.Lib.itoa x37))*2)) then
  Option.bind (qh (n+1) t3 t4 t71 t39 t69 t70 t71 x36.2.2.2.1 (len x36.2.2.2.1) 0 c64_0 c64_1 (Go.Lib.itoa x37)) fun y38=>
  bif (List.isEmpty y38.2.2.1.2.1) then
  bif ((len y38.2.2.1.2.1)==0) then
  bif ((aB 0 y38.1.2.2.2.1) &&(aO y38.1.2.2.2.1 (len y38.1.2.2.1))) then
  Option.bind (y38.1.2.2.1[(Int.toNat y38.1.2.2.2.1)]?) fun _=>
  ku n y38.1.2.1 (List.set y38.1.2.2.1 (Int.toNat y38.1.2.2.2.1) ([]:List UInt8)) y38.1.2.2.2.2.2.1 y38.1.2.2.2.2.2.2.1 y38.1.2.2.2.2.2.2.2.1 (IntKind.wrap .i64 (y38.1.2.2.2.2.2.2.2.2.1+1)) y38.2.1.1 y38.2.1.2.1
  else none
  else none
  else
  bif ((aB (len y38.2.2.1.2.1) (len y38.2.2.1.2.1)) &&(aB (len y38.2.2.1.2.1) 1099511627776)) then
  bif ((aB 0 y38.1.2.2.2.1) &&(aO y38.1.2.2.2.1 (len y38.1.2.2.1))) then
  Option.bind (y38.1.2.2.1[(Int.toNat y38.1.2.2.2.1)]?) fun _=>
  ku n y38.1.2.1 (List.set y38.1.2.2.1 (Int.toNat y38.1.2.2.2.1) (List.take (Int.toNat (len y38.2.2.1.2.1)) y38.2.2.1.2.1)) y38.1.2.2.2.2.2.1 y38.1.2.2.2.2.2.2.1 y38.1.2.2.2.2.2.2.2.1 (IntKind.wrap .i64 (y38.1.2.2.2.2.2.2.2.2.1+1)) y38.2.1.1 y38.2.1.2.1
  else none
  else none
  else none
  else none
  else none
  else none
 else
 some (((),(t3,(t4,(t39,())))),((c64_0,(c64_1,())),()))
noncomputable def zj:aA:=⟨22,20,none,Cs,[(.exit 6,lG)],2,fun n x=>ku n x.1.2.1 x.1.2.2.1 x.1.2.2.2.1 x.1.2.2.2.2.1 x.1.2.2.2.2.2.1 x.1.2.2.2.2.2.2.1 x.2.1.1 x.2.1.2.1,[71]⟩
theorem p9:lG.ok Tryz.prog hint:=Tm.bF rfl
theorem rK:Cs.ok Tryz.prog hint:=Tm.bF rfl
theorem K4:∀ n,ai Tryz.prog hint aH zj n:=
 ai.of (hk:=fun β=>(aj.mk [] [yb]).hk β) (sh:=aH) (ay.of (by kernel_rfl)) rK ⟨⟨p9,Nat.le_refl _,Nat.le_refl _⟩,trivial⟩ (fun m=>ab.au (ab.nil.loop JU rB) m)
  (fun _=>by kernel_rfl) (fun m x=>by kernel_rfl)
noncomputable def nf:Tm:=⟨[(3,.one (.all 69 3 (.int .i64) .no))],[(64,.cells 25 [.aC sN,.aC (.int .i64)] true)],69,70,2004⟩
noncomputable def I3:Tm:=⟨[(1,.one (.fix (TV.ptr 64 0))),(3,.one (.all 69 3 (.int .i64) .no)),(4,.one (.all 70 9 .str .no)),(39,.one (.int .i64))],[(64,.cells 25 [.aC sN,.aC (.int .i64)] true)],69,71,2004⟩
noncomputable def tR:Nat→(List Int)→(List (List UInt8))→Int→qN→(List Int)→Option (((List Int)×Unit)×((qN×((List Int)×Unit))×Unit))
 |0,_,_,_,_,_=>none
 |n+1,t3,t4,t39,c64_0,c64_1=>
 bif (aO t39 4) then
  Option.bind (iN (n+3) t3 t39 (len t4) 0 c64_0 c64_1 t4 []) fun y44=>
  Option.bind (ku (n+1) y44.1.2.1 y44.2.2.1 y44.1.2.2.2.1 y44.2.1.1 (len y44.2.1.1) 0 y44.2.1.1 y44.2.1.2.1) fun y45=>
  tR n y45.1.2.1 y45.1.2.2.1 (IntKind.wrap .i64 (y45.1.2.2.2.1+1)) y45.2.1.1 y45.2.1.2.1
 else
 some ((t3,()),((c64_0,(c64_1,())),()))
noncomputable def Df:aA:=⟨22,9,none,I3,[(.exit 2,nf)],2,fun n x=>tR n x.1.2.1 x.1.2.2.1 x.1.2.2.2.1 x.2.1.1 x.2.1.2.1,[]⟩
theorem rZ:nf.ok Tryz.prog hint:=Tm.bF rfl
theorem ve:I3.ok Tryz.prog hint:=Tm.bF rfl
theorem MJ:∀ n,ai Tryz.prog hint aH Df n:=
 ai.of (hk:=fun β=>(aj.mk [] [zj,yV]).hk β) (sh:=aH) (ay.of (by kernel_rfl)) ve ⟨⟨rZ,Nat.le_refl _,Nat.le_refl _⟩,trivial⟩ (fun m=>ab.au ((ab.nil.loop JX qP).loop K4 rK) m)
  (fun _=>by kernel_rfl) (fun m x=>by kernel_rfl)
noncomputable def wz (n:Nat) (g:(List (Int×(List UInt8×(List UInt8×(List Int×Bool))))×List Int)):Option ((List Int)×Unit):=
 bif ((aB (len g.1) (len g.1)) &&(aB ((len g.1)*9) 1099511627776)) then
 bif ((aB (len g.1) (len g.1)) &&(aB ((len g.1)*17) 1099511627776)) then
 Option.bind (uT n (List.replicate (Int.toNat (len g.1)) 0) (List.replicate (Int.toNat (len g.1)) ([]:List UInt8)) g.1 (len g.1) 0 g.1 g.2) fun y9=>
 Option.bind (tR (n+7) y9.1.2.1 y9.1.2.2.1 0 y9.2.1.1 y9.2.1.2.1) fun y46=>
 some (y46.1.1,())
 else none
 else none
noncomputable def yf:aT:=⟨22,[(true,(.cons (.bQ sN) (.bQ (.int .i64))))],[(false,(.bQ (.int .i64)))],9,fun n x=>wz n x.1⟩
theorem KJ (n:Nat):ao Tryz.prog hint aH yf n:=
 ao.of (hk:=fun β=>(aj.mk [] [Df,CA]).hk β) (sh:=aH) (fun m _=>ab.au ((ab.nil.loop Nb wg).loop MJ ve) m) (fun x=>by kernel_rfl)
end Go.Proofs.YtnddpppljnjmcaaGreatDoor
/- Plain functions for the program's. -/
namespace Go.Proofs.YtnddpppljnjmcaaGreatDoor
open Go Go.Iv Go.Gv
set_option maxRecDepth 100000
set_option linter.unusedVariables false
noncomputable def nk:Tm:=⟨[(2,.one (.aC (.int .i64))),(3,.one (.fix (TV.ptr 64 0))),(4,.one (.fix (TV.ptr 65 0))),(7,.one (.fix (TV.mp 66))),(8,.one (.int .i64)),(9,.one (.int .i64))],[(64,.cells 25 [.aC sN,.aC (.int .i64)] true),(65,.cells 31 [.int .i64,.str,.str,.aC (.int .i64),.bool] true),(67,.arr 3 (.int .i64) true false .ex)],68,68,2006⟩
noncomputable def vj:Tm:=⟨[(6,.one (.bool))],[(64,.cells 25 [.aC sN,.aC (.int .i64)] true),(65,.cells 31 [.int .i64,.str,.str,.aC (.int .i64),.bool] true),(67,.arr 3 (.int .i64) true false .ex)],68,68,2006⟩
noncomputable def H7:Tm:=⟨[(2,.one (.aC (.int .i64))),(3,.one (.fix (TV.ptr 64 0))),(4,.one (.fix (TV.ptr 65 0))),(7,.one (.fix (TV.mp 66))),(8,.one (.int .i64)),(9,.one (.int .i64)),(30,.one (.fix (TV.all 67))),(31,.one (.int .i64)),(32,.one (.int .i64))],[(64,.cells 25 [.aC sN,.aC (.int .i64)] true),(65,.cells 31 [.int .i64,.str,.str,.aC (.int .i64),.bool] true),(67,.arr 3 (.int .i64) true false .ex)],68,68,2006⟩
noncomputable def uX:Nat→(List Int)→Int→Int→Int→Int→qN→(List Int)→Int→(List UInt8)→(List UInt8)→(List Int)→Bool→(List Int)→Option ((((List Int)×(Unit×(Unit×(Unit×(Int×(Int×Unit))))))×((qN×((List Int)×Unit))×((Int×((List UInt8)×((List UInt8)×((List Int)×(Bool×Unit)))))×((List Int)×Unit))))⊕((Bool×Unit)×((qN×((List Int)×Unit))×((Int×((List UInt8)×((List UInt8)×((List Int)×(Bool×Unit)))))×((List Int)×Unit)))))
 |0,_,_,_,_,_,_,_,_,_,_,_,_,_=>none
 |n+1,t2,t8,t9,t31,t32,c64_0,c64_1,c65_0,c65_1,c65_2,c65_3,c65_4,a67=>
 bif (aO t32 t31) then
  bif ((aB 0 t32) &&(aO t32 (len a67))) then
  Option.bind (a67[(Int.toNat t32)]?) fun x6=>
  Option.bind (ij (n+1) (c64_0,c64_1) t9 x6) fun y7=>
  bif y7.1 then
  some (.inr ((true,()),((c64_0,(c64_1,())),((c65_0,(c65_1,(c65_2,(c65_3,(c65_4,()))))),(a67,())))))
  else
  uX n t2 t8 t9 t31 (IntKind.wrap .i64 (t32+1)) c64_0 c64_1 c65_0 c65_1 c65_2 c65_3 c65_4 a67
  else none
 else
 some (.inl ((t2,((),((),((),(t8,(t9,())))))),((c64_0,(c64_1,())),((c65_0,(c65_1,(c65_2,(c65_3,(c65_4,()))))),(a67,())))))
noncomputable def Ca:aA:=⟨23,7,none,H7,[(.exit 2,nk),(.ret,vj)],10,fun n x=>uX n x.1.1 x.1.2.2.2.2.1 x.1.2.2.2.2.2.1 x.1.2.2.2.2.2.2.2.1 x.1.2.2.2.2.2.2.2.2.1 x.2.1.1 x.2.1.2.1 x.2.2.1.1 x.2.2.1.2.1 x.2.2.1.2.2.1 x.2.2.1.2.2.2.1 x.2.2.1.2.2.2.2.1 x.2.2.2.1,[66]⟩
theorem sH:nk.ok Tryz.prog hint:=Tm.bF rfl
theorem xd:vj.ok Tryz.prog hint:=Tm.bF rfl
theorem tX:H7.ok Tryz.prog hint:=Tm.bF rfl
theorem LF:∀ n,ai Tryz.prog hint aH Ca n:=
 ai.of (hk:=fun β=>(aj.mk [qp] []).hk β) (sh:=aH) (ay.of (by kernel_rfl)) tX ⟨⟨sH,Nat.le_refl _,Nat.le_refl _⟩,⟨xd,Nat.le_refl _,Nat.le_refl _⟩,trivial⟩ (fun m=>ab.au (ab.nil.fn yc) m)
  (fun _=>by kernel_rfl) (fun m x=>by kernel_rfl)
noncomputable def ph:Tm:=⟨[],[(64,.cells 25 [.aC sN,.aC (.int .i64)] true),(65,.cells 31 [.int .i64,.str,.str,.aC (.int .i64),.bool] true),(66,.cz 3 false (.int .i64) 3 (.int .i64))],67,67,1003⟩
noncomputable def wE:Tm:=⟨[(6,.one (.bool))],[(64,.cells 25 [.aC sN,.aC (.int .i64)] true),(65,.cells 31 [.int .i64,.str,.str,.aC (.int .i64),.bool] true),(66,.cz 3 false (.int .i64) 3 (.int .i64))],67,67,1003⟩
noncomputable def IM:Tm:=⟨[(2,.one (.aC (.int .i64))),(3,.one (.fix (TV.ptr 64 0))),(4,.one (.fix (TV.ptr 65 0))),(7,.one (.fix (TV.mp 66))),(8,.one (.int .i64))],[(64,.cells 25 [.aC sN,.aC (.int .i64)] true),(65,.cells 31 [.int .i64,.str,.str,.aC (.int .i64),.bool] true),(66,.cz 3 false (.int .i64) 3 (.int .i64))],67,67,1003⟩
noncomputable def n9:Nat→(List Int)→Int→qN→(List Int)→Int→(List UInt8)→(List UInt8)→(List Int)→Bool→(List (Int×List Int))→Option ((Unit×((qN×((List Int)×Unit))×((Int×((List UInt8)×((List UInt8)×((List Int)×(Bool×Unit)))))×((List (Int×List Int))×Unit))))⊕((Bool×Unit)×((qN×((List Int)×Unit))×((Int×((List UInt8)×((List UInt8)×((List Int)×(Bool×Unit)))))×((List (Int×List Int))×Unit)))))
 |0,_,_,_,_,_,_,_,_,_,_=>none
 |n+1,t2,t8,c64_0,c64_1,c65_0,c65_1,c65_2,c65_3,c65_4,m66=>
 bif (aO t8 (len c65_3)) then
  bif (aB 0 t8) then
  Option.bind (c65_3[(Int.toNat t8)]?) fun x20=>
  bif (aB 0 x20) then
  Option.bind (t2[(Int.toNat x20)]?) fun x21=>
  Option.bind (uX (n+1) t2 t8 x20 (len (c8 kI m66 x21 ([]:List Int))) 0 c64_0 c64_1 c65_0 c65_1 c65_2 c65_3 c65_4 (c8 kI m66 x21 ([]:List Int))) fun y22=>
  match y22 with
  | .inl y23=>
   bif (aB 0 y23.1.2.2.2.2.2.1) then
   Option.bind (y23.1.1[(Int.toNat y23.1.2.2.2.2.2.1)]?) fun x25=>
   bif (aB 0 y23.1.2.2.2.2.2.1) then
   Option.bind (y23.1.1[(Int.toNat y23.1.2.2.2.2.2.1)]?) fun x26=>
   bif (room (((List.length (c8 kI (jP kI m66 x21 y23.2.2.2.1) x26 ([]:List Int)))+(List.length (y23.1.2.2.2.2.2.1::([]:List Int))))*9)) then
   bif ((id x26)==x25) then
   n9 n y23.1.1 (IntKind.wrap .i64 (y23.1.2.2.2.2.1+2)) y23.2.1.1 y23.2.1.2.1 y23.2.2.1.1 y23.2.2.1.2.1 y23.2.2.1.2.2.1 y23.2.2.1.2.2.2.1 y23.2.2.1.2.2.2.2.1 (cE kI (jP kI m66 x21 y23.2.2.2.1) x25 ((c8 kI (jP kI m66 x21 y23.2.2.2.1) x26 ([]:List Int))++(y23.1.2.2.2.2.2.1::([]:List Int))))
   else none
   else none
   else none
   else none
  | .inr y24=>
   some (.inr ((y24.1.1,()),((y24.2.1.1,(y24.2.1.2.1,())),((y24.2.2.1.1,(y24.2.2.1.2.1,(y24.2.2.1.2.2.1,(y24.2.2.1.2.2.2.1,(y24.2.2.1.2.2.2.2.1,()))))),((jP kI m66 x21 y24.2.2.2.1),())))))
  else none
  else none
 else
 some (.inl ((),((c64_0,(c64_1,())),((c65_0,(c65_1,(c65_2,(c65_3,(c65_4,()))))),(m66,())))))
noncomputable def Ei:aA:=⟨23,3,none,IM,[(.exit 0,ph),(.ret,wE)],10,fun n x=>n9 n x.1.1 x.1.2.2.2.2.1 x.2.1.1 x.2.1.2.1 x.2.2.1.1 x.2.2.1.2.1 x.2.2.1.2.2.1 x.2.2.1.2.2.2.1 x.2.2.1.2.2.2.2.1 x.2.2.2.1,[]⟩
theorem sA:ph.ok Tryz.prog hint:=Tm.bF rfl
theorem xE:wE.ok Tryz.prog hint:=Tm.bF rfl
theorem tW:IM.ok Tryz.prog hint:=Tm.bF rfl
theorem Mm:∀ n,ai Tryz.prog hint aH Ei n:=
 ai.of (hk:=fun β=>(aj.mk [] [Ca]).hk β) (sh:=aH) (ay.of (by kernel_rfl)) tW ⟨⟨sA,Nat.le_refl _,Nat.le_refl _⟩,⟨xE,Nat.le_refl _,Nat.le_refl _⟩,trivial⟩ (fun m=>ab.au (ab.nil.loop LF tX) m)
  (fun _=>by kernel_rfl) (fun m x=>by kernel_rfl)
noncomputable def zB (n:Nat) (g:(List (Int×(List UInt8×(List UInt8×(List Int×Bool))))×List Int)) (x:(Int×(List UInt8×(List UInt8×(List Int×Bool))))) (c:List Int):Option (Bool×Unit):=
 Option.bind (n9 n c 0 g.1 g.2 x.1 x.2.1 x.2.2.1 x.2.2.2.1 x.2.2.2.2 []) fun y27=>
 match y27 with
 | .inl _=>
  some (false,())
 | .inr y29=>
  some (y29.1.1,())
noncomputable def C5:aT:=⟨23,[(true,(.cons (.bQ sN) (.bQ (.int .i64)))),(true,sN),(false,(.bQ (.int .i64)))],[(false,.bool)],10,fun n x=>zB n x.1 x.2.1 x.2.2.1⟩
theorem L7 (n:Nat):ao Tryz.prog hint aH C5 n:=
 ao.of (hk:=fun β=>(aj.mk [] [Ei]).hk β) (sh:=aH) (fun m _=>ab.au (ab.nil.loop Mm tW) m) (fun x=>by kernel_rfl)
noncomputable def oQ:Tm:=⟨[],[(64,.cells 25 [.aC sN,.aC (.int .i64)] true)],65,65,1001⟩
noncomputable def vV:Tm:=⟨[(2,.one (.int .i64)),(3,.one (.bool))],[(64,.cells 25 [.aC sN,.aC (.int .i64)] true)],65,65,1001⟩
noncomputable def Ig:Tm:=⟨[(1,.one (.fix (TV.ptr 64 0))),(4,.one (.aC (.int .i64))),(13,.one (.aC sN)),(14,.one (.int .i64)),(15,.one (.int .i64))],[(64,.cells 25 [.aC sN,.aC (.int .i64)] true)],65,65,1001⟩
noncomputable def rU:Nat→(List Int)→qN→Int→Int→qN→(List Int)→Option ((Unit×((qN×((List Int)×Unit))×Unit))⊕((Int×(Bool×Unit))×((qN×((List Int)×Unit))×Unit)))
 |0,_,_,_,_,_,_=>none
 |n+1,t4,t13,t14,t15,c64_0,c64_1=>
 bif (aO t15 t14) then
  bif (aB 0 t15) then
  Option.bind (t13[(Int.toNat t15)]?) fun x6=>
  bif (x6.1==3) then
  Option.bind (zB (n+1) (c64_0,c64_1) (x6.1,(x6.2.1,(x6.2.2.1,(x6.2.2.2.1,x6.2.2.2.2)))) t4) fun y7=>
  bif y7.1 then
   some (.inr ((t15,(true,())),((c64_0,(c64_1,())),())))
  else
  rU n t4 t13 t14 (IntKind.wrap .i64 (t15+1)) c64_0 c64_1
  else
  rU n t4 t13 t14 (IntKind.wrap .i64 (t15+1)) c64_0 c64_1
  else none
 else
 some (.inl ((),((c64_0,(c64_1,())),())))
noncomputable def CP:aA:=⟨13,5,none,Ig,[(.exit 0,oQ),(.ret,vV)],11,fun n x=>rU n x.1.2.1 x.1.2.2.1 x.1.2.2.2.1 x.1.2.2.2.2.1 x.2.1.1 x.2.1.2.1,[]⟩
theorem sr:oQ.ok Tryz.prog hint:=Tm.bF rfl
theorem xa:vV.ok Tryz.prog hint:=Tm.bF rfl
theorem uP:Ig.ok Tryz.prog hint:=Tm.bF rfl
theorem Ob:∀ n,ai Tryz.prog hint aH CP n:=
 ai.of (hk:=fun β=>(aj.mk [C5] []).hk β) (sh:=aH) (ay.of (by kernel_rfl)) uP ⟨⟨sr,Nat.le_refl _,Nat.le_refl _⟩,⟨xa,Nat.le_refl _,Nat.le_refl _⟩,trivial⟩ (fun m=>ab.au (ab.nil.fn L7) m)
  (fun _=>by kernel_rfl) (fun m x=>by kernel_rfl)
noncomputable def zW (n:Nat) (g:(List (Int×(List UInt8×(List UInt8×(List Int×Bool))))×List Int)):Option (Int×(Bool×Unit)):=
 Option.bind (right (n+3) (g.1,g.2)) fun y0=>
 bif (!y0.1) then
 some (0,false,())
 else
 Option.bind (wz (n+1) (g.1,g.2)) fun y1=>
 Option.bind (rU n y1.1 g.1 (len g.1) 0 g.1 g.2) fun y8=>
 match y8 with
 | .inl _=>
  some (0,false,())
 | .inr y10=>
  some (y10.1.1,y10.1.2.1,())
noncomputable def Dw:aT:=⟨13,[(true,(.cons (.bQ sN) (.bQ (.int .i64))))],[(false,(.int .i64)),(false,.bool)],11,fun n x=>zW n x.1⟩
theorem MA (n:Nat):ao Tryz.prog hint aH Dw n:=
 ao.of (hk:=fun β=>(aj.mk [yf,uY] [CP]).hk β) (sh:=aH) (fun m _=>ab.au (((ab.nil.fn CR).fn KJ).loop Ob uP) m) (fun x=>by kernel_rfl)
noncomputable def alive (n:Nat):Option (Bool×Unit):=
 Option.bind (cH n (((1,(([116,97,103,58,121,97,109,108,46,111,114,103,44,50,48,48,50,58,105,110,116]:List UInt8),(([49]:List UInt8),(([]:List Int),false))))::((1,(([116,97,103,58,121,97,109,108,46,111,114,103,44,50,48,48,50,58,105,110,116]:List UInt8),(([48,120,49]:List UInt8),(([]:List Int),false))))::((1,(([116,97,103,58,121,97,109,108,46,111,114,103,44,50,48,48,50,58,115,116,114]:List UInt8),(([49]:List UInt8),(([]:List Int),false)))):: []))),([]:List Int)) 0 1) fun y0=>
 bif y0.1 then
 Option.bind (cH n (((1,(([116,97,103,58,121,97,109,108,46,111,114,103,44,50,48,48,50,58,105,110,116]:List UInt8),(([49]:List UInt8),(([]:List Int),false))))::((1,(([116,97,103,58,121,97,109,108,46,111,114,103,44,50,48,48,50,58,105,110,116]:List UInt8),(([48,120,49]:List UInt8),(([]:List Int),false))))::((1,(([116,97,103,58,121,97,109,108,46,111,114,103,44,50,48,48,50,58,115,116,114]:List UInt8),(([49]:List UInt8),(([]:List Int),false)))):: []))),([]:List Int)) 0 2) fun y1=>
 some ((!y1.1),())
 else
 some (false,())
noncomputable def CE:aT:=⟨8,[],[(false,.bool)],11,fun n _=>alive n⟩
theorem N5 (n:Nat):ao Tryz.prog hint aH CE n:=
 ao.of (hk:=fun β=>(aj.mk [jk] []).hk β) (sh:=aH) (fun m _=>ab.au (ab.nil.fn nR) m) (fun x=>by kernel_rfl)
end Go.Proofs.YtnddpppljnjmcaaGreatDoor
/- Plain functions for the program's. -/
namespace Go.Proofs.YtnddpppljnjmcaaGreatDoor
open Go Go.Iv Go.Gv
set_option maxRecDepth 100000
set_option linter.unusedVariables false
noncomputable def lL:Tm:=⟨[(0,.one (.aC (.int .i64))),(3,.one (.int .i64))],[],64,64,1000⟩
noncomputable def DB:Tm:=⟨[(0,.one (.aC (.int .i64))),(3,.one (.int .i64))],[],64,64,1000⟩
noncomputable def p8:Nat→(List Int)→Int→Option (((List Int)×(Int×Unit))×Unit)
 |0,_,_=>none
 |n+1,t0,t3=>
 Option.bind (bif (aO 1 t3) then
  bif (aB 0 (IntKind.wrap .i64 (t3 - 1))) then
  Option.bind (t0[(Int.toNat (IntKind.wrap .i64 (t3 - 1)))]?) fun x7=>
  some (x7==0)
  else none
  else
  some false) fun b8=>
 bif b8 then
  p8 n t0 (IntKind.wrap .i64 (t3 - 1))
 else
 some ((t0,(t3,())),())
noncomputable def zT:aA:=⟨105,2,none,DB,[(.exit 0,lL)],0,fun n x=>p8 n x.1.1 x.1.2.1,[]⟩
theorem qi:lL.ok Tryz.prog hint:=Tm.bF rfl
theorem q8:DB.ok Tryz.prog hint:=Tm.bF rfl
theorem Jn:∀ n,ai Tryz.prog hint aH zT n:=
 ai.of (hk:=fun β=>(aj.mk [] []).hk β) (sh:=aH) (ay.of (by kernel_rfl)) q8 ⟨⟨qi,Nat.le_refl _,Nat.le_refl _⟩,trivial⟩ (fun m=>ab.au ab.nil m)
  (fun _=>by kernel_rfl) (fun m x=>by kernel_rfl)
noncomputable def lV:Tm:=⟨[(4,.one (.all 65 5 .byte .no))],[],65,66,2002⟩
noncomputable def Du:Tm:=⟨[(0,.one (.aC (.int .i64))),(3,.one (.int .i64)),(4,.one (.all 65 5 .byte .no)),(5,.one (.int .i64))],[],65,66,2002⟩
noncomputable def pN:Nat→(List Int)→Int→(List UInt8)→Int→Option (((List UInt8)×Unit)×Unit)
 |0,_,_,_,_=>none
 |n+1,t0,t3,t4,t5=>
 bif (aO t5 t3) then
  bif (aB 0 t5) then
  Option.bind (t0[(Int.toNat t5)]?) fun x14=>
  bif ((aB 0 (IntKind.wrap .i64 ((IntKind.wrap .i64 (t3 - 1)) - t5))) &&(aO (IntKind.wrap .i64 ((IntKind.wrap .i64 (t3 - 1)) - t5)) (len t4))) then
  Option.bind (t4[(Int.toNat (IntKind.wrap .i64 ((IntKind.wrap .i64 (t3 - 1)) - t5)))]?) fun _=>
  pN n t0 t3 (List.set t4 (Int.toNat (IntKind.wrap .i64 ((IntKind.wrap .i64 (t3 - 1)) - t5))) (UInt8.ofNat (Int.toNat (IntKind.wrap Go.IntKind.u8 (IntKind.wrap .i64 (48+x14)))))) (IntKind.wrap .i64 (t5+1))
  else none
  else none
 else
 some ((t4,()),())
noncomputable def yU:aA:=⟨105,6,none,Du,[(.exit 2,lV)],0,fun n x=>pN n x.1.1 x.1.2.1 x.1.2.2.1 x.1.2.2.2.1,[]⟩
theorem pF:lV.ok Tryz.prog hint:=Tm.bF rfl
theorem q9:Du.ok Tryz.prog hint:=Tm.bF rfl
theorem JI:∀ n,ai Tryz.prog hint aH yU n:=
 ai.of (hk:=fun β=>(aj.mk [] []).hk β) (sh:=aH) (ay.of (by kernel_rfl)) q9 ⟨⟨pF,Nat.le_refl _,Nat.le_refl _⟩,trivial⟩ (fun m=>ab.au ab.nil m)
  (fun _=>by kernel_rfl) (fun m x=>by kernel_rfl)
noncomputable def kR (n:Nat) (l:List Int):Option ((List UInt8)×Unit):=
 Option.bind (p8 (n+1) l (len l)) fun y9=>
 bif (((aB 0 y9.1.2.1) &&(aB y9.1.2.1 y9.1.2.1)) &&(aB (y9.1.2.1*2) 1099511627776)) then
 Option.bind (pN (n+1) y9.1.1 y9.1.2.1 (List.replicate (Int.toNat y9.1.2.1) (0:UInt8)) 0) fun y16=>
 some (y16.1.1,())
 else none
noncomputable def qX:aT:=⟨105,[(false,(.bQ (.int .i64)))],[(false,.str)],1,fun n x=>kR n x.1⟩
theorem Db (n:Nat):ao Tryz.prog hint aH qX n:=
 ao.of (hk:=fun β=>(aj.mk [] [yU,zT]).hk β) (sh:=aH) (fun m _=>ab.au ((ab.nil.loop Jn q8).loop JI q9) m) (fun x=>by kernel_rfl)
noncomputable def lI:Tm:=⟨[(2,.one (.int .i64)),(7,.one (.all 64 3 (.int .i64) .ex))],[],64,65,1000⟩
noncomputable def Eh:Tm:=⟨[(0,.one (.aC (.int .i64))),(1,.one (.int .i64)),(2,.one (.int .i64)),(7,.one (.all 64 3 (.int .i64) .ex)),(8,.one (.int .i64))],[],64,65,1000⟩
noncomputable def qf:Nat→(List Int)→Int→Int→(List Int)→Int→Option ((Int×((List Int)×Unit))×Unit)
 |0,_,_,_,_,_=>none
 |n+1,t0,t1,t2,t7,t8=>
 bif (aO t8 (len t0)) then
  bif (aB 0 t8) then
  Option.bind (t0[(Int.toNat t8)]?) fun x3=>
  bif (room (((List.length t7)+(List.length ((Int.tmod (IntKind.wrap .i64 (t2+(IntKind.wrap .i64 (x3*t1)))) 10)::([]:List Int))))*9)) then
  qf n t0 t1 (IntKind.wrap .i64 (Int.tdiv (IntKind.wrap .i64 (t2+(IntKind.wrap .i64 (x3*t1)))) 10)) (t7++((Int.tmod (IntKind.wrap .i64 (t2+(IntKind.wrap .i64 (x3*t1)))) 10)::([]:List Int))) (IntKind.wrap .i64 (t8+1))
  else none
  else none
 else
 some ((t2,(t7,())),())
noncomputable def z7:aA:=⟨106,3,none,Eh,[(.exit 0,lI)],0,fun n x=>qf n x.1.1 x.1.2.1 x.1.2.2.1 x.1.2.2.2.1 x.1.2.2.2.2.1,[]⟩
theorem qD:lI.ok Tryz.prog hint:=Tm.bF rfl
theorem rD:Eh.ok Tryz.prog hint:=Tm.bF rfl
theorem Kf:∀ n,ai Tryz.prog hint aH z7 n:=
 ai.of (hk:=fun β=>(aj.mk [] []).hk β) (sh:=aH) (ay.of (by kernel_rfl)) rD ⟨⟨qD,Nat.le_refl _,Nat.le_refl _⟩,trivial⟩ (fun m=>ab.au ab.nil m)
  (fun _=>by kernel_rfl) (fun m x=>by kernel_rfl)
noncomputable def lX:Tm:=⟨[(7,.one (.all 65 3 (.int .i64) .ex))],[],65,66,2001⟩
noncomputable def Cj:Tm:=⟨[(2,.one (.int .i64)),(7,.one (.all 65 3 (.int .i64) .ex))],[],65,66,2001⟩
noncomputable def kf:Nat→Int→(List Int)→Option (((List Int)×Unit)×Unit)
 |0,_,_=>none
 |n+1,t2,t7=>
 bif (aO 0 t2) then
  bif (room (((List.length t7)+(List.length ((Int.tmod t2 10)::([]:List Int))))*9)) then
  kf n (IntKind.wrap .i64 (Int.tdiv t2 10)) (t7++((Int.tmod t2 10)::([]:List Int)))
  else none
 else
 some ((t7,()),())
noncomputable def zm:aA:=⟨106,8,none,Cj,[(.exit 2,lX)],0,fun n x=>kf n x.1.1 x.1.2.1,[]⟩
theorem pT:lX.ok Tryz.prog hint:=Tm.bF rfl
theorem rC:Cj.ok Tryz.prog hint:=Tm.bF rfl
theorem Jz:∀ n,ai Tryz.prog hint aH zm n:=
 ai.of (hk:=fun β=>(aj.mk [] []).hk β) (sh:=aH) (ay.of (by kernel_rfl)) rC ⟨⟨pT,Nat.le_refl _,Nat.le_refl _⟩,trivial⟩ (fun m=>ab.au ab.nil m)
  (fun _=>by kernel_rfl) (fun m x=>by kernel_rfl)
noncomputable def Bp (n:Nat) (l:List Int) (k:Int) (more:Int):Option ((List Int)×Unit):=
 Option.bind (qf (n+1) l k more ([]:List Int) 0) fun y4=>
 Option.bind (kf (n+1) y4.1.1 y4.1.2.1) fun y5=>
 bif ((len y5.1.1)==0) then
 some ((0::([]:List Int)),())
 else
 some (y5.1.1,())
noncomputable def yw:aT:=⟨106,[(false,(.bQ (.int .i64))),(false,(.int .i64)),(false,(.int .i64))],[(false,(.bQ (.int .i64)))],1,fun n x=>Bp n x.1 x.2.1 x.2.2.1⟩
theorem JJ (n:Nat):ao Tryz.prog hint aH yw n:=
 ao.of (hk:=fun β=>(aj.mk [] [zm,z7]).hk β) (sh:=aH) (fun m _=>ab.au ((ab.nil.loop Kf rD).loop Jz rC) m) (fun x=>by kernel_rfl)
noncomputable def l7:Tm:=⟨[(5,.one (.all 64 3 (.int .i64) .ex))],[],64,65,1000⟩
noncomputable def qL:Tm:=⟨[(4,.one (.fix (TV.raw (Go.Value.slice (Option.none) 0 0))))],[],64,64,1000⟩
noncomputable def DA:Tm:=⟨[(0,.one (.str)),(1,.one (.int .i64)),(5,.one (.all 64 3 (.int .i64) .ex)),(6,.one (.int .i64))],[],64,65,1000⟩
noncomputable def qt:Nat→(List UInt8)→Int→(List Int)→Int→Option ((((List Int)×Unit)×Unit)⊕((Unit×Unit)×Unit))
 |0,_,_,_,_=>none
 |n+1,t0,t1,t5,t6=>
 bif (aO t6 (len t0)) then
  bif (aB 0 t6) then
  Option.bind (t0[(Int.toNat t6)]?) fun x14=>
  Option.bind (K6 (n+1) (IntKind.wrap .i64 (ub x14))) fun y15=>
  Option.bind (bif (aO y15.1 0) then
   some true
  else
  some (aB t1 y15.1)) fun b17=>
  bif b17 then
  some (.inr (((),()),()))
  else
  bif (room (((List.length t5)+(List.length (y15.1::([]:List Int))))*9)) then
  qt n t0 t1 (t5++(y15.1::([]:List Int))) (IntKind.wrap .i64 (t6+1))
  else none
  else none
 else
 some (.inl ((t5,()),()))
noncomputable def zP:aA:=⟨104,5,none,DA,[(.exit 0,l7),(.ret,qL)],1,fun n x=>qt n x.1.1 x.1.2.1 x.1.2.2.1 x.1.2.2.2.1,[]⟩
theorem pH:l7.ok Tryz.prog hint:=Tm.bF rfl
theorem uU:qL.ok Tryz.prog hint:=Tm.bF rfl
theorem q7:DA.ok Tryz.prog hint:=Tm.bF rfl
theorem Jy:∀ n,ai Tryz.prog hint aH zP n:=
 ai.of (hk:=fun β=>(aj.mk [Bn] []).hk β) (sh:=aH) (ay.of (by kernel_rfl)) q7 ⟨⟨pH,Nat.le_refl _,Nat.le_refl _⟩,⟨uU,Nat.le_refl _,Nat.le_refl _⟩,trivial⟩ (fun m=>ab.au (ab.nil.fn Iq) m)
  (fun _=>by kernel_rfl) (fun m x=>by kernel_rfl)
noncomputable def o8:Tm:=⟨[(7,.one (.all 66 3 (.int .i64) .ex))],[],66,67,2002⟩
noncomputable def IG:Tm:=⟨[(6,.one (.all 66 3 (.int .i64) .ex)),(7,.one (.all 67 3 (.int .i64) .ex)),(8,.one (.int .i64))],[],66,68,2002⟩
noncomputable def zr:Nat→(List Int)→(List Int)→Int→Option (((List Int)×Unit)×Unit)
 |0,_,_,_=>none
 |n+1,t6,t7,t8=>
 bif (aB 0 t8) then
  bif ((aB 0 t8) &&(aO t8 (len t6))) then
  Option.bind (t6[(Int.toNat t8)]?) fun x24=>
  bif (room (((List.length t7)+(List.length (x24::([]:List Int))))*9)) then
  zr n t6 (t7++(x24::([]:List Int))) (IntKind.wrap .i64 (t8 - 1))
  else none
  else none
 else
 some ((t7,()),())
noncomputable def Fc:aA:=⟨81,8,none,IG,[(.exit 0,o8)],0,fun n x=>zr n x.1.1 x.1.2.1 x.1.2.2.1,[65]⟩
theorem sy:o8.ok Tryz.prog hint:=Tm.bF rfl
theorem vB:IG.ok Tryz.prog hint:=Tm.bF rfl
theorem Mr:∀ n,ai Tryz.prog hint aH Fc n:=
 ai.of (hk:=fun β=>(aj.mk [] []).hk β) (sh:=aH) (ay.of (by kernel_rfl)) vB ⟨⟨sy,Nat.le_refl _,Nat.le_refl _⟩,trivial⟩ (fun m=>ab.au ab.nil m)
  (fun _=>by kernel_rfl) (fun m x=>by kernel_rfl)
noncomputable def lA:Tm:=⟨[(7,.one (.aC (.int .i64)))],[],66,66,2002⟩
noncomputable def BV:Tm:=⟨[(1,.one (.int .i64)),(6,.one (.all 66 3 (.int .i64) .ex)),(7,.one (.aC (.int .i64))),(9,.one (.int .i64))],[],66,67,2002⟩
noncomputable def mi:Nat→Int→(List Int)→(List Int)→Int→Option (((List Int)×Unit)×Unit)
 |0,_,_,_,_=>none
 |n+1,t1,t6,t7,t9=>
 bif (aO t9 (len t6)) then
  bif ((aB 0 t9) &&(aO t9 (len t6))) then
  Option.bind (t6[(Int.toNat t9)]?) fun x33=>
  Option.bind (Bp (n+1) t7 t1 x33) fun y34=>
  mi n t1 t6 y34.1 (IntKind.wrap .i64 (t9+1))
  else none
 else
 some ((t7,()),())
noncomputable def zH:aA:=⟨81,13,none,BV,[(.exit 2,lA)],2,fun n x=>mi n x.1.1 x.1.2.1 x.1.2.2.1 x.1.2.2.2.1,[]⟩
theorem qz:lA.ok Tryz.prog hint:=Tm.bF rfl
theorem ri:BV.ok Tryz.prog hint:=Tm.bF rfl
theorem KY:∀ n,ai Tryz.prog hint aH zH n:=
 ai.of (hk:=fun β=>(aj.mk [yw] []).hk β) (sh:=aH) (ay.of (by kernel_rfl)) ri ⟨⟨qz,Nat.le_refl _,Nat.le_refl _⟩,trivial⟩ (fun m=>ab.au (ab.nil.fn JJ) m)
  (fun _=>by kernel_rfl) (fun m x=>by kernel_rfl)
noncomputable def mK (n:Nat) (s:List UInt8) (base:Int):Option ((List UInt8)×(Bool×Unit)):=
 Option.bind (bif (s==([]:List UInt8)) then
  some true
 else
 bif (aO 5000 (len s)) then
  some true
 else
 bif (base !=8) then
  bif (base !=10) then
  some (base !=16)
  else
  some false
 else
 some false) fun b1=>
 bif b1 then
 some (([]:List UInt8),false,())
 else
 Option.bind (qt n s base ([]:List Int) 0) fun y18=>
 match y18 with
 | .inl y19=>
  bif (ite (Eq false true) (!(List.isEmpty y19.1.1)) (List.isEmpty y19.1.1)) then
  some (([]:List UInt8),false,())
  else
  bif (base==10) then
  Option.bind (zr (n+2) y19.1.1 ([]:List Int) (IntKind.wrap .i64 ((len y19.1.1) - 1))) fun y25=>
  Option.bind (kR n y25.1.1) fun y26=>
  some (y26.1,true,())
  else
  Option.bind (mi n base y19.1.1 (0::([]:List Int)) 0) fun y35=>
  Option.bind (kR n y35.1.1) fun y36=>
  some (y36.1,true,())
 | .inr _=>
  some (([]:List UInt8),false,())
noncomputable def ye:aT:=⟨81,[(false,.str),(false,(.int .i64))],[(false,.str),(false,.bool)],2,fun n x=>mK n x.1 x.2.1⟩
theorem KO (n:Nat):ao Tryz.prog hint aH ye n:=
 ao.of (hk:=fun β=>(aj.mk [qX] [zH,Fc,zP]).hk β) (sh:=aH) (fun m _=>ab.au ((((ab.nil.loop Jy q7).loop Mr vB).fn Db).loop KY ri) m) (fun x=>by kernel_rfl)
noncomputable def iY (_n:Nat) (s:List UInt8) (x:List UInt8):Option (Bool×Unit):=
 bif (aB (len x) (len s)) then
 bif (aB (len x) (len s)) then
 some (((List.take ((Int.toNat (len x)) - 0) (List.drop 0 s))==x),())
 else none
 else
 some (false,())
noncomputable def mA:aT:=⟨80,[(false,.str),(false,.str)],[(false,.bool)],0,fun n x=>iY n x.1 x.2.1⟩
theorem vl (n:Nat):ao Tryz.prog hint aH mA n:=
 ao.of (hk:=fun β=>(aj.mk [] []).hk β) (sh:=aH) (fun m _=>ab.au ab.nil m) (fun x=>by kernel_rfl)
noncomputable def nW:Tm:=⟨[(0,.one (.bool)),(1,.one (.str)),(2,.one (.int .i64)),(6,.one (.fix (TV.ptr 64 0)))],[(64,.cells 38 [.bool,.str,.int .i64,.int .i64] true)],65,65,1001⟩
noncomputable def IN:Tm:=⟨[(0,.one (.bool)),(1,.one (.str)),(2,.one (.int .i64)),(6,.one (.fix (TV.ptr 64 0)))],[(64,.cells 38 [.bool,.str,.int .i64,.int .i64] true)],65,65,1001⟩
noncomputable def Dv:Nat→Bool→(List UInt8)→Int→Bool→(List UInt8)→Int→Int→Option ((Bool×((List UInt8)×(Int×(Unit×Unit))))×((Bool×((List UInt8)×(Int×(Int×Unit))))×Unit))
 |0,_,_,_,_,_,_,_=>none
 |n+1,t0,t1,t2,c64_0,c64_1,c64_2,c64_3=>
 Option.bind (bif (aO 1 (len t1)) then
  Option.bind (t1[0]?) fun x7=>
  some (x7==(48:UInt8))
  else
  some false) fun b8=>
 bif b8 then
  bif (aB 1 (len t1)) then
  Dv n t0 (List.take ((List.length t1) - 1) (List.drop 1 t1)) t2 c64_0 c64_1 c64_2 c64_3
  else none
 else
 some ((t0,(t1,(t2,((),())))),((c64_0,(c64_1,(c64_2,(c64_3,())))),()))
noncomputable def CT:aA:=⟨82,1,none,IN,[(.exit 0,nW)],0,fun n x=>Dv n x.1.1 x.1.2.1 x.1.2.2.1 x.2.1.1 x.2.1.2.1 x.2.1.2.2.1 x.2.1.2.2.2.1,[]⟩
theorem sq:nW.ok Tryz.prog hint:=Tm.bF rfl
theorem vu:IN.ok Tryz.prog hint:=Tm.bF rfl
theorem NO:∀ n,ai Tryz.prog hint aH CT n:=
 ai.of (hk:=fun β=>(aj.mk [] []).hk β) (sh:=aH) (ay.of (by kernel_rfl)) vu ⟨⟨sq,Nat.le_refl _,Nat.le_refl _⟩,trivial⟩ (fun m=>ab.au ab.nil m)
  (fun _=>by kernel_rfl) (fun m x=>by kernel_rfl)
noncomputable def nz:Tm:=⟨[(0,.one (.bool)),(1,.one (.str)),(2,.one (.int .i64)),(6,.one (.fix (TV.ptr 64 0)))],[(64,.cells 38 [.bool,.str,.int .i64,.int .i64] true)],65,65,2002⟩
noncomputable def II:Tm:=⟨[(0,.one (.bool)),(1,.one (.str)),(2,.one (.int .i64)),(6,.one (.fix (TV.ptr 64 0)))],[(64,.cells 38 [.bool,.str,.int .i64,.int .i64] true)],65,65,2002⟩
noncomputable def Fj:Nat→Bool→(List UInt8)→Int→Bool→(List UInt8)→Int→Int→Option ((Bool×((List UInt8)×(Int×(Unit×Unit))))×((Bool×((List UInt8)×(Int×(Int×Unit))))×Unit))
 |0,_,_,_,_,_,_,_=>none
 |n+1,t0,t1,t2,c64_0,c64_1,c64_2,c64_3=>
 bif (aB 0 (IntKind.wrap .i64 ((len t1) - 1))) then
 Option.bind (t1[(Int.toNat (IntKind.wrap .i64 ((len t1) - 1)))]?) fun x14=>
 bif (x14==(48:UInt8)) then
  bif ((aB 0 (IntKind.wrap .i64 ((len t1) - 1))) &&(aB (IntKind.wrap .i64 ((len t1) - 1)) (len t1))) then
  Fj n t0 (List.take ((Int.toNat (IntKind.wrap .i64 ((len t1) - 1))) - 0) (List.drop 0 t1)) (IntKind.wrap .i64 (t2+1)) c64_0 c64_1 c64_2 c64_3
  else none
 else
 some ((t0,(t1,(t2,((),())))),((c64_0,(c64_1,(c64_2,(c64_3,())))),()))
 else none
noncomputable def Fm:aA:=⟨82,5,none,II,[(.exit 2,nz)],0,fun n x=>Fj n x.1.1 x.1.2.1 x.1.2.2.1 x.2.1.1 x.2.1.2.1 x.2.1.2.2.1 x.2.1.2.2.2.1,[]⟩
theorem sV:nz.ok Tryz.prog hint:=Tm.bF rfl
theorem wc:II.ok Tryz.prog hint:=Tm.bF rfl
theorem Og:∀ n,ai Tryz.prog hint aH Fm n:=
 ai.of (hk:=fun β=>(aj.mk [] []).hk β) (sh:=aH) (ay.of (by kernel_rfl)) wc ⟨⟨sV,Nat.le_refl _,Nat.le_refl _⟩,trivial⟩ (fun m=>ab.au ab.nil m)
  (fun _=>by kernel_rfl) (fun m x=>by kernel_rfl)
noncomputable def dy (n:Nat) (below:Bool) (digits:List UInt8) (exp:Int):Option ((Bool×(List UInt8×(Int×Int)))×Unit):=
 Option.bind (Dv (n+1) below digits exp false ([]:List UInt8) 0 0) fun y9=>
 Option.bind (bif (y9.1.2.1==([48]:List UInt8)) then
  some true
 else
 some (y9.1.2.1==([]:List UInt8))) fun b11=>
 bif b11 then
 some ((y9.1.1,(([48]:List UInt8),(0,0))),())
 else
 Option.bind (Fj (n+1) y9.1.1 y9.1.2.1 y9.1.2.2.1 y9.2.1.1 y9.2.1.2.1 y9.2.1.2.2.1 y9.2.1.2.2.2.1) fun y15=>
 some ((y15.1.1,(y15.1.2.1,(y15.1.2.2.1,0))),())
noncomputable def u0:aT:=⟨82,[(false,.bool),(false,.str),(false,(.int .i64))],[(true,(.cons .bool (.cons .str (.cons (.int .i64) (.int .i64)))))],1,fun n x=>dy n x.1 x.2.1 x.2.2.1⟩
theorem DU (n:Nat):ao Tryz.prog hint aH u0 n:=
 ao.of (hk:=fun β=>(aj.mk [] [Fm,CT]).hk β) (sh:=aH) (fun m _=>ab.au ((ab.nil.loop NO vu).loop Og wc) m) (fun x=>by kernel_rfl)
noncomputable def gL (n:Nat) (s:List UInt8):Option ((List UInt8)×(Bool×Unit)):=
 Option.bind (iY n s ([45]:List UInt8)) fun y0=>
 bif y0.1 then
 bif (aB 1 (len s)) then
 Option.bind (s[0]?) fun x1=>
 some ((List.take ((List.length s) - 1) (List.drop 1 s)),(x1==(45:UInt8)),())
 else none
 else
 Option.bind (iY n s ([43]:List UInt8)) fun y2=>
 bif y2.1 then
 bif (aB 1 (len s)) then
 Option.bind (s[0]?) fun x3=>
 some ((List.take ((List.length s) - 1) (List.drop 1 s)),(x3==(45:UInt8)),())
 else none
 else
 some (s,false,())
noncomputable def mo:aT:=⟨79,[(false,.str)],[(false,.str),(false,.bool)],1,fun n x=>gL n x.1⟩
theorem tv (n:Nat):ao Tryz.prog hint aH mo n:=
 ao.of (hk:=fun β=>(aj.mk [mA] []).hk β) (sh:=aH) (fun m _=>ab.au (ab.nil.fn vl) m) (fun x=>by kernel_rfl)
noncomputable def oB:Tm:=⟨[(0,.one (.str)),(1,.one (.int .i64)),(6,.one (.int .i64))],[],64,64,1000⟩
noncomputable def Iu:Tm:=⟨[(0,.one (.str)),(1,.one (.int .i64)),(6,.one (.int .i64))],[],64,64,1000⟩
noncomputable def zQ:Nat→(List UInt8)→Int→Int→Option (((List UInt8)×(Int×(Int×Unit)))×Unit)
 |0,_,_,_=>none
 |n+1,t0,t1,t6=>
 Option.bind (bif (aO t1 (len t0)) then
  bif (aB 0 t1) then
  Option.bind (t0[(Int.toNat t1)]?) fun x9=>
  bif (Nat.ble (UInt8.toNat (48:UInt8)) (UInt8.toNat x9)) then
   bif (aB 0 t1) then
   Option.bind (t0[(Int.toNat t1)]?) fun x10=>
   some (Nat.ble (UInt8.toNat x10) (UInt8.toNat (57:UInt8)))
   else none
  else
  some false
  else none
  else
  some false) fun b11=>
 bif b11 then
  zQ n t0 (IntKind.wrap .i64 (t1+1)) t6
 else
 some ((t0,(t1,(t6,()))),())
noncomputable def CM:aA:=⟨83,2,none,Iu,[(.exit 0,oB)],0,fun n x=>zQ n x.1.1 x.1.2.1 x.1.2.2.1,[]⟩
theorem sP:oB.ok Tryz.prog hint:=Tm.bF rfl
theorem uJ:Iu.ok Tryz.prog hint:=Tm.bF rfl
theorem ME:∀ n,ai Tryz.prog hint aH CM n:=
 ai.of (hk:=fun β=>(aj.mk [] []).hk β) (sh:=aH) (ay.of (by kernel_rfl)) uJ ⟨⟨sP,Nat.le_refl _,Nat.le_refl _⟩,trivial⟩ (fun m=>ab.au ab.nil m)
  (fun _=>by kernel_rfl) (fun m x=>by kernel_rfl)
noncomputable def xO (n:Nat) (s:List UInt8) (i:Int):Option ((List UInt8)×(Int×Unit)):=
 Option.bind (zQ (n+1) s i i) fun y12=>
 bif ((aB 0 y12.1.2.1) &&(aB y12.1.2.1 (len y12.1.1))) then
 bif ((aB 0 y12.1.2.2.1) &&(aB y12.1.2.2.1 (((Int.toNat y12.1.2.1):Nat):Int))) then
 some ((List.take ((Int.toNat y12.1.2.1) - (Int.toNat y12.1.2.2.1)) (List.drop (Int.toNat y12.1.2.2.1) y12.1.1)),y12.1.2.1,())
 else none
 else none
noncomputable def HQ:aT:=⟨83,[(false,.str),(false,(.int .i64))],[(false,.str),(false,(.int .i64))],1,fun n x=>xO n x.1 x.2.1⟩
theorem OD (n:Nat):ao Tryz.prog hint aH HQ n:=
 ao.of (hk:=fun β=>(aj.mk [] [CM]).hk β) (sh:=aH) (fun m _=>ab.au (ab.nil.loop ME uJ) m) (fun x=>by kernel_rfl)
noncomputable def OC (n:Nat) (s:List UInt8):Option ((Bool×(List UInt8×(Int×Int)))×(Bool×Unit)):=
 Option.bind (gL (n+1) s) fun y0=>
 Option.bind (iY (n+2) s ([48,111]:List UInt8)) fun y1=>
 bif y1.1 then
 bif (aB 2 (len s)) then
 Option.bind (iY (n+2) s ([48,120]:List UInt8)) fun y2=>
 bif y2.1 then
  bif (aB 2 (len s)) then
  Option.bind (mK n (List.take ((List.length s) - 2) (List.drop 2 s)) 16) fun y3=>
  bif (!y3.2.1) then
  some ((false,(([]:List UInt8),(0,0))),false,())
  else
  bif y0.2.1 then
  Option.bind (dy (n+1) (!(y3.1==([48]:List UInt8))) y3.1 0) fun y4=>
  some ((y4.1.1,(y4.1.2.1,(y4.1.2.2.1,y4.1.2.2.2))),true,())
  else
  Option.bind (dy (n+1) false y3.1 0) fun y5=>
  some ((y5.1.1,(y5.1.2.1,(y5.1.2.2.1,y5.1.2.2.2))),true,())
  else none
 else
 Option.bind (mK n (List.take ((List.length s) - 2) (List.drop 2 s)) 8) fun y6=>
 bif (!y6.2.1) then
  some ((false,(([]:List UInt8),(0,0))),false,())
 else
 bif y0.2.1 then
  Option.bind (dy (n+1) (!(y6.1==([48]:List UInt8))) y6.1 0) fun y7=>
  some ((y7.1.1,(y7.1.2.1,(y7.1.2.2.1,y7.1.2.2.2))),true,())
 else
 Option.bind (dy (n+1) false y6.1 0) fun y8=>
 some ((y8.1.1,(y8.1.2.1,(y8.1.2.2.1,y8.1.2.2.2))),true,())
 else none
 else
 Option.bind (iY (n+2) s ([48,120]:List UInt8)) fun y9=>
 bif y9.1 then
 bif (aB 2 (len s)) then
 Option.bind (mK n (List.take ((List.length s) - 2) (List.drop 2 s)) 16) fun y10=>
 bif (!y10.2.1) then
  some ((false,(([]:List UInt8),(0,0))),false,())
 else
 bif y0.2.1 then
  Option.bind (dy (n+1) (!(y10.1==([48]:List UInt8))) y10.1 0) fun y11=>
  some ((y11.1.1,(y11.1.2.1,(y11.1.2.2.1,y11.1.2.2.2))),true,())
 else
 Option.bind (dy (n+1) false y10.1 0) fun y12=>
 some ((y12.1.1,(y12.1.2.1,(y12.1.2.2.1,y12.1.2.2.2))),true,())
 else none
 else
 Option.bind (mK n y0.1 10) fun y13=>
 bif (!y13.2.1) then
 some ((false,(([]:List UInt8),(0,0))),false,())
 else
 bif y0.2.1 then
 Option.bind (dy (n+1) (!(y13.1==([48]:List UInt8))) y13.1 0) fun y14=>
 some ((y14.1.1,(y14.1.2.1,(y14.1.2.2.1,y14.1.2.2.2))),true,())
 else
 Option.bind (dy (n+1) false y13.1 0) fun y15=>
 some ((y15.1.1,(y15.1.2.1,(y15.1.2.2.1,y15.1.2.2.2))),true,())
noncomputable def IS:aT:=⟨60,[(false,.str)],[(true,(.cons .bool (.cons .str (.cons (.int .i64) (.int .i64))))),(false,.bool)],3,fun n x=>OC n x.1⟩
theorem OS (n:Nat):ao Tryz.prog hint aH IS n:=
 ao.of (hk:=fun β=>(aj.mk [u0,ye,mA,mo] []).hk β) (sh:=aH) (fun m _=>ab.au ((((ab.nil.fn tv).fn vl).fn KO).fn DU) m) (fun x=>by kernel_rfl)
noncomputable def lz:Tm:=⟨[(2,.one (.fix (TV.ptr 64 0))),(4,.one (.str)),(5,.one (.bool)),(6,.one (.str)),(8,.one (.str)),(9,.one (.int .i64)),(11,.one (.bool))],[(64,.cells 38 [.bool,.str,.int .i64,.int .i64] true)],65,65,1001⟩
noncomputable def CQ:Tm:=⟨[(2,.one (.fix (TV.ptr 64 0))),(4,.one (.str)),(5,.one (.bool)),(6,.one (.str)),(8,.one (.str)),(9,.one (.int .i64)),(11,.one (.bool)),(12,.one (.str)),(13,.one (.int .i64)),(14,.one (.int .i64))],[(64,.cells 38 [.bool,.str,.int .i64,.int .i64] true)],65,65,1001⟩
noncomputable def iZ:Nat→(List UInt8)→Bool→(List UInt8)→(List UInt8)→Int→Bool→(List UInt8)→Int→Int→Bool→(List UInt8)→Int→Int→Option ((Unit×((List UInt8)×(Bool×((List UInt8)×((List UInt8)×(Int×(Bool×Unit)))))))×((Bool×((List UInt8)×(Int×(Int×Unit))))×Unit))
 |0,_,_,_,_,_,_,_,_,_,_,_,_,_=>none
 |n+1,t4,t5,t6,t8,t9,t11,t12,t13,t14,c64_0,c64_1,c64_2,c64_3=>
 bif (aO t14 t13) then
  bif (aB 0 t14) then
  Option.bind (t12[(Int.toNat t14)]?) fun x18=>
  iZ n t4 t5 t6 t8 (IntKind.wrap .i64 ((IntKind.wrap .i64 ((IntKind.wrap .i64 (t9*10))+(IntKind.wrap .i64 (ub x18)))) - 48)) t11 t12 t13 (IntKind.wrap .i64 (t14+1)) c64_0 c64_1 c64_2 c64_3
  else none
 else
 some (((),(t4,(t5,(t6,(t8,(t9,(t11,()))))))),((c64_0,(c64_1,(c64_2,(c64_3,())))),()))
noncomputable def zf:aA:=⟨61,25,none,CQ,[(.exit 2,lz)],0,fun n x=>iZ n x.1.2.1 x.1.2.2.1 x.1.2.2.2.1 x.1.2.2.2.2.1 x.1.2.2.2.2.2.1 x.1.2.2.2.2.2.2.1 x.1.2.2.2.2.2.2.2.1 x.1.2.2.2.2.2.2.2.2.1 x.1.2.2.2.2.2.2.2.2.2.1 x.2.1.1 x.2.1.2.1 x.2.1.2.2.1 x.2.1.2.2.2.1,[]⟩
theorem qm:lz.ok Tryz.prog hint:=Tm.bF rfl
theorem rR:CQ.ok Tryz.prog hint:=Tm.bF rfl
theorem Lg:∀ n,ai Tryz.prog hint aH zf n:=
 ai.of (hk:=fun β=>(aj.mk [] []).hk β) (sh:=aH) (ay.of (by kernel_rfl)) rR ⟨⟨qm,Nat.le_refl _,Nat.le_refl _⟩,trivial⟩ (fun m=>ab.au ab.nil m)
  (fun _=>by kernel_rfl) (fun m x=>by kernel_rfl)
noncomputable def A0 (n:Nat) (s:List UInt8):Option ((Bool×(List UInt8×(Int×Int)))×(Bool×Unit)):=
 Option.bind (gL n s) fun y0=>
 bif (y0.1==([46,105,110,102]:List UInt8)) then
 some ((y0.2.1,(([]:List UInt8),(0,1))),true,())
 else
 bif (y0.1==([46,73,110,102]:List UInt8)) then
 some ((y0.2.1,(([]:List UInt8),(0,1))),true,())
 else
 bif (y0.1==([46,73,78,70]:List UInt8)) then
 some ((y0.2.1,(([]:List UInt8),(0,1))),true,())
 else
 bif (s==([46,110,97,110]:List UInt8)) then
 some ((false,(([]:List UInt8),(0,2))),true,())
 else
 bif (s==([46,78,97,78]:List UInt8)) then
 some ((false,(([]:List UInt8),(0,2))),true,())
 else
 bif (s==([46,78,65,78]:List UInt8)) then
 some ((false,(([]:List UInt8),(0,2))),true,())
 else
 Option.bind (xO n y0.1 0) fun y1=>
 Option.bind (bif (aO y1.2.1 (len y0.1)) then
  bif (aB 0 y1.2.1) then
  Option.bind (y0.1[(Int.toNat y1.2.1)]?) fun x3=>
  some (x3==(46:UInt8))
  else none
 else
 some false) fun b4=>
 bif b4 then
 Option.bind (xO n y0.1 (IntKind.wrap .i64 (y1.2.1+1))) fun y5=>
 Option.bind (bif (y1.1==([]:List UInt8)) then
  bif (y5.1==([]:List UInt8)) then
   some true
  else
  some (aO 5000 (IntKind.wrap .i64 ((len y1.1)+(len y5.1))))
  else
  some (aO 5000 (IntKind.wrap .i64 ((len y1.1)+(len y5.1))))) fun b7=>
 bif b7 then
  some ((false,(([]:List UInt8),(0,0))),false,())
 else
 Option.bind (bif (aO y5.2.1 (len y0.1)) then
  bif (aB 0 y5.2.1) then
  Option.bind (y0.1[(Int.toNat y5.2.1)]?) fun x9=>
  bif (x9==(101:UInt8)) then
   some true
  else
  bif (aB 0 y5.2.1) then
  Option.bind (y0.1[(Int.toNat y5.2.1)]?) fun x10=>
  some (x10==(69:UInt8))
  else none
  else none
  else
  some false) fun b11=>
 bif b11 then
  bif ((aB 0 (IntKind.wrap .i64 (y5.2.1+1))) &&(aB (IntKind.wrap .i64 (y5.2.1+1)) (len y0.1))) then
  Option.bind (gL n (List.take ((List.length y0.1) - (Int.toNat (IntKind.wrap .i64 (y5.2.1+1)))) (List.drop (Int.toNat (IntKind.wrap .i64 (y5.2.1+1))) y0.1))) fun y12=>
  Option.bind (xO n y12.1 0) fun y13=>
  Option.bind (bif (y13.2.1 !=(len y12.1)) then
   some true
  else
  bif (aO y13.2.1 1) then
   some true
  else
  some (aO 9 y13.2.1)) fun b15=>
  bif b15 then
  some ((false,(([]:List UInt8),(0,0))),false,())
  else
  Option.bind (iZ (n+2) y0.1 y0.2.1 y1.1 y5.1 0 y12.2.1 y13.1 y13.2.1 0 false ([]:List UInt8) 0 0) fun y19=>
  bif y19.1.2.2.2.2.2.2.1 then
  bif ((len y19.1.2.1) !=(len y19.1.2.1)) then
   some ((false,(([]:List UInt8),(0,0))),false,())
  else
  bif (room ((List.length y19.1.2.2.2.1)+(List.length y19.1.2.2.2.2.1))) then
  Option.bind (dy n y19.1.2.2.1 (y19.1.2.2.2.1++y19.1.2.2.2.2.1) (IntKind.wrap .i64 ((IntKind.wrap .i64 (0 - y19.1.2.2.2.2.2.1)) - (len y19.1.2.2.2.2.1)))) fun y20=>
  some ((y20.1.1,(y20.1.2.1,(y20.1.2.2.1,y20.1.2.2.2))),true,())
  else none
  else
  bif ((len y19.1.2.1) !=(len y19.1.2.1)) then
  some ((false,(([]:List UInt8),(0,0))),false,())
  else
  bif (room ((List.length y19.1.2.2.2.1)+(List.length y19.1.2.2.2.2.1))) then
  Option.bind (dy n y19.1.2.2.1 (y19.1.2.2.2.1++y19.1.2.2.2.2.1) (IntKind.wrap .i64 (y19.1.2.2.2.2.2.1 - (len y19.1.2.2.2.2.1)))) fun y21=>
  some ((y21.1.1,(y21.1.2.1,(y21.1.2.2.1,y21.1.2.2.2))),true,())
  else none
  else none
 else
 bif (y5.2.1 !=(len y0.1)) then
  some ((false,(([]:List UInt8),(0,0))),false,())
 else
 bif (room ((List.length y1.1)+(List.length y5.1))) then
 Option.bind (dy n y0.2.1 (y1.1++y5.1) (IntKind.wrap .i64 (0 - (len y5.1)))) fun y22=>
 some ((y22.1.1,(y22.1.2.1,(y22.1.2.2.1,y22.1.2.2.2))),true,())
 else none
 else
 Option.bind (bif (y1.1==([]:List UInt8)) then
  some true
 else
 some (aO 5000 (IntKind.wrap .i64 ((len y1.1)+0)))) fun b24=>
 bif b24 then
 some ((false,(([]:List UInt8),(0,0))),false,())
 else
 Option.bind (bif (aO y1.2.1 (len y0.1)) then
  bif (aB 0 y1.2.1) then
  Option.bind (y0.1[(Int.toNat y1.2.1)]?) fun x26=>
  bif (x26==(101:UInt8)) then
  some true
  else
  bif (aB 0 y1.2.1) then
  Option.bind (y0.1[(Int.toNat y1.2.1)]?) fun x27=>
  some (x27==(69:UInt8))
  else none
  else none
 else
 some false) fun b28=>
 bif b28 then
 bif ((aB 0 (IntKind.wrap .i64 (y1.2.1+1))) &&(aB (IntKind.wrap .i64 (y1.2.1+1)) (len y0.1))) then
 Option.bind (gL n (List.take ((List.length y0.1) - (Int.toNat (IntKind.wrap .i64 (y1.2.1+1)))) (List.drop (Int.toNat (IntKind.wrap .i64 (y1.2.1+1))) y0.1))) fun y29=>
 Option.bind (xO n y29.1 0) fun y30=>
 Option.bind (bif (y30.2.1 !=(len y29.1)) then
  some true
  else
  bif (aO y30.2.1 1) then
  some true
  else
  some (aO 9 y30.2.1)) fun b32=>
 bif b32 then
  some ((false,(([]:List UInt8),(0,0))),false,())
 else
 Option.bind (iZ (n+2) y0.1 y0.2.1 y1.1 ([]:List UInt8) 0 y29.2.1 y30.1 y30.2.1 0 false ([]:List UInt8) 0 0) fun y33=>
 bif y33.1.2.2.2.2.2.2.1 then
  bif ((len y33.1.2.1) !=(len y33.1.2.1)) then
  some ((false,(([]:List UInt8),(0,0))),false,())
  else
  bif (room ((List.length y33.1.2.2.2.1)+(List.length y33.1.2.2.2.2.1))) then
  Option.bind (dy n y33.1.2.2.1 (y33.1.2.2.2.1++y33.1.2.2.2.2.1) (IntKind.wrap .i64 ((IntKind.wrap .i64 (0 - y33.1.2.2.2.2.2.1)) - (len y33.1.2.2.2.2.1)))) fun y34=>
  some ((y34.1.1,(y34.1.2.1,(y34.1.2.2.1,y34.1.2.2.2))),true,())
  else none
 else
 bif ((len y33.1.2.1) !=(len y33.1.2.1)) then
  some ((false,(([]:List UInt8),(0,0))),false,())
 else
 bif (room ((List.length y33.1.2.2.2.1)+(List.length y33.1.2.2.2.2.1))) then
 Option.bind (dy n y33.1.2.2.1 (y33.1.2.2.2.1++y33.1.2.2.2.2.1) (IntKind.wrap .i64 (y33.1.2.2.2.2.2.1 - (len y33.1.2.2.2.2.1)))) fun y35=>
 some ((y35.1.1,(y35.1.2.1,(y35.1.2.2.1,y35.1.2.2.2))),true,())
 else none
 else none
 else
 bif (y1.2.1 !=(len y0.1)) then
 some ((false,(([]:List UInt8),(0,0))),false,())
 else
 bif (room ((List.length y1.1)+(List.length ([]:List UInt8)))) then
 Option.bind (dy n y0.2.1 (y1.1++([]:List UInt8)) 0) fun y36=>
 some ((y36.1.1,(y36.1.2.1,(y36.1.2.2.1,y36.1.2.2.2))),true,())
 else none
noncomputable def yJ:aT:=⟨61,[(false,.str)],[(true,(.cons .bool (.cons .str (.cons (.int .i64) (.int .i64))))),(false,.bool)],2,fun n x=>A0 n x.1⟩
theorem Km (n:Nat):ao Tryz.prog hint aH yJ n:=
 ao.of (hk:=fun β=>(aj.mk [u0,HQ,mo] [zf]).hk β) (sh:=aH) (fun m _=>ab.au ((((ab.nil.fn tv).fn OD).loop Lg rR).fn DU) m) (fun x=>by kernel_rfl)
end Go.Proofs.YtnddpppljnjmcaaGreatDoor
/- Plain functions for the program's. -/
namespace Go.Proofs.YtnddpppljnjmcaaGreatDoor
open Go Go.Iv Go.Gv
set_option maxRecDepth 100000
set_option linter.unusedVariables false
noncomputable def oU:Tm:=⟨[],[(64,.arr 9 .str true false .no)],65,65,1001⟩
noncomputable def vZ:Tm:=⟨[(4,.one (.bool))],[(64,.arr 9 .str true false .no)],65,65,1001⟩
noncomputable def Il:Tm:=⟨[(0,.one (.str)),(1,.one (.fix (TV.all 64))),(5,.one (.int .i64))],[(64,.arr 9 .str true false .no)],65,65,1001⟩
noncomputable def py:Nat→(List UInt8)→Int→(List (List UInt8))→Option ((Unit×((List (List UInt8))×Unit))⊕((Bool×Unit)×((List (List UInt8))×Unit)))
 |0,_,_,_=>none
 |n+1,t0,t5,a64=>
 bif (aO t5 (len a64)) then
  bif ((aB 0 t5) &&(aO t5 (len a64))) then
  Option.bind (a64[(Int.toNat t5)]?) fun x2=>
  bif (x2==t0) then
  some (.inr ((true,()),(a64,())))
  else
  py n t0 (IntKind.wrap .i64 (t5+1)) a64
  else none
 else
 some (.inl ((),(a64,())))
noncomputable def nu:aA:=⟨84,2,none,Il,[(.exit 0,oU),(.ret,vZ)],0,fun n x=>py n x.1.1 x.1.2.2.1 x.2.1,[]⟩
theorem s7:oU.ok Tryz.prog hint:=Tm.bF rfl
theorem xi:vZ.ok Tryz.prog hint:=Tm.bF rfl
theorem jc:Il.ok Tryz.prog hint:=Tm.bF rfl
theorem uF:∀ n,ai Tryz.prog hint aH nu n:=
 ai.of (hk:=fun β=>(aj.mk [] []).hk β) (sh:=aH) (ay.of (by kernel_rfl)) jc ⟨⟨s7,Nat.le_refl _,Nat.le_refl _⟩,⟨xi,Nat.le_refl _,Nat.le_refl _⟩,trivial⟩ (fun m=>ab.au ab.nil m)
  (fun _=>by kernel_rfl) (fun m x=>by kernel_rfl)
noncomputable def HP (n:Nat) (s:List UInt8):Option (Bool×Unit):=
 Option.bind (py (n+1) s 0 (([110,117,108,108]:List UInt8)::(([78,117,108,108]:List UInt8)::(([78,85,76,76]:List UInt8)::(([126]:List UInt8)::(([]:List UInt8):: [])))))) fun y3=>
 match y3 with
 | .inl _=>
  some (false,())
 | .inr y5=>
  some (y5.1.1,())
noncomputable def Et:aT:=⟨62,[(false,.str)],[(false,.bool)],2,fun n x=>HP n x.1⟩
theorem Nq (n:Nat):ao Tryz.prog hint aH Et n:=
 ao.of (hk:=fun β=>(aj.mk [] [nu]).hk β) (sh:=aH) (fun m _=>ab.au (ab.nil.loop uF jc) m) (fun x=>by kernel_rfl)
noncomputable def KW (n:Nat) (s:List UInt8):Option (Bool×Unit):=
 Option.bind (py (n+1) s 0 (([116,114,117,101]:List UInt8)::(([84,114,117,101]:List UInt8)::(([84,82,85,69]:List UInt8):: [])))) fun y0=>
 match y0 with
 | .inl _=>
  some (false,())
 | .inr y2=>
  some (y2.1.1,())
noncomputable def IV:aT:=⟨63,[(false,.str)],[(false,.bool)],2,fun n x=>KW n x.1⟩
theorem OY (n:Nat):ao Tryz.prog hint aH IV n:=
 ao.of (hk:=fun β=>(aj.mk [] [nu]).hk β) (sh:=aH) (fun m _=>ab.au (ab.nil.loop uF jc) m) (fun x=>by kernel_rfl)
noncomputable def So (n:Nat) (s:List UInt8):Option (Bool×Unit):=
 Option.bind (py (n+1) s 0 (([102,97,108,115,101]:List UInt8)::(([70,97,108,115,101]:List UInt8)::(([70,65,76,83,69]:List UInt8):: [])))) fun y0=>
 match y0 with
 | .inl _=>
  some (false,())
 | .inr y2=>
  some (y2.1.1,())
noncomputable def Lp:aT:=⟨64,[(false,.str)],[(false,.bool)],2,fun n x=>So n x.1⟩
theorem Rf (n:Nat):ao Tryz.prog hint aH Lp n:=
 ao.of (hk:=fun β=>(aj.mk [] [nu]).hk β) (sh:=aH) (fun m _=>ab.au (ab.nil.loop uF jc) m) (fun x=>by kernel_rfl)
noncomputable def vM (n:Nat) (tag:List UInt8) (s:List UInt8):Option ((Int×(Bool×((Bool×(List UInt8×(Int×Int)))×List UInt8)))×(Int×Unit)):=
 Option.bind (OC n s) fun y0=>
 Option.bind (A0 (n+1) s) fun y1=>
 bif (tag==([116,97,103,58,121,97,109,108,46,111,114,103,44,50,48,48,50,58,110,117,108,108]:List UInt8)) then
 Option.bind (HP (n+1) s) fun y2=>
 bif y2.1 then
  some ((1,(false,((false,(([]:List UInt8),(0,0))),([]:List UInt8)))),0,())
 else
 some ((0,(false,((false,(([]:List UInt8),(0,0))),([]:List UInt8)))),15,())
 else
 bif (tag==([116,97,103,58,121,97,109,108,46,111,114,103,44,50,48,48,50,58,98,111,111,108]:List UInt8)) then
 Option.bind (KW (n+1) s) fun y3=>
 bif y3.1 then
  Option.bind (KW (n+1) s) fun y4=>
  some ((2,(y4.1,((false,(([]:List UInt8),(0,0))),([]:List UInt8)))),0,())
 else
 Option.bind (So (n+1) s) fun y5=>
 bif y5.1 then
  Option.bind (KW (n+1) s) fun y6=>
  some ((2,(y6.1,((false,(([]:List UInt8),(0,0))),([]:List UInt8)))),0,())
 else
 some ((0,(false,((false,(([]:List UInt8),(0,0))),([]:List UInt8)))),15,())
 else
 bif (tag==([116,97,103,58,121,97,109,108,46,111,114,103,44,50,48,48,50,58,105,110,116]:List UInt8)) then
 bif y0.2.1 then
  some ((3,(false,((y0.1.1,(y0.1.2.1,(y0.1.2.2.1,y0.1.2.2.2))),([]:List UInt8)))),0,())
 else
 some ((0,(false,((false,(([]:List UInt8),(0,0))),([]:List UInt8)))),15,())
 else
 bif (tag==([116,97,103,58,121,97,109,108,46,111,114,103,44,50,48,48,50,58,102,108,111,97,116]:List UInt8)) then
 bif y1.2.1 then
  some ((4,(false,((y1.1.1,(y1.1.2.1,(y1.1.2.2.1,y1.1.2.2.2))),([]:List UInt8)))),0,())
 else
 bif y0.2.1 then
  some ((4,(false,((y0.1.1,(y0.1.2.1,(y0.1.2.2.1,y0.1.2.2.2))),([]:List UInt8)))),0,())
 else
 some ((0,(false,((false,(([]:List UInt8),(0,0))),([]:List UInt8)))),15,())
 else
 some ((5,(false,((false,(([]:List UInt8),(0,0))),s))),0,())
noncomputable def zA:aT:=⟨47,[(false,.str),(false,.str)],[(true,(.cons (.int .i64) (.cons .bool (.cons (.cons .bool (.cons .str (.cons (.int .i64) (.int .i64)))) .str)))),(false,(.int .i64))],4,fun n x=>vM n x.1 x.2.1⟩
theorem KF (n:Nat):ao Tryz.prog hint aH zA n:=
 ao.of (hk:=fun β=>(aj.mk [Lp,IV,Et,yJ,IS] []).hk β) (sh:=aH) (fun m _=>ab.au (((((ab.nil.fn OS).fn Km).fn Nq).fn OY).fn Rf) m) (fun x=>by kernel_rfl)
noncomputable def kY (_n:Nat) (v:(Int×(Bool×((Bool×(List UInt8×(Int×Int)))×List UInt8)))) (w:(Int×(Bool×((Bool×(List UInt8×(Int×Int)))×List UInt8)))):Option (Bool×Unit):=
 bif (v.1 !=w.1) then
 some (false,())
 else
 bif (v.1==2) then
 some ((v.2.1==w.2.1),())
 else
 bif (v.1==3) then
 some (((v.2.2.1.1==w.2.2.1.1) &&((v.2.2.1.2.1==w.2.2.1.2.1) &&((v.2.2.1.2.2.1==w.2.2.1.2.2.1) &&((v.2.2.1.2.2.2==w.2.2.1.2.2.2) &&true)))),())
 else
 bif (v.1==4) then
 some (((v.2.2.1.1==w.2.2.1.1) &&((v.2.2.1.2.1==w.2.2.1.2.1) &&((v.2.2.1.2.2.1==w.2.2.1.2.2.1) &&((v.2.2.1.2.2.2==w.2.2.1.2.2.2) &&true)))),())
 else
 bif (v.1==5) then
 some ((v.2.2.2==w.2.2.2),())
 else
 some (true,())
noncomputable def l8:aT:=⟨17,[(true,(.cons (.int .i64) (.cons .bool (.cons (.cons .bool (.cons .str (.cons (.int .i64) (.int .i64)))) .str)))),(true,(.cons (.int .i64) (.cons .bool (.cons (.cons .bool (.cons .str (.cons (.int .i64) (.int .i64)))) .str))))],[(false,.bool)],0,fun n x=>kY n x.1 x.2.1⟩
theorem uH (n:Nat):ao Tryz.prog hint aH l8 n:=
 ao.of (hk:=fun β=>(aj.mk [] []).hk β) (sh:=aH) (fun m _=>ab.au ab.nil m) (fun x=>by kernel_rfl)
noncomputable def oc (n:Nat) (a:(Int×(List UInt8×(List UInt8×(List Int×Bool))))) (b:(Int×(List UInt8×(List UInt8×(List Int×Bool))))):Option (Bool×Unit):=
 Option.bind (vM n a.2.1 a.2.2.1) fun y0=>
 Option.bind (vM n b.2.1 b.2.2.1) fun y1=>
 Option.bind (bif (y0.2.1 !=0) then
  some true
 else
 some (y1.2.1 !=0)) fun b3=>
 bif b3 then
 some ((!(a.2.2.1==b.2.2.1)),())
 else
 Option.bind (kY (n+4) (y0.1.1,(y0.1.2.1,((y0.1.2.2.1.1,(y0.1.2.2.1.2.1,(y0.1.2.2.1.2.2.1,y0.1.2.2.1.2.2.2))),y0.1.2.2.2))) (y1.1.1,(y1.1.2.1,((y1.1.2.2.1.1,(y1.1.2.2.1.2.1,(y1.1.2.2.1.2.2.1,y1.1.2.2.1.2.2.2))),y1.1.2.2.2)))) fun y4=>
 some ((!y4.1),())
noncomputable def vE:aT:=⟨36,[(true,sN),(true,sN)],[(false,.bool)],5,fun n x=>oc n x.1 x.2.1⟩
theorem HA (n:Nat):ao Tryz.prog hint aH vE n:=
 ao.of (hk:=fun β=>(aj.mk [l8,zA] []).hk β) (sh:=aH) (fun m _=>ab.au ((ab.nil.fn KF).fn uH) m) (fun x=>by kernel_rfl)
noncomputable def jC:Tm:=⟨[(3,.one (.fix (TV.ptr 64 0))),(7,.one (.all 69 79 (.cons (.int .i64) (.int .i64)) .ex)),(8,.one (.all 70 79 (.cons (.int .i64) (.int .i64)) .no)),(9,.one (.fix (TV.ptr 68 0))),(10,.one (.bool))],[(64,.cells 25 [.aC sN,.aC (.int .i64)] true),(68,.cells 79 [.int .i64,.int .i64] true)],69,71,2005⟩
noncomputable def vS:Tm:=⟨[(3,.one (.fix (TV.ptr 64 0))),(7,.one (.all 69 79 (.cons (.int .i64) (.int .i64)) .ex)),(8,.one (.all 70 79 (.cons (.int .i64) (.int .i64)) .no)),(9,.one (.fix (TV.ptr 68 0))),(10,.one (.bool)),(11,.one (.int .i64))],[(64,.cells 25 [.aC sN,.aC (.int .i64)] true),(68,.cells 79 [.int .i64,.int .i64] true)],69,71,2005⟩
noncomputable def gD:Nat→(List (Int×Int))→(List (Int×Int))→Bool→Int→qN→(List Int)→Int→Int→Option ((Unit×((List (Int×Int))×((List (Int×Int))×(Unit×(Bool×Unit)))))×((qN×((List Int)×Unit))×((Int×(Int×Unit))×Unit)))
 |0,_,_,_,_,_,_,_,_=>none
 |n+1,t7,t8,t10,t11,c64_0,c64_1,c68_0,c68_1=>
 Option.bind (bif (aO t11 (len t7)) then
  some (!t10)
  else
  some false) fun b27=>
 bif b27 then
  bif ((aB 0 t11) &&(aO t11 (len t7))) then
  Option.bind (t7[(Int.toNat t11)]?) fun x28=>
  gD n t7 t8 ((x28.1==c68_0) &&((x28.2==c68_1) &&true)) (IntKind.wrap .i64 (t11+1)) c64_0 c64_1 c68_0 c68_1
  else none
 else
 some (((),(t7,(t8,((),(t10,()))))),((c64_0,(c64_1,())),((c68_0,(c68_1,())),())))
noncomputable def rI:aA:=⟨24,8,none,vS,[(.exit 2,jC)],0,fun n x=>gD n x.1.2.1 x.1.2.2.1 x.1.2.2.2.2.1 x.1.2.2.2.2.2.1 x.2.1.1 x.2.1.2.1 x.2.2.1.1 x.2.2.1.2.1,[]⟩
theorem mB:jC.ok Tryz.prog hint:=Tm.bF rfl
theorem lR:vS.ok Tryz.prog hint:=Tm.bF rfl
theorem Co:∀ n,ai Tryz.prog hint aH rI n:=
 ai.of (hk:=fun β=>(aj.mk [] []).hk β) (sh:=aH) (ay.of (by kernel_rfl)) lR ⟨⟨mB,Nat.le_refl _,Nat.le_refl _⟩,trivial⟩ (fun m=>ab.au ab.nil m)
  (fun _=>by kernel_rfl) (fun m x=>by kernel_rfl)
noncomputable def iy:Tm:=⟨[(3,.one (.fix (TV.ptr 64 0))),(7,.one (.all 75 79 (.cons (.int .i64) (.int .i64)) .ex)),(8,.one (.all 76 79 (.cons (.int .i64) (.int .i64)) .no))],[(64,.cells 25 [.aC sN,.aC (.int .i64)] true),(73,.cells 31 [.int .i64,.str,.str,.aC (.int .i64),.bool] true),(74,.cells 31 [.int .i64,.str,.str,.aC (.int .i64),.bool] true)],75,77,3012⟩
noncomputable def rq:Tm:=⟨[(3,.one (.fix (TV.ptr 64 0))),(7,.one (.all 75 79 (.cons (.int .i64) (.int .i64)) .ex)),(8,.one (.all 76 79 (.cons (.int .i64) (.int .i64)) .no)),(12,.one (.fix (TV.ptr 73 0))),(13,.one (.fix (TV.ptr 74 0))),(14,.one (.int .i64))],[(64,.cells 25 [.aC sN,.aC (.int .i64)] true),(73,.cells 31 [.int .i64,.str,.str,.aC (.int .i64),.bool] true),(74,.cells 31 [.int .i64,.str,.str,.aC (.int .i64),.bool] true)],75,77,3012⟩
noncomputable def dG:Nat→(List (Int×Int))→(List (Int×Int))→Int→qN→(List Int)→Int→(List UInt8)→(List UInt8)→(List Int)→Bool→Int→(List UInt8)→(List UInt8)→(List Int)→Bool→Option ((Unit×((List (Int×Int))×((List (Int×Int))×Unit)))×((qN×((List Int)×Unit))×((Int×((List UInt8)×((List UInt8)×((List Int)×(Bool×Unit)))))×((Int×((List UInt8)×((List UInt8)×((List Int)×(Bool×Unit)))))×Unit))))
 |0,_,_,_,_,_,_,_,_,_,_,_,_,_,_,_=>none
 |n+1,t7,t8,t14,c64_0,c64_1,c73_0,c73_1,c73_2,c73_3,c73_4,c74_0,c74_1,c74_2,c74_3,c74_4=>
 bif (aO t14 (len c73_3)) then
  bif (aB 0 t14) then
  Option.bind (c73_3[(Int.toNat t14)]?) fun x37=>
  bif (aB 0 t14) then
  Option.bind (c74_3[(Int.toNat t14)]?) fun x38=>
  bif (room (((List.length t8)+(List.length ((x37,x38):: [])))*17)) then
  dG n t7 (t8++((x37,x38):: [])) (IntKind.wrap .i64 (t14+1)) c64_0 c64_1 c73_0 c73_1 c73_2 c73_3 c73_4 c74_0 c74_1 c74_2 c74_3 c74_4
  else none
  else none
  else none
 else
 some (((),(t7,(t8,()))),((c64_0,(c64_1,())),((c73_0,(c73_1,(c73_2,(c73_3,(c73_4,()))))),((c74_0,(c74_1,(c74_2,(c74_3,(c74_4,()))))),()))))
noncomputable def oX:aA:=⟨24,18,none,rq,[(.exit 4,iy)],0,fun n x=>dG n x.1.2.1 x.1.2.2.1 x.1.2.2.2.2.2.1 x.2.1.1 x.2.1.2.1 x.2.2.1.1 x.2.2.1.2.1 x.2.2.1.2.2.1 x.2.2.1.2.2.2.1 x.2.2.1.2.2.2.2.1 x.2.2.2.1.1 x.2.2.2.1.2.1 x.2.2.2.1.2.2.1 x.2.2.2.1.2.2.2.1 x.2.2.2.1.2.2.2.2.1,[68,71]⟩
theorem lu:iy.ok Tryz.prog hint:=Tm.bF rfl
theorem kn:rq.ok Tryz.prog hint:=Tm.bF rfl
theorem Bk:∀ n,ai Tryz.prog hint aH oX n:=
 ai.of (hk:=fun β=>(aj.mk [] []).hk β) (sh:=aH) (ay.of (by kernel_rfl)) kn ⟨⟨lu,Nat.le_refl _,Nat.le_refl _⟩,trivial⟩ (fun m=>ab.au ab.nil m)
  (fun _=>by kernel_rfl) (fun m x=>by kernel_rfl)
noncomputable def nN:Tm:=⟨[],[(64,.cells 25 [.aC sN,.aC (.int .i64)] true)],66,66,1002⟩
noncomputable def wA:Tm:=⟨[(6,.one (.bool))],[(64,.cells 25 [.aC sN,.aC (.int .i64)] true)],66,66,1002⟩
noncomputable def ID:Tm:=⟨[(3,.one (.fix (TV.ptr 64 0))),(7,.one (.all 66 79 (.cons (.int .i64) (.int .i64)) .ex)),(8,.one (.all 67 79 (.cons (.int .i64) (.int .i64)) .no))],[(64,.cells 25 [.aC sN,.aC (.int .i64)] true)],66,68,1002⟩
noncomputable def nJ:Nat→(List (Int×Int))→(List (Int×Int))→qN→(List Int)→Option ((Unit×((qN×((List Int)×Unit))×Unit))⊕((Bool×Unit)×((qN×((List Int)×Unit))×Unit)))
 |0,_,_,_,_=>none
 |n+1,t7,t8,c64_0,c64_1=>
 bif (aO 0 (len t8)) then
  bif ((aB 0 (IntKind.wrap .i64 ((len t8) - 1))) &&(aO (IntKind.wrap .i64 ((len t8) - 1)) (len t8))) then
  Option.bind (t8[(Int.toNat (IntKind.wrap .i64 ((len t8) - 1)))]?) fun x48=>
  bif ((aB 0 (IntKind.wrap .i64 ((len t8) - 1))) &&(aB (IntKind.wrap .i64 ((len t8) - 1)) (len t8))) then
  Option.bind (gD (n+7) t7 (List.take ((Int.toNat (IntKind.wrap .i64 ((len t8) - 1))) - 0) (List.drop 0 t8)) (x48.1==x48.2) 0 c64_0 c64_1 x48.1 x48.2) fun y49=>
  bif y49.1.2.2.2.2.1 then
  nJ n y49.1.2.1 y49.1.2.2.1 y49.2.1.1 y49.2.1.2.1
  else
  bif (room (((List.length y49.1.2.1)+(List.length ((y49.2.2.1.1,y49.2.2.1.2.1):: [])))*17)) then
  bif (aB 0 y49.2.2.1.1) then
  Option.bind (y49.2.1.1[(Int.toNat y49.2.2.1.1)]?) fun x50=>
  bif (aB 0 y49.2.2.1.2.1) then
  Option.bind (y49.2.1.1[(Int.toNat y49.2.2.1.2.1)]?) fun x51=>
  bif (x50.1 !=x51.1) then
  some (.inr ((false,()),((y49.2.1.1,(y49.2.1.2.1,())),())))
  else
  bif (!(x50.2.1==x51.2.1)) then
  some (.inr ((false,()),((y49.2.1.1,(y49.2.1.2.1,())),())))
  else
  bif ((len x50.2.2.2.1) !=(len x51.2.2.2.1)) then
  some (.inr ((false,()),((y49.2.1.1,(y49.2.1.2.1,())),())))
  else
  bif (x50.1==1) then
  Option.bind (oc (n+1) (x50.1,(x50.2.1,(x50.2.2.1,(x50.2.2.2.1,x50.2.2.2.2)))) (x51.1,(x51.2.1,(x51.2.2.1,(x51.2.2.2.1,x51.2.2.2.2))))) fun y52=>
  bif y52.1 then
   some (.inr ((false,()),((y49.2.1.1,(y49.2.1.2.1,())),())))
  else
  Option.bind (dG (n+7) (y49.1.2.1++((y49.2.2.1.1,y49.2.2.1.2.1):: [])) y49.1.2.2.1 0 y49.2.1.1 y49.2.1.2.1 x50.1 x50.2.1 x50.2.2.1 x50.2.2.2.1 x50.2.2.2.2 x51.1 x51.2.1 x51.2.2.1 x51.2.2.2.1 x51.2.2.2.2) fun y53=>
  nJ n y53.1.2.1 y53.1.2.2.1 y53.2.1.1 y53.2.1.2.1
  else
  Option.bind (dG (n+7) (y49.1.2.1++((y49.2.2.1.1,y49.2.2.1.2.1):: [])) y49.1.2.2.1 0 y49.2.1.1 y49.2.1.2.1 x50.1 x50.2.1 x50.2.2.1 x50.2.2.2.1 x50.2.2.2.2 x51.1 x51.2.1 x51.2.2.1 x51.2.2.2.1 x51.2.2.2.2) fun y54=>
  nJ n y54.1.2.1 y54.1.2.2.1 y54.2.1.1 y54.2.1.2.1
  else none
  else none
  else none
  else none
  else none
 else
 some (.inl ((),((c64_0,(c64_1,())),())))
noncomputable def EJ:aA:=⟨24,3,none,ID,[(.exit 0,nN),(.ret,wA)],6,fun n x=>nJ n x.1.2.1 x.1.2.2.1 x.2.1.1 x.2.1.2.1,[]⟩
theorem sI:nN.ok Tryz.prog hint:=Tm.bF rfl
theorem xf:wA.ok Tryz.prog hint:=Tm.bF rfl
theorem vh:ID.ok Tryz.prog hint:=Tm.bF rfl
theorem NM:∀ n,ai Tryz.prog hint aH EJ n:=
 ai.of (hk:=fun β=>(aj.mk [vE] [oX,rI]).hk β) (sh:=aH) (ay.of (by kernel_rfl)) vh ⟨⟨sI,Nat.le_refl _,Nat.le_refl _⟩,⟨xf,Nat.le_refl _,Nat.le_refl _⟩,trivial⟩ (fun m=>ab.au (((ab.nil.loop Co lR).fn HA).loop Bk kn) m)
  (fun _=>by kernel_rfl) (fun m x=>by kernel_rfl)
noncomputable def equalR (n:Nat) (g:(List (Int×(List UInt8×(List UInt8×(List Int×Bool))))×List Int)) (a:Int) (b:Int):Option (Bool×Unit):=
 Option.bind (nJ n [] ((a,b):: []) g.1 g.2) fun y55=>
 match y55 with
 | .inl _=>
  some (true,())
 | .inr y57=>
  some (y57.1.1,())
noncomputable def qe:aT:=⟨24,[(true,(.cons (.bQ sN) (.bQ (.int .i64)))),(false,(.int .i64)),(false,(.int .i64))],[(false,.bool)],6,fun n x=>equalR n x.1 x.2.1 x.2.2.1⟩
theorem yR (n:Nat):ao Tryz.prog hint aH qe n:=
 ao.of (hk:=fun β=>(aj.mk [] [EJ]).hk β) (sh:=aH) (fun m _=>ab.au (ab.nil.loop NM vh) m) (fun x=>by kernel_rfl)
noncomputable def BQ (n:Nat) (g:(List (Int×(List UInt8×(List UInt8×(List Int×Bool))))×List Int)) (a:Int) (b:Int):Option (Bool×Unit):=
 Option.bind (LA n (g.1,g.2) a) fun y0=>
 bif (!y0.1) then
 some (false,())
 else
 Option.bind (LA n (g.1,g.2) b) fun y1=>
 bif (!y1.1) then
 some (false,())
 else
 Option.bind (equalR (n+1) (g.1,g.2) a b) fun y2=>
 some (y2.1,())
noncomputable def zg:aT:=⟨15,[(true,(.cons (.bQ sN) (.bQ (.int .i64)))),(false,(.int .i64)),(false,(.int .i64))],[(false,.bool)],8,fun n x=>BQ n x.1 x.2.1 x.2.2.1⟩
theorem Js (n:Nat):ao Tryz.prog hint aH zg n:=
 ao.of (hk:=fun β=>(aj.mk [qe,IK] []).hk β) (sh:=aH) (fun m _=>ab.au ((ab.nil.fn Pv).fn yR) m) (fun x=>by kernel_rfl)
noncomputable def lN:Tm:=⟨[(1,.one (.fix (TV.ptr 64 0))),(4,.one (.int .i64)),(5,.one (.fix (TV.ptr 65 0))),(6,.one (.int .i64))],[(64,.cells 25 [.aC sN,.aC (.int .i64)] true),(65,.cells 31 [.int .i64,.str,.str,.aC (.int .i64),.bool] true)],66,66,3005⟩
noncomputable def rT:Tm:=⟨[(2,.one (.int .i64)),(3,.one (.bool))],[(64,.cells 25 [.aC sN,.aC (.int .i64)] true),(65,.cells 31 [.int .i64,.str,.str,.aC (.int .i64),.bool] true)],66,66,3005⟩
noncomputable def CF:Tm:=⟨[(1,.one (.fix (TV.ptr 64 0))),(4,.one (.int .i64)),(5,.one (.fix (TV.ptr 65 0))),(6,.one (.int .i64)),(7,.one (.int .i64))],[(64,.cells 25 [.aC sN,.aC (.int .i64)] true),(65,.cells 31 [.int .i64,.str,.str,.aC (.int .i64),.bool] true)],66,66,3005⟩
noncomputable def mJ:Nat→Int→Int→Int→qN→(List Int)→Int→(List UInt8)→(List UInt8)→(List Int)→Bool→Option (((Unit×(Int×(Unit×(Int×Unit))))×((qN×((List Int)×Unit))×((Int×((List UInt8)×((List UInt8)×((List Int)×(Bool×Unit)))))×Unit)))⊕((Int×(Bool×Unit))×((qN×((List Int)×Unit))×((Int×((List UInt8)×((List UInt8)×((List Int)×(Bool×Unit)))))×Unit))))
 |0,_,_,_,_,_,_,_,_,_,_=>none
 |n+1,t4,t6,t7,c64_0,c64_1,c65_0,c65_1,c65_2,c65_3,c65_4=>
 bif (aO t7 t6) then
  bif (aB 0 t6) then
  Option.bind (c65_3[(Int.toNat t6)]?) fun x10=>
  bif (aB 0 t7) then
  Option.bind (c65_3[(Int.toNat t7)]?) fun x11=>
  Option.bind (equalR (n+1) (c64_0,c64_1) x10 x11) fun y12=>
  bif y12.1 then
  some (.inr ((t4,(true,())),((c64_0,(c64_1,())),((c65_0,(c65_1,(c65_2,(c65_3,(c65_4,()))))),()))))
  else
  mJ n t4 t6 (IntKind.wrap .i64 (t7+2)) c64_0 c64_1 c65_0 c65_1 c65_2 c65_3 c65_4
  else none
  else none
 else
 some (.inl (((),(t4,((),(t6,())))),((c64_0,(c64_1,())),((c65_0,(c65_1,(c65_2,(c65_3,(c65_4,()))))),()))))
noncomputable def yZ:aA:=⟨14,11,none,CF,[(.exit 4,lN),(.ret,rT)],7,fun n x=>mJ n x.1.2.1 x.1.2.2.2.1 x.1.2.2.2.2.1 x.2.1.1 x.2.1.2.1 x.2.2.1.1 x.2.2.1.2.1 x.2.2.1.2.2.1 x.2.2.1.2.2.2.1 x.2.2.1.2.2.2.2.1,[]⟩
theorem pU:lN.ok Tryz.prog hint:=Tm.bF rfl
theorem vR:rT.ok Tryz.prog hint:=Tm.bF rfl
theorem rL:CF.ok Tryz.prog hint:=Tm.bF rfl
theorem Ke:∀ n,ai Tryz.prog hint aH yZ n:=
 ai.of (hk:=fun β=>(aj.mk [qe] []).hk β) (sh:=aH) (ay.of (by kernel_rfl)) rL ⟨⟨pU,Nat.le_refl _,Nat.le_refl _⟩,⟨vR,Nat.le_refl _,Nat.le_refl _⟩,trivial⟩ (fun m=>ab.au (ab.nil.fn yR) m)
  (fun _=>by kernel_rfl) (fun m x=>by kernel_rfl)
noncomputable def ot:Tm:=⟨[(1,.one (.fix (TV.ptr 64 0))),(4,.one (.int .i64))],[(64,.cells 25 [.aC sN,.aC (.int .i64)] true),(65,.cells 31 [.int .i64,.str,.str,.aC (.int .i64),.bool] true)],66,66,2004⟩
noncomputable def vw:Tm:=⟨[(2,.one (.int .i64)),(3,.one (.bool))],[(64,.cells 25 [.aC sN,.aC (.int .i64)] true),(65,.cells 31 [.int .i64,.str,.str,.aC (.int .i64),.bool] true)],66,66,2004⟩
noncomputable def IY:Tm:=⟨[(1,.one (.fix (TV.ptr 64 0))),(4,.one (.int .i64)),(5,.one (.fix (TV.ptr 65 0))),(6,.one (.int .i64))],[(64,.cells 25 [.aC sN,.aC (.int .i64)] true),(65,.cells 31 [.int .i64,.str,.str,.aC (.int .i64),.bool] true)],66,66,2004⟩
noncomputable def nY:Nat→Int→Int→qN→(List Int)→Int→(List UInt8)→(List UInt8)→(List Int)→Bool→Option (((Unit×(Int×Unit))×((qN×((List Int)×Unit))×((Int×((List UInt8)×((List UInt8)×((List Int)×(Bool×Unit)))))×Unit)))⊕((Int×(Bool×Unit))×((qN×((List Int)×Unit))×((Int×((List UInt8)×((List UInt8)×((List Int)×(Bool×Unit)))))×Unit))))
 |0,_,_,_,_,_,_,_,_,_=>none
 |n+1,t4,t6,c64_0,c64_1,c65_0,c65_1,c65_2,c65_3,c65_4=>
 Option.bind (bif (c65_0==3) then
  some (aO t6 (len c65_3))
  else
  some false) fun b22=>
 bif b22 then
  Option.bind (mJ (n+1) t4 t6 0 c64_0 c64_1 c65_0 c65_1 c65_2 c65_3 c65_4) fun y23=>
  match y23 with
  | .inl y24=>
   nY n y24.1.2.1 (IntKind.wrap .i64 (y24.1.2.2.2.1+2)) y24.2.1.1 y24.2.1.2.1 y24.2.2.1.1 y24.2.2.1.2.1 y24.2.2.1.2.2.1 y24.2.2.1.2.2.2.1 y24.2.2.1.2.2.2.2.1
  | .inr y25=>
   some (.inr ((y25.1.1,(y25.1.2.1,())),((y25.2.1.1,(y25.2.1.2.1,())),((y25.2.2.1.1,(y25.2.2.1.2.1,(y25.2.2.1.2.2.1,(y25.2.2.1.2.2.2.1,(y25.2.2.1.2.2.2.2.1,()))))),()))))
 else
 some (.inl (((),(t4,())),((c64_0,(c64_1,())),((c65_0,(c65_1,(c65_2,(c65_3,(c65_4,()))))),()))))
noncomputable def Fk:aA:=⟨14,8,none,IY,[(.exit 2,ot),(.ret,vw)],7,fun n x=>nY n x.1.2.1 x.1.2.2.2.1 x.2.1.1 x.2.1.2.1 x.2.2.1.1 x.2.2.1.2.1 x.2.2.1.2.2.1 x.2.2.1.2.2.2.1 x.2.2.1.2.2.2.2.1,[]⟩
theorem sZ:ot.ok Tryz.prog hint:=Tm.bF rfl
theorem xR:vw.ok Tryz.prog hint:=Tm.bF rfl
theorem tM:IY.ok Tryz.prog hint:=Tm.bF rfl
theorem LP:∀ n,ai Tryz.prog hint aH Fk n:=
 ai.of (hk:=fun β=>(aj.mk [] [yZ]).hk β) (sh:=aH) (ay.of (by kernel_rfl)) tM ⟨⟨sZ,Nat.le_refl _,Nat.le_refl _⟩,⟨xR,Nat.le_refl _,Nat.le_refl _⟩,trivial⟩ (fun m=>ab.au (ab.nil.loop Ke rL) m)
  (fun _=>by kernel_rfl) (fun m x=>by kernel_rfl)
noncomputable def pk:Tm:=⟨[],[(64,.cells 25 [.aC sN,.aC (.int .i64)] true)],65,65,1001⟩
noncomputable def wO:Tm:=⟨[(2,.one (.int .i64)),(3,.one (.bool))],[(64,.cells 25 [.aC sN,.aC (.int .i64)] true)],65,65,1001⟩
noncomputable def IE:Tm:=⟨[(1,.one (.fix (TV.ptr 64 0))),(4,.one (.int .i64))],[(64,.cells 25 [.aC sN,.aC (.int .i64)] true)],65,65,1001⟩
noncomputable def uG:Nat→Int→qN→(List Int)→Option ((Unit×((qN×((List Int)×Unit))×Unit))⊕((Int×(Bool×Unit))×((qN×((List Int)×Unit))×Unit)))
 |0,_,_,_=>none
 |n+1,t4,c64_0,c64_1=>
 bif (aO t4 (len c64_0)) then
  bif (aB 0 t4) then
  Option.bind (c64_0[(Int.toNat t4)]?) fun x33=>
  Option.bind (nY (n+1) t4 0 c64_0 c64_1 x33.1 x33.2.1 x33.2.2.1 x33.2.2.2.1 x33.2.2.2.2) fun y34=>
  match y34 with
  | .inl y35=>
   uG n (IntKind.wrap .i64 (y35.1.2.1+1)) y35.2.1.1 y35.2.1.2.1
  | .inr y36=>
   some (.inr ((y36.1.1,(y36.1.2.1,())),((y36.2.1.1,(y36.2.1.2.1,())),())))
  else none
 else
 some (.inl ((),((c64_0,(c64_1,())),())))
noncomputable def C9:aA:=⟨14,4,none,IE,[(.exit 0,pk),(.ret,wO)],7,fun n x=>uG n x.1.2.1 x.2.1.1 x.2.1.2.1,[]⟩
theorem si:pk.ok Tryz.prog hint:=Tm.bF rfl
theorem xH:wO.ok Tryz.prog hint:=Tm.bF rfl
theorem tB:IE.ok Tryz.prog hint:=Tm.bF rfl
theorem Nx:∀ n,ai Tryz.prog hint aH C9 n:=
 ai.of (hk:=fun β=>(aj.mk [] [Fk]).hk β) (sh:=aH) (ay.of (by kernel_rfl)) tB ⟨⟨si,Nat.le_refl _,Nat.le_refl _⟩,⟨xH,Nat.le_refl _,Nat.le_refl _⟩,trivial⟩ (fun m=>ab.au (ab.nil.loop LP tM) m)
  (fun _=>by kernel_rfl) (fun m x=>by kernel_rfl)
noncomputable def kD (n:Nat) (g:(List (Int×(List UInt8×(List UInt8×(List Int×Bool))))×List Int)):Option (Int×(Bool×Unit)):=
 Option.bind (wJ n (g.1,g.2)) fun y0=>
 bif (!y0.1) then
 some (0,false,())
 else
 Option.bind (uG n 0 g.1 g.2) fun y37=>
 match y37 with
 | .inl _=>
  some (0,false,())
 | .inr y39=>
  some (y39.1.1,y39.1.2.1,())
noncomputable def zx:aT:=⟨14,[(true,(.cons (.bQ sN) (.bQ (.int .i64))))],[(false,(.int .i64)),(false,.bool)],7,fun n x=>kD n x.1⟩
theorem JL (n:Nat):ao Tryz.prog hint aH zx n:=
 ao.of (hk:=fun β=>(aj.mk [pP] [C9]).hk β) (sh:=aH) (fun m _=>ab.au ((ab.nil.fn yv).loop Nx tB) m) (fun x=>by kernel_rfl)
end Go.Proofs.YtnddpppljnjmcaaGreatDoor
