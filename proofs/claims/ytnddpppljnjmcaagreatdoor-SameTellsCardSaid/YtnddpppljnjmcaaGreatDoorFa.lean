/- Plain functions for the program's. -/
import Derived.Test.YtnddpppljnjmcaaGreatDoorGs
import Derived.Test.YtnddpppljnjmcaaGreatDoorProg
import Derived.KernelRfl
set_option linter.unusedSimpArgs false
set_option linter.unusedVariables false
namespace Go.Proofs.YtnddpppljnjmcaaGreatDoor
open Go Go.Iv Go.Gv
set_option maxRecDepth 100000
set_option linter.unusedVariables false
noncomputable def kQ (_n:Nat) (c:Int):Option (Bool×Unit):=
 Option.bind (bif (aB 0 c) then
  bif (aB c 1114111) then
  bif (aO c 55296) then
   some true
  else
  some (aO 57343 c)
  else
  some false
 else
 some false) fun b1=>
 some (b1,())
noncomputable def zF:aT:=⟨48,[(false,(.int .i64))],[(false,.bool)],0,fun n x=>kQ n x.1⟩
theorem KR (n:Nat):ao Tryz.prog hint aH zF n:=
 ao.of (hk:=fun β=>(aj.mk [] []).hk β) (sh:=aH) (fun m _=>ab.au ab.nil m) (fun x=>by kernel_rfl)
noncomputable def lE:Tm:=⟨[(5,.one (.int .i64)),(6,.one (.int .i64)),(7,.one (.int .i64))],[],64,64,1000⟩
noncomputable def qS:Tm:=⟨[(2,.one (.int .i64)),(3,.one (.int .i64))],[],64,64,1000⟩
noncomputable def Fb:Tm:=⟨[(0,.one (.aC .byte)),(5,.one (.int .i64)),(6,.one (.int .i64)),(7,.one (.int .i64)),(8,.one (.int .i64))],[],64,64,1000⟩
noncomputable def ig:Nat→(List UInt8)→Int→Int→Int→Int→Option (((Int×(Int×(Int×Unit)))×Unit)⊕((Int×(Int×Unit))×Unit))
 |0,_,_,_,_,_=>none
 |n+1,t0,t5,t6,t7,t8=>
 bif (aO t8 t5) then
  bif (aB 0 t8) then
  Option.bind (t0[(Int.toNat t8)]?) fun x9=>
  Option.bind (bif (aO (IntKind.wrap .i64 (ub x9)) 128) then
   some true
  else
  some (aO 191 (IntKind.wrap .i64 (ub x9)))) fun b11=>
  bif b11 then
  some (.inr ((0,(0,())),()))
  else
  ig n t0 t5 t6 (IntKind.wrap .i64 ((IntKind.wrap .i64 (t7*64))+(A1 Go.IntKind.i64 (IntKind.wrap .i64 (ub x9)) 63))) (IntKind.wrap .i64 (t8+1))
  else none
 else
 some (.inl ((t5,(t6,(t7,()))),()))
noncomputable def yo:aA:=⟨37,23,none,Fb,[(.exit 1,lE),(.ret,qS)],0,fun n x=>ig n x.1.1 x.1.2.1 x.1.2.2.1 x.1.2.2.2.1 x.1.2.2.2.2.1,[]⟩
theorem qK:lE.ok Tryz.prog hint:=Tm.bF rfl
theorem vW:qS.ok Tryz.prog hint:=Tm.bF rfl
theorem rk:Fb.ok Tryz.prog hint:=Tm.bF rfl
theorem KU:∀ n,ai Tryz.prog hint aH yo n:=
 ai.of (hk:=fun β=>(aj.mk [] []).hk β) (sh:=aH) (ay.of (by kernel_rfl)) rk ⟨⟨qK,Nat.le_refl _,Nat.le_refl _⟩,⟨vW,Nat.le_refl _,Nat.le_refl _⟩,trivial⟩ (fun m=>ab.au ab.nil m)
  (fun _=>by kernel_rfl) (fun m x=>by kernel_rfl)
noncomputable def uL (n:Nat) (b:List UInt8):Option (Int×(Int×Unit)):=
 Option.bind (b[0]?) fun x0=>
 bif (aO (IntKind.wrap .i64 (ub x0)) 128) then
 some ((IntKind.wrap .i64 (ub x0)),1,())
 else
 Option.bind (bif (aB 194 (IntKind.wrap .i64 (ub x0))) then
  some (aO (IntKind.wrap .i64 (ub x0)) 224)
 else
 some false) fun b2=>
 bif b2 then
 bif (aO (len b) 2) then
  some (0,0,())
 else
 Option.bind (ig (n+1) b 2 128 (A1 Go.IntKind.i64 (IntKind.wrap .i64 (ub x0)) 31) 1) fun y12=>
 match y12 with
  | .inl y13=>
  bif (aO y13.1.2.2.1 y13.1.2.1) then
   some (0,0,())
  else
  Option.bind (kQ n y13.1.2.2.1) fun y15=>
  bif (!y15.1) then
   some (0,0,())
  else
  some (y13.1.2.2.1,y13.1.1,())
  | .inr y14=>
  some (y14.1.1,y14.1.2.1,())
 else
 Option.bind (bif (aB 224 (IntKind.wrap .i64 (ub x0))) then
  some (aO (IntKind.wrap .i64 (ub x0)) 240)
 else
 some false) fun b17=>
 bif b17 then
 bif (aO (len b) 3) then
  some (0,0,())
 else
 Option.bind (ig (n+1) b 3 2048 (A1 Go.IntKind.i64 (IntKind.wrap .i64 (ub x0)) 15) 1) fun y18=>
 match y18 with
  | .inl y19=>
  bif (aO y19.1.2.2.1 y19.1.2.1) then
   some (0,0,())
  else
  Option.bind (kQ n y19.1.2.2.1) fun y21=>
  bif (!y21.1) then
   some (0,0,())
  else
  some (y19.1.2.2.1,y19.1.1,())
  | .inr y20=>
  some (y20.1.1,y20.1.2.1,())
 else
 Option.bind (bif (aB 240 (IntKind.wrap .i64 (ub x0))) then
  some (aO (IntKind.wrap .i64 (ub x0)) 245)
 else
 some false) fun b23=>
 bif b23 then
 bif (aO (len b) 4) then
  some (0,0,())
 else
 Option.bind (ig (n+1) b 4 65536 (A1 Go.IntKind.i64 (IntKind.wrap .i64 (ub x0)) 7) 1) fun y24=>
 match y24 with
  | .inl y25=>
  bif (aO y25.1.2.2.1 y25.1.2.1) then
   some (0,0,())
  else
  Option.bind (kQ n y25.1.2.2.1) fun y27=>
  bif (!y27.1) then
   some (0,0,())
  else
  some (y25.1.2.2.1,y25.1.1,())
  | .inr y26=>
  some (y26.1.1,y26.1.2.1,())
 else
 some (0,0,())
noncomputable def yN:aT:=⟨37,[(false,(.bQ .byte))],[(false,(.int .i64)),(false,(.int .i64))],1,fun n x=>uL n x.1⟩
theorem KP (n:Nat):ao Tryz.prog hint aH yN n:=
 ao.of (hk:=fun β=>(aj.mk [zF] [yo]).hk β) (sh:=aH) (fun m _=>ab.au ((ab.nil.loop KU rk).fn KR) m) (fun x=>by kernel_rfl)
noncomputable def oT:Tm:=⟨[(4,.one (.all 64 3 (.int .i64) .ex))],[],64,65,1000⟩
noncomputable def tH:Tm:=⟨[(2,.one (.fix (TV.raw (Go.Value.slice (Option.none) 0 0)))),(3,.one (.bool))],[],64,64,1000⟩
noncomputable def H5:Tm:=⟨[(0,.one (.aC .byte)),(4,.one (.all 64 3 (.int .i64) .ex)),(5,.one (.int .i64))],[],64,65,1000⟩
noncomputable def ui:Nat→(List UInt8)→(List Int)→Int→Option ((((List Int)×Unit)×Unit)⊕((Unit×(Bool×Unit))×Unit))
 |0,_,_,_=>none
 |n+1,t0,t4,t5=>
 bif (aO t5 (len t0)) then
  bif ((aB 0 t5) &&(aB t5 (len t0))) then
  Option.bind (uL (n+1) (List.take ((List.length t0) - (Int.toNat t5)) (List.drop (Int.toNat t5) t0))) fun y3=>
  bif (y3.2.1==0) then
  some (.inr (((),(false,())),()))
  else
  bif (room (((List.length t4)+(List.length (y3.1::([]:List Int))))*9)) then
  ui n t0 (t4++(y3.1::([]:List Int))) (IntKind.wrap .i64 (t5+y3.2.1))
  else none
  else none
 else
 some (.inl ((t4,()),()))
noncomputable def Ez:aA:=⟨25,3,none,H5,[(.exit 0,oT),(.ret,tH)],2,fun n x=>ui n x.1.1 x.1.2.1 x.1.2.2.1,[]⟩
theorem so:oT.ok Tryz.prog hint:=Tm.bF rfl
theorem xW:tH.ok Tryz.prog hint:=Tm.bF rfl
theorem vn:H5.ok Tryz.prog hint:=Tm.bF rfl
theorem Ly:∀ n,ai Tryz.prog hint aH Ez n:=
 ai.of (hk:=fun β=>(aj.mk [yN] []).hk β) (sh:=aH) (ay.of (by kernel_rfl)) vn ⟨⟨so,Nat.le_refl _,Nat.le_refl _⟩,⟨xW,Nat.le_refl _,Nat.le_refl _⟩,trivial⟩ (fun m=>ab.au (ab.nil.fn KP) m)
  (fun _=>by kernel_rfl) (fun m x=>by kernel_rfl)
noncomputable def ud (n:Nat) (b:List UInt8):Option ((List Int)×(Bool×Unit)):=
 Option.bind (ui n b ([]:List Int) 0) fun y4=>
 match y4 with
 | .inl y5=>
  some (y5.1.1,true,())
 | .inr y6=>
  some (([]:List Int),y6.1.2.1,())
noncomputable def yi:aT:=⟨25,[(false,(.bQ .byte))],[(false,(.bQ (.int .i64))),(false,.bool)],2,fun n x=>ud n x.1⟩
theorem Kv (n:Nat):ao Tryz.prog hint aH yi n:=
 ao.of (hk:=fun β=>(aj.mk [] [Ez]).hk β) (sh:=aH) (fun m _=>ab.au (ab.nil.loop Ly vn) m) (fun x=>by kernel_rfl)
noncomputable def BW (n:Nat) (s:List UInt8):Option ((List Int)×(Bool×Unit)):=
 Option.bind (ud n s) fun y0=>
 some (y0.1,y0.2.1,())
noncomputable def vm:aT:=⟨18,[(false,.str)],[(false,(.bQ (.int .i64))),(false,.bool)],3,fun n x=>BW n x.1⟩
theorem C7 (n:Nat):ao Tryz.prog hint aH vm n:=
 ao.of (hk:=fun β=>(aj.mk [yi] []).hk β) (sh:=aH) (fun m _=>ab.au (ab.nil.fn Kv) m) (fun x=>by kernel_rfl)
noncomputable def Ic (_n:Nat) (c:Int):Option (Bool×Unit):=
 Option.bind (bif (aB 48 c) then
  bif (aB c 57) then
  some true
  else
  bif (aB 97 c) then
  bif (aB c 122) then
   some true
  else
  bif (aB 65 c) then
   bif (aB c 90) then
   some true
   else
   some (c==45)
  else
  some (c==45)
  else
  bif (aB 65 c) then
  bif (aB c 90) then
   some true
  else
  some (c==45)
  else
  some (c==45)
 else
 bif (aB 97 c) then
  bif (aB c 122) then
  some true
  else
  bif (aB 65 c) then
  bif (aB c 90) then
   some true
  else
  some (c==45)
  else
  some (c==45)
 else
 bif (aB 65 c) then
  bif (aB c 90) then
  some true
  else
  some (c==45)
 else
 some (c==45)) fun b1=>
 some (b1,())
noncomputable def De:aT:=⟨65,[(false,(.int .i64))],[(false,.bool)],0,fun n x=>Ic n x.1⟩
theorem N1 (n:Nat):ao Tryz.prog hint aH De n:=
 ao.of (hk:=fun β=>(aj.mk [] []).hk β) (sh:=aH) (fun m _=>ab.au ab.nil m) (fun x=>by kernel_rfl)
noncomputable def K6 (_n:Nat) (c:Int):Option (Int×Unit):=
 Option.bind (bif (aB 48 c) then
  some (aB c 57)
 else
 some false) fun b1=>
 bif b1 then
 some ((IntKind.wrap .i64 (c - 48)),())
 else
 Option.bind (bif (aB 97 c) then
  some (aB c 102)
 else
 some false) fun b3=>
 bif b3 then
 some ((IntKind.wrap .i64 ((IntKind.wrap .i64 (c - 97))+10)),())
 else
 Option.bind (bif (aB 65 c) then
  some (aB c 70)
 else
 some false) fun b5=>
 bif b5 then
 some ((IntKind.wrap .i64 ((IntKind.wrap .i64 (c - 65))+10)),())
 else
 some ((-1),())
noncomputable def Bn:aT:=⟨67,[(false,(.int .i64))],[(false,(.int .i64))],0,fun n x=>K6 n x.1⟩
theorem Iq (n:Nat):ao Tryz.prog hint aH Bn n:=
 ao.of (hk:=fun β=>(aj.mk [] []).hk β) (sh:=aH) (fun m _=>ab.au ab.nil m) (fun x=>by kernel_rfl)
noncomputable def nh:Tm:=⟨[],[],64,64,1000⟩
noncomputable def uS:Tm:=⟨[(4,.one (.bool))],[],64,64,1000⟩
noncomputable def I9:Tm:=⟨[(0,.one (.str)),(1,.one (.int .i64)),(5,.one (.int .i64))],[],64,64,1000⟩
noncomputable def ya:Nat→(List UInt8)→Int→Int→Option ((Unit×Unit)⊕((Bool×Unit)×Unit))
 |0,_,_,_=>none
 |n+1,t0,t1,t5=>
 bif (aO t5 (len t0)) then
  bif (aB 0 t5) then
  Option.bind (t0[(Int.toNat t5)]?) fun x2=>
  bif ((IntKind.wrap .i64 (ub x2))==t1) then
  some (.inr ((true,()),()))
  else
  ya n t0 t1 (IntKind.wrap .i64 (t5+1))
  else none
 else
 some (.inl ((),()))
noncomputable def DP:aA:=⟨66,2,none,I9,[(.exit 0,nh),(.ret,uS)],0,fun n x=>ya n x.1.1 x.1.2.1 x.1.2.2.1,[]⟩
theorem sT:nh.ok Tryz.prog hint:=Tm.bF rfl
theorem xh:uS.ok Tryz.prog hint:=Tm.bF rfl
theorem uE:I9.ok Tryz.prog hint:=Tm.bF rfl
theorem M4:∀ n,ai Tryz.prog hint aH DP n:=
 ai.of (hk:=fun β=>(aj.mk [] []).hk β) (sh:=aH) (ay.of (by kernel_rfl)) uE ⟨⟨sT,Nat.le_refl _,Nat.le_refl _⟩,⟨xh,Nat.le_refl _,Nat.le_refl _⟩,trivial⟩ (fun m=>ab.au ab.nil m)
  (fun _=>by kernel_rfl) (fun m x=>by kernel_rfl)
noncomputable def u6 (n:Nat) (s:List UInt8) (c:Int):Option (Bool×Unit):=
 Option.bind (ya (n+1) s c 0) fun y3=>
 match y3 with
 | .inl _=>
  some (false,())
 | .inr y5=>
  some (y5.1.1,())
noncomputable def zK:aT:=⟨66,[(false,.str),(false,(.int .i64))],[(false,.bool)],1,fun n x=>u6 n x.1 x.2.1⟩
theorem J4 (n:Nat):ao Tryz.prog hint aH zK n:=
 ao.of (hk:=fun β=>(aj.mk [] [DP]).hk β) (sh:=aH) (fun m _=>ab.au (ab.nil.loop M4 uE) m) (fun x=>by kernel_rfl)
noncomputable def NY (n:Nat) (l:List Int) (i:Int):Option (Int×Unit):=
 bif (aB (len l) i) then
 some (0,())
 else
 bif (aB 0 i) then
 Option.bind (l[(Int.toNat i)]?) fun x0=>
 Option.bind (Ic (n+1) x0) fun y1=>
 bif y1.1 then
 some (1,())
 else
 Option.bind (u6 n ([35,59,47,63,58,64,38,61,43,36,44,95,46,33,126,42,39,40,41,91,93]:List UInt8) x0) fun y2=>
 bif y2.1 then
 some (1,())
 else
 bif (x0==37) then
 bif (aO (IntKind.wrap .i64 (i+2)) (len l)) then
  bif (aB 0 (IntKind.wrap .i64 (i+1))) then
  Option.bind (l[(Int.toNat (IntKind.wrap .i64 (i+1)))]?) fun x3=>
  Option.bind (K6 (n+1) x3) fun y4=>
  bif (aB 0 y4.1) then
  bif (aB 0 (IntKind.wrap .i64 (i+2))) then
  Option.bind (l[(Int.toNat (IntKind.wrap .i64 (i+2)))]?) fun x5=>
  Option.bind (K6 (n+1) x5) fun y6=>
  bif (aB 0 y6.1) then
   some (3,())
  else
  some (0,())
  else none
  else
  some (0,())
  else none
 else
 some (0,())
 else
 some (0,())
 else none
noncomputable def IA:aT:=⟨49,[(false,(.bQ (.int .i64))),(false,(.int .i64))],[(false,(.int .i64))],2,fun n x=>NY n x.1 x.2.1⟩
theorem Pl (n:Nat):ao Tryz.prog hint aH IA n:=
 ao.of (hk:=fun β=>(aj.mk [Bn,zK,De] []).hk β) (sh:=aH) (fun m _=>ab.au (((ab.nil.fn N1).fn J4).fn Iq) m) (fun x=>by kernel_rfl)
noncomputable def oH:Tm:=⟨[],[],64,64,1000⟩
noncomputable def wM:Tm:=⟨[(2,.one (.bool))],[],64,64,1000⟩
noncomputable def H8:Tm:=⟨[(3,.one (.aC (.int .i64))),(5,.one (.int .i64))],[],64,64,1000⟩
noncomputable def wa:Nat→(List Int)→Int→Option ((Unit×Unit)⊕((Bool×Unit)×Unit))
 |0,_,_=>none
 |n+1,t3,t5=>
 bif (aO t5 (len t3)) then
  Option.bind (NY (n+1) t3 t5) fun y5=>
  bif (y5.1==0) then
  some (.inr ((false,()),()))
  else
  wa n t3 (IntKind.wrap .i64 (t5+y5.1))
 else
 some (.inl ((),()))
noncomputable def D5:aA:=⟨38,5,none,H8,[(.exit 0,oH),(.ret,wM)],3,fun n x=>wa n x.1.1 x.1.2.1,[]⟩
theorem sS:oH.ok Tryz.prog hint:=Tm.bF rfl
theorem xA:wM.ok Tryz.prog hint:=Tm.bF rfl
theorem u7:H8.ok Tryz.prog hint:=Tm.bF rfl
theorem Mw:∀ n,ai Tryz.prog hint aH D5 n:=
 ai.of (hk:=fun β=>(aj.mk [IA] []).hk β) (sh:=aH) (ay.of (by kernel_rfl)) u7 ⟨⟨sS,Nat.le_refl _,Nat.le_refl _⟩,⟨xA,Nat.le_refl _,Nat.le_refl _⟩,trivial⟩ (fun m=>ab.au (ab.nil.fn Pl) m)
  (fun _=>by kernel_rfl) (fun m x=>by kernel_rfl)
noncomputable def tZ (n:Nat) (tag:List UInt8):Option (Bool×Unit):=
 Option.bind (BW n tag) fun y0=>
 Option.bind (bif (!y0.2.1) then
  some true
 else
 some ((len y0.1)==0)) fun b2=>
 bif b2 then
 some (false,())
 else
 Option.bind (wa (n+1) y0.1 0) fun y6=>
 match y6 with
 | .inl _=>
  some (true,())
 | .inr y8=>
  some (y8.1.1,())
noncomputable def zn:aT:=⟨38,[(false,.str)],[(false,.bool)],4,fun n x=>tZ n x.1⟩
theorem Ku (n:Nat):ao Tryz.prog hint aH zn n:=
 ao.of (hk:=fun β=>(aj.mk [vm] [D5]).hk β) (sh:=aH) (fun m _=>ab.au ((ab.nil.fn C7).loop Mw u7) m) (fun x=>by kernel_rfl)
noncomputable def nq (n:Nat) (s:List UInt8):Option (Bool×Unit):=
 Option.bind (BW n s) fun y0=>
 Option.bind (bif y0.2.1 then
  some (aB (len s) 262144)
 else
 some false) fun b2=>
 some (b2,())
noncomputable def vq:aT:=⟨39,[(false,.str)],[(false,.bool)],4,fun n x=>nq n x.1⟩
theorem FW (n:Nat):ao Tryz.prog hint aH vq n:=
 ao.of (hk:=fun β=>(aj.mk [vm] []).hk β) (sh:=aH) (fun m _=>ab.au (ab.nil.fn C7) m) (fun x=>by kernel_rfl)
noncomputable def nw:Tm:=⟨[(2,.one (.fix (TV.ptr 64 0)))],[(64,.cells 31 [.int .i64,.str,.str,.aC (.int .i64),.bool] true)],65,65,1001⟩
noncomputable def wR:Tm:=⟨[(4,.one (.bool))],[(64,.cells 31 [.int .i64,.str,.str,.aC (.int .i64),.bool] true)],65,65,1001⟩
noncomputable def Iz:Tm:=⟨[(1,.one (.int .i64)),(2,.one (.fix (TV.ptr 64 0))),(5,.one (.int .i64))],[(64,.cells 31 [.int .i64,.str,.str,.aC (.int .i64),.bool] true)],65,65,1001⟩
noncomputable def yg:Nat→Int→Int→Int→(List UInt8)→(List UInt8)→(List Int)→Bool→Option (((Unit×Unit)×((Int×((List UInt8)×((List UInt8)×((List Int)×(Bool×Unit)))))×Unit))⊕((Bool×Unit)×((Int×((List UInt8)×((List UInt8)×((List Int)×(Bool×Unit)))))×Unit)))
 |0,_,_,_,_,_,_,_=>none
 |n+1,t1,t5,c64_0,c64_1,c64_2,c64_3,c64_4=>
 bif (aO t5 (len c64_3)) then
  Option.bind (bif (aB 0 t5) then
  Option.bind (c64_3[(Int.toNat t5)]?) fun x10=>
  bif (aO x10 0) then
   some true
  else
  bif (aB 0 t5) then
  Option.bind (c64_3[(Int.toNat t5)]?) fun x11=>
  some (aB t1 x11)
  else none
  else none) fun b12=>
  bif b12 then
  some (.inr ((false,()),((c64_0,(c64_1,(c64_2,(c64_3,(c64_4,()))))),())))
  else
  yg n t1 (IntKind.wrap .i64 (t5+1)) c64_0 c64_1 c64_2 c64_3 c64_4
 else
 some (.inl (((),()),((c64_0,(c64_1,(c64_2,(c64_3,(c64_4,()))))),())))
noncomputable def CZ:aA:=⟨26,4,none,Iz,[(.exit 0,nw),(.ret,wR)],0,fun n x=>yg n x.1.1 x.1.2.2.1 x.2.1.1 x.2.1.2.1 x.2.1.2.2.1 x.2.1.2.2.2.1 x.2.1.2.2.2.2.1,[]⟩
theorem sk:nw.ok Tryz.prog hint:=Tm.bF rfl
theorem xk:wR.ok Tryz.prog hint:=Tm.bF rfl
theorem uv:Iz.ok Tryz.prog hint:=Tm.bF rfl
theorem MO:∀ n,ai Tryz.prog hint aH CZ n:=
 ai.of (hk:=fun β=>(aj.mk [] []).hk β) (sh:=aH) (ay.of (by kernel_rfl)) uv ⟨⟨sk,Nat.le_refl _,Nat.le_refl _⟩,⟨xk,Nat.le_refl _,Nat.le_refl _⟩,trivial⟩ (fun m=>ab.au ab.nil m)
  (fun _=>by kernel_rfl) (fun m x=>by kernel_rfl)
noncomputable def EB (n:Nat) (x:(Int×(List UInt8×(List UInt8×(List Int×Bool))))) (m:Int):Option (Bool×Unit):=
 Option.bind (tZ n x.2.1) fun y0=>
 bif (!y0.1) then
 some (false,())
 else
 bif (x.2.1==([33]:List UInt8)) then
 some (false,())
 else
 bif (aO 1000 (len x.2.1)) then
 some (false,())
 else
 Option.bind (yg (n+5) m 0 x.1 x.2.1 x.2.2.1 x.2.2.2.1 x.2.2.2.2) fun y13=>
 match y13 with
 | .inl y14=>
  bif (y14.2.1.1==1) then
  bif ((len y14.2.1.2.2.2.1)==0) then
   Option.bind (nq n y14.2.1.2.2.1) fun y16=>
   some (y16.1,())
  else
  some (false,())
  else
  bif (y14.2.1.1==2) then
  Option.bind (bif (y14.2.1.2.2.1==([]:List UInt8)) then
   some (!y14.2.1.2.2.2.2.1)
   else
   some false) fun b18=>
  some (b18,())
  else
  bif (y14.2.1.1==3) then
  Option.bind (bif (y14.2.1.2.2.1==([]:List UInt8)) then
   bif (!y14.2.1.2.2.2.2.1) then
    some ((Int.tmod (len y14.2.1.2.2.2.1) 2)==0)
   else
   some false
   else
   some false) fun b20=>
  some (b20,())
  else
  some (false,())
 | .inr y15=>
  some (y15.1.1,())
noncomputable def Ec:aT:=⟨26,[(true,sN),(false,(.int .i64))],[(false,.bool)],5,fun n x=>EB n x.1 x.2.1⟩
theorem Md (n:Nat):ao Tryz.prog hint aH Ec n:=
 ao.of (hk:=fun β=>(aj.mk [vq,zn] [CZ]).hk β) (sh:=aH) (fun m _=>ab.au (((ab.nil.fn Ku).loop MO uv).fn FW) m) (fun x=>by kernel_rfl)
noncomputable def oD:Tm:=⟨[(1,.one (.fix (TV.ptr 64 0))),(3,.one (.int .i64))],[(64,.cells 25 [.aC sN,.aC (.int .i64)] true)],65,65,1001⟩
noncomputable def wx:Tm:=⟨[(2,.one (.bool))],[(64,.cells 25 [.aC sN,.aC (.int .i64)] true)],65,65,1001⟩
noncomputable def Ja:Tm:=⟨[(1,.one (.fix (TV.ptr 64 0))),(3,.one (.int .i64)),(4,.one (.int .i64)),(5,.one (.int .i64))],[(64,.cells 25 [.aC sN,.aC (.int .i64)] true)],65,65,1001⟩
noncomputable def zp:Nat→Int→Int→Int→qN→(List Int)→Option (((Unit×(Int×Unit))×((qN×((List Int)×Unit))×Unit))⊕((Bool×Unit)×((qN×((List Int)×Unit))×Unit)))
 |0,_,_,_,_,_=>none
 |n+1,t3,t4,t5,c64_0,c64_1=>
 bif (aO t5 t3) then
  bif (aB 0 t5) then
  Option.bind (c64_0[(Int.toNat t5)]?) fun x8=>
  bif (aO 20000 (IntKind.wrap .i64 (t4+(len x8.2.2.2.1)))) then
  some (.inr ((false,()),((c64_0,(c64_1,())),())))
  else
  bif (aB 0 t5) then
  Option.bind (c64_0[(Int.toNat t5)]?) fun x9=>
  Option.bind (EB (n+1) (x9.1,(x9.2.1,(x9.2.2.1,(x9.2.2.2.1,x9.2.2.2.2)))) t3) fun y10=>
  bif (!y10.1) then
  some (.inr ((false,()),((c64_0,(c64_1,())),())))
  else
  zp n t3 (IntKind.wrap .i64 (t4+(len x8.2.2.2.1))) (IntKind.wrap .i64 (t5+1)) c64_0 c64_1
  else none
  else none
 else
 some (.inl (((),(t3,())),((c64_0,(c64_1,())),())))
noncomputable def CX:aA:=⟨19,6,none,Ja,[(.exit 0,oD),(.ret,wx)],6,fun n x=>zp n x.1.2.1 x.1.2.2.1 x.1.2.2.2.1 x.2.1.1 x.2.1.2.1,[]⟩
theorem sj:oD.ok Tryz.prog hint:=Tm.bF rfl
theorem xG:wx.ok Tryz.prog hint:=Tm.bF rfl
theorem wG:Ja.ok Tryz.prog hint:=Tm.bF rfl
theorem NH:∀ n,ai Tryz.prog hint aH CX n:=
 ai.of (hk:=fun β=>(aj.mk [Ec] []).hk β) (sh:=aH) (ay.of (by kernel_rfl)) wG ⟨⟨sj,Nat.le_refl _,Nat.le_refl _⟩,⟨xG,Nat.le_refl _,Nat.le_refl _⟩,trivial⟩ (fun m=>ab.au (ab.nil.fn Md) m)
  (fun _=>by kernel_rfl) (fun m x=>by kernel_rfl)
noncomputable def lF:Tm:=⟨[],[(64,.cells 25 [.aC sN,.aC (.int .i64)] true)],65,65,2002⟩
noncomputable def rn:Tm:=⟨[(2,.one (.bool))],[(64,.cells 25 [.aC sN,.aC (.int .i64)] true)],65,65,2002⟩
noncomputable def Ee:Tm:=⟨[(1,.one (.fix (TV.ptr 64 0))),(3,.one (.int .i64)),(6,.one (.int .i64))],[(64,.cells 25 [.aC sN,.aC (.int .i64)] true)],65,65,2002⟩
noncomputable def qF:Nat→Int→Int→qN→(List Int)→Option ((Unit×((qN×((List Int)×Unit))×Unit))⊕((Bool×Unit)×((qN×((List Int)×Unit))×Unit)))
 |0,_,_,_,_=>none
 |n+1,t3,t6,c64_0,c64_1=>
 bif (aO t6 (len c64_1)) then
  Option.bind (bif (aB 0 t6) then
  Option.bind (c64_1[(Int.toNat t6)]?) fun x23=>
  bif (aO x23 0) then
   some true
  else
  bif (aB 0 t6) then
  Option.bind (c64_1[(Int.toNat t6)]?) fun x24=>
  some (aB t3 x24)
  else none
  else none) fun b25=>
  bif b25 then
  some (.inr ((false,()),((c64_0,(c64_1,())),())))
  else
  qF n t3 (IntKind.wrap .i64 (t6+1)) c64_0 c64_1
 else
 some (.inl ((),((c64_0,(c64_1,())),())))
noncomputable def yh:aA:=⟨19,12,none,Ee,[(.exit 2,lF),(.ret,rn)],0,fun n x=>qF n x.1.2.1 x.1.2.2.1 x.2.1.1 x.2.1.2.1,[]⟩
theorem qu:lF.ok Tryz.prog hint:=Tm.bF rfl
theorem tQ:rn.ok Tryz.prog hint:=Tm.bF rfl
theorem rz:Ee.ok Tryz.prog hint:=Tm.bF rfl
theorem Jp:∀ n,ai Tryz.prog hint aH yh n:=
 ai.of (hk:=fun β=>(aj.mk [] []).hk β) (sh:=aH) (ay.of (by kernel_rfl)) rz ⟨⟨qu,Nat.le_refl _,Nat.le_refl _⟩,⟨tQ,Nat.le_refl _,Nat.le_refl _⟩,trivial⟩ (fun m=>ab.au ab.nil m)
  (fun _=>by kernel_rfl) (fun m x=>by kernel_rfl)
noncomputable def wJ (n:Nat) (g:(List (Int×(List UInt8×(List UInt8×(List Int×Bool))))×List Int)):Option (Bool×Unit):=
 Option.bind (bif (aO 20000 (len g.1)) then
  some true
 else
 some (aO 20000 (len g.2))) fun b1=>
 bif b1 then
 some (false,())
 else
 Option.bind (zp n (len g.1) 0 0 g.1 g.2) fun y11=>
 match y11 with
 | .inl y12=>
  Option.bind (qF (n+6) y12.1.2.1 0 y12.2.1.1 y12.2.1.2.1) fun y26=>
  match y26 with
  | .inl _=>
   some (true,())
  | .inr y28=>
   some (y28.1.1,())
 | .inr y13=>
  some (y13.1.1,())
noncomputable def pP:aT:=⟨19,[(true,(.cons (.bQ sN) (.bQ (.int .i64))))],[(false,.bool)],6,fun n x=>wJ n x.1⟩
theorem yv (n:Nat):ao Tryz.prog hint aH pP n:=
 ao.of (hk:=fun β=>(aj.mk [] [yh,CX]).hk β) (sh:=aH) (fun m _=>ab.au ((ab.nil.loop NH wG).loop Jp rz) m) (fun x=>by kernel_rfl)
noncomputable def LA (n:Nat) (g:(List (Int×(List UInt8×(List UInt8×(List Int×Bool))))×List Int)) (root:Int):Option (Bool×Unit):=
 Option.bind (wJ n (g.1,g.2)) fun y0=>
 bif y0.1 then
 bif (aB 0 root) then
  some ((aO root (len g.1)),())
 else
 some (false,())
 else
 some (false,())
noncomputable def IK:aT:=⟨10,[(true,(.cons (.bQ sN) (.bQ (.int .i64)))),(false,(.int .i64))],[(false,.bool)],7,fun n x=>LA n x.1 x.2.1⟩
theorem Pv (n:Nat):ao Tryz.prog hint aH IK n:=
 ao.of (hk:=fun β=>(aj.mk [pP] []).hk β) (sh:=aH) (fun m _=>ab.au (ab.nil.fn yv) m) (fun x=>by kernel_rfl)
end Go.Proofs.YtnddpppljnjmcaaGreatDoor
